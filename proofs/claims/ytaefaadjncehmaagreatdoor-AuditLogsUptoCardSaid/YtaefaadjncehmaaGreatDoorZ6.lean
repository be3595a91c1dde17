/- Proved here: the law, on a machine over pure data, and what it needs, part 6. Conditions: none. -/
import Derived.Test.YtaefaadjncehmaaGreatDoorRows
import Derived.Test.YtaefaadjncehmaaGreatDoorCards
import Derived.Test.YtaefaadjncehmaaGreatDoorTie
import Derived.JoinedCond
import Derived.Test.YtaefaadjncehmaaGreatDoorZ5
set_option maxRecDepth 10000
set_option linter.unusedVariables false
set_option linter.unusedSimpArgs false
namespace Go.Proofs.YtaefaadjncehmaaGreatDoor.Vm
open Go Go.Proofs
def sv (l : List ByteArray) : List V := l.map V.str
theorem sv_len (l : List ByteArray) : (sv l).length = l.length := by simp [sv]
theorem sv_take (l : List ByteArray) (n : Nat) : (sv l).take n = sv (l.take n) := by simp [sv, List.map_take]
theorem sv_drop (l : List ByteArray) (n : Nat) : (sv l).drop n = sv (l.drop n) := by simp [sv, List.map_drop]
theorem sv_app (a b : List ByteArray) : sv (a ++ b) = sv a ++ sv b := by simp [sv]
def GrowT (st : St) (nx : Nat) (xs : List ByteArray) (v : V) : Prop := (xs = [] ∧ v = .list 0 [] 1) ∨ ∃ r, 8 ≤ r ∧ r < nx ∧ v = .list 9 (sv xs) r ∧ st r = some (.tok xs.length 9)
theorem curs_ok (ls : List Line) (r : Nat) (hl : ls.length < 1000000) : W (L.pl 211 [.list 49 (ls.map encL) r]) fun q => ∃ cs v, q = .ret v ∧ (∀ k, k ∈ cs ↔ ∃ l ∈ ls, l.cur = k) ∧ cs.length ≤ ls.length ∧ ((cs = [] ∧ v = .list 0 [] 1) ∨ v = .list 9 (sv cs) (8 + 9)) := by
  refine pl_w k211_eq ?_
  simp only [k211]
  repeat' (first | (simp -implicitDefEqProofs only [ze, zd, simprocAttr, List.length_map]) | (with_reducible refine wgd_cases ?_ ?_ <;> intro hb) | (with_reducible refine wcond_cases ?_ ?_ <;> intro hb) | (with_reducible refine qd_i (by kernel_rfl) ?_) | (with_reducible refine W_itn_cases ?_ ?_; omega))
  refine loop_w (fun n tm st nx => ∃ (i : Nat) (cs : List ByteArray) (v : V), n = ls.length - i ∧ i ≤ ls.length ∧ tm 4 = .i64 i ∧ tm 0 = .list 49 (ls.map encL) r ∧ tm 3 = v ∧ 8 ≤ nx ∧ GrowT st nx cs v ∧ cs.length ≤ i ∧ ∀ k, k ∈ cs ↔ ∃ l ∈ ls.take i, l.cur = k) ls.length ⟨0, [], _, by omega, by omega, ?_, ?_, rfl, by omega, .inl ⟨rfl, ?_⟩, by simp, by simp⟩ ?_
  · simp -implicitDefEqProofs only [ze, zd, simprocAttr]; try rfl
  · simp -implicitDefEqProofs only [ze, zd, simprocAttr]
  · simp -implicitDefEqProofs only [ze, zd, simprocAttr]
  rintro n tm st nx ⟨i, cs, v, hn, hi2, h4, h0, h3, hnx, hg, hlen, hmem⟩
  simp only [k211_l1]
  by_cases hlt : i < ls.length
  · obtain ⟨l, hl2⟩ := get_lt hlt
    have hd : decide ((i : Int) < (ls.length : Int)) = true := decide_eq_true (by omega)
    repeat' (first | (simp -implicitDefEqProofs only [ze, zd, simprocAttr, h4, h0, h3, hd, List.length_map]) | (with_reducible refine wgd_cases ?_ ?_ <;> intro hb) | (with_reducible refine wcond_cases ?_ ?_ <;> intro hb) | (with_reducible refine qd_i (by kernel_rfl) ?_) | (with_reducible refine W_itn_cases ?_ ?_; omega))
    refine loop_w (fun n2 tm2 st2 nx2 => ∃ j : Nat, n2 = cs.length - j ∧ j ≤ cs.length ∧ tm2 5 = .i64 j ∧ tm2 4 = .i64 i ∧ tm2 0 = .list 49 (ls.map encL) r ∧ tm2 3 = v ∧ 8 ≤ nx2 ∧ GrowT st2 nx2 cs v) cs.length ⟨0, by omega, by omega, ?_, ?_, ?_, ?_, by omega, ?_⟩ ?_
    · simp -implicitDefEqProofs only [ze, zd, simprocAttr]; try rfl
    · simp -implicitDefEqProofs only [ze, zd, simprocAttr, h4]
    · simp -implicitDefEqProofs only [ze, zd, simprocAttr, h0]
    · simp -implicitDefEqProofs only [ze, zd, simprocAttr, h3]
    · rcases hg with h | ⟨q, g1, g2, g3, g4⟩
      · exact .inl h
      · exact .inr ⟨q, g1, by omega, g3, g4⟩
    rintro n2 tm2 st2 nx2 ⟨j, hn2, hj2, g5, g4, g0, g3, gnx, hgg⟩
    simp only [k211_l0, k211_t0, k211_t1]
    have hins : (∀ k, k ∈ (cs.take j ++ [l.cur] ++ cs.drop j) ↔ ∃ l ∈ ls.take (i + 1), l.cur = k) := fun k => by
      rw [List.take_add_one, hl2]
      have : k ∈ (cs.take j ++ [l.cur] ++ cs.drop j) ↔ k ∈ cs ∨ k = l.cur := by
        conv => rhs; rw [← List.take_append_drop j cs]
        simp only [List.mem_append, List.mem_singleton]
        constructor
        · rintro ((h | h) | h)
          · exact .inl (.inl h)
          · exact .inr h
          · exact .inl (.inr h)
        · rintro ((h | h) | h)
          · exact .inl (.inl h)
          · exact .inr h
          · exact .inl (.inr h)
      rw [this, hmem k]
      simp only [Option.toList, List.mem_append, List.mem_singleton]
      constructor
      · rintro (⟨x, hx, rfl⟩ | rfl)
        · exact ⟨x, .inl hx, rfl⟩
        · exact ⟨l, .inr rfl, rfl⟩
      · rintro ⟨x, hx | rfl, rfl⟩
        · exact .inl ⟨x, hx, rfl⟩
        · exact .inr rfl
    have hlen2 : (cs.take j ++ [l.cur] ++ cs.drop j).length = cs.length + 1 := by
      simp only [List.length_append, List.length_take, List.length_drop, List.length_cons, List.length_nil]; omega
    rcases hgg with ⟨hcs, rfl⟩ | ⟨q, q8, qn, rfl, hst⟩
    · subst hcs
      have hj0 : j = 0 := by simpa using hj2
      subst hj0
      have d1 : decide (((0 : Nat) : Int) < ((0 : Nat) : Int)) = false := rfl
      repeat' (first | (simp -implicitDefEqProofs only [ze, zd, simprocAttr, g5, g4, g0, g3, hl2, d1, encL, List.length_map]) | (with_reducible refine wgd_cases ?_ ?_ <;> intro hb) | (with_reducible refine wcond_cases ?_ ?_ <;> intro hb) | (with_reducible refine qd_i (by kernel_rfl) ?_) | (with_reducible refine W_itn_cases ?_ ?_; omega))
      have hs : (nx2 = nx2 + 80) = False := eq_false (by omega)
      repeat' (first | (simp -implicitDefEqProofs only [ze, zd, simprocAttr, hs, g5, g3, g4, g0, hl2, encL]) | (with_reducible refine W_itn_cases ?_ ?_; omega))
      refine qd_i ?_ ?_
      · simp [recsOk, ordB, Rec.free, Rec.wr, disj, List.range, List.range.loop]; try decide
      · repeat' (first | (simp -implicitDefEqProofs only [ze, zd, simprocAttr, g4, g0, g5, g3]) | (with_reducible refine wgd_cases ?_ ?_ <;> intro hb) | (with_reducible refine wcond_cases ?_ ?_ <;> intro hb) | (with_reducible refine qd_i (by kernel_rfl) ?_) | (with_reducible refine W_itn_cases ?_ ?_; omega))
        exact ⟨ls.length - (i + 1), by omega, i + 1, [l.cur], _, rfl, by omega, up64 (by omega), rfl, .inr ⟨nx2 + 256, by omega, by omega, rfl, by simp [upd_at]⟩, by simp, fun k => by simpa using hins k⟩
    · have hsl := sv_len cs
      by_cases hjl : j < cs.length
      · obtain ⟨c, hc⟩ := get_lt hjl
        have hcv : (sv cs)[j]? = some (V.str c) := by simp [sv, hc]
        have d1 : decide ((j : Int) < (cs.length : Int)) = true := decide_eq_true (by omega)
        have d2 : decide ((j : Int) = (cs.length : Int)) = false := decide_eq_false (by omega)
        repeat' (first | (simp -implicitDefEqProofs only [ze, zd, simprocAttr, g5, g4, g0, g3, hl2, hcv, hsl, d1, d2, encL, List.length_map]) | (with_reducible refine wgd_cases ?_ ?_ <;> intro hb) | (with_reducible refine wcond_cases ?_ ?_ <;> intro hb) | (with_reducible refine qd_i (by kernel_rfl) ?_) | (with_reducible refine W_itn_cases ?_ ?_; omega))
        · refine ⟨cs.length - (j + 1), by omega, j + 1, rfl, by omega, up64 (by omega), .inr ⟨q, q8, by omega, rfl, hst⟩⟩
        · have hs : (nx2 = nx2 + 80) = False := eq_false (by omega)
          repeat' (first | (simp -implicitDefEqProofs only [ze, zd, simprocAttr, hs, g5, g3, g4, g0, hl2, encL, List.take_length, sv_take, sv_drop, sv_len, List.length_take, List.length_drop, List.length_append]) | (with_reducible refine W_itn_cases ?_ ?_; omega))
          refine qd_i ?_ ?_
          · simp [recsOk, ordB, Rec.free, Rec.wr, disj, List.range, List.range.loop]; try decide
          · repeat' (first | (simp -implicitDefEqProofs only [ze, zd, simprocAttr, g4, g0, g5, g3]) | (with_reducible refine wgd_cases ?_ ?_ <;> intro hb) | (with_reducible refine wcond_cases ?_ ?_ <;> intro hb) | (with_reducible refine qd_i (by kernel_rfl) ?_) | (with_reducible refine W_itn_cases ?_ ?_; omega))
            exact ⟨ls.length - (i + 1), by omega, i + 1, cs.take j ++ [l.cur] ++ cs.drop j, _, rfl, by omega, up64 (by omega), rfl, .inr ⟨nx2 + 256, by omega, by omega, by simp [sv_app, sv], by simp [upd_at]; omega⟩, by omega, hins⟩
        · have hceq : c = l.cur := by simpa using hb
          refine ⟨ls.length - (i + 1), by omega, i + 1, cs, _, rfl, by omega, up64 (by omega), rfl, .inr ⟨q, q8, by omega, rfl, hst⟩, by omega, fun k => ?_⟩
          rw [hmem k, List.take_add_one, hl2]
          have hcm : c ∈ cs := List.mem_of_getElem? hc
          constructor
          · rintro ⟨x, hx, rfl⟩
            exact ⟨x, List.mem_append.2 (.inl hx), rfl⟩
          · rintro ⟨x, hx, rfl⟩
            rcases List.mem_append.1 hx with hx | hx
            · exact ⟨x, hx, rfl⟩
            · have : x = l := by simpa using hx
              subst this
              rw [← hceq]
              exact (hmem c).1 hcm
      · have d1 : decide ((j : Int) < (cs.length : Int)) = false := decide_eq_false (by omega)
        have d2 : decide ((j : Int) = (cs.length : Int)) = true := decide_eq_true (by omega)
        repeat' (first | (simp -implicitDefEqProofs only [ze, zd, simprocAttr, g5, g4, g0, g3, hl2, hsl, d1, d2, encL, List.length_map]) | (with_reducible refine wgd_cases ?_ ?_ <;> intro hb) | (with_reducible refine wcond_cases ?_ ?_ <;> intro hb) | (with_reducible refine qd_i (by kernel_rfl) ?_) | (with_reducible refine W_itn_cases ?_ ?_; omega))
        have hs : (nx2 = nx2 + 80) = False := eq_false (by omega)
        repeat' (first | (simp -implicitDefEqProofs only [ze, zd, simprocAttr, hs, g5, g3, g4, g0, hl2, encL, List.take_length, sv_take, sv_drop, sv_len, List.length_take, List.length_drop, List.length_append]) | (with_reducible refine W_itn_cases ?_ ?_; omega))
        refine qd_i ?_ ?_
        · simp [recsOk, ordB, Rec.free, Rec.wr, disj, List.range, List.range.loop]; try decide
        · repeat' (first | (simp -implicitDefEqProofs only [ze, zd, simprocAttr, g4, g0, g5, g3]) | (with_reducible refine wgd_cases ?_ ?_ <;> intro hb) | (with_reducible refine wcond_cases ?_ ?_ <;> intro hb) | (with_reducible refine qd_i (by kernel_rfl) ?_) | (with_reducible refine W_itn_cases ?_ ?_; omega))
          exact ⟨ls.length - (i + 1), by omega, i + 1, cs.take j ++ [l.cur] ++ cs.drop j, _, rfl, by omega, up64 (by omega), rfl, .inr ⟨nx2 + 256, by omega, by omega, by simp [sv_app, sv], by simp [upd_at]; omega⟩, by omega, hins⟩
  · have hd : decide ((i : Int) < (ls.length : Int)) = false := decide_eq_false (by omega)
    have hie : i = ls.length := by omega
    rw [hie, List.take_length] at hmem
    rcases hg with ⟨hcs, rfl⟩ | ⟨q, q8, qn, rfl, hst⟩
    · repeat' (first | (simp -implicitDefEqProofs only [ze, zd, simprocAttr, h4, h0, h3, hd, List.length_map, k211_t2]) | (with_reducible refine wgd_cases ?_ ?_ <;> intro hb) | (with_reducible refine wcond_cases ?_ ?_ <;> intro hb) | (with_reducible refine qd_i (by kernel_rfl) ?_) | (with_reducible refine W_itn_cases ?_ ?_; omega))
      exact ⟨cs, _, rfl, hmem, by omega, .inl ⟨hcs, rfl⟩⟩
    · have q0 : (q = 1) = False := eq_false (by omega)
      have q1 : (q < 8) = False := eq_false (by omega)
      repeat' (first | (simp -implicitDefEqProofs only [ze, zd, simprocAttr, h4, h0, h3, hd, hst, q0, q1, sv_len, List.length_map, k211_t2]) | (with_reducible refine wgd_cases ?_ ?_ <;> intro hb) | (with_reducible refine wcond_cases ?_ ?_ <;> intro hb) | (with_reducible refine qd_i (by kernel_rfl) ?_) | (with_reducible refine W_itn_cases ?_ ?_; omega))
      exact ⟨cs, _, rfl, hmem, by omega, .inr rfl⟩
end Go.Proofs.YtaefaadjncehmaaGreatDoor.Vm
set_option maxRecDepth 10000
set_option linter.unusedVariables false
set_option linter.unusedSimpArgs false
namespace Go.Proofs.YtaefaadjncehmaaGreatDoor.Vm
open Go Go.Proofs
theorem okAt_iff (ls : List Line) (k : ByteArray) : okAt ls k = (inI64 (selA ls k).sum && inI64 (selB ls k).sum && decide ((selA ls k).sum = 0) && decide ((selB ls k).sum = 0)) := by
  unfold okAt sumOk
  have h : ∀ x : Int, within x 0 = decide (x = 0) := fun x => by
    unfold within
    by_cases hx : x = 0
    · subst hx; rfl
    · rw [decide_eq_false hx]
      simp only [Bool.and_eq_false_iff, decide_eq_false_iff_not]
      omega
  rw [h, h]
  cases inI64 (selA ls k).sum <;> cases inI64 (selB ls k).sum <;> simp
theorem rbalanced_ok (ls : List Line) (r : Nat) (ha : amts ls) (hl : ls.length < 1000000) : L.pl 161 [.list 49 (ls.map encL) r] = some (.ret (.bool (balS ls))) := by
  refine W_of (pl_w k161_eq ?_)
  simp only [k161]
  obtain ⟨_, hcur, cs, v, rfl, hmem, hlen, hv⟩ := curs_ok ls (if r = 1 then 1 else 0) hl
  have hbal : balS ls = cs.all (okAt ls) := by
    unfold balS
    rw [Bool.eq_iff_iff, List.all_eq_true, List.all_eq_true]
    constructor
    · intro h k hk
      obtain ⟨l, hl2, rfl⟩ := (hmem k).1 hk
      exact h l hl2
    · intro h l hl2
      exact h _ ((hmem _).2 ⟨l, hl2, rfl⟩)
  have hsum := fun (k : ByteArray) (hk : k ∈ cs) (r : Nat) => rsums_ok ls r k ha hl ((hmem k).1 hk)
  rw [hbal]
  have main : ∀ (v' : V), (cs = [] ∧ v' = .list 0 [] 1) ∨ (∃ q, v' = .list 9 (sv cs) q) → ∀ (tm : Nat → V) (st : St) (nx : Nat), tm 4 = .i64 0 → tm 3 = v' → tm 0 = .list 49 (ls.map encL) r →
      wc Tryz.prog L (.loop k161_l0) (cblk 0 (cseq Tryz.prog L k161_t0 (RQ [.t 2] (PQ fun q => q = .ret (.bool (cs.all (okAt ls))))))) ⟨tm, st, nx⟩ := fun v' hv' tm st nx h4 h3 h0 => by
    refine loop_w (fun n tm st nx => ∃ i : Nat, n = cs.length - i ∧ i ≤ cs.length ∧ tm 4 = .i64 i ∧ tm 3 = v' ∧ tm 0 = .list 49 (ls.map encL) r ∧ ∀ j, j < i → ∀ k, cs[j]? = some k → okAt ls k = true) cs.length ⟨0, by omega, by omega, h4, h3, h0, by omega⟩ ?_
    rintro n tm st nx ⟨i, hn, hi2, g4, g3, g0, hp⟩
    simp only [k161_l0]
    by_cases hlt : i < cs.length
    · rcases hv' with ⟨h, _⟩ | ⟨q, rfl⟩
      · rw [h] at hlt; simp at hlt
      obtain ⟨c, hc⟩ := get_lt hlt
      have hcv : (sv cs)[i]? = some (V.str c) := by simp [sv, hc]
      have hd : decide ((i : Int) < (cs.length : Int)) = true := decide_eq_true (by omega)
      have hs := hsum c (List.mem_of_getElem? hc)
      have hok := okAt_iff ls c
      generalize inI64 (selA ls c).sum = bA at hs hok
      generalize inI64 (selB ls c).sum = bB at hs hok
      have hno : okAt ls c = false → cs.all (okAt ls) = false := fun h => by
        rw [List.all_eq_false]; exact ⟨c, List.mem_of_getElem? hc, by simp [h]⟩
      have hyes : okAt ls c = true → ∃ m, m < n ∧ ∃ i' : Nat, m = cs.length - i' ∧ i' ≤ cs.length ∧ V.sc (.int .i64 (IntKind.i64.wrap (i + 1))) = .i64 i' ∧ ∀ j, j < i' → ∀ k, cs[j]? = some k → okAt ls k = true := fun h => by
        refine ⟨cs.length - (i + 1), by omega, i + 1, rfl, by omega, up64 (by omega), fun j hj k hk => ?_⟩
        rcases Nat.lt_succ_iff_lt_or_eq.mp hj with h2 | rfl
        · exact hp j h2 k hk
        · rw [hc] at hk; obtain rfl := Option.some.inj hk; exact h
      cases bA <;> cases bB <;> simp only [Bool.false_and, Bool.and_false, Bool.true_and] at hok hs
      all_goals repeat' (first | (simp -implicitDefEqProofs only [ze, zd, simprocAttr, g4, g3, g0, hd, hcv, hs, sv_len]) | (with_reducible refine wgd_cases ?_ ?_ <;> intro hb) | (with_reducible refine wcond_cases ?_ ?_ <;> intro hb) | (with_reducible refine qd_i (by kernel_rfl) ?_) | (with_reducible refine W_itn_cases ?_ ?_; omega))
      all_goals first
        | exact ret_b (hno (by rw [hok] <;> simp_all)).symm
        | exact hyes (by rw [hok] <;> simp_all)
    · have hd : decide ((i : Int) < (cs.length : Int)) = false := decide_eq_false (by omega)
      have hall : cs.all (okAt ls) = true := by
        rw [List.all_eq_true]
        intro k hk
        obtain ⟨j, hj, rfl⟩ := List.getElem_of_mem hk
        exact hp j (by omega) _ (List.getElem?_eq_getElem hj)
      rcases hv' with ⟨h, rfl⟩ | ⟨q, rfl⟩
      · have hd2 : decide ((i : Int) < 0) = false := decide_eq_false (by omega)
        repeat' (first | (simp -implicitDefEqProofs only [ze, zd, simprocAttr, g4, g3, g0, hd2, k161_t0, hall]) | (with_reducible refine wgd_cases ?_ ?_ <;> intro hb) | (with_reducible refine wcond_cases ?_ ?_ <;> intro hb) | (with_reducible refine qd_i (by kernel_rfl) ?_) | (with_reducible refine W_itn_cases ?_ ?_; omega))
      · repeat' (first | (simp -implicitDefEqProofs only [ze, zd, simprocAttr, g4, g3, g0, hd, sv_len, k161_t0, hall]) | (with_reducible refine wgd_cases ?_ ?_ <;> intro hb) | (with_reducible refine wcond_cases ?_ ?_ <;> intro hb) | (with_reducible refine qd_i (by kernel_rfl) ?_) | (with_reducible refine W_itn_cases ?_ ?_; omega))
  rcases hv with ⟨hc0, rfl⟩ | rfl
  · repeat' (first | (simp -implicitDefEqProofs only [ze, zd, simprocAttr, hcur]) | (with_reducible refine wgd_cases ?_ ?_ <;> intro hb) | (with_reducible refine wcond_cases ?_ ?_ <;> intro hb) | (with_reducible refine qd_i (by kernel_rfl) ?_) | (with_reducible refine W_itn_cases ?_ ?_; omega))
    exact main _ (.inl ⟨hc0, rfl⟩) _ _ _ (by simp -implicitDefEqProofs only [ze, zd, simprocAttr]) (by simp -implicitDefEqProofs only [ze, zd, simprocAttr]) (by simp -implicitDefEqProofs only [ze, zd, simprocAttr])
  · repeat' (first | (simp -implicitDefEqProofs only [ze, zd, simprocAttr, hcur]) | (with_reducible refine wgd_cases ?_ ?_ <;> intro hb) | (with_reducible refine wcond_cases ?_ ?_ <;> intro hb) | (with_reducible refine qd_i (by kernel_rfl) ?_) | (with_reducible refine W_itn_cases ?_ ?_; omega))
    exact main (.list 9 (sv cs) 24) (.inr ⟨24, rfl⟩) _ _ _ (by simp -implicitDefEqProofs only [ze, zd, simprocAttr]) (by simp -implicitDefEqProofs only [ze, zd, simprocAttr]) (by simp -implicitDefEqProofs only [ze, zd, simprocAttr])
theorem rcheck_ok (e : Entry) (hs : smallE e) (ha : amts e.lines) : L.pl 104 [encE e] = some (.ret (.tup [.i64 (checkS e).1, .i64 (checkS e).2])) := by
  have hh := rhead_ok e hs
  simp only [encE] at hh
  refine W_of (pl_w k104_eq ?_)
  simp only [k104, encE]
  by_cases h0 : headS e = 0
  · have hd0 : decide (headS e = 0) = true := decide_eq_true h0
    have hlen : e.lines.length ≤ 100 := by
      unfold headS at h0
      repeat' (split at h0 <;> first | omega | skip)
    have hlr : e.lr = false := by
      cases h : e.lr
      · rfl
      · have h1 := hs.nil h
        unfold headS at h0
        rw [h1] at h0
        repeat' (split at h0 <;> first | omega | skip)
        all_goals simp_all
    rw [hlr] at hh ⊢
    simp only [te_f] at hh ⊢
    have hbl := rbalanced_ok e.lines (nr false) ha (by omega)
    repeat' (first | (simp -implicitDefEqProofs only [ze, zd, simprocAttr, hh, nr_pur, h0, List.length_map]) | (with_reducible refine wgd_cases ?_ ?_ <;> intro hb) | (with_reducible refine wcond_cases ?_ ?_ <;> intro hb) | (with_reducible refine qd_i (by kernel_rfl) ?_) | (with_reducible refine W_itn_cases ?_ ?_; omega))
    refine loop_w (fun n tm st nx => ∃ i : Nat, n = e.lines.length - i ∧ i ≤ e.lines.length ∧ tm 5 = .i64 i ∧ tm 1 = .ptr 8 0 ∧ 9 ≤ nx ∧ st 8 = some (.cells [.i64 e.no, .str e.ent, .i64 e.book, .i64 e.val, .i64 e.kind, .str e.ref, .str e.who, .i64 e.rev, .list 49 (e.lines.map encL) (nr false)]) ∧
      ∀ j, j < i → ∀ x, e.lines[j]? = some x → lineS x = 0) e.lines.length ⟨0, by omega, by omega, ?_, ?_, by omega, ?_, by omega⟩ ?_
    · simp -implicitDefEqProofs only [ze, zd, simprocAttr]; try rfl
    · simp -implicitDefEqProofs only [ze, zd, simprocAttr]
    · simp -implicitDefEqProofs only [ze, zd, simprocAttr]
    rintro n tm st nx ⟨i, hn, hi2, h5, h1, hnx, hst, hp⟩
    simp only [k104_l0]
    have hnx8 : ∀ j, (8 = nx + j) = False := fun j => eq_false (by omega)
    by_cases hlt : i < e.lines.length
    · obtain ⟨l, hl⟩ := get_lt hlt
      have hd : decide ((i : Int) < (e.lines.length : Int)) = true := decide_eq_true (by omega)
      have hli := rline_ok l (hs.lines l (List.mem_of_getElem? hl))
      simp only [encL] at hli
      by_cases hz : lineS l = 0
      · have hdz : decide (lineS l = 0) = true := decide_eq_true hz
        repeat' (first | (simp -implicitDefEqProofs only [ze, zd, simprocAttr, h5, h1, hd, hl, encL, nr_pur, hli, hdz, hnx8, hst, List.length_map]) | (with_reducible refine wgd_cases ?_ ?_ <;> intro hb) | (with_reducible refine wcond_cases ?_ ?_ <;> intro hb) | (with_reducible refine qd_i (by kernel_rfl) ?_) | (with_reducible refine W_itn_cases ?_ ?_; omega))
        refine ⟨e.lines.length - (i + 1), by omega, i + 1, rfl, by omega, up64 (by omega), fun j hj x hx => ?_⟩
        rcases Nat.lt_succ_iff_lt_or_eq.mp hj with h | rfl
        · exact hp j h x hx
        · rw [hl] at hx; obtain rfl := Option.some.inj hx; exact hz
      · have hdz : decide (lineS l = 0) = false := decide_eq_false hz
        repeat' (first | (simp -implicitDefEqProofs only [ze, zd, simprocAttr, h5, h1, hd, hl, encL, nr_pur, hli, hdz, hnx8, hst, List.length_map]) | (with_reducible refine wgd_cases ?_ ?_ <;> intro hb) | (with_reducible refine wcond_cases ?_ ?_ <;> intro hb) | (with_reducible refine qd_i (by kernel_rfl) ?_) | (with_reducible refine W_itn_cases ?_ ?_; omega))
        have hfs := first_some e.lines 0 i l (fun j hj y hy => hp j hj y hy) hl hz
        rw [Nat.zero_add] at hfs
        simp only [checkS, h0, if_true, hfs]
    · have hd : decide ((i : Int) < (e.lines.length : Int)) = false := decide_eq_false (by omega)
      have hfn := first_none e.lines 0 fun j hj x hx => hp j (by omega) x hx
      repeat' (first | (simp -implicitDefEqProofs only [ze, zd, simprocAttr, h5, h1, hd, hst, hbl, nr_pur, List.length_map, k104_t0]) | (with_reducible refine wgd_cases ?_ ?_ <;> intro hb) | (with_reducible refine wcond_cases ?_ ?_ <;> intro hb) | (with_reducible refine qd_i (by kernel_rfl) ?_) | (with_reducible refine W_itn_cases ?_ ?_; omega))
      all_goals simp_all [checkS]
  · have hd0 : decide (headS e = 0) = false := decide_eq_false h0
    repeat' (first | (simp -implicitDefEqProofs only [ze, zd, simprocAttr, hh, nr_pur, hd0]) | (with_reducible refine wgd_cases ?_ ?_ <;> intro hb) | (with_reducible refine wcond_cases ?_ ?_ <;> intro hb) | (with_reducible refine qd_i (by kernel_rfl) ?_) | (with_reducible refine W_itn_cases ?_ ?_; omega))
    all_goals simp_all [checkS]
end Go.Proofs.YtaefaadjncehmaaGreatDoor.Vm
set_option maxRecDepth 10000
set_option linter.unusedVariables false
set_option linter.unusedSimpArgs false
namespace Go.Proofs.YtaefaadjncehmaaGreatDoor.Vm
open Go Go.Proofs
def start : Int := 14695981039346656037
theorem start_r : u64r start := ⟨by decide, by decide⟩
def sumE : Int → List Entry → Int
  | s, [] => s
  | s, x :: xs => sumE (nextI s (entryB x)) xs
structure goodE (e : Entry) : Prop where
  sm : smallE e
  rg : rangeE e
  ck : (checkS e).2 = 0
theorem goodE.plain {e : Entry} (h : goodE e) : plainE e := check_plain h.ck h.rg h.sm.nils
theorem enc_get (es : List Entry) (i : Nat) : (es.map encE)[i]? = (es[i]?).map encE := by simp
theorem rstart_ok : L.pl 53 [] = some (.ret (.sc (.int .u64 start))) := by
  refine W_of (pl_w k53_eq ?_)
  simp only [k53]
  repeat' (first | (simp -implicitDefEqProofs only [ze, zd, simprocAttr]) | (with_reducible refine wgd_cases ?_ ?_ <;> intro hb) | (with_reducible refine wcond_cases ?_ ?_ <;> intro hb) | (with_reducible refine qd_i (by kernel_rfl) ?_) | (with_reducible refine W_itn_cases ?_ ?_; omega))
  rfl
end Go.Proofs.YtaefaadjncehmaaGreatDoor.Vm
set_option maxRecDepth 10000
set_option linter.unusedVariables false
set_option linter.unusedSimpArgs false
namespace Go.Proofs.YtaefaadjncehmaaGreatDoor.Vm
open Go Go.Proofs
def LG (st : St) (nx id : Nat) (out : List Int) (s : Int) (es : List Entry) : Prop := ∃ w, LogW st nx id out s w ∧ Grow st nx 46 (es.map encE) w
theorem growU {st : St} {nx nx' e j : Nat} {xs : List V} {v : V} (h : Grow st nx e xs v) (hj : nx ≤ j) (hn : nx ≤ nx') (o : Option Ob) : Grow (upd st j o) nx' e xs v := by
  rcases h with h | ⟨r, h1, h2, h3, h4⟩
  · exact .inl h
  · exact .inr ⟨r, h1, by omega, h3, by rw [upd_at, if_neg (by omega)]; exact h4⟩
theorem growLe {st : St} {nx nx' e : Nat} {xs : List V} {v : V} (h : Grow st nx e xs v) (hn : nx ≤ nx') : Grow st nx' e xs v := by
  rcases h with h | ⟨r, h1, h2, h3, h4⟩
  · exact .inl h
  · exact .inr ⟨r, h1, by omega, h3, h4⟩
theorem lgU {st : St} {nx nx' id j : Nat} {out : List Int} {s : Int} {es : List Entry} (h : LG st nx id out s es) (hj : nx ≤ j) (hn : nx ≤ nx') (o : Option Ob) : LG (upd st j o) nx' id out s es := by
  obtain ⟨w, ⟨h1, v, h2, h3⟩, h4⟩ := h
  exact ⟨w, ⟨by omega, v, by rw [upd_at, if_neg (by omega)]; exact h2, growU h3 hj hn o⟩, growU h4 hj hn o⟩
theorem lgLe {st : St} {nx nx' id : Nat} {out : List Int} {s : Int} {es : List Entry} (h : LG st nx id out s es) (hn : nx ≤ nx') : LG st nx' id out s es := by
  obtain ⟨w, ⟨h1, v, h2, h3⟩, h4⟩ := h
  exact ⟨w, ⟨by omega, v, h2, growLe h3 hn⟩, growLe h4 hn⟩
theorem keepU {st : St} {nx id j : Nat} (hj : nx ≤ j) (o : Option Ob) : KeepO st (upd st j o) nx id := fun i h1 h2 h3 => by rw [upd_at, if_neg (by omega)]
theorem keepRefl (st : St) (nx id : Nat) : KeepO st st nx id := fun i h1 h2 h3 => rfl
theorem keepTrans {st st' st'' : St} {nx nx' id : Nat} (h : KeepO st st' nx id) (k : KeepO st' st'' nx' id) (hn : nx ≤ nx') : KeepO st st'' nx id := fun i h1 h2 h3 => by
  have e := h i h1 h2 h3
  rw [← e]
  exact k i (by omega) h2 (fun n e' => by rw [e]; exact h3 n e')
theorem growN {st : St} {nx e j : Nat} {xs : List V} {v : V} (h : Grow st nx e xs v) (hj : ∀ n, st j ≠ some (.tok n e)) (o : Option Ob) : Grow (upd st j o) nx e xs v := by
  rcases h with h | ⟨r, h1, h2, h3, h4⟩
  · exact .inl h
  · exact .inr ⟨r, h1, h2, h3, by rw [upd_at, if_neg (fun e => hj _ (e ▸ h4))]; exact h4⟩
theorem kqU {st : St} {nx id j : Nat} (hid : id < nx) (hj : nx ≤ j) (o : Option Ob) : KQ st (upd st j o) nx id := by
  refine ⟨fun k h1 h2 h3 => by rw [upd_at, if_neg (by omega)], fun k hk => ?_⟩
  have e : toksAt (upd st j o) id = toksAt st id := by unfold toksAt; rw [upd_at, if_neg (by omega)]
  rw [e] at hk; exact .inl hk
theorem kqTrans {st st' st'' : St} {nx nx' id : Nat} (h : KQ st st' nx id) (k : KQ st' st'' nx' id) (hn : nx ≤ nx') : KQ st st'' nx id := by
  refine ⟨fun i h1 h2 h3 => ?_, fun i hi => ?_⟩
  · rw [k.1 i (by omega) h2 (fun hm => (h.2 i hm).elim h3 (by omega)), h.1 i h1 h2 h3]
  · rcases k.2 i hi with q | q
    · exact h.2 i q
    · exact .inr (by omega)
end Go.Proofs.YtaefaadjncehmaaGreatDoor.Vm
set_option maxRecDepth 10000
set_option linter.unusedVariables false
set_option linter.unusedSimpArgs false
namespace Go.Proofs.YtaefaadjncehmaaGreatDoor.Vm
open Go Go.Proofs
def stepS (s : Int) (n : Nat) (bs : List Int) : Int × Int :=
  if (frameS bs).2.2 = 0 then
    if sumB (nextI s (frameS bs).1) = (frameS bs).2.1 then
      if (takeS (frameS bs).1).2.2 = 0 ∧ (takeS (frameS bs).1).2.1 = ((frameS bs).1.length : Int) then
        if (takeS (frameS bs).1).1.no = (n : Int) + 1 then (((frameS bs).1.length : Int) + 16, 0) else (0, 17)
      else (0, 5)
    else (0, 23)
  else (0, (frameS bs).2.2)
theorem frameS_b (bs : List Int) (hb : bOK bs) : bOK (frameS bs).1 ∧ bOK (frameS bs).2.1 := by
  have h0 : bOK [] := fun b hb => by cases hb
  unfold frameS
  split
  · exact ⟨h0, h0⟩
  · split
    · split
      · exact ⟨h0, h0⟩
      · exact ⟨bOK_take (bOK_drop hb 8) _, bOK_take (bOK_drop (bOK_drop hb 8) _) _⟩
    · exact ⟨h0, h0⟩
theorem sumB_inR (s : Int) (h : u64r s) : inR (sumB s) := by
  intro b hb
  unfold u64r at h
  simp only [sumB, List.mem_cons, List.not_mem_nil, or_false] at hb
  omega
theorem step1_ok {st : St} {nx id : Nat} {out : List Int} {s : Int} {es : List Entry} (h : LG st nx id out s es) (bs : List Int) (hb : bOK bs) (hs : u64r s) (hl : out.length ≤ 100000000000) (hlb : bs.length < 1000000000) (he : es.length ≤ 100000000) (r : Nat) :
    W (L.hp 57 [.ptr id 0, .list 5 (bv bs) r] st nx) fun q => ∃ st' nx', q = .ret (.tup [.i64 (stepS s es.length bs).1, .i64 (stepS s es.length bs).2]) st' nx' ∧ nx ≤ nx' ∧ KeepO st st' nx id ∧ KQ st st' nx id ∧
      (((stepS s es.length bs).2 = 0 ∧ LG st' nx' id (out ++ frameB (frameS bs).1 (nextI s (frameS bs).1)) (nextI s (frameS bs).1) (es ++ [(takeS (frameS bs).1).1])) ∨ (¬ (stepS s es.length bs).2 = 0 ∧ LG st' nx' id out s es)) := by
  refine hp_w k57_eq ?_
  simp only [k57]
  by_cases h8 : bs.length < 8
  · have hf := frame_short bs h8 (if r = 1 then 1 else 0)
    have hfs : frameS bs = ([], [], 6) := by unfold frameS; rw [if_pos h8]
    have hst : stepS s es.length bs = (0, 6) := by unfold stepS; rw [hfs]; rfl
    have hz : decide ((6 : Int) = 0) = false := rfl
    repeat' (first | (simp -implicitDefEqProofs only [ze, zd, simprocAttr, hf, hz]) | (with_reducible refine wgd_cases ?_ ?_ <;> intro hb) | (with_reducible refine wcond_cases ?_ ?_ <;> intro hb) | (with_reducible refine qd_i (by kernel_rfl) ?_) | (with_reducible refine W_itn_cases ?_ ?_; omega))
    exact ⟨_, _, by rw [hst], by omega, keepRefl _ _ _, ⟨fun _ _ _ _ => rfl, fun _ q => .inl q⟩, .inr ⟨by rw [hst]; decide, lgLe h (by omega)⟩⟩
  · obtain ⟨_, hq, t1, t2, r1, r2, rfl, ht, hr1, hr2⟩ := frame_long bs hb h8 hlb (if r = 1 then 1 else 0)
    obtain ⟨p, sm, e, hfs⟩ : ∃ p sm e, frameS bs = (p, sm, e) := ⟨_, _, _, rfl⟩
    simp only [hfs] at hq ht ⊢
    have k1 : (8 ≤ r1) = False := eq_false (by omega)
    have k2 : (8 ≤ r2) = False := eq_false (by omega)
    by_cases he0 : e = 0
    · obtain ⟨rfl, rfl⟩ := ht he0
      subst he0
      obtain ⟨w, ⟨hid, v, hv, hg⟩, hw⟩ := h
      have hp1 : p = [] ∨ p = (bs.drop 8).take (rdB bs).toNat := by
        unfold frameS at hfs
        split at hfs
        · left; injection hfs with a _; exact a.symm
        · split at hfs
          · split at hfs
            · left; injection hfs with a _; exact a.symm
            · right; injection hfs with a _; exact a.symm
          · left; injection hfs with a _; exact a.symm
      have hpb : bOK p := by
        rcases hp1 with h | h
        · rw [h]; intro b hb; cases hb
        · rw [h]; exact bOK_take (bOK_drop hb 8) _
      have hpl : p.length < 1000000000 := by
        rcases hp1 with h | h
        · rw [h]; decide
        · rw [h, List.length_take, List.length_drop]; omega
      have hN := cnext_ok p hpb (by omega) (if r1 = 1 then 1 else 0) s
      have hr' := nextI_r s p hs
      have hB := cbytes_ok (nextI s p) hr'.1 hr'.2
      have hz : decide ((0 : Int) = 0) = true := rfl
      have hne : ∀ j, (id = nx + j) = False := fun j => eq_false (by omega)
      have hne' : ∀ j, (nx + j = id) = False := fun j => eq_false (by omega)
      repeat' (first | (simp -implicitDefEqProofs only [ze, zd, simprocAttr, hq, hz, hv, hN, hB, bytesOfV_bv, hne, hne', nxj, bv_len, k1, k2]) | (with_reducible refine W_itn_cases ?_ ?_; omega))
      refine qd_i (by kernel_rfl) ?_
      obtain ⟨x, used, e2, hT⟩ : ∃ x used e2, takeS p = (x, used, e2) := ⟨_, _, _, rfl⟩
      have hT' := take_ok p hpb (by omega) (if r1 = 1 then 1 else 0)
      simp only [hT, encE] at hT'
      have hsmb : bOK sm := by
        have := (frameS_b bs hb).2
        rw [hfs] at this; exact this
      by_cases hsm : sumB (nextI s p) = sm
      · subst hsm
        have hds : decide (({ data := (List.map (fun n => UInt8.ofNat n.toNat) (sumB (nextI s p))).toArray } : ByteArray) = { data := (List.map (fun n => UInt8.ofNat n.toNat) (sumB (nextI s p))).toArray }) = true := decide_eq_true rfl
        by_cases h5 : e2 = 0 ∧ used = (p.length : Int)
        · obtain ⟨rfl, rfl⟩ := h5
          have hdu : decide ((p.length : Int) = (p.length : Int)) = true := decide_eq_true rfl
          have hw8 : IntKind.i64.wrap ((es.length : Int) + 1) = (es.length : Int) + 1 := wrap_i64 (by omega) (by omega)
          have hwl : w = .list 0 [] 1 ∧ es = [] ∨ ∃ r, w = .list 46 (es.map encE) r := by
            rcases hw with ⟨a, b⟩ | ⟨r, _, _, a, _⟩
            · exact .inl ⟨b, by simpa using a⟩
            · exact .inr ⟨r, a⟩
          obtain ⟨we, wr, rfl⟩ : ∃ we wr, w = .list we (es.map encE) wr := by
            rcases hwl with ⟨rfl, rfl⟩ | ⟨r, rfl⟩
            · exact ⟨0, 1, rfl⟩
            · exact ⟨_, r, rfl⟩
          have hn1 : (id = nx) = False := eq_false (by omega)
          have hn2 : (nx = id) = False := eq_false (by omega)
          by_cases h2 : x.no = (es.length : Int) + 1
          · have hd2 : decide (x.no = (es.length : Int) + 1) = true := decide_eq_true h2
            repeat' (first | (simp -implicitDefEqProofs only [ze, zd, simprocAttr, hT', hq, hz, hv, hN, hB, hds, hdu, hd2, hw8, bytesOfV_bv, hne, hne', nxj, bv_len, k1, k2, nr_pur, hn1, hn2, List.length_map]) | (with_reducible refine W_itn_cases ?_ ?_; omega))
            refine qd_i ?_ ?_
            · simp [recsOk, ordB, Rec.free, Rec.wr, disj, List.range, List.range.loop, hne, hne', hn1, hn2]; try decide
            repeat' (first | (simp -implicitDefEqProofs only [ze, zd, simprocAttr, hT', hq, hz, hv, hN, hB, hds, hdu, hd2, hw8, bytesOfV_bv, hne, hne', nxj, bv_len, k1, k2, nr_pur, hn1, hn2, List.length_map]) | (with_reducible refine W_itn_cases ?_ ?_; omega))
            refine W_hp (write_ok (s := s) (w := .list we (es.map encE) wr) (out := out) ⟨by omega, v, by simp [upd_at, hne, hn1, hv], growU (growU hg (by omega) (Nat.le_refl _) _) (by omega) (by omega) _⟩ p hpb hs hl (by omega) _) ?_
            rintro _ ⟨st1, nx1, rfl, hnx1, ⟨_, v1, hv1, hg1⟩, hKO, hKR, hKQ⟩
            have hbx : st1 (nx + 248) = some (.cells [V.i64 x.no, V.str x.ent, V.i64 x.book, V.i64 x.val, V.i64 x.kind, V.str x.ref, V.str x.who, V.i64 x.rev, V.list (te x.lr 49) (List.map encL x.lines) (nr x.lr)]) := (hKO (nx + 248) (by omega) (by omega) (by intro n e h; simp [upd_at] at h)).trans (by simp [upd_at])
            have hK : KeepO st st1 nx id := keepTrans (nx' := nx) (keepTrans (nx' := nx) (keepU (by omega) _) (keepU (by omega) _) (Nat.le_refl _)) (fun i i1 i2 i3 => hKO i (by omega) i2 i3) (Nat.le_refl _)
            have hQ : KQ st st1 nx id := kqTrans (nx' := nx) (kqTrans (nx' := nx) (kqU hid (by omega) _) (kqU hid (by omega) _) (Nat.le_refl _)) (kqTrans (nx' := nx + 456) ⟨fun _ _ _ _ => rfl, fun _ q => .inl q⟩ hKQ (by omega)) (Nat.le_refl _)
            have q1 : ∀ j, (id = nx1 + j) = False := fun j => eq_false (by omega)
            have q2 : ∀ j, (nx1 + j = id) = False := fun j => eq_false (by omega)
            have q3 : ∀ j, (nx + 248 = nx1 + j) = False := fun j => eq_false (by omega)
            have q4 : ∀ j, (nx1 + j = nx + 248) = False := fun j => eq_false (by omega)
            have q5 : (id = nx + 248) = False := eq_false (by omega)
            have q6 : (nx + 248 = id) = False := eq_false (by omega)
            have hw9 : IntKind.i64.wrap (8 + (p.length : Int)) = 8 + (p.length : Int) := wrap_i64 (by omega) (by omega)
            have hw10 : IntKind.i64.wrap (8 + (p.length : Int) + 8) = (p.length : Int) + 16 := by rw [wrap_i64 (by omega) (by omega)]; omega
            have hst : stepS s es.length bs = ((p.length : Int) + 16, 0) := by unfold stepS; rw [hfs, hT]; exact (if_pos rfl).trans ((if_pos rfl).trans ((if_pos ⟨rfl, rfl⟩).trans (if_pos h2)))
            have hTx : (takeS p).1 = x := by rw [hT]
            rcases hw with ⟨hb0, hwn⟩ | ⟨q, hr8, hrn, hwq, hstq⟩
            · obtain ⟨rfl, e0, rfl⟩ : we = 0 ∧ es.map encE = [] ∧ wr = 1 := by injection hwn with a b c; exact ⟨a, b, c⟩
              rw [e0] at hv1
              repeat' (first | (simp -implicitDefEqProofs only [ze, zd, simprocAttr, hv1, hbx, hne, hne', hn1, hn2, nxj, nr_pur, List.length_map, q1, q2, q3, q4, q5, q6, bv_len, hw9, hw10]) | (with_reducible refine W_itn_cases ?_ ?_; omega))
              refine qd_i ?_ ?_
              · simp [recsOk, ordB, Rec.free, Rec.wr, disj, List.range, List.range.loop, hn1, hn2, q1, q2, q3, q4, q5, q6]; try decide
              repeat' (first | (simp -implicitDefEqProofs only [ze, zd, simprocAttr, hv1, hbx, hne, hne', hn1, hn2, nxj, nr_pur, List.length_map, q1, q2, q3, q4, q5, q6, bv_len, hw9, hw10]) | (with_reducible refine wgd_cases ?_ ?_ <;> intro hb) | (with_reducible refine wcond_cases ?_ ?_ <;> intro hb) | (with_reducible refine qd_i (by kernel_rfl) ?_) | (with_reducible refine W_itn_cases ?_ ?_; omega))
              refine ⟨_, _, by rw [hst], by omega, fun i i1 i2 i3 => by rw [upd_at, if_neg i2, upd_at, if_neg (by omega), upd_at, if_neg (by omega)]; exact hK i i1 i2 i3, kqTrans (nx' := nx1) hQ ⟨fun k i1 i2 i3 => by rw [upd_at, if_neg i2, upd_at, if_neg (by omega), upd_at, if_neg (by omega)], fun k hk => by
                simp only [toksAt, upd_at, if_true, tokOf, List.mem_cons, List.not_mem_nil, or_false] at hk
                simp only [toksAt, hv1, tokOf, List.mem_cons, List.not_mem_nil, or_false]
                omega⟩ (by omega), .inl ⟨by rw [hst], _, ⟨by omega, _, by rw [upd_at, if_pos rfl], growN (growU (growU hg1 (by omega) (Nat.le_refl _) _) (by omega) (by omega) _) (by intro n; rw [upd_at, if_neg (by omega), upd_at, if_neg (by omega), hv1]; intro h; cases h) _⟩, .inr ⟨nx1 + 56, by omega, by omega, by rw [List.map_append, e0, hTx]; rfl, by rw [upd_at, if_neg (by omega), upd_at, if_pos rfl, List.map_append, e0]; rfl⟩⟩⟩
            · obtain ⟨rfl, rfl⟩ : we = 46 ∧ wr = q := by injection hwq with a b c; exact ⟨a, c⟩
              have qq1 : st1 wr = some (.tok (es.map encE).length 46) := hKR wr _ _ (by omega) (by decide) (by rw [upd_at, if_neg (by omega), upd_at, if_neg (by omega)]; exact hstq)
              have hr0 : (wr = 0) = False := eq_false (by omega)
              have hr1 : (wr = 1) = False := eq_false (by omega)
              have hrx : ∀ j, (wr = nx1 + j) = False := fun j => eq_false (by omega)
              have hrx' : ∀ j, (nx1 + j = wr) = False := fun j => eq_false (by omega)
              have hri : (wr = id) = False := eq_false fun e => by subst e; rw [hv] at hstq; cases hstq
              have hir : (id = wr) = False := eq_false fun e => by subst e; rw [hv] at hstq; cases hstq
              have hrn1 : (wr = nx + 248) = False := eq_false (by omega)
              have hrn2 : (nx + 248 = wr) = False := eq_false (by omega)
              repeat' (first | (simp -implicitDefEqProofs only [ze, zd, simprocAttr, hv1, hbx, hne, hne', hn1, hn2, nxj, nr_pur, List.length_map, q1, q2, q3, q4, q5, q6, hr0, hr1, hrx, hrx', hri, hir, hrn1, hrn2, qq1, bv_len, hw9, hw10]) | (with_reducible refine W_itn_cases ?_ ?_; omega))
              refine qd_i ?_ ?_
              · simp [recsOk, ordB, Rec.free, Rec.wr, disj, List.range, List.range.loop, hn1, hn2, q1, q2, q3, q4, q5, q6, hrx, hrx', hri, hir, hrn1, hrn2]; try decide
              repeat' (first | (simp -implicitDefEqProofs only [ze, zd, simprocAttr, hv1, hbx, hne, hne', hn1, hn2, nxj, nr_pur, List.length_map, q1, q2, q3, q4, q5, q6, hr0, hr1, hrx, hrx', hri, hir, hrn1, hrn2, qq1, bv_len, hw9, hw10]) | (with_reducible refine wgd_cases ?_ ?_ <;> intro hb) | (with_reducible refine wcond_cases ?_ ?_ <;> intro hb) | (with_reducible refine qd_i (by kernel_rfl) ?_) | (with_reducible refine W_itn_cases ?_ ?_; omega))
              have hwr1 : ¬ wr = nx1 + 56 := by omega
              have hwi : ¬ id = wr := fun e => by rw [hir] at e; exact e
              refine ⟨_, _, by rw [hst], by omega, fun i i1 i2 i3 => ?_, kqTrans (nx' := nx1) hQ ⟨fun k i1 i2 i3 => by
                  simp only [toksAt, hv1, tokOf, List.mem_cons, List.not_mem_nil, or_false, not_or] at i3
                  rw [upd_at, if_neg i2, upd_at, if_neg i3.2, upd_at, if_neg (by omega)], fun k hk => by
                simp only [toksAt, upd_at, if_true, tokOf, List.mem_cons, List.not_mem_nil, or_false] at hk
                simp only [toksAt, hv1, tokOf, List.mem_cons, List.not_mem_nil, or_false]
                omega⟩ (by omega), .inl ⟨by rw [hst], _, ⟨by omega, _, by rw [upd_at, if_pos rfl], growN (growN (growU hg1 (by omega) (by omega) _) (by intro n; rw [upd_at, if_neg (by omega), qq1]; intro h; cases h) _) (by intro n; rw [upd_at, if_neg hwi, upd_at, if_neg (by omega), hv1]; intro h; cases h) _⟩, .inr ⟨wr, hr8, by omega, by rw [List.map_append, hTx]; rfl, by rw [upd_at, if_neg (fun e => hwi e.symm), upd_at, if_pos rfl, List.map_append, List.length_append, List.length_map]; rfl⟩⟩⟩
              have hiw : ¬ i = wr := fun e => by subst e; exact i3 _ _ hstq
              have e := hK i i1 i2 i3
              rw [upd_at, if_neg i2, upd_at, if_neg hiw, upd_at, if_neg (by omega)]
              exact e
          · have hd2 : decide (x.no = (es.length : Int) + 1) = false := decide_eq_false h2
            repeat' (first | (simp -implicitDefEqProofs only [ze, zd, simprocAttr, hT', hq, hz, hv, hN, hB, hds, hdu, hd2, hw8, bytesOfV_bv, hne, hne', nxj, bv_len, k1, k2, nr_pur, hn1, hn2, List.length_map]) | (with_reducible refine W_itn_cases ?_ ?_; omega))
            refine qd_i ?_ ?_
            · simp [recsOk, ordB, Rec.free, Rec.wr, disj, List.range, List.range.loop, hne, hne', hn1, hn2]; try decide
            repeat' (first | (simp -implicitDefEqProofs only [ze, zd, simprocAttr, hT', hq, hz, hv, hN, hB, hds, hdu, hd2, hw8, bytesOfV_bv, hne, hne', nxj, bv_len, k1, k2, nr_pur, hn1, hn2, List.length_map]) | (with_reducible refine wgd_cases ?_ ?_ <;> intro hb) | (with_reducible refine wcond_cases ?_ ?_ <;> intro hb) | (with_reducible refine qd_i (by kernel_rfl) ?_) | (with_reducible refine W_itn_cases ?_ ?_; omega))
            have hst : stepS s es.length bs = (0, 17) := by unfold stepS; rw [hfs, hT]; exact (if_pos rfl).trans ((if_pos rfl).trans ((if_pos ⟨rfl, rfl⟩).trans (if_neg h2)))
            exact ⟨_, _, by rw [hst], by omega, keepTrans (nx' := nx) (keepU (by omega) _) (keepU (by omega) _) (Nat.le_refl _), kqTrans (nx' := nx) (kqU hid (by omega) _) (kqU hid (by omega) _) (Nat.le_refl _), .inr ⟨by rw [hst]; decide, lgU (lgU ⟨_, ⟨hid, v, hv, hg⟩, hw⟩ (by omega) (Nat.le_refl _) _) (by omega) (by omega) _⟩⟩
        · have hst : stepS s es.length bs = (0, 5) := by unfold stepS; rw [hfs, hT]; exact (if_pos rfl).trans ((if_pos rfl).trans (if_neg h5))
          by_cases h6 : e2 = 0
          · have hd6 : decide (e2 = 0) = true := decide_eq_true h6
            have hd7 : decide (used = (p.length : Int)) = false := decide_eq_false fun h => h5 ⟨h6, h⟩
            repeat' (first | (simp -implicitDefEqProofs only [ze, zd, simprocAttr, hd6, hd7, hT', hq, hz, hv, hN, hB, hds, bytesOfV_bv, hne, hne', nxj, bv_len, k1, k2, nr_pur]) | (with_reducible refine wgd_cases ?_ ?_ <;> intro hb) | (with_reducible refine wcond_cases ?_ ?_ <;> intro hb) | (with_reducible refine qd_i (by kernel_rfl) ?_) | (with_reducible refine W_itn_cases ?_ ?_; omega))
            exact ⟨_, _, by rw [hst], by omega, keepTrans (nx' := nx) (keepU (by omega) _) (keepU (by omega) _) (Nat.le_refl _), kqTrans (nx' := nx) (kqU hid (by omega) _) (kqU hid (by omega) _) (Nat.le_refl _), .inr ⟨by rw [hst]; decide, lgU (lgU ⟨_, ⟨hid, v, hv, hg⟩, hw⟩ (by omega) (Nat.le_refl _) _) (by omega) (by omega) _⟩⟩
          · have hd6 : decide (e2 = 0) = false := decide_eq_false h6
            repeat' (first | (simp -implicitDefEqProofs only [ze, zd, simprocAttr, hd6, hT', hq, hz, hv, hN, hB, hds, bytesOfV_bv, hne, hne', nxj, bv_len, k1, k2, nr_pur]) | (with_reducible refine wgd_cases ?_ ?_ <;> intro hb) | (with_reducible refine wcond_cases ?_ ?_ <;> intro hb) | (with_reducible refine qd_i (by kernel_rfl) ?_) | (with_reducible refine W_itn_cases ?_ ?_; omega))
            exact ⟨_, _, by rw [hst], by omega, keepTrans (nx' := nx) (keepU (by omega) _) (keepU (by omega) _) (Nat.le_refl _), kqTrans (nx' := nx) (kqU hid (by omega) _) (kqU hid (by omega) _) (Nat.le_refl _), .inr ⟨by rw [hst]; decide, lgU (lgU ⟨_, ⟨hid, v, hv, hg⟩, hw⟩ (by omega) (Nat.le_refl _) _) (by omega) (by omega) _⟩⟩
      · have hds : decide (({ data := (List.map (fun n => UInt8.ofNat n.toNat) (sumB (nextI s p))).toArray } : ByteArray) = { data := (List.map (fun n => UInt8.ofNat n.toNat) sm).toArray }) = false := decide_eq_false fun h => hsm (sB_inj (sumB_inR _ hr') hsmb h)
        have hst : stepS s es.length bs = (0, 23) := by unfold stepS; rw [hfs]; exact (if_pos rfl).trans (if_neg hsm)
        repeat' (first | (simp -implicitDefEqProofs only [ze, zd, simprocAttr, hT', hq, hz, hv, hN, hB, hds, bytesOfV_bv, hne, hne', nxj, bv_len, k1, k2, nr_pur]) | (with_reducible refine wgd_cases ?_ ?_ <;> intro hb) | (with_reducible refine wcond_cases ?_ ?_ <;> intro hb) | (with_reducible refine qd_i (by kernel_rfl) ?_) | (with_reducible refine W_itn_cases ?_ ?_; omega))
        exact ⟨_, _, by rw [hst], by omega, keepRefl _ _ _, ⟨fun _ _ _ _ => rfl, fun _ q => .inl q⟩, .inr ⟨by rw [hst]; decide, lgLe ⟨w, ⟨hid, v, hv, hg⟩, hw⟩ (by omega)⟩⟩
    · have hz : decide (e = 0) = false := decide_eq_false he0
      have hst : stepS s es.length bs = (0, e) := by unfold stepS; rw [hfs]; exact if_neg he0
      repeat' (first | (simp -implicitDefEqProofs only [ze, zd, simprocAttr, hq, hz, k1, k2]) | (with_reducible refine wgd_cases ?_ ?_ <;> intro hb) | (with_reducible refine wcond_cases ?_ ?_ <;> intro hb) | (with_reducible refine qd_i (by kernel_rfl) ?_) | (with_reducible refine W_itn_cases ?_ ?_; omega))
      exact ⟨_, _, by rw [hst], by omega, keepRefl _ _ _, ⟨fun _ _ _ _ => rfl, fun _ q => .inl q⟩, .inr ⟨by rw [hst]; exact he0, lgLe h (by omega)⟩⟩
end Go.Proofs.YtaefaadjncehmaaGreatDoor.Vm
set_option maxRecDepth 10000
set_option linter.unusedVariables false
set_option linter.unusedSimpArgs false
namespace Go.Proofs.YtaefaadjncehmaaGreatDoor.Vm
open Go Go.Proofs
theorem lent_ok {st : St} {nx id : Nat} {out : List Int} {s : Int} {es : List Entry} (h : LG st nx id out s es) (hl : es.length ≤ 1000000) (he : ∀ e ∈ es, nilE e ∧ e.lines.length < 1000000 ∧ ∀ l ∈ e.lines, l.tags.length < 1000000) : W (L.hp 26 [.ptr id 0] st nx) fun r => ∃ st' nx' t q, r = .ret (.list t (es.map fun e => encE (copE e)) q) st' nx' ∧ nx ≤ nx' ∧ (es = [] ∨ t = 46) ∧ ∀ i, i < nx → st' i = st i := by
  refine hp_w k26_eq ?_
  simp only [k26]
  obtain ⟨w, ⟨hid, v, hv, hg⟩, hw⟩ := h
  obtain ⟨we, wr, rfl, hwe⟩ : ∃ we wr, w = .list we (es.map encE) wr ∧ (es = [] ∨ we = 46) := by
    rcases hw with ⟨a, b⟩ | ⟨r, _, _, a, _⟩
    · have : es = [] := by simpa using a
      subst this
      exact ⟨0, 1, b, .inl rfl⟩
    · exact ⟨_, r, a, .inr rfl⟩
  have hdec : ((.ptr id 0 : V) = .ptr id 0) := rfl
  repeat' (first | (simp -implicitDefEqProofs only [ze, zd, simprocAttr, hv, List.length_map]) | (with_reducible refine wgd_cases ?_ ?_ <;> intro hb) | (with_reducible refine wcond_cases ?_ ?_ <;> intro hb) | (with_reducible refine qd_i (by kernel_rfl) ?_) | (with_reducible refine W_itn_cases ?_ ?_; omega))
  refine loop_w (fun n tm st1 nx1 => ∃ (i : Nat) (v : V), n = es.length - i ∧ i ≤ es.length ∧ nx ≤ nx1 ∧ tm 12 = .i64 i ∧ tm 11 = .i64 es.length ∧ tm 10 = .list we (es.map encE) wr ∧ tm 2 = v ∧ (∀ j, j < nx → st1 j = st j) ∧ Grow st1 nx1 46 ((es.take i).map fun e => encE (copE e)) v ∧ (∀ r e xs, v = .list e xs r → r = 1 ∨ nx ≤ r)) es.length ⟨0, .list 0 [] 1, by omega, by omega, by omega, ?_, ?_, ?_, ?_, fun j _ => rfl, .inl ⟨rfl, rfl⟩, fun r e xs h => by injection h; omega⟩ ?_
  · simp -implicitDefEqProofs only [ze, zd, simprocAttr]; try rfl
  · simp -implicitDefEqProofs only [ze, zd, simprocAttr]; try rfl
  · simp -implicitDefEqProofs only [ze, zd, simprocAttr]; try rfl
  · simp -implicitDefEqProofs only [ze, zd, simprocAttr]; try rfl
  rintro n tm st1 nx1 ⟨i, v1, hn, hi, hnx, h12, h11, h10, h2, hk, hg1, hr⟩
  simp only [k26_l0, k26_t0]
  by_cases hlt : i < es.length
  · obtain rfl : we = 46 := by
      rcases hwe with rfl | h
      · simp at hlt
      · exact h
    have hd : decide ((i : Int) < (es.length : Int)) = true := decide_eq_true (by omega)
    obtain ⟨x, hx1⟩ := get_lt (l := es) (i := i) hlt
    obtain ⟨e1, e2, e3⟩ := he x (List.mem_of_getElem? hx1)
    have hcp := copied_ok x e1 e2 e3
    have hup : IntKind.i64.wrap ((i : Int) + 1) = ((i + 1 : Nat) : Int) := wrap_i64 (by omega) (by omega)
    have hel : encE x = .agg [.i64 x.no, .str x.ent, .i64 x.book, .i64 x.val, .i64 x.kind, .str x.ref, .str x.who, .i64 x.rev, .list (te x.lr 49) (x.lines.map encL) (nr x.lr)] := rfl
    rw [hel] at hcp
    have hmap : (es.take (i + 1)).map (fun e => encE (copE e)) = (es.take i).map (fun e => encE (copE e)) ++ [encE (copE x)] := by rw [take_get hx1, List.map_append]; rfl
    have htk : (List.take i es).length = i := by rw [List.length_take]; omega
    have hel2 : encE (copE x) = .agg [.i64 (copE x).no, .str (copE x).ent, .i64 (copE x).book, .i64 (copE x).val, .i64 (copE x).kind, .str (copE x).ref, .str (copE x).who, .i64 (copE x).rev, .list (te (copE x).lr 49) ((copE x).lines.map encL) (nr (copE x).lr)] := rfl
    rcases hg1 with ⟨hb0, rfl⟩ | ⟨q, hr8, hrn, rfl, hst⟩
    · repeat' (first | (simp -implicitDefEqProofs only [ze, zd, simprocAttr, h12, h11, h10, h2, hd, enc_get, hx1, hel, hcp, hel2, nxj, nr_pur, List.length_map, hup]) | (with_reducible refine wgd_cases ?_ ?_ <;> intro hb) | (with_reducible refine wcond_cases ?_ ?_ <;> intro hb) | (with_reducible refine qd_i (by kernel_rfl) ?_) | (with_reducible refine W_itn_cases ?_ ?_; omega))
      exact ⟨es.length - (i + 1), by omega, i + 1, _, rfl, by omega, by omega, rfl, rfl, fun j hj => by rw [if_neg (by omega), if_neg (by omega), if_neg (by omega), if_neg (by omega)]; exact hk j hj, .inr ⟨nx1 + 72, by omega, by omega, by rw [hmap, hb0]; rfl, by rw [hmap, hb0, upd_at, if_pos rfl]; rfl⟩, fun r e xs h => by injection h; omega⟩
    · have hr0 : (q = 0) = False := eq_false (by omega)
      have hr1 : (q = 1) = False := eq_false (by omega)
      have hrx : ∀ j, (q = nx1 + j) = False := fun j => eq_false (by omega)
      have hrx' : ∀ j, (nx1 + j = q) = False := fun j => eq_false (by omega)
      repeat' (first | (simp -implicitDefEqProofs only [ze, zd, simprocAttr, h12, h11, h10, h2, hd, enc_get, hx1, hel, hcp, hel2, nxj, nr_pur, List.length_map, htk, hup, hr0, hr1, hrx, hrx', hst]) | (with_reducible refine wgd_cases ?_ ?_ <;> intro hb) | (with_reducible refine wcond_cases ?_ ?_ <;> intro hb) | (with_reducible refine qd_i (by kernel_rfl) ?_) | (with_reducible refine W_itn_cases ?_ ?_; omega))
      have hqn : nx ≤ q := by rcases hr q _ _ rfl with h | h <;> omega
      exact ⟨es.length - (i + 1), by omega, i + 1, _, rfl, by omega, by omega, rfl, rfl, fun j hj => by rw [if_neg (by omega), if_neg (by omega), if_neg (by omega), if_neg (by omega)]; exact hk j hj, .inr ⟨q, by omega, by omega, by rw [hmap]; rfl, by rw [hmap, upd_at, if_pos rfl, List.length_append, List.length_map, htk]; rfl⟩, fun r e xs h => by injection h; omega⟩
  · have hd : decide ((i : Int) < (es.length : Int)) = false := decide_eq_false (by omega)
    have hin : i = es.length := by omega
    rw [hin, List.take_length] at hg1
    rcases hg1 with ⟨hb0, rfl⟩ | ⟨q, hr8, hrn, rfl, hst⟩
    · have hnil : es = [] := by simpa using hb0
      repeat' (first | (simp -implicitDefEqProofs only [ze, zd, simprocAttr, h12, h11, h10, h2, hd]) | (with_reducible refine wgd_cases ?_ ?_ <;> intro hb) | (with_reducible refine wcond_cases ?_ ?_ <;> intro hb) | (with_reducible refine qd_i (by kernel_rfl) ?_) | (with_reducible refine W_itn_cases ?_ ?_; omega))
      exact ⟨_, _, 0, 1, by rw [hnil]; rfl, by omega, .inl hnil, hk⟩
    · repeat' (first | (simp -implicitDefEqProofs only [ze, zd, simprocAttr, h12, h11, h10, h2, hd]) | (with_reducible refine wgd_cases ?_ ?_ <;> intro hb) | (with_reducible refine wcond_cases ?_ ?_ <;> intro hb) | (with_reducible refine qd_i (by kernel_rfl) ?_) | (with_reducible refine W_itn_cases ?_ ?_; omega))
      exact ⟨_, _, _, q, rfl, by omega, .inr rfl, hk⟩
end Go.Proofs.YtaefaadjncehmaaGreatDoor.Vm
set_option maxRecDepth 10000
set_option linter.unusedVariables false
set_option linter.unusedSimpArgs false
namespace Go.Proofs.YtaefaadjncehmaaGreatDoor.Vm
open Go Go.Proofs
def openS : Nat → Int → Nat → List Int → List Entry × Int × Nat × Int
  | 0, s, _, _ => ([], s, 0, 0)
  | f + 1, s, n, bs =>
    if bs.length = 0 then ([], s, 0, 0)
    else if (stepS s n bs).2 = 0 then
      ((takeS (frameS bs).1).1 :: (openS f (nextI s (frameS bs).1) (n + 1) (bs.drop ((frameS bs).1.length + 16))).1,
       (openS f (nextI s (frameS bs).1) (n + 1) (bs.drop ((frameS bs).1.length + 16))).2.1,
       (frameS bs).1.length + 16 + (openS f (nextI s (frameS bs).1) (n + 1) (bs.drop ((frameS bs).1.length + 16))).2.2.1,
       (openS f (nextI s (frameS bs).1) (n + 1) (bs.drop ((frameS bs).1.length + 16))).2.2.2)
    else ([], s, 0, (stepS s n bs).2)
theorem four_read (a b c d : Int) (ha : 0 ≤ a ∧ a < 256) (hb : 0 ≤ b ∧ b < 256) (hc : 0 ≤ c ∧ c < 256) (hd : 0 ≤ d ∧ d < 256) : four (readI a b c d) = [a, b, c, d] := by
  unfold four readI
  have e1 : (a * 16777216 + b * 65536 + c * 256 + d) / 16777216 % 256 = a := by omega
  have e2 : (a * 16777216 + b * 65536 + c * 256 + d) / 65536 % 256 = b := by omega
  have e3 : (a * 16777216 + b * 65536 + c * 256 + d) / 256 % 256 = c := by omega
  have e4 : (a * 16777216 + b * 65536 + c * 256 + d) % 256 = d := by omega
  rw [e1, e2, e3, e4]
theorem four_rdB (l : List Int) (hb : bOK l) (h4 : 4 ≤ l.length) : four (rdB l) = l.take 4 := by
  match l, h4 with
  | a :: b :: c :: d :: m, _ => exact four_read a b c d (hb a (by simp)) (hb b (by simp)) (hb c (by simp)) (hb d (by simp))
theorem frame_bytes {bs p sm : List Int} (hb : bOK bs) (h : frameS bs = (p, sm, 0)) : p.length + 16 ≤ bs.length ∧ bs.take (p.length + 16) = four p.length ++ four (inv p.length) ++ p ++ sm := by
  unfold frameS at h
  split at h
  · cases h
  rename_i h8
  split at h
  · rename_i hinv
    split at h
    · cases h
    rename_i hlen
    injection h with h1 h2
    injection h2 with h2 _
    have hr := rdB_r bs hb (by omega)
    have hpl : p.length = (rdB bs).toNat := by rw [← h1, List.length_take, List.length_drop]; omega
    have hpi : (p.length : Int) = rdB bs := by omega
    refine ⟨by omega, ?_⟩
    rw [hpi, ← hinv, four_rdB bs hb (by omega), four_rdB (bs.drop 4) (bOK_drop hb 4) (by rw [List.length_drop]; omega), ← h1, ← h2]
    rw [show (List.take (rdB bs).toNat (List.drop 8 bs)).length = (rdB bs).toNat by rw [h1]; exact hpl]
    have e1 : bs.take 4 ++ (bs.drop 4).take 4 = bs.take 8 := by rw [← List.take_add]
    rw [e1]
    have e2 : bs.take 8 ++ (bs.drop 8).take (rdB bs).toNat = bs.take (8 + (rdB bs).toNat) := by rw [← List.take_add]
    rw [e2, List.drop_drop]
    rw [← List.take_add]
    congr 1
    omega
  · cases h
theorem step_ok {s : Int} {n : Nat} {bs : List Int} (h : (stepS s n bs).2 = 0) : (frameS bs).2.2 = 0 ∧ sumB (nextI s (frameS bs).1) = (frameS bs).2.1 ∧ (takeS (frameS bs).1).2.2 = 0 ∧ (takeS (frameS bs).1).2.1 = ((frameS bs).1.length : Int) ∧ (takeS (frameS bs).1).1.no = (n : Int) + 1 ∧ (stepS s n bs).1 = ((frameS bs).1.length : Int) + 16 := by
  unfold stepS at h ⊢
  split at h
  · rename_i h1
    split at h
    · rename_i h2
      split at h
      · rename_i h3
        split at h
        · rename_i h4
          exact ⟨h1, h2, h3.1, h3.2, h4, by rw [if_pos h1, if_pos h2, if_pos h3, if_pos h4]⟩
        · cases h
      · cases h
    · cases h
  · rename_i h1; exact absurd h h1
theorem step_bytes {s : Int} {n : Nat} {bs : List Int} (hb : bOK bs) (h : (stepS s n bs).2 = 0) : (frameS bs).1.length + 16 ≤ bs.length ∧ bs.take ((frameS bs).1.length + 16) = frameB (frameS bs).1 (nextI s (frameS bs).1) := by
  obtain ⟨h1, h2, _⟩ := step_ok h
  have e : frameS bs = ((frameS bs).1, (frameS bs).2.1, 0) := by rw [← h1]
  obtain ⟨g1, g2⟩ := frame_bytes hb e
  exact ⟨g1, by rw [g2, ← h2]; rfl⟩
theorem new_ok2 (st : St) (nx : Nat) : W (L.hp 19 [] st nx) fun r => ∃ st' nx' id, r = .ret (.ptr id 0) st' nx' ∧ nx ≤ nx' ∧ nx ≤ id ∧ LG st' nx' id [] start [] ∧ (∀ i, i < nx → st' i = st i) ∧ ∀ k, k ∈ toksAt st' id → k = 1 := by
  refine hp_w k19_eq ?_
  simp only [k19]
  repeat' (first | (simp -implicitDefEqProofs only [ze, zd, simprocAttr, ne_eq, not_true_eq_false, gt_iff_lt]) | (with_reducible refine wgd_cases ?_ ?_ <;> intro hb) | (with_reducible refine wcond_cases ?_ ?_ <;> intro hb) | (with_reducible refine qd_i (by kernel_rfl) ?_) | (with_reducible refine W_itn_cases ?_ ?_; omega))
  refine ⟨_, _, _, rfl, by omega, ?_, ⟨.list 0 [] 1, ⟨?_, .list 0 [] 1, by rw [upd_at, if_pos rfl]; rfl, .inl ⟨rfl, rfl⟩⟩, .inl ⟨rfl, rfl⟩⟩, fun i hi => by rw [upd_at, if_neg (by omega)], fun k hk => ?_⟩
  · omega
  · omega
  · simp only [toksAt, upd_at, if_true, tokOf, List.mem_cons, List.not_mem_nil, or_false] at hk
    omega
def openPost (bs : List Int) (st : St) (nx : Nat) (q : HR) : Prop := ∃ st' nx' id, q = .ret (.tup [.ptr id 0, .i64 (openS bs.length start 0 bs).2.2.1, .i64 (openS bs.length start 0 bs).2.2.2]) st' nx' ∧ nx ≤ nx' ∧ nx ≤ id ∧
      LG st' nx' id (bs.take (openS bs.length start 0 bs).2.2.1) (openS bs.length start 0 bs).2.1 (openS bs.length start 0 bs).1 ∧ (∀ i, 8 ≤ i → i < nx → st' i = st i) ∧ (∀ k, k ∈ toksAt st' id → k = 1 ∨ nx ≤ k)
theorem open_wc (bs : List Int) (hb : bOK bs) (hl : bs.length < 1000000000) (st : St) (nx : Nat) (h8 : 8 ≤ nx) (r : Nat) :
    wc Tryz.prog L k25.b (RQ k25.rs (openPost bs st nx)) ⟨argT [.list 5 (bv bs) r], st, nx⟩ := by
  unfold openPost
  simp only [k25]
  repeat' (first | (simp -implicitDefEqProofs only [ze, zd, simprocAttr]) | (with_reducible refine wgd_cases ?_ ?_ <;> intro hb) | (with_reducible refine wcond_cases ?_ ?_ <;> intro hb) | (with_reducible refine qd_i (by kernel_rfl) ?_) | (with_reducible refine W_itn_cases ?_ ?_; omega))
  refine W_hp (new_ok2 _ _) ?_
  rintro _ ⟨st1, nx1, id, rfl, hn1, hi1, hLG, hk1, h1n⟩
  repeat' (first | (simp -implicitDefEqProofs only [ze, zd, simprocAttr]) | (with_reducible refine wgd_cases ?_ ?_ <;> intro hb) | (with_reducible refine wcond_cases ?_ ?_ <;> intro hb) | (with_reducible refine qd_i (by kernel_rfl) ?_) | (with_reducible refine W_itn_cases ?_ ?_; omega))
  refine loop_w (fun n tm st' nx' => ∃ (u f : Nat) (s : Int) (es : List Entry), n = bs.length - u ∧ u ≤ bs.length ∧ nx ≤ nx' ∧ tm 2 = .ptr id 0 ∧ tm 3 = .i64 u ∧ tm 0 = .list 5 (bv bs) r ∧ LG st' nx' id (bs.take u) s es ∧ u64r s ∧ es.length * 16 ≤ u ∧ (∀ i, 8 ≤ i → i < nx → st' i = st i) ∧ (∀ k, k ∈ toksAt st' id → k = 1 ∨ nx ≤ k) ∧ bs.length - u ≤ f ∧
    openS bs.length start 0 bs = (es ++ (openS f s es.length (bs.drop u)).1, (openS f s es.length (bs.drop u)).2.1, u + (openS f s es.length (bs.drop u)).2.2.1, (openS f s es.length (bs.drop u)).2.2.2)) bs.length ⟨0, bs.length, start, [], by omega, by omega, by omega, ?_, ?_, ?_, lgLe hLG (by omega), start_r, by simp, fun i _ hi => hk1 i (by omega), fun k hk => .inl (h1n k hk), by omega, by simp⟩ ?_
  · simp -implicitDefEqProofs only [ze, zd, simprocAttr]; try rfl
  · simp -implicitDefEqProofs only [ze, zd, simprocAttr]; try rfl
  · simp -implicitDefEqProofs only [ze, zd, simprocAttr]; try rfl
  rintro n tm st2 nx2 ⟨u, f, s, es, hn, hu, hnx, h2, h3, h0, hG, hs, hel, hk, htk, hf, ho⟩
  simp only [k25_l0, k25_t0]
  by_cases hlt : u < bs.length
  · have hd : decide ((u : Int) < (bs.length : Int)) = true := decide_eq_true (by omega)
    obtain ⟨f, rfl⟩ : ∃ f', f = f' + 1 := ⟨f - 1, by omega⟩
    have hdl : (bs.drop u).length = bs.length - u := List.length_drop ..
    have hol : (bs.take u).length ≤ 100000000000 := by rw [List.length_take]; omega
    have hne0 : ¬ (bs.drop u).length = 0 := by omega
    repeat' (first | (simp -implicitDefEqProofs only [ze, zd, simprocAttr, h2, h3, h0, hd, bv_len, bv_tk, bv_dp, List.take_length]) | (with_reducible refine W_itn_cases ?_ ?_; omega))
    refine W_hp (step1_ok (lgLe hG (by omega)) (bs.drop u) (bOK_drop hb u) hs hol (by omega) (by omega) _) ?_
    rintro _ ⟨st3, nx3, rfl, hn3, hKO, hKQ, hor⟩
    have hkeep : ∀ i, 8 ≤ i → i < nx → st3 i = st i := fun i i1 i2 => by
      rw [hKQ.1 i (by omega) (by omega) (fun hm => (htk i hm).elim (by omega) (by omega)), hk i i1 i2]
    have htok : ∀ k, k ∈ toksAt st3 id → k = 1 ∨ nx ≤ k := fun k hk => by
      rcases hKQ.2 k hk with h | h
      · exact htk k h
      · exact .inr (by omega)
    by_cases h5 : (stepS s es.length (bs.drop u)).2 = 0
    · obtain ⟨g1, g2, g3, g4, g5, g6⟩ := step_ok h5
      obtain ⟨b1, b2⟩ := step_bytes (bOK_drop hb u) h5
      have hG3 : LG st3 nx3 id (bs.take (u + ((frameS (bs.drop u)).1.length + 16))) (nextI s (frameS (bs.drop u)).1) (es ++ [(takeS (frameS (bs.drop u)).1).1]) := by
        rcases hor with ⟨_, h⟩ | ⟨h, _⟩
        · rw [← b2, ← List.take_add] at h; exact h
        · exact absurd h5 h
      have hz : decide ((0 : Int) = 0) = true := rfl
      have hw : IntKind.i64.wrap ((u : Int) + (((frameS (bs.drop u)).1.length : Int) + 16)) = ((u + ((frameS (bs.drop u)).1.length + 16) : Nat) : Int) := by rw [wrap_i64 (by omega) (by omega)]; omega
      rw [g6, h5]
      repeat' (first | (simp -implicitDefEqProofs only [ze, zd, simprocAttr, h2, h3, h0, hz, hw]) | (with_reducible refine wgd_cases ?_ ?_ <;> intro hb) | (with_reducible refine wcond_cases ?_ ?_ <;> intro hb) | (with_reducible refine qd_i (by kernel_rfl) ?_) | (with_reducible refine W_itn_cases ?_ ?_; omega))
      refine ⟨bs.length - (u + ((frameS (bs.drop u)).1.length + 16)), by omega, u + ((frameS (bs.drop u)).1.length + 16), f, nextI s (frameS (bs.drop u)).1, es ++ [(takeS (frameS (bs.drop u)).1).1], rfl, by omega, by omega, rfl, lgLe hG3 (by omega), nextI_r _ _ hs, by rw [List.length_append, List.length_singleton]; omega, hkeep, htok, by omega, ?_⟩
      rw [ho]
      simp only [openS, if_neg hne0, if_pos h5, List.drop_drop, List.length_append, List.length_singleton, List.append_assoc, List.singleton_append, Nat.add_assoc]
    · have hz : decide ((stepS s es.length (bs.drop u)).2 = 0) = false := decide_eq_false h5
      have hG3 : LG st3 nx3 id (bs.take u) s es := by
        rcases hor with ⟨h, _⟩ | ⟨_, h⟩
        · exact absurd h h5
        · exact h
      repeat' (first | (simp -implicitDefEqProofs only [ze, zd, simprocAttr, h2, h3, h0, hz]) | (with_reducible refine wgd_cases ?_ ?_ <;> intro hb) | (with_reducible refine wcond_cases ?_ ?_ <;> intro hb) | (with_reducible refine qd_i (by kernel_rfl) ?_) | (with_reducible refine W_itn_cases ?_ ?_; omega))
      have ho2 : openS bs.length start 0 bs = (es, s, u, (stepS s es.length (bs.drop u)).2) := by
        rw [ho]
        simp only [openS, if_neg hne0, if_neg h5, List.append_nil, Nat.add_zero]
      rw [ho2]
      exact ⟨_, _, id, rfl, by omega, by omega, lgLe hG3 (by omega), hkeep, htok⟩
  · have hd : decide ((u : Int) < (bs.length : Int)) = false := decide_eq_false (by omega)
    have hu0 : (bs.drop u).length = 0 := by rw [List.length_drop]; omega
    have ho2 : openS bs.length start 0 bs = (es, s, u, 0) := by
      rw [ho]
      cases f with
      | zero => simp only [openS, List.append_nil, Nat.add_zero]
      | succ f => simp only [openS, if_pos hu0, List.append_nil, Nat.add_zero]
    repeat' (first | (simp -implicitDefEqProofs only [ze, zd, simprocAttr, h2, h3, h0, hd, bv_len]) | (with_reducible refine wgd_cases ?_ ?_ <;> intro hb) | (with_reducible refine wcond_cases ?_ ?_ <;> intro hb) | (with_reducible refine qd_i (by kernel_rfl) ?_) | (with_reducible refine W_itn_cases ?_ ?_; omega))
    rw [ho2]
    exact ⟨_, _, id, rfl, by omega, by omega, lgLe hG (by omega), hk, htk⟩
theorem open_ok (bs : List Int) (hb : bOK bs) (hl : bs.length < 1000000000) (st : St) (nx : Nat) (h8 : 8 ≤ nx) (r : Nat) :
    W (L.hp 25 [.list 5 (bv bs) r] st nx) fun q => ∃ st' nx' id, q = .ret (.tup [.ptr id 0, .i64 (openS bs.length start 0 bs).2.2.1, .i64 (openS bs.length start 0 bs).2.2.2]) st' nx' ∧ nx ≤ nx' ∧ nx ≤ id ∧
      LG st' nx' id (bs.take (openS bs.length start 0 bs).2.2.1) (openS bs.length start 0 bs).2.1 (openS bs.length start 0 bs).1 ∧ (∀ i, 8 ≤ i → i < nx → st' i = st i) ∧ (∀ k, k ∈ toksAt st' id → k = 1 ∨ nx ≤ k) := by
  refine hp_z k25_eq ?_
  simp only [frzH, slish, slish1, Bool.false_eq_true, if_false, Option.map_some]
  refine ⟨_, rfl, ?_⟩
  exact open_wc bs hb hl st nx h8 r
end Go.Proofs.YtaefaadjncehmaaGreatDoor.Vm
set_option maxRecDepth 10000
set_option linter.unusedVariables false
set_option linter.unusedSimpArgs false
namespace Go.Proofs.YtaefaadjncehmaaGreatDoor.Vm
open Go Go.Proofs
theorem rfin_odd (y : Int) (h0 : 0 ≤ y) (h1 : y < 18446744073709551616) (h : y.tmod 2 = 1) : IntKind.i64.wrap (IntKind.i64.wrap (0 - IntKind.i64.wrap (IntKind.u64.wrap (y.tdiv 2))) - 1) = Co.fin y := by
  rw [Int.tdiv_eq_ediv_of_nonneg h0]
  rw [Int.tmod_eq_emod_of_nonneg h0] at h
  rw [Co.u64_small (by omega) (by omega), wrap_i64 (n := y / 2) (by omega) (by omega), wrap_i64 (n := 0 - y / 2) (by omega) (by omega), wrap_i64 (n := 0 - y / 2 - 1) (by omega) (by omega), Co.fin, if_pos h]
  omega
theorem rfin_even (y : Int) (h0 : 0 ≤ y) (h1 : y < 18446744073709551616) (h : ¬ y.tmod 2 = 1) : IntKind.i64.wrap (IntKind.u64.wrap (y.tdiv 2)) = Co.fin y := by
  rw [Int.tdiv_eq_ediv_of_nonneg h0]
  rw [Int.tmod_eq_emod_of_nonneg h0] at h
  rw [Co.u64_small (by omega) (by omega), wrap_i64 (n := y / 2) (by omega) (by omega), Co.fin, if_neg h]
theorem pow_next (i : Nat) (h : i + 1 < 10) : IntKind.u64.wrap ((128 : Int) ^ i * 128) = 128 ^ (i + 1) := by
  rw [← Int.pow_succ]
  obtain h | h | h | h | h | h | h | h | h : i = 0 ∨ i = 1 ∨ i = 2 ∨ i = 3 ∨ i = 4 ∨ i = 5 ∨ i = 6 ∨ i = 7 ∨ i = 8 := by omega
  all_goals (subst h; decide)
set_option maxHeartbeats 1000000 in
theorem rtakeint_ok (bs : List Int) (hbs : bOK bs) (hl : bs.length < 4611686018427387904) (r : Nat) : L.pl 167 [.list 5 (bv bs) r] = some (.ret (.tup [.i64 (Co.tS bs 0 0).1, .i64 (Co.tS bs 0 0).2.1, .i64 (Co.tS bs 0 0).2.2])) := by
  refine W_of (pl_w k167_eq ?_)
  simp only [k167]
  repeat' (first | (simp -implicitDefEqProofs only [ze, zd, simprocAttr]) | (with_reducible refine wgd_cases ?_ ?_ <;> intro hb) | (with_reducible refine wcond_cases ?_ ?_ <;> intro hb) | (with_reducible refine qd_i (by kernel_rfl) ?_) | (with_reducible refine W_itn_cases ?_ ?_; omega))
  refine loop_w (fun n tm st nx => ∃ (i : Nat) (x f : Int), n = 10 - i ∧ i ≤ 10 ∧ i ≤ bs.length ∧ 0 ≤ x ∧ x < 128 ^ i ∧ Co.tS (bs.drop i) i x = Co.tS bs 0 0 ∧ tm 7 = .i64 i ∧ tm 5 = .sc (.int .u64 x) ∧ tm 6 = .sc (.int .u64 f) ∧ (i < 10 → f = 128 ^ i) ∧ tm 0 = .list 5 (bv bs) r) 10 ⟨0, 0, 1, by omega, by omega, by omega, by omega, by decide, rfl, ?_, ?_, ?_, fun _ => rfl, ?_⟩ ?_
  · simp -implicitDefEqProofs only [ze, zd, simprocAttr]; try rfl
  · simp -implicitDefEqProofs only [ze, zd, simprocAttr]
  · simp -implicitDefEqProofs only [ze, zd, simprocAttr]
  · simp -implicitDefEqProofs only [ze, zd, simprocAttr]
  rintro n tm st nx ⟨i, x, f, hn, hi, hil, hx0, hx1, hts, h8, h5, h6, hf, h0⟩
  simp only [k167_l0, k167_t0]
  by_cases hlt : i < 10
  · have hd : decide ((i : Int) < 10) = true := decide_eq_true (by omega)
    by_cases hend : i = bs.length
    · have hd2 : decide ((bs.length : Int) ≤ (i : Int)) = true := decide_eq_true (by omega)
      have e : bs.drop i = [] := List.drop_eq_nil_of_le (by omega)
      rw [e] at hts
      simp only [Co.tS, if_pos hlt] at hts
      repeat' (first | (simp -implicitDefEqProofs only [ze, zd, simprocAttr, h8, h5, h0, hd, bv_len, hd2, ← hts]) | (with_reducible refine wgd_cases ?_ ?_ <;> intro hb) | (with_reducible refine wcond_cases ?_ ?_ <;> intro hb) | (with_reducible refine qd_i (by kernel_rfl) ?_) | (with_reducible refine W_itn_cases ?_ ?_; omega))
    · have hd2 : decide ((bs.length : Int) ≤ (i : Int)) = false := decide_eq_false (by omega)
      obtain ⟨b, hb1⟩ := get_lt (l := bs) (i := i) (by omega)
      obtain ⟨hb2, hb3⟩ := hbs b (List.mem_of_getElem? hb1)
      have e : bs.drop i = b :: bs.drop (i + 1) := by rw [List.drop_eq_getElem_cons (by omega)]; rw [List.getElem?_eq_getElem (by omega)] at hb1; rw [Option.some.inj hb1]
      rw [e] at hts
      simp only [Co.tS, if_pos hlt] at hts
      have hup : IntKind.i64.wrap ((i : Int) + 1) = ((i + 1 : Nat) : Int) := wrap_i64 (by omega) (by omega)
      have t1 : b.tmod 128 = b % 128 := Int.tmod_eq_emod_of_nonneg hb2
      have t5 : ((128 : Int) = 0) = False := eq_false (by decide)
      have t6 : ((2 : Int) = 0) = False := eq_false (by decide)
      have hgo : Co.badS i b = false → ∃ y, IntKind.u64.wrap (x + IntKind.u64.wrap (IntKind.u64.wrap (b % 128) * f)) = y ∧ y = x + b % 128 * 128 ^ i ∧ 0 ≤ y ∧ y < 18446744073709551616 ∧ y < 128 ^ (i + 1) := fun h => by
        obtain ⟨g1, g2⟩ := Co.bad_no h
        obtain ⟨s1, s2, s3⟩ := Co.step_bound i x b hlt hx0 hx1 hb2 hb3 g1
        refine ⟨x + b % 128 * 128 ^ i, ?_, rfl, by omega, s2, s3⟩
        have hp : (0 : Int) < 128 ^ i := Int.pow_pos (by decide)
        have hq : 0 ≤ b % 128 * 128 ^ i := Int.mul_nonneg (by omega) (by omega)
        rw [hf hlt, Co.u64_small (by omega) (by omega : b % 128 < 18446744073709551616), Co.u64_small hq (by omega), Co.u64_small (by omega) s2]
      repeat' (first | (simp -implicitDefEqProofs only [ze, zd, simprocAttr, h8, h5, h6, h0, hd, hd2, bv_len, bv_get, hb1, hup, t1, t5, t6, ne_eq, not_true_eq_false, gt_iff_lt]) | (with_reducible refine wgd_cases ?_ ?_ <;> intro hb) | (with_reducible refine wcond_cases ?_ ?_ <;> intro hb) | (with_reducible refine qd_i (by kernel_rfl) ?_) | (with_reducible refine W_itn_cases ?_ ?_; omega))
      all_goals (simp only [decide_eq_true_eq, decide_eq_false_iff_not] at *)
      all_goals first
        | (exfalso; omega)
        | (have hB : Co.badS i b = true := by (simp only [Co.badS, Bool.or_eq_true, Bool.and_eq_true, decide_eq_true_eq]; omega)
           rw [if_pos hB] at hts; rw [← hts])
        | (have hB : Co.badS i b = false := by (simp only [Co.badS, Bool.or_eq_false_iff, Bool.and_eq_false_iff, decide_eq_false_iff_not]; omega)
           obtain ⟨y, hy1, hy2, hy3, hy4, hy5⟩ := hgo hB
           rw [if_neg (by rw [hB]; simp), ← hy2] at hts
           simp only [hy1] at *
           first
           | (rw [if_pos (by assumption)] at hts; rw [← hts, rfin_odd y hy3 hy4 (by assumption)])
           | (rw [if_pos (by assumption)] at hts; rw [← hts, rfin_even y hy3 hy4 (by assumption)])
           | (rw [if_neg (by assumption)] at hts; exact ⟨10 - (i + 1), by omega, i + 1, y, _, rfl, by omega, by omega, hy3, hy5, hts, rfl, rfl, rfl, fun h9 => by rw [hf hlt]; exact pow_next i h9⟩))
  · have : i = 10 := by omega
    subst this
    have hd : decide (((10 : Nat) : Int) < 10) = false := by decide
    rw [tS_10] at hts
    repeat' (first | (simp -implicitDefEqProofs only [ze, zd, simprocAttr, h8, h5, h0, hd, ← hts]) | (with_reducible refine wgd_cases ?_ ?_ <;> intro hb) | (with_reducible refine wcond_cases ?_ ?_ <;> intro hb) | (with_reducible refine qd_i (by kernel_rfl) ?_) | (with_reducible refine W_itn_cases ?_ ?_; omega))
end Go.Proofs.YtaefaadjncehmaaGreatDoor.Vm
set_option maxRecDepth 10000
set_option linter.unusedVariables false
set_option linter.unusedSimpArgs false
namespace Go.Proofs.YtaefaadjncehmaaGreatDoor.Vm
open Go Go.Proofs
theorem rtaketext_ok (bs : List Int) (hb : bOK bs) (hl : bs.length < 4611686018427387904) (r : Nat) : L.pl 168 [.list 5 (bv bs) r] = some (.ret (.tup [.str (tT bs).1, .i64 (tT bs).2.1, .i64 (tT bs).2.2])) := by
  refine W_of (pl_w k168_eq ?_)
  simp only [k168]
  have hp := Co.tS_pos bs 0 0
  unfold tT
  have ht := rtakeint_ok bs hb hl
  generalize hq : Co.tS bs 0 0 = q at hp ht ⊢
  obtain ⟨n, at_, e⟩ := q
  simp only at hp ht ⊢
  by_cases he : e = 0
  · subst he
    by_cases hn : n < 0 ∨ 60 < n
    · repeat' (first | (simp -implicitDefEqProofs only [ze, zd, simprocAttr, ht, bv_len]) | (with_reducible refine wgd_cases ?_ ?_ <;> intro hb) | (with_reducible refine wcond_cases ?_ ?_ <;> intro hb) | (with_reducible refine qd_i (by kernel_rfl) ?_) | (with_reducible refine W_itn_cases ?_ ?_; omega))
      all_goals (simp only [decide_eq_true_eq, decide_eq_false_iff_not] at *)
      all_goals first | (exfalso; omega) | simp [hn]
    · have hd1 : decide (n < 0) = false := decide_eq_false (by omega)
      have hd2 : decide (60 < n) = false := decide_eq_false (by omega)
      have hw : IntKind.i64.wrap ((bs.length : Int) - at_) = (bs.length : Int) - at_ := wrap_i64 (by omega) (by omega)
      have hw2 : IntKind.i64.wrap (at_ + n) = at_ + n := wrap_i64 (by omega) (by omega)
      by_cases hs : (bs.length : Int) - at_ < n
      · have hd3 : decide ((bs.length : Int) - at_ < n) = true := decide_eq_true hs
        repeat' (first | (simp -implicitDefEqProofs only [ze, zd, simprocAttr, ht, bv_len, hd1, hd2, hw, hd3]) | (with_reducible refine wgd_cases ?_ ?_ <;> intro hb) | (with_reducible refine wcond_cases ?_ ?_ <;> intro hb) | (with_reducible refine qd_i (by kernel_rfl) ?_) | (with_reducible refine W_itn_cases ?_ ?_; omega))
        simp [hn, hs]
      · have hd3 : decide ((bs.length : Int) - at_ < n) = false := decide_eq_false hs
        have heq : strB ((bs.drop at_.toNat).take n.toNat) = ByteArray.mk (List.map (fun b => UInt8.ofNat b.toNat) (List.drop at_.toNat (List.take (at_ + n).toNat bs))).toArray := by
          unfold strB
          rw [List.take_drop, show at_.toNat + n.toNat = (at_ + n).toNat by omega]
        have hz : (ByteArray.mk (List.map (fun b => UInt8.ofNat b.toNat) (List.drop at_.toNat (List.take (at_ + n).toNat bs))).toArray).size < 4611686018427387904 := by
          rw [← heq, strB_len, List.length_take]; omega
        have hpl := rplain_ok _ hz
        repeat' (first | (simp -implicitDefEqProofs only [ze, zd, simprocAttr, ht, bv_len, hd1, hd2, hw, hw2, hd3, bytesOfV_bq, bv_tk, bv_dp, hpl]) | (with_reducible refine wgd_cases ?_ ?_ <;> intro hb) | (with_reducible refine wcond_cases ?_ ?_ <;> intro hb) | (with_reducible refine qd_i (by kernel_rfl) ?_) | (with_reducible refine W_itn_cases ?_ ?_; omega))
        all_goals (simp only [Bool.not_eq_eq_eq_not, Bool.not_true, Bool.not_false] at *; rw [← heq] at *; simp [hn, hs, *])
  · have hd : decide (e = 0) = false := decide_eq_false he
    repeat' (first | (simp -implicitDefEqProofs only [ze, zd, simprocAttr, ht, hd]) | (with_reducible refine wgd_cases ?_ ?_ <;> intro hb) | (with_reducible refine wcond_cases ?_ ?_ <;> intro hb) | (with_reducible refine qd_i (by kernel_rfl) ?_) | (with_reducible refine W_itn_cases ?_ ?_; omega))
    simp [he]
def Rd (st : St) (nx id : Nat) (bs : List Int) (rr : Nat) (s : Nat × Int) : Prop := id < nx ∧ s.1 ≤ bs.length ∧ st id = some (.cells [.list 5 (bv bs) rr, .i64 s.1, .i64 s.2])
theorem Rd.upd {st : St} {nx nx' id j : Nat} {bs : List Int} {rr : Nat} {s : Nat × Int} (h : Rd st nx id bs rr s) (hj : id ≠ j) (hn : nx ≤ nx') (o : Option Ob) : Rd (upd st j o) nx' id bs rr s := ⟨Nat.lt_of_lt_of_le h.1 hn, h.2.1, by rw [upd_at, if_neg hj]; exact h.2.2⟩
theorem Rd.le {st : St} {nx nx' id : Nat} {bs : List Int} {rr : Nat} {s : Nat × Int} (h : Rd st nx id bs rr s) (hn : nx ≤ nx') : Rd st nx' id bs rr s := ⟨Nat.lt_of_lt_of_le h.1 hn, h.2⟩
def RP {α : Type} (st : St) (nx id : Nat) (bs : List Int) (rr : Nat) (p : α × Nat × Int) (Q : α → V → St → Nat → Prop) (r : HR) : Prop :=
  ∃ v st' nx', r = .ret v st' nx' ∧ nx ≤ nx' ∧ KeepX st st' nx id ∧ Rd st' nx' id bs rr p.2 ∧ Q p.1 v st' nx'
def rI (bs : List Int) (s : Nat × Int) : Int × Nat × Int :=
  if s.2 = 0 then ((Co.tS (bs.drop s.1) 0 0).1, s.1 + (Co.tS (bs.drop s.1) 0 0).2.1.toNat, (Co.tS (bs.drop s.1) 0 0).2.2) else (0, s)
def rT (bs : List Int) (s : Nat × Int) : ByteArray × Nat × Int :=
  if s.2 = 0 then ((tT (bs.drop s.1)).1, s.1 + (tT (bs.drop s.1)).2.1.toNat, (tT (bs.drop s.1)).2.2) else (ByteArray.mk #[], s)
def rC (most : Int) (bs : List Int) (s : Nat × Int) : Int × Nat × Int :=
  if (rI bs s).2.2 = 0 then (if (rI bs s).1 < 0 ∨ most < (rI bs s).1 then (0, (rI bs s).2.1, 9) else rI bs s) else (0, (rI bs s).2)
theorem rint_ok {st : St} {nx id : Nat} {bs : List Int} {rr : Nat} {s : Nat × Int} (h : Rd st nx id bs rr s) (hb : bOK bs) (hl : bs.length < 4611686018427387904) :
    W (L.hp 115 [.ptr id 0] st nx) (RP st nx id bs rr (rI bs s) fun n v _ _ => v = .i64 n) := by
  refine hp_w k115_eq ?_
  simp only [k115]
  obtain ⟨a, er⟩ := s
  obtain ⟨h1, h2, h3⟩ := h
  simp only at h2 h3
  have hha : ((0 : Int) ≤ (a : Int)) = True := eq_true (by omega)
  unfold rI
  by_cases he : er = 0
  · subst he
    have hi := rtakeint_ok (bs.drop a) (hb.drop a) (by rw [List.length_drop]; omega)
    have hp := Co.tS_pos (bs.drop a) 0 0
    generalize Co.tS (bs.drop a) 0 0 = q at hi hp ⊢
    obtain ⟨n, u, e⟩ := q
    simp only at hi hp ⊢
    rw [List.length_drop] at hp
    have hw : IntKind.i64.wrap ((a : Int) + u) = ((a + u.toNat : Nat) : Int) := by rw [wrap_i64 (by omega) (by omega)]; omega
    repeat' (first | (simp -implicitDefEqProofs only [ze, zd, simprocAttr, h3, bv_len, bv_all, bv_dp, hi]) | (with_reducible refine W_itn_cases ?_ ?_; omega))
    refine qd_i ?_ ?_
    · simp [recsOk, ordB, Rec.free, Rec.wr, disj, List.range, List.range.loop]; try decide
    · repeat' (first | (simp -implicitDefEqProofs only [ze, zd, simprocAttr, h3, hw]) | (with_reducible refine wgd_cases ?_ ?_ <;> intro hb) | (with_reducible refine wcond_cases ?_ ?_ <;> intro hb) | (with_reducible refine qd_i (by kernel_rfl) ?_) | (with_reducible refine W_itn_cases ?_ ?_; omega))
      exact ⟨_, _, _, rfl, by omega, fun i g1 g2 => by rw [upd_at, if_neg g2, upd_at, if_neg g2], ⟨by omega, by simp only; omega, by rw [upd_at, if_pos rfl]⟩, rfl⟩
  · have hd : decide (er = 0) = false := decide_eq_false he
    repeat' (first | (simp -implicitDefEqProofs only [ze, zd, simprocAttr, h3, hd]) | (with_reducible refine wgd_cases ?_ ?_ <;> intro hb) | (with_reducible refine wcond_cases ?_ ?_ <;> intro hb) | (with_reducible refine qd_i (by kernel_rfl) ?_) | (with_reducible refine W_itn_cases ?_ ?_; omega))
    rw [if_neg he]
    exact ⟨_, _, _, rfl, by omega, KeepX.refl _ _ _, ⟨by omega, h2, h3⟩, rfl⟩
theorem rtext2_ok {st : St} {nx id : Nat} {bs : List Int} {rr : Nat} {s : Nat × Int} (h : Rd st nx id bs rr s) (hb : bOK bs) (hl : bs.length < 4611686018427387904) :
    W (L.hp 116 [.ptr id 0] st nx) (RP st nx id bs rr (rT bs s) fun n v _ _ => v = .str n) := by
  refine hp_w k116_eq ?_
  simp only [k116]
  obtain ⟨a, er⟩ := s
  obtain ⟨h1, h2, h3⟩ := h
  simp only at h2 h3
  have hha : ((0 : Int) ≤ (a : Int)) = True := eq_true (by omega)
  unfold rT
  by_cases he : er = 0
  · subst he
    have hi := rtaketext_ok (bs.drop a) (hb.drop a) (by rw [List.length_drop]; omega)
    have hp := tT_pos (bs.drop a)
    generalize tT (bs.drop a) = q at hi hp ⊢
    obtain ⟨n, u, e⟩ := q
    simp only at hi hp ⊢
    rw [List.length_drop] at hp
    have hw : IntKind.i64.wrap ((a : Int) + u) = ((a + u.toNat : Nat) : Int) := by rw [wrap_i64 (by omega) (by omega)]; omega
    repeat' (first | (simp -implicitDefEqProofs only [ze, zd, simprocAttr, h3, bv_len, bv_all, bv_dp, hi]) | (with_reducible refine W_itn_cases ?_ ?_; omega))
    refine qd_i ?_ ?_
    · simp [recsOk, ordB, Rec.free, Rec.wr, disj, List.range, List.range.loop]; try decide
    · repeat' (first | (simp -implicitDefEqProofs only [ze, zd, simprocAttr, h3, hw]) | (with_reducible refine wgd_cases ?_ ?_ <;> intro hb) | (with_reducible refine wcond_cases ?_ ?_ <;> intro hb) | (with_reducible refine qd_i (by kernel_rfl) ?_) | (with_reducible refine W_itn_cases ?_ ?_; omega))
      exact ⟨_, _, _, rfl, by omega, fun i g1 g2 => by rw [upd_at, if_neg g2, upd_at, if_neg g2], ⟨by omega, by simp only; omega, by rw [upd_at, if_pos rfl]⟩, rfl⟩
  · have hd : decide (er = 0) = false := decide_eq_false he
    repeat' (first | (simp -implicitDefEqProofs only [ze, zd, simprocAttr, h3, hd]) | (with_reducible refine wgd_cases ?_ ?_ <;> intro hb) | (with_reducible refine wcond_cases ?_ ?_ <;> intro hb) | (with_reducible refine qd_i (by kernel_rfl) ?_) | (with_reducible refine W_itn_cases ?_ ?_; omega))
    rw [if_neg he]
    exact ⟨_, _, _, rfl, by omega, KeepX.refl _ _ _, ⟨by omega, h2, h3⟩, rfl⟩
theorem rcount_ok {st : St} {nx id : Nat} {bs : List Int} {rr : Nat} {s : Nat × Int} (h : Rd st nx id bs rr s) (hb : bOK bs) (hl : bs.length < 4611686018427387904) (most : Int) :
    W (L.hp 117 [.ptr id 0, .i64 most] st nx) (RP st nx id bs rr (rC most bs s) fun n v _ _ => v = .i64 n) := by
  refine hp_w k117_eq ?_
  simp only [k117]
  repeat' (first | (simp -implicitDefEqProofs only [ze, zd, simprocAttr]) | (with_reducible refine wgd_cases ?_ ?_ <;> intro hb) | (with_reducible refine wcond_cases ?_ ?_ <;> intro hb) | (with_reducible refine qd_i (by kernel_rfl) ?_) | (with_reducible refine W_itn_cases ?_ ?_; omega))
  refine W_hp (rint_ok (h.le (Nat.le_add_right _ _)) hb hl) ?_
  rintro _ ⟨v, s1, n1, rfl, hn1, hk, hd, rfl⟩
  unfold rC
  generalize rI bs s = q at hd ⊢
  obtain ⟨n, a, er⟩ := q
  obtain ⟨h1, h2, h3⟩ := hd
  simp only at h2 h3 ⊢
  by_cases he : er = 0
  · subst he
    by_cases hn : n < 0 ∨ most < n
    · repeat' (first | (simp -implicitDefEqProofs only [ze, zd, simprocAttr, h3]) | (with_reducible refine wgd_cases ?_ ?_ <;> intro hb) | (with_reducible refine wcond_cases ?_ ?_ <;> intro hb) | (with_reducible refine qd_i (by kernel_rfl) ?_) | (with_reducible refine W_itn_cases ?_ ?_; omega))
      all_goals (simp only [decide_eq_true_eq, decide_eq_false_iff_not] at *)
      all_goals (try (exfalso; omega))
      all_goals (rw [if_pos hn]; exact ⟨_, _, _, rfl, by omega, fun i g1 g2 => by rw [upd_at, if_neg g2]; exact hk i (by omega) g2, ⟨by omega, h2, by rw [upd_at, if_pos rfl]⟩, rfl⟩)
    · have d1 : decide (n < 0) = false := decide_eq_false (by omega)
      have d2 : decide (most < n) = false := decide_eq_false (by omega)
      repeat' (first | (simp -implicitDefEqProofs only [ze, zd, simprocAttr, h3, d1, d2]) | (with_reducible refine wgd_cases ?_ ?_ <;> intro hb) | (with_reducible refine wcond_cases ?_ ?_ <;> intro hb) | (with_reducible refine qd_i (by kernel_rfl) ?_) | (with_reducible refine W_itn_cases ?_ ?_; omega))
      rw [if_neg hn]
      exact ⟨_, _, _, rfl, by omega, fun i g1 g2 => hk i (by omega) g2, ⟨by omega, h2, h3⟩, rfl⟩
  · have hd : decide (er = 0) = false := decide_eq_false he
    repeat' (first | (simp -implicitDefEqProofs only [ze, zd, simprocAttr, h3, hd]) | (with_reducible refine wgd_cases ?_ ?_ <;> intro hb) | (with_reducible refine wcond_cases ?_ ?_ <;> intro hb) | (with_reducible refine qd_i (by kernel_rfl) ?_) | (with_reducible refine W_itn_cases ?_ ?_; omega))
    rw [if_neg he]
    exact ⟨_, _, _, rfl, by omega, fun i g1 g2 => hk i (by omega) g2, ⟨by omega, h2, h3⟩, rfl⟩
end Go.Proofs.YtaefaadjncehmaaGreatDoor.Vm
set_option maxRecDepth 10000
set_option linter.unusedVariables false
set_option linter.unusedSimpArgs false
namespace Go.Proofs.YtaefaadjncehmaaGreatDoor.Vm
open Go Go.Proofs
def bindR {α β : Type} (X : Nat × Int → α × Nat × Int) (Y : α → Nat × Int → β × Nat × Int) (s : Nat × Int) : β × Nat × Int := Y (X s).1 (X s).2
def rTags (bs : List Int) : Nat → List Tag → Nat × Int → List Tag × Nat × Int
  | 0, acc => fun s => (acc, s)
  | n + 1, acc => bindR (rT bs) fun x => bindR (rT bs) fun y => rTags bs n (acc ++ [⟨x, y⟩])
def rLine (bs : List Int) : Nat × Int → Line × Nat × Int :=
  bindR (rT bs) fun acc => bindR (rT bs) fun cur => bindR (rI bs) fun amt => bindR (rI bs) fun base => bindR (rT bs) fun par => bindR (rT bs) fun pty => bindR (rC 6 bs) fun n => bindR (rTags bs n.toNat []) fun tags s => (⟨acc, cur, amt, base, par, pty, tags, tags.isEmpty⟩, s)
theorem rC_le {bs : List Int} {most : Int} {s : Nat × Int} {q : Int × Nat × Int} (h : rC most bs s = q) (hm : 0 ≤ most) : 0 ≤ q.1 ∧ q.1 ≤ most := by
  subst h
  unfold rC
  split
  · split
    · simp only; omega
    · omega
  · simp only; omega
theorem rdline_ok {st : St} {nx id : Nat} {bs : List Int} {rr : Nat} {s : Nat × Int} (h : Rd st nx id bs rr s) (hb : bOK bs) (hl : bs.length < 4611686018427387904) :
    W (L.hp 118 [.ptr id 0] st nx) (RP st nx id bs rr (rLine bs s) lineQ) := by
  refine hp_w k118_eq ?_
  simp only [k118]
  have hid := h.1
  repeat' (first | (simp -implicitDefEqProofs only [ze, zd, simprocAttr]) | (with_reducible refine wgd_cases ?_ ?_ <;> intro hb) | (with_reducible refine wcond_cases ?_ ?_ <;> intro hb) | (with_reducible refine qd_i (by kernel_rfl) ?_) | (with_reducible refine W_itn_cases ?_ ?_; omega))
  refine W_hp (rtext2_ok ((((h.upd (j := nx) (by omega) (Nat.le_refl _) _).upd (j := nx + 16) (by omega) (Nat.le_refl _) _).upd (j := nx + 16) (by omega) (Nat.le_refl _) _).le (by omega)) hb hl) ?_
  rintro _ ⟨v, s1, n1, rfl, hn1, hk, hd, rfl⟩
  generalize hq1 : rT bs s = q1 at hd ⊢
  have kk : KeepX st s1 nx id := ((((KeepX.refl st nx id).upd (j := nx) (by omega) _).upd (j := nx + 16) (by omega) _).upd (j := nx + 16) (by omega) _).trans hk (by omega)
  have hO := (hk (nx + 16) (by omega) (by omega)).trans (by rw [upd_at, if_pos rfl])
  have hR := (hk (nx) (by omega) (by omega)).trans (by rw [upd_at, if_neg (by omega), upd_at, if_neg (by omega), upd_at, if_pos rfl])
  clear hk
  repeat' (first | (simp -implicitDefEqProofs only [ze, zd, simprocAttr, hO]) | (with_reducible refine wgd_cases ?_ ?_ <;> intro hb) | (with_reducible refine wcond_cases ?_ ?_ <;> intro hb) | (with_reducible refine qd_i (by kernel_rfl) ?_) | (with_reducible refine W_itn_cases ?_ ?_; omega))
  refine W_hp (rtext2_ok ((hd.upd (j := nx + 16) (by omega) (Nat.le_refl _) _).le (by omega)) hb hl) ?_
  clear hd
  rintro _ ⟨v, s2, n2, rfl, hn2, hk, hd, rfl⟩
  generalize hq2 : rT bs q1.2 = q2 at hd ⊢
  replace kk := (kk.upd (j := nx + 16) (by omega) _).trans hk (by omega)
  replace hO := (hk (nx + 16) (by omega) (by omega)).trans (by rw [upd_at, if_pos rfl])
  replace hR := (hk (nx) (by omega) (by omega)).trans (Eq.trans (by rw [upd_at, if_neg (by omega)]) hR)
  clear hk
  repeat' (first | (simp -implicitDefEqProofs only [ze, zd, simprocAttr, hO]) | (with_reducible refine wgd_cases ?_ ?_ <;> intro hb) | (with_reducible refine wcond_cases ?_ ?_ <;> intro hb) | (with_reducible refine qd_i (by kernel_rfl) ?_) | (with_reducible refine W_itn_cases ?_ ?_; omega))
  refine W_hp (rint_ok ((hd.upd (j := nx + 16) (by omega) (Nat.le_refl _) _).le (by omega)) hb hl) ?_
  clear hd
  rintro _ ⟨v, s3, n3, rfl, hn3, hk, hd, rfl⟩
  generalize hq3 : rI bs q2.2 = q3 at hd ⊢
  replace kk := (kk.upd (j := nx + 16) (by omega) _).trans hk (by omega)
  replace hO := (hk (nx + 16) (by omega) (by omega)).trans (by rw [upd_at, if_pos rfl])
  replace hR := (hk (nx) (by omega) (by omega)).trans (Eq.trans (by rw [upd_at, if_neg (by omega)]) hR)
  clear hk
  repeat' (first | (simp -implicitDefEqProofs only [ze, zd, simprocAttr, hO]) | (with_reducible refine wgd_cases ?_ ?_ <;> intro hb) | (with_reducible refine wcond_cases ?_ ?_ <;> intro hb) | (with_reducible refine qd_i (by kernel_rfl) ?_) | (with_reducible refine W_itn_cases ?_ ?_; omega))
  refine W_hp (rint_ok ((hd.upd (j := nx + 16) (by omega) (Nat.le_refl _) _).le (by omega)) hb hl) ?_
  clear hd
  rintro _ ⟨v, s4, n4, rfl, hn4, hk, hd, rfl⟩
  generalize hq4 : rI bs q3.2 = q4 at hd ⊢
  replace kk := (kk.upd (j := nx + 16) (by omega) _).trans hk (by omega)
  replace hO := (hk (nx + 16) (by omega) (by omega)).trans (by rw [upd_at, if_pos rfl])
  replace hR := (hk (nx) (by omega) (by omega)).trans (Eq.trans (by rw [upd_at, if_neg (by omega)]) hR)
  clear hk
  repeat' (first | (simp -implicitDefEqProofs only [ze, zd, simprocAttr, hO]) | (with_reducible refine wgd_cases ?_ ?_ <;> intro hb) | (with_reducible refine wcond_cases ?_ ?_ <;> intro hb) | (with_reducible refine qd_i (by kernel_rfl) ?_) | (with_reducible refine W_itn_cases ?_ ?_; omega))
  refine W_hp (rtext2_ok ((hd.upd (j := nx + 16) (by omega) (Nat.le_refl _) _).le (by omega)) hb hl) ?_
  clear hd
  rintro _ ⟨v, s5, n5, rfl, hn5, hk, hd, rfl⟩
  generalize hq5 : rT bs q4.2 = q5 at hd ⊢
  replace kk := (kk.upd (j := nx + 16) (by omega) _).trans hk (by omega)
  replace hO := (hk (nx + 16) (by omega) (by omega)).trans (by rw [upd_at, if_pos rfl])
  replace hR := (hk (nx) (by omega) (by omega)).trans (Eq.trans (by rw [upd_at, if_neg (by omega)]) hR)
  clear hk
  repeat' (first | (simp -implicitDefEqProofs only [ze, zd, simprocAttr, hO]) | (with_reducible refine wgd_cases ?_ ?_ <;> intro hb) | (with_reducible refine wcond_cases ?_ ?_ <;> intro hb) | (with_reducible refine qd_i (by kernel_rfl) ?_) | (with_reducible refine W_itn_cases ?_ ?_; omega))
  refine W_hp (rtext2_ok ((hd.upd (j := nx + 16) (by omega) (Nat.le_refl _) _).le (by omega)) hb hl) ?_
  clear hd
  rintro _ ⟨v, s6, n6, rfl, hn6, hk, hd, rfl⟩
  generalize hq6 : rT bs q5.2 = q6 at hd ⊢
  replace kk := (kk.upd (j := nx + 16) (by omega) _).trans hk (by omega)
  replace hO := (hk (nx + 16) (by omega) (by omega)).trans (by rw [upd_at, if_pos rfl])
  replace hR := (hk (nx) (by omega) (by omega)).trans (Eq.trans (by rw [upd_at, if_neg (by omega)]) hR)
  clear hk
  repeat' (first | (simp -implicitDefEqProofs only [ze, zd, simprocAttr, hO]) | (with_reducible refine wgd_cases ?_ ?_ <;> intro hb) | (with_reducible refine wcond_cases ?_ ?_ <;> intro hb) | (with_reducible refine qd_i (by kernel_rfl) ?_) | (with_reducible refine W_itn_cases ?_ ?_; omega))
  refine W_hp (rcount_ok ((hd.upd (j := nx + 16) (by omega) (Nat.le_refl _) _).le (by omega)) hb hl 6) ?_
  clear hd
  rintro _ ⟨v, s7, n7, rfl, hn7, hk, hd, rfl⟩
  generalize hq7 : rC 6 bs q6.2 = q7 at hd ⊢
  replace kk := (kk.upd (j := nx + 16) (by omega) _).trans hk (by omega)
  replace hO := (hk (nx + 16) (by omega) (by omega)).trans (by rw [upd_at, if_pos rfl])
  replace hR := (hk (nx) (by omega) (by omega)).trans (Eq.trans (by rw [upd_at, if_neg (by omega)]) hR)
  clear hk
  repeat' (first | (simp -implicitDefEqProofs only [ze, zd, simprocAttr, hO]) | (with_reducible refine wgd_cases ?_ ?_ <;> intro hb) | (with_reducible refine wcond_cases ?_ ?_ <;> intro hb) | (with_reducible refine qd_i (by kernel_rfl) ?_) | (with_reducible refine W_itn_cases ?_ ?_; omega))
  obtain ⟨hc0, hc1⟩ := rC_le hq7 (by omega)
  refine loop_w (fun m tm st' nx' => ∃ (i : Nat) (acc : List Tag) (si : Nat × Int) (vt : V), m = q7.1.toNat - i ∧ i ≤ q7.1.toNat ∧ acc.length = i ∧ rTags bs q7.1.toNat [] q7.2 = rTags bs (q7.1.toNat - i) acc si ∧ tm 5 = .i64 i ∧ tm 4 = .i64 q7.1 ∧ tm 0 = .ptr id 0 ∧ tm 2 = .ptr nx 0 ∧ tm 3 = .ptr (nx + 16) 0 ∧ nx + 32 ≤ nx' ∧ KeepX st st' nx id ∧
      st' (nx + 16) = some (.cells [.str q1.1, .str q2.1, .i64 q3.1, .i64 q4.1, .str q5.1, .str q6.1, vt]) ∧ st' nx = some (.cells [V.sc (Value.string (ByteArray.mk #[])), V.sc (Value.string (ByteArray.mk #[])), V.sc (Value.int IntKind.i64 0), V.sc (Value.int IntKind.i64 0), V.sc (Value.string (ByteArray.mk #[])), V.sc (Value.string (ByteArray.mk #[])), V.list 0 [] 1]) ∧ Rd st' nx' id bs rr si ∧ GrowN st' (nx + 16) nx' 202 (acc.map encT) vt) q7.1.toNat ⟨0, [], q7.2, .list 0 [] 1, by omega, by omega, rfl, rfl, ?_, ?_, ?_, ?_, ?_, by omega, kk, hO, hR, hd.le (by omega), .inl ⟨rfl, rfl⟩⟩ ?_
  · simp -implicitDefEqProofs only [ze, zd, simprocAttr]; try rfl
  · simp -implicitDefEqProofs only [ze, zd, simprocAttr]
  · simp -implicitDefEqProofs only [ze, zd, simprocAttr]
  · simp -implicitDefEqProofs only [ze, zd, simprocAttr]
  · simp -implicitDefEqProofs only [ze, zd, simprocAttr]
  clear hd kk hO hR
  rintro m tm st' nx' ⟨i, acc, si, vt, hm, hi, hacc, hdt, h5, h4, h0, h2, h3, hnx, kk, hO, hR, hD, hg⟩
  simp only [k118_l0]
  have hne : id ≠ nx := by omega
  have hne' : id ≠ nx + 16 := by omega
  by_cases hlt : i < q7.1.toNat
  · have hd : decide ((i : Int) < q7.1) = true := decide_eq_true (by omega)
    obtain ⟨k, hki⟩ : ∃ k, q7.1.toNat - i = k + 1 := ⟨q7.1.toNat - i - 1, by omega⟩
    rw [hki] at hdt
    have hidn := hD.1
    repeat' (first | (simp -implicitDefEqProofs only [ze, zd, simprocAttr, h5, h4, h0, h2, h3, hd]) | (with_reducible refine wgd_cases ?_ ?_ <;> intro hb) | (with_reducible refine wcond_cases ?_ ?_ <;> intro hb) | (with_reducible refine qd_i (by kernel_rfl) ?_) | (with_reducible refine W_itn_cases ?_ ?_; omega))
    refine W_hp (rtext2_ok (((hD.upd (j := nx' + 32) (by omega) (Nat.le_refl _) _).upd (j := nx' + 32) (by omega) (Nat.le_refl _) _).le (by omega)) hb hl) ?_
    rintro _ ⟨v, sa, na, rfl, hna, hka, hDa, rfl⟩
    have hOa := (hka (nx + 16) (by omega) (by omega)).trans (Eq.trans (by rw [upd_at, if_neg (by omega), upd_at, if_neg (by omega)]) hO)
    have hRa := (hka nx (by omega) (by omega)).trans (Eq.trans (by rw [upd_at, if_neg (by omega), upd_at, if_neg (by omega)]) hR)
    have hPa := (hka (nx' + 32) (by omega) (by omega)).trans (by rw [upd_at, if_pos rfl])
    have kka := ((kk.upd (j := nx' + 32) (by omega) _).upd (j := nx' + 32) (by omega) _).trans hka (by omega)
    repeat' (first | (simp -implicitDefEqProofs only [ze, zd, simprocAttr, hPa, h5, h4, h0, h2, h3]) | (with_reducible refine wgd_cases ?_ ?_ <;> intro hb) | (with_reducible refine wcond_cases ?_ ?_ <;> intro hb) | (with_reducible refine qd_i (by kernel_rfl) ?_) | (with_reducible refine W_itn_cases ?_ ?_; omega))
    refine W_hp (rtext2_ok ((hDa.upd (j := nx' + 32) (by omega) (Nat.le_refl _) _).le (by omega)) hb hl) ?_
    rintro _ ⟨v, sb, nb, rfl, hnb, hkb, hDb, rfl⟩
    have hOb := (hkb (nx + 16) (by omega) (by omega)).trans (Eq.trans (by rw [upd_at, if_neg (by omega)]) hOa)
    have hRb := (hkb nx (by omega) (by omega)).trans (Eq.trans (by rw [upd_at, if_neg (by omega)]) hRa)
    have hPb := (hkb (nx' + 32) (by omega) (by omega)).trans (by rw [upd_at, if_pos rfl])
    have kkb := (kka.upd (j := nx' + 32) (by omega) _).trans hkb (by omega)
    have f1 : (nx + 16 = nx' + 32) = False := eq_false (by omega)
    have f2 : ∀ j, (nx + 16 = nb + j) = False := fun j => eq_false (by omega)
    have f3 : ∀ j, (nx' + 32 = nb + j) = False := fun j => eq_false (by omega)
    have f4 : (nx' + 32 = nx + 16) = False := eq_false (by omega)
    rcases hg with ⟨hb0, rfl⟩ | ⟨hb1, r, hr0, hr8, hrn, rfl, hst⟩
    · repeat' (first | (simp -implicitDefEqProofs only [ze, zd, simprocAttr, hOb, hPb, f1, f2, f3, f4, h5, h4, h0, h2, h3]) | (with_reducible refine wgd_cases ?_ ?_ <;> intro hb) | (with_reducible refine wcond_cases ?_ ?_ <;> intro hb) | (with_reducible refine qd_i (by kernel_rfl) ?_) | (with_reducible refine W_itn_cases ?_ ?_; omega))
      have hacc0 : acc = [] := by simpa using hb0
      subst hacc0
      have hi0 : i = 0 := hacc.symm
      subst hi0
      refine ⟨q7.1.toNat - 1, by omega, 1, [⟨(rT bs si).1, (rT bs (rT bs si).2).1⟩], _, _, rfl, by omega, rfl, ?_, up64 (by omega), by omega, (((kkb.upd (by omega) _).upd (by omega) _).upd (by omega) _).upd (by omega) _, rfl, ?_,
        ((((hDb.upd (by omega) (Nat.le_refl _) _).upd (by omega) (Nat.le_refl _) _).upd (by omega) (Nat.le_refl _) _).upd hne' (by omega) _), .inr ⟨by simp, nb + 32, by omega, by omega, by omega, rfl, ?_⟩⟩
      · rw [hdt, show q7.1.toNat - 1 = k by omega]; simp only [rTags, bindR, List.nil_append]
      · rw [if_neg (by omega), if_neg (by omega), if_neg (by omega), if_neg (by omega)]; exact hRb
      · rw [upd_at, if_neg (by omega), upd_at, if_pos rfl]; rfl
    · have hstb := (hkb r (by omega) (by omega)).trans (Eq.trans (by rw [upd_at, if_neg (by omega)]) ((hka r (by omega) (by omega)).trans (Eq.trans (by rw [upd_at, if_neg (by omega), upd_at, if_neg (by omega)]) hst)))
      have g1 : (r = 0) = False := eq_false (by omega)
      have g2 : (r = 1) = False := eq_false (by omega)
      have g3 : ∀ j, (r = nb + j) = False := fun j => eq_false (by omega)
      have g4 : (r = nx' + 32) = False := eq_false (by omega)
      have g5 : (nx + 16 = r) = False := eq_false (by omega)
      have g6 : (nx' + 32 = r) = False := eq_false (by omega)
      repeat' (first | (simp -implicitDefEqProofs only [ze, zd, simprocAttr, hOb, hPb, hstb, f1, f2, f3, f4, g1, g2, g3, g4, g5, g6, h5, h4, h0, h2, h3, List.length_map]) | (with_reducible refine wgd_cases ?_ ?_ <;> intro hb) | (with_reducible refine wcond_cases ?_ ?_ <;> intro hb) | (with_reducible refine qd_i (by kernel_rfl) ?_) | (with_reducible refine W_itn_cases ?_ ?_; omega))
      refine ⟨q7.1.toNat - (i + 1), by omega, i + 1, acc ++ [⟨(rT bs si).1, (rT bs (rT bs si).2).1⟩], _, _, rfl, by omega, by simp [hacc], ?_, up64 (by omega), by omega, (((kkb.upd (by omega) _).upd (by omega) _).upd (by omega) _).upd (by omega) _, rfl, ?_,
        ((((hDb.upd (by omega) (Nat.le_refl _) _).upd (by omega) (Nat.le_refl _) _).upd (by omega) (Nat.le_refl _) _).upd hne' (by omega) _), .inr ⟨by simp, r, by omega, by omega, by omega, by simp [encT], ?_⟩⟩
      · rw [hdt, show q7.1.toNat - (i + 1) = k by omega]; simp only [rTags, bindR]
      · rw [if_neg (by omega), if_neg (by omega), if_neg (by omega), if_neg (by omega)]; exact hRb
      · rw [upd_at, if_neg (by omega), upd_at, if_pos rfl]; simp
  · have hd : decide ((i : Int) < q7.1) = false := decide_eq_false (by omega)
    have hin : i = q7.1.toNat := by omega
    rw [hin, Nat.sub_self] at hdt
    have e0 : rLine bs s = (⟨q1.1, q2.1, q3.1, q4.1, q5.1, q6.1, acc, acc.isEmpty⟩, si) := by simp only [rLine, bindR, hq1, hq2, hq3, hq4, hq5, hq6, hq7, hdt, rTags]
    rcases hg with ⟨hb0, rfl⟩ | ⟨hb1, r, hr0, hr8, hrn, rfl, hst⟩
    · repeat' (first | (simp -implicitDefEqProofs only [ze, zd, simprocAttr, h5, h4, h0, h2, h3, hd, k118_t0, hO, hR]) | (with_reducible refine wgd_cases ?_ ?_ <;> intro hb) | (with_reducible refine wcond_cases ?_ ?_ <;> intro hb) | (with_reducible refine qd_i (by kernel_rfl) ?_) | (with_reducible refine W_itn_cases ?_ ?_; omega))
      rw [e0]
      exact ⟨_, _, _, rfl, by omega, kk.upd (Nat.le_refl _) _, (hD.upd hne (by omega) _), _, .inl ⟨hb0, rfl⟩, rfl, rfl⟩
    · repeat' (first | (simp -implicitDefEqProofs only [ze, zd, simprocAttr, h5, h4, h0, h2, h3, hd, k118_t0, hO, hR]) | (with_reducible refine wgd_cases ?_ ?_ <;> intro hb) | (with_reducible refine wcond_cases ?_ ?_ <;> intro hb) | (with_reducible refine qd_i (by kernel_rfl) ?_) | (with_reducible refine W_itn_cases ?_ ?_; omega))
      rw [e0]
      exact ⟨_, _, _, rfl, by omega, kk.upd (Nat.le_refl _) _, (hD.upd hne (by omega) _), _, .inr ⟨hb1, r, hr8, rfl⟩, rfl, rfl⟩
end Go.Proofs.YtaefaadjncehmaaGreatDoor.Vm
set_option maxRecDepth 10000
set_option linter.unusedVariables false
set_option linter.unusedSimpArgs false
namespace Go.Proofs.YtaefaadjncehmaaGreatDoor.Vm
open Go Go.Proofs
def rLines (bs : List Int) : Nat → List Line → Nat × Int → List Line × Nat × Int
  | 0, acc => fun s => (acc, s)
  | n + 1, acc => bindR (rLine bs) fun x => rLines bs n (acc ++ [x])
def rEntry (bs : List Int) : Nat × Int → Entry × Nat × Int :=
  bindR (rI bs) fun no => bindR (rT bs) fun ent => bindR (rI bs) fun book => bindR (rI bs) fun val => bindR (rI bs) fun kind => bindR (rT bs) fun ref => bindR (rT bs) fun who => bindR (rI bs) fun rev => bindR (rC 100 bs) fun n => bindR (rLines bs n.toNat []) fun lines s => (⟨no, ent, book, val, kind, ref, who, rev, lines, lines.isEmpty⟩, s)
structure Rel {α : Type} (X : Nat × Int → α × Nat × Int) (D : Nat → Except Int (α × Nat)) : Prop where
  stuck : ∀ s, s.2 ≠ 0 → (X s).2.2 = s.2
  ok : ∀ a p, D a = .ok p → X (a, 0) = (p.1, p.2, 0)
  bad : ∀ a e, D a = .error e → (X (a, 0)).2.2 = e ∧ e ≠ 0
theorem Rel.pure {α : Type} (x : α) : Rel (fun s => (x, s)) (fun a => .ok (x, a)) := ⟨fun _ _ => rfl, fun a p h => by obtain rfl := Except.ok.inj h; rfl, fun a e h => by cases h⟩
theorem Rel.bind {α β : Type} {X : Nat × Int → α × Nat × Int} {D : Nat → Except Int (α × Nat)} {Y : α → Nat × Int → β × Nat × Int} {F : α → Nat → Except Int (β × Nat)} (h : Rel X D) (k : ∀ x, Rel (Y x) (F x)) : Rel (bindR X Y) (fun a => bindD (D a) F) := by
  refine ⟨fun s hs => ?_, fun a p hp => ?_, fun a e he => ?_⟩ <;> unfold bindR
  · rw [(k _).stuck _ (by rw [h.stuck s hs]; exact hs), h.stuck s hs]
  · obtain ⟨q, h1, h2⟩ := bindD_inv hp
    rw [h.ok a q h1]; exact (k _).ok _ _ h2
  · cases hd : D a with
    | error e' =>
      rw [hd] at he
      obtain rfl : e' = e := Except.error.inj he
      obtain ⟨g1, g2⟩ := h.bad a e' hd
      exact ⟨by rw [(k _).stuck _ (by rw [g1]; exact g2), g1], g2⟩
    | ok q =>
      rw [hd] at he
      rw [h.ok a q hd]; exact (k _).bad _ _ he
theorem rel_I (bs : List Int) : Rel (rI bs) (dInt bs) := by
  refine ⟨fun s hs => by rw [rI, if_neg hs], fun a p hp => ?_, fun a e he => ?_⟩
  · unfold dInt at hp
    split at hp
    · rename_i h0; obtain rfl := Except.ok.inj hp; simp only [rI, if_true, h0]
    · cases hp
  · unfold dInt at he
    split at he
    · cases he
    · rename_i h0; obtain rfl := Except.error.inj he; exact ⟨by simp only [rI, if_true], h0⟩
theorem rel_T (bs : List Int) : Rel (rT bs) (dText bs) := by
  refine ⟨fun s hs => by rw [rT, if_neg hs], fun a p hp => ?_, fun a e he => ?_⟩
  · unfold dText at hp
    split at hp
    · rename_i h0; obtain rfl := Except.ok.inj hp; simp only [rT, if_true, h0]
    · cases hp
  · unfold dText at he
    split at he
    · cases he
    · rename_i h0; obtain rfl := Except.error.inj he; exact ⟨by simp only [rT, if_true], h0⟩
theorem rel_C (most : Int) (bs : List Int) : Rel (rC most bs) (dCount most bs) := by
  refine ⟨fun s hs => ?_, fun a p hp => ?_, fun a e he => ?_⟩
  · have h1 := (rel_I bs).stuck s hs
    rw [rC, if_neg (by rw [h1]; exact hs), h1]
  · unfold dCount at hp
    split at hp
    · cases hp
    · rename_i q hq
      have h1 := (rel_I bs).ok a q hq
      split at hp
      · cases hp
      · rename_i hc
        obtain rfl := Except.ok.inj hp
        rw [rC, h1, if_pos rfl, if_neg hc]
  · unfold dCount at he
    split at he
    · rename_i e' hq
      obtain rfl := Except.error.inj he
      obtain ⟨g1, g2⟩ := (rel_I bs).bad a e' hq
      rw [rC, if_neg (by rw [g1]; exact g2)]
      exact ⟨g1, g2⟩
    · rename_i q hq
      have h1 := (rel_I bs).ok a q hq
      split at he
      · rename_i hc
        obtain rfl := Except.error.inj he
        rw [rC, h1, if_pos rfl, if_pos hc]
        exact ⟨rfl, by decide⟩
      · cases he
theorem rel_Tags (bs : List Int) : ∀ (n : Nat) (acc : List Tag), Rel (rTags bs n acc) (dTags bs n acc)
  | 0, acc => Rel.pure acc
  | n + 1, acc => (rel_T bs).bind fun x => (rel_T bs).bind fun y => rel_Tags bs n (acc ++ [⟨x, y⟩])
theorem rel_Line (bs : List Int) : Rel (rLine bs) (dLine bs) :=
  (rel_T bs).bind fun acc => (rel_T bs).bind fun cur => (rel_I bs).bind fun amt => (rel_I bs).bind fun base => (rel_T bs).bind fun par => (rel_T bs).bind fun pty => (rel_C 6 bs).bind fun n => (rel_Tags bs n.toNat []).bind fun tags => Rel.pure _
theorem rel_Lines (bs : List Int) : ∀ (n : Nat) (acc : List Line), Rel (rLines bs n acc) (dLines bs n acc)
  | 0, acc => Rel.pure acc
  | n + 1, acc => (rel_Line bs).bind fun x => rel_Lines bs n (acc ++ [x])
theorem rel_Entry (bs : List Int) : Rel (rEntry bs) (dEntry bs) :=
  (rel_I bs).bind fun no => (rel_T bs).bind fun ent => (rel_I bs).bind fun book => (rel_I bs).bind fun val => (rel_I bs).bind fun kind => (rel_T bs).bind fun ref => (rel_T bs).bind fun who => (rel_I bs).bind fun rev => (rel_C 100 bs).bind fun n => (rel_Lines bs n.toNat []).bind fun lines => Rel.pure _
theorem rtake_ok (bs : List Int) (hb : bOK bs) (hl : bs.length < 4611686018427387904) (r : Nat) : L.pl 62 [.list 5 (bv bs) r] = some (.ret (.tup [encE (takeS bs).1, .i64 (takeS bs).2.1, .i64 (takeS bs).2.2])) := by
  refine W_of (pl_w k62_eq ?_)
  simp only [k62]
  repeat' (first | (simp -implicitDefEqProofs only [ze, zd, simprocAttr, ne_eq, not_true_eq_false, gt_iff_lt]) | (with_reducible refine wgd_cases ?_ ?_ <;> intro hb) | (with_reducible refine wcond_cases ?_ ?_ <;> intro hb) | (with_reducible refine qd_i (by kernel_rfl) ?_) | (with_reducible refine W_itn_cases ?_ ?_; omega))
  have hd0 : Rd (upd (upd (upd (upd (fun _ => none) 8 (some (.cells [V.sc (Value.int IntKind.i64 0), V.sc (Value.string (ByteArray.mk #[])), V.sc (Value.int IntKind.i64 0), V.sc (Value.int IntKind.i64 0), V.sc (Value.int IntKind.i64 0), V.sc (Value.string (ByteArray.mk #[])), V.sc (Value.string (ByteArray.mk #[])), V.sc (Value.int IntKind.i64 0), V.list 0 [] 1]))) 48 (some (.cells [.list 5 (bv bs) r, .i64 0, .i64 0]))) 72 (some (.cells [V.sc (Value.int IntKind.i64 0), V.sc (Value.string (ByteArray.mk #[])), V.sc (Value.int IntKind.i64 0), V.sc (Value.int IntKind.i64 0), V.sc (Value.int IntKind.i64 0), V.sc (Value.string (ByteArray.mk #[])), V.sc (Value.string (ByteArray.mk #[])), V.sc (Value.int IntKind.i64 0), V.list 0 [] 1]))) 72 (some (.cells [V.sc (Value.int IntKind.i64 0), V.sc (Value.string (ByteArray.mk #[])), V.sc (Value.int IntKind.i64 0), V.sc (Value.int IntKind.i64 0), V.sc (Value.int IntKind.i64 0), V.sc (Value.string (ByteArray.mk #[])), V.sc (Value.string (ByteArray.mk #[])), V.sc (Value.int IntKind.i64 0), V.list 0 [] 1]))) 88 48 bs r (0, 0) := ⟨by omega, by simp, by rw [upd_at, if_neg (by omega), upd_at, if_neg (by omega), upd_at, if_pos rfl]; rfl⟩
  refine W_hp (rint_ok (hd0.le (by omega)) hb hl) ?_
  rintro _ ⟨v, s1, n1, rfl, hn1, hk, hd, rfl⟩
  generalize hq1 : rI bs ((0, 0) : Nat × Int) = q1 at hd ⊢
  have hO := (hk 72 (by omega) (by omega)).trans (by rw [upd_at, if_pos rfl])
  have hR := (hk 8 (by omega) (by omega)).trans (by rw [upd_at, if_neg (by omega), upd_at, if_neg (by omega), upd_at, if_neg (by omega), upd_at, if_pos rfl])
  clear hk
  repeat' (first | (simp -implicitDefEqProofs only [ze, zd, simprocAttr, hO]) | (with_reducible refine wgd_cases ?_ ?_ <;> intro hb) | (with_reducible refine wcond_cases ?_ ?_ <;> intro hb) | (with_reducible refine qd_i (by kernel_rfl) ?_) | (with_reducible refine W_itn_cases ?_ ?_; omega))
  refine W_hp (rtext2_ok ((hd.upd (j := 72) (by omega) (Nat.le_refl _) _).le (by omega)) hb hl) ?_
  clear hd
  rintro _ ⟨v, s2, n2, rfl, hn2, hk, hd, rfl⟩
  generalize hq2 : rT bs q1.2 = q2 at hd ⊢
  replace hO := (hk 72 (by omega) (by omega)).trans (by rw [upd_at, if_pos rfl])
  replace hR := (hk 8 (by omega) (by omega)).trans (Eq.trans (by rw [upd_at, if_neg (by omega)]) hR)
  clear hk
  repeat' (first | (simp -implicitDefEqProofs only [ze, zd, simprocAttr, hO]) | (with_reducible refine wgd_cases ?_ ?_ <;> intro hb) | (with_reducible refine wcond_cases ?_ ?_ <;> intro hb) | (with_reducible refine qd_i (by kernel_rfl) ?_) | (with_reducible refine W_itn_cases ?_ ?_; omega))
  refine W_hp (rint_ok ((hd.upd (j := 72) (by omega) (Nat.le_refl _) _).le (by omega)) hb hl) ?_
  clear hd
  rintro _ ⟨v, s3, n3, rfl, hn3, hk, hd, rfl⟩
  generalize hq3 : rI bs q2.2 = q3 at hd ⊢
  replace hO := (hk 72 (by omega) (by omega)).trans (by rw [upd_at, if_pos rfl])
  replace hR := (hk 8 (by omega) (by omega)).trans (Eq.trans (by rw [upd_at, if_neg (by omega)]) hR)
  clear hk
  repeat' (first | (simp -implicitDefEqProofs only [ze, zd, simprocAttr, hO]) | (with_reducible refine wgd_cases ?_ ?_ <;> intro hb) | (with_reducible refine wcond_cases ?_ ?_ <;> intro hb) | (with_reducible refine qd_i (by kernel_rfl) ?_) | (with_reducible refine W_itn_cases ?_ ?_; omega))
  refine W_hp (rint_ok ((hd.upd (j := 72) (by omega) (Nat.le_refl _) _).le (by omega)) hb hl) ?_
  clear hd
  rintro _ ⟨v, s4, n4, rfl, hn4, hk, hd, rfl⟩
  generalize hq4 : rI bs q3.2 = q4 at hd ⊢
  replace hO := (hk 72 (by omega) (by omega)).trans (by rw [upd_at, if_pos rfl])
  replace hR := (hk 8 (by omega) (by omega)).trans (Eq.trans (by rw [upd_at, if_neg (by omega)]) hR)
  clear hk
  repeat' (first | (simp -implicitDefEqProofs only [ze, zd, simprocAttr, hO]) | (with_reducible refine wgd_cases ?_ ?_ <;> intro hb) | (with_reducible refine wcond_cases ?_ ?_ <;> intro hb) | (with_reducible refine qd_i (by kernel_rfl) ?_) | (with_reducible refine W_itn_cases ?_ ?_; omega))
  refine W_hp (rint_ok ((hd.upd (j := 72) (by omega) (Nat.le_refl _) _).le (by omega)) hb hl) ?_
  clear hd
  rintro _ ⟨v, s5, n5, rfl, hn5, hk, hd, rfl⟩
  generalize hq5 : rI bs q4.2 = q5 at hd ⊢
  replace hO := (hk 72 (by omega) (by omega)).trans (by rw [upd_at, if_pos rfl])
  replace hR := (hk 8 (by omega) (by omega)).trans (Eq.trans (by rw [upd_at, if_neg (by omega)]) hR)
  clear hk
  repeat' (first | (simp -implicitDefEqProofs only [ze, zd, simprocAttr, hO]) | (with_reducible refine wgd_cases ?_ ?_ <;> intro hb) | (with_reducible refine wcond_cases ?_ ?_ <;> intro hb) | (with_reducible refine qd_i (by kernel_rfl) ?_) | (with_reducible refine W_itn_cases ?_ ?_; omega))
  refine W_hp (rtext2_ok ((hd.upd (j := 72) (by omega) (Nat.le_refl _) _).le (by omega)) hb hl) ?_
  clear hd
  rintro _ ⟨v, s6, n6, rfl, hn6, hk, hd, rfl⟩
  generalize hq6 : rT bs q5.2 = q6 at hd ⊢
  replace hO := (hk 72 (by omega) (by omega)).trans (by rw [upd_at, if_pos rfl])
  replace hR := (hk 8 (by omega) (by omega)).trans (Eq.trans (by rw [upd_at, if_neg (by omega)]) hR)
  clear hk
  repeat' (first | (simp -implicitDefEqProofs only [ze, zd, simprocAttr, hO]) | (with_reducible refine wgd_cases ?_ ?_ <;> intro hb) | (with_reducible refine wcond_cases ?_ ?_ <;> intro hb) | (with_reducible refine qd_i (by kernel_rfl) ?_) | (with_reducible refine W_itn_cases ?_ ?_; omega))
  refine W_hp (rtext2_ok ((hd.upd (j := 72) (by omega) (Nat.le_refl _) _).le (by omega)) hb hl) ?_
  clear hd
  rintro _ ⟨v, s7, n7, rfl, hn7, hk, hd, rfl⟩
  generalize hq7 : rT bs q6.2 = q7 at hd ⊢
  replace hO := (hk 72 (by omega) (by omega)).trans (by rw [upd_at, if_pos rfl])
  replace hR := (hk 8 (by omega) (by omega)).trans (Eq.trans (by rw [upd_at, if_neg (by omega)]) hR)
  clear hk
  repeat' (first | (simp -implicitDefEqProofs only [ze, zd, simprocAttr, hO]) | (with_reducible refine wgd_cases ?_ ?_ <;> intro hb) | (with_reducible refine wcond_cases ?_ ?_ <;> intro hb) | (with_reducible refine qd_i (by kernel_rfl) ?_) | (with_reducible refine W_itn_cases ?_ ?_; omega))
  refine W_hp (rint_ok ((hd.upd (j := 72) (by omega) (Nat.le_refl _) _).le (by omega)) hb hl) ?_
  clear hd
  rintro _ ⟨v, s8, n8, rfl, hn8, hk, hd, rfl⟩
  generalize hq8 : rI bs q7.2 = q8 at hd ⊢
  replace hO := (hk 72 (by omega) (by omega)).trans (by rw [upd_at, if_pos rfl])
  replace hR := (hk 8 (by omega) (by omega)).trans (Eq.trans (by rw [upd_at, if_neg (by omega)]) hR)
  clear hk
  repeat' (first | (simp -implicitDefEqProofs only [ze, zd, simprocAttr, hO]) | (with_reducible refine wgd_cases ?_ ?_ <;> intro hb) | (with_reducible refine wcond_cases ?_ ?_ <;> intro hb) | (with_reducible refine qd_i (by kernel_rfl) ?_) | (with_reducible refine W_itn_cases ?_ ?_; omega))
  refine W_hp (rcount_ok ((hd.upd (j := 72) (by omega) (Nat.le_refl _) _).le (by omega)) hb hl 100) ?_
  clear hd
  rintro _ ⟨v, s9, n9, rfl, hn9, hk, hd, rfl⟩
  generalize hq9 : rC 100 bs q8.2 = q9 at hd ⊢
  replace hO := (hk 72 (by omega) (by omega)).trans (by rw [upd_at, if_pos rfl])
  replace hR := (hk 8 (by omega) (by omega)).trans (Eq.trans (by rw [upd_at, if_neg (by omega)]) hR)
  clear hk
  repeat' (first | (simp -implicitDefEqProofs only [ze, zd, simprocAttr, hO]) | (with_reducible refine wgd_cases ?_ ?_ <;> intro hb) | (with_reducible refine wcond_cases ?_ ?_ <;> intro hb) | (with_reducible refine qd_i (by kernel_rfl) ?_) | (with_reducible refine W_itn_cases ?_ ?_; omega))
  obtain ⟨hc0, hc1⟩ := rC_le hq9 (by omega)
  refine loop_w (fun m tm st' nx' => ∃ (i : Nat) (acc : List Line) (si : Nat × Int) (vt : V), m = q9.1.toNat - i ∧ i ≤ q9.1.toNat ∧ acc.length = i ∧ rLines bs q9.1.toNat [] q9.2 = rLines bs (q9.1.toNat - i) acc si ∧ tm 8 = .i64 i ∧ tm 7 = .i64 q9.1 ∧ tm 5 = .ptr 48 0 ∧ tm 6 = .ptr 72 0 ∧ tm 2 = .ptr 8 0 ∧ 88 ≤ nx' ∧
      st' 72 = some (.cells [.i64 q1.1, .str q2.1, .i64 q3.1, .i64 q4.1, .i64 q5.1, .str q6.1, .str q7.1, .i64 q8.1, vt]) ∧ st' 8 = some (.cells [V.sc (Value.int IntKind.i64 0), V.sc (Value.string (ByteArray.mk #[])), V.sc (Value.int IntKind.i64 0), V.sc (Value.int IntKind.i64 0), V.sc (Value.int IntKind.i64 0), V.sc (Value.string (ByteArray.mk #[])), V.sc (Value.string (ByteArray.mk #[])), V.sc (Value.int IntKind.i64 0), V.list 0 [] 1]) ∧ Rd st' nx' 48 bs r si ∧ GrowN st' 72 nx' 49 (acc.map encL) vt) q9.1.toNat ⟨0, [], q9.2, .list 0 [] 1, by omega, by omega, rfl, rfl, ?_, ?_, ?_, ?_, ?_, by omega, hO, hR, hd.le (by omega), .inl ⟨rfl, rfl⟩⟩ ?_
  · simp -implicitDefEqProofs only [ze, zd, simprocAttr]; try rfl
  · simp -implicitDefEqProofs only [ze, zd, simprocAttr]
  · simp -implicitDefEqProofs only [ze, zd, simprocAttr]
  · simp -implicitDefEqProofs only [ze, zd, simprocAttr]
  · simp -implicitDefEqProofs only [ze, zd, simprocAttr]
  clear hd hO hR hd0
  rintro m tm st' nx' ⟨i, acc, si, vt, hm, hi, hacc, hdt, h8, h7, h5, h6, h2, hnx, hO, hR, hD, hg⟩
  simp only [k62_l0]
  by_cases hlt : i < q9.1.toNat
  · have hd : decide ((i : Int) < q9.1) = true := decide_eq_true (by omega)
    obtain ⟨k, hki⟩ : ∃ k, q9.1.toNat - i = k + 1 := ⟨q9.1.toNat - i - 1, by omega⟩
    rw [hki] at hdt
    repeat' (first | (simp -implicitDefEqProofs only [ze, zd, simprocAttr, hO, h8, h7, h5, h6, h2, hd]))
    refine W_hp (rdline_ok (hD.le (by omega)) hb hl) ?_
    rintro _ ⟨v, sa, na, rfl, hna, hka, hDa, vt2, hf, htr, rfl⟩
    have hOa := (hka 72 (by omega) (by omega)).trans hO
    have hRa := (hka 8 (by omega) (by omega)).trans hR
    have f2 : ∀ j, (72 = na + j) = False := fun j => eq_false (by omega)
    have f5 : ∀ j, (72 = nx' + j) = False := fun j => eq_false (by omega)
    rcases hf with ⟨hfb, rfl⟩ | ⟨hfb, r2, hr28, rfl⟩
    · have htg : (rLine bs si).1.tags = [] := by simpa using hfb
      have hel : encL (rLine bs si).1 = .agg [.str (rLine bs si).1.acc, .str (rLine bs si).1.cur, .i64 (rLine bs si).1.amt, .i64 (rLine bs si).1.base, .str (rLine bs si).1.par, .str (rLine bs si).1.pty, .list 0 [] 1] := by
        unfold encL; rw [htr, htg]; rfl
      rcases hg with ⟨hb0, rfl⟩ | ⟨hb1, r3, hr0, hr8, hrn, rfl, hst⟩
      · have hacc0 : acc = [] := by simpa using hb0
        subst hacc0
        have hi0 : i = 0 := hacc.symm
        subst hi0
        repeat' (first | (simp -implicitDefEqProofs only [ze, zd, simprocAttr, hOa, f2, f5, h8, h7, h5, h6, h2, wnx_tb, wnx_tbn]) | (with_reducible refine W_itn_cases ?_ ?_; omega))
        refine qd_2 ?_ ?_
        · simp [recsOk2, ordB, pairOk, bigF, δF, rF, disj, List.range, List.range.loop, seqSt, upds_nil]
          exact ⟨.inr (hOa.trans hO.symm), ⟨.inr (by omega), by decide⟩, ⟨.inr (by omega), by decide⟩, by decide, by decide, .inr (by omega), .inr (by omega)⟩
        · repeat' (first | (simp -implicitDefEqProofs only [ze, zd, simprocAttr, h8, h7, h5, h6, h2, f2, f5]) | (with_reducible refine wgd_cases ?_ ?_ <;> intro hb) | (with_reducible refine wcond_cases ?_ ?_ <;> intro hb) | (with_reducible refine qd_i (by kernel_rfl) ?_) | (with_reducible refine W_itn_cases ?_ ?_; omega))
          refine ⟨q9.1.toNat - 1, by omega, 1, [(rLine bs si).1], _, _, rfl, by omega, rfl, ?_, up64 (by omega), by omega, rfl, ?_, (((hDa.upd (by omega) (Nat.le_refl _) _).upd (by omega) (Nat.le_refl _) _).upd (by omega) (by omega) _), .inr ⟨by simp, nx' + 64, by omega, by omega, by omega, by rw [List.map_cons, hel]; rfl, ?_⟩⟩
          · rw [hdt, show q9.1.toNat - 1 = k by omega]; simp only [rLines, bindR, List.nil_append]
          · exact hRa
          · rw [upd_at, if_neg (by omega), upd_at, if_pos rfl]; rfl
      · have hstb := (hka r3 (by omega) (by omega)).trans hst
        have g1 : (r3 = 0) = False := eq_false (by omega)
        have g2 : (r3 = 1) = False := eq_false (by omega)
        have g3 : ∀ j, (r3 = nx' + j) = False := fun j => eq_false (by omega)
        have g5 : (72 = r3) = False := eq_false (by omega)
        repeat' (first | (simp -implicitDefEqProofs only [ze, zd, simprocAttr, hOa, hstb, f2, f5, g1, g2, g3, g5, h8, h7, h5, h6, h2, List.length_map, wnx_tb, wnx_tbn]) | (with_reducible refine W_itn_cases ?_ ?_; omega))
        refine qd_2 ?_ ?_
        · simp [recsOk2, ordB, pairOk, bigF, δF, rF, disj, List.range, List.range.loop, seqSt, upds_nil]
          exact ⟨.inr (hOa.trans hO.symm), ⟨.inr (by omega), by decide⟩, ⟨.inr (by omega), by decide, .inr (by omega)⟩, by decide, by decide, .inr (by omega), .inr (by omega)⟩
        · repeat' (first | (simp -implicitDefEqProofs only [ze, zd, simprocAttr, h8, h7, h5, h6, h2, f2, f5, g5]) | (with_reducible refine wgd_cases ?_ ?_ <;> intro hb) | (with_reducible refine wcond_cases ?_ ?_ <;> intro hb) | (with_reducible refine qd_i (by kernel_rfl) ?_) | (with_reducible refine W_itn_cases ?_ ?_; omega))
          refine ⟨q9.1.toNat - (i + 1), by omega, i + 1, acc ++ [(rLine bs si).1], _, _, rfl, by omega, by simp [hacc], ?_, up64 (by omega), by omega, rfl, ?_, (((hDa.upd (by omega) (Nat.le_refl _) _).upd (by omega) (Nat.le_refl _) _).upd (by omega) (by omega) _), .inr ⟨by simp, r3, by omega, by omega, by omega, by rw [List.map_append, List.map_cons, hel]; rfl, ?_⟩⟩
          · rw [hdt, show q9.1.toNat - (i + 1) = k by omega]; simp only [rLines, bindR]
          · rw [if_neg (by omega)]; exact hRa
          · rw [upd_at, if_neg (by omega), upd_at, if_pos rfl]; simp
    · have htg : (rLine bs si).1.tags ≠ [] := by intro h; exact hfb (by rw [h]; rfl)
      have g7 : (r2 = 1) = False := eq_false (by omega)
      have hel : encL (rLine bs si).1 = .agg [.str (rLine bs si).1.acc, .str (rLine bs si).1.cur, .i64 (rLine bs si).1.amt, .i64 (rLine bs si).1.base, .str (rLine bs si).1.par, .str (rLine bs si).1.pty, .list 202 ((rLine bs si).1.tags.map encT) 0] := by
        have : (rLine bs si).1.tr = false := by rw [htr]; simpa using htg
        unfold encL; rw [this]; rfl
      rcases hg with ⟨hb0, rfl⟩ | ⟨hb1, r3, hr0, hr8, hrn, rfl, hst⟩
      · have hacc0 : acc = [] := by simpa using hb0
        subst hacc0
        have hi0 : i = 0 := hacc.symm
        subst hi0
        repeat' (first | (simp -implicitDefEqProofs only [ze, zd, simprocAttr, hOa, f2, f5, h8, h7, h5, h6, h2, wnx_tb, wnx_tbn, g7]) | (with_reducible refine W_itn_cases ?_ ?_; omega))
        refine qd_2 ?_ ?_
        · simp [recsOk2, ordB, pairOk, bigF, δF, rF, disj, List.range, List.range.loop, seqSt, upds_nil]
          exact ⟨.inr (hOa.trans hO.symm), ⟨.inr (by omega), by decide⟩, ⟨.inr (by omega), by decide⟩, by decide, by decide, .inr (by omega), .inr (by omega)⟩
        · repeat' (first | (simp -implicitDefEqProofs only [ze, zd, simprocAttr, h8, h7, h5, h6, h2, f2, f5]) | (with_reducible refine wgd_cases ?_ ?_ <;> intro hb) | (with_reducible refine wcond_cases ?_ ?_ <;> intro hb) | (with_reducible refine qd_i (by kernel_rfl) ?_) | (with_reducible refine W_itn_cases ?_ ?_; omega))
          refine ⟨q9.1.toNat - 1, by omega, 1, [(rLine bs si).1], _, _, rfl, by omega, rfl, ?_, up64 (by omega), by omega, rfl, ?_, (((hDa.upd (by omega) (Nat.le_refl _) _).upd (by omega) (Nat.le_refl _) _).upd (by omega) (by omega) _), .inr ⟨by simp, nx' + 64, by omega, by omega, by omega, by rw [List.map_cons, hel]; rfl, ?_⟩⟩
          · rw [hdt, show q9.1.toNat - 1 = k by omega]; simp only [rLines, bindR, List.nil_append]
          · exact hRa
          · rw [upd_at, if_neg (by omega), upd_at, if_pos rfl]; rfl
      · have hstb := (hka r3 (by omega) (by omega)).trans hst
        have g1 : (r3 = 0) = False := eq_false (by omega)
        have g2 : (r3 = 1) = False := eq_false (by omega)
        have g3 : ∀ j, (r3 = nx' + j) = False := fun j => eq_false (by omega)
        have g5 : (72 = r3) = False := eq_false (by omega)
        repeat' (first | (simp -implicitDefEqProofs only [ze, zd, simprocAttr, hOa, hstb, f2, f5, g1, g2, g3, g5, h8, h7, h5, h6, h2, List.length_map, wnx_tb, wnx_tbn, g7]) | (with_reducible refine W_itn_cases ?_ ?_; omega))
        refine qd_2 ?_ ?_
        · simp [recsOk2, ordB, pairOk, bigF, δF, rF, disj, List.range, List.range.loop, seqSt, upds_nil]
          exact ⟨.inr (hOa.trans hO.symm), ⟨.inr (by omega), by decide⟩, ⟨.inr (by omega), by decide, .inr (by omega)⟩, by decide, by decide, .inr (by omega), .inr (by omega)⟩
        · repeat' (first | (simp -implicitDefEqProofs only [ze, zd, simprocAttr, h8, h7, h5, h6, h2, f2, f5, g5]) | (with_reducible refine wgd_cases ?_ ?_ <;> intro hb) | (with_reducible refine wcond_cases ?_ ?_ <;> intro hb) | (with_reducible refine qd_i (by kernel_rfl) ?_) | (with_reducible refine W_itn_cases ?_ ?_; omega))
          refine ⟨q9.1.toNat - (i + 1), by omega, i + 1, acc ++ [(rLine bs si).1], _, _, rfl, by omega, by simp [hacc], ?_, up64 (by omega), by omega, rfl, ?_, (((hDa.upd (by omega) (Nat.le_refl _) _).upd (by omega) (Nat.le_refl _) _).upd (by omega) (by omega) _), .inr ⟨by simp, r3, by omega, by omega, by omega, by rw [List.map_append, List.map_cons, hel]; rfl, ?_⟩⟩
          · rw [hdt, show q9.1.toNat - (i + 1) = k by omega]; simp only [rLines, bindR]
          · rw [if_neg (by omega)]; exact hRa
          · rw [upd_at, if_neg (by omega), upd_at, if_pos rfl]; simp
  · have hd : decide ((i : Int) < q9.1) = false := decide_eq_false (by omega)
    have hin : i = q9.1.toNat := by omega
    rw [hin, Nat.sub_self] at hdt
    have e0 : rEntry bs (0, 0) = (⟨q1.1, q2.1, q3.1, q4.1, q5.1, q6.1, q7.1, q8.1, acc, acc.isEmpty⟩, si) := by simp only [rEntry, bindR, hq1, hq2, hq3, hq4, hq5, hq6, hq7, hq8, hq9, hdt, rLines]
    have hrel := rel_Entry bs
    have hz : encE zeroE = .agg [.i64 0, .str (ByteArray.mk #[]), .i64 0, .i64 0, .i64 0, .str (ByteArray.mk #[]), .str (ByteArray.mk #[]), .i64 0, .list 0 [] 1] := rfl
    obtain ⟨hD1, hD2, hD3⟩ := hD
    simp only [k62_t0]
    cases hx : dEntry bs 0 with
    | error e =>
      obtain ⟨g1, g2⟩ := hrel.bad 0 e hx
      rw [e0] at g1
      have g1 : si.2 = e := g1
      rw [g1] at hD3
      have hde : decide (e = 0) = false := decide_eq_false g2
      rcases hg with ⟨hb0, rfl⟩ | ⟨hb1, r3, hr0, hr8, hrn, rfl, hst⟩
      all_goals
        repeat' (first | (simp -implicitDefEqProofs only [ze, zd, simprocAttr, h8, h7, h5, h6, h2, hd, hO, hR, hD3, hde, ne_eq, not_true_eq_false, gt_iff_lt]) | (with_reducible refine W_itn_cases ?_ ?_; omega))
        refine qd_i ?_ ?_
        · simp [recsOk, ordB, Rec.free, Rec.wr, disj, List.range, List.range.loop]; try decide
        · repeat' (first | (simp -implicitDefEqProofs only [ze, zd, simprocAttr, hR, h2]) | (with_reducible refine wgd_cases ?_ ?_ <;> intro hb) | (with_reducible refine wcond_cases ?_ ?_ <;> intro hb) | (with_reducible refine qd_i (by kernel_rfl) ?_) | (with_reducible refine W_itn_cases ?_ ?_; omega))
          simp only [takeS, hx, hz]
    | ok p =>
      have g1 := hrel.ok 0 p hx
      rw [e0] at g1
      have ga := congrArg Prod.fst g1
      have gb := congrArg Prod.snd g1
      simp only at ga gb
      subst gb
      simp only at hD1 hD2 hD3
      have hgd := dEntry_good hb hx
      have hck := rcheck_ok p.1 hgd.1 hgd.2.amts
      have hlr : p.1.lr = p.1.lines.isEmpty := by rw [← ga]
      have hpl : p.1.lines = acc := by rw [← ga]
      rcases hg with ⟨hb0, rfl⟩ | ⟨hb1, r3, hr0, hr8, hrn, rfl, hst⟩
      · have h1 : acc = [] := by simpa using hb0
        have v4 : encE p.1 = .agg [.i64 q1.1, .str q2.1, .i64 q3.1, .i64 q4.1, .i64 q5.1, .str q6.1, .str q7.1, .i64 q8.1, .list 0 [] 1] := by unfold encE; rw [hlr, hpl, h1, ← ga]; rfl
        rw [v4] at hck
        by_cases hc : (checkS p.1).2 = 0
        · rw [hc] at hck
          repeat' (first | (simp -implicitDefEqProofs only [ze, zd, simprocAttr, h8, h7, h5, h6, h2, hd, hO, hR, hD3, hck]) | (with_reducible refine W_itn_cases ?_ ?_; omega))
          refine qd_i ?_ ?_
          · simp [recsOk, ordB, Rec.free, Rec.wr, disj, List.range, List.range.loop]; try decide
          · repeat' (first | (simp -implicitDefEqProofs only [ze, zd, simprocAttr, hR, h2, hO, hD3]) | (with_reducible refine wgd_cases ?_ ?_ <;> intro hb) | (with_reducible refine wcond_cases ?_ ?_ <;> intro hb) | (with_reducible refine qd_i (by kernel_rfl) ?_) | (with_reducible refine W_itn_cases ?_ ?_; omega))
            simp only [takeS, hx, hc, if_true, v4]
        · have hcd : decide ((checkS p.1).2 = 0) = false := decide_eq_false hc
          repeat' (first | (simp -implicitDefEqProofs only [ze, zd, simprocAttr, h8, h7, h5, h6, h2, hd, hO, hR, hD3, hck, hcd, ne_eq, not_true_eq_false, gt_iff_lt]) | (with_reducible refine wgd_cases ?_ ?_ <;> intro hb) | (with_reducible refine wcond_cases ?_ ?_ <;> intro hb) | (with_reducible refine qd_i (by kernel_rfl) ?_) | (with_reducible refine W_itn_cases ?_ ?_; omega))
          simp only [takeS, hx, hc, if_false, hz]
      · have h1 : acc ≠ [] := by intro h; exact hb1 (by rw [h]; rfl)
        have h2' : p.1.lr = false := by rw [hlr, hpl]; simpa using h1
        have v4 : encE p.1 = .agg [.i64 q1.1, .str q2.1, .i64 q3.1, .i64 q4.1, .i64 q5.1, .str q6.1, .str q7.1, .i64 q8.1, .list 49 (acc.map encL) 0] := by unfold encE; rw [h2', hpl, ← ga]; rfl
        have g7 : (r3 = 1) = False := eq_false (by omega)
        rw [v4] at hck
        by_cases hc : (checkS p.1).2 = 0
        · rw [hc] at hck
          repeat' (first | (simp -implicitDefEqProofs only [ze, zd, simprocAttr, h8, h7, h5, h6, h2, hd, hO, hR, hD3, hck, g7]) | (with_reducible refine W_itn_cases ?_ ?_; omega))
          refine qd_i ?_ ?_
          · simp [recsOk, ordB, Rec.free, Rec.wr, disj, List.range, List.range.loop]; try decide
          · repeat' (first | (simp -implicitDefEqProofs only [ze, zd, simprocAttr, hR, h2, hO, hD3, g7]) | (with_reducible refine wgd_cases ?_ ?_ <;> intro hb) | (with_reducible refine wcond_cases ?_ ?_ <;> intro hb) | (with_reducible refine qd_i (by kernel_rfl) ?_) | (with_reducible refine W_itn_cases ?_ ?_; omega))
            simp only [takeS, hx, hc, if_true, v4]
        · have hcd : decide ((checkS p.1).2 = 0) = false := decide_eq_false hc
          repeat' (first | (simp -implicitDefEqProofs only [ze, zd, simprocAttr, h8, h7, h5, h6, h2, hd, hO, hR, hD3, hck, hcd, ne_eq, not_true_eq_false, gt_iff_lt, g7]) | (with_reducible refine wgd_cases ?_ ?_ <;> intro hb) | (with_reducible refine wcond_cases ?_ ?_ <;> intro hb) | (with_reducible refine qd_i (by kernel_rfl) ?_) | (with_reducible refine W_itn_cases ?_ ?_; omega))
          simp only [takeS, hx, hc, if_false, hz]
end Go.Proofs.YtaefaadjncehmaaGreatDoor.Vm
set_option maxRecDepth 10000
set_option linter.unusedVariables false
set_option linter.unusedSimpArgs false
namespace Go.Proofs.YtaefaadjncehmaaGreatDoor.Vm
open Go Go.Proofs
def payS (s : Int) (bs : List Int) : List Int × Int × Int :=
  if (frameS bs).2.2 = 0 then
    (if sumB (nextI s (frameS bs).1) = (frameS bs).2.1 then ((frameS bs).1, ((frameS bs).1.length : Int) + 16, 0) else ([], 0, 23))
  else ([], 0, (frameS bs).2.2)
theorem inv_bytes {a b c d e f g h : Int} (ha : 0 ≤ a ∧ a < 256) (hb : 0 ≤ b ∧ b < 256) (hc : 0 ≤ c ∧ c < 256) (hd : 0 ≤ d ∧ d < 256) (he : 0 ≤ e ∧ e < 256) (hf : 0 ≤ f ∧ f < 256) (hg : 0 ≤ g ∧ g < 256) (hh : 0 ≤ h ∧ h < 256) :
    readI e f g h = inv (readI a b c d) ↔ a = 255 - e ∧ b = 255 - f ∧ c = 255 - g ∧ d = 255 - h := by
  unfold readI inv
  constructor
  · intro h; omega
  · rintro ⟨rfl, rfl, rfl, rfl⟩; omega
set_option maxHeartbeats 1000000 in
theorem pay_ok (s : Int) (hs : u64r s) (bs : List Int) (hb : bOK bs) (hl : bs.length < 1000000000) (r : Nat) : ∃ t q, L.pl 61 [.list 5 (bv bs) r, .sc (.int .u64 s)] = some (.ret (.tup [.list t (bv (payS s bs).1) q, .i64 (payS s bs).2.1, .i64 (payS s bs).2.2])) ∧ ((payS s bs).2.2 = 0 → t = 5) ∧ q < 8 := by
  have main : W (L.pl 61 [.list 5 (bv bs) r, .sc (.int .u64 s)]) fun z => ∃ t q, z = .ret (.tup [.list t (bv (payS s bs).1) q, .i64 (payS s bs).2.1, .i64 (payS s bs).2.2]) ∧ ((payS s bs).2.2 = 0 → t = 5) ∧ q < 8 := by
    refine pl_w k61_eq ?_
    simp only [k61]
    by_cases h8 : bs.length < 8
    · have hd : decide ((bs.length : Int) < 8) = true := decide_eq_true (by omega)
      have hf : payS s bs = ([], 0, 6) := by unfold payS frameS; rw [if_pos h8]; rfl
      repeat' (first | (simp -implicitDefEqProofs only [ze, zd, simprocAttr, bv_len, hd]) | (with_reducible refine wgd_cases ?_ ?_ <;> intro hb) | (with_reducible refine wcond_cases ?_ ?_ <;> intro hb) | (with_reducible refine qd_i (by kernel_rfl) ?_) | (with_reducible refine W_itn_cases ?_ ?_; omega))
      exact ⟨0, 1, by rw [hf]; rfl, (fun h => by rw [hf] at h; cases h), by decide⟩
    obtain ⟨a, b, c, d, e, f, g, h, m, rfl⟩ : ∃ a b c d e f g h m, bs = a :: b :: c :: d :: e :: f :: g :: h :: m := by
      match bs, h8 with
      | a :: b :: c :: d :: e :: f :: g :: h :: m, _ => exact ⟨a, b, c, d, e, f, g, h, m, rfl⟩
      | [], h => exact absurd (by simp) h
      | [_], h => exact absurd (by simp) h
      | [_, _], h => exact absurd (by simp) h
      | [_, _, _], h => exact absurd (by simp) h
      | [_, _, _, _], h => exact absurd (by simp) h
      | [_, _, _, _, _], h => exact absurd (by simp) h
      | [_, _, _, _, _, _], h => exact absurd (by simp) h
      | [_, _, _, _, _, _, _], h => exact absurd (by simp) h
    have ha := hb a (by simp)
    have hb1 := hb b (by simp)
    have hc := hb c (by simp)
    have hd := hb d (by simp)
    have he := hb e (by simp)
    have hf := hb f (by simp)
    have hg := hb g (by simp)
    have hh := hb h (by simp)
    have hm8 : (a :: b :: c :: d :: e :: f :: g :: h :: m).length = m.length + 8 := by simp
    have hdl : decide (((a :: b :: c :: d :: e :: f :: g :: h :: m).length : Int) < 8) = false := decide_eq_false (by omega)
    have hw : ∀ x : Int, 0 ≤ x ∧ x < 256 → IntKind.u8.wrap (255 - x) = 255 - x := fun x hx => by rw [IntKind.wrap_u8]; omega
    have we := hw e he
    have wf := hw f hf
    have wg := hw g hg
    have wh := hw h hh
    have wi : ∀ x : Int, -9223372036854775808 ≤ x → x < 9223372036854775808 → IntKind.i64.wrap x = x := fun x h1 h2 => wrap_i64 h1 h2
    have ia := wi a (by omega) (by omega)
    have ib := wi b (by omega) (by omega)
    have ic := wi c (by omega) (by omega)
    have id_ := wi d (by omega) (by omega)
    have n1 := wi (a * 256) (by omega) (by omega)
    have n2 := wi (a * 256 + b) (by omega) (by omega)
    have n3 := wi ((a * 256 + b) * 256) (by omega) (by omega)
    have n4 := wi ((a * 256 + b) * 256 + c) (by omega) (by omega)
    have n5 := wi (((a * 256 + b) * 256 + c) * 256) (by omega) (by omega)
    have n6 := wi (((a * 256 + b) * 256 + c) * 256 + d) (by omega) (by omega)
    have hR : readI a b c d = ((a * 256 + b) * 256 + c) * 256 + d := by unfold readI; omega
    have b0 : bv (a :: b :: c :: d :: e :: f :: g :: h :: m) = .sc (.int .u8 a) :: .sc (.int .u8 b) :: .sc (.int .u8 c) :: .sc (.int .u8 d) :: .sc (.int .u8 e) :: .sc (.int .u8 f) :: .sc (.int .u8 g) :: .sc (.int .u8 h) :: bv m := rfl
    have g0 : (bv (a :: b :: c :: d :: e :: f :: g :: h :: m))[0]? = some (.sc (.int .u8 a)) := rfl
    have g1 : (bv (a :: b :: c :: d :: e :: f :: g :: h :: m))[1]? = some (.sc (.int .u8 b)) := rfl
    have g2 : (bv (a :: b :: c :: d :: e :: f :: g :: h :: m))[2]? = some (.sc (.int .u8 c)) := rfl
    have g3 : (bv (a :: b :: c :: d :: e :: f :: g :: h :: m))[3]? = some (.sc (.int .u8 d)) := rfl
    have g4 : (bv (a :: b :: c :: d :: e :: f :: g :: h :: m))[4]? = some (.sc (.int .u8 e)) := rfl
    have g5 : (bv (a :: b :: c :: d :: e :: f :: g :: h :: m))[5]? = some (.sc (.int .u8 f)) := rfl
    have g6 : (bv (a :: b :: c :: d :: e :: f :: g :: h :: m))[6]? = some (.sc (.int .u8 g)) := rfl
    have g7 : (bv (a :: b :: c :: d :: e :: f :: g :: h :: m))[7]? = some (.sc (.int .u8 h)) := rfl
    have hbad : ¬ (a = 255 - e ∧ b = 255 - f ∧ c = 255 - g ∧ d = 255 - h) → payS s (a :: b :: c :: d :: e :: f :: g :: h :: m) = ([], 0, 5) := fun hn => by
      have : ¬ rdB ((a :: b :: c :: d :: e :: f :: g :: h :: m).drop 4) = inv (rdB (a :: b :: c :: d :: e :: f :: g :: h :: m)) := fun q => hn ((inv_bytes ha hb1 hc hd he hf hg hh).1 q)
      unfold payS frameS
      rw [if_neg h8, if_neg this]; rfl
    generalize hB : a :: b :: c :: d :: e :: f :: g :: h :: m = B at *
    repeat' (first | (simp -implicitDefEqProofs only [ze, zd, simprocAttr, bv_len, hdl]) | (with_reducible refine wgd_cases ?_ ?_ <;> intro hb) | (with_reducible refine wcond_cases ?_ ?_ <;> intro hb) | (with_reducible refine qd_i (by kernel_rfl) ?_) | (with_reducible refine W_itn_cases ?_ ?_; omega))
    refine loop_u k61_l0.eq_1 ?_
    by_cases d1 : ¬ a = 255 - e
    · have hd1 : decide (a = 255 - e) = false := decide_eq_false d1
      repeat' (first | (simp -implicitDefEqProofs only [ze, zd, simprocAttr, bv_len, g0, g4, we, hd1, n1, n2, n3, n4, n5, n6, ia, ib, ic, id_, wrap_i64, Int.zero_mul, Int.zero_add, Int.reduceAdd, Int.reduceMul, cunr_n, cunr_x, cunr_r, cunr_p]) | (with_reducible refine wgd_cases ?_ ?_ <;> intro hb) | (with_reducible refine wcond_cases ?_ ?_ <;> intro hb) | (with_reducible refine qd_i (by kernel_rfl) ?_) | (with_reducible refine W_itn_cases ?_ ?_; omega))
      exact ⟨0, 1, by rw [hbad (fun q => d1 q.1)]; rfl, (fun h => by rw [hbad (fun q => d1 q.1)] at h; cases h), by decide⟩
    have d1 := Decidable.not_not.1 d1
    have hd1 : decide (a = 255 - e) = true := decide_eq_true d1
    repeat' (first | (simp -implicitDefEqProofs only [ze, zd, simprocAttr, bv_len, g0, g4, we, hd1, n1, n2, n3, n4, n5, n6, ia, ib, ic, id_, wrap_i64, Int.zero_mul, Int.zero_add, Int.reduceAdd, Int.reduceMul, cunr_n, cunr_x, cunr_r, cunr_p]) | (with_reducible refine wgd_cases ?_ ?_ <;> intro hb) | (with_reducible refine wcond_cases ?_ ?_ <;> intro hb) | (with_reducible refine qd_i (by kernel_rfl) ?_) | (with_reducible refine W_itn_cases ?_ ?_; omega))
    refine loop_u k61_l0.eq_1 ?_
    by_cases d2 : ¬ b = 255 - f
    · have hd2 : decide (b = 255 - f) = false := decide_eq_false d2
      repeat' (first | (simp -implicitDefEqProofs only [ze, zd, simprocAttr, bv_len, g1, g5, wf, hd2, n1, n2, n3, n4, n5, n6, ia, ib, ic, id_, wrap_i64, Int.zero_mul, Int.zero_add, Int.reduceAdd, Int.reduceMul, cunr_n, cunr_x, cunr_r, cunr_p]) | (with_reducible refine wgd_cases ?_ ?_ <;> intro hb) | (with_reducible refine wcond_cases ?_ ?_ <;> intro hb) | (with_reducible refine qd_i (by kernel_rfl) ?_) | (with_reducible refine W_itn_cases ?_ ?_; omega))
      exact ⟨0, 1, by rw [hbad (fun q => d2 q.2.1)]; rfl, (fun h => by rw [hbad (fun q => d2 q.2.1)] at h; cases h), by decide⟩
    have d2 := Decidable.not_not.1 d2
    have hd2 : decide (b = 255 - f) = true := decide_eq_true d2
    repeat' (first | (simp -implicitDefEqProofs only [ze, zd, simprocAttr, bv_len, g1, g5, wf, hd2, n1, n2, n3, n4, n5, n6, ia, ib, ic, id_, wrap_i64, Int.zero_mul, Int.zero_add, Int.reduceAdd, Int.reduceMul, cunr_n, cunr_x, cunr_r, cunr_p]) | (with_reducible refine wgd_cases ?_ ?_ <;> intro hb) | (with_reducible refine wcond_cases ?_ ?_ <;> intro hb) | (with_reducible refine qd_i (by kernel_rfl) ?_) | (with_reducible refine W_itn_cases ?_ ?_; omega))
    refine loop_u k61_l0.eq_1 ?_
    by_cases d3 : ¬ c = 255 - g
    · have hd3 : decide (c = 255 - g) = false := decide_eq_false d3
      repeat' (first | (simp -implicitDefEqProofs only [ze, zd, simprocAttr, bv_len, g2, g6, wg, hd3, n1, n2, n3, n4, n5, n6, ia, ib, ic, id_, wrap_i64, Int.zero_mul, Int.zero_add, Int.reduceAdd, Int.reduceMul, cunr_n, cunr_x, cunr_r, cunr_p]) | (with_reducible refine wgd_cases ?_ ?_ <;> intro hb) | (with_reducible refine wcond_cases ?_ ?_ <;> intro hb) | (with_reducible refine qd_i (by kernel_rfl) ?_) | (with_reducible refine W_itn_cases ?_ ?_; omega))
      exact ⟨0, 1, by rw [hbad (fun q => d3 q.2.2.1)]; rfl, (fun h => by rw [hbad (fun q => d3 q.2.2.1)] at h; cases h), by decide⟩
    have d3 := Decidable.not_not.1 d3
    have hd3 : decide (c = 255 - g) = true := decide_eq_true d3
    repeat' (first | (simp -implicitDefEqProofs only [ze, zd, simprocAttr, bv_len, g2, g6, wg, hd3, n1, n2, n3, n4, n5, n6, ia, ib, ic, id_, wrap_i64, Int.zero_mul, Int.zero_add, Int.reduceAdd, Int.reduceMul, cunr_n, cunr_x, cunr_r, cunr_p]) | (with_reducible refine wgd_cases ?_ ?_ <;> intro hb) | (with_reducible refine wcond_cases ?_ ?_ <;> intro hb) | (with_reducible refine qd_i (by kernel_rfl) ?_) | (with_reducible refine W_itn_cases ?_ ?_; omega))
    refine loop_u k61_l0.eq_1 ?_
    by_cases d4 : ¬ d = 255 - h
    · have hd4 : decide (d = 255 - h) = false := decide_eq_false d4
      repeat' (first | (simp -implicitDefEqProofs only [ze, zd, simprocAttr, bv_len, g3, g7, wh, hd4, n1, n2, n3, n4, n5, n6, ia, ib, ic, id_, wrap_i64, Int.zero_mul, Int.zero_add, Int.reduceAdd, Int.reduceMul, cunr_n, cunr_x, cunr_r, cunr_p]) | (with_reducible refine wgd_cases ?_ ?_ <;> intro hb) | (with_reducible refine wcond_cases ?_ ?_ <;> intro hb) | (with_reducible refine qd_i (by kernel_rfl) ?_) | (with_reducible refine W_itn_cases ?_ ?_; omega))
      exact ⟨0, 1, by rw [hbad (fun q => d4 q.2.2.2)]; rfl, (fun h => by rw [hbad (fun q => d4 q.2.2.2)] at h; cases h), by decide⟩
    have d4 := Decidable.not_not.1 d4
    have hd4 : decide (d = 255 - h) = true := decide_eq_true d4
    repeat' (first | (simp -implicitDefEqProofs only [ze, zd, simprocAttr, bv_len, g3, g7, wh, hd4, n1, n2, n3, n4, n5, n6, ia, ib, ic, id_, wrap_i64, Int.zero_mul, Int.zero_add, Int.reduceAdd, Int.reduceMul, cunr_n, cunr_x, cunr_r, cunr_p]) | (with_reducible refine wgd_cases ?_ ?_ <;> intro hb) | (with_reducible refine wcond_cases ?_ ?_ <;> intro hb) | (with_reducible refine qd_i (by kernel_rfl) ?_) | (with_reducible refine W_itn_cases ?_ ?_; omega))
    refine loop_u k61_l0.eq_1 ?_
    repeat' (first | (simp -implicitDefEqProofs only [ze, zd, simprocAttr, cunr_n, cunr_x, cunr_r, cunr_p]) | (with_reducible refine wgd_cases ?_ ?_ <;> intro hb) | (with_reducible refine wcond_cases ?_ ?_ <;> intro hb) | (with_reducible refine qd_i (by kernel_rfl) ?_) | (with_reducible refine W_itn_cases ?_ ?_; omega))
    simp only [k61_t0]
    have hrB : rdB B = readI a b c d := by rw [← hB]; rfl
    have hR' : ((a * 256 + b) * 256 + c) * 256 + d = rdB B := by rw [hrB, hR]
    have hinv : rdB (B.drop 4) = inv (rdB B) := by
      rw [hrB, ← hB]; exact (inv_bytes ha hb1 hc hd he hf hg hh).2 ⟨d1, d2, d3, d4⟩
    have hn := rdB_r B hb (by omega)
    have wl : IntKind.i64.wrap ((B.length : Int) - 16) = (B.length : Int) - 16 := wrap_i64 (by omega) (by omega)
    have w8 : IntKind.i64.wrap (8 + rdB B) = 8 + rdB B := wrap_i64 (by omega) (by omega)
    have w16 : IntKind.i64.wrap (16 + rdB B) = 16 + rdB B := wrap_i64 (by omega) (by omega)
    by_cases hlen : (B.length : Int) - 16 < rdB B
    · have hdn : decide ((B.length : Int) - 16 < rdB B) = true := decide_eq_true hlen
      have hf : payS s B = ([], 0, 6) := by
        have : frameS B = ([], [], 6) := by unfold frameS; rw [if_neg h8, if_pos hinv, if_pos (by omega)]
        unfold payS; rw [this]; rfl
      repeat' (first | (simp -implicitDefEqProofs only [ze, zd, simprocAttr, hR', bv_len, wl, hdn]) | (with_reducible refine wgd_cases ?_ ?_ <;> intro hb) | (with_reducible refine wcond_cases ?_ ?_ <;> intro hb) | (with_reducible refine qd_i (by kernel_rfl) ?_) | (with_reducible refine W_itn_cases ?_ ?_; omega))
      exact ⟨0, 1, by rw [hf]; rfl, (fun h => by rw [hf] at h; cases h), by decide⟩
    have hdn : decide ((B.length : Int) - 16 < rdB B) = false := decide_eq_false hlen
    obtain ⟨p, sm, hfp, hp, hsm⟩ : ∃ p sm, frameS B = (p, sm, 0) ∧ p = (B.drop 8).take (rdB B).toNat ∧ sm = ((B.drop 8).drop (rdB B).toNat).take 8 := ⟨_, _, by unfold frameS; rw [if_neg h8, if_pos hinv, if_neg (by omega)], rfl, rfl⟩
    have hpp : List.drop 8 (List.take (8 + rdB B).toNat B) = p := by
      rw [List.drop_take, hp]; congr 1; omega
    have hps : List.drop (8 + rdB B).toNat (List.take (16 + rdB B).toNat B) = sm := by
      rw [List.drop_take, hsm, List.drop_drop]
      congr 1
      · omega
      · congr 1; omega
    have hpb : bOK p := by rw [hp]; exact bOK_take (bOK_drop hb 8) _
    have hsb : bOK sm := by rw [hsm]; exact bOK_take (bOK_drop (bOK_drop hb 8) _) _
    have hpl : (p.length : Int) = rdB B := by rw [hp, List.length_take, List.length_drop]; omega
    have hN := rnext_ok p hpb (by omega) 0 s hs
    have hr' := nextI_r s p hs
    have hS := rbytes_ok (nextI s p) hr'.1 hr'.2
    by_cases heq : sumB (nextI s p) = sm
    · have hds : decide (({ data := (List.map (fun n => UInt8.ofNat n.toNat) (sumB (nextI s p))).toArray } : ByteArray) = { data := (List.map (fun n => UInt8.ofNat n.toNat) sm).toArray }) = true := decide_eq_true (by rw [heq])
      have hf : payS s B = (p, (p.length : Int) + 16, 0) := by unfold payS; rw [hfp]; exact (if_pos rfl).trans (if_pos heq)
      repeat' (first | (simp -implicitDefEqProofs only [ze, zd, simprocAttr, hR', bv_len, wl, hdn, w8, w16, bv_tk, bv_dp, hpp, hps, hN, hS, bytesOfV_bv, hds]) | (with_reducible refine wgd_cases ?_ ?_ <;> intro hb) | (with_reducible refine wcond_cases ?_ ?_ <;> intro hb) | (with_reducible refine qd_i (by kernel_rfl) ?_) | (with_reducible refine W_itn_cases ?_ ?_; omega))
      refine ⟨_, 0, ?_, fun _ => rfl, by decide⟩
      rw [hf, hpl, Int.add_comm]
    · have hds : decide (({ data := (List.map (fun n => UInt8.ofNat n.toNat) (sumB (nextI s p))).toArray } : ByteArray) = { data := (List.map (fun n => UInt8.ofNat n.toNat) sm).toArray }) = false := decide_eq_false fun h => heq (sB_inj (sumB_inR _ hr') hsb h)
      have hf : payS s B = ([], 0, 23) := by unfold payS; rw [hfp]; exact (if_pos rfl).trans (if_neg heq)
      repeat' (first | (simp -implicitDefEqProofs only [ze, zd, simprocAttr, hR', bv_len, wl, hdn, w8, w16, bv_tk, bv_dp, hpp, hps, hN, hS, bytesOfV_bv, hds]) | (with_reducible refine wgd_cases ?_ ?_ <;> intro hb) | (with_reducible refine wcond_cases ?_ ?_ <;> intro hb) | (with_reducible refine qd_i (by kernel_rfl) ?_) | (with_reducible refine W_itn_cases ?_ ?_; omega))
      exact ⟨0, 1, by rw [hf]; rfl, (fun h => by rw [hf] at h; cases h), by decide⟩
  obtain ⟨z, hz, t, q, rfl, h1, h2⟩ := main
  exact ⟨t, q, hz, h1, h2⟩
end Go.Proofs.YtaefaadjncehmaaGreatDoor.Vm
set_option maxRecDepth 10000
set_option linter.unusedVariables false
set_option linter.unusedSimpArgs false
namespace Go.Proofs.YtaefaadjncehmaaGreatDoor.Vm
open Go Go.Proofs
theorem payS_ok {s : Int} {bs : List Int} (h : (payS s bs).2.2 = 0) : (frameS bs).2.2 = 0 ∧ sumB (nextI s (frameS bs).1) = (frameS bs).2.1 ∧ payS s bs = ((frameS bs).1, ((frameS bs).1.length : Int) + 16, 0) := by
  unfold payS at h ⊢
  split at h
  · rename_i h1
    split at h
    · rename_i h2
      exact ⟨h1, h2, by rw [if_pos h1, if_pos h2]⟩
    · cases h
  · rename_i h1; exact absurd h h1
theorem payS_bad {s : Int} {n : Nat} {bs : List Int} (h : ¬ (payS s bs).2.2 = 0) : (stepS s n bs).2 = (payS s bs).2.2 := by
  unfold payS at h ⊢
  unfold stepS
  split at h
  · rename_i h1
    split at h
    · exact absurd rfl h
    · rename_i h2
      rw [if_pos h1, if_pos h1, if_neg h2, if_neg h2]
  · rename_i h1
    rw [if_neg h1, if_neg h1]
set_option maxHeartbeats 2000000 in
theorem ropen_ok (bs : List Int) (hb : bOK bs) (hl : bs.length < 1000000000) (r : Nat) : ∃ t q, L.pl 28 [.list 5 (bv bs) r] = some (.ret (.tup [.list t ((openS bs.length start 0 bs).1.map encE) q, .i64 (openS bs.length start 0 bs).2.2.1, .i64 (openS bs.length start 0 bs).2.2.2])) ∧ ((openS bs.length start 0 bs).1 = [] ∨ t = 46) ∧ (t = 0 ∧ q = 1 ∨ t = 46 ∧ q = 8 + 46) := by
  have main : W (L.pl 28 [.list 5 (bv bs) r]) fun z => ∃ t q, z = .ret (.tup [.list t ((openS bs.length start 0 bs).1.map encE) q, .i64 (openS bs.length start 0 bs).2.2.1, .i64 (openS bs.length start 0 bs).2.2.2]) ∧ ((openS bs.length start 0 bs).1 = [] ∨ t = 46) ∧ (t = 0 ∧ q = 1 ∨ t = 46 ∧ q = 8 + 46) := by
    refine pl_w k28_eq ?_
    simp only [k28]
    repeat' (first | (simp -implicitDefEqProofs only [ze, zd, simprocAttr, rstart_ok]) | (with_reducible refine wgd_cases ?_ ?_ <;> intro hb) | (with_reducible refine wcond_cases ?_ ?_ <;> intro hb) | (with_reducible refine qd_i (by kernel_rfl) ?_) | (with_reducible refine W_itn_cases ?_ ?_; omega))
    refine loop_w (fun n tm st nx => ∃ (u f : Nat) (s : Int) (es : List Entry) (v : V), n = bs.length - u ∧ u ≤ bs.length ∧ tm 0 = .list 5 (bv bs) r ∧ tm 5 = v ∧ tm 6 = .i64 u ∧ tm 7 = .sc (.int .u64 s) ∧ Grow st nx 46 (es.map encE) v ∧ u64r s ∧ es.length * 16 ≤ u ∧ bs.length - u ≤ f ∧
      openS bs.length start 0 bs = (es ++ (openS f s es.length (bs.drop u)).1, (openS f s es.length (bs.drop u)).2.1, u + (openS f s es.length (bs.drop u)).2.2.1, (openS f s es.length (bs.drop u)).2.2.2)) bs.length ⟨0, bs.length, start, [], .list 0 [] 1, by omega, by omega, ?_, ?_, ?_, ?_, .inl ⟨rfl, rfl⟩, start_r, by simp, by omega, by simp⟩ ?_
    · simp -implicitDefEqProofs only [ze, zd, simprocAttr]; try rfl
    · simp -implicitDefEqProofs only [ze, zd, simprocAttr]; try rfl
    · simp -implicitDefEqProofs only [ze, zd, simprocAttr]; try rfl
    · simp -implicitDefEqProofs only [ze, zd, simprocAttr]; try rfl
    rintro n tm st nx ⟨u, f, s, es, v, hn, hu, h0, h5, h6, h7, hgr, hs, hel, hf, ho⟩
    simp only [k28_l0, k28_t0]
    rcases hgr with ⟨hb0, rfl⟩ | ⟨v0, hr8, hrn, rfl, hst⟩
    · have hlen0 : ((0 : Nat) : Int) = (es.length : Int) := by
        have : es = [] := by simpa using hb0
        rw [this]; rfl
      by_cases hlt : u < bs.length
      · have hd : decide ((u : Int) < (bs.length : Int)) = true := decide_eq_true (by omega)
        obtain ⟨f, rfl⟩ : ∃ f', f = f' + 1 := ⟨f - 1, by omega⟩
        have hdl : (bs.drop u).length = bs.length - u := List.length_drop ..
        have hne0 : ¬ (bs.drop u).length = 0 := by omega
        obtain ⟨t, q, hP, ht, hq8⟩ := pay_ok s hs (bs.drop u) (bOK_drop hb u) (by omega) 0
        have k1 : (8 ≤ q) = False := eq_false (by omega)
        by_cases he : (payS s (bs.drop u)).2.2 = 0
        · obtain rfl := ht he
          obtain ⟨g1, g2, g3⟩ := payS_ok he
          rw [g3] at hP
          simp only at hP
          have hz : decide ((0 : Int) = 0) = true := rfl
          have hpb : bOK (frameS (bs.drop u)).1 := (frameS_b _ (bOK_drop hb u)).1
          have hfe : frameS (bs.drop u) = ((frameS (bs.drop u)).1, (frameS (bs.drop u)).2.1, 0) := by rw [← g1]
          obtain ⟨hfl, _⟩ := frame_bytes (bOK_drop hb u) hfe
          generalize hp : (frameS (bs.drop u)).1 = p at hP hpb hfl
          obtain ⟨x, used, e2, hT⟩ : ∃ x used e2, takeS p = (x, used, e2) := ⟨_, _, _, rfl⟩
          have hT' := fun r => rtake_ok p hpb (by omega) r
          simp only [hT, encE] at hT'
          have hN := fun r => rnext_ok p hpb (by omega) r s hs
          by_cases h5' : e2 = 0 ∧ used = (p.length : Int)
          · obtain ⟨rfl, rfl⟩ := h5'
            have hdu : decide ((p.length : Int) = (p.length : Int)) = true := decide_eq_true rfl
            have hw8 : IntKind.i64.wrap ((es.length : Int) + 1) = (es.length : Int) + 1 := wrap_i64 (by omega) (by omega)
            by_cases h2 : x.no = (es.length : Int) + 1
            · have hd2 : decide (x.no = (es.length : Int) + 1) = true := decide_eq_true h2
              have hst0 : stepS s es.length (bs.drop u) = ((p.length : Int) + 16, 0) := by unfold stepS; rw [if_pos g1, hp, if_pos (by rw [hp] at g2; exact g2), hT]; exact (if_pos ⟨rfl, rfl⟩).trans (if_pos h2)
              have hw : IntKind.i64.wrap ((u : Int) + ((p.length : Int) + 16)) = ((u + (p.length + 16) : Nat) : Int) := by rw [wrap_i64 (by omega) (by omega)]; omega
              repeat' (first | (simp -implicitDefEqProofs only [ze, zd, simprocAttr, h0, h5, h6, h7, hd, bv_len, bv_tk, bv_dp, List.take_length, hP, hz, hT', hN, hdu, hw8, hd2, hw, k1, nr_pur, nxj, List.length_map, hlen0]) | (with_reducible refine wgd_cases ?_ ?_ <;> intro hb) | (with_reducible refine wcond_cases ?_ ?_ <;> intro hb) | (with_reducible refine qd_i (by kernel_rfl) ?_) | (with_reducible refine W_itn_cases ?_ ?_; omega))
              have hE0 : es = [] := by simpa using hb0
              subst hE0
              exact ⟨bs.length - (u + (p.length + 16)), by omega, u + (p.length + 16), f, nextI s p, [x], _, rfl, by omega, rfl, rfl, rfl, .inr ⟨nx + 360, by omega, by omega, rfl, by rw [upd_at, if_pos rfl]; rfl⟩, nextI_r _ _ hs, by rw [List.length_singleton]; omega, by omega, by rw [ho, openS, if_neg hne0, hst0, if_pos rfl, hp, hT]; simp only [List.drop_drop, List.length_append, List.length_singleton, List.nil_append, List.length_nil, Nat.zero_add, List.singleton_append, Nat.add_assoc]⟩
            · have hd2 : decide (x.no = (es.length : Int) + 1) = false := decide_eq_false h2
              have hst0 : stepS s es.length (bs.drop u) = (0, 17) := by unfold stepS; rw [if_pos g1, hp, if_pos (by rw [hp] at g2; exact g2), hT]; exact (if_pos ⟨rfl, rfl⟩).trans (if_neg h2)
              have ho2 : openS bs.length start 0 bs = (es, s, u, 17) := by
                rw [ho, openS, if_neg hne0, hst0, if_neg (by decide)]; simp only [List.append_nil, Nat.add_zero]
              repeat' (first | (simp -implicitDefEqProofs only [ze, zd, simprocAttr, h0, h5, h6, h7, hd, bv_len, bv_tk, bv_dp, List.take_length, hP, hz, hT', hdu, hw8, hd2, k1, nr_pur, nxj, List.length_map, hlen0]) | (with_reducible refine wgd_cases ?_ ?_ <;> intro hb) | (with_reducible refine wcond_cases ?_ ?_ <;> intro hb) | (with_reducible refine qd_i (by kernel_rfl) ?_) | (with_reducible refine W_itn_cases ?_ ?_; omega))
              exact ⟨0, 1, by rw [ho2, hb0], .inl (by rw [ho2]; simpa using hb0), .inl ⟨rfl, rfl⟩⟩
          · have hst0 : stepS s es.length (bs.drop u) = (0, 5) := by unfold stepS; rw [if_pos g1, hp, if_pos (by rw [hp] at g2; exact g2), hT]; exact if_neg h5'
            have ho2 : openS bs.length start 0 bs = (es, s, u, 5) := by
              rw [ho, openS, if_neg hne0, hst0, if_neg (by decide)]; simp only [List.append_nil, Nat.add_zero]
            by_cases h6' : e2 = 0
            · have hd6 : decide (e2 = 0) = true := decide_eq_true h6'
              have hd7 : decide (used = (p.length : Int)) = false := decide_eq_false fun h => h5' ⟨h6', h⟩
              repeat' (first | (simp -implicitDefEqProofs only [ze, zd, simprocAttr, h0, h5, h6, h7, hd, bv_len, bv_tk, bv_dp, List.take_length, hP, hz, hT', hd6, hd7, k1, nr_pur, nxj, List.length_map]) | (with_reducible refine wgd_cases ?_ ?_ <;> intro hb) | (with_reducible refine wcond_cases ?_ ?_ <;> intro hb) | (with_reducible refine qd_i (by kernel_rfl) ?_) | (with_reducible refine W_itn_cases ?_ ?_; omega))
              exact ⟨0, 1, by rw [ho2, hb0], .inl (by rw [ho2]; simpa using hb0), .inl ⟨rfl, rfl⟩⟩
            · have hd6 : decide (e2 = 0) = false := decide_eq_false h6'
              repeat' (first | (simp -implicitDefEqProofs only [ze, zd, simprocAttr, h0, h5, h6, h7, hd, bv_len, bv_tk, bv_dp, List.take_length, hP, hz, hT', hd6, k1, nr_pur, nxj, List.length_map]) | (with_reducible refine wgd_cases ?_ ?_ <;> intro hb) | (with_reducible refine wcond_cases ?_ ?_ <;> intro hb) | (with_reducible refine qd_i (by kernel_rfl) ?_) | (with_reducible refine W_itn_cases ?_ ?_; omega))
              exact ⟨0, 1, by rw [ho2, hb0], .inl (by rw [ho2]; simpa using hb0), .inl ⟨rfl, rfl⟩⟩
        · have hz : decide ((payS s (bs.drop u)).2.2 = 0) = false := decide_eq_false he
          have hst0 : (stepS s es.length (bs.drop u)).2 = (payS s (bs.drop u)).2.2 := payS_bad he
          have ho2 : openS bs.length start 0 bs = (es, s, u, (payS s (bs.drop u)).2.2) := by
            rw [ho, openS, if_neg hne0, if_neg (by rw [hst0]; exact he), hst0]; simp only [List.append_nil, Nat.add_zero]
          repeat' (first | (simp -implicitDefEqProofs only [ze, zd, simprocAttr, h0, h5, h6, h7, hd, bv_len, bv_tk, bv_dp, List.take_length, hP, hz, k1]) | (with_reducible refine wgd_cases ?_ ?_ <;> intro hb) | (with_reducible refine wcond_cases ?_ ?_ <;> intro hb) | (with_reducible refine qd_i (by kernel_rfl) ?_) | (with_reducible refine W_itn_cases ?_ ?_; omega))
          exact ⟨0, 1, by rw [ho2, hb0], .inl (by rw [ho2]; simpa using hb0), .inl ⟨rfl, rfl⟩⟩
      · have hd : decide ((u : Int) < (bs.length : Int)) = false := decide_eq_false (by omega)
        have hu0 : (bs.drop u).length = 0 := by rw [List.length_drop]; omega
        have ho2 : openS bs.length start 0 bs = (es, s, u, 0) := by
          rw [ho]
          cases f with
          | zero => simp only [openS, List.append_nil, Nat.add_zero]
          | succ f => simp only [openS, if_pos hu0, List.append_nil, Nat.add_zero]
        repeat' (first | (simp -implicitDefEqProofs only [ze, zd, simprocAttr, h0, h5, h6, h7, hd, bv_len, List.length_map]) | (with_reducible refine wgd_cases ?_ ?_ <;> intro hb) | (with_reducible refine wcond_cases ?_ ?_ <;> intro hb) | (with_reducible refine qd_i (by kernel_rfl) ?_) | (with_reducible refine W_itn_cases ?_ ?_; omega))
        exact ⟨0, 1, by rw [ho2, hb0], .inl (by rw [ho2]; simpa using hb0), .inl ⟨rfl, rfl⟩⟩
    · have hr0 : (v0 = 0) = False := eq_false (by omega)
      have hr1 : (v0 = 1) = False := eq_false (by omega)
      have hr9 : (v0 < 8) = False := eq_false (by omega)
      have hrx : ∀ j, (v0 = nx + j) = False := fun j => eq_false (by omega)
      have hrx' : ∀ j, (nx + j = v0) = False := fun j => eq_false (by omega)
      rw [List.length_map] at hst
      by_cases hlt : u < bs.length
      · have hd : decide ((u : Int) < (bs.length : Int)) = true := decide_eq_true (by omega)
        obtain ⟨f, rfl⟩ : ∃ f', f = f' + 1 := ⟨f - 1, by omega⟩
        have hdl : (bs.drop u).length = bs.length - u := List.length_drop ..
        have hne0 : ¬ (bs.drop u).length = 0 := by omega
        obtain ⟨t, q, hP, ht, hq8⟩ := pay_ok s hs (bs.drop u) (bOK_drop hb u) (by omega) 0
        have k1 : (8 ≤ q) = False := eq_false (by omega)
        by_cases he : (payS s (bs.drop u)).2.2 = 0
        · obtain rfl := ht he
          obtain ⟨g1, g2, g3⟩ := payS_ok he
          rw [g3] at hP
          simp only at hP
          have hz : decide ((0 : Int) = 0) = true := rfl
          have hpb : bOK (frameS (bs.drop u)).1 := (frameS_b _ (bOK_drop hb u)).1
          have hfe : frameS (bs.drop u) = ((frameS (bs.drop u)).1, (frameS (bs.drop u)).2.1, 0) := by rw [← g1]
          obtain ⟨hfl, _⟩ := frame_bytes (bOK_drop hb u) hfe
          generalize hp : (frameS (bs.drop u)).1 = p at hP hpb hfl
          obtain ⟨x, used, e2, hT⟩ : ∃ x used e2, takeS p = (x, used, e2) := ⟨_, _, _, rfl⟩
          have hT' := fun r => rtake_ok p hpb (by omega) r
          simp only [hT, encE] at hT'
          have hN := fun r => rnext_ok p hpb (by omega) r s hs
          by_cases h5' : e2 = 0 ∧ used = (p.length : Int)
          · obtain ⟨rfl, rfl⟩ := h5'
            have hdu : decide ((p.length : Int) = (p.length : Int)) = true := decide_eq_true rfl
            have hw8 : IntKind.i64.wrap ((es.length : Int) + 1) = (es.length : Int) + 1 := wrap_i64 (by omega) (by omega)
            by_cases h2 : x.no = (es.length : Int) + 1
            · have hd2 : decide (x.no = (es.length : Int) + 1) = true := decide_eq_true h2
              have hst0 : stepS s es.length (bs.drop u) = ((p.length : Int) + 16, 0) := by unfold stepS; rw [if_pos g1, hp, if_pos (by rw [hp] at g2; exact g2), hT]; exact (if_pos ⟨rfl, rfl⟩).trans (if_pos h2)
              have hw : IntKind.i64.wrap ((u : Int) + ((p.length : Int) + 16)) = ((u + (p.length + 16) : Nat) : Int) := by rw [wrap_i64 (by omega) (by omega)]; omega
              repeat' (first | (simp -implicitDefEqProofs only [ze, zd, simprocAttr, h0, h5, h6, h7, hd, bv_len, bv_tk, bv_dp, List.take_length, hP, hz, hT', hN, hdu, hw8, hd2, hw, k1, nr_pur, nxj, List.length_map, hr0, hr1, hr9, hrx, hrx', hst]) | (with_reducible refine wgd_cases ?_ ?_ <;> intro hb) | (with_reducible refine wcond_cases ?_ ?_ <;> intro hb) | (with_reducible refine qd_i (by kernel_rfl) ?_) | (with_reducible refine W_itn_cases ?_ ?_; omega))
              exact ⟨bs.length - (u + (p.length + 16)), by omega, u + (p.length + 16), f, nextI s p, es ++ [x], _, rfl, by omega, rfl, rfl, rfl, .inr ⟨v0, hr8, by omega, by rw [List.map_append]; rfl, by rw [upd_at, if_pos rfl, List.length_map, List.length_append]; rfl⟩, nextI_r _ _ hs, by rw [List.length_append, List.length_singleton]; omega, by omega, by rw [ho, openS, if_neg hne0, hst0, if_pos rfl, hp, hT]; simp only [List.drop_drop, List.length_append, List.length_singleton, List.append_assoc, List.singleton_append, Nat.add_assoc]⟩
            · have hd2 : decide (x.no = (es.length : Int) + 1) = false := decide_eq_false h2
              have hst0 : stepS s es.length (bs.drop u) = (0, 17) := by unfold stepS; rw [if_pos g1, hp, if_pos (by rw [hp] at g2; exact g2), hT]; exact (if_pos ⟨rfl, rfl⟩).trans (if_neg h2)
              have ho2 : openS bs.length start 0 bs = (es, s, u, 17) := by
                rw [ho, openS, if_neg hne0, hst0, if_neg (by decide)]; simp only [List.append_nil, Nat.add_zero]
              repeat' (first | (simp -implicitDefEqProofs only [ze, zd, simprocAttr, h0, h5, h6, h7, hd, bv_len, bv_tk, bv_dp, List.take_length, hP, hz, hT', hdu, hw8, hd2, k1, nr_pur, nxj, List.length_map, hr0, hr1, hr9, hrx, hrx', hst]) | (with_reducible refine wgd_cases ?_ ?_ <;> intro hb) | (with_reducible refine wcond_cases ?_ ?_ <;> intro hb) | (with_reducible refine qd_i (by kernel_rfl) ?_) | (with_reducible refine W_itn_cases ?_ ?_; omega))
              exact ⟨_, _, by rw [ho2], .inr rfl, .inr ⟨rfl, rfl⟩⟩
          · have hst0 : stepS s es.length (bs.drop u) = (0, 5) := by unfold stepS; rw [if_pos g1, hp, if_pos (by rw [hp] at g2; exact g2), hT]; exact if_neg h5'
            have ho2 : openS bs.length start 0 bs = (es, s, u, 5) := by
              rw [ho, openS, if_neg hne0, hst0, if_neg (by decide)]; simp only [List.append_nil, Nat.add_zero]
            by_cases h6' : e2 = 0
            · have hd6 : decide (e2 = 0) = true := decide_eq_true h6'
              have hd7 : decide (used = (p.length : Int)) = false := decide_eq_false fun h => h5' ⟨h6', h⟩
              repeat' (first | (simp -implicitDefEqProofs only [ze, zd, simprocAttr, h0, h5, h6, h7, hd, bv_len, bv_tk, bv_dp, List.take_length, hP, hz, hT', hd6, hd7, k1, nr_pur, nxj, List.length_map, hr0, hr1, hr9, hrx, hrx', hst]) | (with_reducible refine wgd_cases ?_ ?_ <;> intro hb) | (with_reducible refine wcond_cases ?_ ?_ <;> intro hb) | (with_reducible refine qd_i (by kernel_rfl) ?_) | (with_reducible refine W_itn_cases ?_ ?_; omega))
              exact ⟨_, _, by rw [ho2], .inr rfl, .inr ⟨rfl, rfl⟩⟩
            · have hd6 : decide (e2 = 0) = false := decide_eq_false h6'
              repeat' (first | (simp -implicitDefEqProofs only [ze, zd, simprocAttr, h0, h5, h6, h7, hd, bv_len, bv_tk, bv_dp, List.take_length, hP, hz, hT', hd6, k1, nr_pur, nxj, List.length_map, hr0, hr1, hr9, hrx, hrx', hst]) | (with_reducible refine wgd_cases ?_ ?_ <;> intro hb) | (with_reducible refine wcond_cases ?_ ?_ <;> intro hb) | (with_reducible refine qd_i (by kernel_rfl) ?_) | (with_reducible refine W_itn_cases ?_ ?_; omega))
              exact ⟨_, _, by rw [ho2], .inr rfl, .inr ⟨rfl, rfl⟩⟩
        · have hz : decide ((payS s (bs.drop u)).2.2 = 0) = false := decide_eq_false he
          have hst0 : (stepS s es.length (bs.drop u)).2 = (payS s (bs.drop u)).2.2 := payS_bad he
          have ho2 : openS bs.length start 0 bs = (es, s, u, (payS s (bs.drop u)).2.2) := by
            rw [ho, openS, if_neg hne0, if_neg (by rw [hst0]; exact he), hst0]; simp only [List.append_nil, Nat.add_zero]
          repeat' (first | (simp -implicitDefEqProofs only [ze, zd, simprocAttr, h0, h5, h6, h7, hd, bv_len, bv_tk, bv_dp, List.take_length, List.length_map, hP, hz, k1, hr0, hr1, hr9, hrx, hrx', hst]) | (with_reducible refine wgd_cases ?_ ?_ <;> intro hb) | (with_reducible refine wcond_cases ?_ ?_ <;> intro hb) | (with_reducible refine qd_i (by kernel_rfl) ?_) | (with_reducible refine W_itn_cases ?_ ?_; omega))
          exact ⟨_, _, by rw [ho2], .inr rfl, .inr ⟨rfl, rfl⟩⟩
      · have hd : decide ((u : Int) < (bs.length : Int)) = false := decide_eq_false (by omega)
        have hu0 : (bs.drop u).length = 0 := by rw [List.length_drop]; omega
        have ho2 : openS bs.length start 0 bs = (es, s, u, 0) := by
          rw [ho]
          cases f with
          | zero => simp only [openS, List.append_nil, Nat.add_zero]
          | succ f => simp only [openS, if_pos hu0, List.append_nil, Nat.add_zero]
        repeat' (first | (simp -implicitDefEqProofs only [ze, zd, simprocAttr, h0, h5, h6, h7, hd, bv_len, List.length_map, hr0, hr1, hr9, hrx, hrx', hst]) | (with_reducible refine wgd_cases ?_ ?_ <;> intro hb) | (with_reducible refine wcond_cases ?_ ?_ <;> intro hb) | (with_reducible refine qd_i (by kernel_rfl) ?_) | (with_reducible refine W_itn_cases ?_ ?_; omega))
        exact ⟨_, _, by rw [ho2], .inr rfl, .inr ⟨rfl, rfl⟩⟩
  obtain ⟨z, hz, t, q, rfl, h⟩ := main
  exact ⟨t, q, hz, h⟩
end Go.Proofs.YtaefaadjncehmaaGreatDoor.Vm
set_option maxRecDepth 10000
set_option linter.unusedVariables false
set_option linter.unusedSimpArgs false
namespace Go.Proofs.YtaefaadjncehmaaGreatDoor.Vm
open Go Go.Proofs
theorem zz_fin {z : Int} (h0 : 0 ≤ z) : Co.zz (Co.fin z) = z := by unfold Co.zz Co.fin; split <;> split <;> omega
theorem tS_inv : ∀ (s : List Int) (f i : Nat) (x v u : Int), i + f = 9 → bOK s → 0 ≤ x → x < 128 ^ i → Co.tS s i x = (v, u, 0) → ∃ (y : Int) (k : Nat), v = Co.fin (x + y * 128 ^ i) ∧ 0 ≤ y ∧ (i > 0 → y ≠ 0) ∧ x + y * 128 ^ i < 18446744073709551616 ∧ u = ((i + k : Nat) : Int) ∧ k ≤ s.length ∧ s.take k = Co.vL (f + 1) y
  | [], f, i, x, v, u, hi, hb, h0, h1, h => by
    unfold Co.tS at h
    split at h <;> cases h
  | b :: s, f, i, x, v, u, hi, hb, h0, h1, h => by
    unfold Co.tS at h
    rw [if_pos (show i < 10 by omega)] at h
    split at h
    · cases h
    rename_i hbad
    have hbad : Co.badS i b = false := by simpa using hbad
    have hbr := hb b (by simp)
    obtain ⟨n1, n2⟩ := Co.bad_no hbad
    obtain ⟨s1, s2, s3⟩ := Co.step_bound i x b (by omega) h0 h1 hbr.1 hbr.2 n1
    split at h
    · rename_i hlt
      simp only [Prod.mk.injEq, and_true] at h
      obtain ⟨rfl, rfl⟩ := h
      rw [show b % 128 = b by omega] at s2 ⊢
      exact ⟨b, 1, rfl, hbr.1, n2, s2, rfl, by simp, by rw [Co.vL, if_neg (by omega)]; rfl⟩
    · rename_i hge
      cases f with
      | zero => have := n1 (by omega); omega
      | succ f =>
        obtain ⟨y, k, e1, e2, e3, e4, e5, e6, e7⟩ := tS_inv s f (i + 1) _ v u (by omega) (fun c hc => hb c (by simp [hc])) (by omega) s3 h
        have hy0 : y ≠ 0 := e3 (by omega)
        have ep : x + b % 128 * 128 ^ i + y * 128 ^ (i + 1) = x + (b % 128 + 128 * y) * 128 ^ i := by
          rw [Int.pow_succ, Int.add_mul]
          have : y * (128 ^ i * 128) = 128 * y * 128 ^ i := by
            rw [Int.mul_comm (128 ^ i) 128, ← Int.mul_assoc, Int.mul_comm y 128]
          omega
        rw [ep] at e1 e4
        refine ⟨b % 128 + 128 * y, k + 1, e1, by omega, fun _ => by omega, e4, by rw [e5]; omega, by simpa using e6, ?_⟩
        rw [Co.vL, if_pos (by omega), List.take_succ_cons, e7]
        congr 1
        · omega
        · congr 1; omega
def Rb (bs : List Int) (a a' : Nat) (w : List Int) : Prop := a' = a + w.length ∧ bs.drop a = w ++ bs.drop a'
theorem Rb.nil (bs : List Int) (a : Nat) : Rb bs a a [] := ⟨rfl, rfl⟩
theorem Rb.app {bs w1 w2 : List Int} {a b c : Nat} (h : Rb bs a b w1) (k : Rb bs b c w2) : Rb bs a c (w1 ++ w2) := ⟨by rw [k.1, h.1, List.length_append]; omega, by rw [h.2, k.2, List.append_assoc]⟩
theorem rb_take {bs w : List Int} {a k : Nat} (hk : k ≤ (bs.drop a).length) (h : (bs.drop a).take k = w) : Rb bs a (a + k) w := by
  subst h
  refine ⟨by rw [List.length_take]; omega, ?_⟩
  rw [← List.drop_drop, List.take_append_drop]
theorem tS_rb {bs : List Int} (hb : bOK bs) {a : Nat} {v u : Int} (h : Co.tS (bs.drop a) 0 0 = (v, u, 0)) : Rb bs a (a + u.toNat) (Co.putS v) := by
  obtain ⟨y, k, e1, e2, _, e4, e5, e6, e7⟩ := tS_inv (bs.drop a) 9 0 0 v u rfl (hb.drop a) (by omega) (by decide) h
  have : u.toNat = k := by omega
  rw [this]
  refine rb_take e6 ?_
  rw [e7, e1]
  unfold Co.putS
  rw [Int.pow_zero, Int.mul_one, Int.zero_add, zz_fin e2]
theorem dInt_rb {bs : List Int} (hb : bOK bs) {a : Nat} {p : Int × Nat} (h : dInt bs a = .ok p) : Rb bs a p.2 (Co.putS p.1) := by
  unfold dInt at h
  split at h
  · rename_i h0
    obtain rfl := Except.ok.inj h
    exact tS_rb hb (v := (Co.tS (bs.drop a) 0 0).1) (u := (Co.tS (bs.drop a) 0 0).2.1) (Prod.ext rfl (Prod.ext rfl h0))
  · cases h
theorem dCount_rb {bs : List Int} (hb : bOK bs) {most : Int} {a : Nat} {p : Int × Nat} (h : dCount most bs a = .ok p) : Rb bs a p.2 (Co.putS p.1) := by
  unfold dCount at h
  split at h
  · cases h
  · rename_i q hq
    split at h
    · cases h
    · obtain rfl := Except.ok.inj h
      exact dInt_rb hb hq
theorem bytesOf_strB : ∀ (l : List Int), bOK l → Co.bytesOf (strB l) = l := fun l hl => by
  unfold Co.bytesOf strB
  rw [List.map_map]
  conv => rhs; rw [← List.map_id l]
  apply List.map_congr_left
  intro x hx
  have := hl x hx
  show ((UInt8.ofNat x.toNat).toNat : Int) = x
  simp only [UInt8.toNat_ofNat']
  omega
theorem dText_rb {bs : List Int} (hb : bOK bs) {a : Nat} {p : ByteArray × Nat} (h : dText bs a = .ok p) : Rb bs a p.2 (ptB p.1) := by
  unfold dText at h
  split at h
  · rename_i h0
    obtain rfl := Except.ok.inj h
    unfold tT at h0 ⊢
    have hps := Co.tS_pos (bs.drop a) 0 0
    generalize hq : Co.tS (bs.drop a) 0 0 = q at h0 hps ⊢
    obtain ⟨n, u, e⟩ := q
    simp only at h0 hps ⊢
    by_cases c1 : e ≠ 0
    · rw [if_pos c1] at h0; exact absurd h0 c1
    rw [if_neg c1] at h0 ⊢
    by_cases c2 : n < 0 ∨ 60 < n
    · rw [if_pos c2] at h0; cases h0
    rw [if_neg c2] at h0 ⊢
    by_cases c3 : ((bs.drop a).length : Int) - u < n
    · rw [if_pos c3] at h0; cases h0
    rw [if_neg c3] at h0 ⊢
    by_cases c4 : plainS (strB (((bs.drop a).drop u.toNat).take n.toNat)) = false
    · rw [if_pos c4] at h0; cases h0
    rw [if_neg c4]
    have he : e = 0 := by omega
    subst he
    have r1 := tS_rb hb hq
    have hl : (((bs.drop a).drop u.toNat).take n.toNat).length = n.toNat := by rw [List.length_take, List.length_drop]; omega
    have hsz : ((strB (((bs.drop a).drop u.toNat).take n.toNat)).size : Int) = n := by rw [strB_len, hl]; omega
    have hbo := bytesOf_strB (((bs.drop a).drop u.toNat).take n.toNat) (fun b hb' => hb b (List.mem_of_mem_drop (List.mem_of_mem_drop (List.mem_of_mem_take hb'))))
    have e1 : (u + n).toNat = u.toNat + n.toNat := by omega
    show Rb bs a (a + (u + n).toNat) (ptB (strB (((bs.drop a).drop u.toNat).take n.toNat)))
    unfold ptB
    rw [hsz, hbo, e1, ← Nat.add_assoc]
    refine r1.app (rb_take ?_ ?_)
    · rw [← List.drop_drop, List.length_drop]; omega
    · rw [List.drop_drop]
  · cases h
theorem dTags_rb {bs : List Int} (hb : bOK bs) : ∀ (n : Nat) (acc : List Tag) (a : Nat) {r : List Tag × Nat}, dTags bs n acc a = .ok r → ∃ l, r.1 = acc ++ l ∧ Rb bs a r.2 (tagsB l)
  | 0, acc, a, r, h => by obtain rfl := Except.ok.inj h; exact ⟨[], by simp, Rb.nil bs a⟩
  | n + 1, acc, a, r, h => by
    obtain ⟨p1, h1, h⟩ := bindD_inv h
    obtain ⟨p2, h2, h⟩ := bindD_inv h
    obtain ⟨l, e1, e2⟩ := dTags_rb hb n _ _ h
    refine ⟨⟨p1.1, p2.1⟩ :: l, by rw [e1]; simp, ?_⟩
    have e : tagsB (⟨p1.1, p2.1⟩ :: l) = ptB p1.1 ++ ptB p2.1 ++ tagsB l := by simp [tagsB]
    rw [e]
    exact ((dText_rb hb h1).app (dText_rb hb h2)).app e2
theorem dLine_rb {bs : List Int} (hb : bOK bs) {a : Nat} {r : Line × Nat} (h : dLine bs a = .ok r) : Rb bs a r.2 (lineB r.1) := by
  obtain ⟨p1, h1, h⟩ := bindD_inv h
  obtain ⟨p2, h2, h⟩ := bindD_inv h
  obtain ⟨p3, h3, h⟩ := bindD_inv h
  obtain ⟨p4, h4, h⟩ := bindD_inv h
  obtain ⟨p5, h5, h⟩ := bindD_inv h
  obtain ⟨p6, h6, h⟩ := bindD_inv h
  obtain ⟨p7, h7, h⟩ := bindD_inv h
  obtain ⟨p8, h8, h⟩ := bindD_inv h
  obtain rfl := Except.ok.inj h
  obtain ⟨l, e1, e2⟩ := dTags_rb hb _ _ _ h8
  rw [List.nil_append] at e1
  have hc := dCount_le h7
  have hk := (dTags_small _ _ _ h8 (by simp)).2
  have hn : (p8.1.length : Int) = p7.1 := by simp at hk; omega
  have e : lineB ⟨p1.1, p2.1, p3.1, p4.1, p5.1, p6.1, p8.1, p8.1.isEmpty⟩ = ptB p1.1 ++ ptB p2.1 ++ Co.putS p3.1 ++ Co.putS p4.1 ++ ptB p5.1 ++ ptB p6.1 ++ Co.putS p7.1 ++ tagsB l := by
    unfold lineB; simp only [hn]; rw [e1]
  rw [e]
  exact (((((((dText_rb hb h1).app (dText_rb hb h2)).app (dInt_rb hb h3)).app (dInt_rb hb h4)).app (dText_rb hb h5)).app (dText_rb hb h6)).app (dCount_rb hb h7)).app e2
theorem dLines_rb {bs : List Int} (hb : bOK bs) : ∀ (n : Nat) (acc : List Line) (a : Nat) {r : List Line × Nat}, dLines bs n acc a = .ok r → ∃ l, r.1 = acc ++ l ∧ Rb bs a r.2 (linesB l)
  | 0, acc, a, r, h => by obtain rfl := Except.ok.inj h; exact ⟨[], by simp, Rb.nil bs a⟩
  | n + 1, acc, a, r, h => by
    obtain ⟨p1, h1, h⟩ := bindD_inv h
    obtain ⟨l, e1, e2⟩ := dLines_rb hb n _ _ h
    refine ⟨p1.1 :: l, by rw [e1]; simp, ?_⟩
    have e : linesB (p1.1 :: l) = lineB p1.1 ++ linesB l := by simp [linesB]
    rw [e]
    exact (dLine_rb hb h1).app e2
theorem dEntry_rb {bs : List Int} (hb : bOK bs) {a : Nat} {r : Entry × Nat} (h : dEntry bs a = .ok r) : Rb bs a r.2 (entryB r.1) := by
  obtain ⟨p1, h1, h⟩ := bindD_inv h
  obtain ⟨p2, h2, h⟩ := bindD_inv h
  obtain ⟨p3, h3, h⟩ := bindD_inv h
  obtain ⟨p4, h4, h⟩ := bindD_inv h
  obtain ⟨p5, h5, h⟩ := bindD_inv h
  obtain ⟨p6, h6, h⟩ := bindD_inv h
  obtain ⟨p7, h7, h⟩ := bindD_inv h
  obtain ⟨p8, h8, h⟩ := bindD_inv h
  obtain ⟨p9, h9, h⟩ := bindD_inv h
  obtain ⟨p10, h10, h⟩ := bindD_inv h
  obtain rfl := Except.ok.inj h
  obtain ⟨l, e1, e2⟩ := dLines_rb hb _ _ _ h10
  rw [List.nil_append] at e1
  have hc := dCount_le h9
  have hk := (dLines_good hb _ _ _ h10 (by simp)).2
  have hn : (p10.1.length : Int) = p9.1 := by simp at hk; omega
  have e : entryB ⟨p1.1, p2.1, p3.1, p4.1, p5.1, p6.1, p7.1, p8.1, p10.1, p10.1.isEmpty⟩ = Co.putS p1.1 ++ ptB p2.1 ++ Co.putS p3.1 ++ Co.putS p4.1 ++ Co.putS p5.1 ++ ptB p6.1 ++ ptB p7.1 ++ Co.putS p8.1 ++ Co.putS p9.1 ++ linesB l := by
    unfold entryB headB; simp only [hn]; rw [e1]
  rw [e]
  exact (((((((((dInt_rb hb h1).app (dText_rb hb h2)).app (dInt_rb hb h3)).app (dInt_rb hb h4)).app (dInt_rb hb h5)).app (dText_rb hb h6)).app (dText_rb hb h7)).app (dInt_rb hb h8)).app (dCount_rb hb h9)).app e2
theorem take_canon {bs : List Int} (hb : bOK bs) (h1 : (takeS bs).2.2 = 0) (h2 : (takeS bs).2.1 = (bs.length : Int)) : entryB (takeS bs).1 = bs ∧ smallE (takeS bs).1 ∧ rangeE (takeS bs).1 ∧ (checkS (takeS bs).1).2 = 0 := by
  have hpos : takeS bs = (zeroE, 0, (takeS bs).2.2) ∨ ∃ p, dEntry bs 0 = .ok p ∧ (checkS p.1).2 = 0 ∧ takeS bs = (p.1, (p.2 : Int), 0) := by
    unfold takeS
    cases hd : dEntry bs 0 with
    | error e => exact .inl rfl
    | ok p =>
      simp only
      by_cases hc : (checkS p.1).2 = 0
      · rw [if_pos hc]; exact .inr ⟨p, rfl, hc, rfl⟩
      · rw [if_neg hc]; exact .inl rfl
  rcases hpos with h | ⟨p, hp, hc, h⟩
  · exfalso
    have hz : (takeS bs).2.1 = 0 := congrArg (fun q => q.2.1) h
    have hl : bs.length = 0 := by omega
    obtain rfl := List.length_eq_zero_iff.1 hl
    have e6 : (takeS []).2.2 = 6 := rfl
    rw [e6] at h1
    cases h1
  · rw [h] at h2 ⊢
    have h2 : (p.2 : Int) = (bs.length : Int) := h2
    have e := dEntry_rb hb hp
    have hg := dEntry_good hb hp
    refine ⟨?_, hg.1, hg.2, hc⟩
    have := e.2
    rw [List.drop_zero, List.drop_of_length_le (by omega), List.append_nil] at this
    exact this.symm
end Go.Proofs.YtaefaadjncehmaaGreatDoor.Vm
set_option maxRecDepth 10000
set_option linter.unusedVariables false
set_option linter.unusedSimpArgs false
namespace Go.Proofs.YtaefaadjncehmaaGreatDoor.Vm
open Go Go.Proofs
theorem openS_good : ∀ (f : Nat) (s : Int) (n : Nat) (bs : List Int), bOK bs → bs.length ≤ f → (∀ e ∈ (openS f s n bs).1, goodE e) ∧ (openS f s n bs).2.1 = sumE s (openS f s n bs).1 ∧ (openS f s n bs).2.2.1 ≤ bs.length ∧ (openS f s n bs).1.length * 16 ≤ (openS f s n bs).2.2.1
  | 0, s, n, bs, hb, hl => ⟨(fun e he => by cases he), rfl, Nat.zero_le _, Nat.le_refl _⟩
  | f + 1, s, n, bs, hb, hl => by
    by_cases h0 : bs.length = 0
    · rw [openS, if_pos h0]; exact ⟨(fun e he => by cases he), rfl, Nat.zero_le _, Nat.le_refl _⟩
    by_cases h1 : (stepS s n bs).2 = 0
    · obtain ⟨g1, g2, g3, g4, g5, g6⟩ := step_ok h1
      obtain ⟨b1, b2⟩ := step_bytes hb h1
      obtain ⟨c1, c2, c3, c4⟩ := take_canon (frameS_b bs hb).1 g3 g4
      obtain ⟨i1, i2, i3, i4⟩ := openS_good f (nextI s (frameS bs).1) (n + 1) (bs.drop ((frameS bs).1.length + 16)) (bOK_drop hb _) (by rw [List.length_drop]; omega)
      rw [List.length_drop] at i3
      rw [openS, if_neg h0, if_pos h1]
      refine ⟨fun e he => ?_, ?_, ?_, ?_⟩
      · rcases List.mem_cons.1 he with rfl | he
        · exact ⟨c2, c3, c4⟩
        · exact i1 e he
      · show _ = sumE (nextI s (entryB (takeS (frameS bs).1).1)) _
        rw [c1]; exact i2
      · show (frameS bs).1.length + 16 + _ ≤ _; omega
      · show (_ + 1) * 16 ≤ (frameS bs).1.length + 16 + _; omega
    · rw [openS, if_neg h0, if_neg h1]; exact ⟨(fun e he => by cases he), rfl, Nat.zero_le _, Nat.le_refl _⟩
end Go.Proofs.YtaefaadjncehmaaGreatDoor.Vm
set_option maxRecDepth 10000
set_option linter.unusedVariables false
set_option linter.unusedSimpArgs false
namespace Go.Proofs.YtaefaadjncehmaaGreatDoor.Vm
open Go Go.Proofs
theorem cop_nil (e : Entry) : nilE (copE e) := by
  refine ⟨fun h => ?_, fun l hl => ?_⟩
  · have : e.lines = [] := by
      have h : e.lines.isEmpty = true := h
      simpa using h
    show e.lines.map copL = []
    rw [this]; rfl
  · obtain ⟨l0, _, rfl⟩ := List.mem_map.1 hl
    intro h; cases h
end Go.Proofs.YtaefaadjncehmaaGreatDoor.Vm
set_option maxRecDepth 10000
set_option linter.unusedVariables false
set_option linter.unusedSimpArgs false
namespace Go.Proofs.YtaefaadjncehmaaGreatDoor.Vm
open Go Go.Proofs
noncomputable def sameN : List Entry → List Entry → Nat
  | x :: xs, y :: ys => if x.k = y.k then sameN xs ys + 1 else 0
  | _, _ => 0
noncomputable def logV (es l : List Entry) (e : Int) : V :=
  if e = 0 ∧ sameN es l = es.length ∧ sameN es l = l.length then .list 0 [] 1
  else .list 52 [.agg [.i64 9, .i64 (sameN es l), .str (ByteArray.mk #[])]] (8 + 52)
theorem sameN_le : ∀ (a b : List Entry), sameN a b ≤ a.length ∧ sameN a b ≤ b.length
  | [], b => by simp [sameN]
  | x :: xs, [] => by simp [sameN]
  | x :: xs, y :: ys => by
    have := sameN_le xs ys
    simp only [sameN, List.length_cons]; split <;> omega
theorem sameN_go {a b : List Entry} {i : Nat} {x y : Entry} (hx : a[i]? = some x) (hy : b[i]? = some y) (h : x.k = y.k) (hp : sameN a b = i + sameN (a.drop i) (b.drop i)) : sameN a b = i + 1 + sameN (a.drop (i + 1)) (b.drop (i + 1)) := by
  have h1 : i < a.length := (List.getElem?_eq_some_iff.1 hx).1
  have h2 : i < b.length := (List.getElem?_eq_some_iff.1 hy).1
  rw [List.getElem?_eq_getElem h1] at hx
  rw [List.getElem?_eq_getElem h2] at hy
  rw [hp, List.drop_eq_getElem_cons h1, List.drop_eq_getElem_cons h2, Option.some.inj hx, Option.some.inj hy, sameN, if_pos h]; omega
theorem sameN_no {a b : List Entry} {i : Nat} {x y : Entry} (hx : a[i]? = some x) (hy : b[i]? = some y) (h : ¬ x.k = y.k) (hp : sameN a b = i + sameN (a.drop i) (b.drop i)) : sameN a b = i := by
  have h1 : i < a.length := (List.getElem?_eq_some_iff.1 hx).1
  have h2 : i < b.length := (List.getElem?_eq_some_iff.1 hy).1
  rw [List.getElem?_eq_getElem h1] at hx
  rw [List.getElem?_eq_getElem h2] at hy
  rw [hp, List.drop_eq_getElem_cons h1, List.drop_eq_getElem_cons h2, Option.some.inj hx, Option.some.inj hy, sameN, if_neg h]; omega
theorem sameN_end {a b : List Entry} {i : Nat} (h : a.length ≤ i ∨ b.length ≤ i) (hp : sameN a b = i + sameN (a.drop i) (b.drop i)) : sameN a b = i := by
  have := sameN_le (a.drop i) (b.drop i)
  simp only [List.length_drop] at this
  omega
theorem fitE.cop {e : Entry} (h : fitE e) : fitE (copE e) := by
  refine ⟨fun l hl => ?_, ?_, (cop_nil e).1⟩
  · obtain ⟨l1, hl1, rfl⟩ := List.mem_map.1 hl
    have := h.lines l1 hl1
    exact ⟨⟨this.sm.acc, this.sm.cur, this.sm.par, this.sm.pty, this.sm.tags, this.sm.len, fun h => by cases h⟩, this.bulk⟩
  · show (e.lines.map copL).length < _
    rw [List.length_map]; exact h.len
set_option maxHeartbeats 2000000 in
theorem alog_ok (bs : List Int) (hb : bOK bs) (hl : bs.length ≤ 20000) (l : List Entry) (hle : l.length ≤ 40) (hf : ∀ e ∈ l, fitE e) (hg : ∀ e ∈ (openS bs.length start 0 bs).1, fitE e) (r tl rl : Nat) (htl : l = [] ∨ tl = 46) : L.pl 10 [.list 5 (bv bs) r, .list tl (l.map encE) rl] = some (.ret (logV (openS bs.length start 0 bs).1 l (openS bs.length start 0 bs).2.2.2)) := by
  obtain ⟨g1, g2, g3, g4⟩ := openS_good bs.length start 0 bs hb (Nat.le_refl _)
  refine W_of (pl_w k10_eq ?_)
  simp only [k10]
  repeat' (first | (simp -implicitDefEqProofs only [ze, zd, simprocAttr]) | (with_reducible refine wgd_cases ?_ ?_ <;> intro hb) | (with_reducible refine wcond_cases ?_ ?_ <;> intro hb) | (with_reducible refine qd_i (by kernel_rfl) ?_) | (with_reducible refine W_itn_cases ?_ ?_; omega))
  refine W_hp (open_ok bs hb (by omega) _ _ (by omega) _) ?_
  rintro _ ⟨st1, nx1, g, rfl, hn1, hg1, hG, hk1, hnew⟩
  generalize ho : openS bs.length start 0 bs = O at *
  obtain ⟨es, s, u, e⟩ := O
  simp only at g1 g2 g3 g4 hG hg ⊢
  have hlens : ∀ e ∈ es, nilE e ∧ e.lines.length < 1000000 ∧ ∀ l ∈ e.lines, l.tags.length < 1000000 := fun e he => by
    have hp := (g1 e he).plain
    exact ⟨(g1 e he).sm.nils, by have := hp.len; omega, fun l hl => by have := (hp.lines l hl).len; omega⟩
  have hmm : (es.map fun e => encE (copE e)) = (es.map copE).map encE := by rw [List.map_map]; rfl
  have hlent := fun (nx' : Nat) (h : nx1 ≤ nx') => lent_ok (lgLe hG h) (by omega) hlens
  rw [hmm] at hlent
  repeat' (first | (simp -implicitDefEqProofs only [ze, zd, simprocAttr, bv_len, wnx_tb, wnx_tbn]) | (with_reducible refine W_itn_cases ?_ ?_; omega))
  refine W_hp (hlent _ (by omega)) ?_
  rintro _ ⟨st2, nx2, t2, q2, rfl, hn2, ht2, hk2⟩
  repeat' (first | (simp -implicitDefEqProofs only [ze, zd, simprocAttr]) | (with_reducible refine wgd_cases ?_ ?_ <;> intro hb) | (with_reducible refine wcond_cases ?_ ?_ <;> intro hb) | (with_reducible refine qd_i (by kernel_rfl) ?_) | (with_reducible refine W_itn_cases ?_ ?_; omega))
  refine loop_w (fun n tm st nx => ∃ i : Nat, n = es.length - i ∧ i ≤ es.length ∧ i ≤ l.length ∧ tm 9 = .i64 i ∧ tm 8 = .list t2 ((es.map copE).map encE) q2 ∧ tm 1 = .list tl (l.map encE) rl ∧ tm 7 = .i64 e ∧ sameN es l = i + sameN (es.drop i) (l.drop i)) es.length ⟨0, by omega, by omega, by omega, ?_, ?_, ?_, ?_, by simp⟩ ?_
  · simp -implicitDefEqProofs only [ze, zd, simprocAttr]; try rfl
  · simp -implicitDefEqProofs only [ze, zd, simprocAttr]; try rfl
  · simp -implicitDefEqProofs only [ze, zd, simprocAttr]; try rfl
  · simp -implicitDefEqProofs only [ze, zd, simprocAttr]; try rfl
  rintro n tm st nx ⟨i, hn, hi1, hi2, t9, t8, t1, t7, hp⟩
  simp only [k10_l0, k10_t0]
  have hdl : ∀ (a b : Nat), (decide ((a : Int) < (b : Int))) = decide (a < b) := fun a b => decide_eq_decide.mpr (by omega)
  by_cases h1 : i < es.length
  · obtain rfl : t2 = 46 := by
      rcases ht2 with rfl | h
      · simp at h1
      · exact h
    have d1 : decide ((i : Int) < (es.length : Int)) = true := decide_eq_true (by omega)
    obtain ⟨x, hx⟩ := get_lt h1
    by_cases h2 : i < l.length
    · obtain rfl : tl = 46 := by
        rcases htl with rfl | h
        · simp at h2
        · exact h
      have d2 : decide ((i : Int) < (l.length : Int)) = true := decide_eq_true (by omega)
      obtain ⟨y, hy⟩ := get_lt h2
      have hS := same2_ok (copE x) y (hg x (List.mem_of_getElem? hx)).cop (hf y (List.mem_of_getElem? hy))
      rw [cop_k] at hS
      have hgx : ((es.map copE).map encE)[i]? = some (encE (copE x)) := by simp [hx]
      have hgy : (l.map encE)[i]? = some (encE y) := by simp [hy]
      simp only [encE] at hS hgx hgy
      have hup : IntKind.i64.wrap ((i : Int) + 1) = ((i + 1 : Nat) : Int) := wrap_i64 (by omega) (by omega)
      by_cases hk : x.k = y.k
      · rw [decide_eq_true hk] at hS
        repeat' (first | (simp -implicitDefEqProofs only [ze, zd, simprocAttr, t9, t8, t1, t7, d1, d2, hgx, hgy, hS, hup, nr_pur, List.length_map, ne_eq, not_true_eq_false]) | (with_reducible refine wgd_cases ?_ ?_ <;> intro hb) | (with_reducible refine wcond_cases ?_ ?_ <;> intro hb) | (with_reducible refine qd_i (by kernel_rfl) ?_) | (with_reducible refine W_itn_cases ?_ ?_; omega))
        exact ⟨es.length - (i + 1), by omega, i + 1, rfl, by omega, by omega, rfl, sameN_go hx hy hk hp⟩
      · rw [decide_eq_false hk] at hS
        have hN := sameN_no hx hy hk hp
        repeat' (first | (simp -implicitDefEqProofs only [ze, zd, simprocAttr, t9, t8, t1, t7, d1, d2, hgx, hgy, hS, hup, nr_pur, List.length_map, ne_eq, not_true_eq_false]) | (with_reducible refine wgd_cases ?_ ?_ <;> intro hb) | (with_reducible refine wcond_cases ?_ ?_ <;> intro hb) | (with_reducible refine qd_i (by kernel_rfl) ?_) | (with_reducible refine W_itn_cases ?_ ?_; omega))
        all_goals exact ⟨_, rfl, by rw [logV, if_neg (by rw [hN]; omega), hN]⟩
    · have d2 : decide ((i : Int) < (l.length : Int)) = false := decide_eq_false (by omega)
      have hN := sameN_end (.inr (by omega)) hp
      repeat' (first | (simp -implicitDefEqProofs only [ze, zd, simprocAttr, t9, t8, t1, t7, d1, d2, nr_pur, List.length_map, ne_eq, not_true_eq_false]) | (with_reducible refine wgd_cases ?_ ?_ <;> intro hb) | (with_reducible refine wcond_cases ?_ ?_ <;> intro hb) | (with_reducible refine qd_i (by kernel_rfl) ?_) | (with_reducible refine W_itn_cases ?_ ?_; omega))
      all_goals exact ⟨_, rfl, by rw [logV, if_neg (by rw [hN]; omega), hN]⟩
  · have d1 : decide ((i : Int) < (es.length : Int)) = false := decide_eq_false (by omega)
    have hN := sameN_end (.inl (by omega)) hp
    by_cases h2 : i < l.length
    · have d2 : decide ((i : Int) < (l.length : Int)) = true := decide_eq_true (by omega)
      repeat' (first | (simp -implicitDefEqProofs only [ze, zd, simprocAttr, t9, t8, t1, t7, d1, d2, nr_pur, List.length_map, ne_eq, not_true_eq_false]) | (with_reducible refine wgd_cases ?_ ?_ <;> intro hb) | (with_reducible refine wcond_cases ?_ ?_ <;> intro hb) | (with_reducible refine qd_i (by kernel_rfl) ?_) | (with_reducible refine W_itn_cases ?_ ?_; omega))
      all_goals exact ⟨_, rfl, by rw [logV, if_neg (by rw [hN]; omega), hN]⟩
    · have d2 : decide ((i : Int) < (l.length : Int)) = false := decide_eq_false (by omega)
      by_cases he : e = 0
      · subst he
        have d3 : decide ((0 : Int) = 0) = true := rfl
        repeat' (first | (simp -implicitDefEqProofs only [ze, zd, simprocAttr, t9, t8, t1, t7, d1, d2, d3, nr_pur, List.length_map, ne_eq, not_true_eq_false]) | (with_reducible refine wgd_cases ?_ ?_ <;> intro hb) | (with_reducible refine wcond_cases ?_ ?_ <;> intro hb) | (with_reducible refine qd_i (by kernel_rfl) ?_) | (with_reducible refine W_itn_cases ?_ ?_; omega))
        all_goals (first | (rw [logV, if_pos ⟨rfl, by omega, by omega⟩]; done) | exact ⟨_, rfl, by rw [logV, if_pos ⟨rfl, by omega, by omega⟩]⟩)
      · have d3 : decide (e = 0) = false := decide_eq_false he
        repeat' (first | (simp -implicitDefEqProofs only [ze, zd, simprocAttr, t9, t8, t1, t7, d1, d2, d3, nr_pur, List.length_map, ne_eq, not_true_eq_false]) | (with_reducible refine wgd_cases ?_ ?_ <;> intro hb) | (with_reducible refine wcond_cases ?_ ?_ <;> intro hb) | (with_reducible refine qd_i (by kernel_rfl) ?_) | (with_reducible refine W_itn_cases ?_ ?_; omega))
        all_goals exact ⟨_, rfl, by rw [logV, if_neg (by rw [hN]; omega), hN]⟩
theorem fitE.nils {e : Entry} (h : fitE e) : nilE e := ⟨h.nil, fun l hl => (h.lines l hl).sm.nil⟩
set_option maxHeartbeats 2000000 in
theorem rlog_ok (bs : List Int) (hb : bOK bs) (hl : bs.length ≤ 20000) (l : List Entry) (hle : l.length ≤ 40) (hf : ∀ e ∈ l, fitE e) (hg : ∀ e ∈ (openS bs.length start 0 bs).1, fitE e) (r tl rl : Nat) (htl : l = [] ∨ tl = 46) : L.pl 11 [.list 5 (bv bs) r, .list tl (l.map encE) rl] = some (.ret (logV (openS bs.length start 0 bs).1 l (openS bs.length start 0 bs).2.2.2)) := by
  obtain ⟨g1, g2, g3, g4⟩ := openS_good bs.length start 0 bs hb (Nat.le_refl _)
  obtain ⟨t2, q2, hR, ht2, hq⟩ := ropen_ok bs hb (by omega) (if r = 1 then 1 else 0)
  generalize ho : openS bs.length start 0 bs = O at *
  obtain ⟨es, s, u, e⟩ := O
  simp only at g1 g2 g3 g4 hg hR ht2 ⊢
  refine W_of (pl_w k11_eq ?_)
  simp only [k11]
  rcases hq with ⟨rfl, rfl⟩ | ⟨rfl, rfl⟩
  · have hes : es = [] := ht2.resolve_right (by decide)
    subst hes
    repeat' (first | (simp -implicitDefEqProofs only [ze, zd, simprocAttr, hR]) | (with_reducible refine wgd_cases ?_ ?_ <;> intro hb) | (with_reducible refine wcond_cases ?_ ?_ <;> intro hb) | (with_reducible refine qd_i (by kernel_rfl) ?_) | (with_reducible refine W_itn_cases ?_ ?_; omega))
    refine loop_u k11_l0.eq_1 ?_
    have d1 : decide (((0 : Nat) : Int) < ((0 : Nat) : Int)) = false := rfl
    by_cases h2 : 0 < l.length
    · have d2 : decide ((0 : Int) < (l.length : Int)) = true := decide_eq_true (by omega)
      repeat' (first | (simp -implicitDefEqProofs only [ze, zd, simprocAttr, d1, d2, cunr_n, cunr_x, cunr_r, k11_t0, List.map_nil, List.length_nil, List.length_map, ne_eq, not_true_eq_false]) | (with_reducible refine wgd_cases ?_ ?_ <;> intro hb) | (with_reducible refine wcond_cases ?_ ?_ <;> intro hb) | (with_reducible refine qd_i (by kernel_rfl) ?_) | (with_reducible refine W_itn_cases ?_ ?_; omega))
      all_goals (rw [logV, if_neg (by simp [sameN]; omega)]; simp [sameN])
    · have d2 : decide ((0 : Int) < (l.length : Int)) = false := decide_eq_false (by omega)
      repeat' (first | (simp -implicitDefEqProofs only [ze, zd, simprocAttr, d1, d2, cunr_n, cunr_x, cunr_r, k11_t0, List.map_nil, List.length_nil, List.length_map, ne_eq, not_true_eq_false]) | (with_reducible refine wgd_cases ?_ ?_ <;> intro hb) | (with_reducible refine wcond_cases ?_ ?_ <;> intro hb) | (with_reducible refine qd_i (by kernel_rfl) ?_) | (with_reducible refine W_itn_cases ?_ ?_; omega))
      have hl0 : l.length = 0 := by omega
      · have he : ¬ e = 0 := by simpa using hb
        rw [logV, if_neg (fun h => he h.1)]; simp [sameN]
      · have he : e = 0 := by simpa using hb
        rw [logV, if_pos ⟨he, by simp [sameN], by simp [sameN]; omega⟩]
  · repeat' (first | (simp -implicitDefEqProofs only [ze, zd, simprocAttr, hR]) | (with_reducible refine wgd_cases ?_ ?_ <;> intro hb) | (with_reducible refine wcond_cases ?_ ?_ <;> intro hb) | (with_reducible refine qd_i (by kernel_rfl) ?_) | (with_reducible refine W_itn_cases ?_ ?_; omega))
    refine loop_w (fun n tm st nx => ∃ i : Nat, n = es.length - i ∧ i ≤ es.length ∧ i ≤ l.length ∧ tm 8 = .i64 i ∧ tm 5 = .list 46 (es.map encE) 24 ∧ tm 1 = .list tl (l.map encE) rl ∧ tm 7 = .i64 e ∧ sameN es l = i + sameN (es.drop i) (l.drop i)) es.length ⟨0, by omega, by omega, by omega, ?_, ?_, ?_, ?_, by simp⟩ ?_
    · simp -implicitDefEqProofs only [ze, zd, simprocAttr]; try rfl
    · simp -implicitDefEqProofs only [ze, zd, simprocAttr]; try rfl
    · simp -implicitDefEqProofs only [ze, zd, simprocAttr]; try rfl
    · simp -implicitDefEqProofs only [ze, zd, simprocAttr]; try rfl
    rintro n tm st nx ⟨i, hn, hi1, hi2, t8, t5, t1, t7, hp⟩
    simp only [k11_l0, k11_t0]
    have hdl : ∀ (a b : Nat), (decide ((a : Int) < (b : Int))) = decide (a < b) := fun a b => decide_eq_decide.mpr (by omega)
    by_cases h1 : i < es.length
    · have d1 : decide ((i : Int) < (es.length : Int)) = true := decide_eq_true (by omega)
      obtain ⟨x, hx⟩ := get_lt h1
      by_cases h2 : i < l.length
      · obtain rfl : tl = 46 := by
          rcases htl with rfl | h
          · simp at h2
          · exact h
        have d2 : decide ((i : Int) < (l.length : Int)) = true := decide_eq_true (by omega)
        obtain ⟨y, hy⟩ := get_lt h2
        have hS := same_ok x y (hg x (List.mem_of_getElem? hx)).len (fun l hl => ((hg x (List.mem_of_getElem? hx)).lines l hl).sm.len) (hg x (List.mem_of_getElem? hx)).nils (hf y (List.mem_of_getElem? hy)).nils
        have hgx : (es.map encE)[i]? = some (encE x) := by simp [hx]
        have hgy : (l.map encE)[i]? = some (encE y) := by simp [hy]
        simp only [encE] at hS hgx hgy
        have hup : IntKind.i64.wrap ((i : Int) + 1) = ((i + 1 : Nat) : Int) := wrap_i64 (by omega) (by omega)
        by_cases hk : x.k = y.k
        · rw [decide_eq_true hk] at hS
          repeat' (first | (simp -implicitDefEqProofs only [ze, zd, simprocAttr, t8, t5, t1, t7, d1, d2, hgx, hgy, hS, hup, nr_pur, List.length_map, ne_eq, not_true_eq_false]) | (with_reducible refine wgd_cases ?_ ?_ <;> intro hb) | (with_reducible refine wcond_cases ?_ ?_ <;> intro hb) | (with_reducible refine qd_i (by kernel_rfl) ?_) | (with_reducible refine W_itn_cases ?_ ?_; omega))
          exact ⟨es.length - (i + 1), by omega, i + 1, rfl, by omega, by omega, rfl, sameN_go hx hy hk hp⟩
        · rw [decide_eq_false hk] at hS
          have hN := sameN_no hx hy hk hp
          repeat' (first | (simp -implicitDefEqProofs only [ze, zd, simprocAttr, t8, t5, t1, t7, d1, d2, hgx, hgy, hS, hup, nr_pur, List.length_map, ne_eq, not_true_eq_false]) | (with_reducible refine wgd_cases ?_ ?_ <;> intro hb) | (with_reducible refine wcond_cases ?_ ?_ <;> intro hb) | (with_reducible refine qd_i (by kernel_rfl) ?_) | (with_reducible refine W_itn_cases ?_ ?_; omega))
          all_goals exact ⟨_, rfl, by rw [logV, if_neg (by rw [hN]; omega), hN]⟩
      · have d2 : decide ((i : Int) < (l.length : Int)) = false := decide_eq_false (by omega)
        have hN := sameN_end (.inr (by omega)) hp
        repeat' (first | (simp -implicitDefEqProofs only [ze, zd, simprocAttr, t8, t5, t1, t7, d1, d2, nr_pur, List.length_map, ne_eq, not_true_eq_false]) | (with_reducible refine wgd_cases ?_ ?_ <;> intro hb) | (with_reducible refine wcond_cases ?_ ?_ <;> intro hb) | (with_reducible refine qd_i (by kernel_rfl) ?_) | (with_reducible refine W_itn_cases ?_ ?_; omega))
        all_goals exact ⟨_, rfl, by rw [logV, if_neg (by rw [hN]; omega), hN]⟩
    · have d1 : decide ((i : Int) < (es.length : Int)) = false := decide_eq_false (by omega)
      have hN := sameN_end (.inl (by omega)) hp
      by_cases h2 : i < l.length
      · have d2 : decide ((i : Int) < (l.length : Int)) = true := decide_eq_true (by omega)
        repeat' (first | (simp -implicitDefEqProofs only [ze, zd, simprocAttr, t8, t5, t1, t7, d1, d2, nr_pur, List.length_map, ne_eq, not_true_eq_false]) | (with_reducible refine wgd_cases ?_ ?_ <;> intro hb) | (with_reducible refine wcond_cases ?_ ?_ <;> intro hb) | (with_reducible refine qd_i (by kernel_rfl) ?_) | (with_reducible refine W_itn_cases ?_ ?_; omega))
        all_goals exact ⟨_, rfl, by rw [logV, if_neg (by rw [hN]; omega), hN]⟩
      · have d2 : decide ((i : Int) < (l.length : Int)) = false := decide_eq_false (by omega)
        by_cases he : e = 0
        · subst he
          have d3 : decide ((0 : Int) = 0) = true := rfl
          repeat' (first | (simp -implicitDefEqProofs only [ze, zd, simprocAttr, t8, t5, t1, t7, d1, d2, d3, nr_pur, List.length_map, ne_eq, not_true_eq_false]) | (with_reducible refine wgd_cases ?_ ?_ <;> intro hb) | (with_reducible refine wcond_cases ?_ ?_ <;> intro hb) | (with_reducible refine qd_i (by kernel_rfl) ?_) | (with_reducible refine W_itn_cases ?_ ?_; omega))
          all_goals (first | (rw [logV, if_pos ⟨rfl, by omega, by omega⟩]; done) | exact ⟨_, rfl, by rw [logV, if_pos ⟨rfl, by omega, by omega⟩]⟩)
        · have d3 : decide (e = 0) = false := decide_eq_false he
          repeat' (first | (simp -implicitDefEqProofs only [ze, zd, simprocAttr, t8, t5, t1, t7, d1, d2, d3, nr_pur, List.length_map, ne_eq, not_true_eq_false]) | (with_reducible refine wgd_cases ?_ ?_ <;> intro hb) | (with_reducible refine wcond_cases ?_ ?_ <;> intro hb) | (with_reducible refine qd_i (by kernel_rfl) ?_) | (with_reducible refine W_itn_cases ?_ ?_; omega))
          all_goals exact ⟨_, rfl, by rw [logV, if_neg (by rw [hN]; omega), hN]⟩
end Go.Proofs.YtaefaadjncehmaaGreatDoor.Vm
set_option maxRecDepth 10000
set_option linter.unusedVariables false
set_option linter.unusedSimpArgs false
namespace Go.Proofs.YtaefaadjncehmaaGreatDoor.Vm
open Go Go.Proofs
theorem alives_ok : L.pl 8 [] = some (.ret (.sc (.bool true))) := pl_calc 60 (by kernel_rfl)
theorem fsame_ok (es l : List Entry) (e : Int) (r1 r2 : Nat) : ∀ x1 x2, (logV es l e = .list 0 [] 1 → x1 = .list 0 [] r1 ∧ x2 = .list 0 [] r2) → (logV es l e ≠ .list 0 [] 1 → x1 = .list 52 [.agg [.i64 9, .i64 (sameN es l), .str (ByteArray.mk #[])]] r1 ∧ x2 = .list 52 [.agg [.i64 9, .i64 (sameN es l), .str (ByteArray.mk #[])]] r2) → L.pl 9 [x1, x2] = some (.ret (.bool true)) := by
  intro x1 x2 h1 h2
  refine W_of (pl_w k9_eq ?_)
  simp only [k9]
  by_cases h : logV es l e = .list 0 [] 1
  · obtain ⟨rfl, rfl⟩ := h1 h
    repeat' (first | (simp -implicitDefEqProofs only [ze, zd, simprocAttr]) | (with_reducible refine wgd_cases ?_ ?_ <;> intro hb) | (with_reducible refine wcond_cases ?_ ?_ <;> intro hb) | (with_reducible refine qd_i (by kernel_rfl) ?_) | (with_reducible refine W_itn_cases ?_ ?_; omega))
    refine loop_u k9_l0.eq_1 ?_
    repeat' (first | (simp -implicitDefEqProofs only [ze, zd, simprocAttr, cunr_n, cunr_x, cunr_r, k9_t0]) | (with_reducible refine wgd_cases ?_ ?_ <;> intro hb) | (with_reducible refine wcond_cases ?_ ?_ <;> intro hb) | (with_reducible refine qd_i (by kernel_rfl) ?_) | (with_reducible refine W_itn_cases ?_ ?_; omega))
  · obtain ⟨rfl, rfl⟩ := h2 h
    repeat' (first | (simp -implicitDefEqProofs only [ze, zd, simprocAttr]) | (with_reducible refine wgd_cases ?_ ?_ <;> intro hb) | (with_reducible refine wcond_cases ?_ ?_ <;> intro hb) | (with_reducible refine qd_i (by kernel_rfl) ?_) | (with_reducible refine W_itn_cases ?_ ?_; omega))
    have w1 : IntKind.i64.wrap 1 = 1 := by decide
    refine loop_u k9_l0.eq_1 ?_
    repeat' (first | (simp -implicitDefEqProofs only [ze, zd, simprocAttr, cunr_n, cunr_x, cunr_r, w1, k9_t0]) | (with_reducible refine wgd_cases ?_ ?_ <;> intro hb) | (with_reducible refine wcond_cases ?_ ?_ <;> intro hb) | (with_reducible refine qd_i (by kernel_rfl) ?_) | (with_reducible refine W_itn_cases ?_ ?_; omega))
    refine loop_u k9_l0.eq_1 ?_
    repeat' (first | (simp -implicitDefEqProofs only [ze, zd, simprocAttr, cunr_n, cunr_x, cunr_r, w1, k9_t0]) | (with_reducible refine wgd_cases ?_ ?_ <;> intro hb) | (with_reducible refine wcond_cases ?_ ?_ <;> intro hb) | (with_reducible refine qd_i (by kernel_rfl) ?_) | (with_reducible refine W_itn_cases ?_ ?_; omega))
theorem big_ok (l : List Entry) (hl : l.length < 4611686018427387904) (hf : ∀ e ∈ l, fitE e) (r tl : Nat) (htl : l = [] ∨ tl = 46) : ∃ b, L.pl 7 [.list tl (l.map encE) r] = some (.ret (.bool b)) ∧ (b = false → l.length ≤ 40) := by
  have key : W (L.pl 7 [.list tl (l.map encE) r]) fun z => ∃ b, z = .ret (.bool b) ∧ (b = false → l.length ≤ 40) := by
    refine pl_w k7_eq ?_
    simp only [k7]
    by_cases hc : 40 < l.length
    · have hd : decide ((40 : Int) < (l.length : Int)) = true := decide_eq_true (by omega)
      repeat' (first | (simp -implicitDefEqProofs only [ze, zd, simprocAttr, hd, List.length_map]) | (with_reducible refine wgd_cases ?_ ?_ <;> intro hb) | (with_reducible refine wcond_cases ?_ ?_ <;> intro hb) | (with_reducible refine qd_i (by kernel_rfl) ?_) | (with_reducible refine W_itn_cases ?_ ?_; omega))
      exact ⟨true, rfl, fun h => by cases h⟩
    · have hd : decide ((40 : Int) < (l.length : Int)) = false := decide_eq_false (by omega)
      repeat' (first | (simp -implicitDefEqProofs only [ze, zd, simprocAttr, hd, List.length_map]) | (with_reducible refine wgd_cases ?_ ?_ <;> intro hb) | (with_reducible refine wcond_cases ?_ ?_ <;> intro hb) | (with_reducible refine qd_i (by kernel_rfl) ?_) | (with_reducible refine W_itn_cases ?_ ?_; omega))
      refine loop_w (fun n tm st nx => ∃ i : Nat, n = l.length - i ∧ i ≤ l.length ∧ tm 3 = .i64 i ∧ tm 0 = .list tl (l.map encE) r) l.length ⟨0, by omega, by omega, ?_, ?_⟩ ?_
      · simp -implicitDefEqProofs only [ze, zd, simprocAttr]; try rfl
      · simp -implicitDefEqProofs only [ze, zd, simprocAttr]; try rfl
      rintro n tm st nx ⟨i, hn, hi, t3, t0⟩
      simp only [k7_l1, k7_t0, k7_t1]
      by_cases hlt : i < l.length
      · obtain rfl : tl = 46 := by
          rcases htl with rfl | h
          · simp at hlt
          · exact h
        have d1 : decide ((i : Int) < (l.length : Int)) = true := decide_eq_true (by omega)
        obtain ⟨x, hx⟩ := get_lt hlt
        have hfx := hf x (List.mem_of_getElem? hx)
        have hgx : (l.map encE)[i]? = some (encE x) := by simp [hx]
        simp only [encE] at hgx
        repeat' (first | (simp -implicitDefEqProofs only [ze, zd, simprocAttr, t3, t0, d1, hgx, List.length_map, ne_eq, not_true_eq_false]) | (with_reducible refine wgd_cases ?_ ?_ <;> intro hb) | (with_reducible refine wcond_cases ?_ ?_ <;> intro hb) | (with_reducible refine qd_i (by kernel_rfl) ?_) | (with_reducible refine W_itn_cases ?_ ?_; omega))
        · exact ⟨true, rfl, fun h => by cases h⟩
        have hup : IntKind.i64.wrap ((i : Int) + 1) = ((i + 1 : Nat) : Int) := wrap_i64 (by omega) (by omega)
        refine loop_w (fun n2 tm2 st2 nx2 => ∃ j : Nat, n2 = x.lines.length - j ∧ j ≤ x.lines.length ∧ tm2 4 = .i64 j ∧ tm2 3 = .i64 i ∧ tm2 0 = .list 46 (l.map encE) r) x.lines.length ⟨0, by omega, by omega, ?_, ?_, ?_⟩ ?_
        · simp -implicitDefEqProofs only [ze, zd, simprocAttr]; try rfl
        · simp -implicitDefEqProofs only [ze, zd, simprocAttr, t3]; try rfl
        · simp -implicitDefEqProofs only [ze, zd, simprocAttr, t0]; try rfl
        rintro n2 tm2 st2 nx2 ⟨j, hn2, hj, u4, u3, u0⟩
        simp only [k7_l0]
        have hxl : x.lines.length < 4611686018427387904 := hfx.len
        by_cases hlj : j < x.lines.length
        · have e1 : te x.lr 49 = 49 := by
            rcases te_or hfx.nil 49 with h | h
            · rw [h] at hlj; simp at hlj
            · exact h
          have d2 : decide ((j : Int) < (x.lines.length : Int)) = true := decide_eq_true (by omega)
          obtain ⟨y, hy⟩ := get_lt hlj
          have hgy : (x.lines.map encL)[j]? = some (encL y) := by simp [hy]
          simp only [encL] at hgy
          have hup2 : IntKind.i64.wrap ((j : Int) + 1) = ((j + 1 : Nat) : Int) := wrap_i64 (by omega) (by omega)
          repeat' (first | (simp -implicitDefEqProofs only [ze, zd, simprocAttr, u4, u3, u0, d2, hgx, hgy, e1, hup2, nr_pur, List.length_map, ne_eq, not_true_eq_false, gt_iff_lt]) | (with_reducible refine wgd_cases ?_ ?_ <;> intro hb) | (with_reducible refine wcond_cases ?_ ?_ <;> intro hb) | (with_reducible refine qd_i (by kernel_rfl) ?_) | (with_reducible refine W_itn_cases ?_ ?_; omega))
          all_goals (first | exact ⟨true, rfl, fun h => by cases h⟩ | exact ⟨x.lines.length - (j + 1), by omega, j + 1, rfl, by omega, rfl⟩)
        · have d2 : decide ((j : Int) < (x.lines.length : Int)) = false := decide_eq_false (by omega)
          repeat' (first | (simp -implicitDefEqProofs only [ze, zd, simprocAttr, u4, u3, u0, d2, hgx, hup, List.length_map, ne_eq, not_true_eq_false]) | (with_reducible refine wgd_cases ?_ ?_ <;> intro hb) | (with_reducible refine wcond_cases ?_ ?_ <;> intro hb) | (with_reducible refine qd_i (by kernel_rfl) ?_) | (with_reducible refine W_itn_cases ?_ ?_; omega))
          exact ⟨l.length - (i + 1), by omega, i + 1, rfl, by omega, rfl⟩
      · have d1 : decide ((i : Int) < (l.length : Int)) = false := decide_eq_false (by omega)
        repeat' (first | (simp -implicitDefEqProofs only [ze, zd, simprocAttr, t3, t0, d1, List.length_map]) | (with_reducible refine wgd_cases ?_ ?_ <;> intro hb) | (with_reducible refine wcond_cases ?_ ?_ <;> intro hb) | (with_reducible refine qd_i (by kernel_rfl) ?_) | (with_reducible refine W_itn_cases ?_ ?_; omega))
        exact ⟨false, rfl, fun _ => by omega⟩
  obtain ⟨z, h, b, rfl, hb⟩ := key
  exact ⟨b, h, hb⟩
theorem plainS_size {s : ByteArray} (h : plainS s = true) : s.size ≤ 60 := by
  simp only [plainS, Bool.and_eq_true, decide_eq_true_eq] at h; exact h.1
theorem lenT_plain : ∀ (ts : List Tag), (∀ t ∈ ts, plainS t.n = true ∧ plainS t.v = true) → lenT ts ≤ ts.length * 200
  | [], _ => by simp [lenT]
  | t :: r, h => by
    have h1 := lenT_plain r fun x hx => h x (List.mem_cons_of_mem _ hx)
    obtain ⟨h2, h3⟩ := h t (List.mem_cons_self ..)
    have h4 := plainS_size h2
    have h5 := plainS_size h3
    simp only [lenT, List.length_cons]; omega
theorem goodE.fit {e : Entry} (h : goodE e) : fitE e := by
  have hp := h.plain
  refine ⟨fun l hl => ⟨h.sm.lines l hl, ?_⟩, h.sm.len, h.sm.nil⟩
  have h1 := hp.lines l hl
  have h2 := lenT_plain l.tags h1.tags
  have h3 := h1.len
  omega
theorem saudit_ok (bs : List Int) (hb : bOK bs) (hl0 : bs.length < 4611686018427387904) (l : List Entry) (hl : l.length < 4611686018427387904) (hf : ∀ e ∈ l, fitE e) : L.pl 3 [.list 5 (bv bs) 0, .list 46 (l.map encE) 0] = some (.ret (.sc (.bool true))) := by
  obtain ⟨b, hB, hb40⟩ := big_ok l hl hf 0 46 (.inr rfl)
  refine W_of (pl_w k3_eq ?_)
  simp only [k3]
  cases b with
  | true => repeat' (first | (simp -implicitDefEqProofs only [ze, zd, simprocAttr, hB, alives_ok]) | (with_reducible refine wgd_cases ?_ ?_ <;> intro hb) | (with_reducible refine wcond_cases ?_ ?_ <;> intro hb) | (with_reducible refine qd_i (by kernel_rfl) ?_) | (with_reducible refine W_itn_cases ?_ ?_; omega))
  | false =>
    by_cases hc : 20000 < bs.length
    · have hd : decide ((20000 : Int) < (bs.length : Int)) = true := decide_eq_true (by omega)
      repeat' (first | (simp -implicitDefEqProofs only [ze, zd, simprocAttr, hB, alives_ok, bv_len, hd]) | (with_reducible refine wgd_cases ?_ ?_ <;> intro hb) | (with_reducible refine wcond_cases ?_ ?_ <;> intro hb) | (with_reducible refine qd_i (by kernel_rfl) ?_) | (with_reducible refine W_itn_cases ?_ ?_; omega))
    · have hd : decide ((20000 : Int) < (bs.length : Int)) = false := decide_eq_false (by omega)
      obtain ⟨g1, _⟩ := openS_good bs.length start 0 bs hb (Nat.le_refl _)
      have hA := alog_ok bs hb (by omega) l (hb40 rfl) hf (fun e he => (g1 e he).fit) 0 46 0 (.inr rfl)
      have hR := rlog_ok bs hb (by omega) l (hb40 rfl) hf (fun e he => (g1 e he).fit) 0 46 0 (.inr rfl)
      generalize openS bs.length start 0 bs = O at hA hR
      obtain ⟨es, s, u, e⟩ := O
      simp only at hA hR
      by_cases hv : logV es l e = .list 0 [] 1
      · rw [hv] at hA hR
        have hS := fun r1 r2 => fsame_ok es l e r1 r2 (.list 0 [] r1) (.list 0 [] r2) (fun _ => ⟨rfl, rfl⟩) (fun h => absurd hv h)
        repeat' (first | (simp -implicitDefEqProofs only [ze, zd, simprocAttr, hB, alives_ok, bv_len, hd, hA, hR, hS]) | (with_reducible refine wgd_cases ?_ ?_ <;> intro hb) | (with_reducible refine wcond_cases ?_ ?_ <;> intro hb) | (with_reducible refine qd_i (by kernel_rfl) ?_) | (with_reducible refine W_itn_cases ?_ ?_; omega))
      · have hv2 : logV es l e = .list 52 [.agg [.i64 9, .i64 (sameN es l), .str (ByteArray.mk #[])]] (8 + 52) := by
          unfold logV at hv ⊢
          split
          · rename_i h; rw [if_pos h] at hv; exact absurd rfl hv
          · rfl
        rw [hv2] at hA hR
        have hS := fun r1 r2 => fsame_ok es l e r1 r2 (.list 52 [.agg [.i64 9, .i64 (sameN es l), .str (ByteArray.mk #[])]] r1) (.list 52 [.agg [.i64 9, .i64 (sameN es l), .str (ByteArray.mk #[])]] r2) (fun h => absurd h hv) (fun _ => ⟨rfl, rfl⟩)
        repeat' (first | (simp -implicitDefEqProofs only [ze, zd, simprocAttr, hB, alives_ok, bv_len, hd, hA, hR, hS]) | (with_reducible refine wgd_cases ?_ ?_ <;> intro hb) | (with_reducible refine wcond_cases ?_ ?_ <;> intro hb) | (with_reducible refine qd_i (by kernel_rfl) ?_) | (with_reducible refine W_itn_cases ?_ ?_; omega))
end Go.Proofs.YtaefaadjncehmaaGreatDoor.Vm
set_option linter.unusedVariables false
set_option linter.unusedSimpArgs false
namespace Go.Proofs.YtaefaadjncehmaaGreatDoor.Vm
open Go.ChangeShapes Go.WideShapes Go.ChangeAt Go.RowKit Go.Proofs Go.Proofs.YtaefaadjncehmaaGreatDoor.Rows
def OpB {H : Type} (enc : TypeId × Value → H) (P : Program) {α : Type} (t : TypeId) (en : α → V) (g : Nat → α → Prop) : Prop :=
  ∀ {w : World} {base : Nat} {spare : Nat → Bool} {held : Bool} {fuel : Nat} {cs : List Value} {x : DataW H × List MemPlace}, DataW.trod enc P w base spare held fuel t cs = some x → ∃ y : α, RepPs P (pw w) (en y).cells cs ∧ ones (en y).cells = true ∧ g (uptoBulk x.1) y
theorem bulk_pos {H : Type} (d : DataW H) : 1 ≤ uptoBulk d := by
  cases d with
  | lit l => cases l <;> simp [uptoBulk]
  | _ => simp [uptoBulk]
theorem bulk_all {H : Type} : ∀ {l : List (DataW H)} {d : DataW H}, d ∈ l → uptoBulk d ≤ uptoBulkAll l
  | a :: r, d, h => by
    simp only [uptoBulkAll]
    rcases List.mem_cons.1 h with rfl | h
    · omega
    · have := bulk_all h; omega
theorem bulk_app {H : Type} : ∀ (a b : List (DataW H)), uptoBulkAll (a ++ b) = uptoBulkAll a + uptoBulkAll b
  | [], b => by simp [uptoBulkAll]
  | x :: r, b => by simp only [List.cons_append, uptoBulkAll, bulk_app r b]; omega
section
variable {H : Type} {enc : TypeId × Value → H} {P : Program} {t e : TypeId}
theorem opB_int {k : IntKind} (ht : P.underlying t = some (.int k)) : OpB enc P t (fun n => V.sc (.int k n)) (fun _ n => (Lit.int k n).wf = true) := by
  intro w base spare held fuel cs x h
  obtain ⟨n, rfl, _, hw⟩ := DataW.trod_int ht h
  exact ⟨n, .cons (.sc _) .nil, rfl, hw⟩
theorem opB_string (ht : P.underlying t = some .string) : OpB enc P t (fun s => V.sc (.string s)) (fun b s => s.size + 1 ≤ b) := by
  intro w base spare held fuel cs x h
  obtain ⟨s, rfl, hx, _⟩ := DataW.trod_string ht h
  refine ⟨s, .cons (.sc _) .nil, rfl, ?_⟩
  rw [hx]
  simp only [uptoBulk, Array.length_toList]
  exact Nat.le_refl _
def sumM {α : Type} (μ : α → Nat) : List α → Nat
  | [] => 0
  | x :: r => μ x + sumM μ r
theorem sumM_app {α : Type} (μ : α → Nat) : ∀ (a b : List α), sumM μ (a ++ b) = sumM μ a + sumM μ b
  | [], b => by simp [sumM]
  | x :: r, b => by simp only [List.cons_append, sumM, sumM_app μ r b]; omega
theorem opB_slice {α : Type} {en : α → V} {g : Nat → α → Prop} (μ : α → Nat) (hμ : ∀ b x, g b x → μ x ≤ b) (hg : ∀ b b' x, b ≤ b' → g b x → g b' x) (ht : P.underlying t = some (.slice e)) (h : OpB enc P e en g) {s : Nat} (hs : P.cellsOf e = s) (hu : usz P e = some s) (hsz : ∀ y, (en y).cells.length = s) : OpB enc P t (fun (l : List α) => V.list e (l.map en) 0) (fun b (l : List α) => l.length ≤ b ∧ sumM μ l ≤ b ∧ ∀ x ∈ l, g b x) := by
  intro w base spare held fuel cs x hx
  rcases Deep.open_slice ht hx with ⟨rfl, _⟩ | ⟨a, len, cap, m, n, D, Pl, rfl, _, hl, hc, hm, rfl, hi⟩
  · refine ⟨[], .cons (.list rfl (Nat.le_refl _) (.inl rfl) (fun _ _ x hx => by cases hx) rfl (fun h => absurd rfl h) .nil) .nil, rfl, by simp, by simp [sumM], by simp⟩
  · have hml : len ≤ m := by rw [hm]; split <;> omega
    have main : ∀ k, k ≤ len → ∃ (l : List α) (vs : List Value), l.length = k ∧ RepPs P (pw w) ((l.map en).flatMap V.cells) vs ∧ ones ((l.map en).flatMap V.cells) = true ∧ (l.length ≤ uptoBulkAll ((List.range k).map D) ∧ sumM μ l ≤ uptoBulkAll ((List.range k).map D) ∧ ∀ x ∈ l, g (uptoBulkAll ((List.range k).map D)) x) ∧ vs.length = k * s ∧ LiesAt (pw w) a vs := by
      intro k
      induction k with
      | zero => intro _; exact ⟨[], [], rfl, .nil, rfl, ⟨by simp, by simp [sumM], by simp⟩, by simp, fun j u hj => by simp at hj⟩
      | succ k ih =>
        intro hk
        obtain ⟨l, vs, h1, h2, h3, ⟨h4, h4b, h4c⟩, h5, h6⟩ := ih (by omega)
        obtain ⟨cs', hcs, ht'⟩ := hi k (by omega)
        obtain ⟨y, hy1, hy2, hy3⟩ := h ht'
        have hy3 : g (uptoBulk (D k)) y := hy3
        obtain ⟨_, hcl, hat⟩ := World.cells?_some hcs
        have hb : uptoBulkAll ((List.range (k + 1)).map D) = uptoBulkAll ((List.range k).map D) + uptoBulk (D k) := by
          rw [List.range_succ, List.map_append, bulk_app]
          simp [uptoBulkAll]
        have hp := bulk_pos (D k)
        have hm1 := hμ _ _ hy3
        refine ⟨l ++ [y], vs ++ cs', by simp [h1], ?_, ?_, ⟨?_, ?_, ?_⟩, ?_, ?_⟩
        · rw [List.map_append, List.flatMap_append]
          exact h2.app (by simpa using hy1)
        · rw [List.map_append, List.flatMap_append, ones_append, h3]
          simpa using hy2
        · rw [hb, List.length_append]; simp only [List.length_cons, List.length_nil]; omega
        · rw [hb, sumM_app]; simp only [sumM]; omega
        · intro z hz
          rw [hb]
          rcases List.mem_append.mp hz with hz | hz
          · exact hg _ _ _ (by omega) (h4c z hz)
          · have : z = y := by simpa using hz
            subst this; exact hg _ _ _ (by omega) hy3
        · rw [List.length_append, h5, hcl, hs, Nat.succ_mul]
        · intro j u hj
          rcases Nat.lt_or_ge j vs.length with hlt | hge
          · rw [List.getElem?_append_left hlt] at hj; exact h6 j u hj
          · rw [List.getElem?_append_right hge] at hj
            have hjl : j - vs.length < P.cellsOf e := by
              have := (List.getElem?_eq_some_iff.mp hj).1
              omega
            have h7 := hat (j - vs.length) hjl
            rw [hj] at h7
            have e1 : (a.add (k * P.cellsOf e)).add (j - vs.length) = a.add j := by
              rw [Deep.add_add]; congr 1; rw [hs]; omega
            rw [e1] at h7
            exact holds_pw h7
    obtain ⟨l, vs, h1, h2, h3, ⟨h4, h4b, h4c⟩, h5, h6⟩ := main len (Nat.le_refl _)
    have hb : uptoBulkAll ((List.range len).map D) ≤ uptoBulk (DataW.slice ((List.range len).map D) ((List.range (m - len)).map fun j => D (len + j))) := by
      simp only [uptoBulk]; omega
    refine ⟨l, .cons (.list (by simp [h1]) hl (.inl rfl) ?_ h3 (fun _ => ⟨a, rfl, h6⟩) h2) .nil, rfl, Nat.le_trans h4 hb, Nat.le_trans h4b hb, fun x hx => hg _ _ _ hb (h4c x hx)⟩
    intro s' hs' x hx
    rw [hu] at hs'; obtain rfl := Option.some.inj hs'
    obtain ⟨y, _, rfl⟩ := List.mem_map.mp hx
    exact hsz y
theorem opB_fields {w : World} {base : Nat} {spare : Nat → Bool} {held : Bool} {fuel : Nat} {cs : List Value} {x : DataW H × List MemPlace} {fs : Array Field} (ht : P.underlying t = some (.struct fs)) (h : DataW.trod enc P w base spare held fuel t cs = some x) :
    ∃ n ds, x.1 = .agg ds ∧ cs.length = P.cellsOf t ∧ ∀ (i : Nat) (f : Field), fs[i]? = some f → ∃ y, DataW.trod enc P w base spare held n f.type ((cs.drop f.offset).take (P.cellsOf f.type)) = some y ∧ ds[i]? = some y.1 := by
  obtain ⟨xs, n, _, hx0, hl, hx, hf⟩ := DataW.trod_struct ht h
  refine ⟨n, xs.map (·.1), by rw [hx0], hl, fun i f hi => ?_⟩
  have hil : i < xs.length := by rw [hx]; exact (Array.getElem?_eq_some_iff.1 hi).1
  exact ⟨xs[i], (hf i f hi).trans (List.getElem?_eq_getElem hil), by simp [hil]⟩
theorem agg_bulk {H : Type} {ds : List (DataW H)} {i : Nat} {d : DataW H} (h : ds[i]? = some d) : uptoBulk d + 1 ≤ uptoBulk (DataW.agg ds) := by
  have := bulk_all (List.mem_of_getElem? h)
  simp only [uptoBulk]; omega
theorem all_two {H : Type} {ds : List (DataW H)} {d0 d1 : DataW H} (h0 : ds[0]? = some d0) (h1 : ds[1]? = some d1) : uptoBulk d0 + uptoBulk d1 ≤ uptoBulkAll ds := by
  match ds with
  | [] => simp at h0
  | [a] => simp at h1
  | a :: b :: r =>
    simp at h0 h1; subst h0; subst h1
    simp only [uptoBulkAll]; omega
def muT (t : Tag) : Nat := t.n.size + t.v.size + 1
theorem opTagB {H : Type} {enc : TypeId × Value → H} : OpB enc Tryz.prog 202 encT (fun b t => muT t ≤ b) := by
  intro w base spare held fuel cs x h
  obtain ⟨n, ds, hx, hl, hf⟩ := opB_fields Tryz.underlying202 h
  have hl : cs.length = 2 := hl.trans (by kernel_rfl)
  obtain ⟨y0, t0, w0⟩ := hf 0 _ rfl
  obtain ⟨x0, K0, o0, g0⟩ := opB_string Tryz.underlying9 t0
  obtain ⟨y1, t1, w1⟩ := hf 1 _ rfl
  obtain ⟨x1, K1, o1, g1⟩ := opB_string Tryz.underlying9 t1
  refine ⟨⟨x0, x1⟩, ?_, rfl, ?_⟩
  · exact RepPs.step (o := 0) (m := 1) K0 (by kernel_rfl) (RepPs.last K1 (by rw [hl]; exact Nat.le_of_eq (by kernel_rfl)))
  · have := all_two w0 w1
    rw [hx]
    simp only [uptoBulk, muT]; omega
theorem lenT_mu : ∀ (l : List Tag), lenT l ≤ 42 * sumM muT l
  | [] => by simp [lenT]
  | t :: r => by
    have := lenT_mu r
    simp only [lenT, sumM, muT]; omega
theorem opTagsB {H : Type} {enc : TypeId × Value → H} : OpB enc Tryz.prog 47 (fun (l : List Tag) => V.list 202 (l.map encT) 0) (fun b (l : List Tag) => l.length ≤ b ∧ sumM muT l ≤ b ∧ ∀ x ∈ l, muT x ≤ b) :=
  opB_slice muT (fun _ _ h => h) (fun _ _ _ h1 h2 => Nat.le_trans h2 h1) Tryz.underlying47 opTagB (s := 2) (by kernel_rfl) (by kernel_rfl) encT_len
def bL (b : Nat) (l : Line) : Prop := l.tr = false ∧ l.acc.size ≤ b ∧ l.cur.size ≤ b ∧ l.par.size ≤ b ∧ l.pty.size ≤ b ∧ l.tags.length ≤ b ∧ sumM muT l.tags ≤ b ∧ (∀ x ∈ l.tags, muT x ≤ b) ∧ 1 ≤ b
theorem bL_mono (b b' : Nat) (l : Line) (h : b ≤ b') (k : bL b l) : bL b' l := by
  obtain ⟨h0, h1, h2, h3, h4, h5, h6, h7, h8⟩ := k
  exact ⟨h0, by omega, by omega, by omega, by omega, by omega, by omega, fun x hx => Nat.le_trans (h7 x hx) h, by omega⟩
theorem opLineB {H : Type} {enc : TypeId × Value → H} : OpB enc Tryz.prog 49 encL bL := by
  intro w base spare held fuel cs x h
  obtain ⟨n, ds, hx, hl, hf⟩ := opB_fields Tryz.underlying49 h
  have hl : cs.length = 7 := hl.trans (by kernel_rfl)
  obtain ⟨y0, t0, w0⟩ := hf 0 _ rfl
  obtain ⟨x0, K0, o0, g0⟩ := opB_string Tryz.underlying9 t0
  obtain ⟨y1, t1, w1⟩ := hf 1 _ rfl
  obtain ⟨x1, K1, o1, g1⟩ := opB_string Tryz.underlying9 t1
  obtain ⟨y2, t2, w2⟩ := hf 2 _ rfl
  obtain ⟨x2, K2, o2, g2⟩ := opB_int Tryz.underlying3 t2
  obtain ⟨y3, t3, w3⟩ := hf 3 _ rfl
  obtain ⟨x3, K3, o3, g3⟩ := opB_int Tryz.underlying3 t3
  obtain ⟨y4, t4, w4⟩ := hf 4 _ rfl
  obtain ⟨x4, K4, o4, g4⟩ := opB_string Tryz.underlying9 t4
  obtain ⟨y5, t5, w5⟩ := hf 5 _ rfl
  obtain ⟨x5, K5, o5, g5⟩ := opB_string Tryz.underlying9 t5
  obtain ⟨y6, t6, w6⟩ := hf 6 _ rfl
  obtain ⟨x6, K6, o6, g6, g6b, g6c⟩ := opTagsB t6
  have e0 := agg_bulk w0
  have e1 := agg_bulk w1
  have e4 := agg_bulk w4
  have e5 := agg_bulk w5
  have e6 := agg_bulk w6
  rw [← hx] at e0 e1 e4 e5 e6
  refine ⟨⟨x0, x1, x2, x3, x4, x5, x6, false⟩, ?_, rfl, rfl, by show x0.size ≤ _; omega, by show x1.size ≤ _; omega, by show x4.size ≤ _; omega, by show x5.size ≤ _; omega, by show x6.length ≤ _; omega, by show sumM muT x6 ≤ _; omega, fun x hx => by have := g6c x hx; omega, by omega⟩
  exact RepPs.step (o := 0) (m := 1) K0 (by kernel_rfl) (RepPs.step (o := 1) (m := 2) K1 (by kernel_rfl) (RepPs.step (o := 2) (m := 3) K2 (by kernel_rfl) (RepPs.step (o := 3) (m := 4) K3 (by kernel_rfl) (RepPs.step (o := 4) (m := 5) K4 (by kernel_rfl) (RepPs.step (o := 5) (m := 6) K5 (by kernel_rfl) (RepPs.last K6 (by rw [hl]; exact Nat.le_of_eq (by kernel_rfl))))))))
theorem opLinesB {H : Type} {enc : TypeId × Value → H} : OpB enc Tryz.prog 44 (fun (l : List Line) => V.list 49 (l.map encL) 0) (fun b (l : List Line) => l.length ≤ b ∧ sumM (fun _ => 1) l ≤ b ∧ ∀ x ∈ l, bL b x) :=
  opB_slice (fun _ => 1) (fun _ _ h => h.2.2.2.2.2.2.2.2) bL_mono Tryz.underlying44 opLineB (s := 7) (by kernel_rfl) (by kernel_rfl) encL_len
def bE (b : Nat) (e : Entry) : Prop := e.lr = false ∧ e.lines.length ≤ b ∧ (∀ l ∈ e.lines, bL b l) ∧ 1 ≤ b
theorem bE_mono (b b' : Nat) (e : Entry) (h : b ≤ b') (k : bE b e) : bE b' e := by
  obtain ⟨h0, h1, h2, h3⟩ := k
  exact ⟨h0, by omega, fun x hx => bL_mono _ _ _ h (h2 x hx), by omega⟩
theorem opEntryB {H : Type} {enc : TypeId × Value → H} : OpB enc Tryz.prog 46 encE bE := by
  intro w base spare held fuel cs x h
  obtain ⟨n, ds, hx, hl, hf⟩ := opB_fields Tryz.underlying46 h
  have hl : cs.length = 9 := hl.trans (by kernel_rfl)
  obtain ⟨y0, t0, w0⟩ := hf 0 _ rfl
  obtain ⟨x0, K0, o0, g0⟩ := opB_int Tryz.underlying3 t0
  obtain ⟨y1, t1, w1⟩ := hf 1 _ rfl
  obtain ⟨x1, K1, o1, g1⟩ := opB_string Tryz.underlying9 t1
  obtain ⟨y2, t2, w2⟩ := hf 2 _ rfl
  obtain ⟨x2, K2, o2, g2⟩ := opB_int Tryz.underlying3 t2
  obtain ⟨y3, t3, w3⟩ := hf 3 _ rfl
  obtain ⟨x3, K3, o3, g3⟩ := opB_int Tryz.underlying3 t3
  obtain ⟨y4, t4, w4⟩ := hf 4 _ rfl
  obtain ⟨x4, K4, o4, g4⟩ := opB_int Tryz.underlying3 t4
  obtain ⟨y5, t5, w5⟩ := hf 5 _ rfl
  obtain ⟨x5, K5, o5, g5⟩ := opB_string Tryz.underlying9 t5
  obtain ⟨y6, t6, w6⟩ := hf 6 _ rfl
  obtain ⟨x6, K6, o6, g6⟩ := opB_string Tryz.underlying9 t6
  obtain ⟨y7, t7, w7⟩ := hf 7 _ rfl
  obtain ⟨x7, K7, o7, g7⟩ := opB_int Tryz.underlying3 t7
  obtain ⟨y8, t8, w8⟩ := hf 8 _ rfl
  obtain ⟨x8, K8, o8, g8, _, g8c⟩ := opLinesB t8
  have e8 := agg_bulk w8
  rw [← hx] at e8
  refine ⟨⟨x0, x1, x2, x3, x4, x5, x6, x7, x8, false⟩, ?_, rfl, rfl, by show x8.length ≤ _; omega, fun x hx => bL_mono _ _ _ (by omega) (g8c x hx), by omega⟩
  exact RepPs.step (o := 0) (m := 1) K0 (by kernel_rfl) (RepPs.step (o := 1) (m := 2) K1 (by kernel_rfl) (RepPs.step (o := 2) (m := 3) K2 (by kernel_rfl) (RepPs.step (o := 3) (m := 4) K3 (by kernel_rfl) (RepPs.step (o := 4) (m := 5) K4 (by kernel_rfl) (RepPs.step (o := 5) (m := 6) K5 (by kernel_rfl) (RepPs.step (o := 6) (m := 7) K6 (by kernel_rfl) (RepPs.step (o := 7) (m := 8) K7 (by kernel_rfl) (RepPs.last K8 (by rw [hl]; exact Nat.le_of_eq (by kernel_rfl))))))))))
theorem opEntriesB {H : Type} {enc : TypeId × Value → H} : OpB enc Tryz.prog 23 (fun (l : List Entry) => V.list 46 (l.map encE) 0) (fun b (l : List Entry) => l.length ≤ b ∧ sumM (fun _ => 1) l ≤ b ∧ ∀ x ∈ l, bE b x) :=
  opB_slice (fun _ => 1) (fun _ _ h => h.2.2.2) bE_mono Tryz.underlying23 opEntryB (s := 9) (by kernel_rfl) (by kernel_rfl) (fun _ => rfl)
theorem opBytesB {H : Type} {enc : TypeId × Value → H} : OpB enc Tryz.prog 22 (fun (l : List Int) => V.list 5 (bv l) 0) (fun b (l : List Int) => l.length ≤ b ∧ ∀ x ∈ l, (Lit.int .u8 x).wf = true) := by
  intro w base spare held fuel cs x h
  obtain ⟨l, h1, h2, h3, _, h4⟩ := opB_slice (enc := enc) (en := fun n => V.sc (.int .u8 n)) (g := fun _ n => (Lit.int .u8 n).wf = true) (fun _ => 0) (fun _ _ _ => Nat.zero_le _) (fun _ _ _ _ h => h) Tryz.underlying22 (opB_int Tryz.underlying5) (s := 1) (by kernel_rfl) (by kernel_rfl) (fun _ => rfl) h
  exact ⟨l, h1, h2, h3, h4⟩
theorem bE_fit {e : Entry} {b : Nat} (h : bE b e) (hb : b ≤ 1048576) : fitE e := by
  obtain ⟨h0, h1, h2, h3⟩ := h
  refine ⟨fun l hl => ?_, by omega, fun h => by rw [h0] at h; cases h⟩
  obtain ⟨k0, k1, k2, k3, k4, k5, k6, k7, k8⟩ := h2 l hl
  have := lenT_mu l.tags
  exact ⟨⟨by unfold small; omega, by unfold small; omega, by unfold small; omega, by unfold small; omega, fun t ht => by have := k7 t ht; unfold muT at this; unfold small; omega, by omega, fun h => by rw [k0] at h; cases h⟩, by omega⟩
end
end Go.Proofs.YtaefaadjncehmaaGreatDoor.Vm
set_option maxRecDepth 100000
set_option linter.unusedVariables false
set_option linter.unusedSimpArgs false
namespace Go.Proofs.YtaefaadjncehmaaGreatDoor.Vm
open Go.ChangeShapes Go.WideShapes Go.ChangeAt Go.RowKit Go.Proofs
theorem progOK : ProgOK Tryz.prog := ⟨by kernel_rfl, by kernel_rfl⟩
theorem gLen : Tryz.prog.globalNamed "accounting/days.lengths" = some 1 := by kernel_rfl
theorem tLen : (Tryz.prog.globals[1]?).map (·.type) = some 320 := by kernel_rfl
theorem gNot : Tryz.prog.globalNamed "accounting/audit.notations" = some 0 := by kernel_rfl
theorem tNot : (Tryz.prog.globals[0]?).map (·.type) = some 122 := by kernel_rfl
def lensT : List Int := [31, 28, 31, 30, 31, 30, 31, 31, 30, 31, 30, 31]
def notT : List ByteArray := ["", "entry", "order", "reverse", "period", "balance", "control", "stock", "asset", "log"].map fun s => s.toUTF8
theorem tabs_of_laid {W : World} (h : laidMetH Tryz.prog Rows.auditLogsUptoRow.laid W) : (∀ (i : Nat) (n : Int), lensT[i]? = some n → W.cell? ⟨1, i, none⟩ = some (.int .i64 n)) ∧ ∀ (i : Nat) (s : ByteArray), notT[i]? = some s → W.cell? ⟨0, i, none⟩ = some (.string s) := by
  rw [MakeChecks.laidMetH_plain _ _ _ (by kernel_rfl)] at h
  obtain ⟨ps, ⟨g0, t0, cs0, f0, p0, q0, hg0, ht0, hv0, hd0, r1, r2⟩, r3, r4⟩ := h
  obtain ⟨g1, t1, cs1, f1, p1, q1, hg1, ht1, hv1, hd1, _, _⟩ := r1
  obtain rfl := Option.some.inj (gLen.symm.trans hg0)
  obtain rfl := Option.some.inj (tLen.symm.trans ht0)
  obtain rfl := Option.some.inj (gNot.symm.trans hg1)
  obtain rfl := Option.some.inj (tNot.symm.trans ht1)
  constructor
  · obtain ⟨xs, m1, rfl, hx1, hlen, hn3, hel⟩ := DataW.trod_array Tryz.underlying320 hd0
    have c9 : Tryz.prog.cellsOf 3 = 1 := by kernel_rfl
    have c30 : Tryz.prog.cellsOf 320 = 12 := by kernel_rfl
    rw [c30] at hlen
    intro i s hi
    have hil : i < 12 := (List.getElem?_eq_some_iff.1 hi).1
    have h1 := hel i hil
    rw [c9, Nat.mul_one, List.getElem?_eq_getElem (by omega)] at h1
    obtain ⟨z, e1, e2, _⟩ := DataW.trod_int Tryz.underlying3 h1
    simp only [Prod.mk.injEq] at hx1
    have hd := hx1.1
    have e3 : (Rows.laid_accounting_days_lengths : DataW Unit) = .agg (lensT.map fun s => .lit (.int .i64 s)) := rfl
    have hd2 : (Rows.laid_accounting_days_lengths : DataW Unit) = .agg (xs.map (·.1)) := hd
    rw [e3] at hd2
    injection hd2 with hd2
    have h4 := congrArg (fun l => l[i]?) hd2
    simp only [List.getElem?_map, hi, Option.map_some] at h4
    rw [List.getElem?_eq_getElem (show i < xs.length by omega), Option.map_some, e2] at h4
    have hz : s = z := by
      injection h4 with h4
      injection h4 with h4
      injection h4
    subst hz
    have h5 := World.var?_cell hg0 hv0 i
    have h6 : cs0[i]? = some (.int .i64 s) := by
      have h7 := congrArg List.head? e1
      rw [List.head?_take, if_neg (by decide), List.head?_drop, Array.getElem?_toList] at h7
      exact h7
    rw [h6] at h5
    exact h5
  · obtain ⟨xs, m1, rfl, hx1, hlen, hn3, hel⟩ := DataW.trod_array Tryz.underlying122 hd1
    have c9 : Tryz.prog.cellsOf 9 = 1 := by kernel_rfl
    have c30 : Tryz.prog.cellsOf 122 = 10 := by kernel_rfl
    rw [c30] at hlen
    intro i s hi
    have hil : i < 10 := (List.getElem?_eq_some_iff.1 hi).1
    have h1 := hel i hil
    rw [c9, Nat.mul_one, List.getElem?_eq_getElem (by omega)] at h1
    obtain ⟨z, e1, e2, _⟩ := DataW.trod_string Tryz.underlying9 h1
    simp only [Prod.mk.injEq] at hx1
    have hd := hx1.1
    have e3 : (Rows.laid_accounting_audit_notations : DataW Unit) = .agg (notT.map fun s => .lit (.string s.data.toList)) := by kernel_rfl
    have hd2 : (Rows.laid_accounting_audit_notations : DataW Unit) = .agg (xs.map (·.1)) := hd
    rw [e3] at hd2
    injection hd2 with hd2
    have h4 := congrArg (fun l => l[i]?) hd2
    simp only [List.getElem?_map, hi, Option.map_some] at h4
    rw [List.getElem?_eq_getElem (show i < xs.length by omega), Option.map_some, e2] at h4
    have hz : s = z := by
      injection h4 with h4
      injection h4 with h4
      injection h4 with h4
      exact ba_inj h4
    subst hz
    have h5 := World.var?_cell hg1 hv1 i
    have h6 : cs1[i]? = some (.string s) := by
      have h7 := congrArg List.head? e1
      rw [List.head?_take, if_neg (by decide), List.head?_drop, Array.getElem?_toList] at h7
      exact h7
    rw [h6] at h5
    exact h5
theorem glOK_of {W : World} (h : (∀ (i : Nat) (n : Int), lensT[i]? = some n → W.cell? ⟨1, i, none⟩ = some (.int .i64 n)) ∧ ∀ (i : Nat) (s : ByteArray), notT[i]? = some s → W.cell? ⟨0, i, none⟩ = some (.string s)) : GlOK Tryz.prog glS (pw W) := by
  have ad : ∀ (b j : Nat), (⟨b, 0, none⟩ : Addr).add j = ⟨b, j, none⟩ := fun b j => by simp [Addr.add]; exact fun h => h.symm
  intro g x hg
  unfold glS at hg
  split at hg
  · rename_i h0
    have h0 : g = 0 := by simpa using h0
    subst h0
    simp only [Option.some.injEq] at hg; subst hg
    refine .cp (vs := notT.map fun n => .string n) rfl ?_ ?_
    · intro j u hj
      rw [List.getElem?_map, Option.map_eq_some_iff] at hj
      obtain ⟨n, hn, rfl⟩ := hj
      have := h.2 j n hn
      rw [← ad] at this
      exact holds_pw this
    · have : ∀ l : List String, RepPs Tryz.prog (pw W) (l.map fun s => V.str s.toUTF8) ((l.map fun s => s.toUTF8).map fun n => .string n) := fun l => by
        induction l with
        | nil => exact .nil
        | cons a r ih => exact .cons (.sc _) ih
      exact this _
  · split at hg
    · rename_i h0
      have h0 : g = 1 := by simpa using h0
      subst h0
      simp only [Option.some.injEq] at hg; subst hg
      refine .cp (vs := lensT.map fun n => .int .i64 n) rfl ?_ ?_
      · intro j u hj
        rw [List.getElem?_map, Option.map_eq_some_iff] at hj
        obtain ⟨n, hn, rfl⟩ := hj
        have := h.1 j n hn
        rw [← ad] at this
        exact holds_pw this
      · have : ∀ l : List Int, RepPs Tryz.prog (pw W) (l.map V.i64) (l.map fun n => .int .i64 n) := fun l => by
          induction l with
          | nil => exact .nil
          | cons a r ih => exact .cons (.sc _) ih
        exact this lensT
    · cases hg
theorem wf_b0 {b : Int} (h0 : (Lit.int .u8 b).wf = true) : 0 ≤ b ∧ b < 256 := by
  have h1 : IntKind.u8.min = 0 := rfl
  have h2 : IntKind.u8.max = 255 := rfl
  simp only [Lit.wf, Bool.and_eq_true, decide_eq_true_eq] at h0
  omega
theorem returnsUpto {H : Type} {enc : TypeId × Value → H} {a : Assume} {C : Checked} {os : Os} {f : FuncId} {fn : Func} {s : OpenSpec} {k : (H : Type) → List (DataW H) → Bool} (hk : s.cond = some k) {F : Stop.Interp} {conds : List PathCond} {apart fresh handsOn again : Bool} {X : World → Array Value → Prop}
    (hX : ∀ (w w' : World) (args : Array Value), w.heap = w'.heap → X w args → X w' args)
    (own : ownKnob C.prog.godebug = none) (started : os.Started) (noInit : C.prog.inits.idxOf? f = none) (hfn : C.prog.funcs[f]? = some fn)
    (witness : ∃ (w : World) (tape : Tape) (i : Input), w.os = os ∧ (w.forCall tape i).Shaped C.prog ∧ i.vars = [] ∧ Input.okWide C.prog (w.forCall tape i) .any w.heap.size f i ∧
      ((s.pre enc C.prog fn conds apart (w.forCall tape i).memory i.args ∧ X (w.forCall tape i).memory i.args) ∧ sizedMet enc C.prog fn s apart (w.forCall tape i).memory i.args) ∧ a.holds C.prog (lone (Frame.enter C.prog f i.args .normal) [] (w.forCall tape i)))
    (contract : ∀ (W : World) (base : Nat) (args : Array Value) (ds gs : List (DataW H)) (before : List MemPlace),
      (∀ (j : Nat) t v, fn.params[j]? = some t → args[j]? = some v → Value.okWide C.prog W .any base t v) →
      DataW.Whole enc C.prog fn.params.toList s.vars apart W args.toList ds gs before → k H (ds ++ gs) = true → X W args →
      Calls C.prog f args W fun e W' => ∃ v, e = .returned v ∧ (s.at F).post enc C.prog fn apart fresh handsOn again W args v W') :
    ReturnsInHanded a C os f .any (fun w args => (s.pre enc C.prog fn conds apart w args ∧ X w args) ∧ sizedMet enc C.prog fn s apart w args) ((s.at F).post enc C.prog fn apart fresh handsOn again) := by
  refine returnsInHanded_of_calls own started noInit witness ?_
  intro w tape i _ _ _ hok hpre hholds
  obtain ⟨_, _, _, fn', hfn', _, _, _, _, hval⟩ := hok
  have e : fn' = fn := Option.some.inj (hfn'.symm.trans hfn)
  subst e
  obtain ⟨⟨hp, hx⟩, hz⟩ := hpre
  obtain ⟨ds, gs, before, hw, hc, hkk⟩ := (OpenSpec.pre_some hk conds apart _ _).1 hp
  have hw' := DataW.Whole.of_heap (w' := w.forCall tape i) (by rfl) hw
  refine (contract (w.forCall tape i) w.heap.size i.args ds gs before hval hw' hkk (hX _ _ _ (by rfl) hx)).mono fun e W' ⟨v, he, hp⟩ => ?_
  subst he
  exact ChangeSpec.post_blind hp
end Go.Proofs.YtaefaadjncehmaaGreatDoor.Vm
namespace Go.Proofs.YtaefaadjncehmaaGreatDoor.auditLogs
open Go.ChangeShapes Go.WideShapes Go.ChangeAt Go.RowKit Go.Proofs Go.Proofs.YtaefaadjncehmaaGreatDoor.Vm
set_option linter.unusedVariables false
theorem own : ownKnob Tryz.prog.godebug = none := by kernel_rfl
theorem laidOut : laidOutB Tryz.prog = true := by kernel_rfl
set_option maxRecDepth 100000 in
theorem door_met (os : Os) (args : Array Value) : laidMetH Tryz.prog Rows.auditLogsUptoRow.laid ((World.doorLaid Tryz.prog 400 os).forCall (fun _ _ => 0) ⟨#[], args, []⟩).memory :=
  laidMetH_of_parts3 (fuel := 8) (laidMet_of_run' 8 (by kernel_rfl) (by kernel_rfl)) (by kernel_rfl) (by kernel_rfl)
abbrev spec : OpenSpec := Rows.OpenSpec.upto Rows.auditLogsSpec
theorem hk : spec.cond = some Rows.uptoSmall := rfl
theorem whole0 (os : Os) (H : Type) (enc : TypeId × Value → H) : DataW.whole enc Tryz.prog ((World.doorLaid Tryz.prog 400 os).forCall (fun _ _ => 0) ⟨#[], #[.slice none 0 0, .slice none 0 0], []⟩).memory Tryz.f3.params.toList spec.vars false [.slice none 0 0, .slice none 0 0] 8 = some ([.nil, .nil], [], []) := by kernel_rfl
theorem small0 (H : Type) : Rows.uptoSmall H (([.nil, .nil] : List (DataW H)) ++ []) = true := by
  simp [Rows.uptoSmall, Rows.uptoBulkAll, Rows.uptoBulk]
theorem sized0 (os : Os) (H : Type) (enc : TypeId × Value → H) : Rows.auditLogsSpec.sizedB enc Tryz.prog Tryz.f3 false ((World.doorLaid Tryz.prog 400 os).forCall (fun _ _ => 0) ⟨#[], #[.slice none 0 0, .slice none 0 0], []⟩).memory #[.slice none 0 0, .slice none 0 0] 8 = true := by kernel_rfl
theorem ok0 (os : Os) : Input.okWideB Tryz.prog ((World.doorLaid Tryz.prog 400 os).forCall (fun _ _ => 0) ⟨#[], #[.slice none 0 0, .slice none 0 0], []⟩) 3 ⟨#[], #[.slice none 0 0, .slice none 0 0], []⟩ = true := by kernel_rfl
set_option maxRecDepth 100000 in
theorem lifted (os : Os) (started : os.Started) (H : Type) (enc : TypeId × Value → H) (F : Stop.Interp) :
    ReturnsInHanded {} Tryz.checked os 3 .any (fun w args => (spec.pre enc Tryz.prog Tryz.f3 [] false w args ∧ laidMetH Tryz.prog Rows.auditLogsUptoRow.laid w) ∧ sizedMet enc Tryz.prog Tryz.f3 spec false w args) ((spec.at F).post enc Tryz.prog Tryz.f3 false true false false) := by
  refine returnsUpto (C := Tryz.checked) (s := spec) (k := Rows.uptoSmall) hk (X := fun w _ => laidMetH Tryz.prog Rows.auditLogsUptoRow.laid w) (fun _ _ _ hh h => h.of_heap hh) own started (by kernel_rfl) Tryz.func3
    ⟨World.doorLaid Tryz.prog 400 os, fun _ _ => 0, ⟨#[], #[.slice none 0 0, .slice none 0 0], []⟩, rfl, World.shaped_of_RefB (by kernel_rfl) (by kernel_rfl), (Input.okWide_of_okWideB (base := 0) (ok0 os)).1, (Input.okWide_of_okWideB (ok0 os)).2,
      ⟨⟨(OpenSpec.pre_some hk [] false _ _).2 ⟨[.nil, .nil], [], [], DataW.Whole_of_whole (whole0 os H enc), List.all_nil, small0 H⟩, door_met os _⟩, sizedMet_of_sizedB (sized0 os H enc)⟩, by
        simp only [Assume.holds]
        exact ⟨by simp, by simp, fun _ => Modest.zero, by simp, by simp⟩⟩ ?_
  intro W base args ds gs before hval0 hW hkk hL
  have hval : ∀ (j : Nat) t v, Tryz.f3.params[j]? = some t → args[j]? = some v → Value.okWide Tryz.prog W .any base t v := hval0
  have hW' := hW
  obtain ⟨p, q, hA0, hV, rfl, hfz, hnd⟩ := hW
  have hA : DataW.TrodAll enc Tryz.prog W 0 (fun _ => true) true Tryz.f3.params.toList args.toList ds p := hA0
  rw [Tryz.params3] at hA hval
  obtain ⟨v0, vs0, d0, ds0, p0, q0, hargs, rfl, rfl, h0, r0⟩ := trodAll_cons hA
  obtain ⟨v1, vs1, d1, ds1, p1, q1, rfl, rfl, rfl, h1, r1⟩ := trodAll_cons r0
  obtain ⟨rfl, rfl, rfl⟩ := trodAll_nil r1
  obtain rfl : args = #[v0, v1] := by cases args; simp_all
  obtain ⟨rfl, rfl⟩ := trodVars_none hV
  have k0 := h0
  have lt0 : ∀ x ∈ p0, x.block < W.heap.size := by obtain ⟨m, hm⟩ := k0; exact DataW.trod_lt m _ _ _ hm
  obtain ⟨a0, len0, cap0, rfl⟩ := okWide_slice Tryz.underlying22 (hval 0 22 v0 rfl rfl)
  obtain ⟨fuel0, hf0⟩ := h0
  obtain ⟨x0, K0, o0, g0⟩ := opBytesB hf0
  have R0 : RepP Tryz.prog (pw W) (V.list 5 (bv x0) 0) (.slice a0 len0 cap0) := by
    cases K0 with
    | cons h _ => exact h
  have k1 := h1
  have lt1 : ∀ x ∈ p1, x.block < W.heap.size := by obtain ⟨m, hm⟩ := k1; exact DataW.trod_lt m _ _ _ hm
  obtain ⟨a1, len1, cap1, rfl⟩ := okWide_slice Tryz.underlying23 (hval 1 23 v1 rfl rfl)
  obtain ⟨fuel1, hf1⟩ := h1
  obtain ⟨x1, K1, o1, g1⟩ := opEntriesB hf1
  have R1 : RepP Tryz.prog (pw W) (V.list 46 (x1.map encE) 0) (.slice a1 len1 cap1) := by
    cases K1 with
    | cons h _ => exact h
  have hbulk : Rows.uptoBulk d0 + Rows.uptoBulk d1 ≤ 1048576 := by
    have := of_decide_eq_true hkk
    simpa [Rows.uptoBulkAll] using this
  have g0 : x0.length ≤ Rows.uptoBulk d0 ∧ ∀ x ∈ x0, (Lit.int .u8 x).wf = true := g0
  have g1 : x1.length ≤ Rows.uptoBulk d1 ∧ sumM (fun _ => 1) x1 ≤ Rows.uptoBulk d1 ∧ ∀ x ∈ x1, bE (Rows.uptoBulk d1) x := g1
  have hx := saudit_ok x0 (fun b hb => wf_b0 (g0.2 b hb)) (by have := g0.1; omega) x1 (by have := g1.1; omega) (fun e he => bE_fit (g1.2.2 e he) (by omega))
  refine (lim_bool (p := pw W) progOK (extOK_none _ _) (f := 3) (by kernel_rfl) hx (glOK_of (tabs_of_laid hL)) (fun _ _ _ h => h) (.cons R0 (.cons R1 .nil))).mono fun e W' ⟨he, bel0⟩ => ?_
  have bel : Below W.heap.size W W' := bel0
  subst he
  exact ⟨_, rfl, _, _, _, [], _, [], hW', trodAll_mk1 (shut_bool Tryz.underlying4 _), (trodAll_cons_mk (Below.trod laidOut (by kernel_rfl) (of_decide_eq_true (by kernel_rfl)) k0 bel lt0) (trodAll_cons_mk (Below.trod laidOut (by kernel_rfl) (of_decide_eq_true (by kernel_rfl)) k1 bel lt1) trodAll_mk0)), rfl, bel.frame _, fun h => by cases h⟩
theorem over : Rows.auditLogsUptoRow.holds Tryz.pinned spec :=
  OpenClaim.holds_of_cond 3 Tryz.f3 rfl rfl rfl rfl rfl rfl rfl ⟨rfl, rfl, rfl, rfl, rfl⟩ rfl rfl rfl rfl rfl (by kernel_rfl) Tryz.func3 (by kernel_rfl)
    (of_decide_eq_true (by kernel_rfl)) (by unfold Func.isWrapper; first | (rw [if_pos (by decide +kernel)]; kernel_rfl) | (rw [if_neg (by decide +kernel)]; exact ⟨rfl, rfl⟩))
    (fun os started H enc _ F => lifted os started H enc F)
theorem proved : Rows.AuditLogsUptoCardSaid :=
  Claim7.holds_tied_plain_at .later [] [.data, .data] true (true, "5b709959a991675c13342b3f3241108472cb4e1cf4717bc52795caddcc8d0588") true
    over (fun _ h => by cases h) (by kernel_rfl) (fun _ h => by cases h) auditLogsUpto_row_tie rfl ⟨rfl, rfl⟩ (by kernel_rfl) rfl
    (fun f fn hf hfn => by
      obtain rfl : f = 3 := Option.some.inj ((show Tryz.prog.funcNamed "accounting/accountinglaw53.AuditLogs" = some 3 by kernel_rfl).symm.trans hf) |>.symm
      obtain rfl : fn = Tryz.f3 := (Option.some.inj (Tryz.func3.symm.trans hfn)).symm
      exact ⟨by kernel_rfl, fun j t ht => by
        rw [Tryz.params3] at ht
        have hm : t ∈ [22, 23] := by simpa using Array.mem_of_getElem? ht
        have hall : ([22, 23].all fun u => !Tryz.prog.wantsStandIn u) = true := by kernel_rfl
        exact (show Tryz.prog.wantsStandIn t = false by simpa using List.all_eq_true.1 hall t hm)⟩)
    (by kernel_rfl)
end Go.Proofs.YtaefaadjncehmaaGreatDoor.auditLogs
namespace Go.Proofs.YtaefaadjncehmaaGreatDoor
theorem auditLogs_holds : Rows.AuditLogsUptoCardSaid := auditLogs.proved
end Go.Proofs.YtaefaadjncehmaaGreatDoor
