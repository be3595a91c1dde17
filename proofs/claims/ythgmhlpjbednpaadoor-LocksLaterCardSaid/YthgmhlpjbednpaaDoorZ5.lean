/- Proved here: the law, on a machine over pure data, and what it needs, part 5. Conditions: none. -/
import Derived.Test.YthgmhlpjbednpaaDoorZ4
set_option maxRecDepth 10000
set_option linter.unusedVariables false
set_option linter.unusedSimpArgs false
namespace Go.Proofs.YthgmhlpjbednpaaDoor.Vm
open Go Go.Proofs
def Does (S : Nat → Prop) (st : St) (nx : Nat) (v : V) (φ : (Nat → Prop) → St → Prop) (r : HR) : Prop := ∃ st' nx', r = .ret v st' nx' ∧ nx ≤ nx' ∧ φ (grown S nx nx') st' ∧ KeepS S nx st st'
def beginK (a : Lk) (e u : ByteArray) : (Int × Int) × Int := if (firstK a e).2 = 0 ∧ codeS u = false then ((0, 0), 7) else firstK a e
theorem begin2_ok {k : Nat} {a : Lk} {S : Nat → Prop} {st : St} {nx : Nat} (h : LK k a S st) (hS : ∀ i, S i → i < nx) (e u : ByteArray) : W (L.hp 42 [.ptr k 0, .str e, .str u] st nx) (Still st nx (encPE (beginK a e u))) := by
  refine hp_r k42_eq ?_
  simp only [k42]
  repeat' (first | (simp -implicitDefEqProofs only [ze, zd, zr, simprocAttr, LR_pl, LR_hp, LR_hm, cunr_n, cunr_x, cunr_r, cunr_p, List.any_cons, List.any_nil, List.flatten_cons, List.flatten_nil, List.replicate_succ, List.replicate_zero, Bool.or_false, Bool.false_or, List.flatMap_cons, List.flatMap_nil]) | (with_reducible refine wgd_cases ?_ ?_ <;> intro hb) | (with_reducible refine wcond_cases ?_ ?_ <;> intro hb) | (with_reducible refine W_itn_cases ?_ ?_; omega))
  refine W_hp (first_ok (h.mono (S' := S) (fun _ h => h) (fun i hi => ?_)) (fun i hi => by have := hS i hi; omega) e) ?_
  · have := hS i hi
    simp (disch := omega) only [upds, upd, List.foldl_cons, List.foldl_nil, if_neg]
  rintro _ ⟨st1, nx1, rfl, h1, k1⟩
  have e1 : st1 nx = some (.cells [.i64 0, .i64 0]) := by rw [k1 nx (by omega)]; simp [upds, upd]
  by_cases h0 : (firstK a e).2 = 0
  · have g0 : decide ((firstK a e).2 = 0) = true := decide_eq_true h0
    cases hc : codeS u with
    | true =>
      have eb : beginK a e u = firstK a e := by unfold beginK; rw [if_neg (by simp [hc])]
      rw [eb]
      repeat' (first | (simp -implicitDefEqProofs only [ze, zd, zr, simprocAttr, LR_pl, LR_hp, LR_hm, cunr_n, cunr_x, cunr_r, cunr_p, List.any_cons, List.any_nil, List.flatten_cons, List.flatten_nil, List.replicate_succ, List.replicate_zero, Bool.or_false, Bool.false_or, List.flatMap_cons, List.flatMap_nil, e1, g0, code_ok, hc, encPE, ne_eq, not_true_eq_false]) | (with_reducible refine wgd_cases ?_ ?_ <;> intro hb) | (with_reducible refine wcond_cases ?_ ?_ <;> intro hb) | (with_reducible refine W_itn_cases ?_ ?_; omega))
      refine .of (by omega) fun i hi => ?_
      simp (disch := omega) only [upds, upd, List.foldl_cons, List.foldl_nil, if_neg]
      rw [k1 i (by omega)]
      simp (disch := omega) only [upds, upd, List.foldl_cons, List.foldl_nil, if_neg]
    | false =>
      have eb : beginK a e u = ((0, 0), 7) := by unfold beginK; rw [if_pos ⟨h0, hc⟩]
      rw [eb]
      repeat' (first | (simp -implicitDefEqProofs only [ze, zd, zr, simprocAttr, LR_pl, LR_hp, LR_hm, cunr_n, cunr_x, cunr_r, cunr_p, List.any_cons, List.any_nil, List.flatten_cons, List.flatten_nil, List.replicate_succ, List.replicate_zero, Bool.or_false, Bool.false_or, List.flatMap_cons, List.flatMap_nil, e1, g0, code_ok, hc, encPE, ne_eq, not_true_eq_false]) | (with_reducible refine wgd_cases ?_ ?_ <;> intro hb) | (with_reducible refine wcond_cases ?_ ?_ <;> intro hb) | (with_reducible refine W_itn_cases ?_ ?_; omega))
      refine .of (by omega) fun i hi => ?_
      simp (disch := omega) only [upds, upd, List.foldl_cons, List.foldl_nil, if_neg]
      rw [k1 i (by omega)]
      simp (disch := omega) only [upds, upd, List.foldl_cons, List.foldl_nil, if_neg]
  · have g0 : decide ((firstK a e).2 = 0) = false := decide_eq_false h0
    have eb : beginK a e u = firstK a e := by unfold beginK; rw [if_neg (fun h => h0 h.1)]
    rw [eb]
    repeat' (first | (simp -implicitDefEqProofs only [ze, zd, zr, simprocAttr, LR_pl, LR_hp, LR_hm, cunr_n, cunr_x, cunr_r, cunr_p, List.any_cons, List.any_nil, List.flatten_cons, List.flatten_nil, List.replicate_succ, List.replicate_zero, Bool.or_false, Bool.false_or, List.flatMap_cons, List.flatMap_nil, e1, g0, encPE, ne_eq, not_true_eq_false]) | (with_reducible refine wgd_cases ?_ ?_ <;> intro hb) | (with_reducible refine wcond_cases ?_ ?_ <;> intro hb) | (with_reducible refine W_itn_cases ?_ ?_; omega))
    refine .of (by omega) fun i hi => ?_
    simp (disch := omega) only [upds, upd, List.foldl_cons, List.foldl_nil, if_neg]
    rw [k1 i (by omega)]
    simp (disch := omega) only [upds, upd, List.foldl_cons, List.foldl_nil, if_neg]
theorem note_ok {k : Nat} {a : Lk} {S : Nat → Prop} {st : St} {nx : Nat} (h : LK k a S st) (hS : ∀ i, S i → i < nx) (hl : a.ev.length ≤ 1000000) (n : Int) (e u : ByteArray) (p : Int × Int) :
    W (L.hp 44 [.ptr k 0, .i64 n, .str e, .agg [.i64 p.1, .i64 p.2], .str u] st nx) (Does S st nx (.tup []) (LK k { a with ev := a.ev ++ [⟨n, e, p, u⟩] })) := by
  obtain ⟨mo, ma, vn, ve, h⟩ := h
  refine hp_r k44_eq ?_
  simp only [k44]
  have hk := hS _ h.sk
  have k1 : (k = nx) = False := eq_false (by omega)
  have k2 : ∀ j, (k = nx + j) = False := fun j => eq_false (by omega)
  have k3 : ∀ j, (nx + j = k) = False := fun j => eq_false (by omega)
  have k4 : (nx = k) = False := eq_false (by omega)
  have ho := hS _ h.so
  have ha := hS _ h.sa
  have ko := h.ko
  have ka := h.ka
  obtain ⟨d, hma⟩ := h.ha
  -- what stays
  have fin : ∀ (st' : St) (ve' : V) (nx' : Nat), nx + 128 ≤ nx' → st' k = some (.cells [.i64 a.c, .i64 a.s.1, .i64 a.s.2, .map mo, .map ma, vn, ve']) → (∀ i, S i → i ≠ k → (∀ s n cs, st i = some (.row 50 s n cs) → False) → st' i = st i) → (∀ i, i < nx → ¬ S i → st' i = st i) →
      rowV (grown S nx nx') st' 50 true 5 (a.ev ++ [(⟨n, e, p, u⟩ : Ev)]).length ((a.ev ++ [(⟨n, e, p, u⟩ : Ev)]).flatMap evC) ve' →
      Does S st nx (.tup []) (LK k { a with ev := a.ev ++ [⟨n, e, p, u⟩] }) (.ret (.tup []) st' nx') := by
    intro st' ve' nx' hn q1 q2 q3 q4
    refine ⟨_, _, rfl, by omega, ⟨mo, ma, vn, ve', q1, ?_, ⟨d, ?_⟩, ?_, q4, .inl h.sk, .inl h.so, .inl h.sa, h.na⟩, q3⟩
    · rw [q2 mo h.so (Ne.symm ko) (fun s n cs q => by rw [h.ho] at q; cases q)]; exact h.ho
    · rw [q2 ma h.sa (Ne.symm ka) (fun s n cs q => by rw [hma] at q; cases q)]; exact hma
    · rcases h.hn with q | ⟨h0, id, h1, h2, h3⟩
      · exact .inl q
      · exact .inr ⟨h0, id, .inl h1, h2, by rw [q2 id h1 (h.row h3).1 (fun s n cs q => by rw [h3] at q; cases q)]; exact h3⟩
  rcases h.he with ⟨h0, hc, rfl⟩ | ⟨h0, id, h1, rfl, h3⟩
  · repeat' (first | (simp -implicitDefEqProofs only [ze, zd, zr, simprocAttr, LR_pl, LR_hp, LR_hm, cunr_n, cunr_x, cunr_r, cunr_p, List.any_cons, List.any_nil, List.flatten_cons, List.flatten_nil, List.replicate_succ, List.replicate_zero, Bool.or_false, Bool.false_or, List.flatMap_cons, List.flatMap_nil, h.hk, k1, k2, k3, ne_eq, not_true_eq_false]) | (with_reducible refine wgd_cases ?_ ?_ <;> intro hb) | (with_reducible refine wcond_cases ?_ ?_ <;> intro hb) | (with_reducible refine W_itn_cases ?_ ?_; omega))
    refine qd_i (by simp [recsOk, ordB, Rec.free, Rec.wr, disj, List.range, List.range.loop, k1, k2, k3, k4]; decide) ?_
    repeat' (first | (simp -implicitDefEqProofs only [ze, zd, zr, simprocAttr, LR_pl, LR_hp, LR_hm, cunr_n, cunr_x, cunr_r, cunr_p, List.any_cons, List.any_nil, List.flatten_cons, List.flatten_nil, List.replicate_succ, List.replicate_zero, Bool.or_false, Bool.false_or, List.flatMap_cons, List.flatMap_nil]) | (with_reducible refine wgd_cases ?_ ?_ <;> intro hb) | (with_reducible refine wcond_cases ?_ ?_ <;> intro hb) | (with_reducible refine W_itn_cases ?_ ?_; omega))
    refine fin _ (.sl 50 true 5 (nx + 96) 0 1) _ (Nat.le_refl _) ?_ (fun i hi hik _ => ?_) (fun i hi hs => ?_) (.inr ⟨by simp, nx + 96, .inr ⟨by omega, by omega⟩, ?_, ?_⟩)
    · simp [upd]
    · have := hS i hi
      have e1 : ¬ i = nx + 96 := by omega
      have e2 : ¬ i = nx + 88 := by omega
      have e3 : ¬ i = nx := by omega
      simp [upd, hik, e1, e2, e3]
    · have hik : ¬ i = k := fun e => hs (e ▸ h.sk)
      have e1 : ¬ i = nx + 96 := by omega
      have e2 : ¬ i = nx + 88 := by omega
      have e3 : ¬ i = nx := by omega
      simp [upd, hik, e1, e2, e3]
    · simp [List.length_append, h0]
    · simp [upd, k3, h0, hc, List.flatMap_append, evC]
  · have hr := h.row h3
    have hid := hS id h1
    have i1 : (id = nx) = False := eq_false (by omega)
    have i2 : ∀ j, (id = nx + j) = False := fun j => eq_false (by omega)
    have i3 : ∀ j, (nx + j = id) = False := fun j => eq_false (by omega)
    have i4 : (id = k) = False := eq_false hr.1
    have i5 : (k = id) = False := eq_false (Ne.symm hr.1)
    repeat' (first | (simp -implicitDefEqProofs only [ze, zd, zr, simprocAttr, LR_pl, LR_hp, LR_hm, cunr_n, cunr_x, cunr_r, cunr_p, List.any_cons, List.any_nil, List.flatten_cons, List.flatten_nil, List.replicate_succ, List.replicate_zero, Bool.or_false, Bool.false_or, List.flatMap_cons, List.flatMap_nil, h.hk, h3, k1, k2, k3, i1, i2, i3, i4, i5, ne_eq, not_true_eq_false]) | (with_reducible refine wgd_cases ?_ ?_ <;> intro hb) | (with_reducible refine wcond_cases ?_ ?_ <;> intro hb) | (with_reducible refine W_itn_cases ?_ ?_; omega))
    have i6 : (nx = id) = False := eq_false (by omega)
    refine qd_i (by simp [recsOk, ordB, Rec.free, Rec.wr, disj, List.range, List.range.loop, k1, k2, k3, k4, i1, i2, i3, i4, i5, i6]; decide) ?_
    repeat' (first | (simp -implicitDefEqProofs only [ze, zd, zr, simprocAttr, LR_pl, LR_hp, LR_hm, cunr_n, cunr_x, cunr_r, cunr_p, List.any_cons, List.any_nil, List.flatten_cons, List.flatten_nil, List.replicate_succ, List.replicate_zero, Bool.or_false, Bool.false_or, List.flatMap_cons, List.flatMap_nil]) | (with_reducible refine wgd_cases ?_ ?_ <;> intro hb) | (with_reducible refine wcond_cases ?_ ?_ <;> intro hb) | (with_reducible refine W_itn_cases ?_ ?_; omega))
    refine fin _ (.sl 50 true 5 (nx + 96) 0 (a.ev.length + 1)) _ (Nat.le_refl _) ?_ (fun i hi hik hrow => ?_) (fun i hi hs => ?_) (.inr ⟨by simp, nx + 96, .inr ⟨by omega, by omega⟩, ?_, ?_⟩)
    · simp [upd]
    · have := hS i hi
      have e1 : ¬ i = nx + 96 := by omega
      have e2 : ¬ i = nx + 88 := by omega
      have e3 : ¬ i = nx := by omega
      have e4 : ¬ i = id := fun e => by subst e; exact hrow _ _ _ h3
      simp [upd, hik, e1, e2, e3, e4]
    · have hik : ¬ i = k := fun e => hs (e ▸ h.sk)
      have hid2 : ¬ i = id := fun e => hs (e ▸ h1)
      have e1 : ¬ i = nx + 96 := by omega
      have e2 : ¬ i = nx + 88 := by omega
      have e3 : ¬ i = nx := by omega
      simp [upd, hik, e1, e2, e3, hid2]
    · simp [List.length_append]
    · simp [upd, k3, List.flatMap_append, evC]
end Go.Proofs.YthgmhlpjbednpaaDoor.Vm
set_option maxRecDepth 10000
set_option linter.unusedVariables false
set_option linter.unusedSimpArgs false
namespace Go.Proofs.YthgmhlpjbednpaaDoor.Vm
open Go Go.Proofs
theorem Does.still {k : Nat} {a : Lk} {S : Nat → Prop} {st st' : St} {nx nx' : Nat} {v : V} (h : LK k a S st) (hS : ∀ i, S i → i < nx) (hn : nx ≤ nx') (hs : ∀ i, i < nx → st' i = st i) : Does S st nx v (LK k a) (.ret v st' nx') :=
  ⟨st', nx', rfl, hn, h.mono (fun i hi => .inl hi) (fun i hi => hs i (hS i hi)), fun i hi _ => hs i hi⟩
def closeK (a : Lk) (e u : ByteArray) : Lk × Int :=
  if (beginK a e u).2 ≠ 0 then (a, (beginK a e u).2)
  else if (nextP a.c (beginK a e u).1.1 (beginK a e u).1.2).2 ≠ 0 then (a, 16)
  else ({ a with op := aset a.op e (nextP a.c (beginK a e u).1.1 (beginK a e u).1.2).1, ak := adel a.ak e, ev := a.ev ++ [⟨8, e, (beginK a e u).1, u⟩] }, 0)
theorem beginK_zero {a : Lk} {e u : ByteArray} (h : (beginK a e u).2 = 0) : aget a.op e = some (beginK a e u).1 ∧ codeS u = true := by
  unfold beginK at h ⊢
  by_cases hc : (firstK a e).2 = 0 ∧ codeS u = false
  · rw [if_pos hc] at h; cases h
  · rw [if_neg hc] at h ⊢
    have hu : codeS u = true := by cases hu : codeS u with | true => rfl | false => exact absurd ⟨h, hu⟩ hc
    refine ⟨?_, hu⟩
    unfold firstK at h ⊢
    cases hg : aget a.op e with
    | none => rw [hg] at h; cases h
    | some p => rfl
theorem close_ok {k : Nat} {a : Lk} {S : Nat → Prop} {st : St} {nx : Nat} (h : LK k a S st) (hS : ∀ i, S i → i < nx) (hl : a.ev.length ≤ 1000000) (e u : ByteArray) :
    W (L.hp 19 [.ptr k 0, .str e, .str u] st nx) (Does S st nx (.i64 (closeK a e u).2) (LK k (closeK a e u).1)) := by
  refine hp_r k19_eq ?_
  simp only [k19]
  repeat' (first | (simp -implicitDefEqProofs only [ze, zd, zr, simprocAttr, LR_pl, LR_hp, LR_hm, cunr_n, cunr_x, cunr_r, cunr_p, List.any_cons, List.any_nil, List.flatten_cons, List.flatten_nil, List.replicate_succ, List.replicate_zero, Bool.or_false, Bool.false_or, List.flatMap_cons, List.flatMap_nil]) | (with_reducible refine wgd_cases ?_ ?_ <;> intro hb) | (with_reducible refine wcond_cases ?_ ?_ <;> intro hb) | (with_reducible refine W_itn_cases ?_ ?_; omega))
  refine W_hp (begin2_ok h (fun i hi => by have := hS i hi; omega) e u) ?_
  rintro _ ⟨st1, nx1, rfl, h1, k1⟩
  have hbz := @beginK_zero a e u
  unfold closeK
  generalize beginK a e u = b at hbz
  obtain ⟨p, er⟩ := b
  simp only at hbz
  by_cases h0 : er = 0
  · subst h0
    obtain ⟨hg, hu⟩ := hbz rfl
    rw [if_neg (by simp)]
    have hq := h.mono (S' := S) (st' := st1) (fun _ h => h) (fun i hi => k1 i (by have := hS i hi; omega))
    obtain ⟨mo, ma, vn, ve, hq⟩ := hq
    have hk := hS _ hq.sk
    have ho := hS _ hq.so
    have ha := hS _ hq.sa
    obtain ⟨d, hma⟩ := hq.ha
    have f1 : ∀ j, (k = nx1 + j) = False := fun j => eq_false (by omega)
    have f2 : ∀ j, (nx1 + j = k) = False := fun j => eq_false (by omega)
    have f3 : ∀ j, (k = nx + j) = False := fun j => eq_false (by omega)
    have f4 : ∀ j, (nx + j = k) = False := fun j => eq_false (by omega)
    have f5 : ∀ j, (mo = nx + j) = False := fun j => eq_false (by omega)
    have f6 : ∀ j, (nx + j = mo) = False := fun j => eq_false (by omega)
    have f7 : ∀ j, (ma = nx + j) = False := fun j => eq_false (by omega)
    have f8 : ∀ j, (nx + j = ma) = False := fun j => eq_false (by omega)
    have f9 : ∀ j, (mo = nx1 + j) = False := fun j => eq_false (by omega)
    have f10 : ∀ j, (nx1 + j = mo) = False := fun j => eq_false (by omega)
    have f11 : ∀ j, (ma = nx1 + j) = False := fun j => eq_false (by omega)
    have f12 : ∀ j, (nx1 + j = ma) = False := fun j => eq_false (by omega)
    have f13 : (mo = ma) = False := eq_false hq.na
    have f14 : (ma = mo) = False := eq_false (Ne.symm hq.na)
    have f15 : (k = mo) = False := eq_false hq.ko
    have f16 : (k = ma) = False := eq_false hq.ka
    have f17 : (mo = k) = False := eq_false (Ne.symm hq.ko)
    have f18 : (ma = k) = False := eq_false (Ne.symm hq.ka)
    have f19 : ∀ j, (nx + 64 = nx1 + j) = False := fun j => eq_false (by omega)
    have f20 : ∀ j, (nx1 + j = nx + 64) = False := fun j => eq_false (by omega)
    have hnp := nextP_ok a.c p.1 p.2
    generalize nextP a.c p.1 p.2 = q at hnp
    obtain ⟨q, eq⟩ := q
    simp only [encPE] at hnp
    repeat' (first | (simp -implicitDefEqProofs only [ze, zd, zr, simprocAttr, LR_pl, LR_hp, LR_hm, cunr_n, cunr_x, cunr_r, cunr_p, List.any_cons, List.any_nil, List.flatten_cons, List.flatten_nil, List.replicate_succ, List.replicate_zero, Bool.or_false, Bool.false_or, List.flatMap_cons, List.flatMap_nil, encPE, hq.hk, f1, f2, f3, f4, f5, f6, f7, f8, f9, f10, f11, f12, f13, f14, f15, f16, f17, f18, f19, f20, hnp, ne_eq, not_true_eq_false]) | (with_reducible refine wgd_cases ?_ ?_ <;> intro hb) | (with_reducible refine wcond_cases ?_ ?_ <;> intro hb) | (with_reducible refine W_itn_cases ?_ ?_; omega))
    refine qd_i (by simp [recsOk, ordB, Rec.free, Rec.wr, disj, List.range, List.range.loop, f1, f2, f3, f4, f19, f20]; try (repeat' (first | apply And.intro | decide | omega | (left; decide) | (right; omega)))) ?_
    by_cases h2 : eq = 0
    · subst h2
      rw [if_neg (by simp)]
      have hm := mfind_kmap encP e a.op 0
      have hd := mfind_kmap V.str e a.ak 0
      obtain ⟨j, hj⟩ : ∃ j, aidx a.op e = some (j, p) := by
        unfold aget at hg
        rw [Option.map_eq_some_iff] at hg
        obtain ⟨⟨j, w⟩, h3, rfl⟩ := hg
        exact ⟨j, h3⟩
      rw [hj] at hm
      have eo : aset a.op e q = a.op.set j (e, q) := by unfold aset; rw [hj]
      have es : (kmap encP a.op).set j (.str e, .agg [.i64 q.1, .i64 q.2]) = kmap encP (aset a.op e q) := by rw [eo]; exact kmap_set encP a.op j e q
      repeat' (first | (simp -implicitDefEqProofs only [ze, zd, zr, simprocAttr, LR_pl, LR_hp, LR_hm, cunr_n, cunr_x, cunr_r, cunr_p, List.any_cons, List.any_nil, List.flatten_cons, List.flatten_nil, List.replicate_succ, List.replicate_zero, Bool.or_false, Bool.false_or, List.flatMap_cons, List.flatMap_nil, encPE, hq.hk, hq.ho, hma, hm, Option.map_some, es, f1, f2, f3, f4, f5, f6, f7, f8, f9, f10, f11, f12, f13, f14, f15, f16, f17, f18, f19, f20, ne_eq, not_true_eq_false]) | (with_reducible refine wgd_cases ?_ ?_ <;> intro hb) | (with_reducible refine wcond_cases ?_ ?_ <;> intro hb) | (with_reducible refine W_itn_cases ?_ ?_; omega))
      refine qd_i (by simp [recsOk, ordB, Rec.free, Rec.wr, disj, List.range, List.range.loop, f1, f2, f3, f4, f5, f6, f7, f8, f9, f10, f11, f12, f13, f14, f15, f16, f17, f18, f19, f20]; try (repeat' (first | apply And.intro | decide | omega | (left; decide) | (right; omega)))) ?_
      -- the state ahead of the note
      have fin : ∀ (st2 : St) (nx2 : Nat), nx1 ≤ nx2 → st2 k = st1 k → st2 mo = some (.map (kmap encP (aset a.op e q)) true) → (∃ d, st2 ma = some (.map (kmap V.str (adel a.ak e)) d)) → (∀ i, i < nx → i ≠ mo → i ≠ ma → st2 i = st1 i) →
          W (L.hp 44 [.ptr k 0, .i64 8, .str e, .agg [.i64 p.1, .i64 p.2], .str u] st2 nx2) (fun r => ∃ st3 nx3, r = .ret (.tup []) st3 nx3 ∧ nx ≤ nx3 ∧ LK k { a with op := aset a.op e q, ak := adel a.ak e, ev := a.ev ++ [⟨8, e, p, u⟩] } (grown S nx nx3) st3 ∧ KeepS S nx st st3) := by
        intro st2 nx2 hn s1 s2 s3 s4
        have hk2 : LK k { a with op := aset a.op e q, ak := adel a.ak e } S st2 := by
          have rw_ : ∀ {en : Nat} {g : Bool} {sz n : Nat} {cs : List V} {v : V}, rowV S st1 en g sz n cs v → rowV S st2 en g sz n cs v := by
            intro en g sz n cs v hr
            rcases hr with hr | ⟨z0, id, z1, z2, z3⟩
            · exact .inl hr
            · have hz := hq.row z3
              exact .inr ⟨z0, id, z1, z2, by rw [s4 id (hS id z1) hz.2.1 hz.2.2]; exact z3⟩
          exact ⟨mo, ma, vn, ve, by rw [s1]; exact hq.hk, s2, s3, rw_ hq.hn, rw_ hq.he, hq.sk, hq.so, hq.sa, hq.na⟩
        obtain ⟨r, hr, st3, nx3, rfl, hn3, hk3, hkp⟩ := note_ok (nx := nx2) hk2 (fun i hi => by have := hS i hi; omega) hl 8 e u p
        refine ⟨_, hr, st3, nx3, rfl, by omega, hk3.mono (fun i hi => ?_) (fun _ _ => rfl), fun i hi hs => ?_⟩
        · rcases hi with hi | hi
          · exact .inl hi
          · exact .inr ⟨by omega, hi.2⟩
        · rw [hkp i (by omega) hs, s4 i hi (fun q => hs (q ▸ hq.so)) (fun q => hs (q ▸ hq.sa)), k1 i (by omega)]
      cases hdl : aidx a.ak e with
      | none =>
        rw [hdl] at hd
        have ea : adel a.ak e = a.ak := by unfold adel; rw [hdl]
        repeat' (first | (simp -implicitDefEqProofs only [ze, zd, zr, simprocAttr, LR_pl, LR_hp, LR_hm, cunr_n, cunr_x, cunr_r, cunr_p, List.any_cons, List.any_nil, List.flatten_cons, List.flatten_nil, List.replicate_succ, List.replicate_zero, Bool.or_false, Bool.false_or, List.flatMap_cons, List.flatMap_nil, encPE, hq.hk, hq.ho, hma, hd, Option.map_none, f1, f2, f3, f4, f5, f6, f7, f8, f9, f10, f11, f12, f13, f14, f15, f16, f17, f18, f19, f20, ne_eq, not_true_eq_false]) | (with_reducible refine wgd_cases ?_ ?_ <;> intro hb) | (with_reducible refine wcond_cases ?_ ?_ <;> intro hb) | (with_reducible refine W_itn_cases ?_ ?_; omega))
        refine W_hp (fin _ _ (by omega) ?_ ?_ ⟨d, ?_⟩ (fun i hi h1 h2 => ?_)) ?_
        · simp [upd, f1, f2, f3, f4, f5, f6, f7, f8, f9, f10, f11, f12, f13, f14, f15, f16, f17, f18, f19, f20]
        · simp [upd, f1, f2, f3, f4, f5, f6, f7, f8, f9, f10, f11, f12, f13, f14, f15, f16, f17, f18, f19, f20]
        · simp [upd, f1, f2, f3, f4, f5, f6, f7, f8, f9, f10, f11, f12, f13, f14, f15, f16, f17, f18, f19, f20, ea]
        · have a1 : ¬ i = nx + 64 := by omega
          have a2 : ¬ i = nx1 + 88 := by omega
          simp [upd, h1, h2, a1, a2]
        rintro _ ⟨st3, nx3, rfl, hn3, hk3, hkp⟩
        repeat' (first | (simp -implicitDefEqProofs only [ze, zd, zr, simprocAttr, LR_pl, LR_hp, LR_hm, cunr_n, cunr_x, cunr_r, cunr_p, List.any_cons, List.any_nil, List.flatten_cons, List.flatten_nil, List.replicate_succ, List.replicate_zero, Bool.or_false, Bool.false_or, List.flatMap_cons, List.flatMap_nil]) | (with_reducible refine wgd_cases ?_ ?_ <;> intro hb) | (with_reducible refine wcond_cases ?_ ?_ <;> intro hb) | (with_reducible refine W_itn_cases ?_ ?_; omega))
        exact ⟨_, _, rfl, by omega, hk3.mono (fun i hi => hi.imp id fun q => ⟨q.1, by omega⟩) (fun _ _ => rfl), hkp⟩
      | some w =>
        obtain ⟨j2, w2⟩ := w
        rw [hdl] at hd
        have ea : adel a.ak e = a.ak.eraseIdx j2 := by unfold adel; rw [hdl]
        have ee : (kmap V.str a.ak).eraseIdx j2 = kmap V.str (adel a.ak e) := by rw [ea]; exact kmap_erase V.str a.ak j2
        repeat' (first | (simp -implicitDefEqProofs only [ze, zd, zr, simprocAttr, LR_pl, LR_hp, LR_hm, cunr_n, cunr_x, cunr_r, cunr_p, List.any_cons, List.any_nil, List.flatten_cons, List.flatten_nil, List.replicate_succ, List.replicate_zero, Bool.or_false, Bool.false_or, List.flatMap_cons, List.flatMap_nil, encPE, hq.hk, hq.ho, hma, hd, Option.map_some, ee, f1, f2, f3, f4, f5, f6, f7, f8, f9, f10, f11, f12, f13, f14, f15, f16, f17, f18, f19, f20, ne_eq, not_true_eq_false]) | (with_reducible refine wgd_cases ?_ ?_ <;> intro hb) | (with_reducible refine wcond_cases ?_ ?_ <;> intro hb) | (with_reducible refine W_itn_cases ?_ ?_; omega))
        refine W_hp (fin _ _ (by omega) ?_ ?_ ⟨false, ?_⟩ (fun i hi h1 h2 => ?_)) ?_
        · simp [upd, f1, f2, f3, f4, f5, f6, f7, f8, f9, f10, f11, f12, f13, f14, f15, f16, f17, f18, f19, f20]
        · simp [upd, f1, f2, f3, f4, f5, f6, f7, f8, f9, f10, f11, f12, f13, f14, f15, f16, f17, f18, f19, f20]
        · simp [upd, f1, f2, f3, f4, f5, f6, f7, f8, f9, f10, f11, f12, f13, f14, f15, f16, f17, f18, f19, f20]
        · have a1 : ¬ i = nx + 64 := by omega
          have a2 : ¬ i = nx1 + 88 := by omega
          simp [upd, h1, h2, a1, a2]
        rintro _ ⟨st3, nx3, rfl, hn3, hk3, hkp⟩
        repeat' (first | (simp -implicitDefEqProofs only [ze, zd, zr, simprocAttr, LR_pl, LR_hp, LR_hm, cunr_n, cunr_x, cunr_r, cunr_p, List.any_cons, List.any_nil, List.flatten_cons, List.flatten_nil, List.replicate_succ, List.replicate_zero, Bool.or_false, Bool.false_or, List.flatMap_cons, List.flatMap_nil]) | (with_reducible refine wgd_cases ?_ ?_ <;> intro hb) | (with_reducible refine wcond_cases ?_ ?_ <;> intro hb) | (with_reducible refine W_itn_cases ?_ ?_; omega))
        exact ⟨_, _, rfl, by omega, hk3.mono (fun i hi => hi.imp id fun q => ⟨q.1, by omega⟩) (fun _ _ => rfl), hkp⟩
    · rw [if_pos h2]
      have g2 : decide (eq = 0) = false := decide_eq_false h2
      repeat' (first | (simp -implicitDefEqProofs only [ze, zd, zr, simprocAttr, LR_pl, LR_hp, LR_hm, cunr_n, cunr_x, cunr_r, cunr_p, List.any_cons, List.any_nil, List.flatten_cons, List.flatten_nil, List.replicate_succ, List.replicate_zero, Bool.or_false, Bool.false_or, List.flatMap_cons, List.flatMap_nil, g2, ne_eq, not_true_eq_false]) | (with_reducible refine wgd_cases ?_ ?_ <;> intro hb) | (with_reducible refine wcond_cases ?_ ?_ <;> intro hb) | (with_reducible refine W_itn_cases ?_ ?_; omega))
      refine .still h hS (by omega) fun i hi => ?_
      simp (disch := omega) only [upds, upd, List.foldl_cons, List.foldl_nil, if_neg]
      rw [k1 i (by omega)]
  · rw [if_pos h0]
    have g0 : decide (er = 0) = false := decide_eq_false h0
    repeat' (first | (simp -implicitDefEqProofs only [ze, zd, zr, simprocAttr, LR_pl, LR_hp, LR_hm, cunr_n, cunr_x, cunr_r, cunr_p, List.any_cons, List.any_nil, List.flatten_cons, List.flatten_nil, List.replicate_succ, List.replicate_zero, Bool.or_false, Bool.false_or, List.flatMap_cons, List.flatMap_nil, encPE, g0, ne_eq, not_true_eq_false]) | (with_reducible refine wgd_cases ?_ ?_ <;> intro hb) | (with_reducible refine wcond_cases ?_ ?_ <;> intro hb) | (with_reducible refine W_itn_cases ?_ ?_; omega))
    refine .still h hS (by omega) fun i hi => ?_
    simp (disch := omega) only [upds, upd, List.foldl_cons, List.foldl_nil, if_neg]
    rw [k1 i (by omega)]
end Go.Proofs.YthgmhlpjbednpaaDoor.Vm
set_option maxRecDepth 10000
set_option linter.unusedVariables false
set_option linter.unusedSimpArgs false
namespace Go.Proofs.YthgmhlpjbednpaaDoor.Vm
open Go Go.Proofs
theorem bne_tf : (true != false) = true := rfl
theorem bne_ft : (false != true) = true := rfl
theorem bne_tt : (true != true) = false := rfl
theorem bne_ff : (false != false) = false := rfl
theorem LKp.rows {k : Nat} {a : Lk} {S : Nat → Prop} {st st' : St} {mo ma : Nat} {vn ve : V} (h : LKp k a S st mo ma vn ve) {op : List (ByteArray × (Int × Int))} {ak : List (ByteArray × ByteArray)} (s1 : st' k = st k) (s2 : st' mo = some (.map (kmap encP op) true)) (s3 : ∃ d, st' ma = some (.map (kmap V.str ak) d)) (s4 : ∀ i, S i → i ≠ mo → i ≠ ma → st' i = st i) : LK k { a with op := op, ak := ak } S st' := by
  have rw_ : ∀ {en : Nat} {g : Bool} {sz n : Nat} {cs : List V} {v : V}, rowV S st en g sz n cs v → rowV S st' en g sz n cs v := by
    intro en g sz n cs v hr
    rcases hr with hr | ⟨z0, id, z1, z2, z3⟩
    · exact .inl hr
    · have hz := h.row z3
      exact .inr ⟨z0, id, z1, z2, by rw [s4 id z1 hz.2.1 hz.2.2]; exact z3⟩
  exact ⟨mo, ma, vn, ve, by rw [s1]; exact h.hk, s2, s3, rw_ h.hn, rw_ h.he, h.sk, h.so, h.sa, h.na⟩
def askK (a : Lk) (e u : ByteArray) : Lk × Int :=
  if (beginK a e u).2 ≠ 0 then (a, (beginK a e u).2)
  else if (beginK a e u).1 = a.s then (a, 18)
  else if (prevP a.c (beginK a e u).1.1 (beginK a e u).1.2).2 ≠ 0 then (a, 18)
  else ({ a with ak := aset a.ak e u, ev := a.ev ++ [⟨9, e, (prevP a.c (beginK a e u).1.1 (beginK a e u).1.2).1, u⟩] }, 0)
def reopenK (a : Lk) (e u : ByteArray) : Lk × Int :=
  if (beginK a e u).2 ≠ 0 then (a, (beginK a e u).2)
  else match aget a.ak e with
    | none => (a, 18)
    | some v => if v = u then (a, 19)
      else if (prevP a.c (beginK a e u).1.1 (beginK a e u).1.2).2 ≠ 0 then (a, 18)
      else ({ a with op := aset a.op e (prevP a.c (beginK a e u).1.1 (beginK a e u).1.2).1, ak := adel a.ak e, ev := a.ev ++ [⟨10, e, (prevP a.c (beginK a e u).1.1 (beginK a e u).1.2).1, u⟩] }, 0)
end Go.Proofs.YthgmhlpjbednpaaDoor.Vm
set_option maxRecDepth 10000
set_option linter.unusedVariables false
set_option linter.unusedSimpArgs false
namespace Go.Proofs.YthgmhlpjbednpaaDoor.Vm
open Go Go.Proofs
def stateK (a : Lk) (e : ByteArray) (p : Int × Int) : Int :=
  if (firstK a e).2 ≠ 0 then 0 else if (spanS a.c p.1 p.2).2.2 ≠ 0 then 0 else if cmpP p.1 p.2 (firstK a e).1.1 (firstK a e).1.2 < 0 then 1 else 2
noncomputable def allowK (a : Lk) (e : ByteArray) (d k : Int) : Int :=
  if (firstK a e).2 ≠ 0 then (firstK a e).2 else if (forP a.c d k).2 ≠ 0 then (forP a.c d k).2 else if cmpP (forP a.c d k).1.1 (forP a.c d k).1.2 (firstK a e).1.1 (firstK a e).1.2 < 0 then 16 else 0
theorem cmpP_self (y n : Int) : cmpP y n y n = 0 := by simp [cmpP]
theorem allow_ok {k : Nat} {a : Lk} {S : Nat → Prop} {st : St} {nx : Nat} (h : LK k a S st) (hS : ∀ i, S i → i < nx) (e : ByteArray) (d kd : Int) :
    W (L.hp 20 [.ptr k 0, .str e, .i64 d, .i64 kd] st nx) (Still st nx (.i64 (allowK a e d kd))) := by
  refine hp_r k20_eq ?_
  simp only [k20]
  repeat' (first | (simp -implicitDefEqProofs only [ze, zd, zr, simprocAttr, LR_pl, LR_hp, LR_hm, cunr_n, cunr_x, cunr_r, cunr_p, List.any_cons, List.any_nil, List.flatten_cons, List.flatten_nil, List.replicate_succ, List.replicate_zero, Bool.or_false, Bool.false_or, List.flatMap_cons, List.flatMap_nil]) | (with_reducible refine wgd_cases ?_ ?_ <;> intro hb) | (with_reducible refine wcond_cases ?_ ?_ <;> intro hb) | (with_reducible refine W_itn_cases ?_ ?_; omega))
  refine W_hp (first_ok h (fun i hi => by have := hS i hi; omega) e) ?_
  rintro _ ⟨st1, nx1, rfl, h1, k1⟩
  unfold allowK
  generalize firstK a e = b
  obtain ⟨f, er⟩ := b
  have hq := h.mono (S' := S) (st' := st1) (fun _ h => h) (fun i hi => k1 i (by have := hS i hi; omega))
  obtain ⟨mo, ma, vn, ve, hq⟩ := hq
  have hk := hS _ hq.sk
  have f1 : ∀ j, (k = nx1 + j) = False := fun j => eq_false (by omega)
  have f3 : ∀ j, (k = nx + j) = False := fun j => eq_false (by omega)
  have stay : ∀ (st2 : St) (nx2 : Nat) (v : Int), nx1 ≤ nx2 → (∀ i, i < nx → st2 i = st1 i) → Still st nx (.i64 v) (.ret (.i64 v) st2 nx2) := fun st2 nx2 v hn hs => .of (by omega) fun i hi => by
    rw [hs i hi, k1 i (by omega)]
  by_cases h0 : er = 0
  · subst h0
    rw [if_neg (by simp)]
    have hfo := forP_ok a.c d kd
    generalize forP a.c d kd = q at hfo
    obtain ⟨q, eq⟩ := q
    simp only [encPE] at hfo
    have hcm := cmpP_ok q.1 q.2 f.1 f.2
    have f20 : ∀ j, (nx = nx1 + j) = False := fun j => eq_false (by omega)
    have f21 : (nx = nx1) = False := eq_false (by omega)
    by_cases h2 : eq = 0
    · subst h2
      rw [if_neg (by simp)]
      have gs : (decide (q.1 = f.1) && decide (q.2 = f.2)) = decide (q = f) := by
        by_cases h : q = f
        · subst h; simp
        · have : ¬ (q.1 = f.1 ∧ q.2 = f.2) := fun z => h (Prod.ext z.1 z.2)
          rw [decide_eq_false h]
          simpa using this
      by_cases h4 : q = f
      · have g4 : decide (q = f) = true := decide_eq_true h4
        rw [if_neg (by rw [h4, cmpP_self]; decide)]
        repeat' (first | (simp -implicitDefEqProofs only [ze, zd, zr, simprocAttr, LR_pl, LR_hp, LR_hm, cunr_n, cunr_x, cunr_r, cunr_p, List.any_cons, List.any_nil, List.flatten_cons, List.flatten_nil, List.replicate_succ, List.replicate_zero, Bool.or_false, Bool.false_or, List.flatMap_cons, List.flatMap_nil, encPE, hq.hk, hfo, gs, g4, bne_tf, bne_ff, bne_ft, bne_tt, f1, f3, f20, f21, ne_eq, not_true_eq_false]) | (with_reducible refine wgd_cases ?_ ?_ <;> intro hb) | (with_reducible refine wcond_cases ?_ ?_ <;> intro hb) | (with_reducible refine W_itn_cases ?_ ?_; omega))
        refine stay _ _ _ ?_ fun i hi => ?_
        · omega
        simp (disch := omega) only [upds, upd, List.foldl_cons, List.foldl_nil, if_neg]
      · have g4 : decide (q = f) = false := decide_eq_false h4
        by_cases h3 : cmpP q.1 q.2 f.1 f.2 < 0
        · have g3 : decide (cmpP q.1 q.2 f.1 f.2 < 0) = true := decide_eq_true h3
          rw [if_pos h3]
          repeat' (first | (simp -implicitDefEqProofs only [ze, zd, zr, simprocAttr, LR_pl, LR_hp, LR_hm, cunr_n, cunr_x, cunr_r, cunr_p, List.any_cons, List.any_nil, List.flatten_cons, List.flatten_nil, List.replicate_succ, List.replicate_zero, Bool.or_false, Bool.false_or, List.flatMap_cons, List.flatMap_nil, encPE, hq.hk, hfo, gs, g4, hcm, g3, bne_tf, bne_ff, bne_ft, bne_tt, f1, f3, f20, f21, ne_eq, not_true_eq_false]) | (with_reducible refine wgd_cases ?_ ?_ <;> intro hb) | (with_reducible refine wcond_cases ?_ ?_ <;> intro hb) | (with_reducible refine W_itn_cases ?_ ?_; omega))
          refine stay _ _ _ ?_ fun i hi => ?_
          · omega
          simp (disch := omega) only [upds, upd, List.foldl_cons, List.foldl_nil, if_neg]
        · have g3 : decide (cmpP q.1 q.2 f.1 f.2 < 0) = false := decide_eq_false h3
          rw [if_neg h3]
          repeat' (first | (simp -implicitDefEqProofs only [ze, zd, zr, simprocAttr, LR_pl, LR_hp, LR_hm, cunr_n, cunr_x, cunr_r, cunr_p, List.any_cons, List.any_nil, List.flatten_cons, List.flatten_nil, List.replicate_succ, List.replicate_zero, Bool.or_false, Bool.false_or, List.flatMap_cons, List.flatMap_nil, encPE, hq.hk, hfo, gs, g4, hcm, g3, bne_tf, bne_ff, bne_ft, bne_tt, f1, f3, f20, f21, ne_eq, not_true_eq_false]) | (with_reducible refine wgd_cases ?_ ?_ <;> intro hb) | (with_reducible refine wcond_cases ?_ ?_ <;> intro hb) | (with_reducible refine W_itn_cases ?_ ?_; omega))
          refine stay _ _ _ ?_ fun i hi => ?_
          · omega
          simp (disch := omega) only [upds, upd, List.foldl_cons, List.foldl_nil, if_neg]
    · have g2 : decide (eq = 0) = false := decide_eq_false h2
      rw [if_pos h2]
      repeat' (first | (simp -implicitDefEqProofs only [ze, zd, zr, simprocAttr, LR_pl, LR_hp, LR_hm, cunr_n, cunr_x, cunr_r, cunr_p, List.any_cons, List.any_nil, List.flatten_cons, List.flatten_nil, List.replicate_succ, List.replicate_zero, Bool.or_false, Bool.false_or, List.flatMap_cons, List.flatMap_nil, encPE, hq.hk, hfo, g2, f1, f3, ne_eq, not_true_eq_false]) | (with_reducible refine wgd_cases ?_ ?_ <;> intro hb) | (with_reducible refine wcond_cases ?_ ?_ <;> intro hb) | (with_reducible refine W_itn_cases ?_ ?_; omega))
      refine stay _ _ _ ?_ fun i hi => ?_
      · omega
      simp (disch := omega) only [upds, upd, List.foldl_cons, List.foldl_nil, if_neg]
  · have g0 : decide (er = 0) = false := decide_eq_false h0
    rw [if_pos h0]
    repeat' (first | (simp -implicitDefEqProofs only [ze, zd, zr, simprocAttr, LR_pl, LR_hp, LR_hm, cunr_n, cunr_x, cunr_r, cunr_p, List.any_cons, List.any_nil, List.flatten_cons, List.flatten_nil, List.replicate_succ, List.replicate_zero, Bool.or_false, Bool.false_or, List.flatMap_cons, List.flatMap_nil, encPE, g0, ne_eq, not_true_eq_false]) | (with_reducible refine wgd_cases ?_ ?_ <;> intro hb) | (with_reducible refine wcond_cases ?_ ?_ <;> intro hb) | (with_reducible refine W_itn_cases ?_ ?_; omega))
    refine stay _ _ _ ?_ fun i hi => ?_
    · omega
    simp (disch := omega) only [upds, upd, List.foldl_cons, List.foldl_nil, if_neg]
end Go.Proofs.YthgmhlpjbednpaaDoor.Vm
set_option maxRecDepth 10000
set_option linter.unusedVariables false
set_option linter.unusedSimpArgs false
namespace Go.Proofs.YthgmhlpjbednpaaDoor.Vm
open Go Go.Proofs
def newE : List ByteArray → List ByteArray → Int
  | _, [] => 0
  | done, s :: r => if codeS s = false then 7 else if (done.any fun d => decide (s = d)) = true then 8 else newE (done ++ [s]) r
def newErr (c : Int) (p : Int × Int) (l : List ByteArray) : Int := if (spanS c p.1 p.2).2.2 ≠ 0 then (spanS c p.1 p.2).2.2 else if 200 < l.length then 9 else newE [] l
def sortS (l : List ByteArray) : List ByteArray := (sortB (l.map fun s => s.data.toList)).map fun b => ⟨b.toArray⟩
def newLk (c : Int) (p : Int × Int) (l : List ByteArray) : Lk := ⟨c, p, l.map fun s => (s, p), [], sortS l, []⟩
theorem spanS_err (c y n : Int) : (spanS c y n).2.2 = 0 ∨ (spanS c y n).2.2 = 2 ∨ (spanS c y n).2.2 = 16 := by
  unfold spanS
  split
  · exact .inr (.inl rfl)
  · split
    · exact .inr (.inr rfl)
    · split <;> exact .inl rfl
def NewR (c : Int) (p : Int × Int) (l : List ByteArray) (st : St) (nx : Nat) (r : HR) : Prop :=
  (newErr c p l ≠ 0 ∧ ∃ st' nx', r = .ret (.tup [.sc (.pointer none), .i64 (newErr c p l)]) st' nx' ∧ nx ≤ nx' ∧ ∀ i, i < nx → st' i = st i) ∨
  (newErr c p l = 0 ∧ ∃ k st' nx', r = .ret (.tup [.ptr k 0, .i64 0]) st' nx' ∧ nx ≤ nx' ∧ LK k (newLk c p l) (fun i => nx ≤ i ∧ i < nx') st' ∧ ∀ i, i < nx → st' i = st i)
theorem vbs_map (l : List ByteArray) : (l.map V.str).mapM vbs? = some (l.map fun s => s.data.toList) := by
  induction l with
  | nil => rfl
  | cons s l ih => simp only [List.map_cons, List.mapM_cons, ih, vbs?, Option.bind_eq_bind, Option.bind_some, Option.pure_def]
theorem sortS_len (l : List ByteArray) : (sortS l).length = l.length := by
  unfold sortS
  rw [List.length_map, (sortB_perm _).length_eq, List.length_map]
theorem sort_ok {S : Nat → Prop} {st : St} {nx : Nat} {l : List ByteArray} {v : V} (h : rowV S st 9 false 1 l.length (l.map V.str) v) (hl : l.length < 4611686018427387904) :
    W (L.hp 31 [v] st nx) (fun r => ∃ st', r = .ret (.tup []) st' nx ∧ rowV S st' 9 false 1 (sortS l).length ((sortS l).map V.str) v ∧ ∀ i, (∀ id, v = .sl 9 false 1 id 0 l.length → i ≠ id) → st' i = st i) := by
  rcases h with ⟨h0, h1, rfl⟩ | ⟨h0, id, h1, rfl, h3⟩
  · have hn : l = [] := List.eq_nil_of_length_eq_zero h0
    subst hn
    exact ⟨_, hp_ext (g := xsort) rfl rfl, st, rfl, .inl ⟨rfl, rfl, rfl⟩, fun i _ => rfl⟩
  · have hr : sortRow 0 l.length (l.map V.str) = some ((sortS l).map V.str) := by
      unfold sortRow
      rw [List.drop_zero, List.take_of_length_le (by simp), vbs_map, Option.bind_some, if_pos ⟨by simp, hl⟩]
      rw [Nat.zero_add, List.drop_eq_nil_of_le (by simp), List.append_nil, List.take_zero, List.nil_append]
      simp [sortS, vOfB, List.map_map, Function.comp_def]
    have hx : xsort [.sl 9 false 1 id 0 l.length] st nx = some (.ret (.tup []) (upd st id (some (.row 9 1 l.length ((sortS l).map V.str)))) nx) := by
      simp only [xsort, h3, hr, and_self, if_true, Option.map_some]
    refine ⟨_, hp_ext (g := xsort) rfl hx, _, rfl, .inr ⟨by rw [sortS_len]; exact h0, id, h1, by rw [sortS_len], ?_⟩, fun i hi => ?_⟩
    · simp [upd, sortS_len]
    · have : ¬ i = id := hi id rfl
      simp [upd, this]
end Go.Proofs.YthgmhlpjbednpaaDoor.Vm
set_option maxRecDepth 10000
set_option linter.unusedVariables false
set_option linter.unusedSimpArgs false
namespace Go.Proofs.YthgmhlpjbednpaaDoor.Vm
open Go Go.Proofs
def actK (a : Lk) (o : Op) : Lk × Int := if o.act % 3 = 0 then closeK a o.ent o.usr else if o.act % 3 = 1 then askK a o.ent o.usr else reopenK a o.ent o.usr
end Go.Proofs.YthgmhlpjbednpaaDoor.Vm
set_option maxRecDepth 10000
set_option linter.unusedVariables false
set_option linter.unusedSimpArgs false
namespace Go.Proofs.YthgmhlpjbednpaaDoor.Vm
open Go Go.Proofs
def perC (p : Int × Int) : List V := [.i64 p.1, .i64 p.2]
structure RLk where
  c : Int
  s : Int × Int
  nm : List ByteArray
  fs : List (Int × Int)
  ak : List ByteArray
  ev : List Ev
def rRows (S : Nat → Prop) (st : St) (a : RLk) (vn vf va : V) : Prop :=
  (a.nm = [] ∧ vn = .list 0 [] 1 ∧ vf = .list 0 [] 1 ∧ va = .list 0 [] 1) ∨
  (0 < a.nm.length ∧ ∃ n f g, S n ∧ S f ∧ S g ∧ n ≠ g ∧ vn = .sl 9 false 1 n 0 a.nm.length ∧ vf = .sl 25 true 2 f 0 a.nm.length ∧ va = .sl 9 false 1 g 0 a.nm.length ∧
    st n = some (.row 9 1 a.nm.length (a.nm.map V.str)) ∧ st f = some (.row 25 2 a.nm.length (a.fs.flatMap perC)) ∧ st g = some (.row 9 1 a.nm.length (a.ak.map V.str)))
structure RLKp (k : Nat) (a : RLk) (S : Nat → Prop) (st : St) (vn vf va ve : V) : Prop where
  hk : st k = some (.cells [.i64 a.c, .i64 a.s.1, .i64 a.s.2, vn, vf, va, ve])
  rows : rRows S st a vn vf va
  he : rowV S st 50 true 5 a.ev.length (a.ev.flatMap evC) ve
  sk : S k
  lf : a.fs.length = a.nm.length
  la : a.ak.length = a.nm.length
def RLK (k : Nat) (a : RLk) (S : Nat → Prop) (st : St) : Prop := ∃ vn vf va ve, RLKp k a S st vn vf va ve
theorem rRows.mono {S S' : Nat → Prop} {st st' : St} {a : RLk} {vn vf va : V} (h : rRows S st a vn vf va) (hS : ∀ i, S i → S' i) (hs : ∀ i, S i → st' i = st i) : rRows S' st' a vn vf va := by
  rcases h with h | ⟨h0, n, f, g, s1, s2, s3, h1, h2, h3, h4, h5, h6, h7⟩
  · exact .inl h
  · exact .inr ⟨h0, n, f, g, hS _ s1, hS _ s2, hS _ s3, h1, h2, h3, h4, by rw [hs _ s1]; exact h5, by rw [hs _ s2]; exact h6, by rw [hs _ s3]; exact h7⟩
theorem RLK.mono {k : Nat} {a : RLk} {S S' : Nat → Prop} {st st' : St} (h : RLK k a S st) (hS : ∀ i, S i → S' i) (hs : ∀ i, S i → st' i = st i) : RLK k a S' st' := by
  obtain ⟨vn, vf, va, ve, h⟩ := h
  exact ⟨vn, vf, va, ve, by rw [hs _ h.sk]; exact h.hk, h.rows.mono hS hs, h.he.mono hS hs, hS _ h.sk, h.lf, h.la⟩
def idxR : List ByteArray → ByteArray → Option Nat
  | [], _ => none
  | s :: l, e => if s = e then some 0 else (idxR l e).map (· + 1)
def atZ (l : List ByteArray) (e : ByteArray) : Int := match idxR l e with
  | some i => i
  | none => -1
theorem idxR_none {l : List ByteArray} {e : ByteArray} (h : ∀ (j : Nat) (s : ByteArray), l[j]? = some s → s ≠ e) : idxR l e = none := by
  induction l with
  | nil => rfl
  | cons s l ih =>
    rw [idxR, if_neg (h 0 s rfl), ih (fun j t ht => h (j + 1) t (by simpa using ht))]; rfl
theorem idxR_some {l : List ByteArray} {e : ByteArray} {i : Nat} (hi : l[i]? = some e) (h : ∀ (j : Nat) (s : ByteArray), j < i → l[j]? = some s → s ≠ e) : idxR l e = some i := by
  induction l generalizing i with
  | nil => simp at hi
  | cons s l ih =>
    cases i with
    | zero => simp at hi; rw [idxR, if_pos hi]
    | succ i =>
      rw [idxR, if_neg (h 0 s (by omega) rfl), ih (by simpa using hi) (fun j t hj ht => h (j + 1) t (by omega) (by simpa using ht))]; rfl
theorem idxR_get {l : List ByteArray} {e : ByteArray} {i : Nat} (h : idxR l e = some i) : l[i]? = some e := by
  induction l generalizing i with
  | nil => simp [idxR] at h
  | cons s l ih =>
    rw [idxR] at h
    split at h
    · rename_i hs; simp at h; subst h; subst hs; rfl
    · rw [Option.map_eq_some_iff] at h
      obtain ⟨j, hj, rfl⟩ := h
      simpa using ih hj
theorem rat_ok {k : Nat} {a : RLk} {S : Nat → Prop} {st : St} {nx : Nat} (h : RLK k a S st) (hl : a.nm.length ≤ 1000000) (e : ByteArray) : W (L.hp 35 [.ptr k 0, .str e] st nx) (Still st nx (.i64 (atZ a.nm e))) := by
  obtain ⟨vn, vf, va, ve, h⟩ := h
  refine hp_r k35_eq ?_
  simp only [k35]
  repeat' (first | (simp -implicitDefEqProofs only [ze, zd, zr, simprocAttr, LR_pl, LR_hp, LR_hm, cunr_n, cunr_x, cunr_r, cunr_p, List.any_cons, List.any_nil, List.flatten_cons, List.flatten_nil, List.replicate_succ, List.replicate_zero, Bool.or_false, Bool.false_or, List.flatMap_cons, List.flatMap_nil]) | (with_reducible refine wgd_cases ?_ ?_ <;> intro hb) | (with_reducible refine wcond_cases ?_ ?_ <;> intro hb) | (with_reducible refine W_itn_cases ?_ ?_; omega))
  refine loop_w (fun n tm st' nx' => ∃ i : Nat, n = a.nm.length - i ∧ i ≤ a.nm.length ∧ tm 5 = .i64 i ∧ tm 0 = .ptr k 0 ∧ tm 1 = .str e ∧ st' = st ∧ nx ≤ nx' ∧ ∀ (j : Nat) (s : ByteArray), j < i → a.nm[j]? = some s → s ≠ e) _ ⟨0, rfl, by omega, ?_, ?_, ?_, rfl, by omega, fun j s hj => by omega⟩ ?_
  · simp -implicitDefEqProofs only [ze, zd, simprocAttr]; try rfl
  · simp -implicitDefEqProofs only [ze, zd, simprocAttr]
  · simp -implicitDefEqProofs only [ze, zd, simprocAttr]
  rintro n tm st' nx' ⟨i, hn, hi, h5, h0, h1, rfl, hnx, hno⟩
  simp only [k35_l0]
  rcases h.rows with ⟨z0, rfl, rfl, rfl⟩ | ⟨z0, nn, f, g, s1, s2, s3, q1, rfl, rfl, rfl, q5, q6, q7⟩
  · have hi0 : i = 0 := by rw [z0] at hi; simpa using hi
    subst hi0
    have ez : atZ a.nm e = -1 := by rw [z0]; rfl
    rw [ez]
    repeat' (first | (simp -implicitDefEqProofs only [ze, zd, zr, simprocAttr, LR_pl, LR_hp, LR_hm, cunr_n, cunr_x, cunr_r, cunr_p, List.any_cons, List.any_nil, List.flatten_cons, List.flatten_nil, List.replicate_succ, List.replicate_zero, Bool.or_false, Bool.false_or, List.flatMap_cons, List.flatMap_nil, h5, h0, h1, h.hk, k35_t0]) | (with_reducible refine wgd_cases ?_ ?_ <;> intro hb) | (with_reducible refine wcond_cases ?_ ?_ <;> intro hb) | (with_reducible refine W_itn_cases ?_ ?_; omega))
    exact ⟨_, _, rfl, by omega, fun i hi => rfl⟩
  · by_cases hc : i < a.nm.length
    · have hd : decide ((i : Int) < (a.nm.length : Int)) = true := decide_eq_true (by omega)
      obtain ⟨s, hs⟩ := get_lt hc
      have hs2 : (a.nm.map V.str)[i]? = some (.str s) := by rw [List.getElem?_map, hs]; rfl
      by_cases hse : s = e
      · have ge : decide (s = e) = true := decide_eq_true hse
        have ez : atZ a.nm e = i := by unfold atZ; rw [idxR_some (by rw [hs, hse]) hno]
        rw [ez]
        repeat' (first | (simp -implicitDefEqProofs only [ze, zd, zr, simprocAttr, LR_pl, LR_hp, LR_hm, cunr_n, cunr_x, cunr_r, cunr_p, List.any_cons, List.any_nil, List.flatten_cons, List.flatten_nil, List.replicate_succ, List.replicate_zero, Bool.or_false, Bool.false_or, List.flatMap_cons, List.flatMap_nil, h5, h0, h1, h.hk, q5, hd, hs, hs2, ge, Nat.mul_one, Nat.zero_add]) | (with_reducible refine wgd_cases ?_ ?_ <;> intro hb) | (with_reducible refine wcond_cases ?_ ?_ <;> intro hb) | (with_reducible refine W_itn_cases ?_ ?_; omega))
        exact ⟨_, _, rfl, by omega, fun i hi => rfl⟩
      · have ge : decide (s = e) = false := decide_eq_false hse
        repeat' (first | (simp -implicitDefEqProofs only [ze, zd, zr, simprocAttr, LR_pl, LR_hp, LR_hm, cunr_n, cunr_x, cunr_r, cunr_p, List.any_cons, List.any_nil, List.flatten_cons, List.flatten_nil, List.replicate_succ, List.replicate_zero, Bool.or_false, Bool.false_or, List.flatMap_cons, List.flatMap_nil, h5, h0, h1, h.hk, q5, hd, hs, hs2, ge, Nat.mul_one, Nat.zero_add]) | (with_reducible refine wgd_cases ?_ ?_ <;> intro hb) | (with_reducible refine wcond_cases ?_ ?_ <;> intro hb) | (with_reducible refine W_itn_cases ?_ ?_; omega))
        refine ⟨a.nm.length - (i + 1), by omega, i + 1, rfl, by omega, up64 (by omega), by omega, fun j t hj ht => ?_⟩
        by_cases hji : j = i
        · subst hji; rw [hs] at ht; obtain rfl := Option.some.inj ht; exact hse
        · exact hno j t (by omega) ht
    · have hd : decide ((i : Int) < (a.nm.length : Int)) = false := decide_eq_false (by omega)
      have ez : atZ a.nm e = -1 := by
        unfold atZ
        rw [idxR_none (fun j s hj => hno j s (by have := (List.getElem?_eq_some_iff.1 hj).1; omega) hj)]
      rw [ez]
      repeat' (first | (simp -implicitDefEqProofs only [ze, zd, zr, simprocAttr, LR_pl, LR_hp, LR_hm, cunr_n, cunr_x, cunr_r, cunr_p, List.any_cons, List.any_nil, List.flatten_cons, List.flatten_nil, List.replicate_succ, List.replicate_zero, Bool.or_false, Bool.false_or, List.flatMap_cons, List.flatMap_nil, h5, h0, h1, h.hk, hd, k35_t0]) | (with_reducible refine wgd_cases ?_ ?_ <;> intro hb) | (with_reducible refine wcond_cases ?_ ?_ <;> intro hb) | (with_reducible refine W_itn_cases ?_ ?_; omega))
      exact ⟨_, _, rfl, by omega, fun i hi => rfl⟩
theorem atZ_none {l : List ByteArray} {e : ByteArray} (h : idxR l e = none) : atZ l e = -1 := by unfold atZ; rw [h]
theorem atZ_some {l : List ByteArray} {e : ByteArray} {i : Nat} (h : idxR l e = some i) : atZ l e = i := by unfold atZ; rw [h]
def whoR (a : RLk) (e u : ByteArray) : Int := if idxR a.nm e = none then 1 else if codeS u = false then 7 else 0
theorem perC_two {l : List (Int × Int)} {j : Nat} {p : Int × Int} (h : l[j]? = some p) : ((l.flatMap perC).drop (j * 2)).take 2 = [.i64 p.1, .i64 p.2] := by
  induction l generalizing j with
  | nil => simp at h
  | cons q l ih =>
    rw [List.flatMap_cons]
    cases j with
    | zero => simp at h; subst h; rfl
    | succ j =>
      have e : (j + 1) * 2 = 2 + j * 2 := by omega
      have hq : (perC q).length = 2 := rfl
      rw [e, ← List.drop_drop, List.drop_append_of_le_length (by rw [hq]; omega)]
      have : (perC q).drop 2 = [] := rfl
      rw [this, List.nil_append]
      exact ih (by simpa using h)
theorem perC_len (l : List (Int × Int)) : (l.flatMap perC).length = l.length * 2 := by
  induction l with
  | nil => rfl
  | cons x l ih => rw [List.flatMap_cons, List.length_append, ih, List.length_cons, Nat.succ_mul]; simp [perC]; omega
def firstR (a : RLk) (e : ByteArray) : (Int × Int) × Int := match idxR a.nm e with
  | some i => (a.fs.getD i (0, 0), 0)
  | none => ((0, 0), 1)
theorem fs_get {a : RLk} {e : ByteArray} {i : Nat} (lf : a.fs.length = a.nm.length) (hi : idxR a.nm e = some i) : i < a.nm.length ∧ a.fs[i]? = some (a.fs.getD i (0, 0)) := by
  have h1 := (List.getElem?_eq_some_iff.1 (idxR_get hi)).1
  refine ⟨h1, ?_⟩
  rw [List.getD_eq_getElem?_getD, List.getElem?_eq_getElem (by omega)]; rfl
end Go.Proofs.YthgmhlpjbednpaaDoor.Vm
set_option maxRecDepth 10000
set_option linter.unusedVariables false
set_option linter.unusedSimpArgs false
namespace Go.Proofs.YthgmhlpjbednpaaDoor.Vm
open Go Go.Proofs
theorem firstR_some {a : RLk} {e : ByteArray} {i : Nat} (h : idxR a.nm e = some i) : firstR a e = (a.fs.getD i (0, 0), 0) := by unfold firstR; rw [h]
theorem firstR_none {a : RLk} {e : ByteArray} (h : idxR a.nm e = none) : firstR a e = ((0, 0), 1) := by unfold firstR; rw [h]
def stateR (a : RLk) (e : ByteArray) (p : Int × Int) : Int :=
  if (firstR a e).2 ≠ 0 then 0 else if (spanS a.c p.1 p.2).2.2 ≠ 0 then 0 else if cmpP p.1 p.2 (firstR a e).1.1 (firstR a e).1.2 < 0 then 1 else 2
noncomputable def allowR (a : RLk) (e : ByteArray) (d k : Int) : Int :=
  if (firstR a e).2 ≠ 0 then 1 else if (forP a.c d k).2 ≠ 0 then (forP a.c d k).2 else if cmpP (forP a.c d k).1.1 (forP a.c d k).1.2 (firstR a e).1.1 (firstR a e).1.2 < 0 then 16 else 0
theorem rallow_ok {k : Nat} {a : RLk} {S : Nat → Prop} {st : St} {nx : Nat} (h : RLK k a S st) (hS : ∀ i, S i → i < nx) (hl : a.nm.length ≤ 1000000) (e : ByteArray) (d kd : Int) :
    W (L.hp 21 [.ptr k 0, .str e, .i64 d, .i64 kd] st nx) (Still st nx (.i64 (allowR a e d kd))) := by
  refine hp_r k21_eq ?_
  simp only [k21]
  repeat' (first | (simp -implicitDefEqProofs only [ze, zd, zr, simprocAttr, LR_pl, LR_hp, LR_hm, cunr_n, cunr_x, cunr_r, cunr_p, List.any_cons, List.any_nil, List.flatten_cons, List.flatten_nil, List.replicate_succ, List.replicate_zero, Bool.or_false, Bool.false_or, List.flatMap_cons, List.flatMap_nil]) | (with_reducible refine wgd_cases ?_ ?_ <;> intro hb) | (with_reducible refine wcond_cases ?_ ?_ <;> intro hb) | (with_reducible refine W_itn_cases ?_ ?_; omega))
  refine W_hp (rat_ok h hl e) ?_
  rintro _ ⟨st1, nx1, rfl, h1, k1⟩
  have hq := h.mono (S' := S) (st' := st1) (fun _ h => h) (fun i hi => k1 i (by have := hS i hi; omega))
  obtain ⟨vn, vf, va, ve, hq⟩ := hq
  have hk := hS _ hq.sk
  have fin : ∀ (st2 : St) (nx2 : Nat) (v : V), nx1 ≤ nx2 → (∀ i, i < nx → st2 i = st1 i) → Still st nx v (.ret v st2 nx2) := fun st2 nx2 v hn hs => .of (by omega) fun i hi => by
    rw [hs i hi, k1 i (by omega)]
  have f1 : ∀ j, (k = nx1 + j) = False := fun j => eq_false (by omega)
  have f3 : (k = nx1) = False := eq_false (by omega)
  unfold allowR
  cases hi : idxR a.nm e with
  | none =>
    rw [atZ_none hi, firstR_none hi, if_pos (by simp)]
    repeat' (first | (simp -implicitDefEqProofs only [ze, zd, zr, simprocAttr, LR_pl, LR_hp, LR_hm, cunr_n, cunr_x, cunr_r, cunr_p, List.any_cons, List.any_nil, List.flatten_cons, List.flatten_nil, List.replicate_succ, List.replicate_zero, Bool.or_false, Bool.false_or, List.flatMap_cons, List.flatMap_nil]) | (with_reducible refine wgd_cases ?_ ?_ <;> intro hb) | (with_reducible refine wcond_cases ?_ ?_ <;> intro hb) | (with_reducible refine W_itn_cases ?_ ?_; omega))
    refine fin _ _ _ ?_ fun i hi => rfl
    omega
  | some i =>
    obtain ⟨hil, hg⟩ := fs_get hq.lf hi
    rw [atZ_some hi, firstR_some hi, if_neg (by simp)]
    generalize a.fs.getD i (0, 0) = f at hg
    dsimp only
    have g0 : decide ((i : Int) < 0) = false := decide_eq_false (by omega)
    rcases hq.rows with ⟨z0, _⟩ | ⟨z0, nn, fi, g, s1, s2, s3, q1, rfl, rfl, rfl, q5, q6, q7⟩
    · rw [z0] at hil; simp at hil
    · have hf := hS _ s2
      have f2 : ∀ j, (fi = nx1 + j) = False := fun j => eq_false (by omega)
      have f4 : (fi = nx1) = False := eq_false (by omega)
      have x2 := perC_two hg
      have lx : i * 2 + 2 ≤ (a.fs.flatMap perC).length := by rw [perC_len, hq.lf]; omega
      have hii : (0 : Int) ≤ i ∧ (i : Int) < a.nm.length := ⟨by omega, by omega⟩
      have hfo := rforP_ok a.c d kd
      generalize forP a.c d kd = q at hfo
      obtain ⟨q, eq⟩ := q
      simp only [encPE] at hfo
      have hcm := rcmpP_ok q.1 q.2 f.1 f.2
      by_cases h2 : eq = 0
      · subst h2
        rw [if_neg (by simp)]
        by_cases h3 : cmpP q.1 q.2 f.1 f.2 < 0
        · have g3 : decide (cmpP q.1 q.2 f.1 f.2 < 0) = true := decide_eq_true h3
          rw [if_pos h3]
          repeat' (first | (simp -implicitDefEqProofs only [ze, zd, zr, simprocAttr, LR_pl, LR_hp, LR_hm, cunr_n, cunr_x, cunr_r, cunr_p, List.any_cons, List.any_nil, List.flatten_cons, List.flatten_nil, List.replicate_succ, List.replicate_zero, Bool.or_false, Bool.false_or, List.flatMap_cons, List.flatMap_nil, hq.hk, q6, f1, f2, f3, f4, g0, x2, lx, hii, hfo, hcm, g3, encPE, Nat.zero_add, ne_eq, not_true_eq_false]) | (with_reducible refine wgd_cases ?_ ?_ <;> intro hb) | (with_reducible refine wcond_cases ?_ ?_ <;> intro hb) | (with_reducible refine W_itn_cases ?_ ?_; omega))
          refine qd_i (recsOk_ro rfl) ?_
          repeat' (first | (simp -implicitDefEqProofs only [ze, zd, zr, simprocAttr, LR_pl, LR_hp, LR_hm, cunr_n, cunr_x, cunr_r, cunr_p, List.any_cons, List.any_nil, List.flatten_cons, List.flatten_nil, List.replicate_succ, List.replicate_zero, Bool.or_false, Bool.false_or, List.flatMap_cons, List.flatMap_nil, hq.hk, q6, f1, f2, f3, f4, g0, x2, lx, hii, hfo, hcm, g3, encPE, Nat.zero_add, ne_eq, not_true_eq_false]) | (with_reducible refine wgd_cases ?_ ?_ <;> intro hb) | (with_reducible refine wcond_cases ?_ ?_ <;> intro hb) | (with_reducible refine W_itn_cases ?_ ?_; omega))
          refine fin _ _ _ ?_ fun i hi => ?_
          · omega
          simp (disch := omega) only [upds, upd, List.foldl_cons, List.foldl_nil, if_neg]
        · have g3 : decide (cmpP q.1 q.2 f.1 f.2 < 0) = false := decide_eq_false h3
          rw [if_neg h3]
          repeat' (first | (simp -implicitDefEqProofs only [ze, zd, zr, simprocAttr, LR_pl, LR_hp, LR_hm, cunr_n, cunr_x, cunr_r, cunr_p, List.any_cons, List.any_nil, List.flatten_cons, List.flatten_nil, List.replicate_succ, List.replicate_zero, Bool.or_false, Bool.false_or, List.flatMap_cons, List.flatMap_nil, hq.hk, q6, f1, f2, f3, f4, g0, x2, lx, hii, hfo, hcm, g3, encPE, Nat.zero_add, ne_eq, not_true_eq_false]) | (with_reducible refine wgd_cases ?_ ?_ <;> intro hb) | (with_reducible refine wcond_cases ?_ ?_ <;> intro hb) | (with_reducible refine W_itn_cases ?_ ?_; omega))
          refine qd_i (recsOk_ro rfl) ?_
          repeat' (first | (simp -implicitDefEqProofs only [ze, zd, zr, simprocAttr, LR_pl, LR_hp, LR_hm, cunr_n, cunr_x, cunr_r, cunr_p, List.any_cons, List.any_nil, List.flatten_cons, List.flatten_nil, List.replicate_succ, List.replicate_zero, Bool.or_false, Bool.false_or, List.flatMap_cons, List.flatMap_nil, hq.hk, q6, f1, f2, f3, f4, g0, x2, lx, hii, hfo, hcm, g3, encPE, Nat.zero_add, ne_eq, not_true_eq_false]) | (with_reducible refine wgd_cases ?_ ?_ <;> intro hb) | (with_reducible refine wcond_cases ?_ ?_ <;> intro hb) | (with_reducible refine W_itn_cases ?_ ?_; omega))
          refine fin _ _ _ ?_ fun i hi => ?_
          · omega
          simp (disch := omega) only [upds, upd, List.foldl_cons, List.foldl_nil, if_neg]
      · have g2 : decide (eq = 0) = false := decide_eq_false h2
        rw [if_pos h2]
        repeat' (first | (simp -implicitDefEqProofs only [ze, zd, zr, simprocAttr, LR_pl, LR_hp, LR_hm, cunr_n, cunr_x, cunr_r, cunr_p, List.any_cons, List.any_nil, List.flatten_cons, List.flatten_nil, List.replicate_succ, List.replicate_zero, Bool.or_false, Bool.false_or, List.flatMap_cons, List.flatMap_nil, hq.hk, q6, f1, f2, f3, f4, g0, hfo, g2, encPE, Nat.zero_add, ne_eq, not_true_eq_false]) | (with_reducible refine wgd_cases ?_ ?_ <;> intro hb) | (with_reducible refine wcond_cases ?_ ?_ <;> intro hb) | (with_reducible refine W_itn_cases ?_ ?_; omega))
        refine fin _ _ _ ?_ fun i hi => ?_
        · omega
        simp (disch := omega) only [upds, upd, List.foldl_cons, List.foldl_nil, if_neg]
def lastR (a : RLk) (i : Nat) : (Int × Int) × Bool :=
  if a.fs.getD i (0, 0) = a.s then ((0, 0), false) else ((prevP a.c (a.fs.getD i (0, 0)).1 (a.fs.getD i (0, 0)).2).1, decide ((prevP a.c (a.fs.getD i (0, 0)).1 (a.fs.getD i (0, 0)).2).2 = 0))
end Go.Proofs.YthgmhlpjbednpaaDoor.Vm
set_option maxRecDepth 10000
set_option linter.unusedVariables false
set_option linter.unusedSimpArgs false
namespace Go.Proofs.YthgmhlpjbednpaaDoor.Vm
open Go Go.Proofs
def closeR (a : RLk) (e u : ByteArray) : RLk × Int :=
  if whoR a e u ≠ 0 then (a, whoR a e u) else match idxR a.nm e with
    | none => (a, 1)
    | some i =>
      if (nextP a.c (a.fs.getD i (0, 0)).1 (a.fs.getD i (0, 0)).2).2 ≠ 0 then (a, 16)
      else ({ a with ev := a.ev ++ [⟨8, e, a.fs.getD i (0, 0), u⟩], fs := a.fs.set i (nextP a.c (a.fs.getD i (0, 0)).1 (a.fs.getD i (0, 0)).2).1, ak := a.ak.set i ⟨#[]⟩ }, 0)
theorem RDoes.still {k : Nat} {a : RLk} {S : Nat → Prop} {st st' : St} {nx nx' : Nat} {v : V} (h : RLK k a S st) (hS : ∀ i, S i → i < nx) (hn : nx ≤ nx') (hs : ∀ i, i < nx → st' i = st i) : Does S st nx v (RLK k a) (.ret v st' nx') :=
  ⟨st', nx', rfl, hn, h.mono (fun i hi => .inl hi) (fun i hi => hs i (hS i hi)), fun i hi _ => hs i hi⟩
end Go.Proofs.YthgmhlpjbednpaaDoor.Vm
set_option maxRecDepth 10000
set_option linter.unusedVariables false
set_option linter.unusedSimpArgs false
namespace Go.Proofs.YthgmhlpjbednpaaDoor.Vm
open Go Go.Proofs
def askR (a : RLk) (e u : ByteArray) : RLk × Int :=
  if whoR a e u ≠ 0 then (a, whoR a e u) else match idxR a.nm e with
    | none => (a, 1)
    | some i => if (lastR a i).2 = false then (a, 18) else ({ a with ev := a.ev ++ [⟨9, e, (lastR a i).1, u⟩], ak := a.ak.set i u }, 0)
def reopenR (a : RLk) (e u : ByteArray) : RLk × Int :=
  if whoR a e u ≠ 0 then (a, whoR a e u) else match idxR a.nm e with
    | none => (a, 1)
    | some i => if a.ak.getD i ⟨#[]⟩ = ⟨#[]⟩ then (a, 18) else if a.ak.getD i ⟨#[]⟩ = u then (a, 19) else ({ a with ev := a.ev ++ [⟨10, e, (lastR a i).1, u⟩], fs := a.fs.set i (lastR a i).1, ak := a.ak.set i ⟨#[]⟩ }, 0)
end Go.Proofs.YthgmhlpjbednpaaDoor.Vm
set_option maxRecDepth 10000
set_option linter.unusedVariables false
set_option linter.unusedSimpArgs false
namespace Go.Proofs.YthgmhlpjbednpaaDoor.Vm
open Go Go.Proofs
def wantK (a : RLk) (o : Op) : RLk × Int := if o.act % 3 = 0 then closeR a o.ent o.usr else if o.act % 3 = 1 then askR a o.ent o.usr else reopenR a o.ent o.usr
end Go.Proofs.YthgmhlpjbednpaaDoor.Vm
set_option linter.unusedVariables false
set_option linter.unusedSimpArgs false
namespace Go.Proofs.YthgmhlpjbednpaaDoor.Vm
open Go Go.Proofs
def TwoAt (l : List Ev) (i : Nat) (x : Ev) : Prop := ∃ (j : Nat) (y : Ev), j < i ∧ l[j]? = some y ∧ y.e = x.e ∧ (∀ (m : Nat) (z : Ev), j < m → m < i → l[m]? = some z → z.e ≠ x.e) ∧ y.k = 9 ∧ y.u ≠ x.u ∧ y.p = x.p
def TwoOk (l : List Ev) : Prop := ∀ (i : Nat) (x : Ev), l[i]? = some x → x.k = 10 → TwoAt l i x
def LastAsk (l : List Ev) (e v : ByteArray) (p : Int × Int) : Prop := ∃ (j : Nat) (y : Ev), l[j]? = some y ∧ y.e = e ∧ (∀ (m : Nat) (z : Ev), j < m → l[m]? = some z → z.e ≠ e) ∧ y.k = 9 ∧ y.u = v ∧ y.p = p
structure TwoInv (a : Lk) : Prop where
  ok : TwoOk a.ev
  nd : (a.ak.map (·.1)).Nodup
  la : ∀ e v, aget a.ak e = some v → ∃ p0, aget a.op e = some p0 ∧ LastAsk a.ev e v (prevP a.c p0.1 p0.2).1
theorem get_app_lt {α : Type} {l : List α} {x y : α} {j : Nat} (h : l[j]? = some y) : (l ++ [x])[j]? = some y := by
  rw [List.getElem?_append_left (List.getElem?_eq_some_iff.1 h).1]; exact h
theorem get_app_inv {α : Type} {l : List α} {x y : α} {j : Nat} (h : (l ++ [x])[j]? = some y) : l[j]? = some y ∨ (j = l.length ∧ y = x) := by
  by_cases hj : j < l.length
  · rw [List.getElem?_append_left hj] at h; exact .inl h
  · rw [List.getElem?_append_right (by omega)] at h
    have h1 := (List.getElem?_eq_some_iff.1 h).1
    simp at h1
    have : j = l.length := by omega
    subst this
    simp at h
    exact .inr ⟨rfl, h.symm⟩
theorem TwoOk.app {l : List Ev} {x : Ev} (h : TwoOk l) (hx : x.k = 10 → TwoAt l l.length x) : TwoOk (l ++ [x]) := by
  have lift : ∀ i z, i ≤ l.length → TwoAt l i z → TwoAt (l ++ [x]) i z := by
    rintro i z hi ⟨j, y, h1, h2, h3, h4, h5⟩
    refine ⟨j, y, h1, get_app_lt h2, h3, fun m w hm hm2 hw => ?_, h5⟩
    rcases get_app_inv hw with hw | ⟨hw, _⟩
    · exact h4 m w hm hm2 hw
    · omega
  intro i z hz hk
  rcases get_app_inv hz with hz | ⟨rfl, rfl⟩
  · exact lift i z (Nat.le_of_lt (List.getElem?_eq_some_iff.1 hz).1) (h i z hz hk)
  · exact lift _ _ (Nat.le_refl _) (hx hk)
theorem LastAsk.app {l : List Ev} {e v : ByteArray} {p : Int × Int} {x : Ev} (h : LastAsk l e v p) (hx : x.e ≠ e) : LastAsk (l ++ [x]) e v p := by
  obtain ⟨j, y, h1, h2, h3, h4⟩ := h
  refine ⟨j, y, get_app_lt h1, h2, fun m z hm hz => ?_, h4⟩
  rcases get_app_inv hz with hz | ⟨_, rfl⟩
  · exact h3 m z hm hz
  · exact hx
theorem LastAsk.new (l : List Ev) (e u : ByteArray) (p : Int × Int) : LastAsk (l ++ [⟨9, e, p, u⟩]) e u p := by
  refine ⟨l.length, ⟨9, e, p, u⟩, by simp, rfl, fun m z hm hz => ?_, rfl, rfl, rfl⟩
  have := (List.getElem?_eq_some_iff.1 hz).1
  simp at this
  omega
theorem LastAsk.two {l : List Ev} {e v u : ByteArray} {p : Int × Int} (h : LastAsk l e v p) (hu : v ≠ u) : TwoAt l l.length ⟨10, e, p, u⟩ := by
  obtain ⟨j, y, h1, h2, h3, h4, h5, h6⟩ := h
  exact ⟨j, y, (List.getElem?_eq_some_iff.1 h1).1, h1, h2, fun m z hm _ hz => h3 m z hm hz, h4, by rw [h5]; exact hu, h6⟩
theorem TwoInv.del {a : Lk} (h : TwoInv a) {e : ByteArray} {p0 q : Int × Int} (hp : aget a.op e = some p0) {x : Ev} (hx : x.e = e) (hk : x.k = 10 → TwoAt a.ev a.ev.length x) : TwoInv { a with op := aset a.op e q, ak := adel a.ak e, ev := a.ev ++ [x] } := by
  refine ⟨h.ok.app hk, h.nd.sublist adel_sub, fun e2 v hv => ?_⟩
  simp only at hv ⊢
  rw [aget_del h.nd] at hv
  by_cases he : e2 = e
  · rw [if_pos he] at hv; cases hv
  · rw [if_neg he] at hv
    obtain ⟨p1, h1, h2⟩ := h.la e2 v hv
    exact ⟨p1, by rw [aget_set, if_neg he]; exact h1, h2.app (by rw [hx]; exact fun q => he q.symm)⟩
theorem TwoInv.close {a : Lk} (h : TwoInv a) (e u : ByteArray) : TwoInv (closeK a e u).1 := by
  unfold closeK
  split
  · exact h
  · rename_i h0
    split
    · exact h
    · obtain ⟨hg, _⟩ := beginK_zero (Classical.not_not.1 h0)
      exact h.del hg rfl (fun hk => by simp at hk)
theorem TwoInv.ask {a : Lk} (h : TwoInv a) (e u : ByteArray) : TwoInv (askK a e u).1 := by
  unfold askK
  split
  · exact h
  · rename_i h0
    split
    · exact h
    · split
      · exact h
      · obtain ⟨hg, _⟩ := beginK_zero (Classical.not_not.1 h0)
        refine ⟨h.ok.app (fun hk => by simp at hk), aset_nodup h.nd, fun e2 v hv => ?_⟩
        simp only at hv ⊢
        rw [aget_set] at hv
        by_cases he : e2 = e
        · rw [if_pos he] at hv
          obtain rfl := Option.some.inj hv
          subst he
          exact ⟨_, hg, LastAsk.new ..⟩
        · rw [if_neg he] at hv
          obtain ⟨p1, h1, h2⟩ := h.la e2 v hv
          exact ⟨p1, h1, h2.app fun q => he q.symm⟩
theorem TwoInv.reopen {a : Lk} (h : TwoInv a) (e u : ByteArray) : TwoInv (reopenK a e u).1 := by
  unfold reopenK
  split
  · exact h
  · rename_i h0
    obtain ⟨hg, _⟩ := beginK_zero (Classical.not_not.1 h0)
    split
    · exact h
    · rename_i v hv
      split
      · exact h
      · rename_i hvu
        split
        · exact h
        · obtain ⟨p1, h1, h2⟩ := h.la e v hv
          rw [hg] at h1
          obtain rfl := Option.some.inj h1
          exact h.del hg rfl (fun _ => h2.two hvu)
theorem TwoInv.act {a : Lk} (h : TwoInv a) (o : Op) : TwoInv (actK a o).1 := by
  unfold actK
  split
  · exact h.close _ _
  · split
    · exact h.ask _ _
    · exact h.reopen _ _
theorem TwoInv.new (c : Int) (p : Int × Int) (l : List ByteArray) : TwoInv (newLk c p l) := ⟨fun i x hx => by simp [newLk] at hx, List.nodup_nil, fun e v hv => by simp [newLk, aget, aidx] at hv⟩
end Go.Proofs.YthgmhlpjbednpaaDoor.Vm
set_option linter.unusedVariables false
set_option linter.unusedSimpArgs false
namespace Go.Proofs.YthgmhlpjbednpaaDoor.Vm
open Go Go.Proofs
def opR (b : RLk) (e : ByteArray) : Option (Int × Int) := (idxR b.nm e).map fun i => b.fs.getD i (0, 0)
def akR (b : RLk) (e : ByteArray) : Option ByteArray := (idxR b.nm e).bind fun i => if b.ak.getD i ⟨#[]⟩ = ⟨#[]⟩ then none else some (b.ak.getD i ⟨#[]⟩)
structure KRel (a : Lk) (b : RLk) : Prop where
  c : a.c = b.c
  s : a.s = b.s
  ev : a.ev = b.ev
  op : ∀ e, aget a.op e = opR b e
  ak : ∀ e, aget a.ak e = akR b e
  nd : (a.ak.map (·.1)).Nodup
  lf : b.fs.length = b.nm.length
  la : b.ak.length = b.nm.length
  asked : ∀ e v, aget a.ak e = some v → ∃ p, aget a.op e = some p ∧ p ≠ a.s ∧ (prevP a.c p.1 p.2).2 = 0
theorem KRel.first {a : Lk} {b : RLk} (h : KRel a b) (e : ByteArray) : firstK a e = firstR b e := by
  unfold firstK firstR
  rw [h.op e]
  unfold opR
  cases idxR b.nm e <;> rfl
theorem KRel.begin {a : Lk} {b : RLk} (h : KRel a b) (e u : ByteArray) : (beginK a e u).2 = whoR b e u ∧ (whoR b e u = 0 → ∃ i, idxR b.nm e = some i ∧ (beginK a e u).1 = b.fs.getD i (0, 0) ∧ codeS u = true) := by
  unfold beginK whoR
  rw [h.first e]
  unfold firstR
  cases hi : idxR b.nm e with
  | none => simp
  | some i =>
    cases hu : codeS u with
    | true => simp
    | false => simp
theorem codeS_ne {u : ByteArray} (h : codeS u = true) : u ≠ ⟨#[]⟩ := by
  intro q
  subst q
  simp only [codeS, Bool.and_eq_true, decide_eq_true_eq] at h
  exact absurd h.1.1 (by decide)
theorem idx_ne {l : List ByteArray} {e e2 : ByteArray} {i j : Nat} (hi : idxR l e = some i) (hj : idxR l e2 = some j) (hne : e2 ≠ e) : i ≠ j := by
  intro q
  subst q
  have h1 := idxR_get hi
  have h2 := idxR_get hj
  rw [h1] at h2
  exact hne (Option.some.inj h2).symm
theorem getD_set {α : Type} (l : List α) (i j : Nat) (v d : α) (hi : i < l.length) : (l.set i v).getD j d = if i = j then v else l.getD j d := by
  rw [List.getD_eq_getElem?_getD, List.getElem?_set, List.getD_eq_getElem?_getD]
  split
  · rename_i h; subst h; simp [hi]
  · rfl
theorem KRel.set {a : Lk} {b : RLk} (h : KRel a b) {e : ByteArray} {i : Nat} (hi : idxR b.nm e = some i) (q : Int × Int) (x : Ev) :
    KRel { a with op := aset a.op e q, ak := adel a.ak e, ev := a.ev ++ [x] } { b with ev := b.ev ++ [x], fs := b.fs.set i q, ak := b.ak.set i ⟨#[]⟩ } := by
  have hil : i < b.nm.length := (List.getElem?_eq_some_iff.1 (idxR_get hi)).1
  refine ⟨h.c, h.s, by simp [h.ev], fun e2 => ?_, fun e2 => ?_, h.nd.sublist adel_sub, by simp [h.lf], by simp [h.la], fun e2 v hv => ?_⟩
  · simp only [opR]
    rw [aget_set]
    by_cases he : e2 = e
    · subst he; rw [if_pos rfl, hi, Option.map_some, getD_set _ _ _ _ _ (by rw [h.lf]; exact hil), if_pos rfl]
    · rw [if_neg he, h.op e2]
      unfold opR
      cases hj : idxR b.nm e2 with
      | none => rfl
      | some j => rw [Option.map_some, Option.map_some, getD_set _ _ _ _ _ (by rw [h.lf]; exact hil), if_neg (idx_ne hi hj he)]
  · simp only [akR]
    rw [aget_del h.nd]
    by_cases he : e2 = e
    · subst he; rw [if_pos rfl, hi, Option.bind_some, getD_set _ _ _ _ _ (by rw [h.la]; exact hil), if_pos rfl, if_pos rfl]
    · rw [if_neg he, h.ak e2]
      unfold akR
      cases hj : idxR b.nm e2 with
      | none => rfl
      | some j => rw [Option.bind_some, Option.bind_some, getD_set _ _ _ _ _ (by rw [h.la]; exact hil), if_neg (idx_ne hi hj he)]
  · simp only at hv ⊢
    rw [aget_del h.nd] at hv
    by_cases he : e2 = e
    · rw [if_pos he] at hv; cases hv
    · rw [if_neg he] at hv
      obtain ⟨p, h1, h2⟩ := h.asked e2 v hv
      exact ⟨p, by rw [aget_set, if_neg he]; exact h1, h2⟩
theorem KRel.close {a : Lk} {b : RLk} (h : KRel a b) (e u : ByteArray) : (closeK a e u).2 = (closeR b e u).2 ∧ KRel (closeK a e u).1 (closeR b e u).1 := by
  obtain ⟨h1, h2⟩ := h.begin e u
  unfold closeK closeR
  rw [h1]
  by_cases h0 : whoR b e u = 0
  · obtain ⟨i, hi, hp, _⟩ := h2 h0
    have h0' : ¬ (whoR b e u ≠ 0) := by simp [h0]
    rw [if_neg h0', if_neg h0', hi, hp, h.c]
    dsimp only
    by_cases hq : (nextP b.c (b.fs.getD i (0, 0)).1 (b.fs.getD i (0, 0)).2).2 ≠ 0
    · rw [if_pos hq, if_pos hq]; exact ⟨rfl, h⟩
    · rw [if_neg hq, if_neg hq]
      refine ⟨rfl, ?_⟩
      have := h.set hi (nextP b.c (b.fs.getD i (0, 0)).1 (b.fs.getD i (0, 0)).2).1 ⟨8, e, b.fs.getD i (0, 0), u⟩
      rw [h.c] at this
      exact this
  · rw [if_pos h0, if_pos h0]; exact ⟨rfl, h⟩
theorem KRel.ask {a : Lk} {b : RLk} (h : KRel a b) (e u : ByteArray) : (askK a e u).2 = (askR b e u).2 ∧ KRel (askK a e u).1 (askR b e u).1 := by
  obtain ⟨h1, h2⟩ := h.begin e u
  unfold askK askR
  rw [h1]
  by_cases h0 : whoR b e u = 0
  · obtain ⟨i, hi, hp, hu⟩ := h2 h0
    have hil : i < b.nm.length := (List.getElem?_eq_some_iff.1 (idxR_get hi)).1
    have h0' : ¬ (whoR b e u ≠ 0) := by simp [h0]
    rw [if_neg h0', if_neg h0', hi, hp, h.c, h.s]
    dsimp only
    unfold lastR
    by_cases hs : b.fs.getD i (0, 0) = b.s
    · simp only [if_pos hs]; exact ⟨rfl, h⟩
    · simp only [if_neg hs]
      by_cases hq : (prevP b.c (b.fs.getD i (0, 0)).1 (b.fs.getD i (0, 0)).2).2 = 0
      · have hq1 : ¬ ((prevP b.c (b.fs.getD i (0, 0)).1 (b.fs.getD i (0, 0)).2).2 ≠ 0) := fun z => z hq
        have hq2 : ¬ (decide ((prevP b.c (b.fs.getD i (0, 0)).1 (b.fs.getD i (0, 0)).2).2 = 0) = false) := by rw [decide_eq_true hq]; decide
        rw [if_neg hq1, if_neg hq2]
        refine ⟨rfl, ⟨by first | rfl | exact h.c, by first | rfl | exact h.s, by simp [h.ev], fun e2 => ?_, fun e2 => ?_, aset_nodup h.nd, h.lf, by simp [h.la], fun e2 v hv => ?_⟩⟩
        · exact h.op e2
        · simp only [akR]
          rw [aget_set]
          by_cases he : e2 = e
          · subst he; rw [if_pos rfl, hi, Option.bind_some, getD_set _ _ _ _ _ (by rw [h.la]; exact hil), if_pos rfl, if_neg (codeS_ne hu)]
          · rw [if_neg he, h.ak e2]
            unfold akR
            cases hj : idxR b.nm e2 with
            | none => rfl
            | some j => rw [Option.bind_some, Option.bind_some, getD_set _ _ _ _ _ (by rw [h.la]; exact hil), if_neg (idx_ne hi hj he)]
        · simp only at hv ⊢
          rw [aget_set] at hv
          by_cases he : e2 = e
          · subst he
            refine ⟨b.fs.getD i (0, 0), ?_, hs, hq⟩
            rw [h.op e2]; unfold opR; rw [hi]; rfl
          · rw [if_neg he] at hv
            obtain ⟨p, q1, q2, q3⟩ := h.asked e2 v hv
            exact ⟨p, q1, by rw [← h.s]; exact q2, by rw [← h.c]; exact q3⟩
      · have hq2 : decide ((prevP b.c (b.fs.getD i (0, 0)).1 (b.fs.getD i (0, 0)).2).2 = 0) = false := decide_eq_false hq
        rw [if_pos hq, if_pos hq2]; exact ⟨rfl, h⟩
  · rw [if_pos h0, if_pos h0]; exact ⟨rfl, h⟩
theorem KRel.reopen {a : Lk} {b : RLk} (h : KRel a b) (e u : ByteArray) : (reopenK a e u).2 = (reopenR b e u).2 ∧ KRel (reopenK a e u).1 (reopenR b e u).1 := by
  obtain ⟨h1, h2⟩ := h.begin e u
  unfold reopenK reopenR
  rw [h1]
  by_cases h0 : whoR b e u = 0
  · obtain ⟨i, hi, hp, hu⟩ := h2 h0
    have h0' : ¬ (whoR b e u ≠ 0) := by simp [h0]
    rw [if_neg h0', if_neg h0', hi, hp]
    dsimp only
    have hak := h.ak e
    unfold akR at hak
    rw [hi, Option.bind_some] at hak
    by_cases hv : b.ak.getD i ⟨#[]⟩ = ⟨#[]⟩
    · rw [if_pos hv] at hak
      rw [hak, if_pos hv]; exact ⟨rfl, h⟩
    · rw [if_neg hv] at hak
      rw [hak, if_neg hv]
      dsimp only
      by_cases hvu : b.ak.getD i ⟨#[]⟩ = u
      · rw [if_pos hvu, if_pos hvu]; exact ⟨rfl, h⟩
      · rw [if_neg hvu, if_neg hvu]
        obtain ⟨p, q1, q2, q3⟩ := h.asked e _ hak
        have hpp : p = b.fs.getD i (0, 0) := by
          rw [h.op e] at q1; unfold opR at q1; rw [hi] at q1; exact (Option.some.inj q1).symm
        subst hpp
        have q3' : ¬ ((prevP a.c (b.fs.getD i (0, 0)).1 (b.fs.getD i (0, 0)).2).2 ≠ 0) := fun z => z q3
        rw [if_neg q3']
        have hl : (lastR b i).1 = (prevP a.c (b.fs.getD i (0, 0)).1 (b.fs.getD i (0, 0)).2).1 := by
          unfold lastR; rw [if_neg (by rw [← h.s]; exact q2), h.c]
        rw [hl]
        exact ⟨rfl, h.set hi _ _⟩
  · rw [if_pos h0, if_pos h0]; exact ⟨rfl, h⟩
theorem KRel.act {a : Lk} {b : RLk} (h : KRel a b) (o : Op) : (actK a o).2 = (wantK b o).2 ∧ KRel (actK a o).1 (wantK b o).1 := by
  unfold actK wantK
  split
  · exact h.close _ _
  · split
    · exact h.ask _ _
    · exact h.reopen _ _
theorem KRel.state {a : Lk} {b : RLk} (h : KRel a b) (e : ByteArray) (p : Int × Int) : stateK a e p = stateR b e p := by
  unfold stateK stateR; rw [h.first e, h.c]
end Go.Proofs.YthgmhlpjbednpaaDoor.Vm
set_option maxRecDepth 10000
set_option linter.unusedVariables false
set_option linter.unusedSimpArgs false
namespace Go.Proofs.YthgmhlpjbednpaaDoor.Vm
open Go Go.Proofs
theorem upd_o {st : St} {i j : Nat} {o : Option Ob} (h : j ≠ i) : upd st i o j = st j := if_neg h
theorem upd_s {st : St} {i : Nat} {o : Option Ob} : upd st i o i = o := if_pos rfl
def rnewLk (c : Int) (p : Int × Int) (l : List ByteArray) : RLk := ⟨c, p, l, l.map fun _ => p, l.map fun _ => ⟨#[]⟩, []⟩
def RNewR (c : Int) (p : Int × Int) (l : List ByteArray) (st : St) (nx : Nat) (r : HR) : Prop :=
  (newErr c p l ≠ 0 ∧ ∃ st' nx', r = .ret (.tup [.sc (.pointer none), .i64 (newErr c p l)]) st' nx' ∧ nx ≤ nx' ∧ ∀ i, i < nx → st' i = st i) ∨
  (newErr c p l = 0 ∧ ∃ k st' nx', r = .ret (.tup [.ptr k 0, .i64 0]) st' nx' ∧ nx ≤ nx' ∧ RLK k (rnewLk c p l) (fun i => nx ≤ i ∧ i < nx') st' ∧ ∀ i, i < nx → st' i = st i)
theorem spanS_16 {c y n : Int} (h : rightC c = true) (h2 : (spanS c y n).2.2 ≠ 0) : (spanS c y n).2.2 = 16 := by
  unfold spanS at h2 ⊢
  rw [if_neg (by simp [h])] at h2 ⊢
  by_cases hx : exS c y n = false
  · rw [if_pos hx]
  · rw [if_neg hx] at h2
    split at h2 <;> exact absurd rfl h2
theorem spanS_2 {c y n : Int} (h : rightC c = false) : (spanS c y n).2.2 = 2 := by unfold spanS; rw [if_pos h]
end Go.Proofs.YthgmhlpjbednpaaDoor.Vm
set_option maxRecDepth 10000
set_option linter.unusedVariables false
set_option linter.unusedSimpArgs false
namespace Go.Proofs.YthgmhlpjbednpaaDoor.Vm
open Go Go.Proofs
theorem self_add (a b : Nat) : (a = a + b) = (b = 0) := by simp
end Go.Proofs.YthgmhlpjbednpaaDoor.Vm
set_option maxRecDepth 10000
set_option linter.unusedVariables false
set_option linter.unusedSimpArgs false
namespace Go.Proofs.YthgmhlpjbednpaaDoor.Vm
open Go Go.Proofs
theorem upd_x {st : St} {i j : Nat} {a b : Option Ob} (h : j ≠ i := by omega) : upd (upd st i a) j b i = a := (upd_o (Ne.symm h)).trans upd_s
theorem add_self' (a b : Nat) : (a + b = a) = (b = 0) := by simp
set_option maxHeartbeats 2000000 in
theorem new1_ok (c : Int) (p : Int × Int) (s : ByteArray) (hcs : codeS s = true) (st : St) (nx id : Nat) (hid : id < nx) (hr : st id = some (.row 9 1 1 [.str s])) :
    W (L.hp 10 [.agg [.i64 c], .agg [.i64 p.1, .i64 p.2], .sl 9 false 1 id 0 1] st nx) (NewR c p [s] st nx) := by
  refine hp_r k10_eq ?_
  simp only [k10]
  have hsp := span_ok c p.1 p.2
  have herr := spanS_err c p.1 p.2
  have hE : newErr c p [s] = (spanS c p.1 p.2).2.2 := by
    unfold newErr newE newE
    by_cases h : (spanS c p.1 p.2).2.2 = 0
    · rw [if_neg (by simp [h]), h, if_neg (by simp), hcs]; rfl
    · rw [if_pos h]
  unfold NewR
  rw [hE]
  generalize spanS c p.1 p.2 = q at hsp herr
  obtain ⟨s1, s2, s3⟩ := q
  simp only at herr
  have f1 : (nx = nx + 8) = False := eq_false (by omega)
  by_cases h0 : s3 = 0
  · subst h0
    have hw1 : IntKind.i64.wrap 1 = 1 := rfl
    have g2 : decide ((200 : Int) < 1) = false := rfl
    have i1 : ∀ j, (id = nx + j) = False := fun j => eq_false (by omega)
    have i2 : ∀ j, (nx + j = id) = False := fun j => eq_false (by omega)
    have i3 : (id = nx) = False := eq_false (by omega)
    have i4 : (nx = id) = False := eq_false (by omega)
    repeat' (first | (simp -implicitDefEqProofs only [ze, zd, zr, simprocAttr, LR_pl, LR_hp, LR_hm, cunr_n, cunr_x, cunr_r, cunr_p, List.any_cons, List.any_nil, List.flatten_cons, List.flatten_nil, List.replicate_succ, List.replicate_zero, Bool.or_false, Bool.false_or, List.flatMap_cons, List.flatMap_nil, hsp, f1, g2, hr, i1, i2, i3, i4, ne_eq, not_true_eq_false, gt_iff_lt]) | (with_reducible refine wgd_cases ?_ ?_ <;> intro hb) | (with_reducible refine wcond_cases ?_ ?_ <;> intro hb) | (with_reducible refine W_itn_cases ?_ ?_; omega))
    refine loop_u k10_l0.eq_1 ?_
    have zz : ∀ j k, (nx + j = nx + k) = (j = k) := fun j k => by simp
    repeat' (first | (simp -implicitDefEqProofs only [ze, zd, zr, simprocAttr, LR_pl, LR_hp, LR_hm, cunr_n, cunr_x, cunr_r, cunr_p, List.any_cons, List.any_nil, List.flatten_cons, List.flatten_nil, List.replicate_succ, List.replicate_zero, Bool.or_false, Bool.false_or, List.flatMap_cons, List.flatMap_nil, hsp, f1, g2, hr, i1, i2, i3, i4, hw1, self_add, add_self', cunr_n, cunr_x, cunr_r, cunr_p, mfind, code_ok, hcs, Option.bind_some, ne_eq, not_true_eq_false, gt_iff_lt]) | (with_reducible refine wgd_cases ?_ ?_ <;> intro hb) | (with_reducible refine wcond_cases ?_ ?_ <;> intro hb) | (with_reducible refine W_itn_cases ?_ ?_; omega))
    refine qd_i (by simp [recsOk, ordB, Rec.free, Rec.wr, disj, List.range, List.range.loop, i1, i2, i3, i4, self_add, add_self']; try (repeat' (first | apply And.intro | decide | omega | (left; decide) | (right; omega)))) ?_
    repeat' (first | (simp -implicitDefEqProofs only [ze, zd, zr, simprocAttr, LR_pl, LR_hp, LR_hm, cunr_n, cunr_x, cunr_r, cunr_p, List.any_cons, List.any_nil, List.flatten_cons, List.flatten_nil, List.replicate_succ, List.replicate_zero, Bool.or_false, Bool.false_or, List.flatMap_cons, List.flatMap_nil, hsp, f1, g2, hr, i1, i2, i3, i4, hw1, self_add, add_self', cunr_n, cunr_x, cunr_r, cunr_p, mfind, code_ok, hcs, Option.bind_some, ne_eq, not_true_eq_false, gt_iff_lt]) | (with_reducible refine wgd_cases ?_ ?_ <;> intro hb) | (with_reducible refine wcond_cases ?_ ?_ <;> intro hb) | (with_reducible refine W_itn_cases ?_ ?_; omega))
    refine loop_u k10_l0.eq_1 ?_
    repeat' (first | (simp -implicitDefEqProofs only [ze, zd, zr, simprocAttr, LR_pl, LR_hp, LR_hm, cunr_n, cunr_x, cunr_r, cunr_p, List.any_cons, List.any_nil, List.flatten_cons, List.flatten_nil, List.replicate_succ, List.replicate_zero, Bool.or_false, Bool.false_or, List.flatMap_cons, List.flatMap_nil, hsp, f1, g2, hr, i1, i2, i3, i4, hw1, self_add, add_self', cunr_n, cunr_x, cunr_r, cunr_p, mfind, code_ok, hcs, Option.bind_some, ne_eq, not_true_eq_false, gt_iff_lt, k10_t0]) | (with_reducible refine wgd_cases ?_ ?_ <;> intro hb) | (with_reducible refine wcond_cases ?_ ?_ <;> intro hb) | (with_reducible refine W_itn_cases ?_ ?_; omega))
    refine W_hp (sort_ok (S := fun i => i = nx + 504) (l := [s]) (.inr ⟨Nat.one_pos, nx + 504, rfl, rfl, upd_x⟩) (by simp)) ?_
    rintro _ ⟨st2, rfl, hr2, hs2⟩
    have ss : ∀ j, j ≠ nx + 504 → st2 j = _ := fun j hj => hs2 j fun id hv he => by cases hv; exact hj he
    repeat' (first | (simp -implicitDefEqProofs only [ze, zd, zr, simprocAttr, LR_pl, LR_hp, LR_hm, cunr_n, cunr_x, cunr_r, cunr_p, List.any_cons, List.any_nil, List.flatten_cons, List.flatten_nil, List.replicate_succ, List.replicate_zero, Bool.or_false, Bool.false_or, List.flatMap_cons, List.flatMap_nil]) | (with_reducible refine wgd_cases ?_ ?_ <;> intro hb) | (with_reducible refine wcond_cases ?_ ?_ <;> intro hb) | (with_reducible refine W_itn_cases ?_ ?_; omega))
    refine .inr ⟨nx + 192, st2, nx + 624, rfl, by omega, ⟨nx + 168, nx + 176, .sl 9 false 1 (nx + 504) 0 1, .list 0 [] 1, ?_, ?_, ⟨true, ?_⟩, ?_, .inl ⟨rfl, rfl, rfl⟩, ⟨by omega, by omega⟩, ⟨by omega, by omega⟩, ⟨by omega, by omega⟩, by omega⟩, fun j hj => ?_⟩
    · rw [ss _ (by omega)]
      exact upd_s
    · rw [ss _ (by omega)]
      repeat (refine (upd_o (by omega)).trans ?_)
      exact upd_s
    · rw [ss _ (by omega)]
      repeat (refine (upd_o (by omega)).trans ?_)
      exact upd_s
    · exact hr2.mono (fun i hi => ⟨by rw [hi]; omega, by rw [hi]; omega⟩) (fun _ _ => rfl)
    · rw [ss _ (by omega)]
      repeat (refine (if_neg (by omega)).trans ?_)
      rfl
  · have g0 : decide (s3 = 0) = false := decide_eq_false h0
    repeat' (first | (simp -implicitDefEqProofs only [ze, zd, zr, simprocAttr, LR_pl, LR_hp, LR_hm, cunr_n, cunr_x, cunr_r, cunr_p, List.any_cons, List.any_nil, List.flatten_cons, List.flatten_nil, List.replicate_succ, List.replicate_zero, Bool.or_false, Bool.false_or, List.flatMap_cons, List.flatMap_nil, hsp, f1, g0, ne_eq, not_true_eq_false]) | (with_reducible refine wgd_cases ?_ ?_ <;> intro hb) | (with_reducible refine wcond_cases ?_ ?_ <;> intro hb) | (with_reducible refine W_itn_cases ?_ ?_; omega))
    refine .inl ⟨h0, _, _, rfl, by omega, fun i hi => ?_⟩
    simp (disch := omega) only [upds, upd, List.foldl_cons, List.foldl_nil, if_neg]
set_option maxHeartbeats 2000000 in
theorem rnew1_ok (c : Int) (p : Int × Int) (s : ByteArray) (hcs : codeS s = true) (hsz : s.size < 4611686018427387904) (st : St) (nx id : Nat) (hid : id < nx) (hr : st id = some (.row 9 1 1 [.str s])) :
    W (L.hp 11 [.agg [.i64 c], .agg [.i64 p.1, .i64 p.2], .sl 9 false 1 id 0 1] st nx) (RNewR c p [s] st nx) := by
  refine hp_r k11_eq ?_
  simp only [k11]
  have hri := rright_ok c
  have hsp := rspan_ok c p.1 p.2
  have hE : newErr c p [s] = (spanS c p.1 p.2).2.2 := by
    unfold newErr newE newE
    by_cases h : (spanS c p.1 p.2).2.2 = 0
    · rw [if_neg (by simp [h]), h, if_neg (by simp), hcs]; rfl
    · rw [if_pos h]
  unfold RNewR
  have f1 : (nx = nx + 8) = False := eq_false (by omega)
  cases hrc : rightC c with
  | false =>
    have e2 := spanS_2 (y := p.1) (n := p.2) hrc
    have : newErr c p [s] = 2 := by rw [hE, e2]
    rw [this]
    rw [hrc] at hri
    repeat' (first | (simp -implicitDefEqProofs only [ze, zd, zr, simprocAttr, LR_pl, LR_hp, LR_hm, cunr_n, cunr_x, cunr_r, cunr_p, List.any_cons, List.any_nil, List.flatten_cons, List.flatten_nil, List.replicate_succ, List.replicate_zero, Bool.or_false, Bool.false_or, List.flatMap_cons, List.flatMap_nil, hri, f1, ne_eq, not_true_eq_false]) | (with_reducible refine wgd_cases ?_ ?_ <;> intro hb) | (with_reducible refine wcond_cases ?_ ?_ <;> intro hb) | (with_reducible refine W_itn_cases ?_ ?_; omega))
    refine .inl ⟨by decide, _, _, rfl, by omega, fun i hi => ?_⟩
    simp (disch := omega) only [upds, upd, List.foldl_cons, List.foldl_nil, if_neg]
  | true =>
    rw [hrc] at hri
    have e16 := spanS_16 (y := p.1) (n := p.2) hrc
    rw [hE]
    generalize spanS c p.1 p.2 = q at hsp e16
    obtain ⟨s1, s2, s3⟩ := q
    simp only at e16
    by_cases h0 : s3 = 0
    · subst h0
      have hw1 : IntKind.i64.wrap 1 = 1 := rfl
      have g2 : decide ((200 : Int) < 1) = false := rfl
      have i1 : ∀ j, (id = nx + j) = False := fun j => eq_false (by omega)
      have i2 : ∀ j, (nx + j = id) = False := fun j => eq_false (by omega)
      have i3 : (id = nx) = False := eq_false (by omega)
      have i4 : (nx = id) = False := eq_false (by omega)
      have hcd := rcode_ok s hsz
      rw [hcs] at hcd
      repeat' (first | (simp -implicitDefEqProofs only [ze, zd, zr, simprocAttr, LR_pl, LR_hp, LR_hm, cunr_n, cunr_x, cunr_r, cunr_p, List.any_cons, List.any_nil, List.flatten_cons, List.flatten_nil, List.replicate_succ, List.replicate_zero, Bool.or_false, Bool.false_or, List.flatMap_cons, List.flatMap_nil, hri, hsp, f1, g2, hr, i1, i2, i3, i4, ne_eq, not_true_eq_false, gt_iff_lt]) | (with_reducible refine wgd_cases ?_ ?_ <;> intro hb) | (with_reducible refine wcond_cases ?_ ?_ <;> intro hb) | (with_reducible refine W_itn_cases ?_ ?_; omega))
      refine loop_u k11_l0.eq_1 ?_
      repeat' (first | (simp -implicitDefEqProofs only [ze, zd, zr, simprocAttr, LR_pl, LR_hp, LR_hm, cunr_n, cunr_x, cunr_r, cunr_p, List.any_cons, List.any_nil, List.flatten_cons, List.flatten_nil, List.replicate_succ, List.replicate_zero, Bool.or_false, Bool.false_or, List.flatMap_cons, List.flatMap_nil, hri, hsp, f1, g2, hr, i1, i2, i3, i4, hw1, self_add, add_self', cunr_n, cunr_x, cunr_r, cunr_p, hcd, Option.bind_some, ne_eq, not_true_eq_false, gt_iff_lt]) | (with_reducible refine wgd_cases ?_ ?_ <;> intro hb) | (with_reducible refine wcond_cases ?_ ?_ <;> intro hb) | (with_reducible refine W_itn_cases ?_ ?_; omega))
      refine W_hp (rat_ok (a := rnewLk c p []) (S := fun i => nx ≤ i ∧ i < nx + 360) ⟨_, _, _, _, upd_s, .inl ⟨rfl, rfl, rfl, rfl⟩, .inl ⟨rfl, rfl, rfl⟩, ⟨by omega, by omega⟩, rfl, rfl⟩ (by simp [rnewLk]) s) ?_
      rintro _ ⟨st2, nx2, rfl, hn2, hs2⟩
      have hz : atZ (rnewLk c p []).nm s = -1 := rfl
      rw [hz]
      have q8 : st2 (nx + 8) = some (.cells [.i64 p.1, .i64 p.2]) := by
        rw [hs2 _ (by omega)]
        exact (upd_o (by omega)).trans upd_s
      have hk2 : st2 (nx + 200) = some (.cells [.i64 c, .i64 p.1, .i64 p.2, .list 0 [] 1, .list 0 [] 1, .list 0 [] 1, .list 0 [] 1]) := by rw [hs2 _ (by omega)]; exact upd_s
      have hr2 : st2 id = some (.row 9 1 1 [.str s]) := by
        rw [hs2 _ (by omega)]
        repeat (refine (upd_o (by omega)).trans ?_)
        exact hr
      have f1 : ∀ j, (nx + 200 = nx2 + j) = False := fun j => eq_false (by omega)
      have f2 : ∀ j, (nx2 + j = nx + 200) = False := fun j => eq_false (by omega)
      have f3 : ∀ j, (nx + 8 = nx2 + j) = False := fun j => eq_false (by omega)
      have f4 : ∀ j, (nx2 + j = nx + 8) = False := fun j => eq_false (by omega)
      have f5 : ∀ j, (nx = nx2 + j) = False := fun j => eq_false (by omega)
      have f6 : ∀ j, (nx2 + j = nx) = False := fun j => eq_false (by omega)
      have f7 : (nx + 8 = nx + 200) = False := eq_false (by omega)
      have f8 : (nx + 200 = nx + 8) = False := eq_false (by omega)
      have i5 : ∀ j, (id = nx2 + j) = False := fun j => eq_false (by omega)
      have i6 : ∀ j, (nx2 + j = id) = False := fun j => eq_false (by omega)
      have i7 : (id = nx2) = False := eq_false (by omega)
      have gj : decide ((0 : Int) ≤ -1) = false := rfl
      have hwz : IntKind.i64.wrap (0 + 1) = 1 := rfl
      repeat' (first | (simp -implicitDefEqProofs only [ze, zd, zr, simprocAttr, LR_pl, LR_hp, LR_hm, cunr_n, cunr_x, cunr_r, cunr_p, List.any_cons, List.any_nil, List.flatten_cons, List.flatten_nil, List.replicate_succ, List.replicate_zero, Bool.or_false, Bool.false_or, List.flatMap_cons, List.flatMap_nil, gj, hr2, hk2, q8, hw1, hwz, f1, f2, f3, f4, f5, f6, f7, f8, i1, i2, i3, i4, i5, i6, i7, self_add, add_self', cunr_n, cunr_x, cunr_r, cunr_p, ne_eq, not_true_eq_false]) | (with_reducible refine wgd_cases ?_ ?_ <;> intro hb) | (with_reducible refine wcond_cases ?_ ?_ <;> intro hb) | (with_reducible refine W_itn_cases ?_ ?_; omega))
      refine qd_i (by simp [recsOk, ordB, Rec.free, Rec.wr, disj, List.range, List.range.loop, f1, f2, f3, f4, f5, f6, f7, f8, i1, i2, i3, i4, i5, i6, i7, self_add, add_self']; try (repeat' (first | apply And.intro | decide | omega | (left; decide) | (right; omega)))) ?_
      repeat' (first | (simp -implicitDefEqProofs only [ze, zd, zr, simprocAttr, LR_pl, LR_hp, LR_hm, cunr_n, cunr_x, cunr_r, cunr_p, List.any_cons, List.any_nil, List.flatten_cons, List.flatten_nil, List.replicate_succ, List.replicate_zero, Bool.or_false, Bool.false_or, List.flatMap_cons, List.flatMap_nil, gj, hr2, hk2, q8, hw1, hwz, f1, f2, f3, f4, f5, f6, f7, f8, i1, i2, i3, i4, i5, i6, i7, self_add, add_self', cunr_n, cunr_x, cunr_r, cunr_p, ne_eq, not_true_eq_false]) | (with_reducible refine wgd_cases ?_ ?_ <;> intro hb) | (with_reducible refine wcond_cases ?_ ?_ <;> intro hb) | (with_reducible refine W_itn_cases ?_ ?_; omega))
      refine qd_i (by simp [recsOk, ordB, Rec.free, Rec.wr, disj, List.range, List.range.loop, f1, f2, f3, f4, f5, f6, f7, f8, i1, i2, i3, i4, i5, i6, i7, self_add, add_self']; try (repeat' (first | apply And.intro | decide | omega | (left; decide) | (right; omega)))) ?_
      repeat' (first | (simp -implicitDefEqProofs only [ze, zd, zr, simprocAttr, LR_pl, LR_hp, LR_hm, cunr_n, cunr_x, cunr_r, cunr_p, List.any_cons, List.any_nil, List.flatten_cons, List.flatten_nil, List.replicate_succ, List.replicate_zero, Bool.or_false, Bool.false_or, List.flatMap_cons, List.flatMap_nil, gj, hr2, hk2, q8, hw1, hwz, f1, f2, f3, f4, f5, f6, f7, f8, i1, i2, i3, i4, i5, i6, i7, self_add, add_self', cunr_n, cunr_x, cunr_r, cunr_p, ne_eq, not_true_eq_false]) | (with_reducible refine wgd_cases ?_ ?_ <;> intro hb) | (with_reducible refine wcond_cases ?_ ?_ <;> intro hb) | (with_reducible refine W_itn_cases ?_ ?_; omega))
      refine loop_u k11_l0.eq_1 ?_
      repeat' (first | (simp -implicitDefEqProofs only [ze, zd, zr, simprocAttr, LR_pl, LR_hp, LR_hm, cunr_n, cunr_x, cunr_r, cunr_p, List.any_cons, List.any_nil, List.flatten_cons, List.flatten_nil, List.replicate_succ, List.replicate_zero, Bool.or_false, Bool.false_or, List.flatMap_cons, List.flatMap_nil, gj, hr2, hk2, q8, hw1, hwz, f1, f2, f3, f4, f5, f6, f7, f8, i1, i2, i3, i4, i5, i6, i7, self_add, add_self', cunr_n, cunr_x, cunr_r, cunr_p, ne_eq, not_true_eq_false, k11_t0]) | (with_reducible refine wgd_cases ?_ ?_ <;> intro hb) | (with_reducible refine wcond_cases ?_ ?_ <;> intro hb) | (with_reducible refine W_itn_cases ?_ ?_; omega))
      refine .inr ⟨nx + 200, _, _, rfl, by omega, ⟨.sl 9 false 1 (nx2 + 80) 0 1, .sl 25 true 2 (nx2 + 168) 0 1, .sl 9 false 1 (nx2 + 248) 0 1, .list 0 [] 1, upd_s, .inr ⟨Nat.one_pos, nx2 + 80, nx2 + 168, nx2 + 248, ⟨by omega, by omega⟩, ⟨by omega, by omega⟩, ⟨by omega, by omega⟩, by omega, rfl, rfl, rfl, ?_, ?_, ?_⟩, .inl ⟨rfl, rfl, rfl⟩, ⟨by omega, by omega⟩, rfl, rfl⟩, fun j hj => ?_⟩
      · repeat (refine (upd_o (by omega)).trans ?_)
        exact upd_s
      · repeat (refine (upd_o (by omega)).trans ?_)
        exact upd_s
      · repeat (refine (upd_o (by omega)).trans ?_)
        exact upd_s
      · repeat (refine (upd_o (by omega)).trans ?_)
        rw [hs2 _ (by omega)]
        repeat (refine (upd_o (by omega)).trans ?_)
        rfl
    · have := e16 h0
      subst this
      repeat' (first | (simp -implicitDefEqProofs only [ze, zd, zr, simprocAttr, LR_pl, LR_hp, LR_hm, cunr_n, cunr_x, cunr_r, cunr_p, List.any_cons, List.any_nil, List.flatten_cons, List.flatten_nil, List.replicate_succ, List.replicate_zero, Bool.or_false, Bool.false_or, List.flatMap_cons, List.flatMap_nil, hri, hsp, f1, ne_eq, not_true_eq_false]) | (with_reducible refine wgd_cases ?_ ?_ <;> intro hb) | (with_reducible refine wcond_cases ?_ ?_ <;> intro hb) | (with_reducible refine W_itn_cases ?_ ?_; omega))
      refine .inl ⟨by decide, _, _, rfl, by omega, fun i hi => ?_⟩
      simp (disch := omega) only [upds, upd, List.foldl_cons, List.foldl_nil, if_neg]
end Go.Proofs.YthgmhlpjbednpaaDoor.Vm
set_option linter.unusedVariables false
set_option linter.unusedSimpArgs false
namespace Go.Proofs.YthgmhlpjbednpaaDoor.Vm
open Go Go.Proofs
theorem cmpP_lt (y n y2 n2 : Int) : cmpP y n y2 n2 < 0 ↔ (y < y2 ∨ (y = y2 ∧ n < n2)) := by
  unfold cmpP
  split
  · omega
  · split <;> omega
theorem perS_mono {c : Int} {M N : Nat} (h : M ≤ N) : (perS c M).1 < (perS c N).1 ∨ ((perS c M).1 = (perS c N).1 ∧ (perS c M).2 ≤ (perS c N).2) := by
  unfold perS
  simp only
  omega
theorem later_of {c day later : Int} (hd : 0 ≤ day) (h : day ≤ later) (h2 : later ≤ 109000) (ho : (ofP c day).2 = 0) : (ofP c later).2 = 0 ∧ monOf day ≤ monOf later := by
  obtain ⟨hr, hs, hy, he⟩ := ofP_good ho
  have hl : dayS later = true := by
    unfold dayS at hs ⊢
    simp only [Bool.and_eq_true, decide_eq_true_eq] at hs ⊢
    omega
  have iM := isD_mon hs
  have iN := isD_mon hl
  have hMN := isD_le iM iN h
  have hN : monOf later < 3588 := by
    rcases Nat.lt_or_ge (monOf later) 3588 with q | q
    · exact q
    · have e : fm 3588 = 109208 := by rw [show (3588 : Nat) = 12 * 299 from rfl, fm_year]; rfl
      have := fm_mono q
      have := iN.1
      omega
  obtain ⟨c1, c2⟩ := rightC_b hr
  obtain ⟨y1, y2, y3⟩ := yrS_b hy
  rw [he] at y1 y2 y3
  have hyN : yrS c (perS c (monOf later)).1 = true := by
    unfold yrS
    simp only [Bool.and_eq_true, decide_eq_true_eq]
    unfold perS at y1 y2 y3 ⊢
    simp only at y1 y2 y3 ⊢
    omega
  refine ⟨?_, hMN⟩
  unfold ofP
  rw [if_neg (by simp [hr]), if_neg (by simp [hl]), if_neg (by simp [hyN])]
theorem forP_eq {c n k : Int} (h : (ofP c n).2 = 0) : forP c n k = if (k = 3 ∨ k = 4) ∧ lastS c (ofP c n).1.1 = n then (((ofP c n).1.1, 13), 0) else ofP c n := by
  unfold forP; rw [if_neg (by simp [h])]
theorem later_for {c day later k : Int} (hd : 0 ≤ day) (h : day ≤ later) (h2 : later ≤ 109000) (ho : (forP c day k).2 = 0) (q : Int × Int) (hq : ¬ cmpP (forP c day k).1.1 (forP c day k).1.2 q.1 q.2 < 0) :
    (forP c later k).2 = 0 ∧ ¬ cmpP (forP c later k).1.1 (forP c later k).1.2 q.1 q.2 < 0 := by
  have ho' : (ofP c day).2 = 0 := by
    unfold forP at ho
    by_cases hz : (ofP c day).2 = 0
    · exact hz
    · rw [if_pos hz] at ho; exact ho
  obtain ⟨hl, hMN⟩ := later_of hd h h2 ho'
  obtain ⟨hr, hs, hy, he⟩ := ofP_good ho'
  obtain ⟨hr2, hs2, hy2, he2⟩ := ofP_good hl
  have pb := perS_b c (monOf later)
  have pm := perS_mono (c := c) hMN
  have iM := isD_mon hs
  have iN := isD_mon hs2
  obtain ⟨c1, c2⟩ := rightC_b hr
  obtain ⟨y1, y2, y3⟩ := yrS_b hy
  rw [cmpP_lt] at hq ⊢
  have key : (forP c later k).2 = 0 ∧ ((forP c day k).1.1 < (forP c later k).1.1 ∨ ((forP c day k).1.1 = (forP c later k).1.1 ∧ (forP c day k).1.2 ≤ (forP c later k).1.2)) := by
    rw [forP_eq hl, forP_eq ho']
    by_cases g1 : (k = 3 ∨ k = 4) ∧ lastS c (ofP c day).1.1 = day
    · rw [if_pos g1]
      by_cases hdl : day = later
      · subst hdl
        rw [if_pos g1]
        exact ⟨rfl, .inr ⟨rfl, Int.le_refl _⟩⟩
      · have hge : fm (yM c (ofP c day).1.1 + 12) ≤ later := by have := g1.2; unfold lastS at this; omega
        have hN : yM c (ofP c day).1.1 + 12 ≤ monOf later := by
          rcases Nat.lt_or_ge (monOf later) (yM c (ofP c day).1.1 + 12) with z | z
          · have := fm_mono (show monOf later + 1 ≤ _ from z)
            have := iN.2.1
            omega
          · exact z
        have hlt : (ofP c day).1.1 < (ofP c later).1.1 := by
          rw [he2]
          unfold yM at hN
          unfold perS
          simp only
          omega
        split
        · exact ⟨rfl, .inl hlt⟩
        · exact ⟨hl, .inl hlt⟩
    · rw [if_neg g1, he]
      split
      · refine ⟨rfl, ?_⟩
        rw [he2]
        rcases pm with z | ⟨z, z2⟩
        · exact .inl z
        · exact .inr ⟨z, by show _ ≤ (13 : Int); omega⟩
      · rw [he2]; exact ⟨hl, pm⟩
  refine ⟨key.1, ?_⟩
  have := key.2
  omega
theorem nextP_span {c : Int} {q : Int × Int} (h : (nextP c q.1 q.2).2 = 0) : (spanS c (nextP c q.1 q.2).1.1 (nextP c q.1 q.2).1.2).2.2 = 0 := by
  have st : ∀ y n y2 n2, (stepP c y n y2 n2).2 = 0 → (spanS c (stepP c y n y2 n2).1.1 (stepP c y n y2 n2).1.2).2.2 = 0 := by
    intro y n y2 n2 hz
    unfold stepP at hz ⊢
    by_cases hr : rightC c = false
    · rw [if_pos hr] at hz; exact absurd hz (by decide)
    · rw [if_neg hr] at hz ⊢
      by_cases hx : exS c y n = false ∨ exS c y2 n2 = false
      · rw [if_pos hx] at hz; exact absurd hz (by decide)
      · rw [if_neg hx]
        unfold spanS
        rw [if_neg hr, if_neg (fun z => hx (.inr z))]
        split <;> rfl
  unfold nextP at h ⊢
  split
  · rename_i hn; rw [if_pos hn] at h; exact st _ _ _ _ h
  · rename_i hn; rw [if_neg hn] at h; exact st _ _ _ _ h
def GoodE (c : Int) (e : ByteArray) (a : Lk) : Prop := a.c = c ∧ ∃ q, aget a.op e = some q ∧ (spanS c q.1 q.2).2.2 = 0
theorem GoodE.close {c : Int} {e : ByteArray} {a : Lk} (h : GoodE c e a) (u : ByteArray) : GoodE c e (closeK a e u).1 ∧ (closeK a e u).1.ev.length ≤ a.ev.length + 1 := by
  unfold closeK
  by_cases h0 : (beginK a e u).2 ≠ 0
  · rw [if_pos h0]; exact ⟨h, Nat.le_succ _⟩
  · rw [if_neg h0]
    by_cases h1 : (nextP a.c (beginK a e u).1.1 (beginK a e u).1.2).2 ≠ 0
    · rw [if_pos h1]; exact ⟨h, Nat.le_succ _⟩
    · rw [if_neg h1]
      refine ⟨⟨h.1, _, by show aget (aset a.op e _) e = some _; rw [aget_set, if_pos rfl], ?_⟩, by simp⟩
      have := h.1
      subst this
      exact nextP_span (by simpa using h1)
theorem newErr_one (c : Int) (p : Int × Int) (s : ByteArray) (hcs : codeS s = true) : newErr c p [s] = (spanS c p.1 p.2).2.2 := by
  unfold newErr newE newE
  by_cases h : (spanS c p.1 p.2).2.2 = 0
  · rw [if_neg (by simp [h]), h, if_neg (by simp), hcs]; rfl
  · rw [if_pos h]
theorem GoodE.new {c : Int} {p : Int × Int} {s : ByteArray} (hcs : codeS s = true) (h : newErr c p [s] = 0) : GoodE c s (newLk c p [s]) := by
  refine ⟨rfl, p, ?_, by rw [← newErr_one c p s hcs]; exact h⟩
  show aget [(s, p)] s = some p
  simp [aget, aidx]
theorem firstK_good {a : Lk} {e : ByteArray} {q : Int × Int} (h : aget a.op e = some q) : firstK a e = (q, 0) := by unfold firstK; rw [h]
theorem firstR_one (c : Int) (q : Int × Int) (s : ByteArray) : firstR (rnewLk c q [s]) s = (q, 0) := by
  unfold firstR
  have : idxR (rnewLk c q [s]).nm s = some 0 := by show idxR [s] s = _; simp [idxR]
  rw [this]; rfl
theorem allow_later {a : Lk} {e : ByteArray} {q : Int × Int} (h : aget a.op e = some q) (d k : Int) : allowK a e d k = allowR (rnewLk a.c q [e]) e d k := by
  unfold allowK allowR
  rw [firstK_good h, firstR_one]
  rfl
theorem allow_goes {a : Lk} {e : ByteArray} {q : Int × Int} (h : aget a.op e = some q) {day later k : Int} (hd : 0 ≤ day) (hl : day ≤ later) (h2 : later ≤ 109000) (h0 : allowK a e day k = 0) : allowK a e later k = 0 := by
  unfold allowK at h0 ⊢
  rw [firstK_good h] at h0 ⊢
  simp only [ne_eq, not_true_eq_false, if_false] at h0 ⊢
  by_cases g1 : (forP a.c day k).2 = 0
  · simp only [g1, not_true_eq_false, if_false] at h0
    have hq : ¬ cmpP (forP a.c day k).1.1 (forP a.c day k).1.2 q.1 q.2 < 0 := fun z => by rw [if_pos z] at h0; exact absurd h0 (by decide)
    obtain ⟨z1, z2⟩ := later_for hd hl h2 g1 q hq
    simp only [z1, not_true_eq_false, if_false]
    rw [if_neg z2]
  · simp only [g1, not_false_eq_true, if_true] at h0
end Go.Proofs.YthgmhlpjbednpaaDoor.Vm
set_option maxRecDepth 10000
set_option linter.unusedVariables false
set_option linter.unusedSimpArgs false
namespace Go.Proofs.YthgmhlpjbednpaaDoor.Vm
open Go Go.Proofs
theorem grown_lt {S : Nat → Prop} {nx n1 n2 m : Nat} (h : ∀ j, S j → j < nx) (h1 : nx ≤ m) (h2 : n2 ≤ m) : ∀ j, grown S n1 n2 j → j < m := fun j hj => by
  rcases hj with hj | hj
  · have := h j hj; omega
  · omega
end Go.Proofs.YthgmhlpjbednpaaDoor.Vm
set_option maxRecDepth 10000
set_option linter.unusedVariables false
set_option linter.unusedSimpArgs false
namespace Go.Proofs.YthgmhlpjbednpaaDoor.Vm
open Go Go.Proofs
def sa : ByteArray := ⟨#[97]⟩
def su : ByteArray := ⟨#[117]⟩
def later_ok (v d : Int) : Prop := v = 0 ∨ 109000 < d
theorem sa_code : codeS sa = true := by decide
set_option maxHeartbeats 4000000 in
theorem klater_ok (c : Int) (p : Int × Int) (cl day more kd : Int) (h1 : 0 ≤ cl ∧ cl < 256) (h2 : 0 ≤ more ∧ more < 65536) :
    L.pl 6 [encCal c, encPer p, .sc (.int .u8 cl), .i64 day, .sc (.int .u16 more), .i64 kd] = some (.ret (.bool true)) := by
  refine W_of (pl_r k6_eq ?_)
  simp only [k6, encCal, encPer]
  have esa : (⟨#[97]⟩ : ByteArray) = sa := rfl
  have esu : (⟨#[117]⟩ : ByteArray) = su := rfl
  repeat' (first | (simp -implicitDefEqProofs only [ze, zd, zr, simprocAttr, LR_pl, LR_hp, LR_hm, cunr_n, cunr_x, cunr_r, cunr_p, List.any_cons, List.any_nil, List.flatten_cons, List.flatten_nil, List.replicate_succ, List.replicate_zero, Bool.or_false, Bool.false_or, List.flatMap_cons, List.flatMap_nil]) | (with_reducible refine wgd_cases ?_ ?_ <;> intro hb) | (with_reducible refine wcond_cases ?_ ?_ <;> intro hb) | (with_reducible refine qd_i (by kernel_rfl) ?_) | (with_reducible refine W_itn_cases ?_ ?_; omega))
  refine W_hp (new1_ok c p sa sa_code _ _ _ ?_ ?_) ?_
  · decide
  · simp [upd]; rfl
  intro r hr
  rcases hr with ⟨he, st', nx', rfl, hn, hs⟩ | ⟨he, k, st', nx', rfl, hn, hk, hs⟩
  · have g0 : decide (newErr c p [sa] = 0) = false := decide_eq_false he
    repeat' (first | (simp -implicitDefEqProofs only [ze, zd, zr, simprocAttr, LR_pl, LR_hp, LR_hm, cunr_n, cunr_x, cunr_r, cunr_p, List.any_cons, List.any_nil, List.flatten_cons, List.flatten_nil, List.replicate_succ, List.replicate_zero, Bool.or_false, Bool.false_or, List.flatMap_cons, List.flatMap_nil, g0, klives_ok, bne_tf, bne_ft]) | (with_reducible refine wgd_cases ?_ ?_ <;> intro hb) | (with_reducible refine wcond_cases ?_ ?_ <;> intro hb) | (with_reducible refine qd_i (by kernel_rfl) ?_) | (with_reducible refine W_itn_cases ?_ ?_; omega))
  · repeat' (first | (simp -implicitDefEqProofs only [ze, zd, zr, simprocAttr, LR_pl, LR_hp, LR_hm, cunr_n, cunr_x, cunr_r, cunr_p, List.any_cons, List.any_nil, List.flatten_cons, List.flatten_nil, List.replicate_succ, List.replicate_zero, Bool.or_false, Bool.false_or, List.flatMap_cons, List.flatMap_nil]) | (with_reducible refine wgd_cases ?_ ?_ <;> intro hb) | (with_reducible refine wcond_cases ?_ ?_ <;> intro hb) | (with_reducible refine qd_i (by kernel_rfl) ?_) | (with_reducible refine W_itn_cases ?_ ?_; omega))
    have b8 : st' 8 = some (.cells [.i64 c]) := by rw [hs 8 (by omega)]; simp [upd]
    refine loop_w (fun n tm st nx => ∃ (i : Nat) (a : Lk) (S : Nat → Prop), n = 40 - i ∧ i ≤ 40 ∧ tm 15 = .i64 i ∧ tm 2 = .sc (.int .u8 cl) ∧ tm 3 = .i64 day ∧ tm 4 = .sc (.int .u16 more) ∧ tm 5 = .i64 kd ∧ tm 6 = .ptr 8 0 ∧ tm 13 = .ptr k 0 ∧ st 8 = some (.cells [.i64 c]) ∧ LK k a S st ∧ (∀ j, S j → 32 ≤ j ∧ j < nx) ∧ 32 ≤ nx ∧ GoodE c sa a ∧ a.ev.length ≤ i) _ ⟨0, newLk c p [sa], _, rfl, by omega, ?_, ?_, ?_, ?_, ?_, ?_, ?_, b8, hk, fun j hj => by omega, by omega, GoodE.new sa_code he, Nat.le_refl _⟩ ?_
    · simp -implicitDefEqProofs only [ze, zd, simprocAttr]; try rfl
    · simp -implicitDefEqProofs only [ze, zd, simprocAttr]
    · simp -implicitDefEqProofs only [ze, zd, simprocAttr]
    · simp -implicitDefEqProofs only [ze, zd, simprocAttr]
    · simp -implicitDefEqProofs only [ze, zd, simprocAttr]
    · simp -implicitDefEqProofs only [ze, zd, simprocAttr]
    · simp -implicitDefEqProofs only [ze, zd, simprocAttr]
    clear hk hs b8
    rintro n tm st nx ⟨i, a, S, hn, hi, h15, h2', h3, h4, h5, h6, h13, h8, hka, hS, h32, hgd, hle⟩
    simp only [k6_l0]
    have hml : cl.tmod 40 = cl % 40 := Int.tmod_eq_emod_of_nonneg h1.1
    have hmm : more.tmod 5000 = more % 5000 := Int.tmod_eq_emod_of_nonneg h2.1
    have w1 : IntKind.i64.wrap (cl % 40) = cl % 40 := wrap_i64 (by omega) (by omega)
    have w3 : IntKind.i64.wrap (more % 5000) = more % 5000 := wrap_i64 (by omega) (by omega)
    by_cases hc : (i : Int) < cl % 40
    · have hd : decide ((i : Int) < cl % 40) = true := decide_eq_true hc
      repeat' (first | (simp -implicitDefEqProofs only [ze, zd, zr, simprocAttr, LR_pl, LR_hp, LR_hm, cunr_n, cunr_x, cunr_r, cunr_p, List.any_cons, List.any_nil, List.flatten_cons, List.flatten_nil, List.replicate_succ, List.replicate_zero, Bool.or_false, Bool.false_or, List.flatMap_cons, List.flatMap_nil, hd, h15, h2', h13, hml, w1]) | (with_reducible refine wgd_cases ?_ ?_ <;> intro hb) | (with_reducible refine wcond_cases ?_ ?_ <;> intro hb) | (with_reducible refine W_itn_cases ?_ ?_; omega))
      refine W_hp (close_ok hka (fun j hj => by have := hS j hj; omega) (by omega) sa su) ?_
      rintro _ ⟨st3, nx3, rfl, hn3, hk3, hkp⟩
      obtain ⟨g1, g2⟩ := hgd.close su
      repeat' (first | (simp -implicitDefEqProofs only [ze, zd, zr, simprocAttr, LR_pl, LR_hp, LR_hm, cunr_n, cunr_x, cunr_r, cunr_p, List.any_cons, List.any_nil, List.flatten_cons, List.flatten_nil, List.replicate_succ, List.replicate_zero, Bool.or_false, Bool.false_or, List.flatMap_cons, List.flatMap_nil, h15, h2', h3, h4, h5, h6, h13]) | (with_reducible refine wgd_cases ?_ ?_ <;> intro hb) | (with_reducible refine wcond_cases ?_ ?_ <;> intro hb) | (with_reducible refine W_itn_cases ?_ ?_; omega))
      refine ⟨40 - (i + 1), by omega, i + 1, _, _, rfl, by omega, up64 (by omega), ?_, hk3, fun j hj => ⟨?_, ?_⟩, by omega, g1, by omega⟩
      · rw [hkp 8 (by omega) (fun h => by have := hS _ h; omega)]; exact h8
      · rcases hj with hj | hj
        · exact (hS j hj).1
        · omega
      · exact grown_lt (fun j hj => (hS j hj).2) (by omega) (by omega) j hj
    · have hd : decide ((i : Int) < cl % 40) = false := decide_eq_false hc
      repeat' (first | (simp -implicitDefEqProofs only [ze, zd, zr, simprocAttr, LR_pl, LR_hp, LR_hm, cunr_n, cunr_x, cunr_r, cunr_p, List.any_cons, List.any_nil, List.flatten_cons, List.flatten_nil, List.replicate_succ, List.replicate_zero, Bool.or_false, Bool.false_or, List.flatMap_cons, List.flatMap_nil, hd, h15, h2', h13, hml, w1]) | (with_reducible refine wgd_cases ?_ ?_ <;> intro hb) | (with_reducible refine wcond_cases ?_ ?_ <;> intro hb) | (with_reducible refine W_itn_cases ?_ ?_; omega))
      obtain ⟨hac, q, hq, hsp⟩ := hgd
      by_cases d1 : day < 0
      · have g1 : decide (day < 0) = true := decide_eq_true d1
        repeat' (first | (simp -implicitDefEqProofs only [ze, zd, zr, simprocAttr, LR_pl, LR_hp, LR_hm, cunr_n, cunr_x, cunr_r, cunr_p, List.any_cons, List.any_nil, List.flatten_cons, List.flatten_nil, List.replicate_succ, List.replicate_zero, Bool.or_false, Bool.false_or, List.flatMap_cons, List.flatMap_nil, g1, h3, h4, h5, h6, h13, klives_ok, k6_t0]) | (with_reducible refine wgd_cases ?_ ?_ <;> intro hb) | (with_reducible refine wcond_cases ?_ ?_ <;> intro hb) | (with_reducible refine W_itn_cases ?_ ?_; omega))
      have g1 : decide (day < 0) = false := decide_eq_false d1
      by_cases d2 : 109572 < day
      · have g2 : decide (109572 < day) = true := decide_eq_true d2
        repeat' (first | (simp -implicitDefEqProofs only [ze, zd, zr, simprocAttr, LR_pl, LR_hp, LR_hm, cunr_n, cunr_x, cunr_r, cunr_p, List.any_cons, List.any_nil, List.flatten_cons, List.flatten_nil, List.replicate_succ, List.replicate_zero, Bool.or_false, Bool.false_or, List.flatMap_cons, List.flatMap_nil, g1, g2, h3, h4, h5, h6, h13, klives_ok, k6_t0]) | (with_reducible refine wgd_cases ?_ ?_ <;> intro hb) | (with_reducible refine wcond_cases ?_ ?_ <;> intro hb) | (with_reducible refine W_itn_cases ?_ ?_; omega))
      have g2 : decide (109572 < day) = false := decide_eq_false d2
      repeat' (first | (simp -implicitDefEqProofs only [ze, zd, zr, simprocAttr, LR_pl, LR_hp, LR_hm, cunr_n, cunr_x, cunr_r, cunr_p, List.any_cons, List.any_nil, List.flatten_cons, List.flatten_nil, List.replicate_succ, List.replicate_zero, Bool.or_false, Bool.false_or, List.flatMap_cons, List.flatMap_nil, g1, g2, h3, h4, h5, h6, h13, k6_t0]) | (with_reducible refine wgd_cases ?_ ?_ <;> intro hb) | (with_reducible refine wcond_cases ?_ ?_ <;> intro hb) | (with_reducible refine W_itn_cases ?_ ?_; omega))
      refine W_hp (allow_ok hka (fun j hj => by have := hS j hj; omega) sa day kd) ?_
      rintro _ ⟨st3, nx3, rfl, hn3, hs3⟩
      by_cases hv : allowK a sa day kd = 0
      · have g3 : decide (allowK a sa day kd = 0) = true := decide_eq_true hv
        have w4 : IntKind.i64.wrap (day + more % 5000) = day + more % 5000 := wrap_i64 (by omega) (by omega)
        have hka := hka.mono (S' := S) (st' := st3) (fun _ h => h) (fun j hj => hs3 j (by have := hS j hj; omega))
        have h8 : st3 8 = some (.cells [.i64 c]) := by rw [hs3 _ (by omega)]; exact h8
        repeat' (first | (simp -implicitDefEqProofs only [ze, zd, zr, simprocAttr, LR_pl, LR_hp, LR_hm, cunr_n, cunr_x, cunr_r, cunr_p, List.any_cons, List.any_nil, List.flatten_cons, List.flatten_nil, List.replicate_succ, List.replicate_zero, Bool.or_false, Bool.false_or, List.flatMap_cons, List.flatMap_nil, g1, g2, g3, hmm, w3, w4, h3, h4, h5, h6, h13, bne_tt]) | (with_reducible refine wgd_cases ?_ ?_ <;> intro hb) | (with_reducible refine wcond_cases ?_ ?_ <;> intro hb) | (with_reducible refine W_itn_cases ?_ ?_; omega))
        refine W_hp (first_ok hka (fun j hj => by have := hS j hj; omega) sa) ?_
        rw [firstK_good hq]
        rintro _ ⟨st4, nx4, rfl, hn4, hs4⟩
        have hka := hka.mono (S' := S) (st' := st4) (fun _ h => h) (fun j hj => hs4 j (by have := hS j hj; omega))
        have h8 : st4 8 = some (.cells [.i64 c]) := by rw [hs4 _ (by omega)]; exact h8
        have f1 : ∀ j, (8 = nx4 + j) = False := fun j => eq_false (by omega)
        have f2 : ∀ j, (8 = nx3 + j) = False := fun j => eq_false (by omega)
        have f3 : ∀ j, (nx4 + j = 8) = False := fun j => eq_false (by omega)
        have f4 : ∀ j, (nx3 + j = 8) = False := fun j => eq_false (by omega)
        repeat' (first | (simp -implicitDefEqProofs only [ze, zd, zr, simprocAttr, LR_pl, LR_hp, LR_hm, cunr_n, cunr_x, cunr_r, cunr_p, List.any_cons, List.any_nil, List.flatten_cons, List.flatten_nil, List.replicate_succ, List.replicate_zero, Bool.or_false, Bool.false_or, List.flatMap_cons, List.flatMap_nil, encPE, g1, g2, g3, h3, h4, h5, h6, h13, h8, f1, f2, f3, f4, bne_tt]) | (with_reducible refine wgd_cases ?_ ?_ <;> intro hb) | (with_reducible refine wcond_cases ?_ ?_ <;> intro hb) | (with_reducible refine W_itn_cases ?_ ?_; omega))
        have en : newErr c q [sa] = 0 := by rw [newErr_one c q sa sa_code]; exact hsp
        refine W_hp (rnew1_ok c q sa sa_code (by decide) _ _ _ (by omega) upd_s) ?_
        intro r hr
        rcases hr with ⟨he2, _⟩ | ⟨he2, k2, st5, nx5, rfl, hn5, hk5, hs5⟩
        · exact absurd en he2
        have hka := hka.mono (S' := S) (st' := st5) (fun _ h => h) (fun j hj => by
          have := hS j hj
          rw [hs5 _ (by omega)]
          exact (upd_o (by omega)).trans ((upd_o (by omega)).trans (upd_o (by omega))))
        have hS5 : ∀ j, S j → j < nx5 := fun j hj => by have := hS j hj; omega
        have hT5 : ∀ j, (nx4 + 72 ≤ j ∧ j < nx5) → j < nx5 := fun j hj => hj.2
        have hav := allow_later hq (day + more % 5000) kd
        rw [hac] at hav
        have hgo : later_ok (allowK a sa (day + more % 5000) kd) (day + more % 5000) := by
          rcases Int.lt_or_le 109000 (day + more % 5000) with z | z
          · exact .inr z
          · exact .inl (allow_goes hq (by omega) (by omega) z hv)
        repeat' (first | (simp -implicitDefEqProofs only [ze, zd, zr, simprocAttr, LR_pl, LR_hp, LR_hm, cunr_n, cunr_x, cunr_r, cunr_p, List.any_cons, List.any_nil, List.flatten_cons, List.flatten_nil, List.replicate_succ, List.replicate_zero, Bool.or_false, Bool.false_or, List.flatMap_cons, List.flatMap_nil, g1, g2, g3, h3, h4, h5, h6, h13, bne_tt, bne_tf]) | (with_reducible refine wgd_cases ?_ ?_ <;> intro hb) | (with_reducible refine wcond_cases ?_ ?_ <;> intro hb) | (with_reducible refine W_itn_cases ?_ ?_; omega))
        refine W_hp (allow_ok hka (fun j hj => by have := hS5 j hj; omega) sa _ kd) ?_
        rw [hav] at hgo ⊢
        generalize hvv : allowR (rnewLk c q [sa]) sa (day + more % 5000) kd = vv at hgo ⊢
        rintro _ ⟨st6, nx6, rfl, hn6, hs6⟩
        have hk6 := hk5.mono (S' := fun i => nx4 + 72 ≤ i ∧ i < nx5) (st' := st6) (fun _ h => h) (fun j hj => hs6 j (by have := hj.2; omega))
        repeat' (first | (simp -implicitDefEqProofs only [ze, zd, zr, simprocAttr, LR_pl, LR_hp, LR_hm, cunr_n, cunr_x, cunr_r, cunr_p, List.any_cons, List.any_nil, List.flatten_cons, List.flatten_nil, List.replicate_succ, List.replicate_zero, Bool.or_false, Bool.false_or, List.flatMap_cons, List.flatMap_nil, g1, g2, g3, h3, h4, h5, h6, h13, bne_tt, bne_tf]) | (with_reducible refine wgd_cases ?_ ?_ <;> intro hb) | (with_reducible refine wcond_cases ?_ ?_ <;> intro hb) | (with_reducible refine W_itn_cases ?_ ?_; omega))
        refine W_hp (rallow_ok hk6 (fun j hj => by have := hj.2; omega) (by simp [rnewLk]) sa _ kd) ?_
        rw [hvv]
        rintro _ ⟨st7, nx7, rfl, hn7, hs7⟩
        have hk7 := hk6.mono (S' := fun i => nx4 + 72 ≤ i ∧ i < nx5) (st' := st7) (fun _ h => h) (fun j hj => hs7 j (by have := hj.2; omega))
        have gv : decide (vv = vv) = true := decide_eq_true rfl
        repeat' (first | (simp -implicitDefEqProofs only [ze, zd, zr, simprocAttr, LR_pl, LR_hp, LR_hm, cunr_n, cunr_x, cunr_r, cunr_p, List.any_cons, List.any_nil, List.flatten_cons, List.flatten_nil, List.replicate_succ, List.replicate_zero, Bool.or_false, Bool.false_or, List.flatMap_cons, List.flatMap_nil, gv, g1, g2, g3, h3, h4, h5, h6, h13, bne_tt, bne_tf]) | (with_reducible refine wgd_cases ?_ ?_ <;> intro hb) | (with_reducible refine wcond_cases ?_ ?_ <;> intro hb) | (with_reducible refine W_itn_cases ?_ ?_; omega))
        refine W_hp (rallow_ok hk7 (fun j hj => by have := hj.2; omega) (by simp [rnewLk]) sa _ kd) ?_
        rw [hvv]
        rintro _ ⟨st8, nx8, rfl, hn8, hs8⟩
        by_cases hv0 : vv = 0
        · have gz : decide (vv = 0) = true := decide_eq_true hv0
          repeat' (first | (simp -implicitDefEqProofs only [ze, zd, zr, simprocAttr, LR_pl, LR_hp, LR_hm, cunr_n, cunr_x, cunr_r, cunr_p, List.any_cons, List.any_nil, List.flatten_cons, List.flatten_nil, List.replicate_succ, List.replicate_zero, Bool.or_false, Bool.false_or, List.flatMap_cons, List.flatMap_nil, gv, gz, g1, g2, g3, h3, h4, h5, h6, h13, klives_ok, bne_tt, bne_tf]) | (with_reducible refine wgd_cases ?_ ?_ <;> intro hb) | (with_reducible refine wcond_cases ?_ ?_ <;> intro hb) | (with_reducible refine W_itn_cases ?_ ?_; omega))
        · have gz : decide (vv = 0) = false := decide_eq_false hv0
          have gl : decide (109000 < day + more % 5000) = true := decide_eq_true (hgo.resolve_left hv0)
          repeat' (first | (simp -implicitDefEqProofs only [ze, zd, zr, simprocAttr, LR_pl, LR_hp, LR_hm, cunr_n, cunr_x, cunr_r, cunr_p, List.any_cons, List.any_nil, List.flatten_cons, List.flatten_nil, List.replicate_succ, List.replicate_zero, Bool.or_false, Bool.false_or, List.flatMap_cons, List.flatMap_nil, gv, gz, gl, g1, g2, g3, h3, h4, h5, h6, h13, klives_ok, bne_tt, bne_tf]) | (with_reducible refine wgd_cases ?_ ?_ <;> intro hb) | (with_reducible refine wcond_cases ?_ ?_ <;> intro hb) | (with_reducible refine W_itn_cases ?_ ?_; omega))
      · have g3 : decide (allowK a sa day kd = 0) = false := decide_eq_false hv
        repeat' (first | (simp -implicitDefEqProofs only [ze, zd, zr, simprocAttr, LR_pl, LR_hp, LR_hm, cunr_n, cunr_x, cunr_r, cunr_p, List.any_cons, List.any_nil, List.flatten_cons, List.flatten_nil, List.replicate_succ, List.replicate_zero, Bool.or_false, Bool.false_or, List.flatMap_cons, List.flatMap_nil, g1, g2, g3, h3, h4, h5, h6, h13, klives_ok]) | (with_reducible refine wgd_cases ?_ ?_ <;> intro hb) | (with_reducible refine wcond_cases ?_ ?_ <;> intro hb) | (with_reducible refine W_itn_cases ?_ ?_; omega))
theorem wf_b8 {a : Int} (h : (Lit.int .u8 a).wf = true) : 0 ≤ a ∧ a < 256 := by
  have h1 : IntKind.u8.min = 0 := rfl
  have h2 : IntKind.u8.max = 255 := rfl
  simp only [Lit.wf, Bool.and_eq_true, decide_eq_true_eq] at h
  omega
theorem wf_b16 {a : Int} (h : (Lit.int .u16 a).wf = true) : 0 ≤ a ∧ a < 65536 := by
  have h1 : IntKind.u16.min = 0 := rfl
  have h2 : IntKind.u16.max = 65535 := rfl
  simp only [Lit.wf, Bool.and_eq_true, decide_eq_true_eq] at h
  omega
end Go.Proofs.YthgmhlpjbednpaaDoor.Vm
namespace Go.Proofs.YthgmhlpjbednpaaDoor.locksLater
open Go.ChangeShapes Go.WideShapes Go.ChangeAt Go.RowKit Go.Proofs Go.Proofs.YthgmhlpjbednpaaDoor.Vm
set_option linter.unusedVariables false
theorem own : ownKnob Tryd.prog.godebug = none := by kernel_rfl
theorem laidOut : laidOutB Tryd.prog = true := by kernel_rfl
set_option maxRecDepth 100000 in
theorem door_met (os : Os) (args : Array Value) : laidMetH Tryd.prog Rows.locksLaterRow.laid ((World.doorLaid Tryd.prog 400 os).forCall (fun _ _ => 0) ⟨#[], args, []⟩).memory :=
  laidMetH_of_parts3 (fuel := 8) (laidMet_of_run' 8 (by kernel_rfl) (by kernel_rfl)) (by kernel_rfl) (by kernel_rfl)
set_option maxRecDepth 100000 in
theorem lifted (os : Os) (started : os.Started) (H : Type) (enc : TypeId × Value → H) :
    ReturnsInHanded {} Tryd.checked os 6 .any (fun w args => (Rows.locksLaterSpec.pre enc Tryd.prog Tryd.f6 [] false w args ∧ laidMetH Tryd.prog Rows.locksLaterRow.laid w) ∧ sizedMet enc Tryd.prog Tryd.f6 (OpenSpec.ofChange Rows.locksLaterSpec) false w args) (Rows.locksLaterSpec.post enc Tryd.prog Tryd.f6 false true false false) := by
  refine returnsInHanded_of_change_and (C := Tryd.checked) (X := fun w _ => laidMetH Tryd.prog Rows.locksLaterRow.laid w) (fun _ _ _ hh h => h.of_heap hh) own started (by kernel_rfl) Tryd.func6
    (ChangeSpec.witness_shaped (enc := enc) (C := Tryd.checked) (os := os) (X := fun w _ => laidMetH Tryd.prog Rows.locksLaterRow.laid w) false (World.doorLaid Tryd.prog 400 os) #[.agg #[.int .i64 0], .agg #[.int .i64 0, .int .i64 0], .int .u8 0, .int .i64 0, .int .u16 0, .int .i64 0] 8 rfl (World.shaped_of_RefB (by kernel_rfl) (by kernel_rfl)) (by kernel_rfl) (by kernel_rfl) (by kernel_rfl) (door_met os _)) ?_
  intro W base args ds gs before hval0 hW hcnd hsz0 hL _
  have hval : ∀ (j : Nat) t v, Tryd.f6.params[j]? = some t → args[j]? = some v → Value.okWide Tryd.prog W .any base t v := hval0
  have hW' := hW
  obtain ⟨p, q, hA0, hV, rfl, hfz, hnd⟩ := hW
  have hA : DataW.TrodAll enc Tryd.prog W 0 (fun _ => true) true Tryd.f6.params.toList args.toList ds p := hA0
  rw [Tryd.params6] at hA hval
  obtain ⟨v0, vs0, d0, ds0, p0, q0, hargs, rfl, rfl, h0, r0⟩ := trodAll_cons hA
  obtain ⟨v1, vs1, d1, ds1, p1, q1, rfl, rfl, rfl, h1, r1⟩ := trodAll_cons r0
  obtain ⟨v2, vs2, d2, ds2, p2, q2, rfl, rfl, rfl, h2, r2⟩ := trodAll_cons r1
  obtain ⟨v3, vs3, d3, ds3, p3, q3, rfl, rfl, rfl, h3, r3⟩ := trodAll_cons r2
  obtain ⟨v4, vs4, d4, ds4, p4, q4, rfl, rfl, rfl, h4, r4⟩ := trodAll_cons r3
  obtain ⟨v5, vs5, d5, ds5, p5, q5, rfl, rfl, rfl, h5, r5⟩ := trodAll_cons r4
  obtain ⟨rfl, rfl, rfl⟩ := trodAll_nil r5
  obtain rfl : args = #[v0, v1, v2, v3, v4, v5] := by cases args; simp_all
  obtain ⟨rfl, rfl⟩ := trodVars_none hV
  have hw0 : ∀ n ∈ d0.weights Tryd.prog 23, n ≤ reachBytes := fun n hn => by have := List.all_eq_true.1 hsz0 n (DataW.weights_mem_each (t := 23) (d := d0) (j := 0) (by kernel_rfl) rfl n hn); simpa using this
  have k0 := h0
  have lt0 : ∀ x ∈ p0, x.block < W.heap.size := by obtain ⟨m, hm⟩ := k0; exact DataW.trod_lt m _ _ _ hm
  obtain ⟨cs0, rfl, hzz0⟩ := okWide_struct Tryd.underlying23 (hval 0 23 v0 rfl rfl)
  obtain ⟨fuel0, hf0⟩ := h0
  obtain ⟨x0, K0, o0, g0⟩ := opCal hf0 hw0
  have R0 : RepP Tryd.prog (pw W) (encCal x0) (.agg cs0) := by
    have e : (.agg cs0 : Value) = .agg cs0.toList.toArray := by simp
    rw [e]; exact .agg o0 K0
  have hw1 : ∀ n ∈ d1.weights Tryd.prog 25, n ≤ reachBytes := fun n hn => by have := List.all_eq_true.1 hsz0 n (DataW.weights_mem_each (t := 25) (d := d1) (j := 1) (by kernel_rfl) rfl n hn); simpa using this
  have k1 := h1
  have lt1 : ∀ x ∈ p1, x.block < W.heap.size := by obtain ⟨m, hm⟩ := k1; exact DataW.trod_lt m _ _ _ hm
  obtain ⟨cs1, rfl, hzz1⟩ := okWide_struct Tryd.underlying25 (hval 1 25 v1 rfl rfl)
  obtain ⟨fuel1, hf1⟩ := h1
  obtain ⟨x1, K1, o1, g1⟩ := opPer hf1 hw1
  have R1 : RepP Tryd.prog (pw W) (encPer x1) (.agg cs1) := by
    have e : (.agg cs1 : Value) = .agg cs1.toList.toArray := by simp
    rw [e]; exact .agg o1 K1
  have hw2 : ∀ n ∈ d2.weights Tryd.prog 5, n ≤ reachBytes := fun n hn => by have := List.all_eq_true.1 hsz0 n (DataW.weights_mem_each (t := 5) (d := d2) (j := 2) (by kernel_rfl) rfl n hn); simpa using this
  have k2 := h2
  have lt2 : ∀ x ∈ p2, x.block < W.heap.size := by obtain ⟨m, hm⟩ := k2; exact DataW.trod_lt m _ _ _ hm
  obtain ⟨n2, rfl⟩ := okWide_int Tryd.underlying5 (hval 2 5 v2 rfl rfl)
  obtain ⟨fuel2, hf2⟩ := h2
  obtain ⟨x2, K2, o2, g2⟩ := opV_int Tryd.underlying5 hf2 hw2
  have R2 : RepP Tryd.prog (pw W) (V.sc (.int .u8 x2)) (.int .u8 n2) := by
    cases K2 with
    | cons h _ => exact h
  have hw3 : ∀ n ∈ d3.weights Tryd.prog 3, n ≤ reachBytes := fun n hn => by have := List.all_eq_true.1 hsz0 n (DataW.weights_mem_each (t := 3) (d := d3) (j := 3) (by kernel_rfl) rfl n hn); simpa using this
  have k3 := h3
  have lt3 : ∀ x ∈ p3, x.block < W.heap.size := by obtain ⟨m, hm⟩ := k3; exact DataW.trod_lt m _ _ _ hm
  obtain ⟨n3, rfl⟩ := okWide_int Tryd.underlying3 (hval 3 3 v3 rfl rfl)
  obtain ⟨fuel3, hf3⟩ := h3
  obtain ⟨x3, K3, o3, g3⟩ := opV_int Tryd.underlying3 hf3 hw3
  have R3 : RepP Tryd.prog (pw W) (V.i64 x3) (.int .i64 n3) := by
    cases K3 with
    | cons h _ => exact h
  have hw4 : ∀ n ∈ d4.weights Tryd.prog 55, n ≤ reachBytes := fun n hn => by have := List.all_eq_true.1 hsz0 n (DataW.weights_mem_each (t := 55) (d := d4) (j := 4) (by kernel_rfl) rfl n hn); simpa using this
  have k4 := h4
  have lt4 : ∀ x ∈ p4, x.block < W.heap.size := by obtain ⟨m, hm⟩ := k4; exact DataW.trod_lt m _ _ _ hm
  obtain ⟨n4, rfl⟩ := okWide_int Tryd.underlying55 (hval 4 55 v4 rfl rfl)
  obtain ⟨fuel4, hf4⟩ := h4
  obtain ⟨x4, K4, o4, g4⟩ := opV_int Tryd.underlying55 hf4 hw4
  have R4 : RepP Tryd.prog (pw W) (V.sc (.int .u16 x4)) (.int .u16 n4) := by
    cases K4 with
    | cons h _ => exact h
  have hw5 : ∀ n ∈ d5.weights Tryd.prog 3, n ≤ reachBytes := fun n hn => by have := List.all_eq_true.1 hsz0 n (DataW.weights_mem_each (t := 3) (d := d5) (j := 5) (by kernel_rfl) rfl n hn); simpa using this
  have k5 := h5
  have lt5 : ∀ x ∈ p5, x.block < W.heap.size := by obtain ⟨m, hm⟩ := k5; exact DataW.trod_lt m _ _ _ hm
  obtain ⟨n5, rfl⟩ := okWide_int Tryd.underlying3 (hval 5 3 v5 rfl rfl)
  obtain ⟨fuel5, hf5⟩ := h5
  obtain ⟨x5, K5, o5, g5⟩ := opV_int Tryd.underlying3 hf5 hw5
  have R5 : RepP Tryd.prog (pw W) (V.i64 x5) (.int .i64 n5) := by
    cases K5 with
    | cons h _ => exact h
  have hx := klater_ok x0 x1 x2 x3 x4 x5 (wf_b8 g2) (wf_b16 g4)
  refine (lim_bool (p := pw W) progOK extS_ok (f := 6) (by kernel_rfl) hx (glOK_of (lens_of_laid hL)) (fun _ _ _ h => h) (.cons R0 (.cons R1 (.cons R2 (.cons R3 (.cons R4 (.cons R5 .nil))))))).mono fun e W' ⟨he, bel0⟩ => ?_
  have bel : Below W.heap.size W W' := bel0
  subst he
  exact ⟨_, rfl, _, _, _, [], _, [], hW', trodAll_mk1 (shut_bool Tryd.underlying4 _), (trodAll_cons_mk (Below.trod laidOut (by kernel_rfl) (of_decide_eq_true (by kernel_rfl)) k0 bel lt0) (trodAll_cons_mk (Below.trod laidOut (by kernel_rfl) (of_decide_eq_true (by kernel_rfl)) k1 bel lt1) (trodAll_cons_mk (Below.trod laidOut (by kernel_rfl) (of_decide_eq_true (by kernel_rfl)) k2 bel lt2) (trodAll_cons_mk (Below.trod laidOut (by kernel_rfl) (of_decide_eq_true (by kernel_rfl)) k3 bel lt3) (trodAll_cons_mk (Below.trod laidOut (by kernel_rfl) (of_decide_eq_true (by kernel_rfl)) k4 bel lt4) (trodAll_cons_mk (Below.trod laidOut (by kernel_rfl) (of_decide_eq_true (by kernel_rfl)) k5 bel lt5) trodAll_mk0)))))), rfl, bel.frame _, fun h => by cases h⟩
theorem over : Rows.locksLaterRow.holds Tryd.pinned (OpenSpec.ofChange Rows.locksLaterSpec) :=
  OpenClaim.holds_of_wide 6 Tryd.f6 rfl rfl rfl rfl rfl rfl rfl ⟨rfl, rfl, rfl, rfl, rfl⟩ rfl rfl rfl rfl rfl (by kernel_rfl) Tryd.func6 (by kernel_rfl)
    (of_decide_eq_true (by kernel_rfl)) (by unfold Func.isWrapper; first | (rw [if_pos (by decide +kernel)]; kernel_rfl) | (rw [if_neg (by decide +kernel)]; exact ⟨rfl, rfl⟩))
    (fun os started H enc _ => lifted os started H enc)
theorem proved : Rows.LocksLaterCardSaid :=
  Claim7.holds_tied_plain_at .later [] [.data] true (true, "5efddb6f47badd170cfb6ec46cf8324222e7b3173b02ece8e79ed712f74b6ba8") false
    over (fun _ h => by cases h) (by kernel_rfl) (fun _ h => by cases h) locksLater_row_tie rfl ⟨rfl, rfl⟩ (by kernel_rfl) rfl
    (fun f fn hf hfn => by
      obtain rfl : f = 6 := Option.some.inj ((show Tryd.prog.funcNamed "accounting/accountinglaw16.LocksLater" = some 6 by kernel_rfl).symm.trans hf) |>.symm
      obtain rfl : fn = Tryd.f6 := (Option.some.inj (Tryd.func6.symm.trans hfn)).symm
      exact ⟨by kernel_rfl, fun j t ht => by
        rw [Tryd.params6] at ht
        have hm : t ∈ [23, 25, 5, 3, 55, 3] := by simpa using Array.mem_of_getElem? ht
        have hall : ([23, 25, 5, 3, 55, 3].all fun u => !Tryd.prog.wantsStandIn u) = true := by kernel_rfl
        exact (show Tryd.prog.wantsStandIn t = false by simpa using List.all_eq_true.1 hall t hm)⟩)
    (by kernel_rfl)
end Go.Proofs.YthgmhlpjbednpaaDoor.locksLater
namespace Go.Proofs.YthgmhlpjbednpaaDoor
theorem locksLater_holds : Rows.LocksLaterCardSaid := locksLater.proved
end Go.Proofs.YthgmhlpjbednpaaDoor
