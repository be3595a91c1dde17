/- Proved here: what the encoder's methods do to the encoder. Conditions: none. -/
import Derived.Test.YtkbheoganajhaaaDoorVs7
set_option maxRecDepth 10000
set_option linter.unusedVariables false
set_option linter.unusedSimpArgs false
namespace Go.Proofs.YtkbheoganajhaaaDoor.Vm
open Go Go.Proofs
/-- The bytes of a text. -/
def ptB (s : ByteArray) : List Int := Co.putS s.size ++ Co.bytesOf s
theorem bytesV_bv (s : ByteArray) : bytesV s = bv (Co.bytesOf s) := by simp [bytesV, bv, Co.bytesOf]
theorem plain_size {s : ByteArray} (h : plainS s = true) : s.size ≤ 60 := by
  simp only [plainS, Bool.and_eq_true, decide_eq_true_eq] at h; exact h.1
theorem bytesOf_len (s : ByteArray) : (Co.bytesOf s).length = s.size := by simp [Co.bytesOf]
theorem puttext_ok (s : ByteArray) (h : plainS s = true) : L.pl 77 [.str s] = some (.ret (.tup [.list 5 (bv (ptB s)) (8 + 5), .i64 0])) := by
  refine W_of (pl_w k77_eq ?_)
  simp only [k77]
  have hs := plain_size h
  have h1 := Co.putS_len s.size
  have h2 := bytesOf_len s
  repeat' (first | (simp -implicitDefEqProofs only [ze, Nat.reduceEqDiff, Nat.reduceAdd, Nat.reduceMul, reduceIte, Nat.reduceLT, Nat.reduceLeDiff, reduceCtorEq, Int.reduceEq, Int.reduceLT, Int.reduceLE, Int.reduceNeg, Int.reduceToNat, Nat.reduceBEq, Nat.reduceSub, qp, qf, kop, av, RQ, PQ, kres, kres1, kresL, fin, fins, fin1, V.pur?, V.pur1?, V.cells, kld, ones, V.one, Value.oneCell', own, owns, own1, xfill, ksrc, kint, vint, ksub, keqs, kok, V.val1?, ofRes, plain_ok, h, putint_ok (s.size : Int) ⟨by omega, by omega⟩, bytesV_bv, bv_len, List.length_append]) | (with_reducible refine wgd_cases ?_ ?_ <;> intro hb) | (with_reducible refine wcond_cases ?_ ?_ <;> intro hb) | (with_reducible refine qd_i (by kernel_rfl) ?_) | (with_reducible refine W_itn_cases ?_ ?_; omega))
  rw [ptB, bv_app]
theorem puttext_no (s : ByteArray) (h : plainS s = false) : L.pl 77 [.str s] = some (.ret (.tup [.list 0 [] 1, .i64 5])) := by
  refine W_of (pl_w k77_eq ?_)
  simp only [k77]
  repeat' (first | (simp -implicitDefEqProofs only [ze, Nat.reduceEqDiff, Nat.reduceAdd, Nat.reduceMul, reduceIte, Nat.reduceLT, Nat.reduceLeDiff, reduceCtorEq, Int.reduceEq, Int.reduceLT, Int.reduceLE, Int.reduceNeg, Int.reduceToNat, Nat.reduceBEq, Nat.reduceSub, qp, qf, kop, av, RQ, PQ, kres, kres1, kresL, fin, fins, fin1, V.pur?, V.pur1?, V.cells, kld, ones, V.one, Value.oneCell', own, owns, own1, xfill, ksrc, kint, vint, ksub, keqs, kok, V.val1?, ofRes, plain_ok, h]) | (with_reducible refine wgd_cases ?_ ?_ <;> intro hb) | (with_reducible refine wcond_cases ?_ ?_ <;> intro hb) | (with_reducible refine qd_i (by kernel_rfl) ?_) | (with_reducible refine W_itn_cases ?_ ?_; omega))
/-- An encoder that has collected some bytes. -/
def Enc (st : St) (nx id : Nat) (out : List Int) : Prop := id < nx ∧ ∃ v, st id = some (.cells [v]) ∧ Grow st nx 5 (bv out) v
/-- Other variables stay. -/
def Keep (st st' : St) (nx id : Nat) : Prop := ∀ i cs, i < nx → i ≠ id → st i = some (.cells cs) → st' i = some (.cells cs)
theorem W_hp {o : Option HR} {D : HR → Prop} {C : R → Prop} (h : W o D) (k : ∀ r, D r → W (match some r with | some (.ret v st' n) => some (R.big v st' n) | some (.pan v st' n) => some (.bpan v st' n) | none => none) C) : W (match o with | some (.ret v st' n) => some (R.big v st' n) | some (.pan v st' n) => some (.bpan v st' n) | none => none) C := by
  obtain ⟨r, rfl, hd⟩ := h; exact k r hd
theorem number_ok {st : St} {nx id : Nat} {out : List Int} (he : Enc st nx id out) (n : Int) (hn : i64r n) (hl : out.length ≤ 1000000000) :
    W (L.hp 48 [.ptr id 0, .i64 n] st nx) fun r => ∃ st' nx', r = .ret (.tup []) st' nx' ∧ nx ≤ nx' ∧ Enc st' nx' id (out ++ Co.putS n) ∧ Keep st st' nx id := by
  refine hp_w k48_eq ?_
  simp only [k48]
  obtain ⟨hid, v, hv, hg⟩ := he
  have h1 := Co.putS_len n
  have hne : ∀ j, (id = nx + j) = False := fun j => eq_false (by omega)
  have hne' : ∀ j, (nx + j = id) = False := fun j => eq_false (by omega)
  rcases hg with ⟨hb, rfl⟩ | ⟨r, hr8, hrn, rfl, hst⟩
  · have hout : out = [] := by simpa [bv] using hb
    subst hout
    repeat' (first | (simp -implicitDefEqProofs only [ze, Nat.reduceEqDiff, Nat.reduceAdd, Nat.reduceMul, reduceIte, Nat.reduceLT, Nat.reduceLeDiff, reduceCtorEq, Int.reduceEq, Int.reduceLT, Int.reduceLE, Int.reduceNeg, Int.reduceToNat, Nat.reduceBEq, Nat.reduceSub, qp, qf, kop, av, RQ, PQ, kres, kres1, kresL, fin, fins, fin1, V.pur?, V.pur1?, V.cells, kld, ones, V.one, Value.oneCell', own, owns, own1, xfill, ksrc, kint, vint, ksub, keqs, kok, V.val1?, ofRes, hv, putint_ok n hn, hne, hne', bv_len]) | (with_reducible refine W_itn_cases ?_ ?_; omega))
    refine qd_i ?_ ?_
    · simp [recsOk, ordB, Rec.free, Rec.wr, disj, List.range, List.range.loop, hne, hne']; try decide
    · simp -implicitDefEqProofs only [ze, Nat.reduceEqDiff, Nat.reduceAdd, Nat.reduceMul, reduceIte, Nat.reduceLT, Nat.reduceLeDiff, reduceCtorEq, Int.reduceEq, Int.reduceLT, Int.reduceLE, Int.reduceNeg, Int.reduceToNat, Nat.reduceBEq, Nat.reduceSub, qp, qf, kop, av, RQ, PQ, kres, kres1, kresL, fin, fins, fin1, V.pur?, V.pur1?, V.cells, kld, ones, V.one, Value.oneCell', own, owns, own1, xfill, ksrc, kint, vint, ksub, keqs, kok, V.val1?, ofRes]
      refine ⟨_, _, rfl, by omega, ⟨by omega, _, by rw [upd_at, if_pos rfl], .inr ⟨nx + 56, by omega, by omega, by simp, ?_⟩⟩, fun i cs h1 h2 h3 => ?_⟩
      · simp [upd_at, hne', bv_len]
      · have a1 : ¬ i = nx + 48 := by omega
        have a2 : ¬ i = nx + 56 := by omega
        simp [upd_at, h2, a1, a2, h3]
  · have hr0 : (r = 0) = False := eq_false (by omega)
    have hr1 : (r = 1) = False := eq_false (by omega)
    have hrx : ∀ j, (r = nx + j) = False := fun j => eq_false (by omega)
    have hrx' : ∀ j, (nx + j = r) = False := fun j => eq_false (by omega)
    have hri : ¬ r = id := fun e => by subst e; rw [hv] at hst; cases hst
    have hir : (id = r) = False := eq_false fun e => hri e.symm
    repeat' (first | (simp -implicitDefEqProofs only [ze, Nat.reduceEqDiff, Nat.reduceAdd, Nat.reduceMul, reduceIte, Nat.reduceLT, Nat.reduceLeDiff, reduceCtorEq, Int.reduceEq, Int.reduceLT, Int.reduceLE, Int.reduceNeg, Int.reduceToNat, Nat.reduceBEq, Nat.reduceSub, qp, qf, kop, av, RQ, PQ, kres, kres1, kresL, fin, fins, fin1, V.pur?, V.pur1?, V.cells, kld, ones, V.one, Value.oneCell', own, owns, own1, xfill, ksrc, kint, vint, ksub, keqs, kok, V.val1?, ofRes, hv, putint_ok n hn, hne, hne', bv_len, hr0, hr1, hrx, hst, hir]) | (with_reducible refine W_itn_cases ?_ ?_; omega))
    refine qd_i ?_ ?_
    · simp [recsOk, ordB, Rec.free, Rec.wr, disj, List.range, List.range.loop, hne, hne', hrx, hrx', hri, hir]; try decide
    · simp -implicitDefEqProofs only [ze, Nat.reduceEqDiff, Nat.reduceAdd, Nat.reduceMul, reduceIte, Nat.reduceLT, Nat.reduceLeDiff, reduceCtorEq, Int.reduceEq, Int.reduceLT, Int.reduceLE, Int.reduceNeg, Int.reduceToNat, Nat.reduceBEq, Nat.reduceSub, qp, qf, kop, av, RQ, PQ, kres, kres1, kresL, fin, fins, fin1, V.pur?, V.pur1?, V.cells, kld, ones, V.one, Value.oneCell', own, owns, own1, xfill, ksrc, kint, vint, ksub, keqs, kok, V.val1?, ofRes]
      refine ⟨_, _, rfl, by omega, ⟨by omega, _, by rw [upd_at, if_pos rfl], .inr ⟨r, hr8, by omega, by rw [bv_app], ?_⟩⟩, fun i cs h1 h2 h3 => ?_⟩
      · simp [upd_at, hri, bv_len]
      · have a1 : ¬ i = nx + 48 := by omega
        have a2 : ¬ i = r := fun e => by subst e; rw [h3] at hst; cases hst
        simp [upd_at, h2, a1, a2, h3]
theorem text_ok {st : St} {nx id : Nat} {out : List Int} (he : Enc st nx id out) (s : ByteArray) (hs : plainS s = true) (hl : out.length ≤ 1000000000) :
    W (L.hp 49 [.ptr id 0, .str s] st nx) fun r => ∃ st' nx', r = .ret (.tup []) st' nx' ∧ nx ≤ nx' ∧ Enc st' nx' id (out ++ ptB s) ∧ Keep st st' nx id := by
  refine hp_w k49_eq ?_
  simp only [k49]
  obtain ⟨hid, v, hv, hg⟩ := he
  have h1 : (ptB s).length ≤ 70 := by
    have a1 := Co.putS_len s.size
    have a2 := bytesOf_len s
    have a3 := plain_size hs
    rw [ptB, List.length_append]; omega
  have hne : ∀ j, (id = nx + j) = False := fun j => eq_false (by omega)
  have hne' : ∀ j, (nx + j = id) = False := fun j => eq_false (by omega)
  rcases hg with ⟨hb, rfl⟩ | ⟨r, hr8, hrn, rfl, hst⟩
  · have hout : out = [] := by simpa [bv] using hb
    subst hout
    repeat' (first | (simp -implicitDefEqProofs only [ze, Nat.reduceEqDiff, Nat.reduceAdd, Nat.reduceMul, reduceIte, Nat.reduceLT, Nat.reduceLeDiff, reduceCtorEq, Int.reduceEq, Int.reduceLT, Int.reduceLE, Int.reduceNeg, Int.reduceToNat, Nat.reduceBEq, Nat.reduceSub, qp, qf, kop, av, RQ, PQ, kres, kres1, kresL, fin, fins, fin1, V.pur?, V.pur1?, V.cells, kld, ones, V.one, Value.oneCell', own, owns, own1, xfill, ksrc, kint, vint, ksub, keqs, kok, V.val1?, ofRes, hv, puttext_ok s hs, hne, hne', bv_len]) | (with_reducible refine W_itn_cases ?_ ?_; omega))
    refine ⟨_, _, rfl, by omega, ⟨by omega, _, by rw [upd_at, if_pos rfl], .inr ⟨nx + 104, by omega, by omega, by simp, ?_⟩⟩, fun i cs h1 h2 h3 => ?_⟩
    · simp [upd_at, hne', bv_len]
    · have a1 : ¬ i = nx + 8 := by omega
      have a2 : ¬ i = nx + 104 := by omega
      simp [upd_at, h2, a1, a2, h3]
  · have hr0 : (r = 0) = False := eq_false (by omega)
    have hr1 : (r = 1) = False := eq_false (by omega)
    have hrx : ∀ j, (r = nx + j) = False := fun j => eq_false (by omega)
    have hri : ¬ r = id := fun e => by subst e; rw [hv] at hst; cases hst
    have hir : (id = r) = False := eq_false fun e => hri e.symm
    repeat' (first | (simp -implicitDefEqProofs only [ze, Nat.reduceEqDiff, Nat.reduceAdd, Nat.reduceMul, reduceIte, Nat.reduceLT, Nat.reduceLeDiff, reduceCtorEq, Int.reduceEq, Int.reduceLT, Int.reduceLE, Int.reduceNeg, Int.reduceToNat, Nat.reduceBEq, Nat.reduceSub, qp, qf, kop, av, RQ, PQ, kres, kres1, kresL, fin, fins, fin1, V.pur?, V.pur1?, V.cells, kld, ones, V.one, Value.oneCell', own, owns, own1, xfill, ksrc, kint, vint, ksub, keqs, kok, V.val1?, ofRes, hv, puttext_ok s hs, hne, hne', bv_len, hr0, hr1, hrx, hst, hir]) | (with_reducible refine W_itn_cases ?_ ?_; omega))
    refine ⟨_, _, rfl, by omega, ⟨by omega, _, by rw [upd_at, if_pos rfl], .inr ⟨r, hr8, by omega, by rw [bv_app], ?_⟩⟩, fun i cs h1 h2 h3 => ?_⟩
    · simp [upd_at, hri, bv_len]
    · have a1 : ¬ i = nx + 8 := by omega
      have a2 : ¬ i = r := fun e => by subst e; rw [h3] at hst; cases hst
      simp [upd_at, h2, a1, a2, h3]
end Go.Proofs.YtkbheoganajhaaaDoor.Vm
