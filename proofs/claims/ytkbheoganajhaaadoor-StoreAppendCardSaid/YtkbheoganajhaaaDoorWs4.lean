/- Proved here: what a log writes for a record. Conditions: none. -/
import Derived.Test.YtkbheoganajhaaaDoorWs3
import Derived.Test.YtkbheoganajhaaaDoorVs8
set_option maxRecDepth 10000
set_option linter.unusedVariables false
set_option linter.unusedSimpArgs false
namespace Go.Proofs.YtkbheoganajhaaaDoor.Vm
open Go Go.Proofs
/-- A log's bytes and checksum; w is the list of its entries. -/
def LogW (st : St) (nx id : Nat) (out : List Int) (s : Int) (w : V) : Prop := id < nx ∧ ∃ v, st id = some (.cells [v, .sc (.int .u64 s), w]) ∧ Grow st nx 5 (bv out) v
/-- All but one object and the rights stay. -/
def KeepO (st st' : St) (nx id : Nat) : Prop := ∀ i, i < nx → i ≠ id → (∀ n e, st i ≠ some (.tok n e)) → st' i = st i
def tokOf : V → Nat
  | .list _ _ r => r
  | _ => 0
/-- The rights of a log's two lists. -/
def toksAt (st : St) (id : Nat) : List Nat := match st id with
  | some (.cells [v, _, w]) => [tokOf v, tokOf w]
  | _ => []
/-- All but one object and its rights stay, and its new rights are fresh. -/
def KQ (st st' : St) (nx id : Nat) : Prop := (∀ k, k < nx → k ≠ id → k ∉ toksAt st id → st' k = st k) ∧ ∀ k ∈ toksAt st' id, k ∈ toksAt st id ∨ nx ≤ k
/-- Rights of lists of other types stay. -/
def KeepR (st st' : St) (nx e : Nat) : Prop := ∀ i n e', i < nx → e' ≠ e → st i = some (.tok n e') → st' i = some (.tok n e')
theorem un_xor32 (P : Program) (n : Int) : reck P (Op.unary .xor (.int .u32 n)) = some (.int .u32 (Go.bits .xor .u32 4294967295 n)) := rfl
theorem xinv (n : Int) (hn : 0 ≤ n ∧ n < 4294967296) : Go.bits .xor .u32 4294967295 n = inv n := by
  obtain ⟨a, rfl⟩ := Int.eq_ofNat_of_zero_le hn.1
  rw [Co.xor_comm_]
  show IntKind.u32.wrap ((BitVec.ofInt 32 (a : Int) ^^^ BitVec.ofInt 32 4294967295).toNat : Int) = _
  have h1 : BitVec.ofInt 32 4294967295 = BitVec.allOnes 32 := by decide
  have h2 : (BitVec.ofInt 32 (a : Int)).toNat = a := by rw [BitVec.toNat_ofInt]; omega
  rw [h1, BitVec.xor_allOnes, BitVec.toNat_not, h2, IntKind.wrap_u32]
  unfold inv; omega
theorem nxj (n j : Nat) : (n = n + j) = (j = 0) := propext (by omega)
theorem write_ok {st : St} {nx id : Nat} {out : List Int} {s : Int} {w : V} (he : LogW st nx id out s w) (bs : List Int) (hb : bOK bs) (hs : u64r s) (hl : out.length ≤ 100000000000) (hl2 : bs.length ≤ 1000000000) (r : Nat) :
    W (L.hp 29 [.ptr id 0, .list 5 (bv bs) r] st nx) fun r => ∃ st' nx', r = .ret (.tup []) st' nx' ∧ nx ≤ nx' ∧ LogW st' nx' id (out ++ frameB bs (nextI s bs)) (nextI s bs) w ∧ KeepO st st' nx id ∧ KeepR st st' nx 5 ∧ KQ st st' nx id := by
  refine hp_w k29_eq ?_
  simp only [k29]
  obtain ⟨hid, v, hv, hg⟩ := he
  have hn : (0 : Int) ≤ (bs.length : Int) ∧ (bs.length : Int) < 4294967296 := ⟨by omega, by omega⟩
  have hw : (bs.length : Int) % 4294967296 = bs.length := Int.emod_eq_of_lt hn.1 hn.2
  have hx := xinv _ hn
  have hk := cnext_ok bs hb (by omega) (if r = 1 then 1 else 0) s
  have hr' := nextI_r s bs hs
  have hz := cbytes_ok (nextI s bs) hr'.1 hr'.2
  have hne : ∀ j, (id = nx + j) = False := fun j => eq_false (by omega)
  have hne' : ∀ j, (nx + j = id) = False := fun j => eq_false (by omega)
  rcases hg with ⟨hb0, rfl⟩ | ⟨q, hr8, hrn, rfl, hst⟩
  · have hout : out = [] := by simpa [bv] using hb0
    subst hout
    repeat' (first | (simp -implicitDefEqProofs only [ze, Nat.reduceEqDiff, Nat.reduceAdd, Nat.reduceMul, reduceIte, Nat.reduceLT, Nat.reduceLeDiff, reduceCtorEq, Int.reduceEq, Int.reduceLT, Int.reduceLE, Int.reduceNeg, Int.reduceToNat, Nat.reduceBEq, Nat.reduceSub, qp, qf, kop, av, RQ, PQ, kres, kres1, kresL, fin, fins, fin1, V.pur?, V.pur1?, V.cells, kld, ones, V.one, Value.oneCell', own, owns, own1, xfill, ksrc, kint, vint, ksub, keqs, kok, V.val1?, ofRes, hv, hk, hw, u32_mod, hx, un_xor32, snum_ok, hz, hne, hne', nxj, bv_len, four_len, sumB_len, List.length_append]) | (with_reducible refine W_itn_cases ?_ ?_; omega))
    refine qd_i ?_ ?_
    · simp [recsOk, ordB, Rec.free, Rec.wr, disj, List.range, List.range.loop, hne, hne']; try decide
    repeat' (first | (simp -implicitDefEqProofs only [ze, Nat.reduceEqDiff, Nat.reduceAdd, Nat.reduceMul, reduceIte, Nat.reduceLT, Nat.reduceLeDiff, reduceCtorEq, Int.reduceEq, Int.reduceLT, Int.reduceLE, Int.reduceNeg, Int.reduceToNat, Nat.reduceBEq, Nat.reduceSub, qp, qf, kop, av, RQ, PQ, kres, kres1, kresL, fin, fins, fin1, V.pur?, V.pur1?, V.cells, kld, ones, V.one, Value.oneCell', own, owns, own1, xfill, ksrc, kint, vint, ksub, keqs, kok, V.val1?, ofRes, hv, hk, hw, u32_mod, hx, un_xor32, snum_ok, hz, hne, hne', nxj, bv_len, four_len, sumB_len, List.length_append]) | (with_reducible refine W_itn_cases ?_ ?_; omega))
    refine qd_i ?_ ?_
    · simp [recsOk, ordB, Rec.free, Rec.wr, disj, List.range, List.range.loop, hne, hne']; try decide
    simp -implicitDefEqProofs only [ze, Nat.reduceEqDiff, Nat.reduceAdd, Nat.reduceMul, reduceIte, Nat.reduceLT, Nat.reduceLeDiff, reduceCtorEq, Int.reduceEq, Int.reduceLT, Int.reduceLE, Int.reduceNeg, Int.reduceToNat, Nat.reduceBEq, Nat.reduceSub, qp, qf, kop, av, RQ, PQ, kres, kres1, kresL, fin, fins, fin1, V.pur?, V.pur1?, V.cells, kld, ones, V.one, Value.oneCell', own, owns, own1, xfill, ksrc, kint, vint, ksub, keqs, kok, V.val1?, ofRes, hv, hk, hw, u32_mod, hx, un_xor32, snum_ok, hz, hne, hne', nxj, bv_len, four_len, sumB_len, List.length_append]
    refine ⟨_, _, rfl, by omega, ⟨by omega, _, by rw [upd_at, if_pos rfl], .inr ⟨nx + 168, by omega, by omega, by simp [frameB, bv_app], ?_⟩⟩, fun i h1 h2 h3 => ?_, fun i n e' h1 h2 h3 => ?_, fun k h1 h2 h3 => ?_, fun k hk => ?_⟩
    · simp [upd_at, hne', bv_len, frameB, four_len, sumB_len]; omega
    · have a1 : ∀ j, (i = nx + j) = False := fun j => eq_false (by omega)
      simp [upd_at, h2, a1]
    · have a1 : ∀ j, (i = nx + j) = False := fun j => eq_false (by omega)
      have a2 : (i = id) = False := eq_false fun e => by subst e; rw [hv] at h3; cases h3
      simp [upd_at, a2, a1, h3]
    · have a1 : ∀ j, (k = nx + j) = False := fun j => eq_false (by omega)
      simp [upd_at, h2, a1]
    · simp only [toksAt, upd_at, if_true, tokOf, List.mem_cons, List.not_mem_nil, or_false] at hk
      simp only [toksAt, hv, tokOf, List.mem_cons, List.not_mem_nil, or_false]
      omega
  · have hr0 : (q = 0) = False := eq_false (by omega)
    have hr1 : (q = 1) = False := eq_false (by omega)
    have hrx : ∀ j, (q = nx + j) = False := fun j => eq_false (by omega)
    have hrx' : ∀ j, (nx + j = q) = False := fun j => eq_false (by omega)
    have hri : ¬ q = id := fun e => by subst e; rw [hv] at hst; cases hst
    have hri' : (q = id) = False := eq_false hri
    have hir : (id = q) = False := eq_false fun e => hri e.symm
    repeat' (first | (simp -implicitDefEqProofs only [ze, Nat.reduceEqDiff, Nat.reduceAdd, Nat.reduceMul, reduceIte, Nat.reduceLT, Nat.reduceLeDiff, reduceCtorEq, Int.reduceEq, Int.reduceLT, Int.reduceLE, Int.reduceNeg, Int.reduceToNat, Nat.reduceBEq, Nat.reduceSub, qp, qf, kop, av, RQ, PQ, kres, kres1, kresL, fin, fins, fin1, V.pur?, V.pur1?, V.cells, kld, ones, V.one, Value.oneCell', own, owns, own1, xfill, ksrc, kint, vint, ksub, keqs, kok, V.val1?, ofRes, hv, hk, hw, u32_mod, hx, un_xor32, snum_ok, hz, hne, hne', nxj, bv_len, four_len, sumB_len, List.length_append, hr0, hr1, hrx, hrx', hri', hir, hst]) | (with_reducible refine W_itn_cases ?_ ?_; omega))
    refine qd_i ?_ ?_
    · simp [recsOk, ordB, Rec.free, Rec.wr, disj, List.range, List.range.loop, hne, hne', hrx, hrx', hri', hir]; try decide
    repeat' (first | (simp -implicitDefEqProofs only [ze, Nat.reduceEqDiff, Nat.reduceAdd, Nat.reduceMul, reduceIte, Nat.reduceLT, Nat.reduceLeDiff, reduceCtorEq, Int.reduceEq, Int.reduceLT, Int.reduceLE, Int.reduceNeg, Int.reduceToNat, Nat.reduceBEq, Nat.reduceSub, qp, qf, kop, av, RQ, PQ, kres, kres1, kresL, fin, fins, fin1, V.pur?, V.pur1?, V.cells, kld, ones, V.one, Value.oneCell', own, owns, own1, xfill, ksrc, kint, vint, ksub, keqs, kok, V.val1?, ofRes, hv, hk, hw, u32_mod, hx, un_xor32, snum_ok, hz, hne, hne', nxj, bv_len, four_len, sumB_len, List.length_append, hr0, hr1, hrx, hrx', hri', hir, hst]) | (with_reducible refine W_itn_cases ?_ ?_; omega))
    refine qd_i ?_ ?_
    · simp [recsOk, ordB, Rec.free, Rec.wr, disj, List.range, List.range.loop, hne, hne', hrx, hrx', hri', hir]; try decide
    simp -implicitDefEqProofs only [ze, Nat.reduceEqDiff, Nat.reduceAdd, Nat.reduceMul, reduceIte, Nat.reduceLT, Nat.reduceLeDiff, reduceCtorEq, Int.reduceEq, Int.reduceLT, Int.reduceLE, Int.reduceNeg, Int.reduceToNat, Nat.reduceBEq, Nat.reduceSub, qp, qf, kop, av, RQ, PQ, kres, kres1, kresL, fin, fins, fin1, V.pur?, V.pur1?, V.cells, kld, ones, V.one, Value.oneCell', own, owns, own1, xfill, ksrc, kint, vint, ksub, keqs, kok, V.val1?, ofRes, hv, hk, hw, u32_mod, hx, un_xor32, snum_ok, hz, hne, hne', nxj, bv_len, four_len, sumB_len, List.length_append, hr0, hr1, hrx, hrx', hri', hir, hst]
    refine ⟨_, _, rfl, by omega, ⟨by omega, _, by rw [upd_at, if_pos rfl], .inr ⟨q, hr8, by omega, by simp [frameB, bv_app], ?_⟩⟩, fun i h1 h2 h3 => ?_, fun i n e' h1 h2 h3 => ?_, fun k h1 h2 h3 => ?_, fun k hk => ?_⟩
    · simp [upd_at, hri', bv_len, frameB, four_len, sumB_len]; omega
    · have a1 : ∀ j, (i = nx + j) = False := fun j => eq_false (by omega)
      have a2 : (i = q) = False := eq_false fun e => by subst e; exact h3 _ _ hst
      simp [upd_at, h2, a1, a2]
    · have a1 : ∀ j, (i = nx + j) = False := fun j => eq_false (by omega)
      have a2 : (i = id) = False := eq_false fun e => by subst e; rw [hv] at h3; cases h3
      have a3 : (i = q) = False := eq_false fun e => by subst e; rw [h3] at hst; cases hst; exact h2 rfl
      simp [upd_at, a2, a1, a3, h3]
    · have a1 : ∀ j, (k = nx + j) = False := fun j => eq_false (by omega)
      simp only [toksAt, hv, tokOf, List.mem_cons, List.not_mem_nil, or_false, not_or] at h3
      simp [upd_at, h2, a1, h3.1]
    · simp only [toksAt, upd_at, if_true, tokOf, List.mem_cons, List.not_mem_nil, or_false] at hk
      simp only [toksAt, hv, tokOf, List.mem_cons, List.not_mem_nil, or_false]
      omega
end Go.Proofs.YtkbheoganajhaaaDoor.Vm
