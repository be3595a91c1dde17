/- Proved here: what the check of a line returns. Conditions: none. -/
import Derived.Test.YtkbheoganajhaaaDoorVs3
set_option maxRecDepth 10000
set_option linter.unusedVariables false
set_option linter.unusedSimpArgs false
namespace Go.Proofs.YtkbheoganajhaaaDoor.Vm
open Go Go.Proofs
structure Line where
  acc : ByteArray
  cur : ByteArray
  amt : Int
  base : Int
  par : ByteArray
  pty : ByteArray
  tags : List Tag
  tr : Bool
def encL (l : Line) : V := .agg [.str l.acc, .str l.cur, .i64 l.amt, .i64 l.base, .str l.par, .str l.pty, .list (te l.tr 97) (l.tags.map encT) (nr l.tr)]
structure smallL (l : Line) : Prop where
  acc : small l.acc
  cur : small l.cur
  par : small l.par
  pty : small l.pty
  tags : ∀ t ∈ l.tags, small t.n ∧ small t.v
  len : l.tags.length < 4611686018427387904
  nil : l.tr = true → l.tags = []
def lineS (l : Line) : Int :=
  if (codeS l.acc && optS l.par && optS l.pty) = false then 7
  else if curS l.cur = false then 13
  else if (within l.amt 1000000000000 && within l.base 1000000000000) = false then 4
  else if l.amt = 0 ∧ l.base = 0 then 2
  else if rightS l.tags = false then 14
  else 0
theorem ret_i {x y : Int} (h : x = y) : CR.ret (.sc (.int .i64 x)) = .ret (V.i64 y) := by rw [h]
theorem line_ok (l : Line) (hs : smallL l) : L.pl 46 [encL l] = some (.ret (.i64 (lineS l))) := by
  refine W_of (pl_w k46_eq ?_)
  simp only [k46, encL]
  repeat' (first | (simp -implicitDefEqProofs only [ze, Nat.reduceEqDiff, Nat.reduceAdd, Nat.reduceMul, reduceIte, Nat.reduceLT, Nat.reduceLeDiff, reduceCtorEq, Int.reduceEq, Int.reduceLT, Int.reduceLE, Int.reduceNeg, Int.reduceToNat, Nat.reduceBEq, Nat.reduceSub, qp, qf, kop, av, RQ, PQ, kres, kres1, kresL, fin, fins, fin1, V.pur?, V.pur1?, V.cells, kld, ones, V.one, Value.oneCell', own, owns, own1, xfill, ksrc, kint, vint, ksub, keqs, kok, V.val1?, ofRes, code_ok, optional_ok, cur_ok l.cur hs.cur, within_ok l.amt 1000000000000 (by omega) (by omega), within_ok l.base 1000000000000 (by omega) (by omega), dims_te l.tags l.tr hs.nil, nr_pur]) | (with_reducible refine wgd_cases ?_ ?_ <;> intro hb) | (with_reducible refine wcond_cases ?_ ?_ <;> intro hb) | (with_reducible refine qd_i (by kernel_rfl) ?_) | (with_reducible refine W_itn_cases ?_ ?_; omega))
  all_goals (refine ret_i ?_; simp_all [lineS])
theorem rline_ok (l : Line) (hs : smallL l) : L.pl 25 [encL l] = some (.ret (.i64 (lineS l))) := by
  refine W_of (pl_w k25_eq ?_)
  simp only [k25, encL]
  repeat' (first | (simp -implicitDefEqProofs only [ze, Nat.reduceEqDiff, Nat.reduceAdd, Nat.reduceMul, reduceIte, Nat.reduceLT, Nat.reduceLeDiff, reduceCtorEq, Int.reduceEq, Int.reduceLT, Int.reduceLE, Int.reduceNeg, Int.reduceToNat, Nat.reduceBEq, Nat.reduceSub, qp, qf, kop, av, RQ, PQ, kres, kres1, kresL, fin, fins, fin1, V.pur?, V.pur1?, V.cells, kld, ones, V.one, Value.oneCell', own, owns, own1, xfill, ksrc, kint, vint, ksub, keqs, kok, V.val1?, ofRes, rcode_ok l.acc hs.acc, roptional_ok l.par hs.par, roptional_ok l.pty hs.pty, rcur_ok, rwithin_ok l.amt 1000000000000 (by omega) (by omega), rwithin_ok l.base 1000000000000 (by omega) (by omega), rdims_te l.tags l.tr hs.nil hs.tags hs.len, nr_pur]) | (with_reducible refine wgd_cases ?_ ?_ <;> intro hb) | (with_reducible refine wcond_cases ?_ ?_ <;> intro hb) | (with_reducible refine qd_i (by kernel_rfl) ?_) | (with_reducible refine W_itn_cases ?_ ?_; omega))
  all_goals (refine ret_i ?_; simp_all [lineS])
end Go.Proofs.YtkbheoganajhaaaDoor.Vm
