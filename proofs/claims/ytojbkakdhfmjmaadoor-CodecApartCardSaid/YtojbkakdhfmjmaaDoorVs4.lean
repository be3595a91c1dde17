/- Proved here: what the check of a line returns. Conditions: none. -/
import Derived.Test.YtojbkakdhfmjmaaDoorVs3
set_option maxRecDepth 10000
set_option linter.unusedVariables false
set_option linter.unusedSimpArgs false
namespace Go.Proofs.YtojbkakdhfmjmaaDoor.Vm
open Go Go.Proofs
structure Line where
  acc : ByteArray
  cur : ByteArray
  amt : Int
  base : Int
  par : ByteArray
  pty : ByteArray
  tags : List Tag
  tr : Bool
def encL (l : Line) : V := .agg [.str l.acc, .str l.cur, .i64 l.amt, .i64 l.base, .str l.par, .str l.pty, .list 45 (l.tags.map encT) (nr l.tr)]
structure smallL (l : Line) : Prop where
  acc : small l.acc
  cur : small l.cur
  par : small l.par
  pty : small l.pty
  tags : ∀ t ∈ l.tags, small t.n ∧ small t.v
  len : l.tags.length < 4611686018427387904
def lineS (l : Line) : Int :=
  if (codeS l.acc && optS l.par && optS l.pty) = false then 7
  else if curS l.cur = false then 13
  else if (within l.amt 1000000000000 && within l.base 1000000000000) = false then 4
  else if l.amt = 0 ∧ l.base = 0 then 2
  else if rightS l.tags = false then 14
  else 0
theorem ret_i {x y : Int} (h : x = y) : CR.ret (.sc (.int .i64 x)) = .ret (V.i64 y) := by rw [h]
theorem line_ok (l : Line) (hs : smallL l) : L.pl 34 [encL l] = some (.ret (.i64 (lineS l))) := by
  refine W_of (pl_w k34_eq ?_)
  simp only [k34, encL]
  repeat' (first | (simp -implicitDefEqProofs only [wc_skip, wc_reg, wc_regd, wc_seq, wc_cond, wc_block, wc_exit, wc_ret, cseq_n, cseq_x, cseq_r, cseq_p, cblk_n, cblk_x, cblk_r, cblk_p, qn_e, qp, qf, wcond_t, wcond_f, wops_nil, wops_c, wops_g, wgd_tt, wgd_ff, wgd_tf, wgd_ft, wgd_u, wnx_v, wnx_vd, wnx_n, wnx_tv, wnx_tvd, wnx_tn, wnx_b, wnx_bn, wnx_p, wnx_bp, W_some, W_none, upd_at, upds_nil, upds_cons, kun_neg, kun_not, argT_0, argT_1, kb_add, kb_sub, kb_mul, kb_eql, kb_neq, kb_lss, kb_leq, kb_gtr, kb_geq, kb_and, kb_or, kb_xor, kb_shl, kb_shr, kb_quo, kb_rem, kb_seql, kb_sneq, kb_slss, kb_sadd, kb_beql, kb_bneq, kop, av, RQ, PQ, kres, kres1, kresL, fin, fins, fin1, V.pur?, V.pur1?, V.cells, kld, ones, V.one, Option.map_some, Option.map_none, Option.bind_some, Option.bind_none, ite_true, ite_false, if_true, if_false, Nat.reduceEqDiff, Nat.reduceAdd, Nat.reduceMul, decide_eq_true_eq, decide_eq_false_iff_not, Bool.not_true, Bool.not_false, List.getElem?_cons_zero, List.getElem?_cons_succ, reduceIte, Bool.false_eq_true, eq_self, List.all_cons, List.all_nil, Value.oneCell', Bool.and_self, Bool.and_true, Bool.true_and, List.drop_succ_cons, List.drop_zero, List.take_succ_cons, List.take_zero, List.length_cons, List.length_nil, List.cons_append, List.nil_append, List.append_nil, List.mapM_cons, List.mapM_nil, List.map_cons, List.map_nil, Option.bind_eq_bind, Option.pure_def, own, owns, own1, xfill, ksrc, kint, vint, ksub, Nat.reduceLT, Nat.reduceLeDiff, Nat.zero_add, Nat.add_zero, Nat.zero_lt_succ, List.isEmpty_nil, List.isEmpty_cons, reduceCtorEq, and_self, and_true, true_and, or_true, true_or, or_self, false_or, or_false, cloop_n, cloop_x, cloop_r, cloop_p, Int.toNat_natCast, Int.natCast_nonneg, keqs, kok, V.val1?, kb0_int, kb0_str, kb0_bool, bne_self_eq_false, kb_sleq, kb_sgtr, kb_sgeq, List.getElem?_map, List.reverse_cons, List.reverse_nil, Int.reduceEq, Int.reduceLT, Int.reduceLE, Int.reduceNeg, Int.reduceToNat, Nat.add_assoc, List.contains_nil, Nat.reduceBEq, Option.isSome_some, beq_self_eq_true, Nat.reduceSub, decide_true, decide_false, ofRes, code_ok, optional_ok, cur_ok l.cur hs.cur, within_ok l.amt 1000000000000 (by omega) (by omega), within_ok l.base 1000000000000 (by omega) (by omega), dims_ok l.tags, nr_pur]) | (with_reducible refine wgd_cases ?_ ?_ <;> intro hb) | (with_reducible refine wcond_cases ?_ ?_ <;> intro hb) | (with_reducible refine qd_i (by kernel_rfl) ?_) | (with_reducible refine W_itn_cases ?_ ?_; omega))
  all_goals (refine ret_i ?_; simp_all [lineS])
theorem rline_ok (l : Line) (hs : smallL l) : L.pl 45 [encL l] = some (.ret (.i64 (lineS l))) := by
  refine W_of (pl_w k45_eq ?_)
  simp only [k45, encL]
  repeat' (first | (simp -implicitDefEqProofs only [wc_skip, wc_reg, wc_regd, wc_seq, wc_cond, wc_block, wc_exit, wc_ret, cseq_n, cseq_x, cseq_r, cseq_p, cblk_n, cblk_x, cblk_r, cblk_p, qn_e, qp, qf, wcond_t, wcond_f, wops_nil, wops_c, wops_g, wgd_tt, wgd_ff, wgd_tf, wgd_ft, wgd_u, wnx_v, wnx_vd, wnx_n, wnx_tv, wnx_tvd, wnx_tn, wnx_b, wnx_bn, wnx_p, wnx_bp, W_some, W_none, upd_at, upds_nil, upds_cons, kun_neg, kun_not, argT_0, argT_1, kb_add, kb_sub, kb_mul, kb_eql, kb_neq, kb_lss, kb_leq, kb_gtr, kb_geq, kb_and, kb_or, kb_xor, kb_shl, kb_shr, kb_quo, kb_rem, kb_seql, kb_sneq, kb_slss, kb_sadd, kb_beql, kb_bneq, kop, av, RQ, PQ, kres, kres1, kresL, fin, fins, fin1, V.pur?, V.pur1?, V.cells, kld, ones, V.one, Option.map_some, Option.map_none, Option.bind_some, Option.bind_none, ite_true, ite_false, if_true, if_false, Nat.reduceEqDiff, Nat.reduceAdd, Nat.reduceMul, decide_eq_true_eq, decide_eq_false_iff_not, Bool.not_true, Bool.not_false, List.getElem?_cons_zero, List.getElem?_cons_succ, reduceIte, Bool.false_eq_true, eq_self, List.all_cons, List.all_nil, Value.oneCell', Bool.and_self, Bool.and_true, Bool.true_and, List.drop_succ_cons, List.drop_zero, List.take_succ_cons, List.take_zero, List.length_cons, List.length_nil, List.cons_append, List.nil_append, List.append_nil, List.mapM_cons, List.mapM_nil, List.map_cons, List.map_nil, Option.bind_eq_bind, Option.pure_def, own, owns, own1, xfill, ksrc, kint, vint, ksub, Nat.reduceLT, Nat.reduceLeDiff, Nat.zero_add, Nat.add_zero, Nat.zero_lt_succ, List.isEmpty_nil, List.isEmpty_cons, reduceCtorEq, and_self, and_true, true_and, or_true, true_or, or_self, false_or, or_false, cloop_n, cloop_x, cloop_r, cloop_p, Int.toNat_natCast, Int.natCast_nonneg, keqs, kok, V.val1?, kb0_int, kb0_str, kb0_bool, bne_self_eq_false, kb_sleq, kb_sgtr, kb_sgeq, List.getElem?_map, List.reverse_cons, List.reverse_nil, Int.reduceEq, Int.reduceLT, Int.reduceLE, Int.reduceNeg, Int.reduceToNat, Nat.add_assoc, List.contains_nil, Nat.reduceBEq, Option.isSome_some, beq_self_eq_true, Nat.reduceSub, decide_true, decide_false, ofRes, rcode_ok l.acc hs.acc, roptional_ok l.par hs.par, roptional_ok l.pty hs.pty, rcur_ok, rwithin_ok l.amt 1000000000000 (by omega) (by omega), rwithin_ok l.base 1000000000000 (by omega) (by omega), rdims_ok l.tags (nr l.tr) hs.tags hs.len, nr_pur]) | (with_reducible refine wgd_cases ?_ ?_ <;> intro hb) | (with_reducible refine wcond_cases ?_ ?_ <;> intro hb) | (with_reducible refine qd_i (by kernel_rfl) ?_) | (with_reducible refine W_itn_cases ?_ ?_; omega))
  all_goals (refine ret_i ?_; simp_all [lineS])
end Go.Proofs.YtojbkakdhfmjmaaDoor.Vm
