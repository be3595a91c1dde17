/- Proved here: the law CodecApart returns true, on the machine over pure data. Conditions: none. -/
import Derived.Test.YtojbkakdhfmjmaaDoorVs16
set_option maxRecDepth 10000
set_option linter.unusedVariables false
set_option linter.unusedSimpArgs false
namespace Go.Proofs.YtojbkakdhfmjmaaDoor.Vm
open Go Go.Proofs
def sB (l : List Int) : ByteArray := ⟨(l.map fun n => UInt8.ofNat n.toNat).toArray⟩
theorem bytesOfV_bv : ∀ l : List Int, bytesOfV (bv l) = some (l.map fun n => UInt8.ofNat n.toNat)
  | [] => rfl
  | x :: r => by
    have e : bv (x :: r) = V.sc (.int .u8 x) :: bv r := rfl
    rw [e, bytesOfV, bytesOfV_bv r]; rfl
theorem bv_take (l : List Int) (n : Nat) : (bv l).take n = bv (l.take n) := by simp [bv]
def inR (l : List Int) : Prop := ∀ b ∈ l, 0 ≤ b ∧ b < 256
theorem sB_inj {a b : List Int} (ha : inR a) (hb : inR b) (h : sB a = sB b) : a = b := by
  have h1 : (a.map fun n => UInt8.ofNat n.toNat) = b.map fun n => UInt8.ofNat n.toNat := by
    have := congrArg ByteArray.data h
    have := congrArg Array.toList this
    simpa [sB] using this
  have back : ∀ l : List Int, inR l → ((l.map fun n => UInt8.ofNat n.toNat).map fun b : UInt8 => (b.toNat : Int)) = l := by
    intro l hl
    rw [List.map_map]
    conv => rhs; rw [← List.map_id l]
    apply List.map_congr_left
    intro x hx
    have := hl x hx
    show ((UInt8.ofNat x.toNat).toNat : Int) = x
    simp only [UInt8.toNat_ofNat']
    omega
  rw [← back a ha, ← back b hb, h1]
theorem putS_inR (n : Int) (h : i64r n) : inR (Co.putS n) := fun b hb => Co.vL_range 10 _ (Co.zz_range n h.1 h.2).1 b hb
theorem inR_app {a b : List Int} (ha : inR a) (hb : inR b) : inR (a ++ b) := fun x hx => (List.mem_append.mp hx).elim (ha x) (hb x)
theorem ptB_inR {s : ByteArray} (h : plainS s = true) : inR (ptB s) := inR_app (putS_inR _ ⟨by omega, by have := plain_size h; omega⟩) (Co.bytes_range s)
theorem tagsB_inR {l : List Tag} (h : ∀ t ∈ l, plainS t.n = true ∧ plainS t.v = true) : inR (tagsB l) := fun b hb => by
  simp only [tagsB, List.mem_flatMap] at hb
  obtain ⟨t, ht, hb⟩ := hb
  exact inR_app (ptB_inR (h t ht).1) (ptB_inR (h t ht).2) b hb
theorem lineB_inR {l : Line} (h : plainL l) : inR (lineB l) := by
  have := h.len
  exact inR_app (inR_app (inR_app (inR_app (inR_app (inR_app (inR_app (ptB_inR h.acc) (ptB_inR h.cur)) (putS_inR _ h.amt)) (putS_inR _ h.base)) (ptB_inR h.par)) (ptB_inR h.pty)) (putS_inR _ ⟨by omega, by omega⟩)) (tagsB_inR h.tags)
theorem entryB_inR {e : Entry} (h : plainE e) : inR (entryB e) := by
  have := h.len
  refine inR_app (inR_app (inR_app (inR_app (inR_app (inR_app (inR_app (inR_app (inR_app (putS_inR _ h.no) (ptB_inR h.ent)) (putS_inR _ h.book)) (putS_inR _ h.val)) (putS_inR _ h.kind)) (ptB_inR h.ref)) (ptB_inR h.who)) (putS_inR _ h.rev)) (putS_inR _ ⟨by omega, by omega⟩)) ?_
  intro b hb
  simp only [linesB, List.mem_flatMap] at hb
  obtain ⟨l, hl, hb⟩ := hb
  exact lineB_inR (h.lines l hl) b hb
theorem apart_ok (x y : Entry) (hx : smallE x) (hy : smallE y) (rx : rangeE x) (ry : rangeE y) : L.pl 3 [encE x, encE y] = some (.ret (.bool true)) := by
  refine W_of (pl_w k3_eq ?_)
  obtain ⟨_, hlx, b1, rfl⟩ := large_ok x hx
  obtain ⟨_, hly, b2, rfl⟩ := large_ok y hy
  have hcx := check_ok x hx rx.amts
  have hcy := check_ok y hy ry.amts
  have hsame := same_ok x y hx.len (fun l hl => (hx.lines l hl).len) hx.nils hy.nils
  simp only [k3]
  by_cases h1 : (checkS x).2 = 0
  · have hpx := check_plain h1 rx hx.nils
    rw [h1] at hcx
    have hPx := put_ok x hpx _ hcx
    by_cases h2 : (checkS y).2 = 0
    · have hpy := check_plain h2 ry hy.nils
      rw [h2] at hcy
      have hPy := put_ok y hpy _ hcy
      have hmin : (if ((entryB y).length : Int) < ((entryB x).length : Int) then ((entryB y).length : Int) else ((entryB x).length : Int)) = ((min (entryB x).length (entryB y).length : Nat) : Int) := by split <;> omega
      have m1 : min (entryB x).length (entryB y).length ≤ (entryB x).length := Nat.min_le_left _ _
      have m2 : min (entryB x).length (entryB y).length ≤ (entryB y).length := Nat.min_le_right _ _
      generalize hm : min (entryB x).length (entryB y).length = m at *
      simp only [encE] at hlx hly hPx hPy hsame ⊢
      repeat' (first | (simp -implicitDefEqProofs only [ze, Nat.reduceEqDiff, Nat.reduceAdd, Nat.reduceMul, reduceIte, Nat.reduceLT, Nat.reduceLeDiff, reduceCtorEq, Int.reduceEq, Int.reduceLT, Int.reduceLE, Int.reduceNeg, Int.reduceToNat, Nat.reduceBEq, Nat.reduceSub, qp, qf, kop, av, RQ, PQ, kres, kres1, kresL, fin, fins, fin1, V.pur?, V.pur1?, V.cells, kld, ones, V.one, Value.oneCell', own, owns, own1, xfill, ksrc, kint, vint, ksub, keqs, kok, V.val1?, ofRes, hlx, hly, hPx, hPy, hsame, nr_pur, lives_ok, bv_len, hmin, bytesOfV_bv, bv_take]) | (with_reducible refine wgd_cases ?_ ?_ <;> intro hb) | (with_reducible refine wcond_cases ?_ ?_ <;> intro hb) | (with_reducible refine qd_i (by kernel_rfl) ?_) | (with_reducible refine W_itn_cases ?_ ?_; omega))
      · rename_i hq
        exfalso
        have hq2 : ¬ x.k = y.k := of_decide_eq_false hq
        have hb3 : (!decide (sB ((entryB x).take m) = sB ((entryB y).take m))) = false := hb
        have he : sB ((entryB x).take m) = sB ((entryB y).take m) := of_decide_eq_true (by revert hb3; cases decide (sB ((entryB x).take m) = sB ((entryB y).take m)) <;> simp)
        have h3 := sB_inj (fun b hb => entryB_inR hpx b (List.mem_of_mem_take hb)) (fun b hb => entryB_inR hpy b (List.mem_of_mem_take hb)) he
        rw [← hm] at h3
        exact hq2 (entryB_take hpx hpy h3)
      · exfalso
        have hiff : x.k = y.k ↔ sB (entryB x) = sB (entryB y) := ⟨fun h => by rw [entryB_k h], fun h => by
          have h3 := sB_inj (entryB_inR hpx) (entryB_inR hpy) h
          exact (entryB_inj (m := []) (m' := []) hpx hpy (by rw [h3])).1⟩
        have hb2 : (decide (x.k = y.k) == decide (sB (entryB x) = sB (entryB y))) = false := hb
        by_cases hq : x.k = y.k
        · rw [decide_eq_true hq, decide_eq_true (hiff.mp hq)] at hb2; cases hb2
        · rw [decide_eq_false hq, decide_eq_false (fun h => hq (hiff.mpr h))] at hb2; cases hb2
    · have hPy := put_bad y _ _ hcy h2
      have hd2 : decide ((checkS y).2 = 0) = false := decide_eq_false h2
      simp only [encE] at hlx hly hPx hPy hsame ⊢
      repeat' (first | (simp -implicitDefEqProofs only [ze, Nat.reduceEqDiff, Nat.reduceAdd, Nat.reduceMul, reduceIte, Nat.reduceLT, Nat.reduceLeDiff, reduceCtorEq, Int.reduceEq, Int.reduceLT, Int.reduceLE, Int.reduceNeg, Int.reduceToNat, Nat.reduceBEq, Nat.reduceSub, qp, qf, kop, av, RQ, PQ, kres, kres1, kresL, fin, fins, fin1, V.pur?, V.pur1?, V.cells, kld, ones, V.one, Value.oneCell', own, owns, own1, xfill, ksrc, kint, vint, ksub, keqs, kok, V.val1?, ofRes, hlx, hly, hPx, hPy, hd2, nr_pur, lives_ok]) | (with_reducible refine wgd_cases ?_ ?_ <;> intro hb) | (with_reducible refine wcond_cases ?_ ?_ <;> intro hb) | (with_reducible refine qd_i (by kernel_rfl) ?_) | (with_reducible refine W_itn_cases ?_ ?_; omega))
  · have hPx := put_bad x _ _ hcx h1
    have hd1 : decide ((checkS x).2 = 0) = false := decide_eq_false h1
    by_cases h2 : (checkS y).2 = 0
    · have hpy := check_plain h2 ry hy.nils
      rw [h2] at hcy
      have hPy := put_ok y hpy _ hcy
      simp only [encE] at hlx hly hPx hPy hsame ⊢
      repeat' (first | (simp -implicitDefEqProofs only [ze, Nat.reduceEqDiff, Nat.reduceAdd, Nat.reduceMul, reduceIte, Nat.reduceLT, Nat.reduceLeDiff, reduceCtorEq, Int.reduceEq, Int.reduceLT, Int.reduceLE, Int.reduceNeg, Int.reduceToNat, Nat.reduceBEq, Nat.reduceSub, qp, qf, kop, av, RQ, PQ, kres, kres1, kresL, fin, fins, fin1, V.pur?, V.pur1?, V.cells, kld, ones, V.one, Value.oneCell', own, owns, own1, xfill, ksrc, kint, vint, ksub, keqs, kok, V.val1?, ofRes, hlx, hly, hPx, hPy, hd1, nr_pur, lives_ok]) | (with_reducible refine wgd_cases ?_ ?_ <;> intro hb) | (with_reducible refine wcond_cases ?_ ?_ <;> intro hb) | (with_reducible refine qd_i (by kernel_rfl) ?_) | (with_reducible refine W_itn_cases ?_ ?_; omega))
    · have hPy := put_bad y _ _ hcy h2
      simp only [encE] at hlx hly hPx hPy hsame ⊢
      repeat' (first | (simp -implicitDefEqProofs only [ze, Nat.reduceEqDiff, Nat.reduceAdd, Nat.reduceMul, reduceIte, Nat.reduceLT, Nat.reduceLeDiff, reduceCtorEq, Int.reduceEq, Int.reduceLT, Int.reduceLE, Int.reduceNeg, Int.reduceToNat, Nat.reduceBEq, Nat.reduceSub, qp, qf, kop, av, RQ, PQ, kres, kres1, kresL, fin, fins, fin1, V.pur?, V.pur1?, V.cells, kld, ones, V.one, Value.oneCell', own, owns, own1, xfill, ksrc, kint, vint, ksub, keqs, kok, V.val1?, ofRes, hlx, hly, hPx, hPy, hd1, nr_pur, lives_ok]) | (with_reducible refine wgd_cases ?_ ?_ <;> intro hb) | (with_reducible refine wcond_cases ?_ ?_ <;> intro hb) | (with_reducible refine qd_i (by kernel_rfl) ?_) | (with_reducible refine W_itn_cases ?_ ?_; omega))
end Go.Proofs.YtojbkakdhfmjmaaDoor.Vm
