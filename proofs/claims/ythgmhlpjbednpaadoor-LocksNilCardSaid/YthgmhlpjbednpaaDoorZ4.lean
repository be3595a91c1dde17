/- Proved here: the law, on a machine over pure data, and what it needs, part 4. Conditions: none. -/
import Derived.Shelf.Lays
import Derived.Test.YthgmhlpjbednpaaDoorProg
import Derived.Test.YthgmhlpjbednpaaDoorZ3
set_option linter.unusedVariables false
set_option linter.unusedSimpArgs false
namespace Go.Proofs.YthgmhlpjbednpaaDoor.Vm
open Go.ChangeShapes Go.WideShapes Go.ChangeAt Go.RowKit Go.Proofs
def encPer (p : Int × Int) : V := .agg [.i64 p.1, .i64 p.2]
def wfI (n : Int) : Prop := (Lit.int .i64 n).wf = true
section
variable {H : Type} {enc : TypeId × Value → H}
theorem opPer : OpV enc Tryd.prog 25 encPer (fun p => wfI p.1 ∧ wfI p.2) := by
  intro w base spare held fuel cs x h hR
  obtain ⟨n, hl, hf⟩ := opV_fields Tryd.underlying25 h hR
  have hl : cs.length = 2 := hl.trans (by kernel_rfl)
  obtain ⟨y0, t0, w0⟩ := hf 0 _ rfl
  obtain ⟨x0, K0, o0, g0⟩ := opV_int Tryd.underlying3 t0 w0
  obtain ⟨y1, t1, w1⟩ := hf 1 _ rfl
  obtain ⟨x1, K1, o1, g1⟩ := opV_int Tryd.underlying3 t1 w1
  refine ⟨(x0, x1), ?_, rfl, g0, g1⟩
  exact RepPs.step (o := 0) (m := 1) K0 (by kernel_rfl) (RepPs.last K1 (by rw [hl]; exact Nat.le_of_eq (by kernel_rfl)))
end
structure Op where
  act : Int
  ent : ByteArray
  usr : ByteArray
section
variable {H : Type} {enc : TypeId × Value → H}
end
end Go.Proofs.YthgmhlpjbednpaaDoor.Vm
set_option maxRecDepth 100000
namespace Go.Proofs.YthgmhlpjbednpaaDoor.Vm
open Go Go.Proofs Go.Shelf
def ren190 : Go.Shelf.Ren := ⟨fun | 190 => 31 | 125 => 61 | 258 => 60 | 128 => 86 | 129 => 87 | 302 => 77 | 303 => 78 | 304 => 79 | 305 => 80 | 306 => 81 | 307 => 82 | 308 => 83 | 309 => 84 | 310 => 85 | 333 => 98 | 329 => 99 | 330 => 100 | 334 => 101 | 335 => 102 | 336 => 103 | 344 => 107 | n => n, fun | 31 => 26 | 9 => 9 | 3 => 3 | 46 => 102 | 0 => 0 | 51 => 126 | 53 => 128 | 4 => 4 | 183 => 119 | 182 => 118 | 131 => 94 | 5 => 5 | 218 => 138 | 222 => 142 | 228 => 145 | 229 => 130 | n => n, fun n => n⟩
theorem lays190 : Lays.n190 Tryd.prog ren190 := {
  mixed := by kernel_rfl,
  f125 := Tryd.func61.trans (congrArg some (by kernel_rfl)),
  f128 := Tryd.func86.trans (congrArg some (by kernel_rfl)),
  f129 := Tryd.func87.trans (congrArg some (by kernel_rfl)),
  f190 := Tryd.func31.trans (congrArg some (by kernel_rfl)),
  f258 := Tryd.func60.trans (congrArg some (by kernel_rfl)),
  f302 := Tryd.func77.trans (congrArg some (by kernel_rfl)),
  f303 := Tryd.func78.trans (congrArg some (by kernel_rfl)),
  f304 := Tryd.func79.trans (congrArg some (by kernel_rfl)),
  f305 := Tryd.func80.trans (congrArg some (by kernel_rfl)),
  f306 := Tryd.func81.trans (congrArg some (by kernel_rfl)),
  f307 := Tryd.func82.trans (congrArg some (by kernel_rfl)),
  f308 := Tryd.func83.trans (congrArg some (by kernel_rfl)),
  f309 := Tryd.func84.trans (congrArg some (by kernel_rfl)),
  f310 := Tryd.func85.trans (congrArg some (by kernel_rfl)),
  f329 := Tryd.func99.trans (congrArg some (by kernel_rfl)),
  f330 := Tryd.func100.trans (congrArg some (by kernel_rfl)),
  f333 := Tryd.func98.trans (congrArg some (by kernel_rfl)),
  f334 := Tryd.func101.trans (congrArg some (by kernel_rfl)),
  f335 := Tryd.func102.trans (congrArg some (by kernel_rfl)),
  f336 := Tryd.func103.trans (congrArg some (by kernel_rfl)),
  f344 := Tryd.func107.trans (congrArg some (by kernel_rfl)),
  t0 := Tryd.underlying0,
  a0 := Tryd.isAgg0,
  z0 := Tryd.sizeOf0,
  v0 := Tryd.zeroValue0,
  t3 := Tryd.underlying3,
  a3 := Tryd.isAgg3,
  z3 := Tryd.sizeOf3,
  v3 := Tryd.zeroValue3,
  t4 := Tryd.underlying4,
  a4 := Tryd.isAgg4,
  z4 := Tryd.sizeOf4,
  v4 := Tryd.zeroValue4,
  t5 := Tryd.underlying5,
  a5 := Tryd.isAgg5,
  z5 := Tryd.sizeOf5,
  v5 := Tryd.zeroValue5,
  t9 := Tryd.underlying9,
  a9 := Tryd.isAgg9,
  z9 := Tryd.sizeOf9,
  v9 := Tryd.zeroValue9,
  t31 := Tryd.underlying26,
  a31 := Tryd.isAgg26,
  z31 := Tryd.sizeOf26,
  v31 := Tryd.zeroValue26,
  t46 := Tryd.underlying102,
  a46 := Tryd.isAgg102,
  z46 := Tryd.sizeOf102,
  v46 := Tryd.zeroValue102,
  t51 := Tryd.underlying126,
  a51 := Tryd.isAgg126,
  z51 := Tryd.sizeOf126,
  v51 := Tryd.zeroValue126,
  t53 := Tryd.underlying128,
  a53 := Tryd.isAgg128,
  z53 := Tryd.sizeOf128,
  v53 := Tryd.zeroValue128,
  t131 := Tryd.underlying94,
  a131 := Tryd.isAgg94,
  z131 := Tryd.sizeOf94,
  v131 := Tryd.zeroValue94,
  t182 := Tryd.underlying118,
  a182 := Tryd.isAgg118,
  z182 := Tryd.sizeOf118,
  v182 := Tryd.zeroValue118,
  t183 := Tryd.underlying119,
  a183 := Tryd.isAgg119,
  z183 := Tryd.sizeOf119,
  v183 := Tryd.zeroValue119,
  t218 := Tryd.underlying138,
  a218 := Tryd.isAgg138,
  z218 := Tryd.sizeOf138,
  v218 := Tryd.zeroValue138,
  t222 := Tryd.underlying142,
  a222 := Tryd.isAgg142,
  z222 := Tryd.sizeOf142,
  v222 := Tryd.zeroValue142,
  t228 := Tryd.underlying145,
  a228 := Tryd.isAgg145,
  z228 := Tryd.sizeOf145,
  v228 := Tryd.zeroValue145,
  t229 := Tryd.underlying130,
  a229 := Tryd.isAgg130,
  z229 := Tryd.sizeOf130,
  v229 := Tryd.zeroValue130 }
end Go.Proofs.YthgmhlpjbednpaaDoor.Vm
namespace Go.Proofs.YthgmhlpjbednpaaDoor.Vm
open Go Go.Proofs
theorem extS_ok : ExtOK Tryd.prog glS extS := by
  refine ⟨fun f g h => (by cases h), fun f g h xs st nx r hx G vs w hgl hinv has h8 hfr => ?_⟩
  simp only [extS] at h
  split at h
  · rename_i hf
    have hf : f = 31 := by simpa using hf
    subst hf
    obtain rfl := Option.some.inj h
    exact xsort_ok lays190 hx hinv has
  · cases h
end Go.Proofs.YthgmhlpjbednpaaDoor.Vm
set_option linter.unusedVariables false
namespace Go.Proofs.YthgmhlpjbednpaaDoor.Vm
open Go.RowKit
def cunr (P : Program) (E : Env) (b : Y) (Q : Ex → Fr → Prop) (e : Ex) (fr : Fr) : Prop := e.cs (wc P E (.loop b) Q fr) (Q e fr)
theorem cunr_n {P : Program} {E : Env} {Q : Ex → Fr → Prop} {fr : Fr} (b : Y) : cunr P E b Q .norm fr = wc P E (.loop b) Q fr := rfl
theorem cunr_x {P : Program} {E : Env} {Q : Ex → Fr → Prop} {fr : Fr} (b : Y) (id : Nat) : cunr P E b Q (.exit id) fr = Q (.exit id) fr := rfl
theorem cunr_r {P : Program} {E : Env} {Q : Ex → Fr → Prop} {fr : Fr} (b : Y) : cunr P E b Q .ret fr = Q .ret fr := rfl
theorem cunr_p {P : Program} {E : Env} {Q : Ex → Fr → Prop} {fr : Fr} (b : Y) (v : V) : cunr P E b Q (.pan v) fr = Q (.pan v) fr := rfl
theorem W_hp {o : Option HR} {D : HR → Prop} {C : R → Prop} (h : W o D) (k : ∀ r, D r → W (match some r with | some (.ret v st' n) => some (R.big v st' n) | some (.pan v st' n) => some (.bpan v st' n) | none => none) C) : W (match o with | some (.ret v st' n) => some (R.big v st' n) | some (.pan v st' n) => some (.bpan v st' n) | none => none) C := by
  obtain ⟨r, rfl, hd⟩ := h; exact k r hd
end Go.Proofs.YthgmhlpjbednpaaDoor.Vm
namespace Go.Proofs.YthgmhlpjbednpaaDoor.Vm
open Go Go.Proofs
theorem klives_ok : L.pl 12 [] = some (.ret (.bool true)) := pl_calc 60 (by kernel_rfl)
end Go.Proofs.YthgmhlpjbednpaaDoor.Vm
set_option maxRecDepth 10000
set_option linter.unusedVariables false
set_option linter.unusedSimpArgs false
namespace Go.Proofs.YthgmhlpjbednpaaDoor.Vm
open Go Go.Proofs
def Still (st : St) (nx : Nat) (v : V) (r : HR) : Prop := ∃ st' nx', r = .ret v st' nx' ∧ nx ≤ nx' ∧ ∀ i, i < nx → st' i = st i
theorem Still.of {st st' : St} {nx nx' : Nat} {v : V} (h : nx ≤ nx') (k : ∀ i, i < nx → st' i = st i) : Still st nx v (.ret v st' nx') := ⟨st', nx', rfl, h, k⟩
theorem nFirst_ok (s : ByteArray) (st : St) (nx : Nat) : W (L.hp 18 [.sc (.pointer none), .str s] st nx) (Still st nx (.tup [.agg [.i64 0, .i64 0], .i64 1])) := by
  refine hp_r k18_eq ?_
  simp only [k18]
  repeat' (first | (simp -implicitDefEqProofs only [ze, zd, zr, simprocAttr, LR_pl, LR_hp, LR_hm, cunr_n, cunr_x, cunr_r, cunr_p, List.any_cons, List.any_nil, List.flatten_cons, List.flatten_nil, List.replicate_succ, List.replicate_zero, Bool.or_false, Bool.false_or, List.flatMap_cons, List.flatMap_nil]) | (with_reducible refine wgd_cases ?_ ?_ <;> intro hb) | (with_reducible refine wcond_cases ?_ ?_ <;> intro hb) | (with_reducible refine qd_i (by kernel_rfl) ?_) | (with_reducible refine W_itn_cases ?_ ?_; omega))
  refine .of (by omega) fun i hi => ?_
  simp (disch := omega) only [upds, upd, List.foldl_cons, List.foldl_nil, if_neg]
theorem nBegin_ok (s u : ByteArray) (st : St) (nx : Nat) : W (L.hp 42 [.sc (.pointer none), .str s, .str u] st nx) (Still st nx (.tup [.agg [.i64 0, .i64 0], .i64 1])) := by
  refine hp_r k42_eq ?_
  simp only [k42]
  repeat' (first | (simp -implicitDefEqProofs only [ze, zd, zr, simprocAttr, LR_pl, LR_hp, LR_hm, cunr_n, cunr_x, cunr_r, cunr_p, List.any_cons, List.any_nil, List.flatten_cons, List.flatten_nil, List.replicate_succ, List.replicate_zero, Bool.or_false, Bool.false_or, List.flatMap_cons, List.flatMap_nil]) | (with_reducible refine wgd_cases ?_ ?_ <;> intro hb) | (with_reducible refine wcond_cases ?_ ?_ <;> intro hb) | (with_reducible refine qd_i (by kernel_rfl) ?_) | (with_reducible refine W_itn_cases ?_ ?_; omega))
  refine W_hp (nFirst_ok _ _ _) ?_
  rintro _ ⟨st1, nx1, rfl, h1, k1⟩
  have e1 : st1 nx = some (.cells [.i64 0, .i64 0]) := by rw [k1 nx (by omega)]; simp [upds, upd]
  repeat' (first | (simp -implicitDefEqProofs only [ze, zd, zr, simprocAttr, LR_pl, LR_hp, LR_hm, cunr_n, cunr_x, cunr_r, cunr_p, List.any_cons, List.any_nil, List.flatten_cons, List.flatten_nil, List.replicate_succ, List.replicate_zero, Bool.or_false, Bool.false_or, List.flatMap_cons, List.flatMap_nil, e1]) | (with_reducible refine wgd_cases ?_ ?_ <;> intro hb) | (with_reducible refine wcond_cases ?_ ?_ <;> intro hb) | (with_reducible refine qd_i (by kernel_rfl) ?_) | (with_reducible refine W_itn_cases ?_ ?_; omega))
  refine .of (by omega) fun i hi => ?_
  simp (disch := omega) only [upds, upd, List.foldl_cons, List.foldl_nil, if_neg]
  rw [k1 i (by omega)]
  simp (disch := omega) only [upds, upd, List.foldl_cons, List.foldl_nil, if_neg]
theorem nClose_ok (s u : ByteArray) (st : St) (nx : Nat) : W (L.hp 19 [.sc (.pointer none), .str s, .str u] st nx) (Still st nx (.i64 1)) := by
  refine hp_r k19_eq ?_
  simp only [k19]
  repeat' (first | (simp -implicitDefEqProofs only [ze, zd, zr, simprocAttr, LR_pl, LR_hp, LR_hm, cunr_n, cunr_x, cunr_r, cunr_p, List.any_cons, List.any_nil, List.flatten_cons, List.flatten_nil, List.replicate_succ, List.replicate_zero, Bool.or_false, Bool.false_or, List.flatMap_cons, List.flatMap_nil]) | (with_reducible refine wgd_cases ?_ ?_ <;> intro hb) | (with_reducible refine wcond_cases ?_ ?_ <;> intro hb) | (with_reducible refine qd_i (by kernel_rfl) ?_) | (with_reducible refine W_itn_cases ?_ ?_; omega))
  refine W_hp (nBegin_ok _ _ _ _) ?_
  rintro _ ⟨st1, nx1, rfl, h1, k1⟩
  repeat' (first | (simp -implicitDefEqProofs only [ze, zd, zr, simprocAttr, LR_pl, LR_hp, LR_hm, cunr_n, cunr_x, cunr_r, cunr_p, List.any_cons, List.any_nil, List.flatten_cons, List.flatten_nil, List.replicate_succ, List.replicate_zero, Bool.or_false, Bool.false_or, List.flatMap_cons, List.flatMap_nil]) | (with_reducible refine wgd_cases ?_ ?_ <;> intro hb) | (with_reducible refine wcond_cases ?_ ?_ <;> intro hb) | (with_reducible refine qd_i (by kernel_rfl) ?_) | (with_reducible refine W_itn_cases ?_ ?_; omega))
  refine .of (by omega) fun i hi => ?_
  simp (disch := omega) only [upds, upd, List.foldl_cons, List.foldl_nil, if_neg]
  rw [k1 i (by omega)]
theorem nAsk_ok (s u : ByteArray) (st : St) (nx : Nat) : W (L.hp 27 [.sc (.pointer none), .str s, .str u] st nx) (Still st nx (.i64 1)) := by
  refine hp_r k27_eq ?_
  simp only [k27]
  repeat' (first | (simp -implicitDefEqProofs only [ze, zd, zr, simprocAttr, LR_pl, LR_hp, LR_hm, cunr_n, cunr_x, cunr_r, cunr_p, List.any_cons, List.any_nil, List.flatten_cons, List.flatten_nil, List.replicate_succ, List.replicate_zero, Bool.or_false, Bool.false_or, List.flatMap_cons, List.flatMap_nil]) | (with_reducible refine wgd_cases ?_ ?_ <;> intro hb) | (with_reducible refine wcond_cases ?_ ?_ <;> intro hb) | (with_reducible refine qd_i (by kernel_rfl) ?_) | (with_reducible refine W_itn_cases ?_ ?_; omega))
  refine W_hp (nBegin_ok _ _ _ _) ?_
  rintro _ ⟨st1, nx1, rfl, h1, k1⟩
  repeat' (first | (simp -implicitDefEqProofs only [ze, zd, zr, simprocAttr, LR_pl, LR_hp, LR_hm, cunr_n, cunr_x, cunr_r, cunr_p, List.any_cons, List.any_nil, List.flatten_cons, List.flatten_nil, List.replicate_succ, List.replicate_zero, Bool.or_false, Bool.false_or, List.flatMap_cons, List.flatMap_nil]) | (with_reducible refine wgd_cases ?_ ?_ <;> intro hb) | (with_reducible refine wcond_cases ?_ ?_ <;> intro hb) | (with_reducible refine qd_i (by kernel_rfl) ?_) | (with_reducible refine W_itn_cases ?_ ?_; omega))
  refine .of (by omega) fun i hi => ?_
  simp (disch := omega) only [upds, upd, List.foldl_cons, List.foldl_nil, if_neg]
  rw [k1 i (by omega)]
theorem nReopen_ok (s u : ByteArray) (st : St) (nx : Nat) : W (L.hp 28 [.sc (.pointer none), .str s, .str u] st nx) (Still st nx (.i64 1)) := by
  refine hp_r k28_eq ?_
  simp only [k28]
  repeat' (first | (simp -implicitDefEqProofs only [ze, zd, zr, simprocAttr, LR_pl, LR_hp, LR_hm, cunr_n, cunr_x, cunr_r, cunr_p, List.any_cons, List.any_nil, List.flatten_cons, List.flatten_nil, List.replicate_succ, List.replicate_zero, Bool.or_false, Bool.false_or, List.flatMap_cons, List.flatMap_nil]) | (with_reducible refine wgd_cases ?_ ?_ <;> intro hb) | (with_reducible refine wcond_cases ?_ ?_ <;> intro hb) | (with_reducible refine qd_i (by kernel_rfl) ?_) | (with_reducible refine W_itn_cases ?_ ?_; omega))
  refine W_hp (nBegin_ok _ _ _ _) ?_
  rintro _ ⟨st1, nx1, rfl, h1, k1⟩
  repeat' (first | (simp -implicitDefEqProofs only [ze, zd, zr, simprocAttr, LR_pl, LR_hp, LR_hm, cunr_n, cunr_x, cunr_r, cunr_p, List.any_cons, List.any_nil, List.flatten_cons, List.flatten_nil, List.replicate_succ, List.replicate_zero, Bool.or_false, Bool.false_or, List.flatMap_cons, List.flatMap_nil]) | (with_reducible refine wgd_cases ?_ ?_ <;> intro hb) | (with_reducible refine wcond_cases ?_ ?_ <;> intro hb) | (with_reducible refine qd_i (by kernel_rfl) ?_) | (with_reducible refine W_itn_cases ?_ ?_; omega))
  refine .of (by omega) fun i hi => ?_
  simp (disch := omega) only [upds, upd, List.foldl_cons, List.foldl_nil, if_neg]
  rw [k1 i (by omega)]
theorem nState_ok (s : ByteArray) (y n : Int) (st : St) (nx : Nat) : W (L.hp 26 [.sc (.pointer none), .str s, .agg [.i64 y, .i64 n]] st nx) (Still st nx (.i64 0)) := by
  refine hp_r k26_eq ?_
  simp only [k26]
  repeat' (first | (simp -implicitDefEqProofs only [ze, zd, zr, simprocAttr, LR_pl, LR_hp, LR_hm, cunr_n, cunr_x, cunr_r, cunr_p, List.any_cons, List.any_nil, List.flatten_cons, List.flatten_nil, List.replicate_succ, List.replicate_zero, Bool.or_false, Bool.false_or, List.flatMap_cons, List.flatMap_nil]) | (with_reducible refine wgd_cases ?_ ?_ <;> intro hb) | (with_reducible refine wcond_cases ?_ ?_ <;> intro hb) | (with_reducible refine qd_i (by kernel_rfl) ?_) | (with_reducible refine W_itn_cases ?_ ?_; omega))
  refine W_hp (nFirst_ok _ _ _) ?_
  rintro _ ⟨st1, nx1, rfl, h1, k1⟩
  repeat' (first | (simp -implicitDefEqProofs only [ze, zd, zr, simprocAttr, LR_pl, LR_hp, LR_hm, cunr_n, cunr_x, cunr_r, cunr_p, List.any_cons, List.any_nil, List.flatten_cons, List.flatten_nil, List.replicate_succ, List.replicate_zero, Bool.or_false, Bool.false_or, List.flatMap_cons, List.flatMap_nil]) | (with_reducible refine wgd_cases ?_ ?_ <;> intro hb) | (with_reducible refine wcond_cases ?_ ?_ <;> intro hb) | (with_reducible refine qd_i (by kernel_rfl) ?_) | (with_reducible refine W_itn_cases ?_ ?_; omega))
  refine .of (by omega) fun i hi => ?_
  simp (disch := omega) only [upds, upd, List.foldl_cons, List.foldl_nil, if_neg]
  rw [k1 i (by omega)]
  simp (disch := omega) only [upds, upd, List.foldl_cons, List.foldl_nil, if_neg]
theorem nAllow_ok (s : ByteArray) (d k : Int) (st : St) (nx : Nat) : W (L.hp 20 [.sc (.pointer none), .str s, .i64 d, .i64 k] st nx) (Still st nx (.i64 1)) := by
  refine hp_r k20_eq ?_
  simp only [k20]
  repeat' (first | (simp -implicitDefEqProofs only [ze, zd, zr, simprocAttr, LR_pl, LR_hp, LR_hm, cunr_n, cunr_x, cunr_r, cunr_p, List.any_cons, List.any_nil, List.flatten_cons, List.flatten_nil, List.replicate_succ, List.replicate_zero, Bool.or_false, Bool.false_or, List.flatMap_cons, List.flatMap_nil]) | (with_reducible refine wgd_cases ?_ ?_ <;> intro hb) | (with_reducible refine wcond_cases ?_ ?_ <;> intro hb) | (with_reducible refine qd_i (by kernel_rfl) ?_) | (with_reducible refine W_itn_cases ?_ ?_; omega))
  refine W_hp (nFirst_ok _ _ _) ?_
  rintro _ ⟨st1, nx1, rfl, h1, k1⟩
  repeat' (first | (simp -implicitDefEqProofs only [ze, zd, zr, simprocAttr, LR_pl, LR_hp, LR_hm, cunr_n, cunr_x, cunr_r, cunr_p, List.any_cons, List.any_nil, List.flatten_cons, List.flatten_nil, List.replicate_succ, List.replicate_zero, Bool.or_false, Bool.false_or, List.flatMap_cons, List.flatMap_nil]) | (with_reducible refine wgd_cases ?_ ?_ <;> intro hb) | (with_reducible refine wcond_cases ?_ ?_ <;> intro hb) | (with_reducible refine qd_i (by kernel_rfl) ?_) | (with_reducible refine W_itn_cases ?_ ?_; omega))
  refine .of (by omega) fun i hi => ?_
  simp (disch := omega) only [upds, upd, List.foldl_cons, List.foldl_nil, if_neg]
  rw [k1 i (by omega)]
theorem nCal_ok (st : St) (nx : Nat) : W (L.hp 22 [.sc (.pointer none)] st nx) (Still st nx (.agg [.i64 0])) := by
  refine hp_r k22_eq ?_
  simp only [k22]
  repeat' (first | (simp -implicitDefEqProofs only [ze, zd, zr, simprocAttr, LR_pl, LR_hp, LR_hm, cunr_n, cunr_x, cunr_r, cunr_p, List.any_cons, List.any_nil, List.flatten_cons, List.flatten_nil, List.replicate_succ, List.replicate_zero, Bool.or_false, Bool.false_or, List.flatMap_cons, List.flatMap_nil]) | (with_reducible refine wgd_cases ?_ ?_ <;> intro hb) | (with_reducible refine wcond_cases ?_ ?_ <;> intro hb) | (with_reducible refine qd_i (by kernel_rfl) ?_) | (with_reducible refine W_itn_cases ?_ ?_; omega))
  refine .of (by omega) fun i hi => ?_
  simp (disch := omega) only [upds, upd, List.foldl_cons, List.foldl_nil, if_neg]
theorem nEnt_ok (st : St) (nx : Nat) : W (L.hp 24 [.sc (.pointer none)] st nx) (Still st nx (.list 0 [] 1)) := by
  refine hp_r k24_eq ?_
  simp only [k24]
  repeat' (first | (simp -implicitDefEqProofs only [ze, zd, zr, simprocAttr, LR_pl, LR_hp, LR_hm, cunr_n, cunr_x, cunr_r, cunr_p, List.any_cons, List.any_nil, List.flatten_cons, List.flatten_nil, List.replicate_succ, List.replicate_zero, Bool.or_false, Bool.false_or, List.flatMap_cons, List.flatMap_nil]) | (with_reducible refine wgd_cases ?_ ?_ <;> intro hb) | (with_reducible refine wcond_cases ?_ ?_ <;> intro hb) | (with_reducible refine qd_i (by kernel_rfl) ?_) | (with_reducible refine W_itn_cases ?_ ?_; omega))
  exact .of (by omega) fun i hi => rfl
theorem nEv_ok (st : St) (nx : Nat) : W (L.hp 17 [.sc (.pointer none)] st nx) (Still st nx (.list 0 [] 1)) := by
  refine hp_r k17_eq ?_
  simp only [k17]
  repeat' (first | (simp -implicitDefEqProofs only [ze, zd, zr, simprocAttr, LR_pl, LR_hp, LR_hm, cunr_n, cunr_x, cunr_r, cunr_p, List.any_cons, List.any_nil, List.flatten_cons, List.flatten_nil, List.replicate_succ, List.replicate_zero, Bool.or_false, Bool.false_or, List.flatMap_cons, List.flatMap_nil]) | (with_reducible refine wgd_cases ?_ ?_ <;> intro hb) | (with_reducible refine wcond_cases ?_ ?_ <;> intro hb) | (with_reducible refine qd_i (by kernel_rfl) ?_) | (with_reducible refine W_itn_cases ?_ ?_; omega))
  exact .of (by omega) fun i hi => rfl
theorem knil_ok (s u : ByteArray) (y n d k : Int) : L.pl 8 [.str s, .str u, .agg [.i64 y, .i64 n], .i64 d, .i64 k] = some (.ret (.bool true)) := by
  refine W_of (pl_r k8_eq ?_)
  simp only [k8]
  repeat' (first | (simp -implicitDefEqProofs only [ze, zd, zr, simprocAttr, LR_pl, LR_hp, LR_hm, cunr_n, cunr_x, cunr_r, cunr_p, List.any_cons, List.any_nil, List.flatten_cons, List.flatten_nil, List.replicate_succ, List.replicate_zero, Bool.or_false, Bool.false_or, List.flatMap_cons, List.flatMap_nil]) | (with_reducible refine wgd_cases ?_ ?_ <;> intro hb) | (with_reducible refine wcond_cases ?_ ?_ <;> intro hb) | (with_reducible refine qd_i (by kernel_rfl) ?_) | (with_reducible refine W_itn_cases ?_ ?_; omega))
  refine W_hp (nFirst_ok _ _ _) ?_
  rintro _ ⟨st1, nx1, rfl, h1, k1⟩
  have e8 : st1 8 = some (.cells [.i64 y, .i64 n]) := by rw [k1 8 (by omega)]; simp [upds, upd]
  repeat' (first | (simp -implicitDefEqProofs only [ze, zd, zr, simprocAttr, LR_pl, LR_hp, LR_hm, cunr_n, cunr_x, cunr_r, cunr_p, List.any_cons, List.any_nil, List.flatten_cons, List.flatten_nil, List.replicate_succ, List.replicate_zero, Bool.or_false, Bool.false_or, List.flatMap_cons, List.flatMap_nil, e8]) | (with_reducible refine wgd_cases ?_ ?_ <;> intro hb) | (with_reducible refine wcond_cases ?_ ?_ <;> intro hb) | (with_reducible refine qd_i (by kernel_rfl) ?_) | (with_reducible refine W_itn_cases ?_ ?_; omega))
  refine W_hp (nCal_ok _ _) ?_
  rintro _ ⟨st2, nx2, rfl, h2, k2⟩
  have e8 : st2 8 = some (.cells [.i64 y, .i64 n]) := by rw [k2 8 (by omega)]; first | (simp [upds, upd, e8]; done) | exact e8
  have e80 : st2 80 = some (.cells [.i64 0, .i64 0]) := by rw [k2 80 (by omega)]; first | (simp [upds, upd]; done) | exact e80
  repeat' (first | (simp -implicitDefEqProofs only [ze, zd, zr, simprocAttr, LR_pl, LR_hp, LR_hm, cunr_n, cunr_x, cunr_r, cunr_p, List.any_cons, List.any_nil, List.flatten_cons, List.flatten_nil, List.replicate_succ, List.replicate_zero, Bool.or_false, Bool.false_or, List.flatMap_cons, List.flatMap_nil, e8, e80, klives_ok]) | (with_reducible refine wgd_cases ?_ ?_ <;> intro hb) | (with_reducible refine wcond_cases ?_ ?_ <;> intro hb) | (with_reducible refine qd_i (by kernel_rfl) ?_) | (with_reducible refine W_itn_cases ?_ ?_; omega))
  refine W_hp (nEnt_ok _ _) ?_
  rintro _ ⟨st3, nx3, rfl, h3, k3⟩
  have e8 : st3 8 = some (.cells [.i64 y, .i64 n]) := by rw [k3 8 (by omega)]; first | (simp [upds, upd, e8]; done) | exact e8
  have e80 : st3 80 = some (.cells [.i64 0, .i64 0]) := by rw [k3 80 (by omega)]; first | (simp [upds, upd]; done) | exact e80
  repeat' (first | (simp -implicitDefEqProofs only [ze, zd, zr, simprocAttr, LR_pl, LR_hp, LR_hm, cunr_n, cunr_x, cunr_r, cunr_p, List.any_cons, List.any_nil, List.flatten_cons, List.flatten_nil, List.replicate_succ, List.replicate_zero, Bool.or_false, Bool.false_or, List.flatMap_cons, List.flatMap_nil, e8, e80, klives_ok]) | (with_reducible refine wgd_cases ?_ ?_ <;> intro hb) | (with_reducible refine wcond_cases ?_ ?_ <;> intro hb) | (with_reducible refine qd_i (by kernel_rfl) ?_) | (with_reducible refine W_itn_cases ?_ ?_; omega))
  refine W_hp (nState_ok _ _ _ _ _) ?_
  rintro _ ⟨st4, nx4, rfl, h4, k4⟩
  have e8 : st4 8 = some (.cells [.i64 y, .i64 n]) := by rw [k4 8 (by omega)]; first | (simp [upds, upd, e8]; done) | exact e8
  have e80 : st4 80 = some (.cells [.i64 0, .i64 0]) := by rw [k4 80 (by omega)]; first | (simp [upds, upd]; done) | exact e80
  repeat' (first | (simp -implicitDefEqProofs only [ze, zd, zr, simprocAttr, LR_pl, LR_hp, LR_hm, cunr_n, cunr_x, cunr_r, cunr_p, List.any_cons, List.any_nil, List.flatten_cons, List.flatten_nil, List.replicate_succ, List.replicate_zero, Bool.or_false, Bool.false_or, List.flatMap_cons, List.flatMap_nil, e8, e80, klives_ok]) | (with_reducible refine wgd_cases ?_ ?_ <;> intro hb) | (with_reducible refine wcond_cases ?_ ?_ <;> intro hb) | (with_reducible refine qd_i (by kernel_rfl) ?_) | (with_reducible refine W_itn_cases ?_ ?_; omega))
  refine W_hp (nClose_ok _ _ _ _) ?_
  rintro _ ⟨st5, nx5, rfl, h5, k5⟩
  have e8 : st5 8 = some (.cells [.i64 y, .i64 n]) := by rw [k5 8 (by omega)]; first | (simp [upds, upd, e8]; done) | exact e8
  have e80 : st5 80 = some (.cells [.i64 0, .i64 0]) := by rw [k5 80 (by omega)]; first | (simp [upds, upd]; done) | exact e80
  repeat' (first | (simp -implicitDefEqProofs only [ze, zd, zr, simprocAttr, LR_pl, LR_hp, LR_hm, cunr_n, cunr_x, cunr_r, cunr_p, List.any_cons, List.any_nil, List.flatten_cons, List.flatten_nil, List.replicate_succ, List.replicate_zero, Bool.or_false, Bool.false_or, List.flatMap_cons, List.flatMap_nil, e8, e80, klives_ok]) | (with_reducible refine wgd_cases ?_ ?_ <;> intro hb) | (with_reducible refine wcond_cases ?_ ?_ <;> intro hb) | (with_reducible refine qd_i (by kernel_rfl) ?_) | (with_reducible refine W_itn_cases ?_ ?_; omega))
  refine W_hp (nAsk_ok _ _ _ _) ?_
  rintro _ ⟨st6, nx6, rfl, h6, k6⟩
  have e8 : st6 8 = some (.cells [.i64 y, .i64 n]) := by rw [k6 8 (by omega)]; first | (simp [upds, upd, e8]; done) | exact e8
  have e80 : st6 80 = some (.cells [.i64 0, .i64 0]) := by rw [k6 80 (by omega)]; first | (simp [upds, upd]; done) | exact e80
  repeat' (first | (simp -implicitDefEqProofs only [ze, zd, zr, simprocAttr, LR_pl, LR_hp, LR_hm, cunr_n, cunr_x, cunr_r, cunr_p, List.any_cons, List.any_nil, List.flatten_cons, List.flatten_nil, List.replicate_succ, List.replicate_zero, Bool.or_false, Bool.false_or, List.flatMap_cons, List.flatMap_nil, e8, e80, klives_ok]) | (with_reducible refine wgd_cases ?_ ?_ <;> intro hb) | (with_reducible refine wcond_cases ?_ ?_ <;> intro hb) | (with_reducible refine qd_i (by kernel_rfl) ?_) | (with_reducible refine W_itn_cases ?_ ?_; omega))
  refine W_hp (nReopen_ok _ _ _ _) ?_
  rintro _ ⟨st7, nx7, rfl, h7, k7⟩
  have e8 : st7 8 = some (.cells [.i64 y, .i64 n]) := by rw [k7 8 (by omega)]; first | (simp [upds, upd, e8]; done) | exact e8
  have e80 : st7 80 = some (.cells [.i64 0, .i64 0]) := by rw [k7 80 (by omega)]; first | (simp [upds, upd]; done) | exact e80
  repeat' (first | (simp -implicitDefEqProofs only [ze, zd, zr, simprocAttr, LR_pl, LR_hp, LR_hm, cunr_n, cunr_x, cunr_r, cunr_p, List.any_cons, List.any_nil, List.flatten_cons, List.flatten_nil, List.replicate_succ, List.replicate_zero, Bool.or_false, Bool.false_or, List.flatMap_cons, List.flatMap_nil, e8, e80, klives_ok]) | (with_reducible refine wgd_cases ?_ ?_ <;> intro hb) | (with_reducible refine wcond_cases ?_ ?_ <;> intro hb) | (with_reducible refine qd_i (by kernel_rfl) ?_) | (with_reducible refine W_itn_cases ?_ ?_; omega))
  refine W_hp (nAllow_ok _ _ _ _ _) ?_
  rintro _ ⟨st8, nx8, rfl, h8, k8⟩
  have e8 : st8 8 = some (.cells [.i64 y, .i64 n]) := by rw [k8 8 (by omega)]; first | (simp [upds, upd, e8]; done) | exact e8
  have e80 : st8 80 = some (.cells [.i64 0, .i64 0]) := by rw [k8 80 (by omega)]; first | (simp [upds, upd]; done) | exact e80
  repeat' (first | (simp -implicitDefEqProofs only [ze, zd, zr, simprocAttr, LR_pl, LR_hp, LR_hm, cunr_n, cunr_x, cunr_r, cunr_p, List.any_cons, List.any_nil, List.flatten_cons, List.flatten_nil, List.replicate_succ, List.replicate_zero, Bool.or_false, Bool.false_or, List.flatMap_cons, List.flatMap_nil, e8, e80, klives_ok]) | (with_reducible refine wgd_cases ?_ ?_ <;> intro hb) | (with_reducible refine wcond_cases ?_ ?_ <;> intro hb) | (with_reducible refine qd_i (by kernel_rfl) ?_) | (with_reducible refine W_itn_cases ?_ ?_; omega))
  refine W_hp (nEv_ok _ _) ?_
  rintro _ ⟨st9, nx9, rfl, h9, k9⟩
  have e8 : st9 8 = some (.cells [.i64 y, .i64 n]) := by rw [k9 8 (by omega)]; first | (simp [upds, upd, e8]; done) | exact e8
  have e80 : st9 80 = some (.cells [.i64 0, .i64 0]) := by rw [k9 80 (by omega)]; first | (simp [upds, upd]; done) | exact e80
  repeat' (first | (simp -implicitDefEqProofs only [ze, zd, zr, simprocAttr, LR_pl, LR_hp, LR_hm, cunr_n, cunr_x, cunr_r, cunr_p, List.any_cons, List.any_nil, List.flatten_cons, List.flatten_nil, List.replicate_succ, List.replicate_zero, Bool.or_false, Bool.false_or, List.flatMap_cons, List.flatMap_nil, e8, e80, klives_ok]) | (with_reducible refine wgd_cases ?_ ?_ <;> intro hb) | (with_reducible refine wcond_cases ?_ ?_ <;> intro hb) | (with_reducible refine qd_i (by kernel_rfl) ?_) | (with_reducible refine W_itn_cases ?_ ?_; omega))
  all_goals first | rfl | (cases hb)
end Go.Proofs.YthgmhlpjbednpaaDoor.Vm
namespace Go.Proofs.YthgmhlpjbednpaaDoor.locksNil
open Go.ChangeShapes Go.WideShapes Go.ChangeAt Go.RowKit Go.Proofs Go.Proofs.YthgmhlpjbednpaaDoor.Vm
set_option linter.unusedVariables false
theorem own : ownKnob Tryd.prog.godebug = none := by kernel_rfl
theorem laidOut : laidOutB Tryd.prog = true := by kernel_rfl
set_option maxRecDepth 100000 in
theorem door_met (os : Os) (args : Array Value) : laidMetH Tryd.prog Rows.locksNilRow.laid ((World.doorLaid Tryd.prog 400 os).forCall (fun _ _ => 0) ⟨#[], args, []⟩).memory :=
  laidMetH_of_parts3 (fuel := 8) (laidMet_of_run' 8 (by kernel_rfl) (by kernel_rfl)) (by kernel_rfl) (by kernel_rfl)
set_option maxRecDepth 100000 in
theorem lifted (os : Os) (started : os.Started) (H : Type) (enc : TypeId × Value → H) :
    ReturnsInHanded {} Tryd.checked os 8 .any (fun w args => (Rows.locksNilSpec.pre enc Tryd.prog Tryd.f8 [] false w args ∧ laidMetH Tryd.prog Rows.locksNilRow.laid w) ∧ sizedMet enc Tryd.prog Tryd.f8 (OpenSpec.ofChange Rows.locksNilSpec) false w args) (Rows.locksNilSpec.post enc Tryd.prog Tryd.f8 false true false false) := by
  refine returnsInHanded_of_change_and (C := Tryd.checked) (X := fun w _ => laidMetH Tryd.prog Rows.locksNilRow.laid w) (fun _ _ _ hh h => h.of_heap hh) own started (by kernel_rfl) Tryd.func8
    (ChangeSpec.witness_shaped (enc := enc) (C := Tryd.checked) (os := os) (X := fun w _ => laidMetH Tryd.prog Rows.locksNilRow.laid w) false (World.doorLaid Tryd.prog 400 os) #[.string ByteArray.empty, .string ByteArray.empty, .agg #[.int .i64 0, .int .i64 0], .int .i64 0, .int .i64 0] 8 rfl (World.shaped_of_RefB (by kernel_rfl) (by kernel_rfl)) (by kernel_rfl) (by kernel_rfl) (by kernel_rfl) (door_met os _)) ?_
  intro W base args ds gs before hval0 hW hcnd hsz0 hL _
  have hval : ∀ (j : Nat) t v, Tryd.f8.params[j]? = some t → args[j]? = some v → Value.okWide Tryd.prog W .any base t v := hval0
  have hW' := hW
  obtain ⟨p, q, hA0, hV, rfl, hfz, hnd⟩ := hW
  have hA : DataW.TrodAll enc Tryd.prog W 0 (fun _ => true) true Tryd.f8.params.toList args.toList ds p := hA0
  rw [Tryd.params8] at hA hval
  obtain ⟨v0, vs0, d0, ds0, p0, q0, hargs, rfl, rfl, h0, r0⟩ := trodAll_cons hA
  obtain ⟨v1, vs1, d1, ds1, p1, q1, rfl, rfl, rfl, h1, r1⟩ := trodAll_cons r0
  obtain ⟨v2, vs2, d2, ds2, p2, q2, rfl, rfl, rfl, h2, r2⟩ := trodAll_cons r1
  obtain ⟨v3, vs3, d3, ds3, p3, q3, rfl, rfl, rfl, h3, r3⟩ := trodAll_cons r2
  obtain ⟨v4, vs4, d4, ds4, p4, q4, rfl, rfl, rfl, h4, r4⟩ := trodAll_cons r3
  obtain ⟨rfl, rfl, rfl⟩ := trodAll_nil r4
  obtain rfl : args = #[v0, v1, v2, v3, v4] := by cases args; simp_all
  obtain ⟨rfl, rfl⟩ := trodVars_none hV
  have hw0 : ∀ n ∈ d0.weights Tryd.prog 9, n ≤ reachBytes := fun n hn => by have := List.all_eq_true.1 hsz0 n (DataW.weights_mem_each (t := 9) (d := d0) (j := 0) (by kernel_rfl) rfl n hn); simpa using this
  have k0 := h0
  have lt0 : ∀ x ∈ p0, x.block < W.heap.size := by obtain ⟨m, hm⟩ := k0; exact DataW.trod_lt m _ _ _ hm
  obtain ⟨n0, rfl⟩ := okWide_string Tryd.underlying9 (hval 0 9 v0 rfl rfl)
  obtain ⟨fuel0, hf0⟩ := h0
  obtain ⟨x0, K0, o0, g0⟩ := opV_string Tryd.underlying9 hf0 hw0
  have R0 : RepP Tryd.prog (pw W) (V.str x0) (.string n0) := by
    cases K0 with
    | cons h _ => exact h
  have hw1 : ∀ n ∈ d1.weights Tryd.prog 9, n ≤ reachBytes := fun n hn => by have := List.all_eq_true.1 hsz0 n (DataW.weights_mem_each (t := 9) (d := d1) (j := 1) (by kernel_rfl) rfl n hn); simpa using this
  have k1 := h1
  have lt1 : ∀ x ∈ p1, x.block < W.heap.size := by obtain ⟨m, hm⟩ := k1; exact DataW.trod_lt m _ _ _ hm
  obtain ⟨n1, rfl⟩ := okWide_string Tryd.underlying9 (hval 1 9 v1 rfl rfl)
  obtain ⟨fuel1, hf1⟩ := h1
  obtain ⟨x1, K1, o1, g1⟩ := opV_string Tryd.underlying9 hf1 hw1
  have R1 : RepP Tryd.prog (pw W) (V.str x1) (.string n1) := by
    cases K1 with
    | cons h _ => exact h
  have hw2 : ∀ n ∈ d2.weights Tryd.prog 25, n ≤ reachBytes := fun n hn => by have := List.all_eq_true.1 hsz0 n (DataW.weights_mem_each (t := 25) (d := d2) (j := 2) (by kernel_rfl) rfl n hn); simpa using this
  have k2 := h2
  have lt2 : ∀ x ∈ p2, x.block < W.heap.size := by obtain ⟨m, hm⟩ := k2; exact DataW.trod_lt m _ _ _ hm
  obtain ⟨cs2, rfl, hzz2⟩ := okWide_struct Tryd.underlying25 (hval 2 25 v2 rfl rfl)
  obtain ⟨fuel2, hf2⟩ := h2
  obtain ⟨x2, K2, o2, g2⟩ := opPer hf2 hw2
  have R2 : RepP Tryd.prog (pw W) (encPer x2) (.agg cs2) := by
    have e : (.agg cs2 : Value) = .agg cs2.toList.toArray := by simp
    rw [e]; exact .agg o2 K2
  have hw3 : ∀ n ∈ d3.weights Tryd.prog 3, n ≤ reachBytes := fun n hn => by have := List.all_eq_true.1 hsz0 n (DataW.weights_mem_each (t := 3) (d := d3) (j := 3) (by kernel_rfl) rfl n hn); simpa using this
  have k3 := h3
  have lt3 : ∀ x ∈ p3, x.block < W.heap.size := by obtain ⟨m, hm⟩ := k3; exact DataW.trod_lt m _ _ _ hm
  obtain ⟨n3, rfl⟩ := okWide_int Tryd.underlying3 (hval 3 3 v3 rfl rfl)
  obtain ⟨fuel3, hf3⟩ := h3
  obtain ⟨x3, K3, o3, g3⟩ := opV_int Tryd.underlying3 hf3 hw3
  have R3 : RepP Tryd.prog (pw W) (V.i64 x3) (.int .i64 n3) := by
    cases K3 with
    | cons h _ => exact h
  have hw4 : ∀ n ∈ d4.weights Tryd.prog 3, n ≤ reachBytes := fun n hn => by have := List.all_eq_true.1 hsz0 n (DataW.weights_mem_each (t := 3) (d := d4) (j := 4) (by kernel_rfl) rfl n hn); simpa using this
  have k4 := h4
  have lt4 : ∀ x ∈ p4, x.block < W.heap.size := by obtain ⟨m, hm⟩ := k4; exact DataW.trod_lt m _ _ _ hm
  obtain ⟨n4, rfl⟩ := okWide_int Tryd.underlying3 (hval 4 3 v4 rfl rfl)
  obtain ⟨fuel4, hf4⟩ := h4
  obtain ⟨x4, K4, o4, g4⟩ := opV_int Tryd.underlying3 hf4 hw4
  have R4 : RepP Tryd.prog (pw W) (V.i64 x4) (.int .i64 n4) := by
    cases K4 with
    | cons h _ => exact h
  have hx := knil_ok x0 x1 x2.1 x2.2 x3 x4
  refine (lim_bool (p := pw W) progOK extS_ok (f := 8) (by kernel_rfl) hx (glOK_of (lens_of_laid hL)) (fun _ _ _ h => h) (.cons R0 (.cons R1 (.cons R2 (.cons R3 (.cons R4 .nil)))))).mono fun e W' ⟨he, bel0⟩ => ?_
  have bel : Below W.heap.size W W' := bel0
  subst he
  exact ⟨_, rfl, _, _, _, [], _, [], hW', trodAll_mk1 (shut_bool Tryd.underlying4 _), (trodAll_cons_mk (Below.trod laidOut (by kernel_rfl) (of_decide_eq_true (by kernel_rfl)) k0 bel lt0) (trodAll_cons_mk (Below.trod laidOut (by kernel_rfl) (of_decide_eq_true (by kernel_rfl)) k1 bel lt1) (trodAll_cons_mk (Below.trod laidOut (by kernel_rfl) (of_decide_eq_true (by kernel_rfl)) k2 bel lt2) (trodAll_cons_mk (Below.trod laidOut (by kernel_rfl) (of_decide_eq_true (by kernel_rfl)) k3 bel lt3) (trodAll_cons_mk (Below.trod laidOut (by kernel_rfl) (of_decide_eq_true (by kernel_rfl)) k4 bel lt4) trodAll_mk0))))), rfl, bel.frame _, fun h => by cases h⟩
theorem over : Rows.locksNilRow.holds Tryd.pinned (OpenSpec.ofChange Rows.locksNilSpec) :=
  OpenClaim.holds_of_wide 8 Tryd.f8 rfl rfl rfl rfl rfl rfl rfl ⟨rfl, rfl, rfl, rfl, rfl⟩ rfl rfl rfl rfl rfl (by kernel_rfl) Tryd.func8 (by kernel_rfl)
    (of_decide_eq_true (by kernel_rfl)) (by unfold Func.isWrapper; first | (rw [if_pos (by decide +kernel)]; kernel_rfl) | (rw [if_neg (by decide +kernel)]; exact ⟨rfl, rfl⟩))
    (fun os started H enc _ => lifted os started H enc)
theorem proved : Rows.LocksNilCardSaid :=
  Claim7.holds_tied_plain_at .later [] [.data] true (true, "5efddb6f47badd170cfb6ec46cf8324222e7b3173b02ece8e79ed712f74b6ba8") false
    over (fun _ h => by cases h) (by kernel_rfl) (fun _ h => by cases h) locksNil_row_tie rfl ⟨rfl, rfl⟩ (by kernel_rfl) rfl
    (fun f fn hf hfn => by
      obtain rfl : f = 8 := Option.some.inj ((show Tryd.prog.funcNamed "accounting/accountinglaw16.LocksNil" = some 8 by kernel_rfl).symm.trans hf) |>.symm
      obtain rfl : fn = Tryd.f8 := (Option.some.inj (Tryd.func8.symm.trans hfn)).symm
      exact ⟨by kernel_rfl, fun j t ht => by
        rw [Tryd.params8] at ht
        have hm : t ∈ [9, 9, 25, 3, 3] := by simpa using Array.mem_of_getElem? ht
        have hall : ([9, 9, 25, 3, 3].all fun u => !Tryd.prog.wantsStandIn u) = true := by kernel_rfl
        exact (show Tryd.prog.wantsStandIn t = false by simpa using List.all_eq_true.1 hall t hm)⟩)
    (by kernel_rfl)
end Go.Proofs.YthgmhlpjbednpaaDoor.locksNil
namespace Go.Proofs.YthgmhlpjbednpaaDoor
theorem locksNil_holds : Rows.LocksNilCardSaid := locksNil.proved
end Go.Proofs.YthgmhlpjbednpaaDoor
