/- Proved here: the equations by which one reckons what is to hold. Conditions: none. -/
import Derived.Test.YtojbkakdhfmjmaaDoorVm25
import Derived.Laws.Bits64
set_option linter.unusedVariables false
set_option linter.unusedSimpArgs false
namespace Go.Proofs.YtojbkakdhfmjmaaDoor.Vm
open Go.RowKit
section
variable {P : Program} {E : Env} {Q : Ex → Fr → Prop} {fr : Fr} {tm : Nat → V} {st : St} {nx i0 m : Nat}
/-! ### What follows, kept shut until it is reached -/
def cseq (P : Program) (E : Env) (b : Y) (Q : Ex → Fr → Prop) (e : Ex) (fr : Fr) : Prop := e.cs (wc P E b Q fr) (Q e fr)
theorem cseq_n (b : Y) : cseq P E b Q .norm fr = wc P E b Q fr := rfl
theorem cseq_x (b : Y) (i : Nat) : cseq P E b Q (.exit i) fr = Q (.exit i) fr := rfl
theorem cseq_r (b : Y) : cseq P E b Q .ret fr = Q .ret fr := rfl
theorem cseq_p (b : Y) (v : V) : cseq P E b Q (.pan v) fr = Q (.pan v) fr := rfl
def cblk (id : Nat) (Q : Ex → Fr → Prop) (e : Ex) (fr : Fr) : Prop := e.blk id (Q .norm fr) (Q e fr)
theorem cblk_n (i : Nat) : cblk i Q .norm fr = Q .norm fr := rfl
theorem cblk_x (i j : Nat) : cblk i Q (.exit j) fr = if j = i then Q .norm fr else Q (.exit j) fr := rfl
theorem cblk_r (i : Nat) : cblk i Q .ret fr = Q .ret fr := rfl
theorem cblk_p (i : Nat) (v : V) : cblk i Q (.pan v) fr = Q (.pan v) fr := rfl
def qn (Q : Ex → Fr → Prop) (tm : Nat → V) (st : St) (nx : Nat) (_ : List Rec) : Prop := Q .norm ⟨tm, st, nx⟩
theorem qn_e (rs : List Rec) : qn Q tm st nx rs = Q .norm ⟨tm, st, nx⟩ := rfl
def qd (B : List Nat) (Q : Ex → Fr → Prop) (tm : Nat → V) (st : St) (nx : Nat) (rs : List Rec) : Prop := recsOk B rs = true ∧ Q .norm ⟨tm, st, nx⟩
theorem qd_i {B : List Nat} {rs : List Rec} (h1 : recsOk B rs = true) (h2 : Q .norm ⟨tm, st, nx⟩) : qd B Q tm st nx rs := ⟨h1, h2⟩
def qp (Q : Ex → Fr → Prop) (tm : Nat → V) (v : V) (st : St) (nx : Nat) : Prop := Q (.pan v) ⟨tm, st, nx⟩
def qf (_ : V) (_ : St) (_ : Nat) : Prop := False
def wcond (P : Program) (E : Env) (x y : Y) (Q : Ex → Fr → Prop) (fr : Fr) (v : V) : Prop := WB v (wc P E x Q fr) (wc P E y Q fr)
theorem wcond_t (x y : Y) : wcond P E x y Q fr (.sc (.bool true)) = wc P E x Q fr := by simp [wcond, WB]
theorem wcond_f (x y : Y) : wcond P E x y Q fr (.sc (.bool false)) = wc P E y Q fr := by simp [wcond, WB]
theorem wcond_b (x y : Y) (b : Bool) : wcond P E x y Q fr (.sc (.bool b)) = ((b = true → wc P E x Q fr) ∧ (b = false → wc P E y Q fr)) := rfl
theorem wc_skip : wc P E .skip Q fr = Q .norm fr := rfl
theorem wc_reg (ops : List KO) (m : Nat) : wc P E (.reg ops m none) Q ⟨tm, st, nx⟩ = wops P E false (qn Q) (qp Q tm) nx ops tm st (nx + 8 * m) [] := rfl
theorem wc_regd (ops : List KO) (m : Nat) (B : List Nat) : wc P E (.reg ops m (some B)) Q ⟨tm, st, nx⟩ = wops P E true (qd B Q) qf nx ops tm st (nx + 8 * m) [] := rfl
theorem wc_seq (a b : Y) : wc P E (.seq a b) Q fr = wc P E a (cseq P E b Q) fr := rfl
theorem wc_cond (c : A) (x y : Y) : wc P E (.cond c x y) Q ⟨tm, st, nx⟩ = wcond P E x y Q ⟨tm, st, nx⟩ (av tm c) := rfl
theorem wc_block (id : Nat) (b : Y) : wc P E (.block id b) Q fr = wc P E b (cblk id Q) fr := rfl
theorem wc_exit (id : Nat) : wc P E (.exit id) Q fr = Q (.exit id) fr := rfl
theorem wc_ret : wc P E .ret Q fr = Q .ret fr := rfl
variable {QR : (Nat → V) → St → Nat → List Rec → Prop} {QP : V → St → Nat → Prop} {tr : Bool} {acc : List Rec} {rest : List KO} {k : K} {d : Option Nat}
def wnx (P : Program) (E : Env) (tr : Bool) (Q : (Nat → V) → St → Nat → List Rec → Prop) (QP : V → St → Nat → Prop) (i0 : Nat) (rest : List KO) (d : Option Nat) (tm : Nat → V) (st : St) (nx : Nat) (acc : List Rec) : R → Prop
  | .val v δ rd => wops P E tr Q QP (i0 + 8) rest (putT tm d v) (upds δ st) nx (if tr then ⟨v, δ, rd, none⟩ :: acc else acc)
  | .big v st1 nx1 => wops P E tr Q QP (i0 + 8) rest (putT tm d v) st1 nx1 (if tr then ⟨v, [], [], some st1⟩ :: acc else acc)
  | .pan v => QP v st nx
  | .bpan v st nx => QP v st nx
theorem wnx_wr : wnx P E tr QR QP i0 rest d tm st nx acc = wr (fun v δ rd => wops P E tr QR QP (i0 + 8) rest (putT tm d v) (upds δ st) nx (if tr then ⟨v, δ, rd, none⟩ :: acc else acc))
      (fun v st1 nx1 => wops P E tr QR QP (i0 + 8) rest (putT tm d v) st1 nx1 (if tr then ⟨v, [], [], some st1⟩ :: acc else acc)) (fun v => QP v st nx) QP := by
  funext r; cases r <;> rfl
theorem wnx_v (v : V) (rd : List Nat) : wnx P E false QR QP i0 rest (some m) tm st nx acc (.val v [] rd) = wops P E false QR QP (i0 + 8) rest (upd tm m v) st nx acc := rfl
theorem wnx_vd (v : V) (rd : List Nat) (δ : List (Nat × Option Ob)) : wnx P E false QR QP i0 rest (some m) tm st nx acc (.val v δ rd) = wops P E false QR QP (i0 + 8) rest (upd tm m v) (upds δ st) nx acc := rfl
theorem wnx_n (v : V) (rd : List Nat) (δ : List (Nat × Option Ob)) : wnx P E false QR QP i0 rest none tm st nx acc (.val v δ rd) = wops P E false QR QP (i0 + 8) rest tm (upds δ st) nx acc := rfl
theorem wnx_tv (v : V) (rd : List Nat) : wnx P E true QR QP i0 rest (some m) tm st nx acc (.val v [] rd) = wops P E true QR QP (i0 + 8) rest (upd tm m v) st nx (⟨v, [], rd, none⟩ :: acc) := rfl
theorem wnx_tvd (v : V) (rd : List Nat) (δ : List (Nat × Option Ob)) : wnx P E true QR QP i0 rest (some m) tm st nx acc (.val v δ rd) = wops P E true QR QP (i0 + 8) rest (upd tm m v) (upds δ st) nx (⟨v, δ, rd, none⟩ :: acc) := rfl
theorem wnx_tn (v : V) (rd : List Nat) (δ : List (Nat × Option Ob)) : wnx P E true QR QP i0 rest none tm st nx acc (.val v δ rd) = wops P E true QR QP (i0 + 8) rest tm (upds δ st) nx (⟨v, δ, rd, none⟩ :: acc) := rfl
theorem wnx_b (v : V) (s : St) (n : Nat) : wnx P E false QR QP i0 rest (some m) tm st nx acc (.big v s n) = wops P E false QR QP (i0 + 8) rest (upd tm m v) s n acc := rfl
theorem wnx_bn (v : V) (s : St) (n : Nat) : wnx P E false QR QP i0 rest none tm st nx acc (.big v s n) = wops P E false QR QP (i0 + 8) rest tm s n acc := rfl
theorem wnx_p (v : V) : wnx P E tr QR QP i0 rest d tm st nx acc (.pan v) = QP v st nx := rfl
theorem wnx_bp (v : V) (s : St) (n : Nat) : wnx P E tr QR QP i0 rest d tm st nx acc (.bpan v s n) = QP v s n := rfl
theorem wops_nil : wops P E tr QR QP i0 [] tm st nx acc = QR tm st nx acc.reverse := rfl
theorem wops_c : wops P E tr QR QP i0 (⟨d, none, k⟩ :: rest) tm st nx acc = W (kop P E tm st i0 nx k) (wnx P E tr QR QP i0 rest d tm st nx acc) := by rw [wnx_wr]; rfl
def wgd (P : Program) (E : Env) (tr : Bool) (Q : (Nat → V) → St → Nat → List Rec → Prop) (QP : V → St → Nat → Prop) (i0 : Nat) (k : K) (rest : List KO) (d : Option Nat) (g : Nat) (w : Bool) (tm : Nat → V) (st : St) (nx : Nat) (acc : List Rec) (u : V) : Prop :=
  wg tm g w u (fun tm => W (kop P E tm st i0 nx k) (wnx P E tr Q QP i0 rest d tm st nx acc)) (fun tm => wnx P E tr Q QP i0 rest d tm st nx acc (.val (.sc undef) [] []))
theorem wops_g (g : Nat) (w : Bool) : wops P E tr QR QP i0 (⟨d, some (g, w), k⟩ :: rest) tm st nx acc = wgd P E tr QR QP i0 k rest d g w tm st nx acc (tm g) := by
  unfold wgd; simp only [wnx_wr]; rfl
theorem wgd_b (g : Nat) (w b : Bool) : wgd P E tr QR QP i0 k rest d g w tm st nx acc (.sc (.bool b)) = ((b = w → W (kop P E (upd tm g (.sc (.bool w))) st i0 nx k) (wnx P E tr QR QP i0 rest d (upd tm g (.sc (.bool w))) st nx acc)) ∧ (b = !w → wnx P E tr QR QP i0 rest d (upd tm g (.sc (.bool !w))) st nx acc (.val (.sc undef) [] []))) := rfl
theorem wgd_cases {g : Nat} {w b : Bool} (h1 : b = true → wgd P E tr QR QP i0 k rest d g w tm st nx acc (.sc (.bool true))) (h2 : b = false → wgd P E tr QR QP i0 k rest d g w tm st nx acc (.sc (.bool false))) : wgd P E tr QR QP i0 k rest d g w tm st nx acc (.sc (.bool b)) := by
  cases b
  · exact h2 rfl
  · exact h1 rfl
theorem wcond_cases {x y : Y} {b : Bool} (h1 : b = true → wc P E x Q fr) (h2 : b = false → wc P E y Q fr) : wcond P E x y Q fr (.sc (.bool b)) := ⟨h1, h2⟩
theorem wgd_tt (g : Nat) : wgd P E tr QR QP i0 k rest d g true tm st nx acc (.sc (.bool true)) = W (kop P E (upd tm g (.sc (.bool true))) st i0 nx k) (wnx P E tr QR QP i0 rest d (upd tm g (.sc (.bool true))) st nx acc) := by simp [wgd_b]
theorem wgd_ff (g : Nat) : wgd P E tr QR QP i0 k rest d g false tm st nx acc (.sc (.bool false)) = W (kop P E (upd tm g (.sc (.bool false))) st i0 nx k) (wnx P E tr QR QP i0 rest d (upd tm g (.sc (.bool false))) st nx acc) := by simp [wgd_b]
theorem wgd_tf (g : Nat) : wgd P E tr QR QP i0 k rest d g true tm st nx acc (.sc (.bool false)) = wnx P E tr QR QP i0 rest d (upd tm g (.sc (.bool false))) st nx acc (.val (.sc undef) [] []) := by simp [wgd_b]
theorem wgd_ft (g : Nat) : wgd P E tr QR QP i0 k rest d g false tm st nx acc (.sc (.bool true)) = wnx P E tr QR QP i0 rest d (upd tm g (.sc (.bool true))) st nx acc (.val (.sc undef) [] []) := by simp [wgd_b]
theorem wgd_u (g : Nat) (w : Bool) : wgd P E tr QR QP i0 k rest d g w tm st nx acc (.sc undef) = wnx P E tr QR QP i0 rest d tm st nx acc (.val (.sc undef) [] []) := rfl
theorem wgd_bt (g : Nat) (b : Bool) : wgd P E tr QR QP i0 k rest d g true tm st nx acc (.sc (.bool b)) = ((b = true → W (kop P E (upd tm g (.sc (.bool true))) st i0 nx k) (wnx P E tr QR QP i0 rest d (upd tm g (.sc (.bool true))) st nx acc)) ∧ (b = false → wnx P E tr QR QP i0 rest d (upd tm g (.sc (.bool false))) st nx acc (.val (.sc undef) [] []))) := rfl
theorem wgd_bf (g : Nat) (b : Bool) : wgd P E tr QR QP i0 k rest d g false tm st nx acc (.sc (.bool b)) = ((b = false → W (kop P E (upd tm g (.sc (.bool false))) st i0 nx k) (wnx P E tr QR QP i0 rest d (upd tm g (.sc (.bool false))) st nx acc)) ∧ (b = true → wnx P E tr QR QP i0 rest d (upd tm g (.sc (.bool true))) st nx acc (.val (.sc undef) [] []))) := rfl
end
section
variable {α β : Type}
theorem W_some (a : α) (C : α → Prop) : W (some a) C = C a := by simp [W]
theorem W_none (C : α → Prop) : W none C = False := by simp [W]
theorem W_ite (c : Prop) [Decidable c] (x y : Option α) (C : α → Prop) : W (if c then x else y) C = ((c → W x C) ∧ (¬c → W y C)) := by by_cases h : c <;> simp [h]
theorem W_ite_cases {c : Prop} [Decidable c] {x y : Option α} {C : α → Prop} (h1 : c → W x C) (h2 : ¬c → W y C) : W (if c then x else y) C := by rw [W_ite]; exact ⟨h1, h2⟩
theorem W_itn_cases {c : Prop} [Decidable c] {x : Option α} {C : α → Prop} (h1 : c) (h2 : W x C) : W (if c then x else none) C := by rw [if_pos h1]; exact h2
theorem W_itn (c : Prop) [Decidable c] (x : Option α) (C : α → Prop) : W (if c then x else none) C = (c ∧ W x C) := by by_cases h : c <;> simp [h, W]
theorem W_nit (c : Prop) [Decidable c] (x : Option α) (C : α → Prop) : W (if c then none else x) C = (¬c ∧ W x C) := by by_cases h : c <;> simp [h, W]
theorem upd_at (f : Nat → β) (k i : Nat) (v : β) : upd f k v i = if i = k then v else f i := rfl
theorem upds_nil (f : Nat → β) : upds [] f = f := rfl
theorem upds_cons (f : Nat → β) (p : Nat × β) (r : List (Nat × β)) : upds (p :: r) f = upds r (upd f p.1 p.2) := rfl
theorem kun_neg (P : Program) (k : IntKind) (n : Int) : reck P (Op.unary .neg (.int k n)) = some (.int k (k.wrap (0 - n))) := rfl
theorem kun_not (P : Program) (b : Bool) : reck P (Op.unary .not (.bool b)) = some (.bool !b) := rfl
theorem argT_0 (a : V) (l : List V) : argT (a :: l) 0 = a := rfl
theorem argT_1 (a : V) (l : List V) (n : Nat) : argT (a :: l) (n + 1) = argT l n := rfl
theorem kb_add (b : Bool) (k : IntKind) (x y : Int) : kbin' b .add (.int k x) (.int k y) = some (.int k (k.wrap (x + y))) := by simp [kbin', kbin]
theorem kb_sub (b : Bool) (k : IntKind) (x y : Int) : kbin' b .sub (.int k x) (.int k y) = some (.int k (k.wrap (x - y))) := by simp [kbin', kbin]
theorem kb_mul (b : Bool) (k : IntKind) (x y : Int) : kbin' b .mul (.int k x) (.int k y) = some (.int k (k.wrap (x * y))) := by simp [kbin', kbin]
theorem kb_eql (b : Bool) (k : IntKind) (x y : Int) : kbin' b .eql (.int k x) (.int k y) = some (.bool (decide (x = y))) := by simp [kbin', kbin]
theorem kb_neq (b : Bool) (k : IntKind) (x y : Int) : kbin' b .neq (.int k x) (.int k y) = some (.bool (!decide (x = y))) := by simp [kbin', kbin]
theorem kb_lss (b : Bool) (k : IntKind) (x y : Int) : kbin' b .lss (.int k x) (.int k y) = some (.bool (decide (x < y))) := by simp [kbin', kbin]
theorem kb_leq (b : Bool) (k : IntKind) (x y : Int) : kbin' b .leq (.int k x) (.int k y) = some (.bool (decide (x ≤ y))) := by simp [kbin', kbin]
theorem kb_gtr (b : Bool) (k : IntKind) (x y : Int) : kbin' b .gtr (.int k x) (.int k y) = some (.bool (decide (y < x))) := by simp [kbin', kbin]
theorem kb_geq (b : Bool) (k : IntKind) (x y : Int) : kbin' b .geq (.int k x) (.int k y) = some (.bool (decide (y ≤ x))) := by simp [kbin', kbin]
theorem kb_and (b : Bool) (k : IntKind) (x y : Int) : kbin' b .and (.int k x) (.int k y) = some (.int k (Go.bits .and k x y)) := by simp [kbin', kbin]; rfl
theorem kb_or (b : Bool) (k : IntKind) (x y : Int) : kbin' b .or (.int k x) (.int k y) = some (.int k (Go.bits .or k x y)) := by simp [kbin', kbin]; rfl
theorem kb_xor (b : Bool) (k : IntKind) (x y : Int) : kbin' b .xor (.int k x) (.int k y) = some (.int k (Go.bits .xor k x y)) := by simp [kbin', kbin]; rfl
theorem kb_shl (b : Bool) (k l : IntKind) (x y : Int) : kbin' b .shl (.int k x) (.int l y) = if y < 0 then none else some (.int k (k.wrap (x * 2 ^ (Nat.min y.toNat k.bits)))) := by simp [kbin', kbin]
theorem kb_shr (b : Bool) (k l : IntKind) (x y : Int) : kbin' b .shr (.int k x) (.int l y) = if y < 0 then none else some (.int k (x.fdiv (2 ^ (Nat.min y.toNat k.bits)))) := by simp [kbin', kbin]
theorem kb_quo (b : Bool) (k : IntKind) (x y : Int) : kbin' b .quo (.int k x) (.int k y) = if y = 0 then none else some (.int k (k.wrap (x.tdiv y))) := by simp [kbin', kbin]
theorem kb_rem (b : Bool) (k : IntKind) (x y : Int) : kbin' b .rem (.int k x) (.int k y) = if y = 0 then none else some (.int k (x.tmod y)) := by simp [kbin', kbin]
theorem kb_seql (b : Bool) (x y : ByteArray) : kbin' b .eql (.string x) (.string y) = some (.bool (decide (x = y))) := by simp [kbin', kbin]
theorem kb_sneq (b : Bool) (x y : ByteArray) : kbin' b .neq (.string x) (.string y) = some (.bool (!decide (x = y))) := by simp [kbin', kbin]
theorem kb_slss (b : Bool) (x y : ByteArray) : kbin' b .lss (.string x) (.string y) = some (.bool (Op.bytesLess x.data.toList y.data.toList)) := by simp [kbin', kbin]
theorem kb_sleq (b : Bool) (x y : ByteArray) : kbin' b .leq (.string x) (.string y) = some (.bool (Op.bytesLess x.data.toList y.data.toList || decide (x = y))) := by simp [kbin', kbin]
theorem kb_sgtr (b : Bool) (x y : ByteArray) : kbin' b .gtr (.string x) (.string y) = some (.bool !(Op.bytesLess x.data.toList y.data.toList || decide (x = y))) := by simp [kbin', kbin]
theorem kb_sgeq (b : Bool) (x y : ByteArray) : kbin' b .geq (.string x) (.string y) = some (.bool !(Op.bytesLess x.data.toList y.data.toList)) := by simp [kbin', kbin]
theorem kb_sadd (b : Bool) (x y : ByteArray) : kbin' b .add (.string x) (.string y) = if x.size + y.size ≤ 9223372036854775807 then some (.string (x ++ y)) else none := by simp [kbin', kbin]
theorem kb_beql (x y : Bool) : kbin' true .eql (.bool x) (.bool y) = some (.bool (x == y)) := by simp [kbin', kbin]
theorem kb_bneq (x y : Bool) : kbin' true .neq (.bool x) (.bool y) = some (.bool !(x == y)) := by simp [kbin', kbin]
end
section
variable {α : Type} {P : Program} {E : Env} {Q : Ex → Fr → Prop} {tm : Nat → V} {st : St} {nx i0 m : Nat}
def cloop (I : Nat → (Nat → V) → St → Nat → Prop) (n : Nat) (Q : Ex → Fr → Prop) (e : Ex) (fr : Fr) : Prop := e.cs (∃ m, m < n ∧ I m fr.tm fr.st fr.nx) (Q e fr)
theorem cloop_n (I : Nat → (Nat → V) → St → Nat → Prop) (n : Nat) : cloop I n Q .norm ⟨tm, st, nx⟩ = ∃ m, m < n ∧ I m tm st nx := rfl
theorem cloop_x (I : Nat → (Nat → V) → St → Nat → Prop) (n i : Nat) (fr : Fr) : cloop I n Q (.exit i) fr = Q (.exit i) fr := rfl
theorem cloop_r (I : Nat → (Nat → V) → St → Nat → Prop) (n : Nat) (fr : Fr) : cloop I n Q .ret fr = Q .ret fr := rfl
theorem cloop_p (I : Nat → (Nat → V) → St → Nat → Prop) (n : Nat) (v : V) (fr : Fr) : cloop I n Q (.pan v) fr = Q (.pan v) fr := rfl
theorem loop_w {b : Y} (I : Nat → (Nat → V) → St → Nat → Prop) (n : Nat) (h0 : I n tm st nx) (step : ∀ n tm st nx, I n tm st nx → wc P E b (cloop I n Q) ⟨tm, st, nx⟩) : wc P E (.loop b) Q ⟨tm, st, nx⟩ :=
  loop_wc (P := P) (E := E) (fun n fr => I n fr.tm fr.st fr.nx) (fun n fr h => step n fr.tm fr.st fr.nx h) n h0
theorem xcall_pl {g : FuncId} {l : List V} (hn : nobody P g = false) (hh : E.hm g = false) : xcall P E i0 nx st g l = (l.mapM V.pur?).bind fun l => match E.pl g l with | some (.ret y) => some (.val (own i0 y).1 (own i0 y).2 []) | some (.pan y) => some (.pan y) | none => none := by
  unfold xcall; rw [hn, hh]; rfl
theorem W_of {α : Type} {o : Option α} {a : α} (h : W o (fun r => r = a)) : o = some a := by obtain ⟨r, h1, rfl⟩ := h; exact h1
theorem wrap_i64 {n : Int} (h1 : -9223372036854775808 ≤ n) (h2 : n < 9223372036854775808) : IntKind.i64.wrap n = n := by
  have e : IntKind.i64.wrap n = if IntKind.i64.signed && n % 2 ^ 64 ≥ 2 ^ 63 then n % 2 ^ 64 - 2 ^ 64 else n % 2 ^ 64 := rfl
  rw [e]
  simp only [IntKind.signed, Bool.true_and]
  split <;> rename_i h <;> simp only [ge_iff_le, decide_eq_true_eq] at h <;> omega
theorem shr_eq (x : Int) (n : Nat) (d : Int) (h : (2 : Int) ^ n = d) : x.fdiv ((2 : Int) ^ n) = x / d := by rw [h]; exact Int.fdiv_eq_ediv_of_nonneg x (by rw [← h]; exact Int.pow_nonneg (by decide))
theorem ret_b {x y : Bool} (h : x = y) : CR.ret (.sc (.bool x)) = .ret (V.bool y) := by rw [h]
theorem up64 {i : Nat} (h : i < 4611686018427387904) : V.sc (.int .i64 (IntKind.i64.wrap (i + 1))) = V.i64 ((i + 1 : Nat) : Int) := by rw [wrap_i64 (by omega) (by omega)]; rfl
theorem all_get {l : List α} {p : α → Bool} (h : ∀ j, j < l.length → ∀ b, l[j]? = some b → p b = true) : l.all p = true := by
  rw [List.all_eq_true]
  intro b hb
  obtain ⟨j, hj, rfl⟩ := List.getElem_of_mem hb
  exact h j hj _ (List.getElem?_eq_getElem hj)
theorem all_not {l : List α} {p : α → Bool} {j : Nat} {b : α} (h : l[j]? = some b) (hp : p b = false) : l.all p = false := by
  rw [List.all_eq_false]
  exact ⟨b, List.mem_of_getElem? h, by simp [hp]⟩
theorem get_lt {l : List α} {i : Nat} (h : i < l.length) : ∃ b, l[i]? = some b := ⟨_, List.getElem?_eq_getElem h⟩
theorem kb0_int (k : IntKind) (x y : Int) : kbin .eql (.int k x) (.int k y) = some (.bool (decide (x = y))) := by simp [kbin]
theorem kb0_str (x y : ByteArray) : kbin .eql (.string x) (.string y) = some (.bool (decide (x = y))) := by simp [kbin]
theorem kb0_bool (x y : Bool) : kbin .eql (.bool x) (.bool y) = some (.bool (x == y)) := by simp [kbin]
theorem pick_ite (b : Bool) (x y : V) : (if b = true then x else y) = bif b then x else y := by cases b <;> rfl
end
end Go.Proofs.YtojbkakdhfmjmaaDoor.Vm
