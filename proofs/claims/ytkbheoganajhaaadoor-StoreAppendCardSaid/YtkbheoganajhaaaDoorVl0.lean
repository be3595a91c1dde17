/- Proved here: bytes as strings of the machine. Conditions: none. -/
import Derived.Test.YtkbheoganajhaaaDoorVs16
set_option maxRecDepth 10000
set_option linter.unusedVariables false
set_option linter.unusedSimpArgs false
namespace Go.Proofs.YtkbheoganajhaaaDoor.Vm
open Go Go.Proofs
def sB (l : List Int) : ByteArray := ⟨(l.map fun n => UInt8.ofNat n.toNat).toArray⟩
theorem bytesOfV_bv : ∀ l : List Int, bytesOfV (bv l) = some (l.map fun n => UInt8.ofNat n.toNat)
  | [] => rfl
  | x :: r => by
    have e : bv (x :: r) = V.sc (.int .u8 x) :: bv r := rfl
    rw [e, bytesOfV, bytesOfV_bv r]; rfl
theorem bv_take (l : List Int) (n : Nat) : (bv l).take n = bv (l.take n) := by simp [bv]
def inR (l : List Int) : Prop := ∀ b ∈ l, 0 ≤ b ∧ b < 256
theorem sB_inj {a b : List Int} (ha : inR a) (hb : inR b) (h : sB a = sB b) : a = b := by
  have h1 : (a.map fun n => UInt8.ofNat n.toNat) = b.map fun n => UInt8.ofNat n.toNat := by
    have := congrArg ByteArray.data h
    have := congrArg Array.toList this
    simpa [sB] using this
  have back : ∀ l : List Int, inR l → ((l.map fun n => UInt8.ofNat n.toNat).map fun b : UInt8 => (b.toNat : Int)) = l := by
    intro l hl
    rw [List.map_map]
    conv => rhs; rw [← List.map_id l]
    apply List.map_congr_left
    intro x hx
    have := hl x hx
    show ((UInt8.ofNat x.toNat).toNat : Int) = x
    simp only [UInt8.toNat_ofNat']
    omega
  rw [← back a ha, ← back b hb, h1]
theorem putS_inR (n : Int) (h : i64r n) : inR (Co.putS n) := fun b hb => Co.vL_range 10 _ (Co.zz_range n h.1 h.2).1 b hb
theorem inR_app {a b : List Int} (ha : inR a) (hb : inR b) : inR (a ++ b) := fun x hx => (List.mem_append.mp hx).elim (ha x) (hb x)
theorem ptB_inR {s : ByteArray} (h : plainS s = true) : inR (ptB s) := inR_app (putS_inR _ ⟨by omega, by have := plain_size h; omega⟩) (Co.bytes_range s)
theorem tagsB_inR {l : List Tag} (h : ∀ t ∈ l, plainS t.n = true ∧ plainS t.v = true) : inR (tagsB l) := fun b hb => by
  simp only [tagsB, List.mem_flatMap] at hb
  obtain ⟨t, ht, hb⟩ := hb
  exact inR_app (ptB_inR (h t ht).1) (ptB_inR (h t ht).2) b hb
theorem lineB_inR {l : Line} (h : plainL l) : inR (lineB l) := by
  have := h.len
  exact inR_app (inR_app (inR_app (inR_app (inR_app (inR_app (inR_app (ptB_inR h.acc) (ptB_inR h.cur)) (putS_inR _ h.amt)) (putS_inR _ h.base)) (ptB_inR h.par)) (ptB_inR h.pty)) (putS_inR _ ⟨by omega, by omega⟩)) (tagsB_inR h.tags)
theorem entryB_inR {e : Entry} (h : plainE e) : inR (entryB e) := by
  have := h.len
  refine inR_app (inR_app (inR_app (inR_app (inR_app (inR_app (inR_app (inR_app (inR_app (putS_inR _ h.no) (ptB_inR h.ent)) (putS_inR _ h.book)) (putS_inR _ h.val)) (putS_inR _ h.kind)) (ptB_inR h.ref)) (ptB_inR h.who)) (putS_inR _ h.rev)) (putS_inR _ ⟨by omega, by omega⟩)) ?_
  intro b hb
  simp only [linesB, List.mem_flatMap] at hb
  obtain ⟨l, hl, hb⟩ := hb
  exact lineB_inR (h.lines l hl) b hb
end Go.Proofs.YtkbheoganajhaaaDoor.Vm
