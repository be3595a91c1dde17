/- Proved here: the law, on a machine over pure data, and what it needs, part 4. Conditions: none. -/
import Derived.Test.YtkbheoganajhaaaDoorProg
import Derived.Laws.RangeString
import Derived.Laws.RangeAny
import Derived.Laws.Bits64
import Derived.Laws.Bits64b
import Derived.Laws.DeepNot64
import Derived.Lib.Bytes
import Derived.Test.YtkbheoganajhaaaDoorZ3
set_option maxRecDepth 100000
set_option linter.unusedVariables false
namespace Go.Proofs.YtkbheoganajhaaaDoor.Vm
open Go Go.Proofs
def hmS : FuncId → Nat := fun f => if f == 48 || f == 49 || f == 50 || f == 75 || f == 92 || f == 73 || f == 83 || f == 84 || f == 95 || f == 96 || f == 97 || f == 98 || f == 12 || f == 13 || f == 14 || f == 19 || f == 35 || f == 29 || f == 10 || f == 20 then 1 else if f == 53 || f == 58 || f == 6 || f == 7 || f == 9 then 2 else if f == 21 then 5 else if f == 16 then 3 else 0
def glS : Nat → Option V := fun g => if g == 0 then some (.cp ([31, 28, 31, 30, 31, 30, 31, 31, 30, 31, 30, 31].map V.i64)) else none
noncomputable def L : Env := lim Tryd.prog noExt hmS glS
noncomputable def LR : Env := L.at 1
theorem LR_pl : LR.pl = L.pl := Env.at_pl L 1
theorem LR_hp : LR.hp = L.hp := Env.at_hp L 1
theorem LR_hm : LR.hm = L.hm := Env.at_hm L 1
theorem pl_w {f : FuncId} {kf : KF} (hf : (Tryd.prog.funcs[f]?).bind (cmpF Tryd.prog hmS glS 0) = some kf) {xs : List V} {C : CR → Prop} (h : wc Tryd.prog L kf.b (RQ kf.rs (PQ C)) ⟨argT xs, fun _ => none, 8⟩) (hz : hmS f / 2 = 0 := by rfl) : W (L.pl f xs) C := pl_wc rfl hz hf h
theorem hp_w {f : FuncId} {kf : KF} (hf : (Tryd.prog.funcs[f]?).bind (cmpF Tryd.prog hmS glS 0) = some kf) {xs : List V} {st : St} {nx : Nat} {C : HR → Prop} (h : wc Tryd.prog L kf.b (RQ kf.rs C) ⟨argT xs, st, nx⟩) (hz : hmS f / 2 = 0 := by rfl) : W (L.hp f xs st nx) C := hp_wc rfl hz hf h
theorem pl_r {f : FuncId} {kf : KF} (hf : (Tryd.prog.funcs[f]?).bind (cmpF Tryd.prog hmS glS 1) = some kf) {xs : List V} {C : CR → Prop} (h : wc Tryd.prog LR kf.b (RQ kf.rs (PQR C)) ⟨argT xs, fun _ => none, 8⟩) (hz : hmS f / 2 = 1 := by rfl) : W (L.pl f xs) C := pl_wr rfl hz hf h
theorem hp_r {f : FuncId} {kf : KF} (hf : (Tryd.prog.funcs[f]?).bind (cmpF Tryd.prog hmS glS 1) = some kf) {xs : List V} {st : St} {nx : Nat} {C : HR → Prop} (h : wc Tryd.prog LR kf.b (RQ kf.rs C) ⟨argT xs, st, nx⟩) (hz : hmS f / 2 = 1 := by rfl) : W (L.hp f xs st nx) C := hp_wc rfl hz hf h
theorem hp_z {f : FuncId} {kf : KF} (hf : (Tryd.prog.funcs[f]?).bind (cmpF Tryd.prog hmS glS 0) = some kf) {xs : List V} {st : St} {nx : Nat} {C : HR → Prop} (h : W (frzH st xs) fun p => wc Tryd.prog L kf.b (RQ kf.rs C) ⟨argT p.1, upds p.2 st, nx⟩) (hz : hmS f = 5 := by rfl) : W (L.hp f xs st nx) C := hp_wz rfl hz hf h
theorem plD_w {f : FuncId} {kd : KD} {kc : KC} (hf : (Tryd.prog.funcs[f]?).bind (cmpD Tryd.prog hmS glS 0) = some kd) (hc : (Tryd.prog.funcs[kd.g]?).bind (cmpC Tryd.prog hmS glS 0) = some kc) {xs : List V} {C : CR → Prop} (h : wc Tryd.prog L kd.y1 (defQ Tryd.prog L kd kc (PQ C)) ⟨argT xs, fun _ => none, 8⟩) (hz : hmS f / 2 = 0 := by rfl) : W (L.pl f xs) C := plD_wc rfl hz hf hc h
def k3_l0 : Y := (.seq (.seq (.reg [⟨(some 15), none, (.mov (.t 5))⟩, ⟨(some 16), none, (.mov (.t 0))⟩, ⟨(some 17), none, (.len (.t 16))⟩, ⟨(some 18), none, (.bin false .lss (.t 15) (.t 17))⟩] 4 none) (.cond (.t 18) .skip (.«exit» 0))) (.seq (.block 1 (.seq (.reg [⟨(some 22), none, (.mov (.t 0))⟩, ⟨(some 23), none, (.mov (.t 5))⟩, ⟨(some 24), none, (.ixl 31 (.t 22) (.t 23))⟩, ⟨(some 25), none, (.ld (some 9) (.t 24))⟩, ⟨(some 26), none, (.pl 11 [(.t 25)])⟩, ⟨(some 21), none, (.mov (.t 26))⟩, ⟨(some 27), none, (.ext (.t 21) 0)⟩, ⟨(some 28), none, (.ext (.t 21) 1)⟩, ⟨(some 6), none, (.mov (.t 27))⟩, ⟨(some 7), none, (.mov (.t 28))⟩] 10 none) (.seq (.seq (.reg [⟨(some 29), none, (.mov (.t 7))⟩, ⟨(some 30), none, (.bin false .eql (.t 29) (.v (.sc (.int .i64 0))))⟩, ⟨(some 31), none, (.mov (.t 30))⟩, ⟨(some 32), (some (31, true)), (.mov (.t 0))⟩, ⟨(some 33), (some (31, true)), (.mov (.t 5))⟩, ⟨(some 34), (some (31, true)), (.ixl 31 (.t 32) (.t 33))⟩, ⟨(some 35), (some (31, true)), (.fa 0 (.t 34))⟩, ⟨(some 36), (some (31, true)), (.ld none (.t 35))⟩, ⟨(some 37), (some (31, true)), (.mov (.t 4))⟩, ⟨(some 38), (some (31, true)), (.len (.t 37))⟩, ⟨(some 39), (some (31, true)), (.bin false .add (.t 38) (.v (.sc (.int .i64 1))))⟩, ⟨(some 40), (some (31, true)), (.bin false .neq (.t 36) (.t 39))⟩, ⟨(some 41), none, (.pick (.t 31) (.t 40) (.v (.sc (.bool false))))⟩] 13 none) (.cond (.t 41) (.reg [⟨(some 7), none, (.mov (.v (.sc (.int .i64 17))))⟩] 1 none) .skip)) (.seq (.seq (.reg [⟨(some 42), none, (.mov (.t 3))⟩, ⟨(some 43), none, (.mov (.t 0))⟩, ⟨(some 44), none, (.mov (.t 5))⟩, ⟨(some 45), none, (.ixl 31 (.t 43) (.t 44))⟩, ⟨(some 46), none, (.ld (some 9) (.t 45))⟩, ⟨(some 47), none, (.hp 12 [(.t 42), (.t 46)])⟩, ⟨(some 48), none, (.mov (.t 7))⟩, ⟨(some 49), none, (.bin false .neq (.t 47) (.t 48))⟩] 8 none) (.cond (.t 49) (.seq (.reg [⟨(some 2), none, (.mov (.v (.sc (.bool false))))⟩] 1 none) .ret) .skip)) (.seq (.seq (.reg [⟨(some 50), none, (.mov (.t 7))⟩, ⟨(some 51), none, (.bin false .eql (.t 50) (.v (.sc (.int .i64 0))))⟩] 2 none) (.cond (.t 51) (.reg [⟨(some 52), none, (.mov (.t 4))⟩, ⟨(some 53), none, (.mov (.t 0))⟩, ⟨(some 54), none, (.mov (.t 5))⟩, ⟨(some 55), none, (.ixl 31 (.t 53) (.t 54))⟩, ⟨(some 56), none, (.ld (some 9) (.t 55))⟩, ⟨(some 57), none, (.mk 31 9 [(.t 56)])⟩, ⟨(some 58), none, (.app 31 112 true (.t 52) (.t 57))⟩, ⟨(some 4), none, (.mov (.t 58))⟩] 8 none) .skip)) (.seq (.reg [⟨(some 59), none, (.mov (.t 3))⟩, ⟨(some 60), none, (.hp 13 [(.t 59)])⟩, ⟨(some 61), none, (.mov (.t 4))⟩, ⟨(some 62), none, (.len (.t 61))⟩, ⟨(some 63), none, (.bin false .neq (.t 60) (.t 62))⟩] 5 none) (.cond (.t 63) (.seq (.reg [⟨(some 2), none, (.mov (.v (.sc (.bool false))))⟩] 1 none) .ret) .skip))))))) (.reg [⟨(some 19), none, (.mov (.t 5))⟩, ⟨(some 20), none, (.bin false .add (.t 19) (.v (.sc (.int .i64 1))))⟩, ⟨(some 5), none, (.mov (.t 20))⟩] 3 none)))
def k3_t0 : Y := (.seq (.reg [⟨(some 64), none, (.mov (.t 3))⟩, ⟨(some 65), none, (.hp 14 [(.t 64)])⟩, ⟨(some 66), none, (.mov (.t 4))⟩, ⟨(some 67), none, (.pl 15 [(.t 66)])⟩, ⟨(some 68), none, (.bin false .eql (.t 65) (.t 67))⟩, ⟨(some 69), none, (.mov (.t 68))⟩, ⟨(some 70), (some (69, true)), (.mov (.t 3))⟩, ⟨(some 71), (some (69, true)), (.hp 16 [(.t 70)])⟩, ⟨(some 72), (some (69, true)), (.b2s 5 (.t 71))⟩, ⟨(some 73), (some (69, true)), (.mov (.t 4))⟩, ⟨(some 74), (some (69, true)), (.pl 17 [(.t 73)])⟩, ⟨(some 75), (some (69, true)), (.b2s 5 (.t 74))⟩, ⟨(some 76), (some (69, true)), (.bin false .eql (.t 72) (.t 75))⟩, ⟨(some 77), none, (.pick (.t 69) (.t 76) (.v (.sc (.bool false))))⟩, ⟨(some 78), none, (.mov (.t 77))⟩, ⟨(some 79), (some (78, true)), (.mov (.t 3))⟩, ⟨(some 80), (some (78, true)), (.hp 19 [(.t 79)])⟩, ⟨(some 81), (some (78, true)), (.mov (.t 4))⟩, ⟨(some 82), (some (78, true)), (.pl 18 [(.t 80), (.t 81)])⟩, ⟨(some 83), none, (.pick (.t 78) (.t 82) (.v (.sc (.bool false))))⟩, ⟨(some 84), none, (.mov (.t 83))⟩, ⟨(some 85), (some (84, true)), (.pl 9 [])⟩, ⟨(some 86), none, (.pick (.t 84) (.t 85) (.v (.sc (.bool false))))⟩, ⟨(some 2), none, (.mov (.t 86))⟩] 24 (some [0, 1, 0, 7, 15, 31, 63, 127, 255, 63, 767, 1791, 4095, 8191, 16383, 32767, 65535, 32767, 262143, 524287, 1048575, 2097151, 4194303, 8388607])) .ret)
def k3 : KF := ⟨(.seq (.reg [⟨(some 2), none, (.mov (.v (.sc (.bool false))))⟩] 1 none) (.seq (.seq (.reg [⟨(some 8), none, (.mov (.t 0))⟩, ⟨(some 9), none, (.pl 8 [(.t 8)])⟩, ⟨(some 10), none, (.un .not (.t 9))⟩] 3 none) (.cond (.t 10) (.seq (.reg [⟨(some 11), none, (.pl 9 [])⟩, ⟨(some 2), none, (.mov (.t 11))⟩] 2 none) .ret) .skip)) (.seq (.reg [⟨(some 12), none, (.hp 10 [])⟩, ⟨(some 3), none, (.mov (.t 12))⟩] 2 none) (.seq (.seq (.reg [⟨(some 13), none, (.mov (.t 3))⟩, ⟨(some 14), none, (.isn false (.t 13))⟩] 2 none) (.cond (.t 14) (.seq (.reg [⟨(some 2), none, (.mov (.v (.sc (.bool false))))⟩] 1 none) .ret) .skip)) (.seq (.reg [⟨(some 4), none, (.mov (.v (.list 0 [] 1)))⟩] 1 none) (.seq (.seq (.reg [⟨(some 5), none, (.mov (.v (.sc (.int .i64 0))))⟩] 1 none) (.block 0 (.loop k3_l0))) k3_t0)))))), [(.t 2)]⟩
def k4 : KF := ⟨(.seq (.reg [⟨(some 3), none, (.box (.t 1))⟩, ⟨(some 4), none, (.mov (.v (.sc (.bool false))))⟩] 2 none) (.seq (.seq (.reg [⟨(some 11), none, (.mov (.t 0))⟩, ⟨(some 12), none, (.pl 8 [(.t 11)])⟩, ⟨(some 13), none, (.un .not (.t 12))⟩, ⟨(some 14), none, (.mov (.t 13))⟩, ⟨(some 15), (some (14, false)), (.ld (some 9) (.t 3))⟩, ⟨(some 16), (some (14, false)), (.mk 31 9 [(.t 15)])⟩, ⟨(some 17), (some (14, false)), (.pl 8 [(.t 16)])⟩, ⟨(some 18), (some (14, false)), (.un .not (.t 17))⟩, ⟨(some 19), none, (.pick (.t 14) (.v (.sc (.bool true))) (.t 18))⟩] 9 none) (.cond (.t 19) (.seq (.reg [⟨(some 20), none, (.pl 9 [])⟩, ⟨(some 4), none, (.mov (.t 20))⟩] 2 none) .ret) .skip)) (.seq (.reg [⟨(some 22), none, (.mov (.t 0))⟩, ⟨(some 23), none, (.hp 20 [(.t 22)])⟩, ⟨(some 21), none, (.mov (.t 23))⟩, ⟨(some 24), none, (.ext (.t 21) 0)⟩, ⟨(some 25), none, (.ext (.t 21) 1)⟩, ⟨(some 5), none, (.mov (.t 24))⟩, ⟨(some 6), none, (.mov (.t 25))⟩] 7 none) (.seq (.reg [⟨(some 26), none, (.mov (.t 5))⟩, ⟨(some 27), none, (.hp 16 [(.t 26)])⟩, ⟨(some 7), none, (.mov (.t 27))⟩] 3 none) (.seq (.reg [⟨(some 29), none, (.mov (.t 7))⟩, ⟨(some 30), none, (.hp 21 [(.t 29)])⟩, ⟨(some 28), none, (.mov (.t 30))⟩, ⟨(some 31), none, (.ext (.t 28) 0)⟩, ⟨(some 32), none, (.ext (.t 28) 1)⟩, ⟨(some 33), none, (.ext (.t 28) 2)⟩, ⟨(some 8), none, (.mov (.t 31))⟩, ⟨(some 9), none, (.mov (.t 32))⟩, ⟨(some 10), none, (.mov (.t 33))⟩] 9 none) (.seq (.seq (.reg [⟨(some 34), none, (.mov (.t 10))⟩, ⟨(some 35), none, (.bin false .neq (.t 34) (.v (.sc (.int .i64 0))))⟩, ⟨(some 36), none, (.mov (.t 35))⟩, ⟨(some 37), (some (36, false)), (.mov (.t 9))⟩, ⟨(some 38), (some (36, false)), (.mov (.t 7))⟩, ⟨(some 39), (some (36, false)), (.len (.t 38))⟩, ⟨(some 40), (some (36, false)), (.bin false .neq (.t 37) (.t 39))⟩, ⟨(some 41), none, (.pick (.t 36) (.v (.sc (.bool true))) (.t 40))⟩, ⟨(some 42), none, (.mov (.t 41))⟩, ⟨(some 43), (some (42, false)), (.mov (.t 8))⟩, ⟨(some 44), (some (42, false)), (.isn false (.t 43))⟩, ⟨(some 45), none, (.pick (.t 42) (.v (.sc (.bool true))) (.t 44))⟩, ⟨(some 46), none, (.mov (.t 45))⟩, ⟨(some 47), (some (46, false)), (.mov (.t 8))⟩, ⟨(some 48), (some (46, false)), (.hp 19 [(.t 47)])⟩, ⟨(some 49), (some (46, false)), (.mov (.t 6))⟩, ⟨(some 50), (some (46, false)), (.pl 18 [(.t 48), (.t 49)])⟩, ⟨(some 51), (some (46, false)), (.un .not (.t 50))⟩, ⟨(some 52), none, (.pick (.t 46) (.v (.sc (.bool true))) (.t 51))⟩, ⟨(some 53), none, (.mov (.t 52))⟩, ⟨(some 54), (some (53, false)), (.mov (.t 8))⟩, ⟨(some 55), (some (53, false)), (.hp 14 [(.t 54)])⟩, ⟨(some 56), (some (53, false)), (.mov (.t 5))⟩, ⟨(some 57), (some (53, false)), (.hp 14 [(.t 56)])⟩, ⟨(some 58), (some (53, false)), (.bin false .neq (.t 55) (.t 57))⟩, ⟨(some 59), none, (.pick (.t 53) (.v (.sc (.bool true))) (.t 58))⟩] 26 none) (.cond (.t 59) (.seq (.reg [⟨(some 4), none, (.mov (.v (.sc (.bool false))))⟩] 1 none) .ret) .skip)) (.seq (.seq (.reg [⟨(some 60), none, (.mov (.t 5))⟩, ⟨(some 61), none, (.ld (some 9) (.t 3))⟩, ⟨(some 62), none, (.hp 12 [(.t 60), (.t 61)])⟩, ⟨(some 63), none, (.mov (.t 8))⟩, ⟨(some 64), none, (.ld (some 9) (.t 3))⟩, ⟨(some 65), none, (.hp 12 [(.t 63), (.t 64)])⟩, ⟨(some 66), none, (.bin false .neq (.t 62) (.t 65))⟩] 7 (some [0, 0, 3, 0, 0, 31, 63])) (.cond (.t 66) (.seq (.reg [⟨(some 4), none, (.mov (.v (.sc (.bool false))))⟩] 1 none) .ret) .skip)) (.seq (.reg [⟨(some 67), none, (.mov (.t 5))⟩, ⟨(some 68), none, (.hp 16 [(.t 67)])⟩, ⟨(some 69), none, (.b2s 5 (.t 68))⟩, ⟨(some 70), none, (.mov (.t 8))⟩, ⟨(some 71), none, (.hp 16 [(.t 70)])⟩, ⟨(some 72), none, (.b2s 5 (.t 71))⟩, ⟨(some 73), none, (.bin false .eql (.t 69) (.t 72))⟩, ⟨(some 74), none, (.mov (.t 73))⟩, ⟨(some 75), (some (74, true)), (.mov (.t 5))⟩, ⟨(some 76), (some (74, true)), (.hp 13 [(.t 75)])⟩, ⟨(some 77), (some (74, true)), (.mov (.t 8))⟩, ⟨(some 78), (some (74, true)), (.hp 13 [(.t 77)])⟩, ⟨(some 79), (some (74, true)), (.bin false .eql (.t 76) (.t 78))⟩, ⟨(some 80), none, (.pick (.t 74) (.t 79) (.v (.sc (.bool false))))⟩, ⟨(some 81), none, (.mov (.t 80))⟩, ⟨(some 82), (some (81, true)), (.pl 9 [])⟩, ⟨(some 83), none, (.pick (.t 81) (.t 82) (.v (.sc (.bool false))))⟩, ⟨(some 4), none, (.mov (.t 83))⟩] 18 (some [0, 1, 3, 0, 11, 27, 63, 127, 255, 511, 255, 2047, 4095, 8191, 16383, 32767, 65535, 131071])) .ret)))))))), [(.t 4)]⟩
def k5_l0 : Y := (.seq (.seq (.reg [⟨(some 26), none, (.mov (.t 8))⟩, ⟨(some 27), none, (.mov (.t 0))⟩, ⟨(some 28), none, (.len (.t 27))⟩, ⟨(some 29), none, (.bin false .lss (.t 26) (.t 28))⟩] 4 none) (.cond (.t 29) .skip (.«exit» 0))) (.seq (.block 1 (.seq (.reg [⟨(some 32), none, (.mov (.t 5))⟩, ⟨(some 33), none, (.mov (.t 0))⟩, ⟨(some 34), none, (.mov (.t 8))⟩, ⟨(some 35), none, (.ixl 31 (.t 33) (.t 34))⟩, ⟨(some 36), none, (.ld (some 9) (.t 35))⟩, ⟨(some 37), none, (.hp 12 [(.t 32), (.t 36)])⟩, ⟨(some 38), none, (.bin false .eql (.t 37) (.v (.sc (.int .i64 0))))⟩] 7 none) (.cond (.t 38) (.seq (.reg [⟨(some 39), none, (.mov (.t 7))⟩, ⟨(some 40), none, (.mov (.t 0))⟩, ⟨(some 41), none, (.mov (.t 8))⟩, ⟨(some 42), none, (.ixl 31 (.t 40) (.t 41))⟩, ⟨(some 43), none, (.ld (some 9) (.t 42))⟩, ⟨(some 44), none, (.mk 31 9 [(.t 43)])⟩, ⟨(some 45), none, (.app 31 112 true (.t 39) (.t 44))⟩, ⟨(some 7), none, (.mov (.t 45))⟩] 8 none) (.reg [⟨(some 46), none, (.mov (.t 6))⟩, ⟨(some 47), none, (.mov (.t 5))⟩, ⟨(some 48), none, (.hp 16 [(.t 47)])⟩, ⟨(some 49), none, (.len (.t 48))⟩, ⟨(some 50), none, (.mk 3 1 [(.t 49)])⟩, ⟨(some 51), none, (.app 3 8 true (.t 46) (.t 50))⟩, ⟨(some 6), none, (.mov (.t 51))⟩] 7 none)) .skip))) (.reg [⟨(some 30), none, (.mov (.t 8))⟩, ⟨(some 31), none, (.bin false .add (.t 30) (.v (.sc (.int .i64 1))))⟩, ⟨(some 8), none, (.mov (.t 31))⟩] 3 none)))
def k5_l1 : Y := (.seq (.seq (.reg [⟨(some 59), none, (.mov (.t 13))⟩, ⟨(some 60), none, (.mov (.t 6))⟩, ⟨(some 61), none, (.len (.t 60))⟩, ⟨(some 62), none, (.bin false .lss (.t 59) (.t 61))⟩] 4 none) (.cond (.t 62) .skip (.«exit» 2))) (.seq (.block 3 (.seq (.reg [⟨(some 65), none, (.mov (.t 6))⟩, ⟨(some 66), none, (.mov (.t 13))⟩, ⟨(some 67), none, (.ixl 3 (.t 65) (.t 66))⟩, ⟨(some 68), none, (.ld none (.t 67))⟩, ⟨(some 69), none, (.mov (.t 10))⟩, ⟨(some 70), none, (.bin false .leq (.t 68) (.t 69))⟩] 6 none) (.cond (.t 70) (.reg [⟨(some 71), none, (.mov (.t 13))⟩, ⟨(some 72), none, (.bin false .add (.t 71) (.v (.sc (.int .i64 1))))⟩, ⟨(some 73), none, (.mov (.t 6))⟩, ⟨(some 74), none, (.mov (.t 13))⟩, ⟨(some 75), none, (.ixl 3 (.t 73) (.t 74))⟩, ⟨(some 76), none, (.ld none (.t 75))⟩, ⟨(some 11), none, (.mov (.t 72))⟩, ⟨(some 12), none, (.mov (.t 76))⟩] 8 (some [0, 1, 0, 0, 12, 28, 3, 127])) .skip))) (.reg [⟨(some 63), none, (.mov (.t 13))⟩, ⟨(some 64), none, (.bin false .add (.t 63) (.v (.sc (.int .i64 1))))⟩, ⟨(some 13), none, (.mov (.t 64))⟩] 3 none)))
def k5_t0 : Y := (.seq (.reg [⟨(some 78), none, (.mov (.t 9))⟩, ⟨(some 79), none, (.mov (.t 10))⟩, ⟨(some 80), none, (.sll 5 (.t 78) none (some (.t 79)))⟩, ⟨(some 81), none, (.hp 21 [(.t 80)])⟩, ⟨(some 77), none, (.mov (.t 81))⟩, ⟨(some 82), none, (.ext (.t 77) 0)⟩, ⟨(some 83), none, (.ext (.t 77) 1)⟩, ⟨(some 84), none, (.ext (.t 77) 2)⟩, ⟨(some 14), none, (.mov (.t 82))⟩, ⟨(some 15), none, (.mov (.t 83))⟩, ⟨(some 16), none, (.mov (.t 84))⟩] 11 none) (.seq (.seq (.reg [⟨(some 85), none, (.mov (.t 14))⟩, ⟨(some 86), none, (.isn false (.t 85))⟩, ⟨(some 87), none, (.mov (.t 86))⟩, ⟨(some 88), (some (87, false)), (.mov (.t 15))⟩, ⟨(some 89), (some (87, false)), (.mov (.t 12))⟩, ⟨(some 90), (some (87, false)), (.bin false .neq (.t 88) (.t 89))⟩, ⟨(some 91), none, (.pick (.t 87) (.v (.sc (.bool true))) (.t 90))⟩, ⟨(some 92), none, (.mov (.t 91))⟩, ⟨(some 93), (some (92, false)), (.mov (.t 16))⟩, ⟨(some 94), (some (92, false)), (.bin false .eql (.t 93) (.v (.sc (.int .i64 0))))⟩, ⟨(some 95), (some (92, false)), (.mov (.t 12))⟩, ⟨(some 96), (some (92, false)), (.mov (.t 10))⟩, ⟨(some 97), (some (92, false)), (.bin false .eql (.t 95) (.t 96))⟩, ⟨(some 98), (some (92, false)), (.bin true .neq (.t 94) (.t 97))⟩, ⟨(some 99), none, (.pick (.t 92) (.v (.sc (.bool true))) (.t 98))⟩, ⟨(some 100), none, (.mov (.t 99))⟩, ⟨(some 101), (some (100, false)), (.mov (.t 16))⟩, ⟨(some 102), (some (100, false)), (.bin false .neq (.t 101) (.v (.sc (.int .i64 0))))⟩, ⟨(some 103), (some (100, false)), (.mov (.t 102))⟩, ⟨(some 104), (some (103, true)), (.mov (.t 16))⟩, ⟨(some 105), (some (103, true)), (.bin false .neq (.t 104) (.v (.sc (.int .i64 6))))⟩, ⟨(some 106), (some (100, false)), (.pick (.t 103) (.t 105) (.v (.sc (.bool false))))⟩, ⟨(some 107), none, (.pick (.t 100) (.v (.sc (.bool true))) (.t 106))⟩] 23 none) (.cond (.t 107) (.seq (.reg [⟨(some 4), none, (.mov (.v (.sc (.bool false))))⟩] 1 none) .ret) .skip)) (.seq (.reg [⟨(some 108), none, (.mov (.t 14))⟩, ⟨(some 109), none, (.hp 19 [(.t 108)])⟩, ⟨(some 110), none, (.mov (.t 7))⟩, ⟨(some 111), none, (.mov (.t 11))⟩, ⟨(some 112), none, (.sll 31 (.t 110) none (some (.t 111)))⟩, ⟨(some 113), none, (.pl 18 [(.t 109), (.t 112)])⟩, ⟨(some 114), none, (.mov (.t 113))⟩, ⟨(some 115), (some (114, true)), (.pl 9 [])⟩, ⟨(some 116), none, (.pick (.t 114) (.t 115) (.v (.sc (.bool false))))⟩, ⟨(some 4), none, (.mov (.t 116))⟩] 10 (some [0, 1, 0, 0, 12, 31, 63, 127, 255, 511])) .ret)))
def k5_t1 : Y := (.seq (.reg [⟨(some 52), none, (.mov (.t 5))⟩, ⟨(some 53), none, (.hp 16 [(.t 52)])⟩, ⟨(some 9), none, (.mov (.t 53))⟩] 3 none) (.seq (.reg [⟨(some 54), none, (.mov (.t 1))⟩, ⟨(some 55), none, (.mov (.t 9))⟩, ⟨(some 56), none, (.len (.t 55))⟩, ⟨(some 57), none, (.bin false .add (.t 56) (.v (.sc (.int .i64 1))))⟩, ⟨(some 58), none, (.bin false .rem (.t 54) (.t 57))⟩, ⟨(some 10), none, (.mov (.t 58))⟩] 6 none) (.seq (.reg [⟨(some 11), none, (.mov (.v (.sc (.int .i64 0))))⟩, ⟨(some 12), none, (.mov (.v (.sc (.int .i64 0))))⟩] 2 none) (.seq (.seq (.reg [⟨(some 13), none, (.mov (.v (.sc (.int .i64 0))))⟩] 1 none) (.block 2 (.loop k5_l1))) k5_t0))))
def k5 : KF := ⟨(.seq (.reg [⟨(some 4), none, (.mov (.v (.sc (.bool false))))⟩] 1 none) (.seq (.seq (.reg [⟨(some 17), none, (.mov (.t 0))⟩, ⟨(some 18), none, (.pl 8 [(.t 17)])⟩, ⟨(some 19), none, (.un .not (.t 18))⟩, ⟨(some 20), none, (.mov (.t 19))⟩, ⟨(some 21), (some (20, false)), (.mov (.t 1))⟩, ⟨(some 22), (some (20, false)), (.bin false .lss (.t 21) (.v (.sc (.int .i64 0))))⟩, ⟨(some 23), none, (.pick (.t 20) (.v (.sc (.bool true))) (.t 22))⟩] 7 none) (.cond (.t 23) (.seq (.reg [⟨(some 24), none, (.pl 9 [])⟩, ⟨(some 4), none, (.mov (.t 24))⟩] 2 none) .ret) .skip)) (.seq (.reg [⟨(some 25), none, (.hp 10 [])⟩, ⟨(some 5), none, (.mov (.t 25))⟩] 2 none) (.seq (.reg [⟨(some 6), none, (.mov (.v (.list 0 [] 1)))⟩] 1 none) (.seq (.reg [⟨(some 7), none, (.mov (.v (.list 0 [] 1)))⟩] 1 none) (.seq (.seq (.reg [⟨(some 8), none, (.mov (.v (.sc (.int .i64 0))))⟩] 1 none) (.block 0 (.loop k5_l0))) k5_t1)))))), [(.t 4)]⟩
def k6_l0 : Y := (.seq (.seq (.reg [⟨(some 31), none, (.mov (.t 10))⟩, ⟨(some 32), none, (.mov (.t 0))⟩, ⟨(some 33), none, (.two (.len (.t 32)) (.len (.t 32)))⟩, ⟨(some 34), none, (.bin false .lss (.t 31) (.t 33))⟩] 4 none) (.cond (.t 34) .skip (.«exit» 0))) (.seq (.block 1 (.seq (.reg [⟨(some 37), none, (.mov (.t 7))⟩, ⟨(some 38), none, (.mov (.t 0))⟩, ⟨(some 39), none, (.mov (.t 10))⟩, ⟨(some 40), none, (.two (.ix 31 (.t 38) (.t 39)) (.ixl 31 (.t 38) (.t 39)))⟩, ⟨(some 41), none, (.two (.ld (some 9) (.t 40)) (.ld (some 9) (.t 40)))⟩, ⟨(some 42), none, (.hp 12 [(.t 37), (.t 41)])⟩, ⟨(some 43), none, (.bin false .eql (.t 42) (.v (.sc (.int .i64 0))))⟩] 7 none) (.cond (.t 43) (.seq (.reg [⟨(some 44), none, (.mov (.t 9))⟩, ⟨(some 45), none, (.mov (.t 0))⟩, ⟨(some 46), none, (.mov (.t 10))⟩, ⟨(some 47), none, (.two (.ix 31 (.t 45) (.t 46)) (.ixl 31 (.t 45) (.t 46)))⟩, ⟨(some 48), none, (.two (.ld (some 9) (.t 47)) (.ld (some 9) (.t 47)))⟩, ⟨(some 49), none, (.two (.lit 31 true 9 [(.t 48)]) (.mk 31 9 [(.t 48)]))⟩, ⟨(some 50), none, (.two (.app 31 true 9 112 true (.t 44) (.t 49)) (.app 31 112 true (.t 44) (.t 49)))⟩, ⟨(some 9), none, (.mov (.t 50))⟩] 8 none) (.reg [⟨(some 51), none, (.mov (.t 8))⟩, ⟨(some 52), none, (.mov (.t 7))⟩, ⟨(some 53), none, (.hp 16 [(.t 52)])⟩, ⟨(some 54), none, (.two (.len (.t 53)) (.len (.t 53)))⟩, ⟨(some 55), none, (.two (.lit 3 false 1 [(.t 54)]) (.mk 3 1 [(.t 54)]))⟩, ⟨(some 56), none, (.two (.app 3 false 1 8 true (.t 51) (.t 55)) (.app 3 8 true (.t 51) (.t 55)))⟩, ⟨(some 8), none, (.mov (.t 56))⟩] 7 none)) .skip))) (.reg [⟨(some 35), none, (.mov (.t 10))⟩, ⟨(some 36), none, (.bin false .add (.t 35) (.v (.sc (.int .i64 1))))⟩, ⟨(some 10), none, (.mov (.t 36))⟩] 3 none)))
def k6_l1 : Y := (.seq (.seq (.reg [⟨(some 79), none, (.mov (.t 13))⟩, ⟨(some 80), none, (.bin false .add (.t 79) (.v (.sc (.int .i64 1))))⟩, ⟨(some 81), none, (.mov (.t 8))⟩, ⟨(some 82), none, (.two (.len (.t 81)) (.len (.t 81)))⟩, ⟨(some 83), none, (.bin false .lss (.t 80) (.t 82))⟩, ⟨(some 84), none, (.mov (.t 83))⟩, ⟨(some 85), (some (84, true)), (.mov (.t 8))⟩, ⟨(some 86), (some (84, true)), (.mov (.t 13))⟩, ⟨(some 87), (some (84, true)), (.bin false .add (.t 86) (.v (.sc (.int .i64 1))))⟩, ⟨(some 88), (some (84, true)), (.two (.ix 3 (.t 85) (.t 87)) (.ixl 3 (.t 85) (.t 87)))⟩, ⟨(some 89), (some (84, true)), (.two (.ld none (.t 88)) (.ld none (.t 88)))⟩, ⟨(some 90), (some (84, true)), (.mov (.t 12))⟩, ⟨(some 91), (some (84, true)), (.bin false .leq (.t 89) (.t 90))⟩, ⟨(some 92), none, (.pick (.t 84) (.t 91) (.v (.sc (.bool false))))⟩] 14 none) (.cond (.t 92) .skip (.«exit» 2))) (.block 3 (.reg [⟨(some 93), none, (.mov (.t 13))⟩, ⟨(some 94), none, (.bin false .add (.t 93) (.v (.sc (.int .i64 1))))⟩, ⟨(some 13), none, (.mov (.t 94))⟩] 3 none)))
def k6_t0 : Y := (.seq (.reg [⟨(some 96), none, (.mov (.t 11))⟩, ⟨(some 97), none, (.hp 21 [(.t 96)])⟩, ⟨(some 95), none, (.mov (.t 97))⟩, ⟨(some 98), none, (.ext (.t 95) 0)⟩, ⟨(some 99), none, (.ext (.t 95) 1)⟩, ⟨(some 100), none, (.ext (.t 95) 2)⟩, ⟨(some 14), none, (.mov (.t 98))⟩, ⟨(some 15), none, (.mov (.t 99))⟩, ⟨(some 16), none, (.mov (.t 100))⟩] 9 none) (.seq (.reg [⟨(some 101), none, (.mov (.t 14))⟩, ⟨(some 102), none, (.isn true (.t 101))⟩, ⟨(some 103), none, (.mov (.t 102))⟩, ⟨(some 104), (some (103, true)), (.mov (.t 16))⟩, ⟨(some 105), (some (103, true)), (.bin false .neq (.t 104) (.v (.sc (.int .i64 0))))⟩, ⟨(some 106), none, (.pick (.t 103) (.t 105) (.v (.sc (.bool false))))⟩, ⟨(some 107), none, (.mov (.t 106))⟩, ⟨(some 108), (some (107, true)), (.mov (.t 15))⟩, ⟨(some 109), (some (107, true)), (.mov (.t 8))⟩, ⟨(some 110), (some (107, true)), (.mov (.t 13))⟩, ⟨(some 111), (some (107, true)), (.two (.ix 3 (.t 109) (.t 110)) (.ixl 3 (.t 109) (.t 110)))⟩, ⟨(some 112), (some (107, true)), (.two (.ld none (.t 111)) (.ld none (.t 111)))⟩, ⟨(some 113), (some (107, true)), (.bin false .eql (.t 108) (.t 112))⟩, ⟨(some 114), none, (.pick (.t 107) (.t 113) (.v (.sc (.bool false))))⟩, ⟨(some 115), none, (.mov (.t 114))⟩, ⟨(some 116), (some (115, true)), (.mov (.t 14))⟩, ⟨(some 117), (some (115, true)), (.hp 19 [(.t 116)])⟩, ⟨(some 118), (some (115, true)), (.mov (.t 9))⟩, ⟨(some 119), (some (115, true)), (.mov (.t 13))⟩, ⟨(some 120), (some (115, true)), (.two (.sll 31 (.t 118) none (some (.t 119))) (.sll 31 (.t 118) none (some (.t 119))))⟩, ⟨(some 121), (some (115, true)), (.two (.pl 18 [(.t 117), (.t 120)]) (.pl 18 [(.t 117), (.t 120)]))⟩, ⟨(some 122), none, (.pick (.t 115) (.t 121) (.v (.sc (.bool false))))⟩, ⟨(some 123), none, (.mov (.t 122))⟩, ⟨(some 124), (some (123, true)), (.two (.pl 9 []) (.pl 9 []))⟩, ⟨(some 125), none, (.pick (.t 123) (.t 124) (.v (.sc (.bool false))))⟩, ⟨(some 6), none, (.mov (.t 125))⟩] 26 (some [0, 1, 3, 7, 15, 31, 63, 127, 127, 127, 895, 1919, 4095, 8191, 16383, 32767, 65535, 32767, 32767, 425983, 1048575, 2097151, 4194303, 8388607, 16777215, 33554431])) .ret))
def k6_t1 : Y := (.seq (.reg [⟨(some 57), none, (.mov (.t 7))⟩, ⟨(some 58), none, (.hp 16 [(.t 57)])⟩, ⟨(some 11), none, (.mov (.t 58))⟩] 3 none) (.seq (.seq (.reg [⟨(some 59), none, (.mov (.t 11))⟩, ⟨(some 60), none, (.two (.len (.t 59)) (.len (.t 59)))⟩, ⟨(some 61), none, (.bin false .eql (.t 60) (.v (.sc (.int .i64 0))))⟩] 3 none) (.cond (.t 61) (.seq (.reg [⟨(some 62), none, (.mov (.t 9))⟩, ⟨(some 63), none, (.two (.len (.t 62)) (.len (.t 62)))⟩, ⟨(some 64), none, (.bin false .eql (.t 63) (.v (.sc (.int .i64 0))))⟩, ⟨(some 65), none, (.mov (.t 64))⟩, ⟨(some 66), (some (65, true)), (.two (.pl 9 []) (.pl 9 []))⟩, ⟨(some 67), none, (.pick (.t 65) (.t 66) (.v (.sc (.bool false))))⟩, ⟨(some 6), none, (.mov (.t 67))⟩] 7 none) .ret) .skip)) (.seq (.reg [⟨(some 68), none, (.mov (.t 1))⟩, ⟨(some 69), none, (.mov (.t 11))⟩, ⟨(some 70), none, (.two (.len (.t 69)) (.len (.t 69)))⟩, ⟨(some 71), none, (.bin false .rem (.t 68) (.t 70))⟩, ⟨(some 12), none, (.mov (.t 71))⟩] 5 none) (.seq (.reg [⟨(some 72), none, (.mov (.t 11))⟩, ⟨(some 73), none, (.mov (.t 12))⟩, ⟨(some 74), none, (.two (.ix 5 (.t 72) (.t 73)) (.ixl 5 (.t 72) (.t 73)))⟩, ⟨(some 75), none, (.two (.ld none (.t 74)) (.ld none (.t 74)))⟩, ⟨(some 76), none, (.mov (.t 2))⟩, ⟨(some 77), none, (.bin false .xor (.t 75) (.t 76))⟩, ⟨(some 78), none, (.two (.ix 5 (.t 72) (.t 73)) (.ixl 5 (.t 72) (.t 73)))⟩, ⟨none, none, (.two (.sto 1 (.t 78) (.t 77)) (.sto 1 (.t 78) (.t 77)))⟩] 8 none) (.seq (.reg [⟨(some 13), none, (.mov (.v (.sc (.int .i64 0))))⟩] 1 none) (.seq (.block 2 (.loop k6_l1)) k6_t0))))))
def k6 : KF := ⟨(.seq (.reg [⟨(some 6), none, (.mov (.v (.sc (.bool false))))⟩] 1 none) (.seq (.seq (.reg [⟨(some 17), none, (.mov (.t 0))⟩, ⟨(some 18), none, (.two (.pl 8 [(.t 17)]) (.pl 8 [(.t 17)]))⟩, ⟨(some 19), none, (.un .not (.t 18))⟩, ⟨(some 20), none, (.mov (.t 19))⟩, ⟨(some 21), (some (20, false)), (.mov (.t 1))⟩, ⟨(some 22), (some (20, false)), (.bin false .lss (.t 21) (.v (.sc (.int .i64 0))))⟩, ⟨(some 23), none, (.pick (.t 20) (.v (.sc (.bool true))) (.t 22))⟩, ⟨(some 24), none, (.mov (.t 23))⟩, ⟨(some 25), (some (24, false)), (.mov (.t 2))⟩, ⟨(some 26), (some (24, false)), (.bin false .eql (.t 25) (.v (.sc (.int .u8 0))))⟩, ⟨(some 27), none, (.pick (.t 24) (.v (.sc (.bool true))) (.t 26))⟩] 11 none) (.cond (.t 27) (.seq (.reg [⟨(some 28), none, (.two (.pl 9 []) (.pl 9 []))⟩, ⟨(some 6), none, (.mov (.t 28))⟩] 2 none) .ret) .skip)) (.seq (.reg [⟨(some 29), none, (.hp 10 [])⟩, ⟨(some 7), none, (.mov (.t 29))⟩] 2 none) (.seq (.reg [⟨(some 30), none, (.two (.lit 3 false 1 [(.v (.sc (.int .i64 0)))]) (.mk 3 1 [(.v (.sc (.int .i64 0)))]))⟩, ⟨(some 8), none, (.mov (.t 30))⟩] 2 none) (.seq (.reg [⟨(some 9), none, (.mov (.v (.list 0 [] 1)))⟩] 1 none) (.seq (.seq (.reg [⟨(some 10), none, (.mov (.v (.sc (.int .i64 0))))⟩] 1 none) (.block 0 (.loop k6_l0))) k6_t1)))))), [(.t 6)]⟩
theorem k6_eq : (Tryd.prog.funcs[6]?).bind (cmpF Tryd.prog hmS glS 1) = some k6 := by kernel_rfl
def k7 : KF := ⟨(.seq (.reg [⟨(some 1), none, (.box (.t 0))⟩, ⟨(some 2), none, (.mov (.v (.sc (.bool false))))⟩] 2 none) (.seq (.seq (.reg [⟨(some 4), none, (.two (.ld (some 9) (.t 1)) (.ld (some 9) (.t 1)))⟩, ⟨(some 5), none, (.two (.lit 31 true 9 [(.t 4)]) (.mk 31 9 [(.t 4)]))⟩, ⟨(some 6), none, (.two (.pl 8 [(.t 5)]) (.pl 8 [(.t 5)]))⟩, ⟨(some 7), none, (.un .not (.t 6))⟩] 4 none) (.cond (.t 7) (.seq (.reg [⟨(some 8), none, (.two (.pl 9 []) (.pl 9 []))⟩, ⟨(some 2), none, (.mov (.t 8))⟩] 2 none) .ret) .skip)) (.seq (.reg [⟨(some 3), none, (.mov (.v (.sc (.pointer none))))⟩] 1 none) (.seq (.reg [⟨(some 9), none, (.mov (.t 3))⟩, ⟨(some 10), none, (.two (.ld (some 9) (.t 1)) (.ld (some 9) (.t 1)))⟩, ⟨(some 11), none, (.hp 12 [(.t 9), (.t 10)])⟩, ⟨(some 12), none, (.bin false .eql (.t 11) (.v (.sc (.int .i64 1))))⟩, ⟨(some 13), none, (.mov (.t 12))⟩, ⟨(some 14), (some (13, true)), (.mov (.t 3))⟩, ⟨(some 15), (some (13, true)), (.hp 13 [(.t 14)])⟩, ⟨(some 16), (some (13, true)), (.bin false .eql (.t 15) (.v (.sc (.int .i64 0))))⟩, ⟨(some 17), none, (.pick (.t 13) (.t 16) (.v (.sc (.bool false))))⟩, ⟨(some 18), none, (.mov (.t 17))⟩, ⟨(some 19), (some (18, true)), (.mov (.t 3))⟩, ⟨(some 20), (some (18, true)), (.hp 14 [(.t 19)])⟩, ⟨(some 21), (some (18, true)), (.bin false .eql (.t 20) (.v (.sc (.int .u64 0))))⟩, ⟨(some 22), none, (.pick (.t 18) (.t 21) (.v (.sc (.bool false))))⟩, ⟨(some 23), none, (.mov (.t 22))⟩, ⟨(some 24), (some (23, true)), (.mov (.t 3))⟩, ⟨(some 25), (some (23, true)), (.hp 19 [(.t 24)])⟩, ⟨(some 26), (some (23, true)), (.two (.len (.t 25)) (.len (.t 25)))⟩, ⟨(some 27), (some (23, true)), (.bin false .eql (.t 26) (.v (.sc (.int .i64 0))))⟩, ⟨(some 28), none, (.pick (.t 23) (.t 27) (.v (.sc (.bool false))))⟩, ⟨(some 29), none, (.mov (.t 28))⟩, ⟨(some 30), (some (29, true)), (.mov (.t 3))⟩, ⟨(some 31), (some (29, true)), (.hp 16 [(.t 30)])⟩, ⟨(some 32), (some (29, true)), (.two (.len (.t 31)) (.len (.t 31)))⟩, ⟨(some 33), (some (29, true)), (.bin false .eql (.t 32) (.v (.sc (.int .i64 0))))⟩, ⟨(some 34), none, (.pick (.t 29) (.t 33) (.v (.sc (.bool false))))⟩, ⟨(some 35), none, (.mov (.t 34))⟩, ⟨(some 36), (some (35, true)), (.two (.pl 9 []) (.pl 9 []))⟩, ⟨(some 37), none, (.pick (.t 35) (.t 36) (.v (.sc (.bool false))))⟩, ⟨(some 2), none, (.mov (.t 37))⟩] 30 none) .ret)))), [(.t 2)]⟩
def k8_l0 : Y := (.seq (.seq (.reg [⟨(some 7), none, (.mov (.t 3))⟩, ⟨(some 8), none, (.mov (.t 0))⟩, ⟨(some 9), none, (.len (.t 8))⟩, ⟨(some 10), none, (.bin false .lss (.t 7) (.t 9))⟩] 4 none) (.cond (.t 10) .skip (.«exit» 0))) (.seq (.block 1 (.seq (.reg [⟨(some 13), none, (.mov (.t 0))⟩, ⟨(some 14), none, (.mov (.t 3))⟩, ⟨(some 15), none, (.ixl 31 (.t 13) (.t 14))⟩, ⟨(some 16), none, (.fa 8 (.t 15))⟩, ⟨(some 17), none, (.ld none (.t 16))⟩, ⟨(some 18), none, (.len (.t 17))⟩, ⟨(some 19), none, (.bin false .gtr (.t 18) (.v (.sc (.int .i64 120))))⟩, ⟨(some 20), none, (.mov (.t 19))⟩, ⟨(some 21), (some (20, false)), (.mov (.t 0))⟩, ⟨(some 22), (some (20, false)), (.mov (.t 3))⟩, ⟨(some 23), (some (20, false)), (.ixl 31 (.t 21) (.t 22))⟩, ⟨(some 24), (some (20, false)), (.fa 5 (.t 23))⟩, ⟨(some 25), (some (20, false)), (.ld none (.t 24))⟩, ⟨(some 26), (some (20, false)), (.lenS (.t 25))⟩, ⟨(some 27), (some (20, false)), (.bin false .gtr (.t 26) (.v (.sc (.int .i64 200))))⟩, ⟨(some 28), none, (.pick (.t 20) (.v (.sc (.bool true))) (.t 27))⟩] 16 none) (.cond (.t 28) (.seq (.reg [⟨(some 2), none, (.mov (.v (.sc (.bool false))))⟩] 1 none) .ret) .skip))) (.reg [⟨(some 11), none, (.mov (.t 3))⟩, ⟨(some 12), none, (.bin false .add (.t 11) (.v (.sc (.int .i64 1))))⟩, ⟨(some 3), none, (.mov (.t 12))⟩] 3 none)))
def k8_t0 : Y := (.seq (.reg [⟨(some 2), none, (.mov (.v (.sc (.bool true))))⟩] 1 none) .ret)
def k8 : KF := ⟨(.seq (.reg [⟨(some 2), none, (.mov (.v (.sc (.bool false))))⟩] 1 none) (.seq (.seq (.reg [⟨(some 4), none, (.mov (.t 0))⟩, ⟨(some 5), none, (.len (.t 4))⟩, ⟨(some 6), none, (.bin false .gtr (.t 5) (.v (.sc (.int .i64 12))))⟩] 3 none) (.cond (.t 6) (.seq (.reg [⟨(some 2), none, (.mov (.v (.sc (.bool false))))⟩] 1 none) .ret) .skip)) (.seq (.seq (.reg [⟨(some 3), none, (.mov (.v (.sc (.int .i64 0))))⟩] 1 none) (.block 0 (.loop k8_l0))) k8_t0))), [(.t 2)]⟩
theorem k8_eq : (Tryd.prog.funcs[8]?).bind (cmpF Tryd.prog hmS glS 0) = some k8 := by kernel_rfl
def k9 : KF := ⟨(.seq (.reg [⟨(some 0), none, (.mov (.v (.sc (.bool false))))⟩] 1 none) (.seq (.reg [⟨(some 14), none, (.hp 10 [])⟩, ⟨(some 1), none, (.mov (.t 14))⟩] 2 none) (.seq (.seq (.reg [⟨(some 15), none, (.mov (.t 1))⟩, ⟨(some 16), none, (.isn false (.t 15))⟩, ⟨(some 17), none, (.mov (.t 16))⟩, ⟨(some 18), (some (17, false)), (.mov (.t 1))⟩, ⟨(some 19), (some (17, false)), (.hp 13 [(.t 18)])⟩, ⟨(some 20), (some (17, false)), (.bin false .neq (.t 19) (.v (.sc (.int .i64 0))))⟩, ⟨(some 21), none, (.pick (.t 17) (.v (.sc (.bool true))) (.t 20))⟩, ⟨(some 22), none, (.mov (.t 21))⟩, ⟨(some 23), (some (22, false)), (.mov (.t 1))⟩, ⟨(some 24), (some (22, false)), (.hp 14 [(.t 23)])⟩, ⟨(some 25), (some (22, false)), (.two (.pl 22 []) (.pl 22 []))⟩, ⟨(some 26), (some (22, false)), (.bin false .neq (.t 24) (.t 25))⟩, ⟨(some 27), none, (.pick (.t 22) (.v (.sc (.bool true))) (.t 26))⟩, ⟨(some 28), none, (.mov (.t 27))⟩, ⟨(some 29), (some (28, false)), (.mov (.t 1))⟩, ⟨(some 30), (some (28, false)), (.two (.pl 23 [(.v (.sc (.int .i64 2)))]) (.pl 23 [(.v (.sc (.int .i64 2)))]))⟩, ⟨(some 31), (some (28, false)), (.hp 12 [(.t 29), (.t 30)])⟩, ⟨(some 32), (some (28, false)), (.bin false .neq (.t 31) (.v (.sc (.int .i64 17))))⟩, ⟨(some 33), none, (.pick (.t 28) (.v (.sc (.bool true))) (.t 32))⟩, ⟨(some 34), none, (.mov (.t 33))⟩, ⟨(some 35), (some (34, false)), (.mov (.t 1))⟩, ⟨(some 36), (some (34, false)), (.two (.pl 23 [(.v (.sc (.int .i64 1)))]) (.pl 23 [(.v (.sc (.int .i64 1)))]))⟩, ⟨(some 37), (some (34, false)), (.hp 12 [(.t 35), (.t 36)])⟩, ⟨(some 38), (some (34, false)), (.bin false .neq (.t 37) (.v (.sc (.int .i64 0))))⟩, ⟨(some 39), none, (.pick (.t 34) (.v (.sc (.bool true))) (.t 38))⟩, ⟨(some 40), none, (.mov (.t 39))⟩, ⟨(some 41), (some (40, false)), (.mov (.t 1))⟩, ⟨(some 42), (some (40, false)), (.two (.pl 23 [(.v (.sc (.int .i64 2)))]) (.pl 23 [(.v (.sc (.int .i64 2)))]))⟩, ⟨(some 43), (some (40, false)), (.hp 12 [(.t 41), (.t 42)])⟩, ⟨(some 44), (some (40, false)), (.bin false .neq (.t 43) (.v (.sc (.int .i64 0))))⟩, ⟨(some 45), none, (.pick (.t 40) (.v (.sc (.bool true))) (.t 44))⟩] 31 none) (.cond (.t 45) (.seq (.reg [⟨(some 0), none, (.mov (.v (.sc (.bool false))))⟩] 1 none) .ret) .skip)) (.seq (.reg [⟨(some 46), none, (.mov (.t 1))⟩, ⟨(some 47), none, (.hp 16 [(.t 46)])⟩, ⟨(some 2), none, (.mov (.t 47))⟩] 3 none) (.seq (.reg [⟨(some 49), none, (.mov (.t 2))⟩, ⟨(some 50), none, (.hp 21 [(.t 49)])⟩, ⟨(some 48), none, (.mov (.t 50))⟩, ⟨(some 51), none, (.ext (.t 48) 0)⟩, ⟨(some 52), none, (.ext (.t 48) 1)⟩, ⟨(some 53), none, (.ext (.t 48) 2)⟩, ⟨(some 3), none, (.mov (.t 51))⟩, ⟨(some 4), none, (.mov (.t 52))⟩, ⟨(some 5), none, (.mov (.t 53))⟩] 9 none) (.seq (.seq (.reg [⟨(some 54), none, (.mov (.t 5))⟩, ⟨(some 55), none, (.bin false .neq (.t 54) (.v (.sc (.int .i64 0))))⟩, ⟨(some 56), none, (.mov (.t 55))⟩, ⟨(some 57), (some (56, false)), (.mov (.t 4))⟩, ⟨(some 58), (some (56, false)), (.mov (.t 2))⟩, ⟨(some 59), (some (56, false)), (.two (.len (.t 58)) (.len (.t 58)))⟩, ⟨(some 60), (some (56, false)), (.bin false .neq (.t 57) (.t 59))⟩, ⟨(some 61), none, (.pick (.t 56) (.v (.sc (.bool true))) (.t 60))⟩, ⟨(some 62), none, (.mov (.t 61))⟩, ⟨(some 63), (some (62, false)), (.mov (.t 3))⟩, ⟨(some 64), (some (62, false)), (.isn false (.t 63))⟩, ⟨(some 65), none, (.pick (.t 62) (.v (.sc (.bool true))) (.t 64))⟩, ⟨(some 66), none, (.mov (.t 65))⟩, ⟨(some 67), (some (66, false)), (.mov (.t 3))⟩, ⟨(some 68), (some (66, false)), (.hp 13 [(.t 67)])⟩, ⟨(some 69), (some (66, false)), (.bin false .neq (.t 68) (.v (.sc (.int .i64 2))))⟩, ⟨(some 70), none, (.pick (.t 66) (.v (.sc (.bool true))) (.t 69))⟩, ⟨(some 71), none, (.mov (.t 70))⟩, ⟨(some 72), (some (71, false)), (.mov (.t 3))⟩, ⟨(some 73), (some (71, false)), (.hp 14 [(.t 72)])⟩, ⟨(some 74), (some (71, false)), (.mov (.t 1))⟩, ⟨(some 75), (some (71, false)), (.hp 14 [(.t 74)])⟩, ⟨(some 76), (some (71, false)), (.bin false .neq (.t 73) (.t 75))⟩, ⟨(some 77), none, (.pick (.t 71) (.v (.sc (.bool true))) (.t 76))⟩, ⟨(some 78), none, (.mov (.t 77))⟩, ⟨(some 79), (some (78, false)), (.mov (.t 2))⟩, ⟨(some 80), (some (78, false)), (.two (.len (.t 79)) (.len (.t 79)))⟩, ⟨(some 81), (some (78, false)), (.bin false .lss (.t 80) (.v (.sc (.int .i64 16))))⟩, ⟨(some 82), none, (.pick (.t 78) (.v (.sc (.bool true))) (.t 81))⟩, ⟨(some 83), none, (.mov (.t 82))⟩, ⟨(some 84), (some (83, false)), (.mov (.t 2))⟩, ⟨(some 85), (some (83, false)), (.two (.len (.t 84)) (.len (.t 84)))⟩, ⟨(some 86), (some (83, false)), (.bin false .rem (.t 85) (.v (.sc (.int .i64 2))))⟩, ⟨(some 87), (some (83, false)), (.bin false .neq (.t 86) (.v (.sc (.int .i64 0))))⟩, ⟨(some 88), none, (.pick (.t 83) (.v (.sc (.bool true))) (.t 87))⟩, ⟨(some 89), none, (.mov (.t 88))⟩, ⟨(some 90), (some (89, false)), (.mov (.t 2))⟩, ⟨(some 91), (some (89, false)), (.two (.ix 5 (.t 90) (.v (.sc (.int .i64 0)))) (.ixl 5 (.t 90) (.v (.sc (.int .i64 0)))))⟩, ⟨(some 92), (some (89, false)), (.two (.ld none (.t 91)) (.ld none (.t 91)))⟩, ⟨(some 93), (some (89, false)), (.bin false .neq (.t 92) (.v (.sc (.int .u8 0))))⟩, ⟨(some 94), none, (.pick (.t 89) (.v (.sc (.bool true))) (.t 93))⟩, ⟨(some 95), none, (.mov (.t 94))⟩, ⟨(some 96), (some (95, false)), (.mov (.t 2))⟩, ⟨(some 97), (some (95, false)), (.two (.ix 5 (.t 96) (.v (.sc (.int .i64 4)))) (.ixl 5 (.t 96) (.v (.sc (.int .i64 4)))))⟩, ⟨(some 98), (some (95, false)), (.two (.ld none (.t 97)) (.ld none (.t 97)))⟩, ⟨(some 99), (some (95, false)), (.bin false .neq (.t 98) (.v (.sc (.int .u8 255))))⟩, ⟨(some 100), none, (.pick (.t 95) (.v (.sc (.bool true))) (.t 99))⟩] 47 none) (.cond (.t 100) (.seq (.reg [⟨(some 0), none, (.mov (.v (.sc (.bool false))))⟩] 1 none) .ret) .skip)) (.seq (.reg [⟨(some 101), none, (.mov (.t 2))⟩, ⟨(some 102), none, (.two (.len (.t 101)) (.len (.t 101)))⟩, ⟨(some 103), none, (.bin false .quo (.t 102) (.v (.sc (.int .i64 2))))⟩, ⟨(some 6), none, (.mov (.t 103))⟩] 4 none) (.seq (.reg [⟨(some 105), none, (.mov (.t 2))⟩, ⟨(some 106), none, (.mov (.t 2))⟩, ⟨(some 107), none, (.two (.len (.t 106)) (.len (.t 106)))⟩, ⟨(some 108), none, (.bin false .sub (.t 107) (.v (.sc (.int .i64 1))))⟩, ⟨(some 109), none, (.two (.sll 5 (.t 105) none (some (.t 108))) (.sll 5 (.t 105) none (some (.t 108))))⟩, ⟨(some 110), none, (.hp 21 [(.t 109)])⟩, ⟨(some 104), none, (.mov (.t 110))⟩, ⟨(some 111), none, (.ext (.t 104) 0)⟩, ⟨(some 112), none, (.ext (.t 104) 1)⟩, ⟨(some 113), none, (.ext (.t 104) 2)⟩, ⟨(some 7), none, (.mov (.t 111))⟩, ⟨(some 8), none, (.mov (.t 112))⟩, ⟨(some 9), none, (.mov (.t 113))⟩] 13 none) (.seq (.reg [⟨(some 114), none, (.two (.lit 5 false 1 []) (.mk 5 1 []))⟩, ⟨(some 115), none, (.mov (.t 2))⟩, ⟨(some 116), none, (.two (.app 5 false 1 1 true (.t 114) (.t 115)) (.app 5 1 true (.t 114) (.t 115)))⟩, ⟨(some 10), none, (.mov (.t 116))⟩] 4 none) (.seq (.reg [⟨(some 117), none, (.mov (.t 10))⟩, ⟨(some 118), none, (.mov (.t 6))⟩, ⟨(some 119), none, (.bin false .add (.t 118) (.v (.sc (.int .i64 9))))⟩, ⟨(some 120), none, (.two (.ix 5 (.t 117) (.t 119)) (.ixl 5 (.t 117) (.t 119)))⟩, ⟨(some 121), none, (.two (.ld none (.t 120)) (.ld none (.t 120)))⟩, ⟨(some 122), none, (.bin false .add (.t 121) (.v (.sc (.int .u8 1))))⟩, ⟨(some 123), none, (.two (.ix 5 (.t 117) (.t 119)) (.ixl 5 (.t 117) (.t 119)))⟩, ⟨none, none, (.two (.sto 1 (.t 123) (.t 122)) (.sto 1 (.t 123) (.t 122)))⟩] 8 none) (.seq (.reg [⟨(some 125), none, (.mov (.t 10))⟩, ⟨(some 126), none, (.hp 21 [(.t 125)])⟩, ⟨(some 124), none, (.mov (.t 126))⟩, ⟨(some 127), none, (.ext (.t 124) 0)⟩, ⟨(some 128), none, (.ext (.t 124) 1)⟩, ⟨(some 129), none, (.ext (.t 124) 2)⟩, ⟨(some 11), none, (.mov (.t 127))⟩, ⟨(some 12), none, (.mov (.t 128))⟩, ⟨(some 13), none, (.mov (.t 129))⟩] 9 none) (.seq (.reg [⟨(some 130), none, (.mov (.t 9))⟩, ⟨(some 131), none, (.bin false .eql (.t 130) (.v (.sc (.int .i64 6))))⟩, ⟨(some 132), none, (.mov (.t 131))⟩, ⟨(some 133), (some (132, true)), (.mov (.t 8))⟩, ⟨(some 134), (some (132, true)), (.mov (.t 6))⟩, ⟨(some 135), (some (132, true)), (.bin false .eql (.t 133) (.t 134))⟩, ⟨(some 136), none, (.pick (.t 132) (.t 135) (.v (.sc (.bool false))))⟩, ⟨(some 137), none, (.mov (.t 136))⟩, ⟨(some 138), (some (137, true)), (.mov (.t 7))⟩, ⟨(some 139), (some (137, true)), (.hp 13 [(.t 138)])⟩, ⟨(some 140), (some (137, true)), (.bin false .eql (.t 139) (.v (.sc (.int .i64 1))))⟩, ⟨(some 141), none, (.pick (.t 137) (.t 140) (.v (.sc (.bool false))))⟩, ⟨(some 142), none, (.mov (.t 141))⟩, ⟨(some 143), (some (142, true)), (.mov (.t 13))⟩, ⟨(some 144), (some (142, true)), (.bin false .eql (.t 143) (.v (.sc (.int .i64 23))))⟩, ⟨(some 145), none, (.pick (.t 142) (.t 144) (.v (.sc (.bool false))))⟩, ⟨(some 146), none, (.mov (.t 145))⟩, ⟨(some 147), (some (146, true)), (.mov (.t 12))⟩, ⟨(some 148), (some (146, true)), (.mov (.t 6))⟩, ⟨(some 149), (some (146, true)), (.bin false .eql (.t 147) (.t 148))⟩, ⟨(some 150), none, (.pick (.t 146) (.t 149) (.v (.sc (.bool false))))⟩, ⟨(some 151), none, (.mov (.t 150))⟩, ⟨(some 152), (some (151, true)), (.mov (.t 11))⟩, ⟨(some 153), (some (151, true)), (.hp 13 [(.t 152)])⟩, ⟨(some 154), (some (151, true)), (.bin false .eql (.t 153) (.v (.sc (.int .i64 1))))⟩, ⟨(some 155), none, (.pick (.t 151) (.t 154) (.v (.sc (.bool false))))⟩, ⟨(some 156), none, (.mov (.t 155))⟩, ⟨(some 157), (some (156, true)), (.mov (.t 3))⟩, ⟨(some 158), (some (156, true)), (.hp 19 [(.t 157)])⟩, ⟨(some 159), (some (156, true)), (.two (.pl 23 [(.v (.sc (.int .i64 1)))]) (.pl 23 [(.v (.sc (.int .i64 1)))]))⟩, ⟨(some 160), (some (156, true)), (.two (.pl 23 [(.v (.sc (.int .i64 2)))]) (.pl 23 [(.v (.sc (.int .i64 2)))]))⟩, ⟨(some 161), (some (156, true)), (.two (.lit 31 true 9 [(.t 159), (.t 160)]) (.mk 31 9 [(.t 159), (.t 160)]))⟩, ⟨(some 162), (some (156, true)), (.two (.pl 18 [(.t 158), (.t 161)]) (.pl 18 [(.t 158), (.t 161)]))⟩, ⟨(some 163), none, (.pick (.t 156) (.t 162) (.v (.sc (.bool false))))⟩, ⟨(some 0), none, (.mov (.t 163))⟩] 35 none) .ret)))))))))))), [(.t 0)]⟩
def k10 : KF := ⟨(.seq (.reg [⟨(some 0), none, (.mov (.v (.sc (.pointer none))))⟩] 1 none) (.seq (.reg [⟨(some 1), none, (.build [(0, 1), (1, 1)] [(.list 0 [] 1), (.sc (.int .u64 0))] [(1, (.v (.sc (.int .u64 14695981039346656037))))])⟩, ⟨(some 2), none, (.build [(0, 2), (2, 1)] [(.list 0 [] 1), (.sc (.int .u64 0)), (.list 0 [] 1)] [(0, (.t 1))])⟩, ⟨(some 3), none, (.box (.t 2))⟩, ⟨(some 0), none, (.mov (.t 3))⟩] 4 none) .ret)), [(.t 0)]⟩
theorem k10_eq : (Tryd.prog.funcs[10]?).bind (cmpF Tryd.prog hmS glS 0) = some k10 := by kernel_rfl
def k12 : KF := ⟨(.seq (.reg [⟨(some 3), none, (.box (.t 1))⟩, ⟨(some 4), none, (.mov (.v (.sc (.int .i64 0))))⟩] 2 none) (.seq (.seq (.reg [⟨(some 8), none, (.mov (.t 0))⟩, ⟨(some 9), none, (.isn false (.t 8))⟩] 2 none) (.cond (.t 9) (.seq (.reg [⟨(some 4), none, (.mov (.v (.sc (.int .i64 1))))⟩] 1 none) .ret) .skip)) (.seq (.seq (.reg [⟨(some 11), none, (.ld (some 9) (.t 3))⟩, ⟨(some 12), none, (.pl 27 [(.t 11)])⟩, ⟨(some 10), none, (.mov (.t 12))⟩, ⟨(some 13), none, (.ext (.t 10) 0)⟩, ⟨(some 14), none, (.ext (.t 10) 1)⟩, ⟨(some 5), none, (.mov (.t 13))⟩, ⟨(some 6), none, (.mov (.t 14))⟩] 7 none) (.seq (.reg [⟨(some 15), none, (.mov (.t 6))⟩, ⟨(some 16), none, (.bin false .neq (.t 15) (.v (.sc (.int .i64 0))))⟩] 2 none) (.cond (.t 16) (.seq (.reg [⟨(some 17), none, (.mov (.t 6))⟩, ⟨(some 4), none, (.mov (.t 17))⟩] 2 none) .ret) .skip))) (.seq (.seq (.reg [⟨(some 18), none, (.fa 0 (.t 3))⟩, ⟨(some 19), none, (.ld none (.t 18))⟩, ⟨(some 20), none, (.mov (.t 0))⟩, ⟨(some 21), none, (.nilc (.t 20))⟩, ⟨(some 22), none, (.fa 2 (.t 21))⟩, ⟨(some 23), none, (.ld none (.t 22))⟩, ⟨(some 24), none, (.len (.t 23))⟩, ⟨(some 25), none, (.bin false .add (.t 24) (.v (.sc (.int .i64 1))))⟩, ⟨(some 26), none, (.bin false .neq (.t 19) (.t 25))⟩] 9 (some [0, 1, 0, 4, 12, 28, 60, 124, 255])) (.cond (.t 26) (.seq (.reg [⟨(some 4), none, (.mov (.v (.sc (.int .i64 17))))⟩] 1 none) .ret) .skip)) (.seq (.reg [⟨(some 28), none, (.ld (some 9) (.t 3))⟩, ⟨(some 29), none, (.pl 28 [(.t 28)])⟩, ⟨(some 27), none, (.mov (.t 29))⟩, ⟨(some 30), none, (.ext (.t 27) 0)⟩, ⟨(some 31), none, (.ext (.t 27) 1)⟩, ⟨(some 7), none, (.mov (.t 30))⟩, ⟨(some 4), none, (.mov (.t 31))⟩] 7 none) (.seq (.seq (.reg [⟨(some 32), none, (.mov (.t 4))⟩, ⟨(some 33), none, (.bin false .neq (.t 32) (.v (.sc (.int .i64 0))))⟩] 2 none) (.cond (.t 33) (.seq (.reg [⟨(some 34), none, (.mov (.t 4))⟩, ⟨(some 4), none, (.mov (.t 34))⟩] 2 none) .ret) .skip)) (.seq (.reg [⟨(some 35), none, (.mov (.t 0))⟩, ⟨(some 36), none, (.nilc (.t 35))⟩, ⟨(some 37), none, (.fa 0 (.t 36))⟩, ⟨(some 38), none, (.mov (.t 7))⟩, ⟨(some 39), none, (.hp 29 [(.t 37), (.t 38)])⟩] 5 none) (.seq (.reg [⟨(some 40), none, (.mov (.t 0))⟩, ⟨(some 41), none, (.mov (.t 0))⟩, ⟨(some 42), none, (.nilc (.t 41))⟩, ⟨(some 43), none, (.fa 2 (.t 42))⟩, ⟨(some 44), none, (.ld none (.t 43))⟩, ⟨(some 45), none, (.ld (some 9) (.t 3))⟩, ⟨(some 46), none, (.pl 30 [(.t 45)])⟩, ⟨(some 47), none, (.mk 31 9 [(.t 46)])⟩, ⟨(some 48), none, (.app 31 112 true (.t 44) (.t 47))⟩, ⟨(some 49), none, (.nilc (.t 40))⟩, ⟨(some 50), none, (.fa 2 (.t 49))⟩, ⟨none, none, (.sto 1 (.t 50) (.t 48))⟩] 12 (some [0, 0, 2, 6, 14, 0, 32, 96, 254, 511, 1023, 2047])) (.seq (.reg [⟨(some 4), none, (.mov (.v (.sc (.int .i64 0))))⟩] 1 none) .ret))))))))), [(.t 4)]⟩
theorem k12_eq : (Tryd.prog.funcs[12]?).bind (cmpF Tryd.prog hmS glS 0) = some k12 := by kernel_rfl
def k16 : KF := ⟨(.seq (.reg [⟨(some 2), none, (.mov (.v (.list 0 [] 1)))⟩] 1 none) (.seq (.seq (.reg [⟨(some 3), none, (.mov (.t 0))⟩, ⟨(some 4), none, (.isn false (.t 3))⟩] 2 none) (.cond (.t 4) (.seq (.reg [⟨(some 2), none, (.mov (.v (.list 0 [] 1)))⟩] 1 none) .ret) .skip)) (.seq (.reg [⟨(some 5), none, (.mov (.t 2))⟩, ⟨(some 6), none, (.mov (.t 0))⟩, ⟨(some 7), none, (.nilc (.t 6))⟩, ⟨(some 8), none, (.fa 0 (.t 7))⟩, ⟨(some 9), none, (.fa 0 (.t 8))⟩, ⟨(some 10), none, (.two (.ld none (.t 9)) (.ld none (.t 9)))⟩, ⟨(some 11), none, (.two (.app 5 false 1 1 true (.t 5) (.t 10)) (.app 5 1 true (.t 5) (.t 10)))⟩, ⟨(some 2), none, (.mov (.t 11))⟩] 8 none) .ret))), [(.t 2)]⟩
theorem k16_eq : (Tryd.prog.funcs[16]?).bind (cmpF Tryd.prog hmS glS 1) = some k16 := by kernel_rfl
def k18_l0 : Y := (.seq (.seq (.reg [⟨(some 11), none, (.mov (.t 5))⟩, ⟨(some 12), none, (.mov (.t 0))⟩, ⟨(some 13), none, (.len (.t 12))⟩, ⟨(some 14), none, (.bin false .lss (.t 11) (.t 13))⟩] 4 none) (.cond (.t 14) .skip (.«exit» 0))) (.seq (.block 1 (.seq (.reg [⟨(some 17), none, (.mov (.t 0))⟩, ⟨(some 18), none, (.mov (.t 5))⟩, ⟨(some 19), none, (.ixl 31 (.t 17) (.t 18))⟩, ⟨(some 20), none, (.ld (some 9) (.t 19))⟩, ⟨(some 21), none, (.mov (.t 1))⟩, ⟨(some 22), none, (.mov (.t 5))⟩, ⟨(some 23), none, (.ixl 31 (.t 21) (.t 22))⟩, ⟨(some 24), none, (.ld (some 9) (.t 23))⟩, ⟨(some 25), none, (.pl 34 [(.t 20), (.t 24)])⟩, ⟨(some 26), none, (.un .not (.t 25))⟩] 10 (some [0, 0, 3, 7, 0, 0, 48, 112, 255, 511])) (.cond (.t 26) (.seq (.reg [⟨(some 4), none, (.mov (.v (.sc (.bool false))))⟩] 1 none) .ret) .skip))) (.reg [⟨(some 15), none, (.mov (.t 5))⟩, ⟨(some 16), none, (.bin false .add (.t 15) (.v (.sc (.int .i64 1))))⟩, ⟨(some 5), none, (.mov (.t 16))⟩] 3 none)))
def k18_t0 : Y := (.seq (.reg [⟨(some 4), none, (.mov (.v (.sc (.bool true))))⟩] 1 none) .ret)
def k18 : KF := ⟨(.seq (.reg [⟨(some 4), none, (.mov (.v (.sc (.bool false))))⟩] 1 none) (.seq (.seq (.reg [⟨(some 6), none, (.mov (.t 0))⟩, ⟨(some 7), none, (.len (.t 6))⟩, ⟨(some 8), none, (.mov (.t 1))⟩, ⟨(some 9), none, (.len (.t 8))⟩, ⟨(some 10), none, (.bin false .neq (.t 7) (.t 9))⟩] 5 none) (.cond (.t 10) (.seq (.reg [⟨(some 4), none, (.mov (.v (.sc (.bool false))))⟩] 1 none) .ret) .skip)) (.seq (.seq (.reg [⟨(some 5), none, (.mov (.v (.sc (.int .i64 0))))⟩] 1 none) (.block 0 (.loop k18_l0))) k18_t0))), [(.t 4)]⟩
theorem k18_eq : (Tryd.prog.funcs[18]?).bind (cmpF Tryd.prog hmS glS 0) = some k18 := by kernel_rfl
def k19_l0 : Y := (.seq (.reg [⟨(some 13), none, (.bin false .lss (.t 12) (.t 11))⟩] 1 none) (.seq (.cond (.t 13) .skip (.«exit» 0)) (.seq (.block 1 (.seq (.reg [⟨(some 14), none, (.ixl 31 (.t 10) (.t 12))⟩, ⟨(some 15), none, (.ld (some 9) (.t 14))⟩, ⟨(some 4), none, (.new [(.sc (.int .i64 0)), (.sc (.string (ByteArray.mk #[]))), (.sc (.int .i64 0)), (.sc (.int .i64 0)), (.sc (.int .i64 0)), (.sc (.string (ByteArray.mk #[]))), (.sc (.string (ByteArray.mk #[]))), (.sc (.int .i64 0)), (.list 0 [] 1)])⟩, ⟨none, none, (.sto 9 (.t 4) (.t 15))⟩] 4 none) (.reg [⟨(some 16), none, (.mov (.t 2))⟩, ⟨(some 17), none, (.ld (some 9) (.t 4))⟩, ⟨(some 18), none, (.pl 30 [(.t 17)])⟩, ⟨(some 19), none, (.mk 31 9 [(.t 18)])⟩, ⟨(some 20), none, (.app 31 112 true (.t 16) (.t 19))⟩, ⟨(some 2), none, (.mov (.t 20))⟩] 6 none))) (.reg [⟨(some 21), none, (.bin false .add (.t 12) (.v (.sc (.int .i64 1))))⟩, ⟨(some 12), none, (.mov (.t 21))⟩] 2 none))))
def k19_t0 : Y := (.seq (.reg [⟨(some 22), none, (.mov (.t 2))⟩, ⟨(some 2), none, (.mov (.t 22))⟩] 2 none) .ret)
def k19 : KF := ⟨(.seq (.reg [⟨(some 2), none, (.mov (.v (.list 0 [] 1)))⟩] 1 none) (.seq (.seq (.reg [⟨(some 5), none, (.mov (.t 0))⟩, ⟨(some 6), none, (.isn false (.t 5))⟩] 2 none) (.cond (.t 6) (.seq (.reg [⟨(some 2), none, (.mov (.v (.list 0 [] 1)))⟩] 1 none) .ret) .skip)) (.seq (.seq (.reg [⟨(some 7), none, (.mov (.t 0))⟩, ⟨(some 8), none, (.nilc (.t 7))⟩, ⟨(some 9), none, (.fa 2 (.t 8))⟩, ⟨(some 10), none, (.ld none (.t 9))⟩, ⟨(some 11), none, (.len (.t 10))⟩, ⟨(some 12), none, (.mov (.v (.sc (.int .i64 0))))⟩] 6 none) (.block 0 (.loop k19_l0))) k19_t0))), [(.t 2)]⟩
theorem k19_eq : (Tryd.prog.funcs[19]?).bind (cmpF Tryd.prog hmS glS 0) = some k19 := by kernel_rfl
def k21_l0 : Y := (.seq (.seq (.reg [⟨(some 8), none, (.mov (.t 3))⟩, ⟨(some 9), none, (.mov (.t 0))⟩, ⟨(some 10), none, (.len (.t 9))⟩, ⟨(some 11), none, (.bin false .lss (.t 8) (.t 10))⟩] 4 none) (.cond (.t 11) .skip (.«exit» 0))) (.block 1 (.seq (.reg [⟨(some 13), none, (.mov (.t 2))⟩, ⟨(some 14), none, (.mov (.t 0))⟩, ⟨(some 15), none, (.mov (.t 3))⟩, ⟨(some 16), none, (.sll 5 (.t 14) (some (.t 15)) none)⟩, ⟨(some 17), none, (.hp 35 [(.t 13), (.t 16)])⟩, ⟨(some 12), none, (.mov (.t 17))⟩, ⟨(some 18), none, (.ext (.t 12) 0)⟩, ⟨(some 19), none, (.ext (.t 12) 1)⟩, ⟨(some 5), none, (.mov (.t 18))⟩, ⟨(some 6), none, (.mov (.t 19))⟩] 10 none) (.seq (.seq (.reg [⟨(some 20), none, (.mov (.t 6))⟩, ⟨(some 21), none, (.bin false .neq (.t 20) (.v (.sc (.int .i64 0))))⟩] 2 none) (.cond (.t 21) (.seq (.reg [⟨(some 22), none, (.mov (.t 2))⟩, ⟨(some 23), none, (.mov (.t 3))⟩, ⟨(some 24), none, (.mov (.t 6))⟩, ⟨(some 2), none, (.mov (.t 22))⟩, ⟨(some 3), none, (.mov (.t 23))⟩, ⟨(some 4), none, (.mov (.t 24))⟩] 6 none) .ret) .skip)) (.reg [⟨(some 25), none, (.mov (.t 3))⟩, ⟨(some 26), none, (.mov (.t 5))⟩, ⟨(some 27), none, (.bin false .add (.t 25) (.t 26))⟩, ⟨(some 3), none, (.mov (.t 27))⟩] 4 none)))))
def k21_t0 : Y := (.seq (.reg [⟨(some 28), none, (.mov (.t 2))⟩, ⟨(some 29), none, (.mov (.t 3))⟩, ⟨(some 2), none, (.mov (.t 28))⟩, ⟨(some 3), none, (.mov (.t 29))⟩, ⟨(some 4), none, (.mov (.v (.sc (.int .i64 0))))⟩] 5 none) .ret)
def k21 : KF := ⟨(.seq (.reg [⟨(some 2), none, (.mov (.v (.sc (.pointer none))))⟩, ⟨(some 3), none, (.mov (.v (.sc (.int .i64 0))))⟩, ⟨(some 4), none, (.mov (.v (.sc (.int .i64 0))))⟩] 3 none) (.seq (.reg [⟨(some 7), none, (.hp 10 [])⟩, ⟨(some 2), none, (.mov (.t 7))⟩] 2 none) (.seq (.block 0 (.loop k21_l0)) k21_t0))), [(.t 2), (.t 3), (.t 4)]⟩
theorem k21_eq : (Tryd.prog.funcs[21]?).bind (cmpF Tryd.prog hmS glS 0) = some k21 := by kernel_rfl
def k27_l0 : Y := (.seq (.reg [⟨(some 17), none, (.bin false .lss (.t 16) (.t 15))⟩] 1 none) (.seq (.cond (.t 17) .skip (.«exit» 0)) (.seq (.block 1 (.seq (.reg [⟨(some 18), none, (.mov (.t 16))⟩, ⟨(some 19), none, (.ixl 61 (.t 14) (.t 16))⟩, ⟨(some 20), none, (.ld (some 7) (.t 19))⟩, ⟨(some 6), none, (.new [(.sc (.string (ByteArray.mk #[]))), (.sc (.string (ByteArray.mk #[]))), (.sc (.int .i64 0)), (.sc (.int .i64 0)), (.sc (.string (ByteArray.mk #[]))), (.sc (.string (ByteArray.mk #[]))), (.list 0 [] 1)])⟩, ⟨(some 5), none, (.mov (.t 18))⟩, ⟨none, none, (.sto 7 (.t 6) (.t 20))⟩] 6 none) (.seq (.reg [⟨(some 21), none, (.ld (some 7) (.t 6))⟩, ⟨(some 22), none, (.pl 46 [(.t 21)])⟩, ⟨(some 7), none, (.mov (.t 22))⟩] 3 none) (.seq (.reg [⟨(some 23), none, (.mov (.t 7))⟩, ⟨(some 24), none, (.bin false .neq (.t 23) (.v (.sc (.int .i64 0))))⟩] 2 none) (.cond (.t 24) (.seq (.reg [⟨(some 25), none, (.mov (.t 5))⟩, ⟨(some 26), none, (.mov (.t 7))⟩, ⟨(some 2), none, (.mov (.t 25))⟩, ⟨(some 3), none, (.mov (.t 26))⟩] 4 none) .ret) .skip))))) (.reg [⟨(some 27), none, (.bin false .add (.t 16) (.v (.sc (.int .i64 1))))⟩, ⟨(some 16), none, (.mov (.t 27))⟩] 2 none))))
def k27_t0 : Y := (.seq (.seq (.reg [⟨(some 28), none, (.fa 8 (.t 1))⟩, ⟨(some 29), none, (.ld none (.t 28))⟩, ⟨(some 30), none, (.pl 47 [(.t 29)])⟩, ⟨(some 31), none, (.un .not (.t 30))⟩] 4 none) (.cond (.t 31) (.seq (.reg [⟨(some 2), none, (.mov (.v (.sc (.int .i64 (-1)))))⟩, ⟨(some 3), none, (.mov (.v (.sc (.int .i64 15))))⟩] 2 none) .ret) .skip)) (.seq (.reg [⟨(some 2), none, (.mov (.v (.sc (.int .i64 (-1)))))⟩, ⟨(some 3), none, (.mov (.v (.sc (.int .i64 0))))⟩] 2 none) .ret))
def k27 : KF := ⟨(.seq (.reg [⟨(some 1), none, (.box (.t 0))⟩, ⟨(some 2), none, (.mov (.v (.sc (.int .i64 0))))⟩, ⟨(some 3), none, (.mov (.v (.sc (.int .i64 0))))⟩] 3 none) (.seq (.seq (.reg [⟨(some 8), none, (.ld (some 9) (.t 1))⟩, ⟨(some 9), none, (.pl 45 [(.t 8)])⟩, ⟨(some 4), none, (.mov (.t 9))⟩] 3 none) (.seq (.reg [⟨(some 10), none, (.mov (.t 4))⟩, ⟨(some 11), none, (.bin false .neq (.t 10) (.v (.sc (.int .i64 0))))⟩] 2 none) (.cond (.t 11) (.seq (.reg [⟨(some 12), none, (.mov (.t 4))⟩, ⟨(some 2), none, (.mov (.v (.sc (.int .i64 (-1)))))⟩, ⟨(some 3), none, (.mov (.t 12))⟩] 3 none) .ret) .skip))) (.seq (.seq (.reg [⟨(some 13), none, (.fa 8 (.t 1))⟩, ⟨(some 14), none, (.ld none (.t 13))⟩, ⟨(some 15), none, (.len (.t 14))⟩, ⟨(some 16), none, (.mov (.v (.sc (.int .i64 0))))⟩] 4 none) (.block 0 (.loop k27_l0))) k27_t0))), [(.t 2), (.t 3)]⟩
theorem k27_eq : (Tryd.prog.funcs[27]?).bind (cmpF Tryd.prog hmS glS 0) = some k27 := by kernel_rfl
def k28_l0 : Y := (.seq (.reg [⟨(some 49), none, (.bin false .lss (.t 48) (.t 47))⟩] 1 none) (.seq (.cond (.t 49) .skip (.«exit» 0)) (.seq (.block 1 (.seq (.reg [⟨(some 50), none, (.ixl 61 (.t 46) (.t 48))⟩, ⟨(some 51), none, (.ld (some 7) (.t 50))⟩, ⟨(some 8), none, (.new [(.sc (.string (ByteArray.mk #[]))), (.sc (.string (ByteArray.mk #[]))), (.sc (.int .i64 0)), (.sc (.int .i64 0)), (.sc (.string (ByteArray.mk #[]))), (.sc (.string (ByteArray.mk #[]))), (.list 0 [] 1)])⟩, ⟨none, none, (.sto 7 (.t 8) (.t 51))⟩] 4 none) (.reg [⟨(some 52), none, (.ld (some 7) (.t 8))⟩, ⟨(some 53), none, (.hp 50 [(.t 6), (.t 52)])⟩] 2 none))) (.reg [⟨(some 54), none, (.bin false .add (.t 48) (.v (.sc (.int .i64 1))))⟩, ⟨(some 48), none, (.mov (.t 54))⟩] 2 none))))
def k28_t0 : Y := (.seq (.reg [⟨(some 55), none, (.fa 0 (.t 6))⟩, ⟨(some 56), none, (.ld none (.t 55))⟩, ⟨(some 2), none, (.mov (.t 56))⟩, ⟨(some 3), none, (.mov (.v (.sc (.int .i64 0))))⟩] 4 none) .ret)
def k28 : KF := ⟨(.seq (.reg [⟨(some 1), none, (.box (.t 0))⟩, ⟨(some 2), none, (.mov (.v (.list 0 [] 1)))⟩, ⟨(some 3), none, (.mov (.v (.sc (.int .i64 0))))⟩] 3 none) (.seq (.seq (.reg [⟨(some 10), none, (.ld (some 9) (.t 1))⟩, ⟨(some 11), none, (.pl 27 [(.t 10)])⟩, ⟨(some 9), none, (.mov (.t 11))⟩, ⟨(some 12), none, (.ext (.t 9) 0)⟩, ⟨(some 13), none, (.ext (.t 9) 1)⟩, ⟨(some 4), none, (.mov (.t 12))⟩, ⟨(some 5), none, (.mov (.t 13))⟩] 7 none) (.seq (.reg [⟨(some 14), none, (.mov (.t 5))⟩, ⟨(some 15), none, (.bin false .neq (.t 14) (.v (.sc (.int .i64 0))))⟩] 2 none) (.cond (.t 15) (.seq (.reg [⟨(some 16), none, (.mov (.t 5))⟩, ⟨(some 2), none, (.mov (.v (.list 0 [] 1)))⟩, ⟨(some 3), none, (.mov (.t 16))⟩] 3 none) .ret) .skip))) (.seq (.reg [⟨(some 6), none, (.new [(.list 0 [] 1)])⟩] 1 none) (.seq (.reg [⟨(some 17), none, (.fa 0 (.t 1))⟩, ⟨(some 18), none, (.ld none (.t 17))⟩, ⟨(some 19), none, (.hp 48 [(.t 6), (.t 18)])⟩] 3 none) (.seq (.reg [⟨(some 20), none, (.fa 1 (.t 1))⟩, ⟨(some 21), none, (.ld none (.t 20))⟩, ⟨(some 22), none, (.hp 49 [(.t 6), (.t 21)])⟩] 3 none) (.seq (.reg [⟨(some 23), none, (.fa 2 (.t 1))⟩, ⟨(some 24), none, (.ld none (.t 23))⟩, ⟨(some 25), none, (.hp 48 [(.t 6), (.t 24)])⟩] 3 none) (.seq (.reg [⟨(some 26), none, (.fa 3 (.t 1))⟩, ⟨(some 27), none, (.ld none (.t 26))⟩, ⟨(some 28), none, (.hp 48 [(.t 6), (.t 27)])⟩] 3 none) (.seq (.reg [⟨(some 29), none, (.fa 4 (.t 1))⟩, ⟨(some 30), none, (.ld none (.t 29))⟩, ⟨(some 31), none, (.hp 48 [(.t 6), (.t 30)])⟩] 3 none) (.seq (.reg [⟨(some 32), none, (.fa 5 (.t 1))⟩, ⟨(some 33), none, (.ld none (.t 32))⟩, ⟨(some 34), none, (.hp 49 [(.t 6), (.t 33)])⟩] 3 none) (.seq (.reg [⟨(some 35), none, (.fa 6 (.t 1))⟩, ⟨(some 36), none, (.ld none (.t 35))⟩, ⟨(some 37), none, (.hp 49 [(.t 6), (.t 36)])⟩] 3 none) (.seq (.reg [⟨(some 38), none, (.fa 7 (.t 1))⟩, ⟨(some 39), none, (.ld none (.t 38))⟩, ⟨(some 40), none, (.hp 48 [(.t 6), (.t 39)])⟩] 3 none) (.seq (.reg [⟨(some 41), none, (.fa 8 (.t 1))⟩, ⟨(some 42), none, (.ld none (.t 41))⟩, ⟨(some 43), none, (.len (.t 42))⟩, ⟨(some 44), none, (.hp 48 [(.t 6), (.t 43)])⟩] 4 none) (.seq (.seq (.reg [⟨(some 45), none, (.fa 8 (.t 1))⟩, ⟨(some 46), none, (.ld none (.t 45))⟩, ⟨(some 47), none, (.len (.t 46))⟩, ⟨(some 48), none, (.mov (.v (.sc (.int .i64 0))))⟩] 4 none) (.block 0 (.loop k28_l0))) k28_t0))))))))))))), [(.t 2), (.t 3)]⟩
theorem k28_eq : (Tryd.prog.funcs[28]?).bind (cmpF Tryd.prog hmS glS 0) = some k28 := by kernel_rfl
def k29 : KF := ⟨(.seq (.reg [⟨(some 5), none, (.mov (.t 1))⟩, ⟨(some 6), none, (.len (.t 5))⟩, ⟨(some 7), none, (.i2i .u32 (.t 6))⟩, ⟨(some 4), none, (.mov (.t 7))⟩] 4 none) (.seq (.reg [⟨(some 8), none, (.mov (.t 0))⟩, ⟨(some 9), none, (.mov (.t 0))⟩, ⟨(some 10), none, (.nilc (.t 9))⟩, ⟨(some 11), none, (.fa 1 (.t 10))⟩, ⟨(some 12), none, (.ld none (.t 11))⟩, ⟨(some 13), none, (.mov (.t 1))⟩, ⟨(some 14), none, (.pl 51 [(.t 12), (.t 13)])⟩, ⟨(some 15), none, (.nilc (.t 8))⟩, ⟨(some 16), none, (.fa 1 (.t 15))⟩, ⟨none, none, (.sto 1 (.t 16) (.t 14))⟩] 10 none) (.seq (.reg [⟨(some 17), none, (.mov (.t 0))⟩, ⟨(some 18), none, (.mov (.t 0))⟩, ⟨(some 19), none, (.nilc (.t 18))⟩, ⟨(some 20), none, (.fa 0 (.t 19))⟩, ⟨(some 21), none, (.ld none (.t 20))⟩, ⟨(some 22), none, (.mov (.t 4))⟩, ⟨(some 23), none, (.pl 52 [(.t 22)])⟩, ⟨(some 24), none, (.app 5 1 true (.t 21) (.t 23))⟩, ⟨(some 25), none, (.mov (.t 4))⟩, ⟨(some 26), none, (.un .xor (.t 25))⟩, ⟨(some 27), none, (.pl 52 [(.t 26)])⟩, ⟨(some 28), none, (.app 5 1 true (.t 24) (.t 27))⟩, ⟨(some 29), none, (.nilc (.t 17))⟩, ⟨(some 30), none, (.fa 0 (.t 29))⟩, ⟨none, none, (.sto 1 (.t 30) (.t 28))⟩] 15 (some [0, 0, 2, 6, 14, 0, 32, 126, 0, 256, 1022, 2046, 4095, 8191, 16383])) (.reg [⟨(some 31), none, (.mov (.t 0))⟩, ⟨(some 32), none, (.mov (.t 0))⟩, ⟨(some 33), none, (.nilc (.t 32))⟩, ⟨(some 34), none, (.fa 0 (.t 33))⟩, ⟨(some 35), none, (.ld none (.t 34))⟩, ⟨(some 36), none, (.mov (.t 1))⟩, ⟨(some 37), none, (.app 5 1 true (.t 35) (.t 36))⟩, ⟨(some 38), none, (.mov (.t 0))⟩, ⟨(some 39), none, (.nilc (.t 38))⟩, ⟨(some 40), none, (.fa 1 (.t 39))⟩, ⟨(some 41), none, (.ld none (.t 40))⟩, ⟨(some 42), none, (.pl 53 [(.t 41)])⟩, ⟨(some 43), none, (.app 5 1 true (.t 37) (.t 42))⟩, ⟨(some 44), none, (.nilc (.t 31))⟩, ⟨(some 45), none, (.fa 0 (.t 44))⟩, ⟨none, none, (.sto 1 (.t 45) (.t 43))⟩] 16 (some [0, 0, 2, 6, 14, 0, 62, 0, 128, 384, 896, 2046, 4094, 8191, 16383, 32767]))))), []⟩
theorem k29_eq : (Tryd.prog.funcs[29]?).bind (cmpF Tryd.prog hmS glS 0) = some k29 := by kernel_rfl
def k30_l0 : Y := (.seq (.reg [⟨(some 12), none, (.bin false .lss (.t 11) (.t 10))⟩] 1 none) (.seq (.cond (.t 12) .skip (.«exit» 0)) (.seq (.block 1 (.seq (.reg [⟨(some 13), none, (.ixl 61 (.t 9) (.t 11))⟩, ⟨(some 14), none, (.ld (some 7) (.t 13))⟩, ⟨(some 5), none, (.new [(.sc (.string (ByteArray.mk #[]))), (.sc (.string (ByteArray.mk #[]))), (.sc (.int .i64 0)), (.sc (.int .i64 0)), (.sc (.string (ByteArray.mk #[]))), (.sc (.string (ByteArray.mk #[]))), (.list 0 [] 1)])⟩, ⟨none, none, (.sto 7 (.t 5) (.t 14))⟩] 4 none) (.seq (.reg [⟨(some 15), none, (.fa 6 (.t 5))⟩, ⟨(some 16), none, (.ld none (.t 15))⟩, ⟨(some 17), none, (.app 97 32 true (.v (.list 0 [] 1)) (.t 16))⟩, ⟨(some 18), none, (.fa 6 (.t 5))⟩, ⟨none, none, (.sto 1 (.t 18) (.t 17))⟩] 5 none) (.reg [⟨(some 19), none, (.fa 8 (.t 1))⟩, ⟨(some 20), none, (.ld none (.t 19))⟩, ⟨(some 21), none, (.ld (some 7) (.t 5))⟩, ⟨(some 22), none, (.mk 61 7 [(.t 21)])⟩, ⟨(some 23), none, (.app 61 104 true (.t 20) (.t 22))⟩, ⟨(some 24), none, (.fa 8 (.t 1))⟩, ⟨none, none, (.sto 1 (.t 24) (.t 23))⟩] 7 none)))) (.reg [⟨(some 25), none, (.bin false .add (.t 11) (.v (.sc (.int .i64 1))))⟩, ⟨(some 11), none, (.mov (.t 25))⟩] 2 none))))
def k30_t0 : Y := (.seq (.reg [⟨(some 26), none, (.ld (some 9) (.t 1))⟩, ⟨none, none, (.sto 9 (.t 2) (.t 26))⟩] 2 none) .ret)
def k30 : KF := ⟨(.seq (.reg [⟨(some 1), none, (.box (.t 0))⟩, ⟨(some 2), none, (.new [(.sc (.int .i64 0)), (.sc (.string (ByteArray.mk #[]))), (.sc (.int .i64 0)), (.sc (.int .i64 0)), (.sc (.int .i64 0)), (.sc (.string (ByteArray.mk #[]))), (.sc (.string (ByteArray.mk #[]))), (.sc (.int .i64 0)), (.list 0 [] 1)])⟩] 2 none) (.seq (.reg [⟨(some 6), none, (.fa 8 (.t 1))⟩, ⟨(some 7), none, (.ld none (.t 6))⟩, ⟨(some 3), none, (.mov (.t 7))⟩] 3 none) (.seq (.reg [⟨(some 8), none, (.fa 8 (.t 1))⟩, ⟨none, none, (.sto 1 (.t 8) (.v (.list 0 [] 1)))⟩] 2 none) (.seq (.seq (.reg [⟨(some 9), none, (.mov (.t 3))⟩, ⟨(some 10), none, (.len (.t 9))⟩, ⟨(some 11), none, (.mov (.v (.sc (.int .i64 0))))⟩] 3 none) (.block 0 (.loop k30_l0))) k30_t0)))), [(.c 2 (some 9))]⟩
theorem k30_eq : (Tryd.prog.funcs[30]?).bind (cmpF Tryd.prog hmS glS 0) = some k30 := by kernel_rfl
def k34 : KF := ⟨(.seq (.reg [⟨(some 2), none, (.box (.t 0))⟩, ⟨(some 3), none, (.box (.t 1))⟩, ⟨(some 4), none, (.mov (.v (.sc (.bool false))))⟩] 3 none) (.seq (.reg [⟨(some 5), none, (.fa 0 (.t 2))⟩, ⟨(some 6), none, (.ld none (.t 5))⟩, ⟨(some 7), none, (.fa 0 (.t 3))⟩, ⟨(some 8), none, (.ld none (.t 7))⟩, ⟨(some 9), none, (.bin false .eql (.t 6) (.t 8))⟩, ⟨(some 10), none, (.mov (.t 9))⟩, ⟨(some 11), (some (10, true)), (.fa 1 (.t 2))⟩, ⟨(some 12), (some (10, true)), (.ld none (.t 11))⟩, ⟨(some 13), (some (10, true)), (.fa 1 (.t 3))⟩, ⟨(some 14), (some (10, true)), (.ld none (.t 13))⟩, ⟨(some 15), (some (10, true)), (.bin false .eql (.t 12) (.t 14))⟩, ⟨(some 16), none, (.pick (.t 10) (.t 15) (.v (.sc (.bool false))))⟩, ⟨(some 17), none, (.mov (.t 16))⟩, ⟨(some 18), (some (17, true)), (.fa 2 (.t 2))⟩, ⟨(some 19), (some (17, true)), (.ld none (.t 18))⟩, ⟨(some 20), (some (17, true)), (.fa 2 (.t 3))⟩, ⟨(some 21), (some (17, true)), (.ld none (.t 20))⟩, ⟨(some 22), (some (17, true)), (.bin false .eql (.t 19) (.t 21))⟩, ⟨(some 23), none, (.pick (.t 17) (.t 22) (.v (.sc (.bool false))))⟩, ⟨(some 24), none, (.mov (.t 23))⟩, ⟨(some 25), (some (24, true)), (.fa 3 (.t 2))⟩, ⟨(some 26), (some (24, true)), (.ld none (.t 25))⟩, ⟨(some 27), (some (24, true)), (.fa 3 (.t 3))⟩, ⟨(some 28), (some (24, true)), (.ld none (.t 27))⟩, ⟨(some 29), (some (24, true)), (.bin false .eql (.t 26) (.t 28))⟩, ⟨(some 30), none, (.pick (.t 24) (.t 29) (.v (.sc (.bool false))))⟩, ⟨(some 31), none, (.mov (.t 30))⟩, ⟨(some 32), (some (31, true)), (.fa 4 (.t 2))⟩, ⟨(some 33), (some (31, true)), (.ld none (.t 32))⟩, ⟨(some 34), (some (31, true)), (.fa 4 (.t 3))⟩, ⟨(some 35), (some (31, true)), (.ld none (.t 34))⟩, ⟨(some 36), (some (31, true)), (.bin false .eql (.t 33) (.t 35))⟩, ⟨(some 37), none, (.pick (.t 31) (.t 36) (.v (.sc (.bool false))))⟩, ⟨(some 38), none, (.mov (.t 37))⟩, ⟨(some 39), (some (38, true)), (.fa 5 (.t 2))⟩, ⟨(some 40), (some (38, true)), (.ld none (.t 39))⟩, ⟨(some 41), (some (38, true)), (.fa 5 (.t 3))⟩, ⟨(some 42), (some (38, true)), (.ld none (.t 41))⟩, ⟨(some 43), (some (38, true)), (.bin false .eql (.t 40) (.t 42))⟩, ⟨(some 44), none, (.pick (.t 38) (.t 43) (.v (.sc (.bool false))))⟩, ⟨(some 45), none, (.mov (.t 44))⟩, ⟨(some 46), (some (45, true)), (.fa 6 (.t 2))⟩, ⟨(some 47), (some (45, true)), (.ld none (.t 46))⟩, ⟨(some 48), (some (45, true)), (.fa 6 (.t 3))⟩, ⟨(some 49), (some (45, true)), (.ld none (.t 48))⟩, ⟨(some 50), (some (45, true)), (.bin false .eql (.t 47) (.t 49))⟩, ⟨(some 51), none, (.pick (.t 45) (.t 50) (.v (.sc (.bool false))))⟩, ⟨(some 52), none, (.mov (.t 51))⟩, ⟨(some 53), (some (52, true)), (.fa 7 (.t 2))⟩, ⟨(some 54), (some (52, true)), (.ld none (.t 53))⟩, ⟨(some 55), (some (52, true)), (.fa 7 (.t 3))⟩, ⟨(some 56), (some (52, true)), (.ld none (.t 55))⟩, ⟨(some 57), (some (52, true)), (.bin false .eql (.t 54) (.t 56))⟩, ⟨(some 58), none, (.pick (.t 52) (.t 57) (.v (.sc (.bool false))))⟩, ⟨(some 59), none, (.mov (.t 58))⟩, ⟨(some 60), (some (59, true)), (.fa 8 (.t 2))⟩, ⟨(some 61), (some (59, true)), (.ld none (.t 60))⟩, ⟨(some 62), (some (59, true)), (.fa 8 (.t 3))⟩, ⟨(some 63), (some (59, true)), (.ld none (.t 62))⟩, ⟨(some 64), (some (59, true)), (.pl 59 [(.t 61), (.t 63)])⟩, ⟨(some 65), none, (.pick (.t 59) (.t 64) (.v (.sc (.bool false))))⟩, ⟨(some 4), none, (.mov (.t 65))⟩] 62 none) .ret)), [(.t 4)]⟩
theorem k34_eq : (Tryd.prog.funcs[34]?).bind (cmpF Tryd.prog hmS glS 0) = some k34 := by kernel_rfl
def k35 : KF := ⟨(.seq (.reg [⟨(some 4), none, (.mov (.v (.sc (.int .i64 0))))⟩, ⟨(some 5), none, (.mov (.v (.sc (.int .i64 0))))⟩] 2 none) (.seq (.reg [⟨(some 12), none, (.mov (.t 1))⟩, ⟨(some 13), none, (.pl 60 [(.t 12)])⟩, ⟨(some 11), none, (.mov (.t 13))⟩, ⟨(some 14), none, (.ext (.t 11) 0)⟩, ⟨(some 15), none, (.ext (.t 11) 1)⟩, ⟨(some 16), none, (.ext (.t 11) 2)⟩, ⟨(some 6), none, (.mov (.t 14))⟩, ⟨(some 7), none, (.mov (.t 15))⟩, ⟨(some 8), none, (.mov (.t 16))⟩] 9 none) (.seq (.seq (.reg [⟨(some 17), none, (.mov (.t 8))⟩, ⟨(some 18), none, (.bin false .neq (.t 17) (.v (.sc (.int .i64 0))))⟩] 2 none) (.cond (.t 18) (.seq (.reg [⟨(some 19), none, (.mov (.t 8))⟩, ⟨(some 4), none, (.mov (.v (.sc (.int .i64 0))))⟩, ⟨(some 5), none, (.mov (.t 19))⟩] 3 none) .ret) .skip)) (.seq (.seq (.reg [⟨(some 20), none, (.mov (.t 0))⟩, ⟨(some 21), none, (.nilc (.t 20))⟩, ⟨(some 22), none, (.fa 0 (.t 21))⟩, ⟨(some 23), none, (.fa 1 (.t 22))⟩, ⟨(some 24), none, (.ld none (.t 23))⟩, ⟨(some 25), none, (.mov (.t 6))⟩, ⟨(some 26), none, (.pl 51 [(.t 24), (.t 25)])⟩, ⟨(some 27), none, (.pl 53 [(.t 26)])⟩, ⟨(some 28), none, (.b2s 5 (.t 27))⟩, ⟨(some 29), none, (.mov (.t 7))⟩, ⟨(some 30), none, (.b2s 5 (.t 29))⟩, ⟨(some 31), none, (.bin false .neq (.t 28) (.t 30))⟩] 12 (some [0, 1, 3, 7, 15, 0, 63, 127, 255, 0, 512, 2047])) (.cond (.t 31) (.seq (.reg [⟨(some 4), none, (.mov (.v (.sc (.int .i64 0))))⟩, ⟨(some 5), none, (.mov (.v (.sc (.int .i64 23))))⟩] 2 none) .ret) .skip)) (.seq (.reg [⟨(some 33), none, (.mov (.t 6))⟩, ⟨(some 34), none, (.pl 61 [(.t 33)])⟩, ⟨(some 32), none, (.mov (.t 34))⟩, ⟨(some 35), none, (.ext (.t 32) 0)⟩, ⟨(some 36), none, (.ext (.t 32) 1)⟩, ⟨(some 37), none, (.ext (.t 32) 2)⟩, ⟨(some 9), none, (.new [(.sc (.int .i64 0)), (.sc (.string (ByteArray.mk #[]))), (.sc (.int .i64 0)), (.sc (.int .i64 0)), (.sc (.int .i64 0)), (.sc (.string (ByteArray.mk #[]))), (.sc (.string (ByteArray.mk #[]))), (.sc (.int .i64 0)), (.list 0 [] 1)])⟩, ⟨none, none, (.sto 9 (.t 9) (.t 35))⟩, ⟨(some 10), none, (.mov (.t 36))⟩, ⟨(some 8), none, (.mov (.t 37))⟩] 10 none) (.seq (.seq (.reg [⟨(some 38), none, (.mov (.t 8))⟩, ⟨(some 39), none, (.bin false .neq (.t 38) (.v (.sc (.int .i64 0))))⟩, ⟨(some 40), none, (.mov (.t 39))⟩, ⟨(some 41), (some (40, false)), (.mov (.t 10))⟩, ⟨(some 42), (some (40, false)), (.mov (.t 6))⟩, ⟨(some 43), (some (40, false)), (.len (.t 42))⟩, ⟨(some 44), (some (40, false)), (.bin false .neq (.t 41) (.t 43))⟩, ⟨(some 45), none, (.pick (.t 40) (.v (.sc (.bool true))) (.t 44))⟩] 8 none) (.cond (.t 45) (.seq (.reg [⟨(some 4), none, (.mov (.v (.sc (.int .i64 0))))⟩, ⟨(some 5), none, (.mov (.v (.sc (.int .i64 5))))⟩] 2 none) .ret) .skip)) (.seq (.seq (.reg [⟨(some 46), none, (.fa 0 (.t 9))⟩, ⟨(some 47), none, (.ld none (.t 46))⟩, ⟨(some 48), none, (.mov (.t 0))⟩, ⟨(some 49), none, (.nilc (.t 48))⟩, ⟨(some 50), none, (.fa 2 (.t 49))⟩, ⟨(some 51), none, (.ld none (.t 50))⟩, ⟨(some 52), none, (.len (.t 51))⟩, ⟨(some 53), none, (.bin false .add (.t 52) (.v (.sc (.int .i64 1))))⟩, ⟨(some 54), none, (.bin false .neq (.t 47) (.t 53))⟩] 9 (some [0, 1, 0, 4, 12, 28, 60, 124, 255])) (.cond (.t 54) (.seq (.reg [⟨(some 4), none, (.mov (.v (.sc (.int .i64 0))))⟩, ⟨(some 5), none, (.mov (.v (.sc (.int .i64 17))))⟩] 2 none) .ret) .skip)) (.seq (.reg [⟨(some 55), none, (.mov (.t 0))⟩, ⟨(some 56), none, (.nilc (.t 55))⟩, ⟨(some 57), none, (.fa 0 (.t 56))⟩, ⟨(some 58), none, (.mov (.t 6))⟩, ⟨(some 59), none, (.hp 29 [(.t 57), (.t 58)])⟩] 5 none) (.seq (.reg [⟨(some 60), none, (.mov (.t 0))⟩, ⟨(some 61), none, (.mov (.t 0))⟩, ⟨(some 62), none, (.nilc (.t 61))⟩, ⟨(some 63), none, (.fa 2 (.t 62))⟩, ⟨(some 64), none, (.ld none (.t 63))⟩, ⟨(some 65), none, (.ld (some 9) (.t 9))⟩, ⟨(some 66), none, (.mk 31 9 [(.t 65)])⟩, ⟨(some 67), none, (.app 31 112 true (.t 64) (.t 66))⟩, ⟨(some 68), none, (.nilc (.t 60))⟩, ⟨(some 69), none, (.fa 2 (.t 68))⟩, ⟨none, none, (.sto 1 (.t 69) (.t 67))⟩] 11 (some [0, 0, 2, 6, 14, 0, 32, 126, 255, 511, 1023])) (.seq (.reg [⟨(some 70), none, (.mov (.t 6))⟩, ⟨(some 71), none, (.len (.t 70))⟩, ⟨(some 72), none, (.bin false .add (.v (.sc (.int .i64 8))) (.t 71))⟩, ⟨(some 73), none, (.bin false .add (.t 72) (.v (.sc (.int .i64 8))))⟩, ⟨(some 4), none, (.mov (.t 73))⟩, ⟨(some 5), none, (.mov (.v (.sc (.int .i64 0))))⟩] 6 none) .ret)))))))))), [(.t 4), (.t 5)]⟩
theorem k35_eq : (Tryd.prog.funcs[35]?).bind (cmpF Tryd.prog hmS glS 0) = some k35 := by kernel_rfl
def k45 : KF := ⟨(.seq (.reg [⟨(some 1), none, (.box (.t 0))⟩, ⟨(some 2), none, (.mov (.v (.sc (.int .i64 0))))⟩] 2 none) (.seq (.block 0 (.seq (.reg [⟨(some 4), none, (.fa 0 (.t 1))⟩, ⟨(some 5), none, (.ld none (.t 4))⟩, ⟨(some 6), none, (.bin false .lss (.t 5) (.v (.sc (.int .i64 0))))⟩, ⟨(some 7), none, (.mov (.t 6))⟩, ⟨(some 8), (some (7, false)), (.fa 0 (.t 1))⟩, ⟨(some 9), (some (7, false)), (.ld none (.t 8))⟩, ⟨(some 10), (some (7, false)), (.bin false .gtr (.t 9) (.v (.sc (.int .i64 4000))))⟩, ⟨(some 11), none, (.pick (.t 7) (.v (.sc (.bool true))) (.t 10))⟩, ⟨(some 12), none, (.mov (.t 11))⟩, ⟨(some 13), (some (12, false)), (.fa 7 (.t 1))⟩, ⟨(some 14), (some (12, false)), (.ld none (.t 13))⟩, ⟨(some 15), (some (12, false)), (.bin false .lss (.t 14) (.v (.sc (.int .i64 0))))⟩, ⟨(some 16), none, (.pick (.t 12) (.v (.sc (.bool true))) (.t 15))⟩, ⟨(some 17), none, (.mov (.t 16))⟩, ⟨(some 18), (some (17, false)), (.fa 7 (.t 1))⟩, ⟨(some 19), (some (17, false)), (.ld none (.t 18))⟩, ⟨(some 20), (some (17, false)), (.bin false .gtr (.t 19) (.v (.sc (.int .i64 4000))))⟩, ⟨(some 21), none, (.pick (.t 17) (.v (.sc (.bool true))) (.t 20))⟩, ⟨(some 3), none, (.mov (.t 21))⟩] 19 none) (.cond (.t 3) (.seq (.reg [⟨(some 2), none, (.mov (.v (.sc (.int .i64 3))))⟩] 1 none) .ret) (.seq (.reg [⟨(some 23), none, (.fa 1 (.t 1))⟩, ⟨(some 24), none, (.ld none (.t 23))⟩, ⟨(some 25), none, (.pl 66 [(.t 24)])⟩, ⟨(some 26), none, (.un .not (.t 25))⟩, ⟨(some 27), none, (.mov (.t 26))⟩, ⟨(some 28), (some (27, false)), (.fa 6 (.t 1))⟩, ⟨(some 29), (some (27, false)), (.ld none (.t 28))⟩, ⟨(some 30), (some (27, false)), (.pl 66 [(.t 29)])⟩, ⟨(some 31), (some (27, false)), (.un .not (.t 30))⟩, ⟨(some 32), none, (.pick (.t 27) (.v (.sc (.bool true))) (.t 31))⟩, ⟨(some 22), none, (.mov (.t 32))⟩] 11 none) (.cond (.t 22) (.seq (.reg [⟨(some 2), none, (.mov (.v (.sc (.int .i64 7))))⟩] 1 none) .ret) (.seq (.reg [⟨(some 34), none, (.fa 2 (.t 1))⟩, ⟨(some 35), none, (.ld none (.t 34))⟩, ⟨(some 36), none, (.pl 67 [(.t 35)])⟩, ⟨(some 37), none, (.un .not (.t 36))⟩, ⟨(some 38), none, (.mov (.t 37))⟩, ⟨(some 39), (some (38, false)), (.fa 3 (.t 1))⟩, ⟨(some 40), (some (38, false)), (.ld none (.t 39))⟩, ⟨(some 41), (some (38, false)), (.pl 67 [(.t 40)])⟩, ⟨(some 42), (some (38, false)), (.un .not (.t 41))⟩, ⟨(some 43), none, (.pick (.t 38) (.v (.sc (.bool true))) (.t 42))⟩, ⟨(some 33), none, (.mov (.t 43))⟩] 11 none) (.cond (.t 33) (.seq (.reg [⟨(some 2), none, (.mov (.v (.sc (.int .i64 11))))⟩] 1 none) .ret) (.seq (.reg [⟨(some 45), none, (.fa 4 (.t 1))⟩, ⟨(some 46), none, (.ld none (.t 45))⟩, ⟨(some 47), none, (.bin false .lss (.t 46) (.v (.sc (.int .i64 1))))⟩, ⟨(some 48), none, (.mov (.t 47))⟩, ⟨(some 49), (some (48, false)), (.fa 4 (.t 1))⟩, ⟨(some 50), (some (48, false)), (.ld none (.t 49))⟩, ⟨(some 51), (some (48, false)), (.bin false .gtr (.t 50) (.v (.sc (.int .i64 7))))⟩, ⟨(some 52), none, (.pick (.t 48) (.v (.sc (.bool true))) (.t 51))⟩, ⟨(some 44), none, (.mov (.t 52))⟩] 9 none) (.cond (.t 44) (.seq (.reg [⟨(some 2), none, (.mov (.v (.sc (.int .i64 10))))⟩] 1 none) .ret) (.seq (.reg [⟨(some 54), none, (.fa 5 (.t 1))⟩, ⟨(some 55), none, (.ld none (.t 54))⟩, ⟨(some 56), none, (.pl 68 [(.t 55)])⟩, ⟨(some 57), none, (.un .not (.t 56))⟩, ⟨(some 53), none, (.mov (.t 57))⟩] 5 none) (.cond (.t 53) (.seq (.reg [⟨(some 2), none, (.mov (.v (.sc (.int .i64 5))))⟩] 1 none) .ret) (.seq (.reg [⟨(some 59), none, (.fa 8 (.t 1))⟩, ⟨(some 60), none, (.ld none (.t 59))⟩, ⟨(some 61), none, (.len (.t 60))⟩, ⟨(some 62), none, (.bin false .lss (.t 61) (.v (.sc (.int .i64 2))))⟩, ⟨(some 58), none, (.mov (.t 62))⟩] 5 none) (.cond (.t 58) (.seq (.reg [⟨(some 2), none, (.mov (.v (.sc (.int .i64 2))))⟩] 1 none) .ret) (.seq (.reg [⟨(some 64), none, (.fa 8 (.t 1))⟩, ⟨(some 65), none, (.ld none (.t 64))⟩, ⟨(some 66), none, (.len (.t 65))⟩, ⟨(some 67), none, (.bin false .gtr (.t 66) (.v (.sc (.int .i64 100))))⟩, ⟨(some 63), none, (.mov (.t 67))⟩] 5 none) (.cond (.t 63) (.seq (.reg [⟨(some 2), none, (.mov (.v (.sc (.int .i64 9))))⟩] 1 none) .ret) .skip))))))))))))))) (.seq (.reg [⟨(some 2), none, (.mov (.v (.sc (.int .i64 0))))⟩] 1 none) .ret))), [(.t 2)]⟩
theorem k45_eq : (Tryd.prog.funcs[45]?).bind (cmpF Tryd.prog hmS glS 0) = some k45 := by kernel_rfl
def k46 : KF := ⟨(.seq (.reg [⟨(some 1), none, (.box (.t 0))⟩, ⟨(some 2), none, (.mov (.v (.sc (.int .i64 0))))⟩] 2 none) (.seq (.block 0 (.seq (.reg [⟨(some 4), none, (.fa 0 (.t 1))⟩, ⟨(some 5), none, (.ld none (.t 4))⟩, ⟨(some 6), none, (.pl 66 [(.t 5)])⟩, ⟨(some 7), none, (.un .not (.t 6))⟩, ⟨(some 8), none, (.mov (.t 7))⟩, ⟨(some 9), (some (8, false)), (.fa 4 (.t 1))⟩, ⟨(some 10), (some (8, false)), (.ld none (.t 9))⟩, ⟨(some 11), (some (8, false)), (.pl 69 [(.t 10)])⟩, ⟨(some 12), (some (8, false)), (.un .not (.t 11))⟩, ⟨(some 13), none, (.pick (.t 8) (.v (.sc (.bool true))) (.t 12))⟩, ⟨(some 14), none, (.mov (.t 13))⟩, ⟨(some 15), (some (14, false)), (.fa 5 (.t 1))⟩, ⟨(some 16), (some (14, false)), (.ld none (.t 15))⟩, ⟨(some 17), (some (14, false)), (.pl 69 [(.t 16)])⟩, ⟨(some 18), (some (14, false)), (.un .not (.t 17))⟩, ⟨(some 19), none, (.pick (.t 14) (.v (.sc (.bool true))) (.t 18))⟩, ⟨(some 3), none, (.mov (.t 19))⟩] 17 none) (.cond (.t 3) (.seq (.reg [⟨(some 2), none, (.mov (.v (.sc (.int .i64 7))))⟩] 1 none) .ret) (.seq (.reg [⟨(some 21), none, (.fa 1 (.t 1))⟩, ⟨(some 22), none, (.ld none (.t 21))⟩, ⟨(some 23), none, (.pl 70 [(.t 22)])⟩, ⟨(some 24), none, (.un .not (.t 23))⟩, ⟨(some 20), none, (.mov (.t 24))⟩] 5 none) (.cond (.t 20) (.seq (.reg [⟨(some 2), none, (.mov (.v (.sc (.int .i64 13))))⟩] 1 none) .ret) (.seq (.reg [⟨(some 26), none, (.fa 2 (.t 1))⟩, ⟨(some 27), none, (.ld none (.t 26))⟩, ⟨(some 28), none, (.pl 71 [(.t 27), (.v (.sc (.int .i64 1000000000000)))])⟩, ⟨(some 29), none, (.un .not (.t 28))⟩, ⟨(some 30), none, (.mov (.t 29))⟩, ⟨(some 31), (some (30, false)), (.fa 3 (.t 1))⟩, ⟨(some 32), (some (30, false)), (.ld none (.t 31))⟩, ⟨(some 33), (some (30, false)), (.pl 71 [(.t 32), (.v (.sc (.int .i64 1000000000000)))])⟩, ⟨(some 34), (some (30, false)), (.un .not (.t 33))⟩, ⟨(some 35), none, (.pick (.t 30) (.v (.sc (.bool true))) (.t 34))⟩, ⟨(some 25), none, (.mov (.t 35))⟩] 11 none) (.cond (.t 25) (.seq (.reg [⟨(some 2), none, (.mov (.v (.sc (.int .i64 4))))⟩] 1 none) .ret) (.seq (.reg [⟨(some 37), none, (.fa 2 (.t 1))⟩, ⟨(some 38), none, (.ld none (.t 37))⟩, ⟨(some 39), none, (.bin false .eql (.t 38) (.v (.sc (.int .i64 0))))⟩, ⟨(some 40), none, (.mov (.t 39))⟩, ⟨(some 41), (some (40, true)), (.fa 3 (.t 1))⟩, ⟨(some 42), (some (40, true)), (.ld none (.t 41))⟩, ⟨(some 43), (some (40, true)), (.bin false .eql (.t 42) (.v (.sc (.int .i64 0))))⟩, ⟨(some 44), none, (.pick (.t 40) (.t 43) (.v (.sc (.bool false))))⟩, ⟨(some 36), none, (.mov (.t 44))⟩] 9 none) (.cond (.t 36) (.seq (.reg [⟨(some 2), none, (.mov (.v (.sc (.int .i64 2))))⟩] 1 none) .ret) (.seq (.reg [⟨(some 46), none, (.fa 6 (.t 1))⟩, ⟨(some 47), none, (.ld none (.t 46))⟩, ⟨(some 48), none, (.pl 72 [(.t 47)])⟩, ⟨(some 49), none, (.un .not (.t 48))⟩, ⟨(some 45), none, (.mov (.t 49))⟩] 5 none) (.cond (.t 45) (.seq (.reg [⟨(some 2), none, (.mov (.v (.sc (.int .i64 14))))⟩] 1 none) .ret) .skip))))))))))) (.seq (.reg [⟨(some 2), none, (.mov (.v (.sc (.int .i64 0))))⟩] 1 none) .ret))), [(.t 2)]⟩
theorem k46_eq : (Tryd.prog.funcs[46]?).bind (cmpF Tryd.prog hmS glS 0) = some k46 := by kernel_rfl
def k47_l0 : Y := (.seq (.reg [⟨(some 18), none, (.bin false .lss (.t 17) (.t 16))⟩] 1 none) (.seq (.cond (.t 18) .skip (.«exit» 0)) (.seq (.block 1 (.seq (.reg [⟨(some 19), none, (.ixl 9 (.t 15) (.t 17))⟩, ⟨(some 20), none, (.ld none (.t 19))⟩, ⟨(some 6), none, (.mov (.t 20))⟩] 3 none) (.seq (.reg [⟨(some 22), none, (.mov (.t 3))⟩, ⟨(some 23), none, (.mov (.t 6))⟩, ⟨(some 24), none, (.lku 1 (.sc (.pointer none)) false (.t 22) (.t 23))⟩, ⟨(some 25), none, (.hp 75 [(.t 24), (.v (.sc (.int .i64 0)))])⟩, ⟨(some 21), none, (.mov (.t 25))⟩, ⟨(some 26), none, (.ext (.t 21) 0)⟩, ⟨(some 27), none, (.ext (.t 21) 1)⟩, ⟨(some 28), none, (.ext (.t 21) 2)⟩, ⟨(some 7), none, (.mov (.t 26))⟩, ⟨(some 8), none, (.mov (.t 27))⟩, ⟨(some 9), none, (.mov (.t 28))⟩] 11 none) (.seq (.reg [⟨(some 29), none, (.mov (.t 9))⟩, ⟨(some 30), none, (.bin false .neq (.t 29) (.v (.sc (.int .i64 0))))⟩] 2 none) (.cond (.t 30) (.seq (.reg [⟨(some 2), none, (.mov (.v (.sc (.bool false))))⟩] 1 none) .ret) .skip))))) (.reg [⟨(some 31), none, (.bin false .add (.t 17) (.v (.sc (.int .i64 1))))⟩, ⟨(some 17), none, (.mov (.t 31))⟩] 2 none))))
def k47_t0 : Y := (.seq (.reg [⟨(some 2), none, (.mov (.v (.sc (.bool true))))⟩] 1 none) .ret)
def k47 : KF := ⟨(.seq (.reg [⟨(some 2), none, (.mov (.v (.sc (.bool false))))⟩] 1 none) (.seq (.reg [⟨(some 11), none, (.mov (.t 0))⟩, ⟨(some 12), none, (.hp 73 [(.t 11), (.v (.fn (.func 74) [] []))])⟩, ⟨(some 10), none, (.mov (.t 12))⟩, ⟨(some 13), none, (.ext (.t 10) 0)⟩, ⟨(some 14), none, (.ext (.t 10) 1)⟩, ⟨(some 3), none, (.mov (.t 13))⟩, ⟨(some 4), none, (.mov (.t 14))⟩] 7 none) (.seq (.seq (.reg [⟨(some 15), none, (.mov (.t 4))⟩, ⟨(some 16), none, (.len (.t 15))⟩, ⟨(some 17), none, (.mov (.v (.sc (.int .i64 0))))⟩] 3 none) (.block 0 (.loop k47_l0))) k47_t0))), [(.t 2)]⟩
theorem k47_eq : (Tryd.prog.funcs[47]?).bind (cmpF Tryd.prog hmS glS 0) = some k47 := by kernel_rfl
def k48 : KF := ⟨(.reg [⟨(some 4), none, (.mov (.t 0))⟩, ⟨(some 5), none, (.mov (.t 0))⟩, ⟨(some 6), none, (.nilc (.t 5))⟩, ⟨(some 7), none, (.fa 0 (.t 6))⟩, ⟨(some 8), none, (.ld none (.t 7))⟩, ⟨(some 9), none, (.mov (.t 1))⟩, ⟨(some 10), none, (.pl 76 [(.t 9)])⟩, ⟨(some 11), none, (.app 5 1 true (.t 8) (.t 10))⟩, ⟨(some 12), none, (.nilc (.t 4))⟩, ⟨(some 13), none, (.fa 0 (.t 12))⟩, ⟨none, none, (.sto 1 (.t 13) (.t 11))⟩] 11 (some [0, 0, 2, 6, 14, 0, 32, 126, 255, 511, 1023])), []⟩
theorem k48_eq : (Tryd.prog.funcs[48]?).bind (cmpF Tryd.prog hmS glS 0) = some k48 := by kernel_rfl
def k49 : KF := ⟨(.seq (.reg [⟨(some 7), none, (.mov (.t 1))⟩, ⟨(some 8), none, (.pl 77 [(.t 7)])⟩, ⟨(some 6), none, (.mov (.t 8))⟩, ⟨(some 9), none, (.ext (.t 6) 0)⟩, ⟨(some 10), none, (.ext (.t 6) 1)⟩, ⟨(some 4), none, (.mov (.t 9))⟩, ⟨(some 5), none, (.mov (.t 10))⟩] 7 none) (.reg [⟨(some 11), none, (.mov (.t 0))⟩, ⟨(some 12), none, (.mov (.t 0))⟩, ⟨(some 13), none, (.nilc (.t 12))⟩, ⟨(some 14), none, (.fa 0 (.t 13))⟩, ⟨(some 15), none, (.ld none (.t 14))⟩, ⟨(some 16), none, (.mov (.t 4))⟩, ⟨(some 17), none, (.app 5 1 true (.t 15) (.t 16))⟩, ⟨(some 18), none, (.nilc (.t 11))⟩, ⟨(some 19), none, (.fa 0 (.t 18))⟩, ⟨none, none, (.sto 1 (.t 19) (.t 17))⟩] 10 none)), []⟩
theorem k49_eq : (Tryd.prog.funcs[49]?).bind (cmpF Tryd.prog hmS glS 0) = some k49 := by kernel_rfl
def k50_l0 : Y := (.seq (.reg [⟨(some 39), none, (.bin false .lss (.t 38) (.t 37))⟩] 1 none) (.seq (.cond (.t 39) .skip (.«exit» 0)) (.seq (.block 1 (.seq (.reg [⟨(some 40), none, (.ixl 97 (.t 36) (.t 38))⟩, ⟨(some 41), none, (.ld (some 2) (.t 40))⟩, ⟨(some 5), none, (.new [(.sc (.string (ByteArray.mk #[]))), (.sc (.string (ByteArray.mk #[])))])⟩, ⟨none, none, (.sto 2 (.t 5) (.t 41))⟩] 4 none) (.seq (.reg [⟨(some 42), none, (.mov (.t 0))⟩, ⟨(some 43), none, (.fa 0 (.t 5))⟩, ⟨(some 44), none, (.ld none (.t 43))⟩, ⟨(some 45), none, (.hp 49 [(.t 42), (.t 44)])⟩] 4 none) (.reg [⟨(some 46), none, (.mov (.t 0))⟩, ⟨(some 47), none, (.fa 1 (.t 5))⟩, ⟨(some 48), none, (.ld none (.t 47))⟩, ⟨(some 49), none, (.hp 49 [(.t 46), (.t 48)])⟩] 4 none)))) (.reg [⟨(some 50), none, (.bin false .add (.t 38) (.v (.sc (.int .i64 1))))⟩, ⟨(some 38), none, (.mov (.t 50))⟩] 2 none))))
def k50 : KF := ⟨(.seq (.reg [⟨(some 3), none, (.box (.t 1))⟩] 1 none) (.seq (.reg [⟨(some 6), none, (.mov (.t 0))⟩, ⟨(some 7), none, (.fa 0 (.t 3))⟩, ⟨(some 8), none, (.ld none (.t 7))⟩, ⟨(some 9), none, (.hp 49 [(.t 6), (.t 8)])⟩] 4 none) (.seq (.reg [⟨(some 10), none, (.mov (.t 0))⟩, ⟨(some 11), none, (.fa 1 (.t 3))⟩, ⟨(some 12), none, (.ld none (.t 11))⟩, ⟨(some 13), none, (.hp 49 [(.t 10), (.t 12)])⟩] 4 none) (.seq (.reg [⟨(some 14), none, (.mov (.t 0))⟩, ⟨(some 15), none, (.fa 2 (.t 3))⟩, ⟨(some 16), none, (.ld none (.t 15))⟩, ⟨(some 17), none, (.hp 48 [(.t 14), (.t 16)])⟩] 4 none) (.seq (.reg [⟨(some 18), none, (.mov (.t 0))⟩, ⟨(some 19), none, (.fa 3 (.t 3))⟩, ⟨(some 20), none, (.ld none (.t 19))⟩, ⟨(some 21), none, (.hp 48 [(.t 18), (.t 20)])⟩] 4 none) (.seq (.reg [⟨(some 22), none, (.mov (.t 0))⟩, ⟨(some 23), none, (.fa 4 (.t 3))⟩, ⟨(some 24), none, (.ld none (.t 23))⟩, ⟨(some 25), none, (.hp 49 [(.t 22), (.t 24)])⟩] 4 none) (.seq (.reg [⟨(some 26), none, (.mov (.t 0))⟩, ⟨(some 27), none, (.fa 5 (.t 3))⟩, ⟨(some 28), none, (.ld none (.t 27))⟩, ⟨(some 29), none, (.hp 49 [(.t 26), (.t 28)])⟩] 4 none) (.seq (.reg [⟨(some 30), none, (.mov (.t 0))⟩, ⟨(some 31), none, (.fa 6 (.t 3))⟩, ⟨(some 32), none, (.ld none (.t 31))⟩, ⟨(some 33), none, (.len (.t 32))⟩, ⟨(some 34), none, (.hp 48 [(.t 30), (.t 33)])⟩] 5 none) (.seq (.reg [⟨(some 35), none, (.fa 6 (.t 3))⟩, ⟨(some 36), none, (.ld none (.t 35))⟩, ⟨(some 37), none, (.len (.t 36))⟩, ⟨(some 38), none, (.mov (.v (.sc (.int .i64 0))))⟩] 4 none) (.block 0 (.loop k50_l0))))))))))), []⟩
theorem k50_eq : (Tryd.prog.funcs[50]?).bind (cmpF Tryd.prog hmS glS 0) = some k50 := by kernel_rfl
def k51 : KF := ⟨(.seq (.reg [⟨(some 4), none, (.mov (.v (.sc (.int .u64 0))))⟩] 1 none) (.seq (.reg [⟨(some 6), none, (.mov (.t 1))⟩, ⟨(some 7), none, (.len (.t 6))⟩, ⟨(some 8), none, (.i2i .u32 (.t 7))⟩, ⟨(some 5), none, (.mov (.t 8))⟩] 4 none) (.seq (.reg [⟨(some 9), none, (.mov (.t 0))⟩, ⟨(some 10), none, (.mov (.t 1))⟩, ⟨(some 11), none, (.pl 78 [(.t 9), (.t 10)])⟩, ⟨(some 12), none, (.mov (.t 5))⟩, ⟨(some 13), none, (.bin false .shr (.t 12) (.v (.sc (.int .u64 24))))⟩, ⟨(some 14), none, (.i2i .u8 (.t 13))⟩, ⟨(some 15), none, (.mov (.t 5))⟩, ⟨(some 16), none, (.bin false .shr (.t 15) (.v (.sc (.int .u64 16))))⟩, ⟨(some 17), none, (.i2i .u8 (.t 16))⟩, ⟨(some 18), none, (.mov (.t 5))⟩, ⟨(some 19), none, (.bin false .shr (.t 18) (.v (.sc (.int .u64 8))))⟩, ⟨(some 20), none, (.i2i .u8 (.t 19))⟩, ⟨(some 21), none, (.mov (.t 5))⟩, ⟨(some 22), none, (.i2i .u8 (.t 21))⟩, ⟨(some 23), none, (.mk 5 1 [(.t 14), (.t 17), (.t 20), (.t 22)])⟩, ⟨(some 24), none, (.pl 78 [(.t 11), (.t 23)])⟩, ⟨(some 4), none, (.mov (.t 24))⟩] 17 none) .ret))), [(.t 4)]⟩
theorem k51_eq : (Tryd.prog.funcs[51]?).bind (cmpF Tryd.prog hmS glS 0) = some k51 := by kernel_rfl
def k52 : KF := ⟨(.seq (.reg [⟨(some 2), none, (.mov (.v (.list 0 [] 1)))⟩] 1 none) (.seq (.reg [⟨(some 3), none, (.mov (.t 0))⟩, ⟨(some 4), none, (.bin false .shr (.t 3) (.v (.sc (.int .u64 24))))⟩, ⟨(some 5), none, (.i2i .u8 (.t 4))⟩, ⟨(some 6), none, (.mov (.t 0))⟩, ⟨(some 7), none, (.bin false .shr (.t 6) (.v (.sc (.int .u64 16))))⟩, ⟨(some 8), none, (.i2i .u8 (.t 7))⟩, ⟨(some 9), none, (.mov (.t 0))⟩, ⟨(some 10), none, (.bin false .shr (.t 9) (.v (.sc (.int .u64 8))))⟩, ⟨(some 11), none, (.i2i .u8 (.t 10))⟩, ⟨(some 12), none, (.mov (.t 0))⟩, ⟨(some 13), none, (.i2i .u8 (.t 12))⟩, ⟨(some 14), none, (.mk 5 1 [(.t 5), (.t 8), (.t 11), (.t 13)])⟩, ⟨(some 2), none, (.mov (.t 14))⟩] 13 none) .ret)), [(.t 2)]⟩
theorem k52_eq : (Tryd.prog.funcs[52]?).bind (cmpF Tryd.prog hmS glS 0) = some k52 := by kernel_rfl
def k53_l0 : Y := (.seq (.reg [⟨(some 6), none, (.bin false .lss (.t 5) (.v (.sc (.int .i64 8))))⟩] 1 none) (.seq (.cond (.t 6) .skip (.«exit» 0)) (.seq (.block 1 (.seq (.reg [⟨(some 7), none, (.mov (.t 5))⟩, ⟨(some 4), none, (.mov (.t 7))⟩] 2 none) (.reg [⟨(some 8), none, (.mov (.t 4))⟩, ⟨(some 9), none, (.bin false .sub (.v (.sc (.int .i64 7))) (.t 8))⟩, ⟨(some 10), none, (.mov (.t 0))⟩, ⟨(some 11), none, (.mov (.t 4))⟩, ⟨(some 12), none, (.bin false .mul (.v (.sc (.int .i64 8))) (.t 11))⟩, ⟨(some 13), none, (.bin false .shr (.t 10) (.t 12))⟩, ⟨(some 14), none, (.i2i .u8 (.t 13))⟩, ⟨(some 15), none, (.ixa 8 1 (.t 3) (.t 9))⟩, ⟨none, none, (.two (.sto 1 (.t 15) (.t 14)) (.sto 1 (.t 15) (.t 14)))⟩] 9 none))) (.reg [⟨(some 16), none, (.bin false .add (.t 5) (.v (.sc (.int .i64 1))))⟩, ⟨(some 5), none, (.mov (.t 16))⟩] 2 none))))
def k53_t0 : Y := (.seq (.reg [⟨(some 17), none, (.two (.asl 5 false 1 8 (.t 3)) (.gen (.slice 120 (.tmp 3) none none none) 38))⟩, ⟨(some 2), none, (.mov (.t 17))⟩] 2 none) .ret)
def k53 : KF := ⟨(.seq (.reg [⟨(some 2), none, (.mov (.v (.list 0 [] 1)))⟩] 1 none) (.seq (.reg [⟨(some 3), none, (.new [(.sc (.int .u8 0)), (.sc (.int .u8 0)), (.sc (.int .u8 0)), (.sc (.int .u8 0)), (.sc (.int .u8 0)), (.sc (.int .u8 0)), (.sc (.int .u8 0)), (.sc (.int .u8 0))])⟩] 1 none) (.seq (.seq (.reg [⟨(some 5), none, (.mov (.v (.sc (.int .i64 0))))⟩] 1 none) (.block 0 (.loop k53_l0))) k53_t0))), [(.t 2)]⟩
theorem k53_eq : (Tryd.prog.funcs[53]?).bind (cmpF Tryd.prog hmS glS 1) = some k53 := by kernel_rfl
def k59_l0 : Y := (.seq (.seq (.reg [⟨(some 11), none, (.mov (.t 5))⟩, ⟨(some 12), none, (.mov (.t 0))⟩, ⟨(some 13), none, (.len (.t 12))⟩, ⟨(some 14), none, (.bin false .lss (.t 11) (.t 13))⟩] 4 none) (.cond (.t 14) .skip (.«exit» 0))) (.seq (.block 1 (.seq (.reg [⟨(some 17), none, (.mov (.t 0))⟩, ⟨(some 18), none, (.mov (.t 5))⟩, ⟨(some 19), none, (.ixl 61 (.t 17) (.t 18))⟩, ⟨(some 20), none, (.ld (some 7) (.t 19))⟩, ⟨(some 21), none, (.mov (.t 1))⟩, ⟨(some 22), none, (.mov (.t 5))⟩, ⟨(some 23), none, (.ixl 61 (.t 21) (.t 22))⟩, ⟨(some 24), none, (.ld (some 7) (.t 23))⟩, ⟨(some 25), none, (.pl 80 [(.t 20), (.t 24)])⟩, ⟨(some 26), none, (.un .not (.t 25))⟩] 10 (some [0, 0, 3, 7, 0, 0, 48, 112, 255, 511])) (.cond (.t 26) (.seq (.reg [⟨(some 4), none, (.mov (.v (.sc (.bool false))))⟩] 1 none) .ret) .skip))) (.reg [⟨(some 15), none, (.mov (.t 5))⟩, ⟨(some 16), none, (.bin false .add (.t 15) (.v (.sc (.int .i64 1))))⟩, ⟨(some 5), none, (.mov (.t 16))⟩] 3 none)))
def k59_t0 : Y := (.seq (.reg [⟨(some 4), none, (.mov (.v (.sc (.bool true))))⟩] 1 none) .ret)
def k59 : KF := ⟨(.seq (.reg [⟨(some 4), none, (.mov (.v (.sc (.bool false))))⟩] 1 none) (.seq (.seq (.reg [⟨(some 6), none, (.mov (.t 0))⟩, ⟨(some 7), none, (.len (.t 6))⟩, ⟨(some 8), none, (.mov (.t 1))⟩, ⟨(some 9), none, (.len (.t 8))⟩, ⟨(some 10), none, (.bin false .neq (.t 7) (.t 9))⟩] 5 none) (.cond (.t 10) (.seq (.reg [⟨(some 4), none, (.mov (.v (.sc (.bool false))))⟩] 1 none) .ret) .skip)) (.seq (.seq (.reg [⟨(some 5), none, (.mov (.v (.sc (.int .i64 0))))⟩] 1 none) (.block 0 (.loop k59_l0))) k59_t0))), [(.t 4)]⟩
theorem k59_eq : (Tryd.prog.funcs[59]?).bind (cmpF Tryd.prog hmS glS 0) = some k59 := by kernel_rfl
def k60 : KF := ⟨(.seq (.reg [⟨(some 2), none, (.mov (.v (.list 0 [] 1)))⟩, ⟨(some 3), none, (.mov (.v (.list 0 [] 1)))⟩, ⟨(some 4), none, (.mov (.v (.sc (.int .i64 0))))⟩] 3 none) (.seq (.seq (.reg [⟨(some 6), none, (.mov (.t 0))⟩, ⟨(some 7), none, (.len (.t 6))⟩, ⟨(some 8), none, (.bin false .lss (.t 7) (.v (.sc (.int .i64 8))))⟩] 3 none) (.cond (.t 8) (.seq (.reg [⟨(some 2), none, (.mov (.v (.list 0 [] 1)))⟩, ⟨(some 3), none, (.mov (.v (.list 0 [] 1)))⟩, ⟨(some 4), none, (.mov (.v (.sc (.int .i64 6))))⟩] 3 none) .ret) .skip)) (.seq (.reg [⟨(some 9), none, (.mov (.t 0))⟩, ⟨(some 10), none, (.pl 81 [(.t 9)])⟩, ⟨(some 5), none, (.mov (.t 10))⟩] 3 none) (.seq (.seq (.reg [⟨(some 11), none, (.mov (.t 0))⟩, ⟨(some 12), none, (.sll 5 (.t 11) (some (.v (.sc (.int .i64 4)))) none)⟩, ⟨(some 13), none, (.pl 81 [(.t 12)])⟩, ⟨(some 14), none, (.mov (.t 5))⟩, ⟨(some 15), none, (.un .xor (.t 14))⟩, ⟨(some 16), none, (.bin false .neq (.t 13) (.t 15))⟩] 6 none) (.cond (.t 16) (.seq (.reg [⟨(some 2), none, (.mov (.v (.list 0 [] 1)))⟩, ⟨(some 3), none, (.mov (.v (.list 0 [] 1)))⟩, ⟨(some 4), none, (.mov (.v (.sc (.int .i64 5))))⟩] 3 none) .ret) .skip)) (.seq (.reg [⟨(some 17), none, (.mov (.t 0))⟩, ⟨(some 18), none, (.sll 5 (.t 17) (some (.v (.sc (.int .i64 8)))) none)⟩, ⟨(some 0), none, (.mov (.t 18))⟩] 3 none) (.seq (.seq (.reg [⟨(some 19), none, (.mov (.t 0))⟩, ⟨(some 20), none, (.len (.t 19))⟩, ⟨(some 21), none, (.i2i .u64 (.t 20))⟩, ⟨(some 22), none, (.mov (.t 5))⟩, ⟨(some 23), none, (.i2i .u64 (.t 22))⟩, ⟨(some 24), none, (.bin false .add (.t 23) (.v (.sc (.int .u64 8))))⟩, ⟨(some 25), none, (.bin false .lss (.t 21) (.t 24))⟩] 7 none) (.cond (.t 25) (.seq (.reg [⟨(some 2), none, (.mov (.v (.list 0 [] 1)))⟩, ⟨(some 3), none, (.mov (.v (.list 0 [] 1)))⟩, ⟨(some 4), none, (.mov (.v (.sc (.int .i64 6))))⟩] 3 none) .ret) .skip)) (.seq (.reg [⟨(some 26), none, (.mov (.t 0))⟩, ⟨(some 27), none, (.mov (.t 5))⟩, ⟨(some 28), none, (.mov (.t 5))⟩, ⟨(some 29), none, (.gen (.slice 38 (.tmp 26) none (some (.tmp 27)) (some (.tmp 28))) 38)⟩, ⟨(some 30), none, (.mov (.t 0))⟩, ⟨(some 31), none, (.mov (.t 5))⟩, ⟨(some 32), none, (.mov (.t 5))⟩, ⟨(some 33), none, (.bin false .add (.t 32) (.v (.sc (.int .u32 8))))⟩, ⟨(some 34), none, (.mov (.t 5))⟩, ⟨(some 35), none, (.bin false .add (.t 34) (.v (.sc (.int .u32 8))))⟩, ⟨(some 36), none, (.gen (.slice 38 (.tmp 30) (some (.tmp 31)) (some (.tmp 33)) (some (.tmp 35))) 38)⟩, ⟨(some 2), none, (.mov (.t 29))⟩, ⟨(some 3), none, (.mov (.t 36))⟩, ⟨(some 4), none, (.mov (.v (.sc (.int .i64 0))))⟩] 14 (some [0, 0, 0, 7, 0, 0, 0, 64, 0, 256, 1008, 15, 4095, 8191])) .ret))))))), [(.t 2), (.t 3), (.t 4)]⟩
theorem k60_eq : (Tryd.prog.funcs[60]?).bind (cmpF Tryd.prog hmS glS 0) = some k60 := by kernel_rfl
def k61 : KD := ⟨(.reg [⟨(some 2), none, (.new [(.sc (.int .i64 0)), (.sc (.string (ByteArray.mk #[]))), (.sc (.int .i64 0)), (.sc (.int .i64 0)), (.sc (.int .i64 0)), (.sc (.string (ByteArray.mk #[]))), (.sc (.string (ByteArray.mk #[]))), (.sc (.int .i64 0)), (.list 0 [] 1)])⟩, ⟨(some 3), none, (.new [(.sc (.int .i64 0))])⟩, ⟨(some 4), none, (.new [(.sc (.int .i64 0))])⟩] 3 none), 82, [(.t 2), (.t 3), (.t 4)], 6, (.seq (.reg [⟨(some 7), none, (.mov (.t 0))⟩, ⟨(some 8), none, (.build [(0, 1), (1, 1)] [(.list 0 [] 1), (.sc (.int .i64 0))] [(0, (.t 7))])⟩, ⟨(some 9), none, (.box (.t 8))⟩, ⟨(some 5), none, (.mov (.t 9))⟩] 4 none) (.seq (.reg [⟨(some 10), none, (.mov (.t 5))⟩, ⟨(some 11), none, (.hp 83 [(.t 10)])⟩, ⟨none, none, (.sto 9 (.t 2) (.t 11))⟩] 3 none) (.seq (.reg [⟨(some 13), none, (.ld (some 9) (.t 2))⟩, ⟨(some 14), none, (.pl 27 [(.t 13)])⟩, ⟨(some 12), none, (.mov (.t 14))⟩, ⟨(some 15), none, (.ext (.t 12) 0)⟩, ⟨(some 16), none, (.ext (.t 12) 1)⟩, ⟨none, none, (.sto 1 (.t 4) (.t 16))⟩] 6 none) (.seq (.reg [⟨(some 17), none, (.mov (.t 5))⟩, ⟨(some 18), none, (.ld none (.t 4))⟩, ⟨(some 19), none, (.hp 84 [(.t 17), (.v (.sc (.int .i64 0))), (.t 18)])⟩] 3 none) (.seq (.reg [⟨(some 20), none, (.ld (some 9) (.t 2))⟩, ⟨(some 21), none, (.mov (.t 5))⟩, ⟨(some 22), none, (.nilc (.t 21))⟩, ⟨(some 23), none, (.fa 1 (.t 22))⟩, ⟨(some 24), none, (.ld none (.t 23))⟩, ⟨none, none, (.sto 9 (.t 2) (.t 20))⟩, ⟨none, none, (.sto 1 (.t 3) (.t 24))⟩, ⟨none, none, (.sto 1 (.t 4) (.v (.sc (.int .i64 0))))⟩] 8 (some [0, 0, 2, 6, 14, 1, 63, 127])) .ret))))), [(.c 2 (some 9)), (.c 3 none), (.c 4 none)]⟩
theorem k61_eq : (Tryd.prog.funcs[61]?).bind (cmpD Tryd.prog hmS glS 0) = some k61 := by kernel_rfl
def k66 : KF := ⟨(.seq (.reg [⟨(some 2), none, (.mov (.v (.sc (.bool false))))⟩] 1 none) (.seq (.reg [⟨(some 3), none, (.mov (.t 0))⟩, ⟨(some 4), none, (.bin false .neq (.t 3) (.v (.sc (.string (ByteArray.mk #[])))))⟩, ⟨(some 5), none, (.mov (.t 4))⟩, ⟨(some 6), (some (5, true)), (.mov (.t 0))⟩, ⟨(some 7), (some (5, true)), (.lenS (.t 6))⟩, ⟨(some 8), (some (5, true)), (.bin false .leq (.t 7) (.v (.sc (.int .i64 12))))⟩, ⟨(some 9), none, (.pick (.t 5) (.t 8) (.v (.sc (.bool false))))⟩, ⟨(some 10), none, (.mov (.t 9))⟩, ⟨(some 11), (some (10, true)), (.mov (.t 0))⟩, ⟨(some 12), (some (10, true)), (.pl 85 [(.t 11), (.v (.fn (.func 86) [] []))])⟩, ⟨(some 13), none, (.pick (.t 10) (.t 12) (.v (.sc (.bool false))))⟩, ⟨(some 2), none, (.mov (.t 13))⟩] 12 none) .ret)), [(.t 2)]⟩
theorem k66_eq : (Tryd.prog.funcs[66]?).bind (cmpF Tryd.prog hmS glS 0) = some k66 := by kernel_rfl
def k67 : KF := ⟨(.seq (.reg [⟨(some 2), none, (.mov (.v (.sc (.bool false))))⟩] 1 none) (.seq (.reg [⟨(some 6), none, (.mov (.t 0))⟩, ⟨(some 7), none, (.pl 89 [(.t 6)])⟩, ⟨(some 5), none, (.mov (.t 7))⟩, ⟨(some 8), none, (.ext (.t 5) 0)⟩, ⟨(some 9), none, (.ext (.t 5) 1)⟩, ⟨(some 3), none, (.new [(.sc (.int .i64 0)), (.sc (.int .i64 0)), (.sc (.int .i64 0))])⟩, ⟨none, none, (.sto 3 (.t 3) (.t 8))⟩, ⟨(some 4), none, (.mov (.t 9))⟩] 8 none) (.seq (.reg [⟨(some 10), none, (.mov (.t 4))⟩, ⟨(some 11), none, (.bin false .eql (.t 10) (.v (.sc (.int .i64 0))))⟩, ⟨(some 2), none, (.mov (.t 11))⟩] 3 none) .ret))), [(.t 2)]⟩
theorem k67_eq : (Tryd.prog.funcs[67]?).bind (cmpF Tryd.prog hmS glS 0) = some k67 := by kernel_rfl
def k68 : KF := ⟨(.seq (.reg [⟨(some 2), none, (.mov (.v (.sc (.bool false))))⟩] 1 none) (.seq (.reg [⟨(some 3), none, (.mov (.t 0))⟩, ⟨(some 4), none, (.lenS (.t 3))⟩, ⟨(some 5), none, (.bin false .leq (.t 4) (.v (.sc (.int .i64 60))))⟩, ⟨(some 6), none, (.mov (.t 5))⟩, ⟨(some 7), (some (6, true)), (.mov (.t 0))⟩, ⟨(some 8), (some (6, true)), (.pl 85 [(.t 7), (.v (.fn (.func 90) [] []))])⟩, ⟨(some 9), none, (.pick (.t 6) (.t 8) (.v (.sc (.bool false))))⟩, ⟨(some 2), none, (.mov (.t 9))⟩] 8 none) .ret)), [(.t 2)]⟩
theorem k68_eq : (Tryd.prog.funcs[68]?).bind (cmpF Tryd.prog hmS glS 0) = some k68 := by kernel_rfl
def k69 : KF := ⟨(.seq (.reg [⟨(some 2), none, (.mov (.v (.sc (.bool false))))⟩] 1 none) (.seq (.reg [⟨(some 3), none, (.mov (.t 0))⟩, ⟨(some 4), none, (.bin false .eql (.t 3) (.v (.sc (.string (ByteArray.mk #[])))))⟩, ⟨(some 5), none, (.mov (.t 4))⟩, ⟨(some 6), (some (5, false)), (.mov (.t 0))⟩, ⟨(some 7), (some (5, false)), (.pl 66 [(.t 6)])⟩, ⟨(some 8), none, (.pick (.t 5) (.v (.sc (.bool true))) (.t 7))⟩, ⟨(some 2), none, (.mov (.t 8))⟩] 7 none) .ret)), [(.t 2)]⟩
theorem k69_eq : (Tryd.prog.funcs[69]?).bind (cmpF Tryd.prog hmS glS 0) = some k69 := by kernel_rfl
def k70_l0 : Y := (.seq (.reg [⟨(some 8), none, (.nxt (.t 7))⟩, ⟨(some 9), none, (.ext (.t 8) 0)⟩] 2 none) (.seq (.cond (.t 9) .skip (.«exit» 0)) (.block 1 (.seq (.reg [⟨(some 10), none, (.ext (.t 8) 2)⟩, ⟨(some 5), none, (.mov (.t 10))⟩] 2 none) (.seq (.seq (.reg [⟨(some 11), none, (.mov (.t 5))⟩, ⟨(some 12), none, (.bin false .lss (.t 11) (.v (.sc (.int .i32 65))))⟩, ⟨(some 13), none, (.mov (.t 12))⟩, ⟨(some 14), (some (13, false)), (.mov (.t 5))⟩, ⟨(some 15), (some (13, false)), (.bin false .gtr (.t 14) (.v (.sc (.int .i32 90))))⟩, ⟨(some 16), none, (.pick (.t 13) (.v (.sc (.bool true))) (.t 15))⟩] 6 none) (.cond (.t 16) (.seq (.reg [⟨(some 2), none, (.mov (.v (.sc (.bool false))))⟩] 1 none) .ret) .skip)) (.reg [⟨(some 17), none, (.mov (.t 3))⟩, ⟨(some 18), none, (.bin false .add (.t 17) (.v (.sc (.int .i64 1))))⟩, ⟨(some 3), none, (.mov (.t 18))⟩] 3 none))))))
def k70_t0 : Y := (.seq (.reg [⟨(some 19), none, (.mov (.t 3))⟩, ⟨(some 20), none, (.bin false .eql (.t 19) (.v (.sc (.int .i64 3))))⟩, ⟨(some 2), none, (.mov (.t 20))⟩] 3 none) .ret)
def k70 : KF := ⟨(.seq (.reg [⟨(some 2), none, (.mov (.v (.sc (.bool false))))⟩] 1 none) (.seq (.reg [⟨(some 3), none, (.mov (.v (.sc (.int .i64 0))))⟩] 1 none) (.seq (.seq (.reg [⟨(some 6), none, (.mov (.t 0))⟩, ⟨(some 7), none, (.rng (.t 6))⟩] 2 none) (.block 0 (.loop k70_l0))) k70_t0))), [(.t 2)]⟩
theorem k70_eq : (Tryd.prog.funcs[70]?).bind (cmpF Tryd.prog hmS glS 0) = some k70 := by kernel_rfl
def k71 : KF := ⟨(.seq (.reg [⟨(some 4), none, (.mov (.v (.sc (.bool false))))⟩] 1 none) (.seq (.reg [⟨(some 5), none, (.mov (.t 0))⟩, ⟨(some 6), none, (.mov (.t 1))⟩, ⟨(some 7), none, (.un .neg (.t 6))⟩, ⟨(some 8), none, (.bin false .geq (.t 5) (.t 7))⟩, ⟨(some 9), none, (.mov (.t 8))⟩, ⟨(some 10), (some (9, true)), (.mov (.t 0))⟩, ⟨(some 11), (some (9, true)), (.mov (.t 1))⟩, ⟨(some 12), (some (9, true)), (.bin false .leq (.t 10) (.t 11))⟩, ⟨(some 13), none, (.pick (.t 9) (.t 12) (.v (.sc (.bool false))))⟩, ⟨(some 4), none, (.mov (.t 13))⟩] 10 none) .ret)), [(.t 4)]⟩
theorem k71_eq : (Tryd.prog.funcs[71]?).bind (cmpF Tryd.prog hmS glS 0) = some k71 := by kernel_rfl
def k72_l0 : Y := (.seq (.reg [⟨(some 11), none, (.bin false .lss (.t 10) (.t 9))⟩] 1 none) (.seq (.cond (.t 11) .skip (.«exit» 0)) (.seq (.block 1 (.seq (.reg [⟨(some 12), none, (.mov (.t 10))⟩, ⟨(some 13), none, (.ixl 97 (.t 8) (.t 10))⟩, ⟨(some 14), none, (.ld (some 2) (.t 13))⟩, ⟨(some 4), none, (.new [(.sc (.string (ByteArray.mk #[]))), (.sc (.string (ByteArray.mk #[])))])⟩, ⟨(some 3), none, (.mov (.t 12))⟩, ⟨none, none, (.sto 2 (.t 4) (.t 14))⟩] 6 none) (.seq (.reg [⟨(some 15), none, (.ld (some 2) (.t 4))⟩, ⟨(some 16), none, (.pl 91 [(.t 15)])⟩, ⟨(some 17), none, (.un .not (.t 16))⟩, ⟨(some 18), none, (.mov (.t 17))⟩, ⟨(some 19), (some (18, false)), (.mov (.t 3))⟩, ⟨(some 20), (some (18, false)), (.bin false .gtr (.t 19) (.v (.sc (.int .i64 0))))⟩, ⟨(some 21), (some (18, false)), (.mov (.t 20))⟩, ⟨(some 22), (some (21, true)), (.mov (.t 0))⟩, ⟨(some 23), (some (21, true)), (.mov (.t 3))⟩, ⟨(some 24), (some (21, true)), (.bin false .sub (.t 23) (.v (.sc (.int .i64 1))))⟩, ⟨(some 25), (some (21, true)), (.ixl 97 (.t 22) (.t 24))⟩, ⟨(some 26), (some (21, true)), (.fa 0 (.t 25))⟩, ⟨(some 27), (some (21, true)), (.ld none (.t 26))⟩, ⟨(some 28), (some (21, true)), (.fa 0 (.t 4))⟩, ⟨(some 29), (some (21, true)), (.ld none (.t 28))⟩, ⟨(some 30), (some (21, true)), (.bin false .geq (.t 27) (.t 29))⟩, ⟨(some 31), (some (18, false)), (.pick (.t 21) (.t 30) (.v (.sc (.bool false))))⟩, ⟨(some 32), none, (.pick (.t 18) (.v (.sc (.bool true))) (.t 31))⟩] 18 (some [0, 1, 3, 7, 15, 31, 63, 127, 127, 383, 1023, 2047, 4095, 127, 8319, 32767, 65535, 131071])) (.cond (.t 32) (.seq (.reg [⟨(some 2), none, (.mov (.v (.sc (.bool false))))⟩] 1 none) .ret) .skip)))) (.reg [⟨(some 33), none, (.bin false .add (.t 10) (.v (.sc (.int .i64 1))))⟩, ⟨(some 10), none, (.mov (.t 33))⟩] 2 none))))
def k72_t0 : Y := (.seq (.reg [⟨(some 2), none, (.mov (.v (.sc (.bool true))))⟩] 1 none) .ret)
def k72 : KF := ⟨(.seq (.reg [⟨(some 2), none, (.mov (.v (.sc (.bool false))))⟩] 1 none) (.seq (.seq (.reg [⟨(some 5), none, (.mov (.t 0))⟩, ⟨(some 6), none, (.len (.t 5))⟩, ⟨(some 7), none, (.bin false .gtr (.t 6) (.v (.sc (.int .i64 6))))⟩] 3 none) (.cond (.t 7) (.seq (.reg [⟨(some 2), none, (.mov (.v (.sc (.bool false))))⟩] 1 none) .ret) .skip)) (.seq (.seq (.reg [⟨(some 8), none, (.mov (.t 0))⟩, ⟨(some 9), none, (.len (.t 8))⟩, ⟨(some 10), none, (.mov (.v (.sc (.int .i64 0))))⟩] 3 none) (.block 0 (.loop k72_l0))) k72_t0))), [(.t 2)]⟩
theorem k72_eq : (Tryd.prog.funcs[72]?).bind (cmpF Tryd.prog hmS glS 0) = some k72 := by kernel_rfl
def k73_l0 : Y := (.seq (.reg [⟨(some 15), none, (.bin false .lss (.t 14) (.t 13))⟩] 1 none) (.seq (.cond (.t 15) .skip (.«exit» 0)) (.seq (.block 1 (.seq (.reg [⟨(some 16), none, (.ixl 61 (.t 12) (.t 14))⟩, ⟨(some 17), none, (.ld (some 7) (.t 16))⟩, ⟨(some 9), none, (.new [(.sc (.string (ByteArray.mk #[]))), (.sc (.string (ByteArray.mk #[]))), (.sc (.int .i64 0)), (.sc (.int .i64 0)), (.sc (.string (ByteArray.mk #[]))), (.sc (.string (ByteArray.mk #[]))), (.list 0 [] 1)])⟩, ⟨none, none, (.sto 7 (.t 9) (.t 17))⟩] 4 none) (.seq (.reg [⟨(some 18), none, (.mov (.t 1))⟩, ⟨(some 19), none, (.ld (some 7) (.t 9))⟩, ⟨(some 20), none, (.dyn (.t 18) [(.t 19)])⟩, ⟨(some 10), none, (.mov (.t 20))⟩] 4 none) (.seq (.seq (.reg [⟨(some 21), none, (.mov (.t 6))⟩, ⟨(some 22), none, (.mov (.t 10))⟩, ⟨(some 23), none, (.lku 1 (.sc (.pointer none)) false (.t 21) (.t 22))⟩, ⟨(some 24), none, (.isn false (.t 23))⟩] 4 none) (.cond (.t 24) (.seq (.reg [⟨(some 25), none, (.mov (.t 6))⟩, ⟨(some 26), none, (.mov (.t 10))⟩, ⟨(some 27), none, (.build [(0, 1), (1, 1)] [(.list 0 [] 1), (.list 0 [] 1)] [])⟩, ⟨(some 28), none, (.box (.t 27))⟩, ⟨none, none, (.mup 1 (.t 25) (.t 26) (.t 28))⟩] 5 none) (.reg [⟨(some 29), none, (.mov (.t 7))⟩, ⟨(some 30), none, (.mov (.t 10))⟩, ⟨(some 31), none, (.mk 9 1 [(.t 30)])⟩, ⟨(some 32), none, (.app 9 16 true (.t 29) (.t 31))⟩, ⟨(some 7), none, (.mov (.t 32))⟩] 5 none)) .skip)) (.reg [⟨(some 33), none, (.mov (.t 6))⟩, ⟨(some 34), none, (.mov (.t 10))⟩, ⟨(some 35), none, (.lku 1 (.sc (.pointer none)) false (.t 33) (.t 34))⟩, ⟨(some 36), none, (.ld (some 7) (.t 9))⟩, ⟨(some 37), none, (.hp 92 [(.t 35), (.t 36)])⟩] 5 none))))) (.reg [⟨(some 38), none, (.bin false .add (.t 14) (.v (.sc (.int .i64 1))))⟩, ⟨(some 14), none, (.mov (.t 38))⟩] 2 none))))
def k73_t0 : Y := (.seq (.reg [⟨(some 39), none, (.mov (.t 6))⟩, ⟨(some 40), none, (.mov (.t 7))⟩, ⟨(some 4), none, (.mov (.t 39))⟩, ⟨(some 5), none, (.mov (.t 40))⟩] 4 none) .ret)
def k73 : KF := ⟨(.seq (.reg [⟨(some 4), none, (.mov (.v (.sc (.map none))))⟩, ⟨(some 5), none, (.mov (.v (.list 0 [] 1)))⟩] 2 none) (.seq (.reg [⟨(some 11), none, .mkm⟩, ⟨(some 6), none, (.mov (.t 11))⟩] 2 none) (.seq (.reg [⟨(some 7), none, (.mov (.v (.list 0 [] 1)))⟩] 1 none) (.seq (.seq (.reg [⟨(some 12), none, (.mov (.t 0))⟩, ⟨(some 13), none, (.len (.t 12))⟩, ⟨(some 14), none, (.mov (.v (.sc (.int .i64 0))))⟩] 3 none) (.block 0 (.loop k73_l0))) k73_t0)))), [(.t 4), (.t 5)]⟩
theorem k73_eq : (Tryd.prog.funcs[73]?).bind (cmpF Tryd.prog hmS glS 0) = some k73 := by kernel_rfl
def k74 : KF := ⟨(.seq (.reg [⟨(some 1), none, (.box (.t 0))⟩, ⟨(some 2), none, (.mov (.v (.sc (.string (ByteArray.mk #[])))))⟩] 2 none) (.seq (.reg [⟨(some 3), none, (.fa 1 (.t 1))⟩, ⟨(some 4), none, (.ld none (.t 3))⟩, ⟨(some 2), none, (.mov (.t 4))⟩] 3 none) .ret)), [(.t 2)]⟩
theorem k74_eq : (Tryd.prog.funcs[74]?).bind (cmpF Tryd.prog hmS glS 0) = some k74 := by kernel_rfl
def k75 : KF := ⟨(.seq (.reg [⟨(some 4), none, (.mov (.v (.sc (.int .i64 0))))⟩, ⟨(some 5), none, (.mov (.v (.sc (.int .i64 0))))⟩, ⟨(some 6), none, (.mov (.v (.sc (.int .i64 0))))⟩] 3 none) (.seq (.reg [⟨(some 8), none, (.mov (.t 1))⟩, ⟨(some 9), none, (.mov (.t 0))⟩, ⟨(some 10), none, (.nilc (.t 9))⟩, ⟨(some 11), none, (.fa 0 (.t 10))⟩, ⟨(some 12), none, (.ld none (.t 11))⟩, ⟨(some 13), none, (.pl 93 [(.t 8), (.t 12)])⟩, ⟨(some 7), none, (.mov (.t 13))⟩, ⟨(some 14), none, (.ext (.t 7) 0)⟩, ⟨(some 15), none, (.ext (.t 7) 1)⟩, ⟨(some 4), none, (.mov (.t 14))⟩, ⟨(some 6), none, (.mov (.t 15))⟩] 11 none) (.seq (.seq (.reg [⟨(some 16), none, (.mov (.t 6))⟩, ⟨(some 17), none, (.bin false .neq (.t 16) (.v (.sc (.int .i64 0))))⟩] 2 none) (.cond (.t 17) (.seq (.reg [⟨(some 18), none, (.mov (.t 6))⟩, ⟨(some 4), none, (.mov (.v (.sc (.int .i64 0))))⟩, ⟨(some 5), none, (.mov (.v (.sc (.int .i64 0))))⟩, ⟨(some 6), none, (.mov (.t 18))⟩] 4 none) .ret) .skip)) (.seq (.reg [⟨(some 20), none, (.mov (.t 1))⟩, ⟨(some 21), none, (.mov (.t 0))⟩, ⟨(some 22), none, (.nilc (.t 21))⟩, ⟨(some 23), none, (.fa 1 (.t 22))⟩, ⟨(some 24), none, (.ld none (.t 23))⟩, ⟨(some 25), none, (.pl 93 [(.t 20), (.t 24)])⟩, ⟨(some 19), none, (.mov (.t 25))⟩, ⟨(some 26), none, (.ext (.t 19) 0)⟩, ⟨(some 27), none, (.ext (.t 19) 1)⟩, ⟨(some 5), none, (.mov (.t 26))⟩, ⟨(some 6), none, (.mov (.t 27))⟩] 11 none) (.seq (.seq (.reg [⟨(some 28), none, (.mov (.t 6))⟩, ⟨(some 29), none, (.bin false .neq (.t 28) (.v (.sc (.int .i64 0))))⟩] 2 none) (.cond (.t 29) (.seq (.reg [⟨(some 30), none, (.mov (.t 6))⟩, ⟨(some 4), none, (.mov (.v (.sc (.int .i64 0))))⟩, ⟨(some 5), none, (.mov (.v (.sc (.int .i64 0))))⟩, ⟨(some 6), none, (.mov (.t 30))⟩] 4 none) .ret) .skip)) (.seq (.reg [⟨(some 31), none, (.mov (.t 4))⟩, ⟨(some 32), none, (.mov (.t 5))⟩, ⟨(some 4), none, (.mov (.t 31))⟩, ⟨(some 5), none, (.mov (.t 32))⟩, ⟨(some 6), none, (.mov (.v (.sc (.int .i64 0))))⟩] 5 none) .ret)))))), [(.t 4), (.t 5), (.t 6)]⟩
theorem k75_eq : (Tryd.prog.funcs[75]?).bind (cmpF Tryd.prog hmS glS 0) = some k75 := by kernel_rfl
def k76_l0 : Y := (.seq (.seq (.reg [⟨(some 11), none, (.mov (.t 3))⟩, ⟨(some 12), none, (.bin false .geq (.t 11) (.v (.sc (.int .u64 128))))⟩] 2 none) (.cond (.t 12) .skip (.«exit» 0))) (.block 1 (.seq (.reg [⟨(some 13), none, (.mov (.t 2))⟩, ⟨(some 14), none, (.mov (.t 3))⟩, ⟨(some 15), none, (.i2i .u8 (.t 14))⟩, ⟨(some 16), none, (.bin false .or (.t 15) (.v (.sc (.int .u8 128))))⟩, ⟨(some 17), none, (.mk 5 1 [(.t 16)])⟩, ⟨(some 18), none, (.app 5 1 true (.t 13) (.t 17))⟩, ⟨(some 2), none, (.mov (.t 18))⟩] 7 none) (.reg [⟨(some 19), none, (.mov (.t 3))⟩, ⟨(some 20), none, (.bin false .shr (.t 19) (.v (.sc (.int .u64 7))))⟩, ⟨(some 3), none, (.mov (.t 20))⟩] 3 none))))
def k76_t0 : Y := (.seq (.reg [⟨(some 21), none, (.mov (.t 2))⟩, ⟨(some 22), none, (.mov (.t 3))⟩, ⟨(some 23), none, (.i2i .u8 (.t 22))⟩, ⟨(some 24), none, (.mk 5 1 [(.t 23)])⟩, ⟨(some 25), none, (.app 5 1 true (.t 21) (.t 24))⟩, ⟨(some 2), none, (.mov (.t 25))⟩] 6 none) .ret)
def k76 : KF := ⟨(.seq (.reg [⟨(some 2), none, (.mov (.v (.list 0 [] 1)))⟩] 1 none) (.seq (.reg [⟨(some 4), none, (.mov (.t 0))⟩, ⟨(some 5), none, (.i2i .u64 (.t 4))⟩, ⟨(some 6), none, (.bin false .shl (.t 5) (.v (.sc (.int .u64 1))))⟩, ⟨(some 7), none, (.mov (.t 0))⟩, ⟨(some 8), none, (.bin false .shr (.t 7) (.v (.sc (.int .u64 63))))⟩, ⟨(some 9), none, (.i2i .u64 (.t 8))⟩, ⟨(some 10), none, (.bin false .xor (.t 6) (.t 9))⟩, ⟨(some 3), none, (.mov (.t 10))⟩] 8 none) (.seq (.block 0 (.loop k76_l0)) k76_t0))), [(.t 2)]⟩
theorem k76_eq : (Tryd.prog.funcs[76]?).bind (cmpF Tryd.prog hmS glS 0) = some k76 := by kernel_rfl
def k77 : KF := ⟨(.seq (.reg [⟨(some 2), none, (.mov (.v (.list 0 [] 1)))⟩, ⟨(some 3), none, (.mov (.v (.sc (.int .i64 0))))⟩] 2 none) (.seq (.seq (.reg [⟨(some 4), none, (.mov (.t 0))⟩, ⟨(some 5), none, (.pl 68 [(.t 4)])⟩, ⟨(some 6), none, (.un .not (.t 5))⟩] 3 none) (.cond (.t 6) (.seq (.reg [⟨(some 2), none, (.mov (.v (.list 0 [] 1)))⟩, ⟨(some 3), none, (.mov (.v (.sc (.int .i64 5))))⟩] 2 none) .ret) .skip)) (.seq (.reg [⟨(some 7), none, (.mov (.t 0))⟩, ⟨(some 8), none, (.lenS (.t 7))⟩, ⟨(some 9), none, (.pl 76 [(.t 8)])⟩, ⟨(some 10), none, (.mov (.t 0))⟩, ⟨(some 11), none, (.app 5 1 false (.t 9) (.t 10))⟩, ⟨(some 2), none, (.mov (.t 11))⟩, ⟨(some 3), none, (.mov (.v (.sc (.int .i64 0))))⟩] 7 none) .ret))), [(.t 2), (.t 3)]⟩
theorem k77_eq : (Tryd.prog.funcs[77]?).bind (cmpF Tryd.prog hmS glS 0) = some k77 := by kernel_rfl
def k78_l0 : Y := (.seq (.reg [⟨(some 10), none, (.bin false .lss (.t 9) (.t 8))⟩] 1 none) (.seq (.cond (.t 10) .skip (.«exit» 0)) (.seq (.block 1 (.seq (.reg [⟨(some 11), none, (.ixl 5 (.t 7) (.t 9))⟩, ⟨(some 12), none, (.ld none (.t 11))⟩, ⟨(some 6), none, (.mov (.t 12))⟩] 3 none) (.reg [⟨(some 13), none, (.mov (.t 0))⟩, ⟨(some 14), none, (.mov (.t 6))⟩, ⟨(some 15), none, (.i2i .u64 (.t 14))⟩, ⟨(some 16), none, (.bin false .xor (.t 13) (.t 15))⟩, ⟨(some 17), none, (.bin false .mul (.t 16) (.v (.sc (.int .u64 1099511628211))))⟩, ⟨(some 0), none, (.mov (.t 17))⟩] 6 none))) (.reg [⟨(some 18), none, (.bin false .add (.t 9) (.v (.sc (.int .i64 1))))⟩, ⟨(some 9), none, (.mov (.t 18))⟩] 2 none))))
def k78_t0 : Y := (.seq (.reg [⟨(some 19), none, (.mov (.t 0))⟩, ⟨(some 4), none, (.mov (.t 19))⟩] 2 none) .ret)
def k78 : KF := ⟨(.seq (.reg [⟨(some 4), none, (.mov (.v (.sc (.int .u64 0))))⟩] 1 none) (.seq (.seq (.reg [⟨(some 7), none, (.mov (.t 1))⟩, ⟨(some 8), none, (.len (.t 7))⟩, ⟨(some 9), none, (.mov (.v (.sc (.int .i64 0))))⟩] 3 none) (.block 0 (.loop k78_l0))) k78_t0)), [(.t 4)]⟩
theorem k78_eq : (Tryd.prog.funcs[78]?).bind (cmpF Tryd.prog hmS glS 0) = some k78 := by kernel_rfl
def k80 : KF := ⟨(.seq (.reg [⟨(some 2), none, (.box (.t 0))⟩, ⟨(some 3), none, (.box (.t 1))⟩, ⟨(some 4), none, (.mov (.v (.sc (.bool false))))⟩] 3 none) (.seq (.reg [⟨(some 5), none, (.ld (some 7) (.t 2))⟩, ⟨(some 6), none, (.ld (some 7) (.t 3))⟩, ⟨(some 7), none, (.pl 94 [(.t 5), (.t 6)])⟩, ⟨(some 8), none, (.mov (.t 7))⟩, ⟨(some 9), (some (8, true)), (.fa 2 (.t 2))⟩, ⟨(some 10), (some (8, true)), (.ld none (.t 9))⟩, ⟨(some 11), (some (8, true)), (.fa 2 (.t 3))⟩, ⟨(some 12), (some (8, true)), (.ld none (.t 11))⟩, ⟨(some 13), (some (8, true)), (.bin false .eql (.t 10) (.t 12))⟩, ⟨(some 14), none, (.pick (.t 8) (.t 13) (.v (.sc (.bool false))))⟩, ⟨(some 15), none, (.mov (.t 14))⟩, ⟨(some 16), (some (15, true)), (.fa 3 (.t 2))⟩, ⟨(some 17), (some (15, true)), (.ld none (.t 16))⟩, ⟨(some 18), (some (15, true)), (.fa 3 (.t 3))⟩, ⟨(some 19), (some (15, true)), (.ld none (.t 18))⟩, ⟨(some 20), (some (15, true)), (.bin false .eql (.t 17) (.t 19))⟩, ⟨(some 21), none, (.pick (.t 15) (.t 20) (.v (.sc (.bool false))))⟩, ⟨(some 4), none, (.mov (.t 21))⟩] 18 none) .ret)), [(.t 4)]⟩
theorem k80_eq : (Tryd.prog.funcs[80]?).bind (cmpF Tryd.prog hmS glS 0) = some k80 := by kernel_rfl
def k81 : KF := ⟨(.seq (.reg [⟨(some 2), none, (.mov (.v (.sc (.int .u32 0))))⟩] 1 none) (.seq (.reg [⟨(some 3), none, (.mov (.t 0))⟩, ⟨(some 4), none, (.ixl 5 (.t 3) (.v (.sc (.int .i64 0))))⟩, ⟨(some 5), none, (.ld none (.t 4))⟩, ⟨(some 6), none, (.i2i .u32 (.t 5))⟩, ⟨(some 7), none, (.bin false .shl (.t 6) (.v (.sc (.int .u64 24))))⟩, ⟨(some 8), none, (.mov (.t 0))⟩, ⟨(some 9), none, (.ixl 5 (.t 8) (.v (.sc (.int .i64 1))))⟩, ⟨(some 10), none, (.ld none (.t 9))⟩, ⟨(some 11), none, (.i2i .u32 (.t 10))⟩, ⟨(some 12), none, (.bin false .shl (.t 11) (.v (.sc (.int .u64 16))))⟩, ⟨(some 13), none, (.bin false .or (.t 7) (.t 12))⟩, ⟨(some 14), none, (.mov (.t 0))⟩, ⟨(some 15), none, (.ixl 5 (.t 14) (.v (.sc (.int .i64 2))))⟩, ⟨(some 16), none, (.ld none (.t 15))⟩, ⟨(some 17), none, (.i2i .u32 (.t 16))⟩, ⟨(some 18), none, (.bin false .shl (.t 17) (.v (.sc (.int .u64 8))))⟩, ⟨(some 19), none, (.bin false .or (.t 13) (.t 18))⟩, ⟨(some 20), none, (.mov (.t 0))⟩, ⟨(some 21), none, (.ixl 5 (.t 20) (.v (.sc (.int .i64 3))))⟩, ⟨(some 22), none, (.ld none (.t 21))⟩, ⟨(some 23), none, (.i2i .u32 (.t 22))⟩, ⟨(some 24), none, (.bin false .or (.t 19) (.t 23))⟩, ⟨(some 2), none, (.mov (.t 24))⟩] 23 (some [0, 1, 3, 7, 15, 0, 32, 96, 224, 480, 1023, 0, 2048, 6144, 14336, 30720, 65535, 0, 131072, 393216, 917504, 2097151, 4194303])) .ret)), [(.t 2)]⟩
theorem k81_eq : (Tryd.prog.funcs[81]?).bind (cmpF Tryd.prog hmS glS 0) = some k81 := by kernel_rfl
def k82 : KC := ⟨6, 7, 125, [⟨(some 5), none, (.mov (.t 7))⟩, ⟨(some 8), none, (.ext (.t 5) 0)⟩, ⟨(some 9), none, (.ext (.t 5) 1)⟩, ⟨(some 3), none, (.new [(.sc (.int .i64 0))])⟩, ⟨none, none, (.sto 1 (.t 3) (.t 8))⟩, ⟨(some 4), none, (.mov (.t 9))⟩], 8, (.seq (.reg [⟨(some 10), none, (.mov (.t 4))⟩] 1 none) (.cond (.t 10) (.reg [⟨(some 11), none, (.build [(0, 1), (1, 1), (2, 1), (3, 1), (4, 1), (5, 1), (6, 1), (7, 1), (8, 1)] [(.sc (.int .i64 0)), (.sc (.string (ByteArray.mk #[]))), (.sc (.int .i64 0)), (.sc (.int .i64 0)), (.sc (.int .i64 0)), (.sc (.string (ByteArray.mk #[]))), (.sc (.string (ByteArray.mk #[]))), (.sc (.int .i64 0)), (.list 0 [] 1)] [])⟩, ⟨(some 12), none, (.fa 0 (.t 3))⟩, ⟨(some 13), none, (.ld none (.t 12))⟩, ⟨none, none, (.sto 9 (.t 0) (.t 11))⟩, ⟨none, none, (.sto 1 (.t 1) (.v (.sc (.int .i64 0))))⟩, ⟨none, none, (.sto 1 (.t 2) (.t 13))⟩] 6 (some [0, 0, 2, 1, 9, 31])) .skip))⟩
theorem k82_eq : (Tryd.prog.funcs[82]?).bind (cmpC Tryd.prog hmS glS 0) = some k82 := by kernel_rfl
def k83_l0 : Y := (.seq (.reg [⟨(some 36), none, (.bin false .lss (.t 35) (.t 34))⟩] 1 none) (.seq (.cond (.t 36) .skip (.«exit» 0)) (.seq (.block 1 (.reg [⟨(some 37), none, (.fa 8 (.t 2))⟩, ⟨(some 38), none, (.ld none (.t 37))⟩, ⟨(some 39), none, (.mov (.t 0))⟩, ⟨(some 40), none, (.hp 98 [(.t 39)])⟩, ⟨(some 41), none, (.mk 61 7 [(.t 40)])⟩, ⟨(some 42), none, (.app 61 104 true (.t 38) (.t 41))⟩, ⟨(some 43), none, (.fa 8 (.t 2))⟩, ⟨none, none, (.sto 1 (.t 43) (.t 42))⟩] 8 (some [0, 1, 0, 4, 12, 31, 63, 127]))) (.reg [⟨(some 44), none, (.bin false .add (.t 35) (.v (.sc (.int .i64 1))))⟩, ⟨(some 35), none, (.mov (.t 44))⟩] 2 none))))
def k83_t0 : Y := (.seq (.reg [⟨(some 45), none, (.ld (some 9) (.t 2))⟩, ⟨none, none, (.sto 9 (.t 2) (.t 45))⟩] 2 none) .ret)
def k83 : KF := ⟨(.seq (.reg [⟨(some 2), none, (.new [(.sc (.int .i64 0)), (.sc (.string (ByteArray.mk #[]))), (.sc (.int .i64 0)), (.sc (.int .i64 0)), (.sc (.int .i64 0)), (.sc (.string (ByteArray.mk #[]))), (.sc (.string (ByteArray.mk #[]))), (.sc (.int .i64 0)), (.list 0 [] 1)])⟩] 1 none) (.seq (.reg [⟨(some 5), none, (.mov (.t 0))⟩, ⟨(some 6), none, (.mkf (.func 95) [(.t 5)] [])⟩, ⟨(some 7), none, (.mov (.t 0))⟩, ⟨(some 8), none, (.mkf (.func 96) [(.t 7)] [])⟩, ⟨(some 3), none, (.mov (.t 6))⟩, ⟨(some 4), none, (.mov (.t 8))⟩] 6 none) (.seq (.reg [⟨(some 9), none, (.mov (.t 3))⟩, ⟨(some 10), none, (.dyn (.t 9) [])⟩, ⟨(some 11), none, (.fa 0 (.t 2))⟩, ⟨none, none, (.sto 1 (.t 11) (.t 10))⟩] 4 none) (.seq (.reg [⟨(some 12), none, (.mov (.t 4))⟩, ⟨(some 13), none, (.dyn (.t 12) [])⟩, ⟨(some 14), none, (.fa 1 (.t 2))⟩, ⟨none, none, (.sto 1 (.t 14) (.t 13))⟩] 4 none) (.seq (.reg [⟨(some 15), none, (.mov (.t 3))⟩, ⟨(some 16), none, (.dyn (.t 15) [])⟩, ⟨(some 17), none, (.mov (.t 3))⟩, ⟨(some 18), none, (.dyn (.t 17) [])⟩, ⟨(some 19), none, (.mov (.t 3))⟩, ⟨(some 20), none, (.dyn (.t 19) [])⟩, ⟨(some 21), none, (.fa 2 (.t 2))⟩, ⟨none, none, (.sto 1 (.t 21) (.t 16))⟩, ⟨(some 22), none, (.fa 3 (.t 2))⟩, ⟨none, none, (.sto 1 (.t 22) (.t 18))⟩, ⟨(some 23), none, (.fa 4 (.t 2))⟩, ⟨none, none, (.sto 1 (.t 23) (.t 20))⟩] 12 none) (.seq (.reg [⟨(some 24), none, (.mov (.t 4))⟩, ⟨(some 25), none, (.dyn (.t 24) [])⟩, ⟨(some 26), none, (.mov (.t 4))⟩, ⟨(some 27), none, (.dyn (.t 26) [])⟩, ⟨(some 28), none, (.fa 5 (.t 2))⟩, ⟨none, none, (.sto 1 (.t 28) (.t 25))⟩, ⟨(some 29), none, (.fa 6 (.t 2))⟩, ⟨none, none, (.sto 1 (.t 29) (.t 27))⟩] 8 none) (.seq (.reg [⟨(some 30), none, (.mov (.t 3))⟩, ⟨(some 31), none, (.dyn (.t 30) [])⟩, ⟨(some 32), none, (.fa 7 (.t 2))⟩, ⟨none, none, (.sto 1 (.t 32) (.t 31))⟩] 4 none) (.seq (.seq (.reg [⟨(some 33), none, (.mov (.t 0))⟩, ⟨(some 34), none, (.hp 97 [(.t 33), (.v (.sc (.int .i64 100)))])⟩, ⟨(some 35), none, (.mov (.v (.sc (.int .i64 0))))⟩] 3 none) (.block 0 (.loop k83_l0))) k83_t0)))))))), [(.c 2 (some 9))]⟩
theorem k83_eq : (Tryd.prog.funcs[83]?).bind (cmpF Tryd.prog hmS glS 0) = some k83 := by kernel_rfl
def k84 : KF := ⟨(.seq (.seq (.reg [⟨(some 6), none, (.mov (.t 2))⟩, ⟨(some 7), none, (.bin false .neq (.t 6) (.v (.sc (.int .i64 0))))⟩] 2 none) (.cond (.t 7) (.reg [⟨(some 8), none, (.mov (.t 2))⟩, ⟨(some 9), none, (.build [(0, 1)] [(.sc (.int .i64 0))] [(0, (.t 8))])⟩, ⟨(some 10), none, (.ifc 125 (.t 9))⟩, ⟨none, none, (.pan (.t 10))⟩] 4 none) .skip)) (.reg [⟨(some 11), none, (.mov (.t 0))⟩, ⟨(some 12), none, (.nilc (.t 11))⟩, ⟨(some 13), none, (.fa 1 (.t 12))⟩, ⟨(some 14), none, (.ld none (.t 13))⟩, ⟨(some 15), none, (.mov (.t 1))⟩, ⟨(some 16), none, (.bin false .add (.t 14) (.t 15))⟩, ⟨(some 17), none, (.nilc (.t 11))⟩, ⟨(some 18), none, (.fa 1 (.t 17))⟩, ⟨none, none, (.sto 1 (.t 18) (.t 16))⟩] 9 none)), []⟩
theorem k84_eq : (Tryd.prog.funcs[84]?).bind (cmpF Tryd.prog hmS glS 0) = some k84 := by kernel_rfl
def k85_l0 : Y := (.seq (.reg [⟨(some 9), none, (.bin false .lss (.t 8) (.t 7))⟩] 1 none) (.seq (.cond (.t 9) .skip (.«exit» 0)) (.seq (.block 1 (.seq (.reg [⟨(some 10), none, (.mov (.t 8))⟩, ⟨(some 5), none, (.mov (.t 10))⟩] 2 none) (.seq (.reg [⟨(some 11), none, (.mov (.t 1))⟩, ⟨(some 12), none, (.mov (.t 0))⟩, ⟨(some 13), none, (.mov (.t 5))⟩, ⟨(some 14), none, (.ixs (.t 12) (.t 13))⟩, ⟨(some 15), none, (.dyn (.t 11) [(.t 14)])⟩, ⟨(some 16), none, (.un .not (.t 15))⟩] 6 none) (.cond (.t 16) (.seq (.reg [⟨(some 4), none, (.mov (.v (.sc (.bool false))))⟩] 1 none) .ret) .skip)))) (.reg [⟨(some 17), none, (.bin false .add (.t 8) (.v (.sc (.int .i64 1))))⟩, ⟨(some 8), none, (.mov (.t 17))⟩] 2 none))))
def k85_t0 : Y := (.seq (.reg [⟨(some 4), none, (.mov (.v (.sc (.bool true))))⟩] 1 none) .ret)
def k85 : KF := ⟨(.seq (.reg [⟨(some 4), none, (.mov (.v (.sc (.bool false))))⟩] 1 none) (.seq (.seq (.reg [⟨(some 6), none, (.mov (.t 0))⟩, ⟨(some 7), none, (.lenS (.t 6))⟩, ⟨(some 8), none, (.mov (.v (.sc (.int .i64 0))))⟩] 3 none) (.block 0 (.loop k85_l0))) k85_t0)), [(.t 4)]⟩
theorem k85_eq : (Tryd.prog.funcs[85]?).bind (cmpF Tryd.prog hmS glS 0) = some k85 := by kernel_rfl
def k86 : KF := ⟨(.seq (.reg [⟨(some 2), none, (.mov (.v (.sc (.bool false))))⟩] 1 none) (.seq (.reg [⟨(some 3), none, (.mov (.t 0))⟩, ⟨(some 4), none, (.pl 87 [(.t 3)])⟩, ⟨(some 5), none, (.mov (.t 4))⟩, ⟨(some 6), (some (5, false)), (.mov (.t 0))⟩, ⟨(some 7), (some (5, false)), (.pl 88 [(.t 6)])⟩, ⟨(some 8), none, (.pick (.t 5) (.v (.sc (.bool true))) (.t 7))⟩, ⟨(some 2), none, (.mov (.t 8))⟩] 7 none) .ret)), [(.t 2)]⟩
theorem k86_eq : (Tryd.prog.funcs[86]?).bind (cmpF Tryd.prog hmS glS 0) = some k86 := by kernel_rfl
def k87 : KF := ⟨(.seq (.reg [⟨(some 2), none, (.mov (.v (.sc (.bool false))))⟩] 1 none) (.seq (.reg [⟨(some 3), none, (.mov (.t 0))⟩, ⟨(some 4), none, (.bin false .geq (.t 3) (.v (.sc (.int .u8 97))))⟩, ⟨(some 5), none, (.mov (.t 4))⟩, ⟨(some 6), (some (5, true)), (.mov (.t 0))⟩, ⟨(some 7), (some (5, true)), (.bin false .leq (.t 6) (.v (.sc (.int .u8 122))))⟩, ⟨(some 8), none, (.pick (.t 5) (.t 7) (.v (.sc (.bool false))))⟩, ⟨(some 9), none, (.mov (.t 8))⟩, ⟨(some 10), (some (9, false)), (.mov (.t 0))⟩, ⟨(some 11), (some (9, false)), (.bin false .geq (.t 10) (.v (.sc (.int .u8 65))))⟩, ⟨(some 12), (some (9, false)), (.mov (.t 11))⟩, ⟨(some 13), (some (12, true)), (.mov (.t 0))⟩, ⟨(some 14), (some (12, true)), (.bin false .leq (.t 13) (.v (.sc (.int .u8 90))))⟩, ⟨(some 15), (some (9, false)), (.pick (.t 12) (.t 14) (.v (.sc (.bool false))))⟩, ⟨(some 16), none, (.pick (.t 9) (.v (.sc (.bool true))) (.t 15))⟩, ⟨(some 17), none, (.mov (.t 16))⟩, ⟨(some 18), (some (17, false)), (.mov (.t 0))⟩, ⟨(some 19), (some (17, false)), (.bin false .eql (.t 18) (.v (.sc (.int .u8 95))))⟩, ⟨(some 20), none, (.pick (.t 17) (.v (.sc (.bool true))) (.t 19))⟩, ⟨(some 2), none, (.mov (.t 20))⟩] 19 none) .ret)), [(.t 2)]⟩
theorem k87_eq : (Tryd.prog.funcs[87]?).bind (cmpF Tryd.prog hmS glS 0) = some k87 := by kernel_rfl
def k88 : KF := ⟨(.seq (.reg [⟨(some 2), none, (.mov (.v (.sc (.bool false))))⟩] 1 none) (.seq (.reg [⟨(some 3), none, (.mov (.t 0))⟩, ⟨(some 4), none, (.bin false .geq (.t 3) (.v (.sc (.int .u8 48))))⟩, ⟨(some 5), none, (.mov (.t 4))⟩, ⟨(some 6), (some (5, true)), (.mov (.t 0))⟩, ⟨(some 7), (some (5, true)), (.bin false .leq (.t 6) (.v (.sc (.int .u8 57))))⟩, ⟨(some 8), none, (.pick (.t 5) (.t 7) (.v (.sc (.bool false))))⟩, ⟨(some 2), none, (.mov (.t 8))⟩] 7 none) .ret)), [(.t 2)]⟩
theorem k88_eq : (Tryd.prog.funcs[88]?).bind (cmpF Tryd.prog hmS glS 0) = some k88 := by kernel_rfl
def k89_l0 : Y := (.seq (.seq (.reg [⟨(some 12), none, (.fa 0 (.t 2))⟩, ⟨(some 13), none, (.ld none (.t 12))⟩, ⟨(some 14), none, (.bin false .lss (.t 13) (.v (.sc (.int .i64 2199))))⟩, ⟨(some 15), none, (.mov (.t 14))⟩, ⟨(some 16), (some (15, true)), (.fa 0 (.t 2))⟩, ⟨(some 17), (some (15, true)), (.ld none (.t 16))⟩, ⟨(some 18), (some (15, true)), (.bin false .add (.t 17) (.v (.sc (.int .i64 1))))⟩, ⟨(some 19), (some (15, true)), (.pl 100 [(.t 18)])⟩, ⟨(some 20), (some (15, true)), (.mov (.t 0))⟩, ⟨(some 21), (some (15, true)), (.bin false .leq (.t 19) (.t 20))⟩, ⟨(some 22), none, (.pick (.t 15) (.t 21) (.v (.sc (.bool false))))⟩] 11 none) (.cond (.t 22) .skip (.«exit» 0))) (.block 1 (.reg [⟨(some 23), none, (.fa 0 (.t 2))⟩, ⟨(some 24), none, (.ld none (.t 23))⟩, ⟨(some 25), none, (.bin false .add (.t 24) (.v (.sc (.int .i64 1))))⟩, ⟨(some 26), none, (.fa 0 (.t 2))⟩, ⟨none, none, (.sto 1 (.t 26) (.t 25))⟩] 5 none)))
def k89_l1 : Y := (.seq (.seq (.reg [⟨(some 33), none, (.mov (.t 0))⟩, ⟨(some 34), none, (.fa 0 (.t 2))⟩, ⟨(some 35), none, (.ld none (.t 34))⟩, ⟨(some 36), none, (.fa 1 (.t 2))⟩, ⟨(some 37), none, (.ld none (.t 36))⟩, ⟨(some 38), none, (.pl 101 [(.t 35), (.t 37)])⟩, ⟨(some 39), none, (.bin false .geq (.t 33) (.t 38))⟩] 7 none) (.cond (.t 39) .skip (.«exit» 2))) (.block 3 (.seq (.reg [⟨(some 40), none, (.mov (.t 0))⟩, ⟨(some 41), none, (.fa 0 (.t 2))⟩, ⟨(some 42), none, (.ld none (.t 41))⟩, ⟨(some 43), none, (.fa 1 (.t 2))⟩, ⟨(some 44), none, (.ld none (.t 43))⟩, ⟨(some 45), none, (.pl 101 [(.t 42), (.t 44)])⟩, ⟨(some 46), none, (.bin false .sub (.t 40) (.t 45))⟩, ⟨(some 0), none, (.mov (.t 46))⟩] 8 none) (.reg [⟨(some 47), none, (.fa 1 (.t 2))⟩, ⟨(some 48), none, (.ld none (.t 47))⟩, ⟨(some 49), none, (.bin false .add (.t 48) (.v (.sc (.int .i64 1))))⟩, ⟨(some 50), none, (.fa 1 (.t 2))⟩, ⟨none, none, (.sto 1 (.t 50) (.t 49))⟩] 5 none))))
def k89_t0 : Y := (.seq (.reg [⟨(some 51), none, (.mov (.t 0))⟩, ⟨(some 52), none, (.bin false .add (.t 51) (.v (.sc (.int .i64 1))))⟩, ⟨(some 53), none, (.fa 2 (.t 2))⟩, ⟨none, none, (.sto 1 (.t 53) (.t 52))⟩] 4 none) (.seq (.reg [⟨(some 54), none, (.ld (some 3) (.t 2))⟩, ⟨none, none, (.sto 3 (.t 2) (.t 54))⟩, ⟨(some 3), none, (.mov (.v (.sc (.int .i64 0))))⟩] 3 none) .ret))
def k89_t1 : Y := (.seq (.reg [⟨(some 27), none, (.mov (.t 0))⟩, ⟨(some 28), none, (.fa 0 (.t 2))⟩, ⟨(some 29), none, (.ld none (.t 28))⟩, ⟨(some 30), none, (.pl 100 [(.t 29)])⟩, ⟨(some 31), none, (.bin false .sub (.t 27) (.t 30))⟩, ⟨(some 0), none, (.mov (.t 31))⟩] 6 none) (.seq (.reg [⟨(some 32), none, (.fa 1 (.t 2))⟩, ⟨none, none, (.sto 1 (.t 32) (.v (.sc (.int .i64 1))))⟩] 2 none) (.seq (.block 2 (.loop k89_l1)) k89_t0)))
def k89 : KF := ⟨(.seq (.reg [⟨(some 2), none, (.new [(.sc (.int .i64 0)), (.sc (.int .i64 0)), (.sc (.int .i64 0))])⟩, ⟨(some 3), none, (.mov (.v (.sc (.int .i64 0))))⟩] 2 none) (.seq (.seq (.reg [⟨(some 4), none, (.mov (.t 0))⟩, ⟨(some 5), none, (.pl 99 [(.t 4)])⟩, ⟨(some 6), none, (.un .not (.t 5))⟩] 3 none) (.cond (.t 6) (.seq (.reg [⟨(some 7), none, (.build [(0, 1), (1, 1), (2, 1)] [(.sc (.int .i64 0)), (.sc (.int .i64 0)), (.sc (.int .i64 0))] [])⟩, ⟨none, none, (.sto 3 (.t 2) (.t 7))⟩, ⟨(some 3), none, (.mov (.v (.sc (.int .i64 11))))⟩] 3 none) .ret) .skip)) (.seq (.reg [⟨(some 8), none, (.mov (.t 0))⟩, ⟨(some 9), none, (.bin false .quo (.t 8) (.v (.sc (.int .i64 366))))⟩, ⟨(some 10), none, (.bin false .add (.v (.sc (.int .i64 1900))) (.t 9))⟩, ⟨(some 11), none, (.fa 0 (.t 2))⟩, ⟨none, none, (.sto 1 (.t 11) (.t 10))⟩] 5 none) (.seq (.block 0 (.loop k89_l0)) k89_t1)))), [(.c 2 (some 3)), (.t 3)]⟩
theorem k89_eq : (Tryd.prog.funcs[89]?).bind (cmpF Tryd.prog hmS glS 0) = some k89 := by kernel_rfl
def k90 : KF := ⟨(.seq (.reg [⟨(some 2), none, (.mov (.v (.sc (.bool false))))⟩] 1 none) (.seq (.reg [⟨(some 3), none, (.mov (.t 0))⟩, ⟨(some 4), none, (.bin false .geq (.t 3) (.v (.sc (.int .u8 32))))⟩, ⟨(some 5), none, (.mov (.t 4))⟩, ⟨(some 6), (some (5, true)), (.mov (.t 0))⟩, ⟨(some 7), (some (5, true)), (.bin false .leq (.t 6) (.v (.sc (.int .u8 126))))⟩, ⟨(some 8), none, (.pick (.t 5) (.t 7) (.v (.sc (.bool false))))⟩, ⟨(some 2), none, (.mov (.t 8))⟩] 7 none) .ret)), [(.t 2)]⟩
theorem k90_eq : (Tryd.prog.funcs[90]?).bind (cmpF Tryd.prog hmS glS 0) = some k90 := by kernel_rfl
def k91 : KF := ⟨(.seq (.reg [⟨(some 1), none, (.box (.t 0))⟩, ⟨(some 2), none, (.mov (.v (.sc (.bool false))))⟩] 2 none) (.seq (.reg [⟨(some 3), none, (.fa 0 (.t 1))⟩, ⟨(some 4), none, (.ld none (.t 3))⟩, ⟨(some 5), none, (.pl 66 [(.t 4)])⟩, ⟨(some 6), none, (.mov (.t 5))⟩, ⟨(some 7), (some (6, true)), (.fa 1 (.t 1))⟩, ⟨(some 8), (some (6, true)), (.ld none (.t 7))⟩, ⟨(some 9), (some (6, true)), (.pl 66 [(.t 8)])⟩, ⟨(some 10), none, (.pick (.t 6) (.t 9) (.v (.sc (.bool false))))⟩, ⟨(some 2), none, (.mov (.t 10))⟩] 9 none) .ret)), [(.t 2)]⟩
theorem k91_eq : (Tryd.prog.funcs[91]?).bind (cmpF Tryd.prog hmS glS 0) = some k91 := by kernel_rfl
def k92 : KF := ⟨(.seq (.reg [⟨(some 3), none, (.box (.t 1))⟩] 1 none) (.seq (.reg [⟨(some 4), none, (.mov (.t 0))⟩, ⟨(some 5), none, (.mov (.t 0))⟩, ⟨(some 6), none, (.nilc (.t 5))⟩, ⟨(some 7), none, (.fa 0 (.t 6))⟩, ⟨(some 8), none, (.ld none (.t 7))⟩, ⟨(some 9), none, (.fa 2 (.t 3))⟩, ⟨(some 10), none, (.ld none (.t 9))⟩, ⟨(some 11), none, (.mk 3 1 [(.t 10)])⟩, ⟨(some 12), none, (.app 3 8 true (.t 8) (.t 11))⟩, ⟨(some 13), none, (.nilc (.t 4))⟩, ⟨(some 14), none, (.fa 0 (.t 13))⟩, ⟨none, none, (.sto 1 (.t 14) (.t 12))⟩] 12 (some [0, 0, 2, 6, 14, 0, 32, 96, 254, 511, 1023, 2047])) (.reg [⟨(some 15), none, (.mov (.t 0))⟩, ⟨(some 16), none, (.mov (.t 0))⟩, ⟨(some 17), none, (.nilc (.t 16))⟩, ⟨(some 18), none, (.fa 1 (.t 17))⟩, ⟨(some 19), none, (.ld none (.t 18))⟩, ⟨(some 20), none, (.fa 3 (.t 3))⟩, ⟨(some 21), none, (.ld none (.t 20))⟩, ⟨(some 22), none, (.mk 3 1 [(.t 21)])⟩, ⟨(some 23), none, (.app 3 8 true (.t 19) (.t 22))⟩, ⟨(some 24), none, (.nilc (.t 15))⟩, ⟨(some 25), none, (.fa 1 (.t 24))⟩, ⟨none, none, (.sto 1 (.t 25) (.t 23))⟩] 12 (some [0, 0, 2, 6, 14, 0, 32, 96, 254, 511, 1023, 2047])))), []⟩
theorem k92_eq : (Tryd.prog.funcs[92]?).bind (cmpF Tryd.prog hmS glS 0) = some k92 := by kernel_rfl
def k93 : KF := ⟨(.seq (.reg [⟨(some 4), none, (.mov (.v (.sc (.int .i64 0))))⟩, ⟨(some 5), none, (.mov (.v (.sc (.int .i64 0))))⟩] 2 none) (.seq (.reg [⟨(some 9), none, (.mov (.t 1))⟩, ⟨(some 10), none, (.pl 102 [(.t 9)])⟩, ⟨(some 8), none, (.mov (.t 10))⟩, ⟨(some 11), none, (.ext (.t 8) 0)⟩, ⟨(some 12), none, (.ext (.t 8) 1)⟩, ⟨(some 6), none, (.mov (.t 11))⟩, ⟨(some 7), none, (.mov (.t 12))⟩] 7 none) (.seq (.seq (.reg [⟨(some 13), none, (.mov (.t 7))⟩, ⟨(some 14), none, (.un .not (.t 13))⟩, ⟨(some 15), none, (.mov (.t 14))⟩, ⟨(some 16), (some (15, false)), (.mov (.t 6))⟩, ⟨(some 17), (some (15, false)), (.mov (.t 0))⟩, ⟨(some 18), (some (15, false)), (.pl 71 [(.t 16), (.t 17)])⟩, ⟨(some 19), (some (15, false)), (.un .not (.t 18))⟩, ⟨(some 20), none, (.pick (.t 15) (.v (.sc (.bool true))) (.t 19))⟩] 8 none) (.cond (.t 20) (.seq (.reg [⟨(some 4), none, (.mov (.v (.sc (.int .i64 0))))⟩, ⟨(some 5), none, (.mov (.v (.sc (.int .i64 4))))⟩] 2 none) .ret) .skip)) (.seq (.reg [⟨(some 21), none, (.mov (.t 6))⟩, ⟨(some 4), none, (.mov (.t 21))⟩, ⟨(some 5), none, (.mov (.v (.sc (.int .i64 0))))⟩] 3 none) .ret)))), [(.t 4), (.t 5)]⟩
theorem k93_eq : (Tryd.prog.funcs[93]?).bind (cmpF Tryd.prog hmS glS 0) = some k93 := by kernel_rfl
def k94 : KF := ⟨(.seq (.reg [⟨(some 2), none, (.box (.t 0))⟩, ⟨(some 3), none, (.box (.t 1))⟩, ⟨(some 4), none, (.mov (.v (.sc (.bool false))))⟩] 3 none) (.seq (.reg [⟨(some 5), none, (.fa 0 (.t 2))⟩, ⟨(some 6), none, (.ld none (.t 5))⟩, ⟨(some 7), none, (.fa 0 (.t 3))⟩, ⟨(some 8), none, (.ld none (.t 7))⟩, ⟨(some 9), none, (.bin false .eql (.t 6) (.t 8))⟩, ⟨(some 10), none, (.mov (.t 9))⟩, ⟨(some 11), (some (10, true)), (.fa 1 (.t 2))⟩, ⟨(some 12), (some (10, true)), (.ld none (.t 11))⟩, ⟨(some 13), (some (10, true)), (.fa 1 (.t 3))⟩, ⟨(some 14), (some (10, true)), (.ld none (.t 13))⟩, ⟨(some 15), (some (10, true)), (.bin false .eql (.t 12) (.t 14))⟩, ⟨(some 16), none, (.pick (.t 10) (.t 15) (.v (.sc (.bool false))))⟩, ⟨(some 17), none, (.mov (.t 16))⟩, ⟨(some 18), (some (17, true)), (.fa 4 (.t 2))⟩, ⟨(some 19), (some (17, true)), (.ld none (.t 18))⟩, ⟨(some 20), (some (17, true)), (.fa 4 (.t 3))⟩, ⟨(some 21), (some (17, true)), (.ld none (.t 20))⟩, ⟨(some 22), (some (17, true)), (.bin false .eql (.t 19) (.t 21))⟩, ⟨(some 23), none, (.pick (.t 17) (.t 22) (.v (.sc (.bool false))))⟩, ⟨(some 24), none, (.mov (.t 23))⟩, ⟨(some 25), (some (24, true)), (.fa 5 (.t 2))⟩, ⟨(some 26), (some (24, true)), (.ld none (.t 25))⟩, ⟨(some 27), (some (24, true)), (.fa 5 (.t 3))⟩, ⟨(some 28), (some (24, true)), (.ld none (.t 27))⟩, ⟨(some 29), (some (24, true)), (.bin false .eql (.t 26) (.t 28))⟩, ⟨(some 30), none, (.pick (.t 24) (.t 29) (.v (.sc (.bool false))))⟩, ⟨(some 31), none, (.mov (.t 30))⟩, ⟨(some 32), (some (31, true)), (.fa 6 (.t 2))⟩, ⟨(some 33), (some (31, true)), (.ld none (.t 32))⟩, ⟨(some 34), (some (31, true)), (.fa 6 (.t 3))⟩, ⟨(some 35), (some (31, true)), (.ld none (.t 34))⟩, ⟨(some 36), (some (31, true)), (.pl 103 [(.t 33), (.t 35)])⟩, ⟨(some 37), none, (.pick (.t 31) (.t 36) (.v (.sc (.bool false))))⟩, ⟨(some 4), none, (.mov (.t 37))⟩] 34 none) .ret)), [(.t 4)]⟩
theorem k94_eq : (Tryd.prog.funcs[94]?).bind (cmpF Tryd.prog hmS glS 0) = some k94 := by kernel_rfl
def k95 : KF := ⟨(.seq (.reg [⟨(some 2), none, (.mov (.v (.sc (.int .i64 0))))⟩] 1 none) (.seq (.reg [⟨(some 7), none, (.mov (.t 0))⟩, ⟨(some 8), none, (.nilc (.t 7))⟩, ⟨(some 9), none, (.fa 0 (.t 8))⟩, ⟨(some 10), none, (.ld none (.t 9))⟩, ⟨(some 11), none, (.mov (.t 0))⟩, ⟨(some 12), none, (.nilc (.t 11))⟩, ⟨(some 13), none, (.fa 1 (.t 12))⟩, ⟨(some 14), none, (.ld none (.t 13))⟩, ⟨(some 15), none, (.sll 5 (.t 10) (some (.t 14)) none)⟩, ⟨(some 16), none, (.pl 104 [(.t 15)])⟩, ⟨(some 6), none, (.mov (.t 16))⟩, ⟨(some 17), none, (.ext (.t 6) 0)⟩, ⟨(some 18), none, (.ext (.t 6) 1)⟩, ⟨(some 19), none, (.ext (.t 6) 2)⟩, ⟨(some 3), none, (.mov (.t 17))⟩, ⟨(some 4), none, (.mov (.t 18))⟩, ⟨(some 5), none, (.mov (.t 19))⟩] 17 (some [0, 1, 3, 7, 0, 16, 48, 112, 255, 511, 1023, 2047, 2047, 2047, 4095, 24575, 65535])) (.seq (.reg [⟨(some 20), none, (.mov (.t 0))⟩, ⟨(some 21), none, (.mov (.t 4))⟩, ⟨(some 22), none, (.mov (.t 5))⟩, ⟨(some 23), none, (.hp 84 [(.t 20), (.t 21), (.t 22)])⟩] 4 none) (.seq (.reg [⟨(some 24), none, (.mov (.t 3))⟩, ⟨(some 2), none, (.mov (.t 24))⟩] 2 none) .ret)))), [(.t 2)]⟩
theorem k95_eq : (Tryd.prog.funcs[95]?).bind (cmpF Tryd.prog hmS glS 0) = some k95 := by kernel_rfl
def k96 : KF := ⟨(.seq (.reg [⟨(some 2), none, (.mov (.v (.sc (.string (ByteArray.mk #[])))))⟩] 1 none) (.seq (.reg [⟨(some 7), none, (.mov (.t 0))⟩, ⟨(some 8), none, (.nilc (.t 7))⟩, ⟨(some 9), none, (.fa 0 (.t 8))⟩, ⟨(some 10), none, (.ld none (.t 9))⟩, ⟨(some 11), none, (.mov (.t 0))⟩, ⟨(some 12), none, (.nilc (.t 11))⟩, ⟨(some 13), none, (.fa 1 (.t 12))⟩, ⟨(some 14), none, (.ld none (.t 13))⟩, ⟨(some 15), none, (.sll 5 (.t 10) (some (.t 14)) none)⟩, ⟨(some 16), none, (.pl 105 [(.t 15)])⟩, ⟨(some 6), none, (.mov (.t 16))⟩, ⟨(some 17), none, (.ext (.t 6) 0)⟩, ⟨(some 18), none, (.ext (.t 6) 1)⟩, ⟨(some 19), none, (.ext (.t 6) 2)⟩, ⟨(some 3), none, (.mov (.t 17))⟩, ⟨(some 4), none, (.mov (.t 18))⟩, ⟨(some 5), none, (.mov (.t 19))⟩] 17 (some [0, 1, 3, 7, 0, 16, 48, 112, 255, 511, 1023, 2047, 2047, 2047, 4095, 24575, 65535])) (.seq (.reg [⟨(some 20), none, (.mov (.t 0))⟩, ⟨(some 21), none, (.mov (.t 4))⟩, ⟨(some 22), none, (.mov (.t 5))⟩, ⟨(some 23), none, (.hp 84 [(.t 20), (.t 21), (.t 22)])⟩] 4 none) (.seq (.reg [⟨(some 24), none, (.mov (.t 3))⟩, ⟨(some 2), none, (.mov (.t 24))⟩] 2 none) .ret)))), [(.t 2)]⟩
theorem k96_eq : (Tryd.prog.funcs[96]?).bind (cmpF Tryd.prog hmS glS 0) = some k96 := by kernel_rfl
def k97 : KF := ⟨(.seq (.reg [⟨(some 4), none, (.mov (.v (.sc (.int .i64 0))))⟩] 1 none) (.seq (.reg [⟨(some 6), none, (.mov (.t 0))⟩, ⟨(some 7), none, (.hp 95 [(.t 6)])⟩, ⟨(some 5), none, (.mov (.t 7))⟩] 3 none) (.seq (.seq (.reg [⟨(some 8), none, (.mov (.t 5))⟩, ⟨(some 9), none, (.bin false .lss (.t 8) (.v (.sc (.int .i64 0))))⟩, ⟨(some 10), none, (.mov (.t 9))⟩, ⟨(some 11), (some (10, false)), (.mov (.t 5))⟩, ⟨(some 12), (some (10, false)), (.mov (.t 1))⟩, ⟨(some 13), (some (10, false)), (.bin false .gtr (.t 11) (.t 12))⟩, ⟨(some 14), none, (.pick (.t 10) (.v (.sc (.bool true))) (.t 13))⟩] 7 none) (.cond (.t 14) (.reg [⟨(some 15), none, (.mov (.t 0))⟩, ⟨(some 16), none, (.hp 84 [(.t 15), (.v (.sc (.int .i64 0))), (.v (.sc (.int .i64 9)))])⟩] 2 none) .skip)) (.seq (.reg [⟨(some 17), none, (.mov (.t 5))⟩, ⟨(some 4), none, (.mov (.t 17))⟩] 2 none) .ret)))), [(.t 4)]⟩
theorem k97_eq : (Tryd.prog.funcs[97]?).bind (cmpF Tryd.prog hmS glS 0) = some k97 := by kernel_rfl
def k98_l0 : Y := (.seq (.reg [⟨(some 31), none, (.bin false .lss (.t 30) (.t 29))⟩] 1 none) (.seq (.cond (.t 31) .skip (.«exit» 0)) (.seq (.block 1 (.seq (.reg [⟨(some 5), none, (.new [(.sc (.string (ByteArray.mk #[]))), (.sc (.string (ByteArray.mk #[])))])⟩] 1 none) (.seq (.reg [⟨(some 32), none, (.mov (.t 4))⟩, ⟨(some 33), none, (.dyn (.t 32) [])⟩, ⟨(some 34), none, (.mov (.t 4))⟩, ⟨(some 35), none, (.dyn (.t 34) [])⟩, ⟨(some 36), none, (.fa 0 (.t 5))⟩, ⟨none, none, (.sto 1 (.t 36) (.t 33))⟩, ⟨(some 37), none, (.fa 1 (.t 5))⟩, ⟨none, none, (.sto 1 (.t 37) (.t 35))⟩] 8 none) (.reg [⟨(some 38), none, (.fa 6 (.t 2))⟩, ⟨(some 39), none, (.ld none (.t 38))⟩, ⟨(some 40), none, (.ld (some 2) (.t 5))⟩, ⟨(some 41), none, (.mk 97 2 [(.t 40)])⟩, ⟨(some 42), none, (.app 97 32 true (.t 39) (.t 41))⟩, ⟨(some 43), none, (.fa 6 (.t 2))⟩, ⟨none, none, (.sto 1 (.t 43) (.t 42))⟩] 7 none)))) (.reg [⟨(some 44), none, (.bin false .add (.t 30) (.v (.sc (.int .i64 1))))⟩, ⟨(some 30), none, (.mov (.t 44))⟩] 2 none))))
def k98_t0 : Y := (.seq (.reg [⟨(some 45), none, (.ld (some 7) (.t 2))⟩, ⟨none, none, (.sto 7 (.t 2) (.t 45))⟩] 2 none) .ret)
def k98 : KF := ⟨(.seq (.reg [⟨(some 2), none, (.new [(.sc (.string (ByteArray.mk #[]))), (.sc (.string (ByteArray.mk #[]))), (.sc (.int .i64 0)), (.sc (.int .i64 0)), (.sc (.string (ByteArray.mk #[]))), (.sc (.string (ByteArray.mk #[]))), (.list 0 [] 1)])⟩] 1 none) (.seq (.reg [⟨(some 6), none, (.mov (.t 0))⟩, ⟨(some 7), none, (.mkf (.func 95) [(.t 6)] [])⟩, ⟨(some 8), none, (.mov (.t 0))⟩, ⟨(some 9), none, (.mkf (.func 96) [(.t 8)] [])⟩, ⟨(some 3), none, (.mov (.t 7))⟩, ⟨(some 4), none, (.mov (.t 9))⟩] 6 none) (.seq (.reg [⟨(some 10), none, (.mov (.t 4))⟩, ⟨(some 11), none, (.dyn (.t 10) [])⟩, ⟨(some 12), none, (.mov (.t 4))⟩, ⟨(some 13), none, (.dyn (.t 12) [])⟩, ⟨(some 14), none, (.fa 0 (.t 2))⟩, ⟨none, none, (.sto 1 (.t 14) (.t 11))⟩, ⟨(some 15), none, (.fa 1 (.t 2))⟩, ⟨none, none, (.sto 1 (.t 15) (.t 13))⟩] 8 none) (.seq (.reg [⟨(some 16), none, (.mov (.t 3))⟩, ⟨(some 17), none, (.dyn (.t 16) [])⟩, ⟨(some 18), none, (.mov (.t 3))⟩, ⟨(some 19), none, (.dyn (.t 18) [])⟩, ⟨(some 20), none, (.fa 2 (.t 2))⟩, ⟨none, none, (.sto 1 (.t 20) (.t 17))⟩, ⟨(some 21), none, (.fa 3 (.t 2))⟩, ⟨none, none, (.sto 1 (.t 21) (.t 19))⟩] 8 none) (.seq (.reg [⟨(some 22), none, (.mov (.t 4))⟩, ⟨(some 23), none, (.dyn (.t 22) [])⟩, ⟨(some 24), none, (.mov (.t 4))⟩, ⟨(some 25), none, (.dyn (.t 24) [])⟩, ⟨(some 26), none, (.fa 4 (.t 2))⟩, ⟨none, none, (.sto 1 (.t 26) (.t 23))⟩, ⟨(some 27), none, (.fa 5 (.t 2))⟩, ⟨none, none, (.sto 1 (.t 27) (.t 25))⟩] 8 none) (.seq (.seq (.reg [⟨(some 28), none, (.mov (.t 0))⟩, ⟨(some 29), none, (.hp 97 [(.t 28), (.v (.sc (.int .i64 6)))])⟩, ⟨(some 30), none, (.mov (.v (.sc (.int .i64 0))))⟩] 3 none) (.block 0 (.loop k98_l0))) k98_t0)))))), [(.c 2 (some 7))]⟩
theorem k98_eq : (Tryd.prog.funcs[98]?).bind (cmpF Tryd.prog hmS glS 0) = some k98 := by kernel_rfl
def k99 : KF := ⟨(.seq (.reg [⟨(some 2), none, (.mov (.v (.sc (.bool false))))⟩] 1 none) (.seq (.reg [⟨(some 3), none, (.mov (.t 0))⟩, ⟨(some 4), none, (.bin false .geq (.t 3) (.v (.sc (.int .i64 0))))⟩, ⟨(some 5), none, (.mov (.t 4))⟩, ⟨(some 6), (some (5, true)), (.mov (.t 0))⟩, ⟨(some 7), (some (5, true)), (.bin false .leq (.t 6) (.v (.sc (.int .i64 109572))))⟩, ⟨(some 8), none, (.pick (.t 5) (.t 7) (.v (.sc (.bool false))))⟩, ⟨(some 2), none, (.mov (.t 8))⟩] 7 none) .ret)), [(.t 2)]⟩
theorem k99_eq : (Tryd.prog.funcs[99]?).bind (cmpF Tryd.prog hmS glS 0) = some k99 := by kernel_rfl
def k100 : KF := ⟨(.seq (.reg [⟨(some 2), none, (.mov (.v (.sc (.int .i64 0))))⟩] 1 none) (.seq (.reg [⟨(some 5), none, (.mov (.t 0))⟩, ⟨(some 6), none, (.bin false .sub (.t 5) (.v (.sc (.int .i64 1))))⟩, ⟨(some 3), none, (.mov (.t 6))⟩] 3 none) (.seq (.reg [⟨(some 7), none, (.mov (.t 3))⟩, ⟨(some 8), none, (.bin false .quo (.t 7) (.v (.sc (.int .i64 4))))⟩, ⟨(some 9), none, (.mov (.t 3))⟩, ⟨(some 10), none, (.bin false .quo (.t 9) (.v (.sc (.int .i64 100))))⟩, ⟨(some 11), none, (.bin false .sub (.t 8) (.t 10))⟩, ⟨(some 12), none, (.mov (.t 3))⟩, ⟨(some 13), none, (.bin false .quo (.t 12) (.v (.sc (.int .i64 400))))⟩, ⟨(some 14), none, (.bin false .add (.t 11) (.t 13))⟩, ⟨(some 15), none, (.bin false .sub (.t 14) (.v (.sc (.int .i64 474))))⟩, ⟨(some 16), none, (.bin false .add (.t 15) (.v (.sc (.int .i64 18))))⟩, ⟨(some 17), none, (.bin false .sub (.t 16) (.v (.sc (.int .i64 4))))⟩, ⟨(some 4), none, (.mov (.t 17))⟩] 12 none) (.seq (.reg [⟨(some 18), none, (.mov (.t 0))⟩, ⟨(some 19), none, (.bin false .sub (.t 18) (.v (.sc (.int .i64 1900))))⟩, ⟨(some 20), none, (.bin false .mul (.v (.sc (.int .i64 365))) (.t 19))⟩, ⟨(some 21), none, (.mov (.t 4))⟩, ⟨(some 22), none, (.bin false .add (.t 20) (.t 21))⟩, ⟨(some 2), none, (.mov (.t 22))⟩] 6 none) .ret)))), [(.t 2)]⟩
theorem k100_eq : (Tryd.prog.funcs[100]?).bind (cmpF Tryd.prog hmS glS 0) = some k100 := by kernel_rfl
def k101 : KF := ⟨(.seq (.reg [⟨(some 4), none, (.mov (.v (.sc (.int .i64 0))))⟩] 1 none) (.seq (.block 0 (.seq (.reg [⟨(some 6), none, (.mov (.t 1))⟩, ⟨(some 7), none, (.bin false .lss (.t 6) (.v (.sc (.int .i64 1))))⟩, ⟨(some 8), none, (.mov (.t 7))⟩, ⟨(some 9), (some (8, false)), (.mov (.t 1))⟩, ⟨(some 10), (some (8, false)), (.bin false .gtr (.t 9) (.v (.sc (.int .i64 12))))⟩, ⟨(some 11), none, (.pick (.t 8) (.v (.sc (.bool true))) (.t 10))⟩, ⟨(some 5), none, (.mov (.t 11))⟩] 7 none) (.cond (.t 5) (.seq (.reg [⟨(some 4), none, (.mov (.v (.sc (.int .i64 0))))⟩] 1 none) .ret) (.seq (.reg [⟨(some 13), none, (.mov (.t 1))⟩, ⟨(some 14), none, (.bin false .eql (.t 13) (.v (.sc (.int .i64 2))))⟩, ⟨(some 15), none, (.mov (.t 14))⟩, ⟨(some 16), (some (15, true)), (.mov (.t 0))⟩, ⟨(some 17), (some (15, true)), (.pl 106 [(.t 16)])⟩, ⟨(some 18), none, (.pick (.t 15) (.t 17) (.v (.sc (.bool false))))⟩, ⟨(some 12), none, (.mov (.t 18))⟩] 7 none) (.cond (.t 12) (.seq (.reg [⟨(some 4), none, (.mov (.v (.sc (.int .i64 29))))⟩] 1 none) .ret) .skip))))) (.seq (.reg [⟨(some 19), none, (.mov (.t 1))⟩, ⟨(some 20), none, (.bin false .sub (.t 19) (.v (.sc (.int .i64 1))))⟩, ⟨(some 21), none, (.ixa 12 1 (.v (.cp [(.sc (.int .i64 31)), (.sc (.int .i64 28)), (.sc (.int .i64 31)), (.sc (.int .i64 30)), (.sc (.int .i64 31)), (.sc (.int .i64 30)), (.sc (.int .i64 31)), (.sc (.int .i64 31)), (.sc (.int .i64 30)), (.sc (.int .i64 31)), (.sc (.int .i64 30)), (.sc (.int .i64 31))])) (.t 20))⟩, ⟨(some 22), none, (.ld none (.t 21))⟩, ⟨(some 4), none, (.mov (.t 22))⟩] 5 none) .ret))), [(.t 4)]⟩
theorem k101_eq : (Tryd.prog.funcs[101]?).bind (cmpF Tryd.prog hmS glS 0) = some k101 := by kernel_rfl
def k102_l0 : Y := (.seq (.reg [⟨(some 12), none, (.bin false .lss (.t 11) (.t 10))⟩] 1 none) (.seq (.cond (.t 12) .skip (.«exit» 0)) (.seq (.block 1 (.seq (.reg [⟨(some 13), none, (.ixl 3 (.t 9) (.t 11))⟩, ⟨(some 14), none, (.ld none (.t 13))⟩, ⟨(some 7), none, (.mov (.t 14))⟩] 3 none) (.seq (.reg [⟨(some 8), none, (.mov (.v (.sc (.int .u64 0))))⟩] 1 none) (.seq (.reg [⟨(some 16), none, (.mov (.t 5))⟩, ⟨(some 17), none, (.mov (.t 7))⟩, ⟨(some 18), none, (.i2i .u64 (.t 17))⟩, ⟨(some 19), none, (.no 107 [(.t 16), (.t 18), (.v (.sc (.int .u64 0)))])⟩, ⟨(some 15), none, (.mov (.t 19))⟩, ⟨(some 20), none, (.ext (.t 15) 0)⟩, ⟨(some 21), none, (.ext (.t 15) 1)⟩, ⟨(some 5), none, (.mov (.t 20))⟩, ⟨(some 8), none, (.mov (.t 21))⟩] 9 none) (.reg [⟨(some 23), none, (.mov (.t 4))⟩, ⟨(some 24), none, (.mov (.t 7))⟩, ⟨(some 25), none, (.bin false .shr (.t 24) (.v (.sc (.int .u64 63))))⟩, ⟨(some 26), none, (.i2i .u64 (.t 25))⟩, ⟨(some 27), none, (.mov (.t 8))⟩, ⟨(some 28), none, (.no 107 [(.t 23), (.t 26), (.t 27)])⟩, ⟨(some 22), none, (.mov (.t 28))⟩, ⟨(some 29), none, (.ext (.t 22) 0)⟩, ⟨(some 30), none, (.ext (.t 22) 1)⟩, ⟨(some 4), none, (.mov (.t 29))⟩] 10 none))))) (.reg [⟨(some 31), none, (.bin false .add (.t 11) (.v (.sc (.int .i64 1))))⟩, ⟨(some 11), none, (.mov (.t 31))⟩] 2 none))))
def k102_t0 : Y := (.seq (.seq (.reg [⟨(some 32), none, (.mov (.t 5))⟩, ⟨(some 33), none, (.i2i .i64 (.t 32))⟩, ⟨(some 2), none, (.mov (.t 33))⟩] 3 none) (.seq (.reg [⟨(some 34), none, (.mov (.t 2))⟩, ⟨(some 35), none, (.bin false .shr (.t 34) (.v (.sc (.int .u64 63))))⟩, ⟨(some 36), none, (.i2i .u64 (.t 35))⟩, ⟨(some 37), none, (.mov (.t 4))⟩, ⟨(some 38), none, (.bin false .neq (.t 36) (.t 37))⟩] 5 none) (.cond (.t 38) (.seq (.reg [⟨(some 2), none, (.mov (.v (.sc (.int .i64 0))))⟩, ⟨(some 3), none, (.mov (.v (.sc (.bool false))))⟩] 2 none) .ret) .skip))) (.seq (.reg [⟨(some 39), none, (.mov (.t 2))⟩, ⟨(some 2), none, (.mov (.t 39))⟩, ⟨(some 3), none, (.mov (.v (.sc (.bool true))))⟩] 3 none) .ret))
def k102 : KF := ⟨(.seq (.reg [⟨(some 2), none, (.mov (.v (.sc (.int .i64 0))))⟩, ⟨(some 3), none, (.mov (.v (.sc (.bool false))))⟩] 2 none) (.seq (.reg [⟨(some 4), none, (.mov (.v (.sc (.int .u64 0))))⟩, ⟨(some 5), none, (.mov (.v (.sc (.int .u64 0))))⟩] 2 none) (.seq (.seq (.reg [⟨(some 9), none, (.mov (.t 0))⟩, ⟨(some 10), none, (.len (.t 9))⟩, ⟨(some 11), none, (.mov (.v (.sc (.int .i64 0))))⟩] 3 none) (.block 0 (.loop k102_l0))) k102_t0))), [(.t 2), (.t 3)]⟩
theorem k102_eq : (Tryd.prog.funcs[102]?).bind (cmpF Tryd.prog hmS glS 0) = some k102 := by kernel_rfl
def k103_l0 : Y := (.seq (.seq (.reg [⟨(some 11), none, (.mov (.t 5))⟩, ⟨(some 12), none, (.mov (.t 0))⟩, ⟨(some 13), none, (.len (.t 12))⟩, ⟨(some 14), none, (.bin false .lss (.t 11) (.t 13))⟩] 4 none) (.cond (.t 14) .skip (.«exit» 0))) (.seq (.block 1 (.seq (.reg [⟨(some 17), none, (.mov (.t 0))⟩, ⟨(some 18), none, (.mov (.t 5))⟩, ⟨(some 19), none, (.ixl 97 (.t 17) (.t 18))⟩, ⟨(some 20), none, (.ld (some 2) (.t 19))⟩, ⟨(some 21), none, (.mov (.t 1))⟩, ⟨(some 22), none, (.mov (.t 5))⟩, ⟨(some 23), none, (.ixl 97 (.t 21) (.t 22))⟩, ⟨(some 24), none, (.ld (some 2) (.t 23))⟩, ⟨(some 25), none, (.eqs true [(0, 1), (1, 1)] (.t 20) (.t 24))⟩] 9 (some [0, 0, 3, 7, 0, 0, 48, 112, 255])) (.cond (.t 25) (.seq (.reg [⟨(some 4), none, (.mov (.v (.sc (.bool false))))⟩] 1 none) .ret) .skip))) (.reg [⟨(some 15), none, (.mov (.t 5))⟩, ⟨(some 16), none, (.bin false .add (.t 15) (.v (.sc (.int .i64 1))))⟩, ⟨(some 5), none, (.mov (.t 16))⟩] 3 none)))
def k103_t0 : Y := (.seq (.reg [⟨(some 4), none, (.mov (.v (.sc (.bool true))))⟩] 1 none) .ret)
def k103 : KF := ⟨(.seq (.reg [⟨(some 4), none, (.mov (.v (.sc (.bool false))))⟩] 1 none) (.seq (.seq (.reg [⟨(some 6), none, (.mov (.t 0))⟩, ⟨(some 7), none, (.len (.t 6))⟩, ⟨(some 8), none, (.mov (.t 1))⟩, ⟨(some 9), none, (.len (.t 8))⟩, ⟨(some 10), none, (.bin false .neq (.t 7) (.t 9))⟩] 5 none) (.cond (.t 10) (.seq (.reg [⟨(some 4), none, (.mov (.v (.sc (.bool false))))⟩] 1 none) .ret) .skip)) (.seq (.seq (.reg [⟨(some 5), none, (.mov (.v (.sc (.int .i64 0))))⟩] 1 none) (.block 0 (.loop k103_l0))) k103_t0))), [(.t 4)]⟩
theorem k103_eq : (Tryd.prog.funcs[103]?).bind (cmpF Tryd.prog hmS glS 0) = some k103 := by kernel_rfl
def k104_l0 : Y := (.seq (.reg [⟨(some 9), none, (.bin false .lss (.t 8) (.v (.sc (.int .i64 10))))⟩] 1 none) (.seq (.cond (.t 9) .skip (.«exit» 0)) (.seq (.block 1 (.seq (.reg [⟨(some 10), none, (.mov (.t 8))⟩, ⟨(some 6), none, (.mov (.t 10))⟩] 2 none) (.seq (.seq (.reg [⟨(some 11), none, (.mov (.t 6))⟩, ⟨(some 12), none, (.mov (.t 0))⟩, ⟨(some 13), none, (.len (.t 12))⟩, ⟨(some 14), none, (.bin false .eql (.t 11) (.t 13))⟩] 4 none) (.cond (.t 14) (.seq (.reg [⟨(some 2), none, (.mov (.v (.sc (.int .i64 0))))⟩, ⟨(some 3), none, (.mov (.v (.sc (.int .i64 0))))⟩, ⟨(some 4), none, (.mov (.v (.sc (.int .i64 6))))⟩] 3 none) .ret) .skip)) (.seq (.reg [⟨(some 15), none, (.mov (.t 0))⟩, ⟨(some 16), none, (.mov (.t 6))⟩, ⟨(some 17), none, (.ixl 5 (.t 15) (.t 16))⟩, ⟨(some 18), none, (.ld none (.t 17))⟩, ⟨(some 7), none, (.mov (.t 18))⟩] 5 none) (.seq (.seq (.reg [⟨(some 19), none, (.mov (.t 6))⟩, ⟨(some 20), none, (.bin false .eql (.t 19) (.v (.sc (.int .i64 9))))⟩, ⟨(some 21), none, (.mov (.t 20))⟩, ⟨(some 22), (some (21, true)), (.mov (.t 7))⟩, ⟨(some 23), (some (21, true)), (.bin false .gtr (.t 22) (.v (.sc (.int .u8 1))))⟩, ⟨(some 24), none, (.pick (.t 21) (.t 23) (.v (.sc (.bool false))))⟩, ⟨(some 25), none, (.mov (.t 24))⟩, ⟨(some 26), (some (25, false)), (.mov (.t 6))⟩, ⟨(some 27), (some (25, false)), (.bin false .gtr (.t 26) (.v (.sc (.int .i64 0))))⟩, ⟨(some 28), (some (25, false)), (.mov (.t 27))⟩, ⟨(some 29), (some (28, true)), (.mov (.t 7))⟩, ⟨(some 30), (some (28, true)), (.bin false .eql (.t 29) (.v (.sc (.int .u8 0))))⟩, ⟨(some 31), (some (25, false)), (.pick (.t 28) (.t 30) (.v (.sc (.bool false))))⟩, ⟨(some 32), none, (.pick (.t 25) (.v (.sc (.bool true))) (.t 31))⟩] 14 none) (.cond (.t 32) (.seq (.reg [⟨(some 2), none, (.mov (.v (.sc (.int .i64 0))))⟩, ⟨(some 3), none, (.mov (.v (.sc (.int .i64 0))))⟩, ⟨(some 4), none, (.mov (.v (.sc (.int .i64 5))))⟩] 3 none) .ret) .skip)) (.seq (.reg [⟨(some 33), none, (.mov (.t 5))⟩, ⟨(some 34), none, (.mov (.t 7))⟩, ⟨(some 35), none, (.bin false .and (.t 34) (.v (.sc (.int .u8 127))))⟩, ⟨(some 36), none, (.i2i .u64 (.t 35))⟩, ⟨(some 37), none, (.mov (.t 6))⟩, ⟨(some 38), none, (.bin false .mul (.v (.sc (.int .i64 7))) (.t 37))⟩, ⟨(some 39), none, (.bin false .shl (.t 36) (.t 38))⟩, ⟨(some 40), none, (.bin false .or (.t 33) (.t 39))⟩, ⟨(some 5), none, (.mov (.t 40))⟩] 9 none) (.seq (.reg [⟨(some 41), none, (.mov (.t 7))⟩, ⟨(some 42), none, (.bin false .lss (.t 41) (.v (.sc (.int .u8 128))))⟩] 2 none) (.cond (.t 42) (.seq (.reg [⟨(some 43), none, (.mov (.t 5))⟩, ⟨(some 44), none, (.bin false .shr (.t 43) (.v (.sc (.int .u64 1))))⟩, ⟨(some 45), none, (.i2i .i64 (.t 44))⟩, ⟨(some 46), none, (.mov (.t 5))⟩, ⟨(some 47), none, (.bin false .and (.t 46) (.v (.sc (.int .u64 1))))⟩, ⟨(some 48), none, (.i2i .i64 (.t 47))⟩, ⟨(some 49), none, (.un .neg (.t 48))⟩, ⟨(some 50), none, (.bin false .xor (.t 45) (.t 49))⟩, ⟨(some 51), none, (.mov (.t 6))⟩, ⟨(some 52), none, (.bin false .add (.t 51) (.v (.sc (.int .i64 1))))⟩, ⟨(some 2), none, (.mov (.t 50))⟩, ⟨(some 3), none, (.mov (.t 52))⟩, ⟨(some 4), none, (.mov (.v (.sc (.int .i64 0))))⟩] 13 none) .ret) .skip)))))))) (.reg [⟨(some 53), none, (.bin false .add (.t 8) (.v (.sc (.int .i64 1))))⟩, ⟨(some 8), none, (.mov (.t 53))⟩] 2 none))))
def k104_t0 : Y := (.seq (.reg [⟨(some 2), none, (.mov (.v (.sc (.int .i64 0))))⟩, ⟨(some 3), none, (.mov (.v (.sc (.int .i64 0))))⟩, ⟨(some 4), none, (.mov (.v (.sc (.int .i64 5))))⟩] 3 none) .ret)
def k104 : KF := ⟨(.seq (.reg [⟨(some 2), none, (.mov (.v (.sc (.int .i64 0))))⟩, ⟨(some 3), none, (.mov (.v (.sc (.int .i64 0))))⟩, ⟨(some 4), none, (.mov (.v (.sc (.int .i64 0))))⟩] 3 none) (.seq (.reg [⟨(some 5), none, (.mov (.v (.sc (.int .u64 0))))⟩] 1 none) (.seq (.seq (.reg [⟨(some 8), none, (.mov (.v (.sc (.int .i64 0))))⟩] 1 none) (.block 0 (.loop k104_l0))) k104_t0))), [(.t 2), (.t 3), (.t 4)]⟩
theorem k104_eq : (Tryd.prog.funcs[104]?).bind (cmpF Tryd.prog hmS glS 0) = some k104 := by kernel_rfl
def k105 : KF := ⟨(.seq (.reg [⟨(some 2), none, (.mov (.v (.sc (.string (ByteArray.mk #[])))))⟩, ⟨(some 3), none, (.mov (.v (.sc (.int .i64 0))))⟩, ⟨(some 4), none, (.mov (.v (.sc (.int .i64 0))))⟩] 3 none) (.seq (.reg [⟨(some 8), none, (.mov (.t 0))⟩, ⟨(some 9), none, (.pl 104 [(.t 8)])⟩, ⟨(some 7), none, (.mov (.t 9))⟩, ⟨(some 10), none, (.ext (.t 7) 0)⟩, ⟨(some 11), none, (.ext (.t 7) 1)⟩, ⟨(some 12), none, (.ext (.t 7) 2)⟩, ⟨(some 5), none, (.mov (.t 10))⟩, ⟨(some 6), none, (.mov (.t 11))⟩, ⟨(some 4), none, (.mov (.t 12))⟩] 9 none) (.seq (.block 0 (.seq (.reg [⟨(some 14), none, (.mov (.t 4))⟩, ⟨(some 15), none, (.bin false .neq (.t 14) (.v (.sc (.int .i64 0))))⟩, ⟨(some 13), none, (.mov (.t 15))⟩] 3 none) (.cond (.t 13) (.seq (.reg [⟨(some 16), none, (.mov (.t 4))⟩, ⟨(some 2), none, (.mov (.v (.sc (.string (ByteArray.mk #[])))))⟩, ⟨(some 3), none, (.mov (.v (.sc (.int .i64 0))))⟩, ⟨(some 4), none, (.mov (.t 16))⟩] 4 none) .ret) (.seq (.reg [⟨(some 18), none, (.mov (.t 5))⟩, ⟨(some 19), none, (.bin false .lss (.t 18) (.v (.sc (.int .i64 0))))⟩, ⟨(some 20), none, (.mov (.t 19))⟩, ⟨(some 21), (some (20, false)), (.mov (.t 5))⟩, ⟨(some 22), (some (20, false)), (.bin false .gtr (.t 21) (.v (.sc (.int .i64 60))))⟩, ⟨(some 23), none, (.pick (.t 20) (.v (.sc (.bool true))) (.t 22))⟩, ⟨(some 17), none, (.mov (.t 23))⟩] 7 none) (.cond (.t 17) (.seq (.reg [⟨(some 2), none, (.mov (.v (.sc (.string (ByteArray.mk #[])))))⟩, ⟨(some 3), none, (.mov (.v (.sc (.int .i64 0))))⟩, ⟨(some 4), none, (.mov (.v (.sc (.int .i64 9))))⟩] 3 none) .ret) (.seq (.reg [⟨(some 25), none, (.mov (.t 0))⟩, ⟨(some 26), none, (.len (.t 25))⟩, ⟨(some 27), none, (.mov (.t 6))⟩, ⟨(some 28), none, (.bin false .sub (.t 26) (.t 27))⟩, ⟨(some 29), none, (.mov (.t 5))⟩, ⟨(some 30), none, (.bin false .lss (.t 28) (.t 29))⟩, ⟨(some 24), none, (.mov (.t 30))⟩] 7 none) (.cond (.t 24) (.seq (.reg [⟨(some 2), none, (.mov (.v (.sc (.string (ByteArray.mk #[])))))⟩, ⟨(some 3), none, (.mov (.v (.sc (.int .i64 0))))⟩, ⟨(some 4), none, (.mov (.v (.sc (.int .i64 6))))⟩] 3 none) .ret) .skip))))))) (.seq (.seq (.reg [⟨(some 31), none, (.mov (.t 0))⟩, ⟨(some 32), none, (.mov (.t 6))⟩, ⟨(some 33), none, (.mov (.t 6))⟩, ⟨(some 34), none, (.mov (.t 5))⟩, ⟨(some 35), none, (.bin false .add (.t 33) (.t 34))⟩, ⟨(some 36), none, (.sll 5 (.t 31) (some (.t 32)) (some (.t 35)))⟩, ⟨(some 37), none, (.b2s 5 (.t 36))⟩, ⟨(some 2), none, (.mov (.t 37))⟩] 8 none) (.seq (.reg [⟨(some 38), none, (.mov (.t 2))⟩, ⟨(some 39), none, (.pl 68 [(.t 38)])⟩, ⟨(some 40), none, (.un .not (.t 39))⟩] 3 none) (.cond (.t 40) (.seq (.reg [⟨(some 2), none, (.mov (.v (.sc (.string (ByteArray.mk #[])))))⟩, ⟨(some 3), none, (.mov (.v (.sc (.int .i64 0))))⟩, ⟨(some 4), none, (.mov (.v (.sc (.int .i64 5))))⟩] 3 none) .ret) .skip))) (.seq (.reg [⟨(some 41), none, (.mov (.t 2))⟩, ⟨(some 42), none, (.mov (.t 6))⟩, ⟨(some 43), none, (.mov (.t 5))⟩, ⟨(some 44), none, (.bin false .add (.t 42) (.t 43))⟩, ⟨(some 2), none, (.mov (.t 41))⟩, ⟨(some 3), none, (.mov (.t 44))⟩, ⟨(some 4), none, (.mov (.v (.sc (.int .i64 0))))⟩] 7 none) .ret))))), [(.t 2), (.t 3), (.t 4)]⟩
theorem k105_eq : (Tryd.prog.funcs[105]?).bind (cmpF Tryd.prog hmS glS 0) = some k105 := by kernel_rfl
def k106 : KF := ⟨(.seq (.reg [⟨(some 2), none, (.mov (.v (.sc (.bool false))))⟩] 1 none) (.seq (.reg [⟨(some 3), none, (.mov (.t 0))⟩, ⟨(some 4), none, (.bin false .rem (.t 3) (.v (.sc (.int .i64 4))))⟩, ⟨(some 5), none, (.bin false .eql (.t 4) (.v (.sc (.int .i64 0))))⟩, ⟨(some 6), none, (.mov (.t 5))⟩, ⟨(some 7), (some (6, true)), (.mov (.t 0))⟩, ⟨(some 8), (some (6, true)), (.bin false .rem (.t 7) (.v (.sc (.int .i64 100))))⟩, ⟨(some 9), (some (6, true)), (.bin false .neq (.t 8) (.v (.sc (.int .i64 0))))⟩, ⟨(some 10), none, (.pick (.t 6) (.t 9) (.v (.sc (.bool false))))⟩, ⟨(some 11), none, (.mov (.t 10))⟩, ⟨(some 12), (some (11, false)), (.mov (.t 0))⟩, ⟨(some 13), (some (11, false)), (.bin false .rem (.t 12) (.v (.sc (.int .i64 400))))⟩, ⟨(some 14), (some (11, false)), (.bin false .eql (.t 13) (.v (.sc (.int .i64 0))))⟩, ⟨(some 15), none, (.pick (.t 11) (.v (.sc (.bool true))) (.t 14))⟩, ⟨(some 2), none, (.mov (.t 15))⟩] 14 none) .ret)), [(.t 2)]⟩
theorem k106_eq : (Tryd.prog.funcs[106]?).bind (cmpF Tryd.prog hmS glS 0) = some k106 := by kernel_rfl
end Go.Proofs.YtkbheoganajhaaaDoor.Vm
set_option maxRecDepth 10000
set_option linter.unusedVariables false
set_option linter.unusedSimpArgs false
namespace Go.Proofs.YtkbheoganajhaaaDoor.Vm
open Go Go.Proofs
abbrev u8 (b : UInt8) : V := .sc (.int .u8 b.toNat)
def isPr (b : UInt8) : Bool := decide (32 ≤ b.toNat) && decide (b.toNat ≤ 126)
def isLet (b : UInt8) : Bool := (decide (97 ≤ b.toNat) && decide (b.toNat ≤ 122)) || (decide (65 ≤ b.toNat) && decide (b.toNat ≤ 90)) || decide (b.toNat = 95)
def isDig (b : UInt8) : Bool := decide (48 ≤ b.toNat) && decide (b.toNat ≤ 57)
def isCh (b : UInt8) : Bool := isLet b || isDig b
def plainS (s : ByteArray) : Bool := decide (s.size ≤ 60) && s.data.toList.all isPr
def codeS (s : ByteArray) : Bool := decide (1 ≤ s.size) && decide (s.size ≤ 12) && s.data.toList.all isCh
theorem size_zero {s : ByteArray} : s = ByteArray.mk #[] ↔ s.size = 0 := by
  constructor
  · rintro rfl; rfl
  · intro h
    apply ba_inj
    have : s.data.toList.length = 0 := by simpa using h
    exact List.length_eq_zero_iff.mp this
theorem printable_ok (b : UInt8) : L.pl 90 [u8 b] = some (.ret (.bool (isPr b))) := by
  refine W_of (pl_w k90_eq ?_)
  simp only [k90]
  repeat' (first | (simp -implicitDefEqProofs only [ze, zd, simprocAttr]) | (with_reducible refine wgd_cases ?_ ?_ <;> intro hb) | (with_reducible refine wcond_cases ?_ ?_ <;> intro hb) | (with_reducible refine qd_i (by kernel_rfl) ?_) | (with_reducible refine W_itn_cases ?_ ?_; omega))
  all_goals (refine ret_b (Bool.eq_iff_iff.mpr ?_); simp_all [isPr]; try omega)
theorem letter_ok (b : UInt8) : L.pl 87 [u8 b] = some (.ret (.bool (isLet b))) := by
  refine W_of (pl_w k87_eq ?_)
  simp only [k87]
  repeat' (first | (simp -implicitDefEqProofs only [ze, zd, simprocAttr]) | (with_reducible refine wgd_cases ?_ ?_ <;> intro hb) | (with_reducible refine wcond_cases ?_ ?_ <;> intro hb) | (with_reducible refine qd_i (by kernel_rfl) ?_) | (with_reducible refine W_itn_cases ?_ ?_; omega))
  all_goals (refine ret_b (Bool.eq_iff_iff.mpr ?_); simp_all [isLet]; try omega)
theorem digit_ok (b : UInt8) : L.pl 88 [u8 b] = some (.ret (.bool (isDig b))) := by
  refine W_of (pl_w k88_eq ?_)
  simp only [k88]
  repeat' (first | (simp -implicitDefEqProofs only [ze, zd, simprocAttr]) | (with_reducible refine wgd_cases ?_ ?_ <;> intro hb) | (with_reducible refine wcond_cases ?_ ?_ <;> intro hb) | (with_reducible refine qd_i (by kernel_rfl) ?_) | (with_reducible refine W_itn_cases ?_ ?_; omega))
  all_goals (refine ret_b (Bool.eq_iff_iff.mpr ?_); simp_all [isDig]; try omega)
theorem ch_ok (b : UInt8) : L.pl 86 [u8 b] = some (.ret (.bool (isCh b))) := by
  refine W_of (pl_w k86_eq ?_)
  simp only [k86]
  repeat' (first | (simp -implicitDefEqProofs only [ze, zd, simprocAttr, letter_ok, digit_ok]) | (with_reducible refine wgd_cases ?_ ?_ <;> intro hb) | (with_reducible refine wcond_cases ?_ ?_ <;> intro hb) | (with_reducible refine qd_i (by kernel_rfl) ?_) | (with_reducible refine W_itn_cases ?_ ?_; omega))
  all_goals (refine ret_b ?_; simp_all [isCh])
theorem every_ok (g : FuncId) (p : UInt8 → Bool) (hn : nobody Tryd.prog g = false) (hh : isM (L.hm g) = false) (hg : ∀ b, L.pl g [u8 b] = some (.ret (.bool (p b)))) (s : ByteArray) (hs : s.size < 4611686018427387904) : L.pl 85 [.str s, .fn (.func g) [] []] = some (.ret (.bool (s.data.toList.all p))) := by
  refine W_of (pl_w k85_eq ?_)
  simp only [k85, k85_t0]
  repeat' (first | (simp -implicitDefEqProofs only [ze, zd, simprocAttr]) | (with_reducible refine wgd_cases ?_ ?_ <;> intro hb) | (with_reducible refine wcond_cases ?_ ?_ <;> intro hb) | (with_reducible refine qd_i (by kernel_rfl) ?_) | (with_reducible refine W_itn_cases ?_ ?_; omega))
  refine loop_w (fun n tm st nx => ∃ i : Nat, n = s.size - i ∧ i ≤ s.size ∧ tm 8 = .i64 i ∧ tm 7 = .i64 s.size ∧ tm 0 = .str s ∧ tm 1 = .fn (.func g) [] [] ∧ ∀ j, j < i → ∀ b, s.data.toList[j]? = some b → p b = true) s.size ⟨0, by omega, by omega, ?_, ?_, ?_, ?_, by omega⟩ ?_
  · simp -implicitDefEqProofs only [ze, zd, simprocAttr]; try rfl
  · simp -implicitDefEqProofs only [ze, zd, simprocAttr]
  · simp -implicitDefEqProofs only [ze, zd, simprocAttr]
  · simp -implicitDefEqProofs only [ze, zd, simprocAttr]
  · rintro n tm st nx ⟨i, hi, hi2, h8, h7, h0, h1, hp⟩
    simp only [k85_l0]
    repeat' (first | (simp -implicitDefEqProofs only [ze, zd, simprocAttr, h8, h7, h0, h1]) | (with_reducible refine wgd_cases ?_ ?_ <;> intro hb) | (with_reducible refine wcond_cases ?_ ?_ <;> intro hb) | (with_reducible refine qd_i (by kernel_rfl) ?_) | (with_reducible refine W_itn_cases ?_ ?_; omega))
    · have hlt : i < s.size := by simpa using hb
      obtain ⟨b, hb2⟩ := get_lt (l := s.data.toList) (i := i) (by simpa using hlt)
      repeat' (first | (simp -implicitDefEqProofs only [ze, zd, simprocAttr, hb2, xcall_pl hn hh, hg b, h8, h7, h0, h1]) | (with_reducible refine wgd_cases ?_ ?_ <;> intro hb) | (with_reducible refine wcond_cases ?_ ?_ <;> intro hb) | (with_reducible refine qd_i (by kernel_rfl) ?_) | (with_reducible refine W_itn_cases ?_ ?_; omega))
      · refine ret_b (all_not hb2 (by simpa using hb)).symm
      · have hpb := hb
        refine ⟨s.size - (i + 1), by omega, i + 1, rfl, by omega, up64 (by omega), fun j hj c hc => ?_⟩
        rcases Nat.lt_succ_iff_lt_or_eq.mp hj with h | rfl
        · exact hp j h c hc
        · rw [hb2] at hc; obtain rfl := Option.some.inj hc; simpa using hpb
    · have hlt : ¬ i < s.size := by simpa using hb
      exact ret_b (all_get fun j hj => hp j (by have := hj; simp at this; omega)).symm
theorem plain_ok (s : ByteArray) : L.pl 68 [.str s] = some (.ret (.bool (plainS s))) := by
  refine W_of (pl_w k68_eq ?_)
  simp only [k68]
  repeat' (first | (simp -implicitDefEqProofs only [ze, zd, simprocAttr]) | (with_reducible refine wgd_cases ?_ ?_ <;> intro hb) | (with_reducible refine wcond_cases ?_ ?_ <;> intro hb) | (with_reducible refine qd_i (by kernel_rfl) ?_) | (with_reducible refine W_itn_cases ?_ ?_; omega))
  · have hlt : s.size ≤ 60 := by simp only [decide_eq_true_eq] at hb; omega
    repeat' (first | (simp -implicitDefEqProofs only [ze, zd, simprocAttr, every_ok 90 isPr (by kernel_rfl) rfl printable_ok s (by omega)]) | (with_reducible refine wgd_cases ?_ ?_ <;> intro hb) | (with_reducible refine wcond_cases ?_ ?_ <;> intro hb) | (with_reducible refine qd_i (by kernel_rfl) ?_) | (with_reducible refine W_itn_cases ?_ ?_; omega))
    refine ret_b ?_; simp [plainS, hlt]
  · have hlt : ¬ s.size ≤ 60 := by simp only [decide_eq_false_iff_not] at hb; omega
    refine ret_b ?_; simp [plainS, hlt]
theorem code_ok (s : ByteArray) : L.pl 66 [.str s] = some (.ret (.bool (codeS s))) := by
  refine W_of (pl_w k66_eq ?_)
  simp only [k66]
  repeat' (first | (simp -implicitDefEqProofs only [ze, zd, simprocAttr]) | (with_reducible refine wgd_cases ?_ ?_ <;> intro hb) | (with_reducible refine wcond_cases ?_ ?_ <;> intro hb) | (with_reducible refine qd_i (by kernel_rfl) ?_) | (with_reducible refine W_itn_cases ?_ ?_; omega))
  · rename_i h0
    have hlt : s.size ≤ 12 := by simp only [decide_eq_true_eq] at hb; omega
    have h1 : 1 ≤ s.size := by simp only [size_zero, Bool.not_eq_true', decide_eq_false_iff_not] at h0; omega
    repeat' (first | (simp -implicitDefEqProofs only [ze, zd, simprocAttr, every_ok 86 isCh (by kernel_rfl) rfl ch_ok s (by omega)]) | (with_reducible refine wgd_cases ?_ ?_ <;> intro hb) | (with_reducible refine wcond_cases ?_ ?_ <;> intro hb) | (with_reducible refine qd_i (by kernel_rfl) ?_) | (with_reducible refine W_itn_cases ?_ ?_; omega))
    refine ret_b ?_; simp [codeS, hlt, h1]
  · have hlt : ¬ s.size ≤ 12 := by simp only [decide_eq_false_iff_not] at hb; omega
    refine ret_b ?_; simp [codeS, hlt]
  · have h1 : s.size = 0 := by simpa [size_zero] using hb
    refine ret_b ?_; simp [codeS, h1]
end Go.Proofs.YtkbheoganajhaaaDoor.Vm
set_option maxRecDepth 10000
set_option linter.unusedVariables false
set_option linter.unusedSimpArgs false
namespace Go.Proofs.YtkbheoganajhaaaDoor.Vm
open Go Go.Proofs
def nr (b : Bool) : Nat := if b then 1 else 0
theorem nr_pur (b : Bool) : (if nr b = 1 then 1 else 0) = nr b := by cases b <;> rfl
def te (b : Bool) (e : Nat) : Nat := if b then 0 else e
theorem te_f (e : Nat) : te false e = e := rfl
structure Tag where
  n : ByteArray
  v : ByteArray
def encT (t : Tag) : V := .agg [.str t.n, .str t.v]
def small (s : ByteArray) : Prop := s.size < 4611686018427387904
def within (n m : Int) : Bool := decide (-m ≤ n) && decide (n ≤ m)
def optS (s : ByteArray) : Bool := decide (s.size = 0) || codeS s
def isUp (b : UInt8) : Bool := decide (65 ≤ b.toNat) && decide (b.toNat ≤ 90)
def curS (s : ByteArray) : Bool := decide (s.size = 3) && s.data.toList.all isUp
def tagS (t : Tag) : Bool := codeS t.n && codeS t.v
def lessS (a b : ByteArray) : Bool := Op.bytesLess a.data.toList b.data.toList
theorem within_ok (a m : Int) (h0 : 0 ≤ m) (h1 : m < 4611686018427387904) : L.pl 71 [.i64 a, .i64 m] = some (.ret (.bool (within a m))) := by
  refine W_of (pl_w k71_eq ?_)
  simp only [k71]
  have hw : IntKind.i64.wrap (0 - m) = -m := by rw [wrap_i64 (by omega) (by omega)]; omega
  repeat' (first | (simp -implicitDefEqProofs only [ze, zd, simprocAttr, hw]) | (with_reducible refine wgd_cases ?_ ?_ <;> intro hb) | (with_reducible refine wcond_cases ?_ ?_ <;> intro hb) | (with_reducible refine qd_i (by kernel_rfl) ?_) | (with_reducible refine W_itn_cases ?_ ?_; omega))
  all_goals (refine ret_b ?_; simp_all [within]; try omega)
theorem optional_ok (s : ByteArray) : L.pl 69 [.str s] = some (.ret (.bool (optS s))) := by
  refine W_of (pl_w k69_eq ?_)
  simp only [k69]
  repeat' (first | (simp -implicitDefEqProofs only [ze, zd, simprocAttr, code_ok]) | (with_reducible refine wgd_cases ?_ ?_ <;> intro hb) | (with_reducible refine wcond_cases ?_ ?_ <;> intro hb) | (with_reducible refine qd_i (by kernel_rfl) ?_) | (with_reducible refine W_itn_cases ?_ ?_; omega))
  all_goals (refine ret_b ?_; simp_all [optS, size_zero])
theorem cur_ok (s : ByteArray) (hs : small s) : L.pl 70 [.str s] = some (.ret (.bool (curS s))) := by
  refine W_of (pl_w k70_eq ?_)
  simp only [k70, k70_t0]
  unfold small at hs
  repeat' (first | (simp -implicitDefEqProofs only [ze, zd, simprocAttr]) | (with_reducible refine wgd_cases ?_ ?_ <;> intro hb) | (with_reducible refine wcond_cases ?_ ?_ <;> intro hb) | (with_reducible refine qd_i (by kernel_rfl) ?_) | (with_reducible refine W_itn_cases ?_ ?_; omega))
  refine loop_w (fun n tm st nx => ∃ i id : Nat, n = s.size - i ∧ i ≤ s.size ∧ tm 3 = .i64 i ∧ tm 7 = .ptr id 0 ∧ st id = some (.iter s i) ∧ ∀ j, j < i → ∀ b, s.data.toList[j]? = some b → isUp b = true) s.size ⟨0, 32, by omega, by omega, ?_, ?_, ?_, by omega⟩ ?_
  · simp -implicitDefEqProofs only [ze, zd, simprocAttr]; try rfl
  · simp -implicitDefEqProofs only [ze, zd, simprocAttr]
  · simp -implicitDefEqProofs only [ze, zd, simprocAttr]
  · rintro n tm st nx ⟨i, id, hi, hi2, h3, h7, hst, hp⟩
    simp only [k70_l0]
    by_cases hlt : i < s.size
    · obtain ⟨b, hb2⟩ := get_lt (l := s.data.toList) (i := i) (by simpa using hlt)
      have hbs : (s[i]'hlt) = b := by
        have h5 := (List.getElem?_eq_some_iff.mp hb2).2
        rw [← h5]; simp [ByteArray.getElem_eq_getElem_data]
      have hno : isUp b = false → curS s = false := fun h => by simp [curS, all_not hb2 h]
      by_cases ha : b.toNat < 128
      · have hd : Utf8.decode s i = (b.toNat, 1) := by have := decode_ascii s i hlt (by rw [hbs]; exact ha); rw [hbs] at this; exact this
        repeat' (first | (simp -implicitDefEqProofs only [ze, zd, simprocAttr, h3, h7, hst, hlt, hd]) | (with_reducible refine wgd_cases ?_ ?_ <;> intro hb) | (with_reducible refine wcond_cases ?_ ?_ <;> intro hb) | (with_reducible refine qd_i (by kernel_rfl) ?_) | (with_reducible refine W_itn_cases ?_ ?_; omega))
        · refine ret_b (hno ?_).symm
          simp only [decide_eq_true_eq] at hb; simp [isUp]; omega
        · refine ret_b (hno ?_).symm
          simp only [decide_eq_true_eq] at hb; simp [isUp]; omega
        · refine ⟨s.size - (i + 1), by omega, i + 1, id, rfl, by omega, up64 (by omega), rfl, if_pos rfl, fun j hj c hc => ?_⟩
          rcases Nat.lt_succ_iff_lt_or_eq.mp hj with h | rfl
          · exact hp j h c hc
          · rw [hb2] at hc; obtain rfl := Option.some.inj hc; simp_all [isUp]; omega
      · have hd := (decode_high s i hlt (by rw [hbs]; omega)).1
        generalize hq : Utf8.decode s i = q at hd
        repeat' (first | (simp -implicitDefEqProofs only [ze, zd, simprocAttr, h3, h7, hst, hlt, hq]) | (with_reducible refine wgd_cases ?_ ?_ <;> intro hb) | (with_reducible refine wcond_cases ?_ ?_ <;> intro hb) | (with_reducible refine qd_i (by kernel_rfl) ?_) | (with_reducible refine W_itn_cases ?_ ?_; omega))
        · exfalso; simp only [decide_eq_true_eq] at hb; omega
        · exact ret_b (hno (by simp [isUp]; omega)).symm
        · exfalso; simp only [decide_eq_false_iff_not] at hb; omega
    · have hz : i = s.size := by omega
      have ha := all_get (l := s.data.toList) (p := isUp) fun j hj => hp j (by have := hj; simp at this; omega)
      repeat' (first | (simp -implicitDefEqProofs only [ze, zd, simprocAttr, h3, h7, hst, hlt]) | (with_reducible refine wgd_cases ?_ ?_ <;> intro hb) | (with_reducible refine wcond_cases ?_ ?_ <;> intro hb) | (with_reducible refine qd_i (by kernel_rfl) ?_) | (with_reducible refine W_itn_cases ?_ ?_; omega))
      refine ret_b (Bool.eq_iff_iff.mpr ?_); simp only [curS, ha, Bool.and_true, decide_eq_true_eq]; omega
end Go.Proofs.YtkbheoganajhaaaDoor.Vm
set_option maxRecDepth 10000
set_option linter.unusedVariables false
set_option linter.unusedSimpArgs false
namespace Go.Proofs.YtkbheoganajhaaaDoor.Vm
open Go Go.Proofs
def tagAt (l : List Tag) (i : Nat) : Bool := match l[i]? with
  | some t => tagS t && (decide (i = 0) || match l[i - 1]? with | some a => lessS a.n t.n | none => false)
  | none => true
def rightS (l : List Tag) : Bool := decide (l.length ≤ 6) && (List.range l.length).all (tagAt l)
theorem right_true {l : List Tag} (h : ∀ j, j < l.length → tagAt l j = true) : (List.range l.length).all (tagAt l) = true := by
  rw [List.all_eq_true]; intro j hj; exact h j (List.mem_range.mp hj)
theorem right_false {l : List Tag} {j : Nat} (hj : j < l.length) (h : tagAt l j = false) : rightS l = false := by
  have : (List.range l.length).all (tagAt l) = false := by rw [List.all_eq_false]; exact ⟨j, List.mem_range.mpr hj, by simp [h]⟩
  simp [rightS, this]
theorem codes_ok (t : Tag) : L.pl 91 [.agg [.str t.n, .str t.v]] = some (.ret (.bool (tagS t))) := by
  refine W_of (pl_w k91_eq ?_)
  simp only [k91]
  repeat' (first | (simp -implicitDefEqProofs only [ze, zd, simprocAttr, code_ok]) | (with_reducible refine wgd_cases ?_ ?_ <;> intro hb) | (with_reducible refine wcond_cases ?_ ?_ <;> intro hb) | (with_reducible refine qd_i (by kernel_rfl) ?_) | (with_reducible refine W_itn_cases ?_ ?_; omega))
  all_goals (refine ret_b ?_; simp_all [tagS])
theorem dims_ok (l : List Tag) (r : Nat) : L.pl 72 [.list 97 (l.map encT) r] = some (.ret (.bool (rightS l))) := by
  refine W_of (pl_w k72_eq ?_)
  simp only [k72, k72_t0]
  repeat' (first | (simp -implicitDefEqProofs only [ze, zd, simprocAttr, List.length_map]) | (with_reducible refine wgd_cases ?_ ?_ <;> intro hb) | (with_reducible refine wcond_cases ?_ ?_ <;> intro hb) | (with_reducible refine qd_i (by kernel_rfl) ?_) | (with_reducible refine W_itn_cases ?_ ?_; omega))
  · have h6 : ¬ l.length ≤ 6 := by simp only [decide_eq_true_eq] at hb; omega
    exact ret_b (by simp [rightS, h6])
  · have h6 : l.length ≤ 6 := by simp only [decide_eq_false_iff_not] at hb; omega
    refine loop_w (fun n tm st nx => ∃ i : Nat, n = l.length - i ∧ i ≤ l.length ∧ tm 10 = .i64 i ∧ tm 9 = .i64 l.length ∧ tm 8 = .list 97 (l.map encT) r ∧ tm 0 = .list 97 (l.map encT) r ∧ ∀ j, j < i → tagAt l j = true) l.length ⟨0, by omega, by omega, ?_, ?_, ?_, ?_, by omega⟩ ?_
    · simp -implicitDefEqProofs only [ze, zd, simprocAttr]; try rfl
    · simp -implicitDefEqProofs only [ze, zd, simprocAttr]
    · simp -implicitDefEqProofs only [ze, zd, simprocAttr]
    · simp -implicitDefEqProofs only [ze, zd, simprocAttr]
    · rintro n tm st nx ⟨i, hi, hi2, h10, h9, h8, h0, hp⟩
      simp only [k72_l0]
      by_cases hlt : i < l.length
      · obtain ⟨t, ht⟩ := get_lt hlt
        have hd : decide ((i : Int) < (l.length : Int)) = true := decide_eq_true (by omega)
        have hup : tagAt l i = true → ∃ m, m < l.length - i ∧ ∃ i' : Nat, m = l.length - i' ∧ i' ≤ l.length ∧ V.sc (.int .i64 (IntKind.i64.wrap (i + 1))) = .i64 i' ∧ ∀ j, j < i' → tagAt l j = true := fun hpb => by
          refine ⟨l.length - (i + 1), by omega, i + 1, rfl, by omega, up64 (by omega), fun j hj => ?_⟩
          rcases Nat.lt_succ_iff_lt_or_eq.mp hj with h | rfl
          · exact hp j h
          · exact hpb
        subst hi
        rcases Nat.eq_zero_or_pos i with rfl | hpos
        · have hz : decide ((0 : Int) < ((0 : Nat) : Int)) = false := rfl
          repeat' (first | (simp -implicitDefEqProofs only [ze, zd, Nat.reduceEqDiff, Nat.reduceAdd, Nat.reduceMul, reduceIte, Nat.reduceLT, Nat.reduceLeDiff, reduceCtorEq, Int.reduceEq, Int.reduceLT, Int.reduceLE, Int.reduceNeg, Int.reduceToNat, Nat.reduceBEq, Nat.reduceSub, h10, h9, h8, h0, hd, hz, ht, encT, codes_ok]) | (with_reducible refine wgd_cases ?_ ?_ <;> intro hb) | (with_reducible refine wcond_cases ?_ ?_ <;> intro hb) | (with_reducible refine qd_i (by kernel_rfl) ?_) | (with_reducible refine W_itn_cases ?_ ?_; omega))
          · exact ret_b (right_false hlt (by simp_all [tagAt])).symm
          · exact hup (by simp_all [tagAt])
        · obtain ⟨k, rfl⟩ : ∃ k, i = k + 1 := ⟨i - 1, by omega⟩
          obtain ⟨a, ha⟩ := get_lt (l := l) (i := k) (by omega)
          have hw : IntKind.i64.wrap (((k + 1 : Nat) : Int) - 1) = (k : Int) := by rw [wrap_i64 (by omega) (by omega)]; omega
          have hz : decide ((0 : Int) < ((k + 1 : Nat) : Int)) = true := decide_eq_true (by omega)
          have hta : tagAt l (k + 1) = (tagS t && lessS a.n t.n) := by simp [tagAt, ht, ha]
          repeat' (first | (simp -implicitDefEqProofs only [ze, zd, Nat.reduceEqDiff, Nat.reduceAdd, Nat.reduceMul, reduceIte, Nat.reduceLT, Nat.reduceLeDiff, reduceCtorEq, Int.reduceEq, Int.reduceLT, Int.reduceLE, Int.reduceNeg, Int.reduceToNat, Nat.reduceBEq, Nat.reduceSub, h10, h9, h8, h0, hd, hz, hw, ht, ha, encT, codes_ok]) | (with_reducible refine wgd_cases ?_ ?_ <;> intro hb) | (with_reducible refine wcond_cases ?_ ?_ <;> intro hb) | (with_reducible refine qd_i (by kernel_rfl) ?_) | (with_reducible refine W_itn_cases ?_ ?_; omega))
          · exact ret_b (right_false hlt (by simp_all)).symm
          · exact ret_b (right_false hlt (by simp_all [lessS])).symm
          · exact hup (by simp_all [lessS])
      · have hd : decide ((i : Int) < (l.length : Int)) = false := decide_eq_false (by omega)
        repeat' (first | (simp -implicitDefEqProofs only [ze, zd, simprocAttr, h10, h9, h8, h0, hd]) | (with_reducible refine wgd_cases ?_ ?_ <;> intro hb) | (with_reducible refine wcond_cases ?_ ?_ <;> intro hb) | (with_reducible refine qd_i (by kernel_rfl) ?_) | (with_reducible refine W_itn_cases ?_ ?_; omega))
        exact ret_b (by simp [rightS, h6, right_true fun j hj => hp j (by omega)])
theorem dims_te (l : List Tag) (b : Bool) (h : b = true → l = []) : L.pl 72 [.list (te b 97) (l.map encT) (nr b)] = some (.ret (.bool (rightS l))) := by
  cases b
  · exact dims_ok l 0
  · rw [h rfl]
    exact pl_calc 20 (by kernel_rfl)
end Go.Proofs.YtkbheoganajhaaaDoor.Vm
set_option maxRecDepth 10000
set_option linter.unusedVariables false
set_option linter.unusedSimpArgs false
namespace Go.Proofs.YtkbheoganajhaaaDoor.Vm
open Go Go.Proofs
structure Line where
  acc : ByteArray
  cur : ByteArray
  amt : Int
  base : Int
  par : ByteArray
  pty : ByteArray
  tags : List Tag
  tr : Bool
def encL (l : Line) : V := .agg [.str l.acc, .str l.cur, .i64 l.amt, .i64 l.base, .str l.par, .str l.pty, .list (te l.tr 97) (l.tags.map encT) (nr l.tr)]
structure smallL (l : Line) : Prop where
  acc : small l.acc
  cur : small l.cur
  par : small l.par
  pty : small l.pty
  tags : ∀ t ∈ l.tags, small t.n ∧ small t.v
  len : l.tags.length < 4611686018427387904
  nil : l.tr = true → l.tags = []
def lineS (l : Line) : Int :=
  if (codeS l.acc && optS l.par && optS l.pty) = false then 7
  else if curS l.cur = false then 13
  else if (within l.amt 1000000000000 && within l.base 1000000000000) = false then 4
  else if l.amt = 0 ∧ l.base = 0 then 2
  else if rightS l.tags = false then 14
  else 0
theorem ret_i {x y : Int} (h : x = y) : CR.ret (.sc (.int .i64 x)) = .ret (V.i64 y) := by rw [h]
theorem line_ok (l : Line) (hs : smallL l) : L.pl 46 [encL l] = some (.ret (.i64 (lineS l))) := by
  refine W_of (pl_w k46_eq ?_)
  simp only [k46, encL]
  repeat' (first | (simp -implicitDefEqProofs only [ze, zd, simprocAttr, code_ok, optional_ok, cur_ok l.cur hs.cur, within_ok l.amt 1000000000000 (by omega) (by omega), within_ok l.base 1000000000000 (by omega) (by omega), dims_te l.tags l.tr hs.nil, nr_pur]) | (with_reducible refine wgd_cases ?_ ?_ <;> intro hb) | (with_reducible refine wcond_cases ?_ ?_ <;> intro hb) | (with_reducible refine qd_i (by kernel_rfl) ?_) | (with_reducible refine W_itn_cases ?_ ?_; omega))
  all_goals (refine ret_i ?_; simp_all [lineS])
end Go.Proofs.YtkbheoganajhaaaDoor.Vm
set_option maxRecDepth 10000
set_option linter.unusedVariables false
set_option linter.unusedSimpArgs false
namespace Go.Proofs.YtkbheoganajhaaaDoor.Vm
open Go Go.Proofs
def dayS (n : Int) : Bool := decide (0 ≤ n) && decide (n ≤ 109572)
def leapZ (y : Int) : Bool := (decide (y % 4 = 0) && !decide (y % 100 = 0)) || decide (y % 400 = 0)
def befZ (y : Int) : Int := 365 * (y - 1900) + ((y - 1) / 4 - (y - 1) / 100 + (y - 1) / 400 - 474 + 18 - 4)
def lp (y : Int) : Int := if leapZ y then 1 else 0
def lenM (y : Int) : Nat → Int
  | 1 => 31 | 2 => 28 + lp y | 3 => 31 | 4 => 30 | 5 => 31 | 6 => 30 | 7 => 31 | 8 => 31 | 9 => 30 | 10 => 31 | 11 => 30 | 12 => 31 | _ => 0
def remM (y : Int) : Nat → Int
  | 1 => 365 + lp y | 2 => 334 + lp y | 3 => 306 | 4 => 275 | 5 => 245 | 6 => 214 | 7 => 184 | 8 => 153 | 9 => 122 | 10 => 92 | 11 => 61 | 12 => 31 | _ => 0
theorem lp_le (y : Int) : 0 ≤ lp y ∧ lp y ≤ 1 := by unfold lp; split <;> omega
theorem bef_next (y : Int) (h : 1900 ≤ y) : befZ (y + 1) = befZ y + 365 + lp y := by
  unfold lp
  cases hl : leapZ y with
  | true =>
    simp only [leapZ, Bool.or_eq_true, Bool.and_eq_true, decide_eq_true_eq, Bool.not_eq_true', decide_eq_false_iff_not] at hl
    simp only [befZ, if_true]; omega
  | false =>
    simp only [leapZ, Bool.or_eq_false_iff, Bool.and_eq_false_iff, decide_eq_false_iff_not, Bool.not_eq_false', decide_eq_true_eq] at hl
    simp only [befZ, Bool.false_eq_true, if_false]; omega
theorem is_ok (n : Int) : L.pl 99 [.i64 n] = some (.ret (.bool (dayS n))) := by
  refine W_of (pl_w k99_eq ?_)
  simp only [k99]
  repeat' (first | (simp -implicitDefEqProofs only [ze, zd, simprocAttr]) | (with_reducible refine wgd_cases ?_ ?_ <;> intro hb) | (with_reducible refine wcond_cases ?_ ?_ <;> intro hb) | (with_reducible refine qd_i (by kernel_rfl) ?_) | (with_reducible refine W_itn_cases ?_ ?_; omega))
  all_goals (refine ret_b (Bool.eq_iff_iff.mpr ?_); simp_all [dayS]; try omega)
theorem leap_ok (y : Int) (h : 1900 ≤ y) : L.pl 106 [.i64 y] = some (.ret (.bool (leapZ y))) := by
  refine W_of (pl_w k106_eq ?_)
  simp only [k106]
  have h4 : y.tmod 4 = y % 4 := Int.tmod_eq_emod_of_nonneg (by omega)
  have h100 : y.tmod 100 = y % 100 := Int.tmod_eq_emod_of_nonneg (by omega)
  have h400 : y.tmod 400 = y % 400 := Int.tmod_eq_emod_of_nonneg (by omega)
  repeat' (first | (simp -implicitDefEqProofs only [ze, zd, simprocAttr, h4, h100, h400]) | (with_reducible refine wgd_cases ?_ ?_ <;> intro hb) | (with_reducible refine wcond_cases ?_ ?_ <;> intro hb) | (with_reducible refine qd_i (by kernel_rfl) ?_) | (with_reducible refine W_itn_cases ?_ ?_; omega))
  all_goals (refine ret_b ?_; simp_all [leapZ])
theorem before_ok (y : Int) (h : 1900 ≤ y) (h2 : y ≤ 2200) : L.pl 100 [.i64 y] = some (.ret (.i64 (befZ y))) := by
  refine W_of (pl_w k100_eq ?_)
  simp only [k100]
  have w1 : IntKind.i64.wrap (y - 1) = y - 1 := wrap_i64 (by omega) (by omega)
  have d4 : (y - 1).tdiv 4 = (y - 1) / 4 := Int.tdiv_eq_ediv_of_nonneg (by omega)
  have d100 : (y - 1).tdiv 100 = (y - 1) / 100 := Int.tdiv_eq_ediv_of_nonneg (by omega)
  have d400 : (y - 1).tdiv 400 = (y - 1) / 400 := Int.tdiv_eq_ediv_of_nonneg (by omega)
  have w2 : IntKind.i64.wrap ((y - 1) / 4) = (y - 1) / 4 := wrap_i64 (by omega) (by omega)
  have w3 : IntKind.i64.wrap ((y - 1) / 100) = (y - 1) / 100 := wrap_i64 (by omega) (by omega)
  have w4 : IntKind.i64.wrap ((y - 1) / 400) = (y - 1) / 400 := wrap_i64 (by omega) (by omega)
  have w5 : IntKind.i64.wrap ((y - 1) / 4 - (y - 1) / 100) = (y - 1) / 4 - (y - 1) / 100 := wrap_i64 (by omega) (by omega)
  have w6 : IntKind.i64.wrap ((y - 1) / 4 - (y - 1) / 100 + (y - 1) / 400) = (y - 1) / 4 - (y - 1) / 100 + (y - 1) / 400 := wrap_i64 (by omega) (by omega)
  have w7 : IntKind.i64.wrap ((y - 1) / 4 - (y - 1) / 100 + (y - 1) / 400 - 474) = (y - 1) / 4 - (y - 1) / 100 + (y - 1) / 400 - 474 := wrap_i64 (by omega) (by omega)
  have w8 : IntKind.i64.wrap ((y - 1) / 4 - (y - 1) / 100 + (y - 1) / 400 - 474 + 18) = (y - 1) / 4 - (y - 1) / 100 + (y - 1) / 400 - 474 + 18 := wrap_i64 (by omega) (by omega)
  have w9 : IntKind.i64.wrap ((y - 1) / 4 - (y - 1) / 100 + (y - 1) / 400 - 474 + 18 - 4) = (y - 1) / 4 - (y - 1) / 100 + (y - 1) / 400 - 474 + 18 - 4 := wrap_i64 (by omega) (by omega)
  have w10 : IntKind.i64.wrap (y - 1900) = y - 1900 := wrap_i64 (by omega) (by omega)
  have w11 : IntKind.i64.wrap (365 * (y - 1900)) = 365 * (y - 1900) := wrap_i64 (by omega) (by omega)
  have w12 : IntKind.i64.wrap (365 * (y - 1900) + ((y - 1) / 4 - (y - 1) / 100 + (y - 1) / 400 - 474 + 18 - 4)) = 365 * (y - 1900) + ((y - 1) / 4 - (y - 1) / 100 + (y - 1) / 400 - 474 + 18 - 4) := wrap_i64 (by omega) (by omega)
  repeat' (first | (simp -implicitDefEqProofs only [ze, zd, simprocAttr, w1, d4, d100, d400, w2, w3, w4, w5, w6, w7, w8, w9, w10, w11, w12]) | (with_reducible refine wgd_cases ?_ ?_ <;> intro hb) | (with_reducible refine wcond_cases ?_ ?_ <;> intro hb) | (with_reducible refine qd_i (by kernel_rfl) ?_) | (with_reducible refine W_itn_cases ?_ ?_; omega))
  rfl
theorem length_ok (y : Int) (h : 1900 ≤ y) (m : Nat) (hm : 1 ≤ m) (hm2 : m ≤ 13) : L.pl 101 [.i64 y, .i64 m] = some (.ret (.i64 (lenM y m))) := by
  refine W_of (pl_w k101_eq ?_)
  simp only [k101]
  have hw : IntKind.i64.wrap ((m : Int) - 1) = ((m - 1 : Nat) : Int) := by rw [wrap_i64 (by omega) (by omega)]; omega
  have c12 : m = 1 ∨ m = 2 ∨ m = 3 ∨ m = 4 ∨ m = 5 ∨ m = 6 ∨ m = 7 ∨ m = 8 ∨ m = 9 ∨ m = 10 ∨ m = 11 ∨ m = 12 ∨ m = 13 := by omega
  have tab : m ≤ 12 → (m = 2 → leapZ y = false) → (List.drop ((m - 1) * 1) [V.sc (Value.int IntKind.i64 31), V.sc (Value.int IntKind.i64 28), V.sc (Value.int IntKind.i64 31), V.sc (Value.int IntKind.i64 30), V.sc (Value.int IntKind.i64 31), V.sc (Value.int IntKind.i64 30), V.sc (Value.int IntKind.i64 31), V.sc (Value.int IntKind.i64 31), V.sc (Value.int IntKind.i64 30), V.sc (Value.int IntKind.i64 31), V.sc (Value.int IntKind.i64 30), V.sc (Value.int IntKind.i64 31)])[0]? = some (.sc (.int .i64 (lenM y m))) := fun hm3 hl => by
    rcases c12 with rfl | rfl | rfl | rfl | rfl | rfl | rfl | rfl | rfl | rfl | rfl | rfl | rfl <;> first | rfl | omega | skip
    have := hl rfl
    simp [lenM, lp, this]
  repeat' (first | (simp -implicitDefEqProofs only [ze, zd, simprocAttr, leap_ok y h, hw]) | (with_reducible refine wgd_cases ?_ ?_ <;> intro hb) | (with_reducible refine wcond_cases ?_ ?_ <;> intro hb) | (with_reducible refine qd_i (by kernel_rfl) ?_) | (with_reducible refine W_itn_cases ?_ ?_; omega))
  · simp only [decide_eq_true_eq] at hb; omega
  · simp only [decide_eq_true_eq] at hb
    have : m = 13 := by omega
    subst this; rfl
  · rename_i h2
    simp only [decide_eq_true_eq] at h2
    have : m = 2 := by omega
    subst this
    have hl : leapZ y = true := by assumption
    refine ret_i ?_; simp [lenM, lp, hl]
  · rename_i h12 h2
    simp only [decide_eq_false_iff_not, decide_eq_true_eq] at h12 h2
    refine W_itn_cases ⟨by omega, by omega⟩ ?_
    repeat' (first | (simp -implicitDefEqProofs only [ze, zd, simprocAttr, tab (by omega) (fun _ => hb)]) | (with_reducible refine wgd_cases ?_ ?_ <;> intro hb) | (with_reducible refine wcond_cases ?_ ?_ <;> intro hb) | (with_reducible refine qd_i (by kernel_rfl) ?_) | (with_reducible refine W_itn_cases ?_ ?_; omega))
  · rename_i h1 h12
    simp only [decide_eq_false_iff_not] at h12 hb
    refine W_itn_cases ⟨by omega, by omega⟩ ?_
    repeat' (first | (simp -implicitDefEqProofs only [ze, zd, simprocAttr, tab (by omega) (fun e => absurd (by rw [e]; rfl) hb)]) | (with_reducible refine wgd_cases ?_ ?_ <;> intro hb) | (with_reducible refine wcond_cases ?_ ?_ <;> intro hb) | (with_reducible refine qd_i (by kernel_rfl) ?_) | (with_reducible refine W_itn_cases ?_ ?_; omega))
theorem date_ok (n : Int) (h : dayS n = true) : ∃ d m y, L.pl 89 [.i64 n] = some (.ret (.tup [.agg [.i64 y, .i64 m, .i64 d], .i64 0])) := by
  have hn : 0 ≤ n ∧ n ≤ 109572 := by simpa [dayS] using h
  suffices hs : W (L.pl 89 [.i64 n]) (fun r => ∃ d m y, r = .ret (.tup [.agg [.i64 y, .i64 m, .i64 d], .i64 0])) by
    obtain ⟨r, h1, d, m, y, rfl⟩ := hs; exact ⟨d, m, y, h1⟩
  refine pl_w k89_eq ?_
  simp only [k89]
  have q1 : n.tdiv 366 = n / 366 := Int.tdiv_eq_ediv_of_nonneg hn.1
  have w1 : IntKind.i64.wrap (n / 366) = n / 366 := wrap_i64 (by omega) (by omega)
  have w2 : IntKind.i64.wrap (1900 + n / 366) = 1900 + n / 366 := wrap_i64 (by omega) (by omega)
  repeat' (first | (simp -implicitDefEqProofs only [ze, zd, simprocAttr, is_ok, h, q1, w1, w2]) | (with_reducible refine wgd_cases ?_ ?_ <;> intro hb) | (with_reducible refine wcond_cases ?_ ?_ <;> intro hb) | (with_reducible refine qd_i (by kernel_rfl) ?_) | (with_reducible refine W_itn_cases ?_ ?_; omega))
  refine loop_w (fun k tm st nx => ∃ y : Int, k = (2199 - y).toNat ∧ 1900 ≤ y ∧ y ≤ 2199 ∧ tm 0 = .i64 n ∧ tm 2 = .ptr 8 0 ∧ st 8 = some (.cells [.i64 y, .i64 0, .i64 0]) ∧ 9 ≤ nx) _ ⟨1900 + n / 366, rfl, by omega, by omega, ?_, ?_, ?_, by omega⟩ ?_
  · simp -implicitDefEqProofs only [ze, zd, simprocAttr]
  · simp -implicitDefEqProofs only [ze, zd, simprocAttr]
  · simp -implicitDefEqProofs only [ze, zd, simprocAttr]
  rintro k tm st nx ⟨y, hk, hy1, hy2, h0, h2, hst, hnx⟩
  simp only [k89_l0]
  have wy : IntKind.i64.wrap (y + 1) = y + 1 := wrap_i64 (by omega) (by omega)
  have tail : ∀ (tm : Nat → V) (st : St) (nx : Nat), n < befZ (y + 1) → tm 0 = .i64 n → tm 2 = .ptr 8 0 → st 8 = some (.cells [.i64 y, .i64 0, .i64 0]) →
      wc Tryd.prog L k89_t1 (RQ [.c 2 (some 3), .t 3] (PQ fun r => ∃ d m y, r = .ret (.tup [.agg [.i64 y, .i64 m, .i64 d], .i64 0]))) ⟨tm, st, nx⟩ := by
    intro tm st nx hx h0 h2 hst
    have hbn := bef_next y hy1
    have hbb : befZ y ≤ 120000 ∧ 0 ≤ befZ y := by unfold befZ; omega
    have w3 : IntKind.i64.wrap (n - befZ y) = n - befZ y := wrap_i64 (by omega) (by omega)
    have hlp := lp_le y
    simp only [k89_t1, k89_t0]
    repeat' (first | (simp -implicitDefEqProofs only [ze, zd, simprocAttr, h0, h2, hst, before_ok y hy1 (by omega), w3]) | (with_reducible refine wgd_cases ?_ ?_ <;> intro hb) | (with_reducible refine wcond_cases ?_ ?_ <;> intro hb) | (with_reducible refine qd_i (by kernel_rfl) ?_) | (with_reducible refine W_itn_cases ?_ ?_; omega))
    refine loop_w (fun k tm st nx => ∃ (m : Nat) (x : Int), k = 13 - m ∧ 1 ≤ m ∧ m ≤ 13 ∧ x < remM y m ∧ -200000 ≤ x ∧ x ≤ 200000 ∧ tm 0 = .i64 x ∧ tm 2 = .ptr 8 0 ∧ st 8 = some (.cells [.i64 y, .i64 m, .i64 0])) _ ⟨1, n - befZ y, rfl, by omega, by omega, by simp only [remM]; omega, by omega, by omega, ?_, ?_, ?_⟩ ?_
    · simp -implicitDefEqProofs only [ze, zd, simprocAttr]
    · simp -implicitDefEqProofs only [ze, zd, simprocAttr]; exact h2
    · simp -implicitDefEqProofs only [ze, zd, simprocAttr]; try rfl
    rintro k tm st nx ⟨m, x, hk, hm, hm2, hxr, hx1, hx2, h0, h2, hst⟩
    simp only [k89_l1]
    have hlen := length_ok y hy1 m hm hm2
    have c12 : m = 1 ∨ m = 2 ∨ m = 3 ∨ m = 4 ∨ m = 5 ∨ m = 6 ∨ m = 7 ∨ m = 8 ∨ m = 9 ∨ m = 10 ∨ m = 11 ∨ m = 12 ∨ m = 13 := by omega
    have hrem : m ≤ 12 → remM y m = lenM y m + remM y (m + 1) := fun h => by
      rcases c12 with rfl | rfl | rfl | rfl | rfl | rfl | rfl | rfl | rfl | rfl | rfl | rfl | rfl <;> simp only [remM, lenM] <;> omega
    have hlb : 0 ≤ lenM y m ∧ lenM y m ≤ 31 := by
      rcases c12 with rfl | rfl | rfl | rfl | rfl | rfl | rfl | rfl | rfl | rfl | rfl | rfl | rfl <;> simp only [lenM] <;> omega
    have w4 : IntKind.i64.wrap (x - lenM y m) = x - lenM y m := wrap_i64 (by omega) (by omega)
    have w5 : IntKind.i64.wrap (x + 1) = x + 1 := wrap_i64 (by omega) (by omega)
    by_cases hc : lenM y m ≤ x
    · have hd : decide (lenM y m ≤ x) = true := decide_eq_true hc
      have hm3 : m ≤ 12 := by
        rcases Nat.lt_or_ge 12 m with h | h
        · have : m = 13 := by omega
          subst this; simp only [remM, lenM] at hxr hc; omega
        · exact h
      have hr2 := hrem hm3
      repeat' (first | (simp -implicitDefEqProofs only [ze, zd, simprocAttr, h0, h2, hst, hlen, hd, w4]) | (with_reducible refine wgd_cases ?_ ?_ <;> intro hb) | (with_reducible refine wcond_cases ?_ ?_ <;> intro hb) | (with_reducible refine qd_i (by kernel_rfl) ?_) | (with_reducible refine W_itn_cases ?_ ?_; omega))
      exact ⟨12 - m, by omega, m + 1, x - lenM y m, by omega, by omega, by omega, by omega, by omega, by omega, rfl, by rw [up64 (by omega)]⟩
    · have hd : decide (lenM y m ≤ x) = false := decide_eq_false hc
      repeat' (first | (simp -implicitDefEqProofs only [ze, zd, simprocAttr, h0, h2, hst, hlen, hd, w5]) | (with_reducible refine wgd_cases ?_ ?_ <;> intro hb) | (with_reducible refine wcond_cases ?_ ?_ <;> intro hb) | (with_reducible refine qd_i (by kernel_rfl) ?_) | (with_reducible refine W_itn_cases ?_ ?_; omega))
      exact ⟨_, _, _, rfl⟩
  by_cases hc1 : y < 2199
  · have hd1 : decide (y < 2199) = true := decide_eq_true hc1
    by_cases hc2 : befZ (y + 1) ≤ n
    · have hd2 : decide (befZ (y + 1) ≤ n) = true := decide_eq_true hc2
      repeat' (first | (simp -implicitDefEqProofs only [ze, zd, simprocAttr, h0, h2, hst, wy, before_ok (y + 1) (by omega) (by omega), hd1, hd2]) | (with_reducible refine wgd_cases ?_ ?_ <;> intro hb) | (with_reducible refine wcond_cases ?_ ?_ <;> intro hb) | (with_reducible refine qd_i (by kernel_rfl) ?_) | (with_reducible refine W_itn_cases ?_ ?_; omega))
      exact ⟨(2199 - (y + 1)).toNat, by omega, y + 1, rfl, by omega, by omega, rfl⟩
    · have hd2 : decide (befZ (y + 1) ≤ n) = false := decide_eq_false hc2
      repeat' (first | (simp -implicitDefEqProofs only [ze, zd, simprocAttr, h0, h2, hst, wy, before_ok (y + 1) (by omega) (by omega), hd1, hd2]) | (with_reducible refine wgd_cases ?_ ?_ <;> intro hb) | (with_reducible refine wcond_cases ?_ ?_ <;> intro hb) | (with_reducible refine qd_i (by kernel_rfl) ?_) | (with_reducible refine W_itn_cases ?_ ?_; omega))
      refine tail _ _ _ (by omega) ?_ ?_ hst
      · simp -implicitDefEqProofs only [ze, zd, simprocAttr]; exact h0
      · simp -implicitDefEqProofs only [ze, zd, simprocAttr]; exact h2
  · have hd1 : decide (y < 2199) = false := decide_eq_false hc1
    repeat' (first | (simp -implicitDefEqProofs only [ze, zd, simprocAttr, h0, h2, hst, hd1]) | (with_reducible refine wgd_cases ?_ ?_ <;> intro hb) | (with_reducible refine wcond_cases ?_ ?_ <;> intro hb) | (with_reducible refine qd_i (by kernel_rfl) ?_) | (with_reducible refine W_itn_cases ?_ ?_; omega))
    have hy : y = 2199 := by omega
    refine tail _ _ _ (by subst hy; unfold befZ; omega) ?_ ?_ hst
    · simp -implicitDefEqProofs only [ze, zd, simprocAttr]; exact h0
    · simp -implicitDefEqProofs only [ze, zd, simprocAttr]; exact h2
theorem isDay_ok (n : Int) : L.pl 67 [.i64 n] = some (.ret (.bool (dayS n))) := by
  refine W_of (pl_w k67_eq ?_)
  simp only [k67]
  cases h : dayS n with
  | true =>
    obtain ⟨d, m, y, hd⟩ := date_ok n h
    repeat' (first | (simp -implicitDefEqProofs only [ze, zd, simprocAttr, hd]) | (with_reducible refine wgd_cases ?_ ?_ <;> intro hb) | (with_reducible refine wcond_cases ?_ ?_ <;> intro hb) | (with_reducible refine qd_i (by kernel_rfl) ?_) | (with_reducible refine W_itn_cases ?_ ?_; omega))
  | false =>
    have hd : L.pl 89 [.i64 n] = some (.ret (.tup [.agg [.i64 0, .i64 0, .i64 0], .i64 11])) := by
      refine W_of (pl_w k89_eq ?_)
      simp only [k89]
      repeat' (first | (simp -implicitDefEqProofs only [ze, zd, simprocAttr, is_ok, h]) | (with_reducible refine wgd_cases ?_ ?_ <;> intro hb) | (with_reducible refine wcond_cases ?_ ?_ <;> intro hb) | (with_reducible refine qd_i (by kernel_rfl) ?_) | (with_reducible refine W_itn_cases ?_ ?_; omega))
    repeat' (first | (simp -implicitDefEqProofs only [ze, zd, simprocAttr, hd]) | (with_reducible refine wgd_cases ?_ ?_ <;> intro hb) | (with_reducible refine wcond_cases ?_ ?_ <;> intro hb) | (with_reducible refine qd_i (by kernel_rfl) ?_) | (with_reducible refine W_itn_cases ?_ ?_; omega))
end Go.Proofs.YtkbheoganajhaaaDoor.Vm
set_option maxRecDepth 10000
set_option linter.unusedVariables false
set_option linter.unusedSimpArgs false
namespace Go.Proofs.YtkbheoganajhaaaDoor.Vm
open Go Go.Proofs
structure Entry where
  no : Int
  ent : ByteArray
  book : Int
  val : Int
  kind : Int
  ref : ByteArray
  who : ByteArray
  rev : Int
  lines : List Line
  lr : Bool
def encE (e : Entry) : V := .agg [.i64 e.no, .str e.ent, .i64 e.book, .i64 e.val, .i64 e.kind, .str e.ref, .str e.who, .i64 e.rev, .list (te e.lr 61) (e.lines.map encL) (nr e.lr)]
structure smallE (e : Entry) : Prop where
  ent : small e.ent
  ref : small e.ref
  who : small e.who
  lines : ∀ l ∈ e.lines, smallL l
  len : e.lines.length < 4611686018427387904
  nil : e.lr = true → e.lines = []
def headS (e : Entry) : Int :=
  if e.no < 0 ∨ 4000 < e.no ∨ e.rev < 0 ∨ 4000 < e.rev then 3
  else if (codeS e.ent && codeS e.who) = false then 7
  else if (dayS e.book && dayS e.val) = false then 11
  else if e.kind < 1 ∨ 7 < e.kind then 10
  else if plainS e.ref = false then 5
  else if e.lines.length < 2 then 2
  else if 100 < e.lines.length then 9
  else 0
theorem head_ok (e : Entry) (hs : smallE e) : L.pl 45 [encE e] = some (.ret (.i64 (headS e))) := by
  refine W_of (pl_w k45_eq ?_)
  simp only [k45, encE]
  repeat' (first | (simp -implicitDefEqProofs only [ze, zd, simprocAttr, code_ok, isDay_ok, plain_ok, nr_pur, List.length_map]) | (with_reducible refine wgd_cases ?_ ?_ <;> intro hb) | (with_reducible refine wcond_cases ?_ ?_ <;> intro hb) | (with_reducible refine qd_i (by kernel_rfl) ?_) | (with_reducible refine W_itn_cases ?_ ?_; omega))
  all_goals (refine ret_i ?_; simp_all [headS]; try omega)
noncomputable instance : DecidableEq Tag := fun a b => Classical.propDecidable _
noncomputable instance : DecidableEq Line := fun a b => Classical.propDecidable _
noncomputable instance : DecidableEq Entry := fun a b => Classical.propDecidable _
def Line.k (l : Line) : Line := { l with tr := false }
def Entry.k (e : Entry) : Entry := { e with lines := e.lines.map Line.k, lr := false }
theorem list_eq {α : Type} {a b : List α} (hl : a.length = b.length) (hp : ∀ j, j < a.length → a[j]? = b[j]?) : a = b := by
  apply List.ext_getElem?
  intro j
  rcases Nat.lt_or_ge j a.length with h | h
  · exact hp j h
  · rw [List.getElem?_eq_none h, List.getElem?_eq_none (by omega)]
theorem list_ne {α : Type} {a b : List α} {i : Nat} {x y : α} (hx : a[i]? = some x) (hy : b[i]? = some y) (h : ¬ x = y) : ¬ a = b := fun e => by
  subst e; rw [hx] at hy; exact h (Option.some.inj hy)
theorem tag_ext {a b : Tag} : a = b ↔ a.n = b.n ∧ a.v = b.v := by cases a; cases b; simp
theorem lk_ext {a b : Line} : a.k = b.k ↔ a.acc = b.acc ∧ a.cur = b.cur ∧ a.amt = b.amt ∧ a.base = b.base ∧ a.par = b.par ∧ a.pty = b.pty ∧ a.tags = b.tags := by cases a; cases b; simp [Line.k]
theorem ek_ext {a b : Entry} : a.k = b.k ↔ a.no = b.no ∧ a.ent = b.ent ∧ a.book = b.book ∧ a.val = b.val ∧ a.kind = b.kind ∧ a.ref = b.ref ∧ a.who = b.who ∧ a.rev = b.rev ∧ a.lines.map Line.k = b.lines.map Line.k := by cases a; cases b; simp [Entry.k]
theorem te_or {α : Type} {l : List α} {b : Bool} (h : b = true → l = []) (e : Nat) : l = [] ∨ te b e = e := by
  cases b
  · exact .inr rfl
  · exact .inl (h rfl)
theorem tagsame_ok (a b : List Tag) (ea eb ra rb : Nat) (hl : a.length < 4611686018427387904) (hea : a = [] ∨ ea = 97) (heb : b = [] ∨ eb = 97) : L.pl 103 [.list ea (a.map encT) ra, .list eb (b.map encT) rb] = some (.ret (.bool (decide (a = b)))) := by
  refine W_of (pl_w k103_eq ?_)
  simp only [k103, k103_t0]
  by_cases hlen : a.length = b.length
  · have hd : decide ((a.length : Int) = (b.length : Int)) = true := decide_eq_true (by omega)
    repeat' (first | (simp -implicitDefEqProofs only [ze, zd, simprocAttr, List.length_map, hd]) | (with_reducible refine wgd_cases ?_ ?_ <;> intro hb) | (with_reducible refine wcond_cases ?_ ?_ <;> intro hb) | (with_reducible refine qd_i (by kernel_rfl) ?_) | (with_reducible refine W_itn_cases ?_ ?_; omega))
    refine loop_w (fun n tm st nx => ∃ i : Nat, n = a.length - i ∧ i ≤ a.length ∧ tm 5 = .i64 i ∧ tm 0 = .list ea (a.map encT) ra ∧ tm 1 = .list eb (b.map encT) rb ∧ ∀ j, j < i → a[j]? = b[j]?) a.length ⟨0, by omega, by omega, ?_, ?_, ?_, by omega⟩ ?_
    · simp -implicitDefEqProofs only [ze, zd, simprocAttr]; try rfl
    · simp -implicitDefEqProofs only [ze, zd, simprocAttr]
    · simp -implicitDefEqProofs only [ze, zd, simprocAttr]
    · rintro n tm st nx ⟨i, hi, hi2, h5, h0, h1, hp⟩
      simp only [k103_l0]
      by_cases hlt : i < a.length
      · have e1 : ea = 97 := by
          rcases hea with rfl | h
          · simp at hlt
          · exact h
        have e2 : eb = 97 := by
          rcases heb with rfl | h
          · rw [List.length_nil] at hlen; omega
          · exact h
        subst e1; subst e2
        obtain ⟨x, hx⟩ := get_lt hlt
        obtain ⟨y, hy⟩ := get_lt (l := b) (i := i) (by omega)
        have hd : decide ((i : Int) < (a.length : Int)) = true := decide_eq_true (by omega)
        repeat' (first | (simp -implicitDefEqProofs only [ze, zd, simprocAttr, h5, h0, h1, hd, hx, hy, encT, List.length_map, tag_ext]) | (with_reducible refine wgd_cases ?_ ?_ <;> intro hb) | (with_reducible refine wcond_cases ?_ ?_ <;> intro hb) | (with_reducible refine qd_i (by kernel_rfl) ?_) | (with_reducible refine W_itn_cases ?_ ?_; omega))
        · exact ret_b (decide_eq_false (list_ne hx hy fun e => by subst e; simp at hb)).symm
        · have hxy : x = y := by rw [tag_ext]; simpa using hb
          refine ⟨a.length - (i + 1), by omega, i + 1, rfl, by omega, up64 (by omega), fun j hj => ?_⟩
          rcases Nat.lt_succ_iff_lt_or_eq.mp hj with h | rfl
          · exact hp j h
          · rw [hx, hy, hxy]
      · have hd : decide ((i : Int) < (a.length : Int)) = false := decide_eq_false (by omega)
        repeat' (first | (simp -implicitDefEqProofs only [ze, zd, simprocAttr, h5, h0, h1, hd, List.length_map]) | (with_reducible refine wgd_cases ?_ ?_ <;> intro hb) | (with_reducible refine wcond_cases ?_ ?_ <;> intro hb) | (with_reducible refine qd_i (by kernel_rfl) ?_) | (with_reducible refine W_itn_cases ?_ ?_; omega))
        exact ret_b (decide_eq_true (list_eq hlen fun j hj => hp j (by omega))).symm
  · have hd : decide ((a.length : Int) = (b.length : Int)) = false := decide_eq_false (by omega)
    repeat' (first | (simp -implicitDefEqProofs only [ze, zd, simprocAttr, List.length_map, hd]) | (with_reducible refine wgd_cases ?_ ?_ <;> intro hb) | (with_reducible refine wcond_cases ?_ ?_ <;> intro hb) | (with_reducible refine qd_i (by kernel_rfl) ?_) | (with_reducible refine W_itn_cases ?_ ?_; omega))
    exact ret_b (decide_eq_false fun e => hlen (by rw [e])).symm
def nilL (l : Line) : Prop := l.tr = true → l.tags = []
theorem alike_ok (a b : Line) (hl : a.tags.length < 4611686018427387904) (hna : nilL a) (hnb : nilL b) : L.pl 94 [encL a, encL b] = some (.ret (.bool (decide (a.acc = b.acc) && decide (a.cur = b.cur) && decide (a.par = b.par) && decide (a.pty = b.pty) && decide (a.tags = b.tags)))) := by
  refine W_of (pl_w k94_eq ?_)
  simp only [k94, encL]
  repeat' (first | (simp -implicitDefEqProofs only [ze, zd, simprocAttr, tagsame_ok a.tags b.tags (te a.tr 97) (te b.tr 97) (nr a.tr) (nr b.tr) hl (te_or hna _) (te_or hnb _), nr_pur]) | (with_reducible refine wgd_cases ?_ ?_ <;> intro hb) | (with_reducible refine wcond_cases ?_ ?_ <;> intro hb) | (with_reducible refine qd_i (by kernel_rfl) ?_) | (with_reducible refine W_itn_cases ?_ ?_; omega))
  all_goals (refine ret_b ?_; simp_all)
theorem sameline_ok (a b : Line) (hl : a.tags.length < 4611686018427387904) (hna : nilL a) (hnb : nilL b) : L.pl 80 [encL a, encL b] = some (.ret (.bool (decide (a.k = b.k)))) := by
  have h := alike_ok a b hl hna hnb
  simp only [encL] at h
  refine W_of (pl_w k80_eq ?_)
  simp only [k80, encL]
  repeat' (first | (simp -implicitDefEqProofs only [ze, zd, simprocAttr, h, nr_pur]) | (with_reducible refine wgd_cases ?_ ?_ <;> intro hb) | (with_reducible refine wcond_cases ?_ ?_ <;> intro hb) | (with_reducible refine qd_i (by kernel_rfl) ?_) | (with_reducible refine W_itn_cases ?_ ?_; omega))
  all_goals (refine ret_b (Bool.eq_iff_iff.mpr ?_); simp_all [lk_ext])
  all_goals (first | done | (constructor <;> intros <;> simp_all))
theorem samelines_ok (a b : List Line) (ea eb ra rb : Nat) (hl : a.length < 4611686018427387904) (ht : ∀ l ∈ a, l.tags.length < 4611686018427387904) (hna : ∀ l ∈ a, nilL l) (hnb : ∀ l ∈ b, nilL l) (hea : a = [] ∨ ea = 61) (heb : b = [] ∨ eb = 61) : L.pl 59 [.list ea (a.map encL) ra, .list eb (b.map encL) rb] = some (.ret (.bool (decide (a.map Line.k = b.map Line.k)))) := by
  refine W_of (pl_w k59_eq ?_)
  simp only [k59, k59_t0]
  by_cases hlen : a.length = b.length
  · have hd : decide ((a.length : Int) = (b.length : Int)) = true := decide_eq_true (by omega)
    repeat' (first | (simp -implicitDefEqProofs only [ze, zd, simprocAttr, List.length_map, hd]) | (with_reducible refine wgd_cases ?_ ?_ <;> intro hb) | (with_reducible refine wcond_cases ?_ ?_ <;> intro hb) | (with_reducible refine qd_i (by kernel_rfl) ?_) | (with_reducible refine W_itn_cases ?_ ?_; omega))
    refine loop_w (fun n tm st nx => ∃ i : Nat, n = a.length - i ∧ i ≤ a.length ∧ tm 5 = .i64 i ∧ tm 0 = .list ea (a.map encL) ra ∧ tm 1 = .list eb (b.map encL) rb ∧ ∀ j, j < i → (a.map Line.k)[j]? = (b.map Line.k)[j]?) a.length ⟨0, by omega, by omega, ?_, ?_, ?_, by omega⟩ ?_
    · simp -implicitDefEqProofs only [ze, zd, simprocAttr]; try rfl
    · simp -implicitDefEqProofs only [ze, zd, simprocAttr]
    · simp -implicitDefEqProofs only [ze, zd, simprocAttr]
    · rintro n tm st nx ⟨i, hi, hi2, h5, h0, h1, hp⟩
      simp only [k59_l0]
      by_cases hlt : i < a.length
      · have e1 : ea = 61 := by
          rcases hea with rfl | h
          · simp at hlt
          · exact h
        have e2 : eb = 61 := by
          rcases heb with rfl | h
          · rw [List.length_nil] at hlen; omega
          · exact h
        subst e1; subst e2
        obtain ⟨x, hx⟩ := get_lt hlt
        obtain ⟨y, hy⟩ := get_lt (l := b) (i := i) (by omega)
        have hd : decide ((i : Int) < (a.length : Int)) = true := decide_eq_true (by omega)
        have hs := sameline_ok x y (ht x (List.mem_of_getElem? hx)) (hna x (List.mem_of_getElem? hx)) (hnb y (List.mem_of_getElem? hy))
        simp only [encL] at hs
        have hkx : (a.map Line.k)[i]? = some x.k := by simp [hx]
        have hky : (b.map Line.k)[i]? = some y.k := by simp [hy]
        repeat' (first | (simp -implicitDefEqProofs only [ze, zd, simprocAttr, h5, h0, h1, hd, hx, hy, encL, List.length_map, hs, nr_pur]) | (with_reducible refine wgd_cases ?_ ?_ <;> intro hb) | (with_reducible refine wcond_cases ?_ ?_ <;> intro hb) | (with_reducible refine qd_i (by kernel_rfl) ?_) | (with_reducible refine W_itn_cases ?_ ?_; omega))
        · exact ret_b (decide_eq_false (list_ne hkx hky (by simpa using hb))).symm
        · have hxy : x.k = y.k := by simpa using hb
          refine ⟨a.length - (i + 1), by omega, i + 1, rfl, by omega, up64 (by omega), fun j hj => ?_⟩
          rcases Nat.lt_succ_iff_lt_or_eq.mp hj with h | rfl
          · have := hp j h; rwa [List.getElem?_map, List.getElem?_map] at this
          · rw [hx, hy, Option.map_some, Option.map_some, hxy]
      · have hd : decide ((i : Int) < (a.length : Int)) = false := decide_eq_false (by omega)
        repeat' (first | (simp -implicitDefEqProofs only [ze, zd, simprocAttr, h5, h0, h1, hd, List.length_map]) | (with_reducible refine wgd_cases ?_ ?_ <;> intro hb) | (with_reducible refine wcond_cases ?_ ?_ <;> intro hb) | (with_reducible refine qd_i (by kernel_rfl) ?_) | (with_reducible refine W_itn_cases ?_ ?_; omega))
        exact ret_b (decide_eq_true (list_eq (by simpa using hlen) fun j hj => hp j (by simp at hj; omega))).symm
  · have hd : decide ((a.length : Int) = (b.length : Int)) = false := decide_eq_false (by omega)
    repeat' (first | (simp -implicitDefEqProofs only [ze, zd, simprocAttr, List.length_map, hd]) | (with_reducible refine wgd_cases ?_ ?_ <;> intro hb) | (with_reducible refine wcond_cases ?_ ?_ <;> intro hb) | (with_reducible refine qd_i (by kernel_rfl) ?_) | (with_reducible refine W_itn_cases ?_ ?_; omega))
    exact ret_b (decide_eq_false fun e => hlen (by have := congrArg List.length e; simpa using this)).symm
def nilE (e : Entry) : Prop := (e.lr = true → e.lines = []) ∧ ∀ l ∈ e.lines, nilL l
theorem smallE.nils {e : Entry} (h : smallE e) : nilE e := ⟨h.nil, fun l hl => (h.lines l hl).nil⟩
theorem same_ok (a b : Entry) (hl : a.lines.length < 4611686018427387904) (ht : ∀ l ∈ a.lines, l.tags.length < 4611686018427387904) (hna : nilE a) (hnb : nilE b) : L.pl 34 [encE a, encE b] = some (.ret (.bool (decide (a.k = b.k)))) := by
  refine W_of (pl_w k34_eq ?_)
  simp only [k34, encE]
  repeat' (first | (simp -implicitDefEqProofs only [ze, zd, simprocAttr, samelines_ok a.lines b.lines (te a.lr 61) (te b.lr 61) (nr a.lr) (nr b.lr) hl ht hna.2 hnb.2 (te_or hna.1 _) (te_or hnb.1 _), nr_pur]) | (with_reducible refine wgd_cases ?_ ?_ <;> intro hb) | (with_reducible refine wcond_cases ?_ ?_ <;> intro hb) | (with_reducible refine qd_i (by kernel_rfl) ?_) | (with_reducible refine W_itn_cases ?_ ?_; omega))
  all_goals (refine ret_b (Bool.eq_iff_iff.mpr ?_); simp_all [ek_ext])
end Go.Proofs.YtkbheoganajhaaaDoor.Vm
set_option linter.unusedVariables false
set_option linter.unusedSimpArgs false
namespace Go.Proofs.YtkbheoganajhaaaDoor.Vm.Co
open Go.RowKit
def shl (k : IntKind) (x y : Int) : Int := k.wrap (x * 2 ^ (min y.toNat k.bits))
def bytesOf (s : ByteArray) : List Int := s.data.toList.map fun b : UInt8 => (b.toNat : Int)
theorem u64_small {n : Int} (h0 : 0 ≤ n) (h1 : n < 18446744073709551616) : IntKind.u64.wrap n = n := by
  rw [IntKind.wrap_u64]; omega
theorem w64_small {n : Int} (h0 : -9223372036854775808 ≤ n) (h1 : n < 9223372036854775808) : wrap64 n = n := by
  unfold wrap64; omega
theorem or8_all : ∀ c : Nat, c < 256 → Go.bits .or .u8 (c : Int) 128 = ((c % 128 + 128 : Nat) : Int) := by decide +kernel
theorem and8_all : ∀ c : Nat, c < 256 → Go.bits .and .u8 (c : Int) 127 = ((c % 128 : Nat) : Int) := by decide +kernel
theorem or8 (c : Int) (h0 : 0 ≤ c) (h1 : c < 256) : Go.bits .or .u8 c 128 = c % 128 + 128 := by
  obtain ⟨n, rfl⟩ := Int.eq_ofNat_of_zero_le h0
  rw [or8_all n (by omega)]; omega
theorem and8 (c : Int) (h0 : 0 ≤ c) (h1 : c < 256) : Go.bits .and .u8 c 127 = c % 128 := by
  obtain ⟨n, rfl⟩ := Int.eq_ofNat_of_zero_le h0
  rw [and8_all n (by omega)]; omega
theorem xor_comm_ (k : IntKind) (a b : Int) : Go.bits .xor k a b = Go.bits .xor k b a := by
  unfold Go.bits; simp only [BitVec.xor_comm]
theorem xor_zero_u64 (a : Nat) (h : a < 18446744073709551616) : Go.bits .xor .u64 (a : Int) 0 = a := by
  have := bits_xor_u64_nat a 0 h (by omega)
  rw [Nat.xor_zero] at this; exact this
theorem xor_ones_u64 (a : Nat) (h : a < 18446744073709551616) : Go.bits .xor .u64 (a : Int) 18446744073709551615 = 18446744073709551615 - (a : Int) := by
  show IntKind.u64.wrap ((BitVec.ofInt 64 (a : Int) ^^^ BitVec.ofInt 64 18446744073709551615).toNat : Int) = _
  have h1 : BitVec.ofInt 64 18446744073709551615 = BitVec.allOnes 64 := by decide
  rw [h1, BitVec.xor_allOnes, BitVec.toNat_not, ofInt_u64 a (by omega), IntKind.wrap_u64]
  omega
theorem xor_zero_i64 (a : Nat) (h : a < 9223372036854775808) : Go.bits .xor .i64 (a : Int) 0 = a := by
  show IntKind.i64.wrap ((BitVec.ofInt 64 (a : Int) ^^^ BitVec.ofInt 64 0).toNat : Int) = _
  have h1 : BitVec.ofInt 64 0 = 0#64 := by decide
  rw [h1, BitVec.xor_zero, ofInt_u64 a (by omega), IntKind.wrap_i64]
  omega
def vL : Nat → Int → List Int
  | 0, _ => []
  | f + 1, x => if x ≥ 128 then (x % 128 + 128) :: vL f (x / 128) else [x]
theorem vL_len : ∀ (f : Nat) (x : Int), (vL f x).length ≤ f
  | 0, _ => by simp [vL]
  | f + 1, x => by
    unfold vL; split
    · simp; exact vL_len f _
    · simp
theorem div_lt_pow {x : Int} {f : Nat} (h : x < 128 ^ (f + 1)) : x / 128 < 128 ^ f := by
  rw [Int.pow_succ] at h
  exact Int.ediv_lt_of_lt_mul (by decide) h
def zz (n : Int) : Int := if n < 0 then -2 * n - 1 else 2 * n
theorem zz_range (n : Int) (h0 : -9223372036854775808 ≤ n) (h1 : n < 9223372036854775808) : 0 ≤ zz n ∧ zz n < 18446744073709551616 := by
  unfold zz; split <;> omega
theorem zz_xor (n : Int) (h0 : -9223372036854775808 ≤ n) (h1 : n < 9223372036854775808) :
    Go.bits .xor .u64 (IntKind.u64.wrap ((IntKind.u64.wrap (n)) * 2)) (IntKind.u64.wrap (n / 9223372036854775808)) = zz n := by
  unfold zz
  by_cases hn : n < 0
  · have e1 : IntKind.u64.wrap (IntKind.u64.wrap n * 2) = ((2 * n + 18446744073709551616).toNat : Int) := by
      rw [IntKind.wrap_u64, IntKind.wrap_u64]; omega
    have e2 : IntKind.u64.wrap (n / 9223372036854775808) = 18446744073709551615 := by
      rw [IntKind.wrap_u64]; omega
    rw [e1, e2, xor_ones_u64 _ (by omega), if_pos hn]; omega
  · have e1 : IntKind.u64.wrap (IntKind.u64.wrap n * 2) = ((2 * n).toNat : Int) := by
      rw [IntKind.wrap_u64, IntKind.wrap_u64]; omega
    have e2 : IntKind.u64.wrap (n / 9223372036854775808) = 0 := by
      rw [IntKind.wrap_u64]; omega
    rw [e1, e2, xor_zero_u64 _ (by omega), if_neg hn]; omega
def putS (n : Int) : List Int := vL 10 (zz n)
theorem putS_ne (n : Int) : putS n ≠ [] := by unfold putS vL; split <;> simp
theorem putS_len (n : Int) : (putS n).length ≤ 10 := vL_len _ _
def fin (x : Int) : Int := if x % 2 = 1 then -(x / 2) - 1 else x / 2
def badS (i : Nat) (b : Int) : Bool := (decide (i = 9) && decide (b > 1)) || (decide (i > 0) && decide (b = 0))
def tS : List Int → Nat → Int → Int × Int × Int
  | [], i, _ => if i < 10 then (0, 0, 6) else (0, 0, 5)
  | b :: s, i, x => if i < 10 then (if badS i b = true then (0, 0, 5) else if b < 128 then (fin (x + b % 128 * 128 ^ i), ((i + 1 : Nat) : Int), 0) else tS s (i + 1) (x + b % 128 * 128 ^ i)) else (0, 0, 5)
theorem pow128 (i : Nat) : ((128 ^ i : Nat) : Int) = (128 : Int) ^ i := by rw [Int.natCast_pow]; rfl
theorem step_bound (i : Nat) (x b : Int) (hi : i < 10) (hx0 : 0 ≤ x) (hx : x < 128 ^ i) (hb0 : 0 ≤ b) (hb1 : b < 256) (h9 : i = 9 → b ≤ 1) :
    0 ≤ b % 128 * 128 ^ i ∧ x + b % 128 * 128 ^ i < 18446744073709551616 ∧ x + b % 128 * 128 ^ i < 128 ^ (i + 1) := by
  have hp : (0 : Int) < 128 ^ i := Int.pow_pos (by decide)
  have hc0 : 0 ≤ b % 128 := by omega
  have hc1 : b % 128 ≤ 127 := by omega
  have h1 := Int.mul_nonneg hc0 (Int.le_of_lt hp)
  have h2 : b % 128 * 128 ^ i ≤ 127 * 128 ^ i := Int.mul_le_mul_of_nonneg_right hc1 (Int.le_of_lt hp)
  have h3 : x + b % 128 * 128 ^ i < 128 ^ (i + 1) := by rw [Int.pow_succ]; omega
  refine ⟨h1, ?_, h3⟩
  by_cases h : i = 9
  · subst h
    have := h9 rfl
    have e : (128 : Int) ^ 9 = 9223372036854775808 := by decide
    rw [e] at hx ⊢
    omega
  · have h4 : (128 : Nat) ^ (i + 1) ≤ 128 ^ 9 := Nat.pow_le_pow_right (by decide) (by omega)
    have h5 : (128 : Int) ^ (i + 1) ≤ 9223372036854775808 := by rw [← pow128]; have : 128 ^ 9 = 9223372036854775808 := by decide
                                                                omega
    omega
theorem or_shift (i : Nat) (x b : Int) (hi : i < 10) (hx0 : 0 ≤ x) (hx : x < 128 ^ i) (hb0 : 0 ≤ b) (hb1 : b < 256) (h9 : i = 9 → b ≤ 1) :
    Go.bits .or .u64 x (shl .u64 (IntKind.u64.wrap (Go.bits .and .u8 b 127)) (wrap64 (7 * (i : Int)))) = x + b % 128 * 128 ^ i := by
  obtain ⟨s1, s2, s3⟩ := step_bound i x b hi hx0 hx hb0 hb1 h9
  rw [and8 b hb0 hb1, u64_small (by omega) (by omega), w64_small (by omega) (by omega)]
  obtain ⟨c, hc⟩ := Int.eq_ofNat_of_zero_le (show 0 ≤ b % 128 by omega)
  obtain ⟨y, rfl⟩ := Int.eq_ofNat_of_zero_le hx0
  rw [hc] at s1 s2 s3 ⊢
  have e : (c : Int) * 128 ^ i = ((c <<< (7 * i) : Nat) : Int) := by
    rw [Nat.shiftLeft_eq, Int.natCast_mul, Nat.pow_mul, pow128]
  rw [e] at s1 s2 s3 ⊢
  have e2 : shl .u64 (c : Int) (7 * (i : Int)) = ((c <<< (7 * i) : Nat) : Int) := by
    unfold shl
    have hm : min (7 * (i : Int)).toNat IntKind.u64.bits = 7 * i := by
      have : IntKind.u64.bits = 64 := rfl
      omega
    have e3 : (c : Int) * 2 ^ (7 * i) = ((c <<< (7 * i) : Nat) : Int) := by
      rw [Nat.shiftLeft_eq, Int.natCast_mul, Int.natCast_pow]; rfl
    rw [hm, e3]
    exact u64_small s1 (by omega)
  rw [e2]
  have hy : y < 2 ^ (7 * i) := by
    rw [Nat.pow_mul]
    have : (y : Int) < ((128 ^ i : Nat) : Int) := by rw [pow128]; exact hx
    exact_mod_cast this
  rw [bits_or_u64_nat _ _ (by omega) (by omega), Nat.or_comm, ← Nat.shiftLeft_add_eq_or_of_lt hy]
  omega
theorem fin_xor (x : Int) (h0 : 0 ≤ x) (h1 : x < 18446744073709551616) :
    Go.bits .xor .i64 (wrap64 (x / 2)) (wrap64 (-(wrap64 (Go.bits .and .u64 x 1)))) = fin x := by
  obtain ⟨n, rfl⟩ := Int.eq_ofNat_of_zero_le h0
  have e := bits_and_u64_nat n 1 (by omega) (by omega)
  rw [Nat.and_one_is_mod] at e
  have e' : Go.bits .and .u64 (n : Int) 1 = ((n % 2 : Nat) : Int) := e
  rw [e', w64_small (n := (n : Int) / 2) (by omega) (by omega), w64_small (n := ((n % 2 : Nat) : Int)) (by omega) (by omega), show (n : Int) / 2 = ((n / 2 : Nat) : Int) by omega]
  unfold fin
  rcases Nat.mod_two_eq_zero_or_one n with h | h
  · rw [h, if_neg (by omega), show wrap64 (-((0 : Nat) : Int)) = 0 by (unfold wrap64; omega), xor_zero_i64 _ (by omega)]; omega
  · rw [h, if_pos (by omega), show wrap64 (-((1 : Nat) : Int)) = -1 by (unfold wrap64; omega), xor_comm_, i64_not _ (by omega)]; omega
theorem bad_no {i : Nat} {b : Int} (h : badS i b = false) : (i = 9 → b ≤ 1) ∧ (i > 0 → b ≠ 0) := by
  simp only [badS, Bool.or_eq_false_iff, Bool.and_eq_false_iff, decide_eq_false_iff_not] at h
  omega
theorem fin_zz (n : Int) : fin (zz n) = n := by unfold fin zz; split <;> split <;> omega
theorem t_v (more : List Int) : ∀ (f : Nat) (y : Int) (i : Nat) (x : Int), y < 128 ^ (f + 1) → i + f ≤ 9 → 0 ≤ x → 0 ≤ y → (i > 0 → y ≠ 0) → x + y * 128 ^ i < 18446744073709551616 → tS (vL (f + 1) y ++ more) i x = (fin (x + y * 128 ^ i), ((i + (vL (f + 1) y).length : Nat) : Int), 0) := by
  intro f
  induction f with
  | zero =>
    intro y i x h1 hi hx0 hy0 hyi hm
    have h1 : y < 128 := h1
    have hbad : badS i y = false := by
      simp only [badS, Bool.or_eq_false_iff, Bool.and_eq_false_iff, decide_eq_false_iff_not]
      refine ⟨?_, by omega⟩
      by_cases h : i = 9
      · subst h; have e : (128 : Int) ^ 9 = 9223372036854775808 := by decide
        rw [e] at hm; omega
      · exact .inl h
    rw [vL, if_neg (by omega)]
    simp only [List.cons_append, List.nil_append, tS, hbad, Bool.false_eq_true, if_false, if_pos h1, if_pos (show i < 10 by omega), show y % 128 = y by omega, List.length_cons, List.length_nil]
  | succ f ih =>
    intro y i x h1 hi hx0 hy0 hyi hm
    by_cases hy : y ≥ 128
    · have hbad : badS i (y % 128 + 128) = false := by
        simp only [badS, Bool.or_eq_false_iff, Bool.and_eq_false_iff, decide_eq_false_iff_not]
        omega
      rw [vL, if_pos hy]
      have hp : (0 : Int) < 128 ^ i := Int.pow_pos (by decide)
      have hq : 0 ≤ y % 128 * 128 ^ i := Int.mul_nonneg (by omega) (by omega)
      have e : x + y % 128 * 128 ^ i + y / 128 * 128 ^ (i + 1) = x + y * 128 ^ i := by
        have : y * 128 ^ i = (y % 128 + 128 * (y / 128)) * 128 ^ i := by rw [Int.emod_add_mul_ediv]
        rw [this, Int.pow_succ, Int.add_mul]
        have : y / 128 * (128 ^ i * 128) = 128 * (y / 128) * 128 ^ i := by
          rw [Int.mul_comm (128 ^ i) 128, ← Int.mul_assoc, Int.mul_comm (y / 128) 128]
        omega
      have := ih (y / 128) (i + 1) (x + y % 128 * 128 ^ i) (div_lt_pow h1) (by omega) (by omega) (by omega) (fun _ => by omega) (by omega)
      simp only [List.cons_append, tS, hbad, Bool.false_eq_true, if_false, if_neg (show ¬ y % 128 + 128 < 128 by omega), if_pos (show i < 10 by omega), show (y % 128 + 128) % 128 = y % 128 by omega, List.length_cons, this, e]
      simp only [Prod.mk.injEq, true_and, and_true]
      omega
    · have h1 : y < 128 := by omega
      have hbad : badS i y = false := by
        simp only [badS, Bool.or_eq_false_iff, Bool.and_eq_false_iff, decide_eq_false_iff_not]
        omega
      rw [vL, if_neg (by omega)]
      simp only [List.cons_append, List.nil_append, tS, hbad, Bool.false_eq_true, if_false, if_pos h1, if_pos (show i < 10 by omega), show y % 128 = y by omega, List.length_cons, List.length_nil]
theorem t_put (n : Int) (h0 : -9223372036854775808 ≤ n) (h1 : n < 9223372036854775808) (more : List Int) : tS (putS n ++ more) 0 0 = (n, ((putS n).length : Int), 0) := by
  have hz := zz_range n h0 h1
  have := t_v more 9 (zz n) 0 0 (by have : (128 : Int) ^ 10 = 1180591620717411303424 := by decide
                                    omega) (by omega) (by omega) hz.1 (by omega) (by rw [Int.pow_zero]; omega)
  rw [Int.pow_zero, Int.zero_add, Int.mul_one, fin_zz, Nat.zero_add] at this
  exact this
theorem vL_range : ∀ (f : Nat) (x : Int), 0 ≤ x → ∀ b ∈ vL f x, 0 ≤ b ∧ b < 256
  | 0, _, _ => by simp [vL]
  | f + 1, x, h0 => by
    intro b hb
    unfold vL at hb
    split at hb
    · rcases List.mem_cons.1 hb with rfl | hb
      · omega
      · exact vL_range f (x / 128) (by omega) b hb
    · rcases List.mem_cons.1 hb with rfl | hb
      · omega
      · cases hb
theorem tS_pos : ∀ (s : List Int) (i : Nat) (x : Int), 0 ≤ (tS s i x).2.1 ∧ (tS s i x).2.1 ≤ ((i + s.length : Nat) : Int)
  | [], i, x => by unfold tS; split <;> simp <;> omega
  | b :: s, i, x => by
    unfold tS
    split
    · split
      · simp; omega
      · split
        · simp; omega
        · have := tS_pos s (i + 1) (x + b % 128 * 128 ^ i)
          simp only [List.length_cons]; omega
    · simp; omega
theorem bytes_range (s : ByteArray) : ∀ b ∈ bytesOf s, 0 ≤ b ∧ b < 256 := by
  intro b hb
  obtain ⟨c, _, rfl⟩ := List.mem_map.1 hb
  have := c.toNat_lt
  omega
end Go.Proofs.YtkbheoganajhaaaDoor.Vm.Co
set_option maxRecDepth 10000
set_option linter.unusedVariables false
set_option linter.unusedSimpArgs false
namespace Go.Proofs.YtkbheoganajhaaaDoor.Vm
open Go Go.Proofs
def bv (l : List Int) : List V := l.map fun b => V.sc (.int .u8 b)
theorem bv_app (a b : List Int) : bv (a ++ b) = bv a ++ bv b := by simp [bv]
theorem bv_len (a : List Int) : (bv a).length = a.length := by simp [bv]
def i64r (n : Int) : Prop := -9223372036854775808 ≤ n ∧ n < 9223372036854775808
def Grow (st : St) (nx : Nat) (e : Nat) (xs : List V) (v : V) : Prop := (xs = [] ∧ v = .list 0 [] 1) ∨ ∃ r, 8 ≤ r ∧ r < nx ∧ v = .list e xs r ∧ st r = some (.tok xs.length e)
theorem putint_ok (n : Int) (hn : i64r n) : L.pl 76 [.i64 n] = some (.ret (.list 5 (bv (Co.putS n)) (8 + 5))) := by
  refine W_of (pl_w k76_eq ?_)
  simp only [k76]
  have hz := Co.zz_xor n hn.1 hn.2
  have hr := Co.zz_range n hn.1 hn.2
  repeat' (first | (simp -implicitDefEqProofs only [ze, zd, simprocAttr]) | (with_reducible refine wgd_cases ?_ ?_ <;> intro hb) | (with_reducible refine wcond_cases ?_ ?_ <;> intro hb) | (with_reducible refine qd_i (by kernel_rfl) ?_) | (with_reducible refine W_itn_cases ?_ ?_; omega))
  refine loop_w (fun k tm st nx => ∃ (out : List Int) (x : Int) (v : V), k < 10 ∧ out.length + k ≤ 9 ∧ 0 ≤ x ∧ x < 128 ^ (k + 1) ∧ out ++ Co.vL (k + 1) x = Co.putS n ∧ tm 3 = .sc (.int .u64 x) ∧ tm 2 = v ∧ Grow st nx 5 (bv out) v) 9 ⟨[], Co.zz n, _, by omega, by simp, hr.1, ?_, rfl, ?_, rfl, .inl ⟨rfl, ?_⟩⟩ ?_
  · have : (128 : Int) ^ (9 + 1) = 1180591620717411303424 := by decide
    omega
  · simp -implicitDefEqProofs only [ze, zd, simprocAttr]
    rw [shr_eq n _ 9223372036854775808 (by decide)]
    refine congrArg _ (congrArg _ ?_)
    rw [← hz]
    rfl
  · simp -implicitDefEqProofs only [ze, zd, simprocAttr]
  rintro k tm st nx ⟨out, x, v, hk, hk2, hx0, hx1, ho, h3, h2, hg⟩
  simp only [k76_l0]
  have hw8 : IntKind.u8.wrap x = x % 256 := by rw [IntKind.wrap_u8]
  have hor : Go.bits .or .u8 (x % 256) 128 = x % 128 + 128 := by rw [Co.or8 _ (by omega) (by omega)]; omega
  have hsh : x.fdiv (2 ^ Nat.min 7 IntKind.u64.bits) = x / 128 := shr_eq x _ 128 (by decide)
  have hlen := bv_len out
  by_cases hc : 128 ≤ x
  · have hd : decide ((128 : Int) ≤ x) = true := decide_eq_true hc
    have hk0 : 0 < k := by
      rcases Nat.eq_zero_or_pos k with rfl | h
      · simp at hx1; omega
      · exact h
    obtain ⟨k, rfl⟩ : ∃ j, k = j + 1 := ⟨k - 1, by omega⟩
    have hnext : (out ++ [x % 128 + 128]) ++ Co.vL (k + 1) (x / 128) = Co.putS n := by
      rw [← ho]; conv => rhs; rw [Co.vL, if_pos hc]
      simp
    have hbnd := Co.div_lt_pow hx1
    rcases hg with ⟨hb, rfl⟩ | ⟨r, hr8, hrn, rfl, hst⟩
    · have hout : out = [] := by simpa [bv] using hb
      subst hout
      repeat' (first | (simp -implicitDefEqProofs only [ze, zd, simprocAttr, h3, h2, hd, hw8, hor, hsh]) | (with_reducible refine wgd_cases ?_ ?_ <;> intro hb) | (with_reducible refine wcond_cases ?_ ?_ <;> intro hb) | (with_reducible refine qd_i (by kernel_rfl) ?_) | (with_reducible refine W_itn_cases ?_ ?_; omega))
      exact ⟨k, by omega, [x % 128 + 128], x / 128, _, by omega, by simp at hk2 ⊢; omega, by omega, hbnd, hnext, rfl, rfl, .inr ⟨nx + 56, by omega, by omega, rfl, by rw [upd_at, if_pos rfl]; rfl⟩⟩
    · have hr0 : (r = 0) = False := eq_false (by omega)
      have hr1 : (r = 1) = False := eq_false (by omega)
      have hrx : ∀ j, (r = nx + j) = False := fun j => eq_false (by omega)
      repeat' (first | (simp -implicitDefEqProofs only [ze, zd, simprocAttr, h3, h2, hd, hr0, hr1, hrx, hst, bv_len, hw8, hor, hsh]) | (with_reducible refine wgd_cases ?_ ?_ <;> intro hb) | (with_reducible refine wcond_cases ?_ ?_ <;> intro hb) | (with_reducible refine qd_i (by kernel_rfl) ?_) | (with_reducible refine W_itn_cases ?_ ?_; omega))
      exact ⟨k, by omega, out ++ [x % 128 + 128], x / 128, _, by omega, by simp; omega, by omega, hbnd, hnext, rfl, rfl, .inr ⟨r, hr8, by omega, by rw [bv_app]; rfl, by rw [upd_at, if_pos rfl, bv_len]; simp⟩⟩
  · have hd : decide ((128 : Int) ≤ x) = false := decide_eq_false hc
    have hx2 : x % 256 = x := by omega
    have hlast : out ++ [x] = Co.putS n := by rw [← ho, Co.vL, if_neg hc]
    rcases hg with ⟨hb, rfl⟩ | ⟨r, hr8, hrn, rfl, hst⟩
    · have hout : out = [] := by simpa [bv] using hb
      subst hout
      have hnx : ∀ j, 8 ≤ j → (nx + j < 8) = False := fun j h => eq_false (by omega)
      repeat' (first | (simp -implicitDefEqProofs only [ze, zd, simprocAttr, h3, h2, hd, hw8, hx2, k76_t0, hnx 48 (by omega)]) | (with_reducible refine wgd_cases ?_ ?_ <;> intro hb) | (with_reducible refine wcond_cases ?_ ?_ <;> intro hb) | (with_reducible refine qd_i (by kernel_rfl) ?_) | (with_reducible refine W_itn_cases ?_ ?_; omega))
      rw [← hlast]; rfl
    · have hr0 : (r = 0) = False := eq_false (by omega)
      have hr1 : (r = 1) = False := eq_false (by omega)
      have hr9 : (r < 8) = False := eq_false (by omega)
      have hrx : ∀ j, (r = nx + j) = False := fun j => eq_false (by omega)
      repeat' (first | (simp -implicitDefEqProofs only [ze, zd, simprocAttr, h3, h2, hd, hr0, hr1, hr9, hrx, hst, bv_len, hw8, hx2, k76_t0, List.length_append]) | (with_reducible refine wgd_cases ?_ ?_ <;> intro hb) | (with_reducible refine wcond_cases ?_ ?_ <;> intro hb) | (with_reducible refine qd_i (by kernel_rfl) ?_) | (with_reducible refine W_itn_cases ?_ ?_; omega))
      rw [← hlast, bv_app]; rfl
end Go.Proofs.YtkbheoganajhaaaDoor.Vm
set_option maxRecDepth 10000
set_option linter.unusedVariables false
set_option linter.unusedSimpArgs false
namespace Go.Proofs.YtkbheoganajhaaaDoor.Vm
open Go Go.Proofs
def ptB (s : ByteArray) : List Int := Co.putS s.size ++ Co.bytesOf s
theorem bytesV_bv (s : ByteArray) : bytesV s = bv (Co.bytesOf s) := by simp [bytesV, bv, Co.bytesOf]
theorem plain_size {s : ByteArray} (h : plainS s = true) : s.size ≤ 60 := by
  simp only [plainS, Bool.and_eq_true, decide_eq_true_eq] at h; exact h.1
theorem bytesOf_len (s : ByteArray) : (Co.bytesOf s).length = s.size := by simp [Co.bytesOf]
theorem puttext_ok (s : ByteArray) (h : plainS s = true) : L.pl 77 [.str s] = some (.ret (.tup [.list 5 (bv (ptB s)) (8 + 5), .i64 0])) := by
  refine W_of (pl_w k77_eq ?_)
  simp only [k77]
  have hs := plain_size h
  have h1 := Co.putS_len s.size
  have h2 := bytesOf_len s
  repeat' (first | (simp -implicitDefEqProofs only [ze, zd, simprocAttr, plain_ok, h, putint_ok (s.size : Int) ⟨by omega, by omega⟩, bytesV_bv, bv_len, List.length_append]) | (with_reducible refine wgd_cases ?_ ?_ <;> intro hb) | (with_reducible refine wcond_cases ?_ ?_ <;> intro hb) | (with_reducible refine qd_i (by kernel_rfl) ?_) | (with_reducible refine W_itn_cases ?_ ?_; omega))
  rw [ptB, bv_app]
def Enc (st : St) (nx id : Nat) (out : List Int) : Prop := id < nx ∧ ∃ v, st id = some (.cells [v]) ∧ Grow st nx 5 (bv out) v
def Keep (st st' : St) (nx id : Nat) : Prop := ∀ i cs, i < nx → i ≠ id → st i = some (.cells cs) → st' i = some (.cells cs)
theorem W_hp {o : Option HR} {D : HR → Prop} {C : R → Prop} (h : W o D) (k : ∀ r, D r → W (match some r with | some (.ret v st' n) => some (R.big v st' n) | some (.pan v st' n) => some (.bpan v st' n) | none => none) C) : W (match o with | some (.ret v st' n) => some (R.big v st' n) | some (.pan v st' n) => some (.bpan v st' n) | none => none) C := by
  obtain ⟨r, rfl, hd⟩ := h; exact k r hd
theorem number_ok {st : St} {nx id : Nat} {out : List Int} (he : Enc st nx id out) (n : Int) (hn : i64r n) (hl : out.length ≤ 1000000000) :
    W (L.hp 48 [.ptr id 0, .i64 n] st nx) fun r => ∃ st' nx', r = .ret (.tup []) st' nx' ∧ nx ≤ nx' ∧ Enc st' nx' id (out ++ Co.putS n) ∧ Keep st st' nx id := by
  refine hp_w k48_eq ?_
  simp only [k48]
  obtain ⟨hid, v, hv, hg⟩ := he
  have h1 := Co.putS_len n
  have hne : ∀ j, (id = nx + j) = False := fun j => eq_false (by omega)
  have hne' : ∀ j, (nx + j = id) = False := fun j => eq_false (by omega)
  rcases hg with ⟨hb, rfl⟩ | ⟨r, hr8, hrn, rfl, hst⟩
  · have hout : out = [] := by simpa [bv] using hb
    subst hout
    repeat' (first | (simp -implicitDefEqProofs only [ze, zd, simprocAttr, hv, putint_ok n hn, hne, hne', bv_len]) | (with_reducible refine W_itn_cases ?_ ?_; omega))
    refine qd_i ?_ ?_
    · simp [recsOk, ordB, Rec.free, Rec.wr, disj, List.range, List.range.loop, hne, hne']; try decide
    · simp -implicitDefEqProofs only [ze, zd, simprocAttr]
      refine ⟨_, _, rfl, by omega, ⟨by omega, _, by rw [upd_at, if_pos rfl], .inr ⟨nx + 56, by omega, by omega, by simp, ?_⟩⟩, fun i cs h1 h2 h3 => ?_⟩
      · simp [upd_at, hne', bv_len]
      · have a1 : ¬ i = nx + 48 := by omega
        have a2 : ¬ i = nx + 56 := by omega
        simp [upd_at, h2, a1, a2, h3]
  · have hr0 : (r = 0) = False := eq_false (by omega)
    have hr1 : (r = 1) = False := eq_false (by omega)
    have hrx : ∀ j, (r = nx + j) = False := fun j => eq_false (by omega)
    have hrx' : ∀ j, (nx + j = r) = False := fun j => eq_false (by omega)
    have hri : ¬ r = id := fun e => by subst e; rw [hv] at hst; cases hst
    have hir : (id = r) = False := eq_false fun e => hri e.symm
    repeat' (first | (simp -implicitDefEqProofs only [ze, zd, simprocAttr, hv, putint_ok n hn, hne, hne', bv_len, hr0, hr1, hrx, hst, hir]) | (with_reducible refine W_itn_cases ?_ ?_; omega))
    refine qd_i ?_ ?_
    · simp [recsOk, ordB, Rec.free, Rec.wr, disj, List.range, List.range.loop, hne, hne', hrx, hrx', hri, hir]; try decide
    · simp -implicitDefEqProofs only [ze, zd, simprocAttr]
      refine ⟨_, _, rfl, by omega, ⟨by omega, _, by rw [upd_at, if_pos rfl], .inr ⟨r, hr8, by omega, by rw [bv_app], ?_⟩⟩, fun i cs h1 h2 h3 => ?_⟩
      · simp [upd_at, hri, bv_len]
      · have a1 : ¬ i = nx + 48 := by omega
        have a2 : ¬ i = r := fun e => by subst e; rw [h3] at hst; cases hst
        simp [upd_at, h2, a1, a2, h3]
theorem text_ok {st : St} {nx id : Nat} {out : List Int} (he : Enc st nx id out) (s : ByteArray) (hs : plainS s = true) (hl : out.length ≤ 1000000000) :
    W (L.hp 49 [.ptr id 0, .str s] st nx) fun r => ∃ st' nx', r = .ret (.tup []) st' nx' ∧ nx ≤ nx' ∧ Enc st' nx' id (out ++ ptB s) ∧ Keep st st' nx id := by
  refine hp_w k49_eq ?_
  simp only [k49]
  obtain ⟨hid, v, hv, hg⟩ := he
  have h1 : (ptB s).length ≤ 70 := by
    have a1 := Co.putS_len s.size
    have a2 := bytesOf_len s
    have a3 := plain_size hs
    rw [ptB, List.length_append]; omega
  have hne : ∀ j, (id = nx + j) = False := fun j => eq_false (by omega)
  have hne' : ∀ j, (nx + j = id) = False := fun j => eq_false (by omega)
  rcases hg with ⟨hb, rfl⟩ | ⟨r, hr8, hrn, rfl, hst⟩
  · have hout : out = [] := by simpa [bv] using hb
    subst hout
    repeat' (first | (simp -implicitDefEqProofs only [ze, zd, simprocAttr, hv, puttext_ok s hs, hne, hne', bv_len]) | (with_reducible refine W_itn_cases ?_ ?_; omega))
    refine ⟨_, _, rfl, by omega, ⟨by omega, _, by rw [upd_at, if_pos rfl], .inr ⟨nx + 104, by omega, by omega, by simp, ?_⟩⟩, fun i cs h1 h2 h3 => ?_⟩
    · simp [upd_at, hne', bv_len]
    · have a1 : ¬ i = nx + 8 := by omega
      have a2 : ¬ i = nx + 104 := by omega
      simp [upd_at, h2, a1, a2, h3]
  · have hr0 : (r = 0) = False := eq_false (by omega)
    have hr1 : (r = 1) = False := eq_false (by omega)
    have hrx : ∀ j, (r = nx + j) = False := fun j => eq_false (by omega)
    have hri : ¬ r = id := fun e => by subst e; rw [hv] at hst; cases hst
    have hir : (id = r) = False := eq_false fun e => hri e.symm
    repeat' (first | (simp -implicitDefEqProofs only [ze, zd, simprocAttr, hv, puttext_ok s hs, hne, hne', bv_len, hr0, hr1, hrx, hst, hir]) | (with_reducible refine W_itn_cases ?_ ?_; omega))
    refine ⟨_, _, rfl, by omega, ⟨by omega, _, by rw [upd_at, if_pos rfl], .inr ⟨r, hr8, by omega, by rw [bv_app], ?_⟩⟩, fun i cs h1 h2 h3 => ?_⟩
    · simp [upd_at, hri, bv_len]
    · have a1 : ¬ i = nx + 8 := by omega
      have a2 : ¬ i = r := fun e => by subst e; rw [h3] at hst; cases hst
      simp [upd_at, h2, a1, a2, h3]
end Go.Proofs.YtkbheoganajhaaaDoor.Vm
set_option maxRecDepth 10000
set_option linter.unusedVariables false
set_option linter.unusedSimpArgs false
namespace Go.Proofs.YtkbheoganajhaaaDoor.Vm
open Go Go.Proofs
def Adds (o : Option HR) (st : St) (nx id : Nat) (out bs : List Int) : Prop := W o fun r => ∃ st' nx', r = .ret (.tup []) st' nx' ∧ nx ≤ nx' ∧ Enc st' nx' id (out ++ bs) ∧ Keep st st' nx id
theorem Enc.upd {st : St} {nx nx' id j : Nat} {out : List Int} (h : Enc st nx id out) (hj : nx ≤ j) (hn : nx ≤ nx') (o : Option Ob) : Enc (upd st j o) nx' id out := by
  obtain ⟨hid, v, hv, hg⟩ := h
  refine ⟨by omega, v, by rw [upd_at, if_neg (by omega)]; exact hv, ?_⟩
  rcases hg with hg | ⟨r, h1, h2, h3, h4⟩
  · exact .inl hg
  · exact .inr ⟨r, h1, by omega, h3, by rw [upd_at, if_neg (by omega)]; exact h4⟩
theorem Enc.le {st : St} {nx nx' id : Nat} {out : List Int} (h : Enc st nx id out) (hn : nx ≤ nx') : Enc st nx' id out := by
  obtain ⟨hid, v, hv, hg⟩ := h
  refine ⟨by omega, v, hv, ?_⟩
  rcases hg with hg | ⟨r, h1, h2, h3, h4⟩
  · exact .inl hg
  · exact .inr ⟨r, h1, by omega, h3, h4⟩
theorem Keep.trans {st st' st'' : St} {nx nx' id : Nat} (h : Keep st st' nx id) (k : Keep st' st'' nx' id) (hn : nx ≤ nx') : Keep st st'' nx id := fun i cs h1 h2 h3 => k i cs (by omega) h2 (h i cs h1 h2 h3)
theorem Keep.upd {st : St} {nx id j : Nat} (hj : nx ≤ j) (o : Option Ob) : Keep st (upd st j o) nx id := fun i cs h1 h2 h3 => by rw [upd_at, if_neg (by omega)]; exact h3
def tagsB (l : List Tag) : List Int := l.flatMap fun t => ptB t.n ++ ptB t.v
def lineB (l : Line) : List Int := ptB l.acc ++ ptB l.cur ++ Co.putS l.amt ++ Co.putS l.base ++ ptB l.par ++ ptB l.pty ++ Co.putS l.tags.length ++ tagsB l.tags
structure plainL (l : Line) : Prop where
  acc : plainS l.acc = true
  cur : plainS l.cur = true
  amt : i64r l.amt
  base : i64r l.base
  par : plainS l.par = true
  pty : plainS l.pty = true
  tags : ∀ t ∈ l.tags, plainS t.n = true ∧ plainS t.v = true
  len : l.tags.length ≤ 1000
  nil : l.tr = true → l.tags = []
theorem ptB_len (s : ByteArray) (h : plainS s = true) : (ptB s).length ≤ 70 := by
  have a1 := Co.putS_len s.size
  have a2 := bytesOf_len s
  have a3 := plain_size h
  rw [ptB, List.length_append]; omega
theorem tagsB_len : ∀ (l : List Tag) (i : Nat), (∀ t ∈ l.take i, plainS t.n = true ∧ plainS t.v = true) → (tagsB (l.take i)).length ≤ 140 * i
  | [], i, _ => by simp [tagsB]
  | t :: l, 0, _ => by simp [tagsB]
  | t :: l, i + 1, h => by
    have h1 := h t (by simp)
    have h2 := tagsB_len l i fun x hx => h x (by simp [hx])
    have a1 := ptB_len t.n h1.1
    have a2 := ptB_len t.v h1.2
    have e : tagsB ((t :: l).take (i + 1)) = (ptB t.n ++ ptB t.v) ++ tagsB (l.take i) := by simp [tagsB]
    rw [e, List.length_append, List.length_append]; omega
theorem encline_ok {st : St} {nx id : Nat} {out : List Int} (he : Enc st nx id out) (l : Line) (hp : plainL l) (hl : out.length ≤ 100000000) :
    Adds (L.hp 50 [.ptr id 0, encL l] st nx) st nx id out (lineB l) := by
  unfold Adds
  refine hp_w k50_eq ?_
  simp only [k50, encL]
  have hid := he.1
  have b1 := ptB_len l.acc hp.acc
  have b2 := ptB_len l.cur hp.cur
  have b3 := Co.putS_len l.amt
  have b4 := Co.putS_len l.base
  have b5 := ptB_len l.par hp.par
  have b6 := ptB_len l.pty hp.pty
  have b7 := Co.putS_len l.tags.length
  have hlen := hp.len
  repeat' (first | (simp -implicitDefEqProofs only [ze, zd, simprocAttr]) | (with_reducible refine wgd_cases ?_ ?_ <;> intro hb) | (with_reducible refine wcond_cases ?_ ?_ <;> intro hb) | (with_reducible refine qd_i (by kernel_rfl) ?_) | (with_reducible refine W_itn_cases ?_ ?_; omega))
  refine W_hp (text_ok (he.upd (Nat.le_refl nx) (by omega) _) l.acc hp.acc (by omega)) ?_
  rintro _ ⟨st1, nx1, rfl, hn1, he1, hk1⟩
  have hx1 := hk1 nx _ (by omega) (by omega) (by rw [upd_at, if_pos rfl])
  repeat' (first | (simp -implicitDefEqProofs only [ze, zd, simprocAttr, hx1]) | (with_reducible refine wgd_cases ?_ ?_ <;> intro hb) | (with_reducible refine wcond_cases ?_ ?_ <;> intro hb) | (with_reducible refine qd_i (by kernel_rfl) ?_) | (with_reducible refine W_itn_cases ?_ ?_; omega))
  refine W_hp (text_ok (he1.le (Nat.le_add_right _ _)) l.cur hp.cur (by simp only [List.length_append]; omega)) ?_
  rintro _ ⟨st2, nx2, rfl, hn2, he2, hk2⟩
  have hx2 := hk2 nx _ (by omega) (by omega) hx1
  repeat' (first | (simp -implicitDefEqProofs only [ze, zd, simprocAttr, hx2]) | (with_reducible refine wgd_cases ?_ ?_ <;> intro hb) | (with_reducible refine wcond_cases ?_ ?_ <;> intro hb) | (with_reducible refine qd_i (by kernel_rfl) ?_) | (with_reducible refine W_itn_cases ?_ ?_; omega))
  refine W_hp (number_ok (he2.le (Nat.le_add_right _ _)) l.amt hp.amt (by simp only [List.length_append]; omega)) ?_
  rintro _ ⟨st3, nx3, rfl, hn3, he3, hk3⟩
  have hx3 := hk3 nx _ (by omega) (by omega) hx2
  repeat' (first | (simp -implicitDefEqProofs only [ze, zd, simprocAttr, hx3]) | (with_reducible refine wgd_cases ?_ ?_ <;> intro hb) | (with_reducible refine wcond_cases ?_ ?_ <;> intro hb) | (with_reducible refine qd_i (by kernel_rfl) ?_) | (with_reducible refine W_itn_cases ?_ ?_; omega))
  refine W_hp (number_ok (he3.le (Nat.le_add_right _ _)) l.base hp.base (by simp only [List.length_append]; omega)) ?_
  rintro _ ⟨st4, nx4, rfl, hn4, he4, hk4⟩
  have hx4 := hk4 nx _ (by omega) (by omega) hx3
  repeat' (first | (simp -implicitDefEqProofs only [ze, zd, simprocAttr, hx4]) | (with_reducible refine wgd_cases ?_ ?_ <;> intro hb) | (with_reducible refine wcond_cases ?_ ?_ <;> intro hb) | (with_reducible refine qd_i (by kernel_rfl) ?_) | (with_reducible refine W_itn_cases ?_ ?_; omega))
  refine W_hp (text_ok (he4.le (Nat.le_add_right _ _)) l.par hp.par (by simp only [List.length_append]; omega)) ?_
  rintro _ ⟨st5, nx5, rfl, hn5, he5, hk5⟩
  have hx5 := hk5 nx _ (by omega) (by omega) hx4
  repeat' (first | (simp -implicitDefEqProofs only [ze, zd, simprocAttr, hx5]) | (with_reducible refine wgd_cases ?_ ?_ <;> intro hb) | (with_reducible refine wcond_cases ?_ ?_ <;> intro hb) | (with_reducible refine qd_i (by kernel_rfl) ?_) | (with_reducible refine W_itn_cases ?_ ?_; omega))
  refine W_hp (text_ok (he5.le (Nat.le_add_right _ _)) l.pty hp.pty (by simp only [List.length_append]; omega)) ?_
  rintro _ ⟨st6, nx6, rfl, hn6, he6, hk6⟩
  have hx6 := hk6 nx _ (by omega) (by omega) hx5
  repeat' (first | (simp -implicitDefEqProofs only [ze, zd, simprocAttr, hx6, List.length_map]) | (with_reducible refine wgd_cases ?_ ?_ <;> intro hb) | (with_reducible refine wcond_cases ?_ ?_ <;> intro hb) | (with_reducible refine qd_i (by kernel_rfl) ?_) | (with_reducible refine W_itn_cases ?_ ?_; omega))
  refine W_hp (number_ok (he6.le (Nat.le_add_right _ _)) l.tags.length ⟨by omega, by omega⟩ (by simp only [List.length_append]; omega)) ?_
  rintro _ ⟨st7, nx7, rfl, hn7, he7, hk7⟩
  have hx7 := hk7 nx _ (by omega) (by omega) hx6
  repeat' (first | (simp -implicitDefEqProofs only [ze, zd, simprocAttr, hx7, List.length_map]) | (with_reducible refine wgd_cases ?_ ?_ <;> intro hb) | (with_reducible refine wcond_cases ?_ ?_ <;> intro hb) | (with_reducible refine qd_i (by kernel_rfl) ?_) | (with_reducible refine W_itn_cases ?_ ?_; omega))
  have hk7' : Keep st st7 nx id := fun i cs h1 h2 h3 => by
    refine hk7 i cs (by omega) h2 (hk6 i cs (by omega) h2 (hk5 i cs (by omega) h2 (hk4 i cs (by omega) h2 (hk3 i cs (by omega) h2 (hk2 i cs (by omega) h2 (hk1 i cs (by omega) h2 ?_))))))
    rw [upd_at, if_neg (by omega)]; exact h3
  refine loop_w (fun n tm st' nx' => ∃ i : Nat, n = l.tags.length - i ∧ i ≤ l.tags.length ∧ tm 38 = .i64 i ∧ tm 37 = .i64 l.tags.length ∧ tm 36 = .list (te l.tr 97) (l.tags.map encT) (nr l.tr) ∧ tm 0 = .ptr id 0 ∧ nx ≤ nx' ∧
      Enc st' nx' id (out ++ ptB l.acc ++ ptB l.cur ++ Co.putS l.amt ++ Co.putS l.base ++ ptB l.par ++ ptB l.pty ++ Co.putS l.tags.length ++ tagsB (l.tags.take i)) ∧ Keep st st' nx id) l.tags.length ⟨0, by omega, by omega, ?_, ?_, ?_, ?_, by omega, ?_, hk7'⟩ ?_
  · simp -implicitDefEqProofs only [ze, zd, simprocAttr]; try rfl
  · simp -implicitDefEqProofs only [ze, zd, simprocAttr]
  · simp -implicitDefEqProofs only [ze, zd, simprocAttr]
  · simp -implicitDefEqProofs only [ze, zd, simprocAttr]
  · simpa [tagsB] using he7.le (Nat.le_add_right _ _)
  rintro n tm st' nx' ⟨i, hi, hi2, h38, h37, h36, h0, hnx, hen, hke⟩
  simp only [k50_l0]
  by_cases hlt : i < l.tags.length
  · have htr : l.tr = false := by
      cases h : l.tr
      · rfl
      · rw [hp.nil h] at hlt; simp at hlt
    rw [htr, te_f] at h36
    obtain ⟨t, ht⟩ := get_lt hlt
    have hpt := hp.tags t (List.mem_of_getElem? ht)
    have hd : decide ((i : Int) < (l.tags.length : Int)) = true := decide_eq_true (by omega)
    have c1 := ptB_len t.n hpt.1
    have c2 := ptB_len t.v hpt.2
    have c3 : (tagsB (l.tags.take i)).length ≤ 140 * i := tagsB_len _ _ fun t h => hp.tags t (List.mem_of_mem_take h)
    have e1 : l.tags.take (i + 1) = l.tags.take i ++ [t] := by rw [List.take_add_one, ht]; rfl
    repeat' (first | (simp -implicitDefEqProofs only [ze, zd, simprocAttr, h38, h37, h36, h0, hd, ht, encT]) | (with_reducible refine wgd_cases ?_ ?_ <;> intro hb) | (with_reducible refine wcond_cases ?_ ?_ <;> intro hb) | (with_reducible refine qd_i (by kernel_rfl) ?_) | (with_reducible refine W_itn_cases ?_ ?_; omega))
    refine W_hp (text_ok ((hen.upd (j := nx' + 24) (nx' := nx') (by omega) (Nat.le_refl _) _).upd (j := nx' + 24) (nx' := nx' + 72) (by omega) (by omega) _) t.n hpt.1 (by simp only [List.length_append]; omega)) ?_
    rintro _ ⟨sa, na, rfl, hna, hea, hka⟩
    have hxa := hka (nx' + 24) _ (by omega) (by omega) (by rw [upd_at, if_pos rfl])
    repeat' (first | (simp -implicitDefEqProofs only [ze, zd, simprocAttr, hxa, h0]) | (with_reducible refine wgd_cases ?_ ?_ <;> intro hb) | (with_reducible refine wcond_cases ?_ ?_ <;> intro hb) | (with_reducible refine qd_i (by kernel_rfl) ?_) | (with_reducible refine W_itn_cases ?_ ?_; omega))
    refine W_hp (text_ok (hea.le (Nat.le_add_right _ _)) t.v hpt.2 (by simp only [List.length_append]; omega)) ?_
    rintro _ ⟨sb, nb, rfl, hnb, heb, hkb⟩
    repeat' (first | (simp -implicitDefEqProofs only [ze, zd, simprocAttr, h38, h37, h36, h0, htr, te_f]) | (with_reducible refine wgd_cases ?_ ?_ <;> intro hb) | (with_reducible refine wcond_cases ?_ ?_ <;> intro hb) | (with_reducible refine qd_i (by kernel_rfl) ?_) | (with_reducible refine W_itn_cases ?_ ?_; omega))
    refine ⟨l.tags.length - (i + 1), by omega, i + 1, rfl, by omega, up64 (by omega), by omega, ?_, ?_⟩
    · have : tagsB (l.tags.take (i + 1)) = tagsB (l.tags.take i) ++ (ptB t.n ++ ptB t.v) := by rw [e1]; simp [tagsB]
      rw [this]
      have h9 := heb.le (nx' := nb + 16) (Nat.le_add_right _ _)
      simpa only [List.append_assoc] using h9
    · intro j cs h1 h2 h3
      refine hkb j cs (by omega) h2 (hka j cs (by omega) h2 ?_)
      rw [upd_at, if_neg (by omega), upd_at, if_neg (by omega)]
      exact hke j cs h1 h2 h3
  · have hd : decide ((i : Int) < (l.tags.length : Int)) = false := decide_eq_false (by omega)
    have hie : i = l.tags.length := by omega
    repeat' (first | (simp -implicitDefEqProofs only [ze, zd, simprocAttr, h38, h37, h36, h0, hd]) | (with_reducible refine wgd_cases ?_ ?_ <;> intro hb) | (with_reducible refine wcond_cases ?_ ?_ <;> intro hb) | (with_reducible refine qd_i (by kernel_rfl) ?_) | (with_reducible refine W_itn_cases ?_ ?_; omega))
    refine ⟨_, _, rfl, by omega, ?_, hke⟩
    have h9 := hen.le (nx' := nx' + 8) (Nat.le_add_right _ _)
    rw [hie, List.take_length] at h9
    simpa only [lineB, List.append_assoc] using h9
end Go.Proofs.YtkbheoganajhaaaDoor.Vm
set_option maxRecDepth 10000
set_option linter.unusedVariables false
set_option linter.unusedSimpArgs false
namespace Go.Proofs.YtkbheoganajhaaaDoor.Vm
open Go Go.Proofs
def linesB (l : List Line) : List Int := l.flatMap lineB
def headB (e : Entry) : List Int := Co.putS e.no ++ ptB e.ent ++ Co.putS e.book ++ Co.putS e.val ++ Co.putS e.kind ++ ptB e.ref ++ ptB e.who ++ Co.putS e.rev ++ Co.putS e.lines.length
def entryB (e : Entry) : List Int := headB e ++ linesB e.lines
structure plainE (e : Entry) : Prop where
  no : i64r e.no
  ent : plainS e.ent = true
  book : i64r e.book
  val : i64r e.val
  kind : i64r e.kind
  ref : plainS e.ref = true
  who : plainS e.who = true
  rev : i64r e.rev
  lines : ∀ l ∈ e.lines, plainL l
  len : e.lines.length ≤ 100
  nil : e.lr = true → e.lines = []
theorem lineB_len (l : Line) (h : plainL l) : (lineB l).length ≤ 150000 := by
  have b1 := ptB_len l.acc h.acc
  have b2 := ptB_len l.cur h.cur
  have b3 := Co.putS_len l.amt
  have b4 := Co.putS_len l.base
  have b5 := ptB_len l.par h.par
  have b6 := ptB_len l.pty h.pty
  have b7 := Co.putS_len l.tags.length
  have hlen := h.len
  have c := tagsB_len l.tags l.tags.length (by rw [List.take_length]; exact h.tags)
  rw [List.take_length] at c
  simp only [lineB, List.length_append]; omega
theorem linesB_len : ∀ (l : List Line) (i : Nat), (∀ t ∈ l.take i, plainL t) → (linesB (l.take i)).length ≤ 150000 * i
  | [], i, _ => by simp [linesB]
  | t :: l, 0, _ => by simp [linesB]
  | t :: l, i + 1, h => by
    have h1 := lineB_len t (h t (by simp))
    have h2 := linesB_len l i fun x hx => h x (by simp [hx])
    have e : linesB ((t :: l).take (i + 1)) = lineB t ++ linesB (l.take i) := by simp [linesB]
    rw [e, List.length_append]; omega
theorem headB_len (e : Entry) (hp : plainE e) : (headB e).length ≤ 1000 := by
  have b1 := Co.putS_len e.no
  have b2 := ptB_len e.ent hp.ent
  have b3 := Co.putS_len e.book
  have b4 := Co.putS_len e.val
  have b5 := Co.putS_len e.kind
  have b6 := ptB_len e.ref hp.ref
  have b7 := ptB_len e.who hp.who
  have b8 := Co.putS_len e.rev
  have b9 := Co.putS_len e.lines.length
  simp only [headB, List.length_append]; omega
theorem put_ok (e : Entry) (hp : plainE e) (a : Int) (hck : L.pl 27 [encE e] = some (.ret (.tup [.i64 a, .i64 0]))) : L.pl 28 [encE e] = some (.ret (.tup [.list 5 (bv (entryB e)) (8 + 5), .i64 0])) := by
  refine W_of (pl_w k28_eq ?_)
  simp only [encE] at hck
  simp only [k28, encE]
  have hlen := hp.len
  have hbl := headB_len e hp
  simp only [headB, List.length_append] at hbl
  have hemp : entryB e ≠ [] := by
    have : Co.putS e.no ≠ [] := Co.putS_ne e.no
    intro h
    have h2 := congrArg List.length h
    have h3 : 0 < (Co.putS e.no).length := List.length_pos_iff.mpr this
    simp only [entryB, headB, List.length_append, List.length_nil] at h2
    omega
  repeat' (first | (simp -implicitDefEqProofs only [ze, zd, simprocAttr, hck, nr_pur]) | (with_reducible refine wgd_cases ?_ ?_ <;> intro hb) | (with_reducible refine wcond_cases ?_ ?_ <;> intro hb) | (with_reducible refine qd_i (by kernel_rfl) ?_) | (with_reducible refine W_itn_cases ?_ ?_; omega))
  refine W_hp (number_ok (out := []) ⟨by omega, _, by rw [upd_at, if_pos rfl], .inl ⟨rfl, rfl⟩⟩ e.no hp.no (by simp)) ?_
  rintro _ ⟨st1, nx1, rfl, hn1, he1, hk1⟩
  have hx1 := hk1 8 _ (by omega) (by omega) (by rw [upd_at, if_neg (by omega), upd_at, if_pos rfl])
  repeat' (first | (simp -implicitDefEqProofs only [ze, zd, simprocAttr, hx1]) | (with_reducible refine wgd_cases ?_ ?_ <;> intro hb) | (with_reducible refine wcond_cases ?_ ?_ <;> intro hb) | (with_reducible refine qd_i (by kernel_rfl) ?_) | (with_reducible refine W_itn_cases ?_ ?_; omega))
  refine W_hp (text_ok (he1.le (Nat.le_add_right _ _)) e.ent hp.ent (by simp only [List.length_append, List.nil_append]; omega)) ?_
  rintro _ ⟨st2, nx2, rfl, hn2, he2, hk2⟩
  have hx2 := hk2 8 _ (by omega) (by omega) hx1
  repeat' (first | (simp -implicitDefEqProofs only [ze, zd, simprocAttr, hx2, List.length_map]) | (with_reducible refine wgd_cases ?_ ?_ <;> intro hb) | (with_reducible refine wcond_cases ?_ ?_ <;> intro hb) | (with_reducible refine qd_i (by kernel_rfl) ?_) | (with_reducible refine W_itn_cases ?_ ?_; omega))
  refine W_hp (number_ok (he2.le (Nat.le_add_right _ _)) e.book hp.book (by simp only [List.length_append, List.nil_append]; omega)) ?_
  rintro _ ⟨st3, nx3, rfl, hn3, he3, hk3⟩
  have hx3 := hk3 8 _ (by omega) (by omega) hx2
  repeat' (first | (simp -implicitDefEqProofs only [ze, zd, simprocAttr, hx3, List.length_map]) | (with_reducible refine wgd_cases ?_ ?_ <;> intro hb) | (with_reducible refine wcond_cases ?_ ?_ <;> intro hb) | (with_reducible refine qd_i (by kernel_rfl) ?_) | (with_reducible refine W_itn_cases ?_ ?_; omega))
  refine W_hp (number_ok (he3.le (Nat.le_add_right _ _)) e.val hp.val (by simp only [List.length_append, List.nil_append]; omega)) ?_
  rintro _ ⟨st4, nx4, rfl, hn4, he4, hk4⟩
  have hx4 := hk4 8 _ (by omega) (by omega) hx3
  repeat' (first | (simp -implicitDefEqProofs only [ze, zd, simprocAttr, hx4, List.length_map]) | (with_reducible refine wgd_cases ?_ ?_ <;> intro hb) | (with_reducible refine wcond_cases ?_ ?_ <;> intro hb) | (with_reducible refine qd_i (by kernel_rfl) ?_) | (with_reducible refine W_itn_cases ?_ ?_; omega))
  refine W_hp (number_ok (he4.le (Nat.le_add_right _ _)) e.kind hp.kind (by simp only [List.length_append, List.nil_append]; omega)) ?_
  rintro _ ⟨st5, nx5, rfl, hn5, he5, hk5⟩
  have hx5 := hk5 8 _ (by omega) (by omega) hx4
  repeat' (first | (simp -implicitDefEqProofs only [ze, zd, simprocAttr, hx5, List.length_map]) | (with_reducible refine wgd_cases ?_ ?_ <;> intro hb) | (with_reducible refine wcond_cases ?_ ?_ <;> intro hb) | (with_reducible refine qd_i (by kernel_rfl) ?_) | (with_reducible refine W_itn_cases ?_ ?_; omega))
  refine W_hp (text_ok (he5.le (Nat.le_add_right _ _)) e.ref hp.ref (by simp only [List.length_append, List.nil_append]; omega)) ?_
  rintro _ ⟨st6, nx6, rfl, hn6, he6, hk6⟩
  have hx6 := hk6 8 _ (by omega) (by omega) hx5
  repeat' (first | (simp -implicitDefEqProofs only [ze, zd, simprocAttr, hx6, List.length_map]) | (with_reducible refine wgd_cases ?_ ?_ <;> intro hb) | (with_reducible refine wcond_cases ?_ ?_ <;> intro hb) | (with_reducible refine qd_i (by kernel_rfl) ?_) | (with_reducible refine W_itn_cases ?_ ?_; omega))
  refine W_hp (text_ok (he6.le (Nat.le_add_right _ _)) e.who hp.who (by simp only [List.length_append, List.nil_append]; omega)) ?_
  rintro _ ⟨st7, nx7, rfl, hn7, he7, hk7⟩
  have hx7 := hk7 8 _ (by omega) (by omega) hx6
  repeat' (first | (simp -implicitDefEqProofs only [ze, zd, simprocAttr, hx7, List.length_map]) | (with_reducible refine wgd_cases ?_ ?_ <;> intro hb) | (with_reducible refine wcond_cases ?_ ?_ <;> intro hb) | (with_reducible refine qd_i (by kernel_rfl) ?_) | (with_reducible refine W_itn_cases ?_ ?_; omega))
  refine W_hp (number_ok (he7.le (Nat.le_add_right _ _)) e.rev hp.rev (by simp only [List.length_append, List.nil_append]; omega)) ?_
  rintro _ ⟨st8, nx8, rfl, hn8, he8, hk8⟩
  have hx8 := hk8 8 _ (by omega) (by omega) hx7
  repeat' (first | (simp -implicitDefEqProofs only [ze, zd, simprocAttr, hx8, List.length_map]) | (with_reducible refine wgd_cases ?_ ?_ <;> intro hb) | (with_reducible refine wcond_cases ?_ ?_ <;> intro hb) | (with_reducible refine qd_i (by kernel_rfl) ?_) | (with_reducible refine W_itn_cases ?_ ?_; omega))
  refine W_hp (number_ok (he8.le (Nat.le_add_right _ _)) e.lines.length ⟨by omega, by omega⟩ (by simp only [List.length_append, List.nil_append]; omega)) ?_
  rintro _ ⟨st9, nx9, rfl, hn9, he9, hk9⟩
  have hx9 := hk9 8 _ (by omega) (by omega) hx8
  repeat' (first | (simp -implicitDefEqProofs only [ze, zd, simprocAttr, hx9, List.length_map]) | (with_reducible refine wgd_cases ?_ ?_ <;> intro hb) | (with_reducible refine wcond_cases ?_ ?_ <;> intro hb) | (with_reducible refine qd_i (by kernel_rfl) ?_) | (with_reducible refine W_itn_cases ?_ ?_; omega))
  refine loop_w (fun n tm st' nx' => ∃ i : Nat, n = e.lines.length - i ∧ i ≤ e.lines.length ∧ tm 48 = .i64 i ∧ tm 47 = .i64 e.lines.length ∧ tm 46 = .list (te e.lr 61) (e.lines.map encL) (nr e.lr) ∧ tm 6 = .ptr 104 0 ∧ 136 ≤ nx' ∧
      Enc st' nx' 104 (headB e ++ linesB (e.lines.take i))) e.lines.length ⟨0, by omega, by omega, ?_, ?_, ?_, ?_, by omega, ?_⟩ ?_
  · simp -implicitDefEqProofs only [ze, zd, simprocAttr]; try rfl
  · simp -implicitDefEqProofs only [ze, zd, simprocAttr]
  · simp -implicitDefEqProofs only [ze, zd, simprocAttr]
  · simp -implicitDefEqProofs only [ze, zd, simprocAttr]
  · have h9 := he9.le (nx' := nx9 + 32) (Nat.le_add_right _ _)
    simpa [linesB, headB] using h9
  rintro n tm st' nx' ⟨i, hi, hi2, h48, h47, h46, h6, hnx, hen⟩
  simp only [k28_l0]
  by_cases hlt : i < e.lines.length
  · have hlr : e.lr = false := by
      cases h : e.lr
      · rfl
      · rw [hp.nil h] at hlt; simp at hlt
    rw [hlr, te_f] at h46
    obtain ⟨l, hl⟩ := get_lt hlt
    have hpl := hp.lines l (List.mem_of_getElem? hl)
    have hd : decide ((i : Int) < (e.lines.length : Int)) = true := decide_eq_true (by omega)
    have c3 := linesB_len e.lines i fun t h => hp.lines t (List.mem_of_mem_take h)
    have c4 := headB_len e hp
    have e1 : e.lines.take (i + 1) = e.lines.take i ++ [l] := by rw [List.take_add_one, hl]; rfl
    have hli := fun (st : St) (nx : Nat) (h : Enc st nx 104 (headB e ++ linesB (e.lines.take i))) => encline_ok h l hpl (by simp only [List.length_append]; omega)
    simp only [encL] at hli
    repeat' (first | (simp -implicitDefEqProofs only [ze, zd, simprocAttr, h48, h47, h46, h6, hd, hl, encL, nr_pur]) | (with_reducible refine wgd_cases ?_ ?_ <;> intro hb) | (with_reducible refine wcond_cases ?_ ?_ <;> intro hb) | (with_reducible refine qd_i (by kernel_rfl) ?_) | (with_reducible refine W_itn_cases ?_ ?_; omega))
    refine W_hp (hli _ _ ((hen.upd (j := nx' + 24) (nx' := nx') (by omega) (Nat.le_refl _) _).upd (j := nx' + 24) (nx' := _) (by omega) (Nat.le_add_right _ _) _)) ?_
    rintro _ ⟨sa, na, rfl, hna, hea, hka⟩
    repeat' (first | (simp -implicitDefEqProofs only [ze, zd, simprocAttr, h48, h47, h46, h6, hlr, te_f]) | (with_reducible refine wgd_cases ?_ ?_ <;> intro hb) | (with_reducible refine wcond_cases ?_ ?_ <;> intro hb) | (with_reducible refine qd_i (by kernel_rfl) ?_) | (with_reducible refine W_itn_cases ?_ ?_; omega))
    refine ⟨e.lines.length - (i + 1), by omega, i + 1, rfl, by omega, up64 (by omega), by omega, ?_⟩
    have : linesB (e.lines.take (i + 1)) = linesB (e.lines.take i) ++ lineB l := by rw [e1]; simp [linesB]
    rw [this]
    have h9 := hea.le (nx' := na + 16) (Nat.le_add_right _ _)
    simpa only [List.append_assoc] using h9
  · have hd : decide ((i : Int) < (e.lines.length : Int)) = false := decide_eq_false (by omega)
    have hie : i = e.lines.length := by omega
    rw [hie, List.take_length] at hen
    obtain ⟨_, v, hv, hg⟩ := hen
    rcases hg with ⟨hb, _⟩ | ⟨r, hr8, hrn, rfl, hst⟩
    · exact absurd (show entryB e = [] by unfold entryB; simpa [bv] using hb) hemp
    · have hr1 : (r = 1) = False := eq_false (by omega)
      have hr9 : (r < 8) = False := eq_false (by omega)
      repeat' (first | (simp -implicitDefEqProofs only [ze, zd, simprocAttr, h48, h47, h46, h6, hd, k28_t0, hv, hst, hr1, hr9, bv_len]) | (with_reducible refine wgd_cases ?_ ?_ <;> intro hb) | (with_reducible refine wcond_cases ?_ ?_ <;> intro hb) | (with_reducible refine qd_i (by kernel_rfl) ?_) | (with_reducible refine W_itn_cases ?_ ?_; omega))
      rfl
end Go.Proofs.YtkbheoganajhaaaDoor.Vm
set_option maxRecDepth 10000
set_option linter.unusedVariables false
set_option linter.unusedSimpArgs false
namespace Go.Proofs.YtkbheoganajhaaaDoor.Vm
open Go Go.Proofs
def iv (l : List Int) : List V := l.map V.i64
theorem iv_len (l : List Int) : (iv l).length = l.length := by simp [iv]
def inI64 (x : Int) : Bool := decide (-9223372036854775808 ≤ x) && decide (x < 9223372036854775808)
theorem reck_add64 (x y : Int) (hx : 0 ≤ x) (hy : 0 ≤ y) (k : Int) (hk0 : 0 ≤ k) (hk : k ≤ 1) : reck Tryd.prog (callFunc 107 #[.int .u64 x, .int .u64 y, .int .u64 k]) =
    some (.value (.tuple #[.int .u64 ((x + y + k) % 18446744073709551616), .int .u64 ((x + y + k) / 18446744073709551616)])) := by
  have key : ∀ k : Nat, k ≤ 1 → reck Tryd.prog (callFunc 107 #[.int .u64 x, .int .u64 y, .int .u64 (k : Int)]) =
      some (.value (Extern.MathBitsCarry.pair ((x.toNat + y.toNat + k) % Extern.MathBitsCarry.m64) ((x.toNat + y.toNat + k) / Extern.MathBitsCarry.m64))) := by
    intro k hk
    have : k = 0 ∨ k = 1 := by omega
    rcases this with rfl | rfl
    · show _ = _; kernel_rfl
    · show _ = _; kernel_rfl
  obtain ⟨k, rfl⟩ := Int.eq_ofNat_of_zero_le hk0
  rw [key k (by omega)]
  obtain ⟨X, rfl⟩ := Int.eq_ofNat_of_zero_le hx
  obtain ⟨Y, rfl⟩ := Int.eq_ofNat_of_zero_le hy
  simp only [Extern.MathBitsCarry.pair, Extern.MathBitsCarry.m64, Int.toNat_natCast]
  congr 5 <;> simp <;> omega
theorem sum_take (l : List Int) (i : Nat) (x : Int) (h : l[i]? = some x) : (l.take (i + 1)).sum = (l.take i).sum + x := by
  rw [List.take_add_one, h, List.sum_append]; simp
theorem sum_bound (l : List Int) (h : ∀ x ∈ l, i64r x) : -(9223372036854775808 * (l.length : Int)) ≤ l.sum ∧ l.sum ≤ 9223372036854775808 * (l.length : Int) := by
  induction l with
  | nil => simp
  | cons a r ih =>
    have h1 := h a (by simp)
    have h2 := ih fun x hx => h x (by simp [hx])
    simp only [i64r] at h1
    simp only [List.sum_cons, List.length_cons]
    omega
theorem numsum_ok (l : List Int) (r : Nat) (hi : ∀ x ∈ l, i64r x) (hl : l.length < 1073741824) : L.pl 102 [.list 3 (iv l) r] = some (.ret (.tup [.i64 (if inI64 l.sum = true then l.sum else 0), .bool (inI64 l.sum)])) := by
  refine W_of (pl_w k102_eq ?_)
  simp only [k102]
  repeat' (first | (simp -implicitDefEqProofs only [ze, zd, simprocAttr, iv_len]) | (with_reducible refine wgd_cases ?_ ?_ <;> intro hb) | (with_reducible refine wcond_cases ?_ ?_ <;> intro hb) | (with_reducible refine qd_i (by kernel_rfl) ?_) | (with_reducible refine W_itn_cases ?_ ?_; omega))
  refine loop_w (fun n tm st nx => ∃ i : Nat, n = l.length - i ∧ i ≤ l.length ∧ tm 11 = .i64 i ∧ tm 10 = .i64 l.length ∧ tm 9 = .list 3 (iv l) r ∧ tm 5 = .sc (.int .u64 ((l.take i).sum % 18446744073709551616)) ∧ tm 4 = .sc (.int .u64 ((l.take i).sum / 18446744073709551616 % 18446744073709551616))) l.length ⟨0, by omega, by omega, ?_, ?_, ?_, ?_, ?_⟩ ?_
  · simp -implicitDefEqProofs only [ze, zd, simprocAttr]; try rfl
  · simp -implicitDefEqProofs only [ze, zd, simprocAttr]
  · simp -implicitDefEqProofs only [ze, zd, simprocAttr]
  · simp -implicitDefEqProofs only [ze, zd, simprocAttr]; try rfl
  · simp -implicitDefEqProofs only [ze, zd, simprocAttr]; try rfl
  rintro n tm st nx ⟨i, hn, hi2, h11, h10, h9, h5, h4⟩
  simp only [k102_l0]
  generalize hS : (l.take i).sum = S at *
  by_cases hlt : i < l.length
  · obtain ⟨x, hx⟩ := get_lt hlt
    have hxr := hi x (List.mem_of_getElem? hx)
    simp only [i64r] at hxr
    have hd : decide ((i : Int) < (l.length : Int)) = true := decide_eq_true (by omega)
    have hs2 := sum_take l i x hx
    rw [hS] at hs2
    have hix : (iv l)[i]? = some (V.i64 x) := by simp [iv, hx]
    have hw : IntKind.u64.wrap x = x % 18446744073709551616 := by rw [IntKind.wrap_u64]
    have hsh := shr_eq x (Nat.min 63 IntKind.i64.bits) 9223372036854775808 (by decide)
    have hw2 : IntKind.u64.wrap (x / 9223372036854775808) = x / 9223372036854775808 % 18446744073709551616 := by rw [IntKind.wrap_u64]
    have ha := reck_add64 (S % 18446744073709551616) (x % 18446744073709551616) (by omega) (by omega) 0 (by omega) (by omega)
    have hb := reck_add64 (S / 18446744073709551616 % 18446744073709551616) (x / 9223372036854775808 % 18446744073709551616) (by omega) (by omega) ((S % 18446744073709551616 + x % 18446744073709551616 + 0) / 18446744073709551616) (by omega) (by omega)
    repeat' (first | (simp -implicitDefEqProofs only [ze, zd, simprocAttr, h11, h10, h9, h5, h4, hd, hix, hw, hsh, hw2, ha, hb]) | (with_reducible refine wgd_cases ?_ ?_ <;> intro hb) | (with_reducible refine wcond_cases ?_ ?_ <;> intro hb) | (with_reducible refine qd_i (by kernel_rfl) ?_) | (with_reducible refine W_itn_cases ?_ ?_; omega))
    exact ⟨l.length - (i + 1), by omega, i + 1, rfl, by omega, up64 (by omega), by rw [hs2]; congr 2; omega, by rw [hs2]; congr 2; omega⟩
  · have hd : decide ((i : Int) < (l.length : Int)) = false := decide_eq_false (by omega)
    repeat' (first | (simp -implicitDefEqProofs only [ze, zd, simprocAttr, h11, h10, h9, h5, h4, hd, k102_t0]) | (with_reducible refine wgd_cases ?_ ?_ <;> intro hb) | (with_reducible refine wcond_cases ?_ ?_ <;> intro hb) | (with_reducible refine qd_i (by kernel_rfl) ?_) | (with_reducible refine W_itn_cases ?_ ?_; omega))
    all_goals
      have hie : i = l.length := by omega
      rw [hie, List.take_length] at hS
      have hbd := sum_bound l hi
      rw [hS] at hbd ⊢
      have hw1 : IntKind.i64.wrap (S % 18446744073709551616) = (if S % 18446744073709551616 < 9223372036854775808 then S % 18446744073709551616 else S % 18446744073709551616 - 18446744073709551616) := by
        rw [IntKind.wrap_i64]; split <;> omega
      have hsh := shr_eq (IntKind.i64.wrap (S % 18446744073709551616)) (Nat.min 63 IntKind.i64.bits) 9223372036854775808 (by decide)
      rw [hsh, IntKind.wrap_u64, hw1] at hb
    · have hin : inI64 S = false := by
        simp only [Bool.not_eq_true', decide_eq_false_iff_not] at hb
        simp only [inI64, Bool.and_eq_false_iff, decide_eq_false_iff_not]
        split at hb <;> omega
      rw [hin]; rfl
    · have hin : inI64 S = true ∧ S = (if S % 18446744073709551616 < 9223372036854775808 then S % 18446744073709551616 else S % 18446744073709551616 - 18446744073709551616) := by
        simp only [Bool.not_eq_false', decide_eq_true_eq] at hb
        simp only [inI64, Bool.and_eq_true, decide_eq_true_eq]
        split at hb <;> split <;> omega
      rw [hw1, hin.1, ← hin.2]; rfl
end Go.Proofs.YtkbheoganajhaaaDoor.Vm
set_option maxRecDepth 10000
set_option linter.unusedVariables false
set_option linter.unusedSimpArgs false
namespace Go.Proofs.YtkbheoganajhaaaDoor.Vm
open Go Go.Proofs
def sumOk (l : List Int) (m : Int) : Bool := inI64 l.sum && within l.sum m
theorem sum_ok (l : List Int) (r : Nat) (m : Int) (hi : ∀ x ∈ l, i64r x) (hl : l.length < 1073741824) (h0 : 0 ≤ m) (h1 : m < 4611686018427387904) : L.pl 93 [.i64 m, .list 3 (iv l) r] = some (.ret (.tup [.i64 (if sumOk l m = true then l.sum else 0), .i64 (if sumOk l m = true then 0 else 4)])) := by
  have hn : ∀ r, L.pl 102 [.list 3 (iv l) r] = some (.ret (.tup [.i64 (if inI64 l.sum = true then l.sum else 0), .bool (inI64 l.sum)])) := fun r => numsum_ok l r hi hl
  refine W_of (pl_w k93_eq ?_)
  simp only [k93]
  cases h : inI64 l.sum with
  | true =>
    simp only [h, if_true] at hn
    repeat' (first | (simp -implicitDefEqProofs only [ze, zd, simprocAttr, hn, within_ok l.sum m h0 h1]) | (with_reducible refine wgd_cases ?_ ?_ <;> intro hb) | (with_reducible refine wcond_cases ?_ ?_ <;> intro hb) | (with_reducible refine qd_i (by kernel_rfl) ?_) | (with_reducible refine W_itn_cases ?_ ?_; omega))
    all_goals simp_all [sumOk]
  | false =>
    simp only [h, Bool.false_eq_true, if_false] at hn
    repeat' (first | (simp -implicitDefEqProofs only [ze, zd, simprocAttr, hn]) | (with_reducible refine wgd_cases ?_ ?_ <;> intro hb) | (with_reducible refine wcond_cases ?_ ?_ <;> intro hb) | (with_reducible refine qd_i (by kernel_rfl) ?_) | (with_reducible refine W_itn_cases ?_ ?_; omega))
    all_goals simp_all [sumOk]
theorem both_ok {st : St} {nx id : Nat} {A B : List Int} {ra rb : Nat} (hid : id < nx) (hc : st id = some (.cells [.list 3 (iv A) ra, .list 3 (iv B) rb])) (hA : ∀ x ∈ A, i64r x) (hB : ∀ x ∈ B, i64r x) (hlA : A.length < 1073741824) (hlB : B.length < 1073741824) (m : Int) (h0 : 0 ≤ m) (h1 : m < 4611686018427387904) :
    W (L.hp 75 [.ptr id 0, .i64 m] st nx) fun r => ∃ nx', r = .ret (.tup [.i64 (if (sumOk A m && sumOk B m) = true then A.sum else 0), .i64 (if (sumOk A m && sumOk B m) = true then B.sum else 0), .i64 (if (sumOk A m && sumOk B m) = true then 0 else 4)]) st nx' ∧ nx ≤ nx' := by
  refine hp_w k75_eq ?_
  simp only [k75]
  have ha := fun r => sum_ok A r m hA hlA h0 h1
  have hb := fun r => sum_ok B r m hB hlB h0 h1
  cases hsA : sumOk A m with
  | true =>
    cases hsB : sumOk B m with
    | true =>
      simp only [hsA, hsB, if_true] at ha hb
      repeat' (first | (simp -implicitDefEqProofs only [ze, zd, simprocAttr, hc, ha, hb]) | (with_reducible refine wgd_cases ?_ ?_ <;> intro hb) | (with_reducible refine wcond_cases ?_ ?_ <;> intro hb) | (with_reducible refine qd_i (by kernel_rfl) ?_) | (with_reducible refine W_itn_cases ?_ ?_; omega))
      all_goals (first | (exact ⟨_, rfl, by omega⟩) | simp_all)
    | false =>
      simp only [hsA, hsB, if_true, Bool.false_eq_true, if_false] at ha hb
      repeat' (first | (simp -implicitDefEqProofs only [ze, zd, simprocAttr, hc, ha, hb]) | (with_reducible refine wgd_cases ?_ ?_ <;> intro hb) | (with_reducible refine wcond_cases ?_ ?_ <;> intro hb) | (with_reducible refine qd_i (by kernel_rfl) ?_) | (with_reducible refine W_itn_cases ?_ ?_; omega))
      all_goals (first | (exact ⟨_, rfl, by omega⟩) | simp_all)
  | false =>
    simp only [hsA, Bool.false_eq_true, if_false] at ha
    repeat' (first | (simp -implicitDefEqProofs only [ze, zd, simprocAttr, hc, ha]) | (with_reducible refine wgd_cases ?_ ?_ <;> intro hb) | (with_reducible refine wcond_cases ?_ ?_ <;> intro hb) | (with_reducible refine qd_i (by kernel_rfl) ?_) | (with_reducible refine W_itn_cases ?_ ?_; omega))
    all_goals (first | (exact ⟨_, rfl, by omega⟩) | simp_all)
structure Col where
  key : ByteArray
  id : Nat
  A : List Int
  B : List Int
  ra : Nat
  rb : Nat
structure ColOk (st : St) (nx : Nat) (c : Col) : Prop where
  cell : st c.id = some (.cells [.list 3 (iv c.A) c.ra, .list 3 (iv c.B) c.rb])
  a : st c.ra = some (.tok c.A.length 3)
  b : st c.rb = some (.tok c.B.length 3)
  ab : c.ra ≠ c.rb
  id_lt : c.id < nx
  a_lt : c.ra < nx
  b_lt : c.rb < nx
  a8 : 8 ≤ c.ra
  b8 : 8 ≤ c.rb
theorem iv_app (A : List Int) (x : Int) : iv (A ++ [x]) = iv A ++ [V.i64 x] := by simp [iv]
theorem add_new {st : St} {nx id : Nat} (k : ByteArray) (hid : id < nx) (h8 : 8 ≤ nx) (hc : st id = some (.cells [.list 0 [] 1, .list 0 [] 1])) (l : Line) :
    W (L.hp 92 [.ptr id 0, encL l] st nx) fun r => ∃ st' nx' ra rb, r = .ret (.tup []) st' nx' ∧ nx ≤ nx' ∧ ColOk st' nx' ⟨k, id, [l.amt], [l.base], ra, rb⟩ ∧ nx ≤ ra ∧ nx ≤ rb ∧ ∀ i, i < nx → i ≠ id → st' i = st i := by
  refine hp_w k92_eq ?_
  simp only [k92, encL]
  have hne : ∀ j, (id = nx + j) = False := fun j => eq_false (by omega)
  have hne0 : (id = nx) = False := eq_false (by omega)
  have hne' : ∀ j, (nx + j = id) = False := fun j => eq_false (by omega)
  have hne0' : (nx = id) = False := eq_false (by omega)
  have hs : ∀ j, (nx = nx + (j + 1)) = False := fun j => eq_false (by omega)
  repeat' (first | (simp -implicitDefEqProofs only [ze, zd, simprocAttr, hc, hne, hne', hne0, hne0', hs]) | (with_reducible refine W_itn_cases ?_ ?_; omega))
  refine qd_i ?_ ?_
  · simp [recsOk, ordB, Rec.free, Rec.wr, disj, List.range, List.range.loop, hne, hne', hne0, hne0']; try decide
  repeat' (first | (simp -implicitDefEqProofs only [ze, zd, simprocAttr, hc, hne, hne', hne0, hne0', hs]) | (with_reducible refine W_itn_cases ?_ ?_; omega))
  refine qd_i ?_ ?_
  · simp [recsOk, ordB, Rec.free, Rec.wr, disj, List.range, List.range.loop, hne, hne', hne0, hne0']; try decide
  simp -implicitDefEqProofs only [ze, zd, simprocAttr]
  refine ⟨_, _, nx + 72, nx + 168, rfl, by omega, ⟨?_, ?_, ?_, ?_, ?_, ?_, ?_, ?_, ?_⟩, by omega, by omega, fun i h1 h2 => ?_⟩
  · simp only [upd_at, if_true]; rfl
  · simp [upd_at, hne']
  · simp [upd_at, hne']
  · show nx + 72 ≠ nx + 168; omega
  · show id < _; omega
  · show nx + 72 < _; omega
  · show nx + 168 < _; omega
  · show 8 ≤ nx + 72; omega
  · show 8 ≤ nx + 168; omega
  · have c1 : ¬ i = nx := by omega
    have c2 : ¬ i = nx + 64 := by omega
    have c3 : ¬ i = nx + 72 := by omega
    have c4 : ¬ i = nx + 160 := by omega
    have c5 : ¬ i = nx + 168 := by omega
    simp [upd_at, h2, c1, c2, c3, c4, c5]
theorem add_old {st : St} {nx : Nat} {c : Col} (h : ColOk st nx c) (l : Line) (hA : c.A.length < 1073741824) (hB : c.B.length < 1073741824) :
    W (L.hp 92 [.ptr c.id 0, encL l] st nx) fun r => ∃ st' nx', r = .ret (.tup []) st' nx' ∧ nx ≤ nx' ∧ ColOk st' nx' ⟨c.key, c.id, c.A ++ [l.amt], c.B ++ [l.base], c.ra, c.rb⟩ ∧ ∀ i, i < nx → i ≠ c.id → i ≠ c.ra → i ≠ c.rb → st' i = st i := by
  obtain ⟨k, id, A, B, ra, rb⟩ := c
  obtain ⟨hc, ha, hb, hab, hid, hal, hbl, ha8, hb8⟩ := h
  simp only at hc ha hb hab hid hal hbl ha8 hb8 hA hB
  refine hp_w k92_eq ?_
  simp only [k92, encL]
  have hne : ∀ j, (id = nx + j) = False := fun j => eq_false (by omega)
  have hne0 : (id = nx) = False := eq_false (by omega)
  have hne' : ∀ j, (nx + j = id) = False := fun j => eq_false (by omega)
  have hne0' : (nx = id) = False := eq_false (by omega)
  have hs : ∀ j, (nx = nx + (j + 1)) = False := fun j => eq_false (by omega)
  have a0 : (ra = 0) = False := eq_false (by omega)
  have a1 : (ra = 1) = False := eq_false (by omega)
  have an : ∀ j, (ra = nx + j) = False := fun j => eq_false (by omega)
  have an' : ∀ j, (nx + j = ra) = False := fun j => eq_false (by omega)
  have an0 : (ra = nx) = False := eq_false (by omega)
  have an0' : (nx = ra) = False := eq_false (by omega)
  have ai : (ra = id) = False := eq_false fun e => by subst e; rw [hc] at ha; cases ha
  have ai' : (id = ra) = False := eq_false fun e => by subst e; rw [hc] at ha; cases ha
  have b0 : (rb = 0) = False := eq_false (by omega)
  have b1 : (rb = 1) = False := eq_false (by omega)
  have bn : ∀ j, (rb = nx + j) = False := fun j => eq_false (by omega)
  have bn' : ∀ j, (nx + j = rb) = False := fun j => eq_false (by omega)
  have bn0 : (rb = nx) = False := eq_false (by omega)
  have bn0' : (nx = rb) = False := eq_false (by omega)
  have bi : (rb = id) = False := eq_false fun e => by subst e; rw [hc] at hb; cases hb
  have bi' : (id = rb) = False := eq_false fun e => by subst e; rw [hc] at hb; cases hb
  have ab : (ra = rb) = False := eq_false hab
  have ab' : (rb = ra) = False := eq_false fun e => hab e.symm
  have il := iv_len A
  have il' := iv_len B
  repeat' (first | (simp -implicitDefEqProofs only [ze, zd, simprocAttr, hc, hne, hne', hne0, hne0', hs, a0, a1, an, an0, an0', bn0', ai, ai', b0, b1, bn, bn0, bi, bi', ab, ab', ha, hb, iv_len]) | (with_reducible refine W_itn_cases ?_ ?_; omega))
  refine qd_i ?_ ?_
  · simp [recsOk, ordB, Rec.free, Rec.wr, disj, List.range, List.range.loop, hne, hne', hne0, hne0', an, an', an0, an0', ai, ai', bn, bn', bn0, bn0', bi, bi', ab, ab']; try decide
  repeat' (first | (simp -implicitDefEqProofs only [ze, zd, simprocAttr, hc, hne, hne', hne0, hne0', hs, a0, a1, an, an0, an0', bn0', ai, ai', b0, b1, bn, bn0, bi, bi', ab, ab', ha, hb, iv_len]) | (with_reducible refine W_itn_cases ?_ ?_; omega))
  refine qd_i ?_ ?_
  · simp [recsOk, ordB, Rec.free, Rec.wr, disj, List.range, List.range.loop, hne, hne', hne0, hne0', an, an', an0, an0', ai, ai', bn, bn', bn0, bn0', bi, bi', ab, ab']; try decide
  simp -implicitDefEqProofs only [ze, zd, simprocAttr]
  refine ⟨_, _, rfl, by omega, ⟨?_, ?_, ?_, hab, ?_, ?_, ?_, ha8, hb8⟩, fun i h1 h2 h3 h4 => ?_⟩
  · simp only [upd_at, if_true, iv_app]
  · simp [upd_at, ai, ab, hab, an]
  · simp [upd_at, bi, ab', bn]
  · show id < _; omega
  · show ra < _; omega
  · show rb < _; omega
  · have c1 : ¬ i = nx := by omega
    have c2 : ¬ i = nx + 64 := by omega
    have c4 : ¬ i = nx + 160 := by omega
    simp [upd_at, h2, h3, h4, c1, c2, c4]
end Go.Proofs.YtkbheoganajhaaaDoor.Vm
