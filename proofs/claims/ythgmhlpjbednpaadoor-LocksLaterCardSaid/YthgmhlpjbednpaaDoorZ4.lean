/- Proved here: the law, on a machine over pure data, and what it needs, part 4. Conditions: none. -/
import Derived.Test.YthgmhlpjbednpaaDoorProg
import Derived.WalkKit
import Derived.ProofKit
import Derived.OpenShut
import Derived.ShutString
import Derived.ChangeOld
import Derived.SizedLaws
import Derived.LaidMore
import Derived.Stop.Joined
import Derived.SevenTiedAt
import Derived.Deep.Slices
import Derived.Test.YthgmhlpjbednpaaDoorRows
import Derived.Test.YthgmhlpjbednpaaDoorCards
import Derived.Test.YthgmhlpjbednpaaDoorTie
import Derived.Shelf.Lays
import Derived.Laws.RangeString
import Derived.Laws.RangeAny
import Derived.Test.YthgmhlpjbednpaaDoorZ3
set_option maxRecDepth 100000
set_option linter.unusedVariables false
namespace Go.Proofs.YthgmhlpjbednpaaDoor.Vm
open Go Go.Proofs
def hmS : FuncId → Nat := fun f => if f == 10 || f == 17 || f == 18 || f == 19 || f == 20 || f == 22 || f == 24 || f == 26 || f == 27 || f == 28 || f == 42 || f == 44 || f == 11 || f == 35 || f == 36 || f == 37 || f == 38 || f == 39 || f == 40 || f == 21 || f == 25 || f == 66 || f == 68 || f == 69 || f == 13 || f == 14 || f == 15 || f == 41 || f == 49 || f == 31 then 3 else if f == 3 || f == 4 || f == 5 || f == 6 || f == 7 || f == 8 || f == 12 then 2 else 0
def glS : Nat → Option V := fun g => if g == 0 then some (.cp ([31, 28, 31, 30, 31, 30, 31, 31, 30, 31, 30, 31].map V.i64)) else none
def extS : Exts := ⟨fun _ => none, fun f => if f == 31 then some xsort else none⟩
noncomputable def L : Env := lim Tryd.prog extS hmS glS
noncomputable def LR : Env := L.at 1
theorem LR_pl : LR.pl = L.pl := Env.at_pl L 1
theorem LR_hp : LR.hp = L.hp := Env.at_hp L 1
theorem LR_hm : LR.hm = L.hm := Env.at_hm L 1
theorem pl_w {f : FuncId} {kf : KF} (hf : (Tryd.prog.funcs[f]?).bind (cmpF Tryd.prog hmS glS 0) = some kf) {xs : List V} {C : CR → Prop} (h : wc Tryd.prog L kf.b (RQ kf.rs (PQ C)) ⟨argT xs, fun _ => none, 8⟩) (hz : hmS f / 2 = 0 := by rfl) : W (L.pl f xs) C := pl_wc rfl hz hf h
theorem pl_r {f : FuncId} {kf : KF} (hf : (Tryd.prog.funcs[f]?).bind (cmpF Tryd.prog hmS glS 1) = some kf) {xs : List V} {C : CR → Prop} (h : wc Tryd.prog LR kf.b (RQ kf.rs (PQR C)) ⟨argT xs, fun _ => none, 8⟩) (hz : hmS f / 2 = 1 := by rfl) : W (L.pl f xs) C := pl_wr rfl hz hf h
theorem hp_r {f : FuncId} {kf : KF} (hf : (Tryd.prog.funcs[f]?).bind (cmpF Tryd.prog hmS glS 1) = some kf) {xs : List V} {st : St} {nx : Nat} {C : HR → Prop} (h : wc Tryd.prog LR kf.b (RQ kf.rs C) ⟨argT xs, st, nx⟩) (hz : hmS f / 2 = 1 := by rfl) (he : extS.hp f = none := by rfl) : W (L.hp f xs st nx) C := hp_wc he hz hf h
def k3_l0 : Y := (.seq (.seq (.reg [⟨(some 57), none, (.mov (.t 19))⟩, ⟨(some 58), none, (.mov (.t 3))⟩, ⟨(some 59), none, (.two (.len (.t 58)) (.len (.t 58)))⟩, ⟨(some 60), none, (.bin false .lss (.t 57) (.t 59))⟩] 4 none) (.cond (.t 60) .skip (.«exit» 0))) (.seq (.block 1 (.seq (.reg [⟨(some 63), none, (.mov (.t 15))⟩, ⟨(some 64), none, (.mov (.t 3))⟩, ⟨(some 65), none, (.mov (.t 19))⟩, ⟨(some 66), none, (.two (.ix 39 (.t 64) (.t 65)) (.ixl 39 (.t 64) (.t 65)))⟩, ⟨(some 67), none, (.two (.ld (some 3) (.t 66)) (.ld (some 3) (.t 66)))⟩, ⟨(some 68), none, (.hp 13 [(.t 63), (.t 67)])⟩, ⟨(some 69), none, (.mov (.t 17))⟩, ⟨(some 70), none, (.mov (.t 3))⟩, ⟨(some 71), none, (.mov (.t 19))⟩, ⟨(some 72), none, (.two (.ix 39 (.t 70) (.t 71)) (.ixl 39 (.t 70) (.t 71)))⟩, ⟨(some 73), none, (.two (.ld (some 3) (.t 72)) (.ld (some 3) (.t 72)))⟩, ⟨(some 74), none, (.hp 14 [(.t 69), (.t 73)])⟩, ⟨(some 75), none, (.bin false .neq (.t 68) (.t 74))⟩, ⟨(some 76), none, (.mov (.t 75))⟩, ⟨(some 77), (some (76, false)), (.mov (.t 15))⟩, ⟨(some 78), (some (76, false)), (.mov (.t 17))⟩, ⟨(some 79), (some (76, false)), (.mov (.t 3))⟩, ⟨(some 80), (some (76, false)), (.mov (.t 19))⟩, ⟨(some 81), (some (76, false)), (.two (.ix 39 (.t 79) (.t 80)) (.ixl 39 (.t 79) (.t 80)))⟩, ⟨(some 82), (some (76, false)), (.fa 1 (.t 81))⟩, ⟨(some 83), (some (76, false)), (.two (.ld none (.t 82)) (.ld none (.t 82)))⟩, ⟨(some 84), (some (76, false)), (.two (.ld (some 2) (.t 11)) (.ld (some 2) (.t 11)))⟩, ⟨(some 85), (some (76, false)), (.mov (.t 5))⟩, ⟨(some 86), (some (76, false)), (.mov (.t 6))⟩, ⟨(some 87), (some (76, false)), (.hp 15 [(.t 77), (.t 78), (.t 83), (.t 84), (.t 85), (.t 86)])⟩, ⟨(some 88), (some (76, false)), (.un .not (.t 87))⟩, ⟨(some 89), none, (.pick (.t 76) (.v (.sc (.bool true))) (.t 88))⟩] 27 (some [0, 0, 0, 6, 14, 31, 0, 0, 0, 384, 896, 2047, 4095, 8191, 16383, 16383, 16383, 16383, 212991, 475135, 999423, 16383, 16383, 16383, 16777215, 33554431, 67108863])) (.cond (.t 89) (.seq (.reg [⟨(some 14), none, (.mov (.v (.sc (.bool false))))⟩] 1 none) .ret) .skip))) (.reg [⟨(some 61), none, (.mov (.t 19))⟩, ⟨(some 62), none, (.bin false .add (.t 61) (.v (.sc (.int .i64 1))))⟩, ⟨(some 19), none, (.mov (.t 62))⟩] 3 none)))
def k3_l1 : Y := (.seq (.seq (.reg [⟨(some 90), none, (.mov (.t 20))⟩, ⟨(some 91), none, (.mov (.t 2))⟩, ⟨(some 92), none, (.two (.len (.t 91)) (.len (.t 91)))⟩, ⟨(some 93), none, (.bin false .lss (.t 90) (.t 92))⟩, ⟨(some 94), none, (.mov (.t 93))⟩, ⟨(some 95), (some (94, true)), (.mov (.t 20))⟩, ⟨(some 96), (some (94, true)), (.bin false .lss (.t 95) (.v (.sc (.int .i64 5))))⟩, ⟨(some 97), none, (.pick (.t 94) (.t 96) (.v (.sc (.bool false))))⟩] 8 none) (.cond (.t 97) .skip (.«exit» 2))) (.seq (.block 3 (.seq (.reg [⟨(some 100), none, (.mov (.t 15))⟩, ⟨(some 101), none, (.mov (.t 17))⟩, ⟨(some 102), none, (.mov (.t 2))⟩, ⟨(some 103), none, (.mov (.t 20))⟩, ⟨(some 104), none, (.two (.ix 9 (.t 102) (.t 103)) (.ixl 9 (.t 102) (.t 103)))⟩, ⟨(some 105), none, (.two (.ld none (.t 104)) (.ld none (.t 104)))⟩, ⟨(some 106), none, (.two (.ld (some 2) (.t 11)) (.ld (some 2) (.t 11)))⟩, ⟨(some 107), none, (.mov (.t 5))⟩, ⟨(some 108), none, (.mov (.t 6))⟩, ⟨(some 109), none, (.hp 15 [(.t 100), (.t 101), (.t 105), (.t 106), (.t 107), (.t 108)])⟩, ⟨(some 110), none, (.un .not (.t 109))⟩] 11 (some [0, 0, 0, 0, 12, 28, 0, 0, 0, 511, 1023])) (.cond (.t 110) (.seq (.reg [⟨(some 14), none, (.mov (.v (.sc (.bool false))))⟩] 1 none) .ret) .skip))) (.reg [⟨(some 98), none, (.mov (.t 20))⟩, ⟨(some 99), none, (.bin false .add (.t 98) (.v (.sc (.int .i64 1))))⟩, ⟨(some 20), none, (.mov (.t 99))⟩] 3 none)))
def k3_t0 : Y := (.seq (.reg [⟨(some 111), none, (.mov (.t 15))⟩, ⟨(some 112), none, (.hp 17 [(.t 111)])⟩, ⟨(some 113), none, (.mov (.t 17))⟩, ⟨(some 114), none, (.nilc (.t 113))⟩, ⟨(some 115), none, (.fa 6 (.t 114))⟩, ⟨(some 116), none, (.two (.ld none (.t 115)) (.ld none (.t 115)))⟩, ⟨(some 117), none, (.two (.pl 16 [(.t 112), (.t 116)]) (.pl 16 [(.t 112), (.t 116)]))⟩, ⟨(some 118), none, (.mov (.t 117))⟩, ⟨(some 119), (some (118, true)), (.two (.pl 12 []) (.pl 12 []))⟩, ⟨(some 120), none, (.pick (.t 118) (.t 119) (.v (.sc (.bool false))))⟩, ⟨(some 14), none, (.mov (.t 120))⟩] 11 (some [0, 1, 0, 4, 12, 28, 63, 127, 255, 511, 1023])) .ret)
def k3_t1 : Y := (.seq (.seq (.reg [⟨(some 20), none, (.mov (.v (.sc (.int .i64 0))))⟩] 1 none) (.block 2 (.loop k3_l1))) k3_t0)
def k3 : KF := ⟨(.seq (.reg [⟨(some 7), none, (.box (.t 0))⟩, ⟨(some 8), none, (.box (.t 1))⟩, ⟨(some 11), none, (.box (.t 4))⟩, ⟨(some 14), none, (.mov (.v (.sc (.bool false))))⟩] 4 none) (.seq (.seq (.reg [⟨(some 21), none, (.mov (.t 2))⟩, ⟨(some 22), none, (.mov (.t 3))⟩, ⟨(some 23), none, (.two (.pl 9 [(.t 21), (.t 22)]) (.pl 9 [(.t 21), (.t 22)]))⟩] 3 none) (.cond (.t 23) (.seq (.reg [⟨(some 14), none, (.mov (.v (.sc (.bool true))))⟩] 1 none) .ret) .skip)) (.seq (.reg [⟨(some 25), none, (.two (.ld (some 1) (.t 7)) (.ld (some 1) (.t 7)))⟩, ⟨(some 26), none, (.two (.ld (some 2) (.t 8)) (.ld (some 2) (.t 8)))⟩, ⟨(some 27), none, (.mov (.t 2))⟩, ⟨(some 28), none, (.hp 10 [(.t 25), (.t 26), (.t 27)])⟩, ⟨(some 24), none, (.mov (.t 28))⟩, ⟨(some 29), none, (.ext (.t 24) 0)⟩, ⟨(some 30), none, (.ext (.t 24) 1)⟩, ⟨(some 15), none, (.mov (.t 29))⟩, ⟨(some 16), none, (.mov (.t 30))⟩] 9 none) (.seq (.reg [⟨(some 32), none, (.two (.ld (some 1) (.t 7)) (.ld (some 1) (.t 7)))⟩, ⟨(some 33), none, (.two (.ld (some 2) (.t 8)) (.ld (some 2) (.t 8)))⟩, ⟨(some 34), none, (.mov (.t 2))⟩, ⟨(some 35), none, (.hp 11 [(.t 32), (.t 33), (.t 34)])⟩, ⟨(some 31), none, (.mov (.t 35))⟩, ⟨(some 36), none, (.ext (.t 31) 0)⟩, ⟨(some 37), none, (.ext (.t 31) 1)⟩, ⟨(some 17), none, (.mov (.t 36))⟩, ⟨(some 18), none, (.mov (.t 37))⟩] 9 none) (.seq (.seq (.reg [⟨(some 38), none, (.mov (.t 15))⟩, ⟨(some 39), none, (.isn false (.t 38))⟩, ⟨(some 40), none, (.mov (.t 39))⟩, ⟨(some 41), (some (40, false)), (.mov (.t 17))⟩, ⟨(some 42), (some (40, false)), (.isn false (.t 41))⟩, ⟨(some 43), none, (.pick (.t 40) (.v (.sc (.bool true))) (.t 42))⟩] 6 none) (.cond (.t 43) (.seq (.reg [⟨(some 44), none, (.mov (.t 18))⟩, ⟨(some 45), none, (.bin false .neq (.t 44) (.v (.sc (.int .i64 0))))⟩, ⟨(some 46), none, (.mov (.t 45))⟩, ⟨(some 47), (some (46, true)), (.mov (.t 15))⟩, ⟨(some 48), (some (46, true)), (.isn false (.t 47))⟩, ⟨(some 49), none, (.pick (.t 46) (.t 48) (.v (.sc (.bool false))))⟩, ⟨(some 50), none, (.mov (.t 49))⟩, ⟨(some 51), (some (50, true)), (.mov (.t 17))⟩, ⟨(some 52), (some (50, true)), (.isn false (.t 51))⟩, ⟨(some 53), none, (.pick (.t 50) (.t 52) (.v (.sc (.bool false))))⟩, ⟨(some 54), none, (.mov (.t 53))⟩, ⟨(some 55), (some (54, true)), (.two (.pl 12 []) (.pl 12 []))⟩, ⟨(some 56), none, (.pick (.t 54) (.t 55) (.v (.sc (.bool false))))⟩, ⟨(some 14), none, (.mov (.t 56))⟩] 14 none) .ret) .skip)) (.seq (.seq (.reg [⟨(some 19), none, (.mov (.v (.sc (.int .i64 0))))⟩] 1 none) (.block 0 (.loop k3_l0))) k3_t1)))))), [(.t 14)]⟩
def k4_l0 : Y := (.seq (.seq (.reg [⟨(some 32), none, (.mov (.t 11))⟩, ⟨(some 33), none, (.mov (.t 3))⟩, ⟨(some 34), none, (.two (.len (.t 33)) (.len (.t 33)))⟩, ⟨(some 35), none, (.bin false .lss (.t 32) (.t 34))⟩] 4 none) (.cond (.t 35) .skip (.«exit» 0))) (.seq (.block 1 (.reg [⟨(some 38), none, (.mov (.t 9))⟩, ⟨(some 39), none, (.mov (.t 3))⟩, ⟨(some 40), none, (.mov (.t 11))⟩, ⟨(some 41), none, (.two (.ix 39 (.t 39) (.t 40)) (.ixl 39 (.t 39) (.t 40)))⟩, ⟨(some 42), none, (.two (.ld (some 3) (.t 41)) (.ld (some 3) (.t 41)))⟩, ⟨(some 43), none, (.hp 13 [(.t 38), (.t 42)])⟩] 6 none)) (.reg [⟨(some 36), none, (.mov (.t 11))⟩, ⟨(some 37), none, (.bin false .add (.t 36) (.v (.sc (.int .i64 1))))⟩, ⟨(some 11), none, (.mov (.t 37))⟩] 3 none)))
def k4_l1 : Y := (.seq (.seq (.reg [⟨(some 60), none, (.mov (.t 14))⟩, ⟨(some 61), none, (.bin false .geq (.t 60) (.v (.sc (.int .i64 0))))⟩, ⟨(some 62), none, (.mov (.t 61))⟩, ⟨(some 63), (some (62, true)), (.mov (.t 12))⟩, ⟨(some 64), (some (62, true)), (.mov (.t 14))⟩, ⟨(some 65), (some (62, true)), (.two (.ix 50 (.t 63) (.t 64)) (.ixl 50 (.t 63) (.t 64)))⟩, ⟨(some 66), (some (62, true)), (.fa 1 (.t 65))⟩, ⟨(some 67), (some (62, true)), (.two (.ld none (.t 66)) (.ld none (.t 66)))⟩, ⟨(some 68), (some (62, true)), (.mov (.t 12))⟩, ⟨(some 69), (some (62, true)), (.mov (.t 13))⟩, ⟨(some 70), (some (62, true)), (.two (.ix 50 (.t 68) (.t 69)) (.ixl 50 (.t 68) (.t 69)))⟩, ⟨(some 71), (some (62, true)), (.fa 1 (.t 70))⟩, ⟨(some 72), (some (62, true)), (.two (.ld none (.t 71)) (.ld none (.t 71)))⟩, ⟨(some 73), (some (62, true)), (.bin false .neq (.t 67) (.t 72))⟩, ⟨(some 74), none, (.pick (.t 62) (.t 73) (.v (.sc (.bool false))))⟩] 15 (some [0, 1, 3, 7, 7, 31, 63, 127, 7, 7, 775, 1799, 3847, 8191, 16383])) (.cond (.t 74) .skip (.«exit» 4))) (.block 5 (.reg [⟨(some 75), none, (.mov (.t 14))⟩, ⟨(some 76), none, (.bin false .sub (.t 75) (.v (.sc (.int .i64 1))))⟩, ⟨(some 14), none, (.mov (.t 76))⟩] 3 none)))
def k4_t0 : Y := (.seq (.reg [⟨(some 77), none, (.mov (.t 14))⟩, ⟨(some 78), none, (.bin false .lss (.t 77) (.v (.sc (.int .i64 0))))⟩, ⟨(some 79), none, (.mov (.t 78))⟩, ⟨(some 80), (some (79, false)), (.mov (.t 12))⟩, ⟨(some 81), (some (79, false)), (.mov (.t 14))⟩, ⟨(some 82), (some (79, false)), (.two (.ix 50 (.t 80) (.t 81)) (.ixl 50 (.t 80) (.t 81)))⟩, ⟨(some 83), (some (79, false)), (.fa 0 (.t 82))⟩, ⟨(some 84), (some (79, false)), (.two (.ld none (.t 83)) (.ld none (.t 83)))⟩, ⟨(some 85), (some (79, false)), (.bin false .neq (.t 84) (.v (.sc (.int .i64 9))))⟩, ⟨(some 86), none, (.pick (.t 79) (.v (.sc (.bool true))) (.t 85))⟩, ⟨(some 87), none, (.mov (.t 86))⟩, ⟨(some 88), (some (87, false)), (.mov (.t 12))⟩, ⟨(some 89), (some (87, false)), (.mov (.t 14))⟩, ⟨(some 90), (some (87, false)), (.two (.ix 50 (.t 88) (.t 89)) (.ixl 50 (.t 88) (.t 89)))⟩, ⟨(some 91), (some (87, false)), (.fa 4 (.t 90))⟩, ⟨(some 92), (some (87, false)), (.two (.ld none (.t 91)) (.ld none (.t 91)))⟩, ⟨(some 93), (some (87, false)), (.mov (.t 12))⟩, ⟨(some 94), (some (87, false)), (.mov (.t 13))⟩, ⟨(some 95), (some (87, false)), (.two (.ix 50 (.t 93) (.t 94)) (.ixl 50 (.t 93) (.t 94)))⟩, ⟨(some 96), (some (87, false)), (.fa 4 (.t 95))⟩, ⟨(some 97), (some (87, false)), (.two (.ld none (.t 96)) (.ld none (.t 96)))⟩, ⟨(some 98), (some (87, false)), (.bin false .eql (.t 92) (.t 97))⟩, ⟨(some 99), none, (.pick (.t 87) (.v (.sc (.bool true))) (.t 98))⟩, ⟨(some 100), none, (.mov (.t 99))⟩, ⟨(some 101), (some (100, false)), (.mov (.t 12))⟩, ⟨(some 102), (some (100, false)), (.mov (.t 14))⟩, ⟨(some 103), (some (100, false)), (.two (.ix 50 (.t 101) (.t 102)) (.ixl 50 (.t 101) (.t 102)))⟩, ⟨(some 104), (some (100, false)), (.fa 2 (.t 103))⟩, ⟨(some 105), (some (100, false)), (.two (.ld (some 2) (.t 104)) (.ld (some 2) (.t 104)))⟩, ⟨(some 106), (some (100, false)), (.mov (.t 12))⟩, ⟨(some 107), (some (100, false)), (.mov (.t 13))⟩, ⟨(some 108), (some (100, false)), (.two (.ix 50 (.t 106) (.t 107)) (.ixl 50 (.t 106) (.t 107)))⟩, ⟨(some 109), (some (100, false)), (.fa 2 (.t 108))⟩, ⟨(some 110), (some (100, false)), (.two (.ld (some 2) (.t 109)) (.ld (some 2) (.t 109)))⟩, ⟨(some 111), (some (100, false)), (.eqs true [(0, 0), (1, 0)] (.t 105) (.t 110))⟩, ⟨(some 112), none, (.pick (.t 100) (.v (.sc (.bool true))) (.t 111))⟩] 36 (some [0, 1, 3, 7, 7, 31, 63, 127, 255, 511, 1023, 2047, 2047, 8191, 16383, 32767, 2047, 2047, 198655, 460799, 985087, 2097151, 4194303, 8388607, 16777215, 16777215, 67108863, 134217727, 268435455, 16777215, 16777215, 1627389951, 3774873599, 8069840895, 17179869183, 34359738367])) (.cond (.t 112) (.seq (.reg [⟨(some 8), none, (.mov (.v (.sc (.bool false))))⟩] 1 none) .ret) .skip))
def k4_t1 : Y := (.reg [⟨(some 50), none, (.mov (.t 13))⟩, ⟨(some 51), none, (.bin false .add (.t 50) (.v (.sc (.int .i64 1))))⟩, ⟨(some 13), none, (.mov (.t 51))⟩] 3 none)
def k4_l2 : Y := (.seq (.seq (.reg [⟨(some 46), none, (.mov (.t 13))⟩, ⟨(some 47), none, (.mov (.t 12))⟩, ⟨(some 48), none, (.two (.len (.t 47)) (.len (.t 47)))⟩, ⟨(some 49), none, (.bin false .lss (.t 46) (.t 48))⟩] 4 none) (.cond (.t 49) .skip (.«exit» 2))) (.seq (.block 3 (.seq (.seq (.reg [⟨(some 52), none, (.mov (.t 12))⟩, ⟨(some 53), none, (.mov (.t 13))⟩, ⟨(some 54), none, (.two (.ix 50 (.t 52) (.t 53)) (.ixl 50 (.t 52) (.t 53)))⟩, ⟨(some 55), none, (.fa 0 (.t 54))⟩, ⟨(some 56), none, (.two (.ld none (.t 55)) (.ld none (.t 55)))⟩, ⟨(some 57), none, (.bin false .neq (.t 56) (.v (.sc (.int .i64 10))))⟩] 6 none) (.cond (.t 57) (.«exit» 3) .skip)) (.seq (.reg [⟨(some 58), none, (.mov (.t 13))⟩, ⟨(some 59), none, (.bin false .sub (.t 58) (.v (.sc (.int .i64 1))))⟩, ⟨(some 14), none, (.mov (.t 59))⟩] 3 none) (.seq (.block 4 (.loop k4_l1)) k4_t0)))) k4_t1))
def k4_t2 : Y := (.seq (.reg [⟨(some 113), none, (.two (.pl 12 []) (.pl 12 []))⟩, ⟨(some 8), none, (.mov (.t 113))⟩] 2 none) .ret)
def k4_t3 : Y := (.seq (.reg [⟨(some 44), none, (.mov (.t 9))⟩, ⟨(some 45), none, (.hp 17 [(.t 44)])⟩, ⟨(some 12), none, (.mov (.t 45))⟩] 3 none) (.seq (.seq (.reg [⟨(some 13), none, (.mov (.v (.sc (.int .i64 0))))⟩] 1 none) (.block 2 (.loop k4_l2))) k4_t2))
def k4 : KF := ⟨(.seq (.reg [⟨(some 4), none, (.box (.t 0))⟩, ⟨(some 5), none, (.box (.t 1))⟩, ⟨(some 8), none, (.mov (.v (.sc (.bool false))))⟩] 3 none) (.seq (.seq (.reg [⟨(some 15), none, (.mov (.t 2))⟩, ⟨(some 16), none, (.mov (.t 3))⟩, ⟨(some 17), none, (.two (.pl 9 [(.t 15), (.t 16)]) (.pl 9 [(.t 15), (.t 16)]))⟩] 3 none) (.cond (.t 17) (.seq (.reg [⟨(some 8), none, (.mov (.v (.sc (.bool true))))⟩] 1 none) .ret) .skip)) (.seq (.reg [⟨(some 19), none, (.two (.ld (some 1) (.t 4)) (.ld (some 1) (.t 4)))⟩, ⟨(some 20), none, (.two (.ld (some 2) (.t 5)) (.ld (some 2) (.t 5)))⟩, ⟨(some 21), none, (.mov (.t 2))⟩, ⟨(some 22), none, (.hp 10 [(.t 19), (.t 20), (.t 21)])⟩, ⟨(some 18), none, (.mov (.t 22))⟩, ⟨(some 23), none, (.ext (.t 18) 0)⟩, ⟨(some 24), none, (.ext (.t 18) 1)⟩, ⟨(some 9), none, (.mov (.t 23))⟩, ⟨(some 10), none, (.mov (.t 24))⟩] 9 none) (.seq (.seq (.reg [⟨(some 25), none, (.mov (.t 9))⟩, ⟨(some 26), none, (.isn false (.t 25))⟩] 2 none) (.cond (.t 26) (.seq (.reg [⟨(some 27), none, (.mov (.t 10))⟩, ⟨(some 28), none, (.bin false .neq (.t 27) (.v (.sc (.int .i64 0))))⟩, ⟨(some 29), none, (.mov (.t 28))⟩, ⟨(some 30), (some (29, true)), (.two (.pl 12 []) (.pl 12 []))⟩, ⟨(some 31), none, (.pick (.t 29) (.t 30) (.v (.sc (.bool false))))⟩, ⟨(some 8), none, (.mov (.t 31))⟩] 6 none) .ret) .skip)) (.seq (.seq (.reg [⟨(some 11), none, (.mov (.v (.sc (.int .i64 0))))⟩] 1 none) (.block 0 (.loop k4_l0))) k4_t3))))), [(.t 8)]⟩
def k5_l0 : Y := (.seq (.seq (.reg [⟨(some 60), none, (.mov (.t 15))⟩, ⟨(some 61), none, (.mov (.t 3))⟩, ⟨(some 62), none, (.two (.len (.t 61)) (.len (.t 61)))⟩, ⟨(some 63), none, (.bin false .lss (.t 60) (.t 62))⟩] 4 none) (.cond (.t 63) .skip (.«exit» 0))) (.seq (.block 1 (.seq (.reg [⟨(some 66), none, (.mov (.t 11))⟩, ⟨(some 67), none, (.mov (.t 3))⟩, ⟨(some 68), none, (.mov (.t 15))⟩, ⟨(some 69), none, (.two (.ix 39 (.t 67) (.t 68)) (.ixl 39 (.t 67) (.t 68)))⟩, ⟨(some 70), none, (.two (.ld (some 3) (.t 69)) (.ld (some 3) (.t 69)))⟩, ⟨(some 71), none, (.hp 13 [(.t 66), (.t 70)])⟩, ⟨(some 16), none, (.mov (.t 71))⟩] 7 none) (.seq (.reg [⟨(some 72), none, (.mov (.t 3))⟩, ⟨(some 73), none, (.mov (.t 15))⟩, ⟨(some 74), none, (.two (.ix 39 (.t 72) (.t 73)) (.ixl 39 (.t 72) (.t 73)))⟩, ⟨(some 75), none, (.fa 1 (.t 74))⟩, ⟨(some 76), none, (.two (.ld none (.t 75)) (.ld none (.t 75)))⟩, ⟨(some 77), none, (.mov (.t 4))⟩, ⟨(some 78), none, (.bin false .eql (.t 76) (.t 77))⟩, ⟨(some 79), none, (.mov (.t 78))⟩, ⟨(some 80), (some (79, true)), (.mov (.t 13))⟩, ⟨(some 81), (some (79, true)), (.mov (.t 3))⟩, ⟨(some 82), (some (79, true)), (.mov (.t 15))⟩, ⟨(some 83), (some (79, true)), (.two (.ix 39 (.t 81) (.t 82)) (.ixl 39 (.t 81) (.t 82)))⟩, ⟨(some 84), (some (79, true)), (.two (.ld (some 3) (.t 83)) (.ld (some 3) (.t 83)))⟩, ⟨(some 85), (some (79, true)), (.hp 13 [(.t 80), (.t 84)])⟩, ⟨(some 86), (some (79, true)), (.mov (.t 16))⟩, ⟨(some 87), (some (79, true)), (.bin false .neq (.t 85) (.t 86))⟩, ⟨(some 88), none, (.pick (.t 79) (.t 87) (.v (.sc (.bool false))))⟩] 17 none) (.cond (.t 88) (.seq (.reg [⟨(some 10), none, (.mov (.v (.sc (.bool false))))⟩] 1 none) .ret) .skip)))) (.reg [⟨(some 64), none, (.mov (.t 15))⟩, ⟨(some 65), none, (.bin false .add (.t 64) (.v (.sc (.int .i64 1))))⟩, ⟨(some 15), none, (.mov (.t 65))⟩] 3 none)))
def k5_t0 : Y := (.seq (.reg [⟨(some 90), none, (.mov (.t 11))⟩, ⟨(some 91), none, (.mov (.t 4))⟩, ⟨(some 92), none, (.hp 18 [(.t 90), (.t 91)])⟩, ⟨(some 89), none, (.mov (.t 92))⟩, ⟨(some 93), none, (.ext (.t 89) 0)⟩, ⟨(some 94), none, (.ext (.t 89) 1)⟩, ⟨(some 17), none, (.new [(.sc (.int .i64 0)), (.sc (.int .i64 0))])⟩, ⟨none, none, (.two (.sto 2 (.t 17) (.t 93)) (.sto 2 (.t 17) (.t 93)))⟩, ⟨(some 12), none, (.mov (.t 94))⟩] 9 none) (.seq (.reg [⟨(some 96), none, (.mov (.t 13))⟩, ⟨(some 97), none, (.mov (.t 4))⟩, ⟨(some 98), none, (.hp 18 [(.t 96), (.t 97)])⟩, ⟨(some 95), none, (.mov (.t 98))⟩, ⟨(some 99), none, (.ext (.t 95) 0)⟩, ⟨(some 100), none, (.ext (.t 95) 1)⟩, ⟨(some 18), none, (.new [(.sc (.int .i64 0)), (.sc (.int .i64 0))])⟩, ⟨none, none, (.two (.sto 2 (.t 18) (.t 99)) (.sto 2 (.t 18) (.t 99)))⟩, ⟨(some 14), none, (.mov (.t 100))⟩] 9 none) (.seq (.reg [⟨(some 101), none, (.two (.ld (some 2) (.t 17)) (.ld (some 2) (.t 17)))⟩, ⟨(some 102), none, (.two (.ld (some 2) (.t 18)) (.ld (some 2) (.t 18)))⟩, ⟨(some 103), none, (.eqs false [(0, 0), (1, 0)] (.t 101) (.t 102))⟩, ⟨(some 104), none, (.mov (.t 103))⟩, ⟨(some 105), (some (104, true)), (.mov (.t 12))⟩, ⟨(some 106), (some (104, true)), (.mov (.t 14))⟩, ⟨(some 107), (some (104, true)), (.bin false .eql (.t 105) (.t 106))⟩, ⟨(some 108), none, (.pick (.t 104) (.t 107) (.v (.sc (.bool false))))⟩, ⟨(some 109), none, (.mov (.t 108))⟩, ⟨(some 110), (some (109, true)), (.two (.pl 12 []) (.pl 12 []))⟩, ⟨(some 111), none, (.pick (.t 109) (.t 110) (.v (.sc (.bool false))))⟩, ⟨(some 10), none, (.mov (.t 111))⟩] 12 none) .ret)))
def k5 : KF := ⟨(.seq (.reg [⟨(some 5), none, (.box (.t 0))⟩, ⟨(some 6), none, (.box (.t 1))⟩, ⟨(some 10), none, (.mov (.v (.sc (.bool false))))⟩] 3 none) (.seq (.seq (.reg [⟨(some 19), none, (.mov (.t 2))⟩, ⟨(some 20), none, (.mov (.t 3))⟩, ⟨(some 21), none, (.two (.pl 9 [(.t 19), (.t 20)]) (.pl 9 [(.t 19), (.t 20)]))⟩] 3 none) (.cond (.t 21) (.seq (.reg [⟨(some 10), none, (.mov (.v (.sc (.bool true))))⟩] 1 none) .ret) .skip)) (.seq (.reg [⟨(some 23), none, (.two (.ld (some 1) (.t 5)) (.ld (some 1) (.t 5)))⟩, ⟨(some 24), none, (.two (.ld (some 2) (.t 6)) (.ld (some 2) (.t 6)))⟩, ⟨(some 25), none, (.mov (.t 2))⟩, ⟨(some 26), none, (.hp 10 [(.t 23), (.t 24), (.t 25)])⟩, ⟨(some 22), none, (.mov (.t 26))⟩, ⟨(some 27), none, (.ext (.t 22) 0)⟩, ⟨(some 28), none, (.ext (.t 22) 1)⟩, ⟨(some 11), none, (.mov (.t 27))⟩, ⟨(some 12), none, (.mov (.t 28))⟩] 9 none) (.seq (.reg [⟨(some 30), none, (.two (.ld (some 1) (.t 5)) (.ld (some 1) (.t 5)))⟩, ⟨(some 31), none, (.two (.ld (some 2) (.t 6)) (.ld (some 2) (.t 6)))⟩, ⟨(some 32), none, (.mov (.t 2))⟩, ⟨(some 33), none, (.hp 10 [(.t 30), (.t 31), (.t 32)])⟩, ⟨(some 29), none, (.mov (.t 33))⟩, ⟨(some 34), none, (.ext (.t 29) 0)⟩, ⟨(some 35), none, (.ext (.t 29) 1)⟩, ⟨(some 13), none, (.mov (.t 34))⟩, ⟨(some 14), none, (.mov (.t 35))⟩] 9 none) (.seq (.seq (.reg [⟨(some 36), none, (.mov (.t 11))⟩, ⟨(some 37), none, (.isn false (.t 36))⟩, ⟨(some 38), none, (.mov (.t 37))⟩, ⟨(some 39), (some (38, false)), (.mov (.t 13))⟩, ⟨(some 40), (some (38, false)), (.isn false (.t 39))⟩, ⟨(some 41), none, (.pick (.t 38) (.v (.sc (.bool true))) (.t 40))⟩] 6 none) (.cond (.t 41) (.seq (.reg [⟨(some 42), none, (.mov (.t 12))⟩, ⟨(some 43), none, (.bin false .neq (.t 42) (.v (.sc (.int .i64 0))))⟩, ⟨(some 44), none, (.mov (.t 43))⟩, ⟨(some 45), (some (44, true)), (.mov (.t 14))⟩, ⟨(some 46), (some (44, true)), (.mov (.t 12))⟩, ⟨(some 47), (some (44, true)), (.bin false .eql (.t 45) (.t 46))⟩, ⟨(some 48), none, (.pick (.t 44) (.t 47) (.v (.sc (.bool false))))⟩, ⟨(some 49), none, (.mov (.t 48))⟩, ⟨(some 50), (some (49, true)), (.mov (.t 11))⟩, ⟨(some 51), (some (49, true)), (.isn false (.t 50))⟩, ⟨(some 52), none, (.pick (.t 49) (.t 51) (.v (.sc (.bool false))))⟩, ⟨(some 53), none, (.mov (.t 52))⟩, ⟨(some 54), (some (53, true)), (.mov (.t 13))⟩, ⟨(some 55), (some (53, true)), (.isn false (.t 54))⟩, ⟨(some 56), none, (.pick (.t 53) (.t 55) (.v (.sc (.bool false))))⟩, ⟨(some 57), none, (.mov (.t 56))⟩, ⟨(some 58), (some (57, true)), (.two (.pl 12 []) (.pl 12 []))⟩, ⟨(some 59), none, (.pick (.t 57) (.t 58) (.v (.sc (.bool false))))⟩, ⟨(some 10), none, (.mov (.t 59))⟩] 19 none) .ret) .skip)) (.seq (.seq (.reg [⟨(some 15), none, (.mov (.v (.sc (.int .i64 0))))⟩] 1 none) (.block 0 (.loop k5_l0))) k5_t0)))))), [(.t 10)]⟩
def k6_l0 : Y := (.seq (.seq (.reg [⟨(some 35), none, (.mov (.t 15))⟩, ⟨(some 36), none, (.mov (.t 2))⟩, ⟨(some 37), none, (.bin false .rem (.t 36) (.v (.sc (.int .u8 40))))⟩, ⟨(some 38), none, (.i2i .i64 (.t 37))⟩, ⟨(some 39), none, (.bin false .lss (.t 35) (.t 38))⟩] 5 none) (.cond (.t 39) .skip (.«exit» 0))) (.seq (.block 1 (.reg [⟨(some 42), none, (.mov (.t 13))⟩, ⟨(some 43), none, (.hp 19 [(.t 42), (.v (.sc (.string (ByteArray.mk #[97])))), (.v (.sc (.string (ByteArray.mk #[117]))))])⟩] 2 none)) (.reg [⟨(some 40), none, (.mov (.t 15))⟩, ⟨(some 41), none, (.bin false .add (.t 40) (.v (.sc (.int .i64 1))))⟩, ⟨(some 15), none, (.mov (.t 41))⟩] 3 none)))
def k6_t0 : Y := (.seq (.seq (.reg [⟨(some 44), none, (.mov (.t 3))⟩, ⟨(some 45), none, (.bin false .lss (.t 44) (.v (.sc (.int .i64 0))))⟩, ⟨(some 46), none, (.mov (.t 45))⟩, ⟨(some 47), (some (46, false)), (.mov (.t 3))⟩, ⟨(some 48), (some (46, false)), (.bin false .gtr (.t 47) (.v (.sc (.int .i64 109572))))⟩, ⟨(some 49), none, (.pick (.t 46) (.v (.sc (.bool true))) (.t 48))⟩, ⟨(some 50), none, (.mov (.t 49))⟩, ⟨(some 51), (some (50, false)), (.mov (.t 13))⟩, ⟨(some 52), (some (50, false)), (.mov (.t 3))⟩, ⟨(some 53), (some (50, false)), (.mov (.t 5))⟩, ⟨(some 54), (some (50, false)), (.hp 20 [(.t 51), (.v (.sc (.string (ByteArray.mk #[97])))), (.t 52), (.t 53)])⟩, ⟨(some 55), (some (50, false)), (.bin false .neq (.t 54) (.v (.sc (.int .i64 0))))⟩, ⟨(some 56), none, (.pick (.t 50) (.v (.sc (.bool true))) (.t 55))⟩] 13 none) (.cond (.t 56) (.seq (.reg [⟨(some 57), none, (.two (.pl 12 []) (.pl 12 []))⟩, ⟨(some 12), none, (.mov (.t 57))⟩] 2 none) .ret) .skip)) (.seq (.reg [⟨(some 58), none, (.mov (.t 3))⟩, ⟨(some 59), none, (.mov (.t 4))⟩, ⟨(some 60), none, (.bin false .rem (.t 59) (.v (.sc (.int .u16 5000))))⟩, ⟨(some 61), none, (.i2i .i64 (.t 60))⟩, ⟨(some 62), none, (.bin false .add (.t 58) (.t 61))⟩, ⟨(some 16), none, (.mov (.t 62))⟩] 6 none) (.seq (.reg [⟨(some 64), none, (.mov (.t 13))⟩, ⟨(some 65), none, (.hp 18 [(.t 64), (.v (.sc (.string (ByteArray.mk #[97]))))])⟩, ⟨(some 63), none, (.mov (.t 65))⟩, ⟨(some 66), none, (.ext (.t 63) 0)⟩, ⟨(some 67), none, (.ext (.t 63) 1)⟩, ⟨(some 17), none, (.new [(.sc (.int .i64 0)), (.sc (.int .i64 0))])⟩, ⟨none, none, (.two (.sto 2 (.t 17) (.t 66)) (.sto 2 (.t 17) (.t 66)))⟩, ⟨(some 18), none, (.mov (.t 67))⟩] 8 none) (.seq (.reg [⟨(some 69), none, (.two (.ld (some 1) (.t 6)) (.ld (some 1) (.t 6)))⟩, ⟨(some 70), none, (.two (.ld (some 2) (.t 17)) (.ld (some 2) (.t 17)))⟩, ⟨(some 71), none, (.two (.lit 9 false 1 [(.v (.sc (.string (ByteArray.mk #[97]))))]) (.mk 9 1 [(.v (.sc (.string (ByteArray.mk #[97]))))]))⟩, ⟨(some 72), none, (.hp 11 [(.t 69), (.t 70), (.t 71)])⟩, ⟨(some 68), none, (.mov (.t 72))⟩, ⟨(some 73), none, (.ext (.t 68) 0)⟩, ⟨(some 74), none, (.ext (.t 68) 1)⟩, ⟨(some 19), none, (.mov (.t 73))⟩, ⟨(some 20), none, (.mov (.t 74))⟩] 9 none) (.seq (.seq (.reg [⟨(some 75), none, (.mov (.t 18))⟩, ⟨(some 76), none, (.bin false .neq (.t 75) (.v (.sc (.int .i64 0))))⟩, ⟨(some 77), none, (.mov (.t 76))⟩, ⟨(some 78), (some (77, false)), (.mov (.t 20))⟩, ⟨(some 79), (some (77, false)), (.bin false .neq (.t 78) (.v (.sc (.int .i64 0))))⟩, ⟨(some 80), none, (.pick (.t 77) (.v (.sc (.bool true))) (.t 79))⟩, ⟨(some 81), none, (.mov (.t 80))⟩, ⟨(some 82), (some (81, false)), (.mov (.t 19))⟩, ⟨(some 83), (some (81, false)), (.isn false (.t 82))⟩, ⟨(some 84), none, (.pick (.t 81) (.v (.sc (.bool true))) (.t 83))⟩] 10 none) (.cond (.t 84) (.seq (.reg [⟨(some 12), none, (.mov (.v (.sc (.bool false))))⟩] 1 none) .ret) .skip)) (.seq (.reg [⟨(some 85), none, (.mov (.t 13))⟩, ⟨(some 86), none, (.mov (.t 16))⟩, ⟨(some 87), none, (.mov (.t 5))⟩, ⟨(some 88), none, (.hp 20 [(.t 85), (.v (.sc (.string (ByteArray.mk #[97])))), (.t 86), (.t 87)])⟩, ⟨(some 89), none, (.mov (.t 19))⟩, ⟨(some 90), none, (.mov (.t 16))⟩, ⟨(some 91), none, (.mov (.t 5))⟩, ⟨(some 92), none, (.hp 21 [(.t 89), (.v (.sc (.string (ByteArray.mk #[97])))), (.t 90), (.t 91)])⟩, ⟨(some 93), none, (.bin false .eql (.t 88) (.t 92))⟩, ⟨(some 94), none, (.mov (.t 93))⟩, ⟨(some 95), (some (94, true)), (.mov (.t 19))⟩, ⟨(some 96), (some (94, true)), (.mov (.t 16))⟩, ⟨(some 97), (some (94, true)), (.mov (.t 5))⟩, ⟨(some 98), (some (94, true)), (.hp 21 [(.t 95), (.v (.sc (.string (ByteArray.mk #[97])))), (.t 96), (.t 97)])⟩, ⟨(some 99), (some (94, true)), (.bin false .eql (.t 98) (.v (.sc (.int .i64 0))))⟩, ⟨(some 100), (some (94, true)), (.mov (.t 99))⟩, ⟨(some 101), (some (100, false)), (.mov (.t 16))⟩, ⟨(some 102), (some (100, false)), (.bin false .gtr (.t 101) (.v (.sc (.int .i64 109000))))⟩, ⟨(some 103), (some (94, true)), (.pick (.t 100) (.v (.sc (.bool true))) (.t 102))⟩, ⟨(some 104), none, (.pick (.t 94) (.t 103) (.v (.sc (.bool false))))⟩, ⟨(some 105), none, (.mov (.t 104))⟩, ⟨(some 106), (some (105, true)), (.two (.pl 12 []) (.pl 12 []))⟩, ⟨(some 107), none, (.pick (.t 105) (.t 106) (.v (.sc (.bool false))))⟩, ⟨(some 12), none, (.mov (.t 107))⟩] 24 none) .ret))))))
def k6 : KF := ⟨(.seq (.reg [⟨(some 6), none, (.box (.t 0))⟩, ⟨(some 7), none, (.box (.t 1))⟩, ⟨(some 12), none, (.mov (.v (.sc (.bool false))))⟩] 3 none) (.seq (.reg [⟨(some 22), none, (.two (.ld (some 1) (.t 6)) (.ld (some 1) (.t 6)))⟩, ⟨(some 23), none, (.two (.ld (some 2) (.t 7)) (.ld (some 2) (.t 7)))⟩, ⟨(some 24), none, (.two (.lit 9 false 1 [(.v (.sc (.string (ByteArray.mk #[97]))))]) (.mk 9 1 [(.v (.sc (.string (ByteArray.mk #[97]))))]))⟩, ⟨(some 25), none, (.hp 10 [(.t 22), (.t 23), (.t 24)])⟩, ⟨(some 21), none, (.mov (.t 25))⟩, ⟨(some 26), none, (.ext (.t 21) 0)⟩, ⟨(some 27), none, (.ext (.t 21) 1)⟩, ⟨(some 13), none, (.mov (.t 26))⟩, ⟨(some 14), none, (.mov (.t 27))⟩] 9 none) (.seq (.seq (.reg [⟨(some 28), none, (.mov (.t 13))⟩, ⟨(some 29), none, (.isn false (.t 28))⟩] 2 none) (.cond (.t 29) (.seq (.reg [⟨(some 30), none, (.mov (.t 14))⟩, ⟨(some 31), none, (.bin false .neq (.t 30) (.v (.sc (.int .i64 0))))⟩, ⟨(some 32), none, (.mov (.t 31))⟩, ⟨(some 33), (some (32, true)), (.two (.pl 12 []) (.pl 12 []))⟩, ⟨(some 34), none, (.pick (.t 32) (.t 33) (.v (.sc (.bool false))))⟩, ⟨(some 12), none, (.mov (.t 34))⟩] 6 none) .ret) .skip)) (.seq (.seq (.reg [⟨(some 15), none, (.mov (.v (.sc (.int .i64 0))))⟩] 1 none) (.block 0 (.loop k6_l0))) k6_t0)))), [(.t 12)]⟩
theorem k6_eq : (Tryd.prog.funcs[6]?).bind (cmpF Tryd.prog hmS glS 1) = some k6 := by kernel_rfl
def k7 : KF := ⟨(.seq (.reg [⟨(some 3), none, (.box (.t 0))⟩, ⟨(some 4), none, (.box (.t 1))⟩, ⟨(some 6), none, (.mov (.v (.sc (.bool false))))⟩] 3 none) (.seq (.seq (.reg [⟨(some 11), none, (.mov (.t 2))⟩, ⟨(some 12), none, (.two (.pl 9 [(.t 11), (.v (.list 0 [] 1))]) (.pl 9 [(.t 11), (.v (.list 0 [] 1))]))⟩] 2 none) (.cond (.t 12) (.seq (.reg [⟨(some 6), none, (.mov (.v (.sc (.bool true))))⟩] 1 none) .ret) .skip)) (.seq (.reg [⟨(some 14), none, (.two (.ld (some 1) (.t 3)) (.ld (some 1) (.t 3)))⟩, ⟨(some 15), none, (.two (.ld (some 2) (.t 4)) (.ld (some 2) (.t 4)))⟩, ⟨(some 16), none, (.mov (.t 2))⟩, ⟨(some 17), none, (.hp 10 [(.t 14), (.t 15), (.t 16)])⟩, ⟨(some 13), none, (.mov (.t 17))⟩, ⟨(some 18), none, (.ext (.t 13) 0)⟩, ⟨(some 19), none, (.ext (.t 13) 1)⟩, ⟨(some 7), none, (.mov (.t 18))⟩, ⟨(some 8), none, (.mov (.t 19))⟩] 9 none) (.seq (.reg [⟨(some 21), none, (.two (.ld (some 1) (.t 3)) (.ld (some 1) (.t 3)))⟩, ⟨(some 22), none, (.two (.ld (some 2) (.t 4)) (.ld (some 2) (.t 4)))⟩, ⟨(some 23), none, (.mov (.t 2))⟩, ⟨(some 24), none, (.hp 11 [(.t 21), (.t 22), (.t 23)])⟩, ⟨(some 20), none, (.mov (.t 24))⟩, ⟨(some 25), none, (.ext (.t 20) 0)⟩, ⟨(some 26), none, (.ext (.t 20) 1)⟩, ⟨(some 9), none, (.mov (.t 25))⟩, ⟨(some 10), none, (.mov (.t 26))⟩] 9 none) (.seq (.seq (.reg [⟨(some 27), none, (.mov (.t 8))⟩, ⟨(some 28), none, (.mov (.t 10))⟩, ⟨(some 29), none, (.bin false .neq (.t 27) (.t 28))⟩, ⟨(some 30), none, (.mov (.t 29))⟩, ⟨(some 31), (some (30, false)), (.mov (.t 7))⟩, ⟨(some 32), (some (30, false)), (.isn true (.t 31))⟩, ⟨(some 33), (some (30, false)), (.mov (.t 9))⟩, ⟨(some 34), (some (30, false)), (.isn true (.t 33))⟩, ⟨(some 35), (some (30, false)), (.bin true .neq (.t 32) (.t 34))⟩, ⟨(some 36), none, (.pick (.t 30) (.v (.sc (.bool true))) (.t 35))⟩, ⟨(some 37), none, (.mov (.t 36))⟩, ⟨(some 38), (some (37, false)), (.two (.pl 12 []) (.pl 12 []))⟩, ⟨(some 39), (some (37, false)), (.un .not (.t 38))⟩, ⟨(some 40), none, (.pick (.t 37) (.v (.sc (.bool true))) (.t 39))⟩] 14 none) (.cond (.t 40) (.seq (.reg [⟨(some 6), none, (.mov (.v (.sc (.bool false))))⟩] 1 none) .ret) .skip)) (.seq (.reg [⟨(some 41), none, (.mov (.t 7))⟩, ⟨(some 42), none, (.isn false (.t 41))⟩, ⟨(some 43), none, (.mov (.t 42))⟩, ⟨(some 44), (some (43, false)), (.mov (.t 9))⟩, ⟨(some 45), (some (43, false)), (.isn false (.t 44))⟩, ⟨(some 46), none, (.pick (.t 43) (.v (.sc (.bool true))) (.t 45))⟩, ⟨(some 47), none, (.mov (.t 46))⟩, ⟨(some 48), (some (47, false)), (.mov (.t 7))⟩, ⟨(some 49), (some (47, false)), (.hp 22 [(.t 48)])⟩, ⟨(some 50), (some (47, false)), (.two (.ld (some 1) (.t 3)) (.ld (some 1) (.t 3)))⟩, ⟨(some 51), (some (47, false)), (.eqs false [(0, 0)] (.t 49) (.t 50))⟩, ⟨(some 52), (some (47, false)), (.mov (.t 51))⟩, ⟨(some 53), (some (52, true)), (.mov (.t 7))⟩, ⟨(some 54), (some (52, true)), (.hp 24 [(.t 53)])⟩, ⟨(some 55), (some (52, true)), (.mov (.t 9))⟩, ⟨(some 56), (some (52, true)), (.hp 25 [(.t 55)])⟩, ⟨(some 57), (some (52, true)), (.two (.pl 23 [(.t 54), (.t 56)]) (.pl 23 [(.t 54), (.t 56)]))⟩, ⟨(some 58), (some (47, false)), (.pick (.t 52) (.t 57) (.v (.sc (.bool false))))⟩, ⟨(some 59), (some (47, false)), (.mov (.t 58))⟩, ⟨(some 60), (some (59, true)), (.mov (.t 7))⟩, ⟨(some 61), (some (59, true)), (.hp 17 [(.t 60)])⟩, ⟨(some 62), (some (59, true)), (.two (.len (.t 61)) (.len (.t 61)))⟩, ⟨(some 63), (some (59, true)), (.bin false .eql (.t 62) (.v (.sc (.int .i64 0))))⟩, ⟨(some 64), (some (47, false)), (.pick (.t 59) (.t 63) (.v (.sc (.bool false))))⟩, ⟨(some 65), none, (.pick (.t 47) (.v (.sc (.bool true))) (.t 64))⟩, ⟨(some 6), none, (.mov (.t 65))⟩] 26 (some [0, 1, 3, 7, 15, 31, 63, 127, 255, 127, 1023, 2047, 4095, 8191, 4095, 32767, 65535, 131071, 262143, 524287, 1048575, 2097151, 4194303, 8388607, 16777215, 33554431])) .ret)))))), [(.t 6)]⟩
def k8 : KF := ⟨(.seq (.reg [⟨(some 7), none, (.box (.t 2))⟩, ⟨(some 10), none, (.mov (.v (.sc (.bool false))))⟩] 2 none) (.seq (.reg [⟨(some 11), none, (.mov (.v (.sc (.pointer none))))⟩] 1 none) (.seq (.reg [⟨(some 15), none, (.mov (.t 11))⟩, ⟨(some 16), none, (.mov (.t 0))⟩, ⟨(some 17), none, (.hp 18 [(.t 15), (.t 16)])⟩, ⟨(some 14), none, (.mov (.t 17))⟩, ⟨(some 18), none, (.ext (.t 14) 0)⟩, ⟨(some 19), none, (.ext (.t 14) 1)⟩, ⟨(some 12), none, (.new [(.sc (.int .i64 0)), (.sc (.int .i64 0))])⟩, ⟨none, none, (.two (.sto 2 (.t 12) (.t 18)) (.sto 2 (.t 12) (.t 18)))⟩, ⟨(some 13), none, (.mov (.t 19))⟩] 9 none) (.seq (.reg [⟨(some 20), none, (.mov (.t 11))⟩, ⟨(some 21), none, (.hp 22 [(.t 20)])⟩, ⟨(some 22), none, (.build [(0, 1)] [(.sc (.int .i64 0))] [])⟩, ⟨(some 23), none, (.eqs false [(0, 0)] (.t 21) (.t 22))⟩, ⟨(some 24), none, (.mov (.t 23))⟩, ⟨(some 25), (some (24, true)), (.mov (.t 11))⟩, ⟨(some 26), (some (24, true)), (.hp 24 [(.t 25)])⟩, ⟨(some 27), (some (24, true)), (.two (.len (.t 26)) (.len (.t 26)))⟩, ⟨(some 28), (some (24, true)), (.bin false .eql (.t 27) (.v (.sc (.int .i64 0))))⟩, ⟨(some 29), none, (.pick (.t 24) (.t 28) (.v (.sc (.bool false))))⟩, ⟨(some 30), none, (.mov (.t 29))⟩, ⟨(some 31), (some (30, true)), (.two (.ld (some 2) (.t 12)) (.ld (some 2) (.t 12)))⟩, ⟨(some 32), (some (30, true)), (.build [(0, 1), (1, 1)] [(.sc (.int .i64 0)), (.sc (.int .i64 0))] [])⟩, ⟨(some 33), (some (30, true)), (.eqs false [(0, 0), (1, 0)] (.t 31) (.t 32))⟩, ⟨(some 34), none, (.pick (.t 30) (.t 33) (.v (.sc (.bool false))))⟩, ⟨(some 35), none, (.mov (.t 34))⟩, ⟨(some 36), (some (35, true)), (.mov (.t 13))⟩, ⟨(some 37), (some (35, true)), (.bin false .eql (.t 36) (.v (.sc (.int .i64 1))))⟩, ⟨(some 38), none, (.pick (.t 35) (.t 37) (.v (.sc (.bool false))))⟩, ⟨(some 39), none, (.mov (.t 38))⟩, ⟨(some 40), (some (39, true)), (.mov (.t 11))⟩, ⟨(some 41), (some (39, true)), (.mov (.t 0))⟩, ⟨(some 42), (some (39, true)), (.two (.ld (some 2) (.t 7)) (.ld (some 2) (.t 7)))⟩, ⟨(some 43), (some (39, true)), (.hp 26 [(.t 40), (.t 41), (.t 42)])⟩, ⟨(some 44), (some (39, true)), (.bin false .eql (.t 43) (.v (.sc (.int .i64 0))))⟩, ⟨(some 45), none, (.pick (.t 39) (.t 44) (.v (.sc (.bool false))))⟩, ⟨(some 46), none, (.mov (.t 45))⟩, ⟨(some 47), (some (46, true)), (.mov (.t 11))⟩, ⟨(some 48), (some (46, true)), (.mov (.t 0))⟩, ⟨(some 49), (some (46, true)), (.mov (.t 1))⟩, ⟨(some 50), (some (46, true)), (.hp 19 [(.t 47), (.t 48), (.t 49)])⟩, ⟨(some 51), (some (46, true)), (.bin false .eql (.t 50) (.v (.sc (.int .i64 1))))⟩, ⟨(some 52), none, (.pick (.t 46) (.t 51) (.v (.sc (.bool false))))⟩, ⟨(some 53), none, (.mov (.t 52))⟩, ⟨(some 54), (some (53, true)), (.mov (.t 11))⟩, ⟨(some 55), (some (53, true)), (.mov (.t 0))⟩, ⟨(some 56), (some (53, true)), (.mov (.t 1))⟩, ⟨(some 57), (some (53, true)), (.hp 27 [(.t 54), (.t 55), (.t 56)])⟩, ⟨(some 58), (some (53, true)), (.bin false .eql (.t 57) (.v (.sc (.int .i64 1))))⟩, ⟨(some 59), none, (.pick (.t 53) (.t 58) (.v (.sc (.bool false))))⟩, ⟨(some 60), none, (.mov (.t 59))⟩, ⟨(some 61), (some (60, true)), (.mov (.t 11))⟩, ⟨(some 62), (some (60, true)), (.mov (.t 0))⟩, ⟨(some 63), (some (60, true)), (.mov (.t 1))⟩, ⟨(some 64), (some (60, true)), (.hp 28 [(.t 61), (.t 62), (.t 63)])⟩, ⟨(some 65), (some (60, true)), (.bin false .eql (.t 64) (.v (.sc (.int .i64 1))))⟩, ⟨(some 66), none, (.pick (.t 60) (.t 65) (.v (.sc (.bool false))))⟩, ⟨(some 67), none, (.mov (.t 66))⟩, ⟨(some 68), (some (67, true)), (.mov (.t 11))⟩, ⟨(some 69), (some (67, true)), (.mov (.t 0))⟩, ⟨(some 70), (some (67, true)), (.mov (.t 3))⟩, ⟨(some 71), (some (67, true)), (.mov (.t 4))⟩, ⟨(some 72), (some (67, true)), (.hp 20 [(.t 68), (.t 69), (.t 70), (.t 71)])⟩, ⟨(some 73), (some (67, true)), (.bin false .eql (.t 72) (.v (.sc (.int .i64 1))))⟩, ⟨(some 74), none, (.pick (.t 67) (.t 73) (.v (.sc (.bool false))))⟩, ⟨(some 75), none, (.mov (.t 74))⟩, ⟨(some 76), (some (75, true)), (.mov (.t 11))⟩, ⟨(some 77), (some (75, true)), (.hp 17 [(.t 76)])⟩, ⟨(some 78), (some (75, true)), (.two (.len (.t 77)) (.len (.t 77)))⟩, ⟨(some 79), (some (75, true)), (.bin false .eql (.t 78) (.v (.sc (.int .i64 0))))⟩, ⟨(some 80), none, (.pick (.t 75) (.t 79) (.v (.sc (.bool false))))⟩, ⟨(some 81), none, (.mov (.t 80))⟩, ⟨(some 82), (some (81, true)), (.two (.pl 12 []) (.pl 12 []))⟩, ⟨(some 83), none, (.pick (.t 81) (.t 82) (.v (.sc (.bool false))))⟩, ⟨(some 10), none, (.mov (.t 83))⟩] 65 none) .ret)))), [(.t 10)]⟩
def k9 : KF := ⟨(.seq (.reg [⟨(some 4), none, (.mov (.v (.sc (.bool false))))⟩] 1 none) (.seq (.reg [⟨(some 5), none, (.mov (.t 0))⟩, ⟨(some 6), none, (.len (.t 5))⟩, ⟨(some 7), none, (.bin false .gtr (.t 6) (.v (.sc (.int .i64 210))))⟩, ⟨(some 8), none, (.mov (.t 7))⟩, ⟨(some 9), (some (8, false)), (.mov (.t 1))⟩, ⟨(some 10), (some (8, false)), (.len (.t 9))⟩, ⟨(some 11), (some (8, false)), (.bin false .gtr (.t 10) (.v (.sc (.int .i64 40))))⟩, ⟨(some 12), none, (.pick (.t 8) (.v (.sc (.bool true))) (.t 11))⟩, ⟨(some 4), none, (.mov (.t 12))⟩] 9 none) .ret)), [(.t 4)]⟩
def k10_l0 : Y := (.seq (.reg [⟨(some 37), none, (.bin false .lss (.t 36) (.t 35))⟩] 1 none) (.seq (.cond (.t 37) .skip (.«exit» 0)) (.seq (.block 1 (.seq (.reg [⟨(some 38), none, (.two (.ix 9 (.t 34) (.t 36)) (.ixl 9 (.t 34) (.t 36)))⟩, ⟨(some 39), none, (.two (.ld none (.t 38)) (.ld none (.t 38)))⟩, ⟨(some 12), none, (.mov (.t 39))⟩] 3 none) (.seq (.seq (.reg [⟨(some 40), none, (.mov (.t 12))⟩, ⟨(some 41), none, (.two (.pl 30 [(.t 40)]) (.pl 30 [(.t 40)]))⟩, ⟨(some 42), none, (.un .not (.t 41))⟩] 3 none) (.cond (.t 42) (.seq (.reg [⟨(some 6), none, (.mov (.v (.sc (.pointer none))))⟩, ⟨(some 7), none, (.mov (.v (.sc (.int .i64 7))))⟩] 2 none) .ret) .skip)) (.seq (.seq (.reg [⟨(some 44), none, (.mov (.t 6))⟩, ⟨(some 45), none, (.nilc (.t 44))⟩, ⟨(some 46), none, (.fa 3 (.t 45))⟩, ⟨(some 47), none, (.two (.ld none (.t 46)) (.ld none (.t 46)))⟩, ⟨(some 48), none, (.mov (.t 12))⟩, ⟨(some 49), none, (.lku 1 (.agg [(.sc (.int .i64 0)), (.sc (.int .i64 0))]) true (.t 47) (.t 48))⟩, ⟨(some 43), none, (.mov (.t 49))⟩, ⟨(some 50), none, (.ext (.t 43) 0)⟩, ⟨(some 51), none, (.ext (.t 43) 1)⟩, ⟨(some 13), none, (.new [(.sc (.int .i64 0)), (.sc (.int .i64 0))])⟩, ⟨none, none, (.two (.sto 2 (.t 13) (.t 50)) (.sto 2 (.t 13) (.t 50)))⟩, ⟨(some 14), none, (.mov (.t 51))⟩] 12 none) (.seq (.reg [⟨(some 52), none, (.mov (.t 14))⟩] 1 none) (.cond (.t 52) (.seq (.reg [⟨(some 6), none, (.mov (.v (.sc (.pointer none))))⟩, ⟨(some 7), none, (.mov (.v (.sc (.int .i64 8))))⟩] 2 none) .ret) .skip))) (.seq (.reg [⟨(some 53), none, (.mov (.t 6))⟩, ⟨(some 54), none, (.nilc (.t 53))⟩, ⟨(some 55), none, (.fa 3 (.t 54))⟩, ⟨(some 56), none, (.two (.ld none (.t 55)) (.ld none (.t 55)))⟩, ⟨(some 57), none, (.mov (.t 12))⟩, ⟨(some 58), none, (.two (.ld (some 2) (.t 4)) (.ld (some 2) (.t 4)))⟩, ⟨none, none, (.mup 1 (.t 56) (.t 57) (.t 58))⟩] 7 (some [0, 1, 3, 7, 0, 0, 63])) (.reg [⟨(some 59), none, (.mov (.t 6))⟩, ⟨(some 60), none, (.mov (.t 6))⟩, ⟨(some 61), none, (.nilc (.t 60))⟩, ⟨(some 62), none, (.fa 5 (.t 61))⟩, ⟨(some 63), none, (.two (.ld none (.t 62)) (.ld none (.t 62)))⟩, ⟨(some 64), none, (.mov (.t 12))⟩, ⟨(some 65), none, (.two (.lit 9 false 1 [(.t 64)]) (.mk 9 1 [(.t 64)]))⟩, ⟨(some 66), none, (.two (.app 9 false 1 16 true (.t 63) (.t 65)) (.app 9 16 true (.t 63) (.t 65)))⟩, ⟨(some 67), none, (.nilc (.t 59))⟩, ⟨(some 68), none, (.fa 5 (.t 67))⟩, ⟨none, none, (.two (.sto 1 (.t 68) (.t 66)) (.sto 1 (.t 68) (.t 66)))⟩] 11 none)))))) (.reg [⟨(some 69), none, (.bin false .add (.t 36) (.v (.sc (.int .i64 1))))⟩, ⟨(some 36), none, (.mov (.t 69))⟩] 2 none))))
def k10_t0 : Y := (.seq (.reg [⟨(some 70), none, (.mov (.t 6))⟩, ⟨(some 71), none, (.nilc (.t 70))⟩, ⟨(some 72), none, (.fa 5 (.t 71))⟩, ⟨(some 73), none, (.two (.ld none (.t 72)) (.ld none (.t 72)))⟩, ⟨(some 74), none, (.hp 31 [(.t 73)])⟩] 5 none) (.seq (.reg [⟨(some 75), none, (.mov (.t 6))⟩, ⟨(some 6), none, (.mov (.t 75))⟩, ⟨(some 7), none, (.mov (.v (.sc (.int .i64 0))))⟩] 3 none) .ret))
def k10 : KF := ⟨(.seq (.reg [⟨(some 3), none, (.box (.t 0))⟩, ⟨(some 4), none, (.box (.t 1))⟩, ⟨(some 6), none, (.mov (.v (.sc (.pointer none))))⟩, ⟨(some 7), none, (.mov (.v (.sc (.int .i64 0))))⟩] 4 none) (.seq (.seq (.reg [⟨(some 16), none, (.two (.ld (some 1) (.t 3)) (.ld (some 1) (.t 3)))⟩, ⟨(some 17), none, (.two (.ld (some 2) (.t 4)) (.ld (some 2) (.t 4)))⟩, ⟨(some 18), none, (.two (.pl 29 [(.t 16), (.t 17)]) (.pl 29 [(.t 16), (.t 17)]))⟩, ⟨(some 15), none, (.mov (.t 18))⟩, ⟨(some 19), none, (.ext (.t 15) 0)⟩, ⟨(some 20), none, (.ext (.t 15) 1)⟩, ⟨(some 21), none, (.ext (.t 15) 2)⟩, ⟨(some 8), none, (.mov (.t 19))⟩, ⟨(some 9), none, (.mov (.t 20))⟩, ⟨(some 10), none, (.mov (.t 21))⟩] 10 none) (.seq (.reg [⟨(some 22), none, (.mov (.t 10))⟩, ⟨(some 23), none, (.bin false .neq (.t 22) (.v (.sc (.int .i64 0))))⟩] 2 none) (.cond (.t 23) (.seq (.reg [⟨(some 24), none, (.mov (.t 10))⟩, ⟨(some 6), none, (.mov (.v (.sc (.pointer none))))⟩, ⟨(some 7), none, (.mov (.t 24))⟩] 3 none) .ret) .skip))) (.seq (.seq (.reg [⟨(some 25), none, (.mov (.t 2))⟩, ⟨(some 26), none, (.two (.len (.t 25)) (.len (.t 25)))⟩, ⟨(some 27), none, (.bin false .gtr (.t 26) (.v (.sc (.int .i64 200))))⟩] 3 none) (.cond (.t 27) (.seq (.reg [⟨(some 6), none, (.mov (.v (.sc (.pointer none))))⟩, ⟨(some 7), none, (.mov (.v (.sc (.int .i64 9))))⟩] 2 none) .ret) .skip)) (.seq (.reg [⟨(some 28), none, (.two (.ld (some 1) (.t 3)) (.ld (some 1) (.t 3)))⟩, ⟨(some 29), none, (.two (.ld (some 2) (.t 4)) (.ld (some 2) (.t 4)))⟩, ⟨(some 30), none, .mkm⟩, ⟨(some 31), none, .mkm⟩, ⟨(some 32), none, (.build [(0, 1), (1, 2), (3, 1), (4, 1), (5, 1), (6, 1)] [(.sc (.int .i64 0)), (.sc (.int .i64 0)), (.sc (.int .i64 0)), (.sc (.map none)), (.sc (.map none)), (.list 0 [] 1), (.list 0 [] 1)] [(0, (.t 28)), (1, (.t 29)), (2, (.t 30)), (3, (.t 31))])⟩, ⟨(some 33), none, (.box (.t 32))⟩, ⟨(some 6), none, (.mov (.t 33))⟩] 7 none) (.seq (.seq (.reg [⟨(some 34), none, (.mov (.t 2))⟩, ⟨(some 35), none, (.two (.len (.t 34)) (.len (.t 34)))⟩, ⟨(some 36), none, (.mov (.v (.sc (.int .i64 0))))⟩] 3 none) (.block 0 (.loop k10_l0))) k10_t0))))), [(.t 6), (.t 7)]⟩
theorem k10_eq : (Tryd.prog.funcs[10]?).bind (cmpF Tryd.prog hmS glS 1) = some k10 := by kernel_rfl
def k11_l0 : Y := (.seq (.seq (.reg [⟨(some 32), none, (.mov (.t 12))⟩, ⟨(some 33), none, (.mov (.t 2))⟩, ⟨(some 34), none, (.two (.len (.t 33)) (.len (.t 33)))⟩, ⟨(some 35), none, (.bin false .lss (.t 32) (.t 34))⟩] 4 none) (.cond (.t 35) .skip (.«exit» 0))) (.seq (.block 1 (.seq (.seq (.reg [⟨(some 38), none, (.mov (.t 2))⟩, ⟨(some 39), none, (.mov (.t 12))⟩, ⟨(some 40), none, (.two (.ix 9 (.t 38) (.t 39)) (.ixl 9 (.t 38) (.t 39)))⟩, ⟨(some 41), none, (.two (.ld none (.t 40)) (.ld none (.t 40)))⟩, ⟨(some 42), none, (.two (.pl 34 [(.t 41)]) (.pl 34 [(.t 41)]))⟩, ⟨(some 43), none, (.un .not (.t 42))⟩] 6 none) (.cond (.t 43) (.seq (.reg [⟨(some 6), none, (.mov (.v (.sc (.pointer none))))⟩, ⟨(some 7), none, (.mov (.v (.sc (.int .i64 7))))⟩] 2 none) .ret) .skip)) (.seq (.seq (.reg [⟨(some 44), none, (.mov (.t 11))⟩, ⟨(some 45), none, (.mov (.t 2))⟩, ⟨(some 46), none, (.mov (.t 12))⟩, ⟨(some 47), none, (.two (.ix 9 (.t 45) (.t 46)) (.ixl 9 (.t 45) (.t 46)))⟩, ⟨(some 48), none, (.two (.ld none (.t 47)) (.ld none (.t 47)))⟩, ⟨(some 49), none, (.hp 35 [(.t 44), (.t 48)])⟩, ⟨(some 50), none, (.bin false .geq (.t 49) (.v (.sc (.int .i64 0))))⟩] 7 none) (.cond (.t 50) (.seq (.reg [⟨(some 6), none, (.mov (.v (.sc (.pointer none))))⟩, ⟨(some 7), none, (.mov (.v (.sc (.int .i64 8))))⟩] 2 none) .ret) .skip)) (.seq (.reg [⟨(some 51), none, (.mov (.t 11))⟩, ⟨(some 52), none, (.mov (.t 11))⟩, ⟨(some 53), none, (.nilc (.t 52))⟩, ⟨(some 54), none, (.fa 3 (.t 53))⟩, ⟨(some 55), none, (.two (.ld none (.t 54)) (.ld none (.t 54)))⟩, ⟨(some 56), none, (.mov (.t 2))⟩, ⟨(some 57), none, (.mov (.t 12))⟩, ⟨(some 58), none, (.two (.ix 9 (.t 56) (.t 57)) (.ixl 9 (.t 56) (.t 57)))⟩, ⟨(some 59), none, (.two (.ld none (.t 58)) (.ld none (.t 58)))⟩, ⟨(some 60), none, (.two (.lit 9 false 1 [(.t 59)]) (.mk 9 1 [(.t 59)]))⟩, ⟨(some 61), none, (.two (.app 9 false 1 16 true (.t 55) (.t 60)) (.app 9 16 true (.t 55) (.t 60)))⟩, ⟨(some 62), none, (.nilc (.t 51))⟩, ⟨(some 63), none, (.fa 3 (.t 62))⟩, ⟨none, none, (.two (.sto 1 (.t 63) (.t 61)) (.sto 1 (.t 63) (.t 61)))⟩] 14 (some [0, 0, 2, 6, 14, 0, 0, 96, 224, 480, 1022, 2047, 4095, 8191])) (.seq (.reg [⟨(some 64), none, (.mov (.t 11))⟩, ⟨(some 65), none, (.mov (.t 11))⟩, ⟨(some 66), none, (.nilc (.t 65))⟩, ⟨(some 67), none, (.fa 4 (.t 66))⟩, ⟨(some 68), none, (.two (.ld none (.t 67)) (.ld none (.t 67)))⟩, ⟨(some 69), none, (.two (.ld (some 2) (.t 4)) (.ld (some 2) (.t 4)))⟩, ⟨(some 70), none, (.two (.lit 25 true 2 [(.t 69)]) (.mk 25 2 [(.t 69)]))⟩, ⟨(some 71), none, (.two (.app 25 true 2 16 true (.t 68) (.t 70)) (.app 25 16 true (.t 68) (.t 70)))⟩, ⟨(some 72), none, (.nilc (.t 64))⟩, ⟨(some 73), none, (.fa 4 (.t 72))⟩, ⟨none, none, (.two (.sto 1 (.t 73) (.t 71)) (.sto 1 (.t 73) (.t 71)))⟩] 11 (some [0, 0, 2, 6, 14, 0, 32, 126, 255, 511, 1023])) (.reg [⟨(some 74), none, (.mov (.t 11))⟩, ⟨(some 75), none, (.mov (.t 11))⟩, ⟨(some 76), none, (.nilc (.t 75))⟩, ⟨(some 77), none, (.fa 5 (.t 76))⟩, ⟨(some 78), none, (.two (.ld none (.t 77)) (.ld none (.t 77)))⟩, ⟨(some 79), none, (.two (.lit 9 false 1 [(.v (.sc (.string (ByteArray.mk #[]))))]) (.mk 9 1 [(.v (.sc (.string (ByteArray.mk #[]))))]))⟩, ⟨(some 80), none, (.two (.app 9 false 1 16 true (.t 78) (.t 79)) (.app 9 16 true (.t 78) (.t 79)))⟩, ⟨(some 81), none, (.nilc (.t 74))⟩, ⟨(some 82), none, (.fa 5 (.t 81))⟩, ⟨none, none, (.two (.sto 1 (.t 82) (.t 80)) (.sto 1 (.t 82) (.t 80)))⟩] 10 none)))))) (.reg [⟨(some 36), none, (.mov (.t 12))⟩, ⟨(some 37), none, (.bin false .add (.t 36) (.v (.sc (.int .i64 1))))⟩, ⟨(some 12), none, (.mov (.t 37))⟩] 3 none)))
def k11_t0 : Y := (.seq (.reg [⟨(some 83), none, (.mov (.t 11))⟩, ⟨(some 6), none, (.mov (.t 83))⟩, ⟨(some 7), none, (.mov (.v (.sc (.int .i64 0))))⟩] 3 none) .ret)
def k11 : KF := ⟨(.seq (.reg [⟨(some 3), none, (.box (.t 0))⟩, ⟨(some 4), none, (.box (.t 1))⟩, ⟨(some 6), none, (.mov (.v (.sc (.pointer none))))⟩, ⟨(some 7), none, (.mov (.v (.sc (.int .i64 0))))⟩] 4 none) (.seq (.seq (.reg [⟨(some 13), none, (.two (.ld (some 1) (.t 3)) (.ld (some 1) (.t 3)))⟩, ⟨(some 14), none, (.two (.pl 32 [(.t 13)]) (.pl 32 [(.t 13)]))⟩, ⟨(some 15), none, (.un .not (.t 14))⟩] 3 none) (.cond (.t 15) (.seq (.reg [⟨(some 6), none, (.mov (.v (.sc (.pointer none))))⟩, ⟨(some 7), none, (.mov (.v (.sc (.int .i64 2))))⟩] 2 none) .ret) .skip)) (.seq (.seq (.reg [⟨(some 17), none, (.two (.ld (some 1) (.t 3)) (.ld (some 1) (.t 3)))⟩, ⟨(some 18), none, (.two (.ld (some 2) (.t 4)) (.ld (some 2) (.t 4)))⟩, ⟨(some 19), none, (.two (.pl 33 [(.t 17), (.t 18)]) (.pl 33 [(.t 17), (.t 18)]))⟩, ⟨(some 16), none, (.mov (.t 19))⟩, ⟨(some 20), none, (.ext (.t 16) 0)⟩, ⟨(some 21), none, (.ext (.t 16) 1)⟩, ⟨(some 22), none, (.ext (.t 16) 2)⟩, ⟨(some 8), none, (.mov (.t 20))⟩, ⟨(some 9), none, (.mov (.t 21))⟩, ⟨(some 10), none, (.mov (.t 22))⟩] 10 none) (.seq (.reg [⟨(some 23), none, (.mov (.t 10))⟩, ⟨(some 24), none, (.bin false .neq (.t 23) (.v (.sc (.int .i64 0))))⟩] 2 none) (.cond (.t 24) (.seq (.reg [⟨(some 6), none, (.mov (.v (.sc (.pointer none))))⟩, ⟨(some 7), none, (.mov (.v (.sc (.int .i64 16))))⟩] 2 none) .ret) .skip))) (.seq (.seq (.reg [⟨(some 25), none, (.mov (.t 2))⟩, ⟨(some 26), none, (.two (.len (.t 25)) (.len (.t 25)))⟩, ⟨(some 27), none, (.bin false .gtr (.t 26) (.v (.sc (.int .i64 200))))⟩] 3 none) (.cond (.t 27) (.seq (.reg [⟨(some 6), none, (.mov (.v (.sc (.pointer none))))⟩, ⟨(some 7), none, (.mov (.v (.sc (.int .i64 9))))⟩] 2 none) .ret) .skip)) (.seq (.reg [⟨(some 28), none, (.two (.ld (some 1) (.t 3)) (.ld (some 1) (.t 3)))⟩, ⟨(some 29), none, (.two (.ld (some 2) (.t 4)) (.ld (some 2) (.t 4)))⟩, ⟨(some 30), none, (.build [(0, 1), (1, 2), (3, 1), (4, 1), (5, 1), (6, 1)] [(.sc (.int .i64 0)), (.sc (.int .i64 0)), (.sc (.int .i64 0)), (.list 0 [] 1), (.list 0 [] 1), (.list 0 [] 1), (.list 0 [] 1)] [(0, (.t 28)), (1, (.t 29))])⟩, ⟨(some 31), none, (.box (.t 30))⟩, ⟨(some 11), none, (.mov (.t 31))⟩] 5 none) (.seq (.seq (.reg [⟨(some 12), none, (.mov (.v (.sc (.int .i64 0))))⟩] 1 none) (.block 0 (.loop k11_l0))) k11_t0)))))), [(.t 6), (.t 7)]⟩
theorem k11_eq : (Tryd.prog.funcs[11]?).bind (cmpF Tryd.prog hmS glS 1) = some k11 := by kernel_rfl
def k18 : KF := ⟨(.seq (.reg [⟨(some 4), none, (.new [(.sc (.int .i64 0)), (.sc (.int .i64 0))])⟩, ⟨(some 5), none, (.mov (.v (.sc (.int .i64 0))))⟩] 2 none) (.seq (.seq (.reg [⟨(some 7), none, (.mov (.t 0))⟩, ⟨(some 8), none, (.isn false (.t 7))⟩] 2 none) (.cond (.t 8) (.seq (.reg [⟨(some 9), none, (.build [(0, 1), (1, 1)] [(.sc (.int .i64 0)), (.sc (.int .i64 0))] [])⟩, ⟨none, none, (.two (.sto 2 (.t 4) (.t 9)) (.sto 2 (.t 4) (.t 9)))⟩, ⟨(some 5), none, (.mov (.v (.sc (.int .i64 1))))⟩] 3 none) .ret) .skip)) (.seq (.reg [⟨(some 11), none, (.mov (.t 0))⟩, ⟨(some 12), none, (.nilc (.t 11))⟩, ⟨(some 13), none, (.fa 3 (.t 12))⟩, ⟨(some 14), none, (.two (.ld none (.t 13)) (.ld none (.t 13)))⟩, ⟨(some 15), none, (.mov (.t 1))⟩, ⟨(some 16), none, (.lku 1 (.agg [(.sc (.int .i64 0)), (.sc (.int .i64 0))]) true (.t 14) (.t 15))⟩, ⟨(some 10), none, (.mov (.t 16))⟩, ⟨(some 17), none, (.ext (.t 10) 0)⟩, ⟨(some 18), none, (.ext (.t 10) 1)⟩, ⟨none, none, (.two (.sto 2 (.t 4) (.t 17)) (.sto 2 (.t 4) (.t 17)))⟩, ⟨(some 6), none, (.mov (.t 18))⟩] 11 none) (.seq (.seq (.reg [⟨(some 19), none, (.mov (.t 6))⟩, ⟨(some 20), none, (.un .not (.t 19))⟩] 2 none) (.cond (.t 20) (.seq (.reg [⟨(some 21), none, (.build [(0, 1), (1, 1)] [(.sc (.int .i64 0)), (.sc (.int .i64 0))] [])⟩, ⟨none, none, (.two (.sto 2 (.t 4) (.t 21)) (.sto 2 (.t 4) (.t 21)))⟩, ⟨(some 5), none, (.mov (.v (.sc (.int .i64 1))))⟩] 3 none) .ret) .skip)) (.seq (.reg [⟨(some 22), none, (.two (.ld (some 2) (.t 4)) (.ld (some 2) (.t 4)))⟩, ⟨none, none, (.two (.sto 2 (.t 4) (.t 22)) (.sto 2 (.t 4) (.t 22)))⟩, ⟨(some 5), none, (.mov (.v (.sc (.int .i64 0))))⟩] 3 none) .ret))))), [(.c 4 (some 2)), (.t 5)]⟩
theorem k18_eq : (Tryd.prog.funcs[18]?).bind (cmpF Tryd.prog hmS glS 1) = some k18 := by kernel_rfl
def k19 : KF := ⟨(.seq (.reg [⟨(some 6), none, (.mov (.v (.sc (.int .i64 0))))⟩] 1 none) (.seq (.reg [⟨(some 10), none, (.mov (.t 0))⟩, ⟨(some 11), none, (.mov (.t 1))⟩, ⟨(some 12), none, (.mov (.t 2))⟩, ⟨(some 13), none, (.hp 42 [(.t 10), (.t 11), (.t 12)])⟩, ⟨(some 9), none, (.mov (.t 13))⟩, ⟨(some 14), none, (.ext (.t 9) 0)⟩, ⟨(some 15), none, (.ext (.t 9) 1)⟩, ⟨(some 7), none, (.new [(.sc (.int .i64 0)), (.sc (.int .i64 0))])⟩, ⟨none, none, (.two (.sto 2 (.t 7) (.t 14)) (.sto 2 (.t 7) (.t 14)))⟩, ⟨(some 6), none, (.mov (.t 15))⟩] 10 none) (.seq (.seq (.reg [⟨(some 16), none, (.mov (.t 6))⟩, ⟨(some 17), none, (.bin false .neq (.t 16) (.v (.sc (.int .i64 0))))⟩] 2 none) (.cond (.t 17) (.seq (.reg [⟨(some 18), none, (.mov (.t 6))⟩, ⟨(some 6), none, (.mov (.t 18))⟩] 2 none) .ret) .skip)) (.seq (.reg [⟨(some 20), none, (.mov (.t 0))⟩, ⟨(some 21), none, (.nilc (.t 20))⟩, ⟨(some 22), none, (.fa 0 (.t 21))⟩, ⟨(some 23), none, (.two (.ld (some 1) (.t 22)) (.ld (some 1) (.t 22)))⟩, ⟨(some 24), none, (.two (.ld (some 2) (.t 7)) (.ld (some 2) (.t 7)))⟩, ⟨(some 25), none, (.two (.pl 43 [(.t 23), (.t 24)]) (.pl 43 [(.t 23), (.t 24)]))⟩, ⟨(some 19), none, (.mov (.t 25))⟩, ⟨(some 26), none, (.ext (.t 19) 0)⟩, ⟨(some 27), none, (.ext (.t 19) 1)⟩, ⟨(some 8), none, (.new [(.sc (.int .i64 0)), (.sc (.int .i64 0))])⟩, ⟨none, none, (.two (.sto 2 (.t 8) (.t 26)) (.sto 2 (.t 8) (.t 26)))⟩, ⟨(some 6), none, (.mov (.t 27))⟩] 12 (some [0, 1, 3, 7, 0, 31, 63, 127, 127, 0, 767, 2047])) (.seq (.seq (.reg [⟨(some 28), none, (.mov (.t 6))⟩, ⟨(some 29), none, (.bin false .neq (.t 28) (.v (.sc (.int .i64 0))))⟩] 2 none) (.cond (.t 29) (.seq (.reg [⟨(some 6), none, (.mov (.v (.sc (.int .i64 16))))⟩] 1 none) .ret) .skip)) (.seq (.reg [⟨(some 30), none, (.mov (.t 0))⟩, ⟨(some 31), none, (.nilc (.t 30))⟩, ⟨(some 32), none, (.fa 3 (.t 31))⟩, ⟨(some 33), none, (.two (.ld none (.t 32)) (.ld none (.t 32)))⟩, ⟨(some 34), none, (.mov (.t 1))⟩, ⟨(some 35), none, (.two (.ld (some 2) (.t 8)) (.ld (some 2) (.t 8)))⟩, ⟨none, none, (.mup 1 (.t 33) (.t 34) (.t 35))⟩] 7 (some [0, 1, 3, 7, 0, 0, 63])) (.seq (.reg [⟨(some 36), none, (.mov (.t 0))⟩, ⟨(some 37), none, (.nilc (.t 36))⟩, ⟨(some 38), none, (.fa 4 (.t 37))⟩, ⟨(some 39), none, (.two (.ld none (.t 38)) (.ld none (.t 38)))⟩, ⟨(some 40), none, (.mov (.t 1))⟩, ⟨none, none, (.del 1 (.t 39) (.t 40))⟩] 6 none) (.seq (.reg [⟨(some 41), none, (.mov (.t 0))⟩, ⟨(some 42), none, (.mov (.t 1))⟩, ⟨(some 43), none, (.two (.ld (some 2) (.t 7)) (.ld (some 2) (.t 7)))⟩, ⟨(some 44), none, (.mov (.t 2))⟩, ⟨(some 45), none, (.hp 44 [(.t 41), (.v (.sc (.int .i64 8))), (.t 42), (.t 43), (.t 44)])⟩] 5 none) (.seq (.reg [⟨(some 6), none, (.mov (.v (.sc (.int .i64 0))))⟩] 1 none) .ret))))))))), [(.t 6)]⟩
theorem k19_eq : (Tryd.prog.funcs[19]?).bind (cmpF Tryd.prog hmS glS 1) = some k19 := by kernel_rfl
def k20 : KF := ⟨(.seq (.reg [⟨(some 8), none, (.mov (.v (.sc (.int .i64 0))))⟩] 1 none) (.seq (.reg [⟨(some 12), none, (.mov (.t 0))⟩, ⟨(some 13), none, (.mov (.t 1))⟩, ⟨(some 14), none, (.hp 18 [(.t 12), (.t 13)])⟩, ⟨(some 11), none, (.mov (.t 14))⟩, ⟨(some 15), none, (.ext (.t 11) 0)⟩, ⟨(some 16), none, (.ext (.t 11) 1)⟩, ⟨(some 9), none, (.new [(.sc (.int .i64 0)), (.sc (.int .i64 0))])⟩, ⟨none, none, (.two (.sto 2 (.t 9) (.t 15)) (.sto 2 (.t 9) (.t 15)))⟩, ⟨(some 8), none, (.mov (.t 16))⟩] 9 none) (.seq (.seq (.reg [⟨(some 17), none, (.mov (.t 8))⟩, ⟨(some 18), none, (.bin false .neq (.t 17) (.v (.sc (.int .i64 0))))⟩] 2 none) (.cond (.t 18) (.seq (.reg [⟨(some 19), none, (.mov (.t 8))⟩, ⟨(some 8), none, (.mov (.t 19))⟩] 2 none) .ret) .skip)) (.seq (.reg [⟨(some 21), none, (.mov (.t 0))⟩, ⟨(some 22), none, (.nilc (.t 21))⟩, ⟨(some 23), none, (.fa 0 (.t 22))⟩, ⟨(some 24), none, (.two (.ld (some 1) (.t 23)) (.ld (some 1) (.t 23)))⟩, ⟨(some 25), none, (.mov (.t 2))⟩, ⟨(some 26), none, (.mov (.t 3))⟩, ⟨(some 27), none, (.two (.pl 45 [(.t 24), (.t 25), (.t 26)]) (.pl 45 [(.t 24), (.t 25), (.t 26)]))⟩, ⟨(some 20), none, (.mov (.t 27))⟩, ⟨(some 28), none, (.ext (.t 20) 0)⟩, ⟨(some 29), none, (.ext (.t 20) 1)⟩, ⟨(some 10), none, (.new [(.sc (.int .i64 0)), (.sc (.int .i64 0))])⟩, ⟨none, none, (.two (.sto 2 (.t 10) (.t 28)) (.sto 2 (.t 10) (.t 28)))⟩, ⟨(some 8), none, (.mov (.t 29))⟩] 13 none) (.seq (.seq (.reg [⟨(some 30), none, (.mov (.t 8))⟩, ⟨(some 31), none, (.bin false .neq (.t 30) (.v (.sc (.int .i64 0))))⟩] 2 none) (.cond (.t 31) (.seq (.reg [⟨(some 32), none, (.mov (.t 8))⟩, ⟨(some 8), none, (.mov (.t 32))⟩] 2 none) .ret) .skip)) (.seq (.seq (.reg [⟨(some 33), none, (.two (.ld (some 2) (.t 10)) (.ld (some 2) (.t 10)))⟩, ⟨(some 34), none, (.two (.ld (some 2) (.t 9)) (.ld (some 2) (.t 9)))⟩, ⟨(some 35), none, (.eqs true [(0, 0), (1, 0)] (.t 33) (.t 34))⟩, ⟨(some 36), none, (.mov (.t 35))⟩, ⟨(some 37), (some (36, true)), (.two (.ld (some 2) (.t 10)) (.ld (some 2) (.t 10)))⟩, ⟨(some 38), (some (36, true)), (.two (.ld (some 2) (.t 9)) (.ld (some 2) (.t 9)))⟩, ⟨(some 39), (some (36, true)), (.two (.pl 46 [(.t 37), (.t 38)]) (.pl 46 [(.t 37), (.t 38)]))⟩, ⟨(some 40), (some (36, true)), (.bin false .lss (.t 39) (.v (.sc (.int .i64 0))))⟩, ⟨(some 41), none, (.pick (.t 36) (.t 40) (.v (.sc (.bool false))))⟩] 9 none) (.cond (.t 41) (.seq (.reg [⟨(some 8), none, (.mov (.v (.sc (.int .i64 16))))⟩] 1 none) .ret) .skip)) (.seq (.reg [⟨(some 8), none, (.mov (.v (.sc (.int .i64 0))))⟩] 1 none) .ret))))))), [(.t 8)]⟩
theorem k20_eq : (Tryd.prog.funcs[20]?).bind (cmpF Tryd.prog hmS glS 1) = some k20 := by kernel_rfl
def k21 : KF := ⟨(.seq (.reg [⟨(some 8), none, (.mov (.v (.sc (.int .i64 0))))⟩] 1 none) (.seq (.reg [⟨(some 12), none, (.mov (.t 0))⟩, ⟨(some 13), none, (.mov (.t 1))⟩, ⟨(some 14), none, (.hp 35 [(.t 12), (.t 13)])⟩, ⟨(some 9), none, (.mov (.t 14))⟩] 4 none) (.seq (.seq (.reg [⟨(some 15), none, (.mov (.t 9))⟩, ⟨(some 16), none, (.bin false .lss (.t 15) (.v (.sc (.int .i64 0))))⟩] 2 none) (.cond (.t 16) (.seq (.reg [⟨(some 8), none, (.mov (.v (.sc (.int .i64 1))))⟩] 1 none) .ret) .skip)) (.seq (.reg [⟨(some 18), none, (.mov (.t 0))⟩, ⟨(some 19), none, (.nilc (.t 18))⟩, ⟨(some 20), none, (.fa 0 (.t 19))⟩, ⟨(some 21), none, (.two (.ld (some 1) (.t 20)) (.ld (some 1) (.t 20)))⟩, ⟨(some 22), none, (.mov (.t 2))⟩, ⟨(some 23), none, (.mov (.t 3))⟩, ⟨(some 24), none, (.two (.pl 47 [(.t 21), (.t 22), (.t 23)]) (.pl 47 [(.t 21), (.t 22), (.t 23)]))⟩, ⟨(some 17), none, (.mov (.t 24))⟩, ⟨(some 25), none, (.ext (.t 17) 0)⟩, ⟨(some 26), none, (.ext (.t 17) 1)⟩, ⟨(some 10), none, (.new [(.sc (.int .i64 0)), (.sc (.int .i64 0))])⟩, ⟨none, none, (.two (.sto 2 (.t 10) (.t 25)) (.sto 2 (.t 10) (.t 25)))⟩, ⟨(some 11), none, (.mov (.t 26))⟩] 13 none) (.seq (.seq (.reg [⟨(some 27), none, (.mov (.t 11))⟩, ⟨(some 28), none, (.bin false .neq (.t 27) (.v (.sc (.int .i64 0))))⟩] 2 none) (.cond (.t 28) (.seq (.reg [⟨(some 29), none, (.mov (.t 11))⟩, ⟨(some 8), none, (.mov (.t 29))⟩] 2 none) .ret) .skip)) (.seq (.seq (.reg [⟨(some 30), none, (.two (.ld (some 2) (.t 10)) (.ld (some 2) (.t 10)))⟩, ⟨(some 31), none, (.mov (.t 0))⟩, ⟨(some 32), none, (.nilc (.t 31))⟩, ⟨(some 33), none, (.fa 4 (.t 32))⟩, ⟨(some 34), none, (.two (.ld none (.t 33)) (.ld none (.t 33)))⟩, ⟨(some 35), none, (.mov (.t 9))⟩, ⟨(some 36), none, (.two (.ix 25 (.t 34) (.t 35)) (.ixl 25 (.t 34) (.t 35)))⟩, ⟨(some 37), none, (.two (.ld (some 2) (.t 36)) (.ld (some 2) (.t 36)))⟩, ⟨(some 38), none, (.two (.pl 48 [(.t 30), (.t 37)]) (.pl 48 [(.t 30), (.t 37)]))⟩, ⟨(some 39), none, (.bin false .lss (.t 38) (.v (.sc (.int .i64 0))))⟩] 10 (some [0, 0, 2, 6, 14, 0, 62, 126, 255, 511])) (.cond (.t 39) (.seq (.reg [⟨(some 8), none, (.mov (.v (.sc (.int .i64 16))))⟩] 1 none) .ret) .skip)) (.seq (.reg [⟨(some 8), none, (.mov (.v (.sc (.int .i64 0))))⟩] 1 none) .ret))))))), [(.t 8)]⟩
theorem k21_eq : (Tryd.prog.funcs[21]?).bind (cmpF Tryd.prog hmS glS 1) = some k21 := by kernel_rfl
def k29 : KF := ⟨(.seq (.reg [⟨(some 2), none, (.box (.t 0))⟩, ⟨(some 3), none, (.box (.t 1))⟩, ⟨(some 4), none, (.mov (.v (.sc (.int .i64 0))))⟩, ⟨(some 5), none, (.mov (.v (.sc (.int .i64 0))))⟩, ⟨(some 6), none, (.mov (.v (.sc (.int .i64 0))))⟩] 5 none) (.seq (.seq (.reg [⟨(some 7), none, (.ld (some 1) (.t 2))⟩, ⟨(some 8), none, (.pl 51 [(.t 7)])⟩, ⟨(some 9), none, (.un .not (.t 8))⟩] 3 none) (.cond (.t 9) (.seq (.reg [⟨(some 4), none, (.mov (.v (.sc (.int .i64 0))))⟩, ⟨(some 5), none, (.mov (.v (.sc (.int .i64 0))))⟩, ⟨(some 6), none, (.mov (.v (.sc (.int .i64 2))))⟩] 3 none) .ret) .skip)) (.seq (.seq (.reg [⟨(some 10), none, (.ld (some 1) (.t 2))⟩, ⟨(some 11), none, (.ld (some 2) (.t 3))⟩, ⟨(some 12), none, (.pl 52 [(.t 10), (.t 11)])⟩, ⟨(some 13), none, (.un .not (.t 12))⟩] 4 none) (.cond (.t 13) (.seq (.reg [⟨(some 4), none, (.mov (.v (.sc (.int .i64 0))))⟩, ⟨(some 5), none, (.mov (.v (.sc (.int .i64 0))))⟩, ⟨(some 6), none, (.mov (.v (.sc (.int .i64 16))))⟩] 3 none) .ret) .skip)) (.seq (.seq (.reg [⟨(some 14), none, (.fa 1 (.t 3))⟩, ⟨(some 15), none, (.ld none (.t 14))⟩, ⟨(some 16), none, (.bin false .eql (.t 15) (.v (.sc (.int .i64 13))))⟩] 3 none) (.cond (.t 16) (.seq (.reg [⟨(some 18), none, (.ld (some 1) (.t 2))⟩, ⟨(some 19), none, (.fa 0 (.t 3))⟩, ⟨(some 20), none, (.ld none (.t 19))⟩, ⟨(some 21), none, (.pl 53 [(.t 18), (.t 20)])⟩, ⟨(some 17), none, (.mov (.t 21))⟩, ⟨(some 22), none, (.ext (.t 17) 0)⟩, ⟨(some 23), none, (.ext (.t 17) 1)⟩, ⟨(some 24), none, (.ext (.t 17) 2)⟩, ⟨(some 5), none, (.mov (.t 23))⟩] 9 none) (.seq (.reg [⟨(some 25), none, (.mov (.t 5))⟩, ⟨(some 26), none, (.mov (.t 5))⟩, ⟨(some 4), none, (.mov (.t 25))⟩, ⟨(some 5), none, (.mov (.t 26))⟩, ⟨(some 6), none, (.mov (.v (.sc (.int .i64 0))))⟩] 5 none) .ret)) .skip)) (.seq (.reg [⟨(some 28), none, (.ld (some 1) (.t 2))⟩, ⟨(some 29), none, (.fa 0 (.t 3))⟩, ⟨(some 30), none, (.ld none (.t 29))⟩, ⟨(some 31), none, (.fa 1 (.t 3))⟩, ⟨(some 32), none, (.ld none (.t 31))⟩, ⟨(some 33), none, (.bin false .sub (.t 32) (.v (.sc (.int .i64 1))))⟩, ⟨(some 34), none, (.pl 54 [(.t 28), (.t 30), (.t 33)])⟩, ⟨(some 27), none, (.mov (.t 34))⟩, ⟨(some 35), none, (.ext (.t 27) 0)⟩, ⟨(some 36), none, (.ext (.t 27) 1)⟩, ⟨(some 4), none, (.mov (.t 35))⟩] 11 none) (.seq (.reg [⟨(some 38), none, (.mov (.t 4))⟩, ⟨(some 39), none, (.pl 55 [(.t 38)])⟩, ⟨(some 37), none, (.mov (.t 39))⟩, ⟨(some 40), none, (.ext (.t 37) 0)⟩, ⟨(some 41), none, (.ext (.t 37) 1)⟩, ⟨(some 5), none, (.mov (.t 40))⟩] 6 none) (.seq (.reg [⟨(some 42), none, (.mov (.t 4))⟩, ⟨(some 43), none, (.mov (.t 5))⟩, ⟨(some 4), none, (.mov (.t 42))⟩, ⟨(some 5), none, (.mov (.t 43))⟩, ⟨(some 6), none, (.mov (.v (.sc (.int .i64 0))))⟩] 5 none) .ret))))))), [(.t 4), (.t 5), (.t 6)]⟩
theorem k29_eq : (Tryd.prog.funcs[29]?).bind (cmpF Tryd.prog hmS glS 0) = some k29 := by kernel_rfl
def k30 : KF := ⟨(.seq (.reg [⟨(some 2), none, (.mov (.v (.sc (.bool false))))⟩] 1 none) (.seq (.reg [⟨(some 3), none, (.mov (.t 0))⟩, ⟨(some 4), none, (.bin false .neq (.t 3) (.v (.sc (.string (ByteArray.mk #[])))))⟩, ⟨(some 5), none, (.mov (.t 4))⟩, ⟨(some 6), (some (5, true)), (.mov (.t 0))⟩, ⟨(some 7), (some (5, true)), (.lenS (.t 6))⟩, ⟨(some 8), (some (5, true)), (.bin false .leq (.t 7) (.v (.sc (.int .i64 12))))⟩, ⟨(some 9), none, (.pick (.t 5) (.t 8) (.v (.sc (.bool false))))⟩, ⟨(some 10), none, (.mov (.t 9))⟩, ⟨(some 11), (some (10, true)), (.mov (.t 0))⟩, ⟨(some 12), (some (10, true)), (.pl 56 [(.t 11), (.v (.fn (.func 57) [] []))])⟩, ⟨(some 13), none, (.pick (.t 10) (.t 12) (.v (.sc (.bool false))))⟩, ⟨(some 2), none, (.mov (.t 13))⟩] 12 none) .ret)), [(.t 2)]⟩
theorem k30_eq : (Tryd.prog.funcs[30]?).bind (cmpF Tryd.prog hmS glS 0) = some k30 := by kernel_rfl
def k32 : KF := ⟨(.seq (.reg [⟨(some 1), none, (.box (.t 0))⟩, ⟨(some 2), none, (.mov (.v (.sc (.bool false))))⟩] 2 none) (.seq (.reg [⟨(some 3), none, (.fa 0 (.t 1))⟩, ⟨(some 4), none, (.ld none (.t 3))⟩, ⟨(some 5), none, (.bin false .geq (.t 4) (.v (.sc (.int .i64 1))))⟩, ⟨(some 6), none, (.mov (.t 5))⟩, ⟨(some 7), (some (6, true)), (.fa 0 (.t 1))⟩, ⟨(some 8), (some (6, true)), (.ld none (.t 7))⟩, ⟨(some 9), (some (6, true)), (.bin false .leq (.t 8) (.v (.sc (.int .i64 12))))⟩, ⟨(some 10), none, (.pick (.t 6) (.t 9) (.v (.sc (.bool false))))⟩, ⟨(some 2), none, (.mov (.t 10))⟩] 9 none) .ret)), [(.t 2)]⟩
theorem k32_eq : (Tryd.prog.funcs[32]?).bind (cmpF Tryd.prog hmS glS 0) = some k32 := by kernel_rfl
def k33 : KF := ⟨(.seq (.reg [⟨(some 2), none, (.box (.t 0))⟩, ⟨(some 3), none, (.box (.t 1))⟩, ⟨(some 4), none, (.mov (.v (.sc (.int .i64 0))))⟩, ⟨(some 5), none, (.mov (.v (.sc (.int .i64 0))))⟩, ⟨(some 6), none, (.mov (.v (.sc (.int .i64 0))))⟩] 5 none) (.seq (.seq (.reg [⟨(some 13), none, (.ld (some 1) (.t 2))⟩, ⟨(some 14), none, (.pl 32 [(.t 13)])⟩, ⟨(some 15), none, (.un .not (.t 14))⟩] 3 none) (.cond (.t 15) (.seq (.reg [⟨(some 4), none, (.mov (.v (.sc (.int .i64 0))))⟩, ⟨(some 5), none, (.mov (.v (.sc (.int .i64 0))))⟩, ⟨(some 6), none, (.mov (.v (.sc (.int .i64 2))))⟩] 3 none) .ret) .skip)) (.seq (.seq (.reg [⟨(some 16), none, (.ld (some 1) (.t 2))⟩, ⟨(some 17), none, (.ld (some 2) (.t 3))⟩, ⟨(some 18), none, (.pl 62 [(.t 16), (.t 17)])⟩, ⟨(some 19), none, (.un .not (.t 18))⟩] 4 none) (.cond (.t 19) (.seq (.reg [⟨(some 4), none, (.mov (.v (.sc (.int .i64 0))))⟩, ⟨(some 5), none, (.mov (.v (.sc (.int .i64 0))))⟩, ⟨(some 6), none, (.mov (.v (.sc (.int .i64 16))))⟩] 3 none) .ret) .skip)) (.seq (.seq (.reg [⟨(some 20), none, (.fa 1 (.t 3))⟩, ⟨(some 21), none, (.ld none (.t 20))⟩, ⟨(some 22), none, (.bin false .eql (.t 21) (.v (.sc (.int .i64 13))))⟩] 3 none) (.cond (.t 22) (.seq (.reg [⟨(some 24), none, (.ld (some 1) (.t 2))⟩, ⟨(some 25), none, (.fa 0 (.t 3))⟩, ⟨(some 26), none, (.ld none (.t 25))⟩, ⟨(some 27), none, (.pl 63 [(.t 24), (.t 26), (.v (.sc (.int .i64 11)))])⟩, ⟨(some 23), none, (.mov (.t 27))⟩, ⟨(some 28), none, (.ext (.t 23) 0)⟩, ⟨(some 29), none, (.ext (.t 23) 1)⟩, ⟨(some 30), none, (.ext (.t 23) 2)⟩, ⟨(some 7), none, (.mov (.t 28))⟩, ⟨(some 8), none, (.mov (.t 29))⟩, ⟨(some 9), none, (.mov (.t 30))⟩] 11 none) (.seq (.reg [⟨(some 31), none, (.mov (.t 8))⟩, ⟨(some 32), none, (.mov (.t 8))⟩, ⟨(some 4), none, (.mov (.t 31))⟩, ⟨(some 5), none, (.mov (.t 32))⟩, ⟨(some 6), none, (.mov (.v (.sc (.int .i64 0))))⟩] 5 none) .ret)) .skip)) (.seq (.reg [⟨(some 34), none, (.ld (some 1) (.t 2))⟩, ⟨(some 35), none, (.fa 0 (.t 3))⟩, ⟨(some 36), none, (.ld none (.t 35))⟩, ⟨(some 37), none, (.fa 1 (.t 3))⟩, ⟨(some 38), none, (.ld none (.t 37))⟩, ⟨(some 39), none, (.bin false .sub (.t 38) (.v (.sc (.int .i64 1))))⟩, ⟨(some 40), none, (.pl 63 [(.t 34), (.t 36), (.t 39)])⟩, ⟨(some 33), none, (.mov (.t 40))⟩, ⟨(some 41), none, (.ext (.t 33) 0)⟩, ⟨(some 42), none, (.ext (.t 33) 1)⟩, ⟨(some 43), none, (.ext (.t 33) 2)⟩, ⟨(some 10), none, (.mov (.t 41))⟩, ⟨(some 11), none, (.mov (.t 42))⟩, ⟨(some 12), none, (.mov (.t 43))⟩] 14 none) (.seq (.reg [⟨(some 44), none, (.mov (.t 10))⟩, ⟨(some 45), none, (.mov (.t 11))⟩, ⟨(some 4), none, (.mov (.t 44))⟩, ⟨(some 5), none, (.mov (.t 45))⟩, ⟨(some 6), none, (.mov (.v (.sc (.int .i64 0))))⟩] 5 none) .ret)))))), [(.t 4), (.t 5), (.t 6)]⟩
theorem k33_eq : (Tryd.prog.funcs[33]?).bind (cmpF Tryd.prog hmS glS 0) = some k33 := by kernel_rfl
def k34_l0 : Y := (.seq (.seq (.reg [⟨(some 4), none, (.mov (.t 3))⟩, ⟨(some 5), none, (.mov (.t 0))⟩, ⟨(some 6), none, (.lenS (.t 5))⟩, ⟨(some 7), none, (.bin false .lss (.t 4) (.t 6))⟩] 4 none) (.cond (.t 7) .skip (.«exit» 0))) (.seq (.block 1 (.seq (.reg [⟨(some 10), none, (.mov (.t 0))⟩, ⟨(some 11), none, (.mov (.t 3))⟩, ⟨(some 12), none, (.ixs (.t 10) (.t 11))⟩, ⟨(some 13), none, (.pl 64 [(.t 12)])⟩, ⟨(some 14), none, (.un .not (.t 13))⟩, ⟨(some 15), none, (.mov (.t 14))⟩, ⟨(some 16), (some (15, true)), (.mov (.t 0))⟩, ⟨(some 17), (some (15, true)), (.mov (.t 3))⟩, ⟨(some 18), (some (15, true)), (.ixs (.t 16) (.t 17))⟩, ⟨(some 19), (some (15, true)), (.pl 65 [(.t 18)])⟩, ⟨(some 20), (some (15, true)), (.un .not (.t 19))⟩, ⟨(some 21), none, (.pick (.t 15) (.t 20) (.v (.sc (.bool false))))⟩] 12 none) (.cond (.t 21) (.seq (.reg [⟨(some 2), none, (.mov (.v (.sc (.bool false))))⟩] 1 none) .ret) .skip))) (.reg [⟨(some 8), none, (.mov (.t 3))⟩, ⟨(some 9), none, (.bin false .add (.t 8) (.v (.sc (.int .i64 1))))⟩, ⟨(some 3), none, (.mov (.t 9))⟩] 3 none)))
def k34_t0 : Y := (.seq (.reg [⟨(some 22), none, (.mov (.t 0))⟩, ⟨(some 23), none, (.lenS (.t 22))⟩, ⟨(some 24), none, (.bin false .geq (.t 23) (.v (.sc (.int .i64 1))))⟩, ⟨(some 25), none, (.mov (.t 24))⟩, ⟨(some 26), (some (25, true)), (.mov (.t 0))⟩, ⟨(some 27), (some (25, true)), (.lenS (.t 26))⟩, ⟨(some 28), (some (25, true)), (.bin false .leq (.t 27) (.v (.sc (.int .i64 12))))⟩, ⟨(some 29), none, (.pick (.t 25) (.t 28) (.v (.sc (.bool false))))⟩, ⟨(some 2), none, (.mov (.t 29))⟩] 9 none) .ret)
def k34 : KF := ⟨(.seq (.reg [⟨(some 2), none, (.mov (.v (.sc (.bool false))))⟩] 1 none) (.seq (.seq (.reg [⟨(some 3), none, (.mov (.v (.sc (.int .i64 0))))⟩] 1 none) (.block 0 (.loop k34_l0))) k34_t0)), [(.t 2)]⟩
theorem k34_eq : (Tryd.prog.funcs[34]?).bind (cmpF Tryd.prog hmS glS 0) = some k34 := by kernel_rfl
def k35_l0 : Y := (.seq (.seq (.reg [⟨(some 6), none, (.mov (.t 5))⟩, ⟨(some 7), none, (.mov (.t 0))⟩, ⟨(some 8), none, (.nilc (.t 7))⟩, ⟨(some 9), none, (.fa 3 (.t 8))⟩, ⟨(some 10), none, (.two (.ld none (.t 9)) (.ld none (.t 9)))⟩, ⟨(some 11), none, (.two (.len (.t 10)) (.len (.t 10)))⟩, ⟨(some 12), none, (.bin false .lss (.t 6) (.t 11))⟩] 7 none) (.cond (.t 12) .skip (.«exit» 0))) (.seq (.block 1 (.seq (.reg [⟨(some 15), none, (.mov (.t 0))⟩, ⟨(some 16), none, (.nilc (.t 15))⟩, ⟨(some 17), none, (.fa 3 (.t 16))⟩, ⟨(some 18), none, (.two (.ld none (.t 17)) (.ld none (.t 17)))⟩, ⟨(some 19), none, (.mov (.t 5))⟩, ⟨(some 20), none, (.two (.ix 9 (.t 18) (.t 19)) (.ixl 9 (.t 18) (.t 19)))⟩, ⟨(some 21), none, (.two (.ld none (.t 20)) (.ld none (.t 20)))⟩, ⟨(some 22), none, (.mov (.t 1))⟩, ⟨(some 23), none, (.bin false .eql (.t 21) (.t 22))⟩] 9 none) (.cond (.t 23) (.seq (.reg [⟨(some 24), none, (.mov (.t 5))⟩, ⟨(some 4), none, (.mov (.t 24))⟩] 2 none) .ret) .skip))) (.reg [⟨(some 13), none, (.mov (.t 5))⟩, ⟨(some 14), none, (.bin false .add (.t 13) (.v (.sc (.int .i64 1))))⟩, ⟨(some 5), none, (.mov (.t 14))⟩] 3 none)))
def k35_t0 : Y := (.seq (.reg [⟨(some 4), none, (.mov (.v (.sc (.int .i64 (-1)))))⟩] 1 none) .ret)
def k35 : KF := ⟨(.seq (.reg [⟨(some 4), none, (.mov (.v (.sc (.int .i64 0))))⟩] 1 none) (.seq (.seq (.reg [⟨(some 5), none, (.mov (.v (.sc (.int .i64 0))))⟩] 1 none) (.block 0 (.loop k35_l0))) k35_t0)), [(.t 4)]⟩
theorem k35_eq : (Tryd.prog.funcs[35]?).bind (cmpF Tryd.prog hmS glS 1) = some k35 := by kernel_rfl
def k42 : KF := ⟨(.seq (.reg [⟨(some 6), none, (.new [(.sc (.int .i64 0)), (.sc (.int .i64 0))])⟩, ⟨(some 7), none, (.mov (.v (.sc (.int .i64 0))))⟩] 2 none) (.seq (.reg [⟨(some 9), none, (.mov (.t 0))⟩, ⟨(some 10), none, (.mov (.t 1))⟩, ⟨(some 11), none, (.hp 18 [(.t 9), (.t 10)])⟩, ⟨(some 8), none, (.mov (.t 11))⟩, ⟨(some 12), none, (.ext (.t 8) 0)⟩, ⟨(some 13), none, (.ext (.t 8) 1)⟩, ⟨none, none, (.two (.sto 2 (.t 6) (.t 12)) (.sto 2 (.t 6) (.t 12)))⟩, ⟨(some 7), none, (.mov (.t 13))⟩] 8 none) (.seq (.seq (.reg [⟨(some 14), none, (.mov (.t 7))⟩, ⟨(some 15), none, (.bin false .eql (.t 14) (.v (.sc (.int .i64 0))))⟩, ⟨(some 16), none, (.mov (.t 15))⟩, ⟨(some 17), (some (16, true)), (.mov (.t 2))⟩, ⟨(some 18), (some (16, true)), (.two (.pl 30 [(.t 17)]) (.pl 30 [(.t 17)]))⟩, ⟨(some 19), (some (16, true)), (.un .not (.t 18))⟩, ⟨(some 20), none, (.pick (.t 16) (.t 19) (.v (.sc (.bool false))))⟩] 7 none) (.cond (.t 20) (.seq (.reg [⟨(some 21), none, (.build [(0, 1), (1, 1)] [(.sc (.int .i64 0)), (.sc (.int .i64 0))] [])⟩, ⟨none, none, (.two (.sto 2 (.t 6) (.t 21)) (.sto 2 (.t 6) (.t 21)))⟩, ⟨(some 7), none, (.mov (.v (.sc (.int .i64 7))))⟩] 3 none) .ret) .skip)) (.seq (.reg [⟨(some 22), none, (.two (.ld (some 2) (.t 6)) (.ld (some 2) (.t 6)))⟩, ⟨(some 23), none, (.mov (.t 7))⟩, ⟨none, none, (.two (.sto 2 (.t 6) (.t 22)) (.sto 2 (.t 6) (.t 22)))⟩, ⟨(some 7), none, (.mov (.t 23))⟩] 4 none) .ret)))), [(.c 6 (some 2)), (.t 7)]⟩
theorem k42_eq : (Tryd.prog.funcs[42]?).bind (cmpF Tryd.prog hmS glS 1) = some k42 := by kernel_rfl
def k43 : KF := ⟨(.seq (.reg [⟨(some 2), none, (.box (.t 0))⟩, ⟨(some 3), none, (.box (.t 1))⟩, ⟨(some 4), none, (.new [(.sc (.int .i64 0)), (.sc (.int .i64 0))])⟩, ⟨(some 5), none, (.mov (.v (.sc (.int .i64 0))))⟩] 4 none) (.seq (.reg [⟨(some 6), none, (.fa 0 (.t 3))⟩, ⟨(some 7), none, (.ld none (.t 6))⟩, ⟨(some 8), none, (.fa 1 (.t 3))⟩, ⟨(some 9), none, (.ld none (.t 8))⟩, ⟨(some 10), none, (.bin false .add (.t 9) (.v (.sc (.int .i64 1))))⟩, ⟨(some 11), none, (.build [(0, 1), (1, 1)] [(.sc (.int .i64 0)), (.sc (.int .i64 0))] [(0, (.t 7)), (1, (.t 10))])⟩, ⟨none, none, (.sto 2 (.t 4) (.t 11))⟩] 7 none) (.seq (.seq (.reg [⟨(some 12), none, (.fa 1 (.t 3))⟩, ⟨(some 13), none, (.ld none (.t 12))⟩, ⟨(some 14), none, (.bin false .eql (.t 13) (.v (.sc (.int .i64 13))))⟩] 3 none) (.cond (.t 14) (.reg [⟨(some 15), none, (.fa 0 (.t 3))⟩, ⟨(some 16), none, (.ld none (.t 15))⟩, ⟨(some 17), none, (.bin false .add (.t 16) (.v (.sc (.int .i64 1))))⟩, ⟨(some 18), none, (.build [(0, 1), (1, 1)] [(.sc (.int .i64 0)), (.sc (.int .i64 0))] [(0, (.t 17)), (1, (.v (.sc (.int .i64 1))))])⟩, ⟨none, none, (.sto 2 (.t 4) (.t 18))⟩] 5 none) .skip)) (.seq (.reg [⟨(some 19), none, (.ld (some 1) (.t 2))⟩, ⟨(some 20), none, (.ld (some 2) (.t 3))⟩, ⟨(some 21), none, (.ld (some 2) (.t 4))⟩, ⟨(some 22), none, (.pl 70 [(.t 19), (.t 20), (.t 21)])⟩, ⟨(some 23), none, (.ext (.t 22) 0)⟩, ⟨(some 24), none, (.ext (.t 22) 1)⟩, ⟨none, none, (.sto 2 (.t 4) (.t 23))⟩, ⟨(some 5), none, (.mov (.t 24))⟩] 8 none) .ret)))), [(.c 4 (some 2)), (.t 5)]⟩
theorem k43_eq : (Tryd.prog.funcs[43]?).bind (cmpF Tryd.prog hmS glS 0) = some k43 := by kernel_rfl
def k44 : KF := ⟨(.seq (.reg [⟨(some 8), none, (.box (.t 3))⟩] 1 none) (.reg [⟨(some 10), none, (.mov (.t 0))⟩, ⟨(some 11), none, (.mov (.t 0))⟩, ⟨(some 12), none, (.nilc (.t 11))⟩, ⟨(some 13), none, (.fa 6 (.t 12))⟩, ⟨(some 14), none, (.two (.ld none (.t 13)) (.ld none (.t 13)))⟩, ⟨(some 15), none, (.mov (.t 1))⟩, ⟨(some 16), none, (.mov (.t 2))⟩, ⟨(some 17), none, (.two (.ld (some 2) (.t 8)) (.ld (some 2) (.t 8)))⟩, ⟨(some 18), none, (.mov (.t 4))⟩, ⟨(some 19), none, (.build [(0, 1), (1, 1), (2, 2), (4, 1)] [(.sc (.int .i64 0)), (.sc (.string (ByteArray.mk #[]))), (.sc (.int .i64 0)), (.sc (.int .i64 0)), (.sc (.string (ByteArray.mk #[])))] [(0, (.t 15)), (1, (.t 16)), (2, (.t 17)), (3, (.t 18))])⟩, ⟨(some 20), none, (.two (.lit 50 true 5 [(.t 19)]) (.mk 50 5 [(.t 19)]))⟩, ⟨(some 21), none, (.two (.app 50 true 5 56 true (.t 14) (.t 20)) (.app 50 56 true (.t 14) (.t 20)))⟩, ⟨(some 22), none, (.nilc (.t 10))⟩, ⟨(some 23), none, (.fa 6 (.t 22))⟩, ⟨none, none, (.two (.sto 1 (.t 23) (.t 21)) (.sto 1 (.t 23) (.t 21)))⟩] 15 (some [0, 0, 2, 6, 14, 0, 0, 0, 0, 480, 992, 2046, 4095, 8191, 16383]))), []⟩
theorem k44_eq : (Tryd.prog.funcs[44]?).bind (cmpF Tryd.prog hmS glS 1) = some k44 := by kernel_rfl
def k45 : KF := ⟨(.seq (.reg [⟨(some 3), none, (.box (.t 0))⟩, ⟨(some 6), none, (.new [(.sc (.int .i64 0)), (.sc (.int .i64 0))])⟩, ⟨(some 7), none, (.mov (.v (.sc (.int .i64 0))))⟩] 3 none) (.seq (.reg [⟨(some 12), none, (.ld (some 1) (.t 3))⟩, ⟨(some 13), none, (.mov (.t 1))⟩, ⟨(some 14), none, (.pl 71 [(.t 12), (.t 13)])⟩, ⟨(some 11), none, (.mov (.t 14))⟩, ⟨(some 15), none, (.ext (.t 11) 0)⟩, ⟨(some 16), none, (.ext (.t 11) 1)⟩, ⟨none, none, (.sto 2 (.t 6) (.t 15))⟩, ⟨(some 7), none, (.mov (.t 16))⟩] 8 none) (.seq (.seq (.reg [⟨(some 17), none, (.mov (.t 7))⟩, ⟨(some 18), none, (.bin false .neq (.t 17) (.v (.sc (.int .i64 0))))⟩, ⟨(some 19), none, (.mov (.t 18))⟩, ⟨(some 20), (some (19, false)), (.mov (.t 2))⟩, ⟨(some 21), (some (19, false)), (.bin false .neq (.t 20) (.v (.sc (.int .i64 3))))⟩, ⟨(some 22), (some (19, false)), (.mov (.t 21))⟩, ⟨(some 23), (some (22, true)), (.mov (.t 2))⟩, ⟨(some 24), (some (22, true)), (.bin false .neq (.t 23) (.v (.sc (.int .i64 4))))⟩, ⟨(some 25), (some (19, false)), (.pick (.t 22) (.t 24) (.v (.sc (.bool false))))⟩, ⟨(some 26), none, (.pick (.t 19) (.v (.sc (.bool true))) (.t 25))⟩] 10 none) (.cond (.t 26) (.seq (.reg [⟨(some 27), none, (.ld (some 2) (.t 6))⟩, ⟨(some 28), none, (.mov (.t 7))⟩, ⟨none, none, (.sto 2 (.t 6) (.t 27))⟩, ⟨(some 7), none, (.mov (.t 28))⟩] 4 none) .ret) .skip)) (.seq (.seq (.reg [⟨(some 30), none, (.ld (some 1) (.t 3))⟩, ⟨(some 31), none, (.fa 0 (.t 6))⟩, ⟨(some 32), none, (.ld none (.t 31))⟩, ⟨(some 33), none, (.pl 53 [(.t 30), (.t 32)])⟩, ⟨(some 29), none, (.mov (.t 33))⟩, ⟨(some 34), none, (.ext (.t 29) 0)⟩, ⟨(some 35), none, (.ext (.t 29) 1)⟩, ⟨(some 36), none, (.ext (.t 29) 2)⟩, ⟨(some 8), none, (.mov (.t 34))⟩, ⟨(some 9), none, (.mov (.t 35))⟩, ⟨(some 10), none, (.mov (.t 36))⟩] 11 none) (.seq (.reg [⟨(some 37), none, (.mov (.t 9))⟩, ⟨(some 38), none, (.mov (.t 1))⟩, ⟨(some 39), none, (.bin false .eql (.t 37) (.t 38))⟩] 3 none) (.cond (.t 39) (.reg [⟨(some 40), none, (.fa 1 (.t 6))⟩, ⟨none, none, (.sto 1 (.t 40) (.v (.sc (.int .i64 13))))⟩] 2 none) .skip))) (.seq (.reg [⟨(some 41), none, (.ld (some 2) (.t 6))⟩, ⟨none, none, (.sto 2 (.t 6) (.t 41))⟩, ⟨(some 7), none, (.mov (.v (.sc (.int .i64 0))))⟩] 3 none) .ret))))), [(.c 6 (some 2)), (.t 7)]⟩
theorem k45_eq : (Tryd.prog.funcs[45]?).bind (cmpF Tryd.prog hmS glS 0) = some k45 := by kernel_rfl
def k46 : KF := ⟨(.seq (.reg [⟨(some 2), none, (.box (.t 0))⟩, ⟨(some 3), none, (.box (.t 1))⟩, ⟨(some 4), none, (.mov (.v (.sc (.int .i64 0))))⟩] 3 none) (.seq (.seq (.reg [⟨(some 5), none, (.ld (some 2) (.t 2))⟩, ⟨(some 6), none, (.ld (some 2) (.t 3))⟩, ⟨(some 7), none, (.eqs false [(0, 0), (1, 0)] (.t 5) (.t 6))⟩] 3 none) (.cond (.t 7) (.seq (.reg [⟨(some 4), none, (.mov (.v (.sc (.int .i64 0))))⟩] 1 none) .ret) .skip)) (.seq (.seq (.reg [⟨(some 8), none, (.fa 0 (.t 2))⟩, ⟨(some 9), none, (.ld none (.t 8))⟩, ⟨(some 10), none, (.fa 0 (.t 3))⟩, ⟨(some 11), none, (.ld none (.t 10))⟩, ⟨(some 12), none, (.bin false .neq (.t 9) (.t 11))⟩] 5 none) (.cond (.t 12) (.seq (.reg [⟨(some 13), none, (.fa 0 (.t 2))⟩, ⟨(some 14), none, (.ld none (.t 13))⟩, ⟨(some 15), none, (.fa 0 (.t 3))⟩, ⟨(some 16), none, (.ld none (.t 15))⟩, ⟨(some 17), none, (.pl 72 [(.t 14), (.t 16)])⟩, ⟨(some 4), none, (.mov (.t 17))⟩] 6 none) .ret) .skip)) (.seq (.reg [⟨(some 18), none, (.fa 1 (.t 2))⟩, ⟨(some 19), none, (.ld none (.t 18))⟩, ⟨(some 20), none, (.fa 1 (.t 3))⟩, ⟨(some 21), none, (.ld none (.t 20))⟩, ⟨(some 22), none, (.pl 72 [(.t 19), (.t 21)])⟩, ⟨(some 4), none, (.mov (.t 22))⟩] 6 none) .ret)))), [(.t 4)]⟩
theorem k46_eq : (Tryd.prog.funcs[46]?).bind (cmpF Tryd.prog hmS glS 0) = some k46 := by kernel_rfl
def k47 : KF := ⟨(.seq (.reg [⟨(some 3), none, (.box (.t 0))⟩, ⟨(some 6), none, (.new [(.sc (.int .i64 0)), (.sc (.int .i64 0))])⟩, ⟨(some 7), none, (.mov (.v (.sc (.int .i64 0))))⟩] 3 none) (.seq (.reg [⟨(some 14), none, (.ld (some 1) (.t 3))⟩, ⟨(some 15), none, (.mov (.t 1))⟩, ⟨(some 16), none, (.pl 73 [(.t 14), (.t 15)])⟩, ⟨(some 13), none, (.mov (.t 16))⟩, ⟨(some 17), none, (.ext (.t 13) 0)⟩, ⟨(some 18), none, (.ext (.t 13) 1)⟩, ⟨(some 8), none, (.new [(.sc (.int .i64 0)), (.sc (.int .i64 0))])⟩, ⟨none, none, (.sto 2 (.t 8) (.t 17))⟩, ⟨(some 9), none, (.mov (.t 18))⟩] 9 none) (.seq (.seq (.reg [⟨(some 19), none, (.mov (.t 9))⟩, ⟨(some 20), none, (.bin false .neq (.t 19) (.v (.sc (.int .i64 0))))⟩] 2 none) (.cond (.t 20) (.seq (.reg [⟨(some 21), none, (.build [(0, 1), (1, 1)] [(.sc (.int .i64 0)), (.sc (.int .i64 0))] [])⟩, ⟨(some 22), none, (.mov (.t 9))⟩, ⟨none, none, (.sto 2 (.t 6) (.t 21))⟩, ⟨(some 7), none, (.mov (.t 22))⟩] 4 none) .ret) .skip)) (.seq (.reg [⟨(some 24), none, (.ld (some 1) (.t 3))⟩, ⟨(some 25), none, (.fa 0 (.t 8))⟩, ⟨(some 26), none, (.ld none (.t 25))⟩, ⟨(some 27), none, (.pl 63 [(.t 24), (.t 26), (.v (.sc (.int .i64 11)))])⟩, ⟨(some 23), none, (.mov (.t 27))⟩, ⟨(some 28), none, (.ext (.t 23) 0)⟩, ⟨(some 29), none, (.ext (.t 23) 1)⟩, ⟨(some 30), none, (.ext (.t 23) 2)⟩, ⟨(some 10), none, (.mov (.t 28))⟩, ⟨(some 11), none, (.mov (.t 29))⟩, ⟨(some 12), none, (.mov (.t 30))⟩] 11 none) (.seq (.seq (.reg [⟨(some 31), none, (.mov (.t 2))⟩, ⟨(some 32), none, (.bin false .eql (.t 31) (.v (.sc (.int .i64 3))))⟩, ⟨(some 33), none, (.mov (.t 32))⟩, ⟨(some 34), (some (33, false)), (.mov (.t 2))⟩, ⟨(some 35), (some (33, false)), (.bin false .eql (.t 34) (.v (.sc (.int .i64 4))))⟩, ⟨(some 36), none, (.pick (.t 33) (.v (.sc (.bool true))) (.t 35))⟩, ⟨(some 37), none, (.mov (.t 36))⟩, ⟨(some 38), (some (37, true)), (.mov (.t 1))⟩, ⟨(some 39), (some (37, true)), (.mov (.t 11))⟩, ⟨(some 40), (some (37, true)), (.bin false .eql (.t 38) (.t 39))⟩, ⟨(some 41), none, (.pick (.t 37) (.t 40) (.v (.sc (.bool false))))⟩] 11 none) (.cond (.t 41) (.reg [⟨(some 42), none, (.fa 1 (.t 8))⟩, ⟨none, none, (.sto 1 (.t 42) (.v (.sc (.int .i64 13))))⟩] 2 none) .skip)) (.seq (.reg [⟨(some 43), none, (.ld (some 2) (.t 8))⟩, ⟨none, none, (.sto 2 (.t 6) (.t 43))⟩, ⟨(some 7), none, (.mov (.v (.sc (.int .i64 0))))⟩] 3 none) .ret)))))), [(.c 6 (some 2)), (.t 7)]⟩
theorem k47_eq : (Tryd.prog.funcs[47]?).bind (cmpF Tryd.prog hmS glS 0) = some k47 := by kernel_rfl
def k48 : KF := ⟨(.seq (.reg [⟨(some 2), none, (.box (.t 0))⟩, ⟨(some 3), none, (.box (.t 1))⟩, ⟨(some 4), none, (.mov (.v (.sc (.int .i64 0))))⟩] 3 none) (.seq (.seq (.reg [⟨(some 5), none, (.ld (some 2) (.t 2))⟩, ⟨(some 6), none, (.ld (some 2) (.t 3))⟩, ⟨(some 7), none, (.eqs false [(0, 0), (1, 0)] (.t 5) (.t 6))⟩] 3 none) (.cond (.t 7) (.seq (.reg [⟨(some 4), none, (.mov (.v (.sc (.int .i64 0))))⟩] 1 none) .ret) .skip)) (.seq (.seq (.reg [⟨(some 8), none, (.fa 0 (.t 2))⟩, ⟨(some 9), none, (.ld none (.t 8))⟩, ⟨(some 10), none, (.fa 0 (.t 3))⟩, ⟨(some 11), none, (.ld none (.t 10))⟩, ⟨(some 12), none, (.bin false .lss (.t 9) (.t 11))⟩, ⟨(some 13), none, (.mov (.t 12))⟩, ⟨(some 14), (some (13, false)), (.fa 0 (.t 2))⟩, ⟨(some 15), (some (13, false)), (.ld none (.t 14))⟩, ⟨(some 16), (some (13, false)), (.fa 0 (.t 3))⟩, ⟨(some 17), (some (13, false)), (.ld none (.t 16))⟩, ⟨(some 18), (some (13, false)), (.bin false .eql (.t 15) (.t 17))⟩, ⟨(some 19), (some (13, false)), (.mov (.t 18))⟩, ⟨(some 20), (some (19, true)), (.fa 1 (.t 2))⟩, ⟨(some 21), (some (19, true)), (.ld none (.t 20))⟩, ⟨(some 22), (some (19, true)), (.fa 1 (.t 3))⟩, ⟨(some 23), (some (19, true)), (.ld none (.t 22))⟩, ⟨(some 24), (some (19, true)), (.bin false .lss (.t 21) (.t 23))⟩, ⟨(some 25), (some (13, false)), (.pick (.t 19) (.t 24) (.v (.sc (.bool false))))⟩, ⟨(some 26), none, (.pick (.t 13) (.v (.sc (.bool true))) (.t 25))⟩] 19 none) (.cond (.t 26) (.seq (.reg [⟨(some 4), none, (.mov (.v (.sc (.int .i64 (-1)))))⟩] 1 none) .ret) .skip)) (.seq (.reg [⟨(some 4), none, (.mov (.v (.sc (.int .i64 1))))⟩] 1 none) .ret)))), [(.t 4)]⟩
theorem k48_eq : (Tryd.prog.funcs[48]?).bind (cmpF Tryd.prog hmS glS 0) = some k48 := by kernel_rfl
def k51 : KF := ⟨(.seq (.reg [⟨(some 1), none, (.box (.t 0))⟩, ⟨(some 2), none, (.mov (.v (.sc (.bool false))))⟩] 2 none) (.seq (.reg [⟨(some 3), none, (.fa 0 (.t 1))⟩, ⟨(some 4), none, (.ld none (.t 3))⟩, ⟨(some 5), none, (.bin false .geq (.t 4) (.v (.sc (.int .i64 1))))⟩, ⟨(some 6), none, (.mov (.t 5))⟩, ⟨(some 7), (some (6, true)), (.fa 0 (.t 1))⟩, ⟨(some 8), (some (6, true)), (.ld none (.t 7))⟩, ⟨(some 9), (some (6, true)), (.bin false .leq (.t 8) (.v (.sc (.int .i64 12))))⟩, ⟨(some 10), none, (.pick (.t 6) (.t 9) (.v (.sc (.bool false))))⟩, ⟨(some 2), none, (.mov (.t 10))⟩] 9 none) .ret)), [(.t 2)]⟩
theorem k51_eq : (Tryd.prog.funcs[51]?).bind (cmpF Tryd.prog hmS glS 0) = some k51 := by kernel_rfl
def k52 : KF := ⟨(.seq (.reg [⟨(some 2), none, (.box (.t 0))⟩, ⟨(some 3), none, (.box (.t 1))⟩, ⟨(some 4), none, (.mov (.v (.sc (.bool false))))⟩] 3 none) (.seq (.reg [⟨(some 9), none, (.ld (some 1) (.t 2))⟩, ⟨(some 10), none, (.fa 0 (.t 3))⟩, ⟨(some 11), none, (.ld none (.t 10))⟩, ⟨(some 12), none, (.pl 53 [(.t 9), (.t 11)])⟩, ⟨(some 8), none, (.mov (.t 12))⟩, ⟨(some 13), none, (.ext (.t 8) 0)⟩, ⟨(some 14), none, (.ext (.t 8) 1)⟩, ⟨(some 15), none, (.ext (.t 8) 2)⟩, ⟨(some 5), none, (.mov (.t 13))⟩, ⟨(some 6), none, (.mov (.t 14))⟩, ⟨(some 7), none, (.mov (.t 15))⟩] 11 none) (.seq (.reg [⟨(some 16), none, (.mov (.t 7))⟩, ⟨(some 17), none, (.mov (.t 16))⟩, ⟨(some 18), (some (17, true)), (.fa 1 (.t 3))⟩, ⟨(some 19), (some (17, true)), (.ld none (.t 18))⟩, ⟨(some 20), (some (17, true)), (.bin false .geq (.t 19) (.v (.sc (.int .i64 1))))⟩, ⟨(some 21), none, (.pick (.t 17) (.t 20) (.v (.sc (.bool false))))⟩, ⟨(some 22), none, (.mov (.t 21))⟩, ⟨(some 23), (some (22, true)), (.fa 1 (.t 3))⟩, ⟨(some 24), (some (22, true)), (.ld none (.t 23))⟩, ⟨(some 25), (some (22, true)), (.bin false .leq (.t 24) (.v (.sc (.int .i64 13))))⟩, ⟨(some 26), none, (.pick (.t 22) (.t 25) (.v (.sc (.bool false))))⟩, ⟨(some 4), none, (.mov (.t 26))⟩] 12 none) .ret))), [(.t 4)]⟩
theorem k52_eq : (Tryd.prog.funcs[52]?).bind (cmpF Tryd.prog hmS glS 0) = some k52 := by kernel_rfl
def k53 : KF := ⟨(.seq (.reg [⟨(some 2), none, (.box (.t 0))⟩, ⟨(some 4), none, (.mov (.v (.sc (.int .i64 0))))⟩, ⟨(some 5), none, (.mov (.v (.sc (.int .i64 0))))⟩, ⟨(some 6), none, (.mov (.v (.sc (.bool false))))⟩] 4 none) (.seq (.seq (.reg [⟨(some 9), none, (.mov (.t 1))⟩, ⟨(some 10), none, (.bin false .lss (.t 9) (.v (.sc (.int .i64 1900))))⟩, ⟨(some 11), none, (.mov (.t 10))⟩, ⟨(some 12), (some (11, false)), (.mov (.t 1))⟩, ⟨(some 13), (some (11, false)), (.bin false .gtr (.t 12) (.v (.sc (.int .i64 2199))))⟩, ⟨(some 14), none, (.pick (.t 11) (.v (.sc (.bool true))) (.t 13))⟩] 6 none) (.cond (.t 14) (.seq (.reg [⟨(some 4), none, (.mov (.v (.sc (.int .i64 0))))⟩, ⟨(some 5), none, (.mov (.v (.sc (.int .i64 0))))⟩, ⟨(some 6), none, (.mov (.v (.sc (.bool false))))⟩] 3 none) .ret) .skip)) (.seq (.reg [⟨(some 16), none, (.ld (some 1) (.t 2))⟩, ⟨(some 17), none, (.mov (.t 1))⟩, ⟨(some 18), none, (.pl 54 [(.t 16), (.t 17), (.v (.sc (.int .i64 0)))])⟩, ⟨(some 15), none, (.mov (.t 18))⟩, ⟨(some 19), none, (.ext (.t 15) 0)⟩, ⟨(some 20), none, (.ext (.t 15) 1)⟩, ⟨(some 4), none, (.mov (.t 19))⟩, ⟨(some 6), none, (.mov (.t 20))⟩] 8 none) (.seq (.reg [⟨(some 22), none, (.ld (some 1) (.t 2))⟩, ⟨(some 23), none, (.mov (.t 1))⟩, ⟨(some 24), none, (.pl 54 [(.t 22), (.t 23), (.v (.sc (.int .i64 11)))])⟩, ⟨(some 21), none, (.mov (.t 24))⟩, ⟨(some 25), none, (.ext (.t 21) 0)⟩, ⟨(some 26), none, (.ext (.t 21) 1)⟩, ⟨(some 7), none, (.mov (.t 25))⟩, ⟨(some 8), none, (.mov (.t 26))⟩] 8 none) (.seq (.seq (.reg [⟨(some 27), none, (.mov (.t 6))⟩, ⟨(some 28), none, (.un .not (.t 27))⟩, ⟨(some 29), none, (.mov (.t 28))⟩, ⟨(some 30), (some (29, false)), (.mov (.t 8))⟩, ⟨(some 31), (some (29, false)), (.un .not (.t 30))⟩, ⟨(some 32), none, (.pick (.t 29) (.v (.sc (.bool true))) (.t 31))⟩] 6 none) (.cond (.t 32) (.seq (.reg [⟨(some 4), none, (.mov (.v (.sc (.int .i64 0))))⟩, ⟨(some 5), none, (.mov (.v (.sc (.int .i64 0))))⟩, ⟨(some 6), none, (.mov (.v (.sc (.bool false))))⟩] 3 none) .ret) .skip)) (.seq (.reg [⟨(some 34), none, (.mov (.t 7))⟩, ⟨(some 35), none, (.pl 55 [(.t 34)])⟩, ⟨(some 33), none, (.mov (.t 35))⟩, ⟨(some 36), none, (.ext (.t 33) 0)⟩, ⟨(some 37), none, (.ext (.t 33) 1)⟩, ⟨(some 5), none, (.mov (.t 36))⟩] 6 none) (.seq (.reg [⟨(some 38), none, (.mov (.t 4))⟩, ⟨(some 39), none, (.mov (.t 5))⟩, ⟨(some 4), none, (.mov (.t 38))⟩, ⟨(some 5), none, (.mov (.t 39))⟩, ⟨(some 6), none, (.mov (.v (.sc (.bool true))))⟩] 5 none) .ret))))))), [(.t 4), (.t 5), (.t 6)]⟩
theorem k53_eq : (Tryd.prog.funcs[53]?).bind (cmpF Tryd.prog hmS glS 0) = some k53 := by kernel_rfl
def k54 : KF := ⟨(.seq (.reg [⟨(some 3), none, (.box (.t 0))⟩, ⟨(some 6), none, (.mov (.v (.sc (.int .i64 0))))⟩, ⟨(some 7), none, (.mov (.v (.sc (.bool false))))⟩] 3 none) (.seq (.reg [⟨(some 11), none, (.fa 0 (.t 3))⟩, ⟨(some 12), none, (.ld none (.t 11))⟩, ⟨(some 13), none, (.bin false .sub (.t 12) (.v (.sc (.int .i64 1))))⟩, ⟨(some 14), none, (.mov (.t 2))⟩, ⟨(some 15), none, (.bin false .add (.t 13) (.t 14))⟩, ⟨(some 8), none, (.mov (.t 15))⟩] 6 none) (.seq (.reg [⟨(some 17), none, (.mov (.t 1))⟩, ⟨(some 18), none, (.mov (.t 8))⟩, ⟨(some 19), none, (.bin false .quo (.t 18) (.v (.sc (.int .i64 12))))⟩, ⟨(some 20), none, (.bin false .add (.t 17) (.t 19))⟩, ⟨(some 21), none, (.mov (.t 8))⟩, ⟨(some 22), none, (.bin false .rem (.t 21) (.v (.sc (.int .i64 12))))⟩, ⟨(some 23), none, (.bin false .add (.t 22) (.v (.sc (.int .i64 1))))⟩, ⟨(some 24), none, (.build [(0, 1), (1, 1), (2, 1)] [(.sc (.int .i64 0)), (.sc (.int .i64 0)), (.sc (.int .i64 0))] [(0, (.t 20)), (1, (.t 23)), (2, (.v (.sc (.int .i64 1))))])⟩, ⟨(some 25), none, (.pl 74 [(.t 24)])⟩, ⟨(some 16), none, (.mov (.t 25))⟩, ⟨(some 26), none, (.ext (.t 16) 0)⟩, ⟨(some 27), none, (.ext (.t 16) 1)⟩, ⟨(some 9), none, (.mov (.t 26))⟩, ⟨(some 10), none, (.mov (.t 27))⟩] 14 none) (.seq (.reg [⟨(some 28), none, (.mov (.t 9))⟩, ⟨(some 29), none, (.mov (.t 10))⟩, ⟨(some 30), none, (.bin false .eql (.t 29) (.v (.sc (.int .i64 0))))⟩, ⟨(some 6), none, (.mov (.t 28))⟩, ⟨(some 7), none, (.mov (.t 30))⟩] 5 none) .ret)))), [(.t 6), (.t 7)]⟩
theorem k54_eq : (Tryd.prog.funcs[54]?).bind (cmpF Tryd.prog hmS glS 0) = some k54 := by kernel_rfl
def k55 : KF := ⟨(.seq (.reg [⟨(some 2), none, (.mov (.v (.sc (.int .i64 0))))⟩, ⟨(some 3), none, (.mov (.v (.sc (.int .i64 0))))⟩] 2 none) (.seq (.reg [⟨(some 6), none, (.mov (.t 0))⟩, ⟨(some 7), none, (.pl 75 [(.t 6)])⟩, ⟨(some 5), none, (.mov (.t 7))⟩, ⟨(some 8), none, (.ext (.t 5) 0)⟩, ⟨(some 9), none, (.ext (.t 5) 1)⟩, ⟨(some 4), none, (.new [(.sc (.int .i64 0)), (.sc (.int .i64 0)), (.sc (.int .i64 0))])⟩, ⟨none, none, (.sto 3 (.t 4) (.t 8))⟩, ⟨(some 3), none, (.mov (.t 9))⟩] 8 none) (.seq (.seq (.reg [⟨(some 10), none, (.mov (.t 3))⟩, ⟨(some 11), none, (.bin false .neq (.t 10) (.v (.sc (.int .i64 0))))⟩] 2 none) (.cond (.t 11) (.seq (.reg [⟨(some 12), none, (.mov (.t 3))⟩, ⟨(some 2), none, (.mov (.v (.sc (.int .i64 0))))⟩, ⟨(some 3), none, (.mov (.t 12))⟩] 3 none) .ret) .skip)) (.seq (.seq (.reg [⟨(some 13), none, (.fa 0 (.t 4))⟩, ⟨(some 14), none, (.ld none (.t 13))⟩, ⟨(some 15), none, (.fa 1 (.t 4))⟩, ⟨(some 16), none, (.ld none (.t 15))⟩, ⟨(some 17), none, (.fa 2 (.t 4))⟩, ⟨(some 18), none, (.ld none (.t 17))⟩, ⟨(some 19), none, (.build [(0, 1), (1, 1), (2, 1)] [(.sc (.int .i64 0)), (.sc (.int .i64 0)), (.sc (.int .i64 0))] [(0, (.t 14)), (1, (.t 16)), (2, (.t 18))])⟩, ⟨(some 20), none, (.build [(0, 1), (1, 1), (2, 1)] [(.sc (.int .i64 0)), (.sc (.int .i64 0)), (.sc (.int .i64 0))] [(0, (.v (.sc (.int .i64 2199)))), (1, (.v (.sc (.int .i64 12)))), (2, (.v (.sc (.int .i64 31))))])⟩, ⟨(some 21), none, (.eqs false [(0, 0), (1, 0), (2, 0)] (.t 19) (.t 20))⟩] 9 none) (.cond (.t 21) (.seq (.reg [⟨(some 2), none, (.mov (.v (.sc (.int .i64 109572))))⟩, ⟨(some 3), none, (.mov (.v (.sc (.int .i64 0))))⟩] 2 none) .ret) .skip)) (.seq (.reg [⟨(some 22), none, (.fa 0 (.t 4))⟩, ⟨(some 23), none, (.ld none (.t 22))⟩, ⟨(some 24), none, (.fa 1 (.t 4))⟩, ⟨(some 25), none, (.ld none (.t 24))⟩, ⟨(some 26), none, (.pl 76 [(.t 23), (.t 25)])⟩, ⟨(some 27), none, (.fa 2 (.t 4))⟩, ⟨none, none, (.sto 1 (.t 27) (.t 26))⟩] 7 none) (.seq (.reg [⟨(some 28), none, (.ld (some 3) (.t 4))⟩, ⟨(some 29), none, (.pl 74 [(.t 28)])⟩, ⟨(some 30), none, (.ext (.t 29) 0)⟩, ⟨(some 31), none, (.ext (.t 29) 1)⟩, ⟨(some 2), none, (.mov (.t 30))⟩, ⟨(some 3), none, (.mov (.t 31))⟩] 6 none) .ret)))))), [(.t 2), (.t 3)]⟩
theorem k55_eq : (Tryd.prog.funcs[55]?).bind (cmpF Tryd.prog hmS glS 0) = some k55 := by kernel_rfl
def k56_l0 : Y := (.seq (.reg [⟨(some 9), none, (.bin false .lss (.t 8) (.t 7))⟩] 1 none) (.seq (.cond (.t 9) .skip (.«exit» 0)) (.seq (.block 1 (.seq (.reg [⟨(some 10), none, (.mov (.t 8))⟩, ⟨(some 5), none, (.mov (.t 10))⟩] 2 none) (.seq (.reg [⟨(some 11), none, (.mov (.t 1))⟩, ⟨(some 12), none, (.mov (.t 0))⟩, ⟨(some 13), none, (.mov (.t 5))⟩, ⟨(some 14), none, (.ixs (.t 12) (.t 13))⟩, ⟨(some 15), none, (.dyn (.t 11) [(.t 14)])⟩, ⟨(some 16), none, (.un .not (.t 15))⟩] 6 none) (.cond (.t 16) (.seq (.reg [⟨(some 4), none, (.mov (.v (.sc (.bool false))))⟩] 1 none) .ret) .skip)))) (.reg [⟨(some 17), none, (.bin false .add (.t 8) (.v (.sc (.int .i64 1))))⟩, ⟨(some 8), none, (.mov (.t 17))⟩] 2 none))))
def k56_t0 : Y := (.seq (.reg [⟨(some 4), none, (.mov (.v (.sc (.bool true))))⟩] 1 none) .ret)
def k56 : KF := ⟨(.seq (.reg [⟨(some 4), none, (.mov (.v (.sc (.bool false))))⟩] 1 none) (.seq (.seq (.reg [⟨(some 6), none, (.mov (.t 0))⟩, ⟨(some 7), none, (.lenS (.t 6))⟩, ⟨(some 8), none, (.mov (.v (.sc (.int .i64 0))))⟩] 3 none) (.block 0 (.loop k56_l0))) k56_t0)), [(.t 4)]⟩
theorem k56_eq : (Tryd.prog.funcs[56]?).bind (cmpF Tryd.prog hmS glS 0) = some k56 := by kernel_rfl
def k57 : KF := ⟨(.seq (.reg [⟨(some 2), none, (.mov (.v (.sc (.bool false))))⟩] 1 none) (.seq (.reg [⟨(some 3), none, (.mov (.t 0))⟩, ⟨(some 4), none, (.pl 58 [(.t 3)])⟩, ⟨(some 5), none, (.mov (.t 4))⟩, ⟨(some 6), (some (5, false)), (.mov (.t 0))⟩, ⟨(some 7), (some (5, false)), (.pl 59 [(.t 6)])⟩, ⟨(some 8), none, (.pick (.t 5) (.v (.sc (.bool true))) (.t 7))⟩, ⟨(some 2), none, (.mov (.t 8))⟩] 7 none) .ret)), [(.t 2)]⟩
theorem k57_eq : (Tryd.prog.funcs[57]?).bind (cmpF Tryd.prog hmS glS 0) = some k57 := by kernel_rfl
def k58 : KF := ⟨(.seq (.reg [⟨(some 2), none, (.mov (.v (.sc (.bool false))))⟩] 1 none) (.seq (.reg [⟨(some 3), none, (.mov (.t 0))⟩, ⟨(some 4), none, (.bin false .geq (.t 3) (.v (.sc (.int .u8 97))))⟩, ⟨(some 5), none, (.mov (.t 4))⟩, ⟨(some 6), (some (5, true)), (.mov (.t 0))⟩, ⟨(some 7), (some (5, true)), (.bin false .leq (.t 6) (.v (.sc (.int .u8 122))))⟩, ⟨(some 8), none, (.pick (.t 5) (.t 7) (.v (.sc (.bool false))))⟩, ⟨(some 9), none, (.mov (.t 8))⟩, ⟨(some 10), (some (9, false)), (.mov (.t 0))⟩, ⟨(some 11), (some (9, false)), (.bin false .geq (.t 10) (.v (.sc (.int .u8 65))))⟩, ⟨(some 12), (some (9, false)), (.mov (.t 11))⟩, ⟨(some 13), (some (12, true)), (.mov (.t 0))⟩, ⟨(some 14), (some (12, true)), (.bin false .leq (.t 13) (.v (.sc (.int .u8 90))))⟩, ⟨(some 15), (some (9, false)), (.pick (.t 12) (.t 14) (.v (.sc (.bool false))))⟩, ⟨(some 16), none, (.pick (.t 9) (.v (.sc (.bool true))) (.t 15))⟩, ⟨(some 17), none, (.mov (.t 16))⟩, ⟨(some 18), (some (17, false)), (.mov (.t 0))⟩, ⟨(some 19), (some (17, false)), (.bin false .eql (.t 18) (.v (.sc (.int .u8 95))))⟩, ⟨(some 20), none, (.pick (.t 17) (.v (.sc (.bool true))) (.t 19))⟩, ⟨(some 2), none, (.mov (.t 20))⟩] 19 none) .ret)), [(.t 2)]⟩
theorem k58_eq : (Tryd.prog.funcs[58]?).bind (cmpF Tryd.prog hmS glS 0) = some k58 := by kernel_rfl
def k59 : KF := ⟨(.seq (.reg [⟨(some 2), none, (.mov (.v (.sc (.bool false))))⟩] 1 none) (.seq (.reg [⟨(some 3), none, (.mov (.t 0))⟩, ⟨(some 4), none, (.bin false .geq (.t 3) (.v (.sc (.int .u8 48))))⟩, ⟨(some 5), none, (.mov (.t 4))⟩, ⟨(some 6), (some (5, true)), (.mov (.t 0))⟩, ⟨(some 7), (some (5, true)), (.bin false .leq (.t 6) (.v (.sc (.int .u8 57))))⟩, ⟨(some 8), none, (.pick (.t 5) (.t 7) (.v (.sc (.bool false))))⟩, ⟨(some 2), none, (.mov (.t 8))⟩] 7 none) .ret)), [(.t 2)]⟩
theorem k59_eq : (Tryd.prog.funcs[59]?).bind (cmpF Tryd.prog hmS glS 0) = some k59 := by kernel_rfl
def k62 : KF := ⟨(.seq (.reg [⟨(some 2), none, (.box (.t 0))⟩, ⟨(some 3), none, (.box (.t 1))⟩, ⟨(some 4), none, (.mov (.v (.sc (.bool false))))⟩] 3 none) (.seq (.reg [⟨(some 5), none, (.fa 1 (.t 3))⟩, ⟨(some 6), none, (.ld none (.t 5))⟩, ⟨(some 7), none, (.bin false .geq (.t 6) (.v (.sc (.int .i64 1))))⟩, ⟨(some 8), none, (.mov (.t 7))⟩, ⟨(some 9), (some (8, true)), (.fa 1 (.t 3))⟩, ⟨(some 10), (some (8, true)), (.ld none (.t 9))⟩, ⟨(some 11), (some (8, true)), (.bin false .leq (.t 10) (.v (.sc (.int .i64 13))))⟩, ⟨(some 12), none, (.pick (.t 8) (.t 11) (.v (.sc (.bool false))))⟩, ⟨(some 13), none, (.mov (.t 12))⟩, ⟨(some 14), (some (13, true)), (.ld (some 1) (.t 2))⟩, ⟨(some 15), (some (13, true)), (.fa 0 (.t 3))⟩, ⟨(some 16), (some (13, true)), (.ld none (.t 15))⟩, ⟨(some 17), (some (13, true)), (.pl 88 [(.t 14), (.t 16)])⟩, ⟨(some 18), none, (.pick (.t 13) (.t 17) (.v (.sc (.bool false))))⟩, ⟨(some 4), none, (.mov (.t 18))⟩] 15 none) .ret)), [(.t 4)]⟩
theorem k62_eq : (Tryd.prog.funcs[62]?).bind (cmpF Tryd.prog hmS glS 0) = some k62 := by kernel_rfl
def k63 : KF := ⟨(.seq (.reg [⟨(some 3), none, (.box (.t 0))⟩, ⟨(some 6), none, (.mov (.v (.sc (.int .i64 0))))⟩, ⟨(some 7), none, (.mov (.v (.sc (.int .i64 0))))⟩, ⟨(some 8), none, (.mov (.v (.sc (.bool false))))⟩] 4 none) (.seq (.seq (.reg [⟨(some 15), none, (.mov (.t 1))⟩, ⟨(some 16), none, (.bin false .lss (.t 15) (.v (.sc (.int .i64 1900))))⟩, ⟨(some 17), none, (.mov (.t 16))⟩, ⟨(some 18), (some (17, false)), (.mov (.t 1))⟩, ⟨(some 19), (some (17, false)), (.bin false .gtr (.t 18) (.v (.sc (.int .i64 2199))))⟩, ⟨(some 20), none, (.pick (.t 17) (.v (.sc (.bool true))) (.t 19))⟩] 6 none) (.cond (.t 20) (.seq (.reg [⟨(some 6), none, (.mov (.v (.sc (.int .i64 0))))⟩, ⟨(some 7), none, (.mov (.v (.sc (.int .i64 0))))⟩, ⟨(some 8), none, (.mov (.v (.sc (.bool false))))⟩] 3 none) .ret) .skip)) (.seq (.reg [⟨(some 21), none, (.fa 0 (.t 3))⟩, ⟨(some 22), none, (.ld none (.t 21))⟩, ⟨(some 23), none, (.bin false .sub (.t 22) (.v (.sc (.int .i64 1))))⟩, ⟨(some 24), none, (.mov (.t 2))⟩, ⟨(some 25), none, (.bin false .add (.t 23) (.t 24))⟩, ⟨(some 9), none, (.mov (.t 25))⟩] 6 none) (.seq (.reg [⟨(some 26), none, (.mov (.t 1))⟩, ⟨(some 10), none, (.mov (.t 26))⟩] 2 none) (.seq (.seq (.reg [⟨(some 27), none, (.mov (.t 9))⟩, ⟨(some 28), none, (.bin false .geq (.t 27) (.v (.sc (.int .i64 12))))⟩] 2 none) (.cond (.t 28) (.seq (.reg [⟨(some 29), none, (.mov (.t 9))⟩, ⟨(some 30), none, (.bin false .sub (.t 29) (.v (.sc (.int .i64 12))))⟩, ⟨(some 9), none, (.mov (.t 30))⟩] 3 none) (.reg [⟨(some 31), none, (.mov (.t 10))⟩, ⟨(some 32), none, (.bin false .add (.t 31) (.v (.sc (.int .i64 1))))⟩, ⟨(some 10), none, (.mov (.t 32))⟩] 3 none)) .skip)) (.seq (.reg [⟨(some 34), none, (.mov (.t 10))⟩, ⟨(some 35), none, (.mov (.t 9))⟩, ⟨(some 36), none, (.bin false .add (.t 35) (.v (.sc (.int .i64 1))))⟩, ⟨(some 37), none, (.build [(0, 1), (1, 1), (2, 1)] [(.sc (.int .i64 0)), (.sc (.int .i64 0)), (.sc (.int .i64 0))] [(0, (.t 34)), (1, (.t 36)), (2, (.v (.sc (.int .i64 1))))])⟩, ⟨(some 38), none, (.pl 89 [(.t 37)])⟩, ⟨(some 33), none, (.mov (.t 38))⟩, ⟨(some 39), none, (.ext (.t 33) 0)⟩, ⟨(some 40), none, (.ext (.t 33) 1)⟩, ⟨(some 11), none, (.mov (.t 39))⟩, ⟨(some 12), none, (.mov (.t 40))⟩] 10 none) (.seq (.reg [⟨(some 42), none, (.mov (.t 10))⟩, ⟨(some 43), none, (.mov (.t 9))⟩, ⟨(some 44), none, (.bin false .add (.t 43) (.v (.sc (.int .i64 1))))⟩, ⟨(some 45), none, (.mov (.t 10))⟩, ⟨(some 46), none, (.mov (.t 9))⟩, ⟨(some 47), none, (.bin false .add (.t 46) (.v (.sc (.int .i64 1))))⟩, ⟨(some 48), none, (.pl 90 [(.t 45), (.t 47)])⟩, ⟨(some 49), none, (.build [(0, 1), (1, 1), (2, 1)] [(.sc (.int .i64 0)), (.sc (.int .i64 0)), (.sc (.int .i64 0))] [(0, (.t 42)), (1, (.t 44)), (2, (.t 48))])⟩, ⟨(some 50), none, (.pl 89 [(.t 49)])⟩, ⟨(some 41), none, (.mov (.t 50))⟩, ⟨(some 51), none, (.ext (.t 41) 0)⟩, ⟨(some 52), none, (.ext (.t 41) 1)⟩, ⟨(some 13), none, (.mov (.t 51))⟩, ⟨(some 14), none, (.mov (.t 52))⟩] 14 none) (.seq (.reg [⟨(some 53), none, (.mov (.t 11))⟩, ⟨(some 54), none, (.mov (.t 13))⟩, ⟨(some 55), none, (.mov (.t 12))⟩, ⟨(some 56), none, (.bin false .eql (.t 55) (.v (.sc (.int .i64 0))))⟩, ⟨(some 57), none, (.mov (.t 56))⟩, ⟨(some 58), (some (57, true)), (.mov (.t 14))⟩, ⟨(some 59), (some (57, true)), (.bin false .eql (.t 58) (.v (.sc (.int .i64 0))))⟩, ⟨(some 60), none, (.pick (.t 57) (.t 59) (.v (.sc (.bool false))))⟩, ⟨(some 6), none, (.mov (.t 53))⟩, ⟨(some 7), none, (.mov (.t 54))⟩, ⟨(some 8), none, (.mov (.t 60))⟩] 11 none) .ret)))))))), [(.t 6), (.t 7), (.t 8)]⟩
theorem k63_eq : (Tryd.prog.funcs[63]?).bind (cmpF Tryd.prog hmS glS 0) = some k63 := by kernel_rfl
def k64 : KF := ⟨(.seq (.reg [⟨(some 2), none, (.mov (.v (.sc (.bool false))))⟩] 1 none) (.seq (.reg [⟨(some 3), none, (.mov (.t 0))⟩, ⟨(some 4), none, (.bin false .geq (.t 3) (.v (.sc (.int .u8 97))))⟩, ⟨(some 5), none, (.mov (.t 4))⟩, ⟨(some 6), (some (5, true)), (.mov (.t 0))⟩, ⟨(some 7), (some (5, true)), (.bin false .leq (.t 6) (.v (.sc (.int .u8 122))))⟩, ⟨(some 8), none, (.pick (.t 5) (.t 7) (.v (.sc (.bool false))))⟩, ⟨(some 9), none, (.mov (.t 8))⟩, ⟨(some 10), (some (9, false)), (.mov (.t 0))⟩, ⟨(some 11), (some (9, false)), (.bin false .geq (.t 10) (.v (.sc (.int .u8 65))))⟩, ⟨(some 12), (some (9, false)), (.mov (.t 11))⟩, ⟨(some 13), (some (12, true)), (.mov (.t 0))⟩, ⟨(some 14), (some (12, true)), (.bin false .leq (.t 13) (.v (.sc (.int .u8 90))))⟩, ⟨(some 15), (some (9, false)), (.pick (.t 12) (.t 14) (.v (.sc (.bool false))))⟩, ⟨(some 16), none, (.pick (.t 9) (.v (.sc (.bool true))) (.t 15))⟩, ⟨(some 17), none, (.mov (.t 16))⟩, ⟨(some 18), (some (17, false)), (.mov (.t 0))⟩, ⟨(some 19), (some (17, false)), (.bin false .eql (.t 18) (.v (.sc (.int .u8 95))))⟩, ⟨(some 20), none, (.pick (.t 17) (.v (.sc (.bool true))) (.t 19))⟩, ⟨(some 2), none, (.mov (.t 20))⟩] 19 none) .ret)), [(.t 2)]⟩
theorem k64_eq : (Tryd.prog.funcs[64]?).bind (cmpF Tryd.prog hmS glS 0) = some k64 := by kernel_rfl
def k65 : KF := ⟨(.seq (.reg [⟨(some 2), none, (.mov (.v (.sc (.bool false))))⟩] 1 none) (.seq (.reg [⟨(some 3), none, (.mov (.t 0))⟩, ⟨(some 4), none, (.bin false .geq (.t 3) (.v (.sc (.int .u8 48))))⟩, ⟨(some 5), none, (.mov (.t 4))⟩, ⟨(some 6), (some (5, true)), (.mov (.t 0))⟩, ⟨(some 7), (some (5, true)), (.bin false .leq (.t 6) (.v (.sc (.int .u8 57))))⟩, ⟨(some 8), none, (.pick (.t 5) (.t 7) (.v (.sc (.bool false))))⟩, ⟨(some 2), none, (.mov (.t 8))⟩] 7 none) .ret)), [(.t 2)]⟩
theorem k65_eq : (Tryd.prog.funcs[65]?).bind (cmpF Tryd.prog hmS glS 0) = some k65 := by kernel_rfl
def k70 : KF := ⟨(.seq (.reg [⟨(some 3), none, (.box (.t 0))⟩, ⟨(some 4), none, (.box (.t 1))⟩, ⟨(some 5), none, (.box (.t 2))⟩, ⟨(some 6), none, (.new [(.sc (.int .i64 0)), (.sc (.int .i64 0))])⟩, ⟨(some 7), none, (.mov (.v (.sc (.int .i64 0))))⟩] 5 none) (.seq (.seq (.reg [⟨(some 8), none, (.ld (some 1) (.t 3))⟩, ⟨(some 9), none, (.pl 51 [(.t 8)])⟩, ⟨(some 10), none, (.un .not (.t 9))⟩] 3 none) (.cond (.t 10) (.seq (.reg [⟨(some 11), none, (.build [(0, 1), (1, 1)] [(.sc (.int .i64 0)), (.sc (.int .i64 0))] [])⟩, ⟨none, none, (.sto 2 (.t 6) (.t 11))⟩, ⟨(some 7), none, (.mov (.v (.sc (.int .i64 2))))⟩] 3 none) .ret) .skip)) (.seq (.seq (.reg [⟨(some 12), none, (.ld (some 1) (.t 3))⟩, ⟨(some 13), none, (.ld (some 2) (.t 4))⟩, ⟨(some 14), none, (.pl 52 [(.t 12), (.t 13)])⟩, ⟨(some 15), none, (.un .not (.t 14))⟩, ⟨(some 16), none, (.mov (.t 15))⟩, ⟨(some 17), (some (16, false)), (.ld (some 1) (.t 3))⟩, ⟨(some 18), (some (16, false)), (.ld (some 2) (.t 5))⟩, ⟨(some 19), (some (16, false)), (.pl 52 [(.t 17), (.t 18)])⟩, ⟨(some 20), (some (16, false)), (.un .not (.t 19))⟩, ⟨(some 21), none, (.pick (.t 16) (.v (.sc (.bool true))) (.t 20))⟩] 10 none) (.cond (.t 21) (.seq (.reg [⟨(some 22), none, (.build [(0, 1), (1, 1)] [(.sc (.int .i64 0)), (.sc (.int .i64 0))] [])⟩, ⟨none, none, (.sto 2 (.t 6) (.t 22))⟩, ⟨(some 7), none, (.mov (.v (.sc (.int .i64 16))))⟩] 3 none) .ret) .skip)) (.seq (.reg [⟨(some 23), none, (.ld (some 2) (.t 5))⟩, ⟨none, none, (.sto 2 (.t 6) (.t 23))⟩, ⟨(some 7), none, (.mov (.v (.sc (.int .i64 0))))⟩] 3 none) .ret)))), [(.c 6 (some 2)), (.t 7)]⟩
theorem k70_eq : (Tryd.prog.funcs[70]?).bind (cmpF Tryd.prog hmS glS 0) = some k70 := by kernel_rfl
def k71 : KF := ⟨(.seq (.reg [⟨(some 2), none, (.box (.t 0))⟩, ⟨(some 4), none, (.new [(.sc (.int .i64 0)), (.sc (.int .i64 0))])⟩, ⟨(some 5), none, (.mov (.v (.sc (.int .i64 0))))⟩] 3 none) (.seq (.seq (.reg [⟨(some 7), none, (.ld (some 1) (.t 2))⟩, ⟨(some 8), none, (.pl 51 [(.t 7)])⟩, ⟨(some 9), none, (.un .not (.t 8))⟩] 3 none) (.cond (.t 9) (.seq (.reg [⟨(some 10), none, (.build [(0, 1), (1, 1)] [(.sc (.int .i64 0)), (.sc (.int .i64 0))] [])⟩, ⟨none, none, (.sto 2 (.t 4) (.t 10))⟩, ⟨(some 5), none, (.mov (.v (.sc (.int .i64 2))))⟩] 3 none) .ret) .skip)) (.seq (.reg [⟨(some 12), none, (.mov (.t 1))⟩, ⟨(some 13), none, (.pl 75 [(.t 12)])⟩, ⟨(some 11), none, (.mov (.t 13))⟩, ⟨(some 14), none, (.ext (.t 11) 0)⟩, ⟨(some 15), none, (.ext (.t 11) 1)⟩, ⟨(some 6), none, (.new [(.sc (.int .i64 0)), (.sc (.int .i64 0)), (.sc (.int .i64 0))])⟩, ⟨none, none, (.sto 3 (.t 6) (.t 14))⟩, ⟨(some 5), none, (.mov (.t 15))⟩] 8 none) (.seq (.seq (.reg [⟨(some 16), none, (.mov (.t 5))⟩, ⟨(some 17), none, (.bin false .neq (.t 16) (.v (.sc (.int .i64 0))))⟩] 2 none) (.cond (.t 17) (.seq (.reg [⟨(some 18), none, (.build [(0, 1), (1, 1)] [(.sc (.int .i64 0)), (.sc (.int .i64 0))] [])⟩, ⟨(some 19), none, (.mov (.t 5))⟩, ⟨none, none, (.sto 2 (.t 4) (.t 18))⟩, ⟨(some 5), none, (.mov (.t 19))⟩] 4 none) .ret) .skip)) (.seq (.reg [⟨(some 20), none, (.fa 0 (.t 6))⟩, ⟨(some 21), none, (.ld none (.t 20))⟩, ⟨(some 22), none, (.fa 1 (.t 6))⟩, ⟨(some 23), none, (.ld none (.t 22))⟩, ⟨(some 24), none, (.fa 0 (.t 2))⟩, ⟨(some 25), none, (.ld none (.t 24))⟩, ⟨(some 26), none, (.bin false .sub (.t 23) (.t 25))⟩, ⟨(some 27), none, (.bin false .add (.t 26) (.v (.sc (.int .i64 1))))⟩, ⟨(some 28), none, (.build [(0, 1), (1, 1)] [(.sc (.int .i64 0)), (.sc (.int .i64 0))] [(0, (.t 21)), (1, (.t 27))])⟩, ⟨none, none, (.sto 2 (.t 4) (.t 28))⟩] 10 none) (.seq (.seq (.reg [⟨(some 29), none, (.fa 1 (.t 4))⟩, ⟨(some 30), none, (.ld none (.t 29))⟩, ⟨(some 31), none, (.bin false .lss (.t 30) (.v (.sc (.int .i64 1))))⟩] 3 none) (.cond (.t 31) (.reg [⟨(some 32), none, (.fa 0 (.t 6))⟩, ⟨(some 33), none, (.ld none (.t 32))⟩, ⟨(some 34), none, (.bin false .sub (.t 33) (.v (.sc (.int .i64 1))))⟩, ⟨(some 35), none, (.fa 1 (.t 4))⟩, ⟨(some 36), none, (.ld none (.t 35))⟩, ⟨(some 37), none, (.bin false .add (.t 36) (.v (.sc (.int .i64 12))))⟩, ⟨(some 38), none, (.build [(0, 1), (1, 1)] [(.sc (.int .i64 0)), (.sc (.int .i64 0))] [(0, (.t 34)), (1, (.t 37))])⟩, ⟨none, none, (.sto 2 (.t 4) (.t 38))⟩] 8 none) .skip)) (.seq (.seq (.reg [⟨(some 39), none, (.ld (some 1) (.t 2))⟩, ⟨(some 40), none, (.ld (some 2) (.t 4))⟩, ⟨(some 41), none, (.pl 52 [(.t 39), (.t 40)])⟩, ⟨(some 42), none, (.un .not (.t 41))⟩] 4 none) (.cond (.t 42) (.seq (.reg [⟨(some 43), none, (.build [(0, 1), (1, 1)] [(.sc (.int .i64 0)), (.sc (.int .i64 0))] [])⟩, ⟨none, none, (.sto 2 (.t 4) (.t 43))⟩, ⟨(some 5), none, (.mov (.v (.sc (.int .i64 16))))⟩] 3 none) .ret) .skip)) (.seq (.reg [⟨(some 44), none, (.ld (some 2) (.t 4))⟩, ⟨none, none, (.sto 2 (.t 4) (.t 44))⟩, ⟨(some 5), none, (.mov (.v (.sc (.int .i64 0))))⟩] 3 none) .ret)))))))), [(.c 4 (some 2)), (.t 5)]⟩
theorem k71_eq : (Tryd.prog.funcs[71]?).bind (cmpF Tryd.prog hmS glS 0) = some k71 := by kernel_rfl
def k72 : KF := ⟨(.seq (.reg [⟨(some 4), none, (.mov (.v (.sc (.int .i64 0))))⟩] 1 none) (.seq (.reg [⟨(some 7), none, (.mov (.t 0))⟩, ⟨(some 8), none, (.pl 93 [(.t 7)])⟩, ⟨(some 5), none, (.mov (.t 8))⟩] 3 none) (.seq (.reg [⟨(some 9), none, (.mov (.t 1))⟩, ⟨(some 10), none, (.pl 93 [(.t 9)])⟩, ⟨(some 6), none, (.mov (.t 10))⟩] 3 none) (.seq (.seq (.reg [⟨(some 11), none, (.mov (.t 5))⟩] 1 none) (.cond (.t 11) (.seq (.seq (.reg [⟨(some 12), none, (.mov (.t 6))⟩] 1 none) (.cond (.t 12) (.seq (.reg [⟨(some 4), none, (.mov (.v (.sc (.int .i64 0))))⟩] 1 none) .ret) .skip)) (.seq (.reg [⟨(some 4), none, (.mov (.v (.sc (.int .i64 (-1)))))⟩] 1 none) .ret)) .skip)) (.seq (.seq (.reg [⟨(some 13), none, (.mov (.t 6))⟩] 1 none) (.cond (.t 13) (.seq (.reg [⟨(some 4), none, (.mov (.v (.sc (.int .i64 1))))⟩] 1 none) .ret) .skip)) (.seq (.seq (.reg [⟨(some 14), none, (.mov (.t 0))⟩, ⟨(some 15), none, (.mov (.t 1))⟩, ⟨(some 16), none, (.bin false .lss (.t 14) (.t 15))⟩] 3 none) (.cond (.t 16) (.seq (.reg [⟨(some 4), none, (.mov (.v (.sc (.int .i64 (-1)))))⟩] 1 none) .ret) .skip)) (.seq (.seq (.reg [⟨(some 17), none, (.mov (.t 0))⟩, ⟨(some 18), none, (.mov (.t 1))⟩, ⟨(some 19), none, (.bin false .gtr (.t 17) (.t 18))⟩] 3 none) (.cond (.t 19) (.seq (.reg [⟨(some 4), none, (.mov (.v (.sc (.int .i64 1))))⟩] 1 none) .ret) .skip)) (.seq (.reg [⟨(some 4), none, (.mov (.v (.sc (.int .i64 0))))⟩] 1 none) .ret)))))))), [(.t 4)]⟩
theorem k72_eq : (Tryd.prog.funcs[72]?).bind (cmpF Tryd.prog hmS glS 0) = some k72 := by kernel_rfl
def k73 : KF := ⟨(.seq (.reg [⟨(some 2), none, (.box (.t 0))⟩, ⟨(some 4), none, (.new [(.sc (.int .i64 0)), (.sc (.int .i64 0))])⟩, ⟨(some 5), none, (.mov (.v (.sc (.int .i64 0))))⟩] 3 none) (.seq (.seq (.reg [⟨(some 9), none, (.ld (some 1) (.t 2))⟩, ⟨(some 10), none, (.pl 32 [(.t 9)])⟩, ⟨(some 11), none, (.un .not (.t 10))⟩] 3 none) (.cond (.t 11) (.seq (.reg [⟨(some 12), none, (.build [(0, 1), (1, 1)] [(.sc (.int .i64 0)), (.sc (.int .i64 0))] [])⟩, ⟨none, none, (.sto 2 (.t 4) (.t 12))⟩, ⟨(some 5), none, (.mov (.v (.sc (.int .i64 2))))⟩] 3 none) .ret) .skip)) (.seq (.reg [⟨(some 14), none, (.mov (.t 1))⟩, ⟨(some 15), none, (.pl 94 [(.t 14)])⟩, ⟨(some 13), none, (.mov (.t 15))⟩, ⟨(some 16), none, (.ext (.t 13) 0)⟩, ⟨(some 17), none, (.ext (.t 13) 1)⟩, ⟨(some 6), none, (.new [(.sc (.int .i64 0)), (.sc (.int .i64 0)), (.sc (.int .i64 0))])⟩, ⟨none, none, (.sto 3 (.t 6) (.t 16))⟩, ⟨(some 7), none, (.mov (.t 17))⟩] 8 none) (.seq (.seq (.reg [⟨(some 18), none, (.mov (.t 7))⟩, ⟨(some 19), none, (.bin false .neq (.t 18) (.v (.sc (.int .i64 0))))⟩] 2 none) (.cond (.t 19) (.seq (.reg [⟨(some 20), none, (.build [(0, 1), (1, 1)] [(.sc (.int .i64 0)), (.sc (.int .i64 0))] [])⟩, ⟨none, none, (.sto 2 (.t 4) (.t 20))⟩, ⟨(some 5), none, (.mov (.v (.sc (.int .i64 11))))⟩] 3 none) .ret) .skip)) (.seq (.reg [⟨(some 21), none, (.fa 0 (.t 6))⟩, ⟨(some 22), none, (.ld none (.t 21))⟩, ⟨(some 23), none, (.fa 1 (.t 6))⟩, ⟨(some 24), none, (.ld none (.t 23))⟩, ⟨(some 25), none, (.fa 0 (.t 2))⟩, ⟨(some 26), none, (.ld none (.t 25))⟩, ⟨(some 27), none, (.bin false .sub (.t 24) (.t 26))⟩, ⟨(some 28), none, (.bin false .add (.t 27) (.v (.sc (.int .i64 1))))⟩, ⟨(some 29), none, (.build [(0, 1), (1, 1)] [(.sc (.int .i64 0)), (.sc (.int .i64 0))] [(0, (.t 22)), (1, (.t 28))])⟩, ⟨(some 8), none, (.new [(.sc (.int .i64 0)), (.sc (.int .i64 0))])⟩, ⟨none, none, (.sto 2 (.t 8) (.t 29))⟩] 11 none) (.seq (.seq (.reg [⟨(some 30), none, (.fa 1 (.t 6))⟩, ⟨(some 31), none, (.ld none (.t 30))⟩, ⟨(some 32), none, (.fa 0 (.t 2))⟩, ⟨(some 33), none, (.ld none (.t 32))⟩, ⟨(some 34), none, (.bin false .lss (.t 31) (.t 33))⟩] 5 none) (.cond (.t 34) (.reg [⟨(some 35), none, (.fa 0 (.t 6))⟩, ⟨(some 36), none, (.ld none (.t 35))⟩, ⟨(some 37), none, (.bin false .sub (.t 36) (.v (.sc (.int .i64 1))))⟩, ⟨(some 38), none, (.fa 1 (.t 6))⟩, ⟨(some 39), none, (.ld none (.t 38))⟩, ⟨(some 40), none, (.fa 0 (.t 2))⟩, ⟨(some 41), none, (.ld none (.t 40))⟩, ⟨(some 42), none, (.bin false .sub (.t 39) (.t 41))⟩, ⟨(some 43), none, (.bin false .add (.t 42) (.v (.sc (.int .i64 13))))⟩, ⟨(some 44), none, (.build [(0, 1), (1, 1)] [(.sc (.int .i64 0)), (.sc (.int .i64 0))] [(0, (.t 37)), (1, (.t 43))])⟩, ⟨none, none, (.sto 2 (.t 8) (.t 44))⟩] 11 none) .skip)) (.seq (.seq (.reg [⟨(some 45), none, (.ld (some 1) (.t 2))⟩, ⟨(some 46), none, (.fa 0 (.t 8))⟩, ⟨(some 47), none, (.ld none (.t 46))⟩, ⟨(some 48), none, (.pl 88 [(.t 45), (.t 47)])⟩, ⟨(some 49), none, (.un .not (.t 48))⟩] 5 none) (.cond (.t 49) (.seq (.reg [⟨(some 50), none, (.build [(0, 1), (1, 1)] [(.sc (.int .i64 0)), (.sc (.int .i64 0))] [])⟩, ⟨none, none, (.sto 2 (.t 4) (.t 50))⟩, ⟨(some 5), none, (.mov (.v (.sc (.int .i64 16))))⟩] 3 none) .ret) .skip)) (.seq (.reg [⟨(some 51), none, (.ld (some 2) (.t 8))⟩, ⟨none, none, (.sto 2 (.t 4) (.t 51))⟩, ⟨(some 5), none, (.mov (.v (.sc (.int .i64 0))))⟩] 3 none) .ret)))))))), [(.c 4 (some 2)), (.t 5)]⟩
theorem k73_eq : (Tryd.prog.funcs[73]?).bind (cmpF Tryd.prog hmS glS 0) = some k73 := by kernel_rfl
def k74_l0 : Y := (.seq (.seq (.reg [⟨(some 35), none, (.mov (.t 4))⟩, ⟨(some 36), none, (.fa 1 (.t 1))⟩, ⟨(some 37), none, (.ld none (.t 36))⟩, ⟨(some 38), none, (.bin false .lss (.t 35) (.t 37))⟩] 4 none) (.cond (.t 38) .skip (.«exit» 0))) (.seq (.block 1 (.reg [⟨(some 41), none, (.mov (.t 2))⟩, ⟨(some 42), none, (.fa 0 (.t 1))⟩, ⟨(some 43), none, (.ld none (.t 42))⟩, ⟨(some 44), none, (.mov (.t 4))⟩, ⟨(some 45), none, (.pl 76 [(.t 43), (.t 44)])⟩, ⟨(some 46), none, (.bin false .add (.t 41) (.t 45))⟩, ⟨(some 2), none, (.mov (.t 46))⟩] 7 none)) (.reg [⟨(some 39), none, (.mov (.t 4))⟩, ⟨(some 40), none, (.bin false .add (.t 39) (.v (.sc (.int .i64 1))))⟩, ⟨(some 4), none, (.mov (.t 40))⟩] 3 none)))
def k74_t0 : Y := (.seq (.reg [⟨(some 47), none, (.mov (.t 2))⟩, ⟨(some 2), none, (.mov (.t 47))⟩, ⟨(some 3), none, (.mov (.v (.sc (.int .i64 0))))⟩] 3 none) .ret)
def k74 : KF := ⟨(.seq (.reg [⟨(some 1), none, (.box (.t 0))⟩, ⟨(some 2), none, (.mov (.v (.sc (.int .i64 0))))⟩, ⟨(some 3), none, (.mov (.v (.sc (.int .i64 0))))⟩] 3 none) (.seq (.seq (.reg [⟨(some 5), none, (.fa 0 (.t 1))⟩, ⟨(some 6), none, (.ld none (.t 5))⟩, ⟨(some 7), none, (.bin false .lss (.t 6) (.v (.sc (.int .i64 1900))))⟩, ⟨(some 8), none, (.mov (.t 7))⟩, ⟨(some 9), (some (8, false)), (.fa 0 (.t 1))⟩, ⟨(some 10), (some (8, false)), (.ld none (.t 9))⟩, ⟨(some 11), (some (8, false)), (.bin false .gtr (.t 10) (.v (.sc (.int .i64 2199))))⟩, ⟨(some 12), none, (.pick (.t 8) (.v (.sc (.bool true))) (.t 11))⟩, ⟨(some 13), none, (.mov (.t 12))⟩, ⟨(some 14), (some (13, false)), (.fa 2 (.t 1))⟩, ⟨(some 15), (some (13, false)), (.ld none (.t 14))⟩, ⟨(some 16), (some (13, false)), (.bin false .lss (.t 15) (.v (.sc (.int .i64 1))))⟩, ⟨(some 17), none, (.pick (.t 13) (.v (.sc (.bool true))) (.t 16))⟩, ⟨(some 18), none, (.mov (.t 17))⟩, ⟨(some 19), (some (18, false)), (.fa 2 (.t 1))⟩, ⟨(some 20), (some (18, false)), (.ld none (.t 19))⟩, ⟨(some 21), (some (18, false)), (.fa 0 (.t 1))⟩, ⟨(some 22), (some (18, false)), (.ld none (.t 21))⟩, ⟨(some 23), (some (18, false)), (.fa 1 (.t 1))⟩, ⟨(some 24), (some (18, false)), (.ld none (.t 23))⟩, ⟨(some 25), (some (18, false)), (.pl 76 [(.t 22), (.t 24)])⟩, ⟨(some 26), (some (18, false)), (.bin false .gtr (.t 20) (.t 25))⟩, ⟨(some 27), none, (.pick (.t 18) (.v (.sc (.bool true))) (.t 26))⟩] 23 (some [0, 1, 3, 7, 15, 31, 63, 127, 255, 511, 1023, 2047, 4095, 8191, 16383, 32767, 16383, 81919, 16383, 278527, 999423, 2097151, 4194303])) (.cond (.t 27) (.seq (.reg [⟨(some 2), none, (.mov (.v (.sc (.int .i64 0))))⟩, ⟨(some 3), none, (.mov (.v (.sc (.int .i64 11))))⟩] 2 none) .ret) .skip)) (.seq (.reg [⟨(some 28), none, (.fa 0 (.t 1))⟩, ⟨(some 29), none, (.ld none (.t 28))⟩, ⟨(some 30), none, (.pl 95 [(.t 29)])⟩, ⟨(some 31), none, (.fa 2 (.t 1))⟩, ⟨(some 32), none, (.ld none (.t 31))⟩, ⟨(some 33), none, (.bin false .add (.t 30) (.t 32))⟩, ⟨(some 34), none, (.bin false .sub (.t 33) (.v (.sc (.int .i64 1))))⟩, ⟨(some 2), none, (.mov (.t 34))⟩] 8 (some [0, 1, 3, 0, 8, 31, 63, 127])) (.seq (.seq (.reg [⟨(some 4), none, (.mov (.v (.sc (.int .i64 1))))⟩] 1 none) (.block 0 (.loop k74_l0))) k74_t0)))), [(.t 2), (.t 3)]⟩
theorem k74_eq : (Tryd.prog.funcs[74]?).bind (cmpF Tryd.prog hmS glS 0) = some k74 := by kernel_rfl
def k75_l0 : Y := (.seq (.seq (.reg [⟨(some 12), none, (.fa 0 (.t 2))⟩, ⟨(some 13), none, (.ld none (.t 12))⟩, ⟨(some 14), none, (.bin false .lss (.t 13) (.v (.sc (.int .i64 2199))))⟩, ⟨(some 15), none, (.mov (.t 14))⟩, ⟨(some 16), (some (15, true)), (.fa 0 (.t 2))⟩, ⟨(some 17), (some (15, true)), (.ld none (.t 16))⟩, ⟨(some 18), (some (15, true)), (.bin false .add (.t 17) (.v (.sc (.int .i64 1))))⟩, ⟨(some 19), (some (15, true)), (.pl 95 [(.t 18)])⟩, ⟨(some 20), (some (15, true)), (.mov (.t 0))⟩, ⟨(some 21), (some (15, true)), (.bin false .leq (.t 19) (.t 20))⟩, ⟨(some 22), none, (.pick (.t 15) (.t 21) (.v (.sc (.bool false))))⟩] 11 none) (.cond (.t 22) .skip (.«exit» 0))) (.block 1 (.reg [⟨(some 23), none, (.fa 0 (.t 2))⟩, ⟨(some 24), none, (.ld none (.t 23))⟩, ⟨(some 25), none, (.bin false .add (.t 24) (.v (.sc (.int .i64 1))))⟩, ⟨(some 26), none, (.fa 0 (.t 2))⟩, ⟨none, none, (.sto 1 (.t 26) (.t 25))⟩] 5 none)))
def k75_l1 : Y := (.seq (.seq (.reg [⟨(some 33), none, (.mov (.t 0))⟩, ⟨(some 34), none, (.fa 0 (.t 2))⟩, ⟨(some 35), none, (.ld none (.t 34))⟩, ⟨(some 36), none, (.fa 1 (.t 2))⟩, ⟨(some 37), none, (.ld none (.t 36))⟩, ⟨(some 38), none, (.pl 76 [(.t 35), (.t 37)])⟩, ⟨(some 39), none, (.bin false .geq (.t 33) (.t 38))⟩] 7 none) (.cond (.t 39) .skip (.«exit» 2))) (.block 3 (.seq (.reg [⟨(some 40), none, (.mov (.t 0))⟩, ⟨(some 41), none, (.fa 0 (.t 2))⟩, ⟨(some 42), none, (.ld none (.t 41))⟩, ⟨(some 43), none, (.fa 1 (.t 2))⟩, ⟨(some 44), none, (.ld none (.t 43))⟩, ⟨(some 45), none, (.pl 76 [(.t 42), (.t 44)])⟩, ⟨(some 46), none, (.bin false .sub (.t 40) (.t 45))⟩, ⟨(some 0), none, (.mov (.t 46))⟩] 8 none) (.reg [⟨(some 47), none, (.fa 1 (.t 2))⟩, ⟨(some 48), none, (.ld none (.t 47))⟩, ⟨(some 49), none, (.bin false .add (.t 48) (.v (.sc (.int .i64 1))))⟩, ⟨(some 50), none, (.fa 1 (.t 2))⟩, ⟨none, none, (.sto 1 (.t 50) (.t 49))⟩] 5 none))))
def k75_t0 : Y := (.seq (.reg [⟨(some 51), none, (.mov (.t 0))⟩, ⟨(some 52), none, (.bin false .add (.t 51) (.v (.sc (.int .i64 1))))⟩, ⟨(some 53), none, (.fa 2 (.t 2))⟩, ⟨none, none, (.sto 1 (.t 53) (.t 52))⟩] 4 none) (.seq (.reg [⟨(some 54), none, (.ld (some 3) (.t 2))⟩, ⟨none, none, (.sto 3 (.t 2) (.t 54))⟩, ⟨(some 3), none, (.mov (.v (.sc (.int .i64 0))))⟩] 3 none) .ret))
def k75_t1 : Y := (.seq (.reg [⟨(some 27), none, (.mov (.t 0))⟩, ⟨(some 28), none, (.fa 0 (.t 2))⟩, ⟨(some 29), none, (.ld none (.t 28))⟩, ⟨(some 30), none, (.pl 95 [(.t 29)])⟩, ⟨(some 31), none, (.bin false .sub (.t 27) (.t 30))⟩, ⟨(some 0), none, (.mov (.t 31))⟩] 6 none) (.seq (.reg [⟨(some 32), none, (.fa 1 (.t 2))⟩, ⟨none, none, (.sto 1 (.t 32) (.v (.sc (.int .i64 1))))⟩] 2 none) (.seq (.block 2 (.loop k75_l1)) k75_t0)))
def k75 : KF := ⟨(.seq (.reg [⟨(some 2), none, (.new [(.sc (.int .i64 0)), (.sc (.int .i64 0)), (.sc (.int .i64 0))])⟩, ⟨(some 3), none, (.mov (.v (.sc (.int .i64 0))))⟩] 2 none) (.seq (.seq (.reg [⟨(some 4), none, (.mov (.t 0))⟩, ⟨(some 5), none, (.pl 96 [(.t 4)])⟩, ⟨(some 6), none, (.un .not (.t 5))⟩] 3 none) (.cond (.t 6) (.seq (.reg [⟨(some 7), none, (.build [(0, 1), (1, 1), (2, 1)] [(.sc (.int .i64 0)), (.sc (.int .i64 0)), (.sc (.int .i64 0))] [])⟩, ⟨none, none, (.sto 3 (.t 2) (.t 7))⟩, ⟨(some 3), none, (.mov (.v (.sc (.int .i64 11))))⟩] 3 none) .ret) .skip)) (.seq (.reg [⟨(some 8), none, (.mov (.t 0))⟩, ⟨(some 9), none, (.bin false .quo (.t 8) (.v (.sc (.int .i64 366))))⟩, ⟨(some 10), none, (.bin false .add (.v (.sc (.int .i64 1900))) (.t 9))⟩, ⟨(some 11), none, (.fa 0 (.t 2))⟩, ⟨none, none, (.sto 1 (.t 11) (.t 10))⟩] 5 none) (.seq (.block 0 (.loop k75_l0)) k75_t1)))), [(.c 2 (some 3)), (.t 3)]⟩
theorem k75_eq : (Tryd.prog.funcs[75]?).bind (cmpF Tryd.prog hmS glS 0) = some k75 := by kernel_rfl
def k76 : KF := ⟨(.seq (.reg [⟨(some 4), none, (.mov (.v (.sc (.int .i64 0))))⟩] 1 none) (.seq (.block 0 (.seq (.reg [⟨(some 6), none, (.mov (.t 1))⟩, ⟨(some 7), none, (.bin false .lss (.t 6) (.v (.sc (.int .i64 1))))⟩, ⟨(some 8), none, (.mov (.t 7))⟩, ⟨(some 9), (some (8, false)), (.mov (.t 1))⟩, ⟨(some 10), (some (8, false)), (.bin false .gtr (.t 9) (.v (.sc (.int .i64 12))))⟩, ⟨(some 11), none, (.pick (.t 8) (.v (.sc (.bool true))) (.t 10))⟩, ⟨(some 5), none, (.mov (.t 11))⟩] 7 none) (.cond (.t 5) (.seq (.reg [⟨(some 4), none, (.mov (.v (.sc (.int .i64 0))))⟩] 1 none) .ret) (.seq (.reg [⟨(some 13), none, (.mov (.t 1))⟩, ⟨(some 14), none, (.bin false .eql (.t 13) (.v (.sc (.int .i64 2))))⟩, ⟨(some 15), none, (.mov (.t 14))⟩, ⟨(some 16), (some (15, true)), (.mov (.t 0))⟩, ⟨(some 17), (some (15, true)), (.pl 97 [(.t 16)])⟩, ⟨(some 18), none, (.pick (.t 15) (.t 17) (.v (.sc (.bool false))))⟩, ⟨(some 12), none, (.mov (.t 18))⟩] 7 none) (.cond (.t 12) (.seq (.reg [⟨(some 4), none, (.mov (.v (.sc (.int .i64 29))))⟩] 1 none) .ret) .skip))))) (.seq (.reg [⟨(some 19), none, (.mov (.t 1))⟩, ⟨(some 20), none, (.bin false .sub (.t 19) (.v (.sc (.int .i64 1))))⟩, ⟨(some 21), none, (.ixa 12 1 (.v (.cp [(.sc (.int .i64 31)), (.sc (.int .i64 28)), (.sc (.int .i64 31)), (.sc (.int .i64 30)), (.sc (.int .i64 31)), (.sc (.int .i64 30)), (.sc (.int .i64 31)), (.sc (.int .i64 31)), (.sc (.int .i64 30)), (.sc (.int .i64 31)), (.sc (.int .i64 30)), (.sc (.int .i64 31))])) (.t 20))⟩, ⟨(some 22), none, (.ld none (.t 21))⟩, ⟨(some 4), none, (.mov (.t 22))⟩] 5 none) .ret))), [(.t 4)]⟩
theorem k76_eq : (Tryd.prog.funcs[76]?).bind (cmpF Tryd.prog hmS glS 0) = some k76 := by kernel_rfl
def k88 : KF := ⟨(.seq (.reg [⟨(some 2), none, (.box (.t 0))⟩, ⟨(some 4), none, (.mov (.v (.sc (.bool false))))⟩] 2 none) (.seq (.reg [⟨(some 12), none, (.ld (some 1) (.t 2))⟩, ⟨(some 13), none, (.mov (.t 1))⟩, ⟨(some 14), none, (.pl 63 [(.t 12), (.t 13), (.v (.sc (.int .i64 0)))])⟩, ⟨(some 11), none, (.mov (.t 14))⟩, ⟨(some 15), none, (.ext (.t 11) 0)⟩, ⟨(some 16), none, (.ext (.t 11) 1)⟩, ⟨(some 17), none, (.ext (.t 11) 2)⟩, ⟨(some 5), none, (.mov (.t 15))⟩, ⟨(some 6), none, (.mov (.t 16))⟩, ⟨(some 7), none, (.mov (.t 17))⟩] 10 none) (.seq (.reg [⟨(some 19), none, (.ld (some 1) (.t 2))⟩, ⟨(some 20), none, (.mov (.t 1))⟩, ⟨(some 21), none, (.pl 63 [(.t 19), (.t 20), (.v (.sc (.int .i64 11)))])⟩, ⟨(some 18), none, (.mov (.t 21))⟩, ⟨(some 22), none, (.ext (.t 18) 0)⟩, ⟨(some 23), none, (.ext (.t 18) 1)⟩, ⟨(some 24), none, (.ext (.t 18) 2)⟩, ⟨(some 8), none, (.mov (.t 22))⟩, ⟨(some 9), none, (.mov (.t 23))⟩, ⟨(some 10), none, (.mov (.t 24))⟩] 10 none) (.seq (.reg [⟨(some 25), none, (.mov (.t 7))⟩, ⟨(some 26), none, (.mov (.t 25))⟩, ⟨(some 27), (some (26, true)), (.mov (.t 10))⟩, ⟨(some 28), none, (.pick (.t 26) (.t 27) (.v (.sc (.bool false))))⟩, ⟨(some 4), none, (.mov (.t 28))⟩] 5 none) .ret)))), [(.t 4)]⟩
theorem k88_eq : (Tryd.prog.funcs[88]?).bind (cmpF Tryd.prog hmS glS 0) = some k88 := by kernel_rfl
def k89 : KF := ⟨(.seq (.reg [⟨(some 1), none, (.box (.t 0))⟩, ⟨(some 2), none, (.mov (.v (.sc (.int .i64 0))))⟩, ⟨(some 3), none, (.mov (.v (.sc (.int .i64 0))))⟩] 3 none) (.seq (.seq (.reg [⟨(some 4), none, (.fa 0 (.t 1))⟩, ⟨(some 5), none, (.ld none (.t 4))⟩, ⟨(some 6), none, (.bin false .lss (.t 5) (.v (.sc (.int .i64 1900))))⟩, ⟨(some 7), none, (.mov (.t 6))⟩, ⟨(some 8), (some (7, false)), (.fa 0 (.t 1))⟩, ⟨(some 9), (some (7, false)), (.ld none (.t 8))⟩, ⟨(some 10), (some (7, false)), (.bin false .gtr (.t 9) (.v (.sc (.int .i64 2199))))⟩, ⟨(some 11), none, (.pick (.t 7) (.v (.sc (.bool true))) (.t 10))⟩, ⟨(some 12), none, (.mov (.t 11))⟩, ⟨(some 13), (some (12, false)), (.fa 2 (.t 1))⟩, ⟨(some 14), (some (12, false)), (.ld none (.t 13))⟩, ⟨(some 15), (some (12, false)), (.bin false .lss (.t 14) (.v (.sc (.int .i64 1))))⟩, ⟨(some 16), none, (.pick (.t 12) (.v (.sc (.bool true))) (.t 15))⟩, ⟨(some 17), none, (.mov (.t 16))⟩, ⟨(some 18), (some (17, false)), (.fa 2 (.t 1))⟩, ⟨(some 19), (some (17, false)), (.ld none (.t 18))⟩, ⟨(some 20), (some (17, false)), (.fa 0 (.t 1))⟩, ⟨(some 21), (some (17, false)), (.ld none (.t 20))⟩, ⟨(some 22), (some (17, false)), (.fa 1 (.t 1))⟩, ⟨(some 23), (some (17, false)), (.ld none (.t 22))⟩, ⟨(some 24), (some (17, false)), (.pl 90 [(.t 21), (.t 23)])⟩, ⟨(some 25), (some (17, false)), (.bin false .gtr (.t 19) (.t 24))⟩, ⟨(some 26), none, (.pick (.t 17) (.v (.sc (.bool true))) (.t 25))⟩] 23 (some [0, 1, 3, 7, 15, 31, 63, 127, 255, 511, 1023, 2047, 4095, 8191, 16383, 32767, 16383, 81919, 16383, 278527, 999423, 2097151, 4194303])) (.cond (.t 26) (.seq (.reg [⟨(some 2), none, (.mov (.v (.sc (.int .i64 0))))⟩, ⟨(some 3), none, (.mov (.v (.sc (.int .i64 11))))⟩] 2 none) .ret) .skip)) (.seq (.reg [⟨(some 27), none, (.fa 0 (.t 1))⟩, ⟨(some 28), none, (.ld none (.t 27))⟩, ⟨(some 29), none, (.bin false .sub (.t 28) (.v (.sc (.int .i64 1900))))⟩, ⟨(some 30), none, (.bin false .mul (.t 29) (.v (.sc (.int .i64 12))))⟩, ⟨(some 31), none, (.fa 1 (.t 1))⟩, ⟨(some 32), none, (.ld none (.t 31))⟩, ⟨(some 33), none, (.bin false .add (.t 30) (.t 32))⟩, ⟨(some 34), none, (.bin false .sub (.t 33) (.v (.sc (.int .i64 1))))⟩, ⟨(some 35), none, (.pl 104 [(.t 34)])⟩, ⟨(some 36), none, (.fa 2 (.t 1))⟩, ⟨(some 37), none, (.ld none (.t 36))⟩, ⟨(some 38), none, (.bin false .add (.t 35) (.t 37))⟩, ⟨(some 39), none, (.bin false .sub (.t 38) (.v (.sc (.int .i64 1))))⟩, ⟨(some 2), none, (.mov (.t 39))⟩, ⟨(some 3), none, (.mov (.v (.sc (.int .i64 0))))⟩] 15 (some [0, 1, 3, 7, 0, 16, 63, 127, 255, 0, 512, 2047, 4095, 8191, 16383])) .ret))), [(.t 2), (.t 3)]⟩
theorem k89_eq : (Tryd.prog.funcs[89]?).bind (cmpF Tryd.prog hmS glS 0) = some k89 := by kernel_rfl
def k90 : KF := ⟨(.seq (.reg [⟨(some 4), none, (.mov (.v (.sc (.int .i64 0))))⟩] 1 none) (.seq (.seq (.reg [⟨(some 5), none, (.mov (.t 1))⟩, ⟨(some 6), none, (.bin false .lss (.t 5) (.v (.sc (.int .i64 1))))⟩, ⟨(some 7), none, (.mov (.t 6))⟩, ⟨(some 8), (some (7, false)), (.mov (.t 1))⟩, ⟨(some 9), (some (7, false)), (.bin false .gtr (.t 8) (.v (.sc (.int .i64 12))))⟩, ⟨(some 10), none, (.pick (.t 7) (.v (.sc (.bool true))) (.t 9))⟩] 6 none) (.cond (.t 10) (.seq (.reg [⟨(some 4), none, (.mov (.v (.sc (.int .i64 0))))⟩] 1 none) .ret) .skip)) (.seq (.seq (.reg [⟨(some 11), none, (.mov (.t 1))⟩, ⟨(some 12), none, (.bin false .eql (.t 11) (.v (.sc (.int .i64 2))))⟩, ⟨(some 13), none, (.mov (.t 12))⟩, ⟨(some 14), (some (13, true)), (.mov (.t 0))⟩, ⟨(some 15), (some (13, true)), (.pl 105 [(.t 14)])⟩, ⟨(some 16), none, (.pick (.t 13) (.t 15) (.v (.sc (.bool false))))⟩] 6 none) (.cond (.t 16) (.seq (.reg [⟨(some 4), none, (.mov (.v (.sc (.int .i64 29))))⟩] 1 none) .ret) .skip)) (.seq (.reg [⟨(some 17), none, (.mk 3 1 [(.v (.sc (.int .i64 31))), (.v (.sc (.int .i64 28))), (.v (.sc (.int .i64 31))), (.v (.sc (.int .i64 30))), (.v (.sc (.int .i64 31))), (.v (.sc (.int .i64 30))), (.v (.sc (.int .i64 31))), (.v (.sc (.int .i64 31))), (.v (.sc (.int .i64 30))), (.v (.sc (.int .i64 31))), (.v (.sc (.int .i64 30))), (.v (.sc (.int .i64 31)))])⟩, ⟨(some 18), none, (.mov (.t 1))⟩, ⟨(some 19), none, (.bin false .sub (.t 18) (.v (.sc (.int .i64 1))))⟩, ⟨(some 20), none, (.ixl 3 (.t 17) (.t 19))⟩, ⟨(some 21), none, (.ld none (.t 20))⟩, ⟨(some 4), none, (.mov (.t 21))⟩] 6 none) .ret)))), [(.t 4)]⟩
theorem k90_eq : (Tryd.prog.funcs[90]?).bind (cmpF Tryd.prog hmS glS 0) = some k90 := by kernel_rfl
def k93 : KF := ⟨(.seq (.reg [⟨(some 2), none, (.mov (.v (.sc (.bool false))))⟩] 1 none) (.seq (.reg [⟨(some 3), none, (.mov (.t 0))⟩, ⟨(some 4), none, (.mov (.t 0))⟩, ⟨(some 5), none, (.bin false .neq (.t 3) (.t 4))⟩, ⟨(some 2), none, (.mov (.t 5))⟩] 4 none) .ret)), [(.t 2)]⟩
theorem k93_eq : (Tryd.prog.funcs[93]?).bind (cmpF Tryd.prog hmS glS 0) = some k93 := by kernel_rfl
def k94_l0 : Y := (.seq (.seq (.reg [⟨(some 11), none, (.mov (.t 5))⟩, ⟨(some 12), none, (.mov (.t 4))⟩, ⟨(some 13), none, (.bin false .quo (.t 12) (.v (.sc (.int .i64 12))))⟩, ⟨(some 14), none, (.bin false .add (.v (.sc (.int .i64 1900))) (.t 13))⟩, ⟨(some 15), none, (.mov (.t 4))⟩, ⟨(some 16), none, (.bin false .rem (.t 15) (.v (.sc (.int .i64 12))))⟩, ⟨(some 17), none, (.bin false .add (.t 16) (.v (.sc (.int .i64 1))))⟩, ⟨(some 18), none, (.pl 90 [(.t 14), (.t 17)])⟩, ⟨(some 19), none, (.bin false .geq (.t 11) (.t 18))⟩] 9 none) (.cond (.t 19) .skip (.«exit» 0))) (.block 1 (.seq (.reg [⟨(some 20), none, (.mov (.t 5))⟩, ⟨(some 21), none, (.mov (.t 4))⟩, ⟨(some 22), none, (.bin false .quo (.t 21) (.v (.sc (.int .i64 12))))⟩, ⟨(some 23), none, (.bin false .add (.v (.sc (.int .i64 1900))) (.t 22))⟩, ⟨(some 24), none, (.mov (.t 4))⟩, ⟨(some 25), none, (.bin false .rem (.t 24) (.v (.sc (.int .i64 12))))⟩, ⟨(some 26), none, (.bin false .add (.t 25) (.v (.sc (.int .i64 1))))⟩, ⟨(some 27), none, (.pl 90 [(.t 23), (.t 26)])⟩, ⟨(some 28), none, (.bin false .sub (.t 20) (.t 27))⟩, ⟨(some 5), none, (.mov (.t 28))⟩] 10 none) (.reg [⟨(some 29), none, (.mov (.t 4))⟩, ⟨(some 30), none, (.bin false .add (.t 29) (.v (.sc (.int .i64 1))))⟩, ⟨(some 4), none, (.mov (.t 30))⟩] 3 none))))
def k94_t0 : Y := (.seq (.reg [⟨(some 31), none, (.mov (.t 4))⟩, ⟨(some 32), none, (.bin false .quo (.t 31) (.v (.sc (.int .i64 12))))⟩, ⟨(some 33), none, (.bin false .add (.v (.sc (.int .i64 1900))) (.t 32))⟩, ⟨(some 34), none, (.mov (.t 4))⟩, ⟨(some 35), none, (.bin false .rem (.t 34) (.v (.sc (.int .i64 12))))⟩, ⟨(some 36), none, (.bin false .add (.t 35) (.v (.sc (.int .i64 1))))⟩, ⟨(some 37), none, (.mov (.t 5))⟩, ⟨(some 38), none, (.bin false .add (.t 37) (.v (.sc (.int .i64 1))))⟩, ⟨(some 39), none, (.build [(0, 1), (1, 1), (2, 1)] [(.sc (.int .i64 0)), (.sc (.int .i64 0)), (.sc (.int .i64 0))] [(0, (.t 33)), (1, (.t 36)), (2, (.t 38))])⟩, ⟨none, none, (.sto 3 (.t 2) (.t 39))⟩, ⟨(some 3), none, (.mov (.v (.sc (.int .i64 0))))⟩] 11 none) .ret)
def k94 : KF := ⟨(.seq (.reg [⟨(some 2), none, (.new [(.sc (.int .i64 0)), (.sc (.int .i64 0)), (.sc (.int .i64 0))])⟩, ⟨(some 3), none, (.mov (.v (.sc (.int .i64 0))))⟩] 2 none) (.seq (.seq (.reg [⟨(some 6), none, (.mov (.t 0))⟩, ⟨(some 7), none, (.pl 106 [(.t 6)])⟩, ⟨(some 8), none, (.un .not (.t 7))⟩] 3 none) (.cond (.t 8) (.seq (.reg [⟨(some 9), none, (.build [(0, 1), (1, 1), (2, 1)] [(.sc (.int .i64 0)), (.sc (.int .i64 0)), (.sc (.int .i64 0))] [])⟩, ⟨none, none, (.sto 3 (.t 2) (.t 9))⟩, ⟨(some 3), none, (.mov (.v (.sc (.int .i64 11))))⟩] 3 none) .ret) .skip)) (.seq (.reg [⟨(some 10), none, (.mov (.t 0))⟩, ⟨(some 4), none, (.mov (.v (.sc (.int .i64 0))))⟩, ⟨(some 5), none, (.mov (.t 10))⟩] 3 none) (.seq (.block 0 (.loop k94_l0)) k94_t0)))), [(.c 2 (some 3)), (.t 3)]⟩
theorem k94_eq : (Tryd.prog.funcs[94]?).bind (cmpF Tryd.prog hmS glS 0) = some k94 := by kernel_rfl
def k95 : KF := ⟨(.seq (.reg [⟨(some 2), none, (.mov (.v (.sc (.int .i64 0))))⟩] 1 none) (.seq (.reg [⟨(some 5), none, (.mov (.t 0))⟩, ⟨(some 6), none, (.bin false .sub (.t 5) (.v (.sc (.int .i64 1))))⟩, ⟨(some 3), none, (.mov (.t 6))⟩] 3 none) (.seq (.reg [⟨(some 7), none, (.mov (.t 3))⟩, ⟨(some 8), none, (.bin false .quo (.t 7) (.v (.sc (.int .i64 4))))⟩, ⟨(some 9), none, (.mov (.t 3))⟩, ⟨(some 10), none, (.bin false .quo (.t 9) (.v (.sc (.int .i64 100))))⟩, ⟨(some 11), none, (.bin false .sub (.t 8) (.t 10))⟩, ⟨(some 12), none, (.mov (.t 3))⟩, ⟨(some 13), none, (.bin false .quo (.t 12) (.v (.sc (.int .i64 400))))⟩, ⟨(some 14), none, (.bin false .add (.t 11) (.t 13))⟩, ⟨(some 15), none, (.bin false .sub (.t 14) (.v (.sc (.int .i64 474))))⟩, ⟨(some 16), none, (.bin false .add (.t 15) (.v (.sc (.int .i64 18))))⟩, ⟨(some 17), none, (.bin false .sub (.t 16) (.v (.sc (.int .i64 4))))⟩, ⟨(some 4), none, (.mov (.t 17))⟩] 12 none) (.seq (.reg [⟨(some 18), none, (.mov (.t 0))⟩, ⟨(some 19), none, (.bin false .sub (.t 18) (.v (.sc (.int .i64 1900))))⟩, ⟨(some 20), none, (.bin false .mul (.v (.sc (.int .i64 365))) (.t 19))⟩, ⟨(some 21), none, (.mov (.t 4))⟩, ⟨(some 22), none, (.bin false .add (.t 20) (.t 21))⟩, ⟨(some 2), none, (.mov (.t 22))⟩] 6 none) .ret)))), [(.t 2)]⟩
theorem k95_eq : (Tryd.prog.funcs[95]?).bind (cmpF Tryd.prog hmS glS 0) = some k95 := by kernel_rfl
def k96 : KF := ⟨(.seq (.reg [⟨(some 2), none, (.mov (.v (.sc (.bool false))))⟩] 1 none) (.seq (.reg [⟨(some 3), none, (.mov (.t 0))⟩, ⟨(some 4), none, (.bin false .geq (.t 3) (.v (.sc (.int .i64 0))))⟩, ⟨(some 5), none, (.mov (.t 4))⟩, ⟨(some 6), (some (5, true)), (.mov (.t 0))⟩, ⟨(some 7), (some (5, true)), (.bin false .leq (.t 6) (.v (.sc (.int .i64 109572))))⟩, ⟨(some 8), none, (.pick (.t 5) (.t 7) (.v (.sc (.bool false))))⟩, ⟨(some 2), none, (.mov (.t 8))⟩] 7 none) .ret)), [(.t 2)]⟩
theorem k96_eq : (Tryd.prog.funcs[96]?).bind (cmpF Tryd.prog hmS glS 0) = some k96 := by kernel_rfl
def k97 : KF := ⟨(.seq (.reg [⟨(some 2), none, (.mov (.v (.sc (.bool false))))⟩] 1 none) (.seq (.reg [⟨(some 3), none, (.mov (.t 0))⟩, ⟨(some 4), none, (.bin false .rem (.t 3) (.v (.sc (.int .i64 4))))⟩, ⟨(some 5), none, (.bin false .eql (.t 4) (.v (.sc (.int .i64 0))))⟩, ⟨(some 6), none, (.mov (.t 5))⟩, ⟨(some 7), (some (6, true)), (.mov (.t 0))⟩, ⟨(some 8), (some (6, true)), (.bin false .rem (.t 7) (.v (.sc (.int .i64 100))))⟩, ⟨(some 9), (some (6, true)), (.bin false .neq (.t 8) (.v (.sc (.int .i64 0))))⟩, ⟨(some 10), none, (.pick (.t 6) (.t 9) (.v (.sc (.bool false))))⟩, ⟨(some 11), none, (.mov (.t 10))⟩, ⟨(some 12), (some (11, false)), (.mov (.t 0))⟩, ⟨(some 13), (some (11, false)), (.bin false .rem (.t 12) (.v (.sc (.int .i64 400))))⟩, ⟨(some 14), (some (11, false)), (.bin false .eql (.t 13) (.v (.sc (.int .i64 0))))⟩, ⟨(some 15), none, (.pick (.t 11) (.v (.sc (.bool true))) (.t 14))⟩, ⟨(some 2), none, (.mov (.t 15))⟩] 14 none) .ret)), [(.t 2)]⟩
theorem k97_eq : (Tryd.prog.funcs[97]?).bind (cmpF Tryd.prog hmS glS 0) = some k97 := by kernel_rfl
def k104_l0 : Y := (.seq (.seq (.reg [⟨(some 5), none, (.mov (.t 4))⟩, ⟨(some 6), none, (.mov (.t 0))⟩, ⟨(some 7), none, (.bin false .lss (.t 5) (.t 6))⟩] 3 none) (.cond (.t 7) .skip (.«exit» 0))) (.seq (.block 1 (.reg [⟨(some 10), none, (.mov (.t 3))⟩, ⟨(some 11), none, (.mov (.t 4))⟩, ⟨(some 12), none, (.bin false .quo (.t 11) (.v (.sc (.int .i64 12))))⟩, ⟨(some 13), none, (.bin false .add (.v (.sc (.int .i64 1900))) (.t 12))⟩, ⟨(some 14), none, (.mov (.t 4))⟩, ⟨(some 15), none, (.bin false .rem (.t 14) (.v (.sc (.int .i64 12))))⟩, ⟨(some 16), none, (.bin false .add (.t 15) (.v (.sc (.int .i64 1))))⟩, ⟨(some 17), none, (.pl 90 [(.t 13), (.t 16)])⟩, ⟨(some 18), none, (.bin false .add (.t 10) (.t 17))⟩, ⟨(some 3), none, (.mov (.t 18))⟩] 10 none)) (.reg [⟨(some 8), none, (.mov (.t 4))⟩, ⟨(some 9), none, (.bin false .add (.t 8) (.v (.sc (.int .i64 1))))⟩, ⟨(some 4), none, (.mov (.t 9))⟩] 3 none)))
def k104_t0 : Y := (.seq (.reg [⟨(some 19), none, (.mov (.t 3))⟩, ⟨(some 2), none, (.mov (.t 19))⟩] 2 none) .ret)
def k104 : KF := ⟨(.seq (.reg [⟨(some 2), none, (.mov (.v (.sc (.int .i64 0))))⟩] 1 none) (.seq (.reg [⟨(some 3), none, (.mov (.v (.sc (.int .i64 0))))⟩] 1 none) (.seq (.seq (.reg [⟨(some 4), none, (.mov (.v (.sc (.int .i64 0))))⟩] 1 none) (.block 0 (.loop k104_l0))) k104_t0))), [(.t 2)]⟩
theorem k104_eq : (Tryd.prog.funcs[104]?).bind (cmpF Tryd.prog hmS glS 0) = some k104 := by kernel_rfl
def k105 : KF := ⟨(.seq (.reg [⟨(some 2), none, (.mov (.v (.sc (.bool false))))⟩] 1 none) (.seq (.reg [⟨(some 3), none, (.mov (.t 0))⟩, ⟨(some 4), none, (.bin false .rem (.t 3) (.v (.sc (.int .i64 4))))⟩, ⟨(some 5), none, (.bin false .eql (.t 4) (.v (.sc (.int .i64 0))))⟩, ⟨(some 6), none, (.mov (.t 5))⟩, ⟨(some 7), (some (6, true)), (.mov (.t 0))⟩, ⟨(some 8), (some (6, true)), (.bin false .rem (.t 7) (.v (.sc (.int .i64 100))))⟩, ⟨(some 9), (some (6, true)), (.bin false .neq (.t 8) (.v (.sc (.int .i64 0))))⟩, ⟨(some 10), none, (.pick (.t 6) (.t 9) (.v (.sc (.bool false))))⟩, ⟨(some 11), none, (.mov (.t 10))⟩, ⟨(some 12), (some (11, false)), (.mov (.t 0))⟩, ⟨(some 13), (some (11, false)), (.bin false .rem (.t 12) (.v (.sc (.int .i64 400))))⟩, ⟨(some 14), (some (11, false)), (.bin false .eql (.t 13) (.v (.sc (.int .i64 0))))⟩, ⟨(some 15), none, (.pick (.t 11) (.v (.sc (.bool true))) (.t 14))⟩, ⟨(some 2), none, (.mov (.t 15))⟩] 14 none) .ret)), [(.t 2)]⟩
theorem k105_eq : (Tryd.prog.funcs[105]?).bind (cmpF Tryd.prog hmS glS 0) = some k105 := by kernel_rfl
def k106 : KF := ⟨(.seq (.reg [⟨(some 2), none, (.mov (.v (.sc (.bool false))))⟩] 1 none) (.seq (.reg [⟨(some 3), none, (.mov (.t 0))⟩, ⟨(some 4), none, (.bin false .geq (.t 3) (.v (.sc (.int .i64 0))))⟩, ⟨(some 5), none, (.mov (.t 4))⟩, ⟨(some 6), (some (5, true)), (.mov (.t 0))⟩, ⟨(some 7), (some (5, true)), (.bin false .leq (.t 6) (.v (.sc (.int .i64 109572))))⟩, ⟨(some 8), none, (.pick (.t 5) (.t 7) (.v (.sc (.bool false))))⟩, ⟨(some 2), none, (.mov (.t 8))⟩] 7 none) .ret)), [(.t 2)]⟩
theorem k106_eq : (Tryd.prog.funcs[106]?).bind (cmpF Tryd.prog hmS glS 0) = some k106 := by kernel_rfl
end Go.Proofs.YthgmhlpjbednpaaDoor.Vm
set_option linter.unusedVariables false
set_option linter.unusedSimpArgs false
namespace Go.Proofs.YthgmhlpjbednpaaDoor.Vm
open Go.ChangeShapes Go.WideShapes Go.ChangeAt Go.RowKit
def pw (w : World) : Pr := fun b o => w.cell? ⟨b, o, none⟩
theorem holds_pw {w : World} {a : Addr} {u : Value} (h : w.cell? a = some u) : Holds (pw w) a u := by
  have hs := World.cell?_spot h
  refine ⟨hs, ?_⟩
  obtain ⟨b, o, s⟩ := a
  simp only at hs; subst hs; exact h
def OpV {H : Type} (enc : TypeId × Value → H) (P : Program) {α : Type} (t : TypeId) (en : α → V) (g : α → Prop) : Prop :=
  ∀ {w : World} {base : Nat} {spare : Nat → Bool} {held : Bool} {fuel : Nat} {cs : List Value} {x : DataW H × List MemPlace}, DataW.trod enc P w base spare held fuel t cs = some x → (∀ n ∈ x.1.weights P t, n ≤ reachBytes) → ∃ y : α, RepPs P (pw w) (en y).cells cs ∧ ones (en y).cells = true ∧ g y
section
variable {H : Type} {enc : TypeId × Value → H} {P : Program} {t e : TypeId}
theorem opV_int {k : IntKind} (ht : P.underlying t = some (.int k)) : OpV enc P t (fun n => V.sc (.int k n)) (fun n => (Lit.int k n).wf = true) := by
  intro w base spare held fuel cs x h _
  obtain ⟨n, rfl, _, hw⟩ := DataW.trod_int ht h
  exact ⟨n, .cons (.sc _) .nil, rfl, hw⟩
theorem RepPs.app {p : Pr} {xs ys : List V} {us vs : List Value} (h : RepPs P p xs us) (k : RepPs P p ys vs) : RepPs P p (xs ++ ys) (us ++ vs) := .of (h.all2.append k.all2)
theorem opV_fields {w : World} {base : Nat} {spare : Nat → Bool} {held : Bool} {fuel : Nat} {cs : List Value} {x : DataW H × List MemPlace} {fs : Array Field} (ht : P.underlying t = some (.struct fs)) (h : DataW.trod enc P w base spare held fuel t cs = some x) (hR : ∀ n ∈ x.1.weights P t, n ≤ reachBytes) :
    ∃ n, cs.length = P.cellsOf t ∧ ∀ (i : Nat) (f : Field), fs[i]? = some f → ∃ y, DataW.trod enc P w base spare held n f.type ((cs.drop f.offset).take (P.cellsOf f.type)) = some y ∧ ∀ n ∈ y.1.weights P f.type, n ≤ reachBytes := by
  obtain ⟨xs, n, _, hx0, hl, hx, hf⟩ := DataW.trod_struct ht h
  refine ⟨n, hl, fun i f hi => ?_⟩
  have hil : i < xs.length := by rw [hx]; exact (Array.getElem?_eq_some_iff.1 hi).1
  refine ⟨xs[i], (hf i f hi).trans (List.getElem?_eq_getElem hil), fun n hn => hR n ?_⟩
  rw [hx0]
  simp only [DataW.weights, ht]
  exact DataW.weights_mem_each (ts := fs.toList.map (·.type)) (ds := xs.map (·.1)) (t := f.type) (d := xs[i].1) (j := i) (by rw [List.getElem?_map, Array.getElem?_toList, hi]; rfl) (by rw [List.getElem?_map, List.getElem?_eq_getElem hil]; rfl) n hn
theorem RepPs.step {p : Pr} {cs : List Value} {o n m : Nat} {xs ys : List V} (ha : RepPs P p xs ((cs.drop o).take n)) (hm : m = o + n) (hb : RepPs P p ys (cs.drop m)) : RepPs P p (xs ++ ys) (cs.drop o) := by
  have := ha.app (P := P) hb
  rw [hm, ← List.drop_drop, List.take_append_drop] at this
  exact this
end
theorem RepPs.last {P : Program} {p : Pr} {cs : List Value} {o n : Nat} {xs : List V} (ha : RepPs P p xs ((cs.drop o).take n)) (hl : cs.length ≤ o + n) : RepPs P p xs (cs.drop o) := by
  rwa [List.take_of_length_le (by rw [List.length_drop]; omega)] at ha
end Go.Proofs.YthgmhlpjbednpaaDoor.Vm
set_option maxRecDepth 100000
set_option linter.unusedVariables false
set_option linter.unusedSimpArgs false
namespace Go.Proofs.YthgmhlpjbednpaaDoor.Vm
open Go.ChangeShapes Go.WideShapes Go.ChangeAt Go.RowKit Go.Proofs
theorem progOK : ProgOK Tryd.prog := ⟨by kernel_rfl, by kernel_rfl⟩
theorem gLen : Tryd.prog.globalNamed "accounting/days.lengths" = some 0 := by kernel_rfl
theorem tLen : (Tryd.prog.globals[0]?).map (·.type) = some 137 := by kernel_rfl
def lensT : List Int := [31, 28, 31, 30, 31, 30, 31, 31, 30, 31, 30, 31]
theorem lens_of_laid {W : World} (h : laidMetH Tryd.prog Rows.locksNilRow.laid W) : ∀ (i : Nat) (n : Int), lensT[i]? = some n → W.cell? ⟨0, i, none⟩ = some (.int .i64 n) := by
  rw [MakeChecks.laidMetH_plain _ _ _ (by kernel_rfl)] at h
  obtain ⟨ps, ⟨g0, t0, cs0, f0, p0, q0, hg0, ht0, hv0, hd0, _, _⟩, _, _⟩ := h
  obtain rfl := Option.some.inj (gLen.symm.trans hg0)
  obtain rfl := Option.some.inj (tLen.symm.trans ht0)
  obtain ⟨xs, m1, rfl, hx1, hlen, hn3, hel⟩ := DataW.trod_array Tryd.underlying137 hd0
  have c9 : Tryd.prog.cellsOf 3 = 1 := by kernel_rfl
  have c30 : Tryd.prog.cellsOf 137 = 12 := by kernel_rfl
  rw [c30] at hlen
  intro i s hi
  have hil : i < 12 := (List.getElem?_eq_some_iff.1 hi).1
  have h1 := hel i hil
  rw [c9, Nat.mul_one, List.getElem?_eq_getElem (by omega)] at h1
  obtain ⟨z, e1, e2, _⟩ := DataW.trod_int Tryd.underlying3 h1
  simp only [Prod.mk.injEq] at hx1
  have hd := hx1.1
  have e3 : (Rows.laid_accounting_days_lengths : DataW Unit) = .agg (lensT.map fun s => .lit (.int .i64 s)) := rfl
  have hd2 : (Rows.laid_accounting_days_lengths : DataW Unit) = .agg (xs.map (·.1)) := hd
  rw [e3] at hd2
  injection hd2 with hd2
  have h4 := congrArg (fun l => l[i]?) hd2
  simp only [List.getElem?_map, hi, Option.map_some] at h4
  rw [List.getElem?_eq_getElem (show i < xs.length by omega), Option.map_some, e2] at h4
  have hz : s = z := by
    injection h4 with h4
    injection h4 with h4
    injection h4
  subst hz
  have h5 := World.var?_cell hg0 hv0 i
  have h6 : cs0[i]? = some (.int .i64 s) := by
    have h7 := congrArg List.head? e1
    rw [List.head?_take, if_neg (by decide), List.head?_drop, Array.getElem?_toList] at h7
    exact h7
  rw [h6] at h5
  exact h5
theorem glOK_of {W : World} (h : ∀ (i : Nat) (n : Int), lensT[i]? = some n → W.cell? ⟨0, i, none⟩ = some (.int .i64 n)) : GlOK Tryd.prog glS (pw W) := by
  intro g x hg
  unfold glS at hg
  split at hg
  · rename_i h0
    have h0 : g = 0 := by simpa using h0
    subst h0
    simp only [Option.some.injEq] at hg; subst hg
    refine .cp (vs := lensT.map fun n => .int .i64 n) rfl ?_ ?_
    · intro j u hj
      rw [List.getElem?_map, Option.map_eq_some_iff] at hj
      obtain ⟨n, hn, rfl⟩ := hj
      have := h j n hn
      have e : (⟨0, 0, none⟩ : Addr).add j = ⟨0, j, none⟩ := by simp [Addr.add]; exact fun h => h.symm
      rw [← e] at this
      exact holds_pw this
    · have : ∀ l : List Int, RepPs Tryd.prog (pw W) (l.map V.i64) (l.map fun n => .int .i64 n) := fun l => by
        induction l with
        | nil => exact .nil
        | cons a r ih => exact .cons (.sc _) ih
      exact this lensT
  · cases hg
end Go.Proofs.YthgmhlpjbednpaaDoor.Vm
namespace Go.Proofs.YthgmhlpjbednpaaDoor.Vm
def encPer (p : Int × Int) : V := .agg [.i64 p.1, .i64 p.2]
def encCal (c : Int) : V := .agg [.i64 c]
structure Op where
  act : Int
  ent : ByteArray
  usr : ByteArray
end Go.Proofs.YthgmhlpjbednpaaDoor.Vm
set_option linter.unusedVariables false
set_option linter.unusedSimpArgs false
namespace Go.Proofs.YthgmhlpjbednpaaDoor.Vm
open Go.ChangeShapes Go.WideShapes Go.ChangeAt Go.RowKit Go.Proofs
def wfI (n : Int) : Prop := (Lit.int .i64 n).wf = true
section
variable {H : Type} {enc : TypeId × Value → H}
theorem opPer : OpV enc Tryd.prog 25 encPer (fun p => wfI p.1 ∧ wfI p.2) := by
  intro w base spare held fuel cs x h hR
  obtain ⟨n, hl, hf⟩ := opV_fields Tryd.underlying25 h hR
  have hl : cs.length = 2 := hl.trans (by kernel_rfl)
  obtain ⟨y0, t0, w0⟩ := hf 0 _ rfl
  obtain ⟨x0, K0, o0, g0⟩ := opV_int Tryd.underlying3 t0 w0
  obtain ⟨y1, t1, w1⟩ := hf 1 _ rfl
  obtain ⟨x1, K1, o1, g1⟩ := opV_int Tryd.underlying3 t1 w1
  refine ⟨(x0, x1), ?_, rfl, g0, g1⟩
  exact RepPs.step (o := 0) (m := 1) K0 (by kernel_rfl) (RepPs.last K1 (by rw [hl]; exact Nat.le_of_eq (by kernel_rfl)))
theorem opCal : OpV enc Tryd.prog 23 encCal wfI := by
  intro w base spare held fuel cs x h hR
  obtain ⟨n, hl, hf⟩ := opV_fields Tryd.underlying23 h hR
  have hl : cs.length = 1 := hl.trans (by kernel_rfl)
  obtain ⟨y0, t0, w0⟩ := hf 0 _ rfl
  obtain ⟨x0, K0, o0, g0⟩ := opV_int Tryd.underlying3 t0 w0
  refine ⟨x0, ?_, rfl, g0⟩
  exact RepPs.last (o := 0) K0 (by rw [hl]; exact Nat.le_of_eq (by kernel_rfl))
end
section
variable {H : Type} {enc : TypeId × Value → H}
end
end Go.Proofs.YthgmhlpjbednpaaDoor.Vm
set_option maxRecDepth 100000
namespace Go.Proofs.YthgmhlpjbednpaaDoor.Vm
open Go Go.Proofs Go.Shelf
def ren190 : Go.Shelf.Ren := ⟨fun | 190 => 31 | 125 => 61 | 258 => 60 | 128 => 86 | 129 => 87 | 302 => 77 | 303 => 78 | 304 => 79 | 305 => 80 | 306 => 81 | 307 => 82 | 308 => 83 | 309 => 84 | 310 => 85 | 333 => 98 | 329 => 99 | 330 => 100 | 334 => 101 | 335 => 102 | 336 => 103 | 344 => 107 | n => n, fun | 31 => 26 | 9 => 9 | 3 => 3 | 46 => 102 | 0 => 0 | 51 => 126 | 53 => 128 | 4 => 4 | 183 => 119 | 182 => 118 | 131 => 94 | 5 => 5 | 218 => 138 | 222 => 142 | 228 => 145 | 229 => 130 | n => n, fun n => n⟩
theorem lays190 : Lays.n190 Tryd.prog ren190 := {
  mixed := by kernel_rfl,
  f125 := Tryd.func61.trans (congrArg some (by kernel_rfl)),
  f128 := Tryd.func86.trans (congrArg some (by kernel_rfl)),
  f129 := Tryd.func87.trans (congrArg some (by kernel_rfl)),
  f190 := Tryd.func31.trans (congrArg some (by kernel_rfl)),
  f258 := Tryd.func60.trans (congrArg some (by kernel_rfl)),
  f302 := Tryd.func77.trans (congrArg some (by kernel_rfl)),
  f303 := Tryd.func78.trans (congrArg some (by kernel_rfl)),
  f304 := Tryd.func79.trans (congrArg some (by kernel_rfl)),
  f305 := Tryd.func80.trans (congrArg some (by kernel_rfl)),
  f306 := Tryd.func81.trans (congrArg some (by kernel_rfl)),
  f307 := Tryd.func82.trans (congrArg some (by kernel_rfl)),
  f308 := Tryd.func83.trans (congrArg some (by kernel_rfl)),
  f309 := Tryd.func84.trans (congrArg some (by kernel_rfl)),
  f310 := Tryd.func85.trans (congrArg some (by kernel_rfl)),
  f329 := Tryd.func99.trans (congrArg some (by kernel_rfl)),
  f330 := Tryd.func100.trans (congrArg some (by kernel_rfl)),
  f333 := Tryd.func98.trans (congrArg some (by kernel_rfl)),
  f334 := Tryd.func101.trans (congrArg some (by kernel_rfl)),
  f335 := Tryd.func102.trans (congrArg some (by kernel_rfl)),
  f336 := Tryd.func103.trans (congrArg some (by kernel_rfl)),
  f344 := Tryd.func107.trans (congrArg some (by kernel_rfl)),
  t0 := Tryd.underlying0,
  a0 := Tryd.isAgg0,
  z0 := Tryd.sizeOf0,
  v0 := Tryd.zeroValue0,
  t3 := Tryd.underlying3,
  a3 := Tryd.isAgg3,
  z3 := Tryd.sizeOf3,
  v3 := Tryd.zeroValue3,
  t4 := Tryd.underlying4,
  a4 := Tryd.isAgg4,
  z4 := Tryd.sizeOf4,
  v4 := Tryd.zeroValue4,
  t5 := Tryd.underlying5,
  a5 := Tryd.isAgg5,
  z5 := Tryd.sizeOf5,
  v5 := Tryd.zeroValue5,
  t9 := Tryd.underlying9,
  a9 := Tryd.isAgg9,
  z9 := Tryd.sizeOf9,
  v9 := Tryd.zeroValue9,
  t31 := Tryd.underlying26,
  a31 := Tryd.isAgg26,
  z31 := Tryd.sizeOf26,
  v31 := Tryd.zeroValue26,
  t46 := Tryd.underlying102,
  a46 := Tryd.isAgg102,
  z46 := Tryd.sizeOf102,
  v46 := Tryd.zeroValue102,
  t51 := Tryd.underlying126,
  a51 := Tryd.isAgg126,
  z51 := Tryd.sizeOf126,
  v51 := Tryd.zeroValue126,
  t53 := Tryd.underlying128,
  a53 := Tryd.isAgg128,
  z53 := Tryd.sizeOf128,
  v53 := Tryd.zeroValue128,
  t131 := Tryd.underlying94,
  a131 := Tryd.isAgg94,
  z131 := Tryd.sizeOf94,
  v131 := Tryd.zeroValue94,
  t182 := Tryd.underlying118,
  a182 := Tryd.isAgg118,
  z182 := Tryd.sizeOf118,
  v182 := Tryd.zeroValue118,
  t183 := Tryd.underlying119,
  a183 := Tryd.isAgg119,
  z183 := Tryd.sizeOf119,
  v183 := Tryd.zeroValue119,
  t218 := Tryd.underlying138,
  a218 := Tryd.isAgg138,
  z218 := Tryd.sizeOf138,
  v218 := Tryd.zeroValue138,
  t222 := Tryd.underlying142,
  a222 := Tryd.isAgg142,
  z222 := Tryd.sizeOf142,
  v222 := Tryd.zeroValue142,
  t228 := Tryd.underlying145,
  a228 := Tryd.isAgg145,
  z228 := Tryd.sizeOf145,
  v228 := Tryd.zeroValue145,
  t229 := Tryd.underlying130,
  a229 := Tryd.isAgg130,
  z229 := Tryd.sizeOf130,
  v229 := Tryd.zeroValue130 }
end Go.Proofs.YthgmhlpjbednpaaDoor.Vm
namespace Go.Proofs.YthgmhlpjbednpaaDoor.Vm
open Go Go.Proofs
theorem extS_ok : ExtOK Tryd.prog glS extS := by
  refine ⟨fun f g h => (by cases h), fun f g h xs st nx r hx G vs w hgl hinv has h8 hfr => ?_⟩
  simp only [extS] at h
  split at h
  · rename_i hf
    have hf : f = 31 := by simpa using hf
    subst hf
    obtain rfl := Option.some.inj h
    exact xsort_ok lays190 hx hinv has
  · cases h
end Go.Proofs.YthgmhlpjbednpaaDoor.Vm
set_option linter.unusedVariables false
namespace Go.Proofs.YthgmhlpjbednpaaDoor.Vm
open Go.RowKit
def cunr (P : Program) (E : Env) (b : Y) (Q : Ex → Fr → Prop) (e : Ex) (fr : Fr) : Prop := e.cs (wc P E (.loop b) Q fr) (Q e fr)
theorem cunr_n {P : Program} {E : Env} {Q : Ex → Fr → Prop} {fr : Fr} (b : Y) : cunr P E b Q .norm fr = wc P E (.loop b) Q fr := rfl
theorem cunr_x {P : Program} {E : Env} {Q : Ex → Fr → Prop} {fr : Fr} (b : Y) (id : Nat) : cunr P E b Q (.exit id) fr = Q (.exit id) fr := rfl
theorem cunr_r {P : Program} {E : Env} {Q : Ex → Fr → Prop} {fr : Fr} (b : Y) : cunr P E b Q .ret fr = Q .ret fr := rfl
theorem cunr_p {P : Program} {E : Env} {Q : Ex → Fr → Prop} {fr : Fr} (b : Y) (v : V) : cunr P E b Q (.pan v) fr = Q (.pan v) fr := rfl
theorem loop_u {P : Program} {E : Env} {Q : Ex → Fr → Prop} {fr : Fr} {b b' : Y} (hb : b = b') (h : wc P E b' (cunr P E b Q) fr) : wc P E (.loop b) Q fr := by
  subst hb
  obtain ⟨e, fr', h1, h2⟩ := wc_ok h
  show WX (loopL (zcode P E b) fr) Q
  rw [loopL_eq, h1]
  cases e with
  | norm => exact h2
  | «exit» j => exact ⟨_, _, rfl, h2⟩
  | ret => exact ⟨_, _, rfl, h2⟩
  | pan v => exact ⟨_, _, rfl, h2⟩
theorem W_hp {o : Option HR} {D : HR → Prop} {C : R → Prop} (h : W o D) (k : ∀ r, D r → W (match some r with | some (.ret v st' n) => some (R.big v st' n) | some (.pan v st' n) => some (.bpan v st' n) | none => none) C) : W (match o with | some (.ret v st' n) => some (R.big v st' n) | some (.pan v st' n) => some (.bpan v st' n) | none => none) C := by
  obtain ⟨r, rfl, hd⟩ := h; exact k r hd
end Go.Proofs.YthgmhlpjbednpaaDoor.Vm
set_option maxRecDepth 10000
set_option linter.unusedVariables false
set_option linter.unusedSimpArgs false
namespace Go.Proofs.YthgmhlpjbednpaaDoor.Vm
open Go Go.Proofs
abbrev u8 (b : UInt8) : V := .sc (.int .u8 b.toNat)
def isLet (b : UInt8) : Bool := (decide (97 ≤ b.toNat) && decide (b.toNat ≤ 122)) || (decide (65 ≤ b.toNat) && decide (b.toNat ≤ 90)) || decide (b.toNat = 95)
def isDig (b : UInt8) : Bool := decide (48 ≤ b.toNat) && decide (b.toNat ≤ 57)
def isCh (b : UInt8) : Bool := isLet b || isDig b
def codeS (s : ByteArray) : Bool := decide (1 ≤ s.size) && decide (s.size ≤ 12) && s.data.toList.all isCh
theorem size_zero {s : ByteArray} : s = ByteArray.mk #[] ↔ s.size = 0 := by
  constructor
  · rintro rfl; rfl
  · intro h
    apply ba_inj
    have : s.data.toList.length = 0 := by simpa using h
    exact List.length_eq_zero_iff.mp this
theorem letter_ok (b : UInt8) : L.pl 58 [u8 b] = some (.ret (.bool (isLet b))) := by
  refine W_of (pl_w k58_eq ?_)
  simp only [k58]
  repeat' (first | (simp -implicitDefEqProofs only [ze, zd, simprocAttr]) | (with_reducible refine wgd_cases ?_ ?_ <;> intro hb) | (with_reducible refine wcond_cases ?_ ?_ <;> intro hb) | (with_reducible refine qd_i (by kernel_rfl) ?_) | (with_reducible refine W_itn_cases ?_ ?_; omega))
  all_goals (refine ret_b (Bool.eq_iff_iff.mpr ?_); simp_all [isLet]; try omega)
theorem digit_ok (b : UInt8) : L.pl 59 [u8 b] = some (.ret (.bool (isDig b))) := by
  refine W_of (pl_w k59_eq ?_)
  simp only [k59]
  repeat' (first | (simp -implicitDefEqProofs only [ze, zd, simprocAttr]) | (with_reducible refine wgd_cases ?_ ?_ <;> intro hb) | (with_reducible refine wcond_cases ?_ ?_ <;> intro hb) | (with_reducible refine qd_i (by kernel_rfl) ?_) | (with_reducible refine W_itn_cases ?_ ?_; omega))
  all_goals (refine ret_b (Bool.eq_iff_iff.mpr ?_); simp_all [isDig]; try omega)
theorem ch_ok (b : UInt8) : L.pl 57 [u8 b] = some (.ret (.bool (isCh b))) := by
  refine W_of (pl_w k57_eq ?_)
  simp only [k57]
  repeat' (first | (simp -implicitDefEqProofs only [ze, zd, simprocAttr, letter_ok, digit_ok]) | (with_reducible refine wgd_cases ?_ ?_ <;> intro hb) | (with_reducible refine wcond_cases ?_ ?_ <;> intro hb) | (with_reducible refine qd_i (by kernel_rfl) ?_) | (with_reducible refine W_itn_cases ?_ ?_; omega))
  all_goals (refine ret_b ?_; simp_all [isCh])
theorem every_ok (g : FuncId) (p : UInt8 → Bool) (hn : nobody Tryd.prog g = false) (hh : isM (L.hm g) = false) (hg : ∀ b, L.pl g [u8 b] = some (.ret (.bool (p b)))) (s : ByteArray) (hs : s.size < 4611686018427387904) : L.pl 56 [.str s, .fn (.func g) [] []] = some (.ret (.bool (s.data.toList.all p))) := by
  refine W_of (pl_w k56_eq ?_)
  simp only [k56, k56_t0]
  repeat' (first | (simp -implicitDefEqProofs only [ze, zd, simprocAttr]) | (with_reducible refine wgd_cases ?_ ?_ <;> intro hb) | (with_reducible refine wcond_cases ?_ ?_ <;> intro hb) | (with_reducible refine qd_i (by kernel_rfl) ?_) | (with_reducible refine W_itn_cases ?_ ?_; omega))
  refine loop_w (fun n tm st nx => ∃ i : Nat, n = s.size - i ∧ i ≤ s.size ∧ tm 8 = .i64 i ∧ tm 7 = .i64 s.size ∧ tm 0 = .str s ∧ tm 1 = .fn (.func g) [] [] ∧ ∀ j, j < i → ∀ b, s.data.toList[j]? = some b → p b = true) s.size ⟨0, by omega, by omega, ?_, ?_, ?_, ?_, by omega⟩ ?_
  · simp -implicitDefEqProofs only [ze, zd, simprocAttr]; try rfl
  · simp -implicitDefEqProofs only [ze, zd, simprocAttr]
  · simp -implicitDefEqProofs only [ze, zd, simprocAttr]
  · simp -implicitDefEqProofs only [ze, zd, simprocAttr]
  · rintro n tm st nx ⟨i, hi, hi2, h8, h7, h0, h1, hp⟩
    simp only [k56_l0]
    repeat' (first | (simp -implicitDefEqProofs only [ze, zd, simprocAttr, h8, h7, h0, h1]) | (with_reducible refine wgd_cases ?_ ?_ <;> intro hb) | (with_reducible refine wcond_cases ?_ ?_ <;> intro hb) | (with_reducible refine qd_i (by kernel_rfl) ?_) | (with_reducible refine W_itn_cases ?_ ?_; omega))
    · have hlt : i < s.size := by simpa using hb
      obtain ⟨b, hb2⟩ := get_lt (l := s.data.toList) (i := i) (by simpa using hlt)
      repeat' (first | (simp -implicitDefEqProofs only [ze, zd, simprocAttr, hb2, xcall_pl hn hh, hg b, h8, h7, h0, h1]) | (with_reducible refine wgd_cases ?_ ?_ <;> intro hb) | (with_reducible refine wcond_cases ?_ ?_ <;> intro hb) | (with_reducible refine qd_i (by kernel_rfl) ?_) | (with_reducible refine W_itn_cases ?_ ?_; omega))
      · refine ret_b (all_not hb2 (by simpa using hb)).symm
      · have hpb := hb
        refine ⟨s.size - (i + 1), by omega, i + 1, rfl, by omega, up64 (by omega), fun j hj c hc => ?_⟩
        rcases Nat.lt_succ_iff_lt_or_eq.mp hj with h | rfl
        · exact hp j h c hc
        · rw [hb2] at hc; obtain rfl := Option.some.inj hc; simpa using hpb
    · have hlt : ¬ i < s.size := by simpa using hb
      exact ret_b (all_get fun j hj => hp j (by have := hj; simp at this; omega)).symm
theorem code_ok (s : ByteArray) : L.pl 30 [.str s] = some (.ret (.bool (codeS s))) := by
  refine W_of (pl_w k30_eq ?_)
  simp only [k30]
  repeat' (first | (simp -implicitDefEqProofs only [ze, zd, simprocAttr]) | (with_reducible refine wgd_cases ?_ ?_ <;> intro hb) | (with_reducible refine wcond_cases ?_ ?_ <;> intro hb) | (with_reducible refine qd_i (by kernel_rfl) ?_) | (with_reducible refine W_itn_cases ?_ ?_; omega))
  · rename_i h0
    have hlt : s.size ≤ 12 := by simp only [decide_eq_true_eq] at hb; omega
    have h1 : 1 ≤ s.size := by simp only [size_zero, Bool.not_eq_true', decide_eq_false_iff_not] at h0; omega
    repeat' (first | (simp -implicitDefEqProofs only [ze, zd, simprocAttr, every_ok 57 isCh (by kernel_rfl) rfl ch_ok s (by omega)]) | (with_reducible refine wgd_cases ?_ ?_ <;> intro hb) | (with_reducible refine wcond_cases ?_ ?_ <;> intro hb) | (with_reducible refine qd_i (by kernel_rfl) ?_) | (with_reducible refine W_itn_cases ?_ ?_; omega))
    refine ret_b ?_; simp [codeS, hlt, h1]
  · have hlt : ¬ s.size ≤ 12 := by simp only [decide_eq_false_iff_not] at hb; omega
    refine ret_b ?_; simp [codeS, hlt]
  · have h1 : s.size = 0 := by simpa [size_zero] using hb
    refine ret_b ?_; simp [codeS, h1]
theorem rletter_ok (b : UInt8) : L.pl 64 [u8 b] = some (.ret (.bool (isLet b))) := by
  refine W_of (pl_w k64_eq ?_)
  simp only [k64]
  repeat' (first | (simp -implicitDefEqProofs only [ze, zd, simprocAttr]) | (with_reducible refine wgd_cases ?_ ?_ <;> intro hb) | (with_reducible refine wcond_cases ?_ ?_ <;> intro hb) | (with_reducible refine qd_i (by kernel_rfl) ?_) | (with_reducible refine W_itn_cases ?_ ?_; omega))
  all_goals (refine ret_b (Bool.eq_iff_iff.mpr ?_); simp_all [isLet]; try omega)
theorem rdigit_ok (b : UInt8) : L.pl 65 [u8 b] = some (.ret (.bool (isDig b))) := by
  refine W_of (pl_w k65_eq ?_)
  simp only [k65]
  repeat' (first | (simp -implicitDefEqProofs only [ze, zd, simprocAttr]) | (with_reducible refine wgd_cases ?_ ?_ <;> intro hb) | (with_reducible refine wcond_cases ?_ ?_ <;> intro hb) | (with_reducible refine qd_i (by kernel_rfl) ?_) | (with_reducible refine W_itn_cases ?_ ?_; omega))
  all_goals (refine ret_b (Bool.eq_iff_iff.mpr ?_); simp_all [isDig]; try omega)
theorem rcode_ok (s : ByteArray) (hs : s.size < 4611686018427387904) : L.pl 34 [.str s] = some (.ret (.bool (codeS s))) := by
  refine W_of (pl_w k34_eq ?_)
  simp only [k34, k34_t0]
  repeat' (first | (simp -implicitDefEqProofs only [ze, zd, simprocAttr]) | (with_reducible refine wgd_cases ?_ ?_ <;> intro hb) | (with_reducible refine wcond_cases ?_ ?_ <;> intro hb) | (with_reducible refine qd_i (by kernel_rfl) ?_) | (with_reducible refine W_itn_cases ?_ ?_; omega))
  refine loop_w (fun n tm st nx => ∃ i : Nat, n = s.size - i ∧ i ≤ s.size ∧ tm 3 = .i64 i ∧ tm 0 = .str s ∧ ∀ j, j < i → ∀ b, s.data.toList[j]? = some b → isCh b = true) s.size ⟨0, by omega, by omega, ?_, ?_, by omega⟩ ?_
  · simp -implicitDefEqProofs only [ze, zd, simprocAttr]; try rfl
  · simp -implicitDefEqProofs only [ze, zd, simprocAttr]
  · rintro n tm st nx ⟨i, hi, hi2, h3, h0, hp⟩
    simp only [k34_l0]
    repeat' (first | (simp -implicitDefEqProofs only [ze, zd, simprocAttr, h3, h0]) | (with_reducible refine wgd_cases ?_ ?_ <;> intro hb) | (with_reducible refine wcond_cases ?_ ?_ <;> intro hb) | (with_reducible refine qd_i (by kernel_rfl) ?_) | (with_reducible refine W_itn_cases ?_ ?_; omega))
    · have hlt : i < s.size := by simpa using hb
      obtain ⟨b, hb2⟩ := get_lt (l := s.data.toList) (i := i) (by simpa using hlt)
      have hno : isCh b = false → codeS s = false := fun h => by simp [codeS, all_not hb2 h]
      have hup : isCh b = true → ∃ m, m < n ∧ ∃ i' : Nat, m = s.size - i' ∧ i' ≤ s.size ∧ V.sc (.int .i64 (IntKind.i64.wrap (i + 1))) = .i64 i' ∧ ∀ j, j < i' → ∀ b, s.data.toList[j]? = some b → isCh b = true := fun hpb => by
        refine ⟨s.size - (i + 1), by omega, i + 1, rfl, by omega, up64 (by omega), fun j hj c hc => ?_⟩
        rcases Nat.lt_succ_iff_lt_or_eq.mp hj with h | rfl
        · exact hp j h c hc
        · rw [hb2] at hc; obtain rfl := Option.some.inj hc; exact hpb
      repeat' (first | (simp -implicitDefEqProofs only [ze, zd, simprocAttr, hb2, h3, h0, rletter_ok, rdigit_ok]) | (with_reducible refine wgd_cases ?_ ?_ <;> intro hb) | (with_reducible refine wcond_cases ?_ ?_ <;> intro hb) | (with_reducible refine qd_i (by kernel_rfl) ?_) | (with_reducible refine W_itn_cases ?_ ?_; omega))
      · rename_i h1
        exact ret_b (hno (by simp_all [isCh])).symm
      · exact hup (by simp_all [isCh])
      · exact hup (by simp_all [isCh])
    · rename_i hi3
      have hlt : ¬ i < s.size := by simpa using hi3
      have ha := all_get (l := s.data.toList) (p := isCh) fun j hj => hp j (by have := hj; simp at this; omega)
      refine ret_b (Bool.eq_iff_iff.mpr ?_); simp only [decide_eq_true_eq] at hb; simp only [codeS, ha, Bool.and_true, Bool.and_eq_true, decide_eq_true_eq]; omega
    · refine ret_b (Bool.eq_iff_iff.mpr ?_); simp only [decide_eq_false_iff_not] at hb; simp only [codeS, Bool.and_eq_true, decide_eq_true_eq, Bool.false_eq_true, false_iff]; rintro ⟨⟨h1, h2⟩, _⟩; omega
end Go.Proofs.YthgmhlpjbednpaaDoor.Vm
set_option maxRecDepth 10000
set_option linter.unusedVariables false
set_option linter.unusedSimpArgs false
namespace Go.Proofs.YthgmhlpjbednpaaDoor.Vm
open Go Go.Proofs
structure Tag where
  n : ByteArray
  v : ByteArray
def small (s : ByteArray) : Prop := s.size < 4611686018427387904
end Go.Proofs.YthgmhlpjbednpaaDoor.Vm
set_option maxRecDepth 10000
set_option linter.unusedVariables false
set_option linter.unusedSimpArgs false
namespace Go.Proofs.YthgmhlpjbednpaaDoor.Vm
open Go Go.Proofs
structure Line where
  acc : ByteArray
  cur : ByteArray
  amt : Int
  base : Int
  par : ByteArray
  pty : ByteArray
  tags : List Tag
  tr : Bool
structure smallL (l : Line) : Prop where
  acc : small l.acc
  cur : small l.cur
  par : small l.par
  pty : small l.pty
  tags : ∀ t ∈ l.tags, small t.n ∧ small t.v
  len : l.tags.length < 4611686018427387904
  nil : l.tr = true → l.tags = []
theorem ret_i {x y : Int} (h : x = y) : CR.ret (.sc (.int .i64 x)) = .ret (V.i64 y) := by rw [h]
end Go.Proofs.YthgmhlpjbednpaaDoor.Vm
set_option maxRecDepth 10000
set_option linter.unusedVariables false
set_option linter.unusedSimpArgs false
namespace Go.Proofs.YthgmhlpjbednpaaDoor.Vm
open Go Go.Proofs
def dayS (n : Int) : Bool := decide (0 ≤ n) && decide (n ≤ 109572)
def leapZ (y : Int) : Bool := (decide (y % 4 = 0) && !decide (y % 100 = 0)) || decide (y % 400 = 0)
def befZ (y : Int) : Int := 365 * (y - 1900) + ((y - 1) / 4 - (y - 1) / 100 + (y - 1) / 400 - 474 + 18 - 4)
def lp (y : Int) : Int := if leapZ y then 1 else 0
def lenM (y : Int) : Nat → Int
  | 1 => 31 | 2 => 28 + lp y | 3 => 31 | 4 => 30 | 5 => 31 | 6 => 30 | 7 => 31 | 8 => 31 | 9 => 30 | 10 => 31 | 11 => 30 | 12 => 31 | _ => 0
theorem lp_le (y : Int) : 0 ≤ lp y ∧ lp y ≤ 1 := by unfold lp; split <;> omega
theorem bef_next (y : Int) (h : 1900 ≤ y) : befZ (y + 1) = befZ y + 365 + lp y := by
  unfold lp
  cases hl : leapZ y with
  | true =>
    simp only [leapZ, Bool.or_eq_true, Bool.and_eq_true, decide_eq_true_eq, Bool.not_eq_true', decide_eq_false_iff_not] at hl
    simp only [befZ, if_true]; omega
  | false =>
    simp only [leapZ, Bool.or_eq_false_iff, Bool.and_eq_false_iff, decide_eq_false_iff_not, Bool.not_eq_false', decide_eq_true_eq] at hl
    simp only [befZ, Bool.false_eq_true, if_false]; omega
theorem is_ok (n : Int) : L.pl 96 [.i64 n] = some (.ret (.bool (dayS n))) := by
  refine W_of (pl_w k96_eq ?_)
  simp only [k96]
  repeat' (first | (simp -implicitDefEqProofs only [ze, zd, simprocAttr]) | (with_reducible refine wgd_cases ?_ ?_ <;> intro hb) | (with_reducible refine wcond_cases ?_ ?_ <;> intro hb) | (with_reducible refine qd_i (by kernel_rfl) ?_) | (with_reducible refine W_itn_cases ?_ ?_; omega))
  all_goals (refine ret_b (Bool.eq_iff_iff.mpr ?_); simp_all [dayS]; try omega)
theorem leap_ok (y : Int) (h : 1900 ≤ y) : L.pl 97 [.i64 y] = some (.ret (.bool (leapZ y))) := by
  refine W_of (pl_w k97_eq ?_)
  simp only [k97]
  have h4 : y.tmod 4 = y % 4 := Int.tmod_eq_emod_of_nonneg (by omega)
  have h100 : y.tmod 100 = y % 100 := Int.tmod_eq_emod_of_nonneg (by omega)
  have h400 : y.tmod 400 = y % 400 := Int.tmod_eq_emod_of_nonneg (by omega)
  repeat' (first | (simp -implicitDefEqProofs only [ze, zd, simprocAttr, h4, h100, h400]) | (with_reducible refine wgd_cases ?_ ?_ <;> intro hb) | (with_reducible refine wcond_cases ?_ ?_ <;> intro hb) | (with_reducible refine qd_i (by kernel_rfl) ?_) | (with_reducible refine W_itn_cases ?_ ?_; omega))
  all_goals (refine ret_b ?_; simp_all [leapZ])
theorem before_ok (y : Int) (h : 1900 ≤ y) (h2 : y ≤ 2200) : L.pl 95 [.i64 y] = some (.ret (.i64 (befZ y))) := by
  refine W_of (pl_w k95_eq ?_)
  simp only [k95]
  have w1 : IntKind.i64.wrap (y - 1) = y - 1 := wrap_i64 (by omega) (by omega)
  have d4 : (y - 1).tdiv 4 = (y - 1) / 4 := Int.tdiv_eq_ediv_of_nonneg (by omega)
  have d100 : (y - 1).tdiv 100 = (y - 1) / 100 := Int.tdiv_eq_ediv_of_nonneg (by omega)
  have d400 : (y - 1).tdiv 400 = (y - 1) / 400 := Int.tdiv_eq_ediv_of_nonneg (by omega)
  have w2 : IntKind.i64.wrap ((y - 1) / 4) = (y - 1) / 4 := wrap_i64 (by omega) (by omega)
  have w3 : IntKind.i64.wrap ((y - 1) / 100) = (y - 1) / 100 := wrap_i64 (by omega) (by omega)
  have w4 : IntKind.i64.wrap ((y - 1) / 400) = (y - 1) / 400 := wrap_i64 (by omega) (by omega)
  have w5 : IntKind.i64.wrap ((y - 1) / 4 - (y - 1) / 100) = (y - 1) / 4 - (y - 1) / 100 := wrap_i64 (by omega) (by omega)
  have w6 : IntKind.i64.wrap ((y - 1) / 4 - (y - 1) / 100 + (y - 1) / 400) = (y - 1) / 4 - (y - 1) / 100 + (y - 1) / 400 := wrap_i64 (by omega) (by omega)
  have w7 : IntKind.i64.wrap ((y - 1) / 4 - (y - 1) / 100 + (y - 1) / 400 - 474) = (y - 1) / 4 - (y - 1) / 100 + (y - 1) / 400 - 474 := wrap_i64 (by omega) (by omega)
  have w8 : IntKind.i64.wrap ((y - 1) / 4 - (y - 1) / 100 + (y - 1) / 400 - 474 + 18) = (y - 1) / 4 - (y - 1) / 100 + (y - 1) / 400 - 474 + 18 := wrap_i64 (by omega) (by omega)
  have w9 : IntKind.i64.wrap ((y - 1) / 4 - (y - 1) / 100 + (y - 1) / 400 - 474 + 18 - 4) = (y - 1) / 4 - (y - 1) / 100 + (y - 1) / 400 - 474 + 18 - 4 := wrap_i64 (by omega) (by omega)
  have w10 : IntKind.i64.wrap (y - 1900) = y - 1900 := wrap_i64 (by omega) (by omega)
  have w11 : IntKind.i64.wrap (365 * (y - 1900)) = 365 * (y - 1900) := wrap_i64 (by omega) (by omega)
  have w12 : IntKind.i64.wrap (365 * (y - 1900) + ((y - 1) / 4 - (y - 1) / 100 + (y - 1) / 400 - 474 + 18 - 4)) = 365 * (y - 1900) + ((y - 1) / 4 - (y - 1) / 100 + (y - 1) / 400 - 474 + 18 - 4) := wrap_i64 (by omega) (by omega)
  repeat' (first | (simp -implicitDefEqProofs only [ze, zd, simprocAttr, w1, d4, d100, d400, w2, w3, w4, w5, w6, w7, w8, w9, w10, w11, w12]) | (with_reducible refine wgd_cases ?_ ?_ <;> intro hb) | (with_reducible refine wcond_cases ?_ ?_ <;> intro hb) | (with_reducible refine qd_i (by kernel_rfl) ?_) | (with_reducible refine W_itn_cases ?_ ?_; omega))
  rfl
theorem length_ok (y : Int) (h : 1900 ≤ y) (m : Nat) (hm : 1 ≤ m) (hm2 : m ≤ 13) : L.pl 76 [.i64 y, .i64 m] = some (.ret (.i64 (lenM y m))) := by
  refine W_of (pl_w k76_eq ?_)
  simp only [k76]
  have hw : IntKind.i64.wrap ((m : Int) - 1) = ((m - 1 : Nat) : Int) := by rw [wrap_i64 (by omega) (by omega)]; omega
  have c12 : m = 1 ∨ m = 2 ∨ m = 3 ∨ m = 4 ∨ m = 5 ∨ m = 6 ∨ m = 7 ∨ m = 8 ∨ m = 9 ∨ m = 10 ∨ m = 11 ∨ m = 12 ∨ m = 13 := by omega
  have tab : m ≤ 12 → (m = 2 → leapZ y = false) → (List.drop ((m - 1) * 1) [V.sc (Value.int IntKind.i64 31), V.sc (Value.int IntKind.i64 28), V.sc (Value.int IntKind.i64 31), V.sc (Value.int IntKind.i64 30), V.sc (Value.int IntKind.i64 31), V.sc (Value.int IntKind.i64 30), V.sc (Value.int IntKind.i64 31), V.sc (Value.int IntKind.i64 31), V.sc (Value.int IntKind.i64 30), V.sc (Value.int IntKind.i64 31), V.sc (Value.int IntKind.i64 30), V.sc (Value.int IntKind.i64 31)])[0]? = some (.sc (.int .i64 (lenM y m))) := fun hm3 hl => by
    rcases c12 with rfl | rfl | rfl | rfl | rfl | rfl | rfl | rfl | rfl | rfl | rfl | rfl | rfl <;> first | rfl | omega | skip
    have := hl rfl
    simp [lenM, lp, this]
  repeat' (first | (simp -implicitDefEqProofs only [ze, zd, simprocAttr, leap_ok y h, hw]) | (with_reducible refine wgd_cases ?_ ?_ <;> intro hb) | (with_reducible refine wcond_cases ?_ ?_ <;> intro hb) | (with_reducible refine qd_i (by kernel_rfl) ?_) | (with_reducible refine W_itn_cases ?_ ?_; omega))
  · simp only [decide_eq_true_eq] at hb; omega
  · simp only [decide_eq_true_eq] at hb
    have : m = 13 := by omega
    subst this; rfl
  · rename_i h2
    simp only [decide_eq_true_eq] at h2
    have : m = 2 := by omega
    subst this
    have hl : leapZ y = true := by assumption
    refine ret_i ?_; simp [lenM, lp, hl]
  · rename_i h12 h2
    simp only [decide_eq_false_iff_not, decide_eq_true_eq] at h12 h2
    refine W_itn_cases ⟨by omega, by omega⟩ ?_
    repeat' (first | (simp -implicitDefEqProofs only [ze, zd, simprocAttr, tab (by omega) (fun _ => hb)]) | (with_reducible refine wgd_cases ?_ ?_ <;> intro hb) | (with_reducible refine wcond_cases ?_ ?_ <;> intro hb) | (with_reducible refine qd_i (by kernel_rfl) ?_) | (with_reducible refine W_itn_cases ?_ ?_; omega))
  · rename_i h1 h12
    simp only [decide_eq_false_iff_not] at h12 hb
    refine W_itn_cases ⟨by omega, by omega⟩ ?_
    repeat' (first | (simp -implicitDefEqProofs only [ze, zd, simprocAttr, tab (by omega) (fun e => absurd (by rw [e]; rfl) hb)]) | (with_reducible refine wgd_cases ?_ ?_ <;> intro hb) | (with_reducible refine wcond_cases ?_ ?_ <;> intro hb) | (with_reducible refine qd_i (by kernel_rfl) ?_) | (with_reducible refine W_itn_cases ?_ ?_; omega))
end Go.Proofs.YthgmhlpjbednpaaDoor.Vm
set_option maxRecDepth 10000
set_option linter.unusedVariables false
set_option linter.unusedSimpArgs false
namespace Go.Proofs.YthgmhlpjbednpaaDoor.Vm
open Go Go.Proofs
def fm : Nat → Int
  | 0 => 0
  | M + 1 => fm M + lenM (1900 + (M / 12 : Nat)) (M % 12 + 1)
theorem lenM_pos (y : Int) (m : Nat) (h : 1 ≤ m) (h2 : m ≤ 12) : 28 ≤ lenM y m ∧ lenM y m ≤ 31 := by
  have := lp_le y
  have c12 : m = 1 ∨ m = 2 ∨ m = 3 ∨ m = 4 ∨ m = 5 ∨ m = 6 ∨ m = 7 ∨ m = 8 ∨ m = 9 ∨ m = 10 ∨ m = 11 ∨ m = 12 := by omega
  rcases c12 with rfl | rfl | rfl | rfl | rfl | rfl | rfl | rfl | rfl | rfl | rfl | rfl <;> simp only [lenM] <;> omega
theorem fm_lt (M : Nat) : fm M + 28 ≤ fm (M + 1) ∧ fm (M + 1) ≤ fm M + 31 := by
  have := lenM_pos (1900 + (M / 12 : Nat)) (M % 12 + 1) (by omega) (by omega)
  simp only [fm]; omega
theorem fm_add (M d : Nat) : fm M + 28 * d ≤ fm (M + d) ∧ fm (M + d) ≤ fm M + 31 * d := by
  induction d with
  | zero => simp
  | succ d ih => have := fm_lt (M + d); rw [← Nat.add_assoc]; omega
theorem fm_mono {M N : Nat} (h : M ≤ N) : fm M ≤ fm N := by
  have := fm_add M (N - M); rw [Nat.add_sub_cancel' h] at this; omega
theorem fm_nonneg (M : Nat) : 0 ≤ fm M := fm_mono (Nat.zero_le M)
theorem fm_at (k j : Nat) (h : j < 12) : fm (12 * k + (j + 1)) = fm (12 * k + j) + lenM (1900 + (k : Int)) (j + 1) := by
  have e1 : (12 * k + j) / 12 = k := by omega
  have e2 : (12 * k + j) % 12 = j := by omega
  rw [← Nat.add_assoc]
  simp only [fm, e1, e2]
theorem fm_year (k : Nat) : fm (12 * k) = befZ (1900 + (k : Int)) := by
  induction k with
  | zero => rfl
  | succ k ih =>
    have h0 := fm_at k 0 (by omega); have h1 := fm_at k 1 (by omega); have h2 := fm_at k 2 (by omega); have h3 := fm_at k 3 (by omega)
    have h4 := fm_at k 4 (by omega); have h5 := fm_at k 5 (by omega); have h6 := fm_at k 6 (by omega); have h7 := fm_at k 7 (by omega)
    have h8 := fm_at k 8 (by omega); have h9 := fm_at k 9 (by omega); have h10 := fm_at k 10 (by omega); have h11 := fm_at k 11 (by omega)
    simp only [lenM, Nat.reduceAdd, Nat.add_zero] at h0 h1 h2 h3 h4 h5 h6 h7 h8 h9 h10 h11
    have hb := bef_next (1900 + (k : Int)) (by omega)
    have e : (1900 + ((k + 1 : Nat) : Int)) = 1900 + (k : Int) + 1 := by omega
    rw [e, hb, ← ih, show 12 * (k + 1) = 12 * k + 12 by omega]
    omega
theorem fm_end : fm 3600 = 109573 := by rw [show (3600 : Nat) = 12 * 300 from rfl, fm_year]; rfl
def isD (n : Int) (M : Nat) : Prop := fm M ≤ n ∧ n < fm (M + 1) ∧ M < 3600
theorem isD_uniq {n : Int} {M N : Nat} (h : isD n M) (k : isD n N) : M = N := by
  rcases Nat.lt_trichotomy M N with h1 | h1 | h1
  · have := fm_mono (show M + 1 ≤ N from h1); have := h.2.1; have := k.1; omega
  · exact h1
  · have := fm_mono (show N + 1 ≤ M from h1); have := h.1; have := k.2.1; omega
theorem isD_day {n : Int} {M : Nat} (h : isD n M) : dayS n = true := by
  have h1 := fm_nonneg M
  have h2 := fm_mono (show M + 1 ≤ 3600 from h.2.2)
  rw [fm_end] at h2
  have := h.1; have := h.2.1
  simp only [dayS, Bool.and_eq_true, decide_eq_true_eq]; omega
theorem isD_le {n k : Int} {M N : Nat} (h : isD n M) (h2 : isD k N) (hn : n ≤ k) : M ≤ N := by
  rcases Nat.lt_or_ge N M with h1 | h1
  · have := fm_mono (show N + 1 ≤ M from h1); have := h.1; have := h2.2.1; omega
  · exact h1
theorem isD_ex {n : Int} (h : dayS n = true) : ∃ M, isD n M := by
  simp only [dayS, Bool.and_eq_true, decide_eq_true_eq] at h
  have main : ∀ N : Nat, N ≤ 3600 → n < fm N → ∃ M, isD n M := by
    intro N
    induction N with
    | zero => intro _ h2; simp only [fm] at h2; omega
    | succ N ih =>
      intro hN h2
      by_cases hc : n < fm N
      · exact ih (by omega) hc
      · exact ⟨N, by omega, h2, by omega⟩
  exact main 3600 (Nat.le_refl _) (by rw [fm_end]; omega)
theorem isD_fm {M : Nat} (h : M < 3600) : isD (fm M) M := ⟨Int.le_refl _, by have := fm_lt M; omega, h⟩
theorem befZ_b (y : Int) (h : 1900 ≤ y) (h2 : y ≤ 2200) : 0 ≤ befZ y ∧ befZ y ≤ 109573 := by unfold befZ; omega
end Go.Proofs.YthgmhlpjbednpaaDoor.Vm
set_option maxRecDepth 10000
set_option linter.unusedVariables false
set_option linter.unusedSimpArgs false
namespace Go.Proofs.YthgmhlpjbednpaaDoor.Vm
open Go Go.Proofs
def yM (c y : Int) : Nat := (12 * (y - 1900) + c - 1).toNat
def rightC (c : Int) : Bool := decide (1 ≤ c) && decide (c ≤ 12)
def yrS (c y : Int) : Bool := decide (1900 ≤ y) && decide (y ≤ 2199) && decide (12 * (y - 1900) + c - 1 + 12 ≤ 3600)
def exS (c y n : Int) : Bool := yrS c y && decide (1 ≤ n) && decide (n ≤ 13)
def lastS (c y : Int) : Int := fm (yM c y + 12) - 1
def spanS (c y n : Int) : Int × Int × Int :=
  if rightC c = false then (0, 0, 2) else if exS c y n = false then (0, 0, 16)
  else if n = 13 then (lastS c y, lastS c y, 0) else (fm (yM c y + (n - 1).toNat), fm (yM c y + (n - 1).toNat + 1) - 1, 0)
def perS (c : Int) (M : Nat) : Int × Int := (1900 + ((M : Int) - (c - 1)) / 12, ((M : Int) - (c - 1)) % 12 + 1)
open Classical in
noncomputable def monOf (n : Int) : Nat := if h : ∃ M, isD n M then Classical.choose h else 0
theorem monOf_eq {n : Int} {M : Nat} (h : isD n M) : monOf n = M := by
  have hx : ∃ M, isD n M := ⟨M, h⟩
  unfold monOf
  rw [dif_pos hx]
  exact isD_uniq (Classical.choose_spec hx) h
theorem isD_mon {n : Int} (h : dayS n = true) : isD n (monOf n) := by
  obtain ⟨M, hM⟩ := isD_ex h
  rw [monOf_eq hM]; exact hM
noncomputable def ofP (c n : Int) : (Int × Int) × Int :=
  if rightC c = false then ((0, 0), 2) else if dayS n = false then ((0, 0), 11)
  else if yrS c (perS c (monOf n)).1 = false then ((0, 0), 16) else (perS c (monOf n), 0)
noncomputable def forP (c n k : Int) : (Int × Int) × Int :=
  if (ofP c n).2 ≠ 0 then ofP c n
  else if (k = 3 ∨ k = 4) ∧ lastS c (ofP c n).1.1 = n then (((ofP c n).1.1, 13), 0) else ofP c n
def stepP (c y n y2 n2 : Int) : (Int × Int) × Int :=
  if rightC c = false then ((0, 0), 2) else if exS c y n = false ∨ exS c y2 n2 = false then ((0, 0), 16) else ((y2, n2), 0)
def nextP (c y n : Int) : (Int × Int) × Int := if n = 13 then stepP c y n (IntKind.i64.wrap (y + 1)) 1 else stepP c y n y (IntKind.i64.wrap (n + 1))
def prevP (c y n : Int) : (Int × Int) × Int := if n = 1 then stepP c y n (IntKind.i64.wrap (y - 1)) 13 else stepP c y n y (IntKind.i64.wrap (n - 1))
def cmpP (y n y2 n2 : Int) : Int := if y = y2 ∧ n = n2 then 0 else if y < y2 ∨ (y = y2 ∧ n < n2) then -1 else 1
end Go.Proofs.YthgmhlpjbednpaaDoor.Vm
set_option maxRecDepth 10000
set_option linter.unusedVariables false
set_option linter.unusedSimpArgs false
namespace Go.Proofs.YthgmhlpjbednpaaDoor.Vm
open Go Go.Proofs
theorem of_late (y m d : Int) (hy : 2199 < y) : L.pl 74 [.agg [.i64 y, .i64 m, .i64 d]] = some (.ret (.tup [.i64 0, .i64 11])) := by
  refine W_of (pl_w k74_eq ?_)
  simp only [k74]
  have h1 : decide (y < 1900) = false := decide_eq_false (by omega)
  have h2 : decide (2199 < y) = true := decide_eq_true hy
  repeat' (first | (simp -implicitDefEqProofs only [ze, zd, simprocAttr, h1, h2]) | (with_reducible refine wgd_cases ?_ ?_ <;> intro hb) | (with_reducible refine wcond_cases ?_ ?_ <;> intro hb) | (with_reducible refine qd_i (by kernel_rfl) ?_) | (with_reducible refine W_itn_cases ?_ ?_; omega))
theorem of_yes (k m : Nat) (hk : k < 300) (hm : 1 ≤ m) (hm2 : m ≤ 12) (d : Int) (hd : 1 ≤ d) (hd2 : d ≤ lenM (1900 + (k : Int)) m) : L.pl 74 [.agg [.i64 (1900 + (k : Int)), .i64 m, .i64 d]] = some (.ret (.tup [.i64 (fm (12 * k + (m - 1)) + d - 1), .i64 0])) := by
  refine W_of (pl_w k74_eq ?_)
  simp only [k74]
  have g1 : decide (1900 + (k : Int) < 1900) = false := decide_eq_false (by omega)
  have g2 : decide (2199 < 1900 + (k : Int)) = false := decide_eq_false (by omega)
  have g3 : decide (d < 1) = false := decide_eq_false (by omega)
  have g4 : decide (lenM (1900 + (k : Int)) m < d) = false := decide_eq_false (by omega)
  have hlen : ∀ j : Nat, 1 ≤ j → j ≤ 12 → L.pl 76 [.i64 (1900 + (k : Int)), .i64 j] = some (.ret (.i64 (lenM (1900 + (k : Int)) j))) := fun j h1 h2 => length_ok _ (by omega) j h1 (by omega)
  have hb31 := lenM_pos (1900 + (k : Int)) m hm hm2
  have hbf := befZ_b (1900 + (k : Int)) (by omega) (by omega)
  have hbe := before_ok (1900 + (k : Int)) (by omega) (by omega)
  have w1 : IntKind.i64.wrap (befZ (1900 + (k : Int)) + d) = befZ (1900 + (k : Int)) + d := wrap_i64 (by omega) (by omega)
  have w2 : IntKind.i64.wrap (befZ (1900 + (k : Int)) + d - 1) = befZ (1900 + (k : Int)) + d - 1 := wrap_i64 (by omega) (by omega)
  repeat' (first | (simp -implicitDefEqProofs only [ze, zd, simprocAttr, g1, g2, g3, g4, hlen m hm hm2, hbe, w1, w2]) | (with_reducible refine wgd_cases ?_ ?_ <;> intro hb) | (with_reducible refine wcond_cases ?_ ?_ <;> intro hb) | (with_reducible refine qd_i (by kernel_rfl) ?_) | (with_reducible refine W_itn_cases ?_ ?_; omega))
  refine loop_w (fun n tm st nx => ∃ j : Nat, n = m - j ∧ 1 ≤ j ∧ j ≤ m ∧ tm 4 = .i64 j ∧ tm 1 = .ptr 8 0 ∧ tm 2 = .i64 (fm (12 * k + (j - 1)) + d - 1) ∧ st 8 = some (.cells [.i64 (1900 + (k : Int)), .i64 m, .i64 d])) _ ⟨1, rfl, by omega, hm, ?_, ?_, ?_, ?_⟩ ?_
  · simp -implicitDefEqProofs only [ze, zd, simprocAttr]; try rfl
  · simp -implicitDefEqProofs only [ze, zd, simprocAttr]
  · simp -implicitDefEqProofs only [ze, zd, simprocAttr, fm_year, Nat.sub_self]
  · simp -implicitDefEqProofs only [ze, zd, simprocAttr]; try rfl
  rintro n tm st nx ⟨j, hn, hj, hjm, h4, h1, h2, hst⟩
  simp only [k74_l0]
  have hfm := fm_at k (j - 1) (by omega)
  have ej : j - 1 + 1 = j := by omega
  rw [ej] at hfm
  have hfa := fm_add 0 (12 * k + j)
  have hf0 : fm 0 = 0 := rfl
  rw [Nat.zero_add, hf0] at hfa
  by_cases hc : j < m
  · have hd : decide ((j : Int) < (m : Int)) = true := decide_eq_true (by omega)
    have hlb := lenM_pos (1900 + (k : Int)) j hj (by omega)
    have w3 : IntKind.i64.wrap (fm (12 * k + (j - 1)) + d - 1 + lenM (1900 + (k : Int)) j) = fm (12 * k + (j + 1 - 1)) + d - 1 := by
      rw [Nat.add_sub_cancel, wrap_i64 (by omega) (by omega)]; omega
    repeat' (first | (simp -implicitDefEqProofs only [ze, zd, simprocAttr, h4, h1, h2, hst, hd, hlen j hj (by omega), w3]) | (with_reducible refine wgd_cases ?_ ?_ <;> intro hb) | (with_reducible refine wcond_cases ?_ ?_ <;> intro hb) | (with_reducible refine qd_i (by kernel_rfl) ?_) | (with_reducible refine W_itn_cases ?_ ?_; omega))
    exact ⟨m - (j + 1), by omega, j + 1, rfl, by omega, by omega, up64 (by omega), rfl⟩
  · have hd : decide ((j : Int) < (m : Int)) = false := decide_eq_false (by omega)
    have : j = m := by omega
    subst this
    repeat' (first | (simp -implicitDefEqProofs only [ze, zd, simprocAttr, h4, h1, h2, hst, hd, k74_t0]) | (with_reducible refine wgd_cases ?_ ?_ <;> intro hb) | (with_reducible refine wcond_cases ?_ ?_ <;> intro hb) | (with_reducible refine qd_i (by kernel_rfl) ?_) | (with_reducible refine W_itn_cases ?_ ?_; omega))
theorem dateS_ok (n : Int) (M : Nat) (h : isD n M) : L.pl 75 [.i64 n] = some (.ret (.tup [.agg [.i64 (1900 + (M / 12 : Nat)), .i64 ((M % 12 + 1 : Nat) : Int), .i64 (n - fm M + 1)], .i64 0])) := by
  have hday := isD_day h
  have hn : 0 ≤ n ∧ n ≤ 109572 := by simpa [dayS] using hday
  refine W_of (pl_w k75_eq ?_)
  simp only [k75]
  have q1 : n.tdiv 366 = n / 366 := Int.tdiv_eq_ediv_of_nonneg hn.1
  have w1 : IntKind.i64.wrap (n / 366) = n / 366 := wrap_i64 (by omega) (by omega)
  have w2 : IntKind.i64.wrap (1900 + n / 366) = 1900 + n / 366 := wrap_i64 (by omega) (by omega)
  repeat' (first | (simp -implicitDefEqProofs only [ze, zd, simprocAttr, is_ok, hday, q1, w1, w2]) | (with_reducible refine wgd_cases ?_ ?_ <;> intro hb) | (with_reducible refine wcond_cases ?_ ?_ <;> intro hb) | (with_reducible refine qd_i (by kernel_rfl) ?_) | (with_reducible refine W_itn_cases ?_ ?_; omega))
  refine loop_w (fun k tm st nx => ∃ y : Nat, k = 299 - y ∧ y ≤ 299 ∧ fm (12 * y) ≤ n ∧ tm 0 = .i64 n ∧ tm 2 = .ptr 8 0 ∧ st 8 = some (.cells [.i64 (1900 + (y : Int)), .i64 0, .i64 0]) ∧ 9 ≤ nx) _ ⟨(n / 366).toNat, rfl, by omega, ?_, ?_, ?_, ?_, by omega⟩ ?_
  · rw [fm_year]; unfold befZ; omega
  · simp -implicitDefEqProofs only [ze, zd, simprocAttr]
  · simp -implicitDefEqProofs only [ze, zd, simprocAttr]
  · simp -implicitDefEqProofs only [ze, zd, simprocAttr]
    have : ((n / 366).toNat : Int) = n / 366 := Int.toNat_of_nonneg (by omega)
    rw [this]
  rintro k tm st nx ⟨y, hk, hy2, hyn, h0, h2, hst, hnx⟩
  simp only [k75_l0]
  have wy : IntKind.i64.wrap (1900 + (y : Int) + 1) = 1900 + ((y + 1 : Nat) : Int) := by rw [wrap_i64 (by omega) (by omega)]; omega
  have fy : befZ (1900 + (y : Int)) = fm (12 * y) := (fm_year y).symm
  have fy1 : befZ (1900 + ((y + 1 : Nat) : Int)) = fm (12 * y + 12) := by rw [← fm_year (y + 1)]; congr 1
  have tail : ∀ (tm : Nat → V) (st : St) (nx : Nat), n < fm (12 * y + 12) → tm 0 = .i64 n → tm 2 = .ptr 8 0 → st 8 = some (.cells [.i64 (1900 + (y : Int)), .i64 0, .i64 0]) →
      wc Tryd.prog L k75_t1 (RQ [.c 2 (some 3), .t 3] (PQ fun r => r = .ret (.tup [.agg [.i64 (1900 + (M / 12 : Nat)), .i64 ((M % 12 + 1 : Nat) : Int), .i64 (n - fm M + 1)], .i64 0]))) ⟨tm, st, nx⟩ := by
    intro tm st nx hx h0 h2 hst
    have hb0 := before_ok (1900 + (y : Int)) (by omega) (by omega)
    rw [fy] at hb0
    have hf0 := fm_nonneg (12 * y)
    have w3 : IntKind.i64.wrap (n - fm (12 * y)) = n - fm (12 * y) := wrap_i64 (by omega) (by omega)
    simp only [k75_t1, k75_t0]
    repeat' (first | (simp -implicitDefEqProofs only [ze, zd, simprocAttr, h0, h2, hst, hb0, w3]) | (with_reducible refine wgd_cases ?_ ?_ <;> intro hb) | (with_reducible refine wcond_cases ?_ ?_ <;> intro hb) | (with_reducible refine qd_i (by kernel_rfl) ?_) | (with_reducible refine W_itn_cases ?_ ?_; omega))
    refine loop_w (fun k tm st nx => ∃ m : Nat, k = 12 - m ∧ m < 12 ∧ fm (12 * y + m) ≤ n ∧ tm 0 = .i64 (n - fm (12 * y + m)) ∧ tm 2 = .ptr 8 0 ∧ st 8 = some (.cells [.i64 (1900 + (y : Int)), .i64 ((m + 1 : Nat) : Int), .i64 0])) _ ⟨0, rfl, by omega, hyn, ?_, ?_, ?_⟩ ?_
    · simp -implicitDefEqProofs only [ze, zd, simprocAttr]
    · simp -implicitDefEqProofs only [ze, zd, simprocAttr]; exact h2
    · simp -implicitDefEqProofs only [ze, zd, simprocAttr]; try rfl
    rintro k tm st nx ⟨m, hk, hm, hmn, h0, h2, hst⟩
    simp only [k75_l1]
    have hlen := length_ok (1900 + (y : Int)) (by omega) (m + 1) (by omega) (by omega)
    have hfa := fm_at y m hm
    have hf0 := fm_nonneg (12 * y + m)
    have hlb := lenM_pos (1900 + (y : Int)) (m + 1) (by omega) (by omega)
    have w4 : IntKind.i64.wrap (n - fm (12 * y + m) - lenM (1900 + (y : Int)) (m + 1)) = n - fm (12 * y + (m + 1)) := by rw [wrap_i64 (by omega) (by omega)]; omega
    have w5 : IntKind.i64.wrap (n - fm (12 * y + m) + 1) = n - fm (12 * y + m) + 1 := wrap_i64 (by omega) (by omega)
    have w6 : IntKind.i64.wrap (((m + 1 : Nat) : Int) + 1) = ((m + 1 + 1 : Nat) : Int) := by rw [wrap_i64 (by omega) (by omega)]; omega
    by_cases hc : lenM (1900 + (y : Int)) (m + 1) ≤ n - fm (12 * y + m)
    · have hd : decide (lenM (1900 + (y : Int)) (m + 1) ≤ n - fm (12 * y + m)) = true := decide_eq_true hc
      have hm3 : m + 1 < 12 := by
        rcases Nat.lt_or_ge (m + 1) 12 with h | h
        · exact h
        · have : m = 11 := by omega
          subst this
          have hfa' : fm (12 * y + 12) = fm (12 * y + 11) + lenM (1900 + (y : Int)) (11 + 1) := hfa
          omega
      repeat' (first | (simp -implicitDefEqProofs only [ze, zd, simprocAttr, h0, h2, hst, hlen, hd, w4, w6]) | (with_reducible refine wgd_cases ?_ ?_ <;> intro hb) | (with_reducible refine wcond_cases ?_ ?_ <;> intro hb) | (with_reducible refine qd_i (by kernel_rfl) ?_) | (with_reducible refine W_itn_cases ?_ ?_; omega))
      exact ⟨12 - (m + 1), by omega, m + 1, rfl, by omega, by omega, rfl, rfl⟩
    · have hd : decide (lenM (1900 + (y : Int)) (m + 1) ≤ n - fm (12 * y + m)) = false := decide_eq_false hc
      have hM : M = 12 * y + m := isD_uniq h ⟨hmn, by show n < fm (12 * y + m + 1); rw [Nat.add_assoc, hfa]; omega, by omega⟩
      have e1 : M / 12 = y := by omega
      have e2 : M % 12 = m := by omega
      repeat' (first | (simp -implicitDefEqProofs only [ze, zd, simprocAttr, h0, h2, hst, hlen, hd, w5]) | (with_reducible refine wgd_cases ?_ ?_ <;> intro hb) | (with_reducible refine wcond_cases ?_ ?_ <;> intro hb) | (with_reducible refine qd_i (by kernel_rfl) ?_) | (with_reducible refine W_itn_cases ?_ ?_; omega))
      rw [e1, e2, hM]
  by_cases hc1 : y < 299
  · have hd1 : decide (1900 + (y : Int) < 2199) = true := decide_eq_true (by omega)
    have hb1 := before_ok (1900 + ((y + 1 : Nat) : Int)) (by omega) (by omega)
    rw [fy1] at hb1
    by_cases hc2 : fm (12 * y + 12) ≤ n
    · have hd2 : decide (fm (12 * y + 12) ≤ n) = true := decide_eq_true hc2
      repeat' (first | (simp -implicitDefEqProofs only [ze, zd, simprocAttr, h0, h2, hst, wy, hb1, hd1, hd2]) | (with_reducible refine wgd_cases ?_ ?_ <;> intro hb) | (with_reducible refine wcond_cases ?_ ?_ <;> intro hb) | (with_reducible refine qd_i (by kernel_rfl) ?_) | (with_reducible refine W_itn_cases ?_ ?_; omega))
      exact ⟨299 - (y + 1), by omega, y + 1, rfl, by omega, hc2, rfl⟩
    · have hd2 : decide (fm (12 * y + 12) ≤ n) = false := decide_eq_false hc2
      repeat' (first | (simp -implicitDefEqProofs only [ze, zd, simprocAttr, h0, h2, hst, wy, hb1, hd1, hd2]) | (with_reducible refine wgd_cases ?_ ?_ <;> intro hb) | (with_reducible refine wcond_cases ?_ ?_ <;> intro hb) | (with_reducible refine qd_i (by kernel_rfl) ?_) | (with_reducible refine W_itn_cases ?_ ?_; omega))
      refine tail _ _ _ (by omega) ?_ ?_ hst
      · simp -implicitDefEqProofs only [ze, zd, simprocAttr]; exact h0
      · simp -implicitDefEqProofs only [ze, zd, simprocAttr]; exact h2
  · have hd1 : decide (1900 + (y : Int) < 2199) = false := decide_eq_false (by omega)
    repeat' (first | (simp -implicitDefEqProofs only [ze, zd, simprocAttr, h0, h2, hst, hd1]) | (with_reducible refine wgd_cases ?_ ?_ <;> intro hb) | (with_reducible refine wcond_cases ?_ ?_ <;> intro hb) | (with_reducible refine qd_i (by kernel_rfl) ?_) | (with_reducible refine W_itn_cases ?_ ?_; omega))
    have hy : y = 299 := by omega
    refine tail _ _ _ (by subst hy; show n < fm 3600; rw [fm_end]; omega) ?_ ?_ hst
    · simp -implicitDefEqProofs only [ze, zd, simprocAttr]; exact h0
    · simp -implicitDefEqProofs only [ze, zd, simprocAttr]; exact h2
theorem date_no (n : Int) (h : dayS n = false) : L.pl 75 [.i64 n] = some (.ret (.tup [.agg [.i64 0, .i64 0, .i64 0], .i64 11])) := by
  refine W_of (pl_w k75_eq ?_)
  simp only [k75]
  repeat' (first | (simp -implicitDefEqProofs only [ze, zd, simprocAttr, is_ok, h]) | (with_reducible refine wgd_cases ?_ ?_ <;> intro hb) | (with_reducible refine wcond_cases ?_ ?_ <;> intro hb) | (with_reducible refine qd_i (by kernel_rfl) ?_) | (with_reducible refine W_itn_cases ?_ ?_; omega))
theorem monthEnd_ok (n : Int) (M : Nat) (h : isD n M) : L.pl 55 [.i64 n] = some (.ret (.tup [.i64 (fm (M + 1) - 1), .i64 0])) := by
  refine W_of (pl_w k55_eq ?_)
  simp only [k55]
  have hd := dateS_ok n M h
  have hM := h.2.2
  have hlen := length_ok (1900 + (M / 12 : Nat)) (by omega) (M % 12 + 1) (by omega) (by omega)
  have hlp := lenM_pos (1900 + (M / 12 : Nat)) (M % 12 + 1) (by omega) (by omega)
  have hof := of_yes (M / 12) (M % 12 + 1) (by omega) (by omega) (by omega) (lenM (1900 + (M / 12 : Nat)) (M % 12 + 1)) (by omega) (Int.le_refl _)
  have e1 : 12 * (M / 12) + (M % 12 + 1 - 1) = M := by omega
  have hfm : fm (M + 1) = fm M + lenM (1900 + (M / 12 : Nat)) (M % 12 + 1) := rfl
  rw [e1] at hof
  rw [hfm]
  repeat' (first | (simp -implicitDefEqProofs only [ze, zd, simprocAttr, hd, hlen, hof, ne_eq, not_true_eq_false, gt_iff_lt]) | (with_reducible refine wgd_cases ?_ ?_ <;> intro hb) | (with_reducible refine wcond_cases ?_ ?_ <;> intro hb) | (with_reducible refine qd_i (by kernel_rfl) ?_) | (with_reducible refine W_itn_cases ?_ ?_; omega))
  have hb1 : M = 3599 := by
    simp only [bne_iff_ne, ne_eq, Bool.not_eq_false, Bool.and_eq_true, decide_eq_true_eq] at hb
    omega
  have hb2 : fm (M + 1) = 109573 := by rw [hb1]; exact fm_end
  rw [← hfm, hb2]; rfl
end Go.Proofs.YthgmhlpjbednpaaDoor.Vm
set_option maxRecDepth 10000
set_option linter.unusedVariables false
set_option linter.unusedSimpArgs false
namespace Go.Proofs.YthgmhlpjbednpaaDoor.Vm
open Go Go.Proofs
theorem right_ok (c : Int) : L.pl 51 [.agg [.i64 c]] = some (.ret (.bool (rightC c))) := by
  refine W_of (pl_w k51_eq ?_)
  simp only [k51]
  repeat' (first | (simp -implicitDefEqProofs only [ze, zd, simprocAttr]) | (with_reducible refine wgd_cases ?_ ?_ <;> intro hb) | (with_reducible refine wcond_cases ?_ ?_ <;> intro hb) | (with_reducible refine qd_i (by kernel_rfl) ?_) | (with_reducible refine W_itn_cases ?_ ?_; omega))
  all_goals (refine ret_b (Bool.eq_iff_iff.mpr ?_); simp_all [rightC]; try omega)
theorem rightC_b {c : Int} (h : rightC c = true) : 1 ≤ c ∧ c ≤ 12 := by simpa [rightC] using h
theorem begin_ok (c y a : Int) (hc : 1 ≤ c) (hc2 : c ≤ 12) (hy : 1900 ≤ y) (hy2 : y ≤ 2199) (ha : 0 ≤ a) (ha2 : a ≤ 11) :
    L.pl 54 [.agg [.i64 c], .i64 y, .i64 a] = some (.ret (if yM c y + a.toNat < 3600 then .tup [.i64 (fm (yM c y + a.toNat)), .bool true] else .tup [.i64 0, .bool false])) := by
  refine W_of (pl_w k54_eq ?_)
  simp only [k54]
  have w1 : IntKind.i64.wrap (c - 1) = c - 1 := wrap_i64 (by omega) (by omega)
  have w2 : IntKind.i64.wrap (c - 1 + a) = c - 1 + a := wrap_i64 (by omega) (by omega)
  have d1 : (c - 1 + a).tdiv 12 = (c - 1 + a) / 12 := Int.tdiv_eq_ediv_of_nonneg (by omega)
  have d2 : (c - 1 + a).tmod 12 = (c - 1 + a) % 12 := Int.tmod_eq_emod_of_nonneg (by omega)
  have w3 : IntKind.i64.wrap ((c - 1 + a) / 12) = (c - 1 + a) / 12 := wrap_i64 (by omega) (by omega)
  have w4 : IntKind.i64.wrap (y + (c - 1 + a) / 12) = y + (c - 1 + a) / 12 := wrap_i64 (by omega) (by omega)
  have w5 : IntKind.i64.wrap ((c - 1 + a) % 12 + 1) = (c - 1 + a) % 12 + 1 := wrap_i64 (by omega) (by omega)
  have hK : (yM c y : Int) = 12 * (y - 1900) + c - 1 := by unfold yM; omega
  by_cases h : yM c y + a.toNat < 3600
  · rw [if_pos h]
    have e1 : y + (c - 1 + a) / 12 = 1900 + (((yM c y + a.toNat) / 12 : Nat) : Int) := by omega
    have e2 : (c - 1 + a) % 12 + 1 = (((yM c y + a.toNat) % 12 + 1 : Nat) : Int) := by omega
    have hl := lenM_pos (1900 + (((yM c y + a.toNat) / 12 : Nat) : Int)) ((yM c y + a.toNat) % 12 + 1) (by omega) (by omega)
    have hof := of_yes ((yM c y + a.toNat) / 12) ((yM c y + a.toNat) % 12 + 1) (by omega) (by omega) (by omega) 1 (by omega) (by omega)
    have e3 : 12 * ((yM c y + a.toNat) / 12) + ((yM c y + a.toNat) % 12 + 1 - 1) = yM c y + a.toNat := by omega
    rw [e3, ← e1, ← e2, Int.add_sub_cancel] at hof
    repeat' (first | (simp -implicitDefEqProofs only [ze, zd, simprocAttr, w1, w2, d1, d2, w3, w4, w5, hof, ne_eq, not_true_eq_false]) | (with_reducible refine wgd_cases ?_ ?_ <;> intro hb) | (with_reducible refine wcond_cases ?_ ?_ <;> intro hb) | (with_reducible refine qd_i (by kernel_rfl) ?_) | (with_reducible refine W_itn_cases ?_ ?_; omega))
  · rw [if_neg h]
    have hof := of_late (y + (c - 1 + a) / 12) ((c - 1 + a) % 12 + 1) 1 (by omega)
    repeat' (first | (simp -implicitDefEqProofs only [ze, zd, simprocAttr, w1, w2, d1, d2, w3, w4, w5, hof, ne_eq, not_true_eq_false]) | (with_reducible refine wgd_cases ?_ ?_ <;> intro hb) | (with_reducible refine wcond_cases ?_ ?_ <;> intro hb) | (with_reducible refine qd_i (by kernel_rfl) ?_) | (with_reducible refine W_itn_cases ?_ ?_; omega))
theorem ends_ok (c y : Int) (hc : 1 ≤ c) (hc2 : c ≤ 12) : L.pl 53 [.agg [.i64 c], .i64 y] = some (.ret (if yrS c y = true then .tup [.i64 (fm (yM c y)), .i64 (lastS c y), .bool true] else .tup [.i64 0, .i64 0, .bool false])) := by
  refine W_of (pl_w k53_eq ?_)
  simp only [k53]
  by_cases hy : 1900 ≤ y ∧ y ≤ 2199
  · obtain ⟨hy, hy2⟩ := hy
    have g1 : decide (y < 1900) = false := decide_eq_false (by omega)
    have g2 : decide (2199 < y) = false := decide_eq_false (by omega)
    have b0 := begin_ok c y 0 hc hc2 hy hy2 (by omega) (by omega)
    have b1 := begin_ok c y 11 hc hc2 hy hy2 (by omega) (by omega)
    have hK : (yM c y : Int) = 12 * (y - 1900) + c - 1 := by unfold yM; omega
    rw [if_pos (show yM c y + (0 : Int).toNat < 3600 by omega)] at b0
    have e0 : yM c y + (0 : Int).toNat = yM c y := rfl
    have e11 : yM c y + (11 : Int).toNat = yM c y + 11 := rfl
    rw [e0] at b0
    rw [e11] at b1
    by_cases h : yM c y + 11 < 3600
    · rw [if_pos h] at b1
      have hyr : yrS c y = true := by simp only [yrS, Bool.and_eq_true, decide_eq_true_eq]; omega
      have hme := monthEnd_ok _ _ (isD_fm h)
      rw [if_pos hyr]
      repeat' (first | (simp -implicitDefEqProofs only [ze, zd, simprocAttr, g1, g2, b0, b1, hme]) | (with_reducible refine wgd_cases ?_ ?_ <;> intro hb) | (with_reducible refine wcond_cases ?_ ?_ <;> intro hb) | (with_reducible refine qd_i (by kernel_rfl) ?_) | (with_reducible refine W_itn_cases ?_ ?_; omega))
      rfl
    · rw [if_neg h] at b1
      have hyr : yrS c y = false := by simp only [yrS, Bool.and_eq_false_iff, decide_eq_false_iff_not]; omega
      rw [hyr, if_neg Bool.false_ne_true]
      repeat' (first | (simp -implicitDefEqProofs only [ze, zd, simprocAttr, g1, g2, b0, b1]) | (with_reducible refine wgd_cases ?_ ?_ <;> intro hb) | (with_reducible refine wcond_cases ?_ ?_ <;> intro hb) | (with_reducible refine qd_i (by kernel_rfl) ?_) | (with_reducible refine W_itn_cases ?_ ?_; omega))
  · have hyr : yrS c y = false := by simp only [yrS, Bool.and_eq_false_iff, decide_eq_false_iff_not]; omega
    rw [hyr, if_neg Bool.false_ne_true]
    repeat' (first | (simp -implicitDefEqProofs only [ze, zd, simprocAttr]) | (with_reducible refine wgd_cases ?_ ?_ <;> intro hb) | (with_reducible refine wcond_cases ?_ ?_ <;> intro hb) | (with_reducible refine qd_i (by kernel_rfl) ?_) | (with_reducible refine W_itn_cases ?_ ?_; omega))
    all_goals (simp only [decide_eq_true_eq, decide_eq_false_iff_not] at *; exfalso; omega)
theorem exists_ok (c y n : Int) (hc : 1 ≤ c) (hc2 : c ≤ 12) : L.pl 52 [.agg [.i64 c], .agg [.i64 y, .i64 n]] = some (.ret (.bool (exS c y n))) := by
  refine W_of (pl_w k52_eq ?_)
  simp only [k52]
  have he := ends_ok c y hc hc2
  cases hy : yrS c y with
  | true =>
    rw [hy, if_pos rfl] at he
    repeat' (first | (simp -implicitDefEqProofs only [ze, zd, simprocAttr, he]) | (with_reducible refine wgd_cases ?_ ?_ <;> intro hb) | (with_reducible refine wcond_cases ?_ ?_ <;> intro hb) | (with_reducible refine qd_i (by kernel_rfl) ?_) | (with_reducible refine W_itn_cases ?_ ?_; omega))
    all_goals (refine ret_b ?_; simp_all [exS]; try (intros; omega))
  | false =>
    rw [hy, if_neg Bool.false_ne_true] at he
    repeat' (first | (simp -implicitDefEqProofs only [ze, zd, simprocAttr, he]) | (with_reducible refine wgd_cases ?_ ?_ <;> intro hb) | (with_reducible refine wcond_cases ?_ ?_ <;> intro hb) | (with_reducible refine qd_i (by kernel_rfl) ?_) | (with_reducible refine W_itn_cases ?_ ?_; omega))
    all_goals (refine ret_b ?_; simp_all [exS])
theorem yrS_b {c y : Int} (h : yrS c y = true) : 1900 ≤ y ∧ y ≤ 2199 ∧ 12 * (y - 1900) + c - 1 + 12 ≤ 3600 := by
  simp only [yrS, Bool.and_eq_true, decide_eq_true_eq] at h; exact ⟨h.1.1, h.1.2, h.2⟩
theorem exS_b {c y n : Int} (h : exS c y n = true) : yrS c y = true ∧ 1 ≤ n ∧ n ≤ 13 := by
  simp only [exS, Bool.and_eq_true, decide_eq_true_eq] at h; exact ⟨h.1.1, h.1.2, h.2⟩
theorem span_ok (c y n : Int) : L.pl 29 [.agg [.i64 c], .agg [.i64 y, .i64 n]] = some (.ret (.tup [.i64 (spanS c y n).1, .i64 (spanS c y n).2.1, .i64 (spanS c y n).2.2])) := by
  refine W_of (pl_w k29_eq ?_)
  simp only [k29]
  cases hr : rightC c with
  | false =>
    have e : spanS c y n = (0, 0, 2) := by simp [spanS, hr]
    rw [e]
    repeat' (first | (simp -implicitDefEqProofs only [ze, zd, simprocAttr, right_ok, hr]) | (with_reducible refine wgd_cases ?_ ?_ <;> intro hb) | (with_reducible refine wcond_cases ?_ ?_ <;> intro hb) | (with_reducible refine qd_i (by kernel_rfl) ?_) | (with_reducible refine W_itn_cases ?_ ?_; omega))
  | true =>
    obtain ⟨hc, hc2⟩ := rightC_b hr
    have hex := exists_ok c y n hc hc2
    cases hx : exS c y n with
    | false =>
      have e : spanS c y n = (0, 0, 16) := by simp [spanS, hr, hx]
      rw [e]
      rw [hx] at hex
      repeat' (first | (simp -implicitDefEqProofs only [ze, zd, simprocAttr, right_ok, hr, hex]) | (with_reducible refine wgd_cases ?_ ?_ <;> intro hb) | (with_reducible refine wcond_cases ?_ ?_ <;> intro hb) | (with_reducible refine qd_i (by kernel_rfl) ?_) | (with_reducible refine W_itn_cases ?_ ?_; omega))
    | true =>
      rw [hx] at hex
      obtain ⟨hy, hn, hn2⟩ := exS_b hx
      obtain ⟨y1, y2, y3⟩ := yrS_b hy
      have hen := ends_ok c y hc hc2
      rw [if_pos hy] at hen
      by_cases h13 : n = 13
      · subst h13
        have e : spanS c y 13 = (lastS c y, lastS c y, 0) := by simp [spanS, hr, hx]
        rw [e]
        repeat' (first | (simp -implicitDefEqProofs only [ze, zd, simprocAttr, right_ok, hr, hex, hen]) | (with_reducible refine wgd_cases ?_ ?_ <;> intro hb) | (with_reducible refine wcond_cases ?_ ?_ <;> intro hb) | (with_reducible refine qd_i (by kernel_rfl) ?_) | (with_reducible refine W_itn_cases ?_ ?_; omega))
      · have e : spanS c y n = (fm (yM c y + (n - 1).toNat), fm (yM c y + (n - 1).toNat + 1) - 1, 0) := by simp [spanS, hr, hx, h13]
        rw [e]
        have g1 : decide (n = 13) = false := decide_eq_false h13
        have w1 : IntKind.i64.wrap (n - 1) = n - 1 := wrap_i64 (by omega) (by omega)
        have hK : (yM c y : Int) = 12 * (y - 1900) + c - 1 := by unfold yM; omega
        have hlt : yM c y + (n - 1).toNat < 3600 := by omega
        have hb := begin_ok c y (n - 1) hc hc2 y1 y2 (by omega) (by omega)
        rw [if_pos hlt] at hb
        have hme := monthEnd_ok _ _ (isD_fm hlt)
        repeat' (first | (simp -implicitDefEqProofs only [ze, zd, simprocAttr, right_ok, hr, hex, g1, w1, hb, hme]) | (with_reducible refine wgd_cases ?_ ?_ <;> intro hb) | (with_reducible refine wcond_cases ?_ ?_ <;> intro hb) | (with_reducible refine qd_i (by kernel_rfl) ?_) | (with_reducible refine W_itn_cases ?_ ?_; omega))
end Go.Proofs.YthgmhlpjbednpaaDoor.Vm
set_option maxRecDepth 10000
set_option linter.unusedVariables false
set_option linter.unusedSimpArgs false
namespace Go.Proofs.YthgmhlpjbednpaaDoor.Vm
open Go Go.Proofs
def encPE (r : (Int × Int) × Int) : V := .tup [.agg [.i64 r.1.1, .i64 r.1.2], .i64 r.2]
theorem exS_12 {c y n : Int} (h1 : 1 ≤ n) (h2 : n ≤ 12) : exS c y n = yrS c y := by
  have : decide (1 ≤ n) = true := decide_eq_true h1
  have h : decide (n ≤ 13) = true := decide_eq_true (by omega)
  simp [exS, this, h]
theorem perS_b (c : Int) (M : Nat) : 1 ≤ (perS c M).2 ∧ (perS c M).2 ≤ 12 := by unfold perS; omega
theorem ofP_ok (c n : Int) : L.pl 71 [.agg [.i64 c], .i64 n] = some (.ret (encPE (ofP c n))) := by
  refine W_of (pl_w k71_eq ?_)
  simp only [k71]
  cases hr : rightC c with
  | false =>
    have e : ofP c n = ((0, 0), 2) := by simp [ofP, hr]
    rw [e]
    repeat' (first | (simp -implicitDefEqProofs only [ze, zd, simprocAttr, right_ok, hr, encPE, ne_eq, not_true_eq_false]) | (with_reducible refine wgd_cases ?_ ?_ <;> intro hb) | (with_reducible refine wcond_cases ?_ ?_ <;> intro hb) | (with_reducible refine qd_i (by kernel_rfl) ?_) | (with_reducible refine W_itn_cases ?_ ?_; omega))
  | true =>
    obtain ⟨hc, hc2⟩ := rightC_b hr
    cases hday : dayS n with
    | false =>
      have e : ofP c n = ((0, 0), 11) := by simp [ofP, hr, hday]
      rw [e]
      repeat' (first | (simp -implicitDefEqProofs only [ze, zd, simprocAttr, right_ok, hr, date_no n hday, encPE, ne_eq, not_true_eq_false]) | (with_reducible refine wgd_cases ?_ ?_ <;> intro hb) | (with_reducible refine wcond_cases ?_ ?_ <;> intro hb) | (with_reducible refine qd_i (by kernel_rfl) ?_) | (with_reducible refine W_itn_cases ?_ ?_; omega))
    | true =>
      have hM := isD_mon hday
      have hd := dateS_ok n _ hM
      have hb := perS_b c (monOf n)
      have hlt := hM.2.2
      have hex := exists_ok c (perS c (monOf n)).1 (perS c (monOf n)).2 hc hc2
      rw [exS_12 hb.1 hb.2] at hex
      generalize hM0 : monOf n = M at *
      have w1 : IntKind.i64.wrap (((M % 12 + 1 : Nat) : Int) - c) = ((M % 12 + 1 : Nat) : Int) - c := wrap_i64 (by omega) (by omega)
      have w2 : IntKind.i64.wrap (((M % 12 + 1 : Nat) : Int) - c + 1) = ((M % 12 + 1 : Nat) : Int) - c + 1 := wrap_i64 (by omega) (by omega)
      have w3 : IntKind.i64.wrap (((M % 12 + 1 : Nat) : Int) - c + 1 + 12) = ((M % 12 + 1 : Nat) : Int) - c + 1 + 12 := wrap_i64 (by omega) (by omega)
      have w4 : IntKind.i64.wrap (1900 + ((M / 12 : Nat) : Int) - 1) = 1900 + ((M / 12 : Nat) : Int) - 1 := wrap_i64 (by omega) (by omega)
      by_cases h1 : ((M % 12 + 1 : Nat) : Int) - c + 1 < 1
      · have g1 : decide (((M % 12 + 1 : Nat) : Int) - c + 1 < 1) = true := decide_eq_true h1
        have e1 : 1900 + ((M / 12 : Nat) : Int) - 1 = (perS c M).1 := by unfold perS; omega
        have e2 : ((M % 12 + 1 : Nat) : Int) - c + 1 + 12 = (perS c M).2 := by unfold perS; omega
        rw [← e1, ← e2] at hex
        cases hy : yrS c (perS c M).1 with
        | true =>
          have e : ofP c n = (perS c M, 0) := by simp [ofP, hr, hday, hM0, hy]
          rw [e]
          rw [e1, hy, ← e1] at hex
          repeat' (first | (simp -implicitDefEqProofs only [ze, zd, simprocAttr, right_ok, hr, hd, w1, w2, w3, w4, g1, hex, encPE, ne_eq, not_true_eq_false]) | (with_reducible refine wgd_cases ?_ ?_ <;> intro hb) | (with_reducible refine wcond_cases ?_ ?_ <;> intro hb) | (with_reducible refine qd_i (by kernel_rfl) ?_) | (with_reducible refine W_itn_cases ?_ ?_; omega))
          rw [e1, e2]
        | false =>
          have e : ofP c n = ((0, 0), 16) := by simp [ofP, hr, hday, hM0, hy]
          rw [e]
          rw [e1, hy, ← e1] at hex
          repeat' (first | (simp -implicitDefEqProofs only [ze, zd, simprocAttr, right_ok, hr, hd, w1, w2, w3, w4, g1, hex, encPE, ne_eq, not_true_eq_false]) | (with_reducible refine wgd_cases ?_ ?_ <;> intro hb) | (with_reducible refine wcond_cases ?_ ?_ <;> intro hb) | (with_reducible refine qd_i (by kernel_rfl) ?_) | (with_reducible refine W_itn_cases ?_ ?_; omega))
      · have g1 : decide (((M % 12 + 1 : Nat) : Int) - c + 1 < 1) = false := decide_eq_false h1
        have e1 : 1900 + ((M / 12 : Nat) : Int) = (perS c M).1 := by unfold perS; omega
        have e2 : ((M % 12 + 1 : Nat) : Int) - c + 1 = (perS c M).2 := by unfold perS; omega
        rw [← e1, ← e2] at hex
        cases hy : yrS c (perS c M).1 with
        | true =>
          have e : ofP c n = (perS c M, 0) := by simp [ofP, hr, hday, hM0, hy]
          rw [e]
          rw [e1, hy, ← e1] at hex
          repeat' (first | (simp -implicitDefEqProofs only [ze, zd, simprocAttr, right_ok, hr, hd, w1, w2, g1, hex, encPE, ne_eq, not_true_eq_false]) | (with_reducible refine wgd_cases ?_ ?_ <;> intro hb) | (with_reducible refine wcond_cases ?_ ?_ <;> intro hb) | (with_reducible refine qd_i (by kernel_rfl) ?_) | (with_reducible refine W_itn_cases ?_ ?_; omega))
          rw [e1, e2]
        | false =>
          have e : ofP c n = ((0, 0), 16) := by simp [ofP, hr, hday, hM0, hy]
          rw [e]
          rw [e1, hy, ← e1] at hex
          repeat' (first | (simp -implicitDefEqProofs only [ze, zd, simprocAttr, right_ok, hr, hd, w1, w2, g1, hex, encPE, ne_eq, not_true_eq_false]) | (with_reducible refine wgd_cases ?_ ?_ <;> intro hb) | (with_reducible refine wcond_cases ?_ ?_ <;> intro hb) | (with_reducible refine qd_i (by kernel_rfl) ?_) | (with_reducible refine W_itn_cases ?_ ?_; omega))
theorem ofP_good {c n : Int} (h : (ofP c n).2 = 0) : rightC c = true ∧ dayS n = true ∧ yrS c (ofP c n).1.1 = true ∧ (ofP c n).1 = perS c (monOf n) := by
  unfold ofP at h ⊢
  by_cases h1 : rightC c = false
  · rw [if_pos h1] at h; cases h
  · rw [if_neg h1] at h ⊢
    by_cases h2 : dayS n = false
    · rw [if_pos h2] at h; cases h
    · rw [if_neg h2] at h ⊢
      by_cases h3 : yrS c (perS c (monOf n)).1 = false
      · rw [if_pos h3] at h; cases h
      · rw [if_neg h3]
        exact ⟨by simpa using h1, by simpa using h2, by simpa using h3, rfl⟩
theorem forP_ok (c n k : Int) : L.pl 45 [.agg [.i64 c], .i64 n, .i64 k] = some (.ret (encPE (forP c n k))) := by
  refine W_of (pl_w k45_eq ?_)
  simp only [k45]
  have ho := ofP_ok c n
  by_cases h0 : (ofP c n).2 = 0
  · obtain ⟨hr, hd, hy, _⟩ := ofP_good h0
    obtain ⟨hc, hc2⟩ := rightC_b hr
    have hen := ends_ok c (ofP c n).1.1 hc hc2
    rw [if_pos hy] at hen
    simp only [encPE, h0] at ho
    by_cases hk : k = 3 ∨ k = 4
    · by_cases hl : lastS c (ofP c n).1.1 = n
      · have e : forP c n k = (((ofP c n).1.1, 13), 0) := by
          unfold forP; rw [if_neg (by simp [h0]), if_pos ⟨hk, hl⟩]
        rw [e]
        have g1 : decide (lastS c (ofP c n).1.1 = n) = true := decide_eq_true hl
        rcases hk with rfl | rfl
        · repeat' (first | (simp -implicitDefEqProofs only [ze, zd, simprocAttr, ho, hen, g1, encPE]) | (with_reducible refine wgd_cases ?_ ?_ <;> intro hb) | (with_reducible refine wcond_cases ?_ ?_ <;> intro hb) | (with_reducible refine qd_i (by kernel_rfl) ?_) | (with_reducible refine W_itn_cases ?_ ?_; omega))
        · repeat' (first | (simp -implicitDefEqProofs only [ze, zd, simprocAttr, ho, hen, g1, encPE]) | (with_reducible refine wgd_cases ?_ ?_ <;> intro hb) | (with_reducible refine wcond_cases ?_ ?_ <;> intro hb) | (with_reducible refine qd_i (by kernel_rfl) ?_) | (with_reducible refine W_itn_cases ?_ ?_; omega))
      · have e : forP c n k = ofP c n := by
          unfold forP; rw [if_neg (by simp [h0]), if_neg (fun h => hl h.2)]
        rw [e]
        have g1 : decide (lastS c (ofP c n).1.1 = n) = false := decide_eq_false hl
        rcases hk with rfl | rfl
        · repeat' (first | (simp -implicitDefEqProofs only [ze, zd, simprocAttr, ho, hen, g1, encPE, h0]) | (with_reducible refine wgd_cases ?_ ?_ <;> intro hb) | (with_reducible refine wcond_cases ?_ ?_ <;> intro hb) | (with_reducible refine qd_i (by kernel_rfl) ?_) | (with_reducible refine W_itn_cases ?_ ?_; omega))
        · repeat' (first | (simp -implicitDefEqProofs only [ze, zd, simprocAttr, ho, hen, g1, encPE, h0]) | (with_reducible refine wgd_cases ?_ ?_ <;> intro hb) | (with_reducible refine wcond_cases ?_ ?_ <;> intro hb) | (with_reducible refine qd_i (by kernel_rfl) ?_) | (with_reducible refine W_itn_cases ?_ ?_; omega))
    · have e : forP c n k = ofP c n := by
        unfold forP; rw [if_neg (by simp [h0]), if_neg (fun h => hk h.1)]
      rw [e]
      have g3 : decide (k = 3) = false := decide_eq_false (fun h => hk (.inl h))
      have g4 : decide (k = 4) = false := decide_eq_false (fun h => hk (.inr h))
      repeat' (first | (simp -implicitDefEqProofs only [ze, zd, simprocAttr, ho, hen, g3, g4, encPE, h0]) | (with_reducible refine wgd_cases ?_ ?_ <;> intro hb) | (with_reducible refine wcond_cases ?_ ?_ <;> intro hb) | (with_reducible refine qd_i (by kernel_rfl) ?_) | (with_reducible refine W_itn_cases ?_ ?_; omega))
  · have e : forP c n k = ofP c n := by unfold forP; rw [if_pos h0]
    rw [e]
    simp only [encPE] at ho
    have g1 : decide ((ofP c n).2 = 0) = false := decide_eq_false h0
    repeat' (first | (simp -implicitDefEqProofs only [ze, zd, simprocAttr, ho, g1, encPE]) | (with_reducible refine wgd_cases ?_ ?_ <;> intro hb) | (with_reducible refine wcond_cases ?_ ?_ <;> intro hb) | (with_reducible refine qd_i (by kernel_rfl) ?_) | (with_reducible refine W_itn_cases ?_ ?_; omega))
theorem stepP_ok (c y n y2 n2 : Int) : L.pl 70 [.agg [.i64 c], .agg [.i64 y, .i64 n], .agg [.i64 y2, .i64 n2]] = some (.ret (encPE (stepP c y n y2 n2))) := by
  refine W_of (pl_w k70_eq ?_)
  simp only [k70]
  cases hr : rightC c with
  | false =>
    have e : stepP c y n y2 n2 = ((0, 0), 2) := by simp [stepP, hr]
    rw [e]
    repeat' (first | (simp -implicitDefEqProofs only [ze, zd, simprocAttr, right_ok, hr, encPE, ne_eq, not_true_eq_false]) | (with_reducible refine wgd_cases ?_ ?_ <;> intro hb) | (with_reducible refine wcond_cases ?_ ?_ <;> intro hb) | (with_reducible refine qd_i (by kernel_rfl) ?_) | (with_reducible refine W_itn_cases ?_ ?_; omega))
  | true =>
    obtain ⟨hc, hc2⟩ := rightC_b hr
    have hx1 := exists_ok c y n hc hc2
    have hx2 := exists_ok c y2 n2 hc hc2
    cases h1 : exS c y n with
    | false =>
      have e : stepP c y n y2 n2 = ((0, 0), 16) := by simp [stepP, hr, h1]
      rw [e]
      rw [h1] at hx1
      repeat' (first | (simp -implicitDefEqProofs only [ze, zd, simprocAttr, right_ok, hr, hx1, encPE, ne_eq, not_true_eq_false]) | (with_reducible refine wgd_cases ?_ ?_ <;> intro hb) | (with_reducible refine wcond_cases ?_ ?_ <;> intro hb) | (with_reducible refine qd_i (by kernel_rfl) ?_) | (with_reducible refine W_itn_cases ?_ ?_; omega))
    | true =>
      rw [h1] at hx1
      cases h2 : exS c y2 n2 with
      | false =>
        have e : stepP c y n y2 n2 = ((0, 0), 16) := by simp [stepP, hr, h1, h2]
        rw [e]
        rw [h2] at hx2
        repeat' (first | (simp -implicitDefEqProofs only [ze, zd, simprocAttr, right_ok, hr, hx1, hx2, encPE, ne_eq, not_true_eq_false]) | (with_reducible refine wgd_cases ?_ ?_ <;> intro hb) | (with_reducible refine wcond_cases ?_ ?_ <;> intro hb) | (with_reducible refine qd_i (by kernel_rfl) ?_) | (with_reducible refine W_itn_cases ?_ ?_; omega))
      | true =>
        have e : stepP c y n y2 n2 = ((y2, n2), 0) := by simp [stepP, hr, h1, h2]
        rw [e]
        rw [h2] at hx2
        repeat' (first | (simp -implicitDefEqProofs only [ze, zd, simprocAttr, right_ok, hr, hx1, hx2, encPE, ne_eq, not_true_eq_false]) | (with_reducible refine wgd_cases ?_ ?_ <;> intro hb) | (with_reducible refine wcond_cases ?_ ?_ <;> intro hb) | (with_reducible refine qd_i (by kernel_rfl) ?_) | (with_reducible refine W_itn_cases ?_ ?_; omega))
theorem nextP_ok (c y n : Int) : L.pl 43 [.agg [.i64 c], .agg [.i64 y, .i64 n]] = some (.ret (encPE (nextP c y n))) := by
  refine W_of (pl_w k43_eq ?_)
  simp only [k43]
  by_cases h : n = 13
  · subst h
    have e : nextP c y 13 = stepP c y 13 (IntKind.i64.wrap (y + 1)) 1 := by unfold nextP; rw [if_pos rfl]
    rw [e]
    have hs := stepP_ok c y 13 (IntKind.i64.wrap (y + 1)) 1
    simp only [encPE] at hs
    repeat' (first | (simp -implicitDefEqProofs only [ze, zd, simprocAttr, hs, encPE, ne_eq, not_true_eq_false]) | (with_reducible refine wgd_cases ?_ ?_ <;> intro hb) | (with_reducible refine wcond_cases ?_ ?_ <;> intro hb) | (with_reducible refine qd_i (by kernel_rfl) ?_) | (with_reducible refine W_itn_cases ?_ ?_; omega))
  · have e : nextP c y n = stepP c y n y (IntKind.i64.wrap (n + 1)) := by unfold nextP; rw [if_neg h]
    rw [e]
    have hs := stepP_ok c y n y (IntKind.i64.wrap (n + 1))
    simp only [encPE] at hs
    have g : decide (n = 13) = false := decide_eq_false h
    repeat' (first | (simp -implicitDefEqProofs only [ze, zd, simprocAttr, hs, g, encPE, ne_eq, not_true_eq_false]) | (with_reducible refine wgd_cases ?_ ?_ <;> intro hb) | (with_reducible refine wcond_cases ?_ ?_ <;> intro hb) | (with_reducible refine qd_i (by kernel_rfl) ?_) | (with_reducible refine W_itn_cases ?_ ?_; omega))
theorem isnan_ok (a : Int) : L.pl 93 [.i64 a] = some (.ret (.bool false)) := by
  refine W_of (pl_w k93_eq ?_)
  simp only [k93]
  repeat' (first | (simp -implicitDefEqProofs only [ze, zd, simprocAttr]) | (with_reducible refine wgd_cases ?_ ?_ <;> intro hb) | (with_reducible refine wcond_cases ?_ ?_ <;> intro hb) | (with_reducible refine qd_i (by kernel_rfl) ?_) | (with_reducible refine W_itn_cases ?_ ?_; omega))
  all_goals (refine ret_b ?_; simp_all)
theorem compare_ok (a b : Int) : L.pl 72 [.i64 a, .i64 b] = some (.ret (.i64 (if a < b then -1 else if b < a then 1 else 0))) := by
  refine W_of (pl_w k72_eq ?_)
  simp only [k72]
  repeat' (first | (simp -implicitDefEqProofs only [ze, zd, simprocAttr, isnan_ok]) | (with_reducible refine wgd_cases ?_ ?_ <;> intro hb) | (with_reducible refine wcond_cases ?_ ?_ <;> intro hb) | (with_reducible refine qd_i (by kernel_rfl) ?_) | (with_reducible refine W_itn_cases ?_ ?_; omega))
  all_goals (simp only [decide_eq_true_eq, decide_eq_false_iff_not] at *)
  all_goals (refine ret_i ?_; (repeat' split) <;> first | rfl | omega)
theorem cmpP_ok (y n y2 n2 : Int) : L.pl 46 [.agg [.i64 y, .i64 n], .agg [.i64 y2, .i64 n2]] = some (.ret (.i64 (cmpP y n y2 n2))) := by
  refine W_of (pl_w k46_eq ?_)
  simp only [k46]
  repeat' (first | (simp -implicitDefEqProofs only [ze, zd, simprocAttr, compare_ok]) | (with_reducible refine wgd_cases ?_ ?_ <;> intro hb) | (with_reducible refine wcond_cases ?_ ?_ <;> intro hb) | (with_reducible refine qd_i (by kernel_rfl) ?_) | (with_reducible refine W_itn_cases ?_ ?_; omega))
  all_goals (refine ret_i ?_; simp only [bne_iff_ne, ne_eq, Bool.not_eq_false, bne_eq_false_iff_eq, Bool.and_eq_true, Bool.and_eq_false_iff, decide_eq_true_eq, decide_eq_false_iff_not, Bool.not_eq_true', Bool.not_eq_false'] at *; unfold cmpP; (repeat' split) <;> first | rfl | omega)
end Go.Proofs.YthgmhlpjbednpaaDoor.Vm
set_option maxRecDepth 10000
set_option linter.unusedVariables false
set_option linter.unusedSimpArgs false
namespace Go.Proofs.YthgmhlpjbednpaaDoor.Vm
open Go Go.Proofs
theorem rleap_ok (y : Int) (h : 1900 ≤ y) : L.pl 105 [.i64 y] = some (.ret (.bool (leapZ y))) := by
  refine W_of (pl_w k105_eq ?_)
  simp only [k105]
  have h4 : y.tmod 4 = y % 4 := Int.tmod_eq_emod_of_nonneg (by omega)
  have h100 : y.tmod 100 = y % 100 := Int.tmod_eq_emod_of_nonneg (by omega)
  have h400 : y.tmod 400 = y % 400 := Int.tmod_eq_emod_of_nonneg (by omega)
  repeat' (first | (simp -implicitDefEqProofs only [ze, zd, simprocAttr, h4, h100, h400]) | (with_reducible refine wgd_cases ?_ ?_ <;> intro hb) | (with_reducible refine wcond_cases ?_ ?_ <;> intro hb) | (with_reducible refine qd_i (by kernel_rfl) ?_) | (with_reducible refine W_itn_cases ?_ ?_; omega))
  all_goals (refine ret_b ?_; simp_all [leapZ])
theorem rlength_i (y : Int) (h : 1900 ≤ y) (m : Int) (hm : 1 ≤ m) (hm2 : m ≤ 12) : L.pl 90 [.i64 y, .i64 m] = some (.ret (.i64 (lenM y m.toNat))) := by
  refine W_of (pl_w k90_eq ?_)
  simp only [k90]
  have hl := rleap_ok y h
  have w0 : IntKind.i64.wrap 0 = 0 := rfl
  have w1 : IntKind.i64.wrap 1 = 1 := rfl
  have w2 : IntKind.i64.wrap 2 = 2 := rfl
  have w3 : IntKind.i64.wrap 3 = 3 := rfl
  have w4 : IntKind.i64.wrap 4 = 4 := rfl
  have w5 : IntKind.i64.wrap 5 = 5 := rfl
  have w6 : IntKind.i64.wrap 6 = 6 := rfl
  have w7 : IntKind.i64.wrap 7 = 7 := rfl
  have w8 : IntKind.i64.wrap 8 = 8 := rfl
  have w9 : IntKind.i64.wrap 9 = 9 := rfl
  have w10 : IntKind.i64.wrap 10 = 10 := rfl
  have w11 : IntKind.i64.wrap 11 = 11 := rfl
  have c12 : m = 1 ∨ m = 2 ∨ m = 3 ∨ m = 4 ∨ m = 5 ∨ m = 6 ∨ m = 7 ∨ m = 8 ∨ m = 9 ∨ m = 10 ∨ m = 11 ∨ m = 12 := by omega
  rcases c12 with rfl | rfl | rfl | rfl | rfl | rfl | rfl | rfl | rfl | rfl | rfl | rfl
  · repeat' (first | (simp -implicitDefEqProofs only [ze, zd, simprocAttr, w0, w1, w2, w3, w4, w5, w6, w7, w8, w9, w10, w11]) | (with_reducible refine wgd_cases ?_ ?_ <;> intro hb) | (with_reducible refine wcond_cases ?_ ?_ <;> intro hb) | (with_reducible refine qd_i (by kernel_rfl) ?_) | (with_reducible refine W_itn_cases ?_ ?_; omega))
    rfl
  · cases hz : leapZ y with
    | true =>
      rw [hz] at hl
      repeat' (first | (simp -implicitDefEqProofs only [ze, zd, simprocAttr, hl]) | (with_reducible refine wgd_cases ?_ ?_ <;> intro hb) | (with_reducible refine wcond_cases ?_ ?_ <;> intro hb) | (with_reducible refine qd_i (by kernel_rfl) ?_) | (with_reducible refine W_itn_cases ?_ ?_; omega))
      refine ret_i ?_; simp [lenM, lp, hz]
    | false =>
      rw [hz] at hl
      repeat' (first | (simp -implicitDefEqProofs only [ze, zd, simprocAttr, hl, w0, w1, w2, w3, w4, w5, w6, w7, w8, w9, w10, w11]) | (with_reducible refine wgd_cases ?_ ?_ <;> intro hb) | (with_reducible refine wcond_cases ?_ ?_ <;> intro hb) | (with_reducible refine qd_i (by kernel_rfl) ?_) | (with_reducible refine W_itn_cases ?_ ?_; omega))
      refine ret_i ?_; simp [lenM, lp, hz]
  all_goals (repeat' (first | (simp -implicitDefEqProofs only [ze, zd, simprocAttr, w0, w1, w2, w3, w4, w5, w6, w7, w8, w9, w10, w11]) | (with_reducible refine wgd_cases ?_ ?_ <;> intro hb) | (with_reducible refine wcond_cases ?_ ?_ <;> intro hb) | (with_reducible refine qd_i (by kernel_rfl) ?_) | (with_reducible refine W_itn_cases ?_ ?_; omega)))
  all_goals rfl
theorem rlen_at (M : Nat) (hM : M < 3600) : L.pl 90 [.i64 (1900 + ((M / 12 : Nat) : Int)), .i64 (((M % 12 : Nat) : Int) + 1)] = some (.ret (.i64 (fm (M + 1) - fm M))) := by
  rw [rlength_i _ (by omega) _ (by omega) (by omega)]
  have e : (((M % 12 : Nat) : Int) + 1).toNat = M % 12 + 1 := by omega
  rw [e]
  refine congrArg some (ret_i ?_)
  simp only [fm]; omega
theorem rfirst_ok (K : Nat) (hK : K ≤ 3600) : L.pl 104 [.i64 K] = some (.ret (.i64 (fm K))) := by
  refine W_of (pl_w k104_eq ?_)
  simp only [k104]
  repeat' (first | (simp -implicitDefEqProofs only [ze, zd, simprocAttr]) | (with_reducible refine wgd_cases ?_ ?_ <;> intro hb) | (with_reducible refine wcond_cases ?_ ?_ <;> intro hb) | (with_reducible refine qd_i (by kernel_rfl) ?_) | (with_reducible refine W_itn_cases ?_ ?_; omega))
  refine loop_w (fun n tm st nx => ∃ j : Nat, n = K - j ∧ j ≤ K ∧ tm 4 = .i64 j ∧ tm 0 = .i64 K ∧ tm 3 = .i64 (fm j)) _ ⟨0, rfl, by omega, ?_, ?_, ?_⟩ ?_
  · simp -implicitDefEqProofs only [ze, zd, simprocAttr]; try rfl
  · simp -implicitDefEqProofs only [ze, zd, simprocAttr]
  · simp -implicitDefEqProofs only [ze, zd, simprocAttr]; try rfl
  rintro n tm st nx ⟨j, hn, hj, h4, h0, h3⟩
  simp only [k104_l0]
  by_cases hc : j < K
  · have hd : decide ((j : Int) < (K : Int)) = true := decide_eq_true (by omega)
    have d1 : (j : Int).tdiv 12 = ((j / 12 : Nat) : Int) := by rw [Int.tdiv_eq_ediv_of_nonneg (by omega)]; omega
    have d2 : (j : Int).tmod 12 = ((j % 12 : Nat) : Int) := by rw [Int.tmod_eq_emod_of_nonneg (by omega)]; omega
    have w1 : IntKind.i64.wrap ((j / 12 : Nat) : Int) = ((j / 12 : Nat) : Int) := wrap_i64 (by omega) (by omega)
    have w2 : IntKind.i64.wrap (1900 + ((j / 12 : Nat) : Int)) = 1900 + ((j / 12 : Nat) : Int) := wrap_i64 (by omega) (by omega)
    have w3 : IntKind.i64.wrap (((j % 12 : Nat) : Int) + 1) = ((j % 12 : Nat) : Int) + 1 := wrap_i64 (by omega) (by omega)
    have hf := fm_add 0 j
    have hf1 := fm_lt j
    have hf0 : fm 0 = 0 := rfl
    rw [Nat.zero_add, hf0] at hf
    have w4 : IntKind.i64.wrap (fm j + (fm (j + 1) - fm j)) = fm (j + 1) := by rw [wrap_i64 (by omega) (by omega)]; omega
    have hl := rlen_at j (by omega)
    repeat' (first | (simp -implicitDefEqProofs only [ze, zd, simprocAttr, h4, h0, h3, hd, d1, d2, w1, w2, w3, hl, w4]) | (with_reducible refine wgd_cases ?_ ?_ <;> intro hb) | (with_reducible refine wcond_cases ?_ ?_ <;> intro hb) | (with_reducible refine qd_i (by kernel_rfl) ?_) | (with_reducible refine W_itn_cases ?_ ?_; omega))
    exact ⟨K - (j + 1), by omega, j + 1, rfl, by omega, up64 (by omega), rfl⟩
  · have hd : decide ((j : Int) < (K : Int)) = false := decide_eq_false (by omega)
    have : j = K := by omega
    subst this
    repeat' (first | (simp -implicitDefEqProofs only [ze, zd, simprocAttr, h4, h0, h3, hd, k104_t0]) | (with_reducible refine wgd_cases ?_ ?_ <;> intro hb) | (with_reducible refine wcond_cases ?_ ?_ <;> intro hb) | (with_reducible refine qd_i (by kernel_rfl) ?_) | (with_reducible refine W_itn_cases ?_ ?_; omega))
theorem rof_late (y m d : Int) (hy : 2199 < y) : L.pl 89 [.agg [.i64 y, .i64 m, .i64 d]] = some (.ret (.tup [.i64 0, .i64 11])) := by
  refine W_of (pl_w k89_eq ?_)
  simp only [k89]
  have h1 : decide (y < 1900) = false := decide_eq_false (by omega)
  have h2 : decide (2199 < y) = true := decide_eq_true hy
  repeat' (first | (simp -implicitDefEqProofs only [ze, zd, simprocAttr, h1, h2]) | (with_reducible refine wgd_cases ?_ ?_ <;> intro hb) | (with_reducible refine wcond_cases ?_ ?_ <;> intro hb) | (with_reducible refine qd_i (by kernel_rfl) ?_) | (with_reducible refine W_itn_cases ?_ ?_; omega))
theorem rof_yes (k : Nat) (m d : Int) (hk : k < 300) (hm : 1 ≤ m) (hm2 : m ≤ 12) (hd : 1 ≤ d) (hd2 : d ≤ lenM (1900 + (k : Int)) m.toNat) : L.pl 89 [.agg [.i64 (1900 + (k : Int)), .i64 m, .i64 d]] = some (.ret (.tup [.i64 (fm (12 * k + (m - 1).toNat) + d - 1), .i64 0])) := by
  refine W_of (pl_w k89_eq ?_)
  simp only [k89]
  have g1 : decide (1900 + (k : Int) < 1900) = false := decide_eq_false (by omega)
  have g2 : decide (2199 < 1900 + (k : Int)) = false := decide_eq_false (by omega)
  have g3 : decide (d < 1) = false := decide_eq_false (by omega)
  have g4 : decide (lenM (1900 + (k : Int)) m.toNat < d) = false := decide_eq_false (by omega)
  have hlen := rlength_i (1900 + (k : Int)) (by omega) m hm hm2
  have hb31 := lenM_pos (1900 + (k : Int)) m.toNat (by omega) (by omega)
  have hf := fm_add 0 (12 * k + (m - 1).toNat)
  have hf0 : fm 0 = 0 := rfl
  rw [Nat.zero_add, hf0] at hf
  have w1 : IntKind.i64.wrap (1900 + (k : Int) - 1900) = k := by rw [wrap_i64 (by omega) (by omega)]; omega
  have w2 : IntKind.i64.wrap ((k : Int) * 12) = 12 * k := by rw [wrap_i64 (by omega) (by omega)]; omega
  have w3 : IntKind.i64.wrap (12 * (k : Int) + m) = 12 * k + m := wrap_i64 (by omega) (by omega)
  have w4 : IntKind.i64.wrap (12 * (k : Int) + m - 1) = ((12 * k + (m - 1).toNat : Nat) : Int) := by rw [wrap_i64 (by omega) (by omega)]; omega
  have w5 : IntKind.i64.wrap (fm (12 * k + (m - 1).toNat) + d) = fm (12 * k + (m - 1).toNat) + d := wrap_i64 (by omega) (by omega)
  have w6 : IntKind.i64.wrap (fm (12 * k + (m - 1).toNat) + d - 1) = fm (12 * k + (m - 1).toNat) + d - 1 := wrap_i64 (by omega) (by omega)
  have hfi := rfirst_ok (12 * k + (m - 1).toNat) (by omega)
  repeat' (first | (simp -implicitDefEqProofs only [ze, zd, simprocAttr, g1, g2, g3, g4, hlen, w1, w2, w3, w4, w5, w6, hfi]) | (with_reducible refine wgd_cases ?_ ?_ <;> intro hb) | (with_reducible refine wcond_cases ?_ ?_ <;> intro hb) | (with_reducible refine qd_i (by kernel_rfl) ?_) | (with_reducible refine W_itn_cases ?_ ?_; omega))
theorem ris_ok (n : Int) : L.pl 106 [.i64 n] = some (.ret (.bool (dayS n))) := by
  refine W_of (pl_w k106_eq ?_)
  simp only [k106]
  repeat' (first | (simp -implicitDefEqProofs only [ze, zd, simprocAttr]) | (with_reducible refine wgd_cases ?_ ?_ <;> intro hb) | (with_reducible refine wcond_cases ?_ ?_ <;> intro hb) | (with_reducible refine qd_i (by kernel_rfl) ?_) | (with_reducible refine W_itn_cases ?_ ?_; omega))
  all_goals (refine ret_b (Bool.eq_iff_iff.mpr ?_); simp_all [dayS]; try omega)
theorem rdate_no (n : Int) (h : dayS n = false) : L.pl 94 [.i64 n] = some (.ret (.tup [.agg [.i64 0, .i64 0, .i64 0], .i64 11])) := by
  refine W_of (pl_w k94_eq ?_)
  simp only [k94]
  repeat' (first | (simp -implicitDefEqProofs only [ze, zd, simprocAttr, ris_ok, h, ne_eq, not_true_eq_false]) | (with_reducible refine wgd_cases ?_ ?_ <;> intro hb) | (with_reducible refine wcond_cases ?_ ?_ <;> intro hb) | (with_reducible refine qd_i (by kernel_rfl) ?_) | (with_reducible refine W_itn_cases ?_ ?_; omega))
theorem rdate_ok (n : Int) (M : Nat) (h : isD n M) : L.pl 94 [.i64 n] = some (.ret (.tup [.agg [.i64 (1900 + (M / 12 : Nat)), .i64 ((M % 12 + 1 : Nat) : Int), .i64 (n - fm M + 1)], .i64 0])) := by
  have hday := isD_day h
  have hn : 0 ≤ n ∧ n ≤ 109572 := by simpa [dayS] using hday
  have hM := h.2.2
  refine W_of (pl_w k94_eq ?_)
  simp only [k94]
  repeat' (first | (simp -implicitDefEqProofs only [ze, zd, simprocAttr, ris_ok, hday, ne_eq, not_true_eq_false]) | (with_reducible refine wgd_cases ?_ ?_ <;> intro hb) | (with_reducible refine wcond_cases ?_ ?_ <;> intro hb) | (with_reducible refine qd_i (by kernel_rfl) ?_) | (with_reducible refine W_itn_cases ?_ ?_; omega))
  refine loop_w (fun k tm st nx => ∃ j : Nat, k = M - j ∧ j ≤ M ∧ tm 4 = .i64 j ∧ tm 5 = .i64 (n - fm j) ∧ tm 2 = .ptr 8 0 ∧ st 8 = some (.cells [.i64 0, .i64 0, .i64 0])) _ ⟨0, rfl, by omega, ?_, ?_, ?_, ?_⟩ ?_
  · simp -implicitDefEqProofs only [ze, zd, simprocAttr]; try rfl
  · simp -implicitDefEqProofs only [ze, zd, simprocAttr]
    have : fm 0 = 0 := rfl
    rw [this, Int.sub_zero]
  · simp -implicitDefEqProofs only [ze, zd, simprocAttr]
  · simp -implicitDefEqProofs only [ze, zd, simprocAttr]; try rfl
  rintro k tm st nx ⟨j, hk, hj, h4, h5, h2, hst⟩
  simp only [k94_l0]
  have d1 : (j : Int).tdiv 12 = ((j / 12 : Nat) : Int) := by rw [Int.tdiv_eq_ediv_of_nonneg (by omega)]; omega
  have d2 : (j : Int).tmod 12 = ((j % 12 : Nat) : Int) := by rw [Int.tmod_eq_emod_of_nonneg (by omega)]; omega
  have w1 : IntKind.i64.wrap ((j / 12 : Nat) : Int) = ((j / 12 : Nat) : Int) := wrap_i64 (by omega) (by omega)
  have w2 : IntKind.i64.wrap (1900 + ((j / 12 : Nat) : Int)) = 1900 + ((j / 12 : Nat) : Int) := wrap_i64 (by omega) (by omega)
  have w3 : IntKind.i64.wrap (((j % 12 : Nat) : Int) + 1) = ((j % 12 : Nat) : Int) + 1 := wrap_i64 (by omega) (by omega)
  have hf1 := fm_lt j
  have hf2 := fm_nonneg j
  have hf3 := fm_mono hj
  have hfM := h.1
  have hl := rlen_at j (by omega)
  by_cases hc : j < M
  · have hf4 := fm_mono (show j + 1 ≤ M from hc)
    have hd : decide (fm (j + 1) - fm j ≤ n - fm j) = true := decide_eq_true (by omega)
    have w4 : IntKind.i64.wrap (n - fm j - (fm (j + 1) - fm j)) = n - fm (j + 1) := by rw [wrap_i64 (by omega) (by omega)]; omega
    repeat' (first | (simp -implicitDefEqProofs only [ze, zd, simprocAttr, h4, h5, h2, hst, hd, d1, d2, w1, w2, w3, hl, w4]) | (with_reducible refine wgd_cases ?_ ?_ <;> intro hb) | (with_reducible refine wcond_cases ?_ ?_ <;> intro hb) | (with_reducible refine qd_i (by kernel_rfl) ?_) | (with_reducible refine W_itn_cases ?_ ?_; omega))
    exact ⟨M - (j + 1), by omega, j + 1, rfl, by omega, up64 (by omega), rfl⟩
  · have : j = M := by omega
    subst this
    have hlt := h.2.1
    have hd : decide (fm (j + 1) - fm j ≤ n - fm j) = false := decide_eq_false (by omega)
    have w4 : IntKind.i64.wrap (n - fm j + 1) = n - fm j + 1 := wrap_i64 (by omega) (by omega)
    repeat' (first | (simp -implicitDefEqProofs only [ze, zd, simprocAttr, h4, h5, h2, hst, hd, d1, d2, w1, w2, w3, hl, w4, k94_t0, ne_eq, not_true_eq_false]) | (with_reducible refine wgd_cases ?_ ?_ <;> intro hb) | (with_reducible refine wcond_cases ?_ ?_ <;> intro hb) | (with_reducible refine qd_i (by kernel_rfl) ?_) | (with_reducible refine W_itn_cases ?_ ?_; omega))
    rfl
theorem rright_ok (c : Int) : L.pl 32 [.agg [.i64 c]] = some (.ret (.bool (rightC c))) := by
  refine W_of (pl_w k32_eq ?_)
  simp only [k32]
  repeat' (first | (simp -implicitDefEqProofs only [ze, zd, simprocAttr]) | (with_reducible refine wgd_cases ?_ ?_ <;> intro hb) | (with_reducible refine wcond_cases ?_ ?_ <;> intro hb) | (with_reducible refine qd_i (by kernel_rfl) ?_) | (with_reducible refine W_itn_cases ?_ ?_; omega))
  all_goals (refine ret_b (Bool.eq_iff_iff.mpr ?_); simp_all [rightC]; try omega)
theorem rmonth_ok (c y a : Int) (hc : 1 ≤ c) (hc2 : c ≤ 12) (ha : 0 ≤ a) (ha2 : a ≤ 11) :
    L.pl 63 [.agg [.i64 c], .i64 y, .i64 a] = some (.ret (if 1900 ≤ y ∧ y ≤ 2199 ∧ yM c y + a.toNat < 3600 then .tup [.i64 (fm (yM c y + a.toNat)), .i64 (fm (yM c y + a.toNat + 1) - 1), .bool true] else .tup [.i64 0, .i64 0, .bool false])) := by
  refine W_of (pl_w k63_eq ?_)
  simp only [k63]
  by_cases hy : 1900 ≤ y ∧ y ≤ 2199
  · obtain ⟨hy, hy2⟩ := hy
    have g1 : decide (y < 1900) = false := decide_eq_false (by omega)
    have g2 : decide (2199 < y) = false := decide_eq_false (by omega)
    have w1 : IntKind.i64.wrap (c - 1) = c - 1 := wrap_i64 (by omega) (by omega)
    have w2 : IntKind.i64.wrap (c - 1 + a) = c - 1 + a := wrap_i64 (by omega) (by omega)
    have hK : (yM c y : Int) = 12 * (y - 1900) + c - 1 := by unfold yM; omega
    -- the month's year and number
    have main : ∀ (Y m : Int), 12 * (Y - 1900) + m = (yM c y + a.toNat : Nat) → 0 ≤ m → m ≤ 11 → 1900 ≤ Y →
        (yM c y + a.toNat < 3600 → L.pl 89 [.agg [.i64 Y, .i64 (m + 1), .i64 1]] = some (.ret (.tup [.i64 (fm (yM c y + a.toNat)), .i64 0])) ∧ L.pl 89 [.agg [.i64 Y, .i64 (m + 1), .i64 (lenM Y (m + 1).toNat)]] = some (.ret (.tup [.i64 (fm (yM c y + a.toNat + 1) - 1), .i64 0]))) ∧
        (¬ yM c y + a.toNat < 3600 → ∀ d, L.pl 89 [.agg [.i64 Y, .i64 (m + 1), .i64 d]] = some (.ret (.tup [.i64 0, .i64 11]))) := by
      intro Y m he hm hm2 hY
      refine ⟨fun hlt => ?_, fun hlt d => rof_late _ _ _ (by omega)⟩
      have hYe : Y = 1900 + (((Y - 1900).toNat : Nat) : Int) := by omega
      have hl := lenM_pos Y (m + 1).toNat (by omega) (by omega)
      have ek : 12 * (Y - 1900).toNat + (m + 1 - 1).toNat = yM c y + a.toNat := by omega
      have h1 := rof_yes (Y - 1900).toNat (m + 1) 1 (by omega) (by omega) (by omega) (by omega) (by rw [← hYe]; omega)
      have h2 := rof_yes (Y - 1900).toNat (m + 1) (lenM Y (m + 1).toNat) (by omega) (by omega) (by omega) (by omega) (by rw [← hYe]; exact Int.le_refl _)
      rw [← hYe, ek] at h1 h2
      have hfm := fm_at (Y - 1900).toNat m.toNat (by omega)
      have e1 : 12 * (Y - 1900).toNat + (m.toNat + 1) = yM c y + a.toNat + 1 := by omega
      have e2 : 12 * (Y - 1900).toNat + m.toNat = yM c y + a.toNat := by omega
      have e3 : m.toNat + 1 = (m + 1).toNat := by omega
      rw [e1, e2, ← hYe, e3] at hfm
      rw [Int.add_sub_cancel] at h1
      refine ⟨h1, ?_⟩
      rw [hfm, h2]
    by_cases hm : 12 ≤ c - 1 + a
    · have g3 : decide (12 ≤ c - 1 + a) = true := decide_eq_true hm
      have w3 : IntKind.i64.wrap (c - 1 + a - 12) = c - 1 + a - 12 := wrap_i64 (by omega) (by omega)
      have w4 : IntKind.i64.wrap (y + 1) = y + 1 := wrap_i64 (by omega) (by omega)
      have w5 : IntKind.i64.wrap (c - 1 + a - 12 + 1) = c - 1 + a - 12 + 1 := wrap_i64 (by omega) (by omega)
      obtain ⟨m1, m2⟩ := main (y + 1) (c - 1 + a - 12) (by omega) (by omega) (by omega) (by omega)
      have hl := rlength_i (y + 1) (by omega) (c - 1 + a - 12 + 1) (by omega) (by omega)
      by_cases hlt : yM c y + a.toNat < 3600
      · rw [if_pos ⟨hy, hy2, hlt⟩]
        obtain ⟨m3, m4⟩ := m1 hlt
        repeat' (first | (simp -implicitDefEqProofs only [ze, zd, simprocAttr, g1, g2, g3, w1, w2, w3, w4, w5, hl, m3, m4, ne_eq, not_true_eq_false]) | (with_reducible refine wgd_cases ?_ ?_ <;> intro hb) | (with_reducible refine wcond_cases ?_ ?_ <;> intro hb) | (with_reducible refine qd_i (by kernel_rfl) ?_) | (with_reducible refine W_itn_cases ?_ ?_; omega))
      · rw [if_neg (fun h => hlt h.2.2)]
        have m5 := m2 hlt
        repeat' (first | (simp -implicitDefEqProofs only [ze, zd, simprocAttr, g1, g2, g3, w1, w2, w3, w4, w5, hl, m5, ne_eq, not_true_eq_false]) | (with_reducible refine wgd_cases ?_ ?_ <;> intro hb) | (with_reducible refine wcond_cases ?_ ?_ <;> intro hb) | (with_reducible refine qd_i (by kernel_rfl) ?_) | (with_reducible refine W_itn_cases ?_ ?_; omega))
    · have g3 : decide (12 ≤ c - 1 + a) = false := decide_eq_false hm
      have w5 : IntKind.i64.wrap (c - 1 + a + 1) = c - 1 + a + 1 := wrap_i64 (by omega) (by omega)
      obtain ⟨m1, m2⟩ := main y (c - 1 + a) (by omega) (by omega) (by omega) (by omega)
      have hl := rlength_i y (by omega) (c - 1 + a + 1) (by omega) (by omega)
      have hlt : yM c y + a.toNat < 3600 := by omega
      rw [if_pos ⟨hy, hy2, hlt⟩]
      obtain ⟨m3, m4⟩ := m1 hlt
      repeat' (first | (simp -implicitDefEqProofs only [ze, zd, simprocAttr, g1, g2, g3, w1, w2, w5, hl, m3, m4, ne_eq, not_true_eq_false]) | (with_reducible refine wgd_cases ?_ ?_ <;> intro hb) | (with_reducible refine wcond_cases ?_ ?_ <;> intro hb) | (with_reducible refine qd_i (by kernel_rfl) ?_) | (with_reducible refine W_itn_cases ?_ ?_; omega))
  · rw [if_neg (fun h => hy ⟨h.1, h.2.1⟩)]
    repeat' (first | (simp -implicitDefEqProofs only [ze, zd, simprocAttr]) | (with_reducible refine wgd_cases ?_ ?_ <;> intro hb) | (with_reducible refine wcond_cases ?_ ?_ <;> intro hb) | (with_reducible refine qd_i (by kernel_rfl) ?_) | (with_reducible refine W_itn_cases ?_ ?_; omega))
    all_goals (simp only [decide_eq_true_eq, decide_eq_false_iff_not] at *; exfalso; omega)
end Go.Proofs.YthgmhlpjbednpaaDoor.Vm
set_option maxRecDepth 10000
set_option linter.unusedVariables false
set_option linter.unusedSimpArgs false
namespace Go.Proofs.YthgmhlpjbednpaaDoor.Vm
open Go Go.Proofs
theorem yM_eq {c y : Int} (hc : 1 ≤ c) (hy : 1900 ≤ y) : (yM c y : Int) = 12 * (y - 1900) + c - 1 := by unfold yM; omega
theorem ryear_ok (c y : Int) (hc : 1 ≤ c) (hc2 : c ≤ 12) : L.pl 88 [.agg [.i64 c], .i64 y] = some (.ret (.bool (yrS c y))) := by
  refine W_of (pl_w k88_eq ?_)
  simp only [k88]
  have m0 := rmonth_ok c y 0 hc hc2 (by omega) (by omega)
  have m11 := rmonth_ok c y 11 hc hc2 (by omega) (by omega)
  have e0 : yM c y + (0 : Int).toNat = yM c y := rfl
  have e11 : yM c y + (11 : Int).toNat = yM c y + 11 := rfl
  rw [e0] at m0
  rw [e11] at m11
  by_cases h : 1900 ≤ y ∧ y ≤ 2199
  · have hK := yM_eq hc h.1
    rw [if_pos ⟨h.1, h.2, by omega⟩] at m0
    by_cases h2 : yM c y + 11 < 3600
    · rw [if_pos ⟨h.1, h.2, h2⟩] at m11
      have hyr : yrS c y = true := by simp only [yrS, Bool.and_eq_true, decide_eq_true_eq]; omega
      rw [hyr]
      repeat' (first | (simp -implicitDefEqProofs only [ze, zd, simprocAttr, m0, m11]) | (with_reducible refine wgd_cases ?_ ?_ <;> intro hb) | (with_reducible refine wcond_cases ?_ ?_ <;> intro hb) | (with_reducible refine qd_i (by kernel_rfl) ?_) | (with_reducible refine W_itn_cases ?_ ?_; omega))
    · rw [if_neg (fun q => h2 q.2.2)] at m11
      have hyr : yrS c y = false := by simp only [yrS, Bool.and_eq_false_iff, decide_eq_false_iff_not]; omega
      rw [hyr]
      repeat' (first | (simp -implicitDefEqProofs only [ze, zd, simprocAttr, m0, m11]) | (with_reducible refine wgd_cases ?_ ?_ <;> intro hb) | (with_reducible refine wcond_cases ?_ ?_ <;> intro hb) | (with_reducible refine qd_i (by kernel_rfl) ?_) | (with_reducible refine W_itn_cases ?_ ?_; omega))
  · have hyr : yrS c y = false := by simp only [yrS, Bool.and_eq_false_iff, decide_eq_false_iff_not]; omega
    rw [if_neg (fun q => h ⟨q.1, q.2.1⟩)] at m0 m11
    rw [hyr]
    repeat' (first | (simp -implicitDefEqProofs only [ze, zd, simprocAttr, m0, m11]) | (with_reducible refine wgd_cases ?_ ?_ <;> intro hb) | (with_reducible refine wcond_cases ?_ ?_ <;> intro hb) | (with_reducible refine qd_i (by kernel_rfl) ?_) | (with_reducible refine W_itn_cases ?_ ?_; omega))
theorem rexists_ok (c y n : Int) (hc : 1 ≤ c) (hc2 : c ≤ 12) : L.pl 62 [.agg [.i64 c], .agg [.i64 y, .i64 n]] = some (.ret (.bool (exS c y n))) := by
  refine W_of (pl_w k62_eq ?_)
  simp only [k62]
  have hy := ryear_ok c y hc hc2
  repeat' (first | (simp -implicitDefEqProofs only [ze, zd, simprocAttr, hy]) | (with_reducible refine wgd_cases ?_ ?_ <;> intro hb) | (with_reducible refine wcond_cases ?_ ?_ <;> intro hb) | (with_reducible refine qd_i (by kernel_rfl) ?_) | (with_reducible refine W_itn_cases ?_ ?_; omega))
  all_goals (refine ret_b (Bool.eq_iff_iff.mpr ?_); simp_all [exS]; try (intros; omega))
theorem rspan_ok (c y n : Int) : L.pl 33 [.agg [.i64 c], .agg [.i64 y, .i64 n]] = some (.ret (.tup [.i64 (spanS c y n).1, .i64 (spanS c y n).2.1, .i64 (spanS c y n).2.2])) := by
  refine W_of (pl_w k33_eq ?_)
  simp only [k33]
  cases hr : rightC c with
  | false =>
    have e : spanS c y n = (0, 0, 2) := by simp [spanS, hr]
    rw [e]
    repeat' (first | (simp -implicitDefEqProofs only [ze, zd, simprocAttr, rright_ok, hr]) | (with_reducible refine wgd_cases ?_ ?_ <;> intro hb) | (with_reducible refine wcond_cases ?_ ?_ <;> intro hb) | (with_reducible refine qd_i (by kernel_rfl) ?_) | (with_reducible refine W_itn_cases ?_ ?_; omega))
  | true =>
    obtain ⟨hc, hc2⟩ := rightC_b hr
    have hex := rexists_ok c y n hc hc2
    cases hx : exS c y n with
    | false =>
      have e : spanS c y n = (0, 0, 16) := by simp [spanS, hr, hx]
      rw [e]
      rw [hx] at hex
      repeat' (first | (simp -implicitDefEqProofs only [ze, zd, simprocAttr, rright_ok, hr, hex]) | (with_reducible refine wgd_cases ?_ ?_ <;> intro hb) | (with_reducible refine wcond_cases ?_ ?_ <;> intro hb) | (with_reducible refine qd_i (by kernel_rfl) ?_) | (with_reducible refine W_itn_cases ?_ ?_; omega))
    | true =>
      rw [hx] at hex
      obtain ⟨hy, hn, hn2⟩ := exS_b hx
      obtain ⟨y1, y2, y3⟩ := yrS_b hy
      have hK := yM_eq hc y1
      by_cases h13 : n = 13
      · subst h13
        have e : spanS c y 13 = (lastS c y, lastS c y, 0) := by simp [spanS, hr, hx]
        rw [e]
        have hm := rmonth_ok c y 11 hc hc2 (by omega) (by omega)
        have e11 : yM c y + (11 : Int).toNat = yM c y + 11 := rfl
        rw [e11, if_pos ⟨y1, y2, by omega⟩] at hm
        repeat' (first | (simp -implicitDefEqProofs only [ze, zd, simprocAttr, rright_ok, hr, hex, hm]) | (with_reducible refine wgd_cases ?_ ?_ <;> intro hb) | (with_reducible refine wcond_cases ?_ ?_ <;> intro hb) | (with_reducible refine qd_i (by kernel_rfl) ?_) | (with_reducible refine W_itn_cases ?_ ?_; omega))
        rfl
      · have e : spanS c y n = (fm (yM c y + (n - 1).toNat), fm (yM c y + (n - 1).toNat + 1) - 1, 0) := by simp [spanS, hr, hx, h13]
        rw [e]
        have g1 : decide (n = 13) = false := decide_eq_false h13
        have w1 : IntKind.i64.wrap (n - 1) = n - 1 := wrap_i64 (by omega) (by omega)
        have hm := rmonth_ok c y (n - 1) hc hc2 (by omega) (by omega)
        rw [if_pos ⟨y1, y2, by omega⟩] at hm
        repeat' (first | (simp -implicitDefEqProofs only [ze, zd, simprocAttr, rright_ok, hr, hex, g1, w1, hm]) | (with_reducible refine wgd_cases ?_ ?_ <;> intro hb) | (with_reducible refine wcond_cases ?_ ?_ <;> intro hb) | (with_reducible refine qd_i (by kernel_rfl) ?_) | (with_reducible refine W_itn_cases ?_ ?_; omega))
theorem rofP_ok (c n : Int) : L.pl 73 [.agg [.i64 c], .i64 n] = some (.ret (encPE (ofP c n))) := by
  refine W_of (pl_w k73_eq ?_)
  simp only [k73]
  cases hr : rightC c with
  | false =>
    have e : ofP c n = ((0, 0), 2) := by simp [ofP, hr]
    rw [e]
    repeat' (first | (simp -implicitDefEqProofs only [ze, zd, simprocAttr, rright_ok, hr, encPE, ne_eq, not_true_eq_false]) | (with_reducible refine wgd_cases ?_ ?_ <;> intro hb) | (with_reducible refine wcond_cases ?_ ?_ <;> intro hb) | (with_reducible refine qd_i (by kernel_rfl) ?_) | (with_reducible refine W_itn_cases ?_ ?_; omega))
  | true =>
    obtain ⟨hc, hc2⟩ := rightC_b hr
    cases hday : dayS n with
    | false =>
      have e : ofP c n = ((0, 0), 11) := by simp [ofP, hr, hday]
      rw [e]
      repeat' (first | (simp -implicitDefEqProofs only [ze, zd, simprocAttr, rright_ok, hr, rdate_no n hday, encPE, ne_eq, not_true_eq_false]) | (with_reducible refine wgd_cases ?_ ?_ <;> intro hb) | (with_reducible refine wcond_cases ?_ ?_ <;> intro hb) | (with_reducible refine qd_i (by kernel_rfl) ?_) | (with_reducible refine W_itn_cases ?_ ?_; omega))
    | true =>
      have hM := isD_mon hday
      have hd := rdate_ok n _ hM
      have hlt := hM.2.2
      have hex := ryear_ok c (perS c (monOf n)).1 hc hc2
      generalize hM0 : monOf n = M at *
      have w1 : IntKind.i64.wrap (((M % 12 + 1 : Nat) : Int) - c) = ((M % 12 + 1 : Nat) : Int) - c := wrap_i64 (by omega) (by omega)
      have w2 : IntKind.i64.wrap (((M % 12 + 1 : Nat) : Int) - c + 1) = ((M % 12 + 1 : Nat) : Int) - c + 1 := wrap_i64 (by omega) (by omega)
      have w3 : IntKind.i64.wrap (((M % 12 + 1 : Nat) : Int) - c + 13) = ((M % 12 + 1 : Nat) : Int) - c + 13 := wrap_i64 (by omega) (by omega)
      have w4 : IntKind.i64.wrap (1900 + ((M / 12 : Nat) : Int) - 1) = 1900 + ((M / 12 : Nat) : Int) - 1 := wrap_i64 (by omega) (by omega)
      by_cases h1 : ((M % 12 + 1 : Nat) : Int) < c
      · have g1 : decide (((M % 12 + 1 : Nat) : Int) < c) = true := decide_eq_true h1
        have e1 : 1900 + ((M / 12 : Nat) : Int) - 1 = (perS c M).1 := by unfold perS; omega
        have e2 : ((M % 12 + 1 : Nat) : Int) - c + 13 = (perS c M).2 := by unfold perS; omega
        rw [← e1] at hex
        cases hy : yrS c (perS c M).1 with
        | true =>
          have e : ofP c n = (perS c M, 0) := by simp [ofP, hr, hday, hM0, hy]
          rw [e]
          rw [e1, hy, ← e1] at hex
          repeat' (first | (simp -implicitDefEqProofs only [ze, zd, simprocAttr, rright_ok, hr, hd, w1, w2, w3, w4, g1, hex, encPE, ne_eq, not_true_eq_false]) | (with_reducible refine wgd_cases ?_ ?_ <;> intro hb) | (with_reducible refine wcond_cases ?_ ?_ <;> intro hb) | (with_reducible refine qd_i (by kernel_rfl) ?_) | (with_reducible refine W_itn_cases ?_ ?_; omega))
          rw [e1, e2]
        | false =>
          have e : ofP c n = ((0, 0), 16) := by simp [ofP, hr, hday, hM0, hy]
          rw [e]
          rw [e1, hy, ← e1] at hex
          repeat' (first | (simp -implicitDefEqProofs only [ze, zd, simprocAttr, rright_ok, hr, hd, w1, w2, w3, w4, g1, hex, encPE, ne_eq, not_true_eq_false]) | (with_reducible refine wgd_cases ?_ ?_ <;> intro hb) | (with_reducible refine wcond_cases ?_ ?_ <;> intro hb) | (with_reducible refine qd_i (by kernel_rfl) ?_) | (with_reducible refine W_itn_cases ?_ ?_; omega))
      · have g1 : decide (((M % 12 + 1 : Nat) : Int) < c) = false := decide_eq_false h1
        have e1 : 1900 + ((M / 12 : Nat) : Int) = (perS c M).1 := by unfold perS; omega
        have e2 : ((M % 12 + 1 : Nat) : Int) - c + 1 = (perS c M).2 := by unfold perS; omega
        rw [← e1] at hex
        cases hy : yrS c (perS c M).1 with
        | true =>
          have e : ofP c n = (perS c M, 0) := by simp [ofP, hr, hday, hM0, hy]
          rw [e]
          rw [e1, hy, ← e1] at hex
          repeat' (first | (simp -implicitDefEqProofs only [ze, zd, simprocAttr, rright_ok, hr, hd, w1, w2, g1, hex, encPE, ne_eq, not_true_eq_false]) | (with_reducible refine wgd_cases ?_ ?_ <;> intro hb) | (with_reducible refine wcond_cases ?_ ?_ <;> intro hb) | (with_reducible refine qd_i (by kernel_rfl) ?_) | (with_reducible refine W_itn_cases ?_ ?_; omega))
          rw [e1, e2]
        | false =>
          have e : ofP c n = ((0, 0), 16) := by simp [ofP, hr, hday, hM0, hy]
          rw [e]
          rw [e1, hy, ← e1] at hex
          repeat' (first | (simp -implicitDefEqProofs only [ze, zd, simprocAttr, rright_ok, hr, hd, w1, w2, g1, hex, encPE, ne_eq, not_true_eq_false]) | (with_reducible refine wgd_cases ?_ ?_ <;> intro hb) | (with_reducible refine wcond_cases ?_ ?_ <;> intro hb) | (with_reducible refine qd_i (by kernel_rfl) ?_) | (with_reducible refine W_itn_cases ?_ ?_; omega))
theorem ofP_bad {c n : Int} (h : (ofP c n).2 ≠ 0) : (ofP c n).1 = (0, 0) := by
  unfold ofP at h ⊢
  by_cases h1 : rightC c = false
  · rw [if_pos h1]
  · rw [if_neg h1] at h ⊢
    by_cases h2 : dayS n = false
    · rw [if_pos h2]
    · rw [if_neg h2] at h ⊢
      by_cases h3 : yrS c (perS c (monOf n)).1 = false
      · rw [if_pos h3]
      · rw [if_neg h3] at h; exact absurd rfl h
theorem rforP_ok (c n k : Int) : L.pl 47 [.agg [.i64 c], .i64 n, .i64 k] = some (.ret (encPE (forP c n k))) := by
  refine W_of (pl_w k47_eq ?_)
  simp only [k47]
  have ho := rofP_ok c n
  by_cases h0 : (ofP c n).2 = 0
  · obtain ⟨hr, hd, hy, _⟩ := ofP_good h0
    obtain ⟨hc, hc2⟩ := rightC_b hr
    obtain ⟨y1, y2, y3⟩ := yrS_b hy
    have hK := yM_eq hc y1
    have hm := rmonth_ok c (ofP c n).1.1 11 hc hc2 (by omega) (by omega)
    have e11 : yM c (ofP c n).1.1 + (11 : Int).toNat = yM c (ofP c n).1.1 + 11 := rfl
    rw [e11, if_pos ⟨y1, y2, by omega⟩] at hm
    have el : fm (yM c (ofP c n).1.1 + 11 + 1) - 1 = lastS c (ofP c n).1.1 := rfl
    rw [el] at hm
    simp only [encPE, h0] at ho
    have gs : decide (n = lastS c (ofP c n).1.1) = decide (lastS c (ofP c n).1.1 = n) := by
      by_cases h : n = lastS c (ofP c n).1.1
      · rw [decide_eq_true h, decide_eq_true h.symm]
      · rw [decide_eq_false h, decide_eq_false (fun q => h q.symm)]
    by_cases hk : k = 3 ∨ k = 4
    · by_cases hl : lastS c (ofP c n).1.1 = n
      · have e : forP c n k = (((ofP c n).1.1, 13), 0) := by
          unfold forP; rw [if_neg (by simp [h0]), if_pos ⟨hk, hl⟩]
        rw [e]
        have g1 : decide (n = lastS c (ofP c n).1.1) = true := by rw [gs]; exact decide_eq_true hl
        rcases hk with rfl | rfl
        · repeat' (first | (simp -implicitDefEqProofs only [ze, zd, simprocAttr, ho, hm, g1, encPE, ne_eq, not_true_eq_false]) | (with_reducible refine wgd_cases ?_ ?_ <;> intro hb) | (with_reducible refine wcond_cases ?_ ?_ <;> intro hb) | (with_reducible refine qd_i (by kernel_rfl) ?_) | (with_reducible refine W_itn_cases ?_ ?_; omega))
        · repeat' (first | (simp -implicitDefEqProofs only [ze, zd, simprocAttr, ho, hm, g1, encPE, ne_eq, not_true_eq_false]) | (with_reducible refine wgd_cases ?_ ?_ <;> intro hb) | (with_reducible refine wcond_cases ?_ ?_ <;> intro hb) | (with_reducible refine qd_i (by kernel_rfl) ?_) | (with_reducible refine W_itn_cases ?_ ?_; omega))
      · have e : forP c n k = ofP c n := by
          unfold forP; rw [if_neg (by simp [h0]), if_neg (fun h => hl h.2)]
        rw [e]
        have g1 : decide (n = lastS c (ofP c n).1.1) = false := by rw [gs]; exact decide_eq_false hl
        rcases hk with rfl | rfl
        · repeat' (first | (simp -implicitDefEqProofs only [ze, zd, simprocAttr, ho, hm, g1, encPE, h0, ne_eq, not_true_eq_false]) | (with_reducible refine wgd_cases ?_ ?_ <;> intro hb) | (with_reducible refine wcond_cases ?_ ?_ <;> intro hb) | (with_reducible refine qd_i (by kernel_rfl) ?_) | (with_reducible refine W_itn_cases ?_ ?_; omega))
        · repeat' (first | (simp -implicitDefEqProofs only [ze, zd, simprocAttr, ho, hm, g1, encPE, h0, ne_eq, not_true_eq_false]) | (with_reducible refine wgd_cases ?_ ?_ <;> intro hb) | (with_reducible refine wcond_cases ?_ ?_ <;> intro hb) | (with_reducible refine qd_i (by kernel_rfl) ?_) | (with_reducible refine W_itn_cases ?_ ?_; omega))
    · have e : forP c n k = ofP c n := by
        unfold forP; rw [if_neg (by simp [h0]), if_neg (fun h => hk h.1)]
      rw [e]
      have g3 : decide (k = 3) = false := decide_eq_false (fun h => hk (.inl h))
      have g4 : decide (k = 4) = false := decide_eq_false (fun h => hk (.inr h))
      repeat' (first | (simp -implicitDefEqProofs only [ze, zd, simprocAttr, ho, hm, g3, g4, encPE, h0, ne_eq, not_true_eq_false]) | (with_reducible refine wgd_cases ?_ ?_ <;> intro hb) | (with_reducible refine wcond_cases ?_ ?_ <;> intro hb) | (with_reducible refine qd_i (by kernel_rfl) ?_) | (with_reducible refine W_itn_cases ?_ ?_; omega))
  · have e : forP c n k = ofP c n := by unfold forP; rw [if_pos h0]
    rw [e]
    have hb := ofP_bad h0
    simp only [encPE] at ho
    have g1 : decide ((ofP c n).2 = 0) = false := decide_eq_false h0
    repeat' (first | (simp -implicitDefEqProofs only [ze, zd, simprocAttr, ho, g1, encPE, hb, ne_eq, not_true_eq_false]) | (with_reducible refine wgd_cases ?_ ?_ <;> intro hb) | (with_reducible refine wcond_cases ?_ ?_ <;> intro hb) | (with_reducible refine qd_i (by kernel_rfl) ?_) | (with_reducible refine W_itn_cases ?_ ?_; omega))
theorem rcmpP_ok (y n y2 n2 : Int) : L.pl 48 [.agg [.i64 y, .i64 n], .agg [.i64 y2, .i64 n2]] = some (.ret (.i64 (cmpP y n y2 n2))) := by
  refine W_of (pl_w k48_eq ?_)
  simp only [k48]
  repeat' (first | (simp -implicitDefEqProofs only [ze, zd, simprocAttr]) | (with_reducible refine wgd_cases ?_ ?_ <;> intro hb) | (with_reducible refine wcond_cases ?_ ?_ <;> intro hb) | (with_reducible refine qd_i (by kernel_rfl) ?_) | (with_reducible refine W_itn_cases ?_ ?_; omega))
  all_goals (refine ret_i ?_; simp only [bne_iff_ne, ne_eq, Bool.not_eq_false, bne_eq_false_iff_eq, Bool.and_eq_true, Bool.and_eq_false_iff, decide_eq_true_eq, decide_eq_false_iff_not, Bool.not_eq_true', Bool.not_eq_false'] at *; unfold cmpP; (repeat' split) <;> first | rfl | omega)
end Go.Proofs.YthgmhlpjbednpaaDoor.Vm
set_option linter.unusedVariables false
set_option linter.unusedSimpArgs false
namespace Go.Proofs.YthgmhlpjbednpaaDoor.Vm
open Go Go.Proofs
section
variable {α : Type}
def kmap (f : α → V) (l : List (ByteArray × α)) : List (V × V) := l.map fun p => (V.str p.1, f p.2)
def aidx : List (ByteArray × α) → ByteArray → Option (Nat × α)
  | [], _ => none
  | p :: l, k => if k = p.1 then some (0, p.2) else (aidx l k).map fun q => (q.1 + 1, q.2)
def aget (l : List (ByteArray × α)) (k : ByteArray) : Option α := (aidx l k).map (·.2)
def aset (l : List (ByteArray × α)) (k : ByteArray) (v : α) : List (ByteArray × α) := match aidx l k with
  | some (i, _) => l.set i (k, v)
  | none => l ++ [(k, v)]
def adel (l : List (ByteArray × α)) (k : ByteArray) : List (ByteArray × α) := match aidx l k with
  | some (i, _) => l.eraseIdx i
  | none => l
theorem mfind_kmap (f : α → V) (k : ByteArray) : ∀ (l : List (ByteArray × α)) (j : Nat), mfind (.string k) (kmap f l) j = some ((aidx l k).map fun q => (j + q.1, f q.2))
  | [], j => rfl
  | p :: l, j => by
    have e : kmap f (p :: l) = (V.sc (.string p.1), f p.2) :: kmap f l := rfl
    rw [e, mfind]
    by_cases h : k = p.1
    · have hk : keyEq (.string k) (.string p.1) = some true := by simp only [keyEq]; rw [ba_beq, decide_eq_true h]
      rw [hk]; simp [aidx, h]
    · have hk : keyEq (.string k) (.string p.1) = some false := by simp only [keyEq]; rw [ba_beq, decide_eq_false h]
      rw [hk]
      simp only [aidx, if_neg h]
      rw [mfind_kmap f k l (j + 1)]
      cases aidx l k with
      | none => rfl
      | some q => simp only [Option.map_some, Option.some.injEq, Prod.mk.injEq, and_true]; omega
theorem aidx_some {l : List (ByteArray × α)} {k : ByteArray} {i : Nat} {v : α} (h : aidx l k = some (i, v)) : l[i]? = some (k, v) := by
  induction l generalizing i with
  | nil => simp [aidx] at h
  | cons p l ih =>
    simp only [aidx] at h
    split at h
    · rename_i hk; simp only [Option.some.injEq, Prod.mk.injEq] at h; obtain ⟨rfl, rfl⟩ := h; subst hk; rfl
    · simp only [Option.map_eq_some_iff, Prod.mk.injEq] at h
      obtain ⟨⟨i', v'⟩, h1, rfl, rfl⟩ := h
      exact ih h1
theorem aidx_none {l : List (ByteArray × α)} {k : ByteArray} : aidx l k = none ↔ k ∉ l.map (·.1) := by
  induction l with
  | nil => simp [aidx]
  | cons p l ih =>
    simp only [aidx]
    split
    · rename_i hk; simp [hk]
    · rename_i hk
      rw [Option.map_eq_none_iff, ih]
      simp [hk]
theorem kmap_set (f : α → V) (l : List (ByteArray × α)) (i : Nat) (k : ByteArray) (v : α) : (kmap f l).set i (V.str k, f v) = kmap f (l.set i (k, v)) := by simp only [kmap, List.map_set]
theorem kmap_erase (f : α → V) (l : List (ByteArray × α)) (i : Nat) : (kmap f l).eraseIdx i = kmap f (l.eraseIdx i) := by
  induction l generalizing i with
  | nil => rfl
  | cons p l ih =>
    cases i with
    | zero => rfl
    | succ i =>
      have := ih i
      simp only [kmap] at this
      simp only [kmap, List.map_cons, List.eraseIdx_cons_succ, this]
theorem aget_nil (k : ByteArray) : aget ([] : List (ByteArray × α)) k = none := rfl
theorem aget_cons (p : ByteArray × α) (l : List (ByteArray × α)) (k : ByteArray) : aget (p :: l) k = if k = p.1 then some p.2 else aget l k := by
  simp only [aget, aidx]
  split
  · rfl
  · cases aidx l k <;> rfl
theorem aget_app (l : List (ByteArray × α)) (p : ByteArray × α) (k : ByteArray) : aget (l ++ [p]) k = (aget l k).or (if k = p.1 then some p.2 else none) := by
  induction l with
  | nil => rw [List.nil_append, aget_cons, aget_nil]; simp
  | cons q l ih =>
    rw [List.cons_append, aget_cons, aget_cons, ih]
    split <;> simp
theorem aget_none {l : List (ByteArray × α)} {k : ByteArray} : aget l k = none ↔ k ∉ l.map (·.1) := by rw [aget, Option.map_eq_none_iff, aidx_none]
theorem aset_keys {l : List (ByteArray × α)} {k : ByteArray} {v w : α} (h : aget l k = some w) : (aset l k v).map (·.1) = l.map (·.1) := by
  unfold aget at h
  rw [Option.map_eq_some_iff] at h
  obtain ⟨⟨i, u⟩, h1, _⟩ := h
  have h2 := aidx_some h1
  unfold aset
  rw [h1]
  simp only [List.map_set]
  apply List.ext_getElem?
  intro j
  rw [List.getElem?_set]
  split
  · rename_i hj
    subst hj
    have hl : i < l.length := (List.getElem?_eq_some_iff.1 h2).1
    rw [if_pos (by simpa using hl), List.getElem?_map, h2]; rfl
  · rfl
theorem aget_set {l : List (ByteArray × α)} {k j : ByteArray} {v : α} : aget (aset l k v) j = if j = k then some v else aget l j := by
  have main : ∀ (l : List (ByteArray × α)) (i : Nat) (u : α), aidx l k = some (i, u) → aget (l.set i (k, v)) j = if j = k then some v else aget l j := by
    intro l
    induction l with
    | nil => intro i u h; simp [aidx] at h
    | cons p l ih =>
      intro i u h
      simp only [aidx] at h
      split at h
      · rename_i hk
        simp only [Option.some.injEq, Prod.mk.injEq] at h; obtain ⟨rfl, rfl⟩ := h
        rw [List.set_cons_zero, aget_cons, aget_cons]
        subst hk
        simp only
        split <;> rfl
      · rename_i hk
        simp only [Option.map_eq_some_iff, Prod.mk.injEq] at h
        obtain ⟨⟨i', v'⟩, h1, rfl, rfl⟩ := h
        rw [List.set_cons_succ, aget_cons, aget_cons, ih _ _ h1]
        by_cases hj : j = p.1
        · rw [if_pos hj, if_pos hj, if_neg (fun e : j = k => hk (by rw [← e, hj]))]
        · rw [if_neg hj, if_neg hj]
  unfold aset
  cases h : aidx l k with
  | some q => obtain ⟨i, u⟩ := q; exact main l i u h
  | none =>
    simp only
    rw [aget_app]
    by_cases hj : j = k
    · subst hj
      have : aget l j = none := by rw [aget, h]; rfl
      simp [this]
    · rw [if_neg hj, if_neg hj]; cases aget l j <;> rfl
theorem aget_del {l : List (ByteArray × α)} {k j : ByteArray} (hn : (l.map (·.1)).Nodup) : aget (adel l k) j = if j = k then none else aget l j := by
  induction l with
  | nil => simp [adel, aidx, aget]
  | cons p l ih =>
    rw [List.map_cons, List.nodup_cons] at hn
    have ih := ih hn.2
    unfold adel at ih ⊢
    simp only [aidx]
    by_cases hk : k = p.1
    · rw [if_pos hk]
      simp only [List.eraseIdx_cons_zero]
      rw [aget_cons]
      subst hk
      split
      · rename_i hj; subst hj; exact aget_none.2 hn.1
      · rfl
    · rw [if_neg hk]
      cases h : aidx l k with
      | none =>
        rw [h] at ih
        simp only [Option.map_none]
        simp only at ih
        rw [aget_cons, ih]
        by_cases hj : j = p.1
        · rw [if_pos hj, if_neg (fun e : j = k => hk (by rw [← e, hj]))]
        · rw [if_neg hj]; by_cases hjk : j = k
          · rw [if_pos hjk, if_pos hjk]
          · rw [if_neg hjk, if_neg hjk]
      | some q =>
        rw [h] at ih
        simp only [Option.map_some, List.eraseIdx_cons_succ]
        rw [aget_cons, aget_cons, ih]
        by_cases hj : j = p.1
        · rw [if_pos hj, if_pos hj, if_neg (fun e : j = k => hk (by rw [← e, hj]))]
        · rw [if_neg hj, if_neg hj]
theorem adel_sub {l : List (ByteArray × α)} {k : ByteArray} : ((adel l k).map (·.1)).Sublist (l.map (·.1)) := by
  unfold adel
  split
  · exact (List.eraseIdx_sublist ..).map _
  · exact List.Sublist.refl _
theorem aset_nodup {l : List (ByteArray × α)} {k : ByteArray} {v : α} (hn : (l.map (·.1)).Nodup) : ((aset l k v).map (·.1)).Nodup := by
  cases h : aget l k with
  | some w => rw [aset_keys h]; exact hn
  | none =>
    have h2 := aget_none.1 h
    have h3 : aidx l k = none := by rw [aget, Option.map_eq_none_iff] at h; exact h
    unfold aset
    rw [h3]
    simp only [List.map_append, List.map_cons, List.map_nil]
    rw [List.nodup_append]
    exact ⟨hn, by simp, fun a ha b hb => by simp at hb; subst hb; exact fun e => h2 (e ▸ ha)⟩
end
def grown (S : Nat → Prop) (nx nx' : Nat) (i : Nat) : Prop := S i ∨ (nx ≤ i ∧ i < nx')
def KeepS (S : Nat → Prop) (nx : Nat) (st st' : St) : Prop := ∀ i, i < nx → ¬ S i → st' i = st i
theorem KeepS.refl (S : Nat → Prop) (nx : Nat) (st : St) : KeepS S nx st st := fun _ _ _ => rfl
theorem KeepS.trans {S : Nat → Prop} {nx nx' : Nat} {st st' st2 : St} (h : KeepS S nx st st') (k : KeepS (grown S nx nx') nx' st' st2) (hn : nx ≤ nx') : KeepS S nx st st2 := fun i hi hs => by
  rw [k i (by omega) (fun h => by rcases h with h | h; exact hs h; omega), h i hi hs]
theorem recsOk_ro {B : List Nat} {recs : List Rec} (h : (recs.all fun r => r.δ.isEmpty && r.big.isNone) = true) : recsOk B recs = true := by
  have hw : ∀ r ∈ recs, r.δ = [] ∧ r.big.isNone = true := fun r hr => by
    have := List.all_eq_true.1 h r hr
    simp only [Bool.and_eq_true, List.isEmpty_iff] at this
    exact this
  unfold recsOk
  rw [Bool.and_eq_true]
  refine ⟨List.all_eq_true.2 fun r hr => (hw r hr).2, List.all_eq_true.2 fun j hj => ?_⟩
  cases hy : recs[j]? with
  | none => rfl
  | some y =>
    simp only
    rw [Bool.or_eq_true]
    right
    refine List.all_eq_true.2 fun i hi => ?_
    cases hx : recs[i]? with
    | none => simp
    | some x =>
      have h1 := (hw x (List.mem_of_getElem? hx)).1
      have h2 := (hw y (List.mem_of_getElem? hy)).1
      rw [Bool.or_eq_true]
      right
      simp [Rec.free, Rec.wr, disj, h1, h2]
end Go.Proofs.YthgmhlpjbednpaaDoor.Vm
namespace Go.Proofs.YthgmhlpjbednpaaDoor.Vm
open Go Go.Proofs
theorem klives_ok : L.pl 12 [] = some (.ret (.bool true)) := pl_calc 60 (by kernel_rfl)
end Go.Proofs.YthgmhlpjbednpaaDoor.Vm
set_option maxRecDepth 10000
set_option linter.unusedVariables false
set_option linter.unusedSimpArgs false
namespace Go.Proofs.YthgmhlpjbednpaaDoor.Vm
open Go Go.Proofs
def Still (st : St) (nx : Nat) (v : V) (r : HR) : Prop := ∃ st' nx', r = .ret v st' nx' ∧ nx ≤ nx' ∧ ∀ i, i < nx → st' i = st i
theorem Still.of {st st' : St} {nx nx' : Nat} {v : V} (h : nx ≤ nx') (k : ∀ i, i < nx → st' i = st i) : Still st nx v (.ret v st' nx') := ⟨st', nx', rfl, h, k⟩
end Go.Proofs.YthgmhlpjbednpaaDoor.Vm
set_option maxRecDepth 10000
set_option linter.unusedVariables false
set_option linter.unusedSimpArgs false
namespace Go.Proofs.YthgmhlpjbednpaaDoor.Vm
open Go Go.Proofs
structure Ev where
  k : Int
  e : ByteArray
  p : Int × Int
  u : ByteArray
def evC (x : Ev) : List V := [.i64 x.k, .str x.e, .i64 x.p.1, .i64 x.p.2, .str x.u]
def encP (p : Int × Int) : V := .agg [.i64 p.1, .i64 p.2]
structure Lk where
  c : Int
  s : Int × Int
  op : List (ByteArray × (Int × Int))
  ak : List (ByteArray × ByteArray)
  nm : List ByteArray
  ev : List Ev
def rowV (S : Nat → Prop) (st : St) (e : Nat) (g : Bool) (s n : Nat) (cs : List V) (v : V) : Prop :=
  (n = 0 ∧ cs = [] ∧ v = .list 0 [] 1) ∨ (0 < n ∧ ∃ id, S id ∧ v = .sl e g s id 0 n ∧ st id = some (.row e s n cs))
structure LKp (k : Nat) (a : Lk) (S : Nat → Prop) (st : St) (mo ma : Nat) (vn ve : V) : Prop where
  hk : st k = some (.cells [.i64 a.c, .i64 a.s.1, .i64 a.s.2, .map mo, .map ma, vn, ve])
  ho : st mo = some (.map (kmap encP a.op) true)
  ha : ∃ d, st ma = some (.map (kmap V.str a.ak) d)
  hn : rowV S st 9 false 1 a.nm.length (a.nm.map V.str) vn
  he : rowV S st 50 true 5 a.ev.length (a.ev.flatMap evC) ve
  sk : S k
  so : S mo
  sa : S ma
  na : mo ≠ ma
theorem LKp.ko {k : Nat} {a : Lk} {S : Nat → Prop} {st : St} {mo ma : Nat} {vn ve : V} (h : LKp k a S st mo ma vn ve) : k ≠ mo := fun e => by subst e; have := h.hk; rw [h.ho] at this; cases this
theorem LKp.ka {k : Nat} {a : Lk} {S : Nat → Prop} {st : St} {mo ma : Nat} {vn ve : V} (h : LKp k a S st mo ma vn ve) : k ≠ ma := fun e => by subst e; obtain ⟨d, hd⟩ := h.ha; have := h.hk; rw [hd] at this; cases this
theorem LKp.row {k : Nat} {a : Lk} {S : Nat → Prop} {st : St} {mo ma : Nat} {vn ve : V} (h : LKp k a S st mo ma vn ve) {id e s n : Nat} {cs : List V} (hr : st id = some (.row e s n cs)) : id ≠ k ∧ id ≠ mo ∧ id ≠ ma := by
  refine ⟨fun q => ?_, fun q => ?_, fun q => ?_⟩
  · subst q; have := h.hk; rw [hr] at this; cases this
  · subst q; have := h.ho; rw [hr] at this; cases this
  · subst q; obtain ⟨d, hd⟩ := h.ha; rw [hr] at hd; cases hd
def LK (k : Nat) (a : Lk) (S : Nat → Prop) (st : St) : Prop := ∃ mo ma vn ve, LKp k a S st mo ma vn ve
theorem rowV.mono {S S' : Nat → Prop} {st st' : St} {e : Nat} {g : Bool} {s n : Nat} {cs : List V} {v : V} (h : rowV S st e g s n cs v) (hS : ∀ i, S i → S' i) (hs : ∀ i, S i → st' i = st i) : rowV S' st' e g s n cs v := by
  rcases h with h | ⟨h0, id, h1, h2, h3⟩
  · exact .inl h
  · exact .inr ⟨h0, id, hS id h1, h2, by rw [hs id h1]; exact h3⟩
theorem LK.mono {k : Nat} {a : Lk} {S S' : Nat → Prop} {st st' : St} (h : LK k a S st) (hS : ∀ i, S i → S' i) (hs : ∀ i, S i → st' i = st i) : LK k a S' st' := by
  obtain ⟨mo, ma, vn, ve, h⟩ := h
  refine ⟨mo, ma, vn, ve, by rw [hs _ h.sk]; exact h.hk, by rw [hs _ h.so]; exact h.ho, ?_, h.hn.mono hS hs, h.he.mono hS hs, hS _ h.sk, hS _ h.so, hS _ h.sa, h.na⟩
  obtain ⟨d, hd⟩ := h.ha
  exact ⟨d, by rw [hs _ h.sa]; exact hd⟩
def firstK (a : Lk) (e : ByteArray) : (Int × Int) × Int := match aget a.op e with
  | some p => (p, 0)
  | none => ((0, 0), 1)
theorem first_ok {k : Nat} {a : Lk} {S : Nat → Prop} {st : St} {nx : Nat} (h : LK k a S st) (hS : ∀ i, S i → i < nx) (e : ByteArray) : W (L.hp 18 [.ptr k 0, .str e] st nx) (Still st nx (encPE (firstK a e))) := by
  obtain ⟨mo, ma, vn, ve, h⟩ := h
  refine hp_r k18_eq ?_
  simp only [k18]
  have k1 : (k = nx) = False := eq_false (by have := hS _ h.sk; omega)
  have o1 : (mo = nx) = False := eq_false (by have := hS _ h.so; omega)
  have hm := mfind_kmap encP e a.op 0
  cases hi : aidx a.op e with
  | none =>
    have e1 : firstK a e = ((0, 0), 1) := by simp [firstK, aget, hi]
    rw [e1]
    rw [hi] at hm
    repeat' (first | (simp -implicitDefEqProofs only [ze, zd, zr, simprocAttr, LR_pl, LR_hp, LR_hm, cunr_n, cunr_x, cunr_r, cunr_p, List.any_cons, List.any_nil, List.flatten_cons, List.flatten_nil, List.replicate_succ, List.replicate_zero, Bool.or_false, Bool.false_or, List.flatMap_cons, List.flatMap_nil, h.hk, h.ho, k1, o1, hm, Option.map_none, encPE, ne_eq, not_true_eq_false]) | (with_reducible refine wgd_cases ?_ ?_ <;> intro hb) | (with_reducible refine wcond_cases ?_ ?_ <;> intro hb) | (with_reducible refine qd_i (by kernel_rfl) ?_) | (with_reducible refine W_itn_cases ?_ ?_; omega))
    refine .of (by omega) fun i hi => ?_
    simp (disch := omega) only [upds, upd, List.foldl_cons, List.foldl_nil, if_neg]
  | some q =>
    obtain ⟨j, p⟩ := q
    have e1 : firstK a e = (p, 0) := by simp [firstK, aget, hi]
    rw [e1]
    rw [hi] at hm
    repeat' (first | (simp -implicitDefEqProofs only [ze, zd, zr, simprocAttr, LR_pl, LR_hp, LR_hm, cunr_n, cunr_x, cunr_r, cunr_p, List.any_cons, List.any_nil, List.flatten_cons, List.flatten_nil, List.replicate_succ, List.replicate_zero, Bool.or_false, Bool.false_or, List.flatMap_cons, List.flatMap_nil, h.hk, h.ho, k1, o1, hm, Option.map_some, encP, encPE, ne_eq, not_true_eq_false]) | (with_reducible refine wgd_cases ?_ ?_ <;> intro hb) | (with_reducible refine wcond_cases ?_ ?_ <;> intro hb) | (with_reducible refine qd_i (by kernel_rfl) ?_) | (with_reducible refine W_itn_cases ?_ ?_; omega))
    refine .of (by omega) fun i hi => ?_
    simp (disch := omega) only [upds, upd, List.foldl_cons, List.foldl_nil, if_neg]
end Go.Proofs.YthgmhlpjbednpaaDoor.Vm
