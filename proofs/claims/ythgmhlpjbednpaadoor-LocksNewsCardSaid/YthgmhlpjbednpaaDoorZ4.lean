/- Proved here: the law, on a machine over pure data, and what it needs, part 4. Conditions: none. -/
import Derived.Test.YthgmhlpjbednpaaDoorProg
import Derived.WalkKit
import Derived.ProofKit
import Derived.OpenShut
import Derived.ShutString
import Derived.ChangeOld
import Derived.SizedLaws
import Derived.LaidMore
import Derived.Stop.Joined
import Derived.SevenTiedAt
import Derived.Deep.Slices
import Derived.Test.YthgmhlpjbednpaaDoorRows
import Derived.Test.YthgmhlpjbednpaaDoorCards
import Derived.Test.YthgmhlpjbednpaaDoorTie
import Derived.Shelf.Lays
import Derived.Laws.RangeString
import Derived.Laws.RangeAny
import Derived.Test.YthgmhlpjbednpaaDoorZ3
set_option maxRecDepth 100000
set_option linter.unusedVariables false
namespace Go.Proofs.YthgmhlpjbednpaaDoor.Vm
open Go Go.Proofs
def hmS : FuncId → Nat := fun f => if f == 10 || f == 17 || f == 18 || f == 19 || f == 20 || f == 22 || f == 24 || f == 26 || f == 27 || f == 28 || f == 42 || f == 44 || f == 11 || f == 35 || f == 36 || f == 37 || f == 38 || f == 39 || f == 40 || f == 21 || f == 25 || f == 66 || f == 68 || f == 69 || f == 13 || f == 14 || f == 15 || f == 41 || f == 49 || f == 31 then 3 else if f == 3 || f == 4 || f == 5 || f == 6 || f == 7 || f == 8 || f == 12 then 2 else 0
def glS : Nat → Option V := fun g => if g == 0 then some (.cp ([31, 28, 31, 30, 31, 30, 31, 31, 30, 31, 30, 31].map V.i64)) else none
def extS : Exts := ⟨fun _ => none, fun f => if f == 31 then some xsort else none⟩
noncomputable def L : Env := lim Tryd.prog extS hmS glS
noncomputable def LR : Env := L.at 1
theorem LR_pl : LR.pl = L.pl := Env.at_pl L 1
theorem LR_hp : LR.hp = L.hp := Env.at_hp L 1
theorem LR_hm : LR.hm = L.hm := Env.at_hm L 1
theorem pl_w {f : FuncId} {kf : KF} (hf : (Tryd.prog.funcs[f]?).bind (cmpF Tryd.prog hmS glS 0) = some kf) {xs : List V} {C : CR → Prop} (h : wc Tryd.prog L kf.b (RQ kf.rs (PQ C)) ⟨argT xs, fun _ => none, 8⟩) (hz : hmS f / 2 = 0 := by rfl) : W (L.pl f xs) C := pl_wc rfl hz hf h
theorem pl_r {f : FuncId} {kf : KF} (hf : (Tryd.prog.funcs[f]?).bind (cmpF Tryd.prog hmS glS 1) = some kf) {xs : List V} {C : CR → Prop} (h : wc Tryd.prog LR kf.b (RQ kf.rs (PQR C)) ⟨argT xs, fun _ => none, 8⟩) (hz : hmS f / 2 = 1 := by rfl) : W (L.pl f xs) C := pl_wr rfl hz hf h
theorem hp_r {f : FuncId} {kf : KF} (hf : (Tryd.prog.funcs[f]?).bind (cmpF Tryd.prog hmS glS 1) = some kf) {xs : List V} {st : St} {nx : Nat} {C : HR → Prop} (h : wc Tryd.prog LR kf.b (RQ kf.rs C) ⟨argT xs, st, nx⟩) (hz : hmS f / 2 = 1 := by rfl) (he : extS.hp f = none := by rfl) : W (L.hp f xs st nx) C := hp_wc he hz hf h
def k3_l0 : Y := (.seq (.seq (.reg [⟨(some 57), none, (.mov (.t 19))⟩, ⟨(some 58), none, (.mov (.t 3))⟩, ⟨(some 59), none, (.two (.len (.t 58)) (.len (.t 58)))⟩, ⟨(some 60), none, (.bin false .lss (.t 57) (.t 59))⟩] 4 none) (.cond (.t 60) .skip (.«exit» 0))) (.seq (.block 1 (.seq (.reg [⟨(some 63), none, (.mov (.t 15))⟩, ⟨(some 64), none, (.mov (.t 3))⟩, ⟨(some 65), none, (.mov (.t 19))⟩, ⟨(some 66), none, (.two (.ix 39 (.t 64) (.t 65)) (.ixl 39 (.t 64) (.t 65)))⟩, ⟨(some 67), none, (.two (.ld (some 3) (.t 66)) (.ld (some 3) (.t 66)))⟩, ⟨(some 68), none, (.hp 13 [(.t 63), (.t 67)])⟩, ⟨(some 69), none, (.mov (.t 17))⟩, ⟨(some 70), none, (.mov (.t 3))⟩, ⟨(some 71), none, (.mov (.t 19))⟩, ⟨(some 72), none, (.two (.ix 39 (.t 70) (.t 71)) (.ixl 39 (.t 70) (.t 71)))⟩, ⟨(some 73), none, (.two (.ld (some 3) (.t 72)) (.ld (some 3) (.t 72)))⟩, ⟨(some 74), none, (.hp 14 [(.t 69), (.t 73)])⟩, ⟨(some 75), none, (.bin false .neq (.t 68) (.t 74))⟩, ⟨(some 76), none, (.mov (.t 75))⟩, ⟨(some 77), (some (76, false)), (.mov (.t 15))⟩, ⟨(some 78), (some (76, false)), (.mov (.t 17))⟩, ⟨(some 79), (some (76, false)), (.mov (.t 3))⟩, ⟨(some 80), (some (76, false)), (.mov (.t 19))⟩, ⟨(some 81), (some (76, false)), (.two (.ix 39 (.t 79) (.t 80)) (.ixl 39 (.t 79) (.t 80)))⟩, ⟨(some 82), (some (76, false)), (.fa 1 (.t 81))⟩, ⟨(some 83), (some (76, false)), (.two (.ld none (.t 82)) (.ld none (.t 82)))⟩, ⟨(some 84), (some (76, false)), (.two (.ld (some 2) (.t 11)) (.ld (some 2) (.t 11)))⟩, ⟨(some 85), (some (76, false)), (.mov (.t 5))⟩, ⟨(some 86), (some (76, false)), (.mov (.t 6))⟩, ⟨(some 87), (some (76, false)), (.hp 15 [(.t 77), (.t 78), (.t 83), (.t 84), (.t 85), (.t 86)])⟩, ⟨(some 88), (some (76, false)), (.un .not (.t 87))⟩, ⟨(some 89), none, (.pick (.t 76) (.v (.sc (.bool true))) (.t 88))⟩] 27 (some [0, 0, 0, 6, 14, 31, 0, 0, 0, 384, 896, 2047, 4095, 8191, 16383, 16383, 16383, 16383, 212991, 475135, 999423, 16383, 16383, 16383, 16777215, 33554431, 67108863])) (.cond (.t 89) (.seq (.reg [⟨(some 14), none, (.mov (.v (.sc (.bool false))))⟩] 1 none) .ret) .skip))) (.reg [⟨(some 61), none, (.mov (.t 19))⟩, ⟨(some 62), none, (.bin false .add (.t 61) (.v (.sc (.int .i64 1))))⟩, ⟨(some 19), none, (.mov (.t 62))⟩] 3 none)))
def k3_l1 : Y := (.seq (.seq (.reg [⟨(some 90), none, (.mov (.t 20))⟩, ⟨(some 91), none, (.mov (.t 2))⟩, ⟨(some 92), none, (.two (.len (.t 91)) (.len (.t 91)))⟩, ⟨(some 93), none, (.bin false .lss (.t 90) (.t 92))⟩, ⟨(some 94), none, (.mov (.t 93))⟩, ⟨(some 95), (some (94, true)), (.mov (.t 20))⟩, ⟨(some 96), (some (94, true)), (.bin false .lss (.t 95) (.v (.sc (.int .i64 5))))⟩, ⟨(some 97), none, (.pick (.t 94) (.t 96) (.v (.sc (.bool false))))⟩] 8 none) (.cond (.t 97) .skip (.«exit» 2))) (.seq (.block 3 (.seq (.reg [⟨(some 100), none, (.mov (.t 15))⟩, ⟨(some 101), none, (.mov (.t 17))⟩, ⟨(some 102), none, (.mov (.t 2))⟩, ⟨(some 103), none, (.mov (.t 20))⟩, ⟨(some 104), none, (.two (.ix 9 (.t 102) (.t 103)) (.ixl 9 (.t 102) (.t 103)))⟩, ⟨(some 105), none, (.two (.ld none (.t 104)) (.ld none (.t 104)))⟩, ⟨(some 106), none, (.two (.ld (some 2) (.t 11)) (.ld (some 2) (.t 11)))⟩, ⟨(some 107), none, (.mov (.t 5))⟩, ⟨(some 108), none, (.mov (.t 6))⟩, ⟨(some 109), none, (.hp 15 [(.t 100), (.t 101), (.t 105), (.t 106), (.t 107), (.t 108)])⟩, ⟨(some 110), none, (.un .not (.t 109))⟩] 11 (some [0, 0, 0, 0, 12, 28, 0, 0, 0, 511, 1023])) (.cond (.t 110) (.seq (.reg [⟨(some 14), none, (.mov (.v (.sc (.bool false))))⟩] 1 none) .ret) .skip))) (.reg [⟨(some 98), none, (.mov (.t 20))⟩, ⟨(some 99), none, (.bin false .add (.t 98) (.v (.sc (.int .i64 1))))⟩, ⟨(some 20), none, (.mov (.t 99))⟩] 3 none)))
def k3_t0 : Y := (.seq (.reg [⟨(some 111), none, (.mov (.t 15))⟩, ⟨(some 112), none, (.hp 17 [(.t 111)])⟩, ⟨(some 113), none, (.mov (.t 17))⟩, ⟨(some 114), none, (.nilc (.t 113))⟩, ⟨(some 115), none, (.fa 6 (.t 114))⟩, ⟨(some 116), none, (.two (.ld none (.t 115)) (.ld none (.t 115)))⟩, ⟨(some 117), none, (.two (.pl 16 [(.t 112), (.t 116)]) (.pl 16 [(.t 112), (.t 116)]))⟩, ⟨(some 118), none, (.mov (.t 117))⟩, ⟨(some 119), (some (118, true)), (.two (.pl 12 []) (.pl 12 []))⟩, ⟨(some 120), none, (.pick (.t 118) (.t 119) (.v (.sc (.bool false))))⟩, ⟨(some 14), none, (.mov (.t 120))⟩] 11 (some [0, 1, 0, 4, 12, 28, 63, 127, 255, 511, 1023])) .ret)
def k3_t1 : Y := (.seq (.seq (.reg [⟨(some 20), none, (.mov (.v (.sc (.int .i64 0))))⟩] 1 none) (.block 2 (.loop k3_l1))) k3_t0)
def k3 : KF := ⟨(.seq (.reg [⟨(some 7), none, (.box (.t 0))⟩, ⟨(some 8), none, (.box (.t 1))⟩, ⟨(some 11), none, (.box (.t 4))⟩, ⟨(some 14), none, (.mov (.v (.sc (.bool false))))⟩] 4 none) (.seq (.seq (.reg [⟨(some 21), none, (.mov (.t 2))⟩, ⟨(some 22), none, (.mov (.t 3))⟩, ⟨(some 23), none, (.two (.pl 9 [(.t 21), (.t 22)]) (.pl 9 [(.t 21), (.t 22)]))⟩] 3 none) (.cond (.t 23) (.seq (.reg [⟨(some 14), none, (.mov (.v (.sc (.bool true))))⟩] 1 none) .ret) .skip)) (.seq (.reg [⟨(some 25), none, (.two (.ld (some 1) (.t 7)) (.ld (some 1) (.t 7)))⟩, ⟨(some 26), none, (.two (.ld (some 2) (.t 8)) (.ld (some 2) (.t 8)))⟩, ⟨(some 27), none, (.mov (.t 2))⟩, ⟨(some 28), none, (.hp 10 [(.t 25), (.t 26), (.t 27)])⟩, ⟨(some 24), none, (.mov (.t 28))⟩, ⟨(some 29), none, (.ext (.t 24) 0)⟩, ⟨(some 30), none, (.ext (.t 24) 1)⟩, ⟨(some 15), none, (.mov (.t 29))⟩, ⟨(some 16), none, (.mov (.t 30))⟩] 9 none) (.seq (.reg [⟨(some 32), none, (.two (.ld (some 1) (.t 7)) (.ld (some 1) (.t 7)))⟩, ⟨(some 33), none, (.two (.ld (some 2) (.t 8)) (.ld (some 2) (.t 8)))⟩, ⟨(some 34), none, (.mov (.t 2))⟩, ⟨(some 35), none, (.hp 11 [(.t 32), (.t 33), (.t 34)])⟩, ⟨(some 31), none, (.mov (.t 35))⟩, ⟨(some 36), none, (.ext (.t 31) 0)⟩, ⟨(some 37), none, (.ext (.t 31) 1)⟩, ⟨(some 17), none, (.mov (.t 36))⟩, ⟨(some 18), none, (.mov (.t 37))⟩] 9 none) (.seq (.seq (.reg [⟨(some 38), none, (.mov (.t 15))⟩, ⟨(some 39), none, (.isn false (.t 38))⟩, ⟨(some 40), none, (.mov (.t 39))⟩, ⟨(some 41), (some (40, false)), (.mov (.t 17))⟩, ⟨(some 42), (some (40, false)), (.isn false (.t 41))⟩, ⟨(some 43), none, (.pick (.t 40) (.v (.sc (.bool true))) (.t 42))⟩] 6 none) (.cond (.t 43) (.seq (.reg [⟨(some 44), none, (.mov (.t 18))⟩, ⟨(some 45), none, (.bin false .neq (.t 44) (.v (.sc (.int .i64 0))))⟩, ⟨(some 46), none, (.mov (.t 45))⟩, ⟨(some 47), (some (46, true)), (.mov (.t 15))⟩, ⟨(some 48), (some (46, true)), (.isn false (.t 47))⟩, ⟨(some 49), none, (.pick (.t 46) (.t 48) (.v (.sc (.bool false))))⟩, ⟨(some 50), none, (.mov (.t 49))⟩, ⟨(some 51), (some (50, true)), (.mov (.t 17))⟩, ⟨(some 52), (some (50, true)), (.isn false (.t 51))⟩, ⟨(some 53), none, (.pick (.t 50) (.t 52) (.v (.sc (.bool false))))⟩, ⟨(some 54), none, (.mov (.t 53))⟩, ⟨(some 55), (some (54, true)), (.two (.pl 12 []) (.pl 12 []))⟩, ⟨(some 56), none, (.pick (.t 54) (.t 55) (.v (.sc (.bool false))))⟩, ⟨(some 14), none, (.mov (.t 56))⟩] 14 none) .ret) .skip)) (.seq (.seq (.reg [⟨(some 19), none, (.mov (.v (.sc (.int .i64 0))))⟩] 1 none) (.block 0 (.loop k3_l0))) k3_t1)))))), [(.t 14)]⟩
def k4_l0 : Y := (.seq (.seq (.reg [⟨(some 32), none, (.mov (.t 11))⟩, ⟨(some 33), none, (.mov (.t 3))⟩, ⟨(some 34), none, (.two (.len (.t 33)) (.len (.t 33)))⟩, ⟨(some 35), none, (.bin false .lss (.t 32) (.t 34))⟩] 4 none) (.cond (.t 35) .skip (.«exit» 0))) (.seq (.block 1 (.reg [⟨(some 38), none, (.mov (.t 9))⟩, ⟨(some 39), none, (.mov (.t 3))⟩, ⟨(some 40), none, (.mov (.t 11))⟩, ⟨(some 41), none, (.two (.ix 39 (.t 39) (.t 40)) (.ixl 39 (.t 39) (.t 40)))⟩, ⟨(some 42), none, (.two (.ld (some 3) (.t 41)) (.ld (some 3) (.t 41)))⟩, ⟨(some 43), none, (.hp 13 [(.t 38), (.t 42)])⟩] 6 none)) (.reg [⟨(some 36), none, (.mov (.t 11))⟩, ⟨(some 37), none, (.bin false .add (.t 36) (.v (.sc (.int .i64 1))))⟩, ⟨(some 11), none, (.mov (.t 37))⟩] 3 none)))
def k4_l1 : Y := (.seq (.seq (.reg [⟨(some 60), none, (.mov (.t 14))⟩, ⟨(some 61), none, (.bin false .geq (.t 60) (.v (.sc (.int .i64 0))))⟩, ⟨(some 62), none, (.mov (.t 61))⟩, ⟨(some 63), (some (62, true)), (.mov (.t 12))⟩, ⟨(some 64), (some (62, true)), (.mov (.t 14))⟩, ⟨(some 65), (some (62, true)), (.two (.ix 50 (.t 63) (.t 64)) (.ixl 50 (.t 63) (.t 64)))⟩, ⟨(some 66), (some (62, true)), (.fa 1 (.t 65))⟩, ⟨(some 67), (some (62, true)), (.two (.ld none (.t 66)) (.ld none (.t 66)))⟩, ⟨(some 68), (some (62, true)), (.mov (.t 12))⟩, ⟨(some 69), (some (62, true)), (.mov (.t 13))⟩, ⟨(some 70), (some (62, true)), (.two (.ix 50 (.t 68) (.t 69)) (.ixl 50 (.t 68) (.t 69)))⟩, ⟨(some 71), (some (62, true)), (.fa 1 (.t 70))⟩, ⟨(some 72), (some (62, true)), (.two (.ld none (.t 71)) (.ld none (.t 71)))⟩, ⟨(some 73), (some (62, true)), (.bin false .neq (.t 67) (.t 72))⟩, ⟨(some 74), none, (.pick (.t 62) (.t 73) (.v (.sc (.bool false))))⟩] 15 (some [0, 1, 3, 7, 7, 31, 63, 127, 7, 7, 775, 1799, 3847, 8191, 16383])) (.cond (.t 74) .skip (.«exit» 4))) (.block 5 (.reg [⟨(some 75), none, (.mov (.t 14))⟩, ⟨(some 76), none, (.bin false .sub (.t 75) (.v (.sc (.int .i64 1))))⟩, ⟨(some 14), none, (.mov (.t 76))⟩] 3 none)))
def k4_t0 : Y := (.seq (.reg [⟨(some 77), none, (.mov (.t 14))⟩, ⟨(some 78), none, (.bin false .lss (.t 77) (.v (.sc (.int .i64 0))))⟩, ⟨(some 79), none, (.mov (.t 78))⟩, ⟨(some 80), (some (79, false)), (.mov (.t 12))⟩, ⟨(some 81), (some (79, false)), (.mov (.t 14))⟩, ⟨(some 82), (some (79, false)), (.two (.ix 50 (.t 80) (.t 81)) (.ixl 50 (.t 80) (.t 81)))⟩, ⟨(some 83), (some (79, false)), (.fa 0 (.t 82))⟩, ⟨(some 84), (some (79, false)), (.two (.ld none (.t 83)) (.ld none (.t 83)))⟩, ⟨(some 85), (some (79, false)), (.bin false .neq (.t 84) (.v (.sc (.int .i64 9))))⟩, ⟨(some 86), none, (.pick (.t 79) (.v (.sc (.bool true))) (.t 85))⟩, ⟨(some 87), none, (.mov (.t 86))⟩, ⟨(some 88), (some (87, false)), (.mov (.t 12))⟩, ⟨(some 89), (some (87, false)), (.mov (.t 14))⟩, ⟨(some 90), (some (87, false)), (.two (.ix 50 (.t 88) (.t 89)) (.ixl 50 (.t 88) (.t 89)))⟩, ⟨(some 91), (some (87, false)), (.fa 4 (.t 90))⟩, ⟨(some 92), (some (87, false)), (.two (.ld none (.t 91)) (.ld none (.t 91)))⟩, ⟨(some 93), (some (87, false)), (.mov (.t 12))⟩, ⟨(some 94), (some (87, false)), (.mov (.t 13))⟩, ⟨(some 95), (some (87, false)), (.two (.ix 50 (.t 93) (.t 94)) (.ixl 50 (.t 93) (.t 94)))⟩, ⟨(some 96), (some (87, false)), (.fa 4 (.t 95))⟩, ⟨(some 97), (some (87, false)), (.two (.ld none (.t 96)) (.ld none (.t 96)))⟩, ⟨(some 98), (some (87, false)), (.bin false .eql (.t 92) (.t 97))⟩, ⟨(some 99), none, (.pick (.t 87) (.v (.sc (.bool true))) (.t 98))⟩, ⟨(some 100), none, (.mov (.t 99))⟩, ⟨(some 101), (some (100, false)), (.mov (.t 12))⟩, ⟨(some 102), (some (100, false)), (.mov (.t 14))⟩, ⟨(some 103), (some (100, false)), (.two (.ix 50 (.t 101) (.t 102)) (.ixl 50 (.t 101) (.t 102)))⟩, ⟨(some 104), (some (100, false)), (.fa 2 (.t 103))⟩, ⟨(some 105), (some (100, false)), (.two (.ld (some 2) (.t 104)) (.ld (some 2) (.t 104)))⟩, ⟨(some 106), (some (100, false)), (.mov (.t 12))⟩, ⟨(some 107), (some (100, false)), (.mov (.t 13))⟩, ⟨(some 108), (some (100, false)), (.two (.ix 50 (.t 106) (.t 107)) (.ixl 50 (.t 106) (.t 107)))⟩, ⟨(some 109), (some (100, false)), (.fa 2 (.t 108))⟩, ⟨(some 110), (some (100, false)), (.two (.ld (some 2) (.t 109)) (.ld (some 2) (.t 109)))⟩, ⟨(some 111), (some (100, false)), (.eqs true [(0, 0), (1, 0)] (.t 105) (.t 110))⟩, ⟨(some 112), none, (.pick (.t 100) (.v (.sc (.bool true))) (.t 111))⟩] 36 (some [0, 1, 3, 7, 7, 31, 63, 127, 255, 511, 1023, 2047, 2047, 8191, 16383, 32767, 2047, 2047, 198655, 460799, 985087, 2097151, 4194303, 8388607, 16777215, 16777215, 67108863, 134217727, 268435455, 16777215, 16777215, 1627389951, 3774873599, 8069840895, 17179869183, 34359738367])) (.cond (.t 112) (.seq (.reg [⟨(some 8), none, (.mov (.v (.sc (.bool false))))⟩] 1 none) .ret) .skip))
def k4_t1 : Y := (.reg [⟨(some 50), none, (.mov (.t 13))⟩, ⟨(some 51), none, (.bin false .add (.t 50) (.v (.sc (.int .i64 1))))⟩, ⟨(some 13), none, (.mov (.t 51))⟩] 3 none)
def k4_l2 : Y := (.seq (.seq (.reg [⟨(some 46), none, (.mov (.t 13))⟩, ⟨(some 47), none, (.mov (.t 12))⟩, ⟨(some 48), none, (.two (.len (.t 47)) (.len (.t 47)))⟩, ⟨(some 49), none, (.bin false .lss (.t 46) (.t 48))⟩] 4 none) (.cond (.t 49) .skip (.«exit» 2))) (.seq (.block 3 (.seq (.seq (.reg [⟨(some 52), none, (.mov (.t 12))⟩, ⟨(some 53), none, (.mov (.t 13))⟩, ⟨(some 54), none, (.two (.ix 50 (.t 52) (.t 53)) (.ixl 50 (.t 52) (.t 53)))⟩, ⟨(some 55), none, (.fa 0 (.t 54))⟩, ⟨(some 56), none, (.two (.ld none (.t 55)) (.ld none (.t 55)))⟩, ⟨(some 57), none, (.bin false .neq (.t 56) (.v (.sc (.int .i64 10))))⟩] 6 none) (.cond (.t 57) (.«exit» 3) .skip)) (.seq (.reg [⟨(some 58), none, (.mov (.t 13))⟩, ⟨(some 59), none, (.bin false .sub (.t 58) (.v (.sc (.int .i64 1))))⟩, ⟨(some 14), none, (.mov (.t 59))⟩] 3 none) (.seq (.block 4 (.loop k4_l1)) k4_t0)))) k4_t1))
def k4_t2 : Y := (.seq (.reg [⟨(some 113), none, (.two (.pl 12 []) (.pl 12 []))⟩, ⟨(some 8), none, (.mov (.t 113))⟩] 2 none) .ret)
def k4_t3 : Y := (.seq (.reg [⟨(some 44), none, (.mov (.t 9))⟩, ⟨(some 45), none, (.hp 17 [(.t 44)])⟩, ⟨(some 12), none, (.mov (.t 45))⟩] 3 none) (.seq (.seq (.reg [⟨(some 13), none, (.mov (.v (.sc (.int .i64 0))))⟩] 1 none) (.block 2 (.loop k4_l2))) k4_t2))
def k4 : KF := ⟨(.seq (.reg [⟨(some 4), none, (.box (.t 0))⟩, ⟨(some 5), none, (.box (.t 1))⟩, ⟨(some 8), none, (.mov (.v (.sc (.bool false))))⟩] 3 none) (.seq (.seq (.reg [⟨(some 15), none, (.mov (.t 2))⟩, ⟨(some 16), none, (.mov (.t 3))⟩, ⟨(some 17), none, (.two (.pl 9 [(.t 15), (.t 16)]) (.pl 9 [(.t 15), (.t 16)]))⟩] 3 none) (.cond (.t 17) (.seq (.reg [⟨(some 8), none, (.mov (.v (.sc (.bool true))))⟩] 1 none) .ret) .skip)) (.seq (.reg [⟨(some 19), none, (.two (.ld (some 1) (.t 4)) (.ld (some 1) (.t 4)))⟩, ⟨(some 20), none, (.two (.ld (some 2) (.t 5)) (.ld (some 2) (.t 5)))⟩, ⟨(some 21), none, (.mov (.t 2))⟩, ⟨(some 22), none, (.hp 10 [(.t 19), (.t 20), (.t 21)])⟩, ⟨(some 18), none, (.mov (.t 22))⟩, ⟨(some 23), none, (.ext (.t 18) 0)⟩, ⟨(some 24), none, (.ext (.t 18) 1)⟩, ⟨(some 9), none, (.mov (.t 23))⟩, ⟨(some 10), none, (.mov (.t 24))⟩] 9 none) (.seq (.seq (.reg [⟨(some 25), none, (.mov (.t 9))⟩, ⟨(some 26), none, (.isn false (.t 25))⟩] 2 none) (.cond (.t 26) (.seq (.reg [⟨(some 27), none, (.mov (.t 10))⟩, ⟨(some 28), none, (.bin false .neq (.t 27) (.v (.sc (.int .i64 0))))⟩, ⟨(some 29), none, (.mov (.t 28))⟩, ⟨(some 30), (some (29, true)), (.two (.pl 12 []) (.pl 12 []))⟩, ⟨(some 31), none, (.pick (.t 29) (.t 30) (.v (.sc (.bool false))))⟩, ⟨(some 8), none, (.mov (.t 31))⟩] 6 none) .ret) .skip)) (.seq (.seq (.reg [⟨(some 11), none, (.mov (.v (.sc (.int .i64 0))))⟩] 1 none) (.block 0 (.loop k4_l0))) k4_t3))))), [(.t 8)]⟩
def k5_l0 : Y := (.seq (.seq (.reg [⟨(some 60), none, (.mov (.t 15))⟩, ⟨(some 61), none, (.mov (.t 3))⟩, ⟨(some 62), none, (.two (.len (.t 61)) (.len (.t 61)))⟩, ⟨(some 63), none, (.bin false .lss (.t 60) (.t 62))⟩] 4 none) (.cond (.t 63) .skip (.«exit» 0))) (.seq (.block 1 (.seq (.reg [⟨(some 66), none, (.mov (.t 11))⟩, ⟨(some 67), none, (.mov (.t 3))⟩, ⟨(some 68), none, (.mov (.t 15))⟩, ⟨(some 69), none, (.two (.ix 39 (.t 67) (.t 68)) (.ixl 39 (.t 67) (.t 68)))⟩, ⟨(some 70), none, (.two (.ld (some 3) (.t 69)) (.ld (some 3) (.t 69)))⟩, ⟨(some 71), none, (.hp 13 [(.t 66), (.t 70)])⟩, ⟨(some 16), none, (.mov (.t 71))⟩] 7 none) (.seq (.reg [⟨(some 72), none, (.mov (.t 3))⟩, ⟨(some 73), none, (.mov (.t 15))⟩, ⟨(some 74), none, (.two (.ix 39 (.t 72) (.t 73)) (.ixl 39 (.t 72) (.t 73)))⟩, ⟨(some 75), none, (.fa 1 (.t 74))⟩, ⟨(some 76), none, (.two (.ld none (.t 75)) (.ld none (.t 75)))⟩, ⟨(some 77), none, (.mov (.t 4))⟩, ⟨(some 78), none, (.bin false .eql (.t 76) (.t 77))⟩, ⟨(some 79), none, (.mov (.t 78))⟩, ⟨(some 80), (some (79, true)), (.mov (.t 13))⟩, ⟨(some 81), (some (79, true)), (.mov (.t 3))⟩, ⟨(some 82), (some (79, true)), (.mov (.t 15))⟩, ⟨(some 83), (some (79, true)), (.two (.ix 39 (.t 81) (.t 82)) (.ixl 39 (.t 81) (.t 82)))⟩, ⟨(some 84), (some (79, true)), (.two (.ld (some 3) (.t 83)) (.ld (some 3) (.t 83)))⟩, ⟨(some 85), (some (79, true)), (.hp 13 [(.t 80), (.t 84)])⟩, ⟨(some 86), (some (79, true)), (.mov (.t 16))⟩, ⟨(some 87), (some (79, true)), (.bin false .neq (.t 85) (.t 86))⟩, ⟨(some 88), none, (.pick (.t 79) (.t 87) (.v (.sc (.bool false))))⟩] 17 none) (.cond (.t 88) (.seq (.reg [⟨(some 10), none, (.mov (.v (.sc (.bool false))))⟩] 1 none) .ret) .skip)))) (.reg [⟨(some 64), none, (.mov (.t 15))⟩, ⟨(some 65), none, (.bin false .add (.t 64) (.v (.sc (.int .i64 1))))⟩, ⟨(some 15), none, (.mov (.t 65))⟩] 3 none)))
def k5_t0 : Y := (.seq (.reg [⟨(some 90), none, (.mov (.t 11))⟩, ⟨(some 91), none, (.mov (.t 4))⟩, ⟨(some 92), none, (.hp 18 [(.t 90), (.t 91)])⟩, ⟨(some 89), none, (.mov (.t 92))⟩, ⟨(some 93), none, (.ext (.t 89) 0)⟩, ⟨(some 94), none, (.ext (.t 89) 1)⟩, ⟨(some 17), none, (.new [(.sc (.int .i64 0)), (.sc (.int .i64 0))])⟩, ⟨none, none, (.two (.sto 2 (.t 17) (.t 93)) (.sto 2 (.t 17) (.t 93)))⟩, ⟨(some 12), none, (.mov (.t 94))⟩] 9 none) (.seq (.reg [⟨(some 96), none, (.mov (.t 13))⟩, ⟨(some 97), none, (.mov (.t 4))⟩, ⟨(some 98), none, (.hp 18 [(.t 96), (.t 97)])⟩, ⟨(some 95), none, (.mov (.t 98))⟩, ⟨(some 99), none, (.ext (.t 95) 0)⟩, ⟨(some 100), none, (.ext (.t 95) 1)⟩, ⟨(some 18), none, (.new [(.sc (.int .i64 0)), (.sc (.int .i64 0))])⟩, ⟨none, none, (.two (.sto 2 (.t 18) (.t 99)) (.sto 2 (.t 18) (.t 99)))⟩, ⟨(some 14), none, (.mov (.t 100))⟩] 9 none) (.seq (.reg [⟨(some 101), none, (.two (.ld (some 2) (.t 17)) (.ld (some 2) (.t 17)))⟩, ⟨(some 102), none, (.two (.ld (some 2) (.t 18)) (.ld (some 2) (.t 18)))⟩, ⟨(some 103), none, (.eqs false [(0, 0), (1, 0)] (.t 101) (.t 102))⟩, ⟨(some 104), none, (.mov (.t 103))⟩, ⟨(some 105), (some (104, true)), (.mov (.t 12))⟩, ⟨(some 106), (some (104, true)), (.mov (.t 14))⟩, ⟨(some 107), (some (104, true)), (.bin false .eql (.t 105) (.t 106))⟩, ⟨(some 108), none, (.pick (.t 104) (.t 107) (.v (.sc (.bool false))))⟩, ⟨(some 109), none, (.mov (.t 108))⟩, ⟨(some 110), (some (109, true)), (.two (.pl 12 []) (.pl 12 []))⟩, ⟨(some 111), none, (.pick (.t 109) (.t 110) (.v (.sc (.bool false))))⟩, ⟨(some 10), none, (.mov (.t 111))⟩] 12 none) .ret)))
def k5 : KF := ⟨(.seq (.reg [⟨(some 5), none, (.box (.t 0))⟩, ⟨(some 6), none, (.box (.t 1))⟩, ⟨(some 10), none, (.mov (.v (.sc (.bool false))))⟩] 3 none) (.seq (.seq (.reg [⟨(some 19), none, (.mov (.t 2))⟩, ⟨(some 20), none, (.mov (.t 3))⟩, ⟨(some 21), none, (.two (.pl 9 [(.t 19), (.t 20)]) (.pl 9 [(.t 19), (.t 20)]))⟩] 3 none) (.cond (.t 21) (.seq (.reg [⟨(some 10), none, (.mov (.v (.sc (.bool true))))⟩] 1 none) .ret) .skip)) (.seq (.reg [⟨(some 23), none, (.two (.ld (some 1) (.t 5)) (.ld (some 1) (.t 5)))⟩, ⟨(some 24), none, (.two (.ld (some 2) (.t 6)) (.ld (some 2) (.t 6)))⟩, ⟨(some 25), none, (.mov (.t 2))⟩, ⟨(some 26), none, (.hp 10 [(.t 23), (.t 24), (.t 25)])⟩, ⟨(some 22), none, (.mov (.t 26))⟩, ⟨(some 27), none, (.ext (.t 22) 0)⟩, ⟨(some 28), none, (.ext (.t 22) 1)⟩, ⟨(some 11), none, (.mov (.t 27))⟩, ⟨(some 12), none, (.mov (.t 28))⟩] 9 none) (.seq (.reg [⟨(some 30), none, (.two (.ld (some 1) (.t 5)) (.ld (some 1) (.t 5)))⟩, ⟨(some 31), none, (.two (.ld (some 2) (.t 6)) (.ld (some 2) (.t 6)))⟩, ⟨(some 32), none, (.mov (.t 2))⟩, ⟨(some 33), none, (.hp 10 [(.t 30), (.t 31), (.t 32)])⟩, ⟨(some 29), none, (.mov (.t 33))⟩, ⟨(some 34), none, (.ext (.t 29) 0)⟩, ⟨(some 35), none, (.ext (.t 29) 1)⟩, ⟨(some 13), none, (.mov (.t 34))⟩, ⟨(some 14), none, (.mov (.t 35))⟩] 9 none) (.seq (.seq (.reg [⟨(some 36), none, (.mov (.t 11))⟩, ⟨(some 37), none, (.isn false (.t 36))⟩, ⟨(some 38), none, (.mov (.t 37))⟩, ⟨(some 39), (some (38, false)), (.mov (.t 13))⟩, ⟨(some 40), (some (38, false)), (.isn false (.t 39))⟩, ⟨(some 41), none, (.pick (.t 38) (.v (.sc (.bool true))) (.t 40))⟩] 6 none) (.cond (.t 41) (.seq (.reg [⟨(some 42), none, (.mov (.t 12))⟩, ⟨(some 43), none, (.bin false .neq (.t 42) (.v (.sc (.int .i64 0))))⟩, ⟨(some 44), none, (.mov (.t 43))⟩, ⟨(some 45), (some (44, true)), (.mov (.t 14))⟩, ⟨(some 46), (some (44, true)), (.mov (.t 12))⟩, ⟨(some 47), (some (44, true)), (.bin false .eql (.t 45) (.t 46))⟩, ⟨(some 48), none, (.pick (.t 44) (.t 47) (.v (.sc (.bool false))))⟩, ⟨(some 49), none, (.mov (.t 48))⟩, ⟨(some 50), (some (49, true)), (.mov (.t 11))⟩, ⟨(some 51), (some (49, true)), (.isn false (.t 50))⟩, ⟨(some 52), none, (.pick (.t 49) (.t 51) (.v (.sc (.bool false))))⟩, ⟨(some 53), none, (.mov (.t 52))⟩, ⟨(some 54), (some (53, true)), (.mov (.t 13))⟩, ⟨(some 55), (some (53, true)), (.isn false (.t 54))⟩, ⟨(some 56), none, (.pick (.t 53) (.t 55) (.v (.sc (.bool false))))⟩, ⟨(some 57), none, (.mov (.t 56))⟩, ⟨(some 58), (some (57, true)), (.two (.pl 12 []) (.pl 12 []))⟩, ⟨(some 59), none, (.pick (.t 57) (.t 58) (.v (.sc (.bool false))))⟩, ⟨(some 10), none, (.mov (.t 59))⟩] 19 none) .ret) .skip)) (.seq (.seq (.reg [⟨(some 15), none, (.mov (.v (.sc (.int .i64 0))))⟩] 1 none) (.block 0 (.loop k5_l0))) k5_t0)))))), [(.t 10)]⟩
def k6_l0 : Y := (.seq (.seq (.reg [⟨(some 35), none, (.mov (.t 15))⟩, ⟨(some 36), none, (.mov (.t 2))⟩, ⟨(some 37), none, (.bin false .rem (.t 36) (.v (.sc (.int .u8 40))))⟩, ⟨(some 38), none, (.i2i .i64 (.t 37))⟩, ⟨(some 39), none, (.bin false .lss (.t 35) (.t 38))⟩] 5 none) (.cond (.t 39) .skip (.«exit» 0))) (.seq (.block 1 (.reg [⟨(some 42), none, (.mov (.t 13))⟩, ⟨(some 43), none, (.hp 19 [(.t 42), (.v (.sc (.string (ByteArray.mk #[97])))), (.v (.sc (.string (ByteArray.mk #[117]))))])⟩] 2 none)) (.reg [⟨(some 40), none, (.mov (.t 15))⟩, ⟨(some 41), none, (.bin false .add (.t 40) (.v (.sc (.int .i64 1))))⟩, ⟨(some 15), none, (.mov (.t 41))⟩] 3 none)))
def k6_t0 : Y := (.seq (.seq (.reg [⟨(some 44), none, (.mov (.t 3))⟩, ⟨(some 45), none, (.bin false .lss (.t 44) (.v (.sc (.int .i64 0))))⟩, ⟨(some 46), none, (.mov (.t 45))⟩, ⟨(some 47), (some (46, false)), (.mov (.t 3))⟩, ⟨(some 48), (some (46, false)), (.bin false .gtr (.t 47) (.v (.sc (.int .i64 109572))))⟩, ⟨(some 49), none, (.pick (.t 46) (.v (.sc (.bool true))) (.t 48))⟩, ⟨(some 50), none, (.mov (.t 49))⟩, ⟨(some 51), (some (50, false)), (.mov (.t 13))⟩, ⟨(some 52), (some (50, false)), (.mov (.t 3))⟩, ⟨(some 53), (some (50, false)), (.mov (.t 5))⟩, ⟨(some 54), (some (50, false)), (.hp 20 [(.t 51), (.v (.sc (.string (ByteArray.mk #[97])))), (.t 52), (.t 53)])⟩, ⟨(some 55), (some (50, false)), (.bin false .neq (.t 54) (.v (.sc (.int .i64 0))))⟩, ⟨(some 56), none, (.pick (.t 50) (.v (.sc (.bool true))) (.t 55))⟩] 13 none) (.cond (.t 56) (.seq (.reg [⟨(some 57), none, (.two (.pl 12 []) (.pl 12 []))⟩, ⟨(some 12), none, (.mov (.t 57))⟩] 2 none) .ret) .skip)) (.seq (.reg [⟨(some 58), none, (.mov (.t 3))⟩, ⟨(some 59), none, (.mov (.t 4))⟩, ⟨(some 60), none, (.bin false .rem (.t 59) (.v (.sc (.int .u16 5000))))⟩, ⟨(some 61), none, (.i2i .i64 (.t 60))⟩, ⟨(some 62), none, (.bin false .add (.t 58) (.t 61))⟩, ⟨(some 16), none, (.mov (.t 62))⟩] 6 none) (.seq (.reg [⟨(some 64), none, (.mov (.t 13))⟩, ⟨(some 65), none, (.hp 18 [(.t 64), (.v (.sc (.string (ByteArray.mk #[97]))))])⟩, ⟨(some 63), none, (.mov (.t 65))⟩, ⟨(some 66), none, (.ext (.t 63) 0)⟩, ⟨(some 67), none, (.ext (.t 63) 1)⟩, ⟨(some 17), none, (.new [(.sc (.int .i64 0)), (.sc (.int .i64 0))])⟩, ⟨none, none, (.two (.sto 2 (.t 17) (.t 66)) (.sto 2 (.t 17) (.t 66)))⟩, ⟨(some 18), none, (.mov (.t 67))⟩] 8 none) (.seq (.reg [⟨(some 69), none, (.two (.ld (some 1) (.t 6)) (.ld (some 1) (.t 6)))⟩, ⟨(some 70), none, (.two (.ld (some 2) (.t 17)) (.ld (some 2) (.t 17)))⟩, ⟨(some 71), none, (.two (.lit 9 false 1 [(.v (.sc (.string (ByteArray.mk #[97]))))]) (.mk 9 1 [(.v (.sc (.string (ByteArray.mk #[97]))))]))⟩, ⟨(some 72), none, (.hp 11 [(.t 69), (.t 70), (.t 71)])⟩, ⟨(some 68), none, (.mov (.t 72))⟩, ⟨(some 73), none, (.ext (.t 68) 0)⟩, ⟨(some 74), none, (.ext (.t 68) 1)⟩, ⟨(some 19), none, (.mov (.t 73))⟩, ⟨(some 20), none, (.mov (.t 74))⟩] 9 none) (.seq (.seq (.reg [⟨(some 75), none, (.mov (.t 18))⟩, ⟨(some 76), none, (.bin false .neq (.t 75) (.v (.sc (.int .i64 0))))⟩, ⟨(some 77), none, (.mov (.t 76))⟩, ⟨(some 78), (some (77, false)), (.mov (.t 20))⟩, ⟨(some 79), (some (77, false)), (.bin false .neq (.t 78) (.v (.sc (.int .i64 0))))⟩, ⟨(some 80), none, (.pick (.t 77) (.v (.sc (.bool true))) (.t 79))⟩, ⟨(some 81), none, (.mov (.t 80))⟩, ⟨(some 82), (some (81, false)), (.mov (.t 19))⟩, ⟨(some 83), (some (81, false)), (.isn false (.t 82))⟩, ⟨(some 84), none, (.pick (.t 81) (.v (.sc (.bool true))) (.t 83))⟩] 10 none) (.cond (.t 84) (.seq (.reg [⟨(some 12), none, (.mov (.v (.sc (.bool false))))⟩] 1 none) .ret) .skip)) (.seq (.reg [⟨(some 85), none, (.mov (.t 13))⟩, ⟨(some 86), none, (.mov (.t 16))⟩, ⟨(some 87), none, (.mov (.t 5))⟩, ⟨(some 88), none, (.hp 20 [(.t 85), (.v (.sc (.string (ByteArray.mk #[97])))), (.t 86), (.t 87)])⟩, ⟨(some 89), none, (.mov (.t 19))⟩, ⟨(some 90), none, (.mov (.t 16))⟩, ⟨(some 91), none, (.mov (.t 5))⟩, ⟨(some 92), none, (.hp 21 [(.t 89), (.v (.sc (.string (ByteArray.mk #[97])))), (.t 90), (.t 91)])⟩, ⟨(some 93), none, (.bin false .eql (.t 88) (.t 92))⟩, ⟨(some 94), none, (.mov (.t 93))⟩, ⟨(some 95), (some (94, true)), (.mov (.t 19))⟩, ⟨(some 96), (some (94, true)), (.mov (.t 16))⟩, ⟨(some 97), (some (94, true)), (.mov (.t 5))⟩, ⟨(some 98), (some (94, true)), (.hp 21 [(.t 95), (.v (.sc (.string (ByteArray.mk #[97])))), (.t 96), (.t 97)])⟩, ⟨(some 99), (some (94, true)), (.bin false .eql (.t 98) (.v (.sc (.int .i64 0))))⟩, ⟨(some 100), (some (94, true)), (.mov (.t 99))⟩, ⟨(some 101), (some (100, false)), (.mov (.t 16))⟩, ⟨(some 102), (some (100, false)), (.bin false .gtr (.t 101) (.v (.sc (.int .i64 109000))))⟩, ⟨(some 103), (some (94, true)), (.pick (.t 100) (.v (.sc (.bool true))) (.t 102))⟩, ⟨(some 104), none, (.pick (.t 94) (.t 103) (.v (.sc (.bool false))))⟩, ⟨(some 105), none, (.mov (.t 104))⟩, ⟨(some 106), (some (105, true)), (.two (.pl 12 []) (.pl 12 []))⟩, ⟨(some 107), none, (.pick (.t 105) (.t 106) (.v (.sc (.bool false))))⟩, ⟨(some 12), none, (.mov (.t 107))⟩] 24 none) .ret))))))
def k6 : KF := ⟨(.seq (.reg [⟨(some 6), none, (.box (.t 0))⟩, ⟨(some 7), none, (.box (.t 1))⟩, ⟨(some 12), none, (.mov (.v (.sc (.bool false))))⟩] 3 none) (.seq (.reg [⟨(some 22), none, (.two (.ld (some 1) (.t 6)) (.ld (some 1) (.t 6)))⟩, ⟨(some 23), none, (.two (.ld (some 2) (.t 7)) (.ld (some 2) (.t 7)))⟩, ⟨(some 24), none, (.two (.lit 9 false 1 [(.v (.sc (.string (ByteArray.mk #[97]))))]) (.mk 9 1 [(.v (.sc (.string (ByteArray.mk #[97]))))]))⟩, ⟨(some 25), none, (.hp 10 [(.t 22), (.t 23), (.t 24)])⟩, ⟨(some 21), none, (.mov (.t 25))⟩, ⟨(some 26), none, (.ext (.t 21) 0)⟩, ⟨(some 27), none, (.ext (.t 21) 1)⟩, ⟨(some 13), none, (.mov (.t 26))⟩, ⟨(some 14), none, (.mov (.t 27))⟩] 9 none) (.seq (.seq (.reg [⟨(some 28), none, (.mov (.t 13))⟩, ⟨(some 29), none, (.isn false (.t 28))⟩] 2 none) (.cond (.t 29) (.seq (.reg [⟨(some 30), none, (.mov (.t 14))⟩, ⟨(some 31), none, (.bin false .neq (.t 30) (.v (.sc (.int .i64 0))))⟩, ⟨(some 32), none, (.mov (.t 31))⟩, ⟨(some 33), (some (32, true)), (.two (.pl 12 []) (.pl 12 []))⟩, ⟨(some 34), none, (.pick (.t 32) (.t 33) (.v (.sc (.bool false))))⟩, ⟨(some 12), none, (.mov (.t 34))⟩] 6 none) .ret) .skip)) (.seq (.seq (.reg [⟨(some 15), none, (.mov (.v (.sc (.int .i64 0))))⟩] 1 none) (.block 0 (.loop k6_l0))) k6_t0)))), [(.t 12)]⟩
def k7 : KF := ⟨(.seq (.reg [⟨(some 3), none, (.box (.t 0))⟩, ⟨(some 4), none, (.box (.t 1))⟩, ⟨(some 6), none, (.mov (.v (.sc (.bool false))))⟩] 3 none) (.seq (.seq (.reg [⟨(some 11), none, (.mov (.t 2))⟩, ⟨(some 12), none, (.two (.pl 9 [(.t 11), (.v (.list 0 [] 1))]) (.pl 9 [(.t 11), (.v (.list 0 [] 1))]))⟩] 2 none) (.cond (.t 12) (.seq (.reg [⟨(some 6), none, (.mov (.v (.sc (.bool true))))⟩] 1 none) .ret) .skip)) (.seq (.reg [⟨(some 14), none, (.two (.ld (some 1) (.t 3)) (.ld (some 1) (.t 3)))⟩, ⟨(some 15), none, (.two (.ld (some 2) (.t 4)) (.ld (some 2) (.t 4)))⟩, ⟨(some 16), none, (.mov (.t 2))⟩, ⟨(some 17), none, (.hp 10 [(.t 14), (.t 15), (.t 16)])⟩, ⟨(some 13), none, (.mov (.t 17))⟩, ⟨(some 18), none, (.ext (.t 13) 0)⟩, ⟨(some 19), none, (.ext (.t 13) 1)⟩, ⟨(some 7), none, (.mov (.t 18))⟩, ⟨(some 8), none, (.mov (.t 19))⟩] 9 none) (.seq (.reg [⟨(some 21), none, (.two (.ld (some 1) (.t 3)) (.ld (some 1) (.t 3)))⟩, ⟨(some 22), none, (.two (.ld (some 2) (.t 4)) (.ld (some 2) (.t 4)))⟩, ⟨(some 23), none, (.mov (.t 2))⟩, ⟨(some 24), none, (.hp 11 [(.t 21), (.t 22), (.t 23)])⟩, ⟨(some 20), none, (.mov (.t 24))⟩, ⟨(some 25), none, (.ext (.t 20) 0)⟩, ⟨(some 26), none, (.ext (.t 20) 1)⟩, ⟨(some 9), none, (.mov (.t 25))⟩, ⟨(some 10), none, (.mov (.t 26))⟩] 9 none) (.seq (.seq (.reg [⟨(some 27), none, (.mov (.t 8))⟩, ⟨(some 28), none, (.mov (.t 10))⟩, ⟨(some 29), none, (.bin false .neq (.t 27) (.t 28))⟩, ⟨(some 30), none, (.mov (.t 29))⟩, ⟨(some 31), (some (30, false)), (.mov (.t 7))⟩, ⟨(some 32), (some (30, false)), (.isn true (.t 31))⟩, ⟨(some 33), (some (30, false)), (.mov (.t 9))⟩, ⟨(some 34), (some (30, false)), (.isn true (.t 33))⟩, ⟨(some 35), (some (30, false)), (.bin true .neq (.t 32) (.t 34))⟩, ⟨(some 36), none, (.pick (.t 30) (.v (.sc (.bool true))) (.t 35))⟩, ⟨(some 37), none, (.mov (.t 36))⟩, ⟨(some 38), (some (37, false)), (.two (.pl 12 []) (.pl 12 []))⟩, ⟨(some 39), (some (37, false)), (.un .not (.t 38))⟩, ⟨(some 40), none, (.pick (.t 37) (.v (.sc (.bool true))) (.t 39))⟩] 14 none) (.cond (.t 40) (.seq (.reg [⟨(some 6), none, (.mov (.v (.sc (.bool false))))⟩] 1 none) .ret) .skip)) (.seq (.reg [⟨(some 41), none, (.mov (.t 7))⟩, ⟨(some 42), none, (.isn false (.t 41))⟩, ⟨(some 43), none, (.mov (.t 42))⟩, ⟨(some 44), (some (43, false)), (.mov (.t 9))⟩, ⟨(some 45), (some (43, false)), (.isn false (.t 44))⟩, ⟨(some 46), none, (.pick (.t 43) (.v (.sc (.bool true))) (.t 45))⟩, ⟨(some 47), none, (.mov (.t 46))⟩, ⟨(some 48), (some (47, false)), (.mov (.t 7))⟩, ⟨(some 49), (some (47, false)), (.hp 22 [(.t 48)])⟩, ⟨(some 50), (some (47, false)), (.two (.ld (some 1) (.t 3)) (.ld (some 1) (.t 3)))⟩, ⟨(some 51), (some (47, false)), (.eqs false [(0, 0)] (.t 49) (.t 50))⟩, ⟨(some 52), (some (47, false)), (.mov (.t 51))⟩, ⟨(some 53), (some (52, true)), (.mov (.t 7))⟩, ⟨(some 54), (some (52, true)), (.hp 24 [(.t 53)])⟩, ⟨(some 55), (some (52, true)), (.mov (.t 9))⟩, ⟨(some 56), (some (52, true)), (.hp 25 [(.t 55)])⟩, ⟨(some 57), (some (52, true)), (.two (.pl 23 [(.t 54), (.t 56)]) (.pl 23 [(.t 54), (.t 56)]))⟩, ⟨(some 58), (some (47, false)), (.pick (.t 52) (.t 57) (.v (.sc (.bool false))))⟩, ⟨(some 59), (some (47, false)), (.mov (.t 58))⟩, ⟨(some 60), (some (59, true)), (.mov (.t 7))⟩, ⟨(some 61), (some (59, true)), (.hp 17 [(.t 60)])⟩, ⟨(some 62), (some (59, true)), (.two (.len (.t 61)) (.len (.t 61)))⟩, ⟨(some 63), (some (59, true)), (.bin false .eql (.t 62) (.v (.sc (.int .i64 0))))⟩, ⟨(some 64), (some (47, false)), (.pick (.t 59) (.t 63) (.v (.sc (.bool false))))⟩, ⟨(some 65), none, (.pick (.t 47) (.v (.sc (.bool true))) (.t 64))⟩, ⟨(some 6), none, (.mov (.t 65))⟩] 26 (some [0, 1, 3, 7, 15, 31, 63, 127, 255, 127, 1023, 2047, 4095, 8191, 4095, 32767, 65535, 131071, 262143, 524287, 1048575, 2097151, 4194303, 8388607, 16777215, 33554431])) .ret)))))), [(.t 6)]⟩
theorem k7_eq : (Tryd.prog.funcs[7]?).bind (cmpF Tryd.prog hmS glS 1) = some k7 := by kernel_rfl
def k8 : KF := ⟨(.seq (.reg [⟨(some 7), none, (.box (.t 2))⟩, ⟨(some 10), none, (.mov (.v (.sc (.bool false))))⟩] 2 none) (.seq (.reg [⟨(some 11), none, (.mov (.v (.sc (.pointer none))))⟩] 1 none) (.seq (.reg [⟨(some 15), none, (.mov (.t 11))⟩, ⟨(some 16), none, (.mov (.t 0))⟩, ⟨(some 17), none, (.hp 18 [(.t 15), (.t 16)])⟩, ⟨(some 14), none, (.mov (.t 17))⟩, ⟨(some 18), none, (.ext (.t 14) 0)⟩, ⟨(some 19), none, (.ext (.t 14) 1)⟩, ⟨(some 12), none, (.new [(.sc (.int .i64 0)), (.sc (.int .i64 0))])⟩, ⟨none, none, (.two (.sto 2 (.t 12) (.t 18)) (.sto 2 (.t 12) (.t 18)))⟩, ⟨(some 13), none, (.mov (.t 19))⟩] 9 none) (.seq (.reg [⟨(some 20), none, (.mov (.t 11))⟩, ⟨(some 21), none, (.hp 22 [(.t 20)])⟩, ⟨(some 22), none, (.build [(0, 1)] [(.sc (.int .i64 0))] [])⟩, ⟨(some 23), none, (.eqs false [(0, 0)] (.t 21) (.t 22))⟩, ⟨(some 24), none, (.mov (.t 23))⟩, ⟨(some 25), (some (24, true)), (.mov (.t 11))⟩, ⟨(some 26), (some (24, true)), (.hp 24 [(.t 25)])⟩, ⟨(some 27), (some (24, true)), (.two (.len (.t 26)) (.len (.t 26)))⟩, ⟨(some 28), (some (24, true)), (.bin false .eql (.t 27) (.v (.sc (.int .i64 0))))⟩, ⟨(some 29), none, (.pick (.t 24) (.t 28) (.v (.sc (.bool false))))⟩, ⟨(some 30), none, (.mov (.t 29))⟩, ⟨(some 31), (some (30, true)), (.two (.ld (some 2) (.t 12)) (.ld (some 2) (.t 12)))⟩, ⟨(some 32), (some (30, true)), (.build [(0, 1), (1, 1)] [(.sc (.int .i64 0)), (.sc (.int .i64 0))] [])⟩, ⟨(some 33), (some (30, true)), (.eqs false [(0, 0), (1, 0)] (.t 31) (.t 32))⟩, ⟨(some 34), none, (.pick (.t 30) (.t 33) (.v (.sc (.bool false))))⟩, ⟨(some 35), none, (.mov (.t 34))⟩, ⟨(some 36), (some (35, true)), (.mov (.t 13))⟩, ⟨(some 37), (some (35, true)), (.bin false .eql (.t 36) (.v (.sc (.int .i64 1))))⟩, ⟨(some 38), none, (.pick (.t 35) (.t 37) (.v (.sc (.bool false))))⟩, ⟨(some 39), none, (.mov (.t 38))⟩, ⟨(some 40), (some (39, true)), (.mov (.t 11))⟩, ⟨(some 41), (some (39, true)), (.mov (.t 0))⟩, ⟨(some 42), (some (39, true)), (.two (.ld (some 2) (.t 7)) (.ld (some 2) (.t 7)))⟩, ⟨(some 43), (some (39, true)), (.hp 26 [(.t 40), (.t 41), (.t 42)])⟩, ⟨(some 44), (some (39, true)), (.bin false .eql (.t 43) (.v (.sc (.int .i64 0))))⟩, ⟨(some 45), none, (.pick (.t 39) (.t 44) (.v (.sc (.bool false))))⟩, ⟨(some 46), none, (.mov (.t 45))⟩, ⟨(some 47), (some (46, true)), (.mov (.t 11))⟩, ⟨(some 48), (some (46, true)), (.mov (.t 0))⟩, ⟨(some 49), (some (46, true)), (.mov (.t 1))⟩, ⟨(some 50), (some (46, true)), (.hp 19 [(.t 47), (.t 48), (.t 49)])⟩, ⟨(some 51), (some (46, true)), (.bin false .eql (.t 50) (.v (.sc (.int .i64 1))))⟩, ⟨(some 52), none, (.pick (.t 46) (.t 51) (.v (.sc (.bool false))))⟩, ⟨(some 53), none, (.mov (.t 52))⟩, ⟨(some 54), (some (53, true)), (.mov (.t 11))⟩, ⟨(some 55), (some (53, true)), (.mov (.t 0))⟩, ⟨(some 56), (some (53, true)), (.mov (.t 1))⟩, ⟨(some 57), (some (53, true)), (.hp 27 [(.t 54), (.t 55), (.t 56)])⟩, ⟨(some 58), (some (53, true)), (.bin false .eql (.t 57) (.v (.sc (.int .i64 1))))⟩, ⟨(some 59), none, (.pick (.t 53) (.t 58) (.v (.sc (.bool false))))⟩, ⟨(some 60), none, (.mov (.t 59))⟩, ⟨(some 61), (some (60, true)), (.mov (.t 11))⟩, ⟨(some 62), (some (60, true)), (.mov (.t 0))⟩, ⟨(some 63), (some (60, true)), (.mov (.t 1))⟩, ⟨(some 64), (some (60, true)), (.hp 28 [(.t 61), (.t 62), (.t 63)])⟩, ⟨(some 65), (some (60, true)), (.bin false .eql (.t 64) (.v (.sc (.int .i64 1))))⟩, ⟨(some 66), none, (.pick (.t 60) (.t 65) (.v (.sc (.bool false))))⟩, ⟨(some 67), none, (.mov (.t 66))⟩, ⟨(some 68), (some (67, true)), (.mov (.t 11))⟩, ⟨(some 69), (some (67, true)), (.mov (.t 0))⟩, ⟨(some 70), (some (67, true)), (.mov (.t 3))⟩, ⟨(some 71), (some (67, true)), (.mov (.t 4))⟩, ⟨(some 72), (some (67, true)), (.hp 20 [(.t 68), (.t 69), (.t 70), (.t 71)])⟩, ⟨(some 73), (some (67, true)), (.bin false .eql (.t 72) (.v (.sc (.int .i64 1))))⟩, ⟨(some 74), none, (.pick (.t 67) (.t 73) (.v (.sc (.bool false))))⟩, ⟨(some 75), none, (.mov (.t 74))⟩, ⟨(some 76), (some (75, true)), (.mov (.t 11))⟩, ⟨(some 77), (some (75, true)), (.hp 17 [(.t 76)])⟩, ⟨(some 78), (some (75, true)), (.two (.len (.t 77)) (.len (.t 77)))⟩, ⟨(some 79), (some (75, true)), (.bin false .eql (.t 78) (.v (.sc (.int .i64 0))))⟩, ⟨(some 80), none, (.pick (.t 75) (.t 79) (.v (.sc (.bool false))))⟩, ⟨(some 81), none, (.mov (.t 80))⟩, ⟨(some 82), (some (81, true)), (.two (.pl 12 []) (.pl 12 []))⟩, ⟨(some 83), none, (.pick (.t 81) (.t 82) (.v (.sc (.bool false))))⟩, ⟨(some 10), none, (.mov (.t 83))⟩] 65 none) .ret)))), [(.t 10)]⟩
def k9 : KF := ⟨(.seq (.reg [⟨(some 4), none, (.mov (.v (.sc (.bool false))))⟩] 1 none) (.seq (.reg [⟨(some 5), none, (.mov (.t 0))⟩, ⟨(some 6), none, (.len (.t 5))⟩, ⟨(some 7), none, (.bin false .gtr (.t 6) (.v (.sc (.int .i64 210))))⟩, ⟨(some 8), none, (.mov (.t 7))⟩, ⟨(some 9), (some (8, false)), (.mov (.t 1))⟩, ⟨(some 10), (some (8, false)), (.len (.t 9))⟩, ⟨(some 11), (some (8, false)), (.bin false .gtr (.t 10) (.v (.sc (.int .i64 40))))⟩, ⟨(some 12), none, (.pick (.t 8) (.v (.sc (.bool true))) (.t 11))⟩, ⟨(some 4), none, (.mov (.t 12))⟩] 9 none) .ret)), [(.t 4)]⟩
theorem k9_eq : (Tryd.prog.funcs[9]?).bind (cmpF Tryd.prog hmS glS 0) = some k9 := by kernel_rfl
def k10_l0 : Y := (.seq (.reg [⟨(some 37), none, (.bin false .lss (.t 36) (.t 35))⟩] 1 none) (.seq (.cond (.t 37) .skip (.«exit» 0)) (.seq (.block 1 (.seq (.reg [⟨(some 38), none, (.two (.ix 9 (.t 34) (.t 36)) (.ixl 9 (.t 34) (.t 36)))⟩, ⟨(some 39), none, (.two (.ld none (.t 38)) (.ld none (.t 38)))⟩, ⟨(some 12), none, (.mov (.t 39))⟩] 3 none) (.seq (.seq (.reg [⟨(some 40), none, (.mov (.t 12))⟩, ⟨(some 41), none, (.two (.pl 30 [(.t 40)]) (.pl 30 [(.t 40)]))⟩, ⟨(some 42), none, (.un .not (.t 41))⟩] 3 none) (.cond (.t 42) (.seq (.reg [⟨(some 6), none, (.mov (.v (.sc (.pointer none))))⟩, ⟨(some 7), none, (.mov (.v (.sc (.int .i64 7))))⟩] 2 none) .ret) .skip)) (.seq (.seq (.reg [⟨(some 44), none, (.mov (.t 6))⟩, ⟨(some 45), none, (.nilc (.t 44))⟩, ⟨(some 46), none, (.fa 3 (.t 45))⟩, ⟨(some 47), none, (.two (.ld none (.t 46)) (.ld none (.t 46)))⟩, ⟨(some 48), none, (.mov (.t 12))⟩, ⟨(some 49), none, (.lku 1 (.agg [(.sc (.int .i64 0)), (.sc (.int .i64 0))]) true (.t 47) (.t 48))⟩, ⟨(some 43), none, (.mov (.t 49))⟩, ⟨(some 50), none, (.ext (.t 43) 0)⟩, ⟨(some 51), none, (.ext (.t 43) 1)⟩, ⟨(some 13), none, (.new [(.sc (.int .i64 0)), (.sc (.int .i64 0))])⟩, ⟨none, none, (.two (.sto 2 (.t 13) (.t 50)) (.sto 2 (.t 13) (.t 50)))⟩, ⟨(some 14), none, (.mov (.t 51))⟩] 12 none) (.seq (.reg [⟨(some 52), none, (.mov (.t 14))⟩] 1 none) (.cond (.t 52) (.seq (.reg [⟨(some 6), none, (.mov (.v (.sc (.pointer none))))⟩, ⟨(some 7), none, (.mov (.v (.sc (.int .i64 8))))⟩] 2 none) .ret) .skip))) (.seq (.reg [⟨(some 53), none, (.mov (.t 6))⟩, ⟨(some 54), none, (.nilc (.t 53))⟩, ⟨(some 55), none, (.fa 3 (.t 54))⟩, ⟨(some 56), none, (.two (.ld none (.t 55)) (.ld none (.t 55)))⟩, ⟨(some 57), none, (.mov (.t 12))⟩, ⟨(some 58), none, (.two (.ld (some 2) (.t 4)) (.ld (some 2) (.t 4)))⟩, ⟨none, none, (.mup 1 (.t 56) (.t 57) (.t 58))⟩] 7 (some [0, 1, 3, 7, 0, 0, 63])) (.reg [⟨(some 59), none, (.mov (.t 6))⟩, ⟨(some 60), none, (.mov (.t 6))⟩, ⟨(some 61), none, (.nilc (.t 60))⟩, ⟨(some 62), none, (.fa 5 (.t 61))⟩, ⟨(some 63), none, (.two (.ld none (.t 62)) (.ld none (.t 62)))⟩, ⟨(some 64), none, (.mov (.t 12))⟩, ⟨(some 65), none, (.two (.lit 9 false 1 [(.t 64)]) (.mk 9 1 [(.t 64)]))⟩, ⟨(some 66), none, (.two (.app 9 false 1 16 true (.t 63) (.t 65)) (.app 9 16 true (.t 63) (.t 65)))⟩, ⟨(some 67), none, (.nilc (.t 59))⟩, ⟨(some 68), none, (.fa 5 (.t 67))⟩, ⟨none, none, (.two (.sto 1 (.t 68) (.t 66)) (.sto 1 (.t 68) (.t 66)))⟩] 11 none)))))) (.reg [⟨(some 69), none, (.bin false .add (.t 36) (.v (.sc (.int .i64 1))))⟩, ⟨(some 36), none, (.mov (.t 69))⟩] 2 none))))
def k10_t0 : Y := (.seq (.reg [⟨(some 70), none, (.mov (.t 6))⟩, ⟨(some 71), none, (.nilc (.t 70))⟩, ⟨(some 72), none, (.fa 5 (.t 71))⟩, ⟨(some 73), none, (.two (.ld none (.t 72)) (.ld none (.t 72)))⟩, ⟨(some 74), none, (.hp 31 [(.t 73)])⟩] 5 none) (.seq (.reg [⟨(some 75), none, (.mov (.t 6))⟩, ⟨(some 6), none, (.mov (.t 75))⟩, ⟨(some 7), none, (.mov (.v (.sc (.int .i64 0))))⟩] 3 none) .ret))
def k10 : KF := ⟨(.seq (.reg [⟨(some 3), none, (.box (.t 0))⟩, ⟨(some 4), none, (.box (.t 1))⟩, ⟨(some 6), none, (.mov (.v (.sc (.pointer none))))⟩, ⟨(some 7), none, (.mov (.v (.sc (.int .i64 0))))⟩] 4 none) (.seq (.seq (.reg [⟨(some 16), none, (.two (.ld (some 1) (.t 3)) (.ld (some 1) (.t 3)))⟩, ⟨(some 17), none, (.two (.ld (some 2) (.t 4)) (.ld (some 2) (.t 4)))⟩, ⟨(some 18), none, (.two (.pl 29 [(.t 16), (.t 17)]) (.pl 29 [(.t 16), (.t 17)]))⟩, ⟨(some 15), none, (.mov (.t 18))⟩, ⟨(some 19), none, (.ext (.t 15) 0)⟩, ⟨(some 20), none, (.ext (.t 15) 1)⟩, ⟨(some 21), none, (.ext (.t 15) 2)⟩, ⟨(some 8), none, (.mov (.t 19))⟩, ⟨(some 9), none, (.mov (.t 20))⟩, ⟨(some 10), none, (.mov (.t 21))⟩] 10 none) (.seq (.reg [⟨(some 22), none, (.mov (.t 10))⟩, ⟨(some 23), none, (.bin false .neq (.t 22) (.v (.sc (.int .i64 0))))⟩] 2 none) (.cond (.t 23) (.seq (.reg [⟨(some 24), none, (.mov (.t 10))⟩, ⟨(some 6), none, (.mov (.v (.sc (.pointer none))))⟩, ⟨(some 7), none, (.mov (.t 24))⟩] 3 none) .ret) .skip))) (.seq (.seq (.reg [⟨(some 25), none, (.mov (.t 2))⟩, ⟨(some 26), none, (.two (.len (.t 25)) (.len (.t 25)))⟩, ⟨(some 27), none, (.bin false .gtr (.t 26) (.v (.sc (.int .i64 200))))⟩] 3 none) (.cond (.t 27) (.seq (.reg [⟨(some 6), none, (.mov (.v (.sc (.pointer none))))⟩, ⟨(some 7), none, (.mov (.v (.sc (.int .i64 9))))⟩] 2 none) .ret) .skip)) (.seq (.reg [⟨(some 28), none, (.two (.ld (some 1) (.t 3)) (.ld (some 1) (.t 3)))⟩, ⟨(some 29), none, (.two (.ld (some 2) (.t 4)) (.ld (some 2) (.t 4)))⟩, ⟨(some 30), none, .mkm⟩, ⟨(some 31), none, .mkm⟩, ⟨(some 32), none, (.build [(0, 1), (1, 2), (3, 1), (4, 1), (5, 1), (6, 1)] [(.sc (.int .i64 0)), (.sc (.int .i64 0)), (.sc (.int .i64 0)), (.sc (.map none)), (.sc (.map none)), (.list 0 [] 1), (.list 0 [] 1)] [(0, (.t 28)), (1, (.t 29)), (2, (.t 30)), (3, (.t 31))])⟩, ⟨(some 33), none, (.box (.t 32))⟩, ⟨(some 6), none, (.mov (.t 33))⟩] 7 none) (.seq (.seq (.reg [⟨(some 34), none, (.mov (.t 2))⟩, ⟨(some 35), none, (.two (.len (.t 34)) (.len (.t 34)))⟩, ⟨(some 36), none, (.mov (.v (.sc (.int .i64 0))))⟩] 3 none) (.block 0 (.loop k10_l0))) k10_t0))))), [(.t 6), (.t 7)]⟩
theorem k10_eq : (Tryd.prog.funcs[10]?).bind (cmpF Tryd.prog hmS glS 1) = some k10 := by kernel_rfl
def k11_l0 : Y := (.seq (.seq (.reg [⟨(some 32), none, (.mov (.t 12))⟩, ⟨(some 33), none, (.mov (.t 2))⟩, ⟨(some 34), none, (.two (.len (.t 33)) (.len (.t 33)))⟩, ⟨(some 35), none, (.bin false .lss (.t 32) (.t 34))⟩] 4 none) (.cond (.t 35) .skip (.«exit» 0))) (.seq (.block 1 (.seq (.seq (.reg [⟨(some 38), none, (.mov (.t 2))⟩, ⟨(some 39), none, (.mov (.t 12))⟩, ⟨(some 40), none, (.two (.ix 9 (.t 38) (.t 39)) (.ixl 9 (.t 38) (.t 39)))⟩, ⟨(some 41), none, (.two (.ld none (.t 40)) (.ld none (.t 40)))⟩, ⟨(some 42), none, (.two (.pl 34 [(.t 41)]) (.pl 34 [(.t 41)]))⟩, ⟨(some 43), none, (.un .not (.t 42))⟩] 6 none) (.cond (.t 43) (.seq (.reg [⟨(some 6), none, (.mov (.v (.sc (.pointer none))))⟩, ⟨(some 7), none, (.mov (.v (.sc (.int .i64 7))))⟩] 2 none) .ret) .skip)) (.seq (.seq (.reg [⟨(some 44), none, (.mov (.t 11))⟩, ⟨(some 45), none, (.mov (.t 2))⟩, ⟨(some 46), none, (.mov (.t 12))⟩, ⟨(some 47), none, (.two (.ix 9 (.t 45) (.t 46)) (.ixl 9 (.t 45) (.t 46)))⟩, ⟨(some 48), none, (.two (.ld none (.t 47)) (.ld none (.t 47)))⟩, ⟨(some 49), none, (.hp 35 [(.t 44), (.t 48)])⟩, ⟨(some 50), none, (.bin false .geq (.t 49) (.v (.sc (.int .i64 0))))⟩] 7 none) (.cond (.t 50) (.seq (.reg [⟨(some 6), none, (.mov (.v (.sc (.pointer none))))⟩, ⟨(some 7), none, (.mov (.v (.sc (.int .i64 8))))⟩] 2 none) .ret) .skip)) (.seq (.reg [⟨(some 51), none, (.mov (.t 11))⟩, ⟨(some 52), none, (.mov (.t 11))⟩, ⟨(some 53), none, (.nilc (.t 52))⟩, ⟨(some 54), none, (.fa 3 (.t 53))⟩, ⟨(some 55), none, (.two (.ld none (.t 54)) (.ld none (.t 54)))⟩, ⟨(some 56), none, (.mov (.t 2))⟩, ⟨(some 57), none, (.mov (.t 12))⟩, ⟨(some 58), none, (.two (.ix 9 (.t 56) (.t 57)) (.ixl 9 (.t 56) (.t 57)))⟩, ⟨(some 59), none, (.two (.ld none (.t 58)) (.ld none (.t 58)))⟩, ⟨(some 60), none, (.two (.lit 9 false 1 [(.t 59)]) (.mk 9 1 [(.t 59)]))⟩, ⟨(some 61), none, (.two (.app 9 false 1 16 true (.t 55) (.t 60)) (.app 9 16 true (.t 55) (.t 60)))⟩, ⟨(some 62), none, (.nilc (.t 51))⟩, ⟨(some 63), none, (.fa 3 (.t 62))⟩, ⟨none, none, (.two (.sto 1 (.t 63) (.t 61)) (.sto 1 (.t 63) (.t 61)))⟩] 14 (some [0, 0, 2, 6, 14, 0, 0, 96, 224, 480, 1022, 2047, 4095, 8191])) (.seq (.reg [⟨(some 64), none, (.mov (.t 11))⟩, ⟨(some 65), none, (.mov (.t 11))⟩, ⟨(some 66), none, (.nilc (.t 65))⟩, ⟨(some 67), none, (.fa 4 (.t 66))⟩, ⟨(some 68), none, (.two (.ld none (.t 67)) (.ld none (.t 67)))⟩, ⟨(some 69), none, (.two (.ld (some 2) (.t 4)) (.ld (some 2) (.t 4)))⟩, ⟨(some 70), none, (.two (.lit 25 true 2 [(.t 69)]) (.mk 25 2 [(.t 69)]))⟩, ⟨(some 71), none, (.two (.app 25 true 2 16 true (.t 68) (.t 70)) (.app 25 16 true (.t 68) (.t 70)))⟩, ⟨(some 72), none, (.nilc (.t 64))⟩, ⟨(some 73), none, (.fa 4 (.t 72))⟩, ⟨none, none, (.two (.sto 1 (.t 73) (.t 71)) (.sto 1 (.t 73) (.t 71)))⟩] 11 (some [0, 0, 2, 6, 14, 0, 32, 126, 255, 511, 1023])) (.reg [⟨(some 74), none, (.mov (.t 11))⟩, ⟨(some 75), none, (.mov (.t 11))⟩, ⟨(some 76), none, (.nilc (.t 75))⟩, ⟨(some 77), none, (.fa 5 (.t 76))⟩, ⟨(some 78), none, (.two (.ld none (.t 77)) (.ld none (.t 77)))⟩, ⟨(some 79), none, (.two (.lit 9 false 1 [(.v (.sc (.string (ByteArray.mk #[]))))]) (.mk 9 1 [(.v (.sc (.string (ByteArray.mk #[]))))]))⟩, ⟨(some 80), none, (.two (.app 9 false 1 16 true (.t 78) (.t 79)) (.app 9 16 true (.t 78) (.t 79)))⟩, ⟨(some 81), none, (.nilc (.t 74))⟩, ⟨(some 82), none, (.fa 5 (.t 81))⟩, ⟨none, none, (.two (.sto 1 (.t 82) (.t 80)) (.sto 1 (.t 82) (.t 80)))⟩] 10 none)))))) (.reg [⟨(some 36), none, (.mov (.t 12))⟩, ⟨(some 37), none, (.bin false .add (.t 36) (.v (.sc (.int .i64 1))))⟩, ⟨(some 12), none, (.mov (.t 37))⟩] 3 none)))
def k11_t0 : Y := (.seq (.reg [⟨(some 83), none, (.mov (.t 11))⟩, ⟨(some 6), none, (.mov (.t 83))⟩, ⟨(some 7), none, (.mov (.v (.sc (.int .i64 0))))⟩] 3 none) .ret)
def k11 : KF := ⟨(.seq (.reg [⟨(some 3), none, (.box (.t 0))⟩, ⟨(some 4), none, (.box (.t 1))⟩, ⟨(some 6), none, (.mov (.v (.sc (.pointer none))))⟩, ⟨(some 7), none, (.mov (.v (.sc (.int .i64 0))))⟩] 4 none) (.seq (.seq (.reg [⟨(some 13), none, (.two (.ld (some 1) (.t 3)) (.ld (some 1) (.t 3)))⟩, ⟨(some 14), none, (.two (.pl 32 [(.t 13)]) (.pl 32 [(.t 13)]))⟩, ⟨(some 15), none, (.un .not (.t 14))⟩] 3 none) (.cond (.t 15) (.seq (.reg [⟨(some 6), none, (.mov (.v (.sc (.pointer none))))⟩, ⟨(some 7), none, (.mov (.v (.sc (.int .i64 2))))⟩] 2 none) .ret) .skip)) (.seq (.seq (.reg [⟨(some 17), none, (.two (.ld (some 1) (.t 3)) (.ld (some 1) (.t 3)))⟩, ⟨(some 18), none, (.two (.ld (some 2) (.t 4)) (.ld (some 2) (.t 4)))⟩, ⟨(some 19), none, (.two (.pl 33 [(.t 17), (.t 18)]) (.pl 33 [(.t 17), (.t 18)]))⟩, ⟨(some 16), none, (.mov (.t 19))⟩, ⟨(some 20), none, (.ext (.t 16) 0)⟩, ⟨(some 21), none, (.ext (.t 16) 1)⟩, ⟨(some 22), none, (.ext (.t 16) 2)⟩, ⟨(some 8), none, (.mov (.t 20))⟩, ⟨(some 9), none, (.mov (.t 21))⟩, ⟨(some 10), none, (.mov (.t 22))⟩] 10 none) (.seq (.reg [⟨(some 23), none, (.mov (.t 10))⟩, ⟨(some 24), none, (.bin false .neq (.t 23) (.v (.sc (.int .i64 0))))⟩] 2 none) (.cond (.t 24) (.seq (.reg [⟨(some 6), none, (.mov (.v (.sc (.pointer none))))⟩, ⟨(some 7), none, (.mov (.v (.sc (.int .i64 16))))⟩] 2 none) .ret) .skip))) (.seq (.seq (.reg [⟨(some 25), none, (.mov (.t 2))⟩, ⟨(some 26), none, (.two (.len (.t 25)) (.len (.t 25)))⟩, ⟨(some 27), none, (.bin false .gtr (.t 26) (.v (.sc (.int .i64 200))))⟩] 3 none) (.cond (.t 27) (.seq (.reg [⟨(some 6), none, (.mov (.v (.sc (.pointer none))))⟩, ⟨(some 7), none, (.mov (.v (.sc (.int .i64 9))))⟩] 2 none) .ret) .skip)) (.seq (.reg [⟨(some 28), none, (.two (.ld (some 1) (.t 3)) (.ld (some 1) (.t 3)))⟩, ⟨(some 29), none, (.two (.ld (some 2) (.t 4)) (.ld (some 2) (.t 4)))⟩, ⟨(some 30), none, (.build [(0, 1), (1, 2), (3, 1), (4, 1), (5, 1), (6, 1)] [(.sc (.int .i64 0)), (.sc (.int .i64 0)), (.sc (.int .i64 0)), (.list 0 [] 1), (.list 0 [] 1), (.list 0 [] 1), (.list 0 [] 1)] [(0, (.t 28)), (1, (.t 29))])⟩, ⟨(some 31), none, (.box (.t 30))⟩, ⟨(some 11), none, (.mov (.t 31))⟩] 5 none) (.seq (.seq (.reg [⟨(some 12), none, (.mov (.v (.sc (.int .i64 0))))⟩] 1 none) (.block 0 (.loop k11_l0))) k11_t0)))))), [(.t 6), (.t 7)]⟩
theorem k11_eq : (Tryd.prog.funcs[11]?).bind (cmpF Tryd.prog hmS glS 1) = some k11 := by kernel_rfl
def k17 : KF := ⟨(.seq (.reg [⟨(some 2), none, (.mov (.v (.list 0 [] 1)))⟩] 1 none) (.seq (.seq (.reg [⟨(some 3), none, (.mov (.t 0))⟩, ⟨(some 4), none, (.isn false (.t 3))⟩] 2 none) (.cond (.t 4) (.seq (.reg [⟨(some 2), none, (.mov (.v (.list 0 [] 1)))⟩] 1 none) .ret) .skip)) (.seq (.reg [⟨(some 5), none, (.mov (.t 0))⟩, ⟨(some 6), none, (.nilc (.t 5))⟩, ⟨(some 7), none, (.fa 6 (.t 6))⟩, ⟨(some 8), none, (.two (.ld none (.t 7)) (.ld none (.t 7)))⟩, ⟨(some 9), none, (.hp 41 [(.t 8)])⟩, ⟨(some 2), none, (.mov (.t 9))⟩] 6 none) .ret))), [(.t 2)]⟩
theorem k17_eq : (Tryd.prog.funcs[17]?).bind (cmpF Tryd.prog hmS glS 1) = some k17 := by kernel_rfl
def k22 : KF := ⟨(.seq (.reg [⟨(some 2), none, (.new [(.sc (.int .i64 0))])⟩] 1 none) (.seq (.seq (.reg [⟨(some 3), none, (.mov (.t 0))⟩, ⟨(some 4), none, (.isn false (.t 3))⟩] 2 none) (.cond (.t 4) (.seq (.reg [⟨(some 5), none, (.build [(0, 1)] [(.sc (.int .i64 0))] [])⟩, ⟨none, none, (.two (.sto 1 (.t 2) (.t 5)) (.sto 1 (.t 2) (.t 5)))⟩] 2 none) .ret) .skip)) (.seq (.reg [⟨(some 6), none, (.mov (.t 0))⟩, ⟨(some 7), none, (.nilc (.t 6))⟩, ⟨(some 8), none, (.fa 0 (.t 7))⟩, ⟨(some 9), none, (.two (.ld (some 1) (.t 8)) (.ld (some 1) (.t 8)))⟩, ⟨none, none, (.two (.sto 1 (.t 2) (.t 9)) (.sto 1 (.t 2) (.t 9)))⟩] 5 none) .ret))), [(.c 2 (some 1))]⟩
theorem k22_eq : (Tryd.prog.funcs[22]?).bind (cmpF Tryd.prog hmS glS 1) = some k22 := by kernel_rfl
def k23_l0 : Y := (.seq (.seq (.reg [⟨(some 11), none, (.mov (.t 5))⟩, ⟨(some 12), none, (.mov (.t 0))⟩, ⟨(some 13), none, (.len (.t 12))⟩, ⟨(some 14), none, (.bin false .lss (.t 11) (.t 13))⟩] 4 none) (.cond (.t 14) .skip (.«exit» 0))) (.seq (.block 1 (.seq (.reg [⟨(some 17), none, (.mov (.t 0))⟩, ⟨(some 18), none, (.mov (.t 5))⟩, ⟨(some 19), none, (.ixl 9 (.t 17) (.t 18))⟩, ⟨(some 20), none, (.ld none (.t 19))⟩, ⟨(some 21), none, (.mov (.t 1))⟩, ⟨(some 22), none, (.mov (.t 5))⟩, ⟨(some 23), none, (.ixl 9 (.t 21) (.t 22))⟩, ⟨(some 24), none, (.ld none (.t 23))⟩, ⟨(some 25), none, (.bin false .neq (.t 20) (.t 24))⟩] 9 (some [0, 0, 3, 7, 0, 0, 48, 112, 255])) (.cond (.t 25) (.seq (.reg [⟨(some 4), none, (.mov (.v (.sc (.bool false))))⟩] 1 none) .ret) .skip))) (.reg [⟨(some 15), none, (.mov (.t 5))⟩, ⟨(some 16), none, (.bin false .add (.t 15) (.v (.sc (.int .i64 1))))⟩, ⟨(some 5), none, (.mov (.t 16))⟩] 3 none)))
def k23_t0 : Y := (.seq (.reg [⟨(some 4), none, (.mov (.v (.sc (.bool true))))⟩] 1 none) .ret)
def k23 : KF := ⟨(.seq (.reg [⟨(some 4), none, (.mov (.v (.sc (.bool false))))⟩] 1 none) (.seq (.seq (.reg [⟨(some 6), none, (.mov (.t 0))⟩, ⟨(some 7), none, (.len (.t 6))⟩, ⟨(some 8), none, (.mov (.t 1))⟩, ⟨(some 9), none, (.len (.t 8))⟩, ⟨(some 10), none, (.bin false .neq (.t 7) (.t 9))⟩] 5 none) (.cond (.t 10) (.seq (.reg [⟨(some 4), none, (.mov (.v (.sc (.bool false))))⟩] 1 none) .ret) .skip)) (.seq (.seq (.reg [⟨(some 5), none, (.mov (.v (.sc (.int .i64 0))))⟩] 1 none) (.block 0 (.loop k23_l0))) k23_t0))), [(.t 4)]⟩
theorem k23_eq : (Tryd.prog.funcs[23]?).bind (cmpF Tryd.prog hmS glS 0) = some k23 := by kernel_rfl
def k24 : KF := ⟨(.seq (.reg [⟨(some 2), none, (.mov (.v (.list 0 [] 1)))⟩] 1 none) (.seq (.seq (.reg [⟨(some 3), none, (.mov (.t 0))⟩, ⟨(some 4), none, (.isn false (.t 3))⟩] 2 none) (.cond (.t 4) (.seq (.reg [⟨(some 2), none, (.mov (.v (.list 0 [] 1)))⟩] 1 none) .ret) .skip)) (.seq (.reg [⟨(some 5), none, (.mov (.t 0))⟩, ⟨(some 6), none, (.nilc (.t 5))⟩, ⟨(some 7), none, (.fa 5 (.t 6))⟩, ⟨(some 8), none, (.two (.ld none (.t 7)) (.ld none (.t 7)))⟩, ⟨(some 9), none, (.hp 49 [(.t 8)])⟩, ⟨(some 2), none, (.mov (.t 9))⟩] 6 none) .ret))), [(.t 2)]⟩
theorem k24_eq : (Tryd.prog.funcs[24]?).bind (cmpF Tryd.prog hmS glS 1) = some k24 := by kernel_rfl
def k25_l0 : Y := (.seq (.seq (.reg [⟨(some 18), none, (.mov (.t 5))⟩, ⟨(some 19), none, (.bin false .gtr (.t 18) (.v (.sc (.int .i64 0))))⟩, ⟨(some 20), none, (.mov (.t 19))⟩, ⟨(some 21), (some (20, true)), (.mov (.t 3))⟩, ⟨(some 22), (some (20, true)), (.mov (.t 5))⟩, ⟨(some 23), (some (20, true)), (.bin false .sub (.t 22) (.v (.sc (.int .i64 1))))⟩, ⟨(some 24), (some (20, true)), (.two (.ix 9 (.t 21) (.t 23)) (.ixl 9 (.t 21) (.t 23)))⟩, ⟨(some 25), (some (20, true)), (.two (.ld none (.t 24)) (.ld none (.t 24)))⟩, ⟨(some 26), (some (20, true)), (.mov (.t 0))⟩, ⟨(some 27), (some (20, true)), (.nilc (.t 26))⟩, ⟨(some 28), (some (20, true)), (.fa 3 (.t 27))⟩, ⟨(some 29), (some (20, true)), (.two (.ld none (.t 28)) (.ld none (.t 28)))⟩, ⟨(some 30), (some (20, true)), (.mov (.t 4))⟩, ⟨(some 31), (some (20, true)), (.two (.ix 9 (.t 29) (.t 30)) (.ixl 9 (.t 29) (.t 30)))⟩, ⟨(some 32), (some (20, true)), (.two (.ld none (.t 31)) (.ld none (.t 31)))⟩, ⟨(some 33), (some (20, true)), (.bin false .gtr (.t 25) (.t 32))⟩, ⟨(some 34), none, (.pick (.t 20) (.t 33) (.v (.sc (.bool false))))⟩] 17 (some [0, 1, 3, 7, 7, 23, 63, 127, 7, 263, 775, 1799, 7, 7943, 16135, 32767, 65535])) (.cond (.t 34) .skip (.«exit» 2))) (.block 3 (.reg [⟨(some 35), none, (.mov (.t 5))⟩, ⟨(some 36), none, (.bin false .sub (.t 35) (.v (.sc (.int .i64 1))))⟩, ⟨(some 5), none, (.mov (.t 36))⟩] 3 none)))
def k25_t0 : Y := (.seq (.reg [⟨(some 37), none, (.two (.lit 9 false 1 []) (.mk 9 1 []))⟩, ⟨(some 38), none, (.mov (.t 3))⟩, ⟨(some 39), none, (.mov (.t 5))⟩, ⟨(some 40), none, (.two (.sll 9 (.t 38) none (some (.t 39))) (.sll 9 (.t 38) none (some (.t 39))))⟩, ⟨(some 41), none, (.two (.app 9 false 1 16 true (.t 37) (.t 40)) (.app 9 16 true (.t 37) (.t 40)))⟩, ⟨(some 6), none, (.mov (.t 41))⟩] 6 none) (.seq (.reg [⟨(some 42), none, (.mov (.t 6))⟩, ⟨(some 43), none, (.mov (.t 0))⟩, ⟨(some 44), none, (.nilc (.t 43))⟩, ⟨(some 45), none, (.fa 3 (.t 44))⟩, ⟨(some 46), none, (.two (.ld none (.t 45)) (.ld none (.t 45)))⟩, ⟨(some 47), none, (.mov (.t 4))⟩, ⟨(some 48), none, (.two (.ix 9 (.t 46) (.t 47)) (.ixl 9 (.t 46) (.t 47)))⟩, ⟨(some 49), none, (.two (.ld none (.t 48)) (.ld none (.t 48)))⟩, ⟨(some 50), none, (.two (.lit 9 false 1 [(.t 49)]) (.mk 9 1 [(.t 49)]))⟩, ⟨(some 51), none, (.two (.app 9 false 1 16 true (.t 42) (.t 50)) (.app 9 16 true (.t 42) (.t 50)))⟩, ⟨(some 6), none, (.mov (.t 51))⟩] 11 none) (.reg [⟨(some 52), none, (.mov (.t 6))⟩, ⟨(some 53), none, (.mov (.t 3))⟩, ⟨(some 54), none, (.mov (.t 5))⟩, ⟨(some 55), none, (.two (.sll 9 (.t 53) (some (.t 54)) none) (.sll 9 (.t 53) (some (.t 54)) none))⟩, ⟨(some 56), none, (.two (.app 9 false 1 16 true (.t 52) (.t 55)) (.app 9 16 true (.t 52) (.t 55)))⟩, ⟨(some 3), none, (.mov (.t 56))⟩] 6 none)))
def k25_t1 : Y := (.reg [⟨(some 14), none, (.mov (.t 4))⟩, ⟨(some 15), none, (.bin false .add (.t 14) (.v (.sc (.int .i64 1))))⟩, ⟨(some 4), none, (.mov (.t 15))⟩] 3 none)
def k25_l1 : Y := (.seq (.seq (.reg [⟨(some 7), none, (.mov (.t 4))⟩, ⟨(some 8), none, (.mov (.t 0))⟩, ⟨(some 9), none, (.nilc (.t 8))⟩, ⟨(some 10), none, (.fa 3 (.t 9))⟩, ⟨(some 11), none, (.two (.ld none (.t 10)) (.ld none (.t 10)))⟩, ⟨(some 12), none, (.two (.len (.t 11)) (.len (.t 11)))⟩, ⟨(some 13), none, (.bin false .lss (.t 7) (.t 12))⟩] 7 none) (.cond (.t 13) .skip (.«exit» 0))) (.seq (.block 1 (.seq (.reg [⟨(some 16), none, (.mov (.t 3))⟩, ⟨(some 17), none, (.two (.len (.t 16)) (.len (.t 16)))⟩, ⟨(some 5), none, (.mov (.t 17))⟩] 3 none) (.seq (.block 2 (.loop k25_l0)) k25_t0))) k25_t1))
def k25_t2 : Y := (.seq (.reg [⟨(some 57), none, (.mov (.t 3))⟩, ⟨(some 2), none, (.mov (.t 57))⟩] 2 none) .ret)
def k25 : KF := ⟨(.seq (.reg [⟨(some 2), none, (.mov (.v (.list 0 [] 1)))⟩] 1 none) (.seq (.reg [⟨(some 3), none, (.mov (.v (.list 0 [] 1)))⟩] 1 none) (.seq (.seq (.reg [⟨(some 4), none, (.mov (.v (.sc (.int .i64 0))))⟩] 1 none) (.block 0 (.loop k25_l1))) k25_t2))), [(.t 2)]⟩
theorem k25_eq : (Tryd.prog.funcs[25]?).bind (cmpF Tryd.prog hmS glS 1) = some k25 := by kernel_rfl
def k29 : KF := ⟨(.seq (.reg [⟨(some 2), none, (.box (.t 0))⟩, ⟨(some 3), none, (.box (.t 1))⟩, ⟨(some 4), none, (.mov (.v (.sc (.int .i64 0))))⟩, ⟨(some 5), none, (.mov (.v (.sc (.int .i64 0))))⟩, ⟨(some 6), none, (.mov (.v (.sc (.int .i64 0))))⟩] 5 none) (.seq (.seq (.reg [⟨(some 7), none, (.ld (some 1) (.t 2))⟩, ⟨(some 8), none, (.pl 51 [(.t 7)])⟩, ⟨(some 9), none, (.un .not (.t 8))⟩] 3 none) (.cond (.t 9) (.seq (.reg [⟨(some 4), none, (.mov (.v (.sc (.int .i64 0))))⟩, ⟨(some 5), none, (.mov (.v (.sc (.int .i64 0))))⟩, ⟨(some 6), none, (.mov (.v (.sc (.int .i64 2))))⟩] 3 none) .ret) .skip)) (.seq (.seq (.reg [⟨(some 10), none, (.ld (some 1) (.t 2))⟩, ⟨(some 11), none, (.ld (some 2) (.t 3))⟩, ⟨(some 12), none, (.pl 52 [(.t 10), (.t 11)])⟩, ⟨(some 13), none, (.un .not (.t 12))⟩] 4 none) (.cond (.t 13) (.seq (.reg [⟨(some 4), none, (.mov (.v (.sc (.int .i64 0))))⟩, ⟨(some 5), none, (.mov (.v (.sc (.int .i64 0))))⟩, ⟨(some 6), none, (.mov (.v (.sc (.int .i64 16))))⟩] 3 none) .ret) .skip)) (.seq (.seq (.reg [⟨(some 14), none, (.fa 1 (.t 3))⟩, ⟨(some 15), none, (.ld none (.t 14))⟩, ⟨(some 16), none, (.bin false .eql (.t 15) (.v (.sc (.int .i64 13))))⟩] 3 none) (.cond (.t 16) (.seq (.reg [⟨(some 18), none, (.ld (some 1) (.t 2))⟩, ⟨(some 19), none, (.fa 0 (.t 3))⟩, ⟨(some 20), none, (.ld none (.t 19))⟩, ⟨(some 21), none, (.pl 53 [(.t 18), (.t 20)])⟩, ⟨(some 17), none, (.mov (.t 21))⟩, ⟨(some 22), none, (.ext (.t 17) 0)⟩, ⟨(some 23), none, (.ext (.t 17) 1)⟩, ⟨(some 24), none, (.ext (.t 17) 2)⟩, ⟨(some 5), none, (.mov (.t 23))⟩] 9 none) (.seq (.reg [⟨(some 25), none, (.mov (.t 5))⟩, ⟨(some 26), none, (.mov (.t 5))⟩, ⟨(some 4), none, (.mov (.t 25))⟩, ⟨(some 5), none, (.mov (.t 26))⟩, ⟨(some 6), none, (.mov (.v (.sc (.int .i64 0))))⟩] 5 none) .ret)) .skip)) (.seq (.reg [⟨(some 28), none, (.ld (some 1) (.t 2))⟩, ⟨(some 29), none, (.fa 0 (.t 3))⟩, ⟨(some 30), none, (.ld none (.t 29))⟩, ⟨(some 31), none, (.fa 1 (.t 3))⟩, ⟨(some 32), none, (.ld none (.t 31))⟩, ⟨(some 33), none, (.bin false .sub (.t 32) (.v (.sc (.int .i64 1))))⟩, ⟨(some 34), none, (.pl 54 [(.t 28), (.t 30), (.t 33)])⟩, ⟨(some 27), none, (.mov (.t 34))⟩, ⟨(some 35), none, (.ext (.t 27) 0)⟩, ⟨(some 36), none, (.ext (.t 27) 1)⟩, ⟨(some 4), none, (.mov (.t 35))⟩] 11 none) (.seq (.reg [⟨(some 38), none, (.mov (.t 4))⟩, ⟨(some 39), none, (.pl 55 [(.t 38)])⟩, ⟨(some 37), none, (.mov (.t 39))⟩, ⟨(some 40), none, (.ext (.t 37) 0)⟩, ⟨(some 41), none, (.ext (.t 37) 1)⟩, ⟨(some 5), none, (.mov (.t 40))⟩] 6 none) (.seq (.reg [⟨(some 42), none, (.mov (.t 4))⟩, ⟨(some 43), none, (.mov (.t 5))⟩, ⟨(some 4), none, (.mov (.t 42))⟩, ⟨(some 5), none, (.mov (.t 43))⟩, ⟨(some 6), none, (.mov (.v (.sc (.int .i64 0))))⟩] 5 none) .ret))))))), [(.t 4), (.t 5), (.t 6)]⟩
theorem k29_eq : (Tryd.prog.funcs[29]?).bind (cmpF Tryd.prog hmS glS 0) = some k29 := by kernel_rfl
def k30 : KF := ⟨(.seq (.reg [⟨(some 2), none, (.mov (.v (.sc (.bool false))))⟩] 1 none) (.seq (.reg [⟨(some 3), none, (.mov (.t 0))⟩, ⟨(some 4), none, (.bin false .neq (.t 3) (.v (.sc (.string (ByteArray.mk #[])))))⟩, ⟨(some 5), none, (.mov (.t 4))⟩, ⟨(some 6), (some (5, true)), (.mov (.t 0))⟩, ⟨(some 7), (some (5, true)), (.lenS (.t 6))⟩, ⟨(some 8), (some (5, true)), (.bin false .leq (.t 7) (.v (.sc (.int .i64 12))))⟩, ⟨(some 9), none, (.pick (.t 5) (.t 8) (.v (.sc (.bool false))))⟩, ⟨(some 10), none, (.mov (.t 9))⟩, ⟨(some 11), (some (10, true)), (.mov (.t 0))⟩, ⟨(some 12), (some (10, true)), (.pl 56 [(.t 11), (.v (.fn (.func 57) [] []))])⟩, ⟨(some 13), none, (.pick (.t 10) (.t 12) (.v (.sc (.bool false))))⟩, ⟨(some 2), none, (.mov (.t 13))⟩] 12 none) .ret)), [(.t 2)]⟩
theorem k30_eq : (Tryd.prog.funcs[30]?).bind (cmpF Tryd.prog hmS glS 0) = some k30 := by kernel_rfl
def k32 : KF := ⟨(.seq (.reg [⟨(some 1), none, (.box (.t 0))⟩, ⟨(some 2), none, (.mov (.v (.sc (.bool false))))⟩] 2 none) (.seq (.reg [⟨(some 3), none, (.fa 0 (.t 1))⟩, ⟨(some 4), none, (.ld none (.t 3))⟩, ⟨(some 5), none, (.bin false .geq (.t 4) (.v (.sc (.int .i64 1))))⟩, ⟨(some 6), none, (.mov (.t 5))⟩, ⟨(some 7), (some (6, true)), (.fa 0 (.t 1))⟩, ⟨(some 8), (some (6, true)), (.ld none (.t 7))⟩, ⟨(some 9), (some (6, true)), (.bin false .leq (.t 8) (.v (.sc (.int .i64 12))))⟩, ⟨(some 10), none, (.pick (.t 6) (.t 9) (.v (.sc (.bool false))))⟩, ⟨(some 2), none, (.mov (.t 10))⟩] 9 none) .ret)), [(.t 2)]⟩
theorem k32_eq : (Tryd.prog.funcs[32]?).bind (cmpF Tryd.prog hmS glS 0) = some k32 := by kernel_rfl
def k33 : KF := ⟨(.seq (.reg [⟨(some 2), none, (.box (.t 0))⟩, ⟨(some 3), none, (.box (.t 1))⟩, ⟨(some 4), none, (.mov (.v (.sc (.int .i64 0))))⟩, ⟨(some 5), none, (.mov (.v (.sc (.int .i64 0))))⟩, ⟨(some 6), none, (.mov (.v (.sc (.int .i64 0))))⟩] 5 none) (.seq (.seq (.reg [⟨(some 13), none, (.ld (some 1) (.t 2))⟩, ⟨(some 14), none, (.pl 32 [(.t 13)])⟩, ⟨(some 15), none, (.un .not (.t 14))⟩] 3 none) (.cond (.t 15) (.seq (.reg [⟨(some 4), none, (.mov (.v (.sc (.int .i64 0))))⟩, ⟨(some 5), none, (.mov (.v (.sc (.int .i64 0))))⟩, ⟨(some 6), none, (.mov (.v (.sc (.int .i64 2))))⟩] 3 none) .ret) .skip)) (.seq (.seq (.reg [⟨(some 16), none, (.ld (some 1) (.t 2))⟩, ⟨(some 17), none, (.ld (some 2) (.t 3))⟩, ⟨(some 18), none, (.pl 62 [(.t 16), (.t 17)])⟩, ⟨(some 19), none, (.un .not (.t 18))⟩] 4 none) (.cond (.t 19) (.seq (.reg [⟨(some 4), none, (.mov (.v (.sc (.int .i64 0))))⟩, ⟨(some 5), none, (.mov (.v (.sc (.int .i64 0))))⟩, ⟨(some 6), none, (.mov (.v (.sc (.int .i64 16))))⟩] 3 none) .ret) .skip)) (.seq (.seq (.reg [⟨(some 20), none, (.fa 1 (.t 3))⟩, ⟨(some 21), none, (.ld none (.t 20))⟩, ⟨(some 22), none, (.bin false .eql (.t 21) (.v (.sc (.int .i64 13))))⟩] 3 none) (.cond (.t 22) (.seq (.reg [⟨(some 24), none, (.ld (some 1) (.t 2))⟩, ⟨(some 25), none, (.fa 0 (.t 3))⟩, ⟨(some 26), none, (.ld none (.t 25))⟩, ⟨(some 27), none, (.pl 63 [(.t 24), (.t 26), (.v (.sc (.int .i64 11)))])⟩, ⟨(some 23), none, (.mov (.t 27))⟩, ⟨(some 28), none, (.ext (.t 23) 0)⟩, ⟨(some 29), none, (.ext (.t 23) 1)⟩, ⟨(some 30), none, (.ext (.t 23) 2)⟩, ⟨(some 7), none, (.mov (.t 28))⟩, ⟨(some 8), none, (.mov (.t 29))⟩, ⟨(some 9), none, (.mov (.t 30))⟩] 11 none) (.seq (.reg [⟨(some 31), none, (.mov (.t 8))⟩, ⟨(some 32), none, (.mov (.t 8))⟩, ⟨(some 4), none, (.mov (.t 31))⟩, ⟨(some 5), none, (.mov (.t 32))⟩, ⟨(some 6), none, (.mov (.v (.sc (.int .i64 0))))⟩] 5 none) .ret)) .skip)) (.seq (.reg [⟨(some 34), none, (.ld (some 1) (.t 2))⟩, ⟨(some 35), none, (.fa 0 (.t 3))⟩, ⟨(some 36), none, (.ld none (.t 35))⟩, ⟨(some 37), none, (.fa 1 (.t 3))⟩, ⟨(some 38), none, (.ld none (.t 37))⟩, ⟨(some 39), none, (.bin false .sub (.t 38) (.v (.sc (.int .i64 1))))⟩, ⟨(some 40), none, (.pl 63 [(.t 34), (.t 36), (.t 39)])⟩, ⟨(some 33), none, (.mov (.t 40))⟩, ⟨(some 41), none, (.ext (.t 33) 0)⟩, ⟨(some 42), none, (.ext (.t 33) 1)⟩, ⟨(some 43), none, (.ext (.t 33) 2)⟩, ⟨(some 10), none, (.mov (.t 41))⟩, ⟨(some 11), none, (.mov (.t 42))⟩, ⟨(some 12), none, (.mov (.t 43))⟩] 14 none) (.seq (.reg [⟨(some 44), none, (.mov (.t 10))⟩, ⟨(some 45), none, (.mov (.t 11))⟩, ⟨(some 4), none, (.mov (.t 44))⟩, ⟨(some 5), none, (.mov (.t 45))⟩, ⟨(some 6), none, (.mov (.v (.sc (.int .i64 0))))⟩] 5 none) .ret)))))), [(.t 4), (.t 5), (.t 6)]⟩
theorem k33_eq : (Tryd.prog.funcs[33]?).bind (cmpF Tryd.prog hmS glS 0) = some k33 := by kernel_rfl
def k34_l0 : Y := (.seq (.seq (.reg [⟨(some 4), none, (.mov (.t 3))⟩, ⟨(some 5), none, (.mov (.t 0))⟩, ⟨(some 6), none, (.lenS (.t 5))⟩, ⟨(some 7), none, (.bin false .lss (.t 4) (.t 6))⟩] 4 none) (.cond (.t 7) .skip (.«exit» 0))) (.seq (.block 1 (.seq (.reg [⟨(some 10), none, (.mov (.t 0))⟩, ⟨(some 11), none, (.mov (.t 3))⟩, ⟨(some 12), none, (.ixs (.t 10) (.t 11))⟩, ⟨(some 13), none, (.pl 64 [(.t 12)])⟩, ⟨(some 14), none, (.un .not (.t 13))⟩, ⟨(some 15), none, (.mov (.t 14))⟩, ⟨(some 16), (some (15, true)), (.mov (.t 0))⟩, ⟨(some 17), (some (15, true)), (.mov (.t 3))⟩, ⟨(some 18), (some (15, true)), (.ixs (.t 16) (.t 17))⟩, ⟨(some 19), (some (15, true)), (.pl 65 [(.t 18)])⟩, ⟨(some 20), (some (15, true)), (.un .not (.t 19))⟩, ⟨(some 21), none, (.pick (.t 15) (.t 20) (.v (.sc (.bool false))))⟩] 12 none) (.cond (.t 21) (.seq (.reg [⟨(some 2), none, (.mov (.v (.sc (.bool false))))⟩] 1 none) .ret) .skip))) (.reg [⟨(some 8), none, (.mov (.t 3))⟩, ⟨(some 9), none, (.bin false .add (.t 8) (.v (.sc (.int .i64 1))))⟩, ⟨(some 3), none, (.mov (.t 9))⟩] 3 none)))
def k34_t0 : Y := (.seq (.reg [⟨(some 22), none, (.mov (.t 0))⟩, ⟨(some 23), none, (.lenS (.t 22))⟩, ⟨(some 24), none, (.bin false .geq (.t 23) (.v (.sc (.int .i64 1))))⟩, ⟨(some 25), none, (.mov (.t 24))⟩, ⟨(some 26), (some (25, true)), (.mov (.t 0))⟩, ⟨(some 27), (some (25, true)), (.lenS (.t 26))⟩, ⟨(some 28), (some (25, true)), (.bin false .leq (.t 27) (.v (.sc (.int .i64 12))))⟩, ⟨(some 29), none, (.pick (.t 25) (.t 28) (.v (.sc (.bool false))))⟩, ⟨(some 2), none, (.mov (.t 29))⟩] 9 none) .ret)
def k34 : KF := ⟨(.seq (.reg [⟨(some 2), none, (.mov (.v (.sc (.bool false))))⟩] 1 none) (.seq (.seq (.reg [⟨(some 3), none, (.mov (.v (.sc (.int .i64 0))))⟩] 1 none) (.block 0 (.loop k34_l0))) k34_t0)), [(.t 2)]⟩
theorem k34_eq : (Tryd.prog.funcs[34]?).bind (cmpF Tryd.prog hmS glS 0) = some k34 := by kernel_rfl
def k35_l0 : Y := (.seq (.seq (.reg [⟨(some 6), none, (.mov (.t 5))⟩, ⟨(some 7), none, (.mov (.t 0))⟩, ⟨(some 8), none, (.nilc (.t 7))⟩, ⟨(some 9), none, (.fa 3 (.t 8))⟩, ⟨(some 10), none, (.two (.ld none (.t 9)) (.ld none (.t 9)))⟩, ⟨(some 11), none, (.two (.len (.t 10)) (.len (.t 10)))⟩, ⟨(some 12), none, (.bin false .lss (.t 6) (.t 11))⟩] 7 none) (.cond (.t 12) .skip (.«exit» 0))) (.seq (.block 1 (.seq (.reg [⟨(some 15), none, (.mov (.t 0))⟩, ⟨(some 16), none, (.nilc (.t 15))⟩, ⟨(some 17), none, (.fa 3 (.t 16))⟩, ⟨(some 18), none, (.two (.ld none (.t 17)) (.ld none (.t 17)))⟩, ⟨(some 19), none, (.mov (.t 5))⟩, ⟨(some 20), none, (.two (.ix 9 (.t 18) (.t 19)) (.ixl 9 (.t 18) (.t 19)))⟩, ⟨(some 21), none, (.two (.ld none (.t 20)) (.ld none (.t 20)))⟩, ⟨(some 22), none, (.mov (.t 1))⟩, ⟨(some 23), none, (.bin false .eql (.t 21) (.t 22))⟩] 9 none) (.cond (.t 23) (.seq (.reg [⟨(some 24), none, (.mov (.t 5))⟩, ⟨(some 4), none, (.mov (.t 24))⟩] 2 none) .ret) .skip))) (.reg [⟨(some 13), none, (.mov (.t 5))⟩, ⟨(some 14), none, (.bin false .add (.t 13) (.v (.sc (.int .i64 1))))⟩, ⟨(some 5), none, (.mov (.t 14))⟩] 3 none)))
def k35_t0 : Y := (.seq (.reg [⟨(some 4), none, (.mov (.v (.sc (.int .i64 (-1)))))⟩] 1 none) .ret)
def k35 : KF := ⟨(.seq (.reg [⟨(some 4), none, (.mov (.v (.sc (.int .i64 0))))⟩] 1 none) (.seq (.seq (.reg [⟨(some 5), none, (.mov (.v (.sc (.int .i64 0))))⟩] 1 none) (.block 0 (.loop k35_l0))) k35_t0)), [(.t 4)]⟩
theorem k35_eq : (Tryd.prog.funcs[35]?).bind (cmpF Tryd.prog hmS glS 1) = some k35 := by kernel_rfl
def k41 : KF := ⟨(.seq (.reg [⟨(some 2), none, (.mov (.v (.list 0 [] 1)))⟩] 1 none) (.seq (.seq (.reg [⟨(some 3), none, (.mov (.t 0))⟩, ⟨(some 4), none, (.nils false (.t 3))⟩] 2 none) (.cond (.t 4) (.seq (.reg [⟨(some 2), none, (.mov (.v (.list 0 [] 1)))⟩] 1 none) .ret) .skip)) (.seq (.reg [⟨(some 5), none, (.two (.lit 50 true 5 []) (.mk 50 5 []))⟩, ⟨(some 6), none, (.mov (.t 0))⟩, ⟨(some 7), none, (.two (.app 50 true 5 56 true (.t 5) (.t 6)) (.app 50 56 true (.t 5) (.t 6)))⟩, ⟨(some 2), none, (.mov (.t 7))⟩] 4 none) .ret))), [(.t 2)]⟩
theorem k41_eq : (Tryd.prog.funcs[41]?).bind (cmpF Tryd.prog hmS glS 1) = some k41 := by kernel_rfl
def k49 : KF := ⟨(.seq (.reg [⟨(some 2), none, (.mov (.v (.list 0 [] 1)))⟩] 1 none) (.seq (.seq (.reg [⟨(some 3), none, (.mov (.t 0))⟩, ⟨(some 4), none, (.nils false (.t 3))⟩] 2 none) (.cond (.t 4) (.seq (.reg [⟨(some 2), none, (.mov (.v (.list 0 [] 1)))⟩] 1 none) .ret) .skip)) (.seq (.reg [⟨(some 5), none, (.two (.lit 9 false 1 []) (.mk 9 1 []))⟩, ⟨(some 6), none, (.mov (.t 0))⟩, ⟨(some 7), none, (.two (.app 9 false 1 16 true (.t 5) (.t 6)) (.app 9 16 true (.t 5) (.t 6)))⟩, ⟨(some 2), none, (.mov (.t 7))⟩] 4 none) .ret))), [(.t 2)]⟩
theorem k49_eq : (Tryd.prog.funcs[49]?).bind (cmpF Tryd.prog hmS glS 1) = some k49 := by kernel_rfl
def k51 : KF := ⟨(.seq (.reg [⟨(some 1), none, (.box (.t 0))⟩, ⟨(some 2), none, (.mov (.v (.sc (.bool false))))⟩] 2 none) (.seq (.reg [⟨(some 3), none, (.fa 0 (.t 1))⟩, ⟨(some 4), none, (.ld none (.t 3))⟩, ⟨(some 5), none, (.bin false .geq (.t 4) (.v (.sc (.int .i64 1))))⟩, ⟨(some 6), none, (.mov (.t 5))⟩, ⟨(some 7), (some (6, true)), (.fa 0 (.t 1))⟩, ⟨(some 8), (some (6, true)), (.ld none (.t 7))⟩, ⟨(some 9), (some (6, true)), (.bin false .leq (.t 8) (.v (.sc (.int .i64 12))))⟩, ⟨(some 10), none, (.pick (.t 6) (.t 9) (.v (.sc (.bool false))))⟩, ⟨(some 2), none, (.mov (.t 10))⟩] 9 none) .ret)), [(.t 2)]⟩
theorem k51_eq : (Tryd.prog.funcs[51]?).bind (cmpF Tryd.prog hmS glS 0) = some k51 := by kernel_rfl
def k52 : KF := ⟨(.seq (.reg [⟨(some 2), none, (.box (.t 0))⟩, ⟨(some 3), none, (.box (.t 1))⟩, ⟨(some 4), none, (.mov (.v (.sc (.bool false))))⟩] 3 none) (.seq (.reg [⟨(some 9), none, (.ld (some 1) (.t 2))⟩, ⟨(some 10), none, (.fa 0 (.t 3))⟩, ⟨(some 11), none, (.ld none (.t 10))⟩, ⟨(some 12), none, (.pl 53 [(.t 9), (.t 11)])⟩, ⟨(some 8), none, (.mov (.t 12))⟩, ⟨(some 13), none, (.ext (.t 8) 0)⟩, ⟨(some 14), none, (.ext (.t 8) 1)⟩, ⟨(some 15), none, (.ext (.t 8) 2)⟩, ⟨(some 5), none, (.mov (.t 13))⟩, ⟨(some 6), none, (.mov (.t 14))⟩, ⟨(some 7), none, (.mov (.t 15))⟩] 11 none) (.seq (.reg [⟨(some 16), none, (.mov (.t 7))⟩, ⟨(some 17), none, (.mov (.t 16))⟩, ⟨(some 18), (some (17, true)), (.fa 1 (.t 3))⟩, ⟨(some 19), (some (17, true)), (.ld none (.t 18))⟩, ⟨(some 20), (some (17, true)), (.bin false .geq (.t 19) (.v (.sc (.int .i64 1))))⟩, ⟨(some 21), none, (.pick (.t 17) (.t 20) (.v (.sc (.bool false))))⟩, ⟨(some 22), none, (.mov (.t 21))⟩, ⟨(some 23), (some (22, true)), (.fa 1 (.t 3))⟩, ⟨(some 24), (some (22, true)), (.ld none (.t 23))⟩, ⟨(some 25), (some (22, true)), (.bin false .leq (.t 24) (.v (.sc (.int .i64 13))))⟩, ⟨(some 26), none, (.pick (.t 22) (.t 25) (.v (.sc (.bool false))))⟩, ⟨(some 4), none, (.mov (.t 26))⟩] 12 none) .ret))), [(.t 4)]⟩
theorem k52_eq : (Tryd.prog.funcs[52]?).bind (cmpF Tryd.prog hmS glS 0) = some k52 := by kernel_rfl
def k53 : KF := ⟨(.seq (.reg [⟨(some 2), none, (.box (.t 0))⟩, ⟨(some 4), none, (.mov (.v (.sc (.int .i64 0))))⟩, ⟨(some 5), none, (.mov (.v (.sc (.int .i64 0))))⟩, ⟨(some 6), none, (.mov (.v (.sc (.bool false))))⟩] 4 none) (.seq (.seq (.reg [⟨(some 9), none, (.mov (.t 1))⟩, ⟨(some 10), none, (.bin false .lss (.t 9) (.v (.sc (.int .i64 1900))))⟩, ⟨(some 11), none, (.mov (.t 10))⟩, ⟨(some 12), (some (11, false)), (.mov (.t 1))⟩, ⟨(some 13), (some (11, false)), (.bin false .gtr (.t 12) (.v (.sc (.int .i64 2199))))⟩, ⟨(some 14), none, (.pick (.t 11) (.v (.sc (.bool true))) (.t 13))⟩] 6 none) (.cond (.t 14) (.seq (.reg [⟨(some 4), none, (.mov (.v (.sc (.int .i64 0))))⟩, ⟨(some 5), none, (.mov (.v (.sc (.int .i64 0))))⟩, ⟨(some 6), none, (.mov (.v (.sc (.bool false))))⟩] 3 none) .ret) .skip)) (.seq (.reg [⟨(some 16), none, (.ld (some 1) (.t 2))⟩, ⟨(some 17), none, (.mov (.t 1))⟩, ⟨(some 18), none, (.pl 54 [(.t 16), (.t 17), (.v (.sc (.int .i64 0)))])⟩, ⟨(some 15), none, (.mov (.t 18))⟩, ⟨(some 19), none, (.ext (.t 15) 0)⟩, ⟨(some 20), none, (.ext (.t 15) 1)⟩, ⟨(some 4), none, (.mov (.t 19))⟩, ⟨(some 6), none, (.mov (.t 20))⟩] 8 none) (.seq (.reg [⟨(some 22), none, (.ld (some 1) (.t 2))⟩, ⟨(some 23), none, (.mov (.t 1))⟩, ⟨(some 24), none, (.pl 54 [(.t 22), (.t 23), (.v (.sc (.int .i64 11)))])⟩, ⟨(some 21), none, (.mov (.t 24))⟩, ⟨(some 25), none, (.ext (.t 21) 0)⟩, ⟨(some 26), none, (.ext (.t 21) 1)⟩, ⟨(some 7), none, (.mov (.t 25))⟩, ⟨(some 8), none, (.mov (.t 26))⟩] 8 none) (.seq (.seq (.reg [⟨(some 27), none, (.mov (.t 6))⟩, ⟨(some 28), none, (.un .not (.t 27))⟩, ⟨(some 29), none, (.mov (.t 28))⟩, ⟨(some 30), (some (29, false)), (.mov (.t 8))⟩, ⟨(some 31), (some (29, false)), (.un .not (.t 30))⟩, ⟨(some 32), none, (.pick (.t 29) (.v (.sc (.bool true))) (.t 31))⟩] 6 none) (.cond (.t 32) (.seq (.reg [⟨(some 4), none, (.mov (.v (.sc (.int .i64 0))))⟩, ⟨(some 5), none, (.mov (.v (.sc (.int .i64 0))))⟩, ⟨(some 6), none, (.mov (.v (.sc (.bool false))))⟩] 3 none) .ret) .skip)) (.seq (.reg [⟨(some 34), none, (.mov (.t 7))⟩, ⟨(some 35), none, (.pl 55 [(.t 34)])⟩, ⟨(some 33), none, (.mov (.t 35))⟩, ⟨(some 36), none, (.ext (.t 33) 0)⟩, ⟨(some 37), none, (.ext (.t 33) 1)⟩, ⟨(some 5), none, (.mov (.t 36))⟩] 6 none) (.seq (.reg [⟨(some 38), none, (.mov (.t 4))⟩, ⟨(some 39), none, (.mov (.t 5))⟩, ⟨(some 4), none, (.mov (.t 38))⟩, ⟨(some 5), none, (.mov (.t 39))⟩, ⟨(some 6), none, (.mov (.v (.sc (.bool true))))⟩] 5 none) .ret))))))), [(.t 4), (.t 5), (.t 6)]⟩
theorem k53_eq : (Tryd.prog.funcs[53]?).bind (cmpF Tryd.prog hmS glS 0) = some k53 := by kernel_rfl
def k54 : KF := ⟨(.seq (.reg [⟨(some 3), none, (.box (.t 0))⟩, ⟨(some 6), none, (.mov (.v (.sc (.int .i64 0))))⟩, ⟨(some 7), none, (.mov (.v (.sc (.bool false))))⟩] 3 none) (.seq (.reg [⟨(some 11), none, (.fa 0 (.t 3))⟩, ⟨(some 12), none, (.ld none (.t 11))⟩, ⟨(some 13), none, (.bin false .sub (.t 12) (.v (.sc (.int .i64 1))))⟩, ⟨(some 14), none, (.mov (.t 2))⟩, ⟨(some 15), none, (.bin false .add (.t 13) (.t 14))⟩, ⟨(some 8), none, (.mov (.t 15))⟩] 6 none) (.seq (.reg [⟨(some 17), none, (.mov (.t 1))⟩, ⟨(some 18), none, (.mov (.t 8))⟩, ⟨(some 19), none, (.bin false .quo (.t 18) (.v (.sc (.int .i64 12))))⟩, ⟨(some 20), none, (.bin false .add (.t 17) (.t 19))⟩, ⟨(some 21), none, (.mov (.t 8))⟩, ⟨(some 22), none, (.bin false .rem (.t 21) (.v (.sc (.int .i64 12))))⟩, ⟨(some 23), none, (.bin false .add (.t 22) (.v (.sc (.int .i64 1))))⟩, ⟨(some 24), none, (.build [(0, 1), (1, 1), (2, 1)] [(.sc (.int .i64 0)), (.sc (.int .i64 0)), (.sc (.int .i64 0))] [(0, (.t 20)), (1, (.t 23)), (2, (.v (.sc (.int .i64 1))))])⟩, ⟨(some 25), none, (.pl 74 [(.t 24)])⟩, ⟨(some 16), none, (.mov (.t 25))⟩, ⟨(some 26), none, (.ext (.t 16) 0)⟩, ⟨(some 27), none, (.ext (.t 16) 1)⟩, ⟨(some 9), none, (.mov (.t 26))⟩, ⟨(some 10), none, (.mov (.t 27))⟩] 14 none) (.seq (.reg [⟨(some 28), none, (.mov (.t 9))⟩, ⟨(some 29), none, (.mov (.t 10))⟩, ⟨(some 30), none, (.bin false .eql (.t 29) (.v (.sc (.int .i64 0))))⟩, ⟨(some 6), none, (.mov (.t 28))⟩, ⟨(some 7), none, (.mov (.t 30))⟩] 5 none) .ret)))), [(.t 6), (.t 7)]⟩
theorem k54_eq : (Tryd.prog.funcs[54]?).bind (cmpF Tryd.prog hmS glS 0) = some k54 := by kernel_rfl
def k55 : KF := ⟨(.seq (.reg [⟨(some 2), none, (.mov (.v (.sc (.int .i64 0))))⟩, ⟨(some 3), none, (.mov (.v (.sc (.int .i64 0))))⟩] 2 none) (.seq (.reg [⟨(some 6), none, (.mov (.t 0))⟩, ⟨(some 7), none, (.pl 75 [(.t 6)])⟩, ⟨(some 5), none, (.mov (.t 7))⟩, ⟨(some 8), none, (.ext (.t 5) 0)⟩, ⟨(some 9), none, (.ext (.t 5) 1)⟩, ⟨(some 4), none, (.new [(.sc (.int .i64 0)), (.sc (.int .i64 0)), (.sc (.int .i64 0))])⟩, ⟨none, none, (.sto 3 (.t 4) (.t 8))⟩, ⟨(some 3), none, (.mov (.t 9))⟩] 8 none) (.seq (.seq (.reg [⟨(some 10), none, (.mov (.t 3))⟩, ⟨(some 11), none, (.bin false .neq (.t 10) (.v (.sc (.int .i64 0))))⟩] 2 none) (.cond (.t 11) (.seq (.reg [⟨(some 12), none, (.mov (.t 3))⟩, ⟨(some 2), none, (.mov (.v (.sc (.int .i64 0))))⟩, ⟨(some 3), none, (.mov (.t 12))⟩] 3 none) .ret) .skip)) (.seq (.seq (.reg [⟨(some 13), none, (.fa 0 (.t 4))⟩, ⟨(some 14), none, (.ld none (.t 13))⟩, ⟨(some 15), none, (.fa 1 (.t 4))⟩, ⟨(some 16), none, (.ld none (.t 15))⟩, ⟨(some 17), none, (.fa 2 (.t 4))⟩, ⟨(some 18), none, (.ld none (.t 17))⟩, ⟨(some 19), none, (.build [(0, 1), (1, 1), (2, 1)] [(.sc (.int .i64 0)), (.sc (.int .i64 0)), (.sc (.int .i64 0))] [(0, (.t 14)), (1, (.t 16)), (2, (.t 18))])⟩, ⟨(some 20), none, (.build [(0, 1), (1, 1), (2, 1)] [(.sc (.int .i64 0)), (.sc (.int .i64 0)), (.sc (.int .i64 0))] [(0, (.v (.sc (.int .i64 2199)))), (1, (.v (.sc (.int .i64 12)))), (2, (.v (.sc (.int .i64 31))))])⟩, ⟨(some 21), none, (.eqs false [(0, 0), (1, 0), (2, 0)] (.t 19) (.t 20))⟩] 9 none) (.cond (.t 21) (.seq (.reg [⟨(some 2), none, (.mov (.v (.sc (.int .i64 109572))))⟩, ⟨(some 3), none, (.mov (.v (.sc (.int .i64 0))))⟩] 2 none) .ret) .skip)) (.seq (.reg [⟨(some 22), none, (.fa 0 (.t 4))⟩, ⟨(some 23), none, (.ld none (.t 22))⟩, ⟨(some 24), none, (.fa 1 (.t 4))⟩, ⟨(some 25), none, (.ld none (.t 24))⟩, ⟨(some 26), none, (.pl 76 [(.t 23), (.t 25)])⟩, ⟨(some 27), none, (.fa 2 (.t 4))⟩, ⟨none, none, (.sto 1 (.t 27) (.t 26))⟩] 7 none) (.seq (.reg [⟨(some 28), none, (.ld (some 3) (.t 4))⟩, ⟨(some 29), none, (.pl 74 [(.t 28)])⟩, ⟨(some 30), none, (.ext (.t 29) 0)⟩, ⟨(some 31), none, (.ext (.t 29) 1)⟩, ⟨(some 2), none, (.mov (.t 30))⟩, ⟨(some 3), none, (.mov (.t 31))⟩] 6 none) .ret)))))), [(.t 2), (.t 3)]⟩
theorem k55_eq : (Tryd.prog.funcs[55]?).bind (cmpF Tryd.prog hmS glS 0) = some k55 := by kernel_rfl
def k56_l0 : Y := (.seq (.reg [⟨(some 9), none, (.bin false .lss (.t 8) (.t 7))⟩] 1 none) (.seq (.cond (.t 9) .skip (.«exit» 0)) (.seq (.block 1 (.seq (.reg [⟨(some 10), none, (.mov (.t 8))⟩, ⟨(some 5), none, (.mov (.t 10))⟩] 2 none) (.seq (.reg [⟨(some 11), none, (.mov (.t 1))⟩, ⟨(some 12), none, (.mov (.t 0))⟩, ⟨(some 13), none, (.mov (.t 5))⟩, ⟨(some 14), none, (.ixs (.t 12) (.t 13))⟩, ⟨(some 15), none, (.dyn (.t 11) [(.t 14)])⟩, ⟨(some 16), none, (.un .not (.t 15))⟩] 6 none) (.cond (.t 16) (.seq (.reg [⟨(some 4), none, (.mov (.v (.sc (.bool false))))⟩] 1 none) .ret) .skip)))) (.reg [⟨(some 17), none, (.bin false .add (.t 8) (.v (.sc (.int .i64 1))))⟩, ⟨(some 8), none, (.mov (.t 17))⟩] 2 none))))
def k56_t0 : Y := (.seq (.reg [⟨(some 4), none, (.mov (.v (.sc (.bool true))))⟩] 1 none) .ret)
def k56 : KF := ⟨(.seq (.reg [⟨(some 4), none, (.mov (.v (.sc (.bool false))))⟩] 1 none) (.seq (.seq (.reg [⟨(some 6), none, (.mov (.t 0))⟩, ⟨(some 7), none, (.lenS (.t 6))⟩, ⟨(some 8), none, (.mov (.v (.sc (.int .i64 0))))⟩] 3 none) (.block 0 (.loop k56_l0))) k56_t0)), [(.t 4)]⟩
theorem k56_eq : (Tryd.prog.funcs[56]?).bind (cmpF Tryd.prog hmS glS 0) = some k56 := by kernel_rfl
def k57 : KF := ⟨(.seq (.reg [⟨(some 2), none, (.mov (.v (.sc (.bool false))))⟩] 1 none) (.seq (.reg [⟨(some 3), none, (.mov (.t 0))⟩, ⟨(some 4), none, (.pl 58 [(.t 3)])⟩, ⟨(some 5), none, (.mov (.t 4))⟩, ⟨(some 6), (some (5, false)), (.mov (.t 0))⟩, ⟨(some 7), (some (5, false)), (.pl 59 [(.t 6)])⟩, ⟨(some 8), none, (.pick (.t 5) (.v (.sc (.bool true))) (.t 7))⟩, ⟨(some 2), none, (.mov (.t 8))⟩] 7 none) .ret)), [(.t 2)]⟩
theorem k57_eq : (Tryd.prog.funcs[57]?).bind (cmpF Tryd.prog hmS glS 0) = some k57 := by kernel_rfl
def k58 : KF := ⟨(.seq (.reg [⟨(some 2), none, (.mov (.v (.sc (.bool false))))⟩] 1 none) (.seq (.reg [⟨(some 3), none, (.mov (.t 0))⟩, ⟨(some 4), none, (.bin false .geq (.t 3) (.v (.sc (.int .u8 97))))⟩, ⟨(some 5), none, (.mov (.t 4))⟩, ⟨(some 6), (some (5, true)), (.mov (.t 0))⟩, ⟨(some 7), (some (5, true)), (.bin false .leq (.t 6) (.v (.sc (.int .u8 122))))⟩, ⟨(some 8), none, (.pick (.t 5) (.t 7) (.v (.sc (.bool false))))⟩, ⟨(some 9), none, (.mov (.t 8))⟩, ⟨(some 10), (some (9, false)), (.mov (.t 0))⟩, ⟨(some 11), (some (9, false)), (.bin false .geq (.t 10) (.v (.sc (.int .u8 65))))⟩, ⟨(some 12), (some (9, false)), (.mov (.t 11))⟩, ⟨(some 13), (some (12, true)), (.mov (.t 0))⟩, ⟨(some 14), (some (12, true)), (.bin false .leq (.t 13) (.v (.sc (.int .u8 90))))⟩, ⟨(some 15), (some (9, false)), (.pick (.t 12) (.t 14) (.v (.sc (.bool false))))⟩, ⟨(some 16), none, (.pick (.t 9) (.v (.sc (.bool true))) (.t 15))⟩, ⟨(some 17), none, (.mov (.t 16))⟩, ⟨(some 18), (some (17, false)), (.mov (.t 0))⟩, ⟨(some 19), (some (17, false)), (.bin false .eql (.t 18) (.v (.sc (.int .u8 95))))⟩, ⟨(some 20), none, (.pick (.t 17) (.v (.sc (.bool true))) (.t 19))⟩, ⟨(some 2), none, (.mov (.t 20))⟩] 19 none) .ret)), [(.t 2)]⟩
theorem k58_eq : (Tryd.prog.funcs[58]?).bind (cmpF Tryd.prog hmS glS 0) = some k58 := by kernel_rfl
def k59 : KF := ⟨(.seq (.reg [⟨(some 2), none, (.mov (.v (.sc (.bool false))))⟩] 1 none) (.seq (.reg [⟨(some 3), none, (.mov (.t 0))⟩, ⟨(some 4), none, (.bin false .geq (.t 3) (.v (.sc (.int .u8 48))))⟩, ⟨(some 5), none, (.mov (.t 4))⟩, ⟨(some 6), (some (5, true)), (.mov (.t 0))⟩, ⟨(some 7), (some (5, true)), (.bin false .leq (.t 6) (.v (.sc (.int .u8 57))))⟩, ⟨(some 8), none, (.pick (.t 5) (.t 7) (.v (.sc (.bool false))))⟩, ⟨(some 2), none, (.mov (.t 8))⟩] 7 none) .ret)), [(.t 2)]⟩
theorem k59_eq : (Tryd.prog.funcs[59]?).bind (cmpF Tryd.prog hmS glS 0) = some k59 := by kernel_rfl
def k62 : KF := ⟨(.seq (.reg [⟨(some 2), none, (.box (.t 0))⟩, ⟨(some 3), none, (.box (.t 1))⟩, ⟨(some 4), none, (.mov (.v (.sc (.bool false))))⟩] 3 none) (.seq (.reg [⟨(some 5), none, (.fa 1 (.t 3))⟩, ⟨(some 6), none, (.ld none (.t 5))⟩, ⟨(some 7), none, (.bin false .geq (.t 6) (.v (.sc (.int .i64 1))))⟩, ⟨(some 8), none, (.mov (.t 7))⟩, ⟨(some 9), (some (8, true)), (.fa 1 (.t 3))⟩, ⟨(some 10), (some (8, true)), (.ld none (.t 9))⟩, ⟨(some 11), (some (8, true)), (.bin false .leq (.t 10) (.v (.sc (.int .i64 13))))⟩, ⟨(some 12), none, (.pick (.t 8) (.t 11) (.v (.sc (.bool false))))⟩, ⟨(some 13), none, (.mov (.t 12))⟩, ⟨(some 14), (some (13, true)), (.ld (some 1) (.t 2))⟩, ⟨(some 15), (some (13, true)), (.fa 0 (.t 3))⟩, ⟨(some 16), (some (13, true)), (.ld none (.t 15))⟩, ⟨(some 17), (some (13, true)), (.pl 88 [(.t 14), (.t 16)])⟩, ⟨(some 18), none, (.pick (.t 13) (.t 17) (.v (.sc (.bool false))))⟩, ⟨(some 4), none, (.mov (.t 18))⟩] 15 none) .ret)), [(.t 4)]⟩
theorem k62_eq : (Tryd.prog.funcs[62]?).bind (cmpF Tryd.prog hmS glS 0) = some k62 := by kernel_rfl
def k63 : KF := ⟨(.seq (.reg [⟨(some 3), none, (.box (.t 0))⟩, ⟨(some 6), none, (.mov (.v (.sc (.int .i64 0))))⟩, ⟨(some 7), none, (.mov (.v (.sc (.int .i64 0))))⟩, ⟨(some 8), none, (.mov (.v (.sc (.bool false))))⟩] 4 none) (.seq (.seq (.reg [⟨(some 15), none, (.mov (.t 1))⟩, ⟨(some 16), none, (.bin false .lss (.t 15) (.v (.sc (.int .i64 1900))))⟩, ⟨(some 17), none, (.mov (.t 16))⟩, ⟨(some 18), (some (17, false)), (.mov (.t 1))⟩, ⟨(some 19), (some (17, false)), (.bin false .gtr (.t 18) (.v (.sc (.int .i64 2199))))⟩, ⟨(some 20), none, (.pick (.t 17) (.v (.sc (.bool true))) (.t 19))⟩] 6 none) (.cond (.t 20) (.seq (.reg [⟨(some 6), none, (.mov (.v (.sc (.int .i64 0))))⟩, ⟨(some 7), none, (.mov (.v (.sc (.int .i64 0))))⟩, ⟨(some 8), none, (.mov (.v (.sc (.bool false))))⟩] 3 none) .ret) .skip)) (.seq (.reg [⟨(some 21), none, (.fa 0 (.t 3))⟩, ⟨(some 22), none, (.ld none (.t 21))⟩, ⟨(some 23), none, (.bin false .sub (.t 22) (.v (.sc (.int .i64 1))))⟩, ⟨(some 24), none, (.mov (.t 2))⟩, ⟨(some 25), none, (.bin false .add (.t 23) (.t 24))⟩, ⟨(some 9), none, (.mov (.t 25))⟩] 6 none) (.seq (.reg [⟨(some 26), none, (.mov (.t 1))⟩, ⟨(some 10), none, (.mov (.t 26))⟩] 2 none) (.seq (.seq (.reg [⟨(some 27), none, (.mov (.t 9))⟩, ⟨(some 28), none, (.bin false .geq (.t 27) (.v (.sc (.int .i64 12))))⟩] 2 none) (.cond (.t 28) (.seq (.reg [⟨(some 29), none, (.mov (.t 9))⟩, ⟨(some 30), none, (.bin false .sub (.t 29) (.v (.sc (.int .i64 12))))⟩, ⟨(some 9), none, (.mov (.t 30))⟩] 3 none) (.reg [⟨(some 31), none, (.mov (.t 10))⟩, ⟨(some 32), none, (.bin false .add (.t 31) (.v (.sc (.int .i64 1))))⟩, ⟨(some 10), none, (.mov (.t 32))⟩] 3 none)) .skip)) (.seq (.reg [⟨(some 34), none, (.mov (.t 10))⟩, ⟨(some 35), none, (.mov (.t 9))⟩, ⟨(some 36), none, (.bin false .add (.t 35) (.v (.sc (.int .i64 1))))⟩, ⟨(some 37), none, (.build [(0, 1), (1, 1), (2, 1)] [(.sc (.int .i64 0)), (.sc (.int .i64 0)), (.sc (.int .i64 0))] [(0, (.t 34)), (1, (.t 36)), (2, (.v (.sc (.int .i64 1))))])⟩, ⟨(some 38), none, (.pl 89 [(.t 37)])⟩, ⟨(some 33), none, (.mov (.t 38))⟩, ⟨(some 39), none, (.ext (.t 33) 0)⟩, ⟨(some 40), none, (.ext (.t 33) 1)⟩, ⟨(some 11), none, (.mov (.t 39))⟩, ⟨(some 12), none, (.mov (.t 40))⟩] 10 none) (.seq (.reg [⟨(some 42), none, (.mov (.t 10))⟩, ⟨(some 43), none, (.mov (.t 9))⟩, ⟨(some 44), none, (.bin false .add (.t 43) (.v (.sc (.int .i64 1))))⟩, ⟨(some 45), none, (.mov (.t 10))⟩, ⟨(some 46), none, (.mov (.t 9))⟩, ⟨(some 47), none, (.bin false .add (.t 46) (.v (.sc (.int .i64 1))))⟩, ⟨(some 48), none, (.pl 90 [(.t 45), (.t 47)])⟩, ⟨(some 49), none, (.build [(0, 1), (1, 1), (2, 1)] [(.sc (.int .i64 0)), (.sc (.int .i64 0)), (.sc (.int .i64 0))] [(0, (.t 42)), (1, (.t 44)), (2, (.t 48))])⟩, ⟨(some 50), none, (.pl 89 [(.t 49)])⟩, ⟨(some 41), none, (.mov (.t 50))⟩, ⟨(some 51), none, (.ext (.t 41) 0)⟩, ⟨(some 52), none, (.ext (.t 41) 1)⟩, ⟨(some 13), none, (.mov (.t 51))⟩, ⟨(some 14), none, (.mov (.t 52))⟩] 14 none) (.seq (.reg [⟨(some 53), none, (.mov (.t 11))⟩, ⟨(some 54), none, (.mov (.t 13))⟩, ⟨(some 55), none, (.mov (.t 12))⟩, ⟨(some 56), none, (.bin false .eql (.t 55) (.v (.sc (.int .i64 0))))⟩, ⟨(some 57), none, (.mov (.t 56))⟩, ⟨(some 58), (some (57, true)), (.mov (.t 14))⟩, ⟨(some 59), (some (57, true)), (.bin false .eql (.t 58) (.v (.sc (.int .i64 0))))⟩, ⟨(some 60), none, (.pick (.t 57) (.t 59) (.v (.sc (.bool false))))⟩, ⟨(some 6), none, (.mov (.t 53))⟩, ⟨(some 7), none, (.mov (.t 54))⟩, ⟨(some 8), none, (.mov (.t 60))⟩] 11 none) .ret)))))))), [(.t 6), (.t 7), (.t 8)]⟩
theorem k63_eq : (Tryd.prog.funcs[63]?).bind (cmpF Tryd.prog hmS glS 0) = some k63 := by kernel_rfl
def k64 : KF := ⟨(.seq (.reg [⟨(some 2), none, (.mov (.v (.sc (.bool false))))⟩] 1 none) (.seq (.reg [⟨(some 3), none, (.mov (.t 0))⟩, ⟨(some 4), none, (.bin false .geq (.t 3) (.v (.sc (.int .u8 97))))⟩, ⟨(some 5), none, (.mov (.t 4))⟩, ⟨(some 6), (some (5, true)), (.mov (.t 0))⟩, ⟨(some 7), (some (5, true)), (.bin false .leq (.t 6) (.v (.sc (.int .u8 122))))⟩, ⟨(some 8), none, (.pick (.t 5) (.t 7) (.v (.sc (.bool false))))⟩, ⟨(some 9), none, (.mov (.t 8))⟩, ⟨(some 10), (some (9, false)), (.mov (.t 0))⟩, ⟨(some 11), (some (9, false)), (.bin false .geq (.t 10) (.v (.sc (.int .u8 65))))⟩, ⟨(some 12), (some (9, false)), (.mov (.t 11))⟩, ⟨(some 13), (some (12, true)), (.mov (.t 0))⟩, ⟨(some 14), (some (12, true)), (.bin false .leq (.t 13) (.v (.sc (.int .u8 90))))⟩, ⟨(some 15), (some (9, false)), (.pick (.t 12) (.t 14) (.v (.sc (.bool false))))⟩, ⟨(some 16), none, (.pick (.t 9) (.v (.sc (.bool true))) (.t 15))⟩, ⟨(some 17), none, (.mov (.t 16))⟩, ⟨(some 18), (some (17, false)), (.mov (.t 0))⟩, ⟨(some 19), (some (17, false)), (.bin false .eql (.t 18) (.v (.sc (.int .u8 95))))⟩, ⟨(some 20), none, (.pick (.t 17) (.v (.sc (.bool true))) (.t 19))⟩, ⟨(some 2), none, (.mov (.t 20))⟩] 19 none) .ret)), [(.t 2)]⟩
theorem k64_eq : (Tryd.prog.funcs[64]?).bind (cmpF Tryd.prog hmS glS 0) = some k64 := by kernel_rfl
def k65 : KF := ⟨(.seq (.reg [⟨(some 2), none, (.mov (.v (.sc (.bool false))))⟩] 1 none) (.seq (.reg [⟨(some 3), none, (.mov (.t 0))⟩, ⟨(some 4), none, (.bin false .geq (.t 3) (.v (.sc (.int .u8 48))))⟩, ⟨(some 5), none, (.mov (.t 4))⟩, ⟨(some 6), (some (5, true)), (.mov (.t 0))⟩, ⟨(some 7), (some (5, true)), (.bin false .leq (.t 6) (.v (.sc (.int .u8 57))))⟩, ⟨(some 8), none, (.pick (.t 5) (.t 7) (.v (.sc (.bool false))))⟩, ⟨(some 2), none, (.mov (.t 8))⟩] 7 none) .ret)), [(.t 2)]⟩
theorem k65_eq : (Tryd.prog.funcs[65]?).bind (cmpF Tryd.prog hmS glS 0) = some k65 := by kernel_rfl
def k74_l0 : Y := (.seq (.seq (.reg [⟨(some 35), none, (.mov (.t 4))⟩, ⟨(some 36), none, (.fa 1 (.t 1))⟩, ⟨(some 37), none, (.ld none (.t 36))⟩, ⟨(some 38), none, (.bin false .lss (.t 35) (.t 37))⟩] 4 none) (.cond (.t 38) .skip (.«exit» 0))) (.seq (.block 1 (.reg [⟨(some 41), none, (.mov (.t 2))⟩, ⟨(some 42), none, (.fa 0 (.t 1))⟩, ⟨(some 43), none, (.ld none (.t 42))⟩, ⟨(some 44), none, (.mov (.t 4))⟩, ⟨(some 45), none, (.pl 76 [(.t 43), (.t 44)])⟩, ⟨(some 46), none, (.bin false .add (.t 41) (.t 45))⟩, ⟨(some 2), none, (.mov (.t 46))⟩] 7 none)) (.reg [⟨(some 39), none, (.mov (.t 4))⟩, ⟨(some 40), none, (.bin false .add (.t 39) (.v (.sc (.int .i64 1))))⟩, ⟨(some 4), none, (.mov (.t 40))⟩] 3 none)))
def k74_t0 : Y := (.seq (.reg [⟨(some 47), none, (.mov (.t 2))⟩, ⟨(some 2), none, (.mov (.t 47))⟩, ⟨(some 3), none, (.mov (.v (.sc (.int .i64 0))))⟩] 3 none) .ret)
def k74 : KF := ⟨(.seq (.reg [⟨(some 1), none, (.box (.t 0))⟩, ⟨(some 2), none, (.mov (.v (.sc (.int .i64 0))))⟩, ⟨(some 3), none, (.mov (.v (.sc (.int .i64 0))))⟩] 3 none) (.seq (.seq (.reg [⟨(some 5), none, (.fa 0 (.t 1))⟩, ⟨(some 6), none, (.ld none (.t 5))⟩, ⟨(some 7), none, (.bin false .lss (.t 6) (.v (.sc (.int .i64 1900))))⟩, ⟨(some 8), none, (.mov (.t 7))⟩, ⟨(some 9), (some (8, false)), (.fa 0 (.t 1))⟩, ⟨(some 10), (some (8, false)), (.ld none (.t 9))⟩, ⟨(some 11), (some (8, false)), (.bin false .gtr (.t 10) (.v (.sc (.int .i64 2199))))⟩, ⟨(some 12), none, (.pick (.t 8) (.v (.sc (.bool true))) (.t 11))⟩, ⟨(some 13), none, (.mov (.t 12))⟩, ⟨(some 14), (some (13, false)), (.fa 2 (.t 1))⟩, ⟨(some 15), (some (13, false)), (.ld none (.t 14))⟩, ⟨(some 16), (some (13, false)), (.bin false .lss (.t 15) (.v (.sc (.int .i64 1))))⟩, ⟨(some 17), none, (.pick (.t 13) (.v (.sc (.bool true))) (.t 16))⟩, ⟨(some 18), none, (.mov (.t 17))⟩, ⟨(some 19), (some (18, false)), (.fa 2 (.t 1))⟩, ⟨(some 20), (some (18, false)), (.ld none (.t 19))⟩, ⟨(some 21), (some (18, false)), (.fa 0 (.t 1))⟩, ⟨(some 22), (some (18, false)), (.ld none (.t 21))⟩, ⟨(some 23), (some (18, false)), (.fa 1 (.t 1))⟩, ⟨(some 24), (some (18, false)), (.ld none (.t 23))⟩, ⟨(some 25), (some (18, false)), (.pl 76 [(.t 22), (.t 24)])⟩, ⟨(some 26), (some (18, false)), (.bin false .gtr (.t 20) (.t 25))⟩, ⟨(some 27), none, (.pick (.t 18) (.v (.sc (.bool true))) (.t 26))⟩] 23 (some [0, 1, 3, 7, 15, 31, 63, 127, 255, 511, 1023, 2047, 4095, 8191, 16383, 32767, 16383, 81919, 16383, 278527, 999423, 2097151, 4194303])) (.cond (.t 27) (.seq (.reg [⟨(some 2), none, (.mov (.v (.sc (.int .i64 0))))⟩, ⟨(some 3), none, (.mov (.v (.sc (.int .i64 11))))⟩] 2 none) .ret) .skip)) (.seq (.reg [⟨(some 28), none, (.fa 0 (.t 1))⟩, ⟨(some 29), none, (.ld none (.t 28))⟩, ⟨(some 30), none, (.pl 95 [(.t 29)])⟩, ⟨(some 31), none, (.fa 2 (.t 1))⟩, ⟨(some 32), none, (.ld none (.t 31))⟩, ⟨(some 33), none, (.bin false .add (.t 30) (.t 32))⟩, ⟨(some 34), none, (.bin false .sub (.t 33) (.v (.sc (.int .i64 1))))⟩, ⟨(some 2), none, (.mov (.t 34))⟩] 8 (some [0, 1, 3, 0, 8, 31, 63, 127])) (.seq (.seq (.reg [⟨(some 4), none, (.mov (.v (.sc (.int .i64 1))))⟩] 1 none) (.block 0 (.loop k74_l0))) k74_t0)))), [(.t 2), (.t 3)]⟩
theorem k74_eq : (Tryd.prog.funcs[74]?).bind (cmpF Tryd.prog hmS glS 0) = some k74 := by kernel_rfl
def k75_l0 : Y := (.seq (.seq (.reg [⟨(some 12), none, (.fa 0 (.t 2))⟩, ⟨(some 13), none, (.ld none (.t 12))⟩, ⟨(some 14), none, (.bin false .lss (.t 13) (.v (.sc (.int .i64 2199))))⟩, ⟨(some 15), none, (.mov (.t 14))⟩, ⟨(some 16), (some (15, true)), (.fa 0 (.t 2))⟩, ⟨(some 17), (some (15, true)), (.ld none (.t 16))⟩, ⟨(some 18), (some (15, true)), (.bin false .add (.t 17) (.v (.sc (.int .i64 1))))⟩, ⟨(some 19), (some (15, true)), (.pl 95 [(.t 18)])⟩, ⟨(some 20), (some (15, true)), (.mov (.t 0))⟩, ⟨(some 21), (some (15, true)), (.bin false .leq (.t 19) (.t 20))⟩, ⟨(some 22), none, (.pick (.t 15) (.t 21) (.v (.sc (.bool false))))⟩] 11 none) (.cond (.t 22) .skip (.«exit» 0))) (.block 1 (.reg [⟨(some 23), none, (.fa 0 (.t 2))⟩, ⟨(some 24), none, (.ld none (.t 23))⟩, ⟨(some 25), none, (.bin false .add (.t 24) (.v (.sc (.int .i64 1))))⟩, ⟨(some 26), none, (.fa 0 (.t 2))⟩, ⟨none, none, (.sto 1 (.t 26) (.t 25))⟩] 5 none)))
def k75_l1 : Y := (.seq (.seq (.reg [⟨(some 33), none, (.mov (.t 0))⟩, ⟨(some 34), none, (.fa 0 (.t 2))⟩, ⟨(some 35), none, (.ld none (.t 34))⟩, ⟨(some 36), none, (.fa 1 (.t 2))⟩, ⟨(some 37), none, (.ld none (.t 36))⟩, ⟨(some 38), none, (.pl 76 [(.t 35), (.t 37)])⟩, ⟨(some 39), none, (.bin false .geq (.t 33) (.t 38))⟩] 7 none) (.cond (.t 39) .skip (.«exit» 2))) (.block 3 (.seq (.reg [⟨(some 40), none, (.mov (.t 0))⟩, ⟨(some 41), none, (.fa 0 (.t 2))⟩, ⟨(some 42), none, (.ld none (.t 41))⟩, ⟨(some 43), none, (.fa 1 (.t 2))⟩, ⟨(some 44), none, (.ld none (.t 43))⟩, ⟨(some 45), none, (.pl 76 [(.t 42), (.t 44)])⟩, ⟨(some 46), none, (.bin false .sub (.t 40) (.t 45))⟩, ⟨(some 0), none, (.mov (.t 46))⟩] 8 none) (.reg [⟨(some 47), none, (.fa 1 (.t 2))⟩, ⟨(some 48), none, (.ld none (.t 47))⟩, ⟨(some 49), none, (.bin false .add (.t 48) (.v (.sc (.int .i64 1))))⟩, ⟨(some 50), none, (.fa 1 (.t 2))⟩, ⟨none, none, (.sto 1 (.t 50) (.t 49))⟩] 5 none))))
def k75_t0 : Y := (.seq (.reg [⟨(some 51), none, (.mov (.t 0))⟩, ⟨(some 52), none, (.bin false .add (.t 51) (.v (.sc (.int .i64 1))))⟩, ⟨(some 53), none, (.fa 2 (.t 2))⟩, ⟨none, none, (.sto 1 (.t 53) (.t 52))⟩] 4 none) (.seq (.reg [⟨(some 54), none, (.ld (some 3) (.t 2))⟩, ⟨none, none, (.sto 3 (.t 2) (.t 54))⟩, ⟨(some 3), none, (.mov (.v (.sc (.int .i64 0))))⟩] 3 none) .ret))
def k75_t1 : Y := (.seq (.reg [⟨(some 27), none, (.mov (.t 0))⟩, ⟨(some 28), none, (.fa 0 (.t 2))⟩, ⟨(some 29), none, (.ld none (.t 28))⟩, ⟨(some 30), none, (.pl 95 [(.t 29)])⟩, ⟨(some 31), none, (.bin false .sub (.t 27) (.t 30))⟩, ⟨(some 0), none, (.mov (.t 31))⟩] 6 none) (.seq (.reg [⟨(some 32), none, (.fa 1 (.t 2))⟩, ⟨none, none, (.sto 1 (.t 32) (.v (.sc (.int .i64 1))))⟩] 2 none) (.seq (.block 2 (.loop k75_l1)) k75_t0)))
def k75 : KF := ⟨(.seq (.reg [⟨(some 2), none, (.new [(.sc (.int .i64 0)), (.sc (.int .i64 0)), (.sc (.int .i64 0))])⟩, ⟨(some 3), none, (.mov (.v (.sc (.int .i64 0))))⟩] 2 none) (.seq (.seq (.reg [⟨(some 4), none, (.mov (.t 0))⟩, ⟨(some 5), none, (.pl 96 [(.t 4)])⟩, ⟨(some 6), none, (.un .not (.t 5))⟩] 3 none) (.cond (.t 6) (.seq (.reg [⟨(some 7), none, (.build [(0, 1), (1, 1), (2, 1)] [(.sc (.int .i64 0)), (.sc (.int .i64 0)), (.sc (.int .i64 0))] [])⟩, ⟨none, none, (.sto 3 (.t 2) (.t 7))⟩, ⟨(some 3), none, (.mov (.v (.sc (.int .i64 11))))⟩] 3 none) .ret) .skip)) (.seq (.reg [⟨(some 8), none, (.mov (.t 0))⟩, ⟨(some 9), none, (.bin false .quo (.t 8) (.v (.sc (.int .i64 366))))⟩, ⟨(some 10), none, (.bin false .add (.v (.sc (.int .i64 1900))) (.t 9))⟩, ⟨(some 11), none, (.fa 0 (.t 2))⟩, ⟨none, none, (.sto 1 (.t 11) (.t 10))⟩] 5 none) (.seq (.block 0 (.loop k75_l0)) k75_t1)))), [(.c 2 (some 3)), (.t 3)]⟩
theorem k75_eq : (Tryd.prog.funcs[75]?).bind (cmpF Tryd.prog hmS glS 0) = some k75 := by kernel_rfl
def k76 : KF := ⟨(.seq (.reg [⟨(some 4), none, (.mov (.v (.sc (.int .i64 0))))⟩] 1 none) (.seq (.block 0 (.seq (.reg [⟨(some 6), none, (.mov (.t 1))⟩, ⟨(some 7), none, (.bin false .lss (.t 6) (.v (.sc (.int .i64 1))))⟩, ⟨(some 8), none, (.mov (.t 7))⟩, ⟨(some 9), (some (8, false)), (.mov (.t 1))⟩, ⟨(some 10), (some (8, false)), (.bin false .gtr (.t 9) (.v (.sc (.int .i64 12))))⟩, ⟨(some 11), none, (.pick (.t 8) (.v (.sc (.bool true))) (.t 10))⟩, ⟨(some 5), none, (.mov (.t 11))⟩] 7 none) (.cond (.t 5) (.seq (.reg [⟨(some 4), none, (.mov (.v (.sc (.int .i64 0))))⟩] 1 none) .ret) (.seq (.reg [⟨(some 13), none, (.mov (.t 1))⟩, ⟨(some 14), none, (.bin false .eql (.t 13) (.v (.sc (.int .i64 2))))⟩, ⟨(some 15), none, (.mov (.t 14))⟩, ⟨(some 16), (some (15, true)), (.mov (.t 0))⟩, ⟨(some 17), (some (15, true)), (.pl 97 [(.t 16)])⟩, ⟨(some 18), none, (.pick (.t 15) (.t 17) (.v (.sc (.bool false))))⟩, ⟨(some 12), none, (.mov (.t 18))⟩] 7 none) (.cond (.t 12) (.seq (.reg [⟨(some 4), none, (.mov (.v (.sc (.int .i64 29))))⟩] 1 none) .ret) .skip))))) (.seq (.reg [⟨(some 19), none, (.mov (.t 1))⟩, ⟨(some 20), none, (.bin false .sub (.t 19) (.v (.sc (.int .i64 1))))⟩, ⟨(some 21), none, (.ixa 12 1 (.v (.cp [(.sc (.int .i64 31)), (.sc (.int .i64 28)), (.sc (.int .i64 31)), (.sc (.int .i64 30)), (.sc (.int .i64 31)), (.sc (.int .i64 30)), (.sc (.int .i64 31)), (.sc (.int .i64 31)), (.sc (.int .i64 30)), (.sc (.int .i64 31)), (.sc (.int .i64 30)), (.sc (.int .i64 31))])) (.t 20))⟩, ⟨(some 22), none, (.ld none (.t 21))⟩, ⟨(some 4), none, (.mov (.t 22))⟩] 5 none) .ret))), [(.t 4)]⟩
theorem k76_eq : (Tryd.prog.funcs[76]?).bind (cmpF Tryd.prog hmS glS 0) = some k76 := by kernel_rfl
def k88 : KF := ⟨(.seq (.reg [⟨(some 2), none, (.box (.t 0))⟩, ⟨(some 4), none, (.mov (.v (.sc (.bool false))))⟩] 2 none) (.seq (.reg [⟨(some 12), none, (.ld (some 1) (.t 2))⟩, ⟨(some 13), none, (.mov (.t 1))⟩, ⟨(some 14), none, (.pl 63 [(.t 12), (.t 13), (.v (.sc (.int .i64 0)))])⟩, ⟨(some 11), none, (.mov (.t 14))⟩, ⟨(some 15), none, (.ext (.t 11) 0)⟩, ⟨(some 16), none, (.ext (.t 11) 1)⟩, ⟨(some 17), none, (.ext (.t 11) 2)⟩, ⟨(some 5), none, (.mov (.t 15))⟩, ⟨(some 6), none, (.mov (.t 16))⟩, ⟨(some 7), none, (.mov (.t 17))⟩] 10 none) (.seq (.reg [⟨(some 19), none, (.ld (some 1) (.t 2))⟩, ⟨(some 20), none, (.mov (.t 1))⟩, ⟨(some 21), none, (.pl 63 [(.t 19), (.t 20), (.v (.sc (.int .i64 11)))])⟩, ⟨(some 18), none, (.mov (.t 21))⟩, ⟨(some 22), none, (.ext (.t 18) 0)⟩, ⟨(some 23), none, (.ext (.t 18) 1)⟩, ⟨(some 24), none, (.ext (.t 18) 2)⟩, ⟨(some 8), none, (.mov (.t 22))⟩, ⟨(some 9), none, (.mov (.t 23))⟩, ⟨(some 10), none, (.mov (.t 24))⟩] 10 none) (.seq (.reg [⟨(some 25), none, (.mov (.t 7))⟩, ⟨(some 26), none, (.mov (.t 25))⟩, ⟨(some 27), (some (26, true)), (.mov (.t 10))⟩, ⟨(some 28), none, (.pick (.t 26) (.t 27) (.v (.sc (.bool false))))⟩, ⟨(some 4), none, (.mov (.t 28))⟩] 5 none) .ret)))), [(.t 4)]⟩
theorem k88_eq : (Tryd.prog.funcs[88]?).bind (cmpF Tryd.prog hmS glS 0) = some k88 := by kernel_rfl
def k89 : KF := ⟨(.seq (.reg [⟨(some 1), none, (.box (.t 0))⟩, ⟨(some 2), none, (.mov (.v (.sc (.int .i64 0))))⟩, ⟨(some 3), none, (.mov (.v (.sc (.int .i64 0))))⟩] 3 none) (.seq (.seq (.reg [⟨(some 4), none, (.fa 0 (.t 1))⟩, ⟨(some 5), none, (.ld none (.t 4))⟩, ⟨(some 6), none, (.bin false .lss (.t 5) (.v (.sc (.int .i64 1900))))⟩, ⟨(some 7), none, (.mov (.t 6))⟩, ⟨(some 8), (some (7, false)), (.fa 0 (.t 1))⟩, ⟨(some 9), (some (7, false)), (.ld none (.t 8))⟩, ⟨(some 10), (some (7, false)), (.bin false .gtr (.t 9) (.v (.sc (.int .i64 2199))))⟩, ⟨(some 11), none, (.pick (.t 7) (.v (.sc (.bool true))) (.t 10))⟩, ⟨(some 12), none, (.mov (.t 11))⟩, ⟨(some 13), (some (12, false)), (.fa 2 (.t 1))⟩, ⟨(some 14), (some (12, false)), (.ld none (.t 13))⟩, ⟨(some 15), (some (12, false)), (.bin false .lss (.t 14) (.v (.sc (.int .i64 1))))⟩, ⟨(some 16), none, (.pick (.t 12) (.v (.sc (.bool true))) (.t 15))⟩, ⟨(some 17), none, (.mov (.t 16))⟩, ⟨(some 18), (some (17, false)), (.fa 2 (.t 1))⟩, ⟨(some 19), (some (17, false)), (.ld none (.t 18))⟩, ⟨(some 20), (some (17, false)), (.fa 0 (.t 1))⟩, ⟨(some 21), (some (17, false)), (.ld none (.t 20))⟩, ⟨(some 22), (some (17, false)), (.fa 1 (.t 1))⟩, ⟨(some 23), (some (17, false)), (.ld none (.t 22))⟩, ⟨(some 24), (some (17, false)), (.pl 90 [(.t 21), (.t 23)])⟩, ⟨(some 25), (some (17, false)), (.bin false .gtr (.t 19) (.t 24))⟩, ⟨(some 26), none, (.pick (.t 17) (.v (.sc (.bool true))) (.t 25))⟩] 23 (some [0, 1, 3, 7, 15, 31, 63, 127, 255, 511, 1023, 2047, 4095, 8191, 16383, 32767, 16383, 81919, 16383, 278527, 999423, 2097151, 4194303])) (.cond (.t 26) (.seq (.reg [⟨(some 2), none, (.mov (.v (.sc (.int .i64 0))))⟩, ⟨(some 3), none, (.mov (.v (.sc (.int .i64 11))))⟩] 2 none) .ret) .skip)) (.seq (.reg [⟨(some 27), none, (.fa 0 (.t 1))⟩, ⟨(some 28), none, (.ld none (.t 27))⟩, ⟨(some 29), none, (.bin false .sub (.t 28) (.v (.sc (.int .i64 1900))))⟩, ⟨(some 30), none, (.bin false .mul (.t 29) (.v (.sc (.int .i64 12))))⟩, ⟨(some 31), none, (.fa 1 (.t 1))⟩, ⟨(some 32), none, (.ld none (.t 31))⟩, ⟨(some 33), none, (.bin false .add (.t 30) (.t 32))⟩, ⟨(some 34), none, (.bin false .sub (.t 33) (.v (.sc (.int .i64 1))))⟩, ⟨(some 35), none, (.pl 104 [(.t 34)])⟩, ⟨(some 36), none, (.fa 2 (.t 1))⟩, ⟨(some 37), none, (.ld none (.t 36))⟩, ⟨(some 38), none, (.bin false .add (.t 35) (.t 37))⟩, ⟨(some 39), none, (.bin false .sub (.t 38) (.v (.sc (.int .i64 1))))⟩, ⟨(some 2), none, (.mov (.t 39))⟩, ⟨(some 3), none, (.mov (.v (.sc (.int .i64 0))))⟩] 15 (some [0, 1, 3, 7, 0, 16, 63, 127, 255, 0, 512, 2047, 4095, 8191, 16383])) .ret))), [(.t 2), (.t 3)]⟩
theorem k89_eq : (Tryd.prog.funcs[89]?).bind (cmpF Tryd.prog hmS glS 0) = some k89 := by kernel_rfl
def k90 : KF := ⟨(.seq (.reg [⟨(some 4), none, (.mov (.v (.sc (.int .i64 0))))⟩] 1 none) (.seq (.seq (.reg [⟨(some 5), none, (.mov (.t 1))⟩, ⟨(some 6), none, (.bin false .lss (.t 5) (.v (.sc (.int .i64 1))))⟩, ⟨(some 7), none, (.mov (.t 6))⟩, ⟨(some 8), (some (7, false)), (.mov (.t 1))⟩, ⟨(some 9), (some (7, false)), (.bin false .gtr (.t 8) (.v (.sc (.int .i64 12))))⟩, ⟨(some 10), none, (.pick (.t 7) (.v (.sc (.bool true))) (.t 9))⟩] 6 none) (.cond (.t 10) (.seq (.reg [⟨(some 4), none, (.mov (.v (.sc (.int .i64 0))))⟩] 1 none) .ret) .skip)) (.seq (.seq (.reg [⟨(some 11), none, (.mov (.t 1))⟩, ⟨(some 12), none, (.bin false .eql (.t 11) (.v (.sc (.int .i64 2))))⟩, ⟨(some 13), none, (.mov (.t 12))⟩, ⟨(some 14), (some (13, true)), (.mov (.t 0))⟩, ⟨(some 15), (some (13, true)), (.pl 105 [(.t 14)])⟩, ⟨(some 16), none, (.pick (.t 13) (.t 15) (.v (.sc (.bool false))))⟩] 6 none) (.cond (.t 16) (.seq (.reg [⟨(some 4), none, (.mov (.v (.sc (.int .i64 29))))⟩] 1 none) .ret) .skip)) (.seq (.reg [⟨(some 17), none, (.mk 3 1 [(.v (.sc (.int .i64 31))), (.v (.sc (.int .i64 28))), (.v (.sc (.int .i64 31))), (.v (.sc (.int .i64 30))), (.v (.sc (.int .i64 31))), (.v (.sc (.int .i64 30))), (.v (.sc (.int .i64 31))), (.v (.sc (.int .i64 31))), (.v (.sc (.int .i64 30))), (.v (.sc (.int .i64 31))), (.v (.sc (.int .i64 30))), (.v (.sc (.int .i64 31)))])⟩, ⟨(some 18), none, (.mov (.t 1))⟩, ⟨(some 19), none, (.bin false .sub (.t 18) (.v (.sc (.int .i64 1))))⟩, ⟨(some 20), none, (.ixl 3 (.t 17) (.t 19))⟩, ⟨(some 21), none, (.ld none (.t 20))⟩, ⟨(some 4), none, (.mov (.t 21))⟩] 6 none) .ret)))), [(.t 4)]⟩
theorem k90_eq : (Tryd.prog.funcs[90]?).bind (cmpF Tryd.prog hmS glS 0) = some k90 := by kernel_rfl
def k95 : KF := ⟨(.seq (.reg [⟨(some 2), none, (.mov (.v (.sc (.int .i64 0))))⟩] 1 none) (.seq (.reg [⟨(some 5), none, (.mov (.t 0))⟩, ⟨(some 6), none, (.bin false .sub (.t 5) (.v (.sc (.int .i64 1))))⟩, ⟨(some 3), none, (.mov (.t 6))⟩] 3 none) (.seq (.reg [⟨(some 7), none, (.mov (.t 3))⟩, ⟨(some 8), none, (.bin false .quo (.t 7) (.v (.sc (.int .i64 4))))⟩, ⟨(some 9), none, (.mov (.t 3))⟩, ⟨(some 10), none, (.bin false .quo (.t 9) (.v (.sc (.int .i64 100))))⟩, ⟨(some 11), none, (.bin false .sub (.t 8) (.t 10))⟩, ⟨(some 12), none, (.mov (.t 3))⟩, ⟨(some 13), none, (.bin false .quo (.t 12) (.v (.sc (.int .i64 400))))⟩, ⟨(some 14), none, (.bin false .add (.t 11) (.t 13))⟩, ⟨(some 15), none, (.bin false .sub (.t 14) (.v (.sc (.int .i64 474))))⟩, ⟨(some 16), none, (.bin false .add (.t 15) (.v (.sc (.int .i64 18))))⟩, ⟨(some 17), none, (.bin false .sub (.t 16) (.v (.sc (.int .i64 4))))⟩, ⟨(some 4), none, (.mov (.t 17))⟩] 12 none) (.seq (.reg [⟨(some 18), none, (.mov (.t 0))⟩, ⟨(some 19), none, (.bin false .sub (.t 18) (.v (.sc (.int .i64 1900))))⟩, ⟨(some 20), none, (.bin false .mul (.v (.sc (.int .i64 365))) (.t 19))⟩, ⟨(some 21), none, (.mov (.t 4))⟩, ⟨(some 22), none, (.bin false .add (.t 20) (.t 21))⟩, ⟨(some 2), none, (.mov (.t 22))⟩] 6 none) .ret)))), [(.t 2)]⟩
theorem k95_eq : (Tryd.prog.funcs[95]?).bind (cmpF Tryd.prog hmS glS 0) = some k95 := by kernel_rfl
def k96 : KF := ⟨(.seq (.reg [⟨(some 2), none, (.mov (.v (.sc (.bool false))))⟩] 1 none) (.seq (.reg [⟨(some 3), none, (.mov (.t 0))⟩, ⟨(some 4), none, (.bin false .geq (.t 3) (.v (.sc (.int .i64 0))))⟩, ⟨(some 5), none, (.mov (.t 4))⟩, ⟨(some 6), (some (5, true)), (.mov (.t 0))⟩, ⟨(some 7), (some (5, true)), (.bin false .leq (.t 6) (.v (.sc (.int .i64 109572))))⟩, ⟨(some 8), none, (.pick (.t 5) (.t 7) (.v (.sc (.bool false))))⟩, ⟨(some 2), none, (.mov (.t 8))⟩] 7 none) .ret)), [(.t 2)]⟩
theorem k96_eq : (Tryd.prog.funcs[96]?).bind (cmpF Tryd.prog hmS glS 0) = some k96 := by kernel_rfl
def k97 : KF := ⟨(.seq (.reg [⟨(some 2), none, (.mov (.v (.sc (.bool false))))⟩] 1 none) (.seq (.reg [⟨(some 3), none, (.mov (.t 0))⟩, ⟨(some 4), none, (.bin false .rem (.t 3) (.v (.sc (.int .i64 4))))⟩, ⟨(some 5), none, (.bin false .eql (.t 4) (.v (.sc (.int .i64 0))))⟩, ⟨(some 6), none, (.mov (.t 5))⟩, ⟨(some 7), (some (6, true)), (.mov (.t 0))⟩, ⟨(some 8), (some (6, true)), (.bin false .rem (.t 7) (.v (.sc (.int .i64 100))))⟩, ⟨(some 9), (some (6, true)), (.bin false .neq (.t 8) (.v (.sc (.int .i64 0))))⟩, ⟨(some 10), none, (.pick (.t 6) (.t 9) (.v (.sc (.bool false))))⟩, ⟨(some 11), none, (.mov (.t 10))⟩, ⟨(some 12), (some (11, false)), (.mov (.t 0))⟩, ⟨(some 13), (some (11, false)), (.bin false .rem (.t 12) (.v (.sc (.int .i64 400))))⟩, ⟨(some 14), (some (11, false)), (.bin false .eql (.t 13) (.v (.sc (.int .i64 0))))⟩, ⟨(some 15), none, (.pick (.t 11) (.v (.sc (.bool true))) (.t 14))⟩, ⟨(some 2), none, (.mov (.t 15))⟩] 14 none) .ret)), [(.t 2)]⟩
theorem k97_eq : (Tryd.prog.funcs[97]?).bind (cmpF Tryd.prog hmS glS 0) = some k97 := by kernel_rfl
def k104_l0 : Y := (.seq (.seq (.reg [⟨(some 5), none, (.mov (.t 4))⟩, ⟨(some 6), none, (.mov (.t 0))⟩, ⟨(some 7), none, (.bin false .lss (.t 5) (.t 6))⟩] 3 none) (.cond (.t 7) .skip (.«exit» 0))) (.seq (.block 1 (.reg [⟨(some 10), none, (.mov (.t 3))⟩, ⟨(some 11), none, (.mov (.t 4))⟩, ⟨(some 12), none, (.bin false .quo (.t 11) (.v (.sc (.int .i64 12))))⟩, ⟨(some 13), none, (.bin false .add (.v (.sc (.int .i64 1900))) (.t 12))⟩, ⟨(some 14), none, (.mov (.t 4))⟩, ⟨(some 15), none, (.bin false .rem (.t 14) (.v (.sc (.int .i64 12))))⟩, ⟨(some 16), none, (.bin false .add (.t 15) (.v (.sc (.int .i64 1))))⟩, ⟨(some 17), none, (.pl 90 [(.t 13), (.t 16)])⟩, ⟨(some 18), none, (.bin false .add (.t 10) (.t 17))⟩, ⟨(some 3), none, (.mov (.t 18))⟩] 10 none)) (.reg [⟨(some 8), none, (.mov (.t 4))⟩, ⟨(some 9), none, (.bin false .add (.t 8) (.v (.sc (.int .i64 1))))⟩, ⟨(some 4), none, (.mov (.t 9))⟩] 3 none)))
def k104_t0 : Y := (.seq (.reg [⟨(some 19), none, (.mov (.t 3))⟩, ⟨(some 2), none, (.mov (.t 19))⟩] 2 none) .ret)
def k104 : KF := ⟨(.seq (.reg [⟨(some 2), none, (.mov (.v (.sc (.int .i64 0))))⟩] 1 none) (.seq (.reg [⟨(some 3), none, (.mov (.v (.sc (.int .i64 0))))⟩] 1 none) (.seq (.seq (.reg [⟨(some 4), none, (.mov (.v (.sc (.int .i64 0))))⟩] 1 none) (.block 0 (.loop k104_l0))) k104_t0))), [(.t 2)]⟩
theorem k104_eq : (Tryd.prog.funcs[104]?).bind (cmpF Tryd.prog hmS glS 0) = some k104 := by kernel_rfl
def k105 : KF := ⟨(.seq (.reg [⟨(some 2), none, (.mov (.v (.sc (.bool false))))⟩] 1 none) (.seq (.reg [⟨(some 3), none, (.mov (.t 0))⟩, ⟨(some 4), none, (.bin false .rem (.t 3) (.v (.sc (.int .i64 4))))⟩, ⟨(some 5), none, (.bin false .eql (.t 4) (.v (.sc (.int .i64 0))))⟩, ⟨(some 6), none, (.mov (.t 5))⟩, ⟨(some 7), (some (6, true)), (.mov (.t 0))⟩, ⟨(some 8), (some (6, true)), (.bin false .rem (.t 7) (.v (.sc (.int .i64 100))))⟩, ⟨(some 9), (some (6, true)), (.bin false .neq (.t 8) (.v (.sc (.int .i64 0))))⟩, ⟨(some 10), none, (.pick (.t 6) (.t 9) (.v (.sc (.bool false))))⟩, ⟨(some 11), none, (.mov (.t 10))⟩, ⟨(some 12), (some (11, false)), (.mov (.t 0))⟩, ⟨(some 13), (some (11, false)), (.bin false .rem (.t 12) (.v (.sc (.int .i64 400))))⟩, ⟨(some 14), (some (11, false)), (.bin false .eql (.t 13) (.v (.sc (.int .i64 0))))⟩, ⟨(some 15), none, (.pick (.t 11) (.v (.sc (.bool true))) (.t 14))⟩, ⟨(some 2), none, (.mov (.t 15))⟩] 14 none) .ret)), [(.t 2)]⟩
theorem k105_eq : (Tryd.prog.funcs[105]?).bind (cmpF Tryd.prog hmS glS 0) = some k105 := by kernel_rfl
end Go.Proofs.YthgmhlpjbednpaaDoor.Vm
set_option linter.unusedVariables false
set_option linter.unusedSimpArgs false
namespace Go.Proofs.YthgmhlpjbednpaaDoor.Vm
open Go.ChangeShapes Go.WideShapes Go.ChangeAt Go.RowKit
def pw (w : World) : Pr := fun b o => w.cell? ⟨b, o, none⟩
theorem holds_pw {w : World} {a : Addr} {u : Value} (h : w.cell? a = some u) : Holds (pw w) a u := by
  have hs := World.cell?_spot h
  refine ⟨hs, ?_⟩
  obtain ⟨b, o, s⟩ := a
  simp only at hs; subst hs; exact h
def OpV {H : Type} (enc : TypeId × Value → H) (P : Program) {α : Type} (t : TypeId) (en : α → V) (g : α → Prop) : Prop :=
  ∀ {w : World} {base : Nat} {spare : Nat → Bool} {held : Bool} {fuel : Nat} {cs : List Value} {x : DataW H × List MemPlace}, DataW.trod enc P w base spare held fuel t cs = some x → (∀ n ∈ x.1.weights P t, n ≤ reachBytes) → ∃ y : α, RepPs P (pw w) (en y).cells cs ∧ ones (en y).cells = true ∧ g y
section
variable {H : Type} {enc : TypeId × Value → H} {P : Program} {t e : TypeId}
theorem opV_int {k : IntKind} (ht : P.underlying t = some (.int k)) : OpV enc P t (fun n => V.sc (.int k n)) (fun n => (Lit.int k n).wf = true) := by
  intro w base spare held fuel cs x h _
  obtain ⟨n, rfl, _, hw⟩ := DataW.trod_int ht h
  exact ⟨n, .cons (.sc _) .nil, rfl, hw⟩
theorem opV_string (ht : P.underlying t = some .string) : OpV enc P t (fun s => V.sc (.string s)) (fun s => s.size ≤ reachBytes) := by
  intro w base spare held fuel cs x h hR
  obtain ⟨s, rfl, hx, _⟩ := DataW.trod_string ht h
  exact ⟨s, .cons (.sc _) .nil, rfl, by have := hR s.data.toList.length (by rw [hx]; simp [DataW.weights]); rwa [Array.length_toList] at this⟩
theorem weightsAll_mem {l : List (DataW H)} {d : DataW H} {n : Nat} (hd : d ∈ l) (hn : n ∈ d.weights P e) : n ∈ DataW.weightsAll P e l := by
  induction l with
  | nil => cases hd
  | cons a r ih =>
    simp only [DataW.weightsAll, List.mem_append]
    rcases List.mem_cons.1 hd with rfl | h
    · exact .inl hn
    · exact .inr (ih h)
theorem RepPs.app {p : Pr} {xs ys : List V} {us vs : List Value} (h : RepPs P p xs us) (k : RepPs P p ys vs) : RepPs P p (xs ++ ys) (us ++ vs) := .of (h.all2.append k.all2)
theorem opV_slice {α : Type} {en : α → V} {g : α → Prop} (ht : P.underlying t = some (.slice e)) (h : OpV enc P e en g) {s : Nat} (hs : P.cellsOf e = s) (hu : usz P e = some s) (hsz : ∀ y, (en y).cells.length = s) (hby : 1 ≤ P.bytesOf e) : OpV enc P t (fun (l : List α) => V.list e (l.map en) 0) (fun (l : List α) => l.length ≤ reachBytes ∧ ∀ x ∈ l, g x) := by
  intro w base spare held fuel cs x hx hR
  rcases Deep.open_slice ht hx with ⟨rfl, _⟩ | ⟨a, len, cap, m, n, D, Pl, rfl, _, hl, hc, hm, rfl, hi⟩
  · refine ⟨[], .cons (.list rfl (Nat.le_refl _) (.inl rfl) (fun _ _ x hx => by cases hx) rfl (fun h => absurd rfl h) .nil) .nil, rfl, by simp, by simp⟩
  · have hml : len ≤ m := by rw [hm]; split <;> omega
    have hRe : ∀ i, i < len → ∀ n ∈ (D i).weights P e, n ≤ reachBytes := fun i hlt n hn => hR n (by
      simp only [DataW.weights, ht, List.mem_cons, List.mem_append]
      exact .inr (.inl (weightsAll_mem (List.mem_map.2 ⟨i, List.mem_range.2 hlt, rfl⟩) hn)))
    have main : ∀ k, k ≤ len → ∃ (l : List α) (vs : List Value), l.length = k ∧ RepPs P (pw w) ((l.map en).flatMap V.cells) vs ∧ ones ((l.map en).flatMap V.cells) = true ∧ (∀ x ∈ l, g x) ∧ vs.length = k * s ∧ LiesAt (pw w) a vs := by
      intro k
      induction k with
      | zero => intro _; exact ⟨[], [], rfl, .nil, rfl, by simp, by simp, fun j u hj => by simp at hj⟩
      | succ k ih =>
        intro hk
        obtain ⟨l, vs, h1, h2, h3, h4, h5, h6⟩ := ih (by omega)
        obtain ⟨cs', hcs, ht'⟩ := hi k (by omega)
        obtain ⟨y, hy1, hy2, hy3⟩ := h ht' (hRe k (by omega))
        obtain ⟨_, hcl, hat⟩ := World.cells?_some hcs
        refine ⟨l ++ [y], vs ++ cs', by simp [h1], ?_, ?_, ?_, ?_, ?_⟩
        · rw [List.map_append, List.flatMap_append]
          exact h2.app (by simpa using hy1)
        · rw [List.map_append, List.flatMap_append, ones_append, h3]
          simpa using hy2
        · intro z hz
          rcases List.mem_append.mp hz with hz | hz
          · exact h4 z hz
          · have : z = y := by simpa using hz
            subst this; exact hy3
        · rw [List.length_append, h5, hcl, hs, Nat.succ_mul]
        · intro j u hj
          rcases Nat.lt_or_ge j vs.length with hlt | hge
          · rw [List.getElem?_append_left hlt] at hj; exact h6 j u hj
          · rw [List.getElem?_append_right hge] at hj
            have hjl : j - vs.length < P.cellsOf e := by
              have := (List.getElem?_eq_some_iff.mp hj).1
              omega
            have h7 := hat (j - vs.length) hjl
            rw [hj] at h7
            have e1 : (a.add (k * P.cellsOf e)).add (j - vs.length) = a.add j := by
              rw [Deep.add_add]; congr 1; rw [hs]; omega
            rw [e1] at h7
            exact holds_pw h7
    obtain ⟨l, vs, h1, h2, h3, h4, h5, h6⟩ := main len (Nat.le_refl _)
    have hlen : len ≤ reachBytes := by
      have h8 := hR ((((List.range len).map D).length + ((List.range (m - len)).map fun j => D (len + j)).length) * P.bytesOf e) (by simp only [DataW.weights, ht, List.mem_cons, true_or])
      simp only [List.length_map, List.length_range] at h8
      have h9 : len * 1 ≤ (len + (m - len)) * P.bytesOf e := Nat.mul_le_mul (by omega) hby
      omega
    refine ⟨l, .cons (.list (by simp [h1]) hl (.inl rfl) ?_ h3 (fun _ => ⟨a, rfl, h6⟩) h2) .nil, rfl, by omega, h4⟩
    intro s' hs' x hx
    rw [hu] at hs'; obtain rfl := Option.some.inj hs'
    obtain ⟨y, _, rfl⟩ := List.mem_map.mp hx
    exact hsz y
theorem opV_fields {w : World} {base : Nat} {spare : Nat → Bool} {held : Bool} {fuel : Nat} {cs : List Value} {x : DataW H × List MemPlace} {fs : Array Field} (ht : P.underlying t = some (.struct fs)) (h : DataW.trod enc P w base spare held fuel t cs = some x) (hR : ∀ n ∈ x.1.weights P t, n ≤ reachBytes) :
    ∃ n, cs.length = P.cellsOf t ∧ ∀ (i : Nat) (f : Field), fs[i]? = some f → ∃ y, DataW.trod enc P w base spare held n f.type ((cs.drop f.offset).take (P.cellsOf f.type)) = some y ∧ ∀ n ∈ y.1.weights P f.type, n ≤ reachBytes := by
  obtain ⟨xs, n, _, hx0, hl, hx, hf⟩ := DataW.trod_struct ht h
  refine ⟨n, hl, fun i f hi => ?_⟩
  have hil : i < xs.length := by rw [hx]; exact (Array.getElem?_eq_some_iff.1 hi).1
  refine ⟨xs[i], (hf i f hi).trans (List.getElem?_eq_getElem hil), fun n hn => hR n ?_⟩
  rw [hx0]
  simp only [DataW.weights, ht]
  exact DataW.weights_mem_each (ts := fs.toList.map (·.type)) (ds := xs.map (·.1)) (t := f.type) (d := xs[i].1) (j := i) (by rw [List.getElem?_map, Array.getElem?_toList, hi]; rfl) (by rw [List.getElem?_map, List.getElem?_eq_getElem hil]; rfl) n hn
theorem RepPs.step {p : Pr} {cs : List Value} {o n m : Nat} {xs ys : List V} (ha : RepPs P p xs ((cs.drop o).take n)) (hm : m = o + n) (hb : RepPs P p ys (cs.drop m)) : RepPs P p (xs ++ ys) (cs.drop o) := by
  have := ha.app (P := P) hb
  rw [hm, ← List.drop_drop, List.take_append_drop] at this
  exact this
end
theorem RepPs.last {P : Program} {p : Pr} {cs : List Value} {o n : Nat} {xs : List V} (ha : RepPs P p xs ((cs.drop o).take n)) (hl : cs.length ≤ o + n) : RepPs P p xs (cs.drop o) := by
  rwa [List.take_of_length_le (by rw [List.length_drop]; omega)] at ha
end Go.Proofs.YthgmhlpjbednpaaDoor.Vm
set_option maxRecDepth 100000
set_option linter.unusedVariables false
set_option linter.unusedSimpArgs false
namespace Go.Proofs.YthgmhlpjbednpaaDoor.Vm
open Go.ChangeShapes Go.WideShapes Go.ChangeAt Go.RowKit Go.Proofs
theorem progOK : ProgOK Tryd.prog := ⟨by kernel_rfl, by kernel_rfl⟩
theorem gLen : Tryd.prog.globalNamed "accounting/days.lengths" = some 0 := by kernel_rfl
theorem tLen : (Tryd.prog.globals[0]?).map (·.type) = some 137 := by kernel_rfl
def lensT : List Int := [31, 28, 31, 30, 31, 30, 31, 31, 30, 31, 30, 31]
theorem lens_of_laid {W : World} (h : laidMetH Tryd.prog Rows.locksNilRow.laid W) : ∀ (i : Nat) (n : Int), lensT[i]? = some n → W.cell? ⟨0, i, none⟩ = some (.int .i64 n) := by
  rw [MakeChecks.laidMetH_plain _ _ _ (by kernel_rfl)] at h
  obtain ⟨ps, ⟨g0, t0, cs0, f0, p0, q0, hg0, ht0, hv0, hd0, _, _⟩, _, _⟩ := h
  obtain rfl := Option.some.inj (gLen.symm.trans hg0)
  obtain rfl := Option.some.inj (tLen.symm.trans ht0)
  obtain ⟨xs, m1, rfl, hx1, hlen, hn3, hel⟩ := DataW.trod_array Tryd.underlying137 hd0
  have c9 : Tryd.prog.cellsOf 3 = 1 := by kernel_rfl
  have c30 : Tryd.prog.cellsOf 137 = 12 := by kernel_rfl
  rw [c30] at hlen
  intro i s hi
  have hil : i < 12 := (List.getElem?_eq_some_iff.1 hi).1
  have h1 := hel i hil
  rw [c9, Nat.mul_one, List.getElem?_eq_getElem (by omega)] at h1
  obtain ⟨z, e1, e2, _⟩ := DataW.trod_int Tryd.underlying3 h1
  simp only [Prod.mk.injEq] at hx1
  have hd := hx1.1
  have e3 : (Rows.laid_accounting_days_lengths : DataW Unit) = .agg (lensT.map fun s => .lit (.int .i64 s)) := rfl
  have hd2 : (Rows.laid_accounting_days_lengths : DataW Unit) = .agg (xs.map (·.1)) := hd
  rw [e3] at hd2
  injection hd2 with hd2
  have h4 := congrArg (fun l => l[i]?) hd2
  simp only [List.getElem?_map, hi, Option.map_some] at h4
  rw [List.getElem?_eq_getElem (show i < xs.length by omega), Option.map_some, e2] at h4
  have hz : s = z := by
    injection h4 with h4
    injection h4 with h4
    injection h4
  subst hz
  have h5 := World.var?_cell hg0 hv0 i
  have h6 : cs0[i]? = some (.int .i64 s) := by
    have h7 := congrArg List.head? e1
    rw [List.head?_take, if_neg (by decide), List.head?_drop, Array.getElem?_toList] at h7
    exact h7
  rw [h6] at h5
  exact h5
theorem glOK_of {W : World} (h : ∀ (i : Nat) (n : Int), lensT[i]? = some n → W.cell? ⟨0, i, none⟩ = some (.int .i64 n)) : GlOK Tryd.prog glS (pw W) := by
  intro g x hg
  unfold glS at hg
  split at hg
  · rename_i h0
    have h0 : g = 0 := by simpa using h0
    subst h0
    simp only [Option.some.injEq] at hg; subst hg
    refine .cp (vs := lensT.map fun n => .int .i64 n) rfl ?_ ?_
    · intro j u hj
      rw [List.getElem?_map, Option.map_eq_some_iff] at hj
      obtain ⟨n, hn, rfl⟩ := hj
      have := h j n hn
      have e : (⟨0, 0, none⟩ : Addr).add j = ⟨0, j, none⟩ := by simp [Addr.add]; exact fun h => h.symm
      rw [← e] at this
      exact holds_pw this
    · have : ∀ l : List Int, RepPs Tryd.prog (pw W) (l.map V.i64) (l.map fun n => .int .i64 n) := fun l => by
        induction l with
        | nil => exact .nil
        | cons a r ih => exact .cons (.sc _) ih
      exact this lensT
  · cases hg
end Go.Proofs.YthgmhlpjbednpaaDoor.Vm
namespace Go.Proofs.YthgmhlpjbednpaaDoor.Vm
def encPer (p : Int × Int) : V := .agg [.i64 p.1, .i64 p.2]
def encCal (c : Int) : V := .agg [.i64 c]
structure Op where
  act : Int
  ent : ByteArray
  usr : ByteArray
end Go.Proofs.YthgmhlpjbednpaaDoor.Vm
set_option linter.unusedVariables false
set_option linter.unusedSimpArgs false
namespace Go.Proofs.YthgmhlpjbednpaaDoor.Vm
open Go.ChangeShapes Go.WideShapes Go.ChangeAt Go.RowKit Go.Proofs
def wfI (n : Int) : Prop := (Lit.int .i64 n).wf = true
section
variable {H : Type} {enc : TypeId × Value → H}
theorem opPer : OpV enc Tryd.prog 25 encPer (fun p => wfI p.1 ∧ wfI p.2) := by
  intro w base spare held fuel cs x h hR
  obtain ⟨n, hl, hf⟩ := opV_fields Tryd.underlying25 h hR
  have hl : cs.length = 2 := hl.trans (by kernel_rfl)
  obtain ⟨y0, t0, w0⟩ := hf 0 _ rfl
  obtain ⟨x0, K0, o0, g0⟩ := opV_int Tryd.underlying3 t0 w0
  obtain ⟨y1, t1, w1⟩ := hf 1 _ rfl
  obtain ⟨x1, K1, o1, g1⟩ := opV_int Tryd.underlying3 t1 w1
  refine ⟨(x0, x1), ?_, rfl, g0, g1⟩
  exact RepPs.step (o := 0) (m := 1) K0 (by kernel_rfl) (RepPs.last K1 (by rw [hl]; exact Nat.le_of_eq (by kernel_rfl)))
theorem opCal : OpV enc Tryd.prog 23 encCal wfI := by
  intro w base spare held fuel cs x h hR
  obtain ⟨n, hl, hf⟩ := opV_fields Tryd.underlying23 h hR
  have hl : cs.length = 1 := hl.trans (by kernel_rfl)
  obtain ⟨y0, t0, w0⟩ := hf 0 _ rfl
  obtain ⟨x0, K0, o0, g0⟩ := opV_int Tryd.underlying3 t0 w0
  refine ⟨x0, ?_, rfl, g0⟩
  exact RepPs.last (o := 0) K0 (by rw [hl]; exact Nat.le_of_eq (by kernel_rfl))
theorem opStrs : OpV enc Tryd.prog 26 (fun (l : List ByteArray) => V.list 9 (l.map V.str) 0) (fun (l : List ByteArray) => l.length ≤ reachBytes ∧ ∀ s ∈ l, s.size ≤ reachBytes) :=
  opV_slice Tryd.underlying26 (opV_string Tryd.underlying9) (s := 1) (by kernel_rfl) (by kernel_rfl) (fun _ => rfl) (of_decide_eq_true (by kernel_rfl))
end
section
variable {H : Type} {enc : TypeId × Value → H}
end
end Go.Proofs.YthgmhlpjbednpaaDoor.Vm
set_option maxRecDepth 100000
namespace Go.Proofs.YthgmhlpjbednpaaDoor.Vm
open Go Go.Proofs Go.Shelf
def ren190 : Go.Shelf.Ren := ⟨fun | 190 => 31 | 125 => 61 | 258 => 60 | 128 => 86 | 129 => 87 | 302 => 77 | 303 => 78 | 304 => 79 | 305 => 80 | 306 => 81 | 307 => 82 | 308 => 83 | 309 => 84 | 310 => 85 | 333 => 98 | 329 => 99 | 330 => 100 | 334 => 101 | 335 => 102 | 336 => 103 | 344 => 107 | n => n, fun | 31 => 26 | 9 => 9 | 3 => 3 | 46 => 102 | 0 => 0 | 51 => 126 | 53 => 128 | 4 => 4 | 183 => 119 | 182 => 118 | 131 => 94 | 5 => 5 | 218 => 138 | 222 => 142 | 228 => 145 | 229 => 130 | n => n, fun n => n⟩
theorem lays190 : Lays.n190 Tryd.prog ren190 := {
  mixed := by kernel_rfl,
  f125 := Tryd.func61.trans (congrArg some (by kernel_rfl)),
  f128 := Tryd.func86.trans (congrArg some (by kernel_rfl)),
  f129 := Tryd.func87.trans (congrArg some (by kernel_rfl)),
  f190 := Tryd.func31.trans (congrArg some (by kernel_rfl)),
  f258 := Tryd.func60.trans (congrArg some (by kernel_rfl)),
  f302 := Tryd.func77.trans (congrArg some (by kernel_rfl)),
  f303 := Tryd.func78.trans (congrArg some (by kernel_rfl)),
  f304 := Tryd.func79.trans (congrArg some (by kernel_rfl)),
  f305 := Tryd.func80.trans (congrArg some (by kernel_rfl)),
  f306 := Tryd.func81.trans (congrArg some (by kernel_rfl)),
  f307 := Tryd.func82.trans (congrArg some (by kernel_rfl)),
  f308 := Tryd.func83.trans (congrArg some (by kernel_rfl)),
  f309 := Tryd.func84.trans (congrArg some (by kernel_rfl)),
  f310 := Tryd.func85.trans (congrArg some (by kernel_rfl)),
  f329 := Tryd.func99.trans (congrArg some (by kernel_rfl)),
  f330 := Tryd.func100.trans (congrArg some (by kernel_rfl)),
  f333 := Tryd.func98.trans (congrArg some (by kernel_rfl)),
  f334 := Tryd.func101.trans (congrArg some (by kernel_rfl)),
  f335 := Tryd.func102.trans (congrArg some (by kernel_rfl)),
  f336 := Tryd.func103.trans (congrArg some (by kernel_rfl)),
  f344 := Tryd.func107.trans (congrArg some (by kernel_rfl)),
  t0 := Tryd.underlying0,
  a0 := Tryd.isAgg0,
  z0 := Tryd.sizeOf0,
  v0 := Tryd.zeroValue0,
  t3 := Tryd.underlying3,
  a3 := Tryd.isAgg3,
  z3 := Tryd.sizeOf3,
  v3 := Tryd.zeroValue3,
  t4 := Tryd.underlying4,
  a4 := Tryd.isAgg4,
  z4 := Tryd.sizeOf4,
  v4 := Tryd.zeroValue4,
  t5 := Tryd.underlying5,
  a5 := Tryd.isAgg5,
  z5 := Tryd.sizeOf5,
  v5 := Tryd.zeroValue5,
  t9 := Tryd.underlying9,
  a9 := Tryd.isAgg9,
  z9 := Tryd.sizeOf9,
  v9 := Tryd.zeroValue9,
  t31 := Tryd.underlying26,
  a31 := Tryd.isAgg26,
  z31 := Tryd.sizeOf26,
  v31 := Tryd.zeroValue26,
  t46 := Tryd.underlying102,
  a46 := Tryd.isAgg102,
  z46 := Tryd.sizeOf102,
  v46 := Tryd.zeroValue102,
  t51 := Tryd.underlying126,
  a51 := Tryd.isAgg126,
  z51 := Tryd.sizeOf126,
  v51 := Tryd.zeroValue126,
  t53 := Tryd.underlying128,
  a53 := Tryd.isAgg128,
  z53 := Tryd.sizeOf128,
  v53 := Tryd.zeroValue128,
  t131 := Tryd.underlying94,
  a131 := Tryd.isAgg94,
  z131 := Tryd.sizeOf94,
  v131 := Tryd.zeroValue94,
  t182 := Tryd.underlying118,
  a182 := Tryd.isAgg118,
  z182 := Tryd.sizeOf118,
  v182 := Tryd.zeroValue118,
  t183 := Tryd.underlying119,
  a183 := Tryd.isAgg119,
  z183 := Tryd.sizeOf119,
  v183 := Tryd.zeroValue119,
  t218 := Tryd.underlying138,
  a218 := Tryd.isAgg138,
  z218 := Tryd.sizeOf138,
  v218 := Tryd.zeroValue138,
  t222 := Tryd.underlying142,
  a222 := Tryd.isAgg142,
  z222 := Tryd.sizeOf142,
  v222 := Tryd.zeroValue142,
  t228 := Tryd.underlying145,
  a228 := Tryd.isAgg145,
  z228 := Tryd.sizeOf145,
  v228 := Tryd.zeroValue145,
  t229 := Tryd.underlying130,
  a229 := Tryd.isAgg130,
  z229 := Tryd.sizeOf130,
  v229 := Tryd.zeroValue130 }
end Go.Proofs.YthgmhlpjbednpaaDoor.Vm
namespace Go.Proofs.YthgmhlpjbednpaaDoor.Vm
open Go Go.Proofs
theorem extS_ok : ExtOK Tryd.prog glS extS := by
  refine ⟨fun f g h => (by cases h), fun f g h xs st nx r hx G vs w hgl hinv has h8 hfr => ?_⟩
  simp only [extS] at h
  split at h
  · rename_i hf
    have hf : f = 31 := by simpa using hf
    subst hf
    obtain rfl := Option.some.inj h
    exact xsort_ok lays190 hx hinv has
  · cases h
end Go.Proofs.YthgmhlpjbednpaaDoor.Vm
set_option linter.unusedVariables false
namespace Go.Proofs.YthgmhlpjbednpaaDoor.Vm
open Go.RowKit
def cunr (P : Program) (E : Env) (b : Y) (Q : Ex → Fr → Prop) (e : Ex) (fr : Fr) : Prop := e.cs (wc P E (.loop b) Q fr) (Q e fr)
theorem cunr_n {P : Program} {E : Env} {Q : Ex → Fr → Prop} {fr : Fr} (b : Y) : cunr P E b Q .norm fr = wc P E (.loop b) Q fr := rfl
theorem cunr_x {P : Program} {E : Env} {Q : Ex → Fr → Prop} {fr : Fr} (b : Y) (id : Nat) : cunr P E b Q (.exit id) fr = Q (.exit id) fr := rfl
theorem cunr_r {P : Program} {E : Env} {Q : Ex → Fr → Prop} {fr : Fr} (b : Y) : cunr P E b Q .ret fr = Q .ret fr := rfl
theorem cunr_p {P : Program} {E : Env} {Q : Ex → Fr → Prop} {fr : Fr} (b : Y) (v : V) : cunr P E b Q (.pan v) fr = Q (.pan v) fr := rfl
theorem W_hp {o : Option HR} {D : HR → Prop} {C : R → Prop} (h : W o D) (k : ∀ r, D r → W (match some r with | some (.ret v st' n) => some (R.big v st' n) | some (.pan v st' n) => some (.bpan v st' n) | none => none) C) : W (match o with | some (.ret v st' n) => some (R.big v st' n) | some (.pan v st' n) => some (.bpan v st' n) | none => none) C := by
  obtain ⟨r, rfl, hd⟩ := h; exact k r hd
end Go.Proofs.YthgmhlpjbednpaaDoor.Vm
set_option maxRecDepth 10000
set_option linter.unusedVariables false
set_option linter.unusedSimpArgs false
namespace Go.Proofs.YthgmhlpjbednpaaDoor.Vm
open Go Go.Proofs
abbrev u8 (b : UInt8) : V := .sc (.int .u8 b.toNat)
def isLet (b : UInt8) : Bool := (decide (97 ≤ b.toNat) && decide (b.toNat ≤ 122)) || (decide (65 ≤ b.toNat) && decide (b.toNat ≤ 90)) || decide (b.toNat = 95)
def isDig (b : UInt8) : Bool := decide (48 ≤ b.toNat) && decide (b.toNat ≤ 57)
def isCh (b : UInt8) : Bool := isLet b || isDig b
def codeS (s : ByteArray) : Bool := decide (1 ≤ s.size) && decide (s.size ≤ 12) && s.data.toList.all isCh
theorem size_zero {s : ByteArray} : s = ByteArray.mk #[] ↔ s.size = 0 := by
  constructor
  · rintro rfl; rfl
  · intro h
    apply ba_inj
    have : s.data.toList.length = 0 := by simpa using h
    exact List.length_eq_zero_iff.mp this
theorem letter_ok (b : UInt8) : L.pl 58 [u8 b] = some (.ret (.bool (isLet b))) := by
  refine W_of (pl_w k58_eq ?_)
  simp only [k58]
  repeat' (first | (simp -implicitDefEqProofs only [ze, zd, simprocAttr]) | (with_reducible refine wgd_cases ?_ ?_ <;> intro hb) | (with_reducible refine wcond_cases ?_ ?_ <;> intro hb) | (with_reducible refine qd_i (by kernel_rfl) ?_) | (with_reducible refine W_itn_cases ?_ ?_; omega))
  all_goals (refine ret_b (Bool.eq_iff_iff.mpr ?_); simp_all [isLet]; try omega)
theorem digit_ok (b : UInt8) : L.pl 59 [u8 b] = some (.ret (.bool (isDig b))) := by
  refine W_of (pl_w k59_eq ?_)
  simp only [k59]
  repeat' (first | (simp -implicitDefEqProofs only [ze, zd, simprocAttr]) | (with_reducible refine wgd_cases ?_ ?_ <;> intro hb) | (with_reducible refine wcond_cases ?_ ?_ <;> intro hb) | (with_reducible refine qd_i (by kernel_rfl) ?_) | (with_reducible refine W_itn_cases ?_ ?_; omega))
  all_goals (refine ret_b (Bool.eq_iff_iff.mpr ?_); simp_all [isDig]; try omega)
theorem ch_ok (b : UInt8) : L.pl 57 [u8 b] = some (.ret (.bool (isCh b))) := by
  refine W_of (pl_w k57_eq ?_)
  simp only [k57]
  repeat' (first | (simp -implicitDefEqProofs only [ze, zd, simprocAttr, letter_ok, digit_ok]) | (with_reducible refine wgd_cases ?_ ?_ <;> intro hb) | (with_reducible refine wcond_cases ?_ ?_ <;> intro hb) | (with_reducible refine qd_i (by kernel_rfl) ?_) | (with_reducible refine W_itn_cases ?_ ?_; omega))
  all_goals (refine ret_b ?_; simp_all [isCh])
theorem every_ok (g : FuncId) (p : UInt8 → Bool) (hn : nobody Tryd.prog g = false) (hh : isM (L.hm g) = false) (hg : ∀ b, L.pl g [u8 b] = some (.ret (.bool (p b)))) (s : ByteArray) (hs : s.size < 4611686018427387904) : L.pl 56 [.str s, .fn (.func g) [] []] = some (.ret (.bool (s.data.toList.all p))) := by
  refine W_of (pl_w k56_eq ?_)
  simp only [k56, k56_t0]
  repeat' (first | (simp -implicitDefEqProofs only [ze, zd, simprocAttr]) | (with_reducible refine wgd_cases ?_ ?_ <;> intro hb) | (with_reducible refine wcond_cases ?_ ?_ <;> intro hb) | (with_reducible refine qd_i (by kernel_rfl) ?_) | (with_reducible refine W_itn_cases ?_ ?_; omega))
  refine loop_w (fun n tm st nx => ∃ i : Nat, n = s.size - i ∧ i ≤ s.size ∧ tm 8 = .i64 i ∧ tm 7 = .i64 s.size ∧ tm 0 = .str s ∧ tm 1 = .fn (.func g) [] [] ∧ ∀ j, j < i → ∀ b, s.data.toList[j]? = some b → p b = true) s.size ⟨0, by omega, by omega, ?_, ?_, ?_, ?_, by omega⟩ ?_
  · simp -implicitDefEqProofs only [ze, zd, simprocAttr]; try rfl
  · simp -implicitDefEqProofs only [ze, zd, simprocAttr]
  · simp -implicitDefEqProofs only [ze, zd, simprocAttr]
  · simp -implicitDefEqProofs only [ze, zd, simprocAttr]
  · rintro n tm st nx ⟨i, hi, hi2, h8, h7, h0, h1, hp⟩
    simp only [k56_l0]
    repeat' (first | (simp -implicitDefEqProofs only [ze, zd, simprocAttr, h8, h7, h0, h1]) | (with_reducible refine wgd_cases ?_ ?_ <;> intro hb) | (with_reducible refine wcond_cases ?_ ?_ <;> intro hb) | (with_reducible refine qd_i (by kernel_rfl) ?_) | (with_reducible refine W_itn_cases ?_ ?_; omega))
    · have hlt : i < s.size := by simpa using hb
      obtain ⟨b, hb2⟩ := get_lt (l := s.data.toList) (i := i) (by simpa using hlt)
      repeat' (first | (simp -implicitDefEqProofs only [ze, zd, simprocAttr, hb2, xcall_pl hn hh, hg b, h8, h7, h0, h1]) | (with_reducible refine wgd_cases ?_ ?_ <;> intro hb) | (with_reducible refine wcond_cases ?_ ?_ <;> intro hb) | (with_reducible refine qd_i (by kernel_rfl) ?_) | (with_reducible refine W_itn_cases ?_ ?_; omega))
      · refine ret_b (all_not hb2 (by simpa using hb)).symm
      · have hpb := hb
        refine ⟨s.size - (i + 1), by omega, i + 1, rfl, by omega, up64 (by omega), fun j hj c hc => ?_⟩
        rcases Nat.lt_succ_iff_lt_or_eq.mp hj with h | rfl
        · exact hp j h c hc
        · rw [hb2] at hc; obtain rfl := Option.some.inj hc; simpa using hpb
    · have hlt : ¬ i < s.size := by simpa using hb
      exact ret_b (all_get fun j hj => hp j (by have := hj; simp at this; omega)).symm
theorem code_ok (s : ByteArray) : L.pl 30 [.str s] = some (.ret (.bool (codeS s))) := by
  refine W_of (pl_w k30_eq ?_)
  simp only [k30]
  repeat' (first | (simp -implicitDefEqProofs only [ze, zd, simprocAttr]) | (with_reducible refine wgd_cases ?_ ?_ <;> intro hb) | (with_reducible refine wcond_cases ?_ ?_ <;> intro hb) | (with_reducible refine qd_i (by kernel_rfl) ?_) | (with_reducible refine W_itn_cases ?_ ?_; omega))
  · rename_i h0
    have hlt : s.size ≤ 12 := by simp only [decide_eq_true_eq] at hb; omega
    have h1 : 1 ≤ s.size := by simp only [size_zero, Bool.not_eq_true', decide_eq_false_iff_not] at h0; omega
    repeat' (first | (simp -implicitDefEqProofs only [ze, zd, simprocAttr, every_ok 57 isCh (by kernel_rfl) rfl ch_ok s (by omega)]) | (with_reducible refine wgd_cases ?_ ?_ <;> intro hb) | (with_reducible refine wcond_cases ?_ ?_ <;> intro hb) | (with_reducible refine qd_i (by kernel_rfl) ?_) | (with_reducible refine W_itn_cases ?_ ?_; omega))
    refine ret_b ?_; simp [codeS, hlt, h1]
  · have hlt : ¬ s.size ≤ 12 := by simp only [decide_eq_false_iff_not] at hb; omega
    refine ret_b ?_; simp [codeS, hlt]
  · have h1 : s.size = 0 := by simpa [size_zero] using hb
    refine ret_b ?_; simp [codeS, h1]
theorem rletter_ok (b : UInt8) : L.pl 64 [u8 b] = some (.ret (.bool (isLet b))) := by
  refine W_of (pl_w k64_eq ?_)
  simp only [k64]
  repeat' (first | (simp -implicitDefEqProofs only [ze, zd, simprocAttr]) | (with_reducible refine wgd_cases ?_ ?_ <;> intro hb) | (with_reducible refine wcond_cases ?_ ?_ <;> intro hb) | (with_reducible refine qd_i (by kernel_rfl) ?_) | (with_reducible refine W_itn_cases ?_ ?_; omega))
  all_goals (refine ret_b (Bool.eq_iff_iff.mpr ?_); simp_all [isLet]; try omega)
theorem rdigit_ok (b : UInt8) : L.pl 65 [u8 b] = some (.ret (.bool (isDig b))) := by
  refine W_of (pl_w k65_eq ?_)
  simp only [k65]
  repeat' (first | (simp -implicitDefEqProofs only [ze, zd, simprocAttr]) | (with_reducible refine wgd_cases ?_ ?_ <;> intro hb) | (with_reducible refine wcond_cases ?_ ?_ <;> intro hb) | (with_reducible refine qd_i (by kernel_rfl) ?_) | (with_reducible refine W_itn_cases ?_ ?_; omega))
  all_goals (refine ret_b (Bool.eq_iff_iff.mpr ?_); simp_all [isDig]; try omega)
theorem rcode_ok (s : ByteArray) (hs : s.size < 4611686018427387904) : L.pl 34 [.str s] = some (.ret (.bool (codeS s))) := by
  refine W_of (pl_w k34_eq ?_)
  simp only [k34, k34_t0]
  repeat' (first | (simp -implicitDefEqProofs only [ze, zd, simprocAttr]) | (with_reducible refine wgd_cases ?_ ?_ <;> intro hb) | (with_reducible refine wcond_cases ?_ ?_ <;> intro hb) | (with_reducible refine qd_i (by kernel_rfl) ?_) | (with_reducible refine W_itn_cases ?_ ?_; omega))
  refine loop_w (fun n tm st nx => ∃ i : Nat, n = s.size - i ∧ i ≤ s.size ∧ tm 3 = .i64 i ∧ tm 0 = .str s ∧ ∀ j, j < i → ∀ b, s.data.toList[j]? = some b → isCh b = true) s.size ⟨0, by omega, by omega, ?_, ?_, by omega⟩ ?_
  · simp -implicitDefEqProofs only [ze, zd, simprocAttr]; try rfl
  · simp -implicitDefEqProofs only [ze, zd, simprocAttr]
  · rintro n tm st nx ⟨i, hi, hi2, h3, h0, hp⟩
    simp only [k34_l0]
    repeat' (first | (simp -implicitDefEqProofs only [ze, zd, simprocAttr, h3, h0]) | (with_reducible refine wgd_cases ?_ ?_ <;> intro hb) | (with_reducible refine wcond_cases ?_ ?_ <;> intro hb) | (with_reducible refine qd_i (by kernel_rfl) ?_) | (with_reducible refine W_itn_cases ?_ ?_; omega))
    · have hlt : i < s.size := by simpa using hb
      obtain ⟨b, hb2⟩ := get_lt (l := s.data.toList) (i := i) (by simpa using hlt)
      have hno : isCh b = false → codeS s = false := fun h => by simp [codeS, all_not hb2 h]
      have hup : isCh b = true → ∃ m, m < n ∧ ∃ i' : Nat, m = s.size - i' ∧ i' ≤ s.size ∧ V.sc (.int .i64 (IntKind.i64.wrap (i + 1))) = .i64 i' ∧ ∀ j, j < i' → ∀ b, s.data.toList[j]? = some b → isCh b = true := fun hpb => by
        refine ⟨s.size - (i + 1), by omega, i + 1, rfl, by omega, up64 (by omega), fun j hj c hc => ?_⟩
        rcases Nat.lt_succ_iff_lt_or_eq.mp hj with h | rfl
        · exact hp j h c hc
        · rw [hb2] at hc; obtain rfl := Option.some.inj hc; exact hpb
      repeat' (first | (simp -implicitDefEqProofs only [ze, zd, simprocAttr, hb2, h3, h0, rletter_ok, rdigit_ok]) | (with_reducible refine wgd_cases ?_ ?_ <;> intro hb) | (with_reducible refine wcond_cases ?_ ?_ <;> intro hb) | (with_reducible refine qd_i (by kernel_rfl) ?_) | (with_reducible refine W_itn_cases ?_ ?_; omega))
      · rename_i h1
        exact ret_b (hno (by simp_all [isCh])).symm
      · exact hup (by simp_all [isCh])
      · exact hup (by simp_all [isCh])
    · rename_i hi3
      have hlt : ¬ i < s.size := by simpa using hi3
      have ha := all_get (l := s.data.toList) (p := isCh) fun j hj => hp j (by have := hj; simp at this; omega)
      refine ret_b (Bool.eq_iff_iff.mpr ?_); simp only [decide_eq_true_eq] at hb; simp only [codeS, ha, Bool.and_true, Bool.and_eq_true, decide_eq_true_eq]; omega
    · refine ret_b (Bool.eq_iff_iff.mpr ?_); simp only [decide_eq_false_iff_not] at hb; simp only [codeS, Bool.and_eq_true, decide_eq_true_eq, Bool.false_eq_true, false_iff]; rintro ⟨⟨h1, h2⟩, _⟩; omega
end Go.Proofs.YthgmhlpjbednpaaDoor.Vm
set_option maxRecDepth 10000
set_option linter.unusedVariables false
set_option linter.unusedSimpArgs false
namespace Go.Proofs.YthgmhlpjbednpaaDoor.Vm
open Go Go.Proofs
structure Tag where
  n : ByteArray
  v : ByteArray
def small (s : ByteArray) : Prop := s.size < 4611686018427387904
end Go.Proofs.YthgmhlpjbednpaaDoor.Vm
set_option maxRecDepth 10000
set_option linter.unusedVariables false
set_option linter.unusedSimpArgs false
namespace Go.Proofs.YthgmhlpjbednpaaDoor.Vm
open Go Go.Proofs
structure Line where
  acc : ByteArray
  cur : ByteArray
  amt : Int
  base : Int
  par : ByteArray
  pty : ByteArray
  tags : List Tag
  tr : Bool
structure smallL (l : Line) : Prop where
  acc : small l.acc
  cur : small l.cur
  par : small l.par
  pty : small l.pty
  tags : ∀ t ∈ l.tags, small t.n ∧ small t.v
  len : l.tags.length < 4611686018427387904
  nil : l.tr = true → l.tags = []
theorem ret_i {x y : Int} (h : x = y) : CR.ret (.sc (.int .i64 x)) = .ret (V.i64 y) := by rw [h]
end Go.Proofs.YthgmhlpjbednpaaDoor.Vm
set_option maxRecDepth 10000
set_option linter.unusedVariables false
set_option linter.unusedSimpArgs false
namespace Go.Proofs.YthgmhlpjbednpaaDoor.Vm
open Go Go.Proofs
def dayS (n : Int) : Bool := decide (0 ≤ n) && decide (n ≤ 109572)
def leapZ (y : Int) : Bool := (decide (y % 4 = 0) && !decide (y % 100 = 0)) || decide (y % 400 = 0)
def befZ (y : Int) : Int := 365 * (y - 1900) + ((y - 1) / 4 - (y - 1) / 100 + (y - 1) / 400 - 474 + 18 - 4)
def lp (y : Int) : Int := if leapZ y then 1 else 0
def lenM (y : Int) : Nat → Int
  | 1 => 31 | 2 => 28 + lp y | 3 => 31 | 4 => 30 | 5 => 31 | 6 => 30 | 7 => 31 | 8 => 31 | 9 => 30 | 10 => 31 | 11 => 30 | 12 => 31 | _ => 0
theorem lp_le (y : Int) : 0 ≤ lp y ∧ lp y ≤ 1 := by unfold lp; split <;> omega
theorem bef_next (y : Int) (h : 1900 ≤ y) : befZ (y + 1) = befZ y + 365 + lp y := by
  unfold lp
  cases hl : leapZ y with
  | true =>
    simp only [leapZ, Bool.or_eq_true, Bool.and_eq_true, decide_eq_true_eq, Bool.not_eq_true', decide_eq_false_iff_not] at hl
    simp only [befZ, if_true]; omega
  | false =>
    simp only [leapZ, Bool.or_eq_false_iff, Bool.and_eq_false_iff, decide_eq_false_iff_not, Bool.not_eq_false', decide_eq_true_eq] at hl
    simp only [befZ, Bool.false_eq_true, if_false]; omega
theorem is_ok (n : Int) : L.pl 96 [.i64 n] = some (.ret (.bool (dayS n))) := by
  refine W_of (pl_w k96_eq ?_)
  simp only [k96]
  repeat' (first | (simp -implicitDefEqProofs only [ze, zd, simprocAttr]) | (with_reducible refine wgd_cases ?_ ?_ <;> intro hb) | (with_reducible refine wcond_cases ?_ ?_ <;> intro hb) | (with_reducible refine qd_i (by kernel_rfl) ?_) | (with_reducible refine W_itn_cases ?_ ?_; omega))
  all_goals (refine ret_b (Bool.eq_iff_iff.mpr ?_); simp_all [dayS]; try omega)
theorem leap_ok (y : Int) (h : 1900 ≤ y) : L.pl 97 [.i64 y] = some (.ret (.bool (leapZ y))) := by
  refine W_of (pl_w k97_eq ?_)
  simp only [k97]
  have h4 : y.tmod 4 = y % 4 := Int.tmod_eq_emod_of_nonneg (by omega)
  have h100 : y.tmod 100 = y % 100 := Int.tmod_eq_emod_of_nonneg (by omega)
  have h400 : y.tmod 400 = y % 400 := Int.tmod_eq_emod_of_nonneg (by omega)
  repeat' (first | (simp -implicitDefEqProofs only [ze, zd, simprocAttr, h4, h100, h400]) | (with_reducible refine wgd_cases ?_ ?_ <;> intro hb) | (with_reducible refine wcond_cases ?_ ?_ <;> intro hb) | (with_reducible refine qd_i (by kernel_rfl) ?_) | (with_reducible refine W_itn_cases ?_ ?_; omega))
  all_goals (refine ret_b ?_; simp_all [leapZ])
theorem before_ok (y : Int) (h : 1900 ≤ y) (h2 : y ≤ 2200) : L.pl 95 [.i64 y] = some (.ret (.i64 (befZ y))) := by
  refine W_of (pl_w k95_eq ?_)
  simp only [k95]
  have w1 : IntKind.i64.wrap (y - 1) = y - 1 := wrap_i64 (by omega) (by omega)
  have d4 : (y - 1).tdiv 4 = (y - 1) / 4 := Int.tdiv_eq_ediv_of_nonneg (by omega)
  have d100 : (y - 1).tdiv 100 = (y - 1) / 100 := Int.tdiv_eq_ediv_of_nonneg (by omega)
  have d400 : (y - 1).tdiv 400 = (y - 1) / 400 := Int.tdiv_eq_ediv_of_nonneg (by omega)
  have w2 : IntKind.i64.wrap ((y - 1) / 4) = (y - 1) / 4 := wrap_i64 (by omega) (by omega)
  have w3 : IntKind.i64.wrap ((y - 1) / 100) = (y - 1) / 100 := wrap_i64 (by omega) (by omega)
  have w4 : IntKind.i64.wrap ((y - 1) / 400) = (y - 1) / 400 := wrap_i64 (by omega) (by omega)
  have w5 : IntKind.i64.wrap ((y - 1) / 4 - (y - 1) / 100) = (y - 1) / 4 - (y - 1) / 100 := wrap_i64 (by omega) (by omega)
  have w6 : IntKind.i64.wrap ((y - 1) / 4 - (y - 1) / 100 + (y - 1) / 400) = (y - 1) / 4 - (y - 1) / 100 + (y - 1) / 400 := wrap_i64 (by omega) (by omega)
  have w7 : IntKind.i64.wrap ((y - 1) / 4 - (y - 1) / 100 + (y - 1) / 400 - 474) = (y - 1) / 4 - (y - 1) / 100 + (y - 1) / 400 - 474 := wrap_i64 (by omega) (by omega)
  have w8 : IntKind.i64.wrap ((y - 1) / 4 - (y - 1) / 100 + (y - 1) / 400 - 474 + 18) = (y - 1) / 4 - (y - 1) / 100 + (y - 1) / 400 - 474 + 18 := wrap_i64 (by omega) (by omega)
  have w9 : IntKind.i64.wrap ((y - 1) / 4 - (y - 1) / 100 + (y - 1) / 400 - 474 + 18 - 4) = (y - 1) / 4 - (y - 1) / 100 + (y - 1) / 400 - 474 + 18 - 4 := wrap_i64 (by omega) (by omega)
  have w10 : IntKind.i64.wrap (y - 1900) = y - 1900 := wrap_i64 (by omega) (by omega)
  have w11 : IntKind.i64.wrap (365 * (y - 1900)) = 365 * (y - 1900) := wrap_i64 (by omega) (by omega)
  have w12 : IntKind.i64.wrap (365 * (y - 1900) + ((y - 1) / 4 - (y - 1) / 100 + (y - 1) / 400 - 474 + 18 - 4)) = 365 * (y - 1900) + ((y - 1) / 4 - (y - 1) / 100 + (y - 1) / 400 - 474 + 18 - 4) := wrap_i64 (by omega) (by omega)
  repeat' (first | (simp -implicitDefEqProofs only [ze, zd, simprocAttr, w1, d4, d100, d400, w2, w3, w4, w5, w6, w7, w8, w9, w10, w11, w12]) | (with_reducible refine wgd_cases ?_ ?_ <;> intro hb) | (with_reducible refine wcond_cases ?_ ?_ <;> intro hb) | (with_reducible refine qd_i (by kernel_rfl) ?_) | (with_reducible refine W_itn_cases ?_ ?_; omega))
  rfl
theorem length_ok (y : Int) (h : 1900 ≤ y) (m : Nat) (hm : 1 ≤ m) (hm2 : m ≤ 13) : L.pl 76 [.i64 y, .i64 m] = some (.ret (.i64 (lenM y m))) := by
  refine W_of (pl_w k76_eq ?_)
  simp only [k76]
  have hw : IntKind.i64.wrap ((m : Int) - 1) = ((m - 1 : Nat) : Int) := by rw [wrap_i64 (by omega) (by omega)]; omega
  have c12 : m = 1 ∨ m = 2 ∨ m = 3 ∨ m = 4 ∨ m = 5 ∨ m = 6 ∨ m = 7 ∨ m = 8 ∨ m = 9 ∨ m = 10 ∨ m = 11 ∨ m = 12 ∨ m = 13 := by omega
  have tab : m ≤ 12 → (m = 2 → leapZ y = false) → (List.drop ((m - 1) * 1) [V.sc (Value.int IntKind.i64 31), V.sc (Value.int IntKind.i64 28), V.sc (Value.int IntKind.i64 31), V.sc (Value.int IntKind.i64 30), V.sc (Value.int IntKind.i64 31), V.sc (Value.int IntKind.i64 30), V.sc (Value.int IntKind.i64 31), V.sc (Value.int IntKind.i64 31), V.sc (Value.int IntKind.i64 30), V.sc (Value.int IntKind.i64 31), V.sc (Value.int IntKind.i64 30), V.sc (Value.int IntKind.i64 31)])[0]? = some (.sc (.int .i64 (lenM y m))) := fun hm3 hl => by
    rcases c12 with rfl | rfl | rfl | rfl | rfl | rfl | rfl | rfl | rfl | rfl | rfl | rfl | rfl <;> first | rfl | omega | skip
    have := hl rfl
    simp [lenM, lp, this]
  repeat' (first | (simp -implicitDefEqProofs only [ze, zd, simprocAttr, leap_ok y h, hw]) | (with_reducible refine wgd_cases ?_ ?_ <;> intro hb) | (with_reducible refine wcond_cases ?_ ?_ <;> intro hb) | (with_reducible refine qd_i (by kernel_rfl) ?_) | (with_reducible refine W_itn_cases ?_ ?_; omega))
  · simp only [decide_eq_true_eq] at hb; omega
  · simp only [decide_eq_true_eq] at hb
    have : m = 13 := by omega
    subst this; rfl
  · rename_i h2
    simp only [decide_eq_true_eq] at h2
    have : m = 2 := by omega
    subst this
    have hl : leapZ y = true := by assumption
    refine ret_i ?_; simp [lenM, lp, hl]
  · rename_i h12 h2
    simp only [decide_eq_false_iff_not, decide_eq_true_eq] at h12 h2
    refine W_itn_cases ⟨by omega, by omega⟩ ?_
    repeat' (first | (simp -implicitDefEqProofs only [ze, zd, simprocAttr, tab (by omega) (fun _ => hb)]) | (with_reducible refine wgd_cases ?_ ?_ <;> intro hb) | (with_reducible refine wcond_cases ?_ ?_ <;> intro hb) | (with_reducible refine qd_i (by kernel_rfl) ?_) | (with_reducible refine W_itn_cases ?_ ?_; omega))
  · rename_i h1 h12
    simp only [decide_eq_false_iff_not] at h12 hb
    refine W_itn_cases ⟨by omega, by omega⟩ ?_
    repeat' (first | (simp -implicitDefEqProofs only [ze, zd, simprocAttr, tab (by omega) (fun e => absurd (by rw [e]; rfl) hb)]) | (with_reducible refine wgd_cases ?_ ?_ <;> intro hb) | (with_reducible refine wcond_cases ?_ ?_ <;> intro hb) | (with_reducible refine qd_i (by kernel_rfl) ?_) | (with_reducible refine W_itn_cases ?_ ?_; omega))
end Go.Proofs.YthgmhlpjbednpaaDoor.Vm
set_option maxRecDepth 10000
set_option linter.unusedVariables false
set_option linter.unusedSimpArgs false
namespace Go.Proofs.YthgmhlpjbednpaaDoor.Vm
open Go Go.Proofs
def fm : Nat → Int
  | 0 => 0
  | M + 1 => fm M + lenM (1900 + (M / 12 : Nat)) (M % 12 + 1)
theorem lenM_pos (y : Int) (m : Nat) (h : 1 ≤ m) (h2 : m ≤ 12) : 28 ≤ lenM y m ∧ lenM y m ≤ 31 := by
  have := lp_le y
  have c12 : m = 1 ∨ m = 2 ∨ m = 3 ∨ m = 4 ∨ m = 5 ∨ m = 6 ∨ m = 7 ∨ m = 8 ∨ m = 9 ∨ m = 10 ∨ m = 11 ∨ m = 12 := by omega
  rcases c12 with rfl | rfl | rfl | rfl | rfl | rfl | rfl | rfl | rfl | rfl | rfl | rfl <;> simp only [lenM] <;> omega
theorem fm_lt (M : Nat) : fm M + 28 ≤ fm (M + 1) ∧ fm (M + 1) ≤ fm M + 31 := by
  have := lenM_pos (1900 + (M / 12 : Nat)) (M % 12 + 1) (by omega) (by omega)
  simp only [fm]; omega
theorem fm_add (M d : Nat) : fm M + 28 * d ≤ fm (M + d) ∧ fm (M + d) ≤ fm M + 31 * d := by
  induction d with
  | zero => simp
  | succ d ih => have := fm_lt (M + d); rw [← Nat.add_assoc]; omega
theorem fm_mono {M N : Nat} (h : M ≤ N) : fm M ≤ fm N := by
  have := fm_add M (N - M); rw [Nat.add_sub_cancel' h] at this; omega
theorem fm_nonneg (M : Nat) : 0 ≤ fm M := fm_mono (Nat.zero_le M)
theorem fm_at (k j : Nat) (h : j < 12) : fm (12 * k + (j + 1)) = fm (12 * k + j) + lenM (1900 + (k : Int)) (j + 1) := by
  have e1 : (12 * k + j) / 12 = k := by omega
  have e2 : (12 * k + j) % 12 = j := by omega
  rw [← Nat.add_assoc]
  simp only [fm, e1, e2]
theorem fm_year (k : Nat) : fm (12 * k) = befZ (1900 + (k : Int)) := by
  induction k with
  | zero => rfl
  | succ k ih =>
    have h0 := fm_at k 0 (by omega); have h1 := fm_at k 1 (by omega); have h2 := fm_at k 2 (by omega); have h3 := fm_at k 3 (by omega)
    have h4 := fm_at k 4 (by omega); have h5 := fm_at k 5 (by omega); have h6 := fm_at k 6 (by omega); have h7 := fm_at k 7 (by omega)
    have h8 := fm_at k 8 (by omega); have h9 := fm_at k 9 (by omega); have h10 := fm_at k 10 (by omega); have h11 := fm_at k 11 (by omega)
    simp only [lenM, Nat.reduceAdd, Nat.add_zero] at h0 h1 h2 h3 h4 h5 h6 h7 h8 h9 h10 h11
    have hb := bef_next (1900 + (k : Int)) (by omega)
    have e : (1900 + ((k + 1 : Nat) : Int)) = 1900 + (k : Int) + 1 := by omega
    rw [e, hb, ← ih, show 12 * (k + 1) = 12 * k + 12 by omega]
    omega
theorem fm_end : fm 3600 = 109573 := by rw [show (3600 : Nat) = 12 * 300 from rfl, fm_year]; rfl
def isD (n : Int) (M : Nat) : Prop := fm M ≤ n ∧ n < fm (M + 1) ∧ M < 3600
theorem isD_uniq {n : Int} {M N : Nat} (h : isD n M) (k : isD n N) : M = N := by
  rcases Nat.lt_trichotomy M N with h1 | h1 | h1
  · have := fm_mono (show M + 1 ≤ N from h1); have := h.2.1; have := k.1; omega
  · exact h1
  · have := fm_mono (show N + 1 ≤ M from h1); have := h.1; have := k.2.1; omega
theorem isD_day {n : Int} {M : Nat} (h : isD n M) : dayS n = true := by
  have h1 := fm_nonneg M
  have h2 := fm_mono (show M + 1 ≤ 3600 from h.2.2)
  rw [fm_end] at h2
  have := h.1; have := h.2.1
  simp only [dayS, Bool.and_eq_true, decide_eq_true_eq]; omega
theorem isD_fm {M : Nat} (h : M < 3600) : isD (fm M) M := ⟨Int.le_refl _, by have := fm_lt M; omega, h⟩
theorem befZ_b (y : Int) (h : 1900 ≤ y) (h2 : y ≤ 2200) : 0 ≤ befZ y ∧ befZ y ≤ 109573 := by unfold befZ; omega
end Go.Proofs.YthgmhlpjbednpaaDoor.Vm
set_option maxRecDepth 10000
set_option linter.unusedVariables false
set_option linter.unusedSimpArgs false
namespace Go.Proofs.YthgmhlpjbednpaaDoor.Vm
open Go Go.Proofs
def yM (c y : Int) : Nat := (12 * (y - 1900) + c - 1).toNat
def rightC (c : Int) : Bool := decide (1 ≤ c) && decide (c ≤ 12)
def yrS (c y : Int) : Bool := decide (1900 ≤ y) && decide (y ≤ 2199) && decide (12 * (y - 1900) + c - 1 + 12 ≤ 3600)
def exS (c y n : Int) : Bool := yrS c y && decide (1 ≤ n) && decide (n ≤ 13)
def lastS (c y : Int) : Int := fm (yM c y + 12) - 1
def spanS (c y n : Int) : Int × Int × Int :=
  if rightC c = false then (0, 0, 2) else if exS c y n = false then (0, 0, 16)
  else if n = 13 then (lastS c y, lastS c y, 0) else (fm (yM c y + (n - 1).toNat), fm (yM c y + (n - 1).toNat + 1) - 1, 0)
def stepP (c y n y2 n2 : Int) : (Int × Int) × Int :=
  if rightC c = false then ((0, 0), 2) else if exS c y n = false ∨ exS c y2 n2 = false then ((0, 0), 16) else ((y2, n2), 0)
def nextP (c y n : Int) : (Int × Int) × Int := if n = 13 then stepP c y n (IntKind.i64.wrap (y + 1)) 1 else stepP c y n y (IntKind.i64.wrap (n + 1))
def prevP (c y n : Int) : (Int × Int) × Int := if n = 1 then stepP c y n (IntKind.i64.wrap (y - 1)) 13 else stepP c y n y (IntKind.i64.wrap (n - 1))
end Go.Proofs.YthgmhlpjbednpaaDoor.Vm
set_option maxRecDepth 10000
set_option linter.unusedVariables false
set_option linter.unusedSimpArgs false
namespace Go.Proofs.YthgmhlpjbednpaaDoor.Vm
open Go Go.Proofs
theorem of_late (y m d : Int) (hy : 2199 < y) : L.pl 74 [.agg [.i64 y, .i64 m, .i64 d]] = some (.ret (.tup [.i64 0, .i64 11])) := by
  refine W_of (pl_w k74_eq ?_)
  simp only [k74]
  have h1 : decide (y < 1900) = false := decide_eq_false (by omega)
  have h2 : decide (2199 < y) = true := decide_eq_true hy
  repeat' (first | (simp -implicitDefEqProofs only [ze, zd, simprocAttr, h1, h2]) | (with_reducible refine wgd_cases ?_ ?_ <;> intro hb) | (with_reducible refine wcond_cases ?_ ?_ <;> intro hb) | (with_reducible refine qd_i (by kernel_rfl) ?_) | (with_reducible refine W_itn_cases ?_ ?_; omega))
theorem of_yes (k m : Nat) (hk : k < 300) (hm : 1 ≤ m) (hm2 : m ≤ 12) (d : Int) (hd : 1 ≤ d) (hd2 : d ≤ lenM (1900 + (k : Int)) m) : L.pl 74 [.agg [.i64 (1900 + (k : Int)), .i64 m, .i64 d]] = some (.ret (.tup [.i64 (fm (12 * k + (m - 1)) + d - 1), .i64 0])) := by
  refine W_of (pl_w k74_eq ?_)
  simp only [k74]
  have g1 : decide (1900 + (k : Int) < 1900) = false := decide_eq_false (by omega)
  have g2 : decide (2199 < 1900 + (k : Int)) = false := decide_eq_false (by omega)
  have g3 : decide (d < 1) = false := decide_eq_false (by omega)
  have g4 : decide (lenM (1900 + (k : Int)) m < d) = false := decide_eq_false (by omega)
  have hlen : ∀ j : Nat, 1 ≤ j → j ≤ 12 → L.pl 76 [.i64 (1900 + (k : Int)), .i64 j] = some (.ret (.i64 (lenM (1900 + (k : Int)) j))) := fun j h1 h2 => length_ok _ (by omega) j h1 (by omega)
  have hb31 := lenM_pos (1900 + (k : Int)) m hm hm2
  have hbf := befZ_b (1900 + (k : Int)) (by omega) (by omega)
  have hbe := before_ok (1900 + (k : Int)) (by omega) (by omega)
  have w1 : IntKind.i64.wrap (befZ (1900 + (k : Int)) + d) = befZ (1900 + (k : Int)) + d := wrap_i64 (by omega) (by omega)
  have w2 : IntKind.i64.wrap (befZ (1900 + (k : Int)) + d - 1) = befZ (1900 + (k : Int)) + d - 1 := wrap_i64 (by omega) (by omega)
  repeat' (first | (simp -implicitDefEqProofs only [ze, zd, simprocAttr, g1, g2, g3, g4, hlen m hm hm2, hbe, w1, w2]) | (with_reducible refine wgd_cases ?_ ?_ <;> intro hb) | (with_reducible refine wcond_cases ?_ ?_ <;> intro hb) | (with_reducible refine qd_i (by kernel_rfl) ?_) | (with_reducible refine W_itn_cases ?_ ?_; omega))
  refine loop_w (fun n tm st nx => ∃ j : Nat, n = m - j ∧ 1 ≤ j ∧ j ≤ m ∧ tm 4 = .i64 j ∧ tm 1 = .ptr 8 0 ∧ tm 2 = .i64 (fm (12 * k + (j - 1)) + d - 1) ∧ st 8 = some (.cells [.i64 (1900 + (k : Int)), .i64 m, .i64 d])) _ ⟨1, rfl, by omega, hm, ?_, ?_, ?_, ?_⟩ ?_
  · simp -implicitDefEqProofs only [ze, zd, simprocAttr]; try rfl
  · simp -implicitDefEqProofs only [ze, zd, simprocAttr]
  · simp -implicitDefEqProofs only [ze, zd, simprocAttr, fm_year, Nat.sub_self]
  · simp -implicitDefEqProofs only [ze, zd, simprocAttr]; try rfl
  rintro n tm st nx ⟨j, hn, hj, hjm, h4, h1, h2, hst⟩
  simp only [k74_l0]
  have hfm := fm_at k (j - 1) (by omega)
  have ej : j - 1 + 1 = j := by omega
  rw [ej] at hfm
  have hfa := fm_add 0 (12 * k + j)
  have hf0 : fm 0 = 0 := rfl
  rw [Nat.zero_add, hf0] at hfa
  by_cases hc : j < m
  · have hd : decide ((j : Int) < (m : Int)) = true := decide_eq_true (by omega)
    have hlb := lenM_pos (1900 + (k : Int)) j hj (by omega)
    have w3 : IntKind.i64.wrap (fm (12 * k + (j - 1)) + d - 1 + lenM (1900 + (k : Int)) j) = fm (12 * k + (j + 1 - 1)) + d - 1 := by
      rw [Nat.add_sub_cancel, wrap_i64 (by omega) (by omega)]; omega
    repeat' (first | (simp -implicitDefEqProofs only [ze, zd, simprocAttr, h4, h1, h2, hst, hd, hlen j hj (by omega), w3]) | (with_reducible refine wgd_cases ?_ ?_ <;> intro hb) | (with_reducible refine wcond_cases ?_ ?_ <;> intro hb) | (with_reducible refine qd_i (by kernel_rfl) ?_) | (with_reducible refine W_itn_cases ?_ ?_; omega))
    exact ⟨m - (j + 1), by omega, j + 1, rfl, by omega, by omega, up64 (by omega), rfl⟩
  · have hd : decide ((j : Int) < (m : Int)) = false := decide_eq_false (by omega)
    have : j = m := by omega
    subst this
    repeat' (first | (simp -implicitDefEqProofs only [ze, zd, simprocAttr, h4, h1, h2, hst, hd, k74_t0]) | (with_reducible refine wgd_cases ?_ ?_ <;> intro hb) | (with_reducible refine wcond_cases ?_ ?_ <;> intro hb) | (with_reducible refine qd_i (by kernel_rfl) ?_) | (with_reducible refine W_itn_cases ?_ ?_; omega))
theorem dateS_ok (n : Int) (M : Nat) (h : isD n M) : L.pl 75 [.i64 n] = some (.ret (.tup [.agg [.i64 (1900 + (M / 12 : Nat)), .i64 ((M % 12 + 1 : Nat) : Int), .i64 (n - fm M + 1)], .i64 0])) := by
  have hday := isD_day h
  have hn : 0 ≤ n ∧ n ≤ 109572 := by simpa [dayS] using hday
  refine W_of (pl_w k75_eq ?_)
  simp only [k75]
  have q1 : n.tdiv 366 = n / 366 := Int.tdiv_eq_ediv_of_nonneg hn.1
  have w1 : IntKind.i64.wrap (n / 366) = n / 366 := wrap_i64 (by omega) (by omega)
  have w2 : IntKind.i64.wrap (1900 + n / 366) = 1900 + n / 366 := wrap_i64 (by omega) (by omega)
  repeat' (first | (simp -implicitDefEqProofs only [ze, zd, simprocAttr, is_ok, hday, q1, w1, w2]) | (with_reducible refine wgd_cases ?_ ?_ <;> intro hb) | (with_reducible refine wcond_cases ?_ ?_ <;> intro hb) | (with_reducible refine qd_i (by kernel_rfl) ?_) | (with_reducible refine W_itn_cases ?_ ?_; omega))
  refine loop_w (fun k tm st nx => ∃ y : Nat, k = 299 - y ∧ y ≤ 299 ∧ fm (12 * y) ≤ n ∧ tm 0 = .i64 n ∧ tm 2 = .ptr 8 0 ∧ st 8 = some (.cells [.i64 (1900 + (y : Int)), .i64 0, .i64 0]) ∧ 9 ≤ nx) _ ⟨(n / 366).toNat, rfl, by omega, ?_, ?_, ?_, ?_, by omega⟩ ?_
  · rw [fm_year]; unfold befZ; omega
  · simp -implicitDefEqProofs only [ze, zd, simprocAttr]
  · simp -implicitDefEqProofs only [ze, zd, simprocAttr]
  · simp -implicitDefEqProofs only [ze, zd, simprocAttr]
    have : ((n / 366).toNat : Int) = n / 366 := Int.toNat_of_nonneg (by omega)
    rw [this]
  rintro k tm st nx ⟨y, hk, hy2, hyn, h0, h2, hst, hnx⟩
  simp only [k75_l0]
  have wy : IntKind.i64.wrap (1900 + (y : Int) + 1) = 1900 + ((y + 1 : Nat) : Int) := by rw [wrap_i64 (by omega) (by omega)]; omega
  have fy : befZ (1900 + (y : Int)) = fm (12 * y) := (fm_year y).symm
  have fy1 : befZ (1900 + ((y + 1 : Nat) : Int)) = fm (12 * y + 12) := by rw [← fm_year (y + 1)]; congr 1
  have tail : ∀ (tm : Nat → V) (st : St) (nx : Nat), n < fm (12 * y + 12) → tm 0 = .i64 n → tm 2 = .ptr 8 0 → st 8 = some (.cells [.i64 (1900 + (y : Int)), .i64 0, .i64 0]) →
      wc Tryd.prog L k75_t1 (RQ [.c 2 (some 3), .t 3] (PQ fun r => r = .ret (.tup [.agg [.i64 (1900 + (M / 12 : Nat)), .i64 ((M % 12 + 1 : Nat) : Int), .i64 (n - fm M + 1)], .i64 0]))) ⟨tm, st, nx⟩ := by
    intro tm st nx hx h0 h2 hst
    have hb0 := before_ok (1900 + (y : Int)) (by omega) (by omega)
    rw [fy] at hb0
    have hf0 := fm_nonneg (12 * y)
    have w3 : IntKind.i64.wrap (n - fm (12 * y)) = n - fm (12 * y) := wrap_i64 (by omega) (by omega)
    simp only [k75_t1, k75_t0]
    repeat' (first | (simp -implicitDefEqProofs only [ze, zd, simprocAttr, h0, h2, hst, hb0, w3]) | (with_reducible refine wgd_cases ?_ ?_ <;> intro hb) | (with_reducible refine wcond_cases ?_ ?_ <;> intro hb) | (with_reducible refine qd_i (by kernel_rfl) ?_) | (with_reducible refine W_itn_cases ?_ ?_; omega))
    refine loop_w (fun k tm st nx => ∃ m : Nat, k = 12 - m ∧ m < 12 ∧ fm (12 * y + m) ≤ n ∧ tm 0 = .i64 (n - fm (12 * y + m)) ∧ tm 2 = .ptr 8 0 ∧ st 8 = some (.cells [.i64 (1900 + (y : Int)), .i64 ((m + 1 : Nat) : Int), .i64 0])) _ ⟨0, rfl, by omega, hyn, ?_, ?_, ?_⟩ ?_
    · simp -implicitDefEqProofs only [ze, zd, simprocAttr]
    · simp -implicitDefEqProofs only [ze, zd, simprocAttr]; exact h2
    · simp -implicitDefEqProofs only [ze, zd, simprocAttr]; try rfl
    rintro k tm st nx ⟨m, hk, hm, hmn, h0, h2, hst⟩
    simp only [k75_l1]
    have hlen := length_ok (1900 + (y : Int)) (by omega) (m + 1) (by omega) (by omega)
    have hfa := fm_at y m hm
    have hf0 := fm_nonneg (12 * y + m)
    have hlb := lenM_pos (1900 + (y : Int)) (m + 1) (by omega) (by omega)
    have w4 : IntKind.i64.wrap (n - fm (12 * y + m) - lenM (1900 + (y : Int)) (m + 1)) = n - fm (12 * y + (m + 1)) := by rw [wrap_i64 (by omega) (by omega)]; omega
    have w5 : IntKind.i64.wrap (n - fm (12 * y + m) + 1) = n - fm (12 * y + m) + 1 := wrap_i64 (by omega) (by omega)
    have w6 : IntKind.i64.wrap (((m + 1 : Nat) : Int) + 1) = ((m + 1 + 1 : Nat) : Int) := by rw [wrap_i64 (by omega) (by omega)]; omega
    by_cases hc : lenM (1900 + (y : Int)) (m + 1) ≤ n - fm (12 * y + m)
    · have hd : decide (lenM (1900 + (y : Int)) (m + 1) ≤ n - fm (12 * y + m)) = true := decide_eq_true hc
      have hm3 : m + 1 < 12 := by
        rcases Nat.lt_or_ge (m + 1) 12 with h | h
        · exact h
        · have : m = 11 := by omega
          subst this
          have hfa' : fm (12 * y + 12) = fm (12 * y + 11) + lenM (1900 + (y : Int)) (11 + 1) := hfa
          omega
      repeat' (first | (simp -implicitDefEqProofs only [ze, zd, simprocAttr, h0, h2, hst, hlen, hd, w4, w6]) | (with_reducible refine wgd_cases ?_ ?_ <;> intro hb) | (with_reducible refine wcond_cases ?_ ?_ <;> intro hb) | (with_reducible refine qd_i (by kernel_rfl) ?_) | (with_reducible refine W_itn_cases ?_ ?_; omega))
      exact ⟨12 - (m + 1), by omega, m + 1, rfl, by omega, by omega, rfl, rfl⟩
    · have hd : decide (lenM (1900 + (y : Int)) (m + 1) ≤ n - fm (12 * y + m)) = false := decide_eq_false hc
      have hM : M = 12 * y + m := isD_uniq h ⟨hmn, by show n < fm (12 * y + m + 1); rw [Nat.add_assoc, hfa]; omega, by omega⟩
      have e1 : M / 12 = y := by omega
      have e2 : M % 12 = m := by omega
      repeat' (first | (simp -implicitDefEqProofs only [ze, zd, simprocAttr, h0, h2, hst, hlen, hd, w5]) | (with_reducible refine wgd_cases ?_ ?_ <;> intro hb) | (with_reducible refine wcond_cases ?_ ?_ <;> intro hb) | (with_reducible refine qd_i (by kernel_rfl) ?_) | (with_reducible refine W_itn_cases ?_ ?_; omega))
      rw [e1, e2, hM]
  by_cases hc1 : y < 299
  · have hd1 : decide (1900 + (y : Int) < 2199) = true := decide_eq_true (by omega)
    have hb1 := before_ok (1900 + ((y + 1 : Nat) : Int)) (by omega) (by omega)
    rw [fy1] at hb1
    by_cases hc2 : fm (12 * y + 12) ≤ n
    · have hd2 : decide (fm (12 * y + 12) ≤ n) = true := decide_eq_true hc2
      repeat' (first | (simp -implicitDefEqProofs only [ze, zd, simprocAttr, h0, h2, hst, wy, hb1, hd1, hd2]) | (with_reducible refine wgd_cases ?_ ?_ <;> intro hb) | (with_reducible refine wcond_cases ?_ ?_ <;> intro hb) | (with_reducible refine qd_i (by kernel_rfl) ?_) | (with_reducible refine W_itn_cases ?_ ?_; omega))
      exact ⟨299 - (y + 1), by omega, y + 1, rfl, by omega, hc2, rfl⟩
    · have hd2 : decide (fm (12 * y + 12) ≤ n) = false := decide_eq_false hc2
      repeat' (first | (simp -implicitDefEqProofs only [ze, zd, simprocAttr, h0, h2, hst, wy, hb1, hd1, hd2]) | (with_reducible refine wgd_cases ?_ ?_ <;> intro hb) | (with_reducible refine wcond_cases ?_ ?_ <;> intro hb) | (with_reducible refine qd_i (by kernel_rfl) ?_) | (with_reducible refine W_itn_cases ?_ ?_; omega))
      refine tail _ _ _ (by omega) ?_ ?_ hst
      · simp -implicitDefEqProofs only [ze, zd, simprocAttr]; exact h0
      · simp -implicitDefEqProofs only [ze, zd, simprocAttr]; exact h2
  · have hd1 : decide (1900 + (y : Int) < 2199) = false := decide_eq_false (by omega)
    repeat' (first | (simp -implicitDefEqProofs only [ze, zd, simprocAttr, h0, h2, hst, hd1]) | (with_reducible refine wgd_cases ?_ ?_ <;> intro hb) | (with_reducible refine wcond_cases ?_ ?_ <;> intro hb) | (with_reducible refine qd_i (by kernel_rfl) ?_) | (with_reducible refine W_itn_cases ?_ ?_; omega))
    have hy : y = 299 := by omega
    refine tail _ _ _ (by subst hy; show n < fm 3600; rw [fm_end]; omega) ?_ ?_ hst
    · simp -implicitDefEqProofs only [ze, zd, simprocAttr]; exact h0
    · simp -implicitDefEqProofs only [ze, zd, simprocAttr]; exact h2
theorem monthEnd_ok (n : Int) (M : Nat) (h : isD n M) : L.pl 55 [.i64 n] = some (.ret (.tup [.i64 (fm (M + 1) - 1), .i64 0])) := by
  refine W_of (pl_w k55_eq ?_)
  simp only [k55]
  have hd := dateS_ok n M h
  have hM := h.2.2
  have hlen := length_ok (1900 + (M / 12 : Nat)) (by omega) (M % 12 + 1) (by omega) (by omega)
  have hlp := lenM_pos (1900 + (M / 12 : Nat)) (M % 12 + 1) (by omega) (by omega)
  have hof := of_yes (M / 12) (M % 12 + 1) (by omega) (by omega) (by omega) (lenM (1900 + (M / 12 : Nat)) (M % 12 + 1)) (by omega) (Int.le_refl _)
  have e1 : 12 * (M / 12) + (M % 12 + 1 - 1) = M := by omega
  have hfm : fm (M + 1) = fm M + lenM (1900 + (M / 12 : Nat)) (M % 12 + 1) := rfl
  rw [e1] at hof
  rw [hfm]
  repeat' (first | (simp -implicitDefEqProofs only [ze, zd, simprocAttr, hd, hlen, hof, ne_eq, not_true_eq_false, gt_iff_lt]) | (with_reducible refine wgd_cases ?_ ?_ <;> intro hb) | (with_reducible refine wcond_cases ?_ ?_ <;> intro hb) | (with_reducible refine qd_i (by kernel_rfl) ?_) | (with_reducible refine W_itn_cases ?_ ?_; omega))
  have hb1 : M = 3599 := by
    simp only [bne_iff_ne, ne_eq, Bool.not_eq_false, Bool.and_eq_true, decide_eq_true_eq] at hb
    omega
  have hb2 : fm (M + 1) = 109573 := by rw [hb1]; exact fm_end
  rw [← hfm, hb2]; rfl
end Go.Proofs.YthgmhlpjbednpaaDoor.Vm
set_option maxRecDepth 10000
set_option linter.unusedVariables false
set_option linter.unusedSimpArgs false
namespace Go.Proofs.YthgmhlpjbednpaaDoor.Vm
open Go Go.Proofs
theorem right_ok (c : Int) : L.pl 51 [.agg [.i64 c]] = some (.ret (.bool (rightC c))) := by
  refine W_of (pl_w k51_eq ?_)
  simp only [k51]
  repeat' (first | (simp -implicitDefEqProofs only [ze, zd, simprocAttr]) | (with_reducible refine wgd_cases ?_ ?_ <;> intro hb) | (with_reducible refine wcond_cases ?_ ?_ <;> intro hb) | (with_reducible refine qd_i (by kernel_rfl) ?_) | (with_reducible refine W_itn_cases ?_ ?_; omega))
  all_goals (refine ret_b (Bool.eq_iff_iff.mpr ?_); simp_all [rightC]; try omega)
theorem rightC_b {c : Int} (h : rightC c = true) : 1 ≤ c ∧ c ≤ 12 := by simpa [rightC] using h
theorem begin_ok (c y a : Int) (hc : 1 ≤ c) (hc2 : c ≤ 12) (hy : 1900 ≤ y) (hy2 : y ≤ 2199) (ha : 0 ≤ a) (ha2 : a ≤ 11) :
    L.pl 54 [.agg [.i64 c], .i64 y, .i64 a] = some (.ret (if yM c y + a.toNat < 3600 then .tup [.i64 (fm (yM c y + a.toNat)), .bool true] else .tup [.i64 0, .bool false])) := by
  refine W_of (pl_w k54_eq ?_)
  simp only [k54]
  have w1 : IntKind.i64.wrap (c - 1) = c - 1 := wrap_i64 (by omega) (by omega)
  have w2 : IntKind.i64.wrap (c - 1 + a) = c - 1 + a := wrap_i64 (by omega) (by omega)
  have d1 : (c - 1 + a).tdiv 12 = (c - 1 + a) / 12 := Int.tdiv_eq_ediv_of_nonneg (by omega)
  have d2 : (c - 1 + a).tmod 12 = (c - 1 + a) % 12 := Int.tmod_eq_emod_of_nonneg (by omega)
  have w3 : IntKind.i64.wrap ((c - 1 + a) / 12) = (c - 1 + a) / 12 := wrap_i64 (by omega) (by omega)
  have w4 : IntKind.i64.wrap (y + (c - 1 + a) / 12) = y + (c - 1 + a) / 12 := wrap_i64 (by omega) (by omega)
  have w5 : IntKind.i64.wrap ((c - 1 + a) % 12 + 1) = (c - 1 + a) % 12 + 1 := wrap_i64 (by omega) (by omega)
  have hK : (yM c y : Int) = 12 * (y - 1900) + c - 1 := by unfold yM; omega
  by_cases h : yM c y + a.toNat < 3600
  · rw [if_pos h]
    have e1 : y + (c - 1 + a) / 12 = 1900 + (((yM c y + a.toNat) / 12 : Nat) : Int) := by omega
    have e2 : (c - 1 + a) % 12 + 1 = (((yM c y + a.toNat) % 12 + 1 : Nat) : Int) := by omega
    have hl := lenM_pos (1900 + (((yM c y + a.toNat) / 12 : Nat) : Int)) ((yM c y + a.toNat) % 12 + 1) (by omega) (by omega)
    have hof := of_yes ((yM c y + a.toNat) / 12) ((yM c y + a.toNat) % 12 + 1) (by omega) (by omega) (by omega) 1 (by omega) (by omega)
    have e3 : 12 * ((yM c y + a.toNat) / 12) + ((yM c y + a.toNat) % 12 + 1 - 1) = yM c y + a.toNat := by omega
    rw [e3, ← e1, ← e2, Int.add_sub_cancel] at hof
    repeat' (first | (simp -implicitDefEqProofs only [ze, zd, simprocAttr, w1, w2, d1, d2, w3, w4, w5, hof, ne_eq, not_true_eq_false]) | (with_reducible refine wgd_cases ?_ ?_ <;> intro hb) | (with_reducible refine wcond_cases ?_ ?_ <;> intro hb) | (with_reducible refine qd_i (by kernel_rfl) ?_) | (with_reducible refine W_itn_cases ?_ ?_; omega))
  · rw [if_neg h]
    have hof := of_late (y + (c - 1 + a) / 12) ((c - 1 + a) % 12 + 1) 1 (by omega)
    repeat' (first | (simp -implicitDefEqProofs only [ze, zd, simprocAttr, w1, w2, d1, d2, w3, w4, w5, hof, ne_eq, not_true_eq_false]) | (with_reducible refine wgd_cases ?_ ?_ <;> intro hb) | (with_reducible refine wcond_cases ?_ ?_ <;> intro hb) | (with_reducible refine qd_i (by kernel_rfl) ?_) | (with_reducible refine W_itn_cases ?_ ?_; omega))
theorem ends_ok (c y : Int) (hc : 1 ≤ c) (hc2 : c ≤ 12) : L.pl 53 [.agg [.i64 c], .i64 y] = some (.ret (if yrS c y = true then .tup [.i64 (fm (yM c y)), .i64 (lastS c y), .bool true] else .tup [.i64 0, .i64 0, .bool false])) := by
  refine W_of (pl_w k53_eq ?_)
  simp only [k53]
  by_cases hy : 1900 ≤ y ∧ y ≤ 2199
  · obtain ⟨hy, hy2⟩ := hy
    have g1 : decide (y < 1900) = false := decide_eq_false (by omega)
    have g2 : decide (2199 < y) = false := decide_eq_false (by omega)
    have b0 := begin_ok c y 0 hc hc2 hy hy2 (by omega) (by omega)
    have b1 := begin_ok c y 11 hc hc2 hy hy2 (by omega) (by omega)
    have hK : (yM c y : Int) = 12 * (y - 1900) + c - 1 := by unfold yM; omega
    rw [if_pos (show yM c y + (0 : Int).toNat < 3600 by omega)] at b0
    have e0 : yM c y + (0 : Int).toNat = yM c y := rfl
    have e11 : yM c y + (11 : Int).toNat = yM c y + 11 := rfl
    rw [e0] at b0
    rw [e11] at b1
    by_cases h : yM c y + 11 < 3600
    · rw [if_pos h] at b1
      have hyr : yrS c y = true := by simp only [yrS, Bool.and_eq_true, decide_eq_true_eq]; omega
      have hme := monthEnd_ok _ _ (isD_fm h)
      rw [if_pos hyr]
      repeat' (first | (simp -implicitDefEqProofs only [ze, zd, simprocAttr, g1, g2, b0, b1, hme]) | (with_reducible refine wgd_cases ?_ ?_ <;> intro hb) | (with_reducible refine wcond_cases ?_ ?_ <;> intro hb) | (with_reducible refine qd_i (by kernel_rfl) ?_) | (with_reducible refine W_itn_cases ?_ ?_; omega))
      rfl
    · rw [if_neg h] at b1
      have hyr : yrS c y = false := by simp only [yrS, Bool.and_eq_false_iff, decide_eq_false_iff_not]; omega
      rw [hyr, if_neg Bool.false_ne_true]
      repeat' (first | (simp -implicitDefEqProofs only [ze, zd, simprocAttr, g1, g2, b0, b1]) | (with_reducible refine wgd_cases ?_ ?_ <;> intro hb) | (with_reducible refine wcond_cases ?_ ?_ <;> intro hb) | (with_reducible refine qd_i (by kernel_rfl) ?_) | (with_reducible refine W_itn_cases ?_ ?_; omega))
  · have hyr : yrS c y = false := by simp only [yrS, Bool.and_eq_false_iff, decide_eq_false_iff_not]; omega
    rw [hyr, if_neg Bool.false_ne_true]
    repeat' (first | (simp -implicitDefEqProofs only [ze, zd, simprocAttr]) | (with_reducible refine wgd_cases ?_ ?_ <;> intro hb) | (with_reducible refine wcond_cases ?_ ?_ <;> intro hb) | (with_reducible refine qd_i (by kernel_rfl) ?_) | (with_reducible refine W_itn_cases ?_ ?_; omega))
    all_goals (simp only [decide_eq_true_eq, decide_eq_false_iff_not] at *; exfalso; omega)
theorem exists_ok (c y n : Int) (hc : 1 ≤ c) (hc2 : c ≤ 12) : L.pl 52 [.agg [.i64 c], .agg [.i64 y, .i64 n]] = some (.ret (.bool (exS c y n))) := by
  refine W_of (pl_w k52_eq ?_)
  simp only [k52]
  have he := ends_ok c y hc hc2
  cases hy : yrS c y with
  | true =>
    rw [hy, if_pos rfl] at he
    repeat' (first | (simp -implicitDefEqProofs only [ze, zd, simprocAttr, he]) | (with_reducible refine wgd_cases ?_ ?_ <;> intro hb) | (with_reducible refine wcond_cases ?_ ?_ <;> intro hb) | (with_reducible refine qd_i (by kernel_rfl) ?_) | (with_reducible refine W_itn_cases ?_ ?_; omega))
    all_goals (refine ret_b ?_; simp_all [exS]; try (intros; omega))
  | false =>
    rw [hy, if_neg Bool.false_ne_true] at he
    repeat' (first | (simp -implicitDefEqProofs only [ze, zd, simprocAttr, he]) | (with_reducible refine wgd_cases ?_ ?_ <;> intro hb) | (with_reducible refine wcond_cases ?_ ?_ <;> intro hb) | (with_reducible refine qd_i (by kernel_rfl) ?_) | (with_reducible refine W_itn_cases ?_ ?_; omega))
    all_goals (refine ret_b ?_; simp_all [exS])
theorem yrS_b {c y : Int} (h : yrS c y = true) : 1900 ≤ y ∧ y ≤ 2199 ∧ 12 * (y - 1900) + c - 1 + 12 ≤ 3600 := by
  simp only [yrS, Bool.and_eq_true, decide_eq_true_eq] at h; exact ⟨h.1.1, h.1.2, h.2⟩
theorem exS_b {c y n : Int} (h : exS c y n = true) : yrS c y = true ∧ 1 ≤ n ∧ n ≤ 13 := by
  simp only [exS, Bool.and_eq_true, decide_eq_true_eq] at h; exact ⟨h.1.1, h.1.2, h.2⟩
theorem span_ok (c y n : Int) : L.pl 29 [.agg [.i64 c], .agg [.i64 y, .i64 n]] = some (.ret (.tup [.i64 (spanS c y n).1, .i64 (spanS c y n).2.1, .i64 (spanS c y n).2.2])) := by
  refine W_of (pl_w k29_eq ?_)
  simp only [k29]
  cases hr : rightC c with
  | false =>
    have e : spanS c y n = (0, 0, 2) := by simp [spanS, hr]
    rw [e]
    repeat' (first | (simp -implicitDefEqProofs only [ze, zd, simprocAttr, right_ok, hr]) | (with_reducible refine wgd_cases ?_ ?_ <;> intro hb) | (with_reducible refine wcond_cases ?_ ?_ <;> intro hb) | (with_reducible refine qd_i (by kernel_rfl) ?_) | (with_reducible refine W_itn_cases ?_ ?_; omega))
  | true =>
    obtain ⟨hc, hc2⟩ := rightC_b hr
    have hex := exists_ok c y n hc hc2
    cases hx : exS c y n with
    | false =>
      have e : spanS c y n = (0, 0, 16) := by simp [spanS, hr, hx]
      rw [e]
      rw [hx] at hex
      repeat' (first | (simp -implicitDefEqProofs only [ze, zd, simprocAttr, right_ok, hr, hex]) | (with_reducible refine wgd_cases ?_ ?_ <;> intro hb) | (with_reducible refine wcond_cases ?_ ?_ <;> intro hb) | (with_reducible refine qd_i (by kernel_rfl) ?_) | (with_reducible refine W_itn_cases ?_ ?_; omega))
    | true =>
      rw [hx] at hex
      obtain ⟨hy, hn, hn2⟩ := exS_b hx
      obtain ⟨y1, y2, y3⟩ := yrS_b hy
      have hen := ends_ok c y hc hc2
      rw [if_pos hy] at hen
      by_cases h13 : n = 13
      · subst h13
        have e : spanS c y 13 = (lastS c y, lastS c y, 0) := by simp [spanS, hr, hx]
        rw [e]
        repeat' (first | (simp -implicitDefEqProofs only [ze, zd, simprocAttr, right_ok, hr, hex, hen]) | (with_reducible refine wgd_cases ?_ ?_ <;> intro hb) | (with_reducible refine wcond_cases ?_ ?_ <;> intro hb) | (with_reducible refine qd_i (by kernel_rfl) ?_) | (with_reducible refine W_itn_cases ?_ ?_; omega))
      · have e : spanS c y n = (fm (yM c y + (n - 1).toNat), fm (yM c y + (n - 1).toNat + 1) - 1, 0) := by simp [spanS, hr, hx, h13]
        rw [e]
        have g1 : decide (n = 13) = false := decide_eq_false h13
        have w1 : IntKind.i64.wrap (n - 1) = n - 1 := wrap_i64 (by omega) (by omega)
        have hK : (yM c y : Int) = 12 * (y - 1900) + c - 1 := by unfold yM; omega
        have hlt : yM c y + (n - 1).toNat < 3600 := by omega
        have hb := begin_ok c y (n - 1) hc hc2 y1 y2 (by omega) (by omega)
        rw [if_pos hlt] at hb
        have hme := monthEnd_ok _ _ (isD_fm hlt)
        repeat' (first | (simp -implicitDefEqProofs only [ze, zd, simprocAttr, right_ok, hr, hex, g1, w1, hb, hme]) | (with_reducible refine wgd_cases ?_ ?_ <;> intro hb) | (with_reducible refine wcond_cases ?_ ?_ <;> intro hb) | (with_reducible refine qd_i (by kernel_rfl) ?_) | (with_reducible refine W_itn_cases ?_ ?_; omega))
end Go.Proofs.YthgmhlpjbednpaaDoor.Vm
set_option maxRecDepth 10000
set_option linter.unusedVariables false
set_option linter.unusedSimpArgs false
namespace Go.Proofs.YthgmhlpjbednpaaDoor.Vm
open Go Go.Proofs
theorem rleap_ok (y : Int) (h : 1900 ≤ y) : L.pl 105 [.i64 y] = some (.ret (.bool (leapZ y))) := by
  refine W_of (pl_w k105_eq ?_)
  simp only [k105]
  have h4 : y.tmod 4 = y % 4 := Int.tmod_eq_emod_of_nonneg (by omega)
  have h100 : y.tmod 100 = y % 100 := Int.tmod_eq_emod_of_nonneg (by omega)
  have h400 : y.tmod 400 = y % 400 := Int.tmod_eq_emod_of_nonneg (by omega)
  repeat' (first | (simp -implicitDefEqProofs only [ze, zd, simprocAttr, h4, h100, h400]) | (with_reducible refine wgd_cases ?_ ?_ <;> intro hb) | (with_reducible refine wcond_cases ?_ ?_ <;> intro hb) | (with_reducible refine qd_i (by kernel_rfl) ?_) | (with_reducible refine W_itn_cases ?_ ?_; omega))
  all_goals (refine ret_b ?_; simp_all [leapZ])
theorem rlength_i (y : Int) (h : 1900 ≤ y) (m : Int) (hm : 1 ≤ m) (hm2 : m ≤ 12) : L.pl 90 [.i64 y, .i64 m] = some (.ret (.i64 (lenM y m.toNat))) := by
  refine W_of (pl_w k90_eq ?_)
  simp only [k90]
  have hl := rleap_ok y h
  have w0 : IntKind.i64.wrap 0 = 0 := rfl
  have w1 : IntKind.i64.wrap 1 = 1 := rfl
  have w2 : IntKind.i64.wrap 2 = 2 := rfl
  have w3 : IntKind.i64.wrap 3 = 3 := rfl
  have w4 : IntKind.i64.wrap 4 = 4 := rfl
  have w5 : IntKind.i64.wrap 5 = 5 := rfl
  have w6 : IntKind.i64.wrap 6 = 6 := rfl
  have w7 : IntKind.i64.wrap 7 = 7 := rfl
  have w8 : IntKind.i64.wrap 8 = 8 := rfl
  have w9 : IntKind.i64.wrap 9 = 9 := rfl
  have w10 : IntKind.i64.wrap 10 = 10 := rfl
  have w11 : IntKind.i64.wrap 11 = 11 := rfl
  have c12 : m = 1 ∨ m = 2 ∨ m = 3 ∨ m = 4 ∨ m = 5 ∨ m = 6 ∨ m = 7 ∨ m = 8 ∨ m = 9 ∨ m = 10 ∨ m = 11 ∨ m = 12 := by omega
  rcases c12 with rfl | rfl | rfl | rfl | rfl | rfl | rfl | rfl | rfl | rfl | rfl | rfl
  · repeat' (first | (simp -implicitDefEqProofs only [ze, zd, simprocAttr, w0, w1, w2, w3, w4, w5, w6, w7, w8, w9, w10, w11]) | (with_reducible refine wgd_cases ?_ ?_ <;> intro hb) | (with_reducible refine wcond_cases ?_ ?_ <;> intro hb) | (with_reducible refine qd_i (by kernel_rfl) ?_) | (with_reducible refine W_itn_cases ?_ ?_; omega))
    rfl
  · cases hz : leapZ y with
    | true =>
      rw [hz] at hl
      repeat' (first | (simp -implicitDefEqProofs only [ze, zd, simprocAttr, hl]) | (with_reducible refine wgd_cases ?_ ?_ <;> intro hb) | (with_reducible refine wcond_cases ?_ ?_ <;> intro hb) | (with_reducible refine qd_i (by kernel_rfl) ?_) | (with_reducible refine W_itn_cases ?_ ?_; omega))
      refine ret_i ?_; simp [lenM, lp, hz]
    | false =>
      rw [hz] at hl
      repeat' (first | (simp -implicitDefEqProofs only [ze, zd, simprocAttr, hl, w0, w1, w2, w3, w4, w5, w6, w7, w8, w9, w10, w11]) | (with_reducible refine wgd_cases ?_ ?_ <;> intro hb) | (with_reducible refine wcond_cases ?_ ?_ <;> intro hb) | (with_reducible refine qd_i (by kernel_rfl) ?_) | (with_reducible refine W_itn_cases ?_ ?_; omega))
      refine ret_i ?_; simp [lenM, lp, hz]
  all_goals (repeat' (first | (simp -implicitDefEqProofs only [ze, zd, simprocAttr, w0, w1, w2, w3, w4, w5, w6, w7, w8, w9, w10, w11]) | (with_reducible refine wgd_cases ?_ ?_ <;> intro hb) | (with_reducible refine wcond_cases ?_ ?_ <;> intro hb) | (with_reducible refine qd_i (by kernel_rfl) ?_) | (with_reducible refine W_itn_cases ?_ ?_; omega)))
  all_goals rfl
theorem rlen_at (M : Nat) (hM : M < 3600) : L.pl 90 [.i64 (1900 + ((M / 12 : Nat) : Int)), .i64 (((M % 12 : Nat) : Int) + 1)] = some (.ret (.i64 (fm (M + 1) - fm M))) := by
  rw [rlength_i _ (by omega) _ (by omega) (by omega)]
  have e : (((M % 12 : Nat) : Int) + 1).toNat = M % 12 + 1 := by omega
  rw [e]
  refine congrArg some (ret_i ?_)
  simp only [fm]; omega
theorem rfirst_ok (K : Nat) (hK : K ≤ 3600) : L.pl 104 [.i64 K] = some (.ret (.i64 (fm K))) := by
  refine W_of (pl_w k104_eq ?_)
  simp only [k104]
  repeat' (first | (simp -implicitDefEqProofs only [ze, zd, simprocAttr]) | (with_reducible refine wgd_cases ?_ ?_ <;> intro hb) | (with_reducible refine wcond_cases ?_ ?_ <;> intro hb) | (with_reducible refine qd_i (by kernel_rfl) ?_) | (with_reducible refine W_itn_cases ?_ ?_; omega))
  refine loop_w (fun n tm st nx => ∃ j : Nat, n = K - j ∧ j ≤ K ∧ tm 4 = .i64 j ∧ tm 0 = .i64 K ∧ tm 3 = .i64 (fm j)) _ ⟨0, rfl, by omega, ?_, ?_, ?_⟩ ?_
  · simp -implicitDefEqProofs only [ze, zd, simprocAttr]; try rfl
  · simp -implicitDefEqProofs only [ze, zd, simprocAttr]
  · simp -implicitDefEqProofs only [ze, zd, simprocAttr]; try rfl
  rintro n tm st nx ⟨j, hn, hj, h4, h0, h3⟩
  simp only [k104_l0]
  by_cases hc : j < K
  · have hd : decide ((j : Int) < (K : Int)) = true := decide_eq_true (by omega)
    have d1 : (j : Int).tdiv 12 = ((j / 12 : Nat) : Int) := by rw [Int.tdiv_eq_ediv_of_nonneg (by omega)]; omega
    have d2 : (j : Int).tmod 12 = ((j % 12 : Nat) : Int) := by rw [Int.tmod_eq_emod_of_nonneg (by omega)]; omega
    have w1 : IntKind.i64.wrap ((j / 12 : Nat) : Int) = ((j / 12 : Nat) : Int) := wrap_i64 (by omega) (by omega)
    have w2 : IntKind.i64.wrap (1900 + ((j / 12 : Nat) : Int)) = 1900 + ((j / 12 : Nat) : Int) := wrap_i64 (by omega) (by omega)
    have w3 : IntKind.i64.wrap (((j % 12 : Nat) : Int) + 1) = ((j % 12 : Nat) : Int) + 1 := wrap_i64 (by omega) (by omega)
    have hf := fm_add 0 j
    have hf1 := fm_lt j
    have hf0 : fm 0 = 0 := rfl
    rw [Nat.zero_add, hf0] at hf
    have w4 : IntKind.i64.wrap (fm j + (fm (j + 1) - fm j)) = fm (j + 1) := by rw [wrap_i64 (by omega) (by omega)]; omega
    have hl := rlen_at j (by omega)
    repeat' (first | (simp -implicitDefEqProofs only [ze, zd, simprocAttr, h4, h0, h3, hd, d1, d2, w1, w2, w3, hl, w4]) | (with_reducible refine wgd_cases ?_ ?_ <;> intro hb) | (with_reducible refine wcond_cases ?_ ?_ <;> intro hb) | (with_reducible refine qd_i (by kernel_rfl) ?_) | (with_reducible refine W_itn_cases ?_ ?_; omega))
    exact ⟨K - (j + 1), by omega, j + 1, rfl, by omega, up64 (by omega), rfl⟩
  · have hd : decide ((j : Int) < (K : Int)) = false := decide_eq_false (by omega)
    have : j = K := by omega
    subst this
    repeat' (first | (simp -implicitDefEqProofs only [ze, zd, simprocAttr, h4, h0, h3, hd, k104_t0]) | (with_reducible refine wgd_cases ?_ ?_ <;> intro hb) | (with_reducible refine wcond_cases ?_ ?_ <;> intro hb) | (with_reducible refine qd_i (by kernel_rfl) ?_) | (with_reducible refine W_itn_cases ?_ ?_; omega))
theorem rof_late (y m d : Int) (hy : 2199 < y) : L.pl 89 [.agg [.i64 y, .i64 m, .i64 d]] = some (.ret (.tup [.i64 0, .i64 11])) := by
  refine W_of (pl_w k89_eq ?_)
  simp only [k89]
  have h1 : decide (y < 1900) = false := decide_eq_false (by omega)
  have h2 : decide (2199 < y) = true := decide_eq_true hy
  repeat' (first | (simp -implicitDefEqProofs only [ze, zd, simprocAttr, h1, h2]) | (with_reducible refine wgd_cases ?_ ?_ <;> intro hb) | (with_reducible refine wcond_cases ?_ ?_ <;> intro hb) | (with_reducible refine qd_i (by kernel_rfl) ?_) | (with_reducible refine W_itn_cases ?_ ?_; omega))
theorem rof_yes (k : Nat) (m d : Int) (hk : k < 300) (hm : 1 ≤ m) (hm2 : m ≤ 12) (hd : 1 ≤ d) (hd2 : d ≤ lenM (1900 + (k : Int)) m.toNat) : L.pl 89 [.agg [.i64 (1900 + (k : Int)), .i64 m, .i64 d]] = some (.ret (.tup [.i64 (fm (12 * k + (m - 1).toNat) + d - 1), .i64 0])) := by
  refine W_of (pl_w k89_eq ?_)
  simp only [k89]
  have g1 : decide (1900 + (k : Int) < 1900) = false := decide_eq_false (by omega)
  have g2 : decide (2199 < 1900 + (k : Int)) = false := decide_eq_false (by omega)
  have g3 : decide (d < 1) = false := decide_eq_false (by omega)
  have g4 : decide (lenM (1900 + (k : Int)) m.toNat < d) = false := decide_eq_false (by omega)
  have hlen := rlength_i (1900 + (k : Int)) (by omega) m hm hm2
  have hb31 := lenM_pos (1900 + (k : Int)) m.toNat (by omega) (by omega)
  have hf := fm_add 0 (12 * k + (m - 1).toNat)
  have hf0 : fm 0 = 0 := rfl
  rw [Nat.zero_add, hf0] at hf
  have w1 : IntKind.i64.wrap (1900 + (k : Int) - 1900) = k := by rw [wrap_i64 (by omega) (by omega)]; omega
  have w2 : IntKind.i64.wrap ((k : Int) * 12) = 12 * k := by rw [wrap_i64 (by omega) (by omega)]; omega
  have w3 : IntKind.i64.wrap (12 * (k : Int) + m) = 12 * k + m := wrap_i64 (by omega) (by omega)
  have w4 : IntKind.i64.wrap (12 * (k : Int) + m - 1) = ((12 * k + (m - 1).toNat : Nat) : Int) := by rw [wrap_i64 (by omega) (by omega)]; omega
  have w5 : IntKind.i64.wrap (fm (12 * k + (m - 1).toNat) + d) = fm (12 * k + (m - 1).toNat) + d := wrap_i64 (by omega) (by omega)
  have w6 : IntKind.i64.wrap (fm (12 * k + (m - 1).toNat) + d - 1) = fm (12 * k + (m - 1).toNat) + d - 1 := wrap_i64 (by omega) (by omega)
  have hfi := rfirst_ok (12 * k + (m - 1).toNat) (by omega)
  repeat' (first | (simp -implicitDefEqProofs only [ze, zd, simprocAttr, g1, g2, g3, g4, hlen, w1, w2, w3, w4, w5, w6, hfi]) | (with_reducible refine wgd_cases ?_ ?_ <;> intro hb) | (with_reducible refine wcond_cases ?_ ?_ <;> intro hb) | (with_reducible refine qd_i (by kernel_rfl) ?_) | (with_reducible refine W_itn_cases ?_ ?_; omega))
theorem rright_ok (c : Int) : L.pl 32 [.agg [.i64 c]] = some (.ret (.bool (rightC c))) := by
  refine W_of (pl_w k32_eq ?_)
  simp only [k32]
  repeat' (first | (simp -implicitDefEqProofs only [ze, zd, simprocAttr]) | (with_reducible refine wgd_cases ?_ ?_ <;> intro hb) | (with_reducible refine wcond_cases ?_ ?_ <;> intro hb) | (with_reducible refine qd_i (by kernel_rfl) ?_) | (with_reducible refine W_itn_cases ?_ ?_; omega))
  all_goals (refine ret_b (Bool.eq_iff_iff.mpr ?_); simp_all [rightC]; try omega)
theorem rmonth_ok (c y a : Int) (hc : 1 ≤ c) (hc2 : c ≤ 12) (ha : 0 ≤ a) (ha2 : a ≤ 11) :
    L.pl 63 [.agg [.i64 c], .i64 y, .i64 a] = some (.ret (if 1900 ≤ y ∧ y ≤ 2199 ∧ yM c y + a.toNat < 3600 then .tup [.i64 (fm (yM c y + a.toNat)), .i64 (fm (yM c y + a.toNat + 1) - 1), .bool true] else .tup [.i64 0, .i64 0, .bool false])) := by
  refine W_of (pl_w k63_eq ?_)
  simp only [k63]
  by_cases hy : 1900 ≤ y ∧ y ≤ 2199
  · obtain ⟨hy, hy2⟩ := hy
    have g1 : decide (y < 1900) = false := decide_eq_false (by omega)
    have g2 : decide (2199 < y) = false := decide_eq_false (by omega)
    have w1 : IntKind.i64.wrap (c - 1) = c - 1 := wrap_i64 (by omega) (by omega)
    have w2 : IntKind.i64.wrap (c - 1 + a) = c - 1 + a := wrap_i64 (by omega) (by omega)
    have hK : (yM c y : Int) = 12 * (y - 1900) + c - 1 := by unfold yM; omega
    -- the month's year and number
    have main : ∀ (Y m : Int), 12 * (Y - 1900) + m = (yM c y + a.toNat : Nat) → 0 ≤ m → m ≤ 11 → 1900 ≤ Y →
        (yM c y + a.toNat < 3600 → L.pl 89 [.agg [.i64 Y, .i64 (m + 1), .i64 1]] = some (.ret (.tup [.i64 (fm (yM c y + a.toNat)), .i64 0])) ∧ L.pl 89 [.agg [.i64 Y, .i64 (m + 1), .i64 (lenM Y (m + 1).toNat)]] = some (.ret (.tup [.i64 (fm (yM c y + a.toNat + 1) - 1), .i64 0]))) ∧
        (¬ yM c y + a.toNat < 3600 → ∀ d, L.pl 89 [.agg [.i64 Y, .i64 (m + 1), .i64 d]] = some (.ret (.tup [.i64 0, .i64 11]))) := by
      intro Y m he hm hm2 hY
      refine ⟨fun hlt => ?_, fun hlt d => rof_late _ _ _ (by omega)⟩
      have hYe : Y = 1900 + (((Y - 1900).toNat : Nat) : Int) := by omega
      have hl := lenM_pos Y (m + 1).toNat (by omega) (by omega)
      have ek : 12 * (Y - 1900).toNat + (m + 1 - 1).toNat = yM c y + a.toNat := by omega
      have h1 := rof_yes (Y - 1900).toNat (m + 1) 1 (by omega) (by omega) (by omega) (by omega) (by rw [← hYe]; omega)
      have h2 := rof_yes (Y - 1900).toNat (m + 1) (lenM Y (m + 1).toNat) (by omega) (by omega) (by omega) (by omega) (by rw [← hYe]; exact Int.le_refl _)
      rw [← hYe, ek] at h1 h2
      have hfm := fm_at (Y - 1900).toNat m.toNat (by omega)
      have e1 : 12 * (Y - 1900).toNat + (m.toNat + 1) = yM c y + a.toNat + 1 := by omega
      have e2 : 12 * (Y - 1900).toNat + m.toNat = yM c y + a.toNat := by omega
      have e3 : m.toNat + 1 = (m + 1).toNat := by omega
      rw [e1, e2, ← hYe, e3] at hfm
      rw [Int.add_sub_cancel] at h1
      refine ⟨h1, ?_⟩
      rw [hfm, h2]
    by_cases hm : 12 ≤ c - 1 + a
    · have g3 : decide (12 ≤ c - 1 + a) = true := decide_eq_true hm
      have w3 : IntKind.i64.wrap (c - 1 + a - 12) = c - 1 + a - 12 := wrap_i64 (by omega) (by omega)
      have w4 : IntKind.i64.wrap (y + 1) = y + 1 := wrap_i64 (by omega) (by omega)
      have w5 : IntKind.i64.wrap (c - 1 + a - 12 + 1) = c - 1 + a - 12 + 1 := wrap_i64 (by omega) (by omega)
      obtain ⟨m1, m2⟩ := main (y + 1) (c - 1 + a - 12) (by omega) (by omega) (by omega) (by omega)
      have hl := rlength_i (y + 1) (by omega) (c - 1 + a - 12 + 1) (by omega) (by omega)
      by_cases hlt : yM c y + a.toNat < 3600
      · rw [if_pos ⟨hy, hy2, hlt⟩]
        obtain ⟨m3, m4⟩ := m1 hlt
        repeat' (first | (simp -implicitDefEqProofs only [ze, zd, simprocAttr, g1, g2, g3, w1, w2, w3, w4, w5, hl, m3, m4, ne_eq, not_true_eq_false]) | (with_reducible refine wgd_cases ?_ ?_ <;> intro hb) | (with_reducible refine wcond_cases ?_ ?_ <;> intro hb) | (with_reducible refine qd_i (by kernel_rfl) ?_) | (with_reducible refine W_itn_cases ?_ ?_; omega))
      · rw [if_neg (fun h => hlt h.2.2)]
        have m5 := m2 hlt
        repeat' (first | (simp -implicitDefEqProofs only [ze, zd, simprocAttr, g1, g2, g3, w1, w2, w3, w4, w5, hl, m5, ne_eq, not_true_eq_false]) | (with_reducible refine wgd_cases ?_ ?_ <;> intro hb) | (with_reducible refine wcond_cases ?_ ?_ <;> intro hb) | (with_reducible refine qd_i (by kernel_rfl) ?_) | (with_reducible refine W_itn_cases ?_ ?_; omega))
    · have g3 : decide (12 ≤ c - 1 + a) = false := decide_eq_false hm
      have w5 : IntKind.i64.wrap (c - 1 + a + 1) = c - 1 + a + 1 := wrap_i64 (by omega) (by omega)
      obtain ⟨m1, m2⟩ := main y (c - 1 + a) (by omega) (by omega) (by omega) (by omega)
      have hl := rlength_i y (by omega) (c - 1 + a + 1) (by omega) (by omega)
      have hlt : yM c y + a.toNat < 3600 := by omega
      rw [if_pos ⟨hy, hy2, hlt⟩]
      obtain ⟨m3, m4⟩ := m1 hlt
      repeat' (first | (simp -implicitDefEqProofs only [ze, zd, simprocAttr, g1, g2, g3, w1, w2, w5, hl, m3, m4, ne_eq, not_true_eq_false]) | (with_reducible refine wgd_cases ?_ ?_ <;> intro hb) | (with_reducible refine wcond_cases ?_ ?_ <;> intro hb) | (with_reducible refine qd_i (by kernel_rfl) ?_) | (with_reducible refine W_itn_cases ?_ ?_; omega))
  · rw [if_neg (fun h => hy ⟨h.1, h.2.1⟩)]
    repeat' (first | (simp -implicitDefEqProofs only [ze, zd, simprocAttr]) | (with_reducible refine wgd_cases ?_ ?_ <;> intro hb) | (with_reducible refine wcond_cases ?_ ?_ <;> intro hb) | (with_reducible refine qd_i (by kernel_rfl) ?_) | (with_reducible refine W_itn_cases ?_ ?_; omega))
    all_goals (simp only [decide_eq_true_eq, decide_eq_false_iff_not] at *; exfalso; omega)
end Go.Proofs.YthgmhlpjbednpaaDoor.Vm
set_option maxRecDepth 10000
set_option linter.unusedVariables false
set_option linter.unusedSimpArgs false
namespace Go.Proofs.YthgmhlpjbednpaaDoor.Vm
open Go Go.Proofs
theorem yM_eq {c y : Int} (hc : 1 ≤ c) (hy : 1900 ≤ y) : (yM c y : Int) = 12 * (y - 1900) + c - 1 := by unfold yM; omega
theorem ryear_ok (c y : Int) (hc : 1 ≤ c) (hc2 : c ≤ 12) : L.pl 88 [.agg [.i64 c], .i64 y] = some (.ret (.bool (yrS c y))) := by
  refine W_of (pl_w k88_eq ?_)
  simp only [k88]
  have m0 := rmonth_ok c y 0 hc hc2 (by omega) (by omega)
  have m11 := rmonth_ok c y 11 hc hc2 (by omega) (by omega)
  have e0 : yM c y + (0 : Int).toNat = yM c y := rfl
  have e11 : yM c y + (11 : Int).toNat = yM c y + 11 := rfl
  rw [e0] at m0
  rw [e11] at m11
  by_cases h : 1900 ≤ y ∧ y ≤ 2199
  · have hK := yM_eq hc h.1
    rw [if_pos ⟨h.1, h.2, by omega⟩] at m0
    by_cases h2 : yM c y + 11 < 3600
    · rw [if_pos ⟨h.1, h.2, h2⟩] at m11
      have hyr : yrS c y = true := by simp only [yrS, Bool.and_eq_true, decide_eq_true_eq]; omega
      rw [hyr]
      repeat' (first | (simp -implicitDefEqProofs only [ze, zd, simprocAttr, m0, m11]) | (with_reducible refine wgd_cases ?_ ?_ <;> intro hb) | (with_reducible refine wcond_cases ?_ ?_ <;> intro hb) | (with_reducible refine qd_i (by kernel_rfl) ?_) | (with_reducible refine W_itn_cases ?_ ?_; omega))
    · rw [if_neg (fun q => h2 q.2.2)] at m11
      have hyr : yrS c y = false := by simp only [yrS, Bool.and_eq_false_iff, decide_eq_false_iff_not]; omega
      rw [hyr]
      repeat' (first | (simp -implicitDefEqProofs only [ze, zd, simprocAttr, m0, m11]) | (with_reducible refine wgd_cases ?_ ?_ <;> intro hb) | (with_reducible refine wcond_cases ?_ ?_ <;> intro hb) | (with_reducible refine qd_i (by kernel_rfl) ?_) | (with_reducible refine W_itn_cases ?_ ?_; omega))
  · have hyr : yrS c y = false := by simp only [yrS, Bool.and_eq_false_iff, decide_eq_false_iff_not]; omega
    rw [if_neg (fun q => h ⟨q.1, q.2.1⟩)] at m0 m11
    rw [hyr]
    repeat' (first | (simp -implicitDefEqProofs only [ze, zd, simprocAttr, m0, m11]) | (with_reducible refine wgd_cases ?_ ?_ <;> intro hb) | (with_reducible refine wcond_cases ?_ ?_ <;> intro hb) | (with_reducible refine qd_i (by kernel_rfl) ?_) | (with_reducible refine W_itn_cases ?_ ?_; omega))
theorem rexists_ok (c y n : Int) (hc : 1 ≤ c) (hc2 : c ≤ 12) : L.pl 62 [.agg [.i64 c], .agg [.i64 y, .i64 n]] = some (.ret (.bool (exS c y n))) := by
  refine W_of (pl_w k62_eq ?_)
  simp only [k62]
  have hy := ryear_ok c y hc hc2
  repeat' (first | (simp -implicitDefEqProofs only [ze, zd, simprocAttr, hy]) | (with_reducible refine wgd_cases ?_ ?_ <;> intro hb) | (with_reducible refine wcond_cases ?_ ?_ <;> intro hb) | (with_reducible refine qd_i (by kernel_rfl) ?_) | (with_reducible refine W_itn_cases ?_ ?_; omega))
  all_goals (refine ret_b (Bool.eq_iff_iff.mpr ?_); simp_all [exS]; try (intros; omega))
theorem rspan_ok (c y n : Int) : L.pl 33 [.agg [.i64 c], .agg [.i64 y, .i64 n]] = some (.ret (.tup [.i64 (spanS c y n).1, .i64 (spanS c y n).2.1, .i64 (spanS c y n).2.2])) := by
  refine W_of (pl_w k33_eq ?_)
  simp only [k33]
  cases hr : rightC c with
  | false =>
    have e : spanS c y n = (0, 0, 2) := by simp [spanS, hr]
    rw [e]
    repeat' (first | (simp -implicitDefEqProofs only [ze, zd, simprocAttr, rright_ok, hr]) | (with_reducible refine wgd_cases ?_ ?_ <;> intro hb) | (with_reducible refine wcond_cases ?_ ?_ <;> intro hb) | (with_reducible refine qd_i (by kernel_rfl) ?_) | (with_reducible refine W_itn_cases ?_ ?_; omega))
  | true =>
    obtain ⟨hc, hc2⟩ := rightC_b hr
    have hex := rexists_ok c y n hc hc2
    cases hx : exS c y n with
    | false =>
      have e : spanS c y n = (0, 0, 16) := by simp [spanS, hr, hx]
      rw [e]
      rw [hx] at hex
      repeat' (first | (simp -implicitDefEqProofs only [ze, zd, simprocAttr, rright_ok, hr, hex]) | (with_reducible refine wgd_cases ?_ ?_ <;> intro hb) | (with_reducible refine wcond_cases ?_ ?_ <;> intro hb) | (with_reducible refine qd_i (by kernel_rfl) ?_) | (with_reducible refine W_itn_cases ?_ ?_; omega))
    | true =>
      rw [hx] at hex
      obtain ⟨hy, hn, hn2⟩ := exS_b hx
      obtain ⟨y1, y2, y3⟩ := yrS_b hy
      have hK := yM_eq hc y1
      by_cases h13 : n = 13
      · subst h13
        have e : spanS c y 13 = (lastS c y, lastS c y, 0) := by simp [spanS, hr, hx]
        rw [e]
        have hm := rmonth_ok c y 11 hc hc2 (by omega) (by omega)
        have e11 : yM c y + (11 : Int).toNat = yM c y + 11 := rfl
        rw [e11, if_pos ⟨y1, y2, by omega⟩] at hm
        repeat' (first | (simp -implicitDefEqProofs only [ze, zd, simprocAttr, rright_ok, hr, hex, hm]) | (with_reducible refine wgd_cases ?_ ?_ <;> intro hb) | (with_reducible refine wcond_cases ?_ ?_ <;> intro hb) | (with_reducible refine qd_i (by kernel_rfl) ?_) | (with_reducible refine W_itn_cases ?_ ?_; omega))
        rfl
      · have e : spanS c y n = (fm (yM c y + (n - 1).toNat), fm (yM c y + (n - 1).toNat + 1) - 1, 0) := by simp [spanS, hr, hx, h13]
        rw [e]
        have g1 : decide (n = 13) = false := decide_eq_false h13
        have w1 : IntKind.i64.wrap (n - 1) = n - 1 := wrap_i64 (by omega) (by omega)
        have hm := rmonth_ok c y (n - 1) hc hc2 (by omega) (by omega)
        rw [if_pos ⟨y1, y2, by omega⟩] at hm
        repeat' (first | (simp -implicitDefEqProofs only [ze, zd, simprocAttr, rright_ok, hr, hex, g1, w1, hm]) | (with_reducible refine wgd_cases ?_ ?_ <;> intro hb) | (with_reducible refine wcond_cases ?_ ?_ <;> intro hb) | (with_reducible refine qd_i (by kernel_rfl) ?_) | (with_reducible refine W_itn_cases ?_ ?_; omega))
end Go.Proofs.YthgmhlpjbednpaaDoor.Vm
set_option linter.unusedVariables false
set_option linter.unusedSimpArgs false
namespace Go.Proofs.YthgmhlpjbednpaaDoor.Vm
open Go Go.Proofs
section
variable {α : Type}
def kmap (f : α → V) (l : List (ByteArray × α)) : List (V × V) := l.map fun p => (V.str p.1, f p.2)
def aidx : List (ByteArray × α) → ByteArray → Option (Nat × α)
  | [], _ => none
  | p :: l, k => if k = p.1 then some (0, p.2) else (aidx l k).map fun q => (q.1 + 1, q.2)
def aget (l : List (ByteArray × α)) (k : ByteArray) : Option α := (aidx l k).map (·.2)
def aset (l : List (ByteArray × α)) (k : ByteArray) (v : α) : List (ByteArray × α) := match aidx l k with
  | some (i, _) => l.set i (k, v)
  | none => l ++ [(k, v)]
def adel (l : List (ByteArray × α)) (k : ByteArray) : List (ByteArray × α) := match aidx l k with
  | some (i, _) => l.eraseIdx i
  | none => l
theorem mfind_kmap (f : α → V) (k : ByteArray) : ∀ (l : List (ByteArray × α)) (j : Nat), mfind (.string k) (kmap f l) j = some ((aidx l k).map fun q => (j + q.1, f q.2))
  | [], j => rfl
  | p :: l, j => by
    have e : kmap f (p :: l) = (V.sc (.string p.1), f p.2) :: kmap f l := rfl
    rw [e, mfind]
    by_cases h : k = p.1
    · have hk : keyEq (.string k) (.string p.1) = some true := by simp only [keyEq]; rw [ba_beq, decide_eq_true h]
      rw [hk]; simp [aidx, h]
    · have hk : keyEq (.string k) (.string p.1) = some false := by simp only [keyEq]; rw [ba_beq, decide_eq_false h]
      rw [hk]
      simp only [aidx, if_neg h]
      rw [mfind_kmap f k l (j + 1)]
      cases aidx l k with
      | none => rfl
      | some q => simp only [Option.map_some, Option.some.injEq, Prod.mk.injEq, and_true]; omega
theorem aidx_some {l : List (ByteArray × α)} {k : ByteArray} {i : Nat} {v : α} (h : aidx l k = some (i, v)) : l[i]? = some (k, v) := by
  induction l generalizing i with
  | nil => simp [aidx] at h
  | cons p l ih =>
    simp only [aidx] at h
    split at h
    · rename_i hk; simp only [Option.some.injEq, Prod.mk.injEq] at h; obtain ⟨rfl, rfl⟩ := h; subst hk; rfl
    · simp only [Option.map_eq_some_iff, Prod.mk.injEq] at h
      obtain ⟨⟨i', v'⟩, h1, rfl, rfl⟩ := h
      exact ih h1
theorem aidx_none {l : List (ByteArray × α)} {k : ByteArray} : aidx l k = none ↔ k ∉ l.map (·.1) := by
  induction l with
  | nil => simp [aidx]
  | cons p l ih =>
    simp only [aidx]
    split
    · rename_i hk; simp [hk]
    · rename_i hk
      rw [Option.map_eq_none_iff, ih]
      simp [hk]
theorem kmap_app (f : α → V) (l : List (ByteArray × α)) (k : ByteArray) (v : α) : kmap f l ++ [(V.str k, f v)] = kmap f (l ++ [(k, v)]) := by simp [kmap]
theorem aget_nil (k : ByteArray) : aget ([] : List (ByteArray × α)) k = none := rfl
theorem aget_cons (p : ByteArray × α) (l : List (ByteArray × α)) (k : ByteArray) : aget (p :: l) k = if k = p.1 then some p.2 else aget l k := by
  simp only [aget, aidx]
  split
  · rfl
  · cases aidx l k <;> rfl
theorem aget_app (l : List (ByteArray × α)) (p : ByteArray × α) (k : ByteArray) : aget (l ++ [p]) k = (aget l k).or (if k = p.1 then some p.2 else none) := by
  induction l with
  | nil => rw [List.nil_append, aget_cons, aget_nil]; simp
  | cons q l ih =>
    rw [List.cons_append, aget_cons, aget_cons, ih]
    split <;> simp
theorem aget_none {l : List (ByteArray × α)} {k : ByteArray} : aget l k = none ↔ k ∉ l.map (·.1) := by rw [aget, Option.map_eq_none_iff, aidx_none]
theorem aset_keys {l : List (ByteArray × α)} {k : ByteArray} {v w : α} (h : aget l k = some w) : (aset l k v).map (·.1) = l.map (·.1) := by
  unfold aget at h
  rw [Option.map_eq_some_iff] at h
  obtain ⟨⟨i, u⟩, h1, _⟩ := h
  have h2 := aidx_some h1
  unfold aset
  rw [h1]
  simp only [List.map_set]
  apply List.ext_getElem?
  intro j
  rw [List.getElem?_set]
  split
  · rename_i hj
    subst hj
    have hl : i < l.length := (List.getElem?_eq_some_iff.1 h2).1
    rw [if_pos (by simpa using hl), List.getElem?_map, h2]; rfl
  · rfl
theorem aget_set {l : List (ByteArray × α)} {k j : ByteArray} {v : α} : aget (aset l k v) j = if j = k then some v else aget l j := by
  have main : ∀ (l : List (ByteArray × α)) (i : Nat) (u : α), aidx l k = some (i, u) → aget (l.set i (k, v)) j = if j = k then some v else aget l j := by
    intro l
    induction l with
    | nil => intro i u h; simp [aidx] at h
    | cons p l ih =>
      intro i u h
      simp only [aidx] at h
      split at h
      · rename_i hk
        simp only [Option.some.injEq, Prod.mk.injEq] at h; obtain ⟨rfl, rfl⟩ := h
        rw [List.set_cons_zero, aget_cons, aget_cons]
        subst hk
        simp only
        split <;> rfl
      · rename_i hk
        simp only [Option.map_eq_some_iff, Prod.mk.injEq] at h
        obtain ⟨⟨i', v'⟩, h1, rfl, rfl⟩ := h
        rw [List.set_cons_succ, aget_cons, aget_cons, ih _ _ h1]
        by_cases hj : j = p.1
        · rw [if_pos hj, if_pos hj, if_neg (fun e : j = k => hk (by rw [← e, hj]))]
        · rw [if_neg hj, if_neg hj]
  unfold aset
  cases h : aidx l k with
  | some q => obtain ⟨i, u⟩ := q; exact main l i u h
  | none =>
    simp only
    rw [aget_app]
    by_cases hj : j = k
    · subst hj
      have : aget l j = none := by rw [aget, h]; rfl
      simp [this]
    · rw [if_neg hj, if_neg hj]; cases aget l j <;> rfl
theorem aget_del {l : List (ByteArray × α)} {k j : ByteArray} (hn : (l.map (·.1)).Nodup) : aget (adel l k) j = if j = k then none else aget l j := by
  induction l with
  | nil => simp [adel, aidx, aget]
  | cons p l ih =>
    rw [List.map_cons, List.nodup_cons] at hn
    have ih := ih hn.2
    unfold adel at ih ⊢
    simp only [aidx]
    by_cases hk : k = p.1
    · rw [if_pos hk]
      simp only [List.eraseIdx_cons_zero]
      rw [aget_cons]
      subst hk
      split
      · rename_i hj; subst hj; exact aget_none.2 hn.1
      · rfl
    · rw [if_neg hk]
      cases h : aidx l k with
      | none =>
        rw [h] at ih
        simp only [Option.map_none]
        simp only at ih
        rw [aget_cons, ih]
        by_cases hj : j = p.1
        · rw [if_pos hj, if_neg (fun e : j = k => hk (by rw [← e, hj]))]
        · rw [if_neg hj]; by_cases hjk : j = k
          · rw [if_pos hjk, if_pos hjk]
          · rw [if_neg hjk, if_neg hjk]
      | some q =>
        rw [h] at ih
        simp only [Option.map_some, List.eraseIdx_cons_succ]
        rw [aget_cons, aget_cons, ih]
        by_cases hj : j = p.1
        · rw [if_pos hj, if_pos hj, if_neg (fun e : j = k => hk (by rw [← e, hj]))]
        · rw [if_neg hj, if_neg hj]
theorem adel_sub {l : List (ByteArray × α)} {k : ByteArray} : ((adel l k).map (·.1)).Sublist (l.map (·.1)) := by
  unfold adel
  split
  · exact (List.eraseIdx_sublist ..).map _
  · exact List.Sublist.refl _
theorem aset_nodup {l : List (ByteArray × α)} {k : ByteArray} {v : α} (hn : (l.map (·.1)).Nodup) : ((aset l k v).map (·.1)).Nodup := by
  cases h : aget l k with
  | some w => rw [aset_keys h]; exact hn
  | none =>
    have h2 := aget_none.1 h
    have h3 : aidx l k = none := by rw [aget, Option.map_eq_none_iff] at h; exact h
    unfold aset
    rw [h3]
    simp only [List.map_append, List.map_cons, List.map_nil]
    rw [List.nodup_append]
    exact ⟨hn, by simp, fun a ha b hb => by simp at hb; subst hb; exact fun e => h2 (e ▸ ha)⟩
end
def grown (S : Nat → Prop) (nx nx' : Nat) (i : Nat) : Prop := S i ∨ (nx ≤ i ∧ i < nx')
def KeepS (S : Nat → Prop) (nx : Nat) (st st' : St) : Prop := ∀ i, i < nx → ¬ S i → st' i = st i
theorem KeepS.refl (S : Nat → Prop) (nx : Nat) (st : St) : KeepS S nx st st := fun _ _ _ => rfl
theorem KeepS.trans {S : Nat → Prop} {nx nx' : Nat} {st st' st2 : St} (h : KeepS S nx st st') (k : KeepS (grown S nx nx') nx' st' st2) (hn : nx ≤ nx') : KeepS S nx st st2 := fun i hi hs => by
  rw [k i (by omega) (fun h => by rcases h with h | h; exact hs h; omega), h i hi hs]
theorem recsOk_ro {B : List Nat} {recs : List Rec} (h : (recs.all fun r => r.δ.isEmpty && r.big.isNone) = true) : recsOk B recs = true := by
  have hw : ∀ r ∈ recs, r.δ = [] ∧ r.big.isNone = true := fun r hr => by
    have := List.all_eq_true.1 h r hr
    simp only [Bool.and_eq_true, List.isEmpty_iff] at this
    exact this
  unfold recsOk
  rw [Bool.and_eq_true]
  refine ⟨List.all_eq_true.2 fun r hr => (hw r hr).2, List.all_eq_true.2 fun j hj => ?_⟩
  cases hy : recs[j]? with
  | none => rfl
  | some y =>
    simp only
    rw [Bool.or_eq_true]
    right
    refine List.all_eq_true.2 fun i hi => ?_
    cases hx : recs[i]? with
    | none => simp
    | some x =>
      have h1 := (hw x (List.mem_of_getElem? hx)).1
      have h2 := (hw y (List.mem_of_getElem? hy)).1
      rw [Bool.or_eq_true]
      right
      simp [Rec.free, Rec.wr, disj, h1, h2]
end Go.Proofs.YthgmhlpjbednpaaDoor.Vm
namespace Go.Proofs.YthgmhlpjbednpaaDoor.Vm
open Go Go.Proofs
theorem klives_ok : L.pl 12 [] = some (.ret (.bool true)) := pl_calc 60 (by kernel_rfl)
end Go.Proofs.YthgmhlpjbednpaaDoor.Vm
set_option maxRecDepth 10000
set_option linter.unusedVariables false
set_option linter.unusedSimpArgs false
namespace Go.Proofs.YthgmhlpjbednpaaDoor.Vm
open Go Go.Proofs
def Still (st : St) (nx : Nat) (v : V) (r : HR) : Prop := ∃ st' nx', r = .ret v st' nx' ∧ nx ≤ nx' ∧ ∀ i, i < nx → st' i = st i
theorem Still.of {st st' : St} {nx nx' : Nat} {v : V} (h : nx ≤ nx') (k : ∀ i, i < nx → st' i = st i) : Still st nx v (.ret v st' nx') := ⟨st', nx', rfl, h, k⟩
end Go.Proofs.YthgmhlpjbednpaaDoor.Vm
set_option maxRecDepth 10000
set_option linter.unusedVariables false
set_option linter.unusedSimpArgs false
namespace Go.Proofs.YthgmhlpjbednpaaDoor.Vm
open Go Go.Proofs
structure Ev where
  k : Int
  e : ByteArray
  p : Int × Int
  u : ByteArray
def evC (x : Ev) : List V := [.i64 x.k, .str x.e, .i64 x.p.1, .i64 x.p.2, .str x.u]
def encP (p : Int × Int) : V := .agg [.i64 p.1, .i64 p.2]
structure Lk where
  c : Int
  s : Int × Int
  op : List (ByteArray × (Int × Int))
  ak : List (ByteArray × ByteArray)
  nm : List ByteArray
  ev : List Ev
def rowV (S : Nat → Prop) (st : St) (e : Nat) (g : Bool) (s n : Nat) (cs : List V) (v : V) : Prop :=
  (n = 0 ∧ cs = [] ∧ v = .list 0 [] 1) ∨ (0 < n ∧ ∃ id, S id ∧ v = .sl e g s id 0 n ∧ st id = some (.row e s n cs))
structure LKp (k : Nat) (a : Lk) (S : Nat → Prop) (st : St) (mo ma : Nat) (vn ve : V) : Prop where
  hk : st k = some (.cells [.i64 a.c, .i64 a.s.1, .i64 a.s.2, .map mo, .map ma, vn, ve])
  ho : st mo = some (.map (kmap encP a.op) true)
  ha : ∃ d, st ma = some (.map (kmap V.str a.ak) d)
  hn : rowV S st 9 false 1 a.nm.length (a.nm.map V.str) vn
  he : rowV S st 50 true 5 a.ev.length (a.ev.flatMap evC) ve
  sk : S k
  so : S mo
  sa : S ma
  na : mo ≠ ma
theorem LKp.ka {k : Nat} {a : Lk} {S : Nat → Prop} {st : St} {mo ma : Nat} {vn ve : V} (h : LKp k a S st mo ma vn ve) : k ≠ ma := fun e => by subst e; obtain ⟨d, hd⟩ := h.ha; have := h.hk; rw [hd] at this; cases this
theorem LKp.row {k : Nat} {a : Lk} {S : Nat → Prop} {st : St} {mo ma : Nat} {vn ve : V} (h : LKp k a S st mo ma vn ve) {id e s n : Nat} {cs : List V} (hr : st id = some (.row e s n cs)) : id ≠ k ∧ id ≠ mo ∧ id ≠ ma := by
  refine ⟨fun q => ?_, fun q => ?_, fun q => ?_⟩
  · subst q; have := h.hk; rw [hr] at this; cases this
  · subst q; have := h.ho; rw [hr] at this; cases this
  · subst q; obtain ⟨d, hd⟩ := h.ha; rw [hr] at hd; cases hd
def LK (k : Nat) (a : Lk) (S : Nat → Prop) (st : St) : Prop := ∃ mo ma vn ve, LKp k a S st mo ma vn ve
theorem rowV.mono {S S' : Nat → Prop} {st st' : St} {e : Nat} {g : Bool} {s n : Nat} {cs : List V} {v : V} (h : rowV S st e g s n cs v) (hS : ∀ i, S i → S' i) (hs : ∀ i, S i → st' i = st i) : rowV S' st' e g s n cs v := by
  rcases h with h | ⟨h0, id, h1, h2, h3⟩
  · exact .inl h
  · exact .inr ⟨h0, id, hS id h1, h2, by rw [hs id h1]; exact h3⟩
theorem LK.mono {k : Nat} {a : Lk} {S S' : Nat → Prop} {st st' : St} (h : LK k a S st) (hS : ∀ i, S i → S' i) (hs : ∀ i, S i → st' i = st i) : LK k a S' st' := by
  obtain ⟨mo, ma, vn, ve, h⟩ := h
  refine ⟨mo, ma, vn, ve, by rw [hs _ h.sk]; exact h.hk, by rw [hs _ h.so]; exact h.ho, ?_, h.hn.mono hS hs, h.he.mono hS hs, hS _ h.sk, hS _ h.so, hS _ h.sa, h.na⟩
  obtain ⟨d, hd⟩ := h.ha
  exact ⟨d, by rw [hs _ h.sa]; exact hd⟩
def firstK (a : Lk) (e : ByteArray) : (Int × Int) × Int := match aget a.op e with
  | some p => (p, 0)
  | none => ((0, 0), 1)
end Go.Proofs.YthgmhlpjbednpaaDoor.Vm
set_option maxRecDepth 10000
set_option linter.unusedVariables false
set_option linter.unusedSimpArgs false
namespace Go.Proofs.YthgmhlpjbednpaaDoor.Vm
open Go Go.Proofs
def beginK (a : Lk) (e u : ByteArray) : (Int × Int) × Int := if (firstK a e).2 = 0 ∧ codeS u = false then ((0, 0), 7) else firstK a e
end Go.Proofs.YthgmhlpjbednpaaDoor.Vm
set_option maxRecDepth 10000
set_option linter.unusedVariables false
set_option linter.unusedSimpArgs false
namespace Go.Proofs.YthgmhlpjbednpaaDoor.Vm
open Go Go.Proofs
def closeK (a : Lk) (e u : ByteArray) : Lk × Int :=
  if (beginK a e u).2 ≠ 0 then (a, (beginK a e u).2)
  else if (nextP a.c (beginK a e u).1.1 (beginK a e u).1.2).2 ≠ 0 then (a, 16)
  else ({ a with op := aset a.op e (nextP a.c (beginK a e u).1.1 (beginK a e u).1.2).1, ak := adel a.ak e, ev := a.ev ++ [⟨8, e, (beginK a e u).1, u⟩] }, 0)
theorem beginK_zero {a : Lk} {e u : ByteArray} (h : (beginK a e u).2 = 0) : aget a.op e = some (beginK a e u).1 ∧ codeS u = true := by
  unfold beginK at h ⊢
  by_cases hc : (firstK a e).2 = 0 ∧ codeS u = false
  · rw [if_pos hc] at h; cases h
  · rw [if_neg hc] at h ⊢
    have hu : codeS u = true := by cases hu : codeS u with | true => rfl | false => exact absurd ⟨h, hu⟩ hc
    refine ⟨?_, hu⟩
    unfold firstK at h ⊢
    cases hg : aget a.op e with
    | none => rw [hg] at h; cases h
    | some p => rfl
end Go.Proofs.YthgmhlpjbednpaaDoor.Vm
set_option maxRecDepth 10000
set_option linter.unusedVariables false
set_option linter.unusedSimpArgs false
namespace Go.Proofs.YthgmhlpjbednpaaDoor.Vm
open Go Go.Proofs
theorem bne_tf : (true != false) = true := rfl
theorem bne_ft : (false != true) = true := rfl
theorem bne_tt : (true != true) = false := rfl
theorem bne_ff : (false != false) = false := rfl
theorem LKp.rows {k : Nat} {a : Lk} {S : Nat → Prop} {st st' : St} {mo ma : Nat} {vn ve : V} (h : LKp k a S st mo ma vn ve) {op : List (ByteArray × (Int × Int))} {ak : List (ByteArray × ByteArray)} (s1 : st' k = st k) (s2 : st' mo = some (.map (kmap encP op) true)) (s3 : ∃ d, st' ma = some (.map (kmap V.str ak) d)) (s4 : ∀ i, S i → i ≠ mo → i ≠ ma → st' i = st i) : LK k { a with op := op, ak := ak } S st' := by
  have rw_ : ∀ {en : Nat} {g : Bool} {sz n : Nat} {cs : List V} {v : V}, rowV S st en g sz n cs v → rowV S st' en g sz n cs v := by
    intro en g sz n cs v hr
    rcases hr with hr | ⟨z0, id, z1, z2, z3⟩
    · exact .inl hr
    · have hz := h.row z3
      exact .inr ⟨z0, id, z1, z2, by rw [s4 id z1 hz.2.1 hz.2.2]; exact z3⟩
  exact ⟨mo, ma, vn, ve, by rw [s1]; exact h.hk, s2, s3, rw_ h.hn, rw_ h.he, h.sk, h.so, h.sa, h.na⟩
def askK (a : Lk) (e u : ByteArray) : Lk × Int :=
  if (beginK a e u).2 ≠ 0 then (a, (beginK a e u).2)
  else if (beginK a e u).1 = a.s then (a, 18)
  else if (prevP a.c (beginK a e u).1.1 (beginK a e u).1.2).2 ≠ 0 then (a, 18)
  else ({ a with ak := aset a.ak e u, ev := a.ev ++ [⟨9, e, (prevP a.c (beginK a e u).1.1 (beginK a e u).1.2).1, u⟩] }, 0)
def reopenK (a : Lk) (e u : ByteArray) : Lk × Int :=
  if (beginK a e u).2 ≠ 0 then (a, (beginK a e u).2)
  else match aget a.ak e with
    | none => (a, 18)
    | some v => if v = u then (a, 19)
      else if (prevP a.c (beginK a e u).1.1 (beginK a e u).1.2).2 ≠ 0 then (a, 18)
      else ({ a with op := aset a.op e (prevP a.c (beginK a e u).1.1 (beginK a e u).1.2).1, ak := adel a.ak e, ev := a.ev ++ [⟨10, e, (prevP a.c (beginK a e u).1.1 (beginK a e u).1.2).1, u⟩] }, 0)
end Go.Proofs.YthgmhlpjbednpaaDoor.Vm
set_option maxRecDepth 10000
set_option linter.unusedVariables false
set_option linter.unusedSimpArgs false
namespace Go.Proofs.YthgmhlpjbednpaaDoor.Vm
open Go Go.Proofs
theorem cal_ok {k : Nat} {a : Lk} {S : Nat → Prop} {st : St} {nx : Nat} (h : LK k a S st) (hS : ∀ i, S i → i < nx) : W (L.hp 22 [.ptr k 0] st nx) (Still st nx (.agg [.i64 a.c])) := by
  refine hp_r k22_eq ?_
  simp only [k22]
  obtain ⟨mo, ma, vn, ve, hq⟩ := h
  have f7 : (k = nx) = False := eq_false (by have := hS _ hq.sk; omega)
  repeat' (first | (simp -implicitDefEqProofs only [ze, zd, zr, simprocAttr, LR_pl, LR_hp, LR_hm, cunr_n, cunr_x, cunr_r, cunr_p, List.any_cons, List.any_nil, List.flatten_cons, List.flatten_nil, List.replicate_succ, List.replicate_zero, Bool.or_false, Bool.false_or, List.flatMap_cons, List.flatMap_nil, hq.hk, f7]) | (with_reducible refine wgd_cases ?_ ?_ <;> intro hb) | (with_reducible refine wcond_cases ?_ ?_ <;> intro hb) | (with_reducible refine W_itn_cases ?_ ?_; omega))
  refine .of (by omega) fun i hi => ?_
  simp (disch := omega) only [upds, upd, List.foldl_cons, List.foldl_nil, if_neg]
theorem cloneS_ok {S : Nat → Prop} {st : St} {nx n : Nat} {cs : List V} {v : V} (h : rowV S st 9 false 1 n cs v) (hS : ∀ i, S i → i < nx) (hn : n ≤ 1000000) (hl : cs.length = n) :
    W (L.hp 49 [v] st nx) (fun r => ∃ v' st' nx', r = .ret v' st' nx' ∧ nx ≤ nx' ∧ rowV (fun i => nx ≤ i ∧ i < nx') st' 9 false 1 n cs v' ∧ ∀ i, i < nx → st' i = st i) := by
  refine hp_r k49_eq ?_
  simp only [k49]
  rcases h with ⟨rfl, rfl, rfl⟩ | ⟨h0, id, h1, rfl, h3⟩
  · repeat' (first | (simp -implicitDefEqProofs only [ze, zd, zr, simprocAttr, LR_pl, LR_hp, LR_hm, cunr_n, cunr_x, cunr_r, cunr_p, List.any_cons, List.any_nil, List.flatten_cons, List.flatten_nil, List.replicate_succ, List.replicate_zero, Bool.or_false, Bool.false_or, List.flatMap_cons, List.flatMap_nil]) | (with_reducible refine wgd_cases ?_ ?_ <;> intro hb) | (with_reducible refine wcond_cases ?_ ?_ <;> intro hb) | (with_reducible refine W_itn_cases ?_ ?_; omega))
    exact ⟨_, _, _, rfl, by omega, .inl ⟨rfl, rfl, rfl⟩, fun i hi => rfl⟩
  · obtain ⟨m, rfl⟩ : ∃ m, n = m + 1 := ⟨n - 1, by omega⟩
    have hid := hS id h1
    have i1 : ∀ j, (id = nx + j) = False := fun j => eq_false (by omega)
    have i2 : (id = nx) = False := eq_false (by omega)
    have hz : ¬ (m + 1 = 0) := by omega
    have ht : cs.take (m + 1) = cs := List.take_of_length_le (by omega)
    have hle : m + 1 ≤ cs.length := by omega
    repeat' (first | (simp -implicitDefEqProofs only [ze, zd, zr, simprocAttr, LR_pl, LR_hp, LR_hm, cunr_n, cunr_x, cunr_r, cunr_p, List.any_cons, List.any_nil, List.flatten_cons, List.flatten_nil, List.replicate_succ, List.replicate_zero, Bool.or_false, Bool.false_or, List.flatMap_cons, List.flatMap_nil, h3, i1, i2, List.drop_zero, Nat.zero_mul, Nat.mul_one, ht, hle, Nat.zero_add]) | (with_reducible refine wgd_cases ?_ ?_ <;> intro hb) | (with_reducible refine wcond_cases ?_ ?_ <;> intro hb) | (with_reducible refine W_itn_cases ?_ ?_; omega))
    refine ⟨_, _, _, rfl, by omega, .inr ⟨by omega, nx + 40, ⟨by omega, by omega⟩, rfl, by simp [upd]⟩, fun i hi => ?_⟩
    have a1 : ¬ i = nx + 24 := by omega
    have a2 : ¬ i = nx + 40 := by omega
    simp [upd, a1, a2]
theorem cloneE_ok {S : Nat → Prop} {st : St} {nx n : Nat} {cs : List V} {v : V} (h : rowV S st 50 true 5 n cs v) (hS : ∀ i, S i → i < nx) (hn : n ≤ 1000000) (hl : cs.length = n * 5) :
    W (L.hp 41 [v] st nx) (fun r => ∃ v' st' nx', r = .ret v' st' nx' ∧ nx ≤ nx' ∧ rowV (fun i => nx ≤ i ∧ i < nx') st' 50 true 5 n cs v' ∧ ∀ i, i < nx → st' i = st i) := by
  refine hp_r k41_eq ?_
  simp only [k41]
  rcases h with ⟨rfl, rfl, rfl⟩ | ⟨h0, id, h1, rfl, h3⟩
  · repeat' (first | (simp -implicitDefEqProofs only [ze, zd, zr, simprocAttr, LR_pl, LR_hp, LR_hm, cunr_n, cunr_x, cunr_r, cunr_p, List.any_cons, List.any_nil, List.flatten_cons, List.flatten_nil, List.replicate_succ, List.replicate_zero, Bool.or_false, Bool.false_or, List.flatMap_cons, List.flatMap_nil]) | (with_reducible refine wgd_cases ?_ ?_ <;> intro hb) | (with_reducible refine wcond_cases ?_ ?_ <;> intro hb) | (with_reducible refine W_itn_cases ?_ ?_; omega))
    exact ⟨_, _, _, rfl, by omega, .inl ⟨rfl, rfl, rfl⟩, fun i hi => rfl⟩
  · obtain ⟨m, rfl⟩ : ∃ m, n = m + 1 := ⟨n - 1, by omega⟩
    have hid := hS id h1
    have i1 : ∀ j, (id = nx + j) = False := fun j => eq_false (by omega)
    have i2 : (id = nx) = False := eq_false (by omega)
    have hz : ¬ (m + 1 = 0) := by omega
    have ht : cs.take ((m + 1) * 5) = cs := List.take_of_length_le (by omega)
    have hle : (m + 1) * 5 ≤ cs.length := by omega
    repeat' (first | (simp -implicitDefEqProofs only [ze, zd, zr, simprocAttr, LR_pl, LR_hp, LR_hm, cunr_n, cunr_x, cunr_r, cunr_p, List.any_cons, List.any_nil, List.flatten_cons, List.flatten_nil, List.replicate_succ, List.replicate_zero, Bool.or_false, Bool.false_or, List.flatMap_cons, List.flatMap_nil, h3, i1, i2, List.drop_zero, Nat.zero_mul, Nat.mul_one, ht, hle, Nat.zero_add]) | (with_reducible refine wgd_cases ?_ ?_ <;> intro hb) | (with_reducible refine wcond_cases ?_ ?_ <;> intro hb) | (with_reducible refine W_itn_cases ?_ ?_; omega))
    refine ⟨_, _, _, rfl, by omega, .inr ⟨by omega, nx + 40, ⟨by omega, by omega⟩, rfl, by simp [upd]⟩, fun i hi => ?_⟩
    have a1 : ¬ i = nx + 24 := by omega
    have a2 : ¬ i = nx + 40 := by omega
    simp [upd, a1, a2]
theorem evC_len (l : List Ev) : (l.flatMap evC).length = l.length * 5 := by
  induction l with
  | nil => rfl
  | cons x l ih => rw [List.flatMap_cons, List.length_append, ih, List.length_cons, Nat.succ_mul]; simp [evC]; omega
theorem ents_ok {k : Nat} {a : Lk} {S : Nat → Prop} {st : St} {nx : Nat} (h : LK k a S st) (hS : ∀ i, S i → i < nx) (hl : a.nm.length ≤ 1000000) :
    W (L.hp 24 [.ptr k 0] st nx) (fun r => ∃ v' st' nx', r = .ret v' st' nx' ∧ nx ≤ nx' ∧ rowV (fun i => nx ≤ i ∧ i < nx') st' 9 false 1 a.nm.length (a.nm.map V.str) v' ∧ ∀ i, i < nx → st' i = st i) := by
  refine hp_r k24_eq ?_
  simp only [k24]
  obtain ⟨mo, ma, vn, ve, hq⟩ := h
  repeat' (first | (simp -implicitDefEqProofs only [ze, zd, zr, simprocAttr, LR_pl, LR_hp, LR_hm, cunr_n, cunr_x, cunr_r, cunr_p, List.any_cons, List.any_nil, List.flatten_cons, List.flatten_nil, List.replicate_succ, List.replicate_zero, Bool.or_false, Bool.false_or, List.flatMap_cons, List.flatMap_nil, hq.hk]) | (with_reducible refine wgd_cases ?_ ?_ <;> intro hb) | (with_reducible refine wcond_cases ?_ ?_ <;> intro hb) | (with_reducible refine W_itn_cases ?_ ?_; omega))
  refine W_hp (cloneS_ok hq.hn (fun i hi => by have := hS i hi; omega) hl (by simp)) ?_
  rintro _ ⟨v', st', nx', rfl, hn, hr, hs⟩
  repeat' (first | (simp -implicitDefEqProofs only [ze, zd, zr, simprocAttr, LR_pl, LR_hp, LR_hm, cunr_n, cunr_x, cunr_r, cunr_p, List.any_cons, List.any_nil, List.flatten_cons, List.flatten_nil, List.replicate_succ, List.replicate_zero, Bool.or_false, Bool.false_or, List.flatMap_cons, List.flatMap_nil]) | (with_reducible refine wgd_cases ?_ ?_ <;> intro hb) | (with_reducible refine wcond_cases ?_ ?_ <;> intro hb) | (with_reducible refine W_itn_cases ?_ ?_; omega))
  exact ⟨_, _, _, rfl, by omega, hr.mono (fun i hi => ⟨by omega, by omega⟩) (fun _ _ => rfl), fun i hi => hs i (by omega)⟩
theorem evs_ok {k : Nat} {a : Lk} {S : Nat → Prop} {st : St} {nx : Nat} (h : LK k a S st) (hS : ∀ i, S i → i < nx) (hl : a.ev.length ≤ 1000000) :
    W (L.hp 17 [.ptr k 0] st nx) (fun r => ∃ v' st' nx', r = .ret v' st' nx' ∧ nx ≤ nx' ∧ rowV (fun i => nx ≤ i ∧ i < nx') st' 50 true 5 a.ev.length (a.ev.flatMap evC) v' ∧ ∀ i, i < nx → st' i = st i) := by
  refine hp_r k17_eq ?_
  simp only [k17]
  obtain ⟨mo, ma, vn, ve, hq⟩ := h
  repeat' (first | (simp -implicitDefEqProofs only [ze, zd, zr, simprocAttr, LR_pl, LR_hp, LR_hm, cunr_n, cunr_x, cunr_r, cunr_p, List.any_cons, List.any_nil, List.flatten_cons, List.flatten_nil, List.replicate_succ, List.replicate_zero, Bool.or_false, Bool.false_or, List.flatMap_cons, List.flatMap_nil, hq.hk]) | (with_reducible refine wgd_cases ?_ ?_ <;> intro hb) | (with_reducible refine wcond_cases ?_ ?_ <;> intro hb) | (with_reducible refine W_itn_cases ?_ ?_; omega))
  refine W_hp (cloneE_ok hq.he (fun i hi => by have := hS i hi; omega) hl (evC_len _)) ?_
  rintro _ ⟨v', st', nx', rfl, hn, hr, hs⟩
  repeat' (first | (simp -implicitDefEqProofs only [ze, zd, zr, simprocAttr, LR_pl, LR_hp, LR_hm, cunr_n, cunr_x, cunr_r, cunr_p, List.any_cons, List.any_nil, List.flatten_cons, List.flatten_nil, List.replicate_succ, List.replicate_zero, Bool.or_false, Bool.false_or, List.flatMap_cons, List.flatMap_nil]) | (with_reducible refine wgd_cases ?_ ?_ <;> intro hb) | (with_reducible refine wcond_cases ?_ ?_ <;> intro hb) | (with_reducible refine W_itn_cases ?_ ?_; omega))
  exact ⟨_, _, _, rfl, by omega, hr.mono (fun i hi => ⟨by omega, by omega⟩) (fun _ _ => rfl), fun i hi => hs i (by omega)⟩
end Go.Proofs.YthgmhlpjbednpaaDoor.Vm
set_option maxRecDepth 10000
set_option linter.unusedVariables false
set_option linter.unusedSimpArgs false
namespace Go.Proofs.YthgmhlpjbednpaaDoor.Vm
open Go Go.Proofs
def newE : List ByteArray → List ByteArray → Int
  | _, [] => 0
  | done, s :: r => if codeS s = false then 7 else if (done.any fun d => decide (s = d)) = true then 8 else newE (done ++ [s]) r
def newErr (c : Int) (p : Int × Int) (l : List ByteArray) : Int := if (spanS c p.1 p.2).2.2 ≠ 0 then (spanS c p.1 p.2).2.2 else if 200 < l.length then 9 else newE [] l
def sortS (l : List ByteArray) : List ByteArray := (sortB (l.map fun s => s.data.toList)).map fun b => ⟨b.toArray⟩
def newLk (c : Int) (p : Int × Int) (l : List ByteArray) : Lk := ⟨c, p, l.map fun s => (s, p), [], sortS l, []⟩
theorem spanS_err (c y n : Int) : (spanS c y n).2.2 = 0 ∨ (spanS c y n).2.2 = 2 ∨ (spanS c y n).2.2 = 16 := by
  unfold spanS
  split
  · exact .inr (.inl rfl)
  · split
    · exact .inr (.inr rfl)
    · split <;> exact .inl rfl
theorem aidx_pair {α : Type} (v : α) (s : ByteArray) (l : List ByteArray) : ((l.any fun d => decide (s = d)) = true → ∃ j, aidx (l.map fun d => (d, v)) s = some (j, v)) ∧ ((l.any fun d => decide (s = d)) = false → aidx (l.map fun d => (d, v)) s = none) := by
  induction l with
  | nil => exact ⟨fun h => by simp at h, fun _ => rfl⟩
  | cons d l ih =>
    simp only [List.any_cons, List.map_cons, aidx, Bool.or_eq_true, Bool.or_eq_false_iff, decide_eq_true_eq, decide_eq_false_iff_not]
    refine ⟨fun h => ?_, fun h => ?_⟩
    · by_cases hs : s = d
      · exact ⟨0, by rw [if_pos hs]⟩
      · rw [if_neg hs]
        rcases h with h | h
        · exact absurd h hs
        · obtain ⟨j, hj⟩ := ih.1 h
          exact ⟨j + 1, by rw [hj]; rfl⟩
    · rw [if_neg h.1, ih.2 h.2]; rfl
def NewR (c : Int) (p : Int × Int) (l : List ByteArray) (st : St) (nx : Nat) (r : HR) : Prop :=
  (newErr c p l ≠ 0 ∧ ∃ st' nx', r = .ret (.tup [.sc (.pointer none), .i64 (newErr c p l)]) st' nx' ∧ nx ≤ nx' ∧ ∀ i, i < nx → st' i = st i) ∨
  (newErr c p l = 0 ∧ ∃ k st' nx', r = .ret (.tup [.ptr k 0, .i64 0]) st' nx' ∧ nx ≤ nx' ∧ LK k (newLk c p l) (fun i => nx ≤ i ∧ i < nx') st' ∧ ∀ i, i < nx → st' i = st i)
theorem vbs_map (l : List ByteArray) : (l.map V.str).mapM vbs? = some (l.map fun s => s.data.toList) := by
  induction l with
  | nil => rfl
  | cons s l ih => simp only [List.map_cons, List.mapM_cons, ih, vbs?, Option.bind_eq_bind, Option.bind_some, Option.pure_def]
theorem sortS_len (l : List ByteArray) : (sortS l).length = l.length := by
  unfold sortS
  rw [List.length_map, (sortB_perm _).length_eq, List.length_map]
theorem sort_ok {S : Nat → Prop} {st : St} {nx : Nat} {l : List ByteArray} {v : V} (h : rowV S st 9 false 1 l.length (l.map V.str) v) (hl : l.length < 4611686018427387904) :
    W (L.hp 31 [v] st nx) (fun r => ∃ st', r = .ret (.tup []) st' nx ∧ rowV S st' 9 false 1 (sortS l).length ((sortS l).map V.str) v ∧ ∀ i, (∀ id, v = .sl 9 false 1 id 0 l.length → i ≠ id) → st' i = st i) := by
  rcases h with ⟨h0, h1, rfl⟩ | ⟨h0, id, h1, rfl, h3⟩
  · have hn : l = [] := List.eq_nil_of_length_eq_zero h0
    subst hn
    exact ⟨_, hp_ext (g := xsort) rfl rfl, st, rfl, .inl ⟨rfl, rfl, rfl⟩, fun i _ => rfl⟩
  · have hr : sortRow 0 l.length (l.map V.str) = some ((sortS l).map V.str) := by
      unfold sortRow
      rw [List.drop_zero, List.take_of_length_le (by simp), vbs_map, Option.bind_some, if_pos ⟨by simp, hl⟩]
      rw [Nat.zero_add, List.drop_eq_nil_of_le (by simp), List.append_nil, List.take_zero, List.nil_append]
      simp [sortS, vOfB, List.map_map, Function.comp_def]
    have hx : xsort [.sl 9 false 1 id 0 l.length] st nx = some (.ret (.tup []) (upd st id (some (.row 9 1 l.length ((sortS l).map V.str)))) nx) := by
      simp only [xsort, h3, hr, and_self, if_true, Option.map_some]
    refine ⟨_, hp_ext (g := xsort) rfl hx, _, rfl, .inr ⟨by rw [sortS_len]; exact h0, id, h1, by rw [sortS_len], ?_⟩, fun i hi => ?_⟩
    · simp [upd, sortS_len]
    · have : ¬ i = id := hi id rfl
      simp [upd, this]
theorem new_ok (c : Int) (p : Int × Int) (l : List ByteArray) (st : St) (nx : Nat) (hl : l.length < 4611686018427387904) :
    W (L.hp 10 [.agg [.i64 c], .agg [.i64 p.1, .i64 p.2], .list 9 (l.map V.str) 0] st nx) (NewR c p l st nx) := by
  refine hp_r k10_eq ?_
  simp only [k10]
  have hsp := span_ok c p.1 p.2
  have herr := spanS_err c p.1 p.2
  have hE : newErr c p l = if (spanS c p.1 p.2).2.2 ≠ 0 then (spanS c p.1 p.2).2.2 else if 200 < l.length then 9 else newE [] l := rfl
  unfold NewR
  rw [hE]
  generalize spanS c p.1 p.2 = s at hsp herr
  obtain ⟨s1, s2, s3⟩ := s
  simp only at herr
  have f1 : (nx = nx + 8) = False := eq_false (by omega)
  by_cases h0 : s3 = 0
  · subst h0
    rw [if_neg (by simp)]
    by_cases h2 : 200 < l.length
    · have g2 : decide ((200 : Int) < (l.length : Int)) = true := decide_eq_true (by omega)
      rw [if_pos h2]
      repeat' (first | (simp -implicitDefEqProofs only [ze, zd, zr, simprocAttr, LR_pl, LR_hp, LR_hm, cunr_n, cunr_x, cunr_r, cunr_p, List.any_cons, List.any_nil, List.flatten_cons, List.flatten_nil, List.replicate_succ, List.replicate_zero, Bool.or_false, Bool.false_or, List.flatMap_cons, List.flatMap_nil, hsp, f1, g2, List.length_map, ne_eq, not_true_eq_false, gt_iff_lt]) | (with_reducible refine wgd_cases ?_ ?_ <;> intro hb) | (with_reducible refine wcond_cases ?_ ?_ <;> intro hb) | (with_reducible refine W_itn_cases ?_ ?_; omega))
      refine .inl ⟨by decide, _, _, rfl, by omega, fun i hi => ?_⟩
      simp (disch := omega) only [upds, upd, List.foldl_cons, List.foldl_nil, if_neg]
    · have g2 : decide ((200 : Int) < (l.length : Int)) = false := decide_eq_false (by omega)
      rw [if_neg h2]
      repeat' (first | (simp -implicitDefEqProofs only [ze, zd, zr, simprocAttr, LR_pl, LR_hp, LR_hm, cunr_n, cunr_x, cunr_r, cunr_p, List.any_cons, List.any_nil, List.flatten_cons, List.flatten_nil, List.replicate_succ, List.replicate_zero, Bool.or_false, Bool.false_or, List.flatMap_cons, List.flatMap_nil, hsp, f1, g2, List.length_map, ne_eq, not_true_eq_false, gt_iff_lt]) | (with_reducible refine wgd_cases ?_ ?_ <;> intro hb) | (with_reducible refine wcond_cases ?_ ?_ <;> intro hb) | (with_reducible refine W_itn_cases ?_ ?_; omega))
      refine loop_w (fun n tm st' nx' => ∃ (i : Nat) (vn : V), n = l.length - i ∧ i ≤ l.length ∧ newE [] l = newE (l.take i) (l.drop i) ∧ tm 36 = .i64 i ∧ tm 35 = .i64 l.length ∧ tm 34 = .list 9 (l.map V.str) 0 ∧ tm 6 = .ptr (nx + 192) 0 ∧ tm 4 = .ptr (nx + 8) 0 ∧ st' (nx + 8) = some (.cells [.i64 p.1, .i64 p.2]) ∧ nx + 232 ≤ nx' ∧ (∀ j, j < nx → st' j = st j) ∧
        LKp (nx + 192) ⟨c, p, (l.take i).map fun s => (s, p), [], l.take i, []⟩ (fun j => nx ≤ j ∧ j < nx') st' (nx + 168) (nx + 176) vn (.list 0 [] 1)) _ ⟨0, .list 0 [] 1, rfl, by omega, rfl, ?_, ?_, ?_, ?_, ?_, ?_, by omega, fun j hj => ?_, ?_⟩ ?_
      · simp -implicitDefEqProofs only [ze, zd, simprocAttr]; try rfl
      · simp -implicitDefEqProofs only [ze, zd, simprocAttr]
      · simp -implicitDefEqProofs only [ze, zd, simprocAttr]
      · simp -implicitDefEqProofs only [ze, zd, simprocAttr]
      · simp -implicitDefEqProofs only [ze, zd, simprocAttr]
      · simp [upd]
      · simp (disch := omega) only [upds, upd, List.foldl_cons, List.foldl_nil, if_neg]
      · exact ⟨by simp [upd], by simp [upd, kmap], ⟨true, by simp [upd, kmap]⟩, .inl ⟨rfl, rfl, rfl⟩, .inl ⟨rfl, rfl, rfl⟩, ⟨by omega, by omega⟩, ⟨by omega, by omega⟩, ⟨by omega, by omega⟩, by omega⟩
      rintro n tm st1 nx1 ⟨i, vn, hn, hi, hne, h36, h35, h34, h6, h4, h8, hnx, hst, hq⟩
      simp only [k10_l0]
      by_cases hc : i < l.length
      · have hd : decide ((i : Int) < (l.length : Int)) = true := decide_eq_true (by omega)
        obtain ⟨s, hs⟩ := get_lt hc
        have hdr : l.drop i = s :: l.drop (i + 1) := by
          rw [List.drop_eq_getElem_cons hc]
          have : l[i] = s := by have := hs; rw [List.getElem?_eq_getElem hc] at this; exact Option.some.inj this
          rw [this]
        have htk : l.take (i + 1) = l.take i ++ [s] := by rw [List.take_add_one, hs]; rfl
        rw [hdr, newE] at hne
        cases hcs : codeS s with
        | false =>
          rw [hcs, if_pos rfl] at hne
          repeat' (first | (simp -implicitDefEqProofs only [ze, zd, zr, simprocAttr, LR_pl, LR_hp, LR_hm, cunr_n, cunr_x, cunr_r, cunr_p, List.any_cons, List.any_nil, List.flatten_cons, List.flatten_nil, List.replicate_succ, List.replicate_zero, Bool.or_false, Bool.false_or, List.flatMap_cons, List.flatMap_nil, hd, h36, h35, h34, h6, h4, hs, code_ok, hcs]) | (with_reducible refine wgd_cases ?_ ?_ <;> intro hb) | (with_reducible refine wcond_cases ?_ ?_ <;> intro hb) | (with_reducible refine W_itn_cases ?_ ?_; omega))
          rw [hne]
          refine .inl ⟨by decide, _, _, rfl, by omega, fun j hj => ?_⟩
          exact hst j hj
        | true =>
          rw [hcs, if_neg (by decide)] at hne
          have f1 : ∀ j, (nx + 168 = nx1 + j) = False := fun j => eq_false (by omega)
          have f2 : ∀ j, (nx + 176 = nx1 + j) = False := fun j => eq_false (by omega)
          have f3 : ∀ j, (nx + 192 = nx1 + j) = False := fun j => eq_false (by omega)
          have f4 : ∀ j, (nx + 8 = nx1 + j) = False := fun j => eq_false (by omega)
          have f5 : ∀ j, (nx = nx1 + j) = False := fun j => eq_false (by omega)
          have f6 : (nx = nx1) = False := eq_false (by omega)
          have f7 : ∀ j, (nx1 + j = nx) = False := fun j => eq_false (by omega)
          have f8 : ∀ j, (nx1 + j = nx + 8) = False := fun j => eq_false (by omega)
          have f9 : ∀ j, (nx1 + j = nx + 168) = False := fun j => eq_false (by omega)
          have f10 : ∀ j, (nx1 + j = nx + 176) = False := fun j => eq_false (by omega)
          have f11 : ∀ j, (nx1 + j = nx + 192) = False := fun j => eq_false (by omega)
          have hm := mfind_kmap encP s ((l.take i).map fun s => (s, p)) 0
          cases hdup : (l.take i).any fun d => decide (s = d) with
          | true =>
            rw [hdup, if_pos rfl] at hne
            obtain ⟨j0, hj0⟩ := (aidx_pair p s (l.take i)).1 hdup
            rw [hj0] at hm
            repeat' (first | (simp -implicitDefEqProofs only [ze, zd, zr, simprocAttr, LR_pl, LR_hp, LR_hm, cunr_n, cunr_x, cunr_r, cunr_p, List.any_cons, List.any_nil, List.flatten_cons, List.flatten_nil, List.replicate_succ, List.replicate_zero, Bool.or_false, Bool.false_or, List.flatMap_cons, List.flatMap_nil, hd, h36, h35, h34, h6, h4, h8, hs, code_ok, hcs, hq.hk, hq.ho, hm, Option.map_some, encP, f1, f2, f3, f4, f5, f6, f7, f8, f9, f10, f11, ne_eq, not_true_eq_false]) | (with_reducible refine wgd_cases ?_ ?_ <;> intro hb) | (with_reducible refine wcond_cases ?_ ?_ <;> intro hb) | (with_reducible refine W_itn_cases ?_ ?_; omega))
            rw [hne]
            refine .inl ⟨by decide, _, _, rfl, by omega, fun j hj => ?_⟩
            rw [← hst j hj]
            simp (disch := omega) only [upds, upd, List.foldl_cons, List.foldl_nil, if_neg]
          | false =>
            rw [hdup, if_neg (by decide), ← htk] at hne
            have hj0 := (aidx_pair p s (l.take i)).2 hdup
            rw [hj0] at hm
            repeat' (first | (simp -implicitDefEqProofs only [ze, zd, zr, simprocAttr, LR_pl, LR_hp, LR_hm, cunr_n, cunr_x, cunr_r, cunr_p, List.any_cons, List.any_nil, List.flatten_cons, List.flatten_nil, List.replicate_succ, List.replicate_zero, Bool.or_false, Bool.false_or, List.flatMap_cons, List.flatMap_nil, hd, h36, h35, h34, h6, h4, h8, hs, code_ok, hcs, hq.hk, hq.ho, hm, Option.map_none, encP, f1, f2, f3, f4, f5, f6, f7, f8, f9, f10, f11, ne_eq, not_true_eq_false]) | (with_reducible refine wgd_cases ?_ ?_ <;> intro hb) | (with_reducible refine wcond_cases ?_ ?_ <;> intro hb) | (with_reducible refine W_itn_cases ?_ ?_; omega))
            have es : kmap encP ((l.take i).map fun s => (s, p)) ++ [(.str s, .agg [.i64 p.1, .i64 p.2])] = kmap encP ((l.take (i + 1)).map fun s => (s, p)) := by rw [htk, List.map_append]; exact kmap_app encP _ s p
            have hlt : (l.take i).length = i := by rw [List.length_take]; omega
            have hlt2 : (l.take (i + 1)).length = i + 1 := by rw [List.length_take]; omega
            have f12 : (nx + 192 = nx + 168) = False := eq_false (by omega)
            have f13 : (nx + 8 = nx + 168) = False := eq_false (by omega)
            refine qd_i (by simp [recsOk, ordB, Rec.free, Rec.wr, disj, List.range, List.range.loop, f1, f2, f3, f4, f5, f6, f7, f8, f9, f10, f11]; try (repeat' (first | apply And.intro | decide | omega | (left; decide) | (right; omega)))) ?_
            rcases hq.hn with ⟨z0, z1, z2⟩ | ⟨z0, id, z1, z2, z3⟩
            · repeat' (first | (simp -implicitDefEqProofs only [ze, zd, zr, simprocAttr, LR_pl, LR_hp, LR_hm, cunr_n, cunr_x, cunr_r, cunr_p, List.any_cons, List.any_nil, List.flatten_cons, List.flatten_nil, List.replicate_succ, List.replicate_zero, Bool.or_false, Bool.false_or, List.flatMap_cons, List.flatMap_nil, es, z2, h36, h35, h34, h6, h4, h8, hq.hk, hq.ho, f1, f2, f3, f4, f5, f6, f7, f8, f9, f10, f11, f12, f13, ne_eq, not_true_eq_false]) | (with_reducible refine wgd_cases ?_ ?_ <;> intro hb) | (with_reducible refine wcond_cases ?_ ?_ <;> intro hb) | (with_reducible refine W_itn_cases ?_ ?_; omega))
              have hi0 : i = 0 := by have : (l.take i).length = 0 := z0; omega
              have hte : l.take i = [] := List.eq_nil_of_length_eq_zero z0
              refine ⟨l.length - (i + 1), by omega, i + 1, .sl 9 false 1 (nx1 + 272) 0 (l.take (i + 1)).length, rfl, by omega, hne, up64 (by omega), ?_, by omega, fun j hj => ?_, ?_⟩
              · first | (rw [if_neg (by omega)]; done) | (simp (disch := omega) only [if_neg]; done) | (simp (disch := omega) only [if_neg]; exact h8)
              · simp (disch := omega) only [if_neg]; exact hst j hj
              · obtain ⟨d, hda⟩ := hq.ha
                refine ⟨?_, ?_, ⟨d, ?_⟩, .inr ⟨(by show 0 < (l.take (i + 1)).length; omega), nx1 + 272, ⟨by omega, by omega⟩, rfl, ?_⟩, .inl ⟨rfl, rfl, rfl⟩, ⟨by omega, by omega⟩, ⟨by omega, by omega⟩, ⟨by omega, by omega⟩, by omega⟩
                · rw [hlt2]; simp [upd, hi0]
                · simp [upd, f1, f2, f3, f4, f5, f6, f7, f8, f9, f10, f11]
                · simp [upd, f1, f2, f3, f4, f5, f6, f7, f8, f9, f10, f11]; exact hda
                · rw [hlt2, htk]; simp [upd, f1, f2, f3, f4, f5, f6, f7, f8, f9, f10, f11, hi0, hte]
            · have hr := hq.row z3
              have i1 : ∀ j, (id = nx1 + j) = False := fun j => eq_false (by omega)
              have i2 : ∀ j, (nx1 + j = id) = False := fun j => eq_false (by omega)
              have i3 : (id = nx + 168) = False := eq_false hr.2.1
              have i4 : (id = nx + 176) = False := eq_false hr.2.2
              have i5 : (id = nx + 192) = False := eq_false hr.1
              have i6 : (nx + 192 = id) = False := eq_false (Ne.symm hr.1)
              have i7 : (nx + 8 = id) = False := eq_false fun e => by rw [e, z3] at h8; cases h8
              have i8 : (nx + 168 = id) = False := eq_false (Ne.symm hr.2.1)
              have i9 : (nx + 176 = id) = False := eq_false (Ne.symm hr.2.2)
              repeat' (first | (simp -implicitDefEqProofs only [ze, zd, zr, simprocAttr, LR_pl, LR_hp, LR_hm, cunr_n, cunr_x, cunr_r, cunr_p, List.any_cons, List.any_nil, List.flatten_cons, List.flatten_nil, List.replicate_succ, List.replicate_zero, Bool.or_false, Bool.false_or, List.flatMap_cons, List.flatMap_nil, es, z2, z3, h36, h35, h34, h6, h4, h8, hq.hk, hq.ho, f1, f2, f3, f4, f5, f6, f7, f8, f9, f10, f11, f12, f13, i1, i2, i3, i4, i5, i6, i7, i8, i9, ne_eq, not_true_eq_false]) | (with_reducible refine wgd_cases ?_ ?_ <;> intro hb) | (with_reducible refine wcond_cases ?_ ?_ <;> intro hb) | (with_reducible refine W_itn_cases ?_ ?_; omega))
              refine ⟨l.length - (i + 1), by omega, i + 1, .sl 9 false 1 (nx1 + 272) 0 (l.take (i + 1)).length, rfl, by omega, hne, up64 (by omega), ?_, by omega, fun j hj => ?_, ?_⟩
              · first | (rw [if_neg (by omega)]; done) | (simp (disch := omega) only [if_neg]; done) | (simp (disch := omega) only [if_neg]; exact h8)
              · simp (disch := omega) only [if_neg]; exact hst j hj
              · obtain ⟨d, hda⟩ := hq.ha
                refine ⟨?_, ?_, ⟨d, ?_⟩, .inr ⟨(by show 0 < (l.take (i + 1)).length; omega), nx1 + 272, ⟨by omega, by omega⟩, rfl, ?_⟩, .inl ⟨rfl, rfl, rfl⟩, ⟨by omega, by omega⟩, ⟨by omega, by omega⟩, ⟨by omega, by omega⟩, by omega⟩
                · rw [hlt2]; simp [upd, hlt]
                · simp [upd, i8, f1, f2, f3, f4, f5, f6, f7, f8, f9, f10, f11]
                · simp [upd, f1, f2, f3, f4, f5, f6, f7, f8, f9, f10, f11, i7, i8, i9]; exact hda
                · rw [hlt2, htk]; simp [upd, f1, f2, f3, f4, f5, f6, f7, f8, f9, f10, f11, hlt]
      · have hd : decide ((i : Int) < (l.length : Int)) = false := decide_eq_false (by omega)
        have hil : i = l.length := by omega
        repeat' (first | (simp -implicitDefEqProofs only [ze, zd, zr, simprocAttr, LR_pl, LR_hp, LR_hm, cunr_n, cunr_x, cunr_r, cunr_p, List.any_cons, List.any_nil, List.flatten_cons, List.flatten_nil, List.replicate_succ, List.replicate_zero, Bool.or_false, Bool.false_or, List.flatMap_cons, List.flatMap_nil, hd, h36, h35, h34, h6, h4, h8, hq.hk, k10_t0]) | (with_reducible refine wgd_cases ?_ ?_ <;> intro hb) | (with_reducible refine wcond_cases ?_ ?_ <;> intro hb) | (with_reducible refine W_itn_cases ?_ ?_; omega))
        have htl : l.take i = l := by rw [hil]; exact List.take_length
        have hdl : l.drop i = [] := by rw [hil]; exact List.drop_length
        rw [hdl, newE] at hne
        rw [htl] at hq
        refine W_hp (sort_ok (nx := nx1 + 48) hq.hn hl) ?_
        rintro _ ⟨st2, rfl, hr2, hs2⟩
        repeat' (first | (simp -implicitDefEqProofs only [ze, zd, zr, simprocAttr, LR_pl, LR_hp, LR_hm, cunr_n, cunr_x, cunr_r, cunr_p, List.any_cons, List.any_nil, List.flatten_cons, List.flatten_nil, List.replicate_succ, List.replicate_zero, Bool.or_false, Bool.false_or, List.flatMap_cons, List.flatMap_nil, h6]) | (with_reducible refine wgd_cases ?_ ?_ <;> intro hb) | (with_reducible refine wcond_cases ?_ ?_ <;> intro hb) | (with_reducible refine W_itn_cases ?_ ?_; omega))
        have sid : ∀ i, (∀ n cs, st1 i = some (.row 9 1 n cs) → False) → st2 i = st1 i := fun i hi => hs2 i fun id hv he => by
          subst he
          rcases hq.hn with ⟨_, _, z⟩ | ⟨_, id2, _, z, z3⟩
          · rw [hv] at z; cases z
          · rw [hv] at z; cases z; exact hi _ _ z3
        obtain ⟨d, hda⟩ := hq.ha
        refine .inr ⟨hne, nx + 192, st2, nx1 + 72, rfl, ?_, ⟨nx + 168, nx + 176, vn, .list 0 [] 1, ?_, ?_, ⟨d, ?_⟩, ?_, .inl ⟨rfl, rfl, rfl⟩, ⟨by omega, by omega⟩, ⟨by omega, by omega⟩, ⟨by omega, by omega⟩, by omega⟩, fun j hj => ?_⟩
        · omega
        · rw [sid _ (fun n cs q => by rw [hq.hk] at q; cases q)]; exact hq.hk
        · rw [sid _ (fun n cs q => by rw [hq.ho] at q; cases q)]; exact hq.ho
        · rw [sid _ (fun n cs q => by rw [hda] at q; cases q)]; exact hda
        · exact hr2.mono (fun i hi => ⟨hi.1, by omega⟩) (fun _ _ => rfl)
        · rw [← hst j hj]
          refine hs2 j fun id hv he => ?_
          subst he
          rcases hq.hn with ⟨_, _, z⟩ | ⟨_, id2, z1, z, z3⟩
          · rw [hv] at z; cases z
          · rw [hv] at z; cases z; omega
  · rw [if_pos h0]
    have g0 : decide (s3 = 0) = false := decide_eq_false h0
    repeat' (first | (simp -implicitDefEqProofs only [ze, zd, zr, simprocAttr, LR_pl, LR_hp, LR_hm, cunr_n, cunr_x, cunr_r, cunr_p, List.any_cons, List.any_nil, List.flatten_cons, List.flatten_nil, List.replicate_succ, List.replicate_zero, Bool.or_false, Bool.false_or, List.flatMap_cons, List.flatMap_nil, hsp, f1, g0, ne_eq, not_true_eq_false]) | (with_reducible refine wgd_cases ?_ ?_ <;> intro hb) | (with_reducible refine wcond_cases ?_ ?_ <;> intro hb) | (with_reducible refine W_itn_cases ?_ ?_; omega))
    refine .inl ⟨h0, _, _, rfl, by omega, fun i hi => ?_⟩
    simp (disch := omega) only [upds, upd, List.foldl_cons, List.foldl_nil, if_neg]
end Go.Proofs.YthgmhlpjbednpaaDoor.Vm
set_option maxRecDepth 10000
set_option linter.unusedVariables false
set_option linter.unusedSimpArgs false
namespace Go.Proofs.YthgmhlpjbednpaaDoor.Vm
open Go Go.Proofs
def actK (a : Lk) (o : Op) : Lk × Int := if o.act % 3 = 0 then closeK a o.ent o.usr else if o.act % 3 = 1 then askK a o.ent o.usr else reopenK a o.ent o.usr
theorem klarge_ok (l1 l2 : List V) (e1 e2 r1 r2 : Nat) : L.pl 9 [.list e1 l1 r1, .list e2 l2 r2] = some (.ret (.bool (decide (210 < l1.length) || decide (40 < l2.length)))) := by
  refine W_of (pl_w k9_eq ?_)
  simp only [k9]
  repeat' (first | (simp -implicitDefEqProofs only [ze, zd, simprocAttr, gt_iff_lt]) | (with_reducible refine wgd_cases ?_ ?_ <;> intro hb) | (with_reducible refine wcond_cases ?_ ?_ <;> intro hb) | (with_reducible refine qd_i (by kernel_rfl) ?_) | (with_reducible refine W_itn_cases ?_ ?_; omega))
  all_goals (refine ret_b (Bool.eq_iff_iff.mpr ?_); simp_all; try omega)
end Go.Proofs.YthgmhlpjbednpaaDoor.Vm
set_option maxRecDepth 10000
set_option linter.unusedVariables false
set_option linter.unusedSimpArgs false
namespace Go.Proofs.YthgmhlpjbednpaaDoor.Vm
open Go Go.Proofs
def perC (p : Int × Int) : List V := [.i64 p.1, .i64 p.2]
structure RLk where
  c : Int
  s : Int × Int
  nm : List ByteArray
  fs : List (Int × Int)
  ak : List ByteArray
  ev : List Ev
def rRows (S : Nat → Prop) (st : St) (a : RLk) (vn vf va : V) : Prop :=
  (a.nm = [] ∧ vn = .list 0 [] 1 ∧ vf = .list 0 [] 1 ∧ va = .list 0 [] 1) ∨
  (0 < a.nm.length ∧ ∃ n f g, S n ∧ S f ∧ S g ∧ n ≠ g ∧ vn = .sl 9 false 1 n 0 a.nm.length ∧ vf = .sl 25 true 2 f 0 a.nm.length ∧ va = .sl 9 false 1 g 0 a.nm.length ∧
    st n = some (.row 9 1 a.nm.length (a.nm.map V.str)) ∧ st f = some (.row 25 2 a.nm.length (a.fs.flatMap perC)) ∧ st g = some (.row 9 1 a.nm.length (a.ak.map V.str)))
structure RLKp (k : Nat) (a : RLk) (S : Nat → Prop) (st : St) (vn vf va ve : V) : Prop where
  hk : st k = some (.cells [.i64 a.c, .i64 a.s.1, .i64 a.s.2, vn, vf, va, ve])
  rows : rRows S st a vn vf va
  he : rowV S st 50 true 5 a.ev.length (a.ev.flatMap evC) ve
  sk : S k
  lf : a.fs.length = a.nm.length
  la : a.ak.length = a.nm.length
def RLK (k : Nat) (a : RLk) (S : Nat → Prop) (st : St) : Prop := ∃ vn vf va ve, RLKp k a S st vn vf va ve
theorem rRows.mono {S S' : Nat → Prop} {st st' : St} {a : RLk} {vn vf va : V} (h : rRows S st a vn vf va) (hS : ∀ i, S i → S' i) (hs : ∀ i, S i → st' i = st i) : rRows S' st' a vn vf va := by
  rcases h with h | ⟨h0, n, f, g, s1, s2, s3, h1, h2, h3, h4, h5, h6, h7⟩
  · exact .inl h
  · exact .inr ⟨h0, n, f, g, hS _ s1, hS _ s2, hS _ s3, h1, h2, h3, h4, by rw [hs _ s1]; exact h5, by rw [hs _ s2]; exact h6, by rw [hs _ s3]; exact h7⟩
theorem RLK.mono {k : Nat} {a : RLk} {S S' : Nat → Prop} {st st' : St} (h : RLK k a S st) (hS : ∀ i, S i → S' i) (hs : ∀ i, S i → st' i = st i) : RLK k a S' st' := by
  obtain ⟨vn, vf, va, ve, h⟩ := h
  exact ⟨vn, vf, va, ve, by rw [hs _ h.sk]; exact h.hk, h.rows.mono hS hs, h.he.mono hS hs, hS _ h.sk, h.lf, h.la⟩
def idxR : List ByteArray → ByteArray → Option Nat
  | [], _ => none
  | s :: l, e => if s = e then some 0 else (idxR l e).map (· + 1)
def atZ (l : List ByteArray) (e : ByteArray) : Int := match idxR l e with
  | some i => i
  | none => -1
theorem idxR_none {l : List ByteArray} {e : ByteArray} (h : ∀ (j : Nat) (s : ByteArray), l[j]? = some s → s ≠ e) : idxR l e = none := by
  induction l with
  | nil => rfl
  | cons s l ih =>
    rw [idxR, if_neg (h 0 s rfl), ih (fun j t ht => h (j + 1) t (by simpa using ht))]; rfl
theorem idxR_some {l : List ByteArray} {e : ByteArray} {i : Nat} (hi : l[i]? = some e) (h : ∀ (j : Nat) (s : ByteArray), j < i → l[j]? = some s → s ≠ e) : idxR l e = some i := by
  induction l generalizing i with
  | nil => simp at hi
  | cons s l ih =>
    cases i with
    | zero => simp at hi; rw [idxR, if_pos hi]
    | succ i =>
      rw [idxR, if_neg (h 0 s (by omega) rfl), ih (by simpa using hi) (fun j t hj ht => h (j + 1) t (by omega) (by simpa using ht))]; rfl
theorem idxR_get {l : List ByteArray} {e : ByteArray} {i : Nat} (h : idxR l e = some i) : l[i]? = some e := by
  induction l generalizing i with
  | nil => simp [idxR] at h
  | cons s l ih =>
    rw [idxR] at h
    split at h
    · rename_i hs; simp at h; subst h; subst hs; rfl
    · rw [Option.map_eq_some_iff] at h
      obtain ⟨j, hj, rfl⟩ := h
      simpa using ih hj
theorem rat_ok {k : Nat} {a : RLk} {S : Nat → Prop} {st : St} {nx : Nat} (h : RLK k a S st) (hl : a.nm.length ≤ 1000000) (e : ByteArray) : W (L.hp 35 [.ptr k 0, .str e] st nx) (Still st nx (.i64 (atZ a.nm e))) := by
  obtain ⟨vn, vf, va, ve, h⟩ := h
  refine hp_r k35_eq ?_
  simp only [k35]
  repeat' (first | (simp -implicitDefEqProofs only [ze, zd, zr, simprocAttr, LR_pl, LR_hp, LR_hm, cunr_n, cunr_x, cunr_r, cunr_p, List.any_cons, List.any_nil, List.flatten_cons, List.flatten_nil, List.replicate_succ, List.replicate_zero, Bool.or_false, Bool.false_or, List.flatMap_cons, List.flatMap_nil]) | (with_reducible refine wgd_cases ?_ ?_ <;> intro hb) | (with_reducible refine wcond_cases ?_ ?_ <;> intro hb) | (with_reducible refine W_itn_cases ?_ ?_; omega))
  refine loop_w (fun n tm st' nx' => ∃ i : Nat, n = a.nm.length - i ∧ i ≤ a.nm.length ∧ tm 5 = .i64 i ∧ tm 0 = .ptr k 0 ∧ tm 1 = .str e ∧ st' = st ∧ nx ≤ nx' ∧ ∀ (j : Nat) (s : ByteArray), j < i → a.nm[j]? = some s → s ≠ e) _ ⟨0, rfl, by omega, ?_, ?_, ?_, rfl, by omega, fun j s hj => by omega⟩ ?_
  · simp -implicitDefEqProofs only [ze, zd, simprocAttr]; try rfl
  · simp -implicitDefEqProofs only [ze, zd, simprocAttr]
  · simp -implicitDefEqProofs only [ze, zd, simprocAttr]
  rintro n tm st' nx' ⟨i, hn, hi, h5, h0, h1, rfl, hnx, hno⟩
  simp only [k35_l0]
  rcases h.rows with ⟨z0, rfl, rfl, rfl⟩ | ⟨z0, nn, f, g, s1, s2, s3, q1, rfl, rfl, rfl, q5, q6, q7⟩
  · have hi0 : i = 0 := by rw [z0] at hi; simpa using hi
    subst hi0
    have ez : atZ a.nm e = -1 := by rw [z0]; rfl
    rw [ez]
    repeat' (first | (simp -implicitDefEqProofs only [ze, zd, zr, simprocAttr, LR_pl, LR_hp, LR_hm, cunr_n, cunr_x, cunr_r, cunr_p, List.any_cons, List.any_nil, List.flatten_cons, List.flatten_nil, List.replicate_succ, List.replicate_zero, Bool.or_false, Bool.false_or, List.flatMap_cons, List.flatMap_nil, h5, h0, h1, h.hk, k35_t0]) | (with_reducible refine wgd_cases ?_ ?_ <;> intro hb) | (with_reducible refine wcond_cases ?_ ?_ <;> intro hb) | (with_reducible refine W_itn_cases ?_ ?_; omega))
    exact ⟨_, _, rfl, by omega, fun i hi => rfl⟩
  · by_cases hc : i < a.nm.length
    · have hd : decide ((i : Int) < (a.nm.length : Int)) = true := decide_eq_true (by omega)
      obtain ⟨s, hs⟩ := get_lt hc
      have hs2 : (a.nm.map V.str)[i]? = some (.str s) := by rw [List.getElem?_map, hs]; rfl
      by_cases hse : s = e
      · have ge : decide (s = e) = true := decide_eq_true hse
        have ez : atZ a.nm e = i := by unfold atZ; rw [idxR_some (by rw [hs, hse]) hno]
        rw [ez]
        repeat' (first | (simp -implicitDefEqProofs only [ze, zd, zr, simprocAttr, LR_pl, LR_hp, LR_hm, cunr_n, cunr_x, cunr_r, cunr_p, List.any_cons, List.any_nil, List.flatten_cons, List.flatten_nil, List.replicate_succ, List.replicate_zero, Bool.or_false, Bool.false_or, List.flatMap_cons, List.flatMap_nil, h5, h0, h1, h.hk, q5, hd, hs, hs2, ge, Nat.mul_one, Nat.zero_add]) | (with_reducible refine wgd_cases ?_ ?_ <;> intro hb) | (with_reducible refine wcond_cases ?_ ?_ <;> intro hb) | (with_reducible refine W_itn_cases ?_ ?_; omega))
        exact ⟨_, _, rfl, by omega, fun i hi => rfl⟩
      · have ge : decide (s = e) = false := decide_eq_false hse
        repeat' (first | (simp -implicitDefEqProofs only [ze, zd, zr, simprocAttr, LR_pl, LR_hp, LR_hm, cunr_n, cunr_x, cunr_r, cunr_p, List.any_cons, List.any_nil, List.flatten_cons, List.flatten_nil, List.replicate_succ, List.replicate_zero, Bool.or_false, Bool.false_or, List.flatMap_cons, List.flatMap_nil, h5, h0, h1, h.hk, q5, hd, hs, hs2, ge, Nat.mul_one, Nat.zero_add]) | (with_reducible refine wgd_cases ?_ ?_ <;> intro hb) | (with_reducible refine wcond_cases ?_ ?_ <;> intro hb) | (with_reducible refine W_itn_cases ?_ ?_; omega))
        refine ⟨a.nm.length - (i + 1), by omega, i + 1, rfl, by omega, up64 (by omega), by omega, fun j t hj ht => ?_⟩
        by_cases hji : j = i
        · subst hji; rw [hs] at ht; obtain rfl := Option.some.inj ht; exact hse
        · exact hno j t (by omega) ht
    · have hd : decide ((i : Int) < (a.nm.length : Int)) = false := decide_eq_false (by omega)
      have ez : atZ a.nm e = -1 := by
        unfold atZ
        rw [idxR_none (fun j s hj => hno j s (by have := (List.getElem?_eq_some_iff.1 hj).1; omega) hj)]
      rw [ez]
      repeat' (first | (simp -implicitDefEqProofs only [ze, zd, zr, simprocAttr, LR_pl, LR_hp, LR_hm, cunr_n, cunr_x, cunr_r, cunr_p, List.any_cons, List.any_nil, List.flatten_cons, List.flatten_nil, List.replicate_succ, List.replicate_zero, Bool.or_false, Bool.false_or, List.flatMap_cons, List.flatMap_nil, h5, h0, h1, h.hk, hd, k35_t0]) | (with_reducible refine wgd_cases ?_ ?_ <;> intro hb) | (with_reducible refine wcond_cases ?_ ?_ <;> intro hb) | (with_reducible refine W_itn_cases ?_ ?_; omega))
      exact ⟨_, _, rfl, by omega, fun i hi => rfl⟩
theorem atZ_none {l : List ByteArray} {e : ByteArray} (h : idxR l e = none) : atZ l e = -1 := by unfold atZ; rw [h]
theorem atZ_some {l : List ByteArray} {e : ByteArray} {i : Nat} (h : idxR l e = some i) : atZ l e = i := by unfold atZ; rw [h]
def whoR (a : RLk) (e u : ByteArray) : Int := if idxR a.nm e = none then 1 else if codeS u = false then 7 else 0
def firstR (a : RLk) (e : ByteArray) : (Int × Int) × Int := match idxR a.nm e with
  | some i => (a.fs.getD i (0, 0), 0)
  | none => ((0, 0), 1)
end Go.Proofs.YthgmhlpjbednpaaDoor.Vm
set_option maxRecDepth 10000
set_option linter.unusedVariables false
set_option linter.unusedSimpArgs false
namespace Go.Proofs.YthgmhlpjbednpaaDoor.Vm
open Go Go.Proofs
def lastR (a : RLk) (i : Nat) : (Int × Int) × Bool :=
  if a.fs.getD i (0, 0) = a.s then ((0, 0), false) else ((prevP a.c (a.fs.getD i (0, 0)).1 (a.fs.getD i (0, 0)).2).1, decide ((prevP a.c (a.fs.getD i (0, 0)).1 (a.fs.getD i (0, 0)).2).2 = 0))
end Go.Proofs.YthgmhlpjbednpaaDoor.Vm
set_option maxRecDepth 10000
set_option linter.unusedVariables false
set_option linter.unusedSimpArgs false
namespace Go.Proofs.YthgmhlpjbednpaaDoor.Vm
open Go Go.Proofs
def closeR (a : RLk) (e u : ByteArray) : RLk × Int :=
  if whoR a e u ≠ 0 then (a, whoR a e u) else match idxR a.nm e with
    | none => (a, 1)
    | some i =>
      if (nextP a.c (a.fs.getD i (0, 0)).1 (a.fs.getD i (0, 0)).2).2 ≠ 0 then (a, 16)
      else ({ a with ev := a.ev ++ [⟨8, e, a.fs.getD i (0, 0), u⟩], fs := a.fs.set i (nextP a.c (a.fs.getD i (0, 0)).1 (a.fs.getD i (0, 0)).2).1, ak := a.ak.set i ⟨#[]⟩ }, 0)
end Go.Proofs.YthgmhlpjbednpaaDoor.Vm
set_option maxRecDepth 10000
set_option linter.unusedVariables false
set_option linter.unusedSimpArgs false
namespace Go.Proofs.YthgmhlpjbednpaaDoor.Vm
open Go Go.Proofs
def askR (a : RLk) (e u : ByteArray) : RLk × Int :=
  if whoR a e u ≠ 0 then (a, whoR a e u) else match idxR a.nm e with
    | none => (a, 1)
    | some i => if (lastR a i).2 = false then (a, 18) else ({ a with ev := a.ev ++ [⟨9, e, (lastR a i).1, u⟩], ak := a.ak.set i u }, 0)
def reopenR (a : RLk) (e u : ByteArray) : RLk × Int :=
  if whoR a e u ≠ 0 then (a, whoR a e u) else match idxR a.nm e with
    | none => (a, 1)
    | some i => if a.ak.getD i ⟨#[]⟩ = ⟨#[]⟩ then (a, 18) else if a.ak.getD i ⟨#[]⟩ = u then (a, 19) else ({ a with ev := a.ev ++ [⟨10, e, (lastR a i).1, u⟩], fs := a.fs.set i (lastR a i).1, ak := a.ak.set i ⟨#[]⟩ }, 0)
end Go.Proofs.YthgmhlpjbednpaaDoor.Vm
set_option maxRecDepth 10000
set_option linter.unusedVariables false
set_option linter.unusedSimpArgs false
namespace Go.Proofs.YthgmhlpjbednpaaDoor.Vm
open Go Go.Proofs
def wantK (a : RLk) (o : Op) : RLk × Int := if o.act % 3 = 0 then closeR a o.ent o.usr else if o.act % 3 = 1 then askR a o.ent o.usr else reopenR a o.ent o.usr
end Go.Proofs.YthgmhlpjbednpaaDoor.Vm
set_option linter.unusedVariables false
set_option linter.unusedSimpArgs false
namespace Go.Proofs.YthgmhlpjbednpaaDoor.Vm
open Go Go.Proofs
def TwoAt (l : List Ev) (i : Nat) (x : Ev) : Prop := ∃ (j : Nat) (y : Ev), j < i ∧ l[j]? = some y ∧ y.e = x.e ∧ (∀ (m : Nat) (z : Ev), j < m → m < i → l[m]? = some z → z.e ≠ x.e) ∧ y.k = 9 ∧ y.u ≠ x.u ∧ y.p = x.p
def TwoOk (l : List Ev) : Prop := ∀ (i : Nat) (x : Ev), l[i]? = some x → x.k = 10 → TwoAt l i x
def LastAsk (l : List Ev) (e v : ByteArray) (p : Int × Int) : Prop := ∃ (j : Nat) (y : Ev), l[j]? = some y ∧ y.e = e ∧ (∀ (m : Nat) (z : Ev), j < m → l[m]? = some z → z.e ≠ e) ∧ y.k = 9 ∧ y.u = v ∧ y.p = p
structure TwoInv (a : Lk) : Prop where
  ok : TwoOk a.ev
  nd : (a.ak.map (·.1)).Nodup
  la : ∀ e v, aget a.ak e = some v → ∃ p0, aget a.op e = some p0 ∧ LastAsk a.ev e v (prevP a.c p0.1 p0.2).1
theorem get_app_lt {α : Type} {l : List α} {x y : α} {j : Nat} (h : l[j]? = some y) : (l ++ [x])[j]? = some y := by
  rw [List.getElem?_append_left (List.getElem?_eq_some_iff.1 h).1]; exact h
theorem get_app_inv {α : Type} {l : List α} {x y : α} {j : Nat} (h : (l ++ [x])[j]? = some y) : l[j]? = some y ∨ (j = l.length ∧ y = x) := by
  by_cases hj : j < l.length
  · rw [List.getElem?_append_left hj] at h; exact .inl h
  · rw [List.getElem?_append_right (by omega)] at h
    have h1 := (List.getElem?_eq_some_iff.1 h).1
    simp at h1
    have : j = l.length := by omega
    subst this
    simp at h
    exact .inr ⟨rfl, h.symm⟩
theorem TwoOk.app {l : List Ev} {x : Ev} (h : TwoOk l) (hx : x.k = 10 → TwoAt l l.length x) : TwoOk (l ++ [x]) := by
  have lift : ∀ i z, i ≤ l.length → TwoAt l i z → TwoAt (l ++ [x]) i z := by
    rintro i z hi ⟨j, y, h1, h2, h3, h4, h5⟩
    refine ⟨j, y, h1, get_app_lt h2, h3, fun m w hm hm2 hw => ?_, h5⟩
    rcases get_app_inv hw with hw | ⟨hw, _⟩
    · exact h4 m w hm hm2 hw
    · omega
  intro i z hz hk
  rcases get_app_inv hz with hz | ⟨rfl, rfl⟩
  · exact lift i z (Nat.le_of_lt (List.getElem?_eq_some_iff.1 hz).1) (h i z hz hk)
  · exact lift _ _ (Nat.le_refl _) (hx hk)
theorem LastAsk.app {l : List Ev} {e v : ByteArray} {p : Int × Int} {x : Ev} (h : LastAsk l e v p) (hx : x.e ≠ e) : LastAsk (l ++ [x]) e v p := by
  obtain ⟨j, y, h1, h2, h3, h4⟩ := h
  refine ⟨j, y, get_app_lt h1, h2, fun m z hm hz => ?_, h4⟩
  rcases get_app_inv hz with hz | ⟨_, rfl⟩
  · exact h3 m z hm hz
  · exact hx
theorem LastAsk.new (l : List Ev) (e u : ByteArray) (p : Int × Int) : LastAsk (l ++ [⟨9, e, p, u⟩]) e u p := by
  refine ⟨l.length, ⟨9, e, p, u⟩, by simp, rfl, fun m z hm hz => ?_, rfl, rfl, rfl⟩
  have := (List.getElem?_eq_some_iff.1 hz).1
  simp at this
  omega
theorem LastAsk.two {l : List Ev} {e v u : ByteArray} {p : Int × Int} (h : LastAsk l e v p) (hu : v ≠ u) : TwoAt l l.length ⟨10, e, p, u⟩ := by
  obtain ⟨j, y, h1, h2, h3, h4, h5, h6⟩ := h
  exact ⟨j, y, (List.getElem?_eq_some_iff.1 h1).1, h1, h2, fun m z hm _ hz => h3 m z hm hz, h4, by rw [h5]; exact hu, h6⟩
theorem TwoInv.del {a : Lk} (h : TwoInv a) {e : ByteArray} {p0 q : Int × Int} (hp : aget a.op e = some p0) {x : Ev} (hx : x.e = e) (hk : x.k = 10 → TwoAt a.ev a.ev.length x) : TwoInv { a with op := aset a.op e q, ak := adel a.ak e, ev := a.ev ++ [x] } := by
  refine ⟨h.ok.app hk, h.nd.sublist adel_sub, fun e2 v hv => ?_⟩
  simp only at hv ⊢
  rw [aget_del h.nd] at hv
  by_cases he : e2 = e
  · rw [if_pos he] at hv; cases hv
  · rw [if_neg he] at hv
    obtain ⟨p1, h1, h2⟩ := h.la e2 v hv
    exact ⟨p1, by rw [aget_set, if_neg he]; exact h1, h2.app (by rw [hx]; exact fun q => he q.symm)⟩
theorem TwoInv.close {a : Lk} (h : TwoInv a) (e u : ByteArray) : TwoInv (closeK a e u).1 := by
  unfold closeK
  split
  · exact h
  · rename_i h0
    split
    · exact h
    · obtain ⟨hg, _⟩ := beginK_zero (Classical.not_not.1 h0)
      exact h.del hg rfl (fun hk => by simp at hk)
theorem TwoInv.ask {a : Lk} (h : TwoInv a) (e u : ByteArray) : TwoInv (askK a e u).1 := by
  unfold askK
  split
  · exact h
  · rename_i h0
    split
    · exact h
    · split
      · exact h
      · obtain ⟨hg, _⟩ := beginK_zero (Classical.not_not.1 h0)
        refine ⟨h.ok.app (fun hk => by simp at hk), aset_nodup h.nd, fun e2 v hv => ?_⟩
        simp only at hv ⊢
        rw [aget_set] at hv
        by_cases he : e2 = e
        · rw [if_pos he] at hv
          obtain rfl := Option.some.inj hv
          subst he
          exact ⟨_, hg, LastAsk.new ..⟩
        · rw [if_neg he] at hv
          obtain ⟨p1, h1, h2⟩ := h.la e2 v hv
          exact ⟨p1, h1, h2.app fun q => he q.symm⟩
theorem TwoInv.reopen {a : Lk} (h : TwoInv a) (e u : ByteArray) : TwoInv (reopenK a e u).1 := by
  unfold reopenK
  split
  · exact h
  · rename_i h0
    obtain ⟨hg, _⟩ := beginK_zero (Classical.not_not.1 h0)
    split
    · exact h
    · rename_i v hv
      split
      · exact h
      · rename_i hvu
        split
        · exact h
        · obtain ⟨p1, h1, h2⟩ := h.la e v hv
          rw [hg] at h1
          obtain rfl := Option.some.inj h1
          exact h.del hg rfl (fun _ => h2.two hvu)
theorem TwoInv.act {a : Lk} (h : TwoInv a) (o : Op) : TwoInv (actK a o).1 := by
  unfold actK
  split
  · exact h.close _ _
  · split
    · exact h.ask _ _
    · exact h.reopen _ _
theorem TwoInv.new (c : Int) (p : Int × Int) (l : List ByteArray) : TwoInv (newLk c p l) := ⟨fun i x hx => by simp [newLk] at hx, List.nodup_nil, fun e v hv => by simp [newLk, aget, aidx] at hv⟩
end Go.Proofs.YthgmhlpjbednpaaDoor.Vm
set_option linter.unusedVariables false
set_option linter.unusedSimpArgs false
namespace Go.Proofs.YthgmhlpjbednpaaDoor.Vm
open Go Go.Proofs
def opR (b : RLk) (e : ByteArray) : Option (Int × Int) := (idxR b.nm e).map fun i => b.fs.getD i (0, 0)
def akR (b : RLk) (e : ByteArray) : Option ByteArray := (idxR b.nm e).bind fun i => if b.ak.getD i ⟨#[]⟩ = ⟨#[]⟩ then none else some (b.ak.getD i ⟨#[]⟩)
structure KRel (a : Lk) (b : RLk) : Prop where
  c : a.c = b.c
  s : a.s = b.s
  ev : a.ev = b.ev
  op : ∀ e, aget a.op e = opR b e
  ak : ∀ e, aget a.ak e = akR b e
  nd : (a.ak.map (·.1)).Nodup
  lf : b.fs.length = b.nm.length
  la : b.ak.length = b.nm.length
  asked : ∀ e v, aget a.ak e = some v → ∃ p, aget a.op e = some p ∧ p ≠ a.s ∧ (prevP a.c p.1 p.2).2 = 0
theorem KRel.first {a : Lk} {b : RLk} (h : KRel a b) (e : ByteArray) : firstK a e = firstR b e := by
  unfold firstK firstR
  rw [h.op e]
  unfold opR
  cases idxR b.nm e <;> rfl
theorem KRel.begin {a : Lk} {b : RLk} (h : KRel a b) (e u : ByteArray) : (beginK a e u).2 = whoR b e u ∧ (whoR b e u = 0 → ∃ i, idxR b.nm e = some i ∧ (beginK a e u).1 = b.fs.getD i (0, 0) ∧ codeS u = true) := by
  unfold beginK whoR
  rw [h.first e]
  unfold firstR
  cases hi : idxR b.nm e with
  | none => simp
  | some i =>
    cases hu : codeS u with
    | true => simp
    | false => simp
theorem codeS_ne {u : ByteArray} (h : codeS u = true) : u ≠ ⟨#[]⟩ := by
  intro q
  subst q
  simp only [codeS, Bool.and_eq_true, decide_eq_true_eq] at h
  exact absurd h.1.1 (by decide)
theorem idx_ne {l : List ByteArray} {e e2 : ByteArray} {i j : Nat} (hi : idxR l e = some i) (hj : idxR l e2 = some j) (hne : e2 ≠ e) : i ≠ j := by
  intro q
  subst q
  have h1 := idxR_get hi
  have h2 := idxR_get hj
  rw [h1] at h2
  exact hne (Option.some.inj h2).symm
theorem getD_set {α : Type} (l : List α) (i j : Nat) (v d : α) (hi : i < l.length) : (l.set i v).getD j d = if i = j then v else l.getD j d := by
  rw [List.getD_eq_getElem?_getD, List.getElem?_set, List.getD_eq_getElem?_getD]
  split
  · rename_i h; subst h; simp [hi]
  · rfl
theorem KRel.set {a : Lk} {b : RLk} (h : KRel a b) {e : ByteArray} {i : Nat} (hi : idxR b.nm e = some i) (q : Int × Int) (x : Ev) :
    KRel { a with op := aset a.op e q, ak := adel a.ak e, ev := a.ev ++ [x] } { b with ev := b.ev ++ [x], fs := b.fs.set i q, ak := b.ak.set i ⟨#[]⟩ } := by
  have hil : i < b.nm.length := (List.getElem?_eq_some_iff.1 (idxR_get hi)).1
  refine ⟨h.c, h.s, by simp [h.ev], fun e2 => ?_, fun e2 => ?_, h.nd.sublist adel_sub, by simp [h.lf], by simp [h.la], fun e2 v hv => ?_⟩
  · simp only [opR]
    rw [aget_set]
    by_cases he : e2 = e
    · subst he; rw [if_pos rfl, hi, Option.map_some, getD_set _ _ _ _ _ (by rw [h.lf]; exact hil), if_pos rfl]
    · rw [if_neg he, h.op e2]
      unfold opR
      cases hj : idxR b.nm e2 with
      | none => rfl
      | some j => rw [Option.map_some, Option.map_some, getD_set _ _ _ _ _ (by rw [h.lf]; exact hil), if_neg (idx_ne hi hj he)]
  · simp only [akR]
    rw [aget_del h.nd]
    by_cases he : e2 = e
    · subst he; rw [if_pos rfl, hi, Option.bind_some, getD_set _ _ _ _ _ (by rw [h.la]; exact hil), if_pos rfl, if_pos rfl]
    · rw [if_neg he, h.ak e2]
      unfold akR
      cases hj : idxR b.nm e2 with
      | none => rfl
      | some j => rw [Option.bind_some, Option.bind_some, getD_set _ _ _ _ _ (by rw [h.la]; exact hil), if_neg (idx_ne hi hj he)]
  · simp only at hv ⊢
    rw [aget_del h.nd] at hv
    by_cases he : e2 = e
    · rw [if_pos he] at hv; cases hv
    · rw [if_neg he] at hv
      obtain ⟨p, h1, h2⟩ := h.asked e2 v hv
      exact ⟨p, by rw [aget_set, if_neg he]; exact h1, h2⟩
theorem KRel.close {a : Lk} {b : RLk} (h : KRel a b) (e u : ByteArray) : (closeK a e u).2 = (closeR b e u).2 ∧ KRel (closeK a e u).1 (closeR b e u).1 := by
  obtain ⟨h1, h2⟩ := h.begin e u
  unfold closeK closeR
  rw [h1]
  by_cases h0 : whoR b e u = 0
  · obtain ⟨i, hi, hp, _⟩ := h2 h0
    have h0' : ¬ (whoR b e u ≠ 0) := by simp [h0]
    rw [if_neg h0', if_neg h0', hi, hp, h.c]
    dsimp only
    by_cases hq : (nextP b.c (b.fs.getD i (0, 0)).1 (b.fs.getD i (0, 0)).2).2 ≠ 0
    · rw [if_pos hq, if_pos hq]; exact ⟨rfl, h⟩
    · rw [if_neg hq, if_neg hq]
      refine ⟨rfl, ?_⟩
      have := h.set hi (nextP b.c (b.fs.getD i (0, 0)).1 (b.fs.getD i (0, 0)).2).1 ⟨8, e, b.fs.getD i (0, 0), u⟩
      rw [h.c] at this
      exact this
  · rw [if_pos h0, if_pos h0]; exact ⟨rfl, h⟩
theorem KRel.ask {a : Lk} {b : RLk} (h : KRel a b) (e u : ByteArray) : (askK a e u).2 = (askR b e u).2 ∧ KRel (askK a e u).1 (askR b e u).1 := by
  obtain ⟨h1, h2⟩ := h.begin e u
  unfold askK askR
  rw [h1]
  by_cases h0 : whoR b e u = 0
  · obtain ⟨i, hi, hp, hu⟩ := h2 h0
    have hil : i < b.nm.length := (List.getElem?_eq_some_iff.1 (idxR_get hi)).1
    have h0' : ¬ (whoR b e u ≠ 0) := by simp [h0]
    rw [if_neg h0', if_neg h0', hi, hp, h.c, h.s]
    dsimp only
    unfold lastR
    by_cases hs : b.fs.getD i (0, 0) = b.s
    · simp only [if_pos hs]; exact ⟨rfl, h⟩
    · simp only [if_neg hs]
      by_cases hq : (prevP b.c (b.fs.getD i (0, 0)).1 (b.fs.getD i (0, 0)).2).2 = 0
      · have hq1 : ¬ ((prevP b.c (b.fs.getD i (0, 0)).1 (b.fs.getD i (0, 0)).2).2 ≠ 0) := fun z => z hq
        have hq2 : ¬ (decide ((prevP b.c (b.fs.getD i (0, 0)).1 (b.fs.getD i (0, 0)).2).2 = 0) = false) := by rw [decide_eq_true hq]; decide
        rw [if_neg hq1, if_neg hq2]
        refine ⟨rfl, ⟨by first | rfl | exact h.c, by first | rfl | exact h.s, by simp [h.ev], fun e2 => ?_, fun e2 => ?_, aset_nodup h.nd, h.lf, by simp [h.la], fun e2 v hv => ?_⟩⟩
        · exact h.op e2
        · simp only [akR]
          rw [aget_set]
          by_cases he : e2 = e
          · subst he; rw [if_pos rfl, hi, Option.bind_some, getD_set _ _ _ _ _ (by rw [h.la]; exact hil), if_pos rfl, if_neg (codeS_ne hu)]
          · rw [if_neg he, h.ak e2]
            unfold akR
            cases hj : idxR b.nm e2 with
            | none => rfl
            | some j => rw [Option.bind_some, Option.bind_some, getD_set _ _ _ _ _ (by rw [h.la]; exact hil), if_neg (idx_ne hi hj he)]
        · simp only at hv ⊢
          rw [aget_set] at hv
          by_cases he : e2 = e
          · subst he
            refine ⟨b.fs.getD i (0, 0), ?_, hs, hq⟩
            rw [h.op e2]; unfold opR; rw [hi]; rfl
          · rw [if_neg he] at hv
            obtain ⟨p, q1, q2, q3⟩ := h.asked e2 v hv
            exact ⟨p, q1, by rw [← h.s]; exact q2, by rw [← h.c]; exact q3⟩
      · have hq2 : decide ((prevP b.c (b.fs.getD i (0, 0)).1 (b.fs.getD i (0, 0)).2).2 = 0) = false := decide_eq_false hq
        rw [if_pos hq, if_pos hq2]; exact ⟨rfl, h⟩
  · rw [if_pos h0, if_pos h0]; exact ⟨rfl, h⟩
theorem KRel.reopen {a : Lk} {b : RLk} (h : KRel a b) (e u : ByteArray) : (reopenK a e u).2 = (reopenR b e u).2 ∧ KRel (reopenK a e u).1 (reopenR b e u).1 := by
  obtain ⟨h1, h2⟩ := h.begin e u
  unfold reopenK reopenR
  rw [h1]
  by_cases h0 : whoR b e u = 0
  · obtain ⟨i, hi, hp, hu⟩ := h2 h0
    have h0' : ¬ (whoR b e u ≠ 0) := by simp [h0]
    rw [if_neg h0', if_neg h0', hi, hp]
    dsimp only
    have hak := h.ak e
    unfold akR at hak
    rw [hi, Option.bind_some] at hak
    by_cases hv : b.ak.getD i ⟨#[]⟩ = ⟨#[]⟩
    · rw [if_pos hv] at hak
      rw [hak, if_pos hv]; exact ⟨rfl, h⟩
    · rw [if_neg hv] at hak
      rw [hak, if_neg hv]
      dsimp only
      by_cases hvu : b.ak.getD i ⟨#[]⟩ = u
      · rw [if_pos hvu, if_pos hvu]; exact ⟨rfl, h⟩
      · rw [if_neg hvu, if_neg hvu]
        obtain ⟨p, q1, q2, q3⟩ := h.asked e _ hak
        have hpp : p = b.fs.getD i (0, 0) := by
          rw [h.op e] at q1; unfold opR at q1; rw [hi] at q1; exact (Option.some.inj q1).symm
        subst hpp
        have q3' : ¬ ((prevP a.c (b.fs.getD i (0, 0)).1 (b.fs.getD i (0, 0)).2).2 ≠ 0) := fun z => z q3
        rw [if_neg q3']
        have hl : (lastR b i).1 = (prevP a.c (b.fs.getD i (0, 0)).1 (b.fs.getD i (0, 0)).2).1 := by
          unfold lastR; rw [if_neg (by rw [← h.s]; exact q2), h.c]
        rw [hl]
        exact ⟨rfl, h.set hi _ _⟩
  · rw [if_pos h0, if_pos h0]; exact ⟨rfl, h⟩
theorem KRel.act {a : Lk} {b : RLk} (h : KRel a b) (o : Op) : (actK a o).2 = (wantK b o).2 ∧ KRel (actK a o).1 (wantK b o).1 := by
  unfold actK wantK
  split
  · exact h.close _ _
  · split
    · exact h.ask _ _
    · exact h.reopen _ _
end Go.Proofs.YthgmhlpjbednpaaDoor.Vm
