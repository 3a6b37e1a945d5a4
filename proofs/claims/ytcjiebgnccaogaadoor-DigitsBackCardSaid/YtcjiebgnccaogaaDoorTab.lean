/- Facts of the type table of this program, each decided by the kernel. -/
import Derived.Test.YtcjiebgnccaogaaDoorCodeD
import Derived.Test.YtcjiebgnccaogaaDoorProg
import Derived.KernelRfl
namespace Go.Proofs.YtcjiebgnccaogaaDoor.Tab
open Go Go.Aw
@[simp] theorem agg1 : tyAgg Tryd.prog 1 = some false := by kernel_rfl
@[simp] theorem size1 : tySize Tryd.prog 1 = some 1 := by kernel_rfl
@[simp] theorem kd1 : tyKd Tryd.prog 1 = some (Kd.func) := by kernel_rfl
@[simp] theorem zero1 : tyZero Tryd.prog 1 = some [.sc .nilFunc] := by kernel_rfl
@[simp] theorem agg2 : tyAgg Tryd.prog 2 = some false := by kernel_rfl
@[simp] theorem size2 : tySize Tryd.prog 2 = some 1 := by kernel_rfl
@[simp] theorem kd2 : tyKd Tryd.prog 2 = some (Kd.int .i64) := by kernel_rfl
@[simp] theorem zero2 : tyZero Tryd.prog 2 = some [.sc (.int .i64 0)] := by kernel_rfl
@[simp] theorem agg3 : tyAgg Tryd.prog 3 = some false := by kernel_rfl
@[simp] theorem size3 : tySize Tryd.prog 3 = some 1 := by kernel_rfl
@[simp] theorem kd3 : tyKd Tryd.prog 3 = some (Kd.int .i64) := by kernel_rfl
@[simp] theorem zero3 : tyZero Tryd.prog 3 = some [.sc (.int .i64 0)] := by kernel_rfl
@[simp] theorem agg4 : tyAgg Tryd.prog 4 = some false := by kernel_rfl
@[simp] theorem size4 : tySize Tryd.prog 4 = some 1 := by kernel_rfl
@[simp] theorem kd4 : tyKd Tryd.prog 4 = some (Kd.bool) := by kernel_rfl
@[simp] theorem zero4 : tyZero Tryd.prog 4 = some [.sc (.bool false)] := by kernel_rfl
@[simp] theorem agg5 : tyAgg Tryd.prog 5 = some false := by kernel_rfl
@[simp] theorem size5 : tySize Tryd.prog 5 = some 1 := by kernel_rfl
@[simp] theorem kd5 : tyKd Tryd.prog 5 = some (Kd.int .u8) := by kernel_rfl
@[simp] theorem zero5 : tyZero Tryd.prog 5 = some [.sc (.int .u8 0)] := by kernel_rfl
@[simp] theorem agg6 : tyAgg Tryd.prog 6 = some false := by kernel_rfl
@[simp] theorem size6 : tySize Tryd.prog 6 = some 1 := by kernel_rfl
@[simp] theorem kd6 : tyKd Tryd.prog 6 = some (Kd.int .u8) := by kernel_rfl
@[simp] theorem zero6 : tyZero Tryd.prog 6 = some [.sc (.int .u8 0)] := by kernel_rfl
@[simp] theorem agg7 : tyAgg Tryd.prog 7 = some true := by kernel_rfl
@[simp] theorem size7 : tySize Tryd.prog 7 = some 4 := by kernel_rfl
@[simp] theorem kd7 : tyKd Tryd.prog 7 = some (Kd.other) := by kernel_rfl
@[simp] theorem zero7 : tyZero Tryd.prog 7 = some [.sc (.int .i64 0), .sc (.int .i64 0), .sc (.bool false), .sc (.int .u8 0)] := by kernel_rfl
@[simp] theorem field7_0 : tyField Tryd.prog 7 0 = some (2, 0, 1) := by kernel_rfl
@[simp] theorem field7_1 : tyField Tryd.prog 7 1 = some (3, 1, 1) := by kernel_rfl
@[simp] theorem field7_2 : tyField Tryd.prog 7 2 = some (4, 2, 1) := by kernel_rfl
@[simp] theorem field7_3 : tyField Tryd.prog 7 3 = some (6, 3, 1) := by kernel_rfl
@[simp] theorem places7 : tyPlaces Tryd.prog 7 = some [(0, 1), (1, 1), (2, 1), (3, 1)] := by kernel_rfl
@[simp] theorem agg8 : tyAgg Tryd.prog 8 = some true := by kernel_rfl
@[simp] theorem size8 : tySize Tryd.prog 8 = some 4 := by kernel_rfl
@[simp] theorem kd8 : tyKd Tryd.prog 8 = some (Kd.other) := by kernel_rfl
@[simp] theorem zero8 : tyZero Tryd.prog 8 = some [.sc (.int .i64 0), .sc (.int .i64 0), .sc (.bool false), .sc (.int .u8 0)] := by kernel_rfl
@[simp] theorem field8_0 : tyField Tryd.prog 8 0 = some (2, 0, 1) := by kernel_rfl
@[simp] theorem field8_1 : tyField Tryd.prog 8 1 = some (3, 1, 1) := by kernel_rfl
@[simp] theorem field8_2 : tyField Tryd.prog 8 2 = some (4, 2, 1) := by kernel_rfl
@[simp] theorem field8_3 : tyField Tryd.prog 8 3 = some (6, 3, 1) := by kernel_rfl
@[simp] theorem places8 : tyPlaces Tryd.prog 8 = some [(0, 1), (1, 1), (2, 1), (3, 1)] := by kernel_rfl
@[simp] theorem agg9 : tyAgg Tryd.prog 9 = some false := by kernel_rfl
@[simp] theorem size9 : tySize Tryd.prog 9 = some 1 := by kernel_rfl
@[simp] theorem kd9 : tyKd Tryd.prog 9 = some (Kd.str) := by kernel_rfl
@[simp] theorem zero9 : tyZero Tryd.prog 9 = some [.sc (.string ⟨#[]⟩)] := by kernel_rfl
@[simp] theorem agg10 : tyAgg Tryd.prog 10 = some false := by kernel_rfl
@[simp] theorem size10 : tySize Tryd.prog 10 = some 1 := by kernel_rfl
@[simp] theorem kd10 : tyKd Tryd.prog 10 = some (Kd.str) := by kernel_rfl
@[simp] theorem zero10 : tyZero Tryd.prog 10 = some [.sc (.string ⟨#[]⟩)] := by kernel_rfl
@[simp] theorem agg11 : tyAgg Tryd.prog 11 = some false := by kernel_rfl
@[simp] theorem size11 : tySize Tryd.prog 11 = some 1 := by kernel_rfl
@[simp] theorem kd11 : tyKd Tryd.prog 11 = some (Kd.str) := by kernel_rfl
@[simp] theorem zero11 : tyZero Tryd.prog 11 = some [.sc (.string ⟨#[]⟩)] := by kernel_rfl
@[simp] theorem agg12 : tyAgg Tryd.prog 12 = some false := by kernel_rfl
@[simp] theorem size12 : tySize Tryd.prog 12 = some 1 := by kernel_rfl
@[simp] theorem kd12 : tyKd Tryd.prog 12 = some (Kd.int .u64) := by kernel_rfl
@[simp] theorem zero12 : tyZero Tryd.prog 12 = some [.sc (.int .u64 0)] := by kernel_rfl
@[simp] theorem agg13 : tyAgg Tryd.prog 13 = some true := by kernel_rfl
@[simp] theorem size13 : tySize Tryd.prog 13 = some 2 := by kernel_rfl
@[simp] theorem kd13 : tyKd Tryd.prog 13 = some (Kd.other) := by kernel_rfl
@[simp] theorem zero13 : tyZero Tryd.prog 13 = some [.sc (.string ⟨#[]⟩), .sc (.int .u64 0)] := by kernel_rfl
@[simp] theorem field13_0 : tyField Tryd.prog 13 0 = some (9, 0, 1) := by kernel_rfl
@[simp] theorem field13_1 : tyField Tryd.prog 13 1 = some (12, 1, 1) := by kernel_rfl
@[simp] theorem places13 : tyPlaces Tryd.prog 13 = some [(0, 1), (1, 1)] := by kernel_rfl
@[simp] theorem agg14 : tyAgg Tryd.prog 14 = some true := by kernel_rfl
@[simp] theorem size14 : tySize Tryd.prog 14 = some 2 := by kernel_rfl
@[simp] theorem kd14 : tyKd Tryd.prog 14 = some (Kd.other) := by kernel_rfl
@[simp] theorem zero14 : tyZero Tryd.prog 14 = some [.sc (.string ⟨#[]⟩), .sc (.int .u64 0)] := by kernel_rfl
@[simp] theorem field14_0 : tyField Tryd.prog 14 0 = some (9, 0, 1) := by kernel_rfl
@[simp] theorem field14_1 : tyField Tryd.prog 14 1 = some (12, 1, 1) := by kernel_rfl
@[simp] theorem places14 : tyPlaces Tryd.prog 14 = some [(0, 1), (1, 1)] := by kernel_rfl
@[simp] theorem agg15 : tyAgg Tryd.prog 15 = some false := by kernel_rfl
@[simp] theorem size15 : tySize Tryd.prog 15 = some 1 := by kernel_rfl
@[simp] theorem kd15 : tyKd Tryd.prog 15 = some (Kd.ptr) := by kernel_rfl
@[simp] theorem zero15 : tyZero Tryd.prog 15 = some [.sc (.pointer none)] := by kernel_rfl
@[simp] theorem agg16 : tyAgg Tryd.prog 16 = some false := by kernel_rfl
@[simp] theorem size16 : tySize Tryd.prog 16 = some 1 := by kernel_rfl
@[simp] theorem kd16 : tyKd Tryd.prog 16 = some (Kd.ptr) := by kernel_rfl
@[simp] theorem zero16 : tyZero Tryd.prog 16 = some [.sc (.pointer none)] := by kernel_rfl
@[simp] theorem agg17 : tyAgg Tryd.prog 17 = some false := by kernel_rfl
@[simp] theorem size17 : tySize Tryd.prog 17 = some 1 := by kernel_rfl
@[simp] theorem kd17 : tyKd Tryd.prog 17 = some (Kd.ptr) := by kernel_rfl
@[simp] theorem zero17 : tyZero Tryd.prog 17 = some [.sc (.pointer none)] := by kernel_rfl
@[simp] theorem agg18 : tyAgg Tryd.prog 18 = some true := by kernel_rfl
@[simp] theorem size18 : tySize Tryd.prog 18 = some 1 := by kernel_rfl
@[simp] theorem kd18 : tyKd Tryd.prog 18 = some (Kd.other) := by kernel_rfl
@[simp] theorem zero18 : tyZero Tryd.prog 18 = some [.sc (.pointer none)] := by kernel_rfl
@[simp] theorem field18_0 : tyField Tryd.prog 18 0 = some (17, 0, 1) := by kernel_rfl
@[simp] theorem places18 : tyPlaces Tryd.prog 18 = some [(0, 1)] := by kernel_rfl
@[simp] theorem agg19 : tyAgg Tryd.prog 19 = some true := by kernel_rfl
@[simp] theorem size19 : tySize Tryd.prog 19 = some 1 := by kernel_rfl
@[simp] theorem kd19 : tyKd Tryd.prog 19 = some (Kd.other) := by kernel_rfl
@[simp] theorem zero19 : tyZero Tryd.prog 19 = some [.sc (.pointer none)] := by kernel_rfl
@[simp] theorem field19_0 : tyField Tryd.prog 19 0 = some (17, 0, 1) := by kernel_rfl
@[simp] theorem places19 : tyPlaces Tryd.prog 19 = some [(0, 1)] := by kernel_rfl
@[simp] theorem agg20 : tyAgg Tryd.prog 20 = some false := by kernel_rfl
@[simp] theorem size20 : tySize Tryd.prog 20 = some 1 := by kernel_rfl
@[simp] theorem kd20 : tyKd Tryd.prog 20 = some (Kd.iface) := by kernel_rfl
@[simp] theorem zero20 : tyZero Tryd.prog 20 = some [.sc .nilIface] := by kernel_rfl
@[simp] theorem agg21 : tyAgg Tryd.prog 21 = some false := by kernel_rfl
@[simp] theorem size21 : tySize Tryd.prog 21 = some 1 := by kernel_rfl
@[simp] theorem kd21 : tyKd Tryd.prog 21 = some (Kd.int .i32) := by kernel_rfl
@[simp] theorem zero21 : tyZero Tryd.prog 21 = some [.sc (.int .i32 0)] := by kernel_rfl
@[simp] theorem agg22 : tyAgg Tryd.prog 22 = some false := by kernel_rfl
@[simp] theorem size22 : tySize Tryd.prog 22 = some 1 := by kernel_rfl
@[simp] theorem kd22 : tyKd Tryd.prog 22 = some (Kd.func) := by kernel_rfl
@[simp] theorem zero22 : tyZero Tryd.prog 22 = some [.sc .nilFunc] := by kernel_rfl
@[simp] theorem agg23 : tyAgg Tryd.prog 23 = some false := by kernel_rfl
@[simp] theorem size23 : tySize Tryd.prog 23 = some 1 := by kernel_rfl
@[simp] theorem kd23 : tyKd Tryd.prog 23 = some (Kd.iface) := by kernel_rfl
@[simp] theorem zero23 : tyZero Tryd.prog 23 = some [.sc .nilIface] := by kernel_rfl
@[simp] theorem agg24 : tyAgg Tryd.prog 24 = some false := by kernel_rfl
@[simp] theorem size24 : tySize Tryd.prog 24 = some 1 := by kernel_rfl
@[simp] theorem kd24 : tyKd Tryd.prog 24 = some (Kd.iface) := by kernel_rfl
@[simp] theorem zero24 : tyZero Tryd.prog 24 = some [.sc .nilIface] := by kernel_rfl
@[simp] theorem agg26 : tyAgg Tryd.prog 26 = some false := by kernel_rfl
@[simp] theorem size26 : tySize Tryd.prog 26 = some 1 := by kernel_rfl
@[simp] theorem kd26 : tyKd Tryd.prog 26 = some (Kd.func) := by kernel_rfl
@[simp] theorem zero26 : tyZero Tryd.prog 26 = some [.sc .nilFunc] := by kernel_rfl
@[simp] theorem agg27 : tyAgg Tryd.prog 27 = some false := by kernel_rfl
@[simp] theorem size27 : tySize Tryd.prog 27 = some 1 := by kernel_rfl
@[simp] theorem kd27 : tyKd Tryd.prog 27 = some (Kd.func) := by kernel_rfl
@[simp] theorem zero27 : tyZero Tryd.prog 27 = some [.sc .nilFunc] := by kernel_rfl
@[simp] theorem agg28 : tyAgg Tryd.prog 28 = some false := by kernel_rfl
@[simp] theorem size28 : tySize Tryd.prog 28 = some 1 := by kernel_rfl
@[simp] theorem kd28 : tyKd Tryd.prog 28 = some (Kd.func) := by kernel_rfl
@[simp] theorem zero28 : tyZero Tryd.prog 28 = some [.sc .nilFunc] := by kernel_rfl
@[simp] theorem agg30 : tyAgg Tryd.prog 30 = some false := by kernel_rfl
@[simp] theorem size30 : tySize Tryd.prog 30 = some 1 := by kernel_rfl
@[simp] theorem kd30 : tyKd Tryd.prog 30 = some (Kd.func) := by kernel_rfl
@[simp] theorem zero30 : tyZero Tryd.prog 30 = some [.sc .nilFunc] := by kernel_rfl
@[simp] theorem agg31 : tyAgg Tryd.prog 31 = some false := by kernel_rfl
@[simp] theorem size31 : tySize Tryd.prog 31 = some 1 := by kernel_rfl
@[simp] theorem kd31 : tyKd Tryd.prog 31 = some (Kd.func) := by kernel_rfl
@[simp] theorem zero31 : tyZero Tryd.prog 31 = some [.sc .nilFunc] := by kernel_rfl
@[simp] theorem agg33 : tyAgg Tryd.prog 33 = some false := by kernel_rfl
@[simp] theorem size33 : tySize Tryd.prog 33 = some 1 := by kernel_rfl
@[simp] theorem kd33 : tyKd Tryd.prog 33 = some (Kd.func) := by kernel_rfl
@[simp] theorem zero33 : tyZero Tryd.prog 33 = some [.sc .nilFunc] := by kernel_rfl
@[simp] theorem agg34 : tyAgg Tryd.prog 34 = some false := by kernel_rfl
@[simp] theorem size34 : tySize Tryd.prog 34 = some 1 := by kernel_rfl
@[simp] theorem kd34 : tyKd Tryd.prog 34 = some (Kd.func) := by kernel_rfl
@[simp] theorem zero34 : tyZero Tryd.prog 34 = some [.sc .nilFunc] := by kernel_rfl
@[simp] theorem agg35 : tyAgg Tryd.prog 35 = some false := by kernel_rfl
@[simp] theorem size35 : tySize Tryd.prog 35 = some 1 := by kernel_rfl
@[simp] theorem kd35 : tyKd Tryd.prog 35 = some (Kd.func) := by kernel_rfl
@[simp] theorem zero35 : tyZero Tryd.prog 35 = some [.sc .nilFunc] := by kernel_rfl
@[simp] theorem agg36 : tyAgg Tryd.prog 36 = some false := by kernel_rfl
@[simp] theorem size36 : tySize Tryd.prog 36 = some 1 := by kernel_rfl
@[simp] theorem kd36 : tyKd Tryd.prog 36 = some (Kd.func) := by kernel_rfl
@[simp] theorem zero36 : tyZero Tryd.prog 36 = some [.sc .nilFunc] := by kernel_rfl
@[simp] theorem agg37 : tyAgg Tryd.prog 37 = some false := by kernel_rfl
@[simp] theorem size37 : tySize Tryd.prog 37 = some 1 := by kernel_rfl
@[simp] theorem kd37 : tyKd Tryd.prog 37 = some (Kd.func) := by kernel_rfl
@[simp] theorem zero37 : tyZero Tryd.prog 37 = some [.sc .nilFunc] := by kernel_rfl
@[simp] theorem agg38 : tyAgg Tryd.prog 38 = some false := by kernel_rfl
@[simp] theorem size38 : tySize Tryd.prog 38 = some 1 := by kernel_rfl
@[simp] theorem kd38 : tyKd Tryd.prog 38 = some (Kd.func) := by kernel_rfl
@[simp] theorem zero38 : tyZero Tryd.prog 38 = some [.sc .nilFunc] := by kernel_rfl
@[simp] theorem agg39 : tyAgg Tryd.prog 39 = some false := by kernel_rfl
@[simp] theorem size39 : tySize Tryd.prog 39 = some 1 := by kernel_rfl
@[simp] theorem kd39 : tyKd Tryd.prog 39 = some (Kd.func) := by kernel_rfl
@[simp] theorem zero39 : tyZero Tryd.prog 39 = some [.sc .nilFunc] := by kernel_rfl
@[simp] theorem agg40 : tyAgg Tryd.prog 40 = some false := by kernel_rfl
@[simp] theorem size40 : tySize Tryd.prog 40 = some 1 := by kernel_rfl
@[simp] theorem kd40 : tyKd Tryd.prog 40 = some (Kd.func) := by kernel_rfl
@[simp] theorem zero40 : tyZero Tryd.prog 40 = some [.sc .nilFunc] := by kernel_rfl
@[simp] theorem agg41 : tyAgg Tryd.prog 41 = some false := by kernel_rfl
@[simp] theorem size41 : tySize Tryd.prog 41 = some 1 := by kernel_rfl
@[simp] theorem kd41 : tyKd Tryd.prog 41 = some (Kd.int .i64) := by kernel_rfl
@[simp] theorem zero41 : tyZero Tryd.prog 41 = some [.sc (.int .i64 0)] := by kernel_rfl
@[simp] theorem agg42 : tyAgg Tryd.prog 42 = some false := by kernel_rfl
@[simp] theorem size42 : tySize Tryd.prog 42 = some 1 := by kernel_rfl
@[simp] theorem kd42 : tyKd Tryd.prog 42 = some (Kd.func) := by kernel_rfl
@[simp] theorem zero42 : tyZero Tryd.prog 42 = some [.sc .nilFunc] := by kernel_rfl
@[simp] theorem agg43 : tyAgg Tryd.prog 43 = some false := by kernel_rfl
@[simp] theorem size43 : tySize Tryd.prog 43 = some 1 := by kernel_rfl
@[simp] theorem kd43 : tyKd Tryd.prog 43 = some (Kd.ptr) := by kernel_rfl
@[simp] theorem zero43 : tyZero Tryd.prog 43 = some [.sc (.pointer none)] := by kernel_rfl
@[simp] theorem agg44 : tyAgg Tryd.prog 44 = some false := by kernel_rfl
@[simp] theorem size44 : tySize Tryd.prog 44 = some 1 := by kernel_rfl
@[simp] theorem kd44 : tyKd Tryd.prog 44 = some (Kd.func) := by kernel_rfl
@[simp] theorem zero44 : tyZero Tryd.prog 44 = some [.sc .nilFunc] := by kernel_rfl
@[simp] theorem agg45 : tyAgg Tryd.prog 45 = some false := by kernel_rfl
@[simp] theorem size45 : tySize Tryd.prog 45 = some 1 := by kernel_rfl
@[simp] theorem kd45 : tyKd Tryd.prog 45 = some (Kd.ptr) := by kernel_rfl
@[simp] theorem zero45 : tyZero Tryd.prog 45 = some [.sc (.pointer none)] := by kernel_rfl
@[simp] theorem agg46 : tyAgg Tryd.prog 46 = some false := by kernel_rfl
@[simp] theorem size46 : tySize Tryd.prog 46 = some 1 := by kernel_rfl
@[simp] theorem kd46 : tyKd Tryd.prog 46 = some (Kd.func) := by kernel_rfl
@[simp] theorem zero46 : tyZero Tryd.prog 46 = some [.sc .nilFunc] := by kernel_rfl
@[simp] theorem agg47 : tyAgg Tryd.prog 47 = some false := by kernel_rfl
@[simp] theorem size47 : tySize Tryd.prog 47 = some 1 := by kernel_rfl
@[simp] theorem kd47 : tyKd Tryd.prog 47 = some (Kd.int .u64) := by kernel_rfl
@[simp] theorem zero47 : tyZero Tryd.prog 47 = some [.sc (.int .u64 0)] := by kernel_rfl
@[simp] theorem agg48 : tyAgg Tryd.prog 48 = some false := by kernel_rfl
@[simp] theorem size48 : tySize Tryd.prog 48 = some 1 := by kernel_rfl
@[simp] theorem kd48 : tyKd Tryd.prog 48 = some (Kd.other) := by kernel_rfl
@[simp] theorem elem48 : tyElem Tryd.prog 48 = some (3, 1, 8) := by kernel_rfl
@[simp] theorem zero48 : tyZero Tryd.prog 48 = some [.slice .clip []] := by kernel_rfl
@[simp] theorem agg49 : tyAgg Tryd.prog 49 = some false := by kernel_rfl
@[simp] theorem size49 : tySize Tryd.prog 49 = some 1 := by kernel_rfl
@[simp] theorem kd49 : tyKd Tryd.prog 49 = some (Kd.func) := by kernel_rfl
@[simp] theorem zero49 : tyZero Tryd.prog 49 = some [.sc .nilFunc] := by kernel_rfl
@[simp] theorem agg50 : tyAgg Tryd.prog 50 = some false := by kernel_rfl
@[simp] theorem size50 : tySize Tryd.prog 50 = some 1 := by kernel_rfl
@[simp] theorem kd50 : tyKd Tryd.prog 50 = some (Kd.func) := by kernel_rfl
@[simp] theorem zero50 : tyZero Tryd.prog 50 = some [.sc .nilFunc] := by kernel_rfl
@[simp] theorem agg51 : tyAgg Tryd.prog 51 = some false := by kernel_rfl
@[simp] theorem size51 : tySize Tryd.prog 51 = some 1 := by kernel_rfl
@[simp] theorem kd51 : tyKd Tryd.prog 51 = some (Kd.func) := by kernel_rfl
@[simp] theorem zero51 : tyZero Tryd.prog 51 = some [.sc .nilFunc] := by kernel_rfl
@[simp] theorem agg52 : tyAgg Tryd.prog 52 = some false := by kernel_rfl
@[simp] theorem size52 : tySize Tryd.prog 52 = some 1 := by kernel_rfl
@[simp] theorem kd52 : tyKd Tryd.prog 52 = some (Kd.ptr) := by kernel_rfl
@[simp] theorem zero52 : tyZero Tryd.prog 52 = some [.sc (.pointer none)] := by kernel_rfl
@[simp] theorem agg53 : tyAgg Tryd.prog 53 = some true := by kernel_rfl
@[simp] theorem size53 : tySize Tryd.prog 53 = some 2 := by kernel_rfl
@[simp] theorem kd53 : tyKd Tryd.prog 53 = some (Kd.other) := by kernel_rfl
@[simp] theorem zero53 : tyZero Tryd.prog 53 = some [.sc (.int .i64 0), .sc .nilIface] := by kernel_rfl
@[simp] theorem field53_0 : tyField Tryd.prog 53 0 = some (3, 0, 1) := by kernel_rfl
@[simp] theorem field53_1 : tyField Tryd.prog 53 1 = some (24, 1, 1) := by kernel_rfl
@[simp] theorem places53 : tyPlaces Tryd.prog 53 = some [(0, 1), (1, 1)] := by kernel_rfl
@[simp] theorem agg54 : tyAgg Tryd.prog 54 = some true := by kernel_rfl
@[simp] theorem size54 : tySize Tryd.prog 54 = some 2 := by kernel_rfl
@[simp] theorem kd54 : tyKd Tryd.prog 54 = some (Kd.other) := by kernel_rfl
@[simp] theorem zero54 : tyZero Tryd.prog 54 = some [.sc (.int .i64 0), .sc .nilIface] := by kernel_rfl
@[simp] theorem field54_0 : tyField Tryd.prog 54 0 = some (3, 0, 1) := by kernel_rfl
@[simp] theorem field54_1 : tyField Tryd.prog 54 1 = some (24, 1, 1) := by kernel_rfl
@[simp] theorem places54 : tyPlaces Tryd.prog 54 = some [(0, 1), (1, 1)] := by kernel_rfl
@[simp] theorem agg55 : tyAgg Tryd.prog 55 = some false := by kernel_rfl
@[simp] theorem size55 : tySize Tryd.prog 55 = some 1 := by kernel_rfl
@[simp] theorem kd55 : tyKd Tryd.prog 55 = some (Kd.func) := by kernel_rfl
@[simp] theorem zero55 : tyZero Tryd.prog 55 = some [.sc .nilFunc] := by kernel_rfl
@[simp] theorem agg56 : tyAgg Tryd.prog 56 = some false := by kernel_rfl
@[simp] theorem size56 : tySize Tryd.prog 56 = some 1 := by kernel_rfl
@[simp] theorem kd56 : tyKd Tryd.prog 56 = some (Kd.other) := by kernel_rfl
@[simp] theorem zero56 : tyZero Tryd.prog 56 = some [.sc (.pointer none)] := by kernel_rfl
@[simp] theorem agg57 : tyAgg Tryd.prog 57 = some false := by kernel_rfl
@[simp] theorem size57 : tySize Tryd.prog 57 = some 1 := by kernel_rfl
@[simp] theorem kd57 : tyKd Tryd.prog 57 = some (Kd.int .u64) := by kernel_rfl
@[simp] theorem zero57 : tyZero Tryd.prog 57 = some [.sc (.int .u64 0)] := by kernel_rfl
@[simp] theorem agg58 : tyAgg Tryd.prog 58 = some true := by kernel_rfl
@[simp] theorem size58 : tySize Tryd.prog 58 = some 3 := by kernel_rfl
@[simp] theorem kd58 : tyKd Tryd.prog 58 = some (Kd.other) := by kernel_rfl
@[simp] theorem zero58 : tyZero Tryd.prog 58 = some [.sc (.pointer none), .sc (.pointer none), .sc (.int .u64 0)] := by kernel_rfl
@[simp] theorem field58_0 : tyField Tryd.prog 58 0 = some (17, 0, 1) := by kernel_rfl
@[simp] theorem field58_1 : tyField Tryd.prog 58 1 = some (56, 1, 1) := by kernel_rfl
@[simp] theorem field58_2 : tyField Tryd.prog 58 2 = some (57, 2, 1) := by kernel_rfl
@[simp] theorem places58 : tyPlaces Tryd.prog 58 = some [(0, 1), (1, 1), (2, 1)] := by kernel_rfl
@[simp] theorem agg59 : tyAgg Tryd.prog 59 = some true := by kernel_rfl
@[simp] theorem size59 : tySize Tryd.prog 59 = some 3 := by kernel_rfl
@[simp] theorem kd59 : tyKd Tryd.prog 59 = some (Kd.other) := by kernel_rfl
@[simp] theorem zero59 : tyZero Tryd.prog 59 = some [.sc (.pointer none), .sc (.pointer none), .sc (.int .u64 0)] := by kernel_rfl
@[simp] theorem field59_0 : tyField Tryd.prog 59 0 = some (17, 0, 1) := by kernel_rfl
@[simp] theorem field59_1 : tyField Tryd.prog 59 1 = some (56, 1, 1) := by kernel_rfl
@[simp] theorem field59_2 : tyField Tryd.prog 59 2 = some (57, 2, 1) := by kernel_rfl
@[simp] theorem places59 : tyPlaces Tryd.prog 59 = some [(0, 1), (1, 1), (2, 1)] := by kernel_rfl
@[simp] theorem agg60 : tyAgg Tryd.prog 60 = some false := by kernel_rfl
@[simp] theorem size60 : tySize Tryd.prog 60 = some 1 := by kernel_rfl
@[simp] theorem kd60 : tyKd Tryd.prog 60 = some (Kd.func) := by kernel_rfl
@[simp] theorem zero60 : tyZero Tryd.prog 60 = some [.sc .nilFunc] := by kernel_rfl
@[simp] theorem agg61 : tyAgg Tryd.prog 61 = some false := by kernel_rfl
@[simp] theorem size61 : tySize Tryd.prog 61 = some 1 := by kernel_rfl
@[simp] theorem kd61 : tyKd Tryd.prog 61 = some (Kd.iface) := by kernel_rfl
@[simp] theorem zero61 : tyZero Tryd.prog 61 = some [.sc .nilIface] := by kernel_rfl
@[simp] theorem agg62 : tyAgg Tryd.prog 62 = some false := by kernel_rfl
@[simp] theorem size62 : tySize Tryd.prog 62 = some 1 := by kernel_rfl
@[simp] theorem kd62 : tyKd Tryd.prog 62 = some (Kd.iface) := by kernel_rfl
@[simp] theorem zero62 : tyZero Tryd.prog 62 = some [.sc .nilIface] := by kernel_rfl
@[simp] theorem agg63 : tyAgg Tryd.prog 63 = some false := by kernel_rfl
@[simp] theorem size63 : tySize Tryd.prog 63 = some 1 := by kernel_rfl
@[simp] theorem kd63 : tyKd Tryd.prog 63 = some (Kd.func) := by kernel_rfl
@[simp] theorem zero63 : tyZero Tryd.prog 63 = some [.sc .nilFunc] := by kernel_rfl
@[simp] theorem agg64 : tyAgg Tryd.prog 64 = some false := by kernel_rfl
@[simp] theorem size64 : tySize Tryd.prog 64 = some 1 := by kernel_rfl
@[simp] theorem kd64 : tyKd Tryd.prog 64 = some (Kd.int .u8) := by kernel_rfl
@[simp] theorem zero64 : tyZero Tryd.prog 64 = some [.sc (.int .u8 0)] := by kernel_rfl
@[simp] theorem agg65 : tyAgg Tryd.prog 65 = some false := by kernel_rfl
@[simp] theorem size65 : tySize Tryd.prog 65 = some 1 := by kernel_rfl
@[simp] theorem kd65 : tyKd Tryd.prog 65 = some (Kd.func) := by kernel_rfl
@[simp] theorem zero65 : tyZero Tryd.prog 65 = some [.sc .nilFunc] := by kernel_rfl
@[simp] theorem agg66 : tyAgg Tryd.prog 66 = some false := by kernel_rfl
@[simp] theorem size66 : tySize Tryd.prog 66 = some 1 := by kernel_rfl
@[simp] theorem kd66 : tyKd Tryd.prog 66 = some (Kd.func) := by kernel_rfl
@[simp] theorem zero66 : tyZero Tryd.prog 66 = some [.sc .nilFunc] := by kernel_rfl
@[simp] theorem agg67 : tyAgg Tryd.prog 67 = some false := by kernel_rfl
@[simp] theorem size67 : tySize Tryd.prog 67 = some 1 := by kernel_rfl
@[simp] theorem kd67 : tyKd Tryd.prog 67 = some (Kd.func) := by kernel_rfl
@[simp] theorem zero67 : tyZero Tryd.prog 67 = some [.sc .nilFunc] := by kernel_rfl
@[simp] theorem agg68 : tyAgg Tryd.prog 68 = some false := by kernel_rfl
@[simp] theorem size68 : tySize Tryd.prog 68 = some 1 := by kernel_rfl
@[simp] theorem kd68 : tyKd Tryd.prog 68 = some (Kd.ptr) := by kernel_rfl
@[simp] theorem zero68 : tyZero Tryd.prog 68 = some [.sc (.pointer none)] := by kernel_rfl
@[simp] theorem agg69 : tyAgg Tryd.prog 69 = some false := by kernel_rfl
@[simp] theorem size69 : tySize Tryd.prog 69 = some 1 := by kernel_rfl
@[simp] theorem kd69 : tyKd Tryd.prog 69 = some (Kd.func) := by kernel_rfl
@[simp] theorem zero69 : tyZero Tryd.prog 69 = some [.sc .nilFunc] := by kernel_rfl
@[simp] theorem agg70 : tyAgg Tryd.prog 70 = some false := by kernel_rfl
@[simp] theorem size70 : tySize Tryd.prog 70 = some 1 := by kernel_rfl
@[simp] theorem kd70 : tyKd Tryd.prog 70 = some (Kd.other) := by kernel_rfl
@[simp] theorem elem70 : tyElem Tryd.prog 70 = some (5, 1, 1) := by kernel_rfl
@[simp] theorem zero70 : tyZero Tryd.prog 70 = some [.slice .clip []] := by kernel_rfl
@[simp] theorem agg71 : tyAgg Tryd.prog 71 = some false := by kernel_rfl
@[simp] theorem size71 : tySize Tryd.prog 71 = some 1 := by kernel_rfl
@[simp] theorem kd71 : tyKd Tryd.prog 71 = some (Kd.int .i64) := by kernel_rfl
@[simp] theorem zero71 : tyZero Tryd.prog 71 = some [.sc (.int .i64 0)] := by kernel_rfl
@[simp] theorem agg73 : tyAgg Tryd.prog 73 = some false := by kernel_rfl
@[simp] theorem size73 : tySize Tryd.prog 73 = some 1 := by kernel_rfl
@[simp] theorem kd73 : tyKd Tryd.prog 73 = some (Kd.func) := by kernel_rfl
@[simp] theorem zero73 : tyZero Tryd.prog 73 = some [.sc .nilFunc] := by kernel_rfl
@[simp] theorem agg74 : tyAgg Tryd.prog 74 = some false := by kernel_rfl
@[simp] theorem size74 : tySize Tryd.prog 74 = some 1 := by kernel_rfl
@[simp] theorem kd74 : tyKd Tryd.prog 74 = some (Kd.int .u64) := by kernel_rfl
@[simp] theorem zero74 : tyZero Tryd.prog 74 = some [.sc (.int .u64 0)] := by kernel_rfl
@[simp] theorem agg75 : tyAgg Tryd.prog 75 = some false := by kernel_rfl
@[simp] theorem size75 : tySize Tryd.prog 75 = some 1 := by kernel_rfl
@[simp] theorem kd75 : tyKd Tryd.prog 75 = some (Kd.func) := by kernel_rfl
@[simp] theorem zero75 : tyZero Tryd.prog 75 = some [.sc .nilFunc] := by kernel_rfl
@[simp] theorem agg76 : tyAgg Tryd.prog 76 = some false := by kernel_rfl
@[simp] theorem size76 : tySize Tryd.prog 76 = some 1 := by kernel_rfl
@[simp] theorem kd76 : tyKd Tryd.prog 76 = some (Kd.func) := by kernel_rfl
@[simp] theorem zero76 : tyZero Tryd.prog 76 = some [.sc .nilFunc] := by kernel_rfl
@[simp] theorem agg77 : tyAgg Tryd.prog 77 = some true := by kernel_rfl
@[simp] theorem size77 : tySize Tryd.prog 77 = some 1 := by kernel_rfl
@[simp] theorem kd77 : tyKd Tryd.prog 77 = some (Kd.other) := by kernel_rfl
@[simp] theorem zero77 : tyZero Tryd.prog 77 = some [.sc (.pointer none)] := by kernel_rfl
@[simp] theorem field77_0 : tyField Tryd.prog 77 0 = some (17, 0, 1) := by kernel_rfl
@[simp] theorem places77 : tyPlaces Tryd.prog 77 = some [(0, 1)] := by kernel_rfl
@[simp] theorem agg78 : tyAgg Tryd.prog 78 = some true := by kernel_rfl
@[simp] theorem size78 : tySize Tryd.prog 78 = some 1 := by kernel_rfl
@[simp] theorem kd78 : tyKd Tryd.prog 78 = some (Kd.other) := by kernel_rfl
@[simp] theorem zero78 : tyZero Tryd.prog 78 = some [.sc (.pointer none)] := by kernel_rfl
@[simp] theorem field78_0 : tyField Tryd.prog 78 0 = some (17, 0, 1) := by kernel_rfl
@[simp] theorem places78 : tyPlaces Tryd.prog 78 = some [(0, 1)] := by kernel_rfl
@[simp] theorem agg79 : tyAgg Tryd.prog 79 = some false := by kernel_rfl
@[simp] theorem size79 : tySize Tryd.prog 79 = some 1 := by kernel_rfl
@[simp] theorem kd79 : tyKd Tryd.prog 79 = some (Kd.ptr) := by kernel_rfl
@[simp] theorem zero79 : tyZero Tryd.prog 79 = some [.sc (.pointer none)] := by kernel_rfl
@[simp] theorem agg80 : tyAgg Tryd.prog 80 = some false := by kernel_rfl
@[simp] theorem size80 : tySize Tryd.prog 80 = some 1 := by kernel_rfl
@[simp] theorem kd80 : tyKd Tryd.prog 80 = some (Kd.func) := by kernel_rfl
@[simp] theorem zero80 : tyZero Tryd.prog 80 = some [.sc .nilFunc] := by kernel_rfl
@[simp] theorem agg81 : tyAgg Tryd.prog 81 = some false := by kernel_rfl
@[simp] theorem size81 : tySize Tryd.prog 81 = some 1 := by kernel_rfl
@[simp] theorem kd81 : tyKd Tryd.prog 81 = some (Kd.func) := by kernel_rfl
@[simp] theorem zero81 : tyZero Tryd.prog 81 = some [.sc .nilFunc] := by kernel_rfl
@[simp] theorem agg82 : tyAgg Tryd.prog 82 = some false := by kernel_rfl
@[simp] theorem size82 : tySize Tryd.prog 82 = some 1 := by kernel_rfl
@[simp] theorem kd82 : tyKd Tryd.prog 82 = some (Kd.func) := by kernel_rfl
@[simp] theorem zero82 : tyZero Tryd.prog 82 = some [.sc .nilFunc] := by kernel_rfl
@[simp] theorem agg83 : tyAgg Tryd.prog 83 = some false := by kernel_rfl
@[simp] theorem size83 : tySize Tryd.prog 83 = some 1 := by kernel_rfl
@[simp] theorem kd83 : tyKd Tryd.prog 83 = some (Kd.iface) := by kernel_rfl
@[simp] theorem zero83 : tyZero Tryd.prog 83 = some [.sc .nilIface] := by kernel_rfl
@[simp] theorem agg85 : tyAgg Tryd.prog 85 = some false := by kernel_rfl
@[simp] theorem size85 : tySize Tryd.prog 85 = some 1 := by kernel_rfl
@[simp] theorem kd85 : tyKd Tryd.prog 85 = some (Kd.func) := by kernel_rfl
@[simp] theorem zero85 : tyZero Tryd.prog 85 = some [.sc .nilFunc] := by kernel_rfl
@[simp] theorem agg86 : tyAgg Tryd.prog 86 = some false := by kernel_rfl
@[simp] theorem size86 : tySize Tryd.prog 86 = some 1 := by kernel_rfl
@[simp] theorem kd86 : tyKd Tryd.prog 86 = some (Kd.iface) := by kernel_rfl
@[simp] theorem zero86 : tyZero Tryd.prog 86 = some [.sc .nilIface] := by kernel_rfl
@[simp] theorem agg87 : tyAgg Tryd.prog 87 = some false := by kernel_rfl
@[simp] theorem size87 : tySize Tryd.prog 87 = some 1 := by kernel_rfl
@[simp] theorem kd87 : tyKd Tryd.prog 87 = some (Kd.func) := by kernel_rfl
@[simp] theorem zero87 : tyZero Tryd.prog 87 = some [.sc .nilFunc] := by kernel_rfl
@[simp] theorem agg88 : tyAgg Tryd.prog 88 = some false := by kernel_rfl
@[simp] theorem size88 : tySize Tryd.prog 88 = some 1 := by kernel_rfl
@[simp] theorem kd88 : tyKd Tryd.prog 88 = some (Kd.iface) := by kernel_rfl
@[simp] theorem zero88 : tyZero Tryd.prog 88 = some [.sc .nilIface] := by kernel_rfl
@[simp] theorem agg89 : tyAgg Tryd.prog 89 = some false := by kernel_rfl
@[simp] theorem size89 : tySize Tryd.prog 89 = some 1 := by kernel_rfl
@[simp] theorem kd89 : tyKd Tryd.prog 89 = some (Kd.other) := by kernel_rfl
@[simp] theorem elem89 : tyElem Tryd.prog 89 = some (24, 1, 16) := by kernel_rfl
@[simp] theorem zero89 : tyZero Tryd.prog 89 = some [.slice .clip []] := by kernel_rfl
@[simp] theorem agg90 : tyAgg Tryd.prog 90 = some false := by kernel_rfl
@[simp] theorem size90 : tySize Tryd.prog 90 = some 1 := by kernel_rfl
@[simp] theorem kd90 : tyKd Tryd.prog 90 = some (Kd.func) := by kernel_rfl
@[simp] theorem zero90 : tyZero Tryd.prog 90 = some [.sc .nilFunc] := by kernel_rfl
@[simp] theorem agg91 : tyAgg Tryd.prog 91 = some false := by kernel_rfl
@[simp] theorem size91 : tySize Tryd.prog 91 = some 1 := by kernel_rfl
@[simp] theorem kd91 : tyKd Tryd.prog 91 = some (Kd.func) := by kernel_rfl
@[simp] theorem zero91 : tyZero Tryd.prog 91 = some [.sc .nilFunc] := by kernel_rfl
@[simp] theorem agg92 : tyAgg Tryd.prog 92 = some true := by kernel_rfl
@[simp] theorem size92 : tySize Tryd.prog 92 = some 24 := by kernel_rfl
@[simp] theorem kd92 : tyKd Tryd.prog 92 = some (Kd.other) := by kernel_rfl
@[simp] theorem zero92 : tyZero Tryd.prog 92 = some [.sc (.int .u8 0), .sc (.int .u8 0), .sc (.int .u8 0), .sc (.int .u8 0), .sc (.int .u8 0), .sc (.int .u8 0), .sc (.int .u8 0), .sc (.int .u8 0), .sc (.int .u8 0), .sc (.int .u8 0), .sc (.int .u8 0), .sc (.int .u8 0), .sc (.int .u8 0), .sc (.int .u8 0), .sc (.int .u8 0), .sc (.int .u8 0), .sc (.int .u8 0), .sc (.int .u8 0), .sc (.int .u8 0), .sc (.int .u8 0), .sc (.int .u8 0), .sc (.int .u8 0), .sc (.int .u8 0), .sc (.int .u8 0)] := by kernel_rfl
@[simp] theorem agg93 : tyAgg Tryd.prog 93 = some false := by kernel_rfl
@[simp] theorem size93 : tySize Tryd.prog 93 = some 1 := by kernel_rfl
@[simp] theorem kd93 : tyKd Tryd.prog 93 = some (Kd.func) := by kernel_rfl
@[simp] theorem zero93 : tyZero Tryd.prog 93 = some [.sc .nilFunc] := by kernel_rfl
@[simp] theorem agg94 : tyAgg Tryd.prog 94 = some false := by kernel_rfl
@[simp] theorem size94 : tySize Tryd.prog 94 = some 1 := by kernel_rfl
@[simp] theorem kd94 : tyKd Tryd.prog 94 = some (Kd.func) := by kernel_rfl
@[simp] theorem zero94 : tyZero Tryd.prog 94 = some [.sc .nilFunc] := by kernel_rfl
@[simp] theorem agg96 : tyAgg Tryd.prog 96 = some false := by kernel_rfl
@[simp] theorem size96 : tySize Tryd.prog 96 = some 1 := by kernel_rfl
@[simp] theorem kd96 : tyKd Tryd.prog 96 = some (Kd.func) := by kernel_rfl
@[simp] theorem zero96 : tyZero Tryd.prog 96 = some [.sc .nilFunc] := by kernel_rfl
@[simp] theorem agg97 : tyAgg Tryd.prog 97 = some false := by kernel_rfl
@[simp] theorem size97 : tySize Tryd.prog 97 = some 1 := by kernel_rfl
@[simp] theorem kd97 : tyKd Tryd.prog 97 = some (Kd.func) := by kernel_rfl
@[simp] theorem zero97 : tyZero Tryd.prog 97 = some [.sc .nilFunc] := by kernel_rfl
@[simp] theorem agg98 : tyAgg Tryd.prog 98 = some false := by kernel_rfl
@[simp] theorem size98 : tySize Tryd.prog 98 = some 1 := by kernel_rfl
@[simp] theorem kd98 : tyKd Tryd.prog 98 = some (Kd.func) := by kernel_rfl
@[simp] theorem zero98 : tyZero Tryd.prog 98 = some [.sc .nilFunc] := by kernel_rfl
@[simp] theorem agg99 : tyAgg Tryd.prog 99 = some false := by kernel_rfl
@[simp] theorem size99 : tySize Tryd.prog 99 = some 1 := by kernel_rfl
@[simp] theorem kd99 : tyKd Tryd.prog 99 = some (Kd.func) := by kernel_rfl
@[simp] theorem zero99 : tyZero Tryd.prog 99 = some [.sc .nilFunc] := by kernel_rfl
@[simp] theorem agg100 : tyAgg Tryd.prog 100 = some false := by kernel_rfl
@[simp] theorem size100 : tySize Tryd.prog 100 = some 1 := by kernel_rfl
@[simp] theorem kd100 : tyKd Tryd.prog 100 = some (Kd.func) := by kernel_rfl
@[simp] theorem zero100 : tyZero Tryd.prog 100 = some [.sc .nilFunc] := by kernel_rfl
@[simp] theorem agg101 : tyAgg Tryd.prog 101 = some true := by kernel_rfl
@[simp] theorem size101 : tySize Tryd.prog 101 = some 3 := by kernel_rfl
@[simp] theorem kd101 : tyKd Tryd.prog 101 = some (Kd.other) := by kernel_rfl
@[simp] theorem zero101 : tyZero Tryd.prog 101 = some [.sc (.string ⟨#[]⟩), .sc (.string ⟨#[]⟩), .sc .nilIface] := by kernel_rfl
@[simp] theorem field101_0 : tyField Tryd.prog 101 0 = some (9, 0, 1) := by kernel_rfl
@[simp] theorem field101_1 : tyField Tryd.prog 101 1 = some (9, 1, 1) := by kernel_rfl
@[simp] theorem field101_2 : tyField Tryd.prog 101 2 = some (24, 2, 1) := by kernel_rfl
@[simp] theorem places101 : tyPlaces Tryd.prog 101 = some [(0, 1), (1, 1), (2, 1)] := by kernel_rfl
@[simp] theorem agg102 : tyAgg Tryd.prog 102 = some true := by kernel_rfl
@[simp] theorem size102 : tySize Tryd.prog 102 = some 3 := by kernel_rfl
@[simp] theorem kd102 : tyKd Tryd.prog 102 = some (Kd.other) := by kernel_rfl
@[simp] theorem zero102 : tyZero Tryd.prog 102 = some [.sc (.string ⟨#[]⟩), .sc (.string ⟨#[]⟩), .sc .nilIface] := by kernel_rfl
@[simp] theorem field102_0 : tyField Tryd.prog 102 0 = some (9, 0, 1) := by kernel_rfl
@[simp] theorem field102_1 : tyField Tryd.prog 102 1 = some (9, 1, 1) := by kernel_rfl
@[simp] theorem field102_2 : tyField Tryd.prog 102 2 = some (24, 2, 1) := by kernel_rfl
@[simp] theorem places102 : tyPlaces Tryd.prog 102 = some [(0, 1), (1, 1), (2, 1)] := by kernel_rfl
@[simp] theorem agg103 : tyAgg Tryd.prog 103 = some false := by kernel_rfl
@[simp] theorem size103 : tySize Tryd.prog 103 = some 1 := by kernel_rfl
@[simp] theorem kd103 : tyKd Tryd.prog 103 = some (Kd.func) := by kernel_rfl
@[simp] theorem zero103 : tyZero Tryd.prog 103 = some [.sc .nilFunc] := by kernel_rfl
@[simp] theorem agg104 : tyAgg Tryd.prog 104 = some false := by kernel_rfl
@[simp] theorem size104 : tySize Tryd.prog 104 = some 1 := by kernel_rfl
@[simp] theorem kd104 : tyKd Tryd.prog 104 = some (Kd.func) := by kernel_rfl
@[simp] theorem zero104 : tyZero Tryd.prog 104 = some [.sc .nilFunc] := by kernel_rfl
@[simp] theorem agg105 : tyAgg Tryd.prog 105 = some false := by kernel_rfl
@[simp] theorem size105 : tySize Tryd.prog 105 = some 1 := by kernel_rfl
@[simp] theorem kd105 : tyKd Tryd.prog 105 = some (Kd.func) := by kernel_rfl
@[simp] theorem zero105 : tyZero Tryd.prog 105 = some [.sc .nilFunc] := by kernel_rfl
@[simp] theorem agg106 : tyAgg Tryd.prog 106 = some true := by kernel_rfl
@[simp] theorem size106 : tySize Tryd.prog 106 = some 20 := by kernel_rfl
@[simp] theorem kd106 : tyKd Tryd.prog 106 = some (Kd.other) := by kernel_rfl
@[simp] theorem zero106 : tyZero Tryd.prog 106 = some [.sc (.int .u64 0), .sc (.int .u64 0), .sc (.int .u64 0), .sc (.int .u64 0), .sc (.int .u64 0), .sc (.int .u64 0), .sc (.int .u64 0), .sc (.int .u64 0), .sc (.int .u64 0), .sc (.int .u64 0), .sc (.int .u64 0), .sc (.int .u64 0), .sc (.int .u64 0), .sc (.int .u64 0), .sc (.int .u64 0), .sc (.int .u64 0), .sc (.int .u64 0), .sc (.int .u64 0), .sc (.int .u64 0), .sc (.int .u64 0)] := by kernel_rfl
@[simp] theorem agg107 : tyAgg Tryd.prog 107 = some false := by kernel_rfl
@[simp] theorem size107 : tySize Tryd.prog 107 = some 1 := by kernel_rfl
@[simp] theorem kd107 : tyKd Tryd.prog 107 = some (Kd.int .u32) := by kernel_rfl
@[simp] theorem zero107 : tyZero Tryd.prog 107 = some [.sc (.int .u32 0)] := by kernel_rfl
@[simp] theorem agg108 : tyAgg Tryd.prog 108 = some true := by kernel_rfl
@[simp] theorem size108 : tySize Tryd.prog 108 = some 65 := by kernel_rfl
@[simp] theorem kd108 : tyKd Tryd.prog 108 = some (Kd.other) := by kernel_rfl
@[simp] theorem agg109 : tyAgg Tryd.prog 109 = some false := by kernel_rfl
@[simp] theorem size109 : tySize Tryd.prog 109 = some 1 := by kernel_rfl
@[simp] theorem kd109 : tyKd Tryd.prog 109 = some (Kd.func) := by kernel_rfl
@[simp] theorem zero109 : tyZero Tryd.prog 109 = some [.sc .nilFunc] := by kernel_rfl
@[simp] theorem agg110 : tyAgg Tryd.prog 110 = some false := by kernel_rfl
@[simp] theorem size110 : tySize Tryd.prog 110 = some 1 := by kernel_rfl
@[simp] theorem kd110 : tyKd Tryd.prog 110 = some (Kd.func) := by kernel_rfl
@[simp] theorem zero110 : tyZero Tryd.prog 110 = some [.sc .nilFunc] := by kernel_rfl
@[simp] theorem agg111 : tyAgg Tryd.prog 111 = some false := by kernel_rfl
@[simp] theorem size111 : tySize Tryd.prog 111 = some 1 := by kernel_rfl
@[simp] theorem kd111 : tyKd Tryd.prog 111 = some (Kd.iface) := by kernel_rfl
@[simp] theorem zero111 : tyZero Tryd.prog 111 = some [.sc .nilIface] := by kernel_rfl
@[simp] theorem agg113 : tyAgg Tryd.prog 113 = some false := by kernel_rfl
@[simp] theorem size113 : tySize Tryd.prog 113 = some 1 := by kernel_rfl
@[simp] theorem kd113 : tyKd Tryd.prog 113 = some (Kd.func) := by kernel_rfl
@[simp] theorem zero113 : tyZero Tryd.prog 113 = some [.sc .nilFunc] := by kernel_rfl
@[simp] theorem agg114 : tyAgg Tryd.prog 114 = some false := by kernel_rfl
@[simp] theorem size114 : tySize Tryd.prog 114 = some 1 := by kernel_rfl
@[simp] theorem kd114 : tyKd Tryd.prog 114 = some (Kd.ptr) := by kernel_rfl
@[simp] theorem zero114 : tyZero Tryd.prog 114 = some [.sc (.pointer none)] := by kernel_rfl
@[simp] theorem agg115 : tyAgg Tryd.prog 115 = some false := by kernel_rfl
@[simp] theorem size115 : tySize Tryd.prog 115 = some 1 := by kernel_rfl
@[simp] theorem kd115 : tyKd Tryd.prog 115 = some (Kd.ptr) := by kernel_rfl
@[simp] theorem zero115 : tyZero Tryd.prog 115 = some [.sc (.pointer none)] := by kernel_rfl
@[simp] theorem agg116 : tyAgg Tryd.prog 116 = some true := by kernel_rfl
@[simp] theorem size116 : tySize Tryd.prog 116 = some 1 := by kernel_rfl
@[simp] theorem kd116 : tyKd Tryd.prog 116 = some (Kd.other) := by kernel_rfl
@[simp] theorem zero116 : tyZero Tryd.prog 116 = some [.sc (.string ⟨#[]⟩)] := by kernel_rfl
@[simp] theorem field116_0 : tyField Tryd.prog 116 0 = some (9, 0, 1) := by kernel_rfl
@[simp] theorem places116 : tyPlaces Tryd.prog 116 = some [(0, 1)] := by kernel_rfl
@[simp] theorem agg117 : tyAgg Tryd.prog 117 = some true := by kernel_rfl
@[simp] theorem size117 : tySize Tryd.prog 117 = some 1 := by kernel_rfl
@[simp] theorem kd117 : tyKd Tryd.prog 117 = some (Kd.other) := by kernel_rfl
@[simp] theorem zero117 : tyZero Tryd.prog 117 = some [.sc (.string ⟨#[]⟩)] := by kernel_rfl
@[simp] theorem field117_0 : tyField Tryd.prog 117 0 = some (9, 0, 1) := by kernel_rfl
@[simp] theorem places117 : tyPlaces Tryd.prog 117 = some [(0, 1)] := by kernel_rfl
@[simp] theorem agg118 : tyAgg Tryd.prog 118 = some false := by kernel_rfl
@[simp] theorem size118 : tySize Tryd.prog 118 = some 1 := by kernel_rfl
@[simp] theorem kd118 : tyKd Tryd.prog 118 = some (Kd.func) := by kernel_rfl
@[simp] theorem zero118 : tyZero Tryd.prog 118 = some [.sc .nilFunc] := by kernel_rfl
@[simp] theorem agg119 : tyAgg Tryd.prog 119 = some true := by kernel_rfl
@[simp] theorem size119 : tySize Tryd.prog 119 = some 32 := by kernel_rfl
@[simp] theorem kd119 : tyKd Tryd.prog 119 = some (Kd.other) := by kernel_rfl
@[simp] theorem zero119 : tyZero Tryd.prog 119 = some [.sc (.int .u8 0), .sc (.int .u8 0), .sc (.int .u8 0), .sc (.int .u8 0), .sc (.int .u8 0), .sc (.int .u8 0), .sc (.int .u8 0), .sc (.int .u8 0), .sc (.int .u8 0), .sc (.int .u8 0), .sc (.int .u8 0), .sc (.int .u8 0), .sc (.int .u8 0), .sc (.int .u8 0), .sc (.int .u8 0), .sc (.int .u8 0), .sc (.int .u8 0), .sc (.int .u8 0), .sc (.int .u8 0), .sc (.int .u8 0), .sc (.int .u8 0), .sc (.int .u8 0), .sc (.int .u8 0), .sc (.int .u8 0), .sc (.int .u8 0), .sc (.int .u8 0), .sc (.int .u8 0), .sc (.int .u8 0), .sc (.int .u8 0), .sc (.int .u8 0), .sc (.int .u8 0), .sc (.int .u8 0)] := by kernel_rfl
@[simp] theorem agg120 : tyAgg Tryd.prog 120 = some true := by kernel_rfl
@[simp] theorem size120 : tySize Tryd.prog 120 = some 64 := by kernel_rfl
@[simp] theorem kd120 : tyKd Tryd.prog 120 = some (Kd.other) := by kernel_rfl
@[simp] theorem agg121 : tyAgg Tryd.prog 121 = some false := by kernel_rfl
@[simp] theorem size121 : tySize Tryd.prog 121 = some 1 := by kernel_rfl
@[simp] theorem kd121 : tyKd Tryd.prog 121 = some (Kd.func) := by kernel_rfl
@[simp] theorem zero121 : tyZero Tryd.prog 121 = some [.sc .nilFunc] := by kernel_rfl
@[simp] theorem agg122 : tyAgg Tryd.prog 122 = some true := by kernel_rfl
@[simp] theorem size122 : tySize Tryd.prog 122 = some 4 := by kernel_rfl
@[simp] theorem kd122 : tyKd Tryd.prog 122 = some (Kd.other) := by kernel_rfl
@[simp] theorem zero122 : tyZero Tryd.prog 122 = some [.sc (.pointer none), .sc (.pointer none), .sc (.pointer none), .sc (.string ⟨#[]⟩)] := by kernel_rfl
@[simp] theorem field122_0 : tyField Tryd.prog 122 0 = some (17, 0, 1) := by kernel_rfl
@[simp] theorem field122_1 : tyField Tryd.prog 122 1 = some (17, 1, 1) := by kernel_rfl
@[simp] theorem field122_2 : tyField Tryd.prog 122 2 = some (17, 2, 1) := by kernel_rfl
@[simp] theorem field122_3 : tyField Tryd.prog 122 3 = some (9, 3, 1) := by kernel_rfl
@[simp] theorem places122 : tyPlaces Tryd.prog 122 = some [(0, 1), (1, 1), (2, 1), (3, 1)] := by kernel_rfl
@[simp] theorem agg123 : tyAgg Tryd.prog 123 = some true := by kernel_rfl
@[simp] theorem size123 : tySize Tryd.prog 123 = some 4 := by kernel_rfl
@[simp] theorem kd123 : tyKd Tryd.prog 123 = some (Kd.other) := by kernel_rfl
@[simp] theorem zero123 : tyZero Tryd.prog 123 = some [.sc (.pointer none), .sc (.pointer none), .sc (.pointer none), .sc (.string ⟨#[]⟩)] := by kernel_rfl
@[simp] theorem field123_0 : tyField Tryd.prog 123 0 = some (17, 0, 1) := by kernel_rfl
@[simp] theorem field123_1 : tyField Tryd.prog 123 1 = some (17, 1, 1) := by kernel_rfl
@[simp] theorem field123_2 : tyField Tryd.prog 123 2 = some (17, 2, 1) := by kernel_rfl
@[simp] theorem field123_3 : tyField Tryd.prog 123 3 = some (9, 3, 1) := by kernel_rfl
@[simp] theorem places123 : tyPlaces Tryd.prog 123 = some [(0, 1), (1, 1), (2, 1), (3, 1)] := by kernel_rfl
@[simp] theorem agg124 : tyAgg Tryd.prog 124 = some true := by kernel_rfl
@[simp] theorem size124 : tySize Tryd.prog 124 = some 0 := by kernel_rfl
@[simp] theorem kd124 : tyKd Tryd.prog 124 = some (Kd.other) := by kernel_rfl
@[simp] theorem zero124 : tyZero Tryd.prog 124 = some [] := by kernel_rfl
@[simp] theorem agg125 : tyAgg Tryd.prog 125 = some true := by kernel_rfl
@[simp] theorem size125 : tySize Tryd.prog 125 = some 0 := by kernel_rfl
@[simp] theorem kd125 : tyKd Tryd.prog 125 = some (Kd.other) := by kernel_rfl
@[simp] theorem zero125 : tyZero Tryd.prog 125 = some [] := by kernel_rfl
@[simp] theorem places125 : tyPlaces Tryd.prog 125 = some [(0, 0)] := by kernel_rfl
@[simp] theorem agg126 : tyAgg Tryd.prog 126 = some true := by kernel_rfl
@[simp] theorem size126 : tySize Tryd.prog 126 = some 0 := by kernel_rfl
@[simp] theorem kd126 : tyKd Tryd.prog 126 = some (Kd.other) := by kernel_rfl
@[simp] theorem zero126 : tyZero Tryd.prog 126 = some [] := by kernel_rfl
@[simp] theorem places126 : tyPlaces Tryd.prog 126 = some [(0, 0)] := by kernel_rfl
@[simp] theorem agg127 : tyAgg Tryd.prog 127 = some false := by kernel_rfl
@[simp] theorem size127 : tySize Tryd.prog 127 = some 1 := by kernel_rfl
@[simp] theorem kd127 : tyKd Tryd.prog 127 = some (Kd.func) := by kernel_rfl
@[simp] theorem zero127 : tyZero Tryd.prog 127 = some [.sc .nilFunc] := by kernel_rfl
@[simp] theorem agg128 : tyAgg Tryd.prog 128 = some false := by kernel_rfl
@[simp] theorem size128 : tySize Tryd.prog 128 = some 1 := by kernel_rfl
@[simp] theorem kd128 : tyKd Tryd.prog 128 = some (Kd.func) := by kernel_rfl
@[simp] theorem zero128 : tyZero Tryd.prog 128 = some [.sc .nilFunc] := by kernel_rfl
@[simp] theorem agg129 : tyAgg Tryd.prog 129 = some false := by kernel_rfl
@[simp] theorem size129 : tySize Tryd.prog 129 = some 1 := by kernel_rfl
@[simp] theorem kd129 : tyKd Tryd.prog 129 = some (Kd.int .u8) := by kernel_rfl
@[simp] theorem zero129 : tyZero Tryd.prog 129 = some [.sc (.int .u8 0)] := by kernel_rfl
@[simp] theorem agg130 : tyAgg Tryd.prog 130 = some false := by kernel_rfl
@[simp] theorem size130 : tySize Tryd.prog 130 = some 1 := by kernel_rfl
@[simp] theorem kd130 : tyKd Tryd.prog 130 = some (Kd.func) := by kernel_rfl
@[simp] theorem zero130 : tyZero Tryd.prog 130 = some [.sc .nilFunc] := by kernel_rfl
@[simp] theorem agg131 : tyAgg Tryd.prog 131 = some false := by kernel_rfl
@[simp] theorem size131 : tySize Tryd.prog 131 = some 1 := by kernel_rfl
@[simp] theorem kd131 : tyKd Tryd.prog 131 = some (Kd.int .i32) := by kernel_rfl
@[simp] theorem zero131 : tyZero Tryd.prog 131 = some [.sc (.int .i32 0)] := by kernel_rfl
@[simp] theorem agg132 : tyAgg Tryd.prog 132 = some false := by kernel_rfl
@[simp] theorem size132 : tySize Tryd.prog 132 = some 1 := by kernel_rfl
@[simp] theorem kd132 : tyKd Tryd.prog 132 = some (Kd.int .i32) := by kernel_rfl
@[simp] theorem zero132 : tyZero Tryd.prog 132 = some [.sc (.int .i32 0)] := by kernel_rfl
@[simp] theorem agg133 : tyAgg Tryd.prog 133 = some true := by kernel_rfl
@[simp] theorem size133 : tySize Tryd.prog 133 = some 11 := by kernel_rfl
@[simp] theorem kd133 : tyKd Tryd.prog 133 = some (Kd.other) := by kernel_rfl
@[simp] theorem zero133 : tyZero Tryd.prog 133 = some [.sc (.int .u64 0), .sc (.int .u64 0), .sc (.int .u32 0), .sc (.int .u8 0), .sc (.int .u8 0), .sc (.int .u8 0), .sc (.int .u8 0), .sc .nilFunc, .sc (.pointer none), .sc (.int .i32 0), .sc (.int .i32 0)] := by kernel_rfl
@[simp] theorem field133_0 : tyField Tryd.prog 133 0 = some (12, 0, 1) := by kernel_rfl
@[simp] theorem field133_1 : tyField Tryd.prog 133 1 = some (12, 1, 1) := by kernel_rfl
@[simp] theorem field133_2 : tyField Tryd.prog 133 2 = some (107, 2, 1) := by kernel_rfl
@[simp] theorem field133_3 : tyField Tryd.prog 133 3 = some (129, 3, 1) := by kernel_rfl
@[simp] theorem field133_4 : tyField Tryd.prog 133 4 = some (5, 4, 1) := by kernel_rfl
@[simp] theorem field133_5 : tyField Tryd.prog 133 5 = some (5, 5, 1) := by kernel_rfl
@[simp] theorem field133_6 : tyField Tryd.prog 133 6 = some (64, 6, 1) := by kernel_rfl
@[simp] theorem field133_7 : tyField Tryd.prog 133 7 = some (130, 7, 1) := by kernel_rfl
@[simp] theorem field133_8 : tyField Tryd.prog 133 8 = some (114, 8, 1) := by kernel_rfl
@[simp] theorem field133_9 : tyField Tryd.prog 133 9 = some (131, 9, 1) := by kernel_rfl
@[simp] theorem field133_10 : tyField Tryd.prog 133 10 = some (132, 10, 1) := by kernel_rfl
@[simp] theorem places133 : tyPlaces Tryd.prog 133 = some [(0, 1), (1, 1), (2, 1), (3, 1), (4, 1), (5, 1), (6, 1), (7, 1), (8, 1), (9, 1), (10, 1)] := by kernel_rfl
@[simp] theorem agg134 : tyAgg Tryd.prog 134 = some true := by kernel_rfl
@[simp] theorem size134 : tySize Tryd.prog 134 = some 11 := by kernel_rfl
@[simp] theorem kd134 : tyKd Tryd.prog 134 = some (Kd.other) := by kernel_rfl
@[simp] theorem zero134 : tyZero Tryd.prog 134 = some [.sc (.int .u64 0), .sc (.int .u64 0), .sc (.int .u32 0), .sc (.int .u8 0), .sc (.int .u8 0), .sc (.int .u8 0), .sc (.int .u8 0), .sc .nilFunc, .sc (.pointer none), .sc (.int .i32 0), .sc (.int .i32 0)] := by kernel_rfl
@[simp] theorem field134_0 : tyField Tryd.prog 134 0 = some (12, 0, 1) := by kernel_rfl
@[simp] theorem field134_1 : tyField Tryd.prog 134 1 = some (12, 1, 1) := by kernel_rfl
@[simp] theorem field134_2 : tyField Tryd.prog 134 2 = some (107, 2, 1) := by kernel_rfl
@[simp] theorem field134_3 : tyField Tryd.prog 134 3 = some (129, 3, 1) := by kernel_rfl
@[simp] theorem field134_4 : tyField Tryd.prog 134 4 = some (5, 4, 1) := by kernel_rfl
@[simp] theorem field134_5 : tyField Tryd.prog 134 5 = some (5, 5, 1) := by kernel_rfl
@[simp] theorem field134_6 : tyField Tryd.prog 134 6 = some (64, 6, 1) := by kernel_rfl
@[simp] theorem field134_7 : tyField Tryd.prog 134 7 = some (130, 7, 1) := by kernel_rfl
@[simp] theorem field134_8 : tyField Tryd.prog 134 8 = some (114, 8, 1) := by kernel_rfl
@[simp] theorem field134_9 : tyField Tryd.prog 134 9 = some (131, 9, 1) := by kernel_rfl
@[simp] theorem field134_10 : tyField Tryd.prog 134 10 = some (132, 10, 1) := by kernel_rfl
@[simp] theorem places134 : tyPlaces Tryd.prog 134 = some [(0, 1), (1, 1), (2, 1), (3, 1), (4, 1), (5, 1), (6, 1), (7, 1), (8, 1), (9, 1), (10, 1)] := by kernel_rfl
@[simp] theorem agg135 : tyAgg Tryd.prog 135 = some false := by kernel_rfl
@[simp] theorem size135 : tySize Tryd.prog 135 = some 1 := by kernel_rfl
@[simp] theorem kd135 : tyKd Tryd.prog 135 = some (Kd.func) := by kernel_rfl
@[simp] theorem zero135 : tyZero Tryd.prog 135 = some [.sc .nilFunc] := by kernel_rfl
@[simp] theorem agg136 : tyAgg Tryd.prog 136 = some false := by kernel_rfl
@[simp] theorem size136 : tySize Tryd.prog 136 = some 1 := by kernel_rfl
@[simp] theorem kd136 : tyKd Tryd.prog 136 = some (Kd.func) := by kernel_rfl
@[simp] theorem zero136 : tyZero Tryd.prog 136 = some [.sc .nilFunc] := by kernel_rfl
@[simp] theorem agg137 : tyAgg Tryd.prog 137 = some true := by kernel_rfl
@[simp] theorem size137 : tySize Tryd.prog 137 = some 2 := by kernel_rfl
@[simp] theorem kd137 : tyKd Tryd.prog 137 = some (Kd.other) := by kernel_rfl
@[simp] theorem zero137 : tyZero Tryd.prog 137 = some [.sc (.string ⟨#[]⟩), .sc (.int .u8 0)] := by kernel_rfl
@[simp] theorem field137_0 : tyField Tryd.prog 137 0 = some (9, 0, 1) := by kernel_rfl
@[simp] theorem field137_1 : tyField Tryd.prog 137 1 = some (64, 1, 1) := by kernel_rfl
@[simp] theorem places137 : tyPlaces Tryd.prog 137 = some [(0, 1), (1, 1)] := by kernel_rfl
@[simp] theorem agg138 : tyAgg Tryd.prog 138 = some true := by kernel_rfl
@[simp] theorem size138 : tySize Tryd.prog 138 = some 2 := by kernel_rfl
@[simp] theorem kd138 : tyKd Tryd.prog 138 = some (Kd.other) := by kernel_rfl
@[simp] theorem zero138 : tyZero Tryd.prog 138 = some [.sc (.string ⟨#[]⟩), .sc (.int .u8 0)] := by kernel_rfl
@[simp] theorem field138_0 : tyField Tryd.prog 138 0 = some (9, 0, 1) := by kernel_rfl
@[simp] theorem field138_1 : tyField Tryd.prog 138 1 = some (64, 1, 1) := by kernel_rfl
@[simp] theorem places138 : tyPlaces Tryd.prog 138 = some [(0, 1), (1, 1)] := by kernel_rfl
@[simp] theorem agg139 : tyAgg Tryd.prog 139 = some false := by kernel_rfl
@[simp] theorem size139 : tySize Tryd.prog 139 = some 1 := by kernel_rfl
@[simp] theorem kd139 : tyKd Tryd.prog 139 = some (Kd.ptr) := by kernel_rfl
@[simp] theorem zero139 : tyZero Tryd.prog 139 = some [.sc (.pointer none)] := by kernel_rfl
@[simp] theorem agg140 : tyAgg Tryd.prog 140 = some false := by kernel_rfl
@[simp] theorem size140 : tySize Tryd.prog 140 = some 1 := by kernel_rfl
@[simp] theorem kd140 : tyKd Tryd.prog 140 = some (Kd.func) := by kernel_rfl
@[simp] theorem zero140 : tyZero Tryd.prog 140 = some [.sc .nilFunc] := by kernel_rfl
@[simp] theorem agg141 : tyAgg Tryd.prog 141 = some false := by kernel_rfl
@[simp] theorem size141 : tySize Tryd.prog 141 = some 1 := by kernel_rfl
@[simp] theorem kd141 : tyKd Tryd.prog 141 = some (Kd.int .u16) := by kernel_rfl
@[simp] theorem zero141 : tyZero Tryd.prog 141 = some [.sc (.int .u16 0)] := by kernel_rfl
@[simp] theorem agg142 : tyAgg Tryd.prog 142 = some true := by kernel_rfl
@[simp] theorem size142 : tySize Tryd.prog 142 = some 5 := by kernel_rfl
@[simp] theorem kd142 : tyKd Tryd.prog 142 = some (Kd.other) := by kernel_rfl
@[simp] theorem zero142 : tyZero Tryd.prog 142 = some [.sc (.int .i32 0), .sc (.int .u16 0), .sc (.int .u16 0), .sc (.int .u32 0), .sc (.int .u32 0)] := by kernel_rfl
@[simp] theorem field142_0 : tyField Tryd.prog 142 0 = some (131, 0, 1) := by kernel_rfl
@[simp] theorem field142_1 : tyField Tryd.prog 142 1 = some (141, 1, 1) := by kernel_rfl
@[simp] theorem field142_2 : tyField Tryd.prog 142 2 = some (141, 2, 1) := by kernel_rfl
@[simp] theorem field142_3 : tyField Tryd.prog 142 3 = some (107, 3, 1) := by kernel_rfl
@[simp] theorem field142_4 : tyField Tryd.prog 142 4 = some (107, 4, 1) := by kernel_rfl
@[simp] theorem places142 : tyPlaces Tryd.prog 142 = some [(0, 1), (1, 1), (2, 1), (3, 1), (4, 1)] := by kernel_rfl
@[simp] theorem agg143 : tyAgg Tryd.prog 143 = some true := by kernel_rfl
@[simp] theorem size143 : tySize Tryd.prog 143 = some 5 := by kernel_rfl
@[simp] theorem kd143 : tyKd Tryd.prog 143 = some (Kd.other) := by kernel_rfl
@[simp] theorem zero143 : tyZero Tryd.prog 143 = some [.sc (.int .i32 0), .sc (.int .u16 0), .sc (.int .u16 0), .sc (.int .u32 0), .sc (.int .u32 0)] := by kernel_rfl
@[simp] theorem field143_0 : tyField Tryd.prog 143 0 = some (131, 0, 1) := by kernel_rfl
@[simp] theorem field143_1 : tyField Tryd.prog 143 1 = some (141, 1, 1) := by kernel_rfl
@[simp] theorem field143_2 : tyField Tryd.prog 143 2 = some (141, 2, 1) := by kernel_rfl
@[simp] theorem field143_3 : tyField Tryd.prog 143 3 = some (107, 3, 1) := by kernel_rfl
@[simp] theorem field143_4 : tyField Tryd.prog 143 4 = some (107, 4, 1) := by kernel_rfl
@[simp] theorem places143 : tyPlaces Tryd.prog 143 = some [(0, 1), (1, 1), (2, 1), (3, 1), (4, 1)] := by kernel_rfl
@[simp] theorem agg144 : tyAgg Tryd.prog 144 = some false := by kernel_rfl
@[simp] theorem size144 : tySize Tryd.prog 144 = some 1 := by kernel_rfl
@[simp] theorem kd144 : tyKd Tryd.prog 144 = some (Kd.other) := by kernel_rfl
@[simp] theorem elem144 : tyElem Tryd.prog 144 = some (147, 4, 16) := by kernel_rfl
@[simp] theorem zero144 : tyZero Tryd.prog 144 = some [.slice .clip []] := by kernel_rfl
@[simp] theorem agg145 : tyAgg Tryd.prog 145 = some false := by kernel_rfl
@[simp] theorem size145 : tySize Tryd.prog 145 = some 1 := by kernel_rfl
@[simp] theorem kd145 : tyKd Tryd.prog 145 = some (Kd.int .i32) := by kernel_rfl
@[simp] theorem zero145 : tyZero Tryd.prog 145 = some [.sc (.int .i32 0)] := by kernel_rfl
@[simp] theorem agg146 : tyAgg Tryd.prog 146 = some true := by kernel_rfl
@[simp] theorem size146 : tySize Tryd.prog 146 = some 4 := by kernel_rfl
@[simp] theorem kd146 : tyKd Tryd.prog 146 = some (Kd.other) := by kernel_rfl
@[simp] theorem zero146 : tyZero Tryd.prog 146 = some [.sc (.int .i32 0), .sc (.int .i32 0), .sc (.int .i32 0), .sc (.int .i32 0)] := by kernel_rfl
@[simp] theorem field146_0 : tyField Tryd.prog 146 0 = some (131, 0, 1) := by kernel_rfl
@[simp] theorem field146_1 : tyField Tryd.prog 146 1 = some (132, 1, 1) := by kernel_rfl
@[simp] theorem field146_2 : tyField Tryd.prog 146 2 = some (145, 2, 1) := by kernel_rfl
@[simp] theorem field146_3 : tyField Tryd.prog 146 3 = some (145, 3, 1) := by kernel_rfl
@[simp] theorem places146 : tyPlaces Tryd.prog 146 = some [(0, 1), (1, 1), (2, 1), (3, 1)] := by kernel_rfl
@[simp] theorem agg147 : tyAgg Tryd.prog 147 = some true := by kernel_rfl
@[simp] theorem size147 : tySize Tryd.prog 147 = some 4 := by kernel_rfl
@[simp] theorem kd147 : tyKd Tryd.prog 147 = some (Kd.other) := by kernel_rfl
@[simp] theorem zero147 : tyZero Tryd.prog 147 = some [.sc (.int .i32 0), .sc (.int .i32 0), .sc (.int .i32 0), .sc (.int .i32 0)] := by kernel_rfl
@[simp] theorem field147_0 : tyField Tryd.prog 147 0 = some (131, 0, 1) := by kernel_rfl
@[simp] theorem field147_1 : tyField Tryd.prog 147 1 = some (132, 1, 1) := by kernel_rfl
@[simp] theorem field147_2 : tyField Tryd.prog 147 2 = some (145, 2, 1) := by kernel_rfl
@[simp] theorem field147_3 : tyField Tryd.prog 147 3 = some (145, 3, 1) := by kernel_rfl
@[simp] theorem places147 : tyPlaces Tryd.prog 147 = some [(0, 1), (1, 1), (2, 1), (3, 1)] := by kernel_rfl
@[simp] theorem agg148 : tyAgg Tryd.prog 148 = some false := by kernel_rfl
@[simp] theorem size148 : tySize Tryd.prog 148 = some 1 := by kernel_rfl
@[simp] theorem kd148 : tyKd Tryd.prog 148 = some (Kd.ptr) := by kernel_rfl
@[simp] theorem zero148 : tyZero Tryd.prog 148 = some [.sc (.pointer none)] := by kernel_rfl
@[simp] theorem call2 : callable Tryd.prog 2 = true := by kernel_rfl
@[simp] theorem call3 : callable Tryd.prog 3 = true := by kernel_rfl
@[simp] theorem call4 : callable Tryd.prog 4 = true := by kernel_rfl
@[simp] theorem call5 : callable Tryd.prog 5 = true := by kernel_rfl
@[simp] theorem call6 : callable Tryd.prog 6 = true := by kernel_rfl
@[simp] theorem call7 : callable Tryd.prog 7 = true := by kernel_rfl
@[simp] theorem call8 : callable Tryd.prog 8 = true := by kernel_rfl
@[simp] theorem call9 : callable Tryd.prog 9 = true := by kernel_rfl
@[simp] theorem call10 : callable Tryd.prog 10 = true := by kernel_rfl
@[simp] theorem call11 : callable Tryd.prog 11 = true := by kernel_rfl
@[simp] theorem call12 : callable Tryd.prog 12 = true := by kernel_rfl
@[simp] theorem call13 : callable Tryd.prog 13 = true := by kernel_rfl
@[simp] theorem call14 : callable Tryd.prog 14 = true := by kernel_rfl
@[simp] theorem call15 : callable Tryd.prog 15 = true := by kernel_rfl
@[simp] theorem call16 : callable Tryd.prog 16 = true := by kernel_rfl
@[simp] theorem call17 : callable Tryd.prog 17 = true := by kernel_rfl
@[simp] theorem call18 : callable Tryd.prog 18 = true := by kernel_rfl
@[simp] theorem call19 : callable Tryd.prog 19 = true := by kernel_rfl
@[simp] theorem call20 : callable Tryd.prog 20 = true := by kernel_rfl
@[simp] theorem call21 : callable Tryd.prog 21 = true := by kernel_rfl
@[simp] theorem call22 : callable Tryd.prog 22 = true := by kernel_rfl
@[simp] theorem call23 : callable Tryd.prog 23 = true := by kernel_rfl
@[simp] theorem call24 : callable Tryd.prog 24 = true := by kernel_rfl
@[simp] theorem call25 : callable Tryd.prog 25 = true := by kernel_rfl
@[simp] theorem call26 : callable Tryd.prog 26 = true := by kernel_rfl
@[simp] theorem call27 : callable Tryd.prog 27 = true := by kernel_rfl
@[simp] theorem call28 : callable Tryd.prog 28 = true := by kernel_rfl
@[simp] theorem call32 : callable Tryd.prog 32 = true := by kernel_rfl
@[simp] theorem call33 : callable Tryd.prog 33 = true := by kernel_rfl
@[simp] theorem call34 : callable Tryd.prog 34 = true := by kernel_rfl
@[simp] theorem call35 : callable Tryd.prog 35 = true := by kernel_rfl
@[simp] theorem call36 : callable Tryd.prog 36 = true := by kernel_rfl
@[simp] theorem call37 : callable Tryd.prog 37 = true := by kernel_rfl
@[simp] theorem call38 : callable Tryd.prog 38 = true := by kernel_rfl
@[simp] theorem call39 : callable Tryd.prog 39 = true := by kernel_rfl
@[simp] theorem call43 : callable Tryd.prog 43 = true := by kernel_rfl
@[simp] theorem call44 : callable Tryd.prog 44 = true := by kernel_rfl
@[simp] theorem call45 : callable Tryd.prog 45 = true := by kernel_rfl
@[simp] theorem call46 : callable Tryd.prog 46 = true := by kernel_rfl
@[simp] theorem call47 : callable Tryd.prog 47 = true := by kernel_rfl
@[simp] theorem call48 : callable Tryd.prog 48 = true := by kernel_rfl
@[simp] theorem call49 : callable Tryd.prog 49 = true := by kernel_rfl
@[simp] theorem call50 : callable Tryd.prog 50 = true := by kernel_rfl
@[simp] theorem call51 : callable Tryd.prog 51 = true := by kernel_rfl
@[simp] theorem call52 : callable Tryd.prog 52 = true := by kernel_rfl
@[simp] theorem call53 : callable Tryd.prog 53 = true := by kernel_rfl
@[simp] theorem call54 : callable Tryd.prog 54 = true := by kernel_rfl
@[simp] theorem call55 : callable Tryd.prog 55 = true := by kernel_rfl
@[simp] theorem call56 : callable Tryd.prog 56 = true := by kernel_rfl
@[simp] theorem call57 : callable Tryd.prog 57 = true := by kernel_rfl
@[simp] theorem call58 : callable Tryd.prog 58 = true := by kernel_rfl
@[simp] theorem call59 : callable Tryd.prog 59 = true := by kernel_rfl
@[simp] theorem call60 : callable Tryd.prog 60 = true := by kernel_rfl
@[simp] theorem call79 : callable Tryd.prog 79 = true := by kernel_rfl
@[simp] theorem call81 : callable Tryd.prog 81 = true := by kernel_rfl
@[simp] theorem call126 : callable Tryd.prog 126 = true := by kernel_rfl
@[simp] theorem mixed : (Tryd.prog).follows .mixedOrders = true := by kernel_rfl
end Go.Proofs.YtcjiebgnccaogaaDoor.Tab
