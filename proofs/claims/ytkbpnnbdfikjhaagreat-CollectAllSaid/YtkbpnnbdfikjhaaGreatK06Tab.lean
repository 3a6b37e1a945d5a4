/- Facts of the type table of this program, each decided by the kernel. -/
import Derived.Test.YtkbpnnbdfikjhaaGreatK05CodeD
import Derived.Test.YtkbpnnbdfikjhaaGreatProg
import Derived.KernelRfl
namespace Go.Proofs.YtkbpnnbdfikjhaaGreat.Tab
open Go Go.Aw
@[simp] theorem agg1 : tyAgg Tryz.prog 1 = some false := by kernel_rfl
@[simp] theorem size1 : tySize Tryz.prog 1 = some 1 := by kernel_rfl
@[simp] theorem kd1 : tyKd Tryz.prog 1 = some (Kd.func) := by kernel_rfl
@[simp] theorem arr1 : tyArr Tryz.prog 1 = none := by kernel_rfl
@[simp] theorem zav1 : zeroAV Tryz.prog 1 = some (.sc .nilFunc) := by kernel_rfl
@[simp] theorem zero1 : tyZero Tryz.prog 1 = some [.sc .nilFunc] := by kernel_rfl
@[simp] theorem agg2 : tyAgg Tryz.prog 2 = some false := by kernel_rfl
@[simp] theorem size2 : tySize Tryz.prog 2 = some 1 := by kernel_rfl
@[simp] theorem kd2 : tyKd Tryz.prog 2 = some (Kd.int .i64) := by kernel_rfl
@[simp] theorem arr2 : tyArr Tryz.prog 2 = none := by kernel_rfl
@[simp] theorem zav2 : zeroAV Tryz.prog 2 = some (.sc (.int .i64 0)) := by kernel_rfl
@[simp] theorem zero2 : tyZero Tryz.prog 2 = some [.sc (.int .i64 0)] := by kernel_rfl
@[simp] theorem agg3 : tyAgg Tryz.prog 3 = some false := by kernel_rfl
@[simp] theorem size3 : tySize Tryz.prog 3 = some 1 := by kernel_rfl
@[simp] theorem kd3 : tyKd Tryz.prog 3 = some (Kd.int .i64) := by kernel_rfl
@[simp] theorem arr3 : tyArr Tryz.prog 3 = none := by kernel_rfl
@[simp] theorem zav3 : zeroAV Tryz.prog 3 = some (.sc (.int .i64 0)) := by kernel_rfl
@[simp] theorem zero3 : tyZero Tryz.prog 3 = some [.sc (.int .i64 0)] := by kernel_rfl
@[simp] theorem agg4 : tyAgg Tryz.prog 4 = some false := by kernel_rfl
@[simp] theorem size4 : tySize Tryz.prog 4 = some 1 := by kernel_rfl
@[simp] theorem kd4 : tyKd Tryz.prog 4 = some (Kd.bool) := by kernel_rfl
@[simp] theorem arr4 : tyArr Tryz.prog 4 = none := by kernel_rfl
@[simp] theorem zav4 : zeroAV Tryz.prog 4 = some (.sc (.bool false)) := by kernel_rfl
@[simp] theorem zero4 : tyZero Tryz.prog 4 = some [.sc (.bool false)] := by kernel_rfl
@[simp] theorem agg5 : tyAgg Tryz.prog 5 = some false := by kernel_rfl
@[simp] theorem size5 : tySize Tryz.prog 5 = some 1 := by kernel_rfl
@[simp] theorem kd5 : tyKd Tryz.prog 5 = some (Kd.int .u8) := by kernel_rfl
@[simp] theorem arr5 : tyArr Tryz.prog 5 = none := by kernel_rfl
@[simp] theorem zav5 : zeroAV Tryz.prog 5 = some (.sc (.int .u8 0)) := by kernel_rfl
@[simp] theorem zero5 : tyZero Tryz.prog 5 = some [.sc (.int .u8 0)] := by kernel_rfl
@[simp] theorem agg6 : tyAgg Tryz.prog 6 = some false := by kernel_rfl
@[simp] theorem size6 : tySize Tryz.prog 6 = some 1 := by kernel_rfl
@[simp] theorem kd6 : tyKd Tryz.prog 6 = some (Kd.int .u8) := by kernel_rfl
@[simp] theorem arr6 : tyArr Tryz.prog 6 = none := by kernel_rfl
@[simp] theorem zav6 : zeroAV Tryz.prog 6 = some (.sc (.int .u8 0)) := by kernel_rfl
@[simp] theorem zero6 : tyZero Tryz.prog 6 = some [.sc (.int .u8 0)] := by kernel_rfl
@[simp] theorem agg7 : tyAgg Tryz.prog 7 = some true := by kernel_rfl
@[simp] theorem size7 : tySize Tryz.prog 7 = some 4 := by kernel_rfl
@[simp] theorem kd7 : tyKd Tryz.prog 7 = some (Kd.other) := by kernel_rfl
@[simp] theorem arr7 : tyArr Tryz.prog 7 = none := by kernel_rfl
@[simp] theorem zav7 : zeroAV Tryz.prog 7 = some (.agg [.sc (.int .i64 0), .sc (.int .i64 0), .sc (.bool false), .sc (.int .u8 0)]) := by kernel_rfl
@[simp] theorem zero7 : tyZero Tryz.prog 7 = some [.sc (.int .i64 0), .sc (.int .i64 0), .sc (.bool false), .sc (.int .u8 0)] := by kernel_rfl
@[simp] theorem field7_0 : tyField Tryz.prog 7 0 = some (2, 0, 1) := by kernel_rfl
@[simp] theorem field7_1 : tyField Tryz.prog 7 1 = some (3, 1, 1) := by kernel_rfl
@[simp] theorem field7_2 : tyField Tryz.prog 7 2 = some (4, 2, 1) := by kernel_rfl
@[simp] theorem field7_3 : tyField Tryz.prog 7 3 = some (6, 3, 1) := by kernel_rfl
@[simp] theorem places7 : tyPlaces Tryz.prog 7 = some [(0, 1), (1, 1), (2, 1), (3, 1)] := by kernel_rfl
@[simp] theorem agg8 : tyAgg Tryz.prog 8 = some true := by kernel_rfl
@[simp] theorem size8 : tySize Tryz.prog 8 = some 4 := by kernel_rfl
@[simp] theorem kd8 : tyKd Tryz.prog 8 = some (Kd.other) := by kernel_rfl
@[simp] theorem arr8 : tyArr Tryz.prog 8 = none := by kernel_rfl
@[simp] theorem zav8 : zeroAV Tryz.prog 8 = some (.agg [.sc (.int .i64 0), .sc (.int .i64 0), .sc (.bool false), .sc (.int .u8 0)]) := by kernel_rfl
@[simp] theorem zero8 : tyZero Tryz.prog 8 = some [.sc (.int .i64 0), .sc (.int .i64 0), .sc (.bool false), .sc (.int .u8 0)] := by kernel_rfl
@[simp] theorem field8_0 : tyField Tryz.prog 8 0 = some (2, 0, 1) := by kernel_rfl
@[simp] theorem field8_1 : tyField Tryz.prog 8 1 = some (3, 1, 1) := by kernel_rfl
@[simp] theorem field8_2 : tyField Tryz.prog 8 2 = some (4, 2, 1) := by kernel_rfl
@[simp] theorem field8_3 : tyField Tryz.prog 8 3 = some (6, 3, 1) := by kernel_rfl
@[simp] theorem places8 : tyPlaces Tryz.prog 8 = some [(0, 1), (1, 1), (2, 1), (3, 1)] := by kernel_rfl
@[simp] theorem agg9 : tyAgg Tryz.prog 9 = some false := by kernel_rfl
@[simp] theorem size9 : tySize Tryz.prog 9 = some 1 := by kernel_rfl
@[simp] theorem kd9 : tyKd Tryz.prog 9 = some (Kd.str) := by kernel_rfl
@[simp] theorem arr9 : tyArr Tryz.prog 9 = none := by kernel_rfl
@[simp] theorem zav9 : zeroAV Tryz.prog 9 = some (.sc (.string ⟨#[]⟩)) := by kernel_rfl
@[simp] theorem zero9 : tyZero Tryz.prog 9 = some [.sc (.string ⟨#[]⟩)] := by kernel_rfl
@[simp] theorem agg10 : tyAgg Tryz.prog 10 = some false := by kernel_rfl
@[simp] theorem size10 : tySize Tryz.prog 10 = some 1 := by kernel_rfl
@[simp] theorem kd10 : tyKd Tryz.prog 10 = some (Kd.str) := by kernel_rfl
@[simp] theorem arr10 : tyArr Tryz.prog 10 = none := by kernel_rfl
@[simp] theorem zav10 : zeroAV Tryz.prog 10 = some (.sc (.string ⟨#[]⟩)) := by kernel_rfl
@[simp] theorem zero10 : tyZero Tryz.prog 10 = some [.sc (.string ⟨#[]⟩)] := by kernel_rfl
@[simp] theorem agg11 : tyAgg Tryz.prog 11 = some false := by kernel_rfl
@[simp] theorem size11 : tySize Tryz.prog 11 = some 1 := by kernel_rfl
@[simp] theorem kd11 : tyKd Tryz.prog 11 = some (Kd.str) := by kernel_rfl
@[simp] theorem arr11 : tyArr Tryz.prog 11 = none := by kernel_rfl
@[simp] theorem zav11 : zeroAV Tryz.prog 11 = some (.sc (.string ⟨#[]⟩)) := by kernel_rfl
@[simp] theorem zero11 : tyZero Tryz.prog 11 = some [.sc (.string ⟨#[]⟩)] := by kernel_rfl
@[simp] theorem agg12 : tyAgg Tryz.prog 12 = some false := by kernel_rfl
@[simp] theorem size12 : tySize Tryz.prog 12 = some 1 := by kernel_rfl
@[simp] theorem kd12 : tyKd Tryz.prog 12 = some (Kd.int .u64) := by kernel_rfl
@[simp] theorem arr12 : tyArr Tryz.prog 12 = none := by kernel_rfl
@[simp] theorem zav12 : zeroAV Tryz.prog 12 = some (.sc (.int .u64 0)) := by kernel_rfl
@[simp] theorem zero12 : tyZero Tryz.prog 12 = some [.sc (.int .u64 0)] := by kernel_rfl
@[simp] theorem agg13 : tyAgg Tryz.prog 13 = some true := by kernel_rfl
@[simp] theorem size13 : tySize Tryz.prog 13 = some 2 := by kernel_rfl
@[simp] theorem kd13 : tyKd Tryz.prog 13 = some (Kd.other) := by kernel_rfl
@[simp] theorem arr13 : tyArr Tryz.prog 13 = none := by kernel_rfl
@[simp] theorem zav13 : zeroAV Tryz.prog 13 = some (.agg [.sc (.string ⟨#[]⟩), .sc (.int .u64 0)]) := by kernel_rfl
@[simp] theorem zero13 : tyZero Tryz.prog 13 = some [.sc (.string ⟨#[]⟩), .sc (.int .u64 0)] := by kernel_rfl
@[simp] theorem field13_0 : tyField Tryz.prog 13 0 = some (9, 0, 1) := by kernel_rfl
@[simp] theorem field13_1 : tyField Tryz.prog 13 1 = some (12, 1, 1) := by kernel_rfl
@[simp] theorem places13 : tyPlaces Tryz.prog 13 = some [(0, 1), (1, 1)] := by kernel_rfl
@[simp] theorem agg14 : tyAgg Tryz.prog 14 = some true := by kernel_rfl
@[simp] theorem size14 : tySize Tryz.prog 14 = some 2 := by kernel_rfl
@[simp] theorem kd14 : tyKd Tryz.prog 14 = some (Kd.other) := by kernel_rfl
@[simp] theorem arr14 : tyArr Tryz.prog 14 = none := by kernel_rfl
@[simp] theorem zav14 : zeroAV Tryz.prog 14 = some (.agg [.sc (.string ⟨#[]⟩), .sc (.int .u64 0)]) := by kernel_rfl
@[simp] theorem zero14 : tyZero Tryz.prog 14 = some [.sc (.string ⟨#[]⟩), .sc (.int .u64 0)] := by kernel_rfl
@[simp] theorem field14_0 : tyField Tryz.prog 14 0 = some (9, 0, 1) := by kernel_rfl
@[simp] theorem field14_1 : tyField Tryz.prog 14 1 = some (12, 1, 1) := by kernel_rfl
@[simp] theorem places14 : tyPlaces Tryz.prog 14 = some [(0, 1), (1, 1)] := by kernel_rfl
@[simp] theorem agg15 : tyAgg Tryz.prog 15 = some false := by kernel_rfl
@[simp] theorem size15 : tySize Tryz.prog 15 = some 1 := by kernel_rfl
@[simp] theorem kd15 : tyKd Tryz.prog 15 = some (Kd.ptr) := by kernel_rfl
@[simp] theorem arr15 : tyArr Tryz.prog 15 = none := by kernel_rfl
@[simp] theorem zav15 : zeroAV Tryz.prog 15 = some (.sc (.pointer none)) := by kernel_rfl
@[simp] theorem zero15 : tyZero Tryz.prog 15 = some [.sc (.pointer none)] := by kernel_rfl
@[simp] theorem agg16 : tyAgg Tryz.prog 16 = some false := by kernel_rfl
@[simp] theorem size16 : tySize Tryz.prog 16 = some 1 := by kernel_rfl
@[simp] theorem kd16 : tyKd Tryz.prog 16 = some (Kd.ptr) := by kernel_rfl
@[simp] theorem arr16 : tyArr Tryz.prog 16 = none := by kernel_rfl
@[simp] theorem zav16 : zeroAV Tryz.prog 16 = some (.sc (.pointer none)) := by kernel_rfl
@[simp] theorem zero16 : tyZero Tryz.prog 16 = some [.sc (.pointer none)] := by kernel_rfl
@[simp] theorem agg17 : tyAgg Tryz.prog 17 = some false := by kernel_rfl
@[simp] theorem size17 : tySize Tryz.prog 17 = some 1 := by kernel_rfl
@[simp] theorem kd17 : tyKd Tryz.prog 17 = some (Kd.ptr) := by kernel_rfl
@[simp] theorem arr17 : tyArr Tryz.prog 17 = none := by kernel_rfl
@[simp] theorem zav17 : zeroAV Tryz.prog 17 = some (.sc (.pointer none)) := by kernel_rfl
@[simp] theorem zero17 : tyZero Tryz.prog 17 = some [.sc (.pointer none)] := by kernel_rfl
@[simp] theorem agg18 : tyAgg Tryz.prog 18 = some true := by kernel_rfl
@[simp] theorem size18 : tySize Tryz.prog 18 = some 1 := by kernel_rfl
@[simp] theorem kd18 : tyKd Tryz.prog 18 = some (Kd.other) := by kernel_rfl
@[simp] theorem arr18 : tyArr Tryz.prog 18 = none := by kernel_rfl
@[simp] theorem zav18 : zeroAV Tryz.prog 18 = some (.agg [.sc (.pointer none)]) := by kernel_rfl
@[simp] theorem zero18 : tyZero Tryz.prog 18 = some [.sc (.pointer none)] := by kernel_rfl
@[simp] theorem field18_0 : tyField Tryz.prog 18 0 = some (17, 0, 1) := by kernel_rfl
@[simp] theorem places18 : tyPlaces Tryz.prog 18 = some [(0, 1)] := by kernel_rfl
@[simp] theorem agg19 : tyAgg Tryz.prog 19 = some true := by kernel_rfl
@[simp] theorem size19 : tySize Tryz.prog 19 = some 1 := by kernel_rfl
@[simp] theorem kd19 : tyKd Tryz.prog 19 = some (Kd.other) := by kernel_rfl
@[simp] theorem arr19 : tyArr Tryz.prog 19 = none := by kernel_rfl
@[simp] theorem zav19 : zeroAV Tryz.prog 19 = some (.agg [.sc (.pointer none)]) := by kernel_rfl
@[simp] theorem zero19 : tyZero Tryz.prog 19 = some [.sc (.pointer none)] := by kernel_rfl
@[simp] theorem field19_0 : tyField Tryz.prog 19 0 = some (17, 0, 1) := by kernel_rfl
@[simp] theorem places19 : tyPlaces Tryz.prog 19 = some [(0, 1)] := by kernel_rfl
@[simp] theorem agg20 : tyAgg Tryz.prog 20 = some false := by kernel_rfl
@[simp] theorem size20 : tySize Tryz.prog 20 = some 1 := by kernel_rfl
@[simp] theorem kd20 : tyKd Tryz.prog 20 = some (Kd.iface) := by kernel_rfl
@[simp] theorem arr20 : tyArr Tryz.prog 20 = none := by kernel_rfl
@[simp] theorem zav20 : zeroAV Tryz.prog 20 = some (.sc .nilIface) := by kernel_rfl
@[simp] theorem zero20 : tyZero Tryz.prog 20 = some [.sc .nilIface] := by kernel_rfl
@[simp] theorem agg21 : tyAgg Tryz.prog 21 = some false := by kernel_rfl
@[simp] theorem size21 : tySize Tryz.prog 21 = some 1 := by kernel_rfl
@[simp] theorem kd21 : tyKd Tryz.prog 21 = some (Kd.int .i32) := by kernel_rfl
@[simp] theorem arr21 : tyArr Tryz.prog 21 = none := by kernel_rfl
@[simp] theorem zav21 : zeroAV Tryz.prog 21 = some (.sc (.int .i32 0)) := by kernel_rfl
@[simp] theorem zero21 : tyZero Tryz.prog 21 = some [.sc (.int .i32 0)] := by kernel_rfl
@[simp] theorem agg22 : tyAgg Tryz.prog 22 = some false := by kernel_rfl
@[simp] theorem size22 : tySize Tryz.prog 22 = some 1 := by kernel_rfl
@[simp] theorem kd22 : tyKd Tryz.prog 22 = some (Kd.int .u64) := by kernel_rfl
@[simp] theorem arr22 : tyArr Tryz.prog 22 = none := by kernel_rfl
@[simp] theorem zav22 : zeroAV Tryz.prog 22 = some (.sc (.int .u64 0)) := by kernel_rfl
@[simp] theorem zero22 : tyZero Tryz.prog 22 = some [.sc (.int .u64 0)] := by kernel_rfl
@[simp] theorem agg23 : tyAgg Tryz.prog 23 = some true := by kernel_rfl
@[simp] theorem size23 : tySize Tryz.prog 23 = some 6 := by kernel_rfl
@[simp] theorem kd23 : tyKd Tryz.prog 23 = some (Kd.other) := by kernel_rfl
@[simp] theorem arr23 : tyArr Tryz.prog 23 = none := by kernel_rfl
@[simp] theorem zav23 : zeroAV Tryz.prog 23 = some (.agg [.sc (.int .i64 0), .sc (.int .i64 0), .sc (.int .i64 0), .sc (.int .i64 0), .sc (.int .i64 0), .sc (.int .u64 0)]) := by kernel_rfl
@[simp] theorem zero23 : tyZero Tryz.prog 23 = some [.sc (.int .i64 0), .sc (.int .i64 0), .sc (.int .i64 0), .sc (.int .i64 0), .sc (.int .i64 0), .sc (.int .u64 0)] := by kernel_rfl
@[simp] theorem field23_0 : tyField Tryz.prog 23 0 = some (3, 0, 1) := by kernel_rfl
@[simp] theorem field23_1 : tyField Tryz.prog 23 1 = some (3, 1, 1) := by kernel_rfl
@[simp] theorem field23_2 : tyField Tryz.prog 23 2 = some (3, 2, 1) := by kernel_rfl
@[simp] theorem field23_3 : tyField Tryz.prog 23 3 = some (3, 3, 1) := by kernel_rfl
@[simp] theorem field23_4 : tyField Tryz.prog 23 4 = some (3, 4, 1) := by kernel_rfl
@[simp] theorem field23_5 : tyField Tryz.prog 23 5 = some (22, 5, 1) := by kernel_rfl
@[simp] theorem places23 : tyPlaces Tryz.prog 23 = some [(0, 1), (1, 1), (2, 1), (3, 1), (4, 1), (5, 1)] := by kernel_rfl
@[simp] theorem agg24 : tyAgg Tryz.prog 24 = some true := by kernel_rfl
@[simp] theorem size24 : tySize Tryz.prog 24 = some 6 := by kernel_rfl
@[simp] theorem kd24 : tyKd Tryz.prog 24 = some (Kd.other) := by kernel_rfl
@[simp] theorem arr24 : tyArr Tryz.prog 24 = none := by kernel_rfl
@[simp] theorem zav24 : zeroAV Tryz.prog 24 = some (.agg [.sc (.int .i64 0), .sc (.int .i64 0), .sc (.int .i64 0), .sc (.int .i64 0), .sc (.int .i64 0), .sc (.int .u64 0)]) := by kernel_rfl
@[simp] theorem zero24 : tyZero Tryz.prog 24 = some [.sc (.int .i64 0), .sc (.int .i64 0), .sc (.int .i64 0), .sc (.int .i64 0), .sc (.int .i64 0), .sc (.int .u64 0)] := by kernel_rfl
@[simp] theorem field24_0 : tyField Tryz.prog 24 0 = some (3, 0, 1) := by kernel_rfl
@[simp] theorem field24_1 : tyField Tryz.prog 24 1 = some (3, 1, 1) := by kernel_rfl
@[simp] theorem field24_2 : tyField Tryz.prog 24 2 = some (3, 2, 1) := by kernel_rfl
@[simp] theorem field24_3 : tyField Tryz.prog 24 3 = some (3, 3, 1) := by kernel_rfl
@[simp] theorem field24_4 : tyField Tryz.prog 24 4 = some (3, 4, 1) := by kernel_rfl
@[simp] theorem field24_5 : tyField Tryz.prog 24 5 = some (22, 5, 1) := by kernel_rfl
@[simp] theorem eq24 : tyEq Tryz.prog 24 = some [(0, Kd.int .i64), (1, Kd.int .i64), (2, Kd.int .i64), (3, Kd.int .i64), (4, Kd.int .i64), (5, Kd.int .u64)] := by kernel_rfl
@[simp] theorem places24 : tyPlaces Tryz.prog 24 = some [(0, 1), (1, 1), (2, 1), (3, 1), (4, 1), (5, 1)] := by kernel_rfl
@[simp] theorem agg25 : tyAgg Tryz.prog 25 = some false := by kernel_rfl
@[simp] theorem size25 : tySize Tryz.prog 25 = some 1 := by kernel_rfl
@[simp] theorem kd25 : tyKd Tryz.prog 25 = some (Kd.other) := by kernel_rfl
@[simp] theorem elem25 : tyElem Tryz.prog 25 = some (39, 1, 24) := by kernel_rfl
@[simp] theorem arr25 : tyArr Tryz.prog 25 = none := by kernel_rfl
@[simp] theorem zav25 : zeroAV Tryz.prog 25 = some (.slice .clip []) := by kernel_rfl
@[simp] theorem zero25 : tyZero Tryz.prog 25 = some [.slice .clip []] := by kernel_rfl
@[simp] theorem agg26 : tyAgg Tryz.prog 26 = some false := by kernel_rfl
@[simp] theorem size26 : tySize Tryz.prog 26 = some 1 := by kernel_rfl
@[simp] theorem kd26 : tyKd Tryz.prog 26 = some (Kd.other) := by kernel_rfl
@[simp] theorem elem26 : tyElem Tryz.prog 26 = some (5, 1, 1) := by kernel_rfl
@[simp] theorem arr26 : tyArr Tryz.prog 26 = none := by kernel_rfl
@[simp] theorem zav26 : zeroAV Tryz.prog 26 = some (.slice .clip []) := by kernel_rfl
@[simp] theorem zero26 : tyZero Tryz.prog 26 = some [.slice .clip []] := by kernel_rfl
@[simp] theorem agg27 : tyAgg Tryz.prog 27 = some false := by kernel_rfl
@[simp] theorem size27 : tySize Tryz.prog 27 = some 1 := by kernel_rfl
@[simp] theorem kd27 : tyKd Tryz.prog 27 = some (Kd.func) := by kernel_rfl
@[simp] theorem arr27 : tyArr Tryz.prog 27 = none := by kernel_rfl
@[simp] theorem zav27 : zeroAV Tryz.prog 27 = some (.sc .nilFunc) := by kernel_rfl
@[simp] theorem zero27 : tyZero Tryz.prog 27 = some [.sc .nilFunc] := by kernel_rfl
@[simp] theorem agg28 : tyAgg Tryz.prog 28 = some false := by kernel_rfl
@[simp] theorem size28 : tySize Tryz.prog 28 = some 1 := by kernel_rfl
@[simp] theorem kd28 : tyKd Tryz.prog 28 = some (Kd.func) := by kernel_rfl
@[simp] theorem arr28 : tyArr Tryz.prog 28 = none := by kernel_rfl
@[simp] theorem zav28 : zeroAV Tryz.prog 28 = some (.sc .nilFunc) := by kernel_rfl
@[simp] theorem zero28 : tyZero Tryz.prog 28 = some [.sc .nilFunc] := by kernel_rfl
@[simp] theorem agg29 : tyAgg Tryz.prog 29 = some false := by kernel_rfl
@[simp] theorem size29 : tySize Tryz.prog 29 = some 1 := by kernel_rfl
@[simp] theorem kd29 : tyKd Tryz.prog 29 = some (Kd.func) := by kernel_rfl
@[simp] theorem arr29 : tyArr Tryz.prog 29 = none := by kernel_rfl
@[simp] theorem zav29 : zeroAV Tryz.prog 29 = some (.sc .nilFunc) := by kernel_rfl
@[simp] theorem zero29 : tyZero Tryz.prog 29 = some [.sc .nilFunc] := by kernel_rfl
@[simp] theorem agg30 : tyAgg Tryz.prog 30 = some false := by kernel_rfl
@[simp] theorem size30 : tySize Tryz.prog 30 = some 1 := by kernel_rfl
@[simp] theorem kd30 : tyKd Tryz.prog 30 = some (Kd.ptr) := by kernel_rfl
@[simp] theorem arr30 : tyArr Tryz.prog 30 = none := by kernel_rfl
@[simp] theorem zav30 : zeroAV Tryz.prog 30 = some (.sc (.pointer none)) := by kernel_rfl
@[simp] theorem zero30 : tyZero Tryz.prog 30 = some [.sc (.pointer none)] := by kernel_rfl
@[simp] theorem agg31 : tyAgg Tryz.prog 31 = some false := by kernel_rfl
@[simp] theorem size31 : tySize Tryz.prog 31 = some 1 := by kernel_rfl
@[simp] theorem kd31 : tyKd Tryz.prog 31 = some (Kd.func) := by kernel_rfl
@[simp] theorem arr31 : tyArr Tryz.prog 31 = none := by kernel_rfl
@[simp] theorem zav31 : zeroAV Tryz.prog 31 = some (.sc .nilFunc) := by kernel_rfl
@[simp] theorem zero31 : tyZero Tryz.prog 31 = some [.sc .nilFunc] := by kernel_rfl
@[simp] theorem agg32 : tyAgg Tryz.prog 32 = some false := by kernel_rfl
@[simp] theorem size32 : tySize Tryz.prog 32 = some 1 := by kernel_rfl
@[simp] theorem kd32 : tyKd Tryz.prog 32 = some (Kd.ptr) := by kernel_rfl
@[simp] theorem arr32 : tyArr Tryz.prog 32 = none := by kernel_rfl
@[simp] theorem zav32 : zeroAV Tryz.prog 32 = some (.sc (.pointer none)) := by kernel_rfl
@[simp] theorem zero32 : tyZero Tryz.prog 32 = some [.sc (.pointer none)] := by kernel_rfl
@[simp] theorem agg33 : tyAgg Tryz.prog 33 = some false := by kernel_rfl
@[simp] theorem size33 : tySize Tryz.prog 33 = some 1 := by kernel_rfl
@[simp] theorem kd33 : tyKd Tryz.prog 33 = some (Kd.func) := by kernel_rfl
@[simp] theorem arr33 : tyArr Tryz.prog 33 = none := by kernel_rfl
@[simp] theorem zav33 : zeroAV Tryz.prog 33 = some (.sc .nilFunc) := by kernel_rfl
@[simp] theorem zero33 : tyZero Tryz.prog 33 = some [.sc .nilFunc] := by kernel_rfl
@[simp] theorem agg34 : tyAgg Tryz.prog 34 = some false := by kernel_rfl
@[simp] theorem size34 : tySize Tryz.prog 34 = some 1 := by kernel_rfl
@[simp] theorem kd34 : tyKd Tryz.prog 34 = some (Kd.ptr) := by kernel_rfl
@[simp] theorem arr34 : tyArr Tryz.prog 34 = none := by kernel_rfl
@[simp] theorem zav34 : zeroAV Tryz.prog 34 = some (.sc (.pointer none)) := by kernel_rfl
@[simp] theorem zero34 : tyZero Tryz.prog 34 = some [.sc (.pointer none)] := by kernel_rfl
@[simp] theorem agg36 : tyAgg Tryz.prog 36 = some false := by kernel_rfl
@[simp] theorem size36 : tySize Tryz.prog 36 = some 1 := by kernel_rfl
@[simp] theorem kd36 : tyKd Tryz.prog 36 = some (Kd.func) := by kernel_rfl
@[simp] theorem arr36 : tyArr Tryz.prog 36 = none := by kernel_rfl
@[simp] theorem zav36 : zeroAV Tryz.prog 36 = some (.sc .nilFunc) := by kernel_rfl
@[simp] theorem zero36 : tyZero Tryz.prog 36 = some [.sc .nilFunc] := by kernel_rfl
@[simp] theorem agg37 : tyAgg Tryz.prog 37 = some false := by kernel_rfl
@[simp] theorem size37 : tySize Tryz.prog 37 = some 1 := by kernel_rfl
@[simp] theorem kd37 : tyKd Tryz.prog 37 = some (Kd.ptr) := by kernel_rfl
@[simp] theorem arr37 : tyArr Tryz.prog 37 = none := by kernel_rfl
@[simp] theorem zav37 : zeroAV Tryz.prog 37 = some (.sc (.pointer none)) := by kernel_rfl
@[simp] theorem zero37 : tyZero Tryz.prog 37 = some [.sc (.pointer none)] := by kernel_rfl
@[simp] theorem agg38 : tyAgg Tryz.prog 38 = some false := by kernel_rfl
@[simp] theorem size38 : tySize Tryz.prog 38 = some 1 := by kernel_rfl
@[simp] theorem kd38 : tyKd Tryz.prog 38 = some (Kd.func) := by kernel_rfl
@[simp] theorem arr38 : tyArr Tryz.prog 38 = none := by kernel_rfl
@[simp] theorem zav38 : zeroAV Tryz.prog 38 = some (.sc .nilFunc) := by kernel_rfl
@[simp] theorem zero38 : tyZero Tryz.prog 38 = some [.sc .nilFunc] := by kernel_rfl
@[simp] theorem agg39 : tyAgg Tryz.prog 39 = some false := by kernel_rfl
@[simp] theorem size39 : tySize Tryz.prog 39 = some 1 := by kernel_rfl
@[simp] theorem kd39 : tyKd Tryz.prog 39 = some (Kd.other) := by kernel_rfl
@[simp] theorem elem39 : tyElem Tryz.prog 39 = some (59, 3, 40) := by kernel_rfl
@[simp] theorem arr39 : tyArr Tryz.prog 39 = none := by kernel_rfl
@[simp] theorem zav39 : zeroAV Tryz.prog 39 = some (.slice .clip []) := by kernel_rfl
@[simp] theorem zero39 : tyZero Tryz.prog 39 = some [.slice .clip []] := by kernel_rfl
@[simp] theorem agg40 : tyAgg Tryz.prog 40 = some false := by kernel_rfl
@[simp] theorem size40 : tySize Tryz.prog 40 = some 1 := by kernel_rfl
@[simp] theorem kd40 : tyKd Tryz.prog 40 = some (Kd.ptr) := by kernel_rfl
@[simp] theorem arr40 : tyArr Tryz.prog 40 = none := by kernel_rfl
@[simp] theorem zav40 : zeroAV Tryz.prog 40 = some (.sc (.pointer none)) := by kernel_rfl
@[simp] theorem zero40 : tyZero Tryz.prog 40 = some [.sc (.pointer none)] := by kernel_rfl
@[simp] theorem agg41 : tyAgg Tryz.prog 41 = some false := by kernel_rfl
@[simp] theorem size41 : tySize Tryz.prog 41 = some 1 := by kernel_rfl
@[simp] theorem kd41 : tyKd Tryz.prog 41 = some (Kd.func) := by kernel_rfl
@[simp] theorem arr41 : tyArr Tryz.prog 41 = none := by kernel_rfl
@[simp] theorem zav41 : zeroAV Tryz.prog 41 = some (.sc .nilFunc) := by kernel_rfl
@[simp] theorem zero41 : tyZero Tryz.prog 41 = some [.sc .nilFunc] := by kernel_rfl
@[simp] theorem agg42 : tyAgg Tryz.prog 42 = some false := by kernel_rfl
@[simp] theorem size42 : tySize Tryz.prog 42 = some 1 := by kernel_rfl
@[simp] theorem kd42 : tyKd Tryz.prog 42 = some (Kd.func) := by kernel_rfl
@[simp] theorem arr42 : tyArr Tryz.prog 42 = none := by kernel_rfl
@[simp] theorem zav42 : zeroAV Tryz.prog 42 = some (.sc .nilFunc) := by kernel_rfl
@[simp] theorem zero42 : tyZero Tryz.prog 42 = some [.sc .nilFunc] := by kernel_rfl
@[simp] theorem agg43 : tyAgg Tryz.prog 43 = some false := by kernel_rfl
@[simp] theorem size43 : tySize Tryz.prog 43 = some 1 := by kernel_rfl
@[simp] theorem kd43 : tyKd Tryz.prog 43 = some (Kd.int .i64) := by kernel_rfl
@[simp] theorem arr43 : tyArr Tryz.prog 43 = none := by kernel_rfl
@[simp] theorem zav43 : zeroAV Tryz.prog 43 = some (.sc (.int .i64 0)) := by kernel_rfl
@[simp] theorem zero43 : tyZero Tryz.prog 43 = some [.sc (.int .i64 0)] := by kernel_rfl
@[simp] theorem agg44 : tyAgg Tryz.prog 44 = some true := by kernel_rfl
@[simp] theorem size44 : tySize Tryz.prog 44 = some 2 := by kernel_rfl
@[simp] theorem kd44 : tyKd Tryz.prog 44 = some (Kd.other) := by kernel_rfl
@[simp] theorem arr44 : tyArr Tryz.prog 44 = none := by kernel_rfl
@[simp] theorem zav44 : zeroAV Tryz.prog 44 = some (.agg [.sc (.int .i64 0), .sc (.int .i64 0)]) := by kernel_rfl
@[simp] theorem zero44 : tyZero Tryz.prog 44 = some [.sc (.int .i64 0), .sc (.int .i64 0)] := by kernel_rfl
@[simp] theorem field44_0 : tyField Tryz.prog 44 0 = some (3, 0, 1) := by kernel_rfl
@[simp] theorem field44_1 : tyField Tryz.prog 44 1 = some (3, 1, 1) := by kernel_rfl
@[simp] theorem places44 : tyPlaces Tryz.prog 44 = some [(0, 1), (1, 1)] := by kernel_rfl
@[simp] theorem agg45 : tyAgg Tryz.prog 45 = some true := by kernel_rfl
@[simp] theorem size45 : tySize Tryz.prog 45 = some 2 := by kernel_rfl
@[simp] theorem kd45 : tyKd Tryz.prog 45 = some (Kd.other) := by kernel_rfl
@[simp] theorem arr45 : tyArr Tryz.prog 45 = none := by kernel_rfl
@[simp] theorem zav45 : zeroAV Tryz.prog 45 = some (.agg [.sc (.int .i64 0), .sc (.int .i64 0)]) := by kernel_rfl
@[simp] theorem zero45 : tyZero Tryz.prog 45 = some [.sc (.int .i64 0), .sc (.int .i64 0)] := by kernel_rfl
@[simp] theorem field45_0 : tyField Tryz.prog 45 0 = some (3, 0, 1) := by kernel_rfl
@[simp] theorem field45_1 : tyField Tryz.prog 45 1 = some (3, 1, 1) := by kernel_rfl
@[simp] theorem eq45 : tyEq Tryz.prog 45 = some [(0, Kd.int .i64), (1, Kd.int .i64)] := by kernel_rfl
@[simp] theorem places45 : tyPlaces Tryz.prog 45 = some [(0, 1), (1, 1)] := by kernel_rfl
@[simp] theorem agg46 : tyAgg Tryz.prog 46 = some false := by kernel_rfl
@[simp] theorem size46 : tySize Tryz.prog 46 = some 1 := by kernel_rfl
@[simp] theorem kd46 : tyKd Tryz.prog 46 = some (Kd.other) := by kernel_rfl
@[simp] theorem elem46 : tyElem Tryz.prog 46 = some (99, 2, 32) := by kernel_rfl
@[simp] theorem arr46 : tyArr Tryz.prog 46 = none := by kernel_rfl
@[simp] theorem zav46 : zeroAV Tryz.prog 46 = some (.slice .clip []) := by kernel_rfl
@[simp] theorem zero46 : tyZero Tryz.prog 46 = some [.slice .clip []] := by kernel_rfl
@[simp] theorem agg47 : tyAgg Tryz.prog 47 = some true := by kernel_rfl
@[simp] theorem size47 : tySize Tryz.prog 47 = some 8 := by kernel_rfl
@[simp] theorem kd47 : tyKd Tryz.prog 47 = some (Kd.other) := by kernel_rfl
@[simp] theorem arr47 : tyArr Tryz.prog 47 = none := by kernel_rfl
@[simp] theorem zav47 : zeroAV Tryz.prog 47 = some (.agg [.sc (.int .i64 0), .sc (.int .i64 0), .sc (.int .i64 0), .sc (.bool false), .sc (.string ⟨#[]⟩), .slice .clip [], .sc (.int .i64 0), .slice .clip []]) := by kernel_rfl
@[simp] theorem zero47 : tyZero Tryz.prog 47 = some [.sc (.int .i64 0), .sc (.int .i64 0), .sc (.int .i64 0), .sc (.bool false), .sc (.string ⟨#[]⟩), .slice .clip [], .sc (.int .i64 0), .slice .clip []] := by kernel_rfl
@[simp] theorem field47_0 : tyField Tryz.prog 47 0 = some (43, 0, 1) := by kernel_rfl
@[simp] theorem field47_1 : tyField Tryz.prog 47 1 = some (45, 1, 2) := by kernel_rfl
@[simp] theorem field47_2 : tyField Tryz.prog 47 2 = some (4, 3, 1) := by kernel_rfl
@[simp] theorem field47_3 : tyField Tryz.prog 47 3 = some (9, 4, 1) := by kernel_rfl
@[simp] theorem field47_4 : tyField Tryz.prog 47 4 = some (46, 5, 1) := by kernel_rfl
@[simp] theorem field47_5 : tyField Tryz.prog 47 5 = some (3, 6, 1) := by kernel_rfl
@[simp] theorem field47_6 : tyField Tryz.prog 47 6 = some (39, 7, 1) := by kernel_rfl
@[simp] theorem places47 : tyPlaces Tryz.prog 47 = some [(0, 1), (1, 2), (3, 1), (4, 1), (5, 1), (6, 1), (7, 1)] := by kernel_rfl
@[simp] theorem agg48 : tyAgg Tryz.prog 48 = some true := by kernel_rfl
@[simp] theorem size48 : tySize Tryz.prog 48 = some 8 := by kernel_rfl
@[simp] theorem kd48 : tyKd Tryz.prog 48 = some (Kd.other) := by kernel_rfl
@[simp] theorem arr48 : tyArr Tryz.prog 48 = none := by kernel_rfl
@[simp] theorem zav48 : zeroAV Tryz.prog 48 = some (.agg [.sc (.int .i64 0), .sc (.int .i64 0), .sc (.int .i64 0), .sc (.bool false), .sc (.string ⟨#[]⟩), .slice .clip [], .sc (.int .i64 0), .slice .clip []]) := by kernel_rfl
@[simp] theorem zero48 : tyZero Tryz.prog 48 = some [.sc (.int .i64 0), .sc (.int .i64 0), .sc (.int .i64 0), .sc (.bool false), .sc (.string ⟨#[]⟩), .slice .clip [], .sc (.int .i64 0), .slice .clip []] := by kernel_rfl
@[simp] theorem field48_0 : tyField Tryz.prog 48 0 = some (43, 0, 1) := by kernel_rfl
@[simp] theorem field48_1 : tyField Tryz.prog 48 1 = some (45, 1, 2) := by kernel_rfl
@[simp] theorem field48_2 : tyField Tryz.prog 48 2 = some (4, 3, 1) := by kernel_rfl
@[simp] theorem field48_3 : tyField Tryz.prog 48 3 = some (9, 4, 1) := by kernel_rfl
@[simp] theorem field48_4 : tyField Tryz.prog 48 4 = some (46, 5, 1) := by kernel_rfl
@[simp] theorem field48_5 : tyField Tryz.prog 48 5 = some (3, 6, 1) := by kernel_rfl
@[simp] theorem field48_6 : tyField Tryz.prog 48 6 = some (39, 7, 1) := by kernel_rfl
@[simp] theorem places48 : tyPlaces Tryz.prog 48 = some [(0, 1), (1, 2), (3, 1), (4, 1), (5, 1), (6, 1), (7, 1)] := by kernel_rfl
@[simp] theorem agg49 : tyAgg Tryz.prog 49 = some true := by kernel_rfl
@[simp] theorem size49 : tySize Tryz.prog 49 = some 10 := by kernel_rfl
@[simp] theorem kd49 : tyKd Tryz.prog 49 = some (Kd.other) := by kernel_rfl
@[simp] theorem arr49 : tyArr Tryz.prog 49 = none := by kernel_rfl
@[simp] theorem zav49 : zeroAV Tryz.prog 49 = some (.agg [.sc (.int .i64 0), .sc (.int .i64 0), .sc (.int .i64 0), .sc (.bool false), .sc (.string ⟨#[]⟩), .slice .clip [], .sc (.int .i64 0), .slice .clip [], .sc (.int .i64 0), .sc (.int .u64 0)]) := by kernel_rfl
@[simp] theorem zero49 : tyZero Tryz.prog 49 = some [.sc (.int .i64 0), .sc (.int .i64 0), .sc (.int .i64 0), .sc (.bool false), .sc (.string ⟨#[]⟩), .slice .clip [], .sc (.int .i64 0), .slice .clip [], .sc (.int .i64 0), .sc (.int .u64 0)] := by kernel_rfl
@[simp] theorem field49_0 : tyField Tryz.prog 49 0 = some (48, 0, 8) := by kernel_rfl
@[simp] theorem field49_1 : tyField Tryz.prog 49 1 = some (3, 8, 1) := by kernel_rfl
@[simp] theorem field49_2 : tyField Tryz.prog 49 2 = some (22, 9, 1) := by kernel_rfl
@[simp] theorem places49 : tyPlaces Tryz.prog 49 = some [(0, 8), (8, 1), (9, 1)] := by kernel_rfl
@[simp] theorem agg50 : tyAgg Tryz.prog 50 = some true := by kernel_rfl
@[simp] theorem size50 : tySize Tryz.prog 50 = some 10 := by kernel_rfl
@[simp] theorem kd50 : tyKd Tryz.prog 50 = some (Kd.other) := by kernel_rfl
@[simp] theorem arr50 : tyArr Tryz.prog 50 = none := by kernel_rfl
@[simp] theorem zav50 : zeroAV Tryz.prog 50 = some (.agg [.sc (.int .i64 0), .sc (.int .i64 0), .sc (.int .i64 0), .sc (.bool false), .sc (.string ⟨#[]⟩), .slice .clip [], .sc (.int .i64 0), .slice .clip [], .sc (.int .i64 0), .sc (.int .u64 0)]) := by kernel_rfl
@[simp] theorem zero50 : tyZero Tryz.prog 50 = some [.sc (.int .i64 0), .sc (.int .i64 0), .sc (.int .i64 0), .sc (.bool false), .sc (.string ⟨#[]⟩), .slice .clip [], .sc (.int .i64 0), .slice .clip [], .sc (.int .i64 0), .sc (.int .u64 0)] := by kernel_rfl
@[simp] theorem field50_0 : tyField Tryz.prog 50 0 = some (48, 0, 8) := by kernel_rfl
@[simp] theorem field50_1 : tyField Tryz.prog 50 1 = some (3, 8, 1) := by kernel_rfl
@[simp] theorem field50_2 : tyField Tryz.prog 50 2 = some (22, 9, 1) := by kernel_rfl
@[simp] theorem places50 : tyPlaces Tryz.prog 50 = some [(0, 8), (8, 1), (9, 1)] := by kernel_rfl
@[simp] theorem agg52 : tyAgg Tryz.prog 52 = some false := by kernel_rfl
@[simp] theorem size52 : tySize Tryz.prog 52 = some 1 := by kernel_rfl
@[simp] theorem kd52 : tyKd Tryz.prog 52 = some (Kd.func) := by kernel_rfl
@[simp] theorem arr52 : tyArr Tryz.prog 52 = none := by kernel_rfl
@[simp] theorem zav52 : zeroAV Tryz.prog 52 = some (.sc .nilFunc) := by kernel_rfl
@[simp] theorem zero52 : tyZero Tryz.prog 52 = some [.sc .nilFunc] := by kernel_rfl
@[simp] theorem agg53 : tyAgg Tryz.prog 53 = some false := by kernel_rfl
@[simp] theorem size53 : tySize Tryz.prog 53 = some 1 := by kernel_rfl
@[simp] theorem kd53 : tyKd Tryz.prog 53 = some (Kd.func) := by kernel_rfl
@[simp] theorem arr53 : tyArr Tryz.prog 53 = none := by kernel_rfl
@[simp] theorem zav53 : zeroAV Tryz.prog 53 = some (.sc .nilFunc) := by kernel_rfl
@[simp] theorem zero53 : tyZero Tryz.prog 53 = some [.sc .nilFunc] := by kernel_rfl
@[simp] theorem agg54 : tyAgg Tryz.prog 54 = some false := by kernel_rfl
@[simp] theorem size54 : tySize Tryz.prog 54 = some 1 := by kernel_rfl
@[simp] theorem kd54 : tyKd Tryz.prog 54 = some (Kd.func) := by kernel_rfl
@[simp] theorem arr54 : tyArr Tryz.prog 54 = none := by kernel_rfl
@[simp] theorem zav54 : zeroAV Tryz.prog 54 = some (.sc .nilFunc) := by kernel_rfl
@[simp] theorem zero54 : tyZero Tryz.prog 54 = some [.sc .nilFunc] := by kernel_rfl
@[simp] theorem agg55 : tyAgg Tryz.prog 55 = some false := by kernel_rfl
@[simp] theorem size55 : tySize Tryz.prog 55 = some 1 := by kernel_rfl
@[simp] theorem kd55 : tyKd Tryz.prog 55 = some (Kd.func) := by kernel_rfl
@[simp] theorem arr55 : tyArr Tryz.prog 55 = none := by kernel_rfl
@[simp] theorem zav55 : zeroAV Tryz.prog 55 = some (.sc .nilFunc) := by kernel_rfl
@[simp] theorem zero55 : tyZero Tryz.prog 55 = some [.sc .nilFunc] := by kernel_rfl
@[simp] theorem agg56 : tyAgg Tryz.prog 56 = some false := by kernel_rfl
@[simp] theorem size56 : tySize Tryz.prog 56 = some 1 := by kernel_rfl
@[simp] theorem kd56 : tyKd Tryz.prog 56 = some (Kd.func) := by kernel_rfl
@[simp] theorem arr56 : tyArr Tryz.prog 56 = none := by kernel_rfl
@[simp] theorem zav56 : zeroAV Tryz.prog 56 = some (.sc .nilFunc) := by kernel_rfl
@[simp] theorem zero56 : tyZero Tryz.prog 56 = some [.sc .nilFunc] := by kernel_rfl
@[simp] theorem agg57 : tyAgg Tryz.prog 57 = some false := by kernel_rfl
@[simp] theorem size57 : tySize Tryz.prog 57 = some 1 := by kernel_rfl
@[simp] theorem kd57 : tyKd Tryz.prog 57 = some (Kd.func) := by kernel_rfl
@[simp] theorem arr57 : tyArr Tryz.prog 57 = none := by kernel_rfl
@[simp] theorem zav57 : zeroAV Tryz.prog 57 = some (.sc .nilFunc) := by kernel_rfl
@[simp] theorem zero57 : tyZero Tryz.prog 57 = some [.sc .nilFunc] := by kernel_rfl
@[simp] theorem agg58 : tyAgg Tryz.prog 58 = some true := by kernel_rfl
@[simp] theorem size58 : tySize Tryz.prog 58 = some 3 := by kernel_rfl
@[simp] theorem kd58 : tyKd Tryz.prog 58 = some (Kd.other) := by kernel_rfl
@[simp] theorem arr58 : tyArr Tryz.prog 58 = none := by kernel_rfl
@[simp] theorem zav58 : zeroAV Tryz.prog 58 = some (.agg [.sc (.string ⟨#[]⟩), .sc (.bool false), .sc (.string ⟨#[]⟩)]) := by kernel_rfl
@[simp] theorem zero58 : tyZero Tryz.prog 58 = some [.sc (.string ⟨#[]⟩), .sc (.bool false), .sc (.string ⟨#[]⟩)] := by kernel_rfl
@[simp] theorem field58_0 : tyField Tryz.prog 58 0 = some (9, 0, 1) := by kernel_rfl
@[simp] theorem field58_1 : tyField Tryz.prog 58 1 = some (4, 1, 1) := by kernel_rfl
@[simp] theorem field58_2 : tyField Tryz.prog 58 2 = some (9, 2, 1) := by kernel_rfl
@[simp] theorem places58 : tyPlaces Tryz.prog 58 = some [(0, 1), (1, 1), (2, 1)] := by kernel_rfl
@[simp] theorem agg59 : tyAgg Tryz.prog 59 = some true := by kernel_rfl
@[simp] theorem size59 : tySize Tryz.prog 59 = some 3 := by kernel_rfl
@[simp] theorem kd59 : tyKd Tryz.prog 59 = some (Kd.other) := by kernel_rfl
@[simp] theorem arr59 : tyArr Tryz.prog 59 = none := by kernel_rfl
@[simp] theorem zav59 : zeroAV Tryz.prog 59 = some (.agg [.sc (.string ⟨#[]⟩), .sc (.bool false), .sc (.string ⟨#[]⟩)]) := by kernel_rfl
@[simp] theorem zero59 : tyZero Tryz.prog 59 = some [.sc (.string ⟨#[]⟩), .sc (.bool false), .sc (.string ⟨#[]⟩)] := by kernel_rfl
@[simp] theorem field59_0 : tyField Tryz.prog 59 0 = some (9, 0, 1) := by kernel_rfl
@[simp] theorem field59_1 : tyField Tryz.prog 59 1 = some (4, 1, 1) := by kernel_rfl
@[simp] theorem field59_2 : tyField Tryz.prog 59 2 = some (9, 2, 1) := by kernel_rfl
@[simp] theorem eq59 : tyEq Tryz.prog 59 = some [(0, Kd.str), (1, Kd.bool), (2, Kd.str)] := by kernel_rfl
@[simp] theorem places59 : tyPlaces Tryz.prog 59 = some [(0, 1), (1, 1), (2, 1)] := by kernel_rfl
@[simp] theorem agg60 : tyAgg Tryz.prog 60 = some false := by kernel_rfl
@[simp] theorem size60 : tySize Tryz.prog 60 = some 1 := by kernel_rfl
@[simp] theorem kd60 : tyKd Tryz.prog 60 = some (Kd.func) := by kernel_rfl
@[simp] theorem arr60 : tyArr Tryz.prog 60 = none := by kernel_rfl
@[simp] theorem zav60 : zeroAV Tryz.prog 60 = some (.sc .nilFunc) := by kernel_rfl
@[simp] theorem zero60 : tyZero Tryz.prog 60 = some [.sc .nilFunc] := by kernel_rfl
@[simp] theorem agg61 : tyAgg Tryz.prog 61 = some false := by kernel_rfl
@[simp] theorem size61 : tySize Tryz.prog 61 = some 1 := by kernel_rfl
@[simp] theorem kd61 : tyKd Tryz.prog 61 = some (Kd.ptr) := by kernel_rfl
@[simp] theorem arr61 : tyArr Tryz.prog 61 = none := by kernel_rfl
@[simp] theorem zav61 : zeroAV Tryz.prog 61 = some (.sc (.pointer none)) := by kernel_rfl
@[simp] theorem zero61 : tyZero Tryz.prog 61 = some [.sc (.pointer none)] := by kernel_rfl
@[simp] theorem agg62 : tyAgg Tryz.prog 62 = some false := by kernel_rfl
@[simp] theorem size62 : tySize Tryz.prog 62 = some 1 := by kernel_rfl
@[simp] theorem kd62 : tyKd Tryz.prog 62 = some (Kd.other) := by kernel_rfl
@[simp] theorem elem62 : tyElem Tryz.prog 62 = some (22, 1, 8) := by kernel_rfl
@[simp] theorem arr62 : tyArr Tryz.prog 62 = none := by kernel_rfl
@[simp] theorem zav62 : zeroAV Tryz.prog 62 = some (.slice .clip []) := by kernel_rfl
@[simp] theorem zero62 : tyZero Tryz.prog 62 = some [.slice .clip []] := by kernel_rfl
@[simp] theorem agg63 : tyAgg Tryz.prog 63 = some true := by kernel_rfl
@[simp] theorem size63 : tySize Tryz.prog 63 = some 9 := by kernel_rfl
@[simp] theorem kd63 : tyKd Tryz.prog 63 = some (Kd.other) := by kernel_rfl
@[simp] theorem arr63 : tyArr Tryz.prog 63 = none := by kernel_rfl
@[simp] theorem zav63 : zeroAV Tryz.prog 63 = some (.agg [.sc (.int .i64 0), .sc (.int .i64 0), .sc (.int .i64 0), .sc (.int .i64 0), .sc (.int .i64 0), .sc (.int .u64 0), .sc (.pointer none), .sc (.int .i64 0), .slice .clip []]) := by kernel_rfl
@[simp] theorem zero63 : tyZero Tryz.prog 63 = some [.sc (.int .i64 0), .sc (.int .i64 0), .sc (.int .i64 0), .sc (.int .i64 0), .sc (.int .i64 0), .sc (.int .u64 0), .sc (.pointer none), .sc (.int .i64 0), .slice .clip []] := by kernel_rfl
@[simp] theorem field63_0 : tyField Tryz.prog 63 0 = some (24, 0, 6) := by kernel_rfl
@[simp] theorem field63_1 : tyField Tryz.prog 63 1 = some (61, 6, 1) := by kernel_rfl
@[simp] theorem field63_2 : tyField Tryz.prog 63 2 = some (3, 7, 1) := by kernel_rfl
@[simp] theorem field63_3 : tyField Tryz.prog 63 3 = some (62, 8, 1) := by kernel_rfl
@[simp] theorem places63 : tyPlaces Tryz.prog 63 = some [(0, 6), (6, 1), (7, 1), (8, 1)] := by kernel_rfl
@[simp] theorem agg64 : tyAgg Tryz.prog 64 = some true := by kernel_rfl
@[simp] theorem size64 : tySize Tryz.prog 64 = some 9 := by kernel_rfl
@[simp] theorem kd64 : tyKd Tryz.prog 64 = some (Kd.other) := by kernel_rfl
@[simp] theorem arr64 : tyArr Tryz.prog 64 = none := by kernel_rfl
@[simp] theorem zav64 : zeroAV Tryz.prog 64 = some (.agg [.sc (.int .i64 0), .sc (.int .i64 0), .sc (.int .i64 0), .sc (.int .i64 0), .sc (.int .i64 0), .sc (.int .u64 0), .sc (.pointer none), .sc (.int .i64 0), .slice .clip []]) := by kernel_rfl
@[simp] theorem zero64 : tyZero Tryz.prog 64 = some [.sc (.int .i64 0), .sc (.int .i64 0), .sc (.int .i64 0), .sc (.int .i64 0), .sc (.int .i64 0), .sc (.int .u64 0), .sc (.pointer none), .sc (.int .i64 0), .slice .clip []] := by kernel_rfl
@[simp] theorem field64_0 : tyField Tryz.prog 64 0 = some (24, 0, 6) := by kernel_rfl
@[simp] theorem field64_1 : tyField Tryz.prog 64 1 = some (61, 6, 1) := by kernel_rfl
@[simp] theorem field64_2 : tyField Tryz.prog 64 2 = some (3, 7, 1) := by kernel_rfl
@[simp] theorem field64_3 : tyField Tryz.prog 64 3 = some (62, 8, 1) := by kernel_rfl
@[simp] theorem places64 : tyPlaces Tryz.prog 64 = some [(0, 6), (6, 1), (7, 1), (8, 1)] := by kernel_rfl
@[simp] theorem agg65 : tyAgg Tryz.prog 65 = some false := by kernel_rfl
@[simp] theorem size65 : tySize Tryz.prog 65 = some 1 := by kernel_rfl
@[simp] theorem kd65 : tyKd Tryz.prog 65 = some (Kd.func) := by kernel_rfl
@[simp] theorem arr65 : tyArr Tryz.prog 65 = none := by kernel_rfl
@[simp] theorem zav65 : zeroAV Tryz.prog 65 = some (.sc .nilFunc) := by kernel_rfl
@[simp] theorem zero65 : tyZero Tryz.prog 65 = some [.sc .nilFunc] := by kernel_rfl
@[simp] theorem agg66 : tyAgg Tryz.prog 66 = some false := by kernel_rfl
@[simp] theorem size66 : tySize Tryz.prog 66 = some 1 := by kernel_rfl
@[simp] theorem kd66 : tyKd Tryz.prog 66 = some (Kd.func) := by kernel_rfl
@[simp] theorem arr66 : tyArr Tryz.prog 66 = none := by kernel_rfl
@[simp] theorem zav66 : zeroAV Tryz.prog 66 = some (.sc .nilFunc) := by kernel_rfl
@[simp] theorem zero66 : tyZero Tryz.prog 66 = some [.sc .nilFunc] := by kernel_rfl
@[simp] theorem agg67 : tyAgg Tryz.prog 67 = some false := by kernel_rfl
@[simp] theorem size67 : tySize Tryz.prog 67 = some 1 := by kernel_rfl
@[simp] theorem kd67 : tyKd Tryz.prog 67 = some (Kd.func) := by kernel_rfl
@[simp] theorem arr67 : tyArr Tryz.prog 67 = none := by kernel_rfl
@[simp] theorem zav67 : zeroAV Tryz.prog 67 = some (.sc .nilFunc) := by kernel_rfl
@[simp] theorem zero67 : tyZero Tryz.prog 67 = some [.sc .nilFunc] := by kernel_rfl
@[simp] theorem agg68 : tyAgg Tryz.prog 68 = some true := by kernel_rfl
@[simp] theorem size68 : tySize Tryz.prog 68 = some 6 := by kernel_rfl
@[simp] theorem kd68 : tyKd Tryz.prog 68 = some (Kd.other) := by kernel_rfl
@[simp] theorem arr68 : tyArr Tryz.prog 68 = none := by kernel_rfl
@[simp] theorem zav68 : zeroAV Tryz.prog 68 = some (.agg [.sc (.int .i64 0), .sc (.int .u64 0), .sc (.int .i64 0), .sc (.int .u64 0), .sc (.int .u64 0), .sc (.string ⟨#[]⟩)]) := by kernel_rfl
@[simp] theorem zero68 : tyZero Tryz.prog 68 = some [.sc (.int .i64 0), .sc (.int .u64 0), .sc (.int .i64 0), .sc (.int .u64 0), .sc (.int .u64 0), .sc (.string ⟨#[]⟩)] := by kernel_rfl
@[simp] theorem field68_0 : tyField Tryz.prog 68 0 = some (3, 0, 1) := by kernel_rfl
@[simp] theorem field68_1 : tyField Tryz.prog 68 1 = some (22, 1, 1) := by kernel_rfl
@[simp] theorem field68_2 : tyField Tryz.prog 68 2 = some (3, 2, 1) := by kernel_rfl
@[simp] theorem field68_3 : tyField Tryz.prog 68 3 = some (22, 3, 1) := by kernel_rfl
@[simp] theorem field68_4 : tyField Tryz.prog 68 4 = some (22, 4, 1) := by kernel_rfl
@[simp] theorem field68_5 : tyField Tryz.prog 68 5 = some (9, 5, 1) := by kernel_rfl
@[simp] theorem places68 : tyPlaces Tryz.prog 68 = some [(0, 1), (1, 1), (2, 1), (3, 1), (4, 1), (5, 1)] := by kernel_rfl
@[simp] theorem agg69 : tyAgg Tryz.prog 69 = some true := by kernel_rfl
@[simp] theorem size69 : tySize Tryz.prog 69 = some 6 := by kernel_rfl
@[simp] theorem kd69 : tyKd Tryz.prog 69 = some (Kd.other) := by kernel_rfl
@[simp] theorem arr69 : tyArr Tryz.prog 69 = none := by kernel_rfl
@[simp] theorem zav69 : zeroAV Tryz.prog 69 = some (.agg [.sc (.int .i64 0), .sc (.int .u64 0), .sc (.int .i64 0), .sc (.int .u64 0), .sc (.int .u64 0), .sc (.string ⟨#[]⟩)]) := by kernel_rfl
@[simp] theorem zero69 : tyZero Tryz.prog 69 = some [.sc (.int .i64 0), .sc (.int .u64 0), .sc (.int .i64 0), .sc (.int .u64 0), .sc (.int .u64 0), .sc (.string ⟨#[]⟩)] := by kernel_rfl
@[simp] theorem field69_0 : tyField Tryz.prog 69 0 = some (3, 0, 1) := by kernel_rfl
@[simp] theorem field69_1 : tyField Tryz.prog 69 1 = some (22, 1, 1) := by kernel_rfl
@[simp] theorem field69_2 : tyField Tryz.prog 69 2 = some (3, 2, 1) := by kernel_rfl
@[simp] theorem field69_3 : tyField Tryz.prog 69 3 = some (22, 3, 1) := by kernel_rfl
@[simp] theorem field69_4 : tyField Tryz.prog 69 4 = some (22, 4, 1) := by kernel_rfl
@[simp] theorem field69_5 : tyField Tryz.prog 69 5 = some (9, 5, 1) := by kernel_rfl
@[simp] theorem eq69 : tyEq Tryz.prog 69 = some [(0, Kd.int .i64), (1, Kd.int .u64), (2, Kd.int .i64), (3, Kd.int .u64), (4, Kd.int .u64), (5, Kd.str)] := by kernel_rfl
@[simp] theorem places69 : tyPlaces Tryz.prog 69 = some [(0, 1), (1, 1), (2, 1), (3, 1), (4, 1), (5, 1)] := by kernel_rfl
@[simp] theorem agg71 : tyAgg Tryz.prog 71 = some false := by kernel_rfl
@[simp] theorem size71 : tySize Tryz.prog 71 = some 1 := by kernel_rfl
@[simp] theorem kd71 : tyKd Tryz.prog 71 = some (Kd.func) := by kernel_rfl
@[simp] theorem arr71 : tyArr Tryz.prog 71 = none := by kernel_rfl
@[simp] theorem zav71 : zeroAV Tryz.prog 71 = some (.sc .nilFunc) := by kernel_rfl
@[simp] theorem zero71 : tyZero Tryz.prog 71 = some [.sc .nilFunc] := by kernel_rfl
@[simp] theorem agg72 : tyAgg Tryz.prog 72 = some false := by kernel_rfl
@[simp] theorem size72 : tySize Tryz.prog 72 = some 1 := by kernel_rfl
@[simp] theorem kd72 : tyKd Tryz.prog 72 = some (Kd.func) := by kernel_rfl
@[simp] theorem arr72 : tyArr Tryz.prog 72 = none := by kernel_rfl
@[simp] theorem zav72 : zeroAV Tryz.prog 72 = some (.sc .nilFunc) := by kernel_rfl
@[simp] theorem zero72 : tyZero Tryz.prog 72 = some [.sc .nilFunc] := by kernel_rfl
@[simp] theorem agg73 : tyAgg Tryz.prog 73 = some false := by kernel_rfl
@[simp] theorem size73 : tySize Tryz.prog 73 = some 1 := by kernel_rfl
@[simp] theorem kd73 : tyKd Tryz.prog 73 = some (Kd.func) := by kernel_rfl
@[simp] theorem arr73 : tyArr Tryz.prog 73 = none := by kernel_rfl
@[simp] theorem zav73 : zeroAV Tryz.prog 73 = some (.sc .nilFunc) := by kernel_rfl
@[simp] theorem zero73 : tyZero Tryz.prog 73 = some [.sc .nilFunc] := by kernel_rfl
@[simp] theorem agg74 : tyAgg Tryz.prog 74 = some false := by kernel_rfl
@[simp] theorem size74 : tySize Tryz.prog 74 = some 1 := by kernel_rfl
@[simp] theorem kd74 : tyKd Tryz.prog 74 = some (Kd.func) := by kernel_rfl
@[simp] theorem arr74 : tyArr Tryz.prog 74 = none := by kernel_rfl
@[simp] theorem zav74 : zeroAV Tryz.prog 74 = some (.sc .nilFunc) := by kernel_rfl
@[simp] theorem zero74 : tyZero Tryz.prog 74 = some [.sc .nilFunc] := by kernel_rfl
@[simp] theorem agg75 : tyAgg Tryz.prog 75 = some false := by kernel_rfl
@[simp] theorem size75 : tySize Tryz.prog 75 = some 1 := by kernel_rfl
@[simp] theorem kd75 : tyKd Tryz.prog 75 = some (Kd.func) := by kernel_rfl
@[simp] theorem arr75 : tyArr Tryz.prog 75 = none := by kernel_rfl
@[simp] theorem zav75 : zeroAV Tryz.prog 75 = some (.sc .nilFunc) := by kernel_rfl
@[simp] theorem zero75 : tyZero Tryz.prog 75 = some [.sc .nilFunc] := by kernel_rfl
@[simp] theorem agg76 : tyAgg Tryz.prog 76 = some false := by kernel_rfl
@[simp] theorem size76 : tySize Tryz.prog 76 = some 1 := by kernel_rfl
@[simp] theorem kd76 : tyKd Tryz.prog 76 = some (Kd.iface) := by kernel_rfl
@[simp] theorem arr76 : tyArr Tryz.prog 76 = none := by kernel_rfl
@[simp] theorem zav76 : zeroAV Tryz.prog 76 = some (.sc .nilIface) := by kernel_rfl
@[simp] theorem zero76 : tyZero Tryz.prog 76 = some [.sc .nilIface] := by kernel_rfl
@[simp] theorem agg77 : tyAgg Tryz.prog 77 = some false := by kernel_rfl
@[simp] theorem size77 : tySize Tryz.prog 77 = some 1 := by kernel_rfl
@[simp] theorem kd77 : tyKd Tryz.prog 77 = some (Kd.iface) := by kernel_rfl
@[simp] theorem arr77 : tyArr Tryz.prog 77 = none := by kernel_rfl
@[simp] theorem zav77 : zeroAV Tryz.prog 77 = some (.sc .nilIface) := by kernel_rfl
@[simp] theorem zero77 : tyZero Tryz.prog 77 = some [.sc .nilIface] := by kernel_rfl
@[simp] theorem agg78 : tyAgg Tryz.prog 78 = some false := by kernel_rfl
@[simp] theorem size78 : tySize Tryz.prog 78 = some 1 := by kernel_rfl
@[simp] theorem kd78 : tyKd Tryz.prog 78 = some (Kd.func) := by kernel_rfl
@[simp] theorem arr78 : tyArr Tryz.prog 78 = none := by kernel_rfl
@[simp] theorem zav78 : zeroAV Tryz.prog 78 = some (.sc .nilFunc) := by kernel_rfl
@[simp] theorem zero78 : tyZero Tryz.prog 78 = some [.sc .nilFunc] := by kernel_rfl
@[simp] theorem agg79 : tyAgg Tryz.prog 79 = some false := by kernel_rfl
@[simp] theorem size79 : tySize Tryz.prog 79 = some 1 := by kernel_rfl
@[simp] theorem kd79 : tyKd Tryz.prog 79 = some (Kd.func) := by kernel_rfl
@[simp] theorem arr79 : tyArr Tryz.prog 79 = none := by kernel_rfl
@[simp] theorem zav79 : zeroAV Tryz.prog 79 = some (.sc .nilFunc) := by kernel_rfl
@[simp] theorem zero79 : tyZero Tryz.prog 79 = some [.sc .nilFunc] := by kernel_rfl
@[simp] theorem agg80 : tyAgg Tryz.prog 80 = some false := by kernel_rfl
@[simp] theorem size80 : tySize Tryz.prog 80 = some 1 := by kernel_rfl
@[simp] theorem kd80 : tyKd Tryz.prog 80 = some (Kd.func) := by kernel_rfl
@[simp] theorem arr80 : tyArr Tryz.prog 80 = none := by kernel_rfl
@[simp] theorem zav80 : zeroAV Tryz.prog 80 = some (.sc .nilFunc) := by kernel_rfl
@[simp] theorem zero80 : tyZero Tryz.prog 80 = some [.sc .nilFunc] := by kernel_rfl
@[simp] theorem agg81 : tyAgg Tryz.prog 81 = some false := by kernel_rfl
@[simp] theorem size81 : tySize Tryz.prog 81 = some 1 := by kernel_rfl
@[simp] theorem kd81 : tyKd Tryz.prog 81 = some (Kd.ptr) := by kernel_rfl
@[simp] theorem arr81 : tyArr Tryz.prog 81 = none := by kernel_rfl
@[simp] theorem zav81 : zeroAV Tryz.prog 81 = some (.sc (.pointer none)) := by kernel_rfl
@[simp] theorem zero81 : tyZero Tryz.prog 81 = some [.sc (.pointer none)] := by kernel_rfl
@[simp] theorem agg82 : tyAgg Tryz.prog 82 = some true := by kernel_rfl
@[simp] theorem size82 : tySize Tryz.prog 82 = some 2 := by kernel_rfl
@[simp] theorem kd82 : tyKd Tryz.prog 82 = some (Kd.other) := by kernel_rfl
@[simp] theorem arr82 : tyArr Tryz.prog 82 = none := by kernel_rfl
@[simp] theorem zav82 : zeroAV Tryz.prog 82 = some (.agg [.sc (.int .i64 0), .sc (.int .i64 0)]) := by kernel_rfl
@[simp] theorem zero82 : tyZero Tryz.prog 82 = some [.sc (.int .i64 0), .sc (.int .i64 0)] := by kernel_rfl
@[simp] theorem field82_0 : tyField Tryz.prog 82 0 = some (3, 0, 1) := by kernel_rfl
@[simp] theorem field82_1 : tyField Tryz.prog 82 1 = some (3, 1, 1) := by kernel_rfl
@[simp] theorem places82 : tyPlaces Tryz.prog 82 = some [(0, 1), (1, 1)] := by kernel_rfl
@[simp] theorem agg83 : tyAgg Tryz.prog 83 = some true := by kernel_rfl
@[simp] theorem size83 : tySize Tryz.prog 83 = some 2 := by kernel_rfl
@[simp] theorem kd83 : tyKd Tryz.prog 83 = some (Kd.other) := by kernel_rfl
@[simp] theorem arr83 : tyArr Tryz.prog 83 = none := by kernel_rfl
@[simp] theorem zav83 : zeroAV Tryz.prog 83 = some (.agg [.sc (.int .i64 0), .sc (.int .i64 0)]) := by kernel_rfl
@[simp] theorem zero83 : tyZero Tryz.prog 83 = some [.sc (.int .i64 0), .sc (.int .i64 0)] := by kernel_rfl
@[simp] theorem field83_0 : tyField Tryz.prog 83 0 = some (3, 0, 1) := by kernel_rfl
@[simp] theorem field83_1 : tyField Tryz.prog 83 1 = some (3, 1, 1) := by kernel_rfl
@[simp] theorem eq83 : tyEq Tryz.prog 83 = some [(0, Kd.int .i64), (1, Kd.int .i64)] := by kernel_rfl
@[simp] theorem places83 : tyPlaces Tryz.prog 83 = some [(0, 1), (1, 1)] := by kernel_rfl
@[simp] theorem agg84 : tyAgg Tryz.prog 84 = some false := by kernel_rfl
@[simp] theorem size84 : tySize Tryz.prog 84 = some 1 := by kernel_rfl
@[simp] theorem kd84 : tyKd Tryz.prog 84 = some (Kd.ptr) := by kernel_rfl
@[simp] theorem arr84 : tyArr Tryz.prog 84 = none := by kernel_rfl
@[simp] theorem zav84 : zeroAV Tryz.prog 84 = some (.sc (.pointer none)) := by kernel_rfl
@[simp] theorem zero84 : tyZero Tryz.prog 84 = some [.sc (.pointer none)] := by kernel_rfl
@[simp] theorem agg85 : tyAgg Tryz.prog 85 = some true := by kernel_rfl
@[simp] theorem size85 : tySize Tryz.prog 85 = some 15 := by kernel_rfl
@[simp] theorem kd85 : tyKd Tryz.prog 85 = some (Kd.other) := by kernel_rfl
@[simp] theorem arr85 : tyArr Tryz.prog 85 = none := by kernel_rfl
@[simp] theorem zav85 : zeroAV Tryz.prog 85 = some (.agg [.sc (.int .i64 0), .sc (.int .i64 0), .sc (.int .i64 0), .sc (.int .i64 0), .sc (.int .i64 0), .sc (.int .u64 0), .sc (.int .u64 0), .slice .clip [], .sc (.int .i64 0), .sc (.pointer none), .sc (.int .i64 0), .sc (.int .i64 0), .sc (.pointer none), .sc (.int .u64 0), .sc (.int .i64 0)]) := by kernel_rfl
@[simp] theorem zero85 : tyZero Tryz.prog 85 = some [.sc (.int .i64 0), .sc (.int .i64 0), .sc (.int .i64 0), .sc (.int .i64 0), .sc (.int .i64 0), .sc (.int .u64 0), .sc (.int .u64 0), .slice .clip [], .sc (.int .i64 0), .sc (.pointer none), .sc (.int .i64 0), .sc (.int .i64 0), .sc (.pointer none), .sc (.int .u64 0), .sc (.int .i64 0)] := by kernel_rfl
@[simp] theorem field85_0 : tyField Tryz.prog 85 0 = some (24, 0, 6) := by kernel_rfl
@[simp] theorem field85_1 : tyField Tryz.prog 85 1 = some (22, 6, 1) := by kernel_rfl
@[simp] theorem field85_2 : tyField Tryz.prog 85 2 = some (39, 7, 1) := by kernel_rfl
@[simp] theorem field85_3 : tyField Tryz.prog 85 3 = some (3, 8, 1) := by kernel_rfl
@[simp] theorem field85_4 : tyField Tryz.prog 85 4 = some (81, 9, 1) := by kernel_rfl
@[simp] theorem field85_5 : tyField Tryz.prog 85 5 = some (83, 10, 2) := by kernel_rfl
@[simp] theorem field85_6 : tyField Tryz.prog 85 6 = some (84, 12, 1) := by kernel_rfl
@[simp] theorem field85_7 : tyField Tryz.prog 85 7 = some (22, 13, 1) := by kernel_rfl
@[simp] theorem field85_8 : tyField Tryz.prog 85 8 = some (3, 14, 1) := by kernel_rfl
@[simp] theorem places85 : tyPlaces Tryz.prog 85 = some [(0, 6), (6, 1), (7, 1), (8, 1), (9, 1), (10, 2), (12, 1), (13, 1), (14, 1)] := by kernel_rfl
@[simp] theorem agg86 : tyAgg Tryz.prog 86 = some true := by kernel_rfl
@[simp] theorem size86 : tySize Tryz.prog 86 = some 15 := by kernel_rfl
@[simp] theorem kd86 : tyKd Tryz.prog 86 = some (Kd.other) := by kernel_rfl
@[simp] theorem arr86 : tyArr Tryz.prog 86 = none := by kernel_rfl
@[simp] theorem zav86 : zeroAV Tryz.prog 86 = some (.agg [.sc (.int .i64 0), .sc (.int .i64 0), .sc (.int .i64 0), .sc (.int .i64 0), .sc (.int .i64 0), .sc (.int .u64 0), .sc (.int .u64 0), .slice .clip [], .sc (.int .i64 0), .sc (.pointer none), .sc (.int .i64 0), .sc (.int .i64 0), .sc (.pointer none), .sc (.int .u64 0), .sc (.int .i64 0)]) := by kernel_rfl
@[simp] theorem zero86 : tyZero Tryz.prog 86 = some [.sc (.int .i64 0), .sc (.int .i64 0), .sc (.int .i64 0), .sc (.int .i64 0), .sc (.int .i64 0), .sc (.int .u64 0), .sc (.int .u64 0), .slice .clip [], .sc (.int .i64 0), .sc (.pointer none), .sc (.int .i64 0), .sc (.int .i64 0), .sc (.pointer none), .sc (.int .u64 0), .sc (.int .i64 0)] := by kernel_rfl
@[simp] theorem field86_0 : tyField Tryz.prog 86 0 = some (24, 0, 6) := by kernel_rfl
@[simp] theorem field86_1 : tyField Tryz.prog 86 1 = some (22, 6, 1) := by kernel_rfl
@[simp] theorem field86_2 : tyField Tryz.prog 86 2 = some (39, 7, 1) := by kernel_rfl
@[simp] theorem field86_3 : tyField Tryz.prog 86 3 = some (3, 8, 1) := by kernel_rfl
@[simp] theorem field86_4 : tyField Tryz.prog 86 4 = some (81, 9, 1) := by kernel_rfl
@[simp] theorem field86_5 : tyField Tryz.prog 86 5 = some (83, 10, 2) := by kernel_rfl
@[simp] theorem field86_6 : tyField Tryz.prog 86 6 = some (84, 12, 1) := by kernel_rfl
@[simp] theorem field86_7 : tyField Tryz.prog 86 7 = some (22, 13, 1) := by kernel_rfl
@[simp] theorem field86_8 : tyField Tryz.prog 86 8 = some (3, 14, 1) := by kernel_rfl
@[simp] theorem places86 : tyPlaces Tryz.prog 86 = some [(0, 6), (6, 1), (7, 1), (8, 1), (9, 1), (10, 2), (12, 1), (13, 1), (14, 1)] := by kernel_rfl
@[simp] theorem agg87 : tyAgg Tryz.prog 87 = some false := by kernel_rfl
@[simp] theorem size87 : tySize Tryz.prog 87 = some 1 := by kernel_rfl
@[simp] theorem kd87 : tyKd Tryz.prog 87 = some (Kd.func) := by kernel_rfl
@[simp] theorem arr87 : tyArr Tryz.prog 87 = none := by kernel_rfl
@[simp] theorem zav87 : zeroAV Tryz.prog 87 = some (.sc .nilFunc) := by kernel_rfl
@[simp] theorem zero87 : tyZero Tryz.prog 87 = some [.sc .nilFunc] := by kernel_rfl
@[simp] theorem agg88 : tyAgg Tryz.prog 88 = some true := by kernel_rfl
@[simp] theorem size88 : tySize Tryz.prog 88 = some 8 := by kernel_rfl
@[simp] theorem kd88 : tyKd Tryz.prog 88 = some (Kd.other) := by kernel_rfl
@[simp] theorem arr88 : tyArr Tryz.prog 88 = none := by kernel_rfl
@[simp] theorem zav88 : zeroAV Tryz.prog 88 = some (.agg [.sc (.pointer none), .sc (.int .i64 0), .sc (.int .i64 0), .sc (.int .u64 0), .sc (.int .u64 0), .sc (.int .u64 0), .sc (.int .u64 0), .sc (.int .i64 0)]) := by kernel_rfl
@[simp] theorem zero88 : tyZero Tryz.prog 88 = some [.sc (.pointer none), .sc (.int .i64 0), .sc (.int .i64 0), .sc (.int .u64 0), .sc (.int .u64 0), .sc (.int .u64 0), .sc (.int .u64 0), .sc (.int .i64 0)] := by kernel_rfl
@[simp] theorem field88_0 : tyField Tryz.prog 88 0 = some (32, 0, 1) := by kernel_rfl
@[simp] theorem field88_1 : tyField Tryz.prog 88 1 = some (3, 1, 1) := by kernel_rfl
@[simp] theorem field88_2 : tyField Tryz.prog 88 2 = some (3, 2, 1) := by kernel_rfl
@[simp] theorem field88_3 : tyField Tryz.prog 88 3 = some (22, 3, 1) := by kernel_rfl
@[simp] theorem field88_4 : tyField Tryz.prog 88 4 = some (22, 4, 1) := by kernel_rfl
@[simp] theorem field88_5 : tyField Tryz.prog 88 5 = some (22, 5, 1) := by kernel_rfl
@[simp] theorem field88_6 : tyField Tryz.prog 88 6 = some (22, 6, 1) := by kernel_rfl
@[simp] theorem field88_7 : tyField Tryz.prog 88 7 = some (3, 7, 1) := by kernel_rfl
@[simp] theorem places88 : tyPlaces Tryz.prog 88 = some [(0, 1), (1, 1), (2, 1), (3, 1), (4, 1), (5, 1), (6, 1), (7, 1)] := by kernel_rfl
@[simp] theorem agg89 : tyAgg Tryz.prog 89 = some true := by kernel_rfl
@[simp] theorem size89 : tySize Tryz.prog 89 = some 8 := by kernel_rfl
@[simp] theorem kd89 : tyKd Tryz.prog 89 = some (Kd.other) := by kernel_rfl
@[simp] theorem arr89 : tyArr Tryz.prog 89 = none := by kernel_rfl
@[simp] theorem zav89 : zeroAV Tryz.prog 89 = some (.agg [.sc (.pointer none), .sc (.int .i64 0), .sc (.int .i64 0), .sc (.int .u64 0), .sc (.int .u64 0), .sc (.int .u64 0), .sc (.int .u64 0), .sc (.int .i64 0)]) := by kernel_rfl
@[simp] theorem zero89 : tyZero Tryz.prog 89 = some [.sc (.pointer none), .sc (.int .i64 0), .sc (.int .i64 0), .sc (.int .u64 0), .sc (.int .u64 0), .sc (.int .u64 0), .sc (.int .u64 0), .sc (.int .i64 0)] := by kernel_rfl
@[simp] theorem field89_0 : tyField Tryz.prog 89 0 = some (32, 0, 1) := by kernel_rfl
@[simp] theorem field89_1 : tyField Tryz.prog 89 1 = some (3, 1, 1) := by kernel_rfl
@[simp] theorem field89_2 : tyField Tryz.prog 89 2 = some (3, 2, 1) := by kernel_rfl
@[simp] theorem field89_3 : tyField Tryz.prog 89 3 = some (22, 3, 1) := by kernel_rfl
@[simp] theorem field89_4 : tyField Tryz.prog 89 4 = some (22, 4, 1) := by kernel_rfl
@[simp] theorem field89_5 : tyField Tryz.prog 89 5 = some (22, 5, 1) := by kernel_rfl
@[simp] theorem field89_6 : tyField Tryz.prog 89 6 = some (22, 6, 1) := by kernel_rfl
@[simp] theorem field89_7 : tyField Tryz.prog 89 7 = some (3, 7, 1) := by kernel_rfl
@[simp] theorem places89 : tyPlaces Tryz.prog 89 = some [(0, 1), (1, 1), (2, 1), (3, 1), (4, 1), (5, 1), (6, 1), (7, 1)] := by kernel_rfl
@[simp] theorem agg90 : tyAgg Tryz.prog 90 = some false := by kernel_rfl
@[simp] theorem size90 : tySize Tryz.prog 90 = some 1 := by kernel_rfl
@[simp] theorem kd90 : tyKd Tryz.prog 90 = some (Kd.ptr) := by kernel_rfl
@[simp] theorem arr90 : tyArr Tryz.prog 90 = none := by kernel_rfl
@[simp] theorem zav90 : zeroAV Tryz.prog 90 = some (.sc (.pointer none)) := by kernel_rfl
@[simp] theorem zero90 : tyZero Tryz.prog 90 = some [.sc (.pointer none)] := by kernel_rfl
@[simp] theorem agg91 : tyAgg Tryz.prog 91 = some true := by kernel_rfl
@[simp] theorem size91 : tySize Tryz.prog 91 = some 3 := by kernel_rfl
@[simp] theorem kd91 : tyKd Tryz.prog 91 = some (Kd.other) := by kernel_rfl
@[simp] theorem arr91 : tyArr Tryz.prog 91 = none := by kernel_rfl
@[simp] theorem zav91 : zeroAV Tryz.prog 91 = some (.agg [.sc (.int .i64 0), .sc (.int .u64 0), .sc (.bool false)]) := by kernel_rfl
@[simp] theorem zero91 : tyZero Tryz.prog 91 = some [.sc (.int .i64 0), .sc (.int .u64 0), .sc (.bool false)] := by kernel_rfl
@[simp] theorem field91_0 : tyField Tryz.prog 91 0 = some (3, 0, 1) := by kernel_rfl
@[simp] theorem field91_1 : tyField Tryz.prog 91 1 = some (22, 1, 1) := by kernel_rfl
@[simp] theorem field91_2 : tyField Tryz.prog 91 2 = some (4, 2, 1) := by kernel_rfl
@[simp] theorem places91 : tyPlaces Tryz.prog 91 = some [(0, 1), (1, 1), (2, 1)] := by kernel_rfl
@[simp] theorem agg92 : tyAgg Tryz.prog 92 = some true := by kernel_rfl
@[simp] theorem size92 : tySize Tryz.prog 92 = some 3 := by kernel_rfl
@[simp] theorem kd92 : tyKd Tryz.prog 92 = some (Kd.other) := by kernel_rfl
@[simp] theorem arr92 : tyArr Tryz.prog 92 = none := by kernel_rfl
@[simp] theorem zav92 : zeroAV Tryz.prog 92 = some (.agg [.sc (.int .i64 0), .sc (.int .u64 0), .sc (.bool false)]) := by kernel_rfl
@[simp] theorem zero92 : tyZero Tryz.prog 92 = some [.sc (.int .i64 0), .sc (.int .u64 0), .sc (.bool false)] := by kernel_rfl
@[simp] theorem field92_0 : tyField Tryz.prog 92 0 = some (3, 0, 1) := by kernel_rfl
@[simp] theorem field92_1 : tyField Tryz.prog 92 1 = some (22, 1, 1) := by kernel_rfl
@[simp] theorem field92_2 : tyField Tryz.prog 92 2 = some (4, 2, 1) := by kernel_rfl
@[simp] theorem eq92 : tyEq Tryz.prog 92 = some [(0, Kd.int .i64), (1, Kd.int .u64), (2, Kd.bool)] := by kernel_rfl
@[simp] theorem places92 : tyPlaces Tryz.prog 92 = some [(0, 1), (1, 1), (2, 1)] := by kernel_rfl
@[simp] theorem agg93 : tyAgg Tryz.prog 93 = some false := by kernel_rfl
@[simp] theorem size93 : tySize Tryz.prog 93 = some 1 := by kernel_rfl
@[simp] theorem kd93 : tyKd Tryz.prog 93 = some (Kd.ptr) := by kernel_rfl
@[simp] theorem arr93 : tyArr Tryz.prog 93 = none := by kernel_rfl
@[simp] theorem zav93 : zeroAV Tryz.prog 93 = some (.sc (.pointer none)) := by kernel_rfl
@[simp] theorem zero93 : tyZero Tryz.prog 93 = some [.sc (.pointer none)] := by kernel_rfl
@[simp] theorem agg94 : tyAgg Tryz.prog 94 = some false := by kernel_rfl
@[simp] theorem size94 : tySize Tryz.prog 94 = some 1 := by kernel_rfl
@[simp] theorem kd94 : tyKd Tryz.prog 94 = some (Kd.map) := by kernel_rfl
@[simp] theorem arr94 : tyArr Tryz.prog 94 = none := by kernel_rfl
@[simp] theorem tmap94 : tyMap Tryz.prog 94 = some (Kd.str, 99) := by kernel_rfl
@[simp] theorem zav94 : zeroAV Tryz.prog 94 = some (.sc (.map none)) := by kernel_rfl
@[simp] theorem zero94 : tyZero Tryz.prog 94 = some [.sc (.map none)] := by kernel_rfl
@[simp] theorem agg95 : tyAgg Tryz.prog 95 = some true := by kernel_rfl
@[simp] theorem size95 : tySize Tryz.prog 95 = some 27 := by kernel_rfl
@[simp] theorem kd95 : tyKd Tryz.prog 95 = some (Kd.other) := by kernel_rfl
@[simp] theorem arr95 : tyArr Tryz.prog 95 = none := by kernel_rfl
@[simp] theorem zav95 : zeroAV Tryz.prog 95 = some (.agg [.sc (.int .i64 0), .sc (.int .i64 0), .sc (.int .i64 0), .sc (.int .i64 0), .sc (.int .i64 0), .sc (.int .u64 0), .sc (.int .i64 0), .sc (.int .i64 0), .sc (.pointer none), .sc (.int .i64 0), .sc (.int .u64 0), .sc (.bool false), .sc (.int .i64 0), .sc (.int .u64 0), .sc (.string ⟨#[]⟩), .sc (.pointer none), .sc (.map none), .sc (.int .i64 0), .sc (.int .i64 0), .sc (.int .i64 0), .sc (.bool false), .sc (.string ⟨#[]⟩), .slice .clip [], .sc (.int .i64 0), .slice .clip [], .sc (.int .i64 0), .sc (.int .u64 0)]) := by kernel_rfl
@[simp] theorem zero95 : tyZero Tryz.prog 95 = some [.sc (.int .i64 0), .sc (.int .i64 0), .sc (.int .i64 0), .sc (.int .i64 0), .sc (.int .i64 0), .sc (.int .u64 0), .sc (.int .i64 0), .sc (.int .i64 0), .sc (.pointer none), .sc (.int .i64 0), .sc (.int .u64 0), .sc (.bool false), .sc (.int .i64 0), .sc (.int .u64 0), .sc (.string ⟨#[]⟩), .sc (.pointer none), .sc (.map none), .sc (.int .i64 0), .sc (.int .i64 0), .sc (.int .i64 0), .sc (.bool false), .sc (.string ⟨#[]⟩), .slice .clip [], .sc (.int .i64 0), .slice .clip [], .sc (.int .i64 0), .sc (.int .u64 0)] := by kernel_rfl
@[simp] theorem field95_0 : tyField Tryz.prog 95 0 = some (24, 0, 6) := by kernel_rfl
@[simp] theorem field95_1 : tyField Tryz.prog 95 1 = some (3, 6, 1) := by kernel_rfl
@[simp] theorem field95_2 : tyField Tryz.prog 95 2 = some (3, 7, 1) := by kernel_rfl
@[simp] theorem field95_3 : tyField Tryz.prog 95 3 = some (90, 8, 1) := by kernel_rfl
@[simp] theorem field95_4 : tyField Tryz.prog 95 4 = some (92, 9, 3) := by kernel_rfl
@[simp] theorem field95_5 : tyField Tryz.prog 95 5 = some (3, 12, 1) := by kernel_rfl
@[simp] theorem field95_6 : tyField Tryz.prog 95 6 = some (22, 13, 1) := by kernel_rfl
@[simp] theorem field95_7 : tyField Tryz.prog 95 7 = some (9, 14, 1) := by kernel_rfl
@[simp] theorem field95_8 : tyField Tryz.prog 95 8 = some (93, 15, 1) := by kernel_rfl
@[simp] theorem field95_9 : tyField Tryz.prog 95 9 = some (94, 16, 1) := by kernel_rfl
@[simp] theorem field95_10 : tyField Tryz.prog 95 10 = some (50, 17, 10) := by kernel_rfl
@[simp] theorem places95 : tyPlaces Tryz.prog 95 = some [(0, 6), (6, 1), (7, 1), (8, 1), (9, 3), (12, 1), (13, 1), (14, 1), (15, 1), (16, 1), (17, 10)] := by kernel_rfl
@[simp] theorem agg96 : tyAgg Tryz.prog 96 = some true := by kernel_rfl
@[simp] theorem size96 : tySize Tryz.prog 96 = some 27 := by kernel_rfl
@[simp] theorem kd96 : tyKd Tryz.prog 96 = some (Kd.other) := by kernel_rfl
@[simp] theorem arr96 : tyArr Tryz.prog 96 = none := by kernel_rfl
@[simp] theorem zav96 : zeroAV Tryz.prog 96 = some (.agg [.sc (.int .i64 0), .sc (.int .i64 0), .sc (.int .i64 0), .sc (.int .i64 0), .sc (.int .i64 0), .sc (.int .u64 0), .sc (.int .i64 0), .sc (.int .i64 0), .sc (.pointer none), .sc (.int .i64 0), .sc (.int .u64 0), .sc (.bool false), .sc (.int .i64 0), .sc (.int .u64 0), .sc (.string ⟨#[]⟩), .sc (.pointer none), .sc (.map none), .sc (.int .i64 0), .sc (.int .i64 0), .sc (.int .i64 0), .sc (.bool false), .sc (.string ⟨#[]⟩), .slice .clip [], .sc (.int .i64 0), .slice .clip [], .sc (.int .i64 0), .sc (.int .u64 0)]) := by kernel_rfl
@[simp] theorem zero96 : tyZero Tryz.prog 96 = some [.sc (.int .i64 0), .sc (.int .i64 0), .sc (.int .i64 0), .sc (.int .i64 0), .sc (.int .i64 0), .sc (.int .u64 0), .sc (.int .i64 0), .sc (.int .i64 0), .sc (.pointer none), .sc (.int .i64 0), .sc (.int .u64 0), .sc (.bool false), .sc (.int .i64 0), .sc (.int .u64 0), .sc (.string ⟨#[]⟩), .sc (.pointer none), .sc (.map none), .sc (.int .i64 0), .sc (.int .i64 0), .sc (.int .i64 0), .sc (.bool false), .sc (.string ⟨#[]⟩), .slice .clip [], .sc (.int .i64 0), .slice .clip [], .sc (.int .i64 0), .sc (.int .u64 0)] := by kernel_rfl
@[simp] theorem field96_0 : tyField Tryz.prog 96 0 = some (24, 0, 6) := by kernel_rfl
@[simp] theorem field96_1 : tyField Tryz.prog 96 1 = some (3, 6, 1) := by kernel_rfl
@[simp] theorem field96_2 : tyField Tryz.prog 96 2 = some (3, 7, 1) := by kernel_rfl
@[simp] theorem field96_3 : tyField Tryz.prog 96 3 = some (90, 8, 1) := by kernel_rfl
@[simp] theorem field96_4 : tyField Tryz.prog 96 4 = some (92, 9, 3) := by kernel_rfl
@[simp] theorem field96_5 : tyField Tryz.prog 96 5 = some (3, 12, 1) := by kernel_rfl
@[simp] theorem field96_6 : tyField Tryz.prog 96 6 = some (22, 13, 1) := by kernel_rfl
@[simp] theorem field96_7 : tyField Tryz.prog 96 7 = some (9, 14, 1) := by kernel_rfl
@[simp] theorem field96_8 : tyField Tryz.prog 96 8 = some (93, 15, 1) := by kernel_rfl
@[simp] theorem field96_9 : tyField Tryz.prog 96 9 = some (94, 16, 1) := by kernel_rfl
@[simp] theorem field96_10 : tyField Tryz.prog 96 10 = some (50, 17, 10) := by kernel_rfl
@[simp] theorem places96 : tyPlaces Tryz.prog 96 = some [(0, 6), (6, 1), (7, 1), (8, 1), (9, 3), (12, 1), (13, 1), (14, 1), (15, 1), (16, 1), (17, 10)] := by kernel_rfl
@[simp] theorem agg97 : tyAgg Tryz.prog 97 = some false := by kernel_rfl
@[simp] theorem size97 : tySize Tryz.prog 97 = some 1 := by kernel_rfl
@[simp] theorem kd97 : tyKd Tryz.prog 97 = some (Kd.func) := by kernel_rfl
@[simp] theorem arr97 : tyArr Tryz.prog 97 = none := by kernel_rfl
@[simp] theorem zav97 : zeroAV Tryz.prog 97 = some (.sc .nilFunc) := by kernel_rfl
@[simp] theorem zero97 : tyZero Tryz.prog 97 = some [.sc .nilFunc] := by kernel_rfl
@[simp] theorem agg98 : tyAgg Tryz.prog 98 = some true := by kernel_rfl
@[simp] theorem size98 : tySize Tryz.prog 98 = some 2 := by kernel_rfl
@[simp] theorem kd98 : tyKd Tryz.prog 98 = some (Kd.other) := by kernel_rfl
@[simp] theorem arr98 : tyArr Tryz.prog 98 = none := by kernel_rfl
@[simp] theorem zav98 : zeroAV Tryz.prog 98 = some (.agg [.sc (.string ⟨#[]⟩), .sc (.string ⟨#[]⟩)]) := by kernel_rfl
@[simp] theorem zero98 : tyZero Tryz.prog 98 = some [.sc (.string ⟨#[]⟩), .sc (.string ⟨#[]⟩)] := by kernel_rfl
@[simp] theorem field98_0 : tyField Tryz.prog 98 0 = some (9, 0, 1) := by kernel_rfl
@[simp] theorem field98_1 : tyField Tryz.prog 98 1 = some (9, 1, 1) := by kernel_rfl
@[simp] theorem places98 : tyPlaces Tryz.prog 98 = some [(0, 1), (1, 1)] := by kernel_rfl
@[simp] theorem agg99 : tyAgg Tryz.prog 99 = some true := by kernel_rfl
@[simp] theorem size99 : tySize Tryz.prog 99 = some 2 := by kernel_rfl
@[simp] theorem kd99 : tyKd Tryz.prog 99 = some (Kd.other) := by kernel_rfl
@[simp] theorem arr99 : tyArr Tryz.prog 99 = none := by kernel_rfl
@[simp] theorem zav99 : zeroAV Tryz.prog 99 = some (.agg [.sc (.string ⟨#[]⟩), .sc (.string ⟨#[]⟩)]) := by kernel_rfl
@[simp] theorem zero99 : tyZero Tryz.prog 99 = some [.sc (.string ⟨#[]⟩), .sc (.string ⟨#[]⟩)] := by kernel_rfl
@[simp] theorem field99_0 : tyField Tryz.prog 99 0 = some (9, 0, 1) := by kernel_rfl
@[simp] theorem field99_1 : tyField Tryz.prog 99 1 = some (9, 1, 1) := by kernel_rfl
@[simp] theorem eq99 : tyEq Tryz.prog 99 = some [(0, Kd.str), (1, Kd.str)] := by kernel_rfl
@[simp] theorem places99 : tyPlaces Tryz.prog 99 = some [(0, 1), (1, 1)] := by kernel_rfl
@[simp] theorem agg100 : tyAgg Tryz.prog 100 = some false := by kernel_rfl
@[simp] theorem size100 : tySize Tryz.prog 100 = some 1 := by kernel_rfl
@[simp] theorem kd100 : tyKd Tryz.prog 100 = some (Kd.map) := by kernel_rfl
@[simp] theorem arr100 : tyArr Tryz.prog 100 = none := by kernel_rfl
@[simp] theorem tmap100 : tyMap Tryz.prog 100 = some (.int .u64, 109) := by kernel_rfl
@[simp] theorem zav100 : zeroAV Tryz.prog 100 = some (.sc (.map none)) := by kernel_rfl
@[simp] theorem zero100 : tyZero Tryz.prog 100 = some [.sc (.map none)] := by kernel_rfl
@[simp] theorem agg101 : tyAgg Tryz.prog 101 = some true := by kernel_rfl
@[simp] theorem size101 : tySize Tryz.prog 101 = some 4 := by kernel_rfl
@[simp] theorem kd101 : tyKd Tryz.prog 101 = some (Kd.other) := by kernel_rfl
@[simp] theorem arr101 : tyArr Tryz.prog 101 = none := by kernel_rfl
@[simp] theorem zav101 : zeroAV Tryz.prog 101 = some (.agg [.sc (.map none), .sc (.int .u64 0), .sc (.bool false), .sc (.int .i64 0)]) := by kernel_rfl
@[simp] theorem zero101 : tyZero Tryz.prog 101 = some [.sc (.map none), .sc (.int .u64 0), .sc (.bool false), .sc (.int .i64 0)] := by kernel_rfl
@[simp] theorem field101_0 : tyField Tryz.prog 101 0 = some (100, 0, 1) := by kernel_rfl
@[simp] theorem field101_1 : tyField Tryz.prog 101 1 = some (22, 1, 1) := by kernel_rfl
@[simp] theorem field101_2 : tyField Tryz.prog 101 2 = some (4, 2, 1) := by kernel_rfl
@[simp] theorem field101_3 : tyField Tryz.prog 101 3 = some (3, 3, 1) := by kernel_rfl
@[simp] theorem places101 : tyPlaces Tryz.prog 101 = some [(0, 1), (1, 1), (2, 1), (3, 1)] := by kernel_rfl
@[simp] theorem agg102 : tyAgg Tryz.prog 102 = some true := by kernel_rfl
@[simp] theorem size102 : tySize Tryz.prog 102 = some 4 := by kernel_rfl
@[simp] theorem kd102 : tyKd Tryz.prog 102 = some (Kd.other) := by kernel_rfl
@[simp] theorem arr102 : tyArr Tryz.prog 102 = none := by kernel_rfl
@[simp] theorem zav102 : zeroAV Tryz.prog 102 = some (.agg [.sc (.map none), .sc (.int .u64 0), .sc (.bool false), .sc (.int .i64 0)]) := by kernel_rfl
@[simp] theorem zero102 : tyZero Tryz.prog 102 = some [.sc (.map none), .sc (.int .u64 0), .sc (.bool false), .sc (.int .i64 0)] := by kernel_rfl
@[simp] theorem field102_0 : tyField Tryz.prog 102 0 = some (100, 0, 1) := by kernel_rfl
@[simp] theorem field102_1 : tyField Tryz.prog 102 1 = some (22, 1, 1) := by kernel_rfl
@[simp] theorem field102_2 : tyField Tryz.prog 102 2 = some (4, 2, 1) := by kernel_rfl
@[simp] theorem field102_3 : tyField Tryz.prog 102 3 = some (3, 3, 1) := by kernel_rfl
@[simp] theorem places102 : tyPlaces Tryz.prog 102 = some [(0, 1), (1, 1), (2, 1), (3, 1)] := by kernel_rfl
@[simp] theorem agg104 : tyAgg Tryz.prog 104 = some false := by kernel_rfl
@[simp] theorem size104 : tySize Tryz.prog 104 = some 1 := by kernel_rfl
@[simp] theorem kd104 : tyKd Tryz.prog 104 = some (Kd.func) := by kernel_rfl
@[simp] theorem arr104 : tyArr Tryz.prog 104 = none := by kernel_rfl
@[simp] theorem zav104 : zeroAV Tryz.prog 104 = some (.sc .nilFunc) := by kernel_rfl
@[simp] theorem zero104 : tyZero Tryz.prog 104 = some [.sc .nilFunc] := by kernel_rfl
@[simp] theorem agg105 : tyAgg Tryz.prog 105 = some false := by kernel_rfl
@[simp] theorem size105 : tySize Tryz.prog 105 = some 1 := by kernel_rfl
@[simp] theorem kd105 : tyKd Tryz.prog 105 = some (Kd.func) := by kernel_rfl
@[simp] theorem arr105 : tyArr Tryz.prog 105 = none := by kernel_rfl
@[simp] theorem zav105 : zeroAV Tryz.prog 105 = some (.sc .nilFunc) := by kernel_rfl
@[simp] theorem zero105 : tyZero Tryz.prog 105 = some [.sc .nilFunc] := by kernel_rfl
@[simp] theorem agg106 : tyAgg Tryz.prog 106 = some false := by kernel_rfl
@[simp] theorem size106 : tySize Tryz.prog 106 = some 1 := by kernel_rfl
@[simp] theorem kd106 : tyKd Tryz.prog 106 = some (Kd.func) := by kernel_rfl
@[simp] theorem arr106 : tyArr Tryz.prog 106 = none := by kernel_rfl
@[simp] theorem zav106 : zeroAV Tryz.prog 106 = some (.sc .nilFunc) := by kernel_rfl
@[simp] theorem zero106 : tyZero Tryz.prog 106 = some [.sc .nilFunc] := by kernel_rfl
@[simp] theorem agg107 : tyAgg Tryz.prog 107 = some false := by kernel_rfl
@[simp] theorem size107 : tySize Tryz.prog 107 = some 1 := by kernel_rfl
@[simp] theorem kd107 : tyKd Tryz.prog 107 = some (Kd.func) := by kernel_rfl
@[simp] theorem arr107 : tyArr Tryz.prog 107 = none := by kernel_rfl
@[simp] theorem zav107 : zeroAV Tryz.prog 107 = some (.sc .nilFunc) := by kernel_rfl
@[simp] theorem zero107 : tyZero Tryz.prog 107 = some [.sc .nilFunc] := by kernel_rfl
@[simp] theorem agg108 : tyAgg Tryz.prog 108 = some true := by kernel_rfl
@[simp] theorem size108 : tySize Tryz.prog 108 = some 2 := by kernel_rfl
@[simp] theorem kd108 : tyKd Tryz.prog 108 = some (Kd.other) := by kernel_rfl
@[simp] theorem arr108 : tyArr Tryz.prog 108 = none := by kernel_rfl
@[simp] theorem zav108 : zeroAV Tryz.prog 108 = some (.agg [.slice .clip [], .sc (.string ⟨#[]⟩)]) := by kernel_rfl
@[simp] theorem zero108 : tyZero Tryz.prog 108 = some [.slice .clip [], .sc (.string ⟨#[]⟩)] := by kernel_rfl
@[simp] theorem field108_0 : tyField Tryz.prog 108 0 = some (62, 0, 1) := by kernel_rfl
@[simp] theorem field108_1 : tyField Tryz.prog 108 1 = some (9, 1, 1) := by kernel_rfl
@[simp] theorem places108 : tyPlaces Tryz.prog 108 = some [(0, 1), (1, 1)] := by kernel_rfl
@[simp] theorem agg109 : tyAgg Tryz.prog 109 = some true := by kernel_rfl
@[simp] theorem size109 : tySize Tryz.prog 109 = some 2 := by kernel_rfl
@[simp] theorem kd109 : tyKd Tryz.prog 109 = some (Kd.other) := by kernel_rfl
@[simp] theorem arr109 : tyArr Tryz.prog 109 = none := by kernel_rfl
@[simp] theorem zav109 : zeroAV Tryz.prog 109 = some (.agg [.slice .clip [], .sc (.string ⟨#[]⟩)]) := by kernel_rfl
@[simp] theorem zero109 : tyZero Tryz.prog 109 = some [.slice .clip [], .sc (.string ⟨#[]⟩)] := by kernel_rfl
@[simp] theorem field109_0 : tyField Tryz.prog 109 0 = some (62, 0, 1) := by kernel_rfl
@[simp] theorem field109_1 : tyField Tryz.prog 109 1 = some (9, 1, 1) := by kernel_rfl
@[simp] theorem places109 : tyPlaces Tryz.prog 109 = some [(0, 1), (1, 1)] := by kernel_rfl
@[simp] theorem agg110 : tyAgg Tryz.prog 110 = some false := by kernel_rfl
@[simp] theorem size110 : tySize Tryz.prog 110 = some 1 := by kernel_rfl
@[simp] theorem kd110 : tyKd Tryz.prog 110 = some (Kd.ptr) := by kernel_rfl
@[simp] theorem arr110 : tyArr Tryz.prog 110 = none := by kernel_rfl
@[simp] theorem zav110 : zeroAV Tryz.prog 110 = some (.sc (.pointer none)) := by kernel_rfl
@[simp] theorem zero110 : tyZero Tryz.prog 110 = some [.sc (.pointer none)] := by kernel_rfl
@[simp] theorem agg111 : tyAgg Tryz.prog 111 = some false := by kernel_rfl
@[simp] theorem size111 : tySize Tryz.prog 111 = some 1 := by kernel_rfl
@[simp] theorem kd111 : tyKd Tryz.prog 111 = some (Kd.func) := by kernel_rfl
@[simp] theorem arr111 : tyArr Tryz.prog 111 = none := by kernel_rfl
@[simp] theorem zav111 : zeroAV Tryz.prog 111 = some (.sc .nilFunc) := by kernel_rfl
@[simp] theorem zero111 : tyZero Tryz.prog 111 = some [.sc .nilFunc] := by kernel_rfl
@[simp] theorem agg112 : tyAgg Tryz.prog 112 = some false := by kernel_rfl
@[simp] theorem size112 : tySize Tryz.prog 112 = some 1 := by kernel_rfl
@[simp] theorem kd112 : tyKd Tryz.prog 112 = some (Kd.ptr) := by kernel_rfl
@[simp] theorem arr112 : tyArr Tryz.prog 112 = none := by kernel_rfl
@[simp] theorem zav112 : zeroAV Tryz.prog 112 = some (.sc (.pointer none)) := by kernel_rfl
@[simp] theorem zero112 : tyZero Tryz.prog 112 = some [.sc (.pointer none)] := by kernel_rfl
@[simp] theorem agg113 : tyAgg Tryz.prog 113 = some false := by kernel_rfl
@[simp] theorem size113 : tySize Tryz.prog 113 = some 1 := by kernel_rfl
@[simp] theorem kd113 : tyKd Tryz.prog 113 = some (Kd.func) := by kernel_rfl
@[simp] theorem arr113 : tyArr Tryz.prog 113 = none := by kernel_rfl
@[simp] theorem zav113 : zeroAV Tryz.prog 113 = some (.sc .nilFunc) := by kernel_rfl
@[simp] theorem zero113 : tyZero Tryz.prog 113 = some [.sc .nilFunc] := by kernel_rfl
@[simp] theorem agg114 : tyAgg Tryz.prog 114 = some false := by kernel_rfl
@[simp] theorem size114 : tySize Tryz.prog 114 = some 1 := by kernel_rfl
@[simp] theorem kd114 : tyKd Tryz.prog 114 = some (Kd.map) := by kernel_rfl
@[simp] theorem arr114 : tyArr Tryz.prog 114 = none := by kernel_rfl
@[simp] theorem tmap114 : tyMap Tryz.prog 114 = some (.int .i64, 245) := by kernel_rfl
@[simp] theorem zav114 : zeroAV Tryz.prog 114 = some (.sc (.map none)) := by kernel_rfl
@[simp] theorem zero114 : tyZero Tryz.prog 114 = some [.sc (.map none)] := by kernel_rfl
@[simp] theorem agg115 : tyAgg Tryz.prog 115 = some false := by kernel_rfl
@[simp] theorem size115 : tySize Tryz.prog 115 = some 1 := by kernel_rfl
@[simp] theorem kd115 : tyKd Tryz.prog 115 = some (Kd.other) := by kernel_rfl
@[simp] theorem elem115 : tyElem Tryz.prog 115 = some (251, 4, 64) := by kernel_rfl
@[simp] theorem arr115 : tyArr Tryz.prog 115 = none := by kernel_rfl
@[simp] theorem zav115 : zeroAV Tryz.prog 115 = some (.slice .clip []) := by kernel_rfl
@[simp] theorem zero115 : tyZero Tryz.prog 115 = some [.slice .clip []] := by kernel_rfl
@[simp] theorem agg116 : tyAgg Tryz.prog 116 = some true := by kernel_rfl
@[simp] theorem size116 : tySize Tryz.prog 116 = some 13 := by kernel_rfl
@[simp] theorem kd116 : tyKd Tryz.prog 116 = some (Kd.other) := by kernel_rfl
@[simp] theorem arr116 : tyArr Tryz.prog 116 = none := by kernel_rfl
@[simp] theorem zav116 : zeroAV Tryz.prog 116 = some (.agg [.sc (.int .i64 0), .sc (.int .i64 0), .sc (.int .i64 0), .sc (.int .i64 0), .sc (.int .i64 0), .sc (.int .u64 0), .slice .clip [], .sc (.pointer none), .sc (.pointer none), .slice .clip [], .sc (.int .i64 0), .sc (.map none), .sc (.int .i64 0)]) := by kernel_rfl
@[simp] theorem zero116 : tyZero Tryz.prog 116 = some [.sc (.int .i64 0), .sc (.int .i64 0), .sc (.int .i64 0), .sc (.int .i64 0), .sc (.int .i64 0), .sc (.int .u64 0), .slice .clip [], .sc (.pointer none), .sc (.pointer none), .slice .clip [], .sc (.int .i64 0), .sc (.map none), .sc (.int .i64 0)] := by kernel_rfl
@[simp] theorem field116_0 : tyField Tryz.prog 116 0 = some (24, 0, 6) := by kernel_rfl
@[simp] theorem field116_1 : tyField Tryz.prog 116 1 = some (115, 6, 1) := by kernel_rfl
@[simp] theorem field116_2 : tyField Tryz.prog 116 2 = some (110, 7, 1) := by kernel_rfl
@[simp] theorem field116_3 : tyField Tryz.prog 116 3 = some (112, 8, 1) := by kernel_rfl
@[simp] theorem field116_4 : tyField Tryz.prog 116 4 = some (46, 9, 1) := by kernel_rfl
@[simp] theorem field116_5 : tyField Tryz.prog 116 5 = some (3, 10, 1) := by kernel_rfl
@[simp] theorem field116_6 : tyField Tryz.prog 116 6 = some (114, 11, 1) := by kernel_rfl
@[simp] theorem field116_7 : tyField Tryz.prog 116 7 = some (3, 12, 1) := by kernel_rfl
@[simp] theorem places116 : tyPlaces Tryz.prog 116 = some [(0, 6), (6, 1), (7, 1), (8, 1), (9, 1), (10, 1), (11, 1), (12, 1)] := by kernel_rfl
@[simp] theorem agg117 : tyAgg Tryz.prog 117 = some true := by kernel_rfl
@[simp] theorem size117 : tySize Tryz.prog 117 = some 13 := by kernel_rfl
@[simp] theorem kd117 : tyKd Tryz.prog 117 = some (Kd.other) := by kernel_rfl
@[simp] theorem arr117 : tyArr Tryz.prog 117 = none := by kernel_rfl
@[simp] theorem zav117 : zeroAV Tryz.prog 117 = some (.agg [.sc (.int .i64 0), .sc (.int .i64 0), .sc (.int .i64 0), .sc (.int .i64 0), .sc (.int .i64 0), .sc (.int .u64 0), .slice .clip [], .sc (.pointer none), .sc (.pointer none), .slice .clip [], .sc (.int .i64 0), .sc (.map none), .sc (.int .i64 0)]) := by kernel_rfl
@[simp] theorem zero117 : tyZero Tryz.prog 117 = some [.sc (.int .i64 0), .sc (.int .i64 0), .sc (.int .i64 0), .sc (.int .i64 0), .sc (.int .i64 0), .sc (.int .u64 0), .slice .clip [], .sc (.pointer none), .sc (.pointer none), .slice .clip [], .sc (.int .i64 0), .sc (.map none), .sc (.int .i64 0)] := by kernel_rfl
@[simp] theorem field117_0 : tyField Tryz.prog 117 0 = some (24, 0, 6) := by kernel_rfl
@[simp] theorem field117_1 : tyField Tryz.prog 117 1 = some (115, 6, 1) := by kernel_rfl
@[simp] theorem field117_2 : tyField Tryz.prog 117 2 = some (110, 7, 1) := by kernel_rfl
@[simp] theorem field117_3 : tyField Tryz.prog 117 3 = some (112, 8, 1) := by kernel_rfl
@[simp] theorem field117_4 : tyField Tryz.prog 117 4 = some (46, 9, 1) := by kernel_rfl
@[simp] theorem field117_5 : tyField Tryz.prog 117 5 = some (3, 10, 1) := by kernel_rfl
@[simp] theorem field117_6 : tyField Tryz.prog 117 6 = some (114, 11, 1) := by kernel_rfl
@[simp] theorem field117_7 : tyField Tryz.prog 117 7 = some (3, 12, 1) := by kernel_rfl
@[simp] theorem places117 : tyPlaces Tryz.prog 117 = some [(0, 6), (6, 1), (7, 1), (8, 1), (9, 1), (10, 1), (11, 1), (12, 1)] := by kernel_rfl
@[simp] theorem agg118 : tyAgg Tryz.prog 118 = some false := by kernel_rfl
@[simp] theorem size118 : tySize Tryz.prog 118 = some 1 := by kernel_rfl
@[simp] theorem kd118 : tyKd Tryz.prog 118 = some (Kd.func) := by kernel_rfl
@[simp] theorem arr118 : tyArr Tryz.prog 118 = none := by kernel_rfl
@[simp] theorem zav118 : zeroAV Tryz.prog 118 = some (.sc .nilFunc) := by kernel_rfl
@[simp] theorem zero118 : tyZero Tryz.prog 118 = some [.sc .nilFunc] := by kernel_rfl
@[simp] theorem agg119 : tyAgg Tryz.prog 119 = some true := by kernel_rfl
@[simp] theorem size119 : tySize Tryz.prog 119 = some 2 := by kernel_rfl
@[simp] theorem kd119 : tyKd Tryz.prog 119 = some (Kd.other) := by kernel_rfl
@[simp] theorem arr119 : tyArr Tryz.prog 119 = none := by kernel_rfl
@[simp] theorem zav119 : zeroAV Tryz.prog 119 = some (.agg [.sc (.int .u64 0), .sc (.string ⟨#[]⟩)]) := by kernel_rfl
@[simp] theorem zero119 : tyZero Tryz.prog 119 = some [.sc (.int .u64 0), .sc (.string ⟨#[]⟩)] := by kernel_rfl
@[simp] theorem field119_0 : tyField Tryz.prog 119 0 = some (22, 0, 1) := by kernel_rfl
@[simp] theorem field119_1 : tyField Tryz.prog 119 1 = some (9, 1, 1) := by kernel_rfl
@[simp] theorem places119 : tyPlaces Tryz.prog 119 = some [(0, 1), (1, 1)] := by kernel_rfl
@[simp] theorem agg120 : tyAgg Tryz.prog 120 = some true := by kernel_rfl
@[simp] theorem size120 : tySize Tryz.prog 120 = some 2 := by kernel_rfl
@[simp] theorem kd120 : tyKd Tryz.prog 120 = some (Kd.other) := by kernel_rfl
@[simp] theorem arr120 : tyArr Tryz.prog 120 = none := by kernel_rfl
@[simp] theorem zav120 : zeroAV Tryz.prog 120 = some (.agg [.sc (.int .u64 0), .sc (.string ⟨#[]⟩)]) := by kernel_rfl
@[simp] theorem zero120 : tyZero Tryz.prog 120 = some [.sc (.int .u64 0), .sc (.string ⟨#[]⟩)] := by kernel_rfl
@[simp] theorem field120_0 : tyField Tryz.prog 120 0 = some (22, 0, 1) := by kernel_rfl
@[simp] theorem field120_1 : tyField Tryz.prog 120 1 = some (9, 1, 1) := by kernel_rfl
@[simp] theorem eq120 : tyEq Tryz.prog 120 = some [(0, Kd.int .u64), (1, Kd.str)] := by kernel_rfl
@[simp] theorem places120 : tyPlaces Tryz.prog 120 = some [(0, 1), (1, 1)] := by kernel_rfl
@[simp] theorem agg121 : tyAgg Tryz.prog 121 = some true := by kernel_rfl
@[simp] theorem size121 : tySize Tryz.prog 121 = some 9 := by kernel_rfl
@[simp] theorem kd121 : tyKd Tryz.prog 121 = some (Kd.other) := by kernel_rfl
@[simp] theorem arr121 : tyArr Tryz.prog 121 = none := by kernel_rfl
@[simp] theorem zav121 : zeroAV Tryz.prog 121 = some (.agg [.sc (.int .i64 0), .sc (.int .i64 0), .sc (.int .u64 0), .sc (.int .i64 0), .sc (.int .u64 0), .sc (.int .u64 0), .sc (.string ⟨#[]⟩), .sc (.int .u64 0), .sc (.string ⟨#[]⟩)]) := by kernel_rfl
@[simp] theorem zero121 : tyZero Tryz.prog 121 = some [.sc (.int .i64 0), .sc (.int .i64 0), .sc (.int .u64 0), .sc (.int .i64 0), .sc (.int .u64 0), .sc (.int .u64 0), .sc (.string ⟨#[]⟩), .sc (.int .u64 0), .sc (.string ⟨#[]⟩)] := by kernel_rfl
@[simp] theorem field121_0 : tyField Tryz.prog 121 0 = some (3, 0, 1) := by kernel_rfl
@[simp] theorem field121_1 : tyField Tryz.prog 121 1 = some (69, 1, 6) := by kernel_rfl
@[simp] theorem field121_2 : tyField Tryz.prog 121 2 = some (120, 7, 2) := by kernel_rfl
@[simp] theorem places121 : tyPlaces Tryz.prog 121 = some [(0, 1), (1, 6), (7, 2)] := by kernel_rfl
@[simp] theorem agg122 : tyAgg Tryz.prog 122 = some true := by kernel_rfl
@[simp] theorem size122 : tySize Tryz.prog 122 = some 9 := by kernel_rfl
@[simp] theorem kd122 : tyKd Tryz.prog 122 = some (Kd.other) := by kernel_rfl
@[simp] theorem arr122 : tyArr Tryz.prog 122 = none := by kernel_rfl
@[simp] theorem zav122 : zeroAV Tryz.prog 122 = some (.agg [.sc (.int .i64 0), .sc (.int .i64 0), .sc (.int .u64 0), .sc (.int .i64 0), .sc (.int .u64 0), .sc (.int .u64 0), .sc (.string ⟨#[]⟩), .sc (.int .u64 0), .sc (.string ⟨#[]⟩)]) := by kernel_rfl
@[simp] theorem zero122 : tyZero Tryz.prog 122 = some [.sc (.int .i64 0), .sc (.int .i64 0), .sc (.int .u64 0), .sc (.int .i64 0), .sc (.int .u64 0), .sc (.int .u64 0), .sc (.string ⟨#[]⟩), .sc (.int .u64 0), .sc (.string ⟨#[]⟩)] := by kernel_rfl
@[simp] theorem field122_0 : tyField Tryz.prog 122 0 = some (3, 0, 1) := by kernel_rfl
@[simp] theorem field122_1 : tyField Tryz.prog 122 1 = some (69, 1, 6) := by kernel_rfl
@[simp] theorem field122_2 : tyField Tryz.prog 122 2 = some (120, 7, 2) := by kernel_rfl
@[simp] theorem places122 : tyPlaces Tryz.prog 122 = some [(0, 1), (1, 6), (7, 2)] := by kernel_rfl
@[simp] theorem agg124 : tyAgg Tryz.prog 124 = some false := by kernel_rfl
@[simp] theorem size124 : tySize Tryz.prog 124 = some 1 := by kernel_rfl
@[simp] theorem kd124 : tyKd Tryz.prog 124 = some (Kd.func) := by kernel_rfl
@[simp] theorem arr124 : tyArr Tryz.prog 124 = none := by kernel_rfl
@[simp] theorem zav124 : zeroAV Tryz.prog 124 = some (.sc .nilFunc) := by kernel_rfl
@[simp] theorem zero124 : tyZero Tryz.prog 124 = some [.sc .nilFunc] := by kernel_rfl
@[simp] theorem agg125 : tyAgg Tryz.prog 125 = some false := by kernel_rfl
@[simp] theorem size125 : tySize Tryz.prog 125 = some 1 := by kernel_rfl
@[simp] theorem kd125 : tyKd Tryz.prog 125 = some (Kd.func) := by kernel_rfl
@[simp] theorem arr125 : tyArr Tryz.prog 125 = none := by kernel_rfl
@[simp] theorem zav125 : zeroAV Tryz.prog 125 = some (.sc .nilFunc) := by kernel_rfl
@[simp] theorem zero125 : tyZero Tryz.prog 125 = some [.sc .nilFunc] := by kernel_rfl
@[simp] theorem agg126 : tyAgg Tryz.prog 126 = some true := by kernel_rfl
@[simp] theorem size126 : tySize Tryz.prog 126 = some 12 := by kernel_rfl
@[simp] theorem kd126 : tyKd Tryz.prog 126 = some (Kd.other) := by kernel_rfl
@[simp] theorem arr126 : tyArr Tryz.prog 126 = none := by kernel_rfl
@[simp] theorem zav126 : zeroAV Tryz.prog 126 = some (.agg [.sc (.int .i64 0), .sc (.int .i64 0), .sc (.int .i64 0), .sc (.int .i64 0), .sc (.int .i64 0), .sc (.int .u64 0), .sc (.int .i64 0), .sc (.int .i64 0), .sc (.int .i64 0), .sc (.int .i64 0), .sc (.int .u64 0), .sc (.bool false)]) := by kernel_rfl
@[simp] theorem zero126 : tyZero Tryz.prog 126 = some [.sc (.int .i64 0), .sc (.int .i64 0), .sc (.int .i64 0), .sc (.int .i64 0), .sc (.int .i64 0), .sc (.int .u64 0), .sc (.int .i64 0), .sc (.int .i64 0), .sc (.int .i64 0), .sc (.int .i64 0), .sc (.int .u64 0), .sc (.bool false)] := by kernel_rfl
@[simp] theorem field126_0 : tyField Tryz.prog 126 0 = some (24, 0, 6) := by kernel_rfl
@[simp] theorem field126_1 : tyField Tryz.prog 126 1 = some (3, 6, 1) := by kernel_rfl
@[simp] theorem field126_2 : tyField Tryz.prog 126 2 = some (3, 7, 1) := by kernel_rfl
@[simp] theorem field126_3 : tyField Tryz.prog 126 3 = some (3, 8, 1) := by kernel_rfl
@[simp] theorem field126_4 : tyField Tryz.prog 126 4 = some (92, 9, 3) := by kernel_rfl
@[simp] theorem places126 : tyPlaces Tryz.prog 126 = some [(0, 6), (6, 1), (7, 1), (8, 1), (9, 3)] := by kernel_rfl
@[simp] theorem agg127 : tyAgg Tryz.prog 127 = some true := by kernel_rfl
@[simp] theorem size127 : tySize Tryz.prog 127 = some 12 := by kernel_rfl
@[simp] theorem kd127 : tyKd Tryz.prog 127 = some (Kd.other) := by kernel_rfl
@[simp] theorem arr127 : tyArr Tryz.prog 127 = none := by kernel_rfl
@[simp] theorem zav127 : zeroAV Tryz.prog 127 = some (.agg [.sc (.int .i64 0), .sc (.int .i64 0), .sc (.int .i64 0), .sc (.int .i64 0), .sc (.int .i64 0), .sc (.int .u64 0), .sc (.int .i64 0), .sc (.int .i64 0), .sc (.int .i64 0), .sc (.int .i64 0), .sc (.int .u64 0), .sc (.bool false)]) := by kernel_rfl
@[simp] theorem zero127 : tyZero Tryz.prog 127 = some [.sc (.int .i64 0), .sc (.int .i64 0), .sc (.int .i64 0), .sc (.int .i64 0), .sc (.int .i64 0), .sc (.int .u64 0), .sc (.int .i64 0), .sc (.int .i64 0), .sc (.int .i64 0), .sc (.int .i64 0), .sc (.int .u64 0), .sc (.bool false)] := by kernel_rfl
@[simp] theorem field127_0 : tyField Tryz.prog 127 0 = some (24, 0, 6) := by kernel_rfl
@[simp] theorem field127_1 : tyField Tryz.prog 127 1 = some (3, 6, 1) := by kernel_rfl
@[simp] theorem field127_2 : tyField Tryz.prog 127 2 = some (3, 7, 1) := by kernel_rfl
@[simp] theorem field127_3 : tyField Tryz.prog 127 3 = some (3, 8, 1) := by kernel_rfl
@[simp] theorem field127_4 : tyField Tryz.prog 127 4 = some (92, 9, 3) := by kernel_rfl
@[simp] theorem places127 : tyPlaces Tryz.prog 127 = some [(0, 6), (6, 1), (7, 1), (8, 1), (9, 3)] := by kernel_rfl
@[simp] theorem agg128 : tyAgg Tryz.prog 128 = some false := by kernel_rfl
@[simp] theorem size128 : tySize Tryz.prog 128 = some 1 := by kernel_rfl
@[simp] theorem kd128 : tyKd Tryz.prog 128 = some (Kd.func) := by kernel_rfl
@[simp] theorem arr128 : tyArr Tryz.prog 128 = none := by kernel_rfl
@[simp] theorem zav128 : zeroAV Tryz.prog 128 = some (.sc .nilFunc) := by kernel_rfl
@[simp] theorem zero128 : tyZero Tryz.prog 128 = some [.sc .nilFunc] := by kernel_rfl
@[simp] theorem agg129 : tyAgg Tryz.prog 129 = some false := by kernel_rfl
@[simp] theorem size129 : tySize Tryz.prog 129 = some 1 := by kernel_rfl
@[simp] theorem kd129 : tyKd Tryz.prog 129 = some (Kd.func) := by kernel_rfl
@[simp] theorem arr129 : tyArr Tryz.prog 129 = none := by kernel_rfl
@[simp] theorem zav129 : zeroAV Tryz.prog 129 = some (.sc .nilFunc) := by kernel_rfl
@[simp] theorem zero129 : tyZero Tryz.prog 129 = some [.sc .nilFunc] := by kernel_rfl
@[simp] theorem agg130 : tyAgg Tryz.prog 130 = some false := by kernel_rfl
@[simp] theorem size130 : tySize Tryz.prog 130 = some 1 := by kernel_rfl
@[simp] theorem kd130 : tyKd Tryz.prog 130 = some (Kd.func) := by kernel_rfl
@[simp] theorem arr130 : tyArr Tryz.prog 130 = none := by kernel_rfl
@[simp] theorem zav130 : zeroAV Tryz.prog 130 = some (.sc .nilFunc) := by kernel_rfl
@[simp] theorem zero130 : tyZero Tryz.prog 130 = some [.sc .nilFunc] := by kernel_rfl
@[simp] theorem agg131 : tyAgg Tryz.prog 131 = some false := by kernel_rfl
@[simp] theorem size131 : tySize Tryz.prog 131 = some 1 := by kernel_rfl
@[simp] theorem kd131 : tyKd Tryz.prog 131 = some (Kd.int .u64) := by kernel_rfl
@[simp] theorem arr131 : tyArr Tryz.prog 131 = none := by kernel_rfl
@[simp] theorem zav131 : zeroAV Tryz.prog 131 = some (.sc (.int .u64 0)) := by kernel_rfl
@[simp] theorem zero131 : tyZero Tryz.prog 131 = some [.sc (.int .u64 0)] := by kernel_rfl
@[simp] theorem agg132 : tyAgg Tryz.prog 132 = some false := by kernel_rfl
@[simp] theorem size132 : tySize Tryz.prog 132 = some 1 := by kernel_rfl
@[simp] theorem kd132 : tyKd Tryz.prog 132 = some (Kd.func) := by kernel_rfl
@[simp] theorem arr132 : tyArr Tryz.prog 132 = none := by kernel_rfl
@[simp] theorem zav132 : zeroAV Tryz.prog 132 = some (.sc .nilFunc) := by kernel_rfl
@[simp] theorem zero132 : tyZero Tryz.prog 132 = some [.sc .nilFunc] := by kernel_rfl
@[simp] theorem agg133 : tyAgg Tryz.prog 133 = some false := by kernel_rfl
@[simp] theorem size133 : tySize Tryz.prog 133 = some 1 := by kernel_rfl
@[simp] theorem kd133 : tyKd Tryz.prog 133 = some (Kd.other) := by kernel_rfl
@[simp] theorem elem133 : tyElem Tryz.prog 133 = some (45, 2, 16) := by kernel_rfl
@[simp] theorem arr133 : tyArr Tryz.prog 133 = none := by kernel_rfl
@[simp] theorem zav133 : zeroAV Tryz.prog 133 = some (.slice .clip []) := by kernel_rfl
@[simp] theorem zero133 : tyZero Tryz.prog 133 = some [.slice .clip []] := by kernel_rfl
@[simp] theorem agg134 : tyAgg Tryz.prog 134 = some false := by kernel_rfl
@[simp] theorem size134 : tySize Tryz.prog 134 = some 1 := by kernel_rfl
@[simp] theorem kd134 : tyKd Tryz.prog 134 = some (Kd.map) := by kernel_rfl
@[simp] theorem arr134 : tyArr Tryz.prog 134 = none := by kernel_rfl
@[simp] theorem zav134 : zeroAV Tryz.prog 134 = some (.sc (.map none)) := by kernel_rfl
@[simp] theorem zero134 : tyZero Tryz.prog 134 = some [.sc (.map none)] := by kernel_rfl
@[simp] theorem agg135 : tyAgg Tryz.prog 135 = some true := by kernel_rfl
@[simp] theorem size135 : tySize Tryz.prog 135 = some 1 := by kernel_rfl
@[simp] theorem kd135 : tyKd Tryz.prog 135 = some (Kd.other) := by kernel_rfl
@[simp] theorem arr135 : tyArr Tryz.prog 135 = none := by kernel_rfl
@[simp] theorem zav135 : zeroAV Tryz.prog 135 = some (.agg [.sc (.map none)]) := by kernel_rfl
@[simp] theorem zero135 : tyZero Tryz.prog 135 = some [.sc (.map none)] := by kernel_rfl
@[simp] theorem field135_0 : tyField Tryz.prog 135 0 = some (134, 0, 1) := by kernel_rfl
@[simp] theorem places135 : tyPlaces Tryz.prog 135 = some [(0, 1)] := by kernel_rfl
@[simp] theorem agg136 : tyAgg Tryz.prog 136 = some true := by kernel_rfl
@[simp] theorem size136 : tySize Tryz.prog 136 = some 1 := by kernel_rfl
@[simp] theorem kd136 : tyKd Tryz.prog 136 = some (Kd.other) := by kernel_rfl
@[simp] theorem arr136 : tyArr Tryz.prog 136 = none := by kernel_rfl
@[simp] theorem zav136 : zeroAV Tryz.prog 136 = some (.agg [.sc (.map none)]) := by kernel_rfl
@[simp] theorem zero136 : tyZero Tryz.prog 136 = some [.sc (.map none)] := by kernel_rfl
@[simp] theorem field136_0 : tyField Tryz.prog 136 0 = some (134, 0, 1) := by kernel_rfl
@[simp] theorem places136 : tyPlaces Tryz.prog 136 = some [(0, 1)] := by kernel_rfl
@[simp] theorem agg137 : tyAgg Tryz.prog 137 = some true := by kernel_rfl
@[simp] theorem size137 : tySize Tryz.prog 137 = some 1 := by kernel_rfl
@[simp] theorem kd137 : tyKd Tryz.prog 137 = some (Kd.other) := by kernel_rfl
@[simp] theorem arr137 : tyArr Tryz.prog 137 = none := by kernel_rfl
@[simp] theorem zav137 : zeroAV Tryz.prog 137 = some (.agg [.sc (.map none)]) := by kernel_rfl
@[simp] theorem zero137 : tyZero Tryz.prog 137 = some [.sc (.map none)] := by kernel_rfl
@[simp] theorem field137_0 : tyField Tryz.prog 137 0 = some (136, 0, 1) := by kernel_rfl
@[simp] theorem places137 : tyPlaces Tryz.prog 137 = some [(0, 1)] := by kernel_rfl
@[simp] theorem agg138 : tyAgg Tryz.prog 138 = some true := by kernel_rfl
@[simp] theorem size138 : tySize Tryz.prog 138 = some 1 := by kernel_rfl
@[simp] theorem kd138 : tyKd Tryz.prog 138 = some (Kd.other) := by kernel_rfl
@[simp] theorem arr138 : tyArr Tryz.prog 138 = none := by kernel_rfl
@[simp] theorem zav138 : zeroAV Tryz.prog 138 = some (.agg [.sc (.map none)]) := by kernel_rfl
@[simp] theorem zero138 : tyZero Tryz.prog 138 = some [.sc (.map none)] := by kernel_rfl
@[simp] theorem field138_0 : tyField Tryz.prog 138 0 = some (136, 0, 1) := by kernel_rfl
@[simp] theorem places138 : tyPlaces Tryz.prog 138 = some [(0, 1)] := by kernel_rfl
@[simp] theorem agg139 : tyAgg Tryz.prog 139 = some false := by kernel_rfl
@[simp] theorem size139 : tySize Tryz.prog 139 = some 1 := by kernel_rfl
@[simp] theorem kd139 : tyKd Tryz.prog 139 = some (Kd.func) := by kernel_rfl
@[simp] theorem arr139 : tyArr Tryz.prog 139 = none := by kernel_rfl
@[simp] theorem zav139 : zeroAV Tryz.prog 139 = some (.sc .nilFunc) := by kernel_rfl
@[simp] theorem zero139 : tyZero Tryz.prog 139 = some [.sc .nilFunc] := by kernel_rfl
@[simp] theorem agg140 : tyAgg Tryz.prog 140 = some true := by kernel_rfl
@[simp] theorem size140 : tySize Tryz.prog 140 = some 3 := by kernel_rfl
@[simp] theorem kd140 : tyKd Tryz.prog 140 = some (Kd.other) := by kernel_rfl
@[simp] theorem arr140 : tyArr Tryz.prog 140 = none := by kernel_rfl
@[simp] theorem zav140 : zeroAV Tryz.prog 140 = some (.agg [.sc (.int .i64 0), .slice .clip [], .sc (.map none)]) := by kernel_rfl
@[simp] theorem zero140 : tyZero Tryz.prog 140 = some [.sc (.int .i64 0), .slice .clip [], .sc (.map none)] := by kernel_rfl
@[simp] theorem field140_0 : tyField Tryz.prog 140 0 = some (3, 0, 1) := by kernel_rfl
@[simp] theorem field140_1 : tyField Tryz.prog 140 1 = some (115, 1, 1) := by kernel_rfl
@[simp] theorem field140_2 : tyField Tryz.prog 140 2 = some (134, 2, 1) := by kernel_rfl
@[simp] theorem places140 : tyPlaces Tryz.prog 140 = some [(0, 1), (1, 1), (2, 1)] := by kernel_rfl
@[simp] theorem agg141 : tyAgg Tryz.prog 141 = some true := by kernel_rfl
@[simp] theorem size141 : tySize Tryz.prog 141 = some 3 := by kernel_rfl
@[simp] theorem kd141 : tyKd Tryz.prog 141 = some (Kd.other) := by kernel_rfl
@[simp] theorem arr141 : tyArr Tryz.prog 141 = none := by kernel_rfl
@[simp] theorem zav141 : zeroAV Tryz.prog 141 = some (.agg [.sc (.int .i64 0), .slice .clip [], .sc (.map none)]) := by kernel_rfl
@[simp] theorem zero141 : tyZero Tryz.prog 141 = some [.sc (.int .i64 0), .slice .clip [], .sc (.map none)] := by kernel_rfl
@[simp] theorem field141_0 : tyField Tryz.prog 141 0 = some (3, 0, 1) := by kernel_rfl
@[simp] theorem field141_1 : tyField Tryz.prog 141 1 = some (115, 1, 1) := by kernel_rfl
@[simp] theorem field141_2 : tyField Tryz.prog 141 2 = some (134, 2, 1) := by kernel_rfl
@[simp] theorem places141 : tyPlaces Tryz.prog 141 = some [(0, 1), (1, 1), (2, 1)] := by kernel_rfl
@[simp] theorem agg142 : tyAgg Tryz.prog 142 = some false := by kernel_rfl
@[simp] theorem size142 : tySize Tryz.prog 142 = some 1 := by kernel_rfl
@[simp] theorem kd142 : tyKd Tryz.prog 142 = some (Kd.func) := by kernel_rfl
@[simp] theorem arr142 : tyArr Tryz.prog 142 = none := by kernel_rfl
@[simp] theorem zav142 : zeroAV Tryz.prog 142 = some (.sc .nilFunc) := by kernel_rfl
@[simp] theorem zero142 : tyZero Tryz.prog 142 = some [.sc .nilFunc] := by kernel_rfl
@[simp] theorem agg143 : tyAgg Tryz.prog 143 = some false := by kernel_rfl
@[simp] theorem size143 : tySize Tryz.prog 143 = some 1 := by kernel_rfl
@[simp] theorem kd143 : tyKd Tryz.prog 143 = some (Kd.func) := by kernel_rfl
@[simp] theorem arr143 : tyArr Tryz.prog 143 = none := by kernel_rfl
@[simp] theorem zav143 : zeroAV Tryz.prog 143 = some (.sc .nilFunc) := by kernel_rfl
@[simp] theorem zero143 : tyZero Tryz.prog 143 = some [.sc .nilFunc] := by kernel_rfl
@[simp] theorem agg144 : tyAgg Tryz.prog 144 = some false := by kernel_rfl
@[simp] theorem size144 : tySize Tryz.prog 144 = some 1 := by kernel_rfl
@[simp] theorem kd144 : tyKd Tryz.prog 144 = some (Kd.func) := by kernel_rfl
@[simp] theorem arr144 : tyArr Tryz.prog 144 = none := by kernel_rfl
@[simp] theorem zav144 : zeroAV Tryz.prog 144 = some (.sc .nilFunc) := by kernel_rfl
@[simp] theorem zero144 : tyZero Tryz.prog 144 = some [.sc .nilFunc] := by kernel_rfl
@[simp] theorem agg145 : tyAgg Tryz.prog 145 = some false := by kernel_rfl
@[simp] theorem size145 : tySize Tryz.prog 145 = some 1 := by kernel_rfl
@[simp] theorem kd145 : tyKd Tryz.prog 145 = some (Kd.func) := by kernel_rfl
@[simp] theorem arr145 : tyArr Tryz.prog 145 = none := by kernel_rfl
@[simp] theorem zav145 : zeroAV Tryz.prog 145 = some (.sc .nilFunc) := by kernel_rfl
@[simp] theorem zero145 : tyZero Tryz.prog 145 = some [.sc .nilFunc] := by kernel_rfl
@[simp] theorem agg146 : tyAgg Tryz.prog 146 = some false := by kernel_rfl
@[simp] theorem size146 : tySize Tryz.prog 146 = some 1 := by kernel_rfl
@[simp] theorem kd146 : tyKd Tryz.prog 146 = some (Kd.func) := by kernel_rfl
@[simp] theorem arr146 : tyArr Tryz.prog 146 = none := by kernel_rfl
@[simp] theorem zav146 : zeroAV Tryz.prog 146 = some (.sc .nilFunc) := by kernel_rfl
@[simp] theorem zero146 : tyZero Tryz.prog 146 = some [.sc .nilFunc] := by kernel_rfl
@[simp] theorem agg147 : tyAgg Tryz.prog 147 = some true := by kernel_rfl
@[simp] theorem size147 : tySize Tryz.prog 147 = some 13 := by kernel_rfl
@[simp] theorem kd147 : tyKd Tryz.prog 147 = some (Kd.other) := by kernel_rfl
@[simp] theorem arr147 : tyArr Tryz.prog 147 = none := by kernel_rfl
@[simp] theorem zav147 : zeroAV Tryz.prog 147 = some (.agg [.sc (.int .i64 0), .sc (.int .i64 0), .sc (.int .i64 0), .sc (.int .i64 0), .sc (.int .i64 0), .sc (.int .u64 0), .sc (.string ⟨#[]⟩), .sc (.int .u64 0), .sc (.int .i64 0), .sc (.int .u64 0), .sc (.int .i64 0), .sc (.int .i64 0), .sc (.bool false)]) := by kernel_rfl
@[simp] theorem zero147 : tyZero Tryz.prog 147 = some [.sc (.int .i64 0), .sc (.int .i64 0), .sc (.int .i64 0), .sc (.int .i64 0), .sc (.int .i64 0), .sc (.int .u64 0), .sc (.string ⟨#[]⟩), .sc (.int .u64 0), .sc (.int .i64 0), .sc (.int .u64 0), .sc (.int .i64 0), .sc (.int .i64 0), .sc (.bool false)] := by kernel_rfl
@[simp] theorem field147_0 : tyField Tryz.prog 147 0 = some (24, 0, 6) := by kernel_rfl
@[simp] theorem field147_1 : tyField Tryz.prog 147 1 = some (9, 6, 1) := by kernel_rfl
@[simp] theorem field147_2 : tyField Tryz.prog 147 2 = some (22, 7, 1) := by kernel_rfl
@[simp] theorem field147_3 : tyField Tryz.prog 147 3 = some (3, 8, 1) := by kernel_rfl
@[simp] theorem field147_4 : tyField Tryz.prog 147 4 = some (22, 9, 1) := by kernel_rfl
@[simp] theorem field147_5 : tyField Tryz.prog 147 5 = some (83, 10, 2) := by kernel_rfl
@[simp] theorem field147_6 : tyField Tryz.prog 147 6 = some (4, 12, 1) := by kernel_rfl
@[simp] theorem places147 : tyPlaces Tryz.prog 147 = some [(0, 6), (6, 1), (7, 1), (8, 1), (9, 1), (10, 2), (12, 1)] := by kernel_rfl
@[simp] theorem agg148 : tyAgg Tryz.prog 148 = some true := by kernel_rfl
@[simp] theorem size148 : tySize Tryz.prog 148 = some 13 := by kernel_rfl
@[simp] theorem kd148 : tyKd Tryz.prog 148 = some (Kd.other) := by kernel_rfl
@[simp] theorem arr148 : tyArr Tryz.prog 148 = none := by kernel_rfl
@[simp] theorem zav148 : zeroAV Tryz.prog 148 = some (.agg [.sc (.int .i64 0), .sc (.int .i64 0), .sc (.int .i64 0), .sc (.int .i64 0), .sc (.int .i64 0), .sc (.int .u64 0), .sc (.string ⟨#[]⟩), .sc (.int .u64 0), .sc (.int .i64 0), .sc (.int .u64 0), .sc (.int .i64 0), .sc (.int .i64 0), .sc (.bool false)]) := by kernel_rfl
@[simp] theorem zero148 : tyZero Tryz.prog 148 = some [.sc (.int .i64 0), .sc (.int .i64 0), .sc (.int .i64 0), .sc (.int .i64 0), .sc (.int .i64 0), .sc (.int .u64 0), .sc (.string ⟨#[]⟩), .sc (.int .u64 0), .sc (.int .i64 0), .sc (.int .u64 0), .sc (.int .i64 0), .sc (.int .i64 0), .sc (.bool false)] := by kernel_rfl
@[simp] theorem field148_0 : tyField Tryz.prog 148 0 = some (24, 0, 6) := by kernel_rfl
@[simp] theorem field148_1 : tyField Tryz.prog 148 1 = some (9, 6, 1) := by kernel_rfl
@[simp] theorem field148_2 : tyField Tryz.prog 148 2 = some (22, 7, 1) := by kernel_rfl
@[simp] theorem field148_3 : tyField Tryz.prog 148 3 = some (3, 8, 1) := by kernel_rfl
@[simp] theorem field148_4 : tyField Tryz.prog 148 4 = some (22, 9, 1) := by kernel_rfl
@[simp] theorem field148_5 : tyField Tryz.prog 148 5 = some (83, 10, 2) := by kernel_rfl
@[simp] theorem field148_6 : tyField Tryz.prog 148 6 = some (4, 12, 1) := by kernel_rfl
@[simp] theorem places148 : tyPlaces Tryz.prog 148 = some [(0, 6), (6, 1), (7, 1), (8, 1), (9, 1), (10, 2), (12, 1)] := by kernel_rfl
@[simp] theorem agg149 : tyAgg Tryz.prog 149 = some false := by kernel_rfl
@[simp] theorem size149 : tySize Tryz.prog 149 = some 1 := by kernel_rfl
@[simp] theorem kd149 : tyKd Tryz.prog 149 = some (Kd.ptr) := by kernel_rfl
@[simp] theorem arr149 : tyArr Tryz.prog 149 = none := by kernel_rfl
@[simp] theorem zav149 : zeroAV Tryz.prog 149 = some (.sc (.pointer none)) := by kernel_rfl
@[simp] theorem zero149 : tyZero Tryz.prog 149 = some [.sc (.pointer none)] := by kernel_rfl
@[simp] theorem agg151 : tyAgg Tryz.prog 151 = some false := by kernel_rfl
@[simp] theorem size151 : tySize Tryz.prog 151 = some 1 := by kernel_rfl
@[simp] theorem kd151 : tyKd Tryz.prog 151 = some (Kd.func) := by kernel_rfl
@[simp] theorem arr151 : tyArr Tryz.prog 151 = none := by kernel_rfl
@[simp] theorem zav151 : zeroAV Tryz.prog 151 = some (.sc .nilFunc) := by kernel_rfl
@[simp] theorem zero151 : tyZero Tryz.prog 151 = some [.sc .nilFunc] := by kernel_rfl
@[simp] theorem agg152 : tyAgg Tryz.prog 152 = some false := by kernel_rfl
@[simp] theorem size152 : tySize Tryz.prog 152 = some 1 := by kernel_rfl
@[simp] theorem kd152 : tyKd Tryz.prog 152 = some (Kd.func) := by kernel_rfl
@[simp] theorem arr152 : tyArr Tryz.prog 152 = none := by kernel_rfl
@[simp] theorem zav152 : zeroAV Tryz.prog 152 = some (.sc .nilFunc) := by kernel_rfl
@[simp] theorem zero152 : tyZero Tryz.prog 152 = some [.sc .nilFunc] := by kernel_rfl
@[simp] theorem agg153 : tyAgg Tryz.prog 153 = some false := by kernel_rfl
@[simp] theorem size153 : tySize Tryz.prog 153 = some 1 := by kernel_rfl
@[simp] theorem kd153 : tyKd Tryz.prog 153 = some (Kd.int .i64) := by kernel_rfl
@[simp] theorem arr153 : tyArr Tryz.prog 153 = none := by kernel_rfl
@[simp] theorem zav153 : zeroAV Tryz.prog 153 = some (.sc (.int .i64 0)) := by kernel_rfl
@[simp] theorem zero153 : tyZero Tryz.prog 153 = some [.sc (.int .i64 0)] := by kernel_rfl
@[simp] theorem agg155 : tyAgg Tryz.prog 155 = some false := by kernel_rfl
@[simp] theorem size155 : tySize Tryz.prog 155 = some 1 := by kernel_rfl
@[simp] theorem kd155 : tyKd Tryz.prog 155 = some (Kd.func) := by kernel_rfl
@[simp] theorem arr155 : tyArr Tryz.prog 155 = none := by kernel_rfl
@[simp] theorem zav155 : zeroAV Tryz.prog 155 = some (.sc .nilFunc) := by kernel_rfl
@[simp] theorem zero155 : tyZero Tryz.prog 155 = some [.sc .nilFunc] := by kernel_rfl
@[simp] theorem agg156 : tyAgg Tryz.prog 156 = some false := by kernel_rfl
@[simp] theorem size156 : tySize Tryz.prog 156 = some 1 := by kernel_rfl
@[simp] theorem kd156 : tyKd Tryz.prog 156 = some (Kd.func) := by kernel_rfl
@[simp] theorem arr156 : tyArr Tryz.prog 156 = none := by kernel_rfl
@[simp] theorem zav156 : zeroAV Tryz.prog 156 = some (.sc .nilFunc) := by kernel_rfl
@[simp] theorem zero156 : tyZero Tryz.prog 156 = some [.sc .nilFunc] := by kernel_rfl
@[simp] theorem agg157 : tyAgg Tryz.prog 157 = some false := by kernel_rfl
@[simp] theorem size157 : tySize Tryz.prog 157 = some 1 := by kernel_rfl
@[simp] theorem kd157 : tyKd Tryz.prog 157 = some (Kd.func) := by kernel_rfl
@[simp] theorem arr157 : tyArr Tryz.prog 157 = none := by kernel_rfl
@[simp] theorem zav157 : zeroAV Tryz.prog 157 = some (.sc .nilFunc) := by kernel_rfl
@[simp] theorem zero157 : tyZero Tryz.prog 157 = some [.sc .nilFunc] := by kernel_rfl
@[simp] theorem agg158 : tyAgg Tryz.prog 158 = some false := by kernel_rfl
@[simp] theorem size158 : tySize Tryz.prog 158 = some 1 := by kernel_rfl
@[simp] theorem kd158 : tyKd Tryz.prog 158 = some (Kd.func) := by kernel_rfl
@[simp] theorem arr158 : tyArr Tryz.prog 158 = none := by kernel_rfl
@[simp] theorem zav158 : zeroAV Tryz.prog 158 = some (.sc .nilFunc) := by kernel_rfl
@[simp] theorem zero158 : tyZero Tryz.prog 158 = some [.sc .nilFunc] := by kernel_rfl
@[simp] theorem agg159 : tyAgg Tryz.prog 159 = some false := by kernel_rfl
@[simp] theorem size159 : tySize Tryz.prog 159 = some 1 := by kernel_rfl
@[simp] theorem kd159 : tyKd Tryz.prog 159 = some (Kd.func) := by kernel_rfl
@[simp] theorem arr159 : tyArr Tryz.prog 159 = none := by kernel_rfl
@[simp] theorem zav159 : zeroAV Tryz.prog 159 = some (.sc .nilFunc) := by kernel_rfl
@[simp] theorem zero159 : tyZero Tryz.prog 159 = some [.sc .nilFunc] := by kernel_rfl
@[simp] theorem agg160 : tyAgg Tryz.prog 160 = some false := by kernel_rfl
@[simp] theorem size160 : tySize Tryz.prog 160 = some 1 := by kernel_rfl
@[simp] theorem kd160 : tyKd Tryz.prog 160 = some (Kd.func) := by kernel_rfl
@[simp] theorem arr160 : tyArr Tryz.prog 160 = none := by kernel_rfl
@[simp] theorem zav160 : zeroAV Tryz.prog 160 = some (.sc .nilFunc) := by kernel_rfl
@[simp] theorem zero160 : tyZero Tryz.prog 160 = some [.sc .nilFunc] := by kernel_rfl
@[simp] theorem agg161 : tyAgg Tryz.prog 161 = some false := by kernel_rfl
@[simp] theorem size161 : tySize Tryz.prog 161 = some 1 := by kernel_rfl
@[simp] theorem kd161 : tyKd Tryz.prog 161 = some (Kd.int .u32) := by kernel_rfl
@[simp] theorem arr161 : tyArr Tryz.prog 161 = none := by kernel_rfl
@[simp] theorem zav161 : zeroAV Tryz.prog 161 = some (.sc (.int .u32 0)) := by kernel_rfl
@[simp] theorem zero161 : tyZero Tryz.prog 161 = some [.sc (.int .u32 0)] := by kernel_rfl
@[simp] theorem agg162 : tyAgg Tryz.prog 162 = some false := by kernel_rfl
@[simp] theorem size162 : tySize Tryz.prog 162 = some 1 := by kernel_rfl
@[simp] theorem kd162 : tyKd Tryz.prog 162 = some (Kd.func) := by kernel_rfl
@[simp] theorem arr162 : tyArr Tryz.prog 162 = none := by kernel_rfl
@[simp] theorem zav162 : zeroAV Tryz.prog 162 = some (.sc .nilFunc) := by kernel_rfl
@[simp] theorem zero162 : tyZero Tryz.prog 162 = some [.sc .nilFunc] := by kernel_rfl
@[simp] theorem agg163 : tyAgg Tryz.prog 163 = some false := by kernel_rfl
@[simp] theorem size163 : tySize Tryz.prog 163 = some 1 := by kernel_rfl
@[simp] theorem kd163 : tyKd Tryz.prog 163 = some (Kd.iface) := by kernel_rfl
@[simp] theorem arr163 : tyArr Tryz.prog 163 = none := by kernel_rfl
@[simp] theorem zav163 : zeroAV Tryz.prog 163 = some (.sc .nilIface) := by kernel_rfl
@[simp] theorem zero163 : tyZero Tryz.prog 163 = some [.sc .nilIface] := by kernel_rfl
@[simp] theorem agg164 : tyAgg Tryz.prog 164 = some false := by kernel_rfl
@[simp] theorem size164 : tySize Tryz.prog 164 = some 1 := by kernel_rfl
@[simp] theorem kd164 : tyKd Tryz.prog 164 = some (Kd.iface) := by kernel_rfl
@[simp] theorem arr164 : tyArr Tryz.prog 164 = none := by kernel_rfl
@[simp] theorem zav164 : zeroAV Tryz.prog 164 = some (.sc .nilIface) := by kernel_rfl
@[simp] theorem zero164 : tyZero Tryz.prog 164 = some [.sc .nilIface] := by kernel_rfl
@[simp] theorem agg165 : tyAgg Tryz.prog 165 = some false := by kernel_rfl
@[simp] theorem size165 : tySize Tryz.prog 165 = some 1 := by kernel_rfl
@[simp] theorem kd165 : tyKd Tryz.prog 165 = some (Kd.func) := by kernel_rfl
@[simp] theorem arr165 : tyArr Tryz.prog 165 = none := by kernel_rfl
@[simp] theorem zav165 : zeroAV Tryz.prog 165 = some (.sc .nilFunc) := by kernel_rfl
@[simp] theorem zero165 : tyZero Tryz.prog 165 = some [.sc .nilFunc] := by kernel_rfl
@[simp] theorem agg166 : tyAgg Tryz.prog 166 = some false := by kernel_rfl
@[simp] theorem size166 : tySize Tryz.prog 166 = some 1 := by kernel_rfl
@[simp] theorem kd166 : tyKd Tryz.prog 166 = some (Kd.func) := by kernel_rfl
@[simp] theorem arr166 : tyArr Tryz.prog 166 = none := by kernel_rfl
@[simp] theorem zav166 : zeroAV Tryz.prog 166 = some (.sc .nilFunc) := by kernel_rfl
@[simp] theorem zero166 : tyZero Tryz.prog 166 = some [.sc .nilFunc] := by kernel_rfl
@[simp] theorem agg167 : tyAgg Tryz.prog 167 = some false := by kernel_rfl
@[simp] theorem size167 : tySize Tryz.prog 167 = some 1 := by kernel_rfl
@[simp] theorem kd167 : tyKd Tryz.prog 167 = some (Kd.func) := by kernel_rfl
@[simp] theorem arr167 : tyArr Tryz.prog 167 = none := by kernel_rfl
@[simp] theorem zav167 : zeroAV Tryz.prog 167 = some (.sc .nilFunc) := by kernel_rfl
@[simp] theorem zero167 : tyZero Tryz.prog 167 = some [.sc .nilFunc] := by kernel_rfl
@[simp] theorem agg169 : tyAgg Tryz.prog 169 = some false := by kernel_rfl
@[simp] theorem size169 : tySize Tryz.prog 169 = some 1 := by kernel_rfl
@[simp] theorem kd169 : tyKd Tryz.prog 169 = some (Kd.func) := by kernel_rfl
@[simp] theorem arr169 : tyArr Tryz.prog 169 = none := by kernel_rfl
@[simp] theorem zav169 : zeroAV Tryz.prog 169 = some (.sc .nilFunc) := by kernel_rfl
@[simp] theorem zero169 : tyZero Tryz.prog 169 = some [.sc .nilFunc] := by kernel_rfl
@[simp] theorem agg170 : tyAgg Tryz.prog 170 = some false := by kernel_rfl
@[simp] theorem size170 : tySize Tryz.prog 170 = some 1 := by kernel_rfl
@[simp] theorem kd170 : tyKd Tryz.prog 170 = some (Kd.func) := by kernel_rfl
@[simp] theorem arr170 : tyArr Tryz.prog 170 = none := by kernel_rfl
@[simp] theorem zav170 : zeroAV Tryz.prog 170 = some (.sc .nilFunc) := by kernel_rfl
@[simp] theorem zero170 : tyZero Tryz.prog 170 = some [.sc .nilFunc] := by kernel_rfl
@[simp] theorem agg171 : tyAgg Tryz.prog 171 = some false := by kernel_rfl
@[simp] theorem size171 : tySize Tryz.prog 171 = some 1 := by kernel_rfl
@[simp] theorem kd171 : tyKd Tryz.prog 171 = some (Kd.func) := by kernel_rfl
@[simp] theorem arr171 : tyArr Tryz.prog 171 = none := by kernel_rfl
@[simp] theorem zav171 : zeroAV Tryz.prog 171 = some (.sc .nilFunc) := by kernel_rfl
@[simp] theorem zero171 : tyZero Tryz.prog 171 = some [.sc .nilFunc] := by kernel_rfl
@[simp] theorem agg173 : tyAgg Tryz.prog 173 = some false := by kernel_rfl
@[simp] theorem size173 : tySize Tryz.prog 173 = some 1 := by kernel_rfl
@[simp] theorem kd173 : tyKd Tryz.prog 173 = some (Kd.func) := by kernel_rfl
@[simp] theorem arr173 : tyArr Tryz.prog 173 = none := by kernel_rfl
@[simp] theorem zav173 : zeroAV Tryz.prog 173 = some (.sc .nilFunc) := by kernel_rfl
@[simp] theorem zero173 : tyZero Tryz.prog 173 = some [.sc .nilFunc] := by kernel_rfl
@[simp] theorem agg174 : tyAgg Tryz.prog 174 = some false := by kernel_rfl
@[simp] theorem size174 : tySize Tryz.prog 174 = some 1 := by kernel_rfl
@[simp] theorem kd174 : tyKd Tryz.prog 174 = some (Kd.func) := by kernel_rfl
@[simp] theorem arr174 : tyArr Tryz.prog 174 = none := by kernel_rfl
@[simp] theorem zav174 : zeroAV Tryz.prog 174 = some (.sc .nilFunc) := by kernel_rfl
@[simp] theorem zero174 : tyZero Tryz.prog 174 = some [.sc .nilFunc] := by kernel_rfl
@[simp] theorem agg175 : tyAgg Tryz.prog 175 = some false := by kernel_rfl
@[simp] theorem size175 : tySize Tryz.prog 175 = some 1 := by kernel_rfl
@[simp] theorem kd175 : tyKd Tryz.prog 175 = some (Kd.int .u64) := by kernel_rfl
@[simp] theorem arr175 : tyArr Tryz.prog 175 = none := by kernel_rfl
@[simp] theorem zav175 : zeroAV Tryz.prog 175 = some (.sc (.int .u64 0)) := by kernel_rfl
@[simp] theorem zero175 : tyZero Tryz.prog 175 = some [.sc (.int .u64 0)] := by kernel_rfl
@[simp] theorem agg176 : tyAgg Tryz.prog 176 = some false := by kernel_rfl
@[simp] theorem size176 : tySize Tryz.prog 176 = some 1 := by kernel_rfl
@[simp] theorem kd176 : tyKd Tryz.prog 176 = some (Kd.func) := by kernel_rfl
@[simp] theorem arr176 : tyArr Tryz.prog 176 = none := by kernel_rfl
@[simp] theorem zav176 : zeroAV Tryz.prog 176 = some (.sc .nilFunc) := by kernel_rfl
@[simp] theorem zero176 : tyZero Tryz.prog 176 = some [.sc .nilFunc] := by kernel_rfl
@[simp] theorem agg177 : tyAgg Tryz.prog 177 = some false := by kernel_rfl
@[simp] theorem size177 : tySize Tryz.prog 177 = some 1 := by kernel_rfl
@[simp] theorem kd177 : tyKd Tryz.prog 177 = some (Kd.func) := by kernel_rfl
@[simp] theorem arr177 : tyArr Tryz.prog 177 = none := by kernel_rfl
@[simp] theorem zav177 : zeroAV Tryz.prog 177 = some (.sc .nilFunc) := by kernel_rfl
@[simp] theorem zero177 : tyZero Tryz.prog 177 = some [.sc .nilFunc] := by kernel_rfl
@[simp] theorem agg178 : tyAgg Tryz.prog 178 = some false := by kernel_rfl
@[simp] theorem size178 : tySize Tryz.prog 178 = some 1 := by kernel_rfl
@[simp] theorem kd178 : tyKd Tryz.prog 178 = some (Kd.func) := by kernel_rfl
@[simp] theorem arr178 : tyArr Tryz.prog 178 = none := by kernel_rfl
@[simp] theorem zav178 : zeroAV Tryz.prog 178 = some (.sc .nilFunc) := by kernel_rfl
@[simp] theorem zero178 : tyZero Tryz.prog 178 = some [.sc .nilFunc] := by kernel_rfl
@[simp] theorem agg179 : tyAgg Tryz.prog 179 = some false := by kernel_rfl
@[simp] theorem size179 : tySize Tryz.prog 179 = some 1 := by kernel_rfl
@[simp] theorem kd179 : tyKd Tryz.prog 179 = some (Kd.ptr) := by kernel_rfl
@[simp] theorem arr179 : tyArr Tryz.prog 179 = none := by kernel_rfl
@[simp] theorem zav179 : zeroAV Tryz.prog 179 = some (.sc (.pointer none)) := by kernel_rfl
@[simp] theorem zero179 : tyZero Tryz.prog 179 = some [.sc (.pointer none)] := by kernel_rfl
@[simp] theorem agg180 : tyAgg Tryz.prog 180 = some false := by kernel_rfl
@[simp] theorem size180 : tySize Tryz.prog 180 = some 1 := by kernel_rfl
@[simp] theorem kd180 : tyKd Tryz.prog 180 = some (Kd.func) := by kernel_rfl
@[simp] theorem arr180 : tyArr Tryz.prog 180 = none := by kernel_rfl
@[simp] theorem zav180 : zeroAV Tryz.prog 180 = some (.sc .nilFunc) := by kernel_rfl
@[simp] theorem zero180 : tyZero Tryz.prog 180 = some [.sc .nilFunc] := by kernel_rfl
@[simp] theorem agg181 : tyAgg Tryz.prog 181 = some false := by kernel_rfl
@[simp] theorem size181 : tySize Tryz.prog 181 = some 1 := by kernel_rfl
@[simp] theorem kd181 : tyKd Tryz.prog 181 = some (Kd.func) := by kernel_rfl
@[simp] theorem arr181 : tyArr Tryz.prog 181 = none := by kernel_rfl
@[simp] theorem zav181 : zeroAV Tryz.prog 181 = some (.sc .nilFunc) := by kernel_rfl
@[simp] theorem zero181 : tyZero Tryz.prog 181 = some [.sc .nilFunc] := by kernel_rfl
@[simp] theorem agg182 : tyAgg Tryz.prog 182 = some false := by kernel_rfl
@[simp] theorem size182 : tySize Tryz.prog 182 = some 1 := by kernel_rfl
@[simp] theorem kd182 : tyKd Tryz.prog 182 = some (Kd.ptr) := by kernel_rfl
@[simp] theorem arr182 : tyArr Tryz.prog 182 = none := by kernel_rfl
@[simp] theorem zav182 : zeroAV Tryz.prog 182 = some (.sc (.pointer none)) := by kernel_rfl
@[simp] theorem zero182 : tyZero Tryz.prog 182 = some [.sc (.pointer none)] := by kernel_rfl
@[simp] theorem agg184 : tyAgg Tryz.prog 184 = some false := by kernel_rfl
@[simp] theorem size184 : tySize Tryz.prog 184 = some 1 := by kernel_rfl
@[simp] theorem kd184 : tyKd Tryz.prog 184 = some (Kd.ptr) := by kernel_rfl
@[simp] theorem arr184 : tyArr Tryz.prog 184 = none := by kernel_rfl
@[simp] theorem zav184 : zeroAV Tryz.prog 184 = some (.sc (.pointer none)) := by kernel_rfl
@[simp] theorem zero184 : tyZero Tryz.prog 184 = some [.sc (.pointer none)] := by kernel_rfl
@[simp] theorem agg186 : tyAgg Tryz.prog 186 = some false := by kernel_rfl
@[simp] theorem size186 : tySize Tryz.prog 186 = some 1 := by kernel_rfl
@[simp] theorem kd186 : tyKd Tryz.prog 186 = some (Kd.func) := by kernel_rfl
@[simp] theorem arr186 : tyArr Tryz.prog 186 = none := by kernel_rfl
@[simp] theorem zav186 : zeroAV Tryz.prog 186 = some (.sc .nilFunc) := by kernel_rfl
@[simp] theorem zero186 : tyZero Tryz.prog 186 = some [.sc .nilFunc] := by kernel_rfl
@[simp] theorem agg187 : tyAgg Tryz.prog 187 = some false := by kernel_rfl
@[simp] theorem size187 : tySize Tryz.prog 187 = some 1 := by kernel_rfl
@[simp] theorem kd187 : tyKd Tryz.prog 187 = some (Kd.func) := by kernel_rfl
@[simp] theorem arr187 : tyArr Tryz.prog 187 = none := by kernel_rfl
@[simp] theorem zav187 : zeroAV Tryz.prog 187 = some (.sc .nilFunc) := by kernel_rfl
@[simp] theorem zero187 : tyZero Tryz.prog 187 = some [.sc .nilFunc] := by kernel_rfl
@[simp] theorem agg188 : tyAgg Tryz.prog 188 = some true := by kernel_rfl
@[simp] theorem size188 : tySize Tryz.prog 188 = some 4 := by kernel_rfl
@[simp] theorem kd188 : tyKd Tryz.prog 188 = some (Kd.other) := by kernel_rfl
@[simp] theorem arr188 : tyArr Tryz.prog 188 = none := by kernel_rfl
@[simp] theorem zav188 : zeroAV Tryz.prog 188 = some (.agg [.sc (.pointer none), .sc (.pointer none), .sc (.pointer none), .sc (.string ⟨#[]⟩)]) := by kernel_rfl
@[simp] theorem zero188 : tyZero Tryz.prog 188 = some [.sc (.pointer none), .sc (.pointer none), .sc (.pointer none), .sc (.string ⟨#[]⟩)] := by kernel_rfl
@[simp] theorem field188_0 : tyField Tryz.prog 188 0 = some (17, 0, 1) := by kernel_rfl
@[simp] theorem field188_1 : tyField Tryz.prog 188 1 = some (17, 1, 1) := by kernel_rfl
@[simp] theorem field188_2 : tyField Tryz.prog 188 2 = some (17, 2, 1) := by kernel_rfl
@[simp] theorem field188_3 : tyField Tryz.prog 188 3 = some (9, 3, 1) := by kernel_rfl
@[simp] theorem places188 : tyPlaces Tryz.prog 188 = some [(0, 1), (1, 1), (2, 1), (3, 1)] := by kernel_rfl
@[simp] theorem agg189 : tyAgg Tryz.prog 189 = some true := by kernel_rfl
@[simp] theorem size189 : tySize Tryz.prog 189 = some 4 := by kernel_rfl
@[simp] theorem kd189 : tyKd Tryz.prog 189 = some (Kd.other) := by kernel_rfl
@[simp] theorem arr189 : tyArr Tryz.prog 189 = none := by kernel_rfl
@[simp] theorem zav189 : zeroAV Tryz.prog 189 = some (.agg [.sc (.pointer none), .sc (.pointer none), .sc (.pointer none), .sc (.string ⟨#[]⟩)]) := by kernel_rfl
@[simp] theorem zero189 : tyZero Tryz.prog 189 = some [.sc (.pointer none), .sc (.pointer none), .sc (.pointer none), .sc (.string ⟨#[]⟩)] := by kernel_rfl
@[simp] theorem field189_0 : tyField Tryz.prog 189 0 = some (17, 0, 1) := by kernel_rfl
@[simp] theorem field189_1 : tyField Tryz.prog 189 1 = some (17, 1, 1) := by kernel_rfl
@[simp] theorem field189_2 : tyField Tryz.prog 189 2 = some (17, 2, 1) := by kernel_rfl
@[simp] theorem field189_3 : tyField Tryz.prog 189 3 = some (9, 3, 1) := by kernel_rfl
@[simp] theorem places189 : tyPlaces Tryz.prog 189 = some [(0, 1), (1, 1), (2, 1), (3, 1)] := by kernel_rfl
@[simp] theorem agg190 : tyAgg Tryz.prog 190 = some true := by kernel_rfl
@[simp] theorem size190 : tySize Tryz.prog 190 = some 0 := by kernel_rfl
@[simp] theorem kd190 : tyKd Tryz.prog 190 = some (Kd.other) := by kernel_rfl
@[simp] theorem arr190 : tyArr Tryz.prog 190 = some (0, 16, 1) := by kernel_rfl
@[simp] theorem zav190 : zeroAV Tryz.prog 190 = some (.agg []) := by kernel_rfl
@[simp] theorem zero190 : tyZero Tryz.prog 190 = some [] := by kernel_rfl
@[simp] theorem agg191 : tyAgg Tryz.prog 191 = some true := by kernel_rfl
@[simp] theorem size191 : tySize Tryz.prog 191 = some 0 := by kernel_rfl
@[simp] theorem kd191 : tyKd Tryz.prog 191 = some (Kd.other) := by kernel_rfl
@[simp] theorem arr191 : tyArr Tryz.prog 191 = none := by kernel_rfl
@[simp] theorem zav191 : zeroAV Tryz.prog 191 = some (.agg []) := by kernel_rfl
@[simp] theorem zero191 : tyZero Tryz.prog 191 = some [] := by kernel_rfl
@[simp] theorem places191 : tyPlaces Tryz.prog 191 = some [(0, 0)] := by kernel_rfl
@[simp] theorem agg192 : tyAgg Tryz.prog 192 = some true := by kernel_rfl
@[simp] theorem size192 : tySize Tryz.prog 192 = some 0 := by kernel_rfl
@[simp] theorem kd192 : tyKd Tryz.prog 192 = some (Kd.other) := by kernel_rfl
@[simp] theorem arr192 : tyArr Tryz.prog 192 = none := by kernel_rfl
@[simp] theorem zav192 : zeroAV Tryz.prog 192 = some (.agg []) := by kernel_rfl
@[simp] theorem zero192 : tyZero Tryz.prog 192 = some [] := by kernel_rfl
@[simp] theorem places192 : tyPlaces Tryz.prog 192 = some [(0, 0)] := by kernel_rfl
@[simp] theorem agg193 : tyAgg Tryz.prog 193 = some false := by kernel_rfl
@[simp] theorem size193 : tySize Tryz.prog 193 = some 1 := by kernel_rfl
@[simp] theorem kd193 : tyKd Tryz.prog 193 = some (Kd.int .u8) := by kernel_rfl
@[simp] theorem arr193 : tyArr Tryz.prog 193 = none := by kernel_rfl
@[simp] theorem zav193 : zeroAV Tryz.prog 193 = some (.sc (.int .u8 0)) := by kernel_rfl
@[simp] theorem zero193 : tyZero Tryz.prog 193 = some [.sc (.int .u8 0)] := by kernel_rfl
@[simp] theorem agg194 : tyAgg Tryz.prog 194 = some false := by kernel_rfl
@[simp] theorem size194 : tySize Tryz.prog 194 = some 1 := by kernel_rfl
@[simp] theorem kd194 : tyKd Tryz.prog 194 = some (Kd.int .u8) := by kernel_rfl
@[simp] theorem arr194 : tyArr Tryz.prog 194 = none := by kernel_rfl
@[simp] theorem zav194 : zeroAV Tryz.prog 194 = some (.sc (.int .u8 0)) := by kernel_rfl
@[simp] theorem zero194 : tyZero Tryz.prog 194 = some [.sc (.int .u8 0)] := by kernel_rfl
@[simp] theorem agg195 : tyAgg Tryz.prog 195 = some false := by kernel_rfl
@[simp] theorem size195 : tySize Tryz.prog 195 = some 1 := by kernel_rfl
@[simp] theorem kd195 : tyKd Tryz.prog 195 = some (Kd.func) := by kernel_rfl
@[simp] theorem arr195 : tyArr Tryz.prog 195 = none := by kernel_rfl
@[simp] theorem zav195 : zeroAV Tryz.prog 195 = some (.sc .nilFunc) := by kernel_rfl
@[simp] theorem zero195 : tyZero Tryz.prog 195 = some [.sc .nilFunc] := by kernel_rfl
@[simp] theorem agg196 : tyAgg Tryz.prog 196 = some false := by kernel_rfl
@[simp] theorem size196 : tySize Tryz.prog 196 = some 1 := by kernel_rfl
@[simp] theorem kd196 : tyKd Tryz.prog 196 = some (Kd.ptr) := by kernel_rfl
@[simp] theorem arr196 : tyArr Tryz.prog 196 = none := by kernel_rfl
@[simp] theorem zav196 : zeroAV Tryz.prog 196 = some (.sc (.pointer none)) := by kernel_rfl
@[simp] theorem zero196 : tyZero Tryz.prog 196 = some [.sc (.pointer none)] := by kernel_rfl
@[simp] theorem agg197 : tyAgg Tryz.prog 197 = some false := by kernel_rfl
@[simp] theorem size197 : tySize Tryz.prog 197 = some 1 := by kernel_rfl
@[simp] theorem kd197 : tyKd Tryz.prog 197 = some (Kd.int .i32) := by kernel_rfl
@[simp] theorem arr197 : tyArr Tryz.prog 197 = none := by kernel_rfl
@[simp] theorem zav197 : zeroAV Tryz.prog 197 = some (.sc (.int .i32 0)) := by kernel_rfl
@[simp] theorem zero197 : tyZero Tryz.prog 197 = some [.sc (.int .i32 0)] := by kernel_rfl
@[simp] theorem agg198 : tyAgg Tryz.prog 198 = some false := by kernel_rfl
@[simp] theorem size198 : tySize Tryz.prog 198 = some 1 := by kernel_rfl
@[simp] theorem kd198 : tyKd Tryz.prog 198 = some (Kd.int .i32) := by kernel_rfl
@[simp] theorem arr198 : tyArr Tryz.prog 198 = none := by kernel_rfl
@[simp] theorem zav198 : zeroAV Tryz.prog 198 = some (.sc (.int .i32 0)) := by kernel_rfl
@[simp] theorem zero198 : tyZero Tryz.prog 198 = some [.sc (.int .i32 0)] := by kernel_rfl
@[simp] theorem agg199 : tyAgg Tryz.prog 199 = some true := by kernel_rfl
@[simp] theorem size199 : tySize Tryz.prog 199 = some 11 := by kernel_rfl
@[simp] theorem kd199 : tyKd Tryz.prog 199 = some (Kd.other) := by kernel_rfl
@[simp] theorem arr199 : tyArr Tryz.prog 199 = none := by kernel_rfl
@[simp] theorem zav199 : zeroAV Tryz.prog 199 = some (.agg [.sc (.int .u64 0), .sc (.int .u64 0), .sc (.int .u32 0), .sc (.int .u8 0), .sc (.int .u8 0), .sc (.int .u8 0), .sc (.int .u8 0), .sc .nilFunc, .sc (.pointer none), .sc (.int .i32 0), .sc (.int .i32 0)]) := by kernel_rfl
@[simp] theorem zero199 : tyZero Tryz.prog 199 = some [.sc (.int .u64 0), .sc (.int .u64 0), .sc (.int .u32 0), .sc (.int .u8 0), .sc (.int .u8 0), .sc (.int .u8 0), .sc (.int .u8 0), .sc .nilFunc, .sc (.pointer none), .sc (.int .i32 0), .sc (.int .i32 0)] := by kernel_rfl
@[simp] theorem field199_0 : tyField Tryz.prog 199 0 = some (12, 0, 1) := by kernel_rfl
@[simp] theorem field199_1 : tyField Tryz.prog 199 1 = some (12, 1, 1) := by kernel_rfl
@[simp] theorem field199_2 : tyField Tryz.prog 199 2 = some (161, 2, 1) := by kernel_rfl
@[simp] theorem field199_3 : tyField Tryz.prog 199 3 = some (193, 3, 1) := by kernel_rfl
@[simp] theorem field199_4 : tyField Tryz.prog 199 4 = some (5, 4, 1) := by kernel_rfl
@[simp] theorem field199_5 : tyField Tryz.prog 199 5 = some (5, 5, 1) := by kernel_rfl
@[simp] theorem field199_6 : tyField Tryz.prog 199 6 = some (194, 6, 1) := by kernel_rfl
@[simp] theorem field199_7 : tyField Tryz.prog 199 7 = some (195, 7, 1) := by kernel_rfl
@[simp] theorem field199_8 : tyField Tryz.prog 199 8 = some (196, 8, 1) := by kernel_rfl
@[simp] theorem field199_9 : tyField Tryz.prog 199 9 = some (197, 9, 1) := by kernel_rfl
@[simp] theorem field199_10 : tyField Tryz.prog 199 10 = some (198, 10, 1) := by kernel_rfl
@[simp] theorem places199 : tyPlaces Tryz.prog 199 = some [(0, 1), (1, 1), (2, 1), (3, 1), (4, 1), (5, 1), (6, 1), (7, 1), (8, 1), (9, 1), (10, 1)] := by kernel_rfl
@[simp] theorem agg200 : tyAgg Tryz.prog 200 = some true := by kernel_rfl
@[simp] theorem size200 : tySize Tryz.prog 200 = some 11 := by kernel_rfl
@[simp] theorem kd200 : tyKd Tryz.prog 200 = some (Kd.other) := by kernel_rfl
@[simp] theorem arr200 : tyArr Tryz.prog 200 = none := by kernel_rfl
@[simp] theorem zav200 : zeroAV Tryz.prog 200 = some (.agg [.sc (.int .u64 0), .sc (.int .u64 0), .sc (.int .u32 0), .sc (.int .u8 0), .sc (.int .u8 0), .sc (.int .u8 0), .sc (.int .u8 0), .sc .nilFunc, .sc (.pointer none), .sc (.int .i32 0), .sc (.int .i32 0)]) := by kernel_rfl
@[simp] theorem zero200 : tyZero Tryz.prog 200 = some [.sc (.int .u64 0), .sc (.int .u64 0), .sc (.int .u32 0), .sc (.int .u8 0), .sc (.int .u8 0), .sc (.int .u8 0), .sc (.int .u8 0), .sc .nilFunc, .sc (.pointer none), .sc (.int .i32 0), .sc (.int .i32 0)] := by kernel_rfl
@[simp] theorem field200_0 : tyField Tryz.prog 200 0 = some (12, 0, 1) := by kernel_rfl
@[simp] theorem field200_1 : tyField Tryz.prog 200 1 = some (12, 1, 1) := by kernel_rfl
@[simp] theorem field200_2 : tyField Tryz.prog 200 2 = some (161, 2, 1) := by kernel_rfl
@[simp] theorem field200_3 : tyField Tryz.prog 200 3 = some (193, 3, 1) := by kernel_rfl
@[simp] theorem field200_4 : tyField Tryz.prog 200 4 = some (5, 4, 1) := by kernel_rfl
@[simp] theorem field200_5 : tyField Tryz.prog 200 5 = some (5, 5, 1) := by kernel_rfl
@[simp] theorem field200_6 : tyField Tryz.prog 200 6 = some (194, 6, 1) := by kernel_rfl
@[simp] theorem field200_7 : tyField Tryz.prog 200 7 = some (195, 7, 1) := by kernel_rfl
@[simp] theorem field200_8 : tyField Tryz.prog 200 8 = some (196, 8, 1) := by kernel_rfl
@[simp] theorem field200_9 : tyField Tryz.prog 200 9 = some (197, 9, 1) := by kernel_rfl
@[simp] theorem field200_10 : tyField Tryz.prog 200 10 = some (198, 10, 1) := by kernel_rfl
@[simp] theorem places200 : tyPlaces Tryz.prog 200 = some [(0, 1), (1, 1), (2, 1), (3, 1), (4, 1), (5, 1), (6, 1), (7, 1), (8, 1), (9, 1), (10, 1)] := by kernel_rfl
@[simp] theorem agg201 : tyAgg Tryz.prog 201 = some false := by kernel_rfl
@[simp] theorem size201 : tySize Tryz.prog 201 = some 1 := by kernel_rfl
@[simp] theorem kd201 : tyKd Tryz.prog 201 = some (Kd.func) := by kernel_rfl
@[simp] theorem arr201 : tyArr Tryz.prog 201 = none := by kernel_rfl
@[simp] theorem zav201 : zeroAV Tryz.prog 201 = some (.sc .nilFunc) := by kernel_rfl
@[simp] theorem zero201 : tyZero Tryz.prog 201 = some [.sc .nilFunc] := by kernel_rfl
@[simp] theorem agg202 : tyAgg Tryz.prog 202 = some false := by kernel_rfl
@[simp] theorem size202 : tySize Tryz.prog 202 = some 1 := by kernel_rfl
@[simp] theorem kd202 : tyKd Tryz.prog 202 = some (Kd.func) := by kernel_rfl
@[simp] theorem arr202 : tyArr Tryz.prog 202 = none := by kernel_rfl
@[simp] theorem zav202 : zeroAV Tryz.prog 202 = some (.sc .nilFunc) := by kernel_rfl
@[simp] theorem zero202 : tyZero Tryz.prog 202 = some [.sc .nilFunc] := by kernel_rfl
@[simp] theorem agg203 : tyAgg Tryz.prog 203 = some false := by kernel_rfl
@[simp] theorem size203 : tySize Tryz.prog 203 = some 1 := by kernel_rfl
@[simp] theorem kd203 : tyKd Tryz.prog 203 = some (Kd.func) := by kernel_rfl
@[simp] theorem arr203 : tyArr Tryz.prog 203 = none := by kernel_rfl
@[simp] theorem zav203 : zeroAV Tryz.prog 203 = some (.sc .nilFunc) := by kernel_rfl
@[simp] theorem zero203 : tyZero Tryz.prog 203 = some [.sc .nilFunc] := by kernel_rfl
@[simp] theorem agg204 : tyAgg Tryz.prog 204 = some true := by kernel_rfl
@[simp] theorem size204 : tySize Tryz.prog 204 = some 3 := by kernel_rfl
@[simp] theorem kd204 : tyKd Tryz.prog 204 = some (Kd.other) := by kernel_rfl
@[simp] theorem arr204 : tyArr Tryz.prog 204 = none := by kernel_rfl
@[simp] theorem zav204 : zeroAV Tryz.prog 204 = some (.agg [.sc (.bool false), .sc (.string ⟨#[]⟩), .sc (.int .u64 0)]) := by kernel_rfl
@[simp] theorem zero204 : tyZero Tryz.prog 204 = some [.sc (.bool false), .sc (.string ⟨#[]⟩), .sc (.int .u64 0)] := by kernel_rfl
@[simp] theorem field204_0 : tyField Tryz.prog 204 0 = some (4, 0, 1) := by kernel_rfl
@[simp] theorem field204_1 : tyField Tryz.prog 204 1 = some (9, 1, 1) := by kernel_rfl
@[simp] theorem field204_2 : tyField Tryz.prog 204 2 = some (22, 2, 1) := by kernel_rfl
@[simp] theorem places204 : tyPlaces Tryz.prog 204 = some [(0, 1), (1, 1), (2, 1)] := by kernel_rfl
@[simp] theorem agg205 : tyAgg Tryz.prog 205 = some true := by kernel_rfl
@[simp] theorem size205 : tySize Tryz.prog 205 = some 3 := by kernel_rfl
@[simp] theorem kd205 : tyKd Tryz.prog 205 = some (Kd.other) := by kernel_rfl
@[simp] theorem arr205 : tyArr Tryz.prog 205 = none := by kernel_rfl
@[simp] theorem zav205 : zeroAV Tryz.prog 205 = some (.agg [.sc (.bool false), .sc (.string ⟨#[]⟩), .sc (.int .u64 0)]) := by kernel_rfl
@[simp] theorem zero205 : tyZero Tryz.prog 205 = some [.sc (.bool false), .sc (.string ⟨#[]⟩), .sc (.int .u64 0)] := by kernel_rfl
@[simp] theorem field205_0 : tyField Tryz.prog 205 0 = some (4, 0, 1) := by kernel_rfl
@[simp] theorem field205_1 : tyField Tryz.prog 205 1 = some (9, 1, 1) := by kernel_rfl
@[simp] theorem field205_2 : tyField Tryz.prog 205 2 = some (22, 2, 1) := by kernel_rfl
@[simp] theorem eq205 : tyEq Tryz.prog 205 = some [(0, Kd.bool), (1, Kd.str), (2, Kd.int .u64)] := by kernel_rfl
@[simp] theorem places205 : tyPlaces Tryz.prog 205 = some [(0, 1), (1, 1), (2, 1)] := by kernel_rfl
@[simp] theorem agg206 : tyAgg Tryz.prog 206 = some true := by kernel_rfl
@[simp] theorem size206 : tySize Tryz.prog 206 = some 8 := by kernel_rfl
@[simp] theorem kd206 : tyKd Tryz.prog 206 = some (Kd.other) := by kernel_rfl
@[simp] theorem arr206 : tyArr Tryz.prog 206 = none := by kernel_rfl
@[simp] theorem zav206 : zeroAV Tryz.prog 206 = some (.agg [.sc (.int .i64 0), .sc (.int .u64 0), .sc (.int .u64 0), .sc (.int .i64 0), .sc (.bool false), .sc (.string ⟨#[]⟩), .sc (.int .u64 0), .sc (.int .i64 0)]) := by kernel_rfl
@[simp] theorem zero206 : tyZero Tryz.prog 206 = some [.sc (.int .i64 0), .sc (.int .u64 0), .sc (.int .u64 0), .sc (.int .i64 0), .sc (.bool false), .sc (.string ⟨#[]⟩), .sc (.int .u64 0), .sc (.int .i64 0)] := by kernel_rfl
@[simp] theorem field206_0 : tyField Tryz.prog 206 0 = some (3, 0, 1) := by kernel_rfl
@[simp] theorem field206_1 : tyField Tryz.prog 206 1 = some (22, 1, 1) := by kernel_rfl
@[simp] theorem field206_2 : tyField Tryz.prog 206 2 = some (22, 2, 1) := by kernel_rfl
@[simp] theorem field206_3 : tyField Tryz.prog 206 3 = some (3, 3, 1) := by kernel_rfl
@[simp] theorem field206_4 : tyField Tryz.prog 206 4 = some (205, 4, 3) := by kernel_rfl
@[simp] theorem field206_5 : tyField Tryz.prog 206 5 = some (3, 7, 1) := by kernel_rfl
@[simp] theorem places206 : tyPlaces Tryz.prog 206 = some [(0, 1), (1, 1), (2, 1), (3, 1), (4, 3), (7, 1)] := by kernel_rfl
@[simp] theorem agg207 : tyAgg Tryz.prog 207 = some true := by kernel_rfl
@[simp] theorem size207 : tySize Tryz.prog 207 = some 8 := by kernel_rfl
@[simp] theorem kd207 : tyKd Tryz.prog 207 = some (Kd.other) := by kernel_rfl
@[simp] theorem arr207 : tyArr Tryz.prog 207 = none := by kernel_rfl
@[simp] theorem zav207 : zeroAV Tryz.prog 207 = some (.agg [.sc (.int .i64 0), .sc (.int .u64 0), .sc (.int .u64 0), .sc (.int .i64 0), .sc (.bool false), .sc (.string ⟨#[]⟩), .sc (.int .u64 0), .sc (.int .i64 0)]) := by kernel_rfl
@[simp] theorem zero207 : tyZero Tryz.prog 207 = some [.sc (.int .i64 0), .sc (.int .u64 0), .sc (.int .u64 0), .sc (.int .i64 0), .sc (.bool false), .sc (.string ⟨#[]⟩), .sc (.int .u64 0), .sc (.int .i64 0)] := by kernel_rfl
@[simp] theorem field207_0 : tyField Tryz.prog 207 0 = some (3, 0, 1) := by kernel_rfl
@[simp] theorem field207_1 : tyField Tryz.prog 207 1 = some (22, 1, 1) := by kernel_rfl
@[simp] theorem field207_2 : tyField Tryz.prog 207 2 = some (22, 2, 1) := by kernel_rfl
@[simp] theorem field207_3 : tyField Tryz.prog 207 3 = some (3, 3, 1) := by kernel_rfl
@[simp] theorem field207_4 : tyField Tryz.prog 207 4 = some (205, 4, 3) := by kernel_rfl
@[simp] theorem field207_5 : tyField Tryz.prog 207 5 = some (3, 7, 1) := by kernel_rfl
@[simp] theorem places207 : tyPlaces Tryz.prog 207 = some [(0, 1), (1, 1), (2, 1), (3, 1), (4, 3), (7, 1)] := by kernel_rfl
@[simp] theorem agg208 : tyAgg Tryz.prog 208 = some false := by kernel_rfl
@[simp] theorem size208 : tySize Tryz.prog 208 = some 1 := by kernel_rfl
@[simp] theorem kd208 : tyKd Tryz.prog 208 = some (Kd.func) := by kernel_rfl
@[simp] theorem arr208 : tyArr Tryz.prog 208 = none := by kernel_rfl
@[simp] theorem zav208 : zeroAV Tryz.prog 208 = some (.sc .nilFunc) := by kernel_rfl
@[simp] theorem zero208 : tyZero Tryz.prog 208 = some [.sc .nilFunc] := by kernel_rfl
@[simp] theorem agg210 : tyAgg Tryz.prog 210 = some false := by kernel_rfl
@[simp] theorem size210 : tySize Tryz.prog 210 = some 1 := by kernel_rfl
@[simp] theorem kd210 : tyKd Tryz.prog 210 = some (Kd.func) := by kernel_rfl
@[simp] theorem arr210 : tyArr Tryz.prog 210 = none := by kernel_rfl
@[simp] theorem zav210 : zeroAV Tryz.prog 210 = some (.sc .nilFunc) := by kernel_rfl
@[simp] theorem zero210 : tyZero Tryz.prog 210 = some [.sc .nilFunc] := by kernel_rfl
@[simp] theorem agg211 : tyAgg Tryz.prog 211 = some false := by kernel_rfl
@[simp] theorem size211 : tySize Tryz.prog 211 = some 1 := by kernel_rfl
@[simp] theorem kd211 : tyKd Tryz.prog 211 = some (Kd.func) := by kernel_rfl
@[simp] theorem arr211 : tyArr Tryz.prog 211 = none := by kernel_rfl
@[simp] theorem zav211 : zeroAV Tryz.prog 211 = some (.sc .nilFunc) := by kernel_rfl
@[simp] theorem zero211 : tyZero Tryz.prog 211 = some [.sc .nilFunc] := by kernel_rfl
@[simp] theorem agg213 : tyAgg Tryz.prog 213 = some false := by kernel_rfl
@[simp] theorem size213 : tySize Tryz.prog 213 = some 1 := by kernel_rfl
@[simp] theorem kd213 : tyKd Tryz.prog 213 = some (Kd.func) := by kernel_rfl
@[simp] theorem arr213 : tyArr Tryz.prog 213 = none := by kernel_rfl
@[simp] theorem zav213 : zeroAV Tryz.prog 213 = some (.sc .nilFunc) := by kernel_rfl
@[simp] theorem zero213 : tyZero Tryz.prog 213 = some [.sc .nilFunc] := by kernel_rfl
@[simp] theorem agg214 : tyAgg Tryz.prog 214 = some false := by kernel_rfl
@[simp] theorem size214 : tySize Tryz.prog 214 = some 1 := by kernel_rfl
@[simp] theorem kd214 : tyKd Tryz.prog 214 = some (Kd.ptr) := by kernel_rfl
@[simp] theorem arr214 : tyArr Tryz.prog 214 = none := by kernel_rfl
@[simp] theorem zav214 : zeroAV Tryz.prog 214 = some (.sc (.pointer none)) := by kernel_rfl
@[simp] theorem zero214 : tyZero Tryz.prog 214 = some [.sc (.pointer none)] := by kernel_rfl
@[simp] theorem agg215 : tyAgg Tryz.prog 215 = some false := by kernel_rfl
@[simp] theorem size215 : tySize Tryz.prog 215 = some 1 := by kernel_rfl
@[simp] theorem kd215 : tyKd Tryz.prog 215 = some (Kd.func) := by kernel_rfl
@[simp] theorem arr215 : tyArr Tryz.prog 215 = none := by kernel_rfl
@[simp] theorem zav215 : zeroAV Tryz.prog 215 = some (.sc .nilFunc) := by kernel_rfl
@[simp] theorem zero215 : tyZero Tryz.prog 215 = some [.sc .nilFunc] := by kernel_rfl
@[simp] theorem agg216 : tyAgg Tryz.prog 216 = some false := by kernel_rfl
@[simp] theorem size216 : tySize Tryz.prog 216 = some 1 := by kernel_rfl
@[simp] theorem kd216 : tyKd Tryz.prog 216 = some (Kd.func) := by kernel_rfl
@[simp] theorem arr216 : tyArr Tryz.prog 216 = none := by kernel_rfl
@[simp] theorem zav216 : zeroAV Tryz.prog 216 = some (.sc .nilFunc) := by kernel_rfl
@[simp] theorem zero216 : tyZero Tryz.prog 216 = some [.sc .nilFunc] := by kernel_rfl
@[simp] theorem agg217 : tyAgg Tryz.prog 217 = some false := by kernel_rfl
@[simp] theorem size217 : tySize Tryz.prog 217 = some 1 := by kernel_rfl
@[simp] theorem kd217 : tyKd Tryz.prog 217 = some (Kd.func) := by kernel_rfl
@[simp] theorem arr217 : tyArr Tryz.prog 217 = none := by kernel_rfl
@[simp] theorem zav217 : zeroAV Tryz.prog 217 = some (.sc .nilFunc) := by kernel_rfl
@[simp] theorem zero217 : tyZero Tryz.prog 217 = some [.sc .nilFunc] := by kernel_rfl
@[simp] theorem agg218 : tyAgg Tryz.prog 218 = some false := by kernel_rfl
@[simp] theorem size218 : tySize Tryz.prog 218 = some 1 := by kernel_rfl
@[simp] theorem kd218 : tyKd Tryz.prog 218 = some (Kd.func) := by kernel_rfl
@[simp] theorem arr218 : tyArr Tryz.prog 218 = none := by kernel_rfl
@[simp] theorem zav218 : zeroAV Tryz.prog 218 = some (.sc .nilFunc) := by kernel_rfl
@[simp] theorem zero218 : tyZero Tryz.prog 218 = some [.sc .nilFunc] := by kernel_rfl
@[simp] theorem agg219 : tyAgg Tryz.prog 219 = some false := by kernel_rfl
@[simp] theorem size219 : tySize Tryz.prog 219 = some 1 := by kernel_rfl
@[simp] theorem kd219 : tyKd Tryz.prog 219 = some (Kd.func) := by kernel_rfl
@[simp] theorem arr219 : tyArr Tryz.prog 219 = none := by kernel_rfl
@[simp] theorem zav219 : zeroAV Tryz.prog 219 = some (.sc .nilFunc) := by kernel_rfl
@[simp] theorem zero219 : tyZero Tryz.prog 219 = some [.sc .nilFunc] := by kernel_rfl
@[simp] theorem agg220 : tyAgg Tryz.prog 220 = some false := by kernel_rfl
@[simp] theorem size220 : tySize Tryz.prog 220 = some 1 := by kernel_rfl
@[simp] theorem kd220 : tyKd Tryz.prog 220 = some (Kd.other) := by kernel_rfl
@[simp] theorem elem220 : tyElem Tryz.prog 220 = some (9, 1, 16) := by kernel_rfl
@[simp] theorem arr220 : tyArr Tryz.prog 220 = none := by kernel_rfl
@[simp] theorem zav220 : zeroAV Tryz.prog 220 = some (.slice .clip []) := by kernel_rfl
@[simp] theorem zero220 : tyZero Tryz.prog 220 = some [.slice .clip []] := by kernel_rfl
@[simp] theorem agg221 : tyAgg Tryz.prog 221 = some true := by kernel_rfl
@[simp] theorem size221 : tySize Tryz.prog 221 = some 2 := by kernel_rfl
@[simp] theorem kd221 : tyKd Tryz.prog 221 = some (Kd.other) := by kernel_rfl
@[simp] theorem arr221 : tyArr Tryz.prog 221 = none := by kernel_rfl
@[simp] theorem zav221 : zeroAV Tryz.prog 221 = some (.agg [.slice .clip [], .slice .clip []]) := by kernel_rfl
@[simp] theorem zero221 : tyZero Tryz.prog 221 = some [.slice .clip [], .slice .clip []] := by kernel_rfl
@[simp] theorem field221_0 : tyField Tryz.prog 221 0 = some (220, 0, 1) := by kernel_rfl
@[simp] theorem field221_1 : tyField Tryz.prog 221 1 = some (220, 1, 1) := by kernel_rfl
@[simp] theorem places221 : tyPlaces Tryz.prog 221 = some [(0, 1), (1, 1)] := by kernel_rfl
@[simp] theorem agg222 : tyAgg Tryz.prog 222 = some true := by kernel_rfl
@[simp] theorem size222 : tySize Tryz.prog 222 = some 2 := by kernel_rfl
@[simp] theorem kd222 : tyKd Tryz.prog 222 = some (Kd.other) := by kernel_rfl
@[simp] theorem arr222 : tyArr Tryz.prog 222 = none := by kernel_rfl
@[simp] theorem zav222 : zeroAV Tryz.prog 222 = some (.agg [.slice .clip [], .slice .clip []]) := by kernel_rfl
@[simp] theorem zero222 : tyZero Tryz.prog 222 = some [.slice .clip [], .slice .clip []] := by kernel_rfl
@[simp] theorem field222_0 : tyField Tryz.prog 222 0 = some (220, 0, 1) := by kernel_rfl
@[simp] theorem field222_1 : tyField Tryz.prog 222 1 = some (220, 1, 1) := by kernel_rfl
@[simp] theorem places222 : tyPlaces Tryz.prog 222 = some [(0, 1), (1, 1)] := by kernel_rfl
@[simp] theorem agg223 : tyAgg Tryz.prog 223 = some false := by kernel_rfl
@[simp] theorem size223 : tySize Tryz.prog 223 = some 1 := by kernel_rfl
@[simp] theorem kd223 : tyKd Tryz.prog 223 = some (Kd.func) := by kernel_rfl
@[simp] theorem arr223 : tyArr Tryz.prog 223 = none := by kernel_rfl
@[simp] theorem zav223 : zeroAV Tryz.prog 223 = some (.sc .nilFunc) := by kernel_rfl
@[simp] theorem zero223 : tyZero Tryz.prog 223 = some [.sc .nilFunc] := by kernel_rfl
@[simp] theorem agg224 : tyAgg Tryz.prog 224 = some false := by kernel_rfl
@[simp] theorem size224 : tySize Tryz.prog 224 = some 1 := by kernel_rfl
@[simp] theorem kd224 : tyKd Tryz.prog 224 = some (Kd.func) := by kernel_rfl
@[simp] theorem arr224 : tyArr Tryz.prog 224 = none := by kernel_rfl
@[simp] theorem zav224 : zeroAV Tryz.prog 224 = some (.sc .nilFunc) := by kernel_rfl
@[simp] theorem zero224 : tyZero Tryz.prog 224 = some [.sc .nilFunc] := by kernel_rfl
@[simp] theorem agg225 : tyAgg Tryz.prog 225 = some false := by kernel_rfl
@[simp] theorem size225 : tySize Tryz.prog 225 = some 1 := by kernel_rfl
@[simp] theorem kd225 : tyKd Tryz.prog 225 = some (Kd.func) := by kernel_rfl
@[simp] theorem arr225 : tyArr Tryz.prog 225 = none := by kernel_rfl
@[simp] theorem zav225 : zeroAV Tryz.prog 225 = some (.sc .nilFunc) := by kernel_rfl
@[simp] theorem zero225 : tyZero Tryz.prog 225 = some [.sc .nilFunc] := by kernel_rfl
@[simp] theorem agg226 : tyAgg Tryz.prog 226 = some false := by kernel_rfl
@[simp] theorem size226 : tySize Tryz.prog 226 = some 1 := by kernel_rfl
@[simp] theorem kd226 : tyKd Tryz.prog 226 = some (Kd.func) := by kernel_rfl
@[simp] theorem arr226 : tyArr Tryz.prog 226 = none := by kernel_rfl
@[simp] theorem zav226 : zeroAV Tryz.prog 226 = some (.sc .nilFunc) := by kernel_rfl
@[simp] theorem zero226 : tyZero Tryz.prog 226 = some [.sc .nilFunc] := by kernel_rfl
@[simp] theorem agg227 : tyAgg Tryz.prog 227 = some false := by kernel_rfl
@[simp] theorem size227 : tySize Tryz.prog 227 = some 1 := by kernel_rfl
@[simp] theorem kd227 : tyKd Tryz.prog 227 = some (Kd.func) := by kernel_rfl
@[simp] theorem arr227 : tyArr Tryz.prog 227 = none := by kernel_rfl
@[simp] theorem zav227 : zeroAV Tryz.prog 227 = some (.sc .nilFunc) := by kernel_rfl
@[simp] theorem zero227 : tyZero Tryz.prog 227 = some [.sc .nilFunc] := by kernel_rfl
@[simp] theorem agg228 : tyAgg Tryz.prog 228 = some false := by kernel_rfl
@[simp] theorem size228 : tySize Tryz.prog 228 = some 1 := by kernel_rfl
@[simp] theorem kd228 : tyKd Tryz.prog 228 = some (Kd.func) := by kernel_rfl
@[simp] theorem arr228 : tyArr Tryz.prog 228 = none := by kernel_rfl
@[simp] theorem zav228 : zeroAV Tryz.prog 228 = some (.sc .nilFunc) := by kernel_rfl
@[simp] theorem zero228 : tyZero Tryz.prog 228 = some [.sc .nilFunc] := by kernel_rfl
@[simp] theorem agg229 : tyAgg Tryz.prog 229 = some false := by kernel_rfl
@[simp] theorem size229 : tySize Tryz.prog 229 = some 1 := by kernel_rfl
@[simp] theorem kd229 : tyKd Tryz.prog 229 = some (Kd.func) := by kernel_rfl
@[simp] theorem arr229 : tyArr Tryz.prog 229 = none := by kernel_rfl
@[simp] theorem zav229 : zeroAV Tryz.prog 229 = some (.sc .nilFunc) := by kernel_rfl
@[simp] theorem zero229 : tyZero Tryz.prog 229 = some [.sc .nilFunc] := by kernel_rfl
@[simp] theorem agg230 : tyAgg Tryz.prog 230 = some false := by kernel_rfl
@[simp] theorem size230 : tySize Tryz.prog 230 = some 1 := by kernel_rfl
@[simp] theorem kd230 : tyKd Tryz.prog 230 = some (Kd.func) := by kernel_rfl
@[simp] theorem arr230 : tyArr Tryz.prog 230 = none := by kernel_rfl
@[simp] theorem zav230 : zeroAV Tryz.prog 230 = some (.sc .nilFunc) := by kernel_rfl
@[simp] theorem zero230 : tyZero Tryz.prog 230 = some [.sc .nilFunc] := by kernel_rfl
@[simp] theorem agg231 : tyAgg Tryz.prog 231 = some false := by kernel_rfl
@[simp] theorem size231 : tySize Tryz.prog 231 = some 1 := by kernel_rfl
@[simp] theorem kd231 : tyKd Tryz.prog 231 = some (Kd.func) := by kernel_rfl
@[simp] theorem arr231 : tyArr Tryz.prog 231 = none := by kernel_rfl
@[simp] theorem zav231 : zeroAV Tryz.prog 231 = some (.sc .nilFunc) := by kernel_rfl
@[simp] theorem zero231 : tyZero Tryz.prog 231 = some [.sc .nilFunc] := by kernel_rfl
@[simp] theorem agg233 : tyAgg Tryz.prog 233 = some false := by kernel_rfl
@[simp] theorem size233 : tySize Tryz.prog 233 = some 1 := by kernel_rfl
@[simp] theorem kd233 : tyKd Tryz.prog 233 = some (Kd.func) := by kernel_rfl
@[simp] theorem arr233 : tyArr Tryz.prog 233 = none := by kernel_rfl
@[simp] theorem zav233 : zeroAV Tryz.prog 233 = some (.sc .nilFunc) := by kernel_rfl
@[simp] theorem zero233 : tyZero Tryz.prog 233 = some [.sc .nilFunc] := by kernel_rfl
@[simp] theorem agg234 : tyAgg Tryz.prog 234 = some false := by kernel_rfl
@[simp] theorem size234 : tySize Tryz.prog 234 = some 1 := by kernel_rfl
@[simp] theorem kd234 : tyKd Tryz.prog 234 = some (Kd.other) := by kernel_rfl
@[simp] theorem elem234 : tyElem Tryz.prog 234 = some (69, 6, 56) := by kernel_rfl
@[simp] theorem arr234 : tyArr Tryz.prog 234 = none := by kernel_rfl
@[simp] theorem zav234 : zeroAV Tryz.prog 234 = some (.slice .clip []) := by kernel_rfl
@[simp] theorem zero234 : tyZero Tryz.prog 234 = some [.slice .clip []] := by kernel_rfl
@[simp] theorem agg235 : tyAgg Tryz.prog 235 = some true := by kernel_rfl
@[simp] theorem size235 : tySize Tryz.prog 235 = some 3 := by kernel_rfl
@[simp] theorem kd235 : tyKd Tryz.prog 235 = some (Kd.other) := by kernel_rfl
@[simp] theorem arr235 : tyArr Tryz.prog 235 = none := by kernel_rfl
@[simp] theorem zav235 : zeroAV Tryz.prog 235 = some (.agg [.slice .clip [], .sc (.int .i64 0), .sc (.int .u64 0)]) := by kernel_rfl
@[simp] theorem zero235 : tyZero Tryz.prog 235 = some [.slice .clip [], .sc (.int .i64 0), .sc (.int .u64 0)] := by kernel_rfl
@[simp] theorem field235_0 : tyField Tryz.prog 235 0 = some (234, 0, 1) := by kernel_rfl
@[simp] theorem field235_1 : tyField Tryz.prog 235 1 = some (3, 1, 1) := by kernel_rfl
@[simp] theorem field235_2 : tyField Tryz.prog 235 2 = some (22, 2, 1) := by kernel_rfl
@[simp] theorem places235 : tyPlaces Tryz.prog 235 = some [(0, 1), (1, 1), (2, 1)] := by kernel_rfl
@[simp] theorem agg236 : tyAgg Tryz.prog 236 = some true := by kernel_rfl
@[simp] theorem size236 : tySize Tryz.prog 236 = some 3 := by kernel_rfl
@[simp] theorem kd236 : tyKd Tryz.prog 236 = some (Kd.other) := by kernel_rfl
@[simp] theorem arr236 : tyArr Tryz.prog 236 = none := by kernel_rfl
@[simp] theorem zav236 : zeroAV Tryz.prog 236 = some (.agg [.slice .clip [], .sc (.int .i64 0), .sc (.int .u64 0)]) := by kernel_rfl
@[simp] theorem zero236 : tyZero Tryz.prog 236 = some [.slice .clip [], .sc (.int .i64 0), .sc (.int .u64 0)] := by kernel_rfl
@[simp] theorem field236_0 : tyField Tryz.prog 236 0 = some (234, 0, 1) := by kernel_rfl
@[simp] theorem field236_1 : tyField Tryz.prog 236 1 = some (3, 1, 1) := by kernel_rfl
@[simp] theorem field236_2 : tyField Tryz.prog 236 2 = some (22, 2, 1) := by kernel_rfl
@[simp] theorem places236 : tyPlaces Tryz.prog 236 = some [(0, 1), (1, 1), (2, 1)] := by kernel_rfl
@[simp] theorem agg238 : tyAgg Tryz.prog 238 = some false := by kernel_rfl
@[simp] theorem size238 : tySize Tryz.prog 238 = some 1 := by kernel_rfl
@[simp] theorem kd238 : tyKd Tryz.prog 238 = some (Kd.func) := by kernel_rfl
@[simp] theorem arr238 : tyArr Tryz.prog 238 = none := by kernel_rfl
@[simp] theorem zav238 : zeroAV Tryz.prog 238 = some (.sc .nilFunc) := by kernel_rfl
@[simp] theorem zero238 : tyZero Tryz.prog 238 = some [.sc .nilFunc] := by kernel_rfl
@[simp] theorem agg239 : tyAgg Tryz.prog 239 = some true := by kernel_rfl
@[simp] theorem size239 : tySize Tryz.prog 239 = some 3 := by kernel_rfl
@[simp] theorem kd239 : tyKd Tryz.prog 239 = some (Kd.other) := by kernel_rfl
@[simp] theorem arr239 : tyArr Tryz.prog 239 = some (3, 22, 1) := by kernel_rfl
@[simp] theorem zav239 : zeroAV Tryz.prog 239 = some (.agg [.sc (.int .u64 0), .sc (.int .u64 0), .sc (.int .u64 0)]) := by kernel_rfl
@[simp] theorem zero239 : tyZero Tryz.prog 239 = some [.sc (.int .u64 0), .sc (.int .u64 0), .sc (.int .u64 0)] := by kernel_rfl
@[simp] theorem agg240 : tyAgg Tryz.prog 240 = some false := by kernel_rfl
@[simp] theorem size240 : tySize Tryz.prog 240 = some 1 := by kernel_rfl
@[simp] theorem kd240 : tyKd Tryz.prog 240 = some (Kd.func) := by kernel_rfl
@[simp] theorem arr240 : tyArr Tryz.prog 240 = none := by kernel_rfl
@[simp] theorem zav240 : zeroAV Tryz.prog 240 = some (.sc .nilFunc) := by kernel_rfl
@[simp] theorem zero240 : tyZero Tryz.prog 240 = some [.sc .nilFunc] := by kernel_rfl
@[simp] theorem agg241 : tyAgg Tryz.prog 241 = some false := by kernel_rfl
@[simp] theorem size241 : tySize Tryz.prog 241 = some 1 := by kernel_rfl
@[simp] theorem kd241 : tyKd Tryz.prog 241 = some (Kd.func) := by kernel_rfl
@[simp] theorem arr241 : tyArr Tryz.prog 241 = none := by kernel_rfl
@[simp] theorem zav241 : zeroAV Tryz.prog 241 = some (.sc .nilFunc) := by kernel_rfl
@[simp] theorem zero241 : tyZero Tryz.prog 241 = some [.sc .nilFunc] := by kernel_rfl
@[simp] theorem agg242 : tyAgg Tryz.prog 242 = some false := by kernel_rfl
@[simp] theorem size242 : tySize Tryz.prog 242 = some 1 := by kernel_rfl
@[simp] theorem kd242 : tyKd Tryz.prog 242 = some (Kd.func) := by kernel_rfl
@[simp] theorem arr242 : tyArr Tryz.prog 242 = none := by kernel_rfl
@[simp] theorem zav242 : zeroAV Tryz.prog 242 = some (.sc .nilFunc) := by kernel_rfl
@[simp] theorem zero242 : tyZero Tryz.prog 242 = some [.sc .nilFunc] := by kernel_rfl
@[simp] theorem agg243 : tyAgg Tryz.prog 243 = some false := by kernel_rfl
@[simp] theorem size243 : tySize Tryz.prog 243 = some 1 := by kernel_rfl
@[simp] theorem kd243 : tyKd Tryz.prog 243 = some (Kd.func) := by kernel_rfl
@[simp] theorem arr243 : tyArr Tryz.prog 243 = none := by kernel_rfl
@[simp] theorem zav243 : zeroAV Tryz.prog 243 = some (.sc .nilFunc) := by kernel_rfl
@[simp] theorem zero243 : tyZero Tryz.prog 243 = some [.sc .nilFunc] := by kernel_rfl
@[simp] theorem agg244 : tyAgg Tryz.prog 244 = some false := by kernel_rfl
@[simp] theorem size244 : tySize Tryz.prog 244 = some 1 := by kernel_rfl
@[simp] theorem kd244 : tyKd Tryz.prog 244 = some (Kd.func) := by kernel_rfl
@[simp] theorem arr244 : tyArr Tryz.prog 244 = none := by kernel_rfl
@[simp] theorem zav244 : zeroAV Tryz.prog 244 = some (.sc .nilFunc) := by kernel_rfl
@[simp] theorem zero244 : tyZero Tryz.prog 244 = some [.sc .nilFunc] := by kernel_rfl
@[simp] theorem agg245 : tyAgg Tryz.prog 245 = some false := by kernel_rfl
@[simp] theorem size245 : tySize Tryz.prog 245 = some 1 := by kernel_rfl
@[simp] theorem kd245 : tyKd Tryz.prog 245 = some (Kd.ptr) := by kernel_rfl
@[simp] theorem arr245 : tyArr Tryz.prog 245 = none := by kernel_rfl
@[simp] theorem zav245 : zeroAV Tryz.prog 245 = some (.sc (.pointer none)) := by kernel_rfl
@[simp] theorem zero245 : tyZero Tryz.prog 245 = some [.sc (.pointer none)] := by kernel_rfl
@[simp] theorem agg246 : tyAgg Tryz.prog 246 = some false := by kernel_rfl
@[simp] theorem size246 : tySize Tryz.prog 246 = some 1 := by kernel_rfl
@[simp] theorem kd246 : tyKd Tryz.prog 246 = some (Kd.other) := by kernel_rfl
@[simp] theorem elem246 : tyElem Tryz.prog 246 = some (257, 3, 40) := by kernel_rfl
@[simp] theorem arr246 : tyArr Tryz.prog 246 = none := by kernel_rfl
@[simp] theorem zav246 : zeroAV Tryz.prog 246 = some (.slice .clip []) := by kernel_rfl
@[simp] theorem zero246 : tyZero Tryz.prog 246 = some [.slice .clip []] := by kernel_rfl
@[simp] theorem agg247 : tyAgg Tryz.prog 247 = some false := by kernel_rfl
@[simp] theorem size247 : tySize Tryz.prog 247 = some 1 := by kernel_rfl
@[simp] theorem kd247 : tyKd Tryz.prog 247 = some (Kd.other) := by kernel_rfl
@[simp] theorem elem247 : tyElem Tryz.prog 247 = some (259, 5, 64) := by kernel_rfl
@[simp] theorem arr247 : tyArr Tryz.prog 247 = none := by kernel_rfl
@[simp] theorem zav247 : zeroAV Tryz.prog 247 = some (.slice .clip []) := by kernel_rfl
@[simp] theorem zero247 : tyZero Tryz.prog 247 = some [.slice .clip []] := by kernel_rfl
@[simp] theorem agg248 : tyAgg Tryz.prog 248 = some true := by kernel_rfl
@[simp] theorem size248 : tySize Tryz.prog 248 = some 2 := by kernel_rfl
@[simp] theorem kd248 : tyKd Tryz.prog 248 = some (Kd.other) := by kernel_rfl
@[simp] theorem arr248 : tyArr Tryz.prog 248 = none := by kernel_rfl
@[simp] theorem zav248 : zeroAV Tryz.prog 248 = some (.agg [.slice .clip [], .slice .clip []]) := by kernel_rfl
@[simp] theorem zero248 : tyZero Tryz.prog 248 = some [.slice .clip [], .slice .clip []] := by kernel_rfl
@[simp] theorem field248_0 : tyField Tryz.prog 248 0 = some (246, 0, 1) := by kernel_rfl
@[simp] theorem field248_1 : tyField Tryz.prog 248 1 = some (247, 1, 1) := by kernel_rfl
@[simp] theorem places248 : tyPlaces Tryz.prog 248 = some [(0, 1), (1, 1)] := by kernel_rfl
@[simp] theorem agg249 : tyAgg Tryz.prog 249 = some true := by kernel_rfl
@[simp] theorem size249 : tySize Tryz.prog 249 = some 2 := by kernel_rfl
@[simp] theorem kd249 : tyKd Tryz.prog 249 = some (Kd.other) := by kernel_rfl
@[simp] theorem arr249 : tyArr Tryz.prog 249 = none := by kernel_rfl
@[simp] theorem zav249 : zeroAV Tryz.prog 249 = some (.agg [.slice .clip [], .slice .clip []]) := by kernel_rfl
@[simp] theorem zero249 : tyZero Tryz.prog 249 = some [.slice .clip [], .slice .clip []] := by kernel_rfl
@[simp] theorem field249_0 : tyField Tryz.prog 249 0 = some (246, 0, 1) := by kernel_rfl
@[simp] theorem field249_1 : tyField Tryz.prog 249 1 = some (247, 1, 1) := by kernel_rfl
@[simp] theorem places249 : tyPlaces Tryz.prog 249 = some [(0, 1), (1, 1)] := by kernel_rfl
@[simp] theorem agg250 : tyAgg Tryz.prog 250 = some true := by kernel_rfl
@[simp] theorem size250 : tySize Tryz.prog 250 = some 4 := by kernel_rfl
@[simp] theorem kd250 : tyKd Tryz.prog 250 = some (Kd.other) := by kernel_rfl
@[simp] theorem arr250 : tyArr Tryz.prog 250 = none := by kernel_rfl
@[simp] theorem zav250 : zeroAV Tryz.prog 250 = some (.agg [.sc (.int .i64 0), .sc (.int .i64 0), .slice .clip [], .slice .clip []]) := by kernel_rfl
@[simp] theorem zero250 : tyZero Tryz.prog 250 = some [.sc (.int .i64 0), .sc (.int .i64 0), .slice .clip [], .slice .clip []] := by kernel_rfl
@[simp] theorem field250_0 : tyField Tryz.prog 250 0 = some (45, 0, 2) := by kernel_rfl
@[simp] theorem field250_1 : tyField Tryz.prog 250 1 = some (249, 2, 2) := by kernel_rfl
@[simp] theorem places250 : tyPlaces Tryz.prog 250 = some [(0, 2), (2, 2)] := by kernel_rfl
@[simp] theorem agg251 : tyAgg Tryz.prog 251 = some true := by kernel_rfl
@[simp] theorem size251 : tySize Tryz.prog 251 = some 4 := by kernel_rfl
@[simp] theorem kd251 : tyKd Tryz.prog 251 = some (Kd.other) := by kernel_rfl
@[simp] theorem arr251 : tyArr Tryz.prog 251 = none := by kernel_rfl
@[simp] theorem zav251 : zeroAV Tryz.prog 251 = some (.agg [.sc (.int .i64 0), .sc (.int .i64 0), .slice .clip [], .slice .clip []]) := by kernel_rfl
@[simp] theorem zero251 : tyZero Tryz.prog 251 = some [.sc (.int .i64 0), .sc (.int .i64 0), .slice .clip [], .slice .clip []] := by kernel_rfl
@[simp] theorem field251_0 : tyField Tryz.prog 251 0 = some (45, 0, 2) := by kernel_rfl
@[simp] theorem field251_1 : tyField Tryz.prog 251 1 = some (249, 2, 2) := by kernel_rfl
@[simp] theorem places251 : tyPlaces Tryz.prog 251 = some [(0, 2), (2, 2)] := by kernel_rfl
@[simp] theorem agg252 : tyAgg Tryz.prog 252 = some false := by kernel_rfl
@[simp] theorem size252 : tySize Tryz.prog 252 = some 1 := by kernel_rfl
@[simp] theorem kd252 : tyKd Tryz.prog 252 = some (Kd.other) := by kernel_rfl
@[simp] theorem arr252 : tyArr Tryz.prog 252 = none := by kernel_rfl
@[simp] theorem zav252 : zeroAV Tryz.prog 252 = some (.sc (.pointer none)) := by kernel_rfl
@[simp] theorem zero252 : tyZero Tryz.prog 252 = some [.sc (.pointer none)] := by kernel_rfl
@[simp] theorem agg253 : tyAgg Tryz.prog 253 = some false := by kernel_rfl
@[simp] theorem size253 : tySize Tryz.prog 253 = some 1 := by kernel_rfl
@[simp] theorem kd253 : tyKd Tryz.prog 253 = some (Kd.ptr) := by kernel_rfl
@[simp] theorem arr253 : tyArr Tryz.prog 253 = none := by kernel_rfl
@[simp] theorem zav253 : zeroAV Tryz.prog 253 = some (.sc (.pointer none)) := by kernel_rfl
@[simp] theorem zero253 : tyZero Tryz.prog 253 = some [.sc (.pointer none)] := by kernel_rfl
@[simp] theorem agg254 : tyAgg Tryz.prog 254 = some true := by kernel_rfl
@[simp] theorem size254 : tySize Tryz.prog 254 = some 2 := by kernel_rfl
@[simp] theorem kd254 : tyKd Tryz.prog 254 = some (Kd.other) := by kernel_rfl
@[simp] theorem arr254 : tyArr Tryz.prog 254 = none := by kernel_rfl
@[simp] theorem zav254 : zeroAV Tryz.prog 254 = some (.agg [.sc (.string ⟨#[]⟩), .sc (.pointer none)]) := by kernel_rfl
@[simp] theorem zero254 : tyZero Tryz.prog 254 = some [.sc (.string ⟨#[]⟩), .sc (.pointer none)] := by kernel_rfl
@[simp] theorem field254_0 : tyField Tryz.prog 254 0 = some (9, 0, 1) := by kernel_rfl
@[simp] theorem field254_1 : tyField Tryz.prog 254 1 = some (253, 1, 1) := by kernel_rfl
@[simp] theorem places254 : tyPlaces Tryz.prog 254 = some [(0, 1), (1, 1)] := by kernel_rfl
@[simp] theorem agg255 : tyAgg Tryz.prog 255 = some true := by kernel_rfl
@[simp] theorem size255 : tySize Tryz.prog 255 = some 2 := by kernel_rfl
@[simp] theorem kd255 : tyKd Tryz.prog 255 = some (Kd.other) := by kernel_rfl
@[simp] theorem arr255 : tyArr Tryz.prog 255 = none := by kernel_rfl
@[simp] theorem zav255 : zeroAV Tryz.prog 255 = some (.agg [.sc (.string ⟨#[]⟩), .sc (.pointer none)]) := by kernel_rfl
@[simp] theorem zero255 : tyZero Tryz.prog 255 = some [.sc (.string ⟨#[]⟩), .sc (.pointer none)] := by kernel_rfl
@[simp] theorem field255_0 : tyField Tryz.prog 255 0 = some (9, 0, 1) := by kernel_rfl
@[simp] theorem field255_1 : tyField Tryz.prog 255 1 = some (253, 1, 1) := by kernel_rfl
@[simp] theorem places255 : tyPlaces Tryz.prog 255 = some [(0, 1), (1, 1)] := by kernel_rfl
@[simp] theorem agg256 : tyAgg Tryz.prog 256 = some true := by kernel_rfl
@[simp] theorem size256 : tySize Tryz.prog 256 = some 3 := by kernel_rfl
@[simp] theorem kd256 : tyKd Tryz.prog 256 = some (Kd.other) := by kernel_rfl
@[simp] theorem arr256 : tyArr Tryz.prog 256 = none := by kernel_rfl
@[simp] theorem zav256 : zeroAV Tryz.prog 256 = some (.agg [.sc (.int .i64 0), .sc (.string ⟨#[]⟩), .sc (.string ⟨#[]⟩)]) := by kernel_rfl
@[simp] theorem zero256 : tyZero Tryz.prog 256 = some [.sc (.int .i64 0), .sc (.string ⟨#[]⟩), .sc (.string ⟨#[]⟩)] := by kernel_rfl
@[simp] theorem field256_0 : tyField Tryz.prog 256 0 = some (3, 0, 1) := by kernel_rfl
@[simp] theorem field256_1 : tyField Tryz.prog 256 1 = some (9, 1, 1) := by kernel_rfl
@[simp] theorem field256_2 : tyField Tryz.prog 256 2 = some (9, 2, 1) := by kernel_rfl
@[simp] theorem places256 : tyPlaces Tryz.prog 256 = some [(0, 1), (1, 1), (2, 1)] := by kernel_rfl
@[simp] theorem agg257 : tyAgg Tryz.prog 257 = some true := by kernel_rfl
@[simp] theorem size257 : tySize Tryz.prog 257 = some 3 := by kernel_rfl
@[simp] theorem kd257 : tyKd Tryz.prog 257 = some (Kd.other) := by kernel_rfl
@[simp] theorem arr257 : tyArr Tryz.prog 257 = none := by kernel_rfl
@[simp] theorem zav257 : zeroAV Tryz.prog 257 = some (.agg [.sc (.int .i64 0), .sc (.string ⟨#[]⟩), .sc (.string ⟨#[]⟩)]) := by kernel_rfl
@[simp] theorem zero257 : tyZero Tryz.prog 257 = some [.sc (.int .i64 0), .sc (.string ⟨#[]⟩), .sc (.string ⟨#[]⟩)] := by kernel_rfl
@[simp] theorem field257_0 : tyField Tryz.prog 257 0 = some (3, 0, 1) := by kernel_rfl
@[simp] theorem field257_1 : tyField Tryz.prog 257 1 = some (9, 1, 1) := by kernel_rfl
@[simp] theorem field257_2 : tyField Tryz.prog 257 2 = some (9, 2, 1) := by kernel_rfl
@[simp] theorem eq257 : tyEq Tryz.prog 257 = some [(0, Kd.int .i64), (1, Kd.str), (2, Kd.str)] := by kernel_rfl
@[simp] theorem places257 : tyPlaces Tryz.prog 257 = some [(0, 1), (1, 1), (2, 1)] := by kernel_rfl
@[simp] theorem agg258 : tyAgg Tryz.prog 258 = some true := by kernel_rfl
@[simp] theorem size258 : tySize Tryz.prog 258 = some 5 := by kernel_rfl
@[simp] theorem kd258 : tyKd Tryz.prog 258 = some (Kd.other) := by kernel_rfl
@[simp] theorem arr258 : tyArr Tryz.prog 258 = none := by kernel_rfl
@[simp] theorem zav258 : zeroAV Tryz.prog 258 = some (.agg [.sc (.int .i64 0), .sc (.string ⟨#[]⟩), .sc (.string ⟨#[]⟩), .sc (.string ⟨#[]⟩), .sc (.int .i64 0)]) := by kernel_rfl
@[simp] theorem zero258 : tyZero Tryz.prog 258 = some [.sc (.int .i64 0), .sc (.string ⟨#[]⟩), .sc (.string ⟨#[]⟩), .sc (.string ⟨#[]⟩), .sc (.int .i64 0)] := by kernel_rfl
@[simp] theorem field258_0 : tyField Tryz.prog 258 0 = some (3, 0, 1) := by kernel_rfl
@[simp] theorem field258_1 : tyField Tryz.prog 258 1 = some (9, 1, 1) := by kernel_rfl
@[simp] theorem field258_2 : tyField Tryz.prog 258 2 = some (9, 2, 1) := by kernel_rfl
@[simp] theorem field258_3 : tyField Tryz.prog 258 3 = some (9, 3, 1) := by kernel_rfl
@[simp] theorem field258_4 : tyField Tryz.prog 258 4 = some (2, 4, 1) := by kernel_rfl
@[simp] theorem places258 : tyPlaces Tryz.prog 258 = some [(0, 1), (1, 1), (2, 1), (3, 1), (4, 1)] := by kernel_rfl
@[simp] theorem agg259 : tyAgg Tryz.prog 259 = some true := by kernel_rfl
@[simp] theorem size259 : tySize Tryz.prog 259 = some 5 := by kernel_rfl
@[simp] theorem kd259 : tyKd Tryz.prog 259 = some (Kd.other) := by kernel_rfl
@[simp] theorem arr259 : tyArr Tryz.prog 259 = none := by kernel_rfl
@[simp] theorem zav259 : zeroAV Tryz.prog 259 = some (.agg [.sc (.int .i64 0), .sc (.string ⟨#[]⟩), .sc (.string ⟨#[]⟩), .sc (.string ⟨#[]⟩), .sc (.int .i64 0)]) := by kernel_rfl
@[simp] theorem zero259 : tyZero Tryz.prog 259 = some [.sc (.int .i64 0), .sc (.string ⟨#[]⟩), .sc (.string ⟨#[]⟩), .sc (.string ⟨#[]⟩), .sc (.int .i64 0)] := by kernel_rfl
@[simp] theorem field259_0 : tyField Tryz.prog 259 0 = some (3, 0, 1) := by kernel_rfl
@[simp] theorem field259_1 : tyField Tryz.prog 259 1 = some (9, 1, 1) := by kernel_rfl
@[simp] theorem field259_2 : tyField Tryz.prog 259 2 = some (9, 2, 1) := by kernel_rfl
@[simp] theorem field259_3 : tyField Tryz.prog 259 3 = some (9, 3, 1) := by kernel_rfl
@[simp] theorem field259_4 : tyField Tryz.prog 259 4 = some (2, 4, 1) := by kernel_rfl
@[simp] theorem eq259 : tyEq Tryz.prog 259 = some [(0, Kd.int .i64), (1, Kd.str), (2, Kd.str), (3, Kd.str), (4, Kd.int .i64)] := by kernel_rfl
@[simp] theorem places259 : tyPlaces Tryz.prog 259 = some [(0, 1), (1, 1), (2, 1), (3, 1), (4, 1)] := by kernel_rfl
@[simp] theorem agg260 : tyAgg Tryz.prog 260 = some false := by kernel_rfl
@[simp] theorem size260 : tySize Tryz.prog 260 = some 1 := by kernel_rfl
@[simp] theorem kd260 : tyKd Tryz.prog 260 = some (Kd.func) := by kernel_rfl
@[simp] theorem arr260 : tyArr Tryz.prog 260 = none := by kernel_rfl
@[simp] theorem zav260 : zeroAV Tryz.prog 260 = some (.sc .nilFunc) := by kernel_rfl
@[simp] theorem zero260 : tyZero Tryz.prog 260 = some [.sc .nilFunc] := by kernel_rfl
@[simp] theorem agg261 : tyAgg Tryz.prog 261 = some true := by kernel_rfl
@[simp] theorem size261 : tySize Tryz.prog 261 = some 3 := by kernel_rfl
@[simp] theorem kd261 : tyKd Tryz.prog 261 = some (Kd.other) := by kernel_rfl
@[simp] theorem arr261 : tyArr Tryz.prog 261 = none := by kernel_rfl
@[simp] theorem zav261 : zeroAV Tryz.prog 261 = some (.agg [.sc (.int .i64 0), .slice .clip [], .sc (.bool false)]) := by kernel_rfl
@[simp] theorem zero261 : tyZero Tryz.prog 261 = some [.sc (.int .i64 0), .slice .clip [], .sc (.bool false)] := by kernel_rfl
@[simp] theorem field261_0 : tyField Tryz.prog 261 0 = some (3, 0, 1) := by kernel_rfl
@[simp] theorem field261_1 : tyField Tryz.prog 261 1 = some (39, 1, 1) := by kernel_rfl
@[simp] theorem field261_2 : tyField Tryz.prog 261 2 = some (4, 2, 1) := by kernel_rfl
@[simp] theorem places261 : tyPlaces Tryz.prog 261 = some [(0, 1), (1, 1), (2, 1)] := by kernel_rfl
@[simp] theorem agg262 : tyAgg Tryz.prog 262 = some true := by kernel_rfl
@[simp] theorem size262 : tySize Tryz.prog 262 = some 3 := by kernel_rfl
@[simp] theorem kd262 : tyKd Tryz.prog 262 = some (Kd.other) := by kernel_rfl
@[simp] theorem arr262 : tyArr Tryz.prog 262 = none := by kernel_rfl
@[simp] theorem zav262 : zeroAV Tryz.prog 262 = some (.agg [.sc (.int .i64 0), .slice .clip [], .sc (.bool false)]) := by kernel_rfl
@[simp] theorem zero262 : tyZero Tryz.prog 262 = some [.sc (.int .i64 0), .slice .clip [], .sc (.bool false)] := by kernel_rfl
@[simp] theorem field262_0 : tyField Tryz.prog 262 0 = some (3, 0, 1) := by kernel_rfl
@[simp] theorem field262_1 : tyField Tryz.prog 262 1 = some (39, 1, 1) := by kernel_rfl
@[simp] theorem field262_2 : tyField Tryz.prog 262 2 = some (4, 2, 1) := by kernel_rfl
@[simp] theorem places262 : tyPlaces Tryz.prog 262 = some [(0, 1), (1, 1), (2, 1)] := by kernel_rfl
@[simp] theorem call2 : callable Tryz.prog 2 = true := by kernel_rfl
@[simp] theorem call3 : callable Tryz.prog 3 = true := by kernel_rfl
@[simp] theorem call4 : callable Tryz.prog 4 = true := by kernel_rfl
@[simp] theorem call5 : callable Tryz.prog 5 = true := by kernel_rfl
@[simp] theorem call6 : callable Tryz.prog 6 = true := by kernel_rfl
@[simp] theorem call7 : callable Tryz.prog 7 = true := by kernel_rfl
@[simp] theorem call8 : callable Tryz.prog 8 = true := by kernel_rfl
@[simp] theorem call9 : callable Tryz.prog 9 = true := by kernel_rfl
@[simp] theorem call10 : callable Tryz.prog 10 = true := by kernel_rfl
@[simp] theorem call11 : callable Tryz.prog 11 = true := by kernel_rfl
@[simp] theorem call12 : callable Tryz.prog 12 = true := by kernel_rfl
@[simp] theorem call13 : callable Tryz.prog 13 = true := by kernel_rfl
@[simp] theorem call14 : callable Tryz.prog 14 = true := by kernel_rfl
@[simp] theorem call15 : callable Tryz.prog 15 = true := by kernel_rfl
@[simp] theorem call16 : callable Tryz.prog 16 = true := by kernel_rfl
@[simp] theorem call17 : callable Tryz.prog 17 = true := by kernel_rfl
@[simp] theorem call18 : callable Tryz.prog 18 = true := by kernel_rfl
@[simp] theorem call19 : callable Tryz.prog 19 = true := by kernel_rfl
@[simp] theorem call20 : callable Tryz.prog 20 = true := by kernel_rfl
@[simp] theorem call21 : callable Tryz.prog 21 = true := by kernel_rfl
@[simp] theorem call22 : callable Tryz.prog 22 = true := by kernel_rfl
@[simp] theorem call23 : callable Tryz.prog 23 = true := by kernel_rfl
@[simp] theorem call24 : callable Tryz.prog 24 = true := by kernel_rfl
@[simp] theorem call25 : callable Tryz.prog 25 = true := by kernel_rfl
@[simp] theorem call26 : callable Tryz.prog 26 = true := by kernel_rfl
@[simp] theorem call27 : callable Tryz.prog 27 = true := by kernel_rfl
@[simp] theorem call28 : callable Tryz.prog 28 = true := by kernel_rfl
@[simp] theorem call29 : callable Tryz.prog 29 = true := by kernel_rfl
@[simp] theorem call30 : callable Tryz.prog 30 = true := by kernel_rfl
@[simp] theorem call31 : callable Tryz.prog 31 = true := by kernel_rfl
@[simp] theorem call32 : callable Tryz.prog 32 = true := by kernel_rfl
@[simp] theorem call33 : callable Tryz.prog 33 = true := by kernel_rfl
@[simp] theorem call34 : callable Tryz.prog 34 = true := by kernel_rfl
@[simp] theorem call35 : callable Tryz.prog 35 = true := by kernel_rfl
@[simp] theorem call36 : callable Tryz.prog 36 = true := by kernel_rfl
@[simp] theorem call37 : callable Tryz.prog 37 = true := by kernel_rfl
@[simp] theorem call38 : callable Tryz.prog 38 = true := by kernel_rfl
@[simp] theorem call39 : callable Tryz.prog 39 = true := by kernel_rfl
@[simp] theorem call40 : callable Tryz.prog 40 = true := by kernel_rfl
@[simp] theorem call41 : callable Tryz.prog 41 = true := by kernel_rfl
@[simp] theorem call42 : callable Tryz.prog 42 = true := by kernel_rfl
@[simp] theorem call43 : callable Tryz.prog 43 = true := by kernel_rfl
@[simp] theorem call44 : callable Tryz.prog 44 = true := by kernel_rfl
@[simp] theorem call45 : callable Tryz.prog 45 = true := by kernel_rfl
@[simp] theorem call46 : callable Tryz.prog 46 = true := by kernel_rfl
@[simp] theorem call47 : callable Tryz.prog 47 = true := by kernel_rfl
@[simp] theorem call48 : callable Tryz.prog 48 = true := by kernel_rfl
@[simp] theorem call49 : callable Tryz.prog 49 = true := by kernel_rfl
@[simp] theorem call50 : callable Tryz.prog 50 = true := by kernel_rfl
@[simp] theorem call51 : callable Tryz.prog 51 = true := by kernel_rfl
@[simp] theorem call52 : callable Tryz.prog 52 = true := by kernel_rfl
@[simp] theorem call53 : callable Tryz.prog 53 = true := by kernel_rfl
@[simp] theorem call54 : callable Tryz.prog 54 = true := by kernel_rfl
@[simp] theorem call55 : callable Tryz.prog 55 = true := by kernel_rfl
@[simp] theorem call56 : callable Tryz.prog 56 = true := by kernel_rfl
@[simp] theorem call57 : callable Tryz.prog 57 = true := by kernel_rfl
@[simp] theorem call58 : callable Tryz.prog 58 = true := by kernel_rfl
@[simp] theorem call59 : callable Tryz.prog 59 = true := by kernel_rfl
@[simp] theorem call60 : callable Tryz.prog 60 = true := by kernel_rfl
@[simp] theorem call61 : callable Tryz.prog 61 = true := by kernel_rfl
@[simp] theorem call62 : callable Tryz.prog 62 = true := by kernel_rfl
@[simp] theorem call63 : callable Tryz.prog 63 = true := by kernel_rfl
@[simp] theorem call64 : callable Tryz.prog 64 = true := by kernel_rfl
@[simp] theorem call65 : callable Tryz.prog 65 = true := by kernel_rfl
@[simp] theorem call66 : callable Tryz.prog 66 = true := by kernel_rfl
@[simp] theorem call67 : callable Tryz.prog 67 = true := by kernel_rfl
@[simp] theorem call68 : callable Tryz.prog 68 = true := by kernel_rfl
@[simp] theorem call69 : callable Tryz.prog 69 = true := by kernel_rfl
@[simp] theorem call70 : callable Tryz.prog 70 = true := by kernel_rfl
@[simp] theorem call71 : callable Tryz.prog 71 = true := by kernel_rfl
@[simp] theorem call72 : callable Tryz.prog 72 = true := by kernel_rfl
@[simp] theorem call73 : callable Tryz.prog 73 = true := by kernel_rfl
@[simp] theorem call74 : callable Tryz.prog 74 = true := by kernel_rfl
@[simp] theorem call75 : callable Tryz.prog 75 = true := by kernel_rfl
@[simp] theorem call76 : callable Tryz.prog 76 = true := by kernel_rfl
@[simp] theorem call77 : callable Tryz.prog 77 = true := by kernel_rfl
@[simp] theorem call78 : callable Tryz.prog 78 = true := by kernel_rfl
@[simp] theorem call79 : callable Tryz.prog 79 = true := by kernel_rfl
@[simp] theorem call80 : callable Tryz.prog 80 = true := by kernel_rfl
@[simp] theorem call81 : callable Tryz.prog 81 = true := by kernel_rfl
@[simp] theorem call82 : callable Tryz.prog 82 = true := by kernel_rfl
@[simp] theorem call83 : callable Tryz.prog 83 = true := by kernel_rfl
@[simp] theorem call84 : callable Tryz.prog 84 = true := by kernel_rfl
@[simp] theorem call85 : callable Tryz.prog 85 = true := by kernel_rfl
@[simp] theorem call86 : callable Tryz.prog 86 = true := by kernel_rfl
@[simp] theorem call87 : callable Tryz.prog 87 = true := by kernel_rfl
@[simp] theorem call103 : callable Tryz.prog 103 = true := by kernel_rfl
@[simp] theorem call104 : callable Tryz.prog 104 = true := by kernel_rfl
@[simp] theorem call105 : callable Tryz.prog 105 = true := by kernel_rfl
@[simp] theorem call106 : callable Tryz.prog 106 = true := by kernel_rfl
@[simp] theorem call107 : callable Tryz.prog 107 = true := by kernel_rfl
@[simp] theorem call108 : callable Tryz.prog 108 = true := by kernel_rfl
@[simp] theorem call109 : callable Tryz.prog 109 = true := by kernel_rfl
@[simp] theorem call110 : callable Tryz.prog 110 = true := by kernel_rfl
@[simp] theorem call111 : callable Tryz.prog 111 = true := by kernel_rfl
@[simp] theorem call112 : callable Tryz.prog 112 = true := by kernel_rfl
@[simp] theorem call113 : callable Tryz.prog 113 = true := by kernel_rfl
@[simp] theorem call114 : callable Tryz.prog 114 = true := by kernel_rfl
@[simp] theorem call115 : callable Tryz.prog 115 = true := by kernel_rfl
@[simp] theorem call116 : callable Tryz.prog 116 = true := by kernel_rfl
@[simp] theorem call117 : callable Tryz.prog 117 = true := by kernel_rfl
@[simp] theorem call118 : callable Tryz.prog 118 = true := by kernel_rfl
@[simp] theorem call119 : callable Tryz.prog 119 = true := by kernel_rfl
@[simp] theorem call120 : callable Tryz.prog 120 = true := by kernel_rfl
@[simp] theorem call121 : callable Tryz.prog 121 = true := by kernel_rfl
@[simp] theorem call122 : callable Tryz.prog 122 = true := by kernel_rfl
@[simp] theorem call123 : callable Tryz.prog 123 = true := by kernel_rfl
@[simp] theorem call124 : callable Tryz.prog 124 = true := by kernel_rfl
@[simp] theorem call125 : callable Tryz.prog 125 = true := by kernel_rfl
@[simp] theorem call126 : callable Tryz.prog 126 = true := by kernel_rfl
@[simp] theorem call127 : callable Tryz.prog 127 = true := by kernel_rfl
@[simp] theorem call129 : callable Tryz.prog 129 = true := by kernel_rfl
@[simp] theorem call130 : callable Tryz.prog 130 = true := by kernel_rfl
@[simp] theorem call131 : callable Tryz.prog 131 = true := by kernel_rfl
@[simp] theorem call132 : callable Tryz.prog 132 = true := by kernel_rfl
@[simp] theorem call133 : callable Tryz.prog 133 = true := by kernel_rfl
@[simp] theorem call134 : callable Tryz.prog 134 = true := by kernel_rfl
@[simp] theorem call135 : callable Tryz.prog 135 = true := by kernel_rfl
@[simp] theorem call136 : callable Tryz.prog 136 = true := by kernel_rfl
@[simp] theorem call137 : callable Tryz.prog 137 = true := by kernel_rfl
@[simp] theorem call138 : callable Tryz.prog 138 = true := by kernel_rfl
@[simp] theorem call139 : callable Tryz.prog 139 = true := by kernel_rfl
@[simp] theorem call140 : callable Tryz.prog 140 = true := by kernel_rfl
@[simp] theorem call141 : callable Tryz.prog 141 = true := by kernel_rfl
@[simp] theorem call142 : callable Tryz.prog 142 = true := by kernel_rfl
@[simp] theorem call143 : callable Tryz.prog 143 = true := by kernel_rfl
@[simp] theorem call144 : callable Tryz.prog 144 = true := by kernel_rfl
@[simp] theorem call145 : callable Tryz.prog 145 = true := by kernel_rfl
@[simp] theorem call146 : callable Tryz.prog 146 = true := by kernel_rfl
@[simp] theorem call147 : callable Tryz.prog 147 = true := by kernel_rfl
@[simp] theorem call148 : callable Tryz.prog 148 = true := by kernel_rfl
@[simp] theorem call149 : callable Tryz.prog 149 = true := by kernel_rfl
@[simp] theorem call150 : callable Tryz.prog 150 = true := by kernel_rfl
@[simp] theorem call151 : callable Tryz.prog 151 = true := by kernel_rfl
@[simp] theorem call152 : callable Tryz.prog 152 = true := by kernel_rfl
@[simp] theorem call153 : callable Tryz.prog 153 = true := by kernel_rfl
@[simp] theorem call154 : callable Tryz.prog 154 = true := by kernel_rfl
@[simp] theorem call155 : callable Tryz.prog 155 = true := by kernel_rfl
@[simp] theorem call156 : callable Tryz.prog 156 = true := by kernel_rfl
@[simp] theorem call157 : callable Tryz.prog 157 = true := by kernel_rfl
@[simp] theorem call166 : callable Tryz.prog 166 = true := by kernel_rfl
@[simp] theorem mixed : (Tryz.prog).follows .mixedOrders = true := by kernel_rfl
end Go.Proofs.YtkbpnnbdfikjhaaGreat.Tab
