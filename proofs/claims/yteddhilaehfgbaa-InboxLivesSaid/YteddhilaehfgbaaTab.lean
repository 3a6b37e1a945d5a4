/- Facts of the type table of this program, each decided by the kernel. -/
import Derived.Test.YteddhilaehfgbaaCodeD
import Derived.Test.YteddhilaehfgbaaProg
import Derived.KernelRfl
namespace Go.Proofs.Yteddhilaehfgbaa.Tab
open Go Go.Aw
@[simp] theorem agg1 : tyAgg Try.prog 1 = some false := by kernel_rfl
@[simp] theorem size1 : tySize Try.prog 1 = some 1 := by kernel_rfl
@[simp] theorem kd1 : tyKd Try.prog 1 = some (Kd.func) := by kernel_rfl
@[simp] theorem zero1 : tyZero Try.prog 1 = some [.sc .nilFunc] := by kernel_rfl
@[simp] theorem agg2 : tyAgg Try.prog 2 = some false := by kernel_rfl
@[simp] theorem size2 : tySize Try.prog 2 = some 1 := by kernel_rfl
@[simp] theorem kd2 : tyKd Try.prog 2 = some (Kd.int .i64) := by kernel_rfl
@[simp] theorem zero2 : tyZero Try.prog 2 = some [.sc (.int .i64 0)] := by kernel_rfl
@[simp] theorem agg3 : tyAgg Try.prog 3 = some false := by kernel_rfl
@[simp] theorem size3 : tySize Try.prog 3 = some 1 := by kernel_rfl
@[simp] theorem kd3 : tyKd Try.prog 3 = some (Kd.int .i64) := by kernel_rfl
@[simp] theorem zero3 : tyZero Try.prog 3 = some [.sc (.int .i64 0)] := by kernel_rfl
@[simp] theorem agg4 : tyAgg Try.prog 4 = some false := by kernel_rfl
@[simp] theorem size4 : tySize Try.prog 4 = some 1 := by kernel_rfl
@[simp] theorem kd4 : tyKd Try.prog 4 = some (Kd.bool) := by kernel_rfl
@[simp] theorem zero4 : tyZero Try.prog 4 = some [.sc (.bool false)] := by kernel_rfl
@[simp] theorem agg5 : tyAgg Try.prog 5 = some false := by kernel_rfl
@[simp] theorem size5 : tySize Try.prog 5 = some 1 := by kernel_rfl
@[simp] theorem kd5 : tyKd Try.prog 5 = some (Kd.int .u8) := by kernel_rfl
@[simp] theorem zero5 : tyZero Try.prog 5 = some [.sc (.int .u8 0)] := by kernel_rfl
@[simp] theorem agg6 : tyAgg Try.prog 6 = some false := by kernel_rfl
@[simp] theorem size6 : tySize Try.prog 6 = some 1 := by kernel_rfl
@[simp] theorem kd6 : tyKd Try.prog 6 = some (Kd.int .u8) := by kernel_rfl
@[simp] theorem zero6 : tyZero Try.prog 6 = some [.sc (.int .u8 0)] := by kernel_rfl
@[simp] theorem agg7 : tyAgg Try.prog 7 = some true := by kernel_rfl
@[simp] theorem size7 : tySize Try.prog 7 = some 4 := by kernel_rfl
@[simp] theorem kd7 : tyKd Try.prog 7 = some (Kd.other) := by kernel_rfl
@[simp] theorem zero7 : tyZero Try.prog 7 = some [.sc (.int .i64 0), .sc (.int .i64 0), .sc (.bool false), .sc (.int .u8 0)] := by kernel_rfl
@[simp] theorem field7_0 : tyField Try.prog 7 0 = some (2, 0, 1) := by kernel_rfl
@[simp] theorem field7_1 : tyField Try.prog 7 1 = some (3, 1, 1) := by kernel_rfl
@[simp] theorem field7_2 : tyField Try.prog 7 2 = some (4, 2, 1) := by kernel_rfl
@[simp] theorem field7_3 : tyField Try.prog 7 3 = some (6, 3, 1) := by kernel_rfl
@[simp] theorem places7 : tyPlaces Try.prog 7 = some [(0, 1), (1, 1), (2, 1), (3, 1)] := by kernel_rfl
@[simp] theorem agg8 : tyAgg Try.prog 8 = some true := by kernel_rfl
@[simp] theorem size8 : tySize Try.prog 8 = some 4 := by kernel_rfl
@[simp] theorem kd8 : tyKd Try.prog 8 = some (Kd.other) := by kernel_rfl
@[simp] theorem zero8 : tyZero Try.prog 8 = some [.sc (.int .i64 0), .sc (.int .i64 0), .sc (.bool false), .sc (.int .u8 0)] := by kernel_rfl
@[simp] theorem field8_0 : tyField Try.prog 8 0 = some (2, 0, 1) := by kernel_rfl
@[simp] theorem field8_1 : tyField Try.prog 8 1 = some (3, 1, 1) := by kernel_rfl
@[simp] theorem field8_2 : tyField Try.prog 8 2 = some (4, 2, 1) := by kernel_rfl
@[simp] theorem field8_3 : tyField Try.prog 8 3 = some (6, 3, 1) := by kernel_rfl
@[simp] theorem places8 : tyPlaces Try.prog 8 = some [(0, 1), (1, 1), (2, 1), (3, 1)] := by kernel_rfl
@[simp] theorem agg9 : tyAgg Try.prog 9 = some false := by kernel_rfl
@[simp] theorem size9 : tySize Try.prog 9 = some 1 := by kernel_rfl
@[simp] theorem kd9 : tyKd Try.prog 9 = some (Kd.str) := by kernel_rfl
@[simp] theorem zero9 : tyZero Try.prog 9 = some [.sc (.string ⟨#[]⟩)] := by kernel_rfl
@[simp] theorem agg10 : tyAgg Try.prog 10 = some false := by kernel_rfl
@[simp] theorem size10 : tySize Try.prog 10 = some 1 := by kernel_rfl
@[simp] theorem kd10 : tyKd Try.prog 10 = some (Kd.str) := by kernel_rfl
@[simp] theorem zero10 : tyZero Try.prog 10 = some [.sc (.string ⟨#[]⟩)] := by kernel_rfl
@[simp] theorem agg11 : tyAgg Try.prog 11 = some false := by kernel_rfl
@[simp] theorem size11 : tySize Try.prog 11 = some 1 := by kernel_rfl
@[simp] theorem kd11 : tyKd Try.prog 11 = some (Kd.str) := by kernel_rfl
@[simp] theorem zero11 : tyZero Try.prog 11 = some [.sc (.string ⟨#[]⟩)] := by kernel_rfl
@[simp] theorem agg12 : tyAgg Try.prog 12 = some false := by kernel_rfl
@[simp] theorem size12 : tySize Try.prog 12 = some 1 := by kernel_rfl
@[simp] theorem kd12 : tyKd Try.prog 12 = some (Kd.int .u64) := by kernel_rfl
@[simp] theorem zero12 : tyZero Try.prog 12 = some [.sc (.int .u64 0)] := by kernel_rfl
@[simp] theorem agg13 : tyAgg Try.prog 13 = some true := by kernel_rfl
@[simp] theorem size13 : tySize Try.prog 13 = some 2 := by kernel_rfl
@[simp] theorem kd13 : tyKd Try.prog 13 = some (Kd.other) := by kernel_rfl
@[simp] theorem zero13 : tyZero Try.prog 13 = some [.sc (.string ⟨#[]⟩), .sc (.int .u64 0)] := by kernel_rfl
@[simp] theorem field13_0 : tyField Try.prog 13 0 = some (9, 0, 1) := by kernel_rfl
@[simp] theorem field13_1 : tyField Try.prog 13 1 = some (12, 1, 1) := by kernel_rfl
@[simp] theorem places13 : tyPlaces Try.prog 13 = some [(0, 1), (1, 1)] := by kernel_rfl
@[simp] theorem agg14 : tyAgg Try.prog 14 = some true := by kernel_rfl
@[simp] theorem size14 : tySize Try.prog 14 = some 2 := by kernel_rfl
@[simp] theorem kd14 : tyKd Try.prog 14 = some (Kd.other) := by kernel_rfl
@[simp] theorem zero14 : tyZero Try.prog 14 = some [.sc (.string ⟨#[]⟩), .sc (.int .u64 0)] := by kernel_rfl
@[simp] theorem field14_0 : tyField Try.prog 14 0 = some (9, 0, 1) := by kernel_rfl
@[simp] theorem field14_1 : tyField Try.prog 14 1 = some (12, 1, 1) := by kernel_rfl
@[simp] theorem places14 : tyPlaces Try.prog 14 = some [(0, 1), (1, 1)] := by kernel_rfl
@[simp] theorem agg15 : tyAgg Try.prog 15 = some false := by kernel_rfl
@[simp] theorem size15 : tySize Try.prog 15 = some 1 := by kernel_rfl
@[simp] theorem kd15 : tyKd Try.prog 15 = some (Kd.ptr) := by kernel_rfl
@[simp] theorem zero15 : tyZero Try.prog 15 = some [.sc (.pointer none)] := by kernel_rfl
@[simp] theorem agg16 : tyAgg Try.prog 16 = some false := by kernel_rfl
@[simp] theorem size16 : tySize Try.prog 16 = some 1 := by kernel_rfl
@[simp] theorem kd16 : tyKd Try.prog 16 = some (Kd.ptr) := by kernel_rfl
@[simp] theorem zero16 : tyZero Try.prog 16 = some [.sc (.pointer none)] := by kernel_rfl
@[simp] theorem agg17 : tyAgg Try.prog 17 = some false := by kernel_rfl
@[simp] theorem size17 : tySize Try.prog 17 = some 1 := by kernel_rfl
@[simp] theorem kd17 : tyKd Try.prog 17 = some (Kd.ptr) := by kernel_rfl
@[simp] theorem zero17 : tyZero Try.prog 17 = some [.sc (.pointer none)] := by kernel_rfl
@[simp] theorem agg18 : tyAgg Try.prog 18 = some true := by kernel_rfl
@[simp] theorem size18 : tySize Try.prog 18 = some 1 := by kernel_rfl
@[simp] theorem kd18 : tyKd Try.prog 18 = some (Kd.other) := by kernel_rfl
@[simp] theorem zero18 : tyZero Try.prog 18 = some [.sc (.pointer none)] := by kernel_rfl
@[simp] theorem field18_0 : tyField Try.prog 18 0 = some (17, 0, 1) := by kernel_rfl
@[simp] theorem places18 : tyPlaces Try.prog 18 = some [(0, 1)] := by kernel_rfl
@[simp] theorem agg19 : tyAgg Try.prog 19 = some true := by kernel_rfl
@[simp] theorem size19 : tySize Try.prog 19 = some 1 := by kernel_rfl
@[simp] theorem kd19 : tyKd Try.prog 19 = some (Kd.other) := by kernel_rfl
@[simp] theorem zero19 : tyZero Try.prog 19 = some [.sc (.pointer none)] := by kernel_rfl
@[simp] theorem field19_0 : tyField Try.prog 19 0 = some (17, 0, 1) := by kernel_rfl
@[simp] theorem places19 : tyPlaces Try.prog 19 = some [(0, 1)] := by kernel_rfl
@[simp] theorem agg20 : tyAgg Try.prog 20 = some false := by kernel_rfl
@[simp] theorem size20 : tySize Try.prog 20 = some 1 := by kernel_rfl
@[simp] theorem kd20 : tyKd Try.prog 20 = some (Kd.iface) := by kernel_rfl
@[simp] theorem zero20 : tyZero Try.prog 20 = some [.sc .nilIface] := by kernel_rfl
@[simp] theorem agg21 : tyAgg Try.prog 21 = some false := by kernel_rfl
@[simp] theorem size21 : tySize Try.prog 21 = some 1 := by kernel_rfl
@[simp] theorem kd21 : tyKd Try.prog 21 = some (Kd.int .i32) := by kernel_rfl
@[simp] theorem zero21 : tyZero Try.prog 21 = some [.sc (.int .i32 0)] := by kernel_rfl
@[simp] theorem agg22 : tyAgg Try.prog 22 = some false := by kernel_rfl
@[simp] theorem size22 : tySize Try.prog 22 = some 1 := by kernel_rfl
@[simp] theorem kd22 : tyKd Try.prog 22 = some (Kd.other) := by kernel_rfl
@[simp] theorem elem22 : tyElem Try.prog 22 = some (30, 5, 56) := by kernel_rfl
@[simp] theorem zero22 : tyZero Try.prog 22 = some [.slice .clip []] := by kernel_rfl
@[simp] theorem agg23 : tyAgg Try.prog 23 = some false := by kernel_rfl
@[simp] theorem size23 : tySize Try.prog 23 = some 1 := by kernel_rfl
@[simp] theorem kd23 : tyKd Try.prog 23 = some (Kd.func) := by kernel_rfl
@[simp] theorem zero23 : tyZero Try.prog 23 = some [.sc .nilFunc] := by kernel_rfl
@[simp] theorem agg24 : tyAgg Try.prog 24 = some false := by kernel_rfl
@[simp] theorem size24 : tySize Try.prog 24 = some 1 := by kernel_rfl
@[simp] theorem kd24 : tyKd Try.prog 24 = some (Kd.ptr) := by kernel_rfl
@[simp] theorem zero24 : tyZero Try.prog 24 = some [.sc (.pointer none)] := by kernel_rfl
@[simp] theorem agg25 : tyAgg Try.prog 25 = some false := by kernel_rfl
@[simp] theorem size25 : tySize Try.prog 25 = some 1 := by kernel_rfl
@[simp] theorem kd25 : tyKd Try.prog 25 = some (Kd.func) := by kernel_rfl
@[simp] theorem zero25 : tyZero Try.prog 25 = some [.sc .nilFunc] := by kernel_rfl
@[simp] theorem agg26 : tyAgg Try.prog 26 = some false := by kernel_rfl
@[simp] theorem size26 : tySize Try.prog 26 = some 1 := by kernel_rfl
@[simp] theorem kd26 : tyKd Try.prog 26 = some (Kd.other) := by kernel_rfl
@[simp] theorem elem26 : tyElem Try.prog 26 = some (28, 3, 40) := by kernel_rfl
@[simp] theorem zero26 : tyZero Try.prog 26 = some [.slice .clip []] := by kernel_rfl
@[simp] theorem agg27 : tyAgg Try.prog 27 = some true := by kernel_rfl
@[simp] theorem size27 : tySize Try.prog 27 = some 3 := by kernel_rfl
@[simp] theorem kd27 : tyKd Try.prog 27 = some (Kd.other) := by kernel_rfl
@[simp] theorem zero27 : tyZero Try.prog 27 = some [.sc (.string ⟨#[]⟩), .sc (.bool false), .sc (.string ⟨#[]⟩)] := by kernel_rfl
@[simp] theorem field27_0 : tyField Try.prog 27 0 = some (9, 0, 1) := by kernel_rfl
@[simp] theorem field27_1 : tyField Try.prog 27 1 = some (4, 1, 1) := by kernel_rfl
@[simp] theorem field27_2 : tyField Try.prog 27 2 = some (9, 2, 1) := by kernel_rfl
@[simp] theorem places27 : tyPlaces Try.prog 27 = some [(0, 1), (1, 1), (2, 1)] := by kernel_rfl
@[simp] theorem agg28 : tyAgg Try.prog 28 = some true := by kernel_rfl
@[simp] theorem size28 : tySize Try.prog 28 = some 3 := by kernel_rfl
@[simp] theorem kd28 : tyKd Try.prog 28 = some (Kd.other) := by kernel_rfl
@[simp] theorem zero28 : tyZero Try.prog 28 = some [.sc (.string ⟨#[]⟩), .sc (.bool false), .sc (.string ⟨#[]⟩)] := by kernel_rfl
@[simp] theorem field28_0 : tyField Try.prog 28 0 = some (9, 0, 1) := by kernel_rfl
@[simp] theorem field28_1 : tyField Try.prog 28 1 = some (4, 1, 1) := by kernel_rfl
@[simp] theorem field28_2 : tyField Try.prog 28 2 = some (9, 2, 1) := by kernel_rfl
@[simp] theorem eq28 : tyEq Try.prog 28 = some [(0, Kd.str), (1, Kd.bool), (2, Kd.str)] := by kernel_rfl
@[simp] theorem places28 : tyPlaces Try.prog 28 = some [(0, 1), (1, 1), (2, 1)] := by kernel_rfl
@[simp] theorem agg29 : tyAgg Try.prog 29 = some true := by kernel_rfl
@[simp] theorem size29 : tySize Try.prog 29 = some 5 := by kernel_rfl
@[simp] theorem kd29 : tyKd Try.prog 29 = some (Kd.other) := by kernel_rfl
@[simp] theorem zero29 : tyZero Try.prog 29 = some [.sc (.int .i64 0), .sc (.int .i64 0), .sc (.string ⟨#[]⟩), .sc (.bool false), .sc (.string ⟨#[]⟩)] := by kernel_rfl
@[simp] theorem field29_0 : tyField Try.prog 29 0 = some (3, 0, 1) := by kernel_rfl
@[simp] theorem field29_1 : tyField Try.prog 29 1 = some (3, 1, 1) := by kernel_rfl
@[simp] theorem field29_2 : tyField Try.prog 29 2 = some (28, 2, 3) := by kernel_rfl
@[simp] theorem places29 : tyPlaces Try.prog 29 = some [(0, 1), (1, 1), (2, 3)] := by kernel_rfl
@[simp] theorem agg30 : tyAgg Try.prog 30 = some true := by kernel_rfl
@[simp] theorem size30 : tySize Try.prog 30 = some 5 := by kernel_rfl
@[simp] theorem kd30 : tyKd Try.prog 30 = some (Kd.other) := by kernel_rfl
@[simp] theorem zero30 : tyZero Try.prog 30 = some [.sc (.int .i64 0), .sc (.int .i64 0), .sc (.string ⟨#[]⟩), .sc (.bool false), .sc (.string ⟨#[]⟩)] := by kernel_rfl
@[simp] theorem field30_0 : tyField Try.prog 30 0 = some (3, 0, 1) := by kernel_rfl
@[simp] theorem field30_1 : tyField Try.prog 30 1 = some (3, 1, 1) := by kernel_rfl
@[simp] theorem field30_2 : tyField Try.prog 30 2 = some (28, 2, 3) := by kernel_rfl
@[simp] theorem places30 : tyPlaces Try.prog 30 = some [(0, 1), (1, 1), (2, 3)] := by kernel_rfl
@[simp] theorem agg32 : tyAgg Try.prog 32 = some false := by kernel_rfl
@[simp] theorem size32 : tySize Try.prog 32 = some 1 := by kernel_rfl
@[simp] theorem kd32 : tyKd Try.prog 32 = some (Kd.func) := by kernel_rfl
@[simp] theorem zero32 : tyZero Try.prog 32 = some [.sc .nilFunc] := by kernel_rfl
@[simp] theorem agg33 : tyAgg Try.prog 33 = some false := by kernel_rfl
@[simp] theorem size33 : tySize Try.prog 33 = some 1 := by kernel_rfl
@[simp] theorem kd33 : tyKd Try.prog 33 = some (Kd.func) := by kernel_rfl
@[simp] theorem zero33 : tyZero Try.prog 33 = some [.sc .nilFunc] := by kernel_rfl
@[simp] theorem agg34 : tyAgg Try.prog 34 = some false := by kernel_rfl
@[simp] theorem size34 : tySize Try.prog 34 = some 1 := by kernel_rfl
@[simp] theorem kd34 : tyKd Try.prog 34 = some (Kd.func) := by kernel_rfl
@[simp] theorem zero34 : tyZero Try.prog 34 = some [.sc .nilFunc] := by kernel_rfl
@[simp] theorem agg35 : tyAgg Try.prog 35 = some false := by kernel_rfl
@[simp] theorem size35 : tySize Try.prog 35 = some 1 := by kernel_rfl
@[simp] theorem kd35 : tyKd Try.prog 35 = some (Kd.func) := by kernel_rfl
@[simp] theorem zero35 : tyZero Try.prog 35 = some [.sc .nilFunc] := by kernel_rfl
@[simp] theorem agg36 : tyAgg Try.prog 36 = some true := by kernel_rfl
@[simp] theorem size36 : tySize Try.prog 36 = some 3 := by kernel_rfl
@[simp] theorem kd36 : tyKd Try.prog 36 = some (Kd.other) := by kernel_rfl
@[simp] theorem zero36 : tyZero Try.prog 36 = some [.sc (.int .i64 0), .slice .clip [], .sc (.bool false)] := by kernel_rfl
@[simp] theorem field36_0 : tyField Try.prog 36 0 = some (3, 0, 1) := by kernel_rfl
@[simp] theorem field36_1 : tyField Try.prog 36 1 = some (26, 1, 1) := by kernel_rfl
@[simp] theorem field36_2 : tyField Try.prog 36 2 = some (4, 2, 1) := by kernel_rfl
@[simp] theorem places36 : tyPlaces Try.prog 36 = some [(0, 1), (1, 1), (2, 1)] := by kernel_rfl
@[simp] theorem agg37 : tyAgg Try.prog 37 = some true := by kernel_rfl
@[simp] theorem size37 : tySize Try.prog 37 = some 3 := by kernel_rfl
@[simp] theorem kd37 : tyKd Try.prog 37 = some (Kd.other) := by kernel_rfl
@[simp] theorem zero37 : tyZero Try.prog 37 = some [.sc (.int .i64 0), .slice .clip [], .sc (.bool false)] := by kernel_rfl
@[simp] theorem field37_0 : tyField Try.prog 37 0 = some (3, 0, 1) := by kernel_rfl
@[simp] theorem field37_1 : tyField Try.prog 37 1 = some (26, 1, 1) := by kernel_rfl
@[simp] theorem field37_2 : tyField Try.prog 37 2 = some (4, 2, 1) := by kernel_rfl
@[simp] theorem places37 : tyPlaces Try.prog 37 = some [(0, 1), (1, 1), (2, 1)] := by kernel_rfl
@[simp] theorem agg38 : tyAgg Try.prog 38 = some false := by kernel_rfl
@[simp] theorem size38 : tySize Try.prog 38 = some 1 := by kernel_rfl
@[simp] theorem kd38 : tyKd Try.prog 38 = some (Kd.func) := by kernel_rfl
@[simp] theorem zero38 : tyZero Try.prog 38 = some [.sc .nilFunc] := by kernel_rfl
@[simp] theorem agg40 : tyAgg Try.prog 40 = some false := by kernel_rfl
@[simp] theorem size40 : tySize Try.prog 40 = some 1 := by kernel_rfl
@[simp] theorem kd40 : tyKd Try.prog 40 = some (Kd.func) := by kernel_rfl
@[simp] theorem zero40 : tyZero Try.prog 40 = some [.sc .nilFunc] := by kernel_rfl
@[simp] theorem agg42 : tyAgg Try.prog 42 = some false := by kernel_rfl
@[simp] theorem size42 : tySize Try.prog 42 = some 1 := by kernel_rfl
@[simp] theorem kd42 : tyKd Try.prog 42 = some (Kd.func) := by kernel_rfl
@[simp] theorem zero42 : tyZero Try.prog 42 = some [.sc .nilFunc] := by kernel_rfl
@[simp] theorem agg43 : tyAgg Try.prog 43 = some false := by kernel_rfl
@[simp] theorem size43 : tySize Try.prog 43 = some 1 := by kernel_rfl
@[simp] theorem kd43 : tyKd Try.prog 43 = some (Kd.func) := by kernel_rfl
@[simp] theorem zero43 : tyZero Try.prog 43 = some [.sc .nilFunc] := by kernel_rfl
@[simp] theorem agg44 : tyAgg Try.prog 44 = some true := by kernel_rfl
@[simp] theorem size44 : tySize Try.prog 44 = some 3 := by kernel_rfl
@[simp] theorem kd44 : tyKd Try.prog 44 = some (Kd.other) := by kernel_rfl
@[simp] theorem zero44 : tyZero Try.prog 44 = some [.sc (.int .i64 0), .slice .clip [], .sc (.bool false)] := by kernel_rfl
@[simp] theorem field44_0 : tyField Try.prog 44 0 = some (3, 0, 1) := by kernel_rfl
@[simp] theorem field44_1 : tyField Try.prog 44 1 = some (26, 1, 1) := by kernel_rfl
@[simp] theorem field44_2 : tyField Try.prog 44 2 = some (4, 2, 1) := by kernel_rfl
@[simp] theorem places44 : tyPlaces Try.prog 44 = some [(0, 1), (1, 1), (2, 1)] := by kernel_rfl
@[simp] theorem agg45 : tyAgg Try.prog 45 = some true := by kernel_rfl
@[simp] theorem size45 : tySize Try.prog 45 = some 3 := by kernel_rfl
@[simp] theorem kd45 : tyKd Try.prog 45 = some (Kd.other) := by kernel_rfl
@[simp] theorem zero45 : tyZero Try.prog 45 = some [.sc (.int .i64 0), .slice .clip [], .sc (.bool false)] := by kernel_rfl
@[simp] theorem field45_0 : tyField Try.prog 45 0 = some (3, 0, 1) := by kernel_rfl
@[simp] theorem field45_1 : tyField Try.prog 45 1 = some (26, 1, 1) := by kernel_rfl
@[simp] theorem field45_2 : tyField Try.prog 45 2 = some (4, 2, 1) := by kernel_rfl
@[simp] theorem places45 : tyPlaces Try.prog 45 = some [(0, 1), (1, 1), (2, 1)] := by kernel_rfl
@[simp] theorem agg46 : tyAgg Try.prog 46 = some false := by kernel_rfl
@[simp] theorem size46 : tySize Try.prog 46 = some 1 := by kernel_rfl
@[simp] theorem kd46 : tyKd Try.prog 46 = some (Kd.func) := by kernel_rfl
@[simp] theorem zero46 : tyZero Try.prog 46 = some [.sc .nilFunc] := by kernel_rfl
@[simp] theorem agg47 : tyAgg Try.prog 47 = some false := by kernel_rfl
@[simp] theorem size47 : tySize Try.prog 47 = some 1 := by kernel_rfl
@[simp] theorem kd47 : tyKd Try.prog 47 = some (Kd.func) := by kernel_rfl
@[simp] theorem zero47 : tyZero Try.prog 47 = some [.sc .nilFunc] := by kernel_rfl
@[simp] theorem agg48 : tyAgg Try.prog 48 = some false := by kernel_rfl
@[simp] theorem size48 : tySize Try.prog 48 = some 1 := by kernel_rfl
@[simp] theorem kd48 : tyKd Try.prog 48 = some (Kd.func) := by kernel_rfl
@[simp] theorem zero48 : tyZero Try.prog 48 = some [.sc .nilFunc] := by kernel_rfl
@[simp] theorem agg49 : tyAgg Try.prog 49 = some false := by kernel_rfl
@[simp] theorem size49 : tySize Try.prog 49 = some 1 := by kernel_rfl
@[simp] theorem kd49 : tyKd Try.prog 49 = some (Kd.func) := by kernel_rfl
@[simp] theorem zero49 : tyZero Try.prog 49 = some [.sc .nilFunc] := by kernel_rfl
@[simp] theorem agg50 : tyAgg Try.prog 50 = some true := by kernel_rfl
@[simp] theorem size50 : tySize Try.prog 50 = some 4 := by kernel_rfl
@[simp] theorem kd50 : tyKd Try.prog 50 = some (Kd.other) := by kernel_rfl
@[simp] theorem zero50 : tyZero Try.prog 50 = some [.sc (.pointer none), .sc (.pointer none), .sc (.pointer none), .sc (.string ⟨#[]⟩)] := by kernel_rfl
@[simp] theorem field50_0 : tyField Try.prog 50 0 = some (17, 0, 1) := by kernel_rfl
@[simp] theorem field50_1 : tyField Try.prog 50 1 = some (17, 1, 1) := by kernel_rfl
@[simp] theorem field50_2 : tyField Try.prog 50 2 = some (17, 2, 1) := by kernel_rfl
@[simp] theorem field50_3 : tyField Try.prog 50 3 = some (9, 3, 1) := by kernel_rfl
@[simp] theorem places50 : tyPlaces Try.prog 50 = some [(0, 1), (1, 1), (2, 1), (3, 1)] := by kernel_rfl
@[simp] theorem agg51 : tyAgg Try.prog 51 = some true := by kernel_rfl
@[simp] theorem size51 : tySize Try.prog 51 = some 4 := by kernel_rfl
@[simp] theorem kd51 : tyKd Try.prog 51 = some (Kd.other) := by kernel_rfl
@[simp] theorem zero51 : tyZero Try.prog 51 = some [.sc (.pointer none), .sc (.pointer none), .sc (.pointer none), .sc (.string ⟨#[]⟩)] := by kernel_rfl
@[simp] theorem field51_0 : tyField Try.prog 51 0 = some (17, 0, 1) := by kernel_rfl
@[simp] theorem field51_1 : tyField Try.prog 51 1 = some (17, 1, 1) := by kernel_rfl
@[simp] theorem field51_2 : tyField Try.prog 51 2 = some (17, 2, 1) := by kernel_rfl
@[simp] theorem field51_3 : tyField Try.prog 51 3 = some (9, 3, 1) := by kernel_rfl
@[simp] theorem places51 : tyPlaces Try.prog 51 = some [(0, 1), (1, 1), (2, 1), (3, 1)] := by kernel_rfl
@[simp] theorem agg52 : tyAgg Try.prog 52 = some true := by kernel_rfl
@[simp] theorem size52 : tySize Try.prog 52 = some 0 := by kernel_rfl
@[simp] theorem kd52 : tyKd Try.prog 52 = some (Kd.other) := by kernel_rfl
@[simp] theorem zero52 : tyZero Try.prog 52 = some [] := by kernel_rfl
@[simp] theorem agg53 : tyAgg Try.prog 53 = some true := by kernel_rfl
@[simp] theorem size53 : tySize Try.prog 53 = some 0 := by kernel_rfl
@[simp] theorem kd53 : tyKd Try.prog 53 = some (Kd.other) := by kernel_rfl
@[simp] theorem zero53 : tyZero Try.prog 53 = some [] := by kernel_rfl
@[simp] theorem places53 : tyPlaces Try.prog 53 = some [(0, 0)] := by kernel_rfl
@[simp] theorem agg54 : tyAgg Try.prog 54 = some true := by kernel_rfl
@[simp] theorem size54 : tySize Try.prog 54 = some 0 := by kernel_rfl
@[simp] theorem kd54 : tyKd Try.prog 54 = some (Kd.other) := by kernel_rfl
@[simp] theorem zero54 : tyZero Try.prog 54 = some [] := by kernel_rfl
@[simp] theorem places54 : tyPlaces Try.prog 54 = some [(0, 0)] := by kernel_rfl
@[simp] theorem agg55 : tyAgg Try.prog 55 = some false := by kernel_rfl
@[simp] theorem size55 : tySize Try.prog 55 = some 1 := by kernel_rfl
@[simp] theorem kd55 : tyKd Try.prog 55 = some (Kd.int .u32) := by kernel_rfl
@[simp] theorem zero55 : tyZero Try.prog 55 = some [.sc (.int .u32 0)] := by kernel_rfl
@[simp] theorem agg56 : tyAgg Try.prog 56 = some false := by kernel_rfl
@[simp] theorem size56 : tySize Try.prog 56 = some 1 := by kernel_rfl
@[simp] theorem kd56 : tyKd Try.prog 56 = some (Kd.int .u8) := by kernel_rfl
@[simp] theorem zero56 : tyZero Try.prog 56 = some [.sc (.int .u8 0)] := by kernel_rfl
@[simp] theorem agg57 : tyAgg Try.prog 57 = some false := by kernel_rfl
@[simp] theorem size57 : tySize Try.prog 57 = some 1 := by kernel_rfl
@[simp] theorem kd57 : tyKd Try.prog 57 = some (Kd.int .u8) := by kernel_rfl
@[simp] theorem zero57 : tyZero Try.prog 57 = some [.sc (.int .u8 0)] := by kernel_rfl
@[simp] theorem agg58 : tyAgg Try.prog 58 = some false := by kernel_rfl
@[simp] theorem size58 : tySize Try.prog 58 = some 1 := by kernel_rfl
@[simp] theorem kd58 : tyKd Try.prog 58 = some (Kd.func) := by kernel_rfl
@[simp] theorem zero58 : tyZero Try.prog 58 = some [.sc .nilFunc] := by kernel_rfl
@[simp] theorem agg59 : tyAgg Try.prog 59 = some false := by kernel_rfl
@[simp] theorem size59 : tySize Try.prog 59 = some 1 := by kernel_rfl
@[simp] theorem kd59 : tyKd Try.prog 59 = some (Kd.ptr) := by kernel_rfl
@[simp] theorem zero59 : tyZero Try.prog 59 = some [.sc (.pointer none)] := by kernel_rfl
@[simp] theorem agg60 : tyAgg Try.prog 60 = some false := by kernel_rfl
@[simp] theorem size60 : tySize Try.prog 60 = some 1 := by kernel_rfl
@[simp] theorem kd60 : tyKd Try.prog 60 = some (Kd.int .i32) := by kernel_rfl
@[simp] theorem zero60 : tyZero Try.prog 60 = some [.sc (.int .i32 0)] := by kernel_rfl
@[simp] theorem agg61 : tyAgg Try.prog 61 = some false := by kernel_rfl
@[simp] theorem size61 : tySize Try.prog 61 = some 1 := by kernel_rfl
@[simp] theorem kd61 : tyKd Try.prog 61 = some (Kd.int .i32) := by kernel_rfl
@[simp] theorem zero61 : tyZero Try.prog 61 = some [.sc (.int .i32 0)] := by kernel_rfl
@[simp] theorem agg62 : tyAgg Try.prog 62 = some true := by kernel_rfl
@[simp] theorem size62 : tySize Try.prog 62 = some 11 := by kernel_rfl
@[simp] theorem kd62 : tyKd Try.prog 62 = some (Kd.other) := by kernel_rfl
@[simp] theorem zero62 : tyZero Try.prog 62 = some [.sc (.int .u64 0), .sc (.int .u64 0), .sc (.int .u32 0), .sc (.int .u8 0), .sc (.int .u8 0), .sc (.int .u8 0), .sc (.int .u8 0), .sc .nilFunc, .sc (.pointer none), .sc (.int .i32 0), .sc (.int .i32 0)] := by kernel_rfl
@[simp] theorem field62_0 : tyField Try.prog 62 0 = some (12, 0, 1) := by kernel_rfl
@[simp] theorem field62_1 : tyField Try.prog 62 1 = some (12, 1, 1) := by kernel_rfl
@[simp] theorem field62_2 : tyField Try.prog 62 2 = some (55, 2, 1) := by kernel_rfl
@[simp] theorem field62_3 : tyField Try.prog 62 3 = some (56, 3, 1) := by kernel_rfl
@[simp] theorem field62_4 : tyField Try.prog 62 4 = some (5, 4, 1) := by kernel_rfl
@[simp] theorem field62_5 : tyField Try.prog 62 5 = some (5, 5, 1) := by kernel_rfl
@[simp] theorem field62_6 : tyField Try.prog 62 6 = some (57, 6, 1) := by kernel_rfl
@[simp] theorem field62_7 : tyField Try.prog 62 7 = some (58, 7, 1) := by kernel_rfl
@[simp] theorem field62_8 : tyField Try.prog 62 8 = some (59, 8, 1) := by kernel_rfl
@[simp] theorem field62_9 : tyField Try.prog 62 9 = some (60, 9, 1) := by kernel_rfl
@[simp] theorem field62_10 : tyField Try.prog 62 10 = some (61, 10, 1) := by kernel_rfl
@[simp] theorem places62 : tyPlaces Try.prog 62 = some [(0, 1), (1, 1), (2, 1), (3, 1), (4, 1), (5, 1), (6, 1), (7, 1), (8, 1), (9, 1), (10, 1)] := by kernel_rfl
@[simp] theorem agg63 : tyAgg Try.prog 63 = some true := by kernel_rfl
@[simp] theorem size63 : tySize Try.prog 63 = some 11 := by kernel_rfl
@[simp] theorem kd63 : tyKd Try.prog 63 = some (Kd.other) := by kernel_rfl
@[simp] theorem zero63 : tyZero Try.prog 63 = some [.sc (.int .u64 0), .sc (.int .u64 0), .sc (.int .u32 0), .sc (.int .u8 0), .sc (.int .u8 0), .sc (.int .u8 0), .sc (.int .u8 0), .sc .nilFunc, .sc (.pointer none), .sc (.int .i32 0), .sc (.int .i32 0)] := by kernel_rfl
@[simp] theorem field63_0 : tyField Try.prog 63 0 = some (12, 0, 1) := by kernel_rfl
@[simp] theorem field63_1 : tyField Try.prog 63 1 = some (12, 1, 1) := by kernel_rfl
@[simp] theorem field63_2 : tyField Try.prog 63 2 = some (55, 2, 1) := by kernel_rfl
@[simp] theorem field63_3 : tyField Try.prog 63 3 = some (56, 3, 1) := by kernel_rfl
@[simp] theorem field63_4 : tyField Try.prog 63 4 = some (5, 4, 1) := by kernel_rfl
@[simp] theorem field63_5 : tyField Try.prog 63 5 = some (5, 5, 1) := by kernel_rfl
@[simp] theorem field63_6 : tyField Try.prog 63 6 = some (57, 6, 1) := by kernel_rfl
@[simp] theorem field63_7 : tyField Try.prog 63 7 = some (58, 7, 1) := by kernel_rfl
@[simp] theorem field63_8 : tyField Try.prog 63 8 = some (59, 8, 1) := by kernel_rfl
@[simp] theorem field63_9 : tyField Try.prog 63 9 = some (60, 9, 1) := by kernel_rfl
@[simp] theorem field63_10 : tyField Try.prog 63 10 = some (61, 10, 1) := by kernel_rfl
@[simp] theorem places63 : tyPlaces Try.prog 63 = some [(0, 1), (1, 1), (2, 1), (3, 1), (4, 1), (5, 1), (6, 1), (7, 1), (8, 1), (9, 1), (10, 1)] := by kernel_rfl
@[simp] theorem agg64 : tyAgg Try.prog 64 = some false := by kernel_rfl
@[simp] theorem size64 : tySize Try.prog 64 = some 1 := by kernel_rfl
@[simp] theorem kd64 : tyKd Try.prog 64 = some (Kd.other) := by kernel_rfl
@[simp] theorem zero64 : tyZero Try.prog 64 = some [.sc (.pointer none)] := by kernel_rfl
@[simp] theorem call2 : callable Try.prog 2 = true := by kernel_rfl
@[simp] theorem call3 : callable Try.prog 3 = true := by kernel_rfl
@[simp] theorem call4 : callable Try.prog 4 = true := by kernel_rfl
@[simp] theorem call5 : callable Try.prog 5 = true := by kernel_rfl
@[simp] theorem call6 : callable Try.prog 6 = true := by kernel_rfl
@[simp] theorem call7 : callable Try.prog 7 = true := by kernel_rfl
@[simp] theorem call8 : callable Try.prog 8 = true := by kernel_rfl
@[simp] theorem call9 : callable Try.prog 9 = true := by kernel_rfl
@[simp] theorem call10 : callable Try.prog 10 = true := by kernel_rfl
@[simp] theorem call11 : callable Try.prog 11 = true := by kernel_rfl
@[simp] theorem call12 : callable Try.prog 12 = true := by kernel_rfl
@[simp] theorem call13 : callable Try.prog 13 = true := by kernel_rfl
@[simp] theorem call14 : callable Try.prog 14 = true := by kernel_rfl
@[simp] theorem call15 : callable Try.prog 15 = true := by kernel_rfl
@[simp] theorem call16 : callable Try.prog 16 = true := by kernel_rfl
@[simp] theorem call17 : callable Try.prog 17 = true := by kernel_rfl
@[simp] theorem call18 : callable Try.prog 18 = true := by kernel_rfl
@[simp] theorem mixed : (Try.prog).follows .mixedOrders = true := by kernel_rfl
end Go.Proofs.Yteddhilaehfgbaa.Tab
