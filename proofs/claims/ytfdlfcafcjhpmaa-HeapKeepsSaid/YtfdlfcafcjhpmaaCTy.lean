/- Closed facts on the types of this translation. Written by a program of mine (alty.py). -/
import Derived.Test.YtfdlfcafcjhpmaaProg
import Derived.Test.YtfdlfcafcjhpmaaCAL16
import Derived.KernelRfl
namespace Go.Proofs.Ytfdlfcafcjhpmaa
open Go.AL
@[go_sem] theorem Try.k1 : kindT Try.prog 1 = .fnc := by kernel_rfl
@[go_sem] theorem Try.s1 : szT Try.prog 1 = some 1 := by kernel_rfl
@[go_sem] theorem Try.y1 : bytesT Try.prog 1 = some 8 := by kernel_rfl
@[go_sem] theorem Try.z1 : zeroT Try.prog 1 = some (.nilFunc) := by kernel_rfl
@[go_sem] theorem Try.k2 : kindT Try.prog 2 = .i .i64 := by kernel_rfl
@[go_sem] theorem Try.s2 : szT Try.prog 2 = some 1 := by kernel_rfl
@[go_sem] theorem Try.y2 : bytesT Try.prog 2 = some 8 := by kernel_rfl
@[go_sem] theorem Try.z2 : zeroT Try.prog 2 = some (.int .i64 0) := by kernel_rfl
@[go_sem] theorem Try.k3 : kindT Try.prog 3 = .i .i64 := by kernel_rfl
@[go_sem] theorem Try.s3 : szT Try.prog 3 = some 1 := by kernel_rfl
@[go_sem] theorem Try.y3 : bytesT Try.prog 3 = some 8 := by kernel_rfl
@[go_sem] theorem Try.z3 : zeroT Try.prog 3 = some (.int .i64 0) := by kernel_rfl
@[go_sem] theorem Try.k4 : kindT Try.prog 4 = .b := by kernel_rfl
@[go_sem] theorem Try.s4 : szT Try.prog 4 = some 1 := by kernel_rfl
@[go_sem] theorem Try.y4 : bytesT Try.prog 4 = some 1 := by kernel_rfl
@[go_sem] theorem Try.z4 : zeroT Try.prog 4 = some (.bool false) := by kernel_rfl
@[go_sem] theorem Try.k5 : kindT Try.prog 5 = .i .u8 := by kernel_rfl
@[go_sem] theorem Try.s5 : szT Try.prog 5 = some 1 := by kernel_rfl
@[go_sem] theorem Try.y5 : bytesT Try.prog 5 = some 1 := by kernel_rfl
@[go_sem] theorem Try.z5 : zeroT Try.prog 5 = some (.int .u8 0) := by kernel_rfl
@[go_sem] theorem Try.k6 : kindT Try.prog 6 = .i .u8 := by kernel_rfl
@[go_sem] theorem Try.s6 : szT Try.prog 6 = some 1 := by kernel_rfl
@[go_sem] theorem Try.y6 : bytesT Try.prog 6 = some 1 := by kernel_rfl
@[go_sem] theorem Try.z6 : zeroT Try.prog 6 = some (.int .u8 0) := by kernel_rfl
@[go_sem] theorem Try.k7 : kindT Try.prog 7 = .st [(0, 2, 1), (1, 3, 1), (2, 4, 1), (3, 6, 1)] := by kernel_rfl
@[go_sem] theorem Try.s7 : szT Try.prog 7 = some 4 := by kernel_rfl
@[go_sem] theorem Try.y7 : bytesT Try.prog 7 = some 24 := by kernel_rfl
@[go_sem] theorem Try.z7 : zeroT Try.prog 7 = some (.agg #[.int .i64 0, .int .i64 0, .bool false, .int .u8 0]) := by kernel_rfl
@[go_sem] theorem Try.k8 : kindT Try.prog 8 = .st [(0, 2, 1), (1, 3, 1), (2, 4, 1), (3, 6, 1)] := by kernel_rfl
@[go_sem] theorem Try.s8 : szT Try.prog 8 = some 4 := by kernel_rfl
@[go_sem] theorem Try.y8 : bytesT Try.prog 8 = some 24 := by kernel_rfl
@[go_sem] theorem Try.z8 : zeroT Try.prog 8 = some (.agg #[.int .i64 0, .int .i64 0, .bool false, .int .u8 0]) := by kernel_rfl
@[go_sem] theorem Try.k9 : kindT Try.prog 9 = .s := by kernel_rfl
@[go_sem] theorem Try.s9 : szT Try.prog 9 = some 1 := by kernel_rfl
@[go_sem] theorem Try.y9 : bytesT Try.prog 9 = some 16 := by kernel_rfl
@[go_sem] theorem Try.z9 : zeroT Try.prog 9 = some (.string ByteArray.empty) := by kernel_rfl
@[go_sem] theorem Try.k10 : kindT Try.prog 10 = .s := by kernel_rfl
@[go_sem] theorem Try.s10 : szT Try.prog 10 = some 1 := by kernel_rfl
@[go_sem] theorem Try.y10 : bytesT Try.prog 10 = some 16 := by kernel_rfl
@[go_sem] theorem Try.z10 : zeroT Try.prog 10 = some (.string ByteArray.empty) := by kernel_rfl
@[go_sem] theorem Try.k11 : kindT Try.prog 11 = .s := by kernel_rfl
@[go_sem] theorem Try.s11 : szT Try.prog 11 = some 1 := by kernel_rfl
@[go_sem] theorem Try.y11 : bytesT Try.prog 11 = some 16 := by kernel_rfl
@[go_sem] theorem Try.z11 : zeroT Try.prog 11 = some (.string ByteArray.empty) := by kernel_rfl
@[go_sem] theorem Try.k12 : kindT Try.prog 12 = .i .u64 := by kernel_rfl
@[go_sem] theorem Try.s12 : szT Try.prog 12 = some 1 := by kernel_rfl
@[go_sem] theorem Try.y12 : bytesT Try.prog 12 = some 8 := by kernel_rfl
@[go_sem] theorem Try.z12 : zeroT Try.prog 12 = some (.int .u64 0) := by kernel_rfl
@[go_sem] theorem Try.k13 : kindT Try.prog 13 = .st [(0, 9, 1), (1, 12, 1)] := by kernel_rfl
@[go_sem] theorem Try.s13 : szT Try.prog 13 = some 2 := by kernel_rfl
@[go_sem] theorem Try.y13 : bytesT Try.prog 13 = some 24 := by kernel_rfl
@[go_sem] theorem Try.z13 : zeroT Try.prog 13 = some (.agg #[.string ByteArray.empty, .int .u64 0]) := by kernel_rfl
@[go_sem] theorem Try.k14 : kindT Try.prog 14 = .st [(0, 9, 1), (1, 12, 1)] := by kernel_rfl
@[go_sem] theorem Try.s14 : szT Try.prog 14 = some 2 := by kernel_rfl
@[go_sem] theorem Try.y14 : bytesT Try.prog 14 = some 24 := by kernel_rfl
@[go_sem] theorem Try.z14 : zeroT Try.prog 14 = some (.agg #[.string ByteArray.empty, .int .u64 0]) := by kernel_rfl
@[go_sem] theorem Try.k15 : kindT Try.prog 15 = .p 171 := by kernel_rfl
@[go_sem] theorem Try.s15 : szT Try.prog 15 = some 1 := by kernel_rfl
@[go_sem] theorem Try.y15 : bytesT Try.prog 15 = some 8 := by kernel_rfl
@[go_sem] theorem Try.z15 : zeroT Try.prog 15 = some (.pointer none) := by kernel_rfl
@[go_sem] theorem Try.k16 : kindT Try.prog 16 = .p 174 := by kernel_rfl
@[go_sem] theorem Try.s16 : szT Try.prog 16 = some 1 := by kernel_rfl
@[go_sem] theorem Try.y16 : bytesT Try.prog 16 = some 8 := by kernel_rfl
@[go_sem] theorem Try.z16 : zeroT Try.prog 16 = some (.pointer none) := by kernel_rfl
@[go_sem] theorem Try.k17 : kindT Try.prog 17 = .p 181 := by kernel_rfl
@[go_sem] theorem Try.s17 : szT Try.prog 17 = some 1 := by kernel_rfl
@[go_sem] theorem Try.y17 : bytesT Try.prog 17 = some 8 := by kernel_rfl
@[go_sem] theorem Try.z17 : zeroT Try.prog 17 = some (.pointer none) := by kernel_rfl
@[go_sem] theorem Try.k18 : kindT Try.prog 18 = .st [(0, 17, 1)] := by kernel_rfl
@[go_sem] theorem Try.s18 : szT Try.prog 18 = some 1 := by kernel_rfl
@[go_sem] theorem Try.y18 : bytesT Try.prog 18 = some 8 := by kernel_rfl
@[go_sem] theorem Try.z18 : zeroT Try.prog 18 = some (.agg #[.pointer none]) := by kernel_rfl
@[go_sem] theorem Try.k19 : kindT Try.prog 19 = .st [(0, 17, 1)] := by kernel_rfl
@[go_sem] theorem Try.s19 : szT Try.prog 19 = some 1 := by kernel_rfl
@[go_sem] theorem Try.y19 : bytesT Try.prog 19 = some 8 := by kernel_rfl
@[go_sem] theorem Try.z19 : zeroT Try.prog 19 = some (.agg #[.pointer none]) := by kernel_rfl
@[go_sem] theorem Try.k20 : kindT Try.prog 20 = .ifc := by kernel_rfl
@[go_sem] theorem Try.s20 : szT Try.prog 20 = some 1 := by kernel_rfl
@[go_sem] theorem Try.y20 : bytesT Try.prog 20 = some 16 := by kernel_rfl
@[go_sem] theorem Try.z20 : zeroT Try.prog 20 = some (.nilIface) := by kernel_rfl
@[go_sem] theorem Try.k21 : kindT Try.prog 21 = .i .i32 := by kernel_rfl
@[go_sem] theorem Try.s21 : szT Try.prog 21 = some 1 := by kernel_rfl
@[go_sem] theorem Try.y21 : bytesT Try.prog 21 = some 4 := by kernel_rfl
@[go_sem] theorem Try.z21 : zeroT Try.prog 21 = some (.int .i32 0) := by kernel_rfl
@[go_sem] theorem Try.k22 : kindT Try.prog 22 = .sl 34 := by kernel_rfl
@[go_sem] theorem Try.s22 : szT Try.prog 22 = some 1 := by kernel_rfl
@[go_sem] theorem Try.y22 : bytesT Try.prog 22 = some 24 := by kernel_rfl
@[go_sem] theorem Try.z22 : zeroT Try.prog 22 = some (.slice none 0 0) := by kernel_rfl
@[go_sem] theorem Try.k23 : kindT Try.prog 23 = .p 105 := by kernel_rfl
@[go_sem] theorem Try.s23 : szT Try.prog 23 = some 1 := by kernel_rfl
@[go_sem] theorem Try.y23 : bytesT Try.prog 23 = some 8 := by kernel_rfl
@[go_sem] theorem Try.z23 : zeroT Try.prog 23 = some (.pointer none) := by kernel_rfl
@[go_sem] theorem Try.k24 : kindT Try.prog 24 = .i .i64 := by kernel_rfl
@[go_sem] theorem Try.s24 : szT Try.prog 24 = some 1 := by kernel_rfl
@[go_sem] theorem Try.y24 : bytesT Try.prog 24 = some 8 := by kernel_rfl
@[go_sem] theorem Try.z24 : zeroT Try.prog 24 = some (.int .i64 0) := by kernel_rfl
@[go_sem] theorem Try.k26 : kindT Try.prog 26 = .fnc := by kernel_rfl
@[go_sem] theorem Try.s26 : szT Try.prog 26 = some 1 := by kernel_rfl
@[go_sem] theorem Try.y26 : bytesT Try.prog 26 = some 8 := by kernel_rfl
@[go_sem] theorem Try.z26 : zeroT Try.prog 26 = some (.nilFunc) := by kernel_rfl
@[go_sem] theorem Try.k27 : kindT Try.prog 27 = .fnc := by kernel_rfl
@[go_sem] theorem Try.s27 : szT Try.prog 27 = some 1 := by kernel_rfl
@[go_sem] theorem Try.y27 : bytesT Try.prog 27 = some 8 := by kernel_rfl
@[go_sem] theorem Try.z27 : zeroT Try.prog 27 = some (.nilFunc) := by kernel_rfl
@[go_sem] theorem Try.k28 : kindT Try.prog 28 = .fnc := by kernel_rfl
@[go_sem] theorem Try.s28 : szT Try.prog 28 = some 1 := by kernel_rfl
@[go_sem] theorem Try.y28 : bytesT Try.prog 28 = some 8 := by kernel_rfl
@[go_sem] theorem Try.z28 : zeroT Try.prog 28 = some (.nilFunc) := by kernel_rfl
@[go_sem] theorem Try.k29 : kindT Try.prog 29 = .sl 111 := by kernel_rfl
@[go_sem] theorem Try.s29 : szT Try.prog 29 = some 1 := by kernel_rfl
@[go_sem] theorem Try.y29 : bytesT Try.prog 29 = some 24 := by kernel_rfl
@[go_sem] theorem Try.z29 : zeroT Try.prog 29 = some (.slice none 0 0) := by kernel_rfl
@[go_sem] theorem Try.k30 : kindT Try.prog 30 = .st [(0, 3, 1), (1, 29, 1)] := by kernel_rfl
@[go_sem] theorem Try.s30 : szT Try.prog 30 = some 2 := by kernel_rfl
@[go_sem] theorem Try.y30 : bytesT Try.prog 30 = some 32 := by kernel_rfl
@[go_sem] theorem Try.z30 : zeroT Try.prog 30 = some (.agg #[.int .i64 0, .slice none 0 0]) := by kernel_rfl
@[go_sem] theorem Try.k31 : kindT Try.prog 31 = .st [(0, 3, 1), (1, 29, 1)] := by kernel_rfl
@[go_sem] theorem Try.s31 : szT Try.prog 31 = some 2 := by kernel_rfl
@[go_sem] theorem Try.y31 : bytesT Try.prog 31 = some 32 := by kernel_rfl
@[go_sem] theorem Try.z31 : zeroT Try.prog 31 = some (.agg #[.int .i64 0, .slice none 0 0]) := by kernel_rfl
@[go_sem] theorem Try.k32 : kindT Try.prog 32 = .sl 65 := by kernel_rfl
@[go_sem] theorem Try.s32 : szT Try.prog 32 = some 1 := by kernel_rfl
@[go_sem] theorem Try.y32 : bytesT Try.prog 32 = some 24 := by kernel_rfl
@[go_sem] theorem Try.z32 : zeroT Try.prog 32 = some (.slice none 0 0) := by kernel_rfl
@[go_sem] theorem Try.k33 : kindT Try.prog 33 = .st [(0, 3, 1), (1, 3, 1), (2, 3, 1), (3, 32, 1)] := by kernel_rfl
@[go_sem] theorem Try.s33 : szT Try.prog 33 = some 4 := by kernel_rfl
@[go_sem] theorem Try.y33 : bytesT Try.prog 33 = some 48 := by kernel_rfl
@[go_sem] theorem Try.z33 : zeroT Try.prog 33 = some (.agg #[.int .i64 0, .int .i64 0, .int .i64 0, .slice none 0 0]) := by kernel_rfl
@[go_sem] theorem Try.k34 : kindT Try.prog 34 = .st [(0, 3, 1), (1, 3, 1), (2, 3, 1), (3, 32, 1)] := by kernel_rfl
@[go_sem] theorem Try.s34 : szT Try.prog 34 = some 4 := by kernel_rfl
@[go_sem] theorem Try.y34 : bytesT Try.prog 34 = some 48 := by kernel_rfl
@[go_sem] theorem Try.z34 : zeroT Try.prog 34 = some (.agg #[.int .i64 0, .int .i64 0, .int .i64 0, .slice none 0 0]) := by kernel_rfl
@[go_sem] theorem Try.k35 : kindT Try.prog 35 = .fnc := by kernel_rfl
@[go_sem] theorem Try.s35 : szT Try.prog 35 = some 1 := by kernel_rfl
@[go_sem] theorem Try.y35 : bytesT Try.prog 35 = some 8 := by kernel_rfl
@[go_sem] theorem Try.z35 : zeroT Try.prog 35 = some (.nilFunc) := by kernel_rfl
@[go_sem] theorem Try.k37 : kindT Try.prog 37 = .fnc := by kernel_rfl
@[go_sem] theorem Try.s37 : szT Try.prog 37 = some 1 := by kernel_rfl
@[go_sem] theorem Try.y37 : bytesT Try.prog 37 = some 8 := by kernel_rfl
@[go_sem] theorem Try.z37 : zeroT Try.prog 37 = some (.nilFunc) := by kernel_rfl
@[go_sem] theorem Try.k38 : kindT Try.prog 38 = .fnc := by kernel_rfl
@[go_sem] theorem Try.s38 : szT Try.prog 38 = some 1 := by kernel_rfl
@[go_sem] theorem Try.y38 : bytesT Try.prog 38 = some 8 := by kernel_rfl
@[go_sem] theorem Try.z38 : zeroT Try.prog 38 = some (.nilFunc) := by kernel_rfl
@[go_sem] theorem Try.k39 : kindT Try.prog 39 = .fnc := by kernel_rfl
@[go_sem] theorem Try.s39 : szT Try.prog 39 = some 1 := by kernel_rfl
@[go_sem] theorem Try.y39 : bytesT Try.prog 39 = some 8 := by kernel_rfl
@[go_sem] theorem Try.z39 : zeroT Try.prog 39 = some (.nilFunc) := by kernel_rfl
@[go_sem] theorem Try.k40 : kindT Try.prog 40 = .fnc := by kernel_rfl
@[go_sem] theorem Try.s40 : szT Try.prog 40 = some 1 := by kernel_rfl
@[go_sem] theorem Try.y40 : bytesT Try.prog 40 = some 8 := by kernel_rfl
@[go_sem] theorem Try.z40 : zeroT Try.prog 40 = some (.nilFunc) := by kernel_rfl
@[go_sem] theorem Try.k41 : kindT Try.prog 41 = .sl 3 := by kernel_rfl
@[go_sem] theorem Try.s41 : szT Try.prog 41 = some 1 := by kernel_rfl
@[go_sem] theorem Try.y41 : bytesT Try.prog 41 = some 24 := by kernel_rfl
@[go_sem] theorem Try.z41 : zeroT Try.prog 41 = some (.slice none 0 0) := by kernel_rfl
@[go_sem] theorem Try.k42 : kindT Try.prog 42 = .fnc := by kernel_rfl
@[go_sem] theorem Try.s42 : szT Try.prog 42 = some 1 := by kernel_rfl
@[go_sem] theorem Try.y42 : bytesT Try.prog 42 = some 8 := by kernel_rfl
@[go_sem] theorem Try.z42 : zeroT Try.prog 42 = some (.nilFunc) := by kernel_rfl
@[go_sem] theorem Try.k43 : kindT Try.prog 43 = .fnc := by kernel_rfl
@[go_sem] theorem Try.s43 : szT Try.prog 43 = some 1 := by kernel_rfl
@[go_sem] theorem Try.y43 : bytesT Try.prog 43 = some 8 := by kernel_rfl
@[go_sem] theorem Try.z43 : zeroT Try.prog 43 = some (.nilFunc) := by kernel_rfl
@[go_sem] theorem Try.k44 : kindT Try.prog 44 = .fnc := by kernel_rfl
@[go_sem] theorem Try.s44 : szT Try.prog 44 = some 1 := by kernel_rfl
@[go_sem] theorem Try.y44 : bytesT Try.prog 44 = some 8 := by kernel_rfl
@[go_sem] theorem Try.z44 : zeroT Try.prog 44 = some (.nilFunc) := by kernel_rfl
@[go_sem] theorem Try.k45 : kindT Try.prog 45 = .fnc := by kernel_rfl
@[go_sem] theorem Try.s45 : szT Try.prog 45 = some 1 := by kernel_rfl
@[go_sem] theorem Try.y45 : bytesT Try.prog 45 = some 8 := by kernel_rfl
@[go_sem] theorem Try.z45 : zeroT Try.prog 45 = some (.nilFunc) := by kernel_rfl
@[go_sem] theorem Try.k46 : kindT Try.prog 46 = .fnc := by kernel_rfl
@[go_sem] theorem Try.s46 : szT Try.prog 46 = some 1 := by kernel_rfl
@[go_sem] theorem Try.y46 : bytesT Try.prog 46 = some 8 := by kernel_rfl
@[go_sem] theorem Try.z46 : zeroT Try.prog 46 = some (.nilFunc) := by kernel_rfl
@[go_sem] theorem Try.k48 : kindT Try.prog 48 = .fnc := by kernel_rfl
@[go_sem] theorem Try.s48 : szT Try.prog 48 = some 1 := by kernel_rfl
@[go_sem] theorem Try.y48 : bytesT Try.prog 48 = some 8 := by kernel_rfl
@[go_sem] theorem Try.z48 : zeroT Try.prog 48 = some (.nilFunc) := by kernel_rfl
@[go_sem] theorem Try.k49 : kindT Try.prog 49 = .fnc := by kernel_rfl
@[go_sem] theorem Try.s49 : szT Try.prog 49 = some 1 := by kernel_rfl
@[go_sem] theorem Try.y49 : bytesT Try.prog 49 = some 8 := by kernel_rfl
@[go_sem] theorem Try.z49 : zeroT Try.prog 49 = some (.nilFunc) := by kernel_rfl
@[go_sem] theorem Try.k51 : kindT Try.prog 51 = .fnc := by kernel_rfl
@[go_sem] theorem Try.s51 : szT Try.prog 51 = some 1 := by kernel_rfl
@[go_sem] theorem Try.y51 : bytesT Try.prog 51 = some 8 := by kernel_rfl
@[go_sem] theorem Try.z51 : zeroT Try.prog 51 = some (.nilFunc) := by kernel_rfl
@[go_sem] theorem Try.k52 : kindT Try.prog 52 = .fnc := by kernel_rfl
@[go_sem] theorem Try.s52 : szT Try.prog 52 = some 1 := by kernel_rfl
@[go_sem] theorem Try.y52 : bytesT Try.prog 52 = some 8 := by kernel_rfl
@[go_sem] theorem Try.z52 : zeroT Try.prog 52 = some (.nilFunc) := by kernel_rfl
@[go_sem] theorem Try.k53 : kindT Try.prog 53 = .fnc := by kernel_rfl
@[go_sem] theorem Try.s53 : szT Try.prog 53 = some 1 := by kernel_rfl
@[go_sem] theorem Try.y53 : bytesT Try.prog 53 = some 8 := by kernel_rfl
@[go_sem] theorem Try.z53 : zeroT Try.prog 53 = some (.nilFunc) := by kernel_rfl
@[go_sem] theorem Try.k55 : kindT Try.prog 55 = .fnc := by kernel_rfl
@[go_sem] theorem Try.s55 : szT Try.prog 55 = some 1 := by kernel_rfl
@[go_sem] theorem Try.y55 : bytesT Try.prog 55 = some 8 := by kernel_rfl
@[go_sem] theorem Try.z55 : zeroT Try.prog 55 = some (.nilFunc) := by kernel_rfl
@[go_sem] theorem Try.k56 : kindT Try.prog 56 = .fnc := by kernel_rfl
@[go_sem] theorem Try.s56 : szT Try.prog 56 = some 1 := by kernel_rfl
@[go_sem] theorem Try.y56 : bytesT Try.prog 56 = some 8 := by kernel_rfl
@[go_sem] theorem Try.z56 : zeroT Try.prog 56 = some (.nilFunc) := by kernel_rfl
@[go_sem] theorem Try.k57 : kindT Try.prog 57 = .fnc := by kernel_rfl
@[go_sem] theorem Try.s57 : szT Try.prog 57 = some 1 := by kernel_rfl
@[go_sem] theorem Try.y57 : bytesT Try.prog 57 = some 8 := by kernel_rfl
@[go_sem] theorem Try.z57 : zeroT Try.prog 57 = some (.nilFunc) := by kernel_rfl
@[go_sem] theorem Try.k58 : kindT Try.prog 58 = .fnc := by kernel_rfl
@[go_sem] theorem Try.s58 : szT Try.prog 58 = some 1 := by kernel_rfl
@[go_sem] theorem Try.y58 : bytesT Try.prog 58 = some 8 := by kernel_rfl
@[go_sem] theorem Try.z58 : zeroT Try.prog 58 = some (.nilFunc) := by kernel_rfl
@[go_sem] theorem Try.k59 : kindT Try.prog 59 = .fnc := by kernel_rfl
@[go_sem] theorem Try.s59 : szT Try.prog 59 = some 1 := by kernel_rfl
@[go_sem] theorem Try.y59 : bytesT Try.prog 59 = some 8 := by kernel_rfl
@[go_sem] theorem Try.z59 : zeroT Try.prog 59 = some (.nilFunc) := by kernel_rfl
@[go_sem] theorem Try.k61 : kindT Try.prog 61 = .fnc := by kernel_rfl
@[go_sem] theorem Try.s61 : szT Try.prog 61 = some 1 := by kernel_rfl
@[go_sem] theorem Try.y61 : bytesT Try.prog 61 = some 8 := by kernel_rfl
@[go_sem] theorem Try.z61 : zeroT Try.prog 61 = some (.nilFunc) := by kernel_rfl
@[go_sem] theorem Try.k62 : kindT Try.prog 62 = .fnc := by kernel_rfl
@[go_sem] theorem Try.s62 : szT Try.prog 62 = some 1 := by kernel_rfl
@[go_sem] theorem Try.y62 : bytesT Try.prog 62 = some 8 := by kernel_rfl
@[go_sem] theorem Try.z62 : zeroT Try.prog 62 = some (.nilFunc) := by kernel_rfl
@[go_sem] theorem Try.k63 : kindT Try.prog 63 = .fnc := by kernel_rfl
@[go_sem] theorem Try.s63 : szT Try.prog 63 = some 1 := by kernel_rfl
@[go_sem] theorem Try.y63 : bytesT Try.prog 63 = some 8 := by kernel_rfl
@[go_sem] theorem Try.z63 : zeroT Try.prog 63 = some (.nilFunc) := by kernel_rfl
@[go_sem] theorem Try.k64 : kindT Try.prog 64 = .st [(0, 4, 1), (1, 3, 1)] := by kernel_rfl
@[go_sem] theorem Try.s64 : szT Try.prog 64 = some 2 := by kernel_rfl
@[go_sem] theorem Try.y64 : bytesT Try.prog 64 = some 16 := by kernel_rfl
@[go_sem] theorem Try.z64 : zeroT Try.prog 64 = some (.agg #[.bool false, .int .i64 0]) := by kernel_rfl
@[go_sem] theorem Try.k65 : kindT Try.prog 65 = .st [(0, 4, 1), (1, 3, 1)] := by kernel_rfl
@[go_sem] theorem Try.s65 : szT Try.prog 65 = some 2 := by kernel_rfl
@[go_sem] theorem Try.y65 : bytesT Try.prog 65 = some 16 := by kernel_rfl
@[go_sem] theorem Try.z65 : zeroT Try.prog 65 = some (.agg #[.bool false, .int .i64 0]) := by kernel_rfl
@[go_sem] theorem Try.k67 : kindT Try.prog 67 = .fnc := by kernel_rfl
@[go_sem] theorem Try.s67 : szT Try.prog 67 = some 1 := by kernel_rfl
@[go_sem] theorem Try.y67 : bytesT Try.prog 67 = some 8 := by kernel_rfl
@[go_sem] theorem Try.z67 : zeroT Try.prog 67 = some (.nilFunc) := by kernel_rfl
@[go_sem] theorem Try.k68 : kindT Try.prog 68 = .fnc := by kernel_rfl
@[go_sem] theorem Try.s68 : szT Try.prog 68 = some 1 := by kernel_rfl
@[go_sem] theorem Try.y68 : bytesT Try.prog 68 = some 8 := by kernel_rfl
@[go_sem] theorem Try.z68 : zeroT Try.prog 68 = some (.nilFunc) := by kernel_rfl
@[go_sem] theorem Try.k69 : kindT Try.prog 69 = .sl 91 := by kernel_rfl
@[go_sem] theorem Try.s69 : szT Try.prog 69 = some 1 := by kernel_rfl
@[go_sem] theorem Try.y69 : bytesT Try.prog 69 = some 24 := by kernel_rfl
@[go_sem] theorem Try.z69 : zeroT Try.prog 69 = some (.slice none 0 0) := by kernel_rfl
@[go_sem] theorem Try.k70 : kindT Try.prog 70 = .fnc := by kernel_rfl
@[go_sem] theorem Try.s70 : szT Try.prog 70 = some 1 := by kernel_rfl
@[go_sem] theorem Try.y70 : bytesT Try.prog 70 = some 8 := by kernel_rfl
@[go_sem] theorem Try.z70 : zeroT Try.prog 70 = some (.nilFunc) := by kernel_rfl
@[go_sem] theorem Try.k71 : kindT Try.prog 71 = .fnc := by kernel_rfl
@[go_sem] theorem Try.s71 : szT Try.prog 71 = some 1 := by kernel_rfl
@[go_sem] theorem Try.y71 : bytesT Try.prog 71 = some 8 := by kernel_rfl
@[go_sem] theorem Try.z71 : zeroT Try.prog 71 = some (.nilFunc) := by kernel_rfl
@[go_sem] theorem Try.k73 : kindT Try.prog 73 = .fnc := by kernel_rfl
@[go_sem] theorem Try.s73 : szT Try.prog 73 = some 1 := by kernel_rfl
@[go_sem] theorem Try.y73 : bytesT Try.prog 73 = some 8 := by kernel_rfl
@[go_sem] theorem Try.z73 : zeroT Try.prog 73 = some (.nilFunc) := by kernel_rfl
@[go_sem] theorem Try.k74 : kindT Try.prog 74 = .sl 4 := by kernel_rfl
@[go_sem] theorem Try.s74 : szT Try.prog 74 = some 1 := by kernel_rfl
@[go_sem] theorem Try.y74 : bytesT Try.prog 74 = some 24 := by kernel_rfl
@[go_sem] theorem Try.z74 : zeroT Try.prog 74 = some (.slice none 0 0) := by kernel_rfl
@[go_sem] theorem Try.k76 : kindT Try.prog 76 = .fnc := by kernel_rfl
@[go_sem] theorem Try.s76 : szT Try.prog 76 = some 1 := by kernel_rfl
@[go_sem] theorem Try.y76 : bytesT Try.prog 76 = some 8 := by kernel_rfl
@[go_sem] theorem Try.z76 : zeroT Try.prog 76 = some (.nilFunc) := by kernel_rfl
@[go_sem] theorem Try.k77 : kindT Try.prog 77 = .fnc := by kernel_rfl
@[go_sem] theorem Try.s77 : szT Try.prog 77 = some 1 := by kernel_rfl
@[go_sem] theorem Try.y77 : bytesT Try.prog 77 = some 8 := by kernel_rfl
@[go_sem] theorem Try.z77 : zeroT Try.prog 77 = some (.nilFunc) := by kernel_rfl
@[go_sem] theorem Try.k78 : kindT Try.prog 78 = .fnc := by kernel_rfl
@[go_sem] theorem Try.s78 : szT Try.prog 78 = some 1 := by kernel_rfl
@[go_sem] theorem Try.y78 : bytesT Try.prog 78 = some 8 := by kernel_rfl
@[go_sem] theorem Try.z78 : zeroT Try.prog 78 = some (.nilFunc) := by kernel_rfl
@[go_sem] theorem Try.k79 : kindT Try.prog 79 = .fnc := by kernel_rfl
@[go_sem] theorem Try.s79 : szT Try.prog 79 = some 1 := by kernel_rfl
@[go_sem] theorem Try.y79 : bytesT Try.prog 79 = some 8 := by kernel_rfl
@[go_sem] theorem Try.z79 : zeroT Try.prog 79 = some (.nilFunc) := by kernel_rfl
@[go_sem] theorem Try.k80 : kindT Try.prog 80 = .fnc := by kernel_rfl
@[go_sem] theorem Try.s80 : szT Try.prog 80 = some 1 := by kernel_rfl
@[go_sem] theorem Try.y80 : bytesT Try.prog 80 = some 8 := by kernel_rfl
@[go_sem] theorem Try.z80 : zeroT Try.prog 80 = some (.nilFunc) := by kernel_rfl
@[go_sem] theorem Try.k81 : kindT Try.prog 81 = .fnc := by kernel_rfl
@[go_sem] theorem Try.s81 : szT Try.prog 81 = some 1 := by kernel_rfl
@[go_sem] theorem Try.y81 : bytesT Try.prog 81 = some 8 := by kernel_rfl
@[go_sem] theorem Try.z81 : zeroT Try.prog 81 = some (.nilFunc) := by kernel_rfl
@[go_sem] theorem Try.k82 : kindT Try.prog 82 = .fnc := by kernel_rfl
@[go_sem] theorem Try.s82 : szT Try.prog 82 = some 1 := by kernel_rfl
@[go_sem] theorem Try.y82 : bytesT Try.prog 82 = some 8 := by kernel_rfl
@[go_sem] theorem Try.z82 : zeroT Try.prog 82 = some (.nilFunc) := by kernel_rfl
@[go_sem] theorem Try.k83 : kindT Try.prog 83 = .fnc := by kernel_rfl
@[go_sem] theorem Try.s83 : szT Try.prog 83 = some 1 := by kernel_rfl
@[go_sem] theorem Try.y83 : bytesT Try.prog 83 = some 8 := by kernel_rfl
@[go_sem] theorem Try.z83 : zeroT Try.prog 83 = some (.nilFunc) := by kernel_rfl
@[go_sem] theorem Try.k84 : kindT Try.prog 84 = .fnc := by kernel_rfl
@[go_sem] theorem Try.s84 : szT Try.prog 84 = some 1 := by kernel_rfl
@[go_sem] theorem Try.y84 : bytesT Try.prog 84 = some 8 := by kernel_rfl
@[go_sem] theorem Try.z84 : zeroT Try.prog 84 = some (.nilFunc) := by kernel_rfl
@[go_sem] theorem Try.k85 : kindT Try.prog 85 = .fnc := by kernel_rfl
@[go_sem] theorem Try.s85 : szT Try.prog 85 = some 1 := by kernel_rfl
@[go_sem] theorem Try.y85 : bytesT Try.prog 85 = some 8 := by kernel_rfl
@[go_sem] theorem Try.z85 : zeroT Try.prog 85 = some (.nilFunc) := by kernel_rfl
@[go_sem] theorem Try.k86 : kindT Try.prog 86 = .sl 93 := by kernel_rfl
@[go_sem] theorem Try.s86 : szT Try.prog 86 = some 1 := by kernel_rfl
@[go_sem] theorem Try.y86 : bytesT Try.prog 86 = some 24 := by kernel_rfl
@[go_sem] theorem Try.z86 : zeroT Try.prog 86 = some (.slice none 0 0) := by kernel_rfl
@[go_sem] theorem Try.k87 : kindT Try.prog 87 = .st [(0, 9, 1), (1, 86, 1)] := by kernel_rfl
@[go_sem] theorem Try.s87 : szT Try.prog 87 = some 2 := by kernel_rfl
@[go_sem] theorem Try.y87 : bytesT Try.prog 87 = some 40 := by kernel_rfl
@[go_sem] theorem Try.z87 : zeroT Try.prog 87 = some (.agg #[.string ByteArray.empty, .slice none 0 0]) := by kernel_rfl
@[go_sem] theorem Try.k88 : kindT Try.prog 88 = .st [(0, 9, 1), (1, 86, 1)] := by kernel_rfl
@[go_sem] theorem Try.s88 : szT Try.prog 88 = some 2 := by kernel_rfl
@[go_sem] theorem Try.y88 : bytesT Try.prog 88 = some 40 := by kernel_rfl
@[go_sem] theorem Try.z88 : zeroT Try.prog 88 = some (.agg #[.string ByteArray.empty, .slice none 0 0]) := by kernel_rfl
@[go_sem] theorem Try.k89 : kindT Try.prog 89 = .sl 88 := by kernel_rfl
@[go_sem] theorem Try.s89 : szT Try.prog 89 = some 1 := by kernel_rfl
@[go_sem] theorem Try.y89 : bytesT Try.prog 89 = some 24 := by kernel_rfl
@[go_sem] theorem Try.z89 : zeroT Try.prog 89 = some (.slice none 0 0) := by kernel_rfl
@[go_sem] theorem Try.k90 : kindT Try.prog 90 = .st [(0, 9, 1), (1, 4, 1), (2, 89, 1)] := by kernel_rfl
@[go_sem] theorem Try.s90 : szT Try.prog 90 = some 3 := by kernel_rfl
@[go_sem] theorem Try.y90 : bytesT Try.prog 90 = some 48 := by kernel_rfl
@[go_sem] theorem Try.z90 : zeroT Try.prog 90 = some (.agg #[.string ByteArray.empty, .bool false, .slice none 0 0]) := by kernel_rfl
@[go_sem] theorem Try.k91 : kindT Try.prog 91 = .st [(0, 9, 1), (1, 4, 1), (2, 89, 1)] := by kernel_rfl
@[go_sem] theorem Try.s91 : szT Try.prog 91 = some 3 := by kernel_rfl
@[go_sem] theorem Try.y91 : bytesT Try.prog 91 = some 48 := by kernel_rfl
@[go_sem] theorem Try.z91 : zeroT Try.prog 91 = some (.agg #[.string ByteArray.empty, .bool false, .slice none 0 0]) := by kernel_rfl
@[go_sem] theorem Try.k92 : kindT Try.prog 92 = .st [(0, 3, 1), (1, 4, 1)] := by kernel_rfl
@[go_sem] theorem Try.s92 : szT Try.prog 92 = some 2 := by kernel_rfl
@[go_sem] theorem Try.y92 : bytesT Try.prog 92 = some 16 := by kernel_rfl
@[go_sem] theorem Try.z92 : zeroT Try.prog 92 = some (.agg #[.int .i64 0, .bool false]) := by kernel_rfl
@[go_sem] theorem Try.k93 : kindT Try.prog 93 = .st [(0, 3, 1), (1, 4, 1)] := by kernel_rfl
@[go_sem] theorem Try.s93 : szT Try.prog 93 = some 2 := by kernel_rfl
@[go_sem] theorem Try.y93 : bytesT Try.prog 93 = some 16 := by kernel_rfl
@[go_sem] theorem Try.z93 : zeroT Try.prog 93 = some (.agg #[.int .i64 0, .bool false]) := by kernel_rfl
@[go_sem] theorem Try.k95 : kindT Try.prog 95 = .fnc := by kernel_rfl
@[go_sem] theorem Try.s95 : szT Try.prog 95 = some 1 := by kernel_rfl
@[go_sem] theorem Try.y95 : bytesT Try.prog 95 = some 8 := by kernel_rfl
@[go_sem] theorem Try.z95 : zeroT Try.prog 95 = some (.nilFunc) := by kernel_rfl
@[go_sem] theorem Try.k97 : kindT Try.prog 97 = .fnc := by kernel_rfl
@[go_sem] theorem Try.s97 : szT Try.prog 97 = some 1 := by kernel_rfl
@[go_sem] theorem Try.y97 : bytesT Try.prog 97 = some 8 := by kernel_rfl
@[go_sem] theorem Try.z97 : zeroT Try.prog 97 = some (.nilFunc) := by kernel_rfl
@[go_sem] theorem Try.k98 : kindT Try.prog 98 = .fnc := by kernel_rfl
@[go_sem] theorem Try.s98 : szT Try.prog 98 = some 1 := by kernel_rfl
@[go_sem] theorem Try.y98 : bytesT Try.prog 98 = some 8 := by kernel_rfl
@[go_sem] theorem Try.z98 : zeroT Try.prog 98 = some (.nilFunc) := by kernel_rfl
@[go_sem] theorem Try.k99 : kindT Try.prog 99 = .fnc := by kernel_rfl
@[go_sem] theorem Try.s99 : szT Try.prog 99 = some 1 := by kernel_rfl
@[go_sem] theorem Try.y99 : bytesT Try.prog 99 = some 8 := by kernel_rfl
@[go_sem] theorem Try.z99 : zeroT Try.prog 99 = some (.nilFunc) := by kernel_rfl
@[go_sem] theorem Try.k100 : kindT Try.prog 100 = .fnc := by kernel_rfl
@[go_sem] theorem Try.s100 : szT Try.prog 100 = some 1 := by kernel_rfl
@[go_sem] theorem Try.y100 : bytesT Try.prog 100 = some 8 := by kernel_rfl
@[go_sem] theorem Try.z100 : zeroT Try.prog 100 = some (.nilFunc) := by kernel_rfl
@[go_sem] theorem Try.k101 : kindT Try.prog 101 = .fnc := by kernel_rfl
@[go_sem] theorem Try.s101 : szT Try.prog 101 = some 1 := by kernel_rfl
@[go_sem] theorem Try.y101 : bytesT Try.prog 101 = some 8 := by kernel_rfl
@[go_sem] theorem Try.z101 : zeroT Try.prog 101 = some (.nilFunc) := by kernel_rfl
@[go_sem] theorem Try.k102 : kindT Try.prog 102 = .st [(0, 32, 1), (1, 41, 1), (2, 41, 1)] := by kernel_rfl
@[go_sem] theorem Try.s102 : szT Try.prog 102 = some 3 := by kernel_rfl
@[go_sem] theorem Try.y102 : bytesT Try.prog 102 = some 72 := by kernel_rfl
@[go_sem] theorem Try.z102 : zeroT Try.prog 102 = some (.agg #[.slice none 0 0, .slice none 0 0, .slice none 0 0]) := by kernel_rfl
@[go_sem] theorem Try.k103 : kindT Try.prog 103 = .st [(0, 32, 1), (1, 41, 1), (2, 41, 1)] := by kernel_rfl
@[go_sem] theorem Try.s103 : szT Try.prog 103 = some 3 := by kernel_rfl
@[go_sem] theorem Try.y103 : bytesT Try.prog 103 = some 72 := by kernel_rfl
@[go_sem] theorem Try.z103 : zeroT Try.prog 103 = some (.agg #[.slice none 0 0, .slice none 0 0, .slice none 0 0]) := by kernel_rfl
@[go_sem] theorem Try.k104 : kindT Try.prog 104 = .st [(0, 3, 1), (1, 103, 3)] := by kernel_rfl
@[go_sem] theorem Try.s104 : szT Try.prog 104 = some 4 := by kernel_rfl
@[go_sem] theorem Try.y104 : bytesT Try.prog 104 = some 80 := by kernel_rfl
@[go_sem] theorem Try.z104 : zeroT Try.prog 104 = some (.agg #[.int .i64 0, .slice none 0 0, .slice none 0 0, .slice none 0 0]) := by kernel_rfl
@[go_sem] theorem Try.k105 : kindT Try.prog 105 = .st [(0, 3, 1), (1, 103, 3)] := by kernel_rfl
@[go_sem] theorem Try.s105 : szT Try.prog 105 = some 4 := by kernel_rfl
@[go_sem] theorem Try.y105 : bytesT Try.prog 105 = some 80 := by kernel_rfl
@[go_sem] theorem Try.z105 : zeroT Try.prog 105 = some (.agg #[.int .i64 0, .slice none 0 0, .slice none 0 0, .slice none 0 0]) := by kernel_rfl
@[go_sem] theorem Try.k106 : kindT Try.prog 106 = .fnc := by kernel_rfl
@[go_sem] theorem Try.s106 : szT Try.prog 106 = some 1 := by kernel_rfl
@[go_sem] theorem Try.y106 : bytesT Try.prog 106 = some 8 := by kernel_rfl
@[go_sem] theorem Try.z106 : zeroT Try.prog 106 = some (.nilFunc) := by kernel_rfl
@[go_sem] theorem Try.k107 : kindT Try.prog 107 = .fnc := by kernel_rfl
@[go_sem] theorem Try.s107 : szT Try.prog 107 = some 1 := by kernel_rfl
@[go_sem] theorem Try.y107 : bytesT Try.prog 107 = some 8 := by kernel_rfl
@[go_sem] theorem Try.z107 : zeroT Try.prog 107 = some (.nilFunc) := by kernel_rfl
@[go_sem] theorem Try.k108 : kindT Try.prog 108 = .fnc := by kernel_rfl
@[go_sem] theorem Try.s108 : szT Try.prog 108 = some 1 := by kernel_rfl
@[go_sem] theorem Try.y108 : bytesT Try.prog 108 = some 8 := by kernel_rfl
@[go_sem] theorem Try.z108 : zeroT Try.prog 108 = some (.nilFunc) := by kernel_rfl
@[go_sem] theorem Try.k109 : kindT Try.prog 109 = .fnc := by kernel_rfl
@[go_sem] theorem Try.s109 : szT Try.prog 109 = some 1 := by kernel_rfl
@[go_sem] theorem Try.y109 : bytesT Try.prog 109 = some 8 := by kernel_rfl
@[go_sem] theorem Try.z109 : zeroT Try.prog 109 = some (.nilFunc) := by kernel_rfl
@[go_sem] theorem Try.k110 : kindT Try.prog 110 = .st [(0, 3, 1), (1, 3, 1), (2, 32, 1)] := by kernel_rfl
@[go_sem] theorem Try.s110 : szT Try.prog 110 = some 3 := by kernel_rfl
@[go_sem] theorem Try.y110 : bytesT Try.prog 110 = some 40 := by kernel_rfl
@[go_sem] theorem Try.z110 : zeroT Try.prog 110 = some (.agg #[.int .i64 0, .int .i64 0, .slice none 0 0]) := by kernel_rfl
@[go_sem] theorem Try.k111 : kindT Try.prog 111 = .st [(0, 3, 1), (1, 3, 1), (2, 32, 1)] := by kernel_rfl
@[go_sem] theorem Try.s111 : szT Try.prog 111 = some 3 := by kernel_rfl
@[go_sem] theorem Try.y111 : bytesT Try.prog 111 = some 40 := by kernel_rfl
@[go_sem] theorem Try.z111 : zeroT Try.prog 111 = some (.agg #[.int .i64 0, .int .i64 0, .slice none 0 0]) := by kernel_rfl
@[go_sem] theorem Try.k112 : kindT Try.prog 112 = .fnc := by kernel_rfl
@[go_sem] theorem Try.s112 : szT Try.prog 112 = some 1 := by kernel_rfl
@[go_sem] theorem Try.y112 : bytesT Try.prog 112 = some 8 := by kernel_rfl
@[go_sem] theorem Try.z112 : zeroT Try.prog 112 = some (.nilFunc) := by kernel_rfl
@[go_sem] theorem Try.k113 : kindT Try.prog 113 = .fnc := by kernel_rfl
@[go_sem] theorem Try.s113 : szT Try.prog 113 = some 1 := by kernel_rfl
@[go_sem] theorem Try.y113 : bytesT Try.prog 113 = some 8 := by kernel_rfl
@[go_sem] theorem Try.z113 : zeroT Try.prog 113 = some (.nilFunc) := by kernel_rfl
@[go_sem] theorem Try.k114 : kindT Try.prog 114 = .mp 3 3 := by kernel_rfl
@[go_sem] theorem Try.s114 : szT Try.prog 114 = some 1 := by kernel_rfl
@[go_sem] theorem Try.y114 : bytesT Try.prog 114 = some 8 := by kernel_rfl
@[go_sem] theorem Try.z114 : zeroT Try.prog 114 = some (.map none) := by kernel_rfl
@[go_sem] theorem Try.k115 : kindT Try.prog 115 = .sl 117 := by kernel_rfl
@[go_sem] theorem Try.s115 : szT Try.prog 115 = some 1 := by kernel_rfl
@[go_sem] theorem Try.y115 : bytesT Try.prog 115 = some 24 := by kernel_rfl
@[go_sem] theorem Try.z115 : zeroT Try.prog 115 = some (.slice none 0 0) := by kernel_rfl
@[go_sem] theorem Try.k117 : kindT Try.prog 117 = .ar 2 3 := by kernel_rfl
@[go_sem] theorem Try.s117 : szT Try.prog 117 = some 2 := by kernel_rfl
@[go_sem] theorem Try.y117 : bytesT Try.prog 117 = some 16 := by kernel_rfl
@[go_sem] theorem Try.z117 : zeroT Try.prog 117 = some (.agg #[.int .i64 0, .int .i64 0]) := by kernel_rfl
@[go_sem] theorem Try.k118 : kindT Try.prog 118 = .fnc := by kernel_rfl
@[go_sem] theorem Try.s118 : szT Try.prog 118 = some 1 := by kernel_rfl
@[go_sem] theorem Try.y118 : bytesT Try.prog 118 = some 8 := by kernel_rfl
@[go_sem] theorem Try.z118 : zeroT Try.prog 118 = some (.nilFunc) := by kernel_rfl
@[go_sem] theorem Try.k119 : kindT Try.prog 119 = .fnc := by kernel_rfl
@[go_sem] theorem Try.s119 : szT Try.prog 119 = some 1 := by kernel_rfl
@[go_sem] theorem Try.y119 : bytesT Try.prog 119 = some 8 := by kernel_rfl
@[go_sem] theorem Try.z119 : zeroT Try.prog 119 = some (.nilFunc) := by kernel_rfl
@[go_sem] theorem Try.k120 : kindT Try.prog 120 = .fnc := by kernel_rfl
@[go_sem] theorem Try.s120 : szT Try.prog 120 = some 1 := by kernel_rfl
@[go_sem] theorem Try.y120 : bytesT Try.prog 120 = some 8 := by kernel_rfl
@[go_sem] theorem Try.z120 : zeroT Try.prog 120 = some (.nilFunc) := by kernel_rfl
@[go_sem] theorem Try.k121 : kindT Try.prog 121 = .fnc := by kernel_rfl
@[go_sem] theorem Try.s121 : szT Try.prog 121 = some 1 := by kernel_rfl
@[go_sem] theorem Try.y121 : bytesT Try.prog 121 = some 8 := by kernel_rfl
@[go_sem] theorem Try.z121 : zeroT Try.prog 121 = some (.nilFunc) := by kernel_rfl
@[go_sem] theorem Try.k122 : kindT Try.prog 122 = .fnc := by kernel_rfl
@[go_sem] theorem Try.s122 : szT Try.prog 122 = some 1 := by kernel_rfl
@[go_sem] theorem Try.y122 : bytesT Try.prog 122 = some 8 := by kernel_rfl
@[go_sem] theorem Try.z122 : zeroT Try.prog 122 = some (.nilFunc) := by kernel_rfl
@[go_sem] theorem Try.k123 : kindT Try.prog 123 = .fnc := by kernel_rfl
@[go_sem] theorem Try.s123 : szT Try.prog 123 = some 1 := by kernel_rfl
@[go_sem] theorem Try.y123 : bytesT Try.prog 123 = some 8 := by kernel_rfl
@[go_sem] theorem Try.z123 : zeroT Try.prog 123 = some (.nilFunc) := by kernel_rfl
@[go_sem] theorem Try.k124 : kindT Try.prog 124 = .fnc := by kernel_rfl
@[go_sem] theorem Try.s124 : szT Try.prog 124 = some 1 := by kernel_rfl
@[go_sem] theorem Try.y124 : bytesT Try.prog 124 = some 8 := by kernel_rfl
@[go_sem] theorem Try.z124 : zeroT Try.prog 124 = some (.nilFunc) := by kernel_rfl
@[go_sem] theorem Try.k125 : kindT Try.prog 125 = .fnc := by kernel_rfl
@[go_sem] theorem Try.s125 : szT Try.prog 125 = some 1 := by kernel_rfl
@[go_sem] theorem Try.y125 : bytesT Try.prog 125 = some 8 := by kernel_rfl
@[go_sem] theorem Try.z125 : zeroT Try.prog 125 = some (.nilFunc) := by kernel_rfl
@[go_sem] theorem Try.k126 : kindT Try.prog 126 = .sl 27 := by kernel_rfl
@[go_sem] theorem Try.s126 : szT Try.prog 126 = some 1 := by kernel_rfl
@[go_sem] theorem Try.y126 : bytesT Try.prog 126 = some 24 := by kernel_rfl
@[go_sem] theorem Try.z126 : zeroT Try.prog 126 = some (.slice none 0 0) := by kernel_rfl
@[go_sem] theorem Try.k127 : kindT Try.prog 127 = .sl 9 := by kernel_rfl
@[go_sem] theorem Try.s127 : szT Try.prog 127 = some 1 := by kernel_rfl
@[go_sem] theorem Try.y127 : bytesT Try.prog 127 = some 24 := by kernel_rfl
@[go_sem] theorem Try.z127 : zeroT Try.prog 127 = some (.slice none 0 0) := by kernel_rfl
@[go_sem] theorem Try.k128 : kindT Try.prog 128 = .fnc := by kernel_rfl
@[go_sem] theorem Try.s128 : szT Try.prog 128 = some 1 := by kernel_rfl
@[go_sem] theorem Try.y128 : bytesT Try.prog 128 = some 8 := by kernel_rfl
@[go_sem] theorem Try.z128 : zeroT Try.prog 128 = some (.nilFunc) := by kernel_rfl
@[go_sem] theorem Try.k129 : kindT Try.prog 129 = .fnc := by kernel_rfl
@[go_sem] theorem Try.s129 : szT Try.prog 129 = some 1 := by kernel_rfl
@[go_sem] theorem Try.y129 : bytesT Try.prog 129 = some 8 := by kernel_rfl
@[go_sem] theorem Try.z129 : zeroT Try.prog 129 = some (.nilFunc) := by kernel_rfl
@[go_sem] theorem Try.k130 : kindT Try.prog 130 = .fnc := by kernel_rfl
@[go_sem] theorem Try.s130 : szT Try.prog 130 = some 1 := by kernel_rfl
@[go_sem] theorem Try.y130 : bytesT Try.prog 130 = some 8 := by kernel_rfl
@[go_sem] theorem Try.z130 : zeroT Try.prog 130 = some (.nilFunc) := by kernel_rfl
@[go_sem] theorem Try.k131 : kindT Try.prog 131 = .fnc := by kernel_rfl
@[go_sem] theorem Try.s131 : szT Try.prog 131 = some 1 := by kernel_rfl
@[go_sem] theorem Try.y131 : bytesT Try.prog 131 = some 8 := by kernel_rfl
@[go_sem] theorem Try.z131 : zeroT Try.prog 131 = some (.nilFunc) := by kernel_rfl
@[go_sem] theorem Try.k133 : kindT Try.prog 133 = .fnc := by kernel_rfl
@[go_sem] theorem Try.s133 : szT Try.prog 133 = some 1 := by kernel_rfl
@[go_sem] theorem Try.y133 : bytesT Try.prog 133 = some 8 := by kernel_rfl
@[go_sem] theorem Try.z133 : zeroT Try.prog 133 = some (.nilFunc) := by kernel_rfl
@[go_sem] theorem Try.k134 : kindT Try.prog 134 = .fnc := by kernel_rfl
@[go_sem] theorem Try.s134 : szT Try.prog 134 = some 1 := by kernel_rfl
@[go_sem] theorem Try.y134 : bytesT Try.prog 134 = some 8 := by kernel_rfl
@[go_sem] theorem Try.z134 : zeroT Try.prog 134 = some (.nilFunc) := by kernel_rfl
@[go_sem] theorem Try.k136 : kindT Try.prog 136 = .fnc := by kernel_rfl
@[go_sem] theorem Try.s136 : szT Try.prog 136 = some 1 := by kernel_rfl
@[go_sem] theorem Try.y136 : bytesT Try.prog 136 = some 8 := by kernel_rfl
@[go_sem] theorem Try.z136 : zeroT Try.prog 136 = some (.nilFunc) := by kernel_rfl
@[go_sem] theorem Try.k138 : kindT Try.prog 138 = .fnc := by kernel_rfl
@[go_sem] theorem Try.s138 : szT Try.prog 138 = some 1 := by kernel_rfl
@[go_sem] theorem Try.y138 : bytesT Try.prog 138 = some 8 := by kernel_rfl
@[go_sem] theorem Try.z138 : zeroT Try.prog 138 = some (.nilFunc) := by kernel_rfl
@[go_sem] theorem Try.k139 : kindT Try.prog 139 = .p 103 := by kernel_rfl
@[go_sem] theorem Try.s139 : szT Try.prog 139 = some 1 := by kernel_rfl
@[go_sem] theorem Try.y139 : bytesT Try.prog 139 = some 8 := by kernel_rfl
@[go_sem] theorem Try.z139 : zeroT Try.prog 139 = some (.pointer none) := by kernel_rfl
@[go_sem] theorem Try.k140 : kindT Try.prog 140 = .fnc := by kernel_rfl
@[go_sem] theorem Try.s140 : szT Try.prog 140 = some 1 := by kernel_rfl
@[go_sem] theorem Try.y140 : bytesT Try.prog 140 = some 8 := by kernel_rfl
@[go_sem] theorem Try.z140 : zeroT Try.prog 140 = some (.nilFunc) := by kernel_rfl
@[go_sem] theorem Try.k141 : kindT Try.prog 141 = .fnc := by kernel_rfl
@[go_sem] theorem Try.s141 : szT Try.prog 141 = some 1 := by kernel_rfl
@[go_sem] theorem Try.y141 : bytesT Try.prog 141 = some 8 := by kernel_rfl
@[go_sem] theorem Try.z141 : zeroT Try.prog 141 = some (.nilFunc) := by kernel_rfl
@[go_sem] theorem Try.k142 : kindT Try.prog 142 = .fnc := by kernel_rfl
@[go_sem] theorem Try.s142 : szT Try.prog 142 = some 1 := by kernel_rfl
@[go_sem] theorem Try.y142 : bytesT Try.prog 142 = some 8 := by kernel_rfl
@[go_sem] theorem Try.z142 : zeroT Try.prog 142 = some (.nilFunc) := by kernel_rfl
@[go_sem] theorem Try.k143 : kindT Try.prog 143 = .fnc := by kernel_rfl
@[go_sem] theorem Try.s143 : szT Try.prog 143 = some 1 := by kernel_rfl
@[go_sem] theorem Try.y143 : bytesT Try.prog 143 = some 8 := by kernel_rfl
@[go_sem] theorem Try.z143 : zeroT Try.prog 143 = some (.nilFunc) := by kernel_rfl
@[go_sem] theorem Try.k144 : kindT Try.prog 144 = .mp 9 4 := by kernel_rfl
@[go_sem] theorem Try.s144 : szT Try.prog 144 = some 1 := by kernel_rfl
@[go_sem] theorem Try.y144 : bytesT Try.prog 144 = some 8 := by kernel_rfl
@[go_sem] theorem Try.z144 : zeroT Try.prog 144 = some (.map none) := by kernel_rfl
@[go_sem] theorem Try.k145 : kindT Try.prog 145 = .p 148 := by kernel_rfl
@[go_sem] theorem Try.s145 : szT Try.prog 145 = some 1 := by kernel_rfl
@[go_sem] theorem Try.y145 : bytesT Try.prog 145 = some 8 := by kernel_rfl
@[go_sem] theorem Try.z145 : zeroT Try.prog 145 = some (.pointer none) := by kernel_rfl
@[go_sem] theorem Try.k146 : kindT Try.prog 146 = .sl 5 := by kernel_rfl
@[go_sem] theorem Try.s146 : szT Try.prog 146 = some 1 := by kernel_rfl
@[go_sem] theorem Try.y146 : bytesT Try.prog 146 = some 24 := by kernel_rfl
@[go_sem] theorem Try.z146 : zeroT Try.prog 146 = some (.slice none 0 0) := by kernel_rfl
@[go_sem] theorem Try.k147 : kindT Try.prog 147 = .st [(0, 145, 1), (1, 146, 1)] := by kernel_rfl
@[go_sem] theorem Try.s147 : szT Try.prog 147 = some 2 := by kernel_rfl
@[go_sem] theorem Try.y147 : bytesT Try.prog 147 = some 32 := by kernel_rfl
@[go_sem] theorem Try.z147 : zeroT Try.prog 147 = some (.agg #[.pointer none, .slice none 0 0]) := by kernel_rfl
@[go_sem] theorem Try.k148 : kindT Try.prog 148 = .st [(0, 145, 1), (1, 146, 1)] := by kernel_rfl
@[go_sem] theorem Try.s148 : szT Try.prog 148 = some 2 := by kernel_rfl
@[go_sem] theorem Try.y148 : bytesT Try.prog 148 = some 32 := by kernel_rfl
@[go_sem] theorem Try.z148 : zeroT Try.prog 148 = some (.agg #[.pointer none, .slice none 0 0]) := by kernel_rfl
@[go_sem] theorem Try.k149 : kindT Try.prog 149 = .fnc := by kernel_rfl
@[go_sem] theorem Try.s149 : szT Try.prog 149 = some 1 := by kernel_rfl
@[go_sem] theorem Try.y149 : bytesT Try.prog 149 = some 8 := by kernel_rfl
@[go_sem] theorem Try.z149 : zeroT Try.prog 149 = some (.nilFunc) := by kernel_rfl
@[go_sem] theorem Try.k150 : kindT Try.prog 150 = .ifc := by kernel_rfl
@[go_sem] theorem Try.s150 : szT Try.prog 150 = some 1 := by kernel_rfl
@[go_sem] theorem Try.y150 : bytesT Try.prog 150 = some 16 := by kernel_rfl
@[go_sem] theorem Try.z150 : zeroT Try.prog 150 = some (.nilIface) := by kernel_rfl
@[go_sem] theorem Try.k151 : kindT Try.prog 151 = .ifc := by kernel_rfl
@[go_sem] theorem Try.s151 : szT Try.prog 151 = some 1 := by kernel_rfl
@[go_sem] theorem Try.y151 : bytesT Try.prog 151 = some 16 := by kernel_rfl
@[go_sem] theorem Try.z151 : zeroT Try.prog 151 = some (.nilIface) := by kernel_rfl
@[go_sem] theorem Try.k153 : kindT Try.prog 153 = .fnc := by kernel_rfl
@[go_sem] theorem Try.s153 : szT Try.prog 153 = some 1 := by kernel_rfl
@[go_sem] theorem Try.y153 : bytesT Try.prog 153 = some 8 := by kernel_rfl
@[go_sem] theorem Try.z153 : zeroT Try.prog 153 = some (.nilFunc) := by kernel_rfl
@[go_sem] theorem Try.k154 : kindT Try.prog 154 = .fnc := by kernel_rfl
@[go_sem] theorem Try.s154 : szT Try.prog 154 = some 1 := by kernel_rfl
@[go_sem] theorem Try.y154 : bytesT Try.prog 154 = some 8 := by kernel_rfl
@[go_sem] theorem Try.z154 : zeroT Try.prog 154 = some (.nilFunc) := by kernel_rfl
@[go_sem] theorem Try.k155 : kindT Try.prog 155 = .fnc := by kernel_rfl
@[go_sem] theorem Try.s155 : szT Try.prog 155 = some 1 := by kernel_rfl
@[go_sem] theorem Try.y155 : bytesT Try.prog 155 = some 8 := by kernel_rfl
@[go_sem] theorem Try.z155 : zeroT Try.prog 155 = some (.nilFunc) := by kernel_rfl
@[go_sem] theorem Try.k156 : kindT Try.prog 156 = .fnc := by kernel_rfl
@[go_sem] theorem Try.s156 : szT Try.prog 156 = some 1 := by kernel_rfl
@[go_sem] theorem Try.y156 : bytesT Try.prog 156 = some 8 := by kernel_rfl
@[go_sem] theorem Try.z156 : zeroT Try.prog 156 = some (.nilFunc) := by kernel_rfl
@[go_sem] theorem Try.k157 : kindT Try.prog 157 = .fnc := by kernel_rfl
@[go_sem] theorem Try.s157 : szT Try.prog 157 = some 1 := by kernel_rfl
@[go_sem] theorem Try.y157 : bytesT Try.prog 157 = some 8 := by kernel_rfl
@[go_sem] theorem Try.z157 : zeroT Try.prog 157 = some (.nilFunc) := by kernel_rfl
@[go_sem] theorem Try.k158 : kindT Try.prog 158 = .fnc := by kernel_rfl
@[go_sem] theorem Try.s158 : szT Try.prog 158 = some 1 := by kernel_rfl
@[go_sem] theorem Try.y158 : bytesT Try.prog 158 = some 8 := by kernel_rfl
@[go_sem] theorem Try.z158 : zeroT Try.prog 158 = some (.nilFunc) := by kernel_rfl
@[go_sem] theorem Try.k159 : kindT Try.prog 159 = .fnc := by kernel_rfl
@[go_sem] theorem Try.s159 : szT Try.prog 159 = some 1 := by kernel_rfl
@[go_sem] theorem Try.y159 : bytesT Try.prog 159 = some 8 := by kernel_rfl
@[go_sem] theorem Try.z159 : zeroT Try.prog 159 = some (.nilFunc) := by kernel_rfl
@[go_sem] theorem Try.k160 : kindT Try.prog 160 = .p 5 := by kernel_rfl
@[go_sem] theorem Try.s160 : szT Try.prog 160 = some 1 := by kernel_rfl
@[go_sem] theorem Try.y160 : bytesT Try.prog 160 = some 8 := by kernel_rfl
@[go_sem] theorem Try.z160 : zeroT Try.prog 160 = some (.pointer none) := by kernel_rfl
@[go_sem] theorem Try.k161 : kindT Try.prog 161 = .fnc := by kernel_rfl
@[go_sem] theorem Try.s161 : szT Try.prog 161 = some 1 := by kernel_rfl
@[go_sem] theorem Try.y161 : bytesT Try.prog 161 = some 8 := by kernel_rfl
@[go_sem] theorem Try.z161 : zeroT Try.prog 161 = some (.nilFunc) := by kernel_rfl
@[go_sem] theorem Try.k163 : kindT Try.prog 163 = .fnc := by kernel_rfl
@[go_sem] theorem Try.s163 : szT Try.prog 163 = some 1 := by kernel_rfl
@[go_sem] theorem Try.y163 : bytesT Try.prog 163 = some 8 := by kernel_rfl
@[go_sem] theorem Try.z163 : zeroT Try.prog 163 = some (.nilFunc) := by kernel_rfl
@[go_sem] theorem Try.k164 : kindT Try.prog 164 = .fnc := by kernel_rfl
@[go_sem] theorem Try.s164 : szT Try.prog 164 = some 1 := by kernel_rfl
@[go_sem] theorem Try.y164 : bytesT Try.prog 164 = some 8 := by kernel_rfl
@[go_sem] theorem Try.z164 : zeroT Try.prog 164 = some (.nilFunc) := by kernel_rfl
@[go_sem] theorem Try.k165 : kindT Try.prog 165 = .fnc := by kernel_rfl
@[go_sem] theorem Try.s165 : szT Try.prog 165 = some 1 := by kernel_rfl
@[go_sem] theorem Try.y165 : bytesT Try.prog 165 = some 8 := by kernel_rfl
@[go_sem] theorem Try.z165 : zeroT Try.prog 165 = some (.nilFunc) := by kernel_rfl
@[go_sem] theorem Try.k166 : kindT Try.prog 166 = .i .u64 := by kernel_rfl
@[go_sem] theorem Try.s166 : szT Try.prog 166 = some 1 := by kernel_rfl
@[go_sem] theorem Try.y166 : bytesT Try.prog 166 = some 8 := by kernel_rfl
@[go_sem] theorem Try.z166 : zeroT Try.prog 166 = some (.int .u64 0) := by kernel_rfl
@[go_sem] theorem Try.k167 : kindT Try.prog 167 = .i .u32 := by kernel_rfl
@[go_sem] theorem Try.s167 : szT Try.prog 167 = some 1 := by kernel_rfl
@[go_sem] theorem Try.y167 : bytesT Try.prog 167 = some 4 := by kernel_rfl
@[go_sem] theorem Try.z167 : zeroT Try.prog 167 = some (.int .u32 0) := by kernel_rfl
@[go_sem] theorem Try.k169 : kindT Try.prog 169 = .fnc := by kernel_rfl
@[go_sem] theorem Try.s169 : szT Try.prog 169 = some 1 := by kernel_rfl
@[go_sem] theorem Try.y169 : bytesT Try.prog 169 = some 8 := by kernel_rfl
@[go_sem] theorem Try.z169 : zeroT Try.prog 169 = some (.nilFunc) := by kernel_rfl
@[go_sem] theorem Try.k170 : kindT Try.prog 170 = .st [(0, 17, 1), (1, 17, 1), (2, 17, 1), (3, 9, 1)] := by kernel_rfl
@[go_sem] theorem Try.s170 : szT Try.prog 170 = some 4 := by kernel_rfl
@[go_sem] theorem Try.y170 : bytesT Try.prog 170 = some 40 := by kernel_rfl
@[go_sem] theorem Try.z170 : zeroT Try.prog 170 = some (.agg #[.pointer none, .pointer none, .pointer none, .string ByteArray.empty]) := by kernel_rfl
@[go_sem] theorem Try.k171 : kindT Try.prog 171 = .st [(0, 17, 1), (1, 17, 1), (2, 17, 1), (3, 9, 1)] := by kernel_rfl
@[go_sem] theorem Try.s171 : szT Try.prog 171 = some 4 := by kernel_rfl
@[go_sem] theorem Try.y171 : bytesT Try.prog 171 = some 40 := by kernel_rfl
@[go_sem] theorem Try.z171 : zeroT Try.prog 171 = some (.agg #[.pointer none, .pointer none, .pointer none, .string ByteArray.empty]) := by kernel_rfl
@[go_sem] theorem Try.k172 : kindT Try.prog 172 = .ar 0 16 := by kernel_rfl
@[go_sem] theorem Try.s172 : szT Try.prog 172 = some 0 := by kernel_rfl
@[go_sem] theorem Try.y172 : bytesT Try.prog 172 = some 0 := by kernel_rfl
@[go_sem] theorem Try.z172 : zeroT Try.prog 172 = some (.agg #[]) := by kernel_rfl
@[go_sem] theorem Try.k173 : kindT Try.prog 173 = .st [(0, 172, 0)] := by kernel_rfl
@[go_sem] theorem Try.s173 : szT Try.prog 173 = some 0 := by kernel_rfl
@[go_sem] theorem Try.y173 : bytesT Try.prog 173 = some 0 := by kernel_rfl
@[go_sem] theorem Try.z173 : zeroT Try.prog 173 = some (.agg #[]) := by kernel_rfl
@[go_sem] theorem Try.k174 : kindT Try.prog 174 = .st [(0, 172, 0)] := by kernel_rfl
@[go_sem] theorem Try.s174 : szT Try.prog 174 = some 0 := by kernel_rfl
@[go_sem] theorem Try.y174 : bytesT Try.prog 174 = some 0 := by kernel_rfl
@[go_sem] theorem Try.z174 : zeroT Try.prog 174 = some (.agg #[]) := by kernel_rfl
@[go_sem] theorem Try.k175 : kindT Try.prog 175 = .i .u8 := by kernel_rfl
@[go_sem] theorem Try.s175 : szT Try.prog 175 = some 1 := by kernel_rfl
@[go_sem] theorem Try.y175 : bytesT Try.prog 175 = some 1 := by kernel_rfl
@[go_sem] theorem Try.z175 : zeroT Try.prog 175 = some (.int .u8 0) := by kernel_rfl
@[go_sem] theorem Try.k176 : kindT Try.prog 176 = .i .u8 := by kernel_rfl
@[go_sem] theorem Try.s176 : szT Try.prog 176 = some 1 := by kernel_rfl
@[go_sem] theorem Try.y176 : bytesT Try.prog 176 = some 1 := by kernel_rfl
@[go_sem] theorem Try.z176 : zeroT Try.prog 176 = some (.int .u8 0) := by kernel_rfl
@[go_sem] theorem Try.k177 : kindT Try.prog 177 = .fnc := by kernel_rfl
@[go_sem] theorem Try.s177 : szT Try.prog 177 = some 1 := by kernel_rfl
@[go_sem] theorem Try.y177 : bytesT Try.prog 177 = some 8 := by kernel_rfl
@[go_sem] theorem Try.z177 : zeroT Try.prog 177 = some (.nilFunc) := by kernel_rfl
@[go_sem] theorem Try.k178 : kindT Try.prog 178 = .i .i32 := by kernel_rfl
@[go_sem] theorem Try.s178 : szT Try.prog 178 = some 1 := by kernel_rfl
@[go_sem] theorem Try.y178 : bytesT Try.prog 178 = some 4 := by kernel_rfl
@[go_sem] theorem Try.z178 : zeroT Try.prog 178 = some (.int .i32 0) := by kernel_rfl
@[go_sem] theorem Try.k179 : kindT Try.prog 179 = .i .i32 := by kernel_rfl
@[go_sem] theorem Try.s179 : szT Try.prog 179 = some 1 := by kernel_rfl
@[go_sem] theorem Try.y179 : bytesT Try.prog 179 = some 4 := by kernel_rfl
@[go_sem] theorem Try.z179 : zeroT Try.prog 179 = some (.int .i32 0) := by kernel_rfl
@[go_sem] theorem Try.k180 : kindT Try.prog 180 = .st [(0, 12, 1), (1, 12, 1), (2, 167, 1), (3, 175, 1), (4, 5, 1), (5, 5, 1), (6, 176, 1), (7, 177, 1), (8, 160, 1), (9, 178, 1), (10, 179, 1)] := by kernel_rfl
@[go_sem] theorem Try.s180 : szT Try.prog 180 = some 11 := by kernel_rfl
@[go_sem] theorem Try.y180 : bytesT Try.prog 180 = some 48 := by kernel_rfl
@[go_sem] theorem Try.z180 : zeroT Try.prog 180 = some (.agg #[.int .u64 0, .int .u64 0, .int .u32 0, .int .u8 0, .int .u8 0, .int .u8 0, .int .u8 0, .nilFunc, .pointer none, .int .i32 0, .int .i32 0]) := by kernel_rfl
@[go_sem] theorem Try.k181 : kindT Try.prog 181 = .st [(0, 12, 1), (1, 12, 1), (2, 167, 1), (3, 175, 1), (4, 5, 1), (5, 5, 1), (6, 176, 1), (7, 177, 1), (8, 160, 1), (9, 178, 1), (10, 179, 1)] := by kernel_rfl
@[go_sem] theorem Try.s181 : szT Try.prog 181 = some 11 := by kernel_rfl
@[go_sem] theorem Try.y181 : bytesT Try.prog 181 = some 48 := by kernel_rfl
@[go_sem] theorem Try.z181 : zeroT Try.prog 181 = some (.agg #[.int .u64 0, .int .u64 0, .int .u32 0, .int .u8 0, .int .u8 0, .int .u8 0, .int .u8 0, .nilFunc, .pointer none, .int .i32 0, .int .i32 0]) := by kernel_rfl
@[go_sem] theorem Try.e65 : eqT Try.prog 65 = true := by kernel_rfl
@[go_sem] theorem Try.e93 : eqT Try.prog 93 = true := by kernel_rfl
attribute [go_sem] Try.ntmps3 Try.results3
attribute [go_sem] Try.ntmps4 Try.results4
attribute [go_sem] Try.ntmps5 Try.results5
attribute [go_sem] Try.ntmps6 Try.results6
attribute [go_sem] Try.ntmps7 Try.results7
attribute [go_sem] Try.ntmps8 Try.results8
attribute [go_sem] Try.ntmps9 Try.results9
attribute [go_sem] Try.ntmps10 Try.results10
attribute [go_sem] Try.ntmps11 Try.results11
attribute [go_sem] Try.ntmps12 Try.results12
attribute [go_sem] Try.ntmps13 Try.results13
attribute [go_sem] Try.ntmps14 Try.results14
attribute [go_sem] Try.ntmps15 Try.results15
attribute [go_sem] Try.ntmps16 Try.results16
attribute [go_sem] Try.ntmps17 Try.results17
attribute [go_sem] Try.ntmps18 Try.results18
attribute [go_sem] Try.ntmps19 Try.results19
attribute [go_sem] Try.ntmps20 Try.results20
attribute [go_sem] Try.ntmps21 Try.results21
attribute [go_sem] Try.ntmps22 Try.results22
attribute [go_sem] Try.ntmps23 Try.results23
attribute [go_sem] Try.ntmps24 Try.results24
attribute [go_sem] Try.ntmps25 Try.results25
attribute [go_sem] Try.ntmps26 Try.results26
attribute [go_sem] Try.ntmps27 Try.results27
attribute [go_sem] Try.ntmps28 Try.results28
attribute [go_sem] Try.ntmps29 Try.results29
attribute [go_sem] Try.ntmps30 Try.results30
attribute [go_sem] Try.ntmps31 Try.results31
attribute [go_sem] Try.ntmps32 Try.results32
attribute [go_sem] Try.ntmps33 Try.results33
attribute [go_sem] Try.ntmps34 Try.results34
attribute [go_sem] Try.ntmps35 Try.results35
attribute [go_sem] Try.ntmps36 Try.results36
attribute [go_sem] Try.ntmps37 Try.results37
attribute [go_sem] Try.ntmps38 Try.results38
attribute [go_sem] Try.ntmps39 Try.results39
attribute [go_sem] Try.ntmps40 Try.results40
attribute [go_sem] Try.ntmps41 Try.results41
attribute [go_sem] Try.ntmps42 Try.results42
attribute [go_sem] Try.ntmps43 Try.results43
attribute [go_sem] Try.ntmps44 Try.results44
attribute [go_sem] Try.ntmps45 Try.results45
attribute [go_sem] Try.ntmps46 Try.results46
attribute [go_sem] Try.ntmps47 Try.results47
attribute [go_sem] Try.ntmps48 Try.results48
attribute [go_sem] Try.ntmps49 Try.results49
attribute [go_sem] Try.ntmps50 Try.results50
attribute [go_sem] Try.ntmps51 Try.results51
attribute [go_sem] Try.ntmps52 Try.results52
attribute [go_sem] Try.ntmps53 Try.results53
attribute [go_sem] Try.ntmps54 Try.results54
attribute [go_sem] Try.ntmps55 Try.results55
attribute [go_sem] Try.ntmps56 Try.results56
attribute [go_sem] Try.ntmps57 Try.results57
attribute [go_sem] Try.ntmps58 Try.results58
attribute [go_sem] Try.ntmps59 Try.results59
attribute [go_sem] Try.ntmps60 Try.results60
attribute [go_sem] Try.ntmps61 Try.results61
attribute [go_sem] Try.ntmps62 Try.results62
attribute [go_sem] Try.ntmps63 Try.results63
attribute [go_sem] Try.ntmps64 Try.results64
attribute [go_sem] Try.ntmps65 Try.results65
attribute [go_sem] Try.ntmps66 Try.results66
attribute [go_sem] Try.ntmps67 Try.results67
attribute [go_sem] Try.ntmps68 Try.results68
attribute [go_sem] Try.ntmps69 Try.results69
attribute [go_sem] Try.ntmps70 Try.results70
attribute [go_sem] Try.ntmps71 Try.results71
attribute [go_sem] Try.ntmps72 Try.results72
attribute [go_sem] Try.ntmps73 Try.results73
attribute [go_sem] Try.ntmps74 Try.results74
attribute [go_sem] Try.ntmps75 Try.results75
attribute [go_sem] Try.ntmps76 Try.results76
attribute [go_sem] Try.ntmps77 Try.results77
attribute [go_sem] Try.ntmps78 Try.results78
attribute [go_sem] Try.ntmps79 Try.results79
attribute [go_sem] Try.ntmps80 Try.results80
attribute [go_sem] Try.ntmps81 Try.results81
attribute [go_sem] Try.ntmps82 Try.results82
attribute [go_sem] Try.ntmps83 Try.results83
attribute [go_sem] Try.ntmps84 Try.results84
attribute [go_sem] Try.ntmps85 Try.results85
attribute [go_sem] Try.ntmps86 Try.results86
attribute [go_sem] Try.ntmps87 Try.results87
attribute [go_sem] Try.ntmps88 Try.results88
attribute [go_sem] Try.ntmps89 Try.results89
attribute [go_sem] Try.ntmps90 Try.results90
attribute [go_sem] Try.ntmps91 Try.results91
attribute [go_sem] Try.ntmps92 Try.results92
attribute [go_sem] Try.ntmps93 Try.results93
attribute [go_sem] Try.ntmps94 Try.results94
attribute [go_sem] Try.ntmps95 Try.results95
attribute [go_sem] Try.ntmps96 Try.results96
attribute [go_sem] Try.ntmps97 Try.results97
attribute [go_sem] Try.ntmps98 Try.results98
attribute [go_sem] Try.ntmps99 Try.results99
attribute [go_sem] Try.ntmps100 Try.results100
attribute [go_sem] Try.ntmps101 Try.results101
attribute [go_sem] Try.ntmps102 Try.results102
attribute [go_sem] Try.ntmps103 Try.results103
attribute [go_sem] Try.ntmps104 Try.results104
attribute [go_sem] Try.ntmps105 Try.results105
attribute [go_sem] Try.ntmps106 Try.results106
attribute [go_sem] Try.ntmps107 Try.results107
attribute [go_sem] Try.ntmps108 Try.results108
attribute [go_sem] Try.ntmps109 Try.results109
attribute [go_sem] Try.ntmps110 Try.results110
attribute [go_sem] Try.ntmps111 Try.results111
attribute [go_sem] Try.ntmps112 Try.results112
attribute [go_sem] Try.ntmps113 Try.results113
attribute [go_sem] Try.ntmps114 Try.results114
attribute [go_sem] Try.ntmps115 Try.results115
attribute [go_sem] Try.ntmps116 Try.results116
attribute [go_sem] Try.ntmps117 Try.results117
attribute [go_sem] Try.ntmps118 Try.results118
attribute [go_sem] Try.ntmps119 Try.results119
attribute [go_sem] Try.ntmps120 Try.results120
attribute [go_sem] Try.ntmps121 Try.results121
attribute [go_sem] Try.ntmps122 Try.results122
attribute [go_sem] Try.ntmps123 Try.results123
attribute [go_sem] Try.ntmps124 Try.results124
attribute [go_sem] Try.ntmps125 Try.results125
attribute [go_sem] Try.ntmps126 Try.results126
attribute [go_sem] Try.ntmps127 Try.results127
attribute [go_sem] Try.ntmps128 Try.results128
attribute [go_sem] Try.ntmps129 Try.results129
attribute [go_sem] Try.ntmps130 Try.results130
attribute [go_sem] Try.ntmps131 Try.results131
attribute [go_sem] Try.ntmps132 Try.results132
attribute [go_sem] Try.ntmps133 Try.results133
attribute [go_sem] Try.ntmps134 Try.results134
attribute [go_sem] Try.ntmps135 Try.results135
attribute [go_sem] Try.ntmps136 Try.results136
attribute [go_sem] Try.ntmps137 Try.results137
end Go.Proofs.Ytfdlfcafcjhpmaa
