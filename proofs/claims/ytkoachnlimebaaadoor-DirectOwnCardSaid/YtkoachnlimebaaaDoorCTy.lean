/- Closed facts on the types of this translation. Written by a program of mine (alty.py). -/
import Derived.Test.YtkoachnlimebaaaDoorProg
import Derived.Test.YtkoachnlimebaaaDoorCAL17
import Derived.KernelRfl
namespace Go.Proofs.YtkoachnlimebaaaDoor
open Go.AL
@[go_sem] theorem Tryd.k1 : kindT Tryd.prog 1 = .fnc := by kernel_rfl
@[go_sem] theorem Tryd.s1 : szT Tryd.prog 1 = some 1 := by kernel_rfl
@[go_sem] theorem Tryd.y1 : bytesT Tryd.prog 1 = some 8 := by kernel_rfl
@[go_sem] theorem Tryd.z1 : zeroT Tryd.prog 1 = some (.nilFunc) := by kernel_rfl
@[go_sem] theorem Tryd.k2 : kindT Tryd.prog 2 = .i .i64 := by kernel_rfl
@[go_sem] theorem Tryd.s2 : szT Tryd.prog 2 = some 1 := by kernel_rfl
@[go_sem] theorem Tryd.y2 : bytesT Tryd.prog 2 = some 8 := by kernel_rfl
@[go_sem] theorem Tryd.z2 : zeroT Tryd.prog 2 = some (.int .i64 0) := by kernel_rfl
@[go_sem] theorem Tryd.k3 : kindT Tryd.prog 3 = .i .i64 := by kernel_rfl
@[go_sem] theorem Tryd.s3 : szT Tryd.prog 3 = some 1 := by kernel_rfl
@[go_sem] theorem Tryd.y3 : bytesT Tryd.prog 3 = some 8 := by kernel_rfl
@[go_sem] theorem Tryd.z3 : zeroT Tryd.prog 3 = some (.int .i64 0) := by kernel_rfl
@[go_sem] theorem Tryd.k4 : kindT Tryd.prog 4 = .b := by kernel_rfl
@[go_sem] theorem Tryd.s4 : szT Tryd.prog 4 = some 1 := by kernel_rfl
@[go_sem] theorem Tryd.y4 : bytesT Tryd.prog 4 = some 1 := by kernel_rfl
@[go_sem] theorem Tryd.z4 : zeroT Tryd.prog 4 = some (.bool false) := by kernel_rfl
@[go_sem] theorem Tryd.k5 : kindT Tryd.prog 5 = .i .u8 := by kernel_rfl
@[go_sem] theorem Tryd.s5 : szT Tryd.prog 5 = some 1 := by kernel_rfl
@[go_sem] theorem Tryd.y5 : bytesT Tryd.prog 5 = some 1 := by kernel_rfl
@[go_sem] theorem Tryd.z5 : zeroT Tryd.prog 5 = some (.int .u8 0) := by kernel_rfl
@[go_sem] theorem Tryd.k6 : kindT Tryd.prog 6 = .i .u8 := by kernel_rfl
@[go_sem] theorem Tryd.s6 : szT Tryd.prog 6 = some 1 := by kernel_rfl
@[go_sem] theorem Tryd.y6 : bytesT Tryd.prog 6 = some 1 := by kernel_rfl
@[go_sem] theorem Tryd.z6 : zeroT Tryd.prog 6 = some (.int .u8 0) := by kernel_rfl
@[go_sem] theorem Tryd.k7 : kindT Tryd.prog 7 = .st [(0, 2, 1), (1, 3, 1), (2, 4, 1), (3, 6, 1)] := by kernel_rfl
@[go_sem] theorem Tryd.s7 : szT Tryd.prog 7 = some 4 := by kernel_rfl
@[go_sem] theorem Tryd.y7 : bytesT Tryd.prog 7 = some 24 := by kernel_rfl
@[go_sem] theorem Tryd.z7 : zeroT Tryd.prog 7 = some (.agg #[.int .i64 0, .int .i64 0, .bool false, .int .u8 0]) := by kernel_rfl
@[go_sem] theorem Tryd.k8 : kindT Tryd.prog 8 = .st [(0, 2, 1), (1, 3, 1), (2, 4, 1), (3, 6, 1)] := by kernel_rfl
@[go_sem] theorem Tryd.s8 : szT Tryd.prog 8 = some 4 := by kernel_rfl
@[go_sem] theorem Tryd.y8 : bytesT Tryd.prog 8 = some 24 := by kernel_rfl
@[go_sem] theorem Tryd.z8 : zeroT Tryd.prog 8 = some (.agg #[.int .i64 0, .int .i64 0, .bool false, .int .u8 0]) := by kernel_rfl
@[go_sem] theorem Tryd.k9 : kindT Tryd.prog 9 = .s := by kernel_rfl
@[go_sem] theorem Tryd.s9 : szT Tryd.prog 9 = some 1 := by kernel_rfl
@[go_sem] theorem Tryd.y9 : bytesT Tryd.prog 9 = some 16 := by kernel_rfl
@[go_sem] theorem Tryd.z9 : zeroT Tryd.prog 9 = some (.string ByteArray.empty) := by kernel_rfl
@[go_sem] theorem Tryd.k10 : kindT Tryd.prog 10 = .s := by kernel_rfl
@[go_sem] theorem Tryd.s10 : szT Tryd.prog 10 = some 1 := by kernel_rfl
@[go_sem] theorem Tryd.y10 : bytesT Tryd.prog 10 = some 16 := by kernel_rfl
@[go_sem] theorem Tryd.z10 : zeroT Tryd.prog 10 = some (.string ByteArray.empty) := by kernel_rfl
@[go_sem] theorem Tryd.k11 : kindT Tryd.prog 11 = .s := by kernel_rfl
@[go_sem] theorem Tryd.s11 : szT Tryd.prog 11 = some 1 := by kernel_rfl
@[go_sem] theorem Tryd.y11 : bytesT Tryd.prog 11 = some 16 := by kernel_rfl
@[go_sem] theorem Tryd.z11 : zeroT Tryd.prog 11 = some (.string ByteArray.empty) := by kernel_rfl
@[go_sem] theorem Tryd.k12 : kindT Tryd.prog 12 = .i .u64 := by kernel_rfl
@[go_sem] theorem Tryd.s12 : szT Tryd.prog 12 = some 1 := by kernel_rfl
@[go_sem] theorem Tryd.y12 : bytesT Tryd.prog 12 = some 8 := by kernel_rfl
@[go_sem] theorem Tryd.z12 : zeroT Tryd.prog 12 = some (.int .u64 0) := by kernel_rfl
@[go_sem] theorem Tryd.k13 : kindT Tryd.prog 13 = .st [(0, 9, 1), (1, 12, 1)] := by kernel_rfl
@[go_sem] theorem Tryd.s13 : szT Tryd.prog 13 = some 2 := by kernel_rfl
@[go_sem] theorem Tryd.y13 : bytesT Tryd.prog 13 = some 24 := by kernel_rfl
@[go_sem] theorem Tryd.z13 : zeroT Tryd.prog 13 = some (.agg #[.string ByteArray.empty, .int .u64 0]) := by kernel_rfl
@[go_sem] theorem Tryd.k14 : kindT Tryd.prog 14 = .st [(0, 9, 1), (1, 12, 1)] := by kernel_rfl
@[go_sem] theorem Tryd.s14 : szT Tryd.prog 14 = some 2 := by kernel_rfl
@[go_sem] theorem Tryd.y14 : bytesT Tryd.prog 14 = some 24 := by kernel_rfl
@[go_sem] theorem Tryd.z14 : zeroT Tryd.prog 14 = some (.agg #[.string ByteArray.empty, .int .u64 0]) := by kernel_rfl
@[go_sem] theorem Tryd.k15 : kindT Tryd.prog 15 = .p 173 := by kernel_rfl
@[go_sem] theorem Tryd.s15 : szT Tryd.prog 15 = some 1 := by kernel_rfl
@[go_sem] theorem Tryd.y15 : bytesT Tryd.prog 15 = some 8 := by kernel_rfl
@[go_sem] theorem Tryd.z15 : zeroT Tryd.prog 15 = some (.pointer none) := by kernel_rfl
@[go_sem] theorem Tryd.k16 : kindT Tryd.prog 16 = .p 176 := by kernel_rfl
@[go_sem] theorem Tryd.s16 : szT Tryd.prog 16 = some 1 := by kernel_rfl
@[go_sem] theorem Tryd.y16 : bytesT Tryd.prog 16 = some 8 := by kernel_rfl
@[go_sem] theorem Tryd.z16 : zeroT Tryd.prog 16 = some (.pointer none) := by kernel_rfl
@[go_sem] theorem Tryd.k17 : kindT Tryd.prog 17 = .p 184 := by kernel_rfl
@[go_sem] theorem Tryd.s17 : szT Tryd.prog 17 = some 1 := by kernel_rfl
@[go_sem] theorem Tryd.y17 : bytesT Tryd.prog 17 = some 8 := by kernel_rfl
@[go_sem] theorem Tryd.z17 : zeroT Tryd.prog 17 = some (.pointer none) := by kernel_rfl
@[go_sem] theorem Tryd.k18 : kindT Tryd.prog 18 = .st [(0, 17, 1)] := by kernel_rfl
@[go_sem] theorem Tryd.s18 : szT Tryd.prog 18 = some 1 := by kernel_rfl
@[go_sem] theorem Tryd.y18 : bytesT Tryd.prog 18 = some 8 := by kernel_rfl
@[go_sem] theorem Tryd.z18 : zeroT Tryd.prog 18 = some (.agg #[.pointer none]) := by kernel_rfl
@[go_sem] theorem Tryd.k19 : kindT Tryd.prog 19 = .st [(0, 17, 1)] := by kernel_rfl
@[go_sem] theorem Tryd.s19 : szT Tryd.prog 19 = some 1 := by kernel_rfl
@[go_sem] theorem Tryd.y19 : bytesT Tryd.prog 19 = some 8 := by kernel_rfl
@[go_sem] theorem Tryd.z19 : zeroT Tryd.prog 19 = some (.agg #[.pointer none]) := by kernel_rfl
@[go_sem] theorem Tryd.k20 : kindT Tryd.prog 20 = .ifc := by kernel_rfl
@[go_sem] theorem Tryd.s20 : szT Tryd.prog 20 = some 1 := by kernel_rfl
@[go_sem] theorem Tryd.y20 : bytesT Tryd.prog 20 = some 16 := by kernel_rfl
@[go_sem] theorem Tryd.z20 : zeroT Tryd.prog 20 = some (.nilIface) := by kernel_rfl
@[go_sem] theorem Tryd.k21 : kindT Tryd.prog 21 = .i .i32 := by kernel_rfl
@[go_sem] theorem Tryd.s21 : szT Tryd.prog 21 = some 1 := by kernel_rfl
@[go_sem] theorem Tryd.y21 : bytesT Tryd.prog 21 = some 4 := by kernel_rfl
@[go_sem] theorem Tryd.z21 : zeroT Tryd.prog 21 = some (.int .i32 0) := by kernel_rfl
@[go_sem] theorem Tryd.k22 : kindT Tryd.prog 22 = .sl 116 := by kernel_rfl
@[go_sem] theorem Tryd.s22 : szT Tryd.prog 22 = some 1 := by kernel_rfl
@[go_sem] theorem Tryd.y22 : bytesT Tryd.prog 22 = some 24 := by kernel_rfl
@[go_sem] theorem Tryd.z22 : zeroT Tryd.prog 22 = some (.slice none 0 0) := by kernel_rfl
@[go_sem] theorem Tryd.k23 : kindT Tryd.prog 23 = .sl 48 := by kernel_rfl
@[go_sem] theorem Tryd.s23 : szT Tryd.prog 23 = some 1 := by kernel_rfl
@[go_sem] theorem Tryd.y23 : bytesT Tryd.prog 23 = some 24 := by kernel_rfl
@[go_sem] theorem Tryd.z23 : zeroT Tryd.prog 23 = some (.slice none 0 0) := by kernel_rfl
@[go_sem] theorem Tryd.k24 : kindT Tryd.prog 24 = .st [(0, 22, 1), (1, 23, 1)] := by kernel_rfl
@[go_sem] theorem Tryd.s24 : szT Tryd.prog 24 = some 2 := by kernel_rfl
@[go_sem] theorem Tryd.y24 : bytesT Tryd.prog 24 = some 48 := by kernel_rfl
@[go_sem] theorem Tryd.z24 : zeroT Tryd.prog 24 = some (.agg #[.slice none 0 0, .slice none 0 0]) := by kernel_rfl
@[go_sem] theorem Tryd.k25 : kindT Tryd.prog 25 = .st [(0, 22, 1), (1, 23, 1)] := by kernel_rfl
@[go_sem] theorem Tryd.s25 : szT Tryd.prog 25 = some 2 := by kernel_rfl
@[go_sem] theorem Tryd.y25 : bytesT Tryd.prog 25 = some 48 := by kernel_rfl
@[go_sem] theorem Tryd.z25 : zeroT Tryd.prog 25 = some (.agg #[.slice none 0 0, .slice none 0 0]) := by kernel_rfl
@[go_sem] theorem Tryd.k26 : kindT Tryd.prog 26 = .sl 3 := by kernel_rfl
@[go_sem] theorem Tryd.s26 : szT Tryd.prog 26 = some 1 := by kernel_rfl
@[go_sem] theorem Tryd.y26 : bytesT Tryd.prog 26 = some 24 := by kernel_rfl
@[go_sem] theorem Tryd.z26 : zeroT Tryd.prog 26 = some (.slice none 0 0) := by kernel_rfl
@[go_sem] theorem Tryd.k27 : kindT Tryd.prog 27 = .fnc := by kernel_rfl
@[go_sem] theorem Tryd.s27 : szT Tryd.prog 27 = some 1 := by kernel_rfl
@[go_sem] theorem Tryd.y27 : bytesT Tryd.prog 27 = some 8 := by kernel_rfl
@[go_sem] theorem Tryd.z27 : zeroT Tryd.prog 27 = some (.nilFunc) := by kernel_rfl
@[go_sem] theorem Tryd.k28 : kindT Tryd.prog 28 = .fnc := by kernel_rfl
@[go_sem] theorem Tryd.s28 : szT Tryd.prog 28 = some 1 := by kernel_rfl
@[go_sem] theorem Tryd.y28 : bytesT Tryd.prog 28 = some 8 := by kernel_rfl
@[go_sem] theorem Tryd.z28 : zeroT Tryd.prog 28 = some (.nilFunc) := by kernel_rfl
@[go_sem] theorem Tryd.k29 : kindT Tryd.prog 29 = .st [(0, 3, 1), (1, 3, 1), (2, 26, 1), (3, 3, 1)] := by kernel_rfl
@[go_sem] theorem Tryd.s29 : szT Tryd.prog 29 = some 4 := by kernel_rfl
@[go_sem] theorem Tryd.y29 : bytesT Tryd.prog 29 = some 48 := by kernel_rfl
@[go_sem] theorem Tryd.z29 : zeroT Tryd.prog 29 = some (.agg #[.int .i64 0, .int .i64 0, .slice none 0 0, .int .i64 0]) := by kernel_rfl
@[go_sem] theorem Tryd.k30 : kindT Tryd.prog 30 = .st [(0, 3, 1), (1, 3, 1), (2, 26, 1), (3, 3, 1)] := by kernel_rfl
@[go_sem] theorem Tryd.s30 : szT Tryd.prog 30 = some 4 := by kernel_rfl
@[go_sem] theorem Tryd.y30 : bytesT Tryd.prog 30 = some 48 := by kernel_rfl
@[go_sem] theorem Tryd.z30 : zeroT Tryd.prog 30 = some (.agg #[.int .i64 0, .int .i64 0, .slice none 0 0, .int .i64 0]) := by kernel_rfl
@[go_sem] theorem Tryd.k31 : kindT Tryd.prog 31 = .i .i64 := by kernel_rfl
@[go_sem] theorem Tryd.s31 : szT Tryd.prog 31 = some 1 := by kernel_rfl
@[go_sem] theorem Tryd.y31 : bytesT Tryd.prog 31 = some 8 := by kernel_rfl
@[go_sem] theorem Tryd.z31 : zeroT Tryd.prog 31 = some (.int .i64 0) := by kernel_rfl
@[go_sem] theorem Tryd.k33 : kindT Tryd.prog 33 = .fnc := by kernel_rfl
@[go_sem] theorem Tryd.s33 : szT Tryd.prog 33 = some 1 := by kernel_rfl
@[go_sem] theorem Tryd.y33 : bytesT Tryd.prog 33 = some 8 := by kernel_rfl
@[go_sem] theorem Tryd.z33 : zeroT Tryd.prog 33 = some (.nilFunc) := by kernel_rfl
@[go_sem] theorem Tryd.k34 : kindT Tryd.prog 34 = .fnc := by kernel_rfl
@[go_sem] theorem Tryd.s34 : szT Tryd.prog 34 = some 1 := by kernel_rfl
@[go_sem] theorem Tryd.y34 : bytesT Tryd.prog 34 = some 8 := by kernel_rfl
@[go_sem] theorem Tryd.z34 : zeroT Tryd.prog 34 = some (.nilFunc) := by kernel_rfl
@[go_sem] theorem Tryd.k35 : kindT Tryd.prog 35 = .fnc := by kernel_rfl
@[go_sem] theorem Tryd.s35 : szT Tryd.prog 35 = some 1 := by kernel_rfl
@[go_sem] theorem Tryd.y35 : bytesT Tryd.prog 35 = some 8 := by kernel_rfl
@[go_sem] theorem Tryd.z35 : zeroT Tryd.prog 35 = some (.nilFunc) := by kernel_rfl
@[go_sem] theorem Tryd.k36 : kindT Tryd.prog 36 = .fnc := by kernel_rfl
@[go_sem] theorem Tryd.s36 : szT Tryd.prog 36 = some 1 := by kernel_rfl
@[go_sem] theorem Tryd.y36 : bytesT Tryd.prog 36 = some 8 := by kernel_rfl
@[go_sem] theorem Tryd.z36 : zeroT Tryd.prog 36 = some (.nilFunc) := by kernel_rfl
@[go_sem] theorem Tryd.k37 : kindT Tryd.prog 37 = .fnc := by kernel_rfl
@[go_sem] theorem Tryd.s37 : szT Tryd.prog 37 = some 1 := by kernel_rfl
@[go_sem] theorem Tryd.y37 : bytesT Tryd.prog 37 = some 8 := by kernel_rfl
@[go_sem] theorem Tryd.z37 : zeroT Tryd.prog 37 = some (.nilFunc) := by kernel_rfl
@[go_sem] theorem Tryd.k39 : kindT Tryd.prog 39 = .fnc := by kernel_rfl
@[go_sem] theorem Tryd.s39 : szT Tryd.prog 39 = some 1 := by kernel_rfl
@[go_sem] theorem Tryd.y39 : bytesT Tryd.prog 39 = some 8 := by kernel_rfl
@[go_sem] theorem Tryd.z39 : zeroT Tryd.prog 39 = some (.nilFunc) := by kernel_rfl
@[go_sem] theorem Tryd.k40 : kindT Tryd.prog 40 = .fnc := by kernel_rfl
@[go_sem] theorem Tryd.s40 : szT Tryd.prog 40 = some 1 := by kernel_rfl
@[go_sem] theorem Tryd.y40 : bytesT Tryd.prog 40 = some 8 := by kernel_rfl
@[go_sem] theorem Tryd.z40 : zeroT Tryd.prog 40 = some (.nilFunc) := by kernel_rfl
@[go_sem] theorem Tryd.k41 : kindT Tryd.prog 41 = .fnc := by kernel_rfl
@[go_sem] theorem Tryd.s41 : szT Tryd.prog 41 = some 1 := by kernel_rfl
@[go_sem] theorem Tryd.y41 : bytesT Tryd.prog 41 = some 8 := by kernel_rfl
@[go_sem] theorem Tryd.z41 : zeroT Tryd.prog 41 = some (.nilFunc) := by kernel_rfl
@[go_sem] theorem Tryd.k42 : kindT Tryd.prog 42 = .sl 59 := by kernel_rfl
@[go_sem] theorem Tryd.s42 : szT Tryd.prog 42 = some 1 := by kernel_rfl
@[go_sem] theorem Tryd.y42 : bytesT Tryd.prog 42 = some 24 := by kernel_rfl
@[go_sem] theorem Tryd.z42 : zeroT Tryd.prog 42 = some (.slice none 0 0) := by kernel_rfl
@[go_sem] theorem Tryd.k43 : kindT Tryd.prog 43 = .sl 46 := by kernel_rfl
@[go_sem] theorem Tryd.s43 : szT Tryd.prog 43 = some 1 := by kernel_rfl
@[go_sem] theorem Tryd.y43 : bytesT Tryd.prog 43 = some 24 := by kernel_rfl
@[go_sem] theorem Tryd.z43 : zeroT Tryd.prog 43 = some (.slice none 0 0) := by kernel_rfl
@[go_sem] theorem Tryd.k44 : kindT Tryd.prog 44 = .sl 121 := by kernel_rfl
@[go_sem] theorem Tryd.s44 : szT Tryd.prog 44 = some 1 := by kernel_rfl
@[go_sem] theorem Tryd.y44 : bytesT Tryd.prog 44 = some 24 := by kernel_rfl
@[go_sem] theorem Tryd.z44 : zeroT Tryd.prog 44 = some (.slice none 0 0) := by kernel_rfl
@[go_sem] theorem Tryd.k45 : kindT Tryd.prog 45 = .st [(0, 3, 1), (1, 3, 1), (2, 9, 1), (3, 3, 1), (4, 43, 1), (5, 44, 1)] := by kernel_rfl
@[go_sem] theorem Tryd.s45 : szT Tryd.prog 45 = some 6 := by kernel_rfl
@[go_sem] theorem Tryd.y45 : bytesT Tryd.prog 45 = some 88 := by kernel_rfl
@[go_sem] theorem Tryd.z45 : zeroT Tryd.prog 45 = some (.agg #[.int .i64 0, .int .i64 0, .string ByteArray.empty, .int .i64 0, .slice none 0 0, .slice none 0 0]) := by kernel_rfl
@[go_sem] theorem Tryd.k46 : kindT Tryd.prog 46 = .st [(0, 3, 1), (1, 3, 1), (2, 9, 1), (3, 3, 1), (4, 43, 1), (5, 44, 1)] := by kernel_rfl
@[go_sem] theorem Tryd.s46 : szT Tryd.prog 46 = some 6 := by kernel_rfl
@[go_sem] theorem Tryd.y46 : bytesT Tryd.prog 46 = some 88 := by kernel_rfl
@[go_sem] theorem Tryd.z46 : zeroT Tryd.prog 46 = some (.agg #[.int .i64 0, .int .i64 0, .string ByteArray.empty, .int .i64 0, .slice none 0 0, .slice none 0 0]) := by kernel_rfl
@[go_sem] theorem Tryd.k47 : kindT Tryd.prog 47 = .st [(0, 9, 1), (1, 42, 1), (2, 3, 1), (3, 46, 6)] := by kernel_rfl
@[go_sem] theorem Tryd.s47 : szT Tryd.prog 47 = some 9 := by kernel_rfl
@[go_sem] theorem Tryd.y47 : bytesT Tryd.prog 47 = some 136 := by kernel_rfl
@[go_sem] theorem Tryd.z47 : zeroT Tryd.prog 47 = some (.agg #[.string ByteArray.empty, .slice none 0 0, .int .i64 0, .int .i64 0, .int .i64 0, .string ByteArray.empty, .int .i64 0, .slice none 0 0, .slice none 0 0]) := by kernel_rfl
@[go_sem] theorem Tryd.k48 : kindT Tryd.prog 48 = .st [(0, 9, 1), (1, 42, 1), (2, 3, 1), (3, 46, 6)] := by kernel_rfl
@[go_sem] theorem Tryd.s48 : szT Tryd.prog 48 = some 9 := by kernel_rfl
@[go_sem] theorem Tryd.y48 : bytesT Tryd.prog 48 = some 136 := by kernel_rfl
@[go_sem] theorem Tryd.z48 : zeroT Tryd.prog 48 = some (.agg #[.string ByteArray.empty, .slice none 0 0, .int .i64 0, .int .i64 0, .int .i64 0, .string ByteArray.empty, .int .i64 0, .slice none 0 0, .slice none 0 0]) := by kernel_rfl
@[go_sem] theorem Tryd.k49 : kindT Tryd.prog 49 = .fnc := by kernel_rfl
@[go_sem] theorem Tryd.s49 : szT Tryd.prog 49 = some 1 := by kernel_rfl
@[go_sem] theorem Tryd.y49 : bytesT Tryd.prog 49 = some 8 := by kernel_rfl
@[go_sem] theorem Tryd.z49 : zeroT Tryd.prog 49 = some (.nilFunc) := by kernel_rfl
@[go_sem] theorem Tryd.k50 : kindT Tryd.prog 50 = .fnc := by kernel_rfl
@[go_sem] theorem Tryd.s50 : szT Tryd.prog 50 = some 1 := by kernel_rfl
@[go_sem] theorem Tryd.y50 : bytesT Tryd.prog 50 = some 8 := by kernel_rfl
@[go_sem] theorem Tryd.z50 : zeroT Tryd.prog 50 = some (.nilFunc) := by kernel_rfl
@[go_sem] theorem Tryd.k51 : kindT Tryd.prog 51 = .fnc := by kernel_rfl
@[go_sem] theorem Tryd.s51 : szT Tryd.prog 51 = some 1 := by kernel_rfl
@[go_sem] theorem Tryd.y51 : bytesT Tryd.prog 51 = some 8 := by kernel_rfl
@[go_sem] theorem Tryd.z51 : zeroT Tryd.prog 51 = some (.nilFunc) := by kernel_rfl
@[go_sem] theorem Tryd.k52 : kindT Tryd.prog 52 = .p 57 := by kernel_rfl
@[go_sem] theorem Tryd.s52 : szT Tryd.prog 52 = some 1 := by kernel_rfl
@[go_sem] theorem Tryd.y52 : bytesT Tryd.prog 52 = some 8 := by kernel_rfl
@[go_sem] theorem Tryd.z52 : zeroT Tryd.prog 52 = some (.pointer none) := by kernel_rfl
@[go_sem] theorem Tryd.k53 : kindT Tryd.prog 53 = .p 96 := by kernel_rfl
@[go_sem] theorem Tryd.s53 : szT Tryd.prog 53 = some 1 := by kernel_rfl
@[go_sem] theorem Tryd.y53 : bytesT Tryd.prog 53 = some 8 := by kernel_rfl
@[go_sem] theorem Tryd.z53 : zeroT Tryd.prog 53 = some (.pointer none) := by kernel_rfl
@[go_sem] theorem Tryd.k54 : kindT Tryd.prog 54 = .p 102 := by kernel_rfl
@[go_sem] theorem Tryd.s54 : szT Tryd.prog 54 = some 1 := by kernel_rfl
@[go_sem] theorem Tryd.y54 : bytesT Tryd.prog 54 = some 8 := by kernel_rfl
@[go_sem] theorem Tryd.z54 : zeroT Tryd.prog 54 = some (.pointer none) := by kernel_rfl
@[go_sem] theorem Tryd.k55 : kindT Tryd.prog 55 = .ifc := by kernel_rfl
@[go_sem] theorem Tryd.s55 : szT Tryd.prog 55 = some 1 := by kernel_rfl
@[go_sem] theorem Tryd.y55 : bytesT Tryd.prog 55 = some 16 := by kernel_rfl
@[go_sem] theorem Tryd.z55 : zeroT Tryd.prog 55 = some (.nilIface) := by kernel_rfl
@[go_sem] theorem Tryd.k56 : kindT Tryd.prog 56 = .st [(0, 25, 2), (2, 30, 4), (6, 3, 1), (7, 46, 6), (13, 53, 1), (14, 54, 1), (15, 55, 1), (16, 4, 1), (17, 4, 1)] := by kernel_rfl
@[go_sem] theorem Tryd.s56 : szT Tryd.prog 56 = some 18 := by kernel_rfl
@[go_sem] theorem Tryd.y56 : bytesT Tryd.prog 56 = some 232 := by kernel_rfl
@[go_sem] theorem Tryd.z56 : zeroT Tryd.prog 56 = some (.agg #[.slice none 0 0, .slice none 0 0, .int .i64 0, .int .i64 0, .slice none 0 0, .int .i64 0, .int .i64 0, .int .i64 0, .int .i64 0, .string ByteArray.empty, .int .i64 0, .slice none 0 0, .slice none 0 0, .pointer none, .pointer none, .nilIface, .bool false, .bool false]) := by kernel_rfl
@[go_sem] theorem Tryd.k57 : kindT Tryd.prog 57 = .st [(0, 25, 2), (2, 30, 4), (6, 3, 1), (7, 46, 6), (13, 53, 1), (14, 54, 1), (15, 55, 1), (16, 4, 1), (17, 4, 1)] := by kernel_rfl
@[go_sem] theorem Tryd.s57 : szT Tryd.prog 57 = some 18 := by kernel_rfl
@[go_sem] theorem Tryd.y57 : bytesT Tryd.prog 57 = some 232 := by kernel_rfl
@[go_sem] theorem Tryd.z57 : zeroT Tryd.prog 57 = some (.agg #[.slice none 0 0, .slice none 0 0, .int .i64 0, .int .i64 0, .slice none 0 0, .int .i64 0, .int .i64 0, .int .i64 0, .int .i64 0, .string ByteArray.empty, .int .i64 0, .slice none 0 0, .slice none 0 0, .pointer none, .pointer none, .nilIface, .bool false, .bool false]) := by kernel_rfl
@[go_sem] theorem Tryd.k58 : kindT Tryd.prog 58 = .st [(0, 9, 1), (1, 3, 1)] := by kernel_rfl
@[go_sem] theorem Tryd.s58 : szT Tryd.prog 58 = some 2 := by kernel_rfl
@[go_sem] theorem Tryd.y58 : bytesT Tryd.prog 58 = some 24 := by kernel_rfl
@[go_sem] theorem Tryd.z58 : zeroT Tryd.prog 58 = some (.agg #[.string ByteArray.empty, .int .i64 0]) := by kernel_rfl
@[go_sem] theorem Tryd.k59 : kindT Tryd.prog 59 = .st [(0, 9, 1), (1, 3, 1)] := by kernel_rfl
@[go_sem] theorem Tryd.s59 : szT Tryd.prog 59 = some 2 := by kernel_rfl
@[go_sem] theorem Tryd.y59 : bytesT Tryd.prog 59 = some 24 := by kernel_rfl
@[go_sem] theorem Tryd.z59 : zeroT Tryd.prog 59 = some (.agg #[.string ByteArray.empty, .int .i64 0]) := by kernel_rfl
@[go_sem] theorem Tryd.k60 : kindT Tryd.prog 60 = .fnc := by kernel_rfl
@[go_sem] theorem Tryd.s60 : szT Tryd.prog 60 = some 1 := by kernel_rfl
@[go_sem] theorem Tryd.y60 : bytesT Tryd.prog 60 = some 8 := by kernel_rfl
@[go_sem] theorem Tryd.z60 : zeroT Tryd.prog 60 = some (.nilFunc) := by kernel_rfl
@[go_sem] theorem Tryd.k61 : kindT Tryd.prog 61 = .p 107 := by kernel_rfl
@[go_sem] theorem Tryd.s61 : szT Tryd.prog 61 = some 1 := by kernel_rfl
@[go_sem] theorem Tryd.y61 : bytesT Tryd.prog 61 = some 8 := by kernel_rfl
@[go_sem] theorem Tryd.z61 : zeroT Tryd.prog 61 = some (.pointer none) := by kernel_rfl
@[go_sem] theorem Tryd.k62 : kindT Tryd.prog 62 = .st [(0, 55, 1), (1, 61, 1)] := by kernel_rfl
@[go_sem] theorem Tryd.s62 : szT Tryd.prog 62 = some 2 := by kernel_rfl
@[go_sem] theorem Tryd.y62 : bytesT Tryd.prog 62 = some 24 := by kernel_rfl
@[go_sem] theorem Tryd.z62 : zeroT Tryd.prog 62 = some (.agg #[.nilIface, .pointer none]) := by kernel_rfl
@[go_sem] theorem Tryd.k63 : kindT Tryd.prog 63 = .st [(0, 55, 1), (1, 61, 1)] := by kernel_rfl
@[go_sem] theorem Tryd.s63 : szT Tryd.prog 63 = some 2 := by kernel_rfl
@[go_sem] theorem Tryd.y63 : bytesT Tryd.prog 63 = some 24 := by kernel_rfl
@[go_sem] theorem Tryd.z63 : zeroT Tryd.prog 63 = some (.agg #[.nilIface, .pointer none]) := by kernel_rfl
@[go_sem] theorem Tryd.k64 : kindT Tryd.prog 64 = .fnc := by kernel_rfl
@[go_sem] theorem Tryd.s64 : szT Tryd.prog 64 = some 1 := by kernel_rfl
@[go_sem] theorem Tryd.y64 : bytesT Tryd.prog 64 = some 8 := by kernel_rfl
@[go_sem] theorem Tryd.z64 : zeroT Tryd.prog 64 = some (.nilFunc) := by kernel_rfl
@[go_sem] theorem Tryd.k65 : kindT Tryd.prog 65 = .fnc := by kernel_rfl
@[go_sem] theorem Tryd.s65 : szT Tryd.prog 65 = some 1 := by kernel_rfl
@[go_sem] theorem Tryd.y65 : bytesT Tryd.prog 65 = some 8 := by kernel_rfl
@[go_sem] theorem Tryd.z65 : zeroT Tryd.prog 65 = some (.nilFunc) := by kernel_rfl
@[go_sem] theorem Tryd.k66 : kindT Tryd.prog 66 = .fnc := by kernel_rfl
@[go_sem] theorem Tryd.s66 : szT Tryd.prog 66 = some 1 := by kernel_rfl
@[go_sem] theorem Tryd.y66 : bytesT Tryd.prog 66 = some 8 := by kernel_rfl
@[go_sem] theorem Tryd.z66 : zeroT Tryd.prog 66 = some (.nilFunc) := by kernel_rfl
@[go_sem] theorem Tryd.k67 : kindT Tryd.prog 67 = .p 70 := by kernel_rfl
@[go_sem] theorem Tryd.s67 : szT Tryd.prog 67 = some 1 := by kernel_rfl
@[go_sem] theorem Tryd.y67 : bytesT Tryd.prog 67 = some 8 := by kernel_rfl
@[go_sem] theorem Tryd.z67 : zeroT Tryd.prog 67 = some (.pointer none) := by kernel_rfl
@[go_sem] theorem Tryd.k68 : kindT Tryd.prog 68 = .sl 5 := by kernel_rfl
@[go_sem] theorem Tryd.s68 : szT Tryd.prog 68 = some 1 := by kernel_rfl
@[go_sem] theorem Tryd.y68 : bytesT Tryd.prog 68 = some 24 := by kernel_rfl
@[go_sem] theorem Tryd.z68 : zeroT Tryd.prog 68 = some (.slice none 0 0) := by kernel_rfl
@[go_sem] theorem Tryd.k69 : kindT Tryd.prog 69 = .st [(0, 67, 1), (1, 68, 1)] := by kernel_rfl
@[go_sem] theorem Tryd.s69 : szT Tryd.prog 69 = some 2 := by kernel_rfl
@[go_sem] theorem Tryd.y69 : bytesT Tryd.prog 69 = some 32 := by kernel_rfl
@[go_sem] theorem Tryd.z69 : zeroT Tryd.prog 69 = some (.agg #[.pointer none, .slice none 0 0]) := by kernel_rfl
@[go_sem] theorem Tryd.k70 : kindT Tryd.prog 70 = .st [(0, 67, 1), (1, 68, 1)] := by kernel_rfl
@[go_sem] theorem Tryd.s70 : szT Tryd.prog 70 = some 2 := by kernel_rfl
@[go_sem] theorem Tryd.y70 : bytesT Tryd.prog 70 = some 32 := by kernel_rfl
@[go_sem] theorem Tryd.z70 : zeroT Tryd.prog 70 = some (.agg #[.pointer none, .slice none 0 0]) := by kernel_rfl
@[go_sem] theorem Tryd.k71 : kindT Tryd.prog 71 = .ifc := by kernel_rfl
@[go_sem] theorem Tryd.s71 : szT Tryd.prog 71 = some 1 := by kernel_rfl
@[go_sem] theorem Tryd.y71 : bytesT Tryd.prog 71 = some 16 := by kernel_rfl
@[go_sem] theorem Tryd.z71 : zeroT Tryd.prog 71 = some (.nilIface) := by kernel_rfl
@[go_sem] theorem Tryd.k72 : kindT Tryd.prog 72 = .ifc := by kernel_rfl
@[go_sem] theorem Tryd.s72 : szT Tryd.prog 72 = some 1 := by kernel_rfl
@[go_sem] theorem Tryd.y72 : bytesT Tryd.prog 72 = some 16 := by kernel_rfl
@[go_sem] theorem Tryd.z72 : zeroT Tryd.prog 72 = some (.nilIface) := by kernel_rfl
@[go_sem] theorem Tryd.k74 : kindT Tryd.prog 74 = .fnc := by kernel_rfl
@[go_sem] theorem Tryd.s74 : szT Tryd.prog 74 = some 1 := by kernel_rfl
@[go_sem] theorem Tryd.y74 : bytesT Tryd.prog 74 = some 8 := by kernel_rfl
@[go_sem] theorem Tryd.z74 : zeroT Tryd.prog 74 = some (.nilFunc) := by kernel_rfl
@[go_sem] theorem Tryd.k75 : kindT Tryd.prog 75 = .fnc := by kernel_rfl
@[go_sem] theorem Tryd.s75 : szT Tryd.prog 75 = some 1 := by kernel_rfl
@[go_sem] theorem Tryd.y75 : bytesT Tryd.prog 75 = some 8 := by kernel_rfl
@[go_sem] theorem Tryd.z75 : zeroT Tryd.prog 75 = some (.nilFunc) := by kernel_rfl
@[go_sem] theorem Tryd.k76 : kindT Tryd.prog 76 = .fnc := by kernel_rfl
@[go_sem] theorem Tryd.s76 : szT Tryd.prog 76 = some 1 := by kernel_rfl
@[go_sem] theorem Tryd.y76 : bytesT Tryd.prog 76 = some 8 := by kernel_rfl
@[go_sem] theorem Tryd.z76 : zeroT Tryd.prog 76 = some (.nilFunc) := by kernel_rfl
@[go_sem] theorem Tryd.k77 : kindT Tryd.prog 77 = .fnc := by kernel_rfl
@[go_sem] theorem Tryd.s77 : szT Tryd.prog 77 = some 1 := by kernel_rfl
@[go_sem] theorem Tryd.y77 : bytesT Tryd.prog 77 = some 8 := by kernel_rfl
@[go_sem] theorem Tryd.z77 : zeroT Tryd.prog 77 = some (.nilFunc) := by kernel_rfl
@[go_sem] theorem Tryd.k78 : kindT Tryd.prog 78 = .fnc := by kernel_rfl
@[go_sem] theorem Tryd.s78 : szT Tryd.prog 78 = some 1 := by kernel_rfl
@[go_sem] theorem Tryd.y78 : bytesT Tryd.prog 78 = some 8 := by kernel_rfl
@[go_sem] theorem Tryd.z78 : zeroT Tryd.prog 78 = some (.nilFunc) := by kernel_rfl
@[go_sem] theorem Tryd.k79 : kindT Tryd.prog 79 = .fnc := by kernel_rfl
@[go_sem] theorem Tryd.s79 : szT Tryd.prog 79 = some 1 := by kernel_rfl
@[go_sem] theorem Tryd.y79 : bytesT Tryd.prog 79 = some 8 := by kernel_rfl
@[go_sem] theorem Tryd.z79 : zeroT Tryd.prog 79 = some (.nilFunc) := by kernel_rfl
@[go_sem] theorem Tryd.k80 : kindT Tryd.prog 80 = .fnc := by kernel_rfl
@[go_sem] theorem Tryd.s80 : szT Tryd.prog 80 = some 1 := by kernel_rfl
@[go_sem] theorem Tryd.y80 : bytesT Tryd.prog 80 = some 8 := by kernel_rfl
@[go_sem] theorem Tryd.z80 : zeroT Tryd.prog 80 = some (.nilFunc) := by kernel_rfl
@[go_sem] theorem Tryd.k82 : kindT Tryd.prog 82 = .fnc := by kernel_rfl
@[go_sem] theorem Tryd.s82 : szT Tryd.prog 82 = some 1 := by kernel_rfl
@[go_sem] theorem Tryd.y82 : bytesT Tryd.prog 82 = some 8 := by kernel_rfl
@[go_sem] theorem Tryd.z82 : zeroT Tryd.prog 82 = some (.nilFunc) := by kernel_rfl
@[go_sem] theorem Tryd.k83 : kindT Tryd.prog 83 = .st [(0, 22, 1), (1, 23, 1)] := by kernel_rfl
@[go_sem] theorem Tryd.s83 : szT Tryd.prog 83 = some 2 := by kernel_rfl
@[go_sem] theorem Tryd.y83 : bytesT Tryd.prog 83 = some 48 := by kernel_rfl
@[go_sem] theorem Tryd.z83 : zeroT Tryd.prog 83 = some (.agg #[.slice none 0 0, .slice none 0 0]) := by kernel_rfl
@[go_sem] theorem Tryd.k84 : kindT Tryd.prog 84 = .st [(0, 22, 1), (1, 23, 1)] := by kernel_rfl
@[go_sem] theorem Tryd.s84 : szT Tryd.prog 84 = some 2 := by kernel_rfl
@[go_sem] theorem Tryd.y84 : bytesT Tryd.prog 84 = some 48 := by kernel_rfl
@[go_sem] theorem Tryd.z84 : zeroT Tryd.prog 84 = some (.agg #[.slice none 0 0, .slice none 0 0]) := by kernel_rfl
@[go_sem] theorem Tryd.k85 : kindT Tryd.prog 85 = .sl 9 := by kernel_rfl
@[go_sem] theorem Tryd.s85 : szT Tryd.prog 85 = some 1 := by kernel_rfl
@[go_sem] theorem Tryd.y85 : bytesT Tryd.prog 85 = some 24 := by kernel_rfl
@[go_sem] theorem Tryd.z85 : zeroT Tryd.prog 85 = some (.slice none 0 0) := by kernel_rfl
@[go_sem] theorem Tryd.k86 : kindT Tryd.prog 86 = .fnc := by kernel_rfl
@[go_sem] theorem Tryd.s86 : szT Tryd.prog 86 = some 1 := by kernel_rfl
@[go_sem] theorem Tryd.y86 : bytesT Tryd.prog 86 = some 8 := by kernel_rfl
@[go_sem] theorem Tryd.z86 : zeroT Tryd.prog 86 = some (.nilFunc) := by kernel_rfl
@[go_sem] theorem Tryd.k87 : kindT Tryd.prog 87 = .fnc := by kernel_rfl
@[go_sem] theorem Tryd.s87 : szT Tryd.prog 87 = some 1 := by kernel_rfl
@[go_sem] theorem Tryd.y87 : bytesT Tryd.prog 87 = some 8 := by kernel_rfl
@[go_sem] theorem Tryd.z87 : zeroT Tryd.prog 87 = some (.nilFunc) := by kernel_rfl
@[go_sem] theorem Tryd.k88 : kindT Tryd.prog 88 = .mp 9 4 := by kernel_rfl
@[go_sem] theorem Tryd.s88 : szT Tryd.prog 88 = some 1 := by kernel_rfl
@[go_sem] theorem Tryd.y88 : bytesT Tryd.prog 88 = some 8 := by kernel_rfl
@[go_sem] theorem Tryd.z88 : zeroT Tryd.prog 88 = some (.map none) := by kernel_rfl
@[go_sem] theorem Tryd.k89 : kindT Tryd.prog 89 = .st [(0, 88, 1), (1, 88, 1)] := by kernel_rfl
@[go_sem] theorem Tryd.s89 : szT Tryd.prog 89 = some 2 := by kernel_rfl
@[go_sem] theorem Tryd.y89 : bytesT Tryd.prog 89 = some 16 := by kernel_rfl
@[go_sem] theorem Tryd.z89 : zeroT Tryd.prog 89 = some (.agg #[.map none, .map none]) := by kernel_rfl
@[go_sem] theorem Tryd.k90 : kindT Tryd.prog 90 = .st [(0, 88, 1), (1, 88, 1)] := by kernel_rfl
@[go_sem] theorem Tryd.s90 : szT Tryd.prog 90 = some 2 := by kernel_rfl
@[go_sem] theorem Tryd.y90 : bytesT Tryd.prog 90 = some 16 := by kernel_rfl
@[go_sem] theorem Tryd.z90 : zeroT Tryd.prog 90 = some (.agg #[.map none, .map none]) := by kernel_rfl
@[go_sem] theorem Tryd.k91 : kindT Tryd.prog 91 = .fnc := by kernel_rfl
@[go_sem] theorem Tryd.s91 : szT Tryd.prog 91 = some 1 := by kernel_rfl
@[go_sem] theorem Tryd.y91 : bytesT Tryd.prog 91 = some 8 := by kernel_rfl
@[go_sem] theorem Tryd.z91 : zeroT Tryd.prog 91 = some (.nilFunc) := by kernel_rfl
@[go_sem] theorem Tryd.k92 : kindT Tryd.prog 92 = .p 3 := by kernel_rfl
@[go_sem] theorem Tryd.s92 : szT Tryd.prog 92 = some 1 := by kernel_rfl
@[go_sem] theorem Tryd.y92 : bytesT Tryd.prog 92 = some 8 := by kernel_rfl
@[go_sem] theorem Tryd.z92 : zeroT Tryd.prog 92 = some (.pointer none) := by kernel_rfl
@[go_sem] theorem Tryd.k93 : kindT Tryd.prog 93 = .st [(0, 9, 1), (1, 63, 2), (3, 54, 1), (4, 4, 1)] := by kernel_rfl
@[go_sem] theorem Tryd.s93 : szT Tryd.prog 93 = some 5 := by kernel_rfl
@[go_sem] theorem Tryd.y93 : bytesT Tryd.prog 93 = some 56 := by kernel_rfl
@[go_sem] theorem Tryd.z93 : zeroT Tryd.prog 93 = some (.agg #[.string ByteArray.empty, .nilIface, .pointer none, .pointer none, .bool false]) := by kernel_rfl
@[go_sem] theorem Tryd.k94 : kindT Tryd.prog 94 = .st [(0, 9, 1), (1, 63, 2), (3, 54, 1), (4, 4, 1)] := by kernel_rfl
@[go_sem] theorem Tryd.s94 : szT Tryd.prog 94 = some 5 := by kernel_rfl
@[go_sem] theorem Tryd.y94 : bytesT Tryd.prog 94 = some 56 := by kernel_rfl
@[go_sem] theorem Tryd.z94 : zeroT Tryd.prog 94 = some (.agg #[.string ByteArray.empty, .nilIface, .pointer none, .pointer none, .bool false]) := by kernel_rfl
@[go_sem] theorem Tryd.k95 : kindT Tryd.prog 95 = .st [(0, 94, 5), (5, 53, 1)] := by kernel_rfl
@[go_sem] theorem Tryd.s95 : szT Tryd.prog 95 = some 6 := by kernel_rfl
@[go_sem] theorem Tryd.y95 : bytesT Tryd.prog 95 = some 64 := by kernel_rfl
@[go_sem] theorem Tryd.z95 : zeroT Tryd.prog 95 = some (.agg #[.string ByteArray.empty, .nilIface, .pointer none, .pointer none, .bool false, .pointer none]) := by kernel_rfl
@[go_sem] theorem Tryd.k96 : kindT Tryd.prog 96 = .st [(0, 94, 5), (5, 53, 1)] := by kernel_rfl
@[go_sem] theorem Tryd.s96 : szT Tryd.prog 96 = some 6 := by kernel_rfl
@[go_sem] theorem Tryd.y96 : bytesT Tryd.prog 96 = some 64 := by kernel_rfl
@[go_sem] theorem Tryd.z96 : zeroT Tryd.prog 96 = some (.agg #[.string ByteArray.empty, .nilIface, .pointer none, .pointer none, .bool false, .pointer none]) := by kernel_rfl
@[go_sem] theorem Tryd.k97 : kindT Tryd.prog 97 = .fnc := by kernel_rfl
@[go_sem] theorem Tryd.s97 : szT Tryd.prog 97 = some 1 := by kernel_rfl
@[go_sem] theorem Tryd.y97 : bytesT Tryd.prog 97 = some 8 := by kernel_rfl
@[go_sem] theorem Tryd.z97 : zeroT Tryd.prog 97 = some (.nilFunc) := by kernel_rfl
@[go_sem] theorem Tryd.k98 : kindT Tryd.prog 98 = .ifc := by kernel_rfl
@[go_sem] theorem Tryd.s98 : szT Tryd.prog 98 = some 1 := by kernel_rfl
@[go_sem] theorem Tryd.y98 : bytesT Tryd.prog 98 = some 16 := by kernel_rfl
@[go_sem] theorem Tryd.z98 : zeroT Tryd.prog 98 = some (.nilIface) := by kernel_rfl
@[go_sem] theorem Tryd.k99 : kindT Tryd.prog 99 = .ifc := by kernel_rfl
@[go_sem] theorem Tryd.s99 : szT Tryd.prog 99 = some 1 := by kernel_rfl
@[go_sem] theorem Tryd.y99 : bytesT Tryd.prog 99 = some 16 := by kernel_rfl
@[go_sem] theorem Tryd.z99 : zeroT Tryd.prog 99 = some (.nilIface) := by kernel_rfl
@[go_sem] theorem Tryd.k100 : kindT Tryd.prog 100 = .sl 63 := by kernel_rfl
@[go_sem] theorem Tryd.s100 : szT Tryd.prog 100 = some 1 := by kernel_rfl
@[go_sem] theorem Tryd.y100 : bytesT Tryd.prog 100 = some 24 := by kernel_rfl
@[go_sem] theorem Tryd.z100 : zeroT Tryd.prog 100 = some (.slice none 0 0) := by kernel_rfl
@[go_sem] theorem Tryd.k101 : kindT Tryd.prog 101 = .st [(0, 99, 1), (1, 46, 6), (7, 53, 1), (8, 100, 1), (9, 54, 1)] := by kernel_rfl
@[go_sem] theorem Tryd.s101 : szT Tryd.prog 101 = some 10 := by kernel_rfl
@[go_sem] theorem Tryd.y101 : bytesT Tryd.prog 101 = some 144 := by kernel_rfl
@[go_sem] theorem Tryd.z101 : zeroT Tryd.prog 101 = some (.agg #[.nilIface, .int .i64 0, .int .i64 0, .string ByteArray.empty, .int .i64 0, .slice none 0 0, .slice none 0 0, .pointer none, .slice none 0 0, .pointer none]) := by kernel_rfl
@[go_sem] theorem Tryd.k102 : kindT Tryd.prog 102 = .st [(0, 99, 1), (1, 46, 6), (7, 53, 1), (8, 100, 1), (9, 54, 1)] := by kernel_rfl
@[go_sem] theorem Tryd.s102 : szT Tryd.prog 102 = some 10 := by kernel_rfl
@[go_sem] theorem Tryd.y102 : bytesT Tryd.prog 102 = some 144 := by kernel_rfl
@[go_sem] theorem Tryd.z102 : zeroT Tryd.prog 102 = some (.agg #[.nilIface, .int .i64 0, .int .i64 0, .string ByteArray.empty, .int .i64 0, .slice none 0 0, .slice none 0 0, .pointer none, .slice none 0 0, .pointer none]) := by kernel_rfl
@[go_sem] theorem Tryd.k104 : kindT Tryd.prog 104 = .fnc := by kernel_rfl
@[go_sem] theorem Tryd.s104 : szT Tryd.prog 104 = some 1 := by kernel_rfl
@[go_sem] theorem Tryd.y104 : bytesT Tryd.prog 104 = some 8 := by kernel_rfl
@[go_sem] theorem Tryd.z104 : zeroT Tryd.prog 104 = some (.nilFunc) := by kernel_rfl
@[go_sem] theorem Tryd.k105 : kindT Tryd.prog 105 = .fnc := by kernel_rfl
@[go_sem] theorem Tryd.s105 : szT Tryd.prog 105 = some 1 := by kernel_rfl
@[go_sem] theorem Tryd.y105 : bytesT Tryd.prog 105 = some 8 := by kernel_rfl
@[go_sem] theorem Tryd.z105 : zeroT Tryd.prog 105 = some (.nilFunc) := by kernel_rfl
@[go_sem] theorem Tryd.k106 : kindT Tryd.prog 106 = .st [(0, 46, 6), (6, 53, 1)] := by kernel_rfl
@[go_sem] theorem Tryd.s106 : szT Tryd.prog 106 = some 7 := by kernel_rfl
@[go_sem] theorem Tryd.y106 : bytesT Tryd.prog 106 = some 96 := by kernel_rfl
@[go_sem] theorem Tryd.z106 : zeroT Tryd.prog 106 = some (.agg #[.int .i64 0, .int .i64 0, .string ByteArray.empty, .int .i64 0, .slice none 0 0, .slice none 0 0, .pointer none]) := by kernel_rfl
@[go_sem] theorem Tryd.k107 : kindT Tryd.prog 107 = .st [(0, 46, 6), (6, 53, 1)] := by kernel_rfl
@[go_sem] theorem Tryd.s107 : szT Tryd.prog 107 = some 7 := by kernel_rfl
@[go_sem] theorem Tryd.y107 : bytesT Tryd.prog 107 = some 96 := by kernel_rfl
@[go_sem] theorem Tryd.z107 : zeroT Tryd.prog 107 = some (.agg #[.int .i64 0, .int .i64 0, .string ByteArray.empty, .int .i64 0, .slice none 0 0, .slice none 0 0, .pointer none]) := by kernel_rfl
@[go_sem] theorem Tryd.k108 : kindT Tryd.prog 108 = .fnc := by kernel_rfl
@[go_sem] theorem Tryd.s108 : szT Tryd.prog 108 = some 1 := by kernel_rfl
@[go_sem] theorem Tryd.y108 : bytesT Tryd.prog 108 = some 8 := by kernel_rfl
@[go_sem] theorem Tryd.z108 : zeroT Tryd.prog 108 = some (.nilFunc) := by kernel_rfl
@[go_sem] theorem Tryd.k109 : kindT Tryd.prog 109 = .fnc := by kernel_rfl
@[go_sem] theorem Tryd.s109 : szT Tryd.prog 109 = some 1 := by kernel_rfl
@[go_sem] theorem Tryd.y109 : bytesT Tryd.prog 109 = some 8 := by kernel_rfl
@[go_sem] theorem Tryd.z109 : zeroT Tryd.prog 109 = some (.nilFunc) := by kernel_rfl
@[go_sem] theorem Tryd.k110 : kindT Tryd.prog 110 = .st [] := by kernel_rfl
@[go_sem] theorem Tryd.s110 : szT Tryd.prog 110 = some 0 := by kernel_rfl
@[go_sem] theorem Tryd.y110 : bytesT Tryd.prog 110 = some 0 := by kernel_rfl
@[go_sem] theorem Tryd.z110 : zeroT Tryd.prog 110 = some (.agg #[]) := by kernel_rfl
@[go_sem] theorem Tryd.k111 : kindT Tryd.prog 111 = .st [] := by kernel_rfl
@[go_sem] theorem Tryd.s111 : szT Tryd.prog 111 = some 0 := by kernel_rfl
@[go_sem] theorem Tryd.y111 : bytesT Tryd.prog 111 = some 0 := by kernel_rfl
@[go_sem] theorem Tryd.z111 : zeroT Tryd.prog 111 = some (.agg #[]) := by kernel_rfl
@[go_sem] theorem Tryd.k112 : kindT Tryd.prog 112 = .st [] := by kernel_rfl
@[go_sem] theorem Tryd.s112 : szT Tryd.prog 112 = some 0 := by kernel_rfl
@[go_sem] theorem Tryd.y112 : bytesT Tryd.prog 112 = some 0 := by kernel_rfl
@[go_sem] theorem Tryd.z112 : zeroT Tryd.prog 112 = some (.agg #[]) := by kernel_rfl
@[go_sem] theorem Tryd.k113 : kindT Tryd.prog 113 = .st [(0, 46, 6), (6, 53, 1)] := by kernel_rfl
@[go_sem] theorem Tryd.s113 : szT Tryd.prog 113 = some 7 := by kernel_rfl
@[go_sem] theorem Tryd.y113 : bytesT Tryd.prog 113 = some 96 := by kernel_rfl
@[go_sem] theorem Tryd.z113 : zeroT Tryd.prog 113 = some (.agg #[.int .i64 0, .int .i64 0, .string ByteArray.empty, .int .i64 0, .slice none 0 0, .slice none 0 0, .pointer none]) := by kernel_rfl
@[go_sem] theorem Tryd.k114 : kindT Tryd.prog 114 = .sl 119 := by kernel_rfl
@[go_sem] theorem Tryd.s114 : szT Tryd.prog 114 = some 1 := by kernel_rfl
@[go_sem] theorem Tryd.y114 : bytesT Tryd.prog 114 = some 24 := by kernel_rfl
@[go_sem] theorem Tryd.z114 : zeroT Tryd.prog 114 = some (.slice none 0 0) := by kernel_rfl
@[go_sem] theorem Tryd.k115 : kindT Tryd.prog 115 = .st [(0, 9, 1), (1, 4, 1), (2, 114, 1)] := by kernel_rfl
@[go_sem] theorem Tryd.s115 : szT Tryd.prog 115 = some 3 := by kernel_rfl
@[go_sem] theorem Tryd.y115 : bytesT Tryd.prog 115 = some 48 := by kernel_rfl
@[go_sem] theorem Tryd.z115 : zeroT Tryd.prog 115 = some (.agg #[.string ByteArray.empty, .bool false, .slice none 0 0]) := by kernel_rfl
@[go_sem] theorem Tryd.k116 : kindT Tryd.prog 116 = .st [(0, 9, 1), (1, 4, 1), (2, 114, 1)] := by kernel_rfl
@[go_sem] theorem Tryd.s116 : szT Tryd.prog 116 = some 3 := by kernel_rfl
@[go_sem] theorem Tryd.y116 : bytesT Tryd.prog 116 = some 48 := by kernel_rfl
@[go_sem] theorem Tryd.z116 : zeroT Tryd.prog 116 = some (.agg #[.string ByteArray.empty, .bool false, .slice none 0 0]) := by kernel_rfl
@[go_sem] theorem Tryd.k117 : kindT Tryd.prog 117 = .sl 128 := by kernel_rfl
@[go_sem] theorem Tryd.s117 : szT Tryd.prog 117 = some 1 := by kernel_rfl
@[go_sem] theorem Tryd.y117 : bytesT Tryd.prog 117 = some 24 := by kernel_rfl
@[go_sem] theorem Tryd.z117 : zeroT Tryd.prog 117 = some (.slice none 0 0) := by kernel_rfl
@[go_sem] theorem Tryd.k118 : kindT Tryd.prog 118 = .st [(0, 9, 1), (1, 117, 1)] := by kernel_rfl
@[go_sem] theorem Tryd.s118 : szT Tryd.prog 118 = some 2 := by kernel_rfl
@[go_sem] theorem Tryd.y118 : bytesT Tryd.prog 118 = some 40 := by kernel_rfl
@[go_sem] theorem Tryd.z118 : zeroT Tryd.prog 118 = some (.agg #[.string ByteArray.empty, .slice none 0 0]) := by kernel_rfl
@[go_sem] theorem Tryd.k119 : kindT Tryd.prog 119 = .st [(0, 9, 1), (1, 117, 1)] := by kernel_rfl
@[go_sem] theorem Tryd.s119 : szT Tryd.prog 119 = some 2 := by kernel_rfl
@[go_sem] theorem Tryd.y119 : bytesT Tryd.prog 119 = some 40 := by kernel_rfl
@[go_sem] theorem Tryd.z119 : zeroT Tryd.prog 119 = some (.agg #[.string ByteArray.empty, .slice none 0 0]) := by kernel_rfl
@[go_sem] theorem Tryd.k120 : kindT Tryd.prog 120 = .st [(0, 85, 1), (1, 46, 6)] := by kernel_rfl
@[go_sem] theorem Tryd.s120 : szT Tryd.prog 120 = some 7 := by kernel_rfl
@[go_sem] theorem Tryd.y120 : bytesT Tryd.prog 120 = some 112 := by kernel_rfl
@[go_sem] theorem Tryd.z120 : zeroT Tryd.prog 120 = some (.agg #[.slice none 0 0, .int .i64 0, .int .i64 0, .string ByteArray.empty, .int .i64 0, .slice none 0 0, .slice none 0 0]) := by kernel_rfl
@[go_sem] theorem Tryd.k121 : kindT Tryd.prog 121 = .st [(0, 85, 1), (1, 46, 6)] := by kernel_rfl
@[go_sem] theorem Tryd.s121 : szT Tryd.prog 121 = some 7 := by kernel_rfl
@[go_sem] theorem Tryd.y121 : bytesT Tryd.prog 121 = some 112 := by kernel_rfl
@[go_sem] theorem Tryd.z121 : zeroT Tryd.prog 121 = some (.agg #[.slice none 0 0, .int .i64 0, .int .i64 0, .string ByteArray.empty, .int .i64 0, .slice none 0 0, .slice none 0 0]) := by kernel_rfl
@[go_sem] theorem Tryd.k122 : kindT Tryd.prog 122 = .p 5 := by kernel_rfl
@[go_sem] theorem Tryd.s122 : szT Tryd.prog 122 = some 1 := by kernel_rfl
@[go_sem] theorem Tryd.y122 : bytesT Tryd.prog 122 = some 8 := by kernel_rfl
@[go_sem] theorem Tryd.z122 : zeroT Tryd.prog 122 = some (.pointer none) := by kernel_rfl
@[go_sem] theorem Tryd.k123 : kindT Tryd.prog 123 = .fnc := by kernel_rfl
@[go_sem] theorem Tryd.s123 : szT Tryd.prog 123 = some 1 := by kernel_rfl
@[go_sem] theorem Tryd.y123 : bytesT Tryd.prog 123 = some 8 := by kernel_rfl
@[go_sem] theorem Tryd.z123 : zeroT Tryd.prog 123 = some (.nilFunc) := by kernel_rfl
@[go_sem] theorem Tryd.k124 : kindT Tryd.prog 124 = .fnc := by kernel_rfl
@[go_sem] theorem Tryd.s124 : szT Tryd.prog 124 = some 1 := by kernel_rfl
@[go_sem] theorem Tryd.y124 : bytesT Tryd.prog 124 = some 8 := by kernel_rfl
@[go_sem] theorem Tryd.z124 : zeroT Tryd.prog 124 = some (.nilFunc) := by kernel_rfl
@[go_sem] theorem Tryd.k125 : kindT Tryd.prog 125 = .fnc := by kernel_rfl
@[go_sem] theorem Tryd.s125 : szT Tryd.prog 125 = some 1 := by kernel_rfl
@[go_sem] theorem Tryd.y125 : bytesT Tryd.prog 125 = some 8 := by kernel_rfl
@[go_sem] theorem Tryd.z125 : zeroT Tryd.prog 125 = some (.nilFunc) := by kernel_rfl
@[go_sem] theorem Tryd.k126 : kindT Tryd.prog 126 = .fnc := by kernel_rfl
@[go_sem] theorem Tryd.s126 : szT Tryd.prog 126 = some 1 := by kernel_rfl
@[go_sem] theorem Tryd.y126 : bytesT Tryd.prog 126 = some 8 := by kernel_rfl
@[go_sem] theorem Tryd.z126 : zeroT Tryd.prog 126 = some (.nilFunc) := by kernel_rfl
@[go_sem] theorem Tryd.k127 : kindT Tryd.prog 127 = .st [(0, 3, 1), (1, 4, 1)] := by kernel_rfl
@[go_sem] theorem Tryd.s127 : szT Tryd.prog 127 = some 2 := by kernel_rfl
@[go_sem] theorem Tryd.y127 : bytesT Tryd.prog 127 = some 16 := by kernel_rfl
@[go_sem] theorem Tryd.z127 : zeroT Tryd.prog 127 = some (.agg #[.int .i64 0, .bool false]) := by kernel_rfl
@[go_sem] theorem Tryd.k128 : kindT Tryd.prog 128 = .st [(0, 3, 1), (1, 4, 1)] := by kernel_rfl
@[go_sem] theorem Tryd.s128 : szT Tryd.prog 128 = some 2 := by kernel_rfl
@[go_sem] theorem Tryd.y128 : bytesT Tryd.prog 128 = some 16 := by kernel_rfl
@[go_sem] theorem Tryd.z128 : zeroT Tryd.prog 128 = some (.agg #[.int .i64 0, .bool false]) := by kernel_rfl
@[go_sem] theorem Tryd.k129 : kindT Tryd.prog 129 = .fnc := by kernel_rfl
@[go_sem] theorem Tryd.s129 : szT Tryd.prog 129 = some 1 := by kernel_rfl
@[go_sem] theorem Tryd.y129 : bytesT Tryd.prog 129 = some 8 := by kernel_rfl
@[go_sem] theorem Tryd.z129 : zeroT Tryd.prog 129 = some (.nilFunc) := by kernel_rfl
@[go_sem] theorem Tryd.k130 : kindT Tryd.prog 130 = .fnc := by kernel_rfl
@[go_sem] theorem Tryd.s130 : szT Tryd.prog 130 = some 1 := by kernel_rfl
@[go_sem] theorem Tryd.y130 : bytesT Tryd.prog 130 = some 8 := by kernel_rfl
@[go_sem] theorem Tryd.z130 : zeroT Tryd.prog 130 = some (.nilFunc) := by kernel_rfl
@[go_sem] theorem Tryd.k131 : kindT Tryd.prog 131 = .fnc := by kernel_rfl
@[go_sem] theorem Tryd.s131 : szT Tryd.prog 131 = some 1 := by kernel_rfl
@[go_sem] theorem Tryd.y131 : bytesT Tryd.prog 131 = some 8 := by kernel_rfl
@[go_sem] theorem Tryd.z131 : zeroT Tryd.prog 131 = some (.nilFunc) := by kernel_rfl
@[go_sem] theorem Tryd.k132 : kindT Tryd.prog 132 = .fnc := by kernel_rfl
@[go_sem] theorem Tryd.s132 : szT Tryd.prog 132 = some 1 := by kernel_rfl
@[go_sem] theorem Tryd.y132 : bytesT Tryd.prog 132 = some 8 := by kernel_rfl
@[go_sem] theorem Tryd.z132 : zeroT Tryd.prog 132 = some (.nilFunc) := by kernel_rfl
@[go_sem] theorem Tryd.k133 : kindT Tryd.prog 133 = .fnc := by kernel_rfl
@[go_sem] theorem Tryd.s133 : szT Tryd.prog 133 = some 1 := by kernel_rfl
@[go_sem] theorem Tryd.y133 : bytesT Tryd.prog 133 = some 8 := by kernel_rfl
@[go_sem] theorem Tryd.z133 : zeroT Tryd.prog 133 = some (.nilFunc) := by kernel_rfl
@[go_sem] theorem Tryd.k134 : kindT Tryd.prog 134 = .fnc := by kernel_rfl
@[go_sem] theorem Tryd.s134 : szT Tryd.prog 134 = some 1 := by kernel_rfl
@[go_sem] theorem Tryd.y134 : bytesT Tryd.prog 134 = some 8 := by kernel_rfl
@[go_sem] theorem Tryd.z134 : zeroT Tryd.prog 134 = some (.nilFunc) := by kernel_rfl
@[go_sem] theorem Tryd.k135 : kindT Tryd.prog 135 = .fnc := by kernel_rfl
@[go_sem] theorem Tryd.s135 : szT Tryd.prog 135 = some 1 := by kernel_rfl
@[go_sem] theorem Tryd.y135 : bytesT Tryd.prog 135 = some 8 := by kernel_rfl
@[go_sem] theorem Tryd.z135 : zeroT Tryd.prog 135 = some (.nilFunc) := by kernel_rfl
@[go_sem] theorem Tryd.k136 : kindT Tryd.prog 136 = .fnc := by kernel_rfl
@[go_sem] theorem Tryd.s136 : szT Tryd.prog 136 = some 1 := by kernel_rfl
@[go_sem] theorem Tryd.y136 : bytesT Tryd.prog 136 = some 8 := by kernel_rfl
@[go_sem] theorem Tryd.z136 : zeroT Tryd.prog 136 = some (.nilFunc) := by kernel_rfl
@[go_sem] theorem Tryd.k137 : kindT Tryd.prog 137 = .fnc := by kernel_rfl
@[go_sem] theorem Tryd.s137 : szT Tryd.prog 137 = some 1 := by kernel_rfl
@[go_sem] theorem Tryd.y137 : bytesT Tryd.prog 137 = some 8 := by kernel_rfl
@[go_sem] theorem Tryd.z137 : zeroT Tryd.prog 137 = some (.nilFunc) := by kernel_rfl
@[go_sem] theorem Tryd.k138 : kindT Tryd.prog 138 = .st [] := by kernel_rfl
@[go_sem] theorem Tryd.s138 : szT Tryd.prog 138 = some 0 := by kernel_rfl
@[go_sem] theorem Tryd.y138 : bytesT Tryd.prog 138 = some 0 := by kernel_rfl
@[go_sem] theorem Tryd.z138 : zeroT Tryd.prog 138 = some (.agg #[]) := by kernel_rfl
@[go_sem] theorem Tryd.k140 : kindT Tryd.prog 140 = .fnc := by kernel_rfl
@[go_sem] theorem Tryd.s140 : szT Tryd.prog 140 = some 1 := by kernel_rfl
@[go_sem] theorem Tryd.y140 : bytesT Tryd.prog 140 = some 8 := by kernel_rfl
@[go_sem] theorem Tryd.z140 : zeroT Tryd.prog 140 = some (.nilFunc) := by kernel_rfl
@[go_sem] theorem Tryd.k141 : kindT Tryd.prog 141 = .fnc := by kernel_rfl
@[go_sem] theorem Tryd.s141 : szT Tryd.prog 141 = some 1 := by kernel_rfl
@[go_sem] theorem Tryd.y141 : bytesT Tryd.prog 141 = some 8 := by kernel_rfl
@[go_sem] theorem Tryd.z141 : zeroT Tryd.prog 141 = some (.nilFunc) := by kernel_rfl
@[go_sem] theorem Tryd.k142 : kindT Tryd.prog 142 = .fnc := by kernel_rfl
@[go_sem] theorem Tryd.s142 : szT Tryd.prog 142 = some 1 := by kernel_rfl
@[go_sem] theorem Tryd.y142 : bytesT Tryd.prog 142 = some 8 := by kernel_rfl
@[go_sem] theorem Tryd.z142 : zeroT Tryd.prog 142 = some (.nilFunc) := by kernel_rfl
@[go_sem] theorem Tryd.k143 : kindT Tryd.prog 143 = .fnc := by kernel_rfl
@[go_sem] theorem Tryd.s143 : szT Tryd.prog 143 = some 1 := by kernel_rfl
@[go_sem] theorem Tryd.y143 : bytesT Tryd.prog 143 = some 8 := by kernel_rfl
@[go_sem] theorem Tryd.z143 : zeroT Tryd.prog 143 = some (.nilFunc) := by kernel_rfl
@[go_sem] theorem Tryd.k144 : kindT Tryd.prog 144 = .fnc := by kernel_rfl
@[go_sem] theorem Tryd.s144 : szT Tryd.prog 144 = some 1 := by kernel_rfl
@[go_sem] theorem Tryd.y144 : bytesT Tryd.prog 144 = some 8 := by kernel_rfl
@[go_sem] theorem Tryd.z144 : zeroT Tryd.prog 144 = some (.nilFunc) := by kernel_rfl
@[go_sem] theorem Tryd.k145 : kindT Tryd.prog 145 = .fnc := by kernel_rfl
@[go_sem] theorem Tryd.s145 : szT Tryd.prog 145 = some 1 := by kernel_rfl
@[go_sem] theorem Tryd.y145 : bytesT Tryd.prog 145 = some 8 := by kernel_rfl
@[go_sem] theorem Tryd.z145 : zeroT Tryd.prog 145 = some (.nilFunc) := by kernel_rfl
@[go_sem] theorem Tryd.k146 : kindT Tryd.prog 146 = .fnc := by kernel_rfl
@[go_sem] theorem Tryd.s146 : szT Tryd.prog 146 = some 1 := by kernel_rfl
@[go_sem] theorem Tryd.y146 : bytesT Tryd.prog 146 = some 8 := by kernel_rfl
@[go_sem] theorem Tryd.z146 : zeroT Tryd.prog 146 = some (.nilFunc) := by kernel_rfl
@[go_sem] theorem Tryd.k147 : kindT Tryd.prog 147 = .st [(0, 3, 1), (1, 3, 1), (2, 100, 1)] := by kernel_rfl
@[go_sem] theorem Tryd.s147 : szT Tryd.prog 147 = some 3 := by kernel_rfl
@[go_sem] theorem Tryd.y147 : bytesT Tryd.prog 147 = some 40 := by kernel_rfl
@[go_sem] theorem Tryd.z147 : zeroT Tryd.prog 147 = some (.agg #[.int .i64 0, .int .i64 0, .slice none 0 0]) := by kernel_rfl
@[go_sem] theorem Tryd.k148 : kindT Tryd.prog 148 = .st [(0, 3, 1), (1, 3, 1), (2, 100, 1)] := by kernel_rfl
@[go_sem] theorem Tryd.s148 : szT Tryd.prog 148 = some 3 := by kernel_rfl
@[go_sem] theorem Tryd.y148 : bytesT Tryd.prog 148 = some 40 := by kernel_rfl
@[go_sem] theorem Tryd.z148 : zeroT Tryd.prog 148 = some (.agg #[.int .i64 0, .int .i64 0, .slice none 0 0]) := by kernel_rfl
@[go_sem] theorem Tryd.k149 : kindT Tryd.prog 149 = .st [] := by kernel_rfl
@[go_sem] theorem Tryd.s149 : szT Tryd.prog 149 = some 0 := by kernel_rfl
@[go_sem] theorem Tryd.y149 : bytesT Tryd.prog 149 = some 0 := by kernel_rfl
@[go_sem] theorem Tryd.z149 : zeroT Tryd.prog 149 = some (.agg #[]) := by kernel_rfl
@[go_sem] theorem Tryd.k150 : kindT Tryd.prog 150 = .ar 24 5 := by kernel_rfl
@[go_sem] theorem Tryd.s150 : szT Tryd.prog 150 = some 24 := by kernel_rfl
@[go_sem] theorem Tryd.y150 : bytesT Tryd.prog 150 = some 24 := by kernel_rfl
@[go_sem] theorem Tryd.z150 : zeroT Tryd.prog 150 = some (.agg #[.int .u8 0, .int .u8 0, .int .u8 0, .int .u8 0, .int .u8 0, .int .u8 0, .int .u8 0, .int .u8 0, .int .u8 0, .int .u8 0, .int .u8 0, .int .u8 0, .int .u8 0, .int .u8 0, .int .u8 0, .int .u8 0, .int .u8 0, .int .u8 0, .int .u8 0, .int .u8 0, .int .u8 0, .int .u8 0, .int .u8 0, .int .u8 0]) := by kernel_rfl
@[go_sem] theorem Tryd.k151 : kindT Tryd.prog 151 = .i .u64 := by kernel_rfl
@[go_sem] theorem Tryd.s151 : szT Tryd.prog 151 = some 1 := by kernel_rfl
@[go_sem] theorem Tryd.y151 : bytesT Tryd.prog 151 = some 8 := by kernel_rfl
@[go_sem] theorem Tryd.z151 : zeroT Tryd.prog 151 = some (.int .u64 0) := by kernel_rfl
@[go_sem] theorem Tryd.k152 : kindT Tryd.prog 152 = .fnc := by kernel_rfl
@[go_sem] theorem Tryd.s152 : szT Tryd.prog 152 = some 1 := by kernel_rfl
@[go_sem] theorem Tryd.y152 : bytesT Tryd.prog 152 = some 8 := by kernel_rfl
@[go_sem] theorem Tryd.z152 : zeroT Tryd.prog 152 = some (.nilFunc) := by kernel_rfl
@[go_sem] theorem Tryd.k153 : kindT Tryd.prog 153 = .fnc := by kernel_rfl
@[go_sem] theorem Tryd.s153 : szT Tryd.prog 153 = some 1 := by kernel_rfl
@[go_sem] theorem Tryd.y153 : bytesT Tryd.prog 153 = some 8 := by kernel_rfl
@[go_sem] theorem Tryd.z153 : zeroT Tryd.prog 153 = some (.nilFunc) := by kernel_rfl
@[go_sem] theorem Tryd.k155 : kindT Tryd.prog 155 = .fnc := by kernel_rfl
@[go_sem] theorem Tryd.s155 : szT Tryd.prog 155 = some 1 := by kernel_rfl
@[go_sem] theorem Tryd.y155 : bytesT Tryd.prog 155 = some 8 := by kernel_rfl
@[go_sem] theorem Tryd.z155 : zeroT Tryd.prog 155 = some (.nilFunc) := by kernel_rfl
@[go_sem] theorem Tryd.k156 : kindT Tryd.prog 156 = .fnc := by kernel_rfl
@[go_sem] theorem Tryd.s156 : szT Tryd.prog 156 = some 1 := by kernel_rfl
@[go_sem] theorem Tryd.y156 : bytesT Tryd.prog 156 = some 8 := by kernel_rfl
@[go_sem] theorem Tryd.z156 : zeroT Tryd.prog 156 = some (.nilFunc) := by kernel_rfl
@[go_sem] theorem Tryd.k157 : kindT Tryd.prog 157 = .fnc := by kernel_rfl
@[go_sem] theorem Tryd.s157 : szT Tryd.prog 157 = some 1 := by kernel_rfl
@[go_sem] theorem Tryd.y157 : bytesT Tryd.prog 157 = some 8 := by kernel_rfl
@[go_sem] theorem Tryd.z157 : zeroT Tryd.prog 157 = some (.nilFunc) := by kernel_rfl
@[go_sem] theorem Tryd.k158 : kindT Tryd.prog 158 = .mp 4 3 := by kernel_rfl
@[go_sem] theorem Tryd.s158 : szT Tryd.prog 158 = some 1 := by kernel_rfl
@[go_sem] theorem Tryd.y158 : bytesT Tryd.prog 158 = some 8 := by kernel_rfl
@[go_sem] theorem Tryd.z158 : zeroT Tryd.prog 158 = some (.map none) := by kernel_rfl
@[go_sem] theorem Tryd.k159 : kindT Tryd.prog 159 = .fnc := by kernel_rfl
@[go_sem] theorem Tryd.s159 : szT Tryd.prog 159 = some 1 := by kernel_rfl
@[go_sem] theorem Tryd.y159 : bytesT Tryd.prog 159 = some 8 := by kernel_rfl
@[go_sem] theorem Tryd.z159 : zeroT Tryd.prog 159 = some (.nilFunc) := by kernel_rfl
@[go_sem] theorem Tryd.k160 : kindT Tryd.prog 160 = .fnc := by kernel_rfl
@[go_sem] theorem Tryd.s160 : szT Tryd.prog 160 = some 1 := by kernel_rfl
@[go_sem] theorem Tryd.y160 : bytesT Tryd.prog 160 = some 8 := by kernel_rfl
@[go_sem] theorem Tryd.z160 : zeroT Tryd.prog 160 = some (.nilFunc) := by kernel_rfl
@[go_sem] theorem Tryd.k161 : kindT Tryd.prog 161 = .ar 20 151 := by kernel_rfl
@[go_sem] theorem Tryd.s161 : szT Tryd.prog 161 = some 20 := by kernel_rfl
@[go_sem] theorem Tryd.y161 : bytesT Tryd.prog 161 = some 160 := by kernel_rfl
@[go_sem] theorem Tryd.z161 : zeroT Tryd.prog 161 = some (.agg #[.int .u64 0, .int .u64 0, .int .u64 0, .int .u64 0, .int .u64 0, .int .u64 0, .int .u64 0, .int .u64 0, .int .u64 0, .int .u64 0, .int .u64 0, .int .u64 0, .int .u64 0, .int .u64 0, .int .u64 0, .int .u64 0, .int .u64 0, .int .u64 0, .int .u64 0, .int .u64 0]) := by kernel_rfl
@[go_sem] theorem Tryd.k162 : kindT Tryd.prog 162 = .i .u32 := by kernel_rfl
@[go_sem] theorem Tryd.s162 : szT Tryd.prog 162 = some 1 := by kernel_rfl
@[go_sem] theorem Tryd.y162 : bytesT Tryd.prog 162 = some 4 := by kernel_rfl
@[go_sem] theorem Tryd.z162 : zeroT Tryd.prog 162 = some (.int .u32 0) := by kernel_rfl
@[go_sem] theorem Tryd.k163 : kindT Tryd.prog 163 = .ar 65 5 := by kernel_rfl
@[go_sem] theorem Tryd.s163 : szT Tryd.prog 163 = some 65 := by kernel_rfl
@[go_sem] theorem Tryd.y163 : bytesT Tryd.prog 163 = some 65 := by kernel_rfl
@[go_sem] theorem Tryd.z163 : zeroT Tryd.prog 163 = some (.agg #[.int .u8 0, .int .u8 0, .int .u8 0, .int .u8 0, .int .u8 0, .int .u8 0, .int .u8 0, .int .u8 0, .int .u8 0, .int .u8 0, .int .u8 0, .int .u8 0, .int .u8 0, .int .u8 0, .int .u8 0, .int .u8 0, .int .u8 0, .int .u8 0, .int .u8 0, .int .u8 0, .int .u8 0, .int .u8 0, .int .u8 0, .int .u8 0, .int .u8 0, .int .u8 0, .int .u8 0, .int .u8 0, .int .u8 0, .int .u8 0, .int .u8 0, .int .u8 0, .int .u8 0, .int .u8 0, .int .u8 0, .int .u8 0, .int .u8 0, .int .u8 0, .int .u8 0, .int .u8 0, .int .u8 0, .int .u8 0, .int .u8 0, .int .u8 0, .int .u8 0, .int .u8 0, .int .u8 0, .int .u8 0, .int .u8 0, .int .u8 0, .int .u8 0, .int .u8 0, .int .u8 0, .int .u8 0, .int .u8 0, .int .u8 0, .int .u8 0, .int .u8 0, .int .u8 0, .int .u8 0, .int .u8 0, .int .u8 0, .int .u8 0, .int .u8 0, .int .u8 0]) := by kernel_rfl
@[go_sem] theorem Tryd.k164 : kindT Tryd.prog 164 = .i .u64 := by kernel_rfl
@[go_sem] theorem Tryd.s164 : szT Tryd.prog 164 = some 1 := by kernel_rfl
@[go_sem] theorem Tryd.y164 : bytesT Tryd.prog 164 = some 8 := by kernel_rfl
@[go_sem] theorem Tryd.z164 : zeroT Tryd.prog 164 = some (.int .u64 0) := by kernel_rfl
@[go_sem] theorem Tryd.k165 : kindT Tryd.prog 165 = .fnc := by kernel_rfl
@[go_sem] theorem Tryd.s165 : szT Tryd.prog 165 = some 1 := by kernel_rfl
@[go_sem] theorem Tryd.y165 : bytesT Tryd.prog 165 = some 8 := by kernel_rfl
@[go_sem] theorem Tryd.z165 : zeroT Tryd.prog 165 = some (.nilFunc) := by kernel_rfl
@[go_sem] theorem Tryd.k166 : kindT Tryd.prog 166 = .fnc := by kernel_rfl
@[go_sem] theorem Tryd.s166 : szT Tryd.prog 166 = some 1 := by kernel_rfl
@[go_sem] theorem Tryd.y166 : bytesT Tryd.prog 166 = some 8 := by kernel_rfl
@[go_sem] theorem Tryd.z166 : zeroT Tryd.prog 166 = some (.nilFunc) := by kernel_rfl
@[go_sem] theorem Tryd.k167 : kindT Tryd.prog 167 = .fnc := by kernel_rfl
@[go_sem] theorem Tryd.s167 : szT Tryd.prog 167 = some 1 := by kernel_rfl
@[go_sem] theorem Tryd.y167 : bytesT Tryd.prog 167 = some 8 := by kernel_rfl
@[go_sem] theorem Tryd.z167 : zeroT Tryd.prog 167 = some (.nilFunc) := by kernel_rfl
@[go_sem] theorem Tryd.k168 : kindT Tryd.prog 168 = .ar 32 5 := by kernel_rfl
@[go_sem] theorem Tryd.s168 : szT Tryd.prog 168 = some 32 := by kernel_rfl
@[go_sem] theorem Tryd.y168 : bytesT Tryd.prog 168 = some 32 := by kernel_rfl
@[go_sem] theorem Tryd.z168 : zeroT Tryd.prog 168 = some (.agg #[.int .u8 0, .int .u8 0, .int .u8 0, .int .u8 0, .int .u8 0, .int .u8 0, .int .u8 0, .int .u8 0, .int .u8 0, .int .u8 0, .int .u8 0, .int .u8 0, .int .u8 0, .int .u8 0, .int .u8 0, .int .u8 0, .int .u8 0, .int .u8 0, .int .u8 0, .int .u8 0, .int .u8 0, .int .u8 0, .int .u8 0, .int .u8 0, .int .u8 0, .int .u8 0, .int .u8 0, .int .u8 0, .int .u8 0, .int .u8 0, .int .u8 0, .int .u8 0]) := by kernel_rfl
@[go_sem] theorem Tryd.k169 : kindT Tryd.prog 169 = .ar 64 5 := by kernel_rfl
@[go_sem] theorem Tryd.s169 : szT Tryd.prog 169 = some 64 := by kernel_rfl
@[go_sem] theorem Tryd.y169 : bytesT Tryd.prog 169 = some 64 := by kernel_rfl
@[go_sem] theorem Tryd.z169 : zeroT Tryd.prog 169 = some (.agg #[.int .u8 0, .int .u8 0, .int .u8 0, .int .u8 0, .int .u8 0, .int .u8 0, .int .u8 0, .int .u8 0, .int .u8 0, .int .u8 0, .int .u8 0, .int .u8 0, .int .u8 0, .int .u8 0, .int .u8 0, .int .u8 0, .int .u8 0, .int .u8 0, .int .u8 0, .int .u8 0, .int .u8 0, .int .u8 0, .int .u8 0, .int .u8 0, .int .u8 0, .int .u8 0, .int .u8 0, .int .u8 0, .int .u8 0, .int .u8 0, .int .u8 0, .int .u8 0, .int .u8 0, .int .u8 0, .int .u8 0, .int .u8 0, .int .u8 0, .int .u8 0, .int .u8 0, .int .u8 0, .int .u8 0, .int .u8 0, .int .u8 0, .int .u8 0, .int .u8 0, .int .u8 0, .int .u8 0, .int .u8 0, .int .u8 0, .int .u8 0, .int .u8 0, .int .u8 0, .int .u8 0, .int .u8 0, .int .u8 0, .int .u8 0, .int .u8 0, .int .u8 0, .int .u8 0, .int .u8 0, .int .u8 0, .int .u8 0, .int .u8 0, .int .u8 0]) := by kernel_rfl
@[go_sem] theorem Tryd.k171 : kindT Tryd.prog 171 = .fnc := by kernel_rfl
@[go_sem] theorem Tryd.s171 : szT Tryd.prog 171 = some 1 := by kernel_rfl
@[go_sem] theorem Tryd.y171 : bytesT Tryd.prog 171 = some 8 := by kernel_rfl
@[go_sem] theorem Tryd.z171 : zeroT Tryd.prog 171 = some (.nilFunc) := by kernel_rfl
@[go_sem] theorem Tryd.k172 : kindT Tryd.prog 172 = .st [(0, 17, 1), (1, 17, 1), (2, 17, 1), (3, 9, 1)] := by kernel_rfl
@[go_sem] theorem Tryd.s172 : szT Tryd.prog 172 = some 4 := by kernel_rfl
@[go_sem] theorem Tryd.y172 : bytesT Tryd.prog 172 = some 40 := by kernel_rfl
@[go_sem] theorem Tryd.z172 : zeroT Tryd.prog 172 = some (.agg #[.pointer none, .pointer none, .pointer none, .string ByteArray.empty]) := by kernel_rfl
@[go_sem] theorem Tryd.k173 : kindT Tryd.prog 173 = .st [(0, 17, 1), (1, 17, 1), (2, 17, 1), (3, 9, 1)] := by kernel_rfl
@[go_sem] theorem Tryd.s173 : szT Tryd.prog 173 = some 4 := by kernel_rfl
@[go_sem] theorem Tryd.y173 : bytesT Tryd.prog 173 = some 40 := by kernel_rfl
@[go_sem] theorem Tryd.z173 : zeroT Tryd.prog 173 = some (.agg #[.pointer none, .pointer none, .pointer none, .string ByteArray.empty]) := by kernel_rfl
@[go_sem] theorem Tryd.k174 : kindT Tryd.prog 174 = .ar 0 16 := by kernel_rfl
@[go_sem] theorem Tryd.s174 : szT Tryd.prog 174 = some 0 := by kernel_rfl
@[go_sem] theorem Tryd.y174 : bytesT Tryd.prog 174 = some 0 := by kernel_rfl
@[go_sem] theorem Tryd.z174 : zeroT Tryd.prog 174 = some (.agg #[]) := by kernel_rfl
@[go_sem] theorem Tryd.k175 : kindT Tryd.prog 175 = .st [(0, 174, 0)] := by kernel_rfl
@[go_sem] theorem Tryd.s175 : szT Tryd.prog 175 = some 0 := by kernel_rfl
@[go_sem] theorem Tryd.y175 : bytesT Tryd.prog 175 = some 0 := by kernel_rfl
@[go_sem] theorem Tryd.z175 : zeroT Tryd.prog 175 = some (.agg #[]) := by kernel_rfl
@[go_sem] theorem Tryd.k176 : kindT Tryd.prog 176 = .st [(0, 174, 0)] := by kernel_rfl
@[go_sem] theorem Tryd.s176 : szT Tryd.prog 176 = some 0 := by kernel_rfl
@[go_sem] theorem Tryd.y176 : bytesT Tryd.prog 176 = some 0 := by kernel_rfl
@[go_sem] theorem Tryd.z176 : zeroT Tryd.prog 176 = some (.agg #[]) := by kernel_rfl
@[go_sem] theorem Tryd.k177 : kindT Tryd.prog 177 = .fnc := by kernel_rfl
@[go_sem] theorem Tryd.s177 : szT Tryd.prog 177 = some 1 := by kernel_rfl
@[go_sem] theorem Tryd.y177 : bytesT Tryd.prog 177 = some 8 := by kernel_rfl
@[go_sem] theorem Tryd.z177 : zeroT Tryd.prog 177 = some (.nilFunc) := by kernel_rfl
@[go_sem] theorem Tryd.k178 : kindT Tryd.prog 178 = .i .u8 := by kernel_rfl
@[go_sem] theorem Tryd.s178 : szT Tryd.prog 178 = some 1 := by kernel_rfl
@[go_sem] theorem Tryd.y178 : bytesT Tryd.prog 178 = some 1 := by kernel_rfl
@[go_sem] theorem Tryd.z178 : zeroT Tryd.prog 178 = some (.int .u8 0) := by kernel_rfl
@[go_sem] theorem Tryd.k179 : kindT Tryd.prog 179 = .i .u8 := by kernel_rfl
@[go_sem] theorem Tryd.s179 : szT Tryd.prog 179 = some 1 := by kernel_rfl
@[go_sem] theorem Tryd.y179 : bytesT Tryd.prog 179 = some 1 := by kernel_rfl
@[go_sem] theorem Tryd.z179 : zeroT Tryd.prog 179 = some (.int .u8 0) := by kernel_rfl
@[go_sem] theorem Tryd.k180 : kindT Tryd.prog 180 = .fnc := by kernel_rfl
@[go_sem] theorem Tryd.s180 : szT Tryd.prog 180 = some 1 := by kernel_rfl
@[go_sem] theorem Tryd.y180 : bytesT Tryd.prog 180 = some 8 := by kernel_rfl
@[go_sem] theorem Tryd.z180 : zeroT Tryd.prog 180 = some (.nilFunc) := by kernel_rfl
@[go_sem] theorem Tryd.k181 : kindT Tryd.prog 181 = .i .i32 := by kernel_rfl
@[go_sem] theorem Tryd.s181 : szT Tryd.prog 181 = some 1 := by kernel_rfl
@[go_sem] theorem Tryd.y181 : bytesT Tryd.prog 181 = some 4 := by kernel_rfl
@[go_sem] theorem Tryd.z181 : zeroT Tryd.prog 181 = some (.int .i32 0) := by kernel_rfl
@[go_sem] theorem Tryd.k182 : kindT Tryd.prog 182 = .i .i32 := by kernel_rfl
@[go_sem] theorem Tryd.s182 : szT Tryd.prog 182 = some 1 := by kernel_rfl
@[go_sem] theorem Tryd.y182 : bytesT Tryd.prog 182 = some 4 := by kernel_rfl
@[go_sem] theorem Tryd.z182 : zeroT Tryd.prog 182 = some (.int .i32 0) := by kernel_rfl
@[go_sem] theorem Tryd.k183 : kindT Tryd.prog 183 = .st [(0, 12, 1), (1, 12, 1), (2, 162, 1), (3, 178, 1), (4, 5, 1), (5, 5, 1), (6, 179, 1), (7, 180, 1), (8, 122, 1), (9, 181, 1), (10, 182, 1)] := by kernel_rfl
@[go_sem] theorem Tryd.s183 : szT Tryd.prog 183 = some 11 := by kernel_rfl
@[go_sem] theorem Tryd.y183 : bytesT Tryd.prog 183 = some 48 := by kernel_rfl
@[go_sem] theorem Tryd.z183 : zeroT Tryd.prog 183 = some (.agg #[.int .u64 0, .int .u64 0, .int .u32 0, .int .u8 0, .int .u8 0, .int .u8 0, .int .u8 0, .nilFunc, .pointer none, .int .i32 0, .int .i32 0]) := by kernel_rfl
@[go_sem] theorem Tryd.k184 : kindT Tryd.prog 184 = .st [(0, 12, 1), (1, 12, 1), (2, 162, 1), (3, 178, 1), (4, 5, 1), (5, 5, 1), (6, 179, 1), (7, 180, 1), (8, 122, 1), (9, 181, 1), (10, 182, 1)] := by kernel_rfl
@[go_sem] theorem Tryd.s184 : szT Tryd.prog 184 = some 11 := by kernel_rfl
@[go_sem] theorem Tryd.y184 : bytesT Tryd.prog 184 = some 48 := by kernel_rfl
@[go_sem] theorem Tryd.z184 : zeroT Tryd.prog 184 = some (.agg #[.int .u64 0, .int .u64 0, .int .u32 0, .int .u8 0, .int .u8 0, .int .u8 0, .int .u8 0, .nilFunc, .pointer none, .int .i32 0, .int .i32 0]) := by kernel_rfl
@[go_sem] theorem Tryd.e59 : eqT Tryd.prog 59 = true := by kernel_rfl
@[go_sem] theorem Tryd.e111 : eqT Tryd.prog 111 = true := by kernel_rfl
@[go_sem] theorem Tryd.e112 : eqT Tryd.prog 112 = true := by kernel_rfl
@[go_sem] theorem Tryd.e128 : eqT Tryd.prog 128 = true := by kernel_rfl
@[go_sem] theorem Tryd.e138 : eqT Tryd.prog 138 = true := by kernel_rfl
@[go_sem] theorem Tryd.e149 : eqT Tryd.prog 149 = true := by kernel_rfl
attribute [go_sem] Tryd.ntmps3 Tryd.results3
attribute [go_sem] Tryd.ntmps4 Tryd.results4
attribute [go_sem] Tryd.ntmps5 Tryd.results5
attribute [go_sem] Tryd.ntmps6 Tryd.results6
attribute [go_sem] Tryd.ntmps7 Tryd.results7
attribute [go_sem] Tryd.ntmps8 Tryd.results8
attribute [go_sem] Tryd.ntmps9 Tryd.results9
attribute [go_sem] Tryd.ntmps10 Tryd.results10
attribute [go_sem] Tryd.ntmps11 Tryd.results11
attribute [go_sem] Tryd.ntmps12 Tryd.results12
attribute [go_sem] Tryd.ntmps13 Tryd.results13
attribute [go_sem] Tryd.ntmps14 Tryd.results14
attribute [go_sem] Tryd.ntmps15 Tryd.results15
attribute [go_sem] Tryd.ntmps16 Tryd.results16
attribute [go_sem] Tryd.ntmps17 Tryd.results17
attribute [go_sem] Tryd.ntmps18 Tryd.results18
attribute [go_sem] Tryd.ntmps19 Tryd.results19
attribute [go_sem] Tryd.ntmps20 Tryd.results20
attribute [go_sem] Tryd.ntmps21 Tryd.results21
attribute [go_sem] Tryd.ntmps22 Tryd.results22
attribute [go_sem] Tryd.ntmps23 Tryd.results23
attribute [go_sem] Tryd.ntmps24 Tryd.results24
attribute [go_sem] Tryd.ntmps25 Tryd.results25
attribute [go_sem] Tryd.ntmps26 Tryd.results26
attribute [go_sem] Tryd.ntmps27 Tryd.results27
attribute [go_sem] Tryd.ntmps28 Tryd.results28
attribute [go_sem] Tryd.ntmps29 Tryd.results29
attribute [go_sem] Tryd.ntmps30 Tryd.results30
attribute [go_sem] Tryd.ntmps31 Tryd.results31
attribute [go_sem] Tryd.ntmps32 Tryd.results32
attribute [go_sem] Tryd.ntmps33 Tryd.results33
attribute [go_sem] Tryd.ntmps34 Tryd.results34
attribute [go_sem] Tryd.ntmps35 Tryd.results35
attribute [go_sem] Tryd.ntmps36 Tryd.results36
attribute [go_sem] Tryd.ntmps37 Tryd.results37
attribute [go_sem] Tryd.ntmps38 Tryd.results38
attribute [go_sem] Tryd.ntmps39 Tryd.results39
attribute [go_sem] Tryd.ntmps40 Tryd.results40
attribute [go_sem] Tryd.ntmps41 Tryd.results41
attribute [go_sem] Tryd.ntmps42 Tryd.results42
attribute [go_sem] Tryd.ntmps43 Tryd.results43
attribute [go_sem] Tryd.ntmps44 Tryd.results44
attribute [go_sem] Tryd.ntmps45 Tryd.results45
attribute [go_sem] Tryd.ntmps46 Tryd.results46
attribute [go_sem] Tryd.ntmps47 Tryd.results47
attribute [go_sem] Tryd.ntmps48 Tryd.results48
attribute [go_sem] Tryd.ntmps49 Tryd.results49
attribute [go_sem] Tryd.ntmps50 Tryd.results50
attribute [go_sem] Tryd.ntmps51 Tryd.results51
attribute [go_sem] Tryd.ntmps52 Tryd.results52
attribute [go_sem] Tryd.ntmps53 Tryd.results53
attribute [go_sem] Tryd.ntmps54 Tryd.results54
attribute [go_sem] Tryd.ntmps55 Tryd.results55
attribute [go_sem] Tryd.ntmps56 Tryd.results56
attribute [go_sem] Tryd.ntmps57 Tryd.results57
attribute [go_sem] Tryd.ntmps58 Tryd.results58
attribute [go_sem] Tryd.ntmps59 Tryd.results59
attribute [go_sem] Tryd.ntmps60 Tryd.results60
attribute [go_sem] Tryd.ntmps61 Tryd.results61
attribute [go_sem] Tryd.ntmps62 Tryd.results62
attribute [go_sem] Tryd.ntmps63 Tryd.results63
attribute [go_sem] Tryd.ntmps64 Tryd.results64
attribute [go_sem] Tryd.ntmps65 Tryd.results65
attribute [go_sem] Tryd.ntmps66 Tryd.results66
attribute [go_sem] Tryd.ntmps67 Tryd.results67
attribute [go_sem] Tryd.ntmps68 Tryd.results68
attribute [go_sem] Tryd.ntmps69 Tryd.results69
attribute [go_sem] Tryd.ntmps70 Tryd.results70
attribute [go_sem] Tryd.ntmps71 Tryd.results71
attribute [go_sem] Tryd.ntmps72 Tryd.results72
attribute [go_sem] Tryd.ntmps73 Tryd.results73
attribute [go_sem] Tryd.ntmps74 Tryd.results74
attribute [go_sem] Tryd.ntmps75 Tryd.results75
attribute [go_sem] Tryd.ntmps76 Tryd.results76
attribute [go_sem] Tryd.ntmps77 Tryd.results77
attribute [go_sem] Tryd.ntmps78 Tryd.results78
attribute [go_sem] Tryd.ntmps79 Tryd.results79
attribute [go_sem] Tryd.ntmps80 Tryd.results80
attribute [go_sem] Tryd.ntmps81 Tryd.results81
attribute [go_sem] Tryd.ntmps82 Tryd.results82
attribute [go_sem] Tryd.ntmps83 Tryd.results83
attribute [go_sem] Tryd.ntmps84 Tryd.results84
attribute [go_sem] Tryd.ntmps85 Tryd.results85
attribute [go_sem] Tryd.ntmps86 Tryd.results86
attribute [go_sem] Tryd.ntmps87 Tryd.results87
attribute [go_sem] Tryd.ntmps88 Tryd.results88
attribute [go_sem] Tryd.ntmps89 Tryd.results89
attribute [go_sem] Tryd.ntmps90 Tryd.results90
attribute [go_sem] Tryd.ntmps91 Tryd.results91
attribute [go_sem] Tryd.ntmps92 Tryd.results92
attribute [go_sem] Tryd.ntmps93 Tryd.results93
attribute [go_sem] Tryd.ntmps94 Tryd.results94
attribute [go_sem] Tryd.ntmps95 Tryd.results95
attribute [go_sem] Tryd.ntmps96 Tryd.results96
attribute [go_sem] Tryd.ntmps97 Tryd.results97
attribute [go_sem] Tryd.ntmps98 Tryd.results98
attribute [go_sem] Tryd.ntmps99 Tryd.results99
attribute [go_sem] Tryd.ntmps100 Tryd.results100
attribute [go_sem] Tryd.ntmps101 Tryd.results101
attribute [go_sem] Tryd.ntmps102 Tryd.results102
attribute [go_sem] Tryd.ntmps103 Tryd.results103
attribute [go_sem] Tryd.ntmps104 Tryd.results104
attribute [go_sem] Tryd.ntmps105 Tryd.results105
attribute [go_sem] Tryd.ntmps106 Tryd.results106
attribute [go_sem] Tryd.ntmps107 Tryd.results107
attribute [go_sem] Tryd.ntmps108 Tryd.results108
attribute [go_sem] Tryd.ntmps109 Tryd.results109
attribute [go_sem] Tryd.ntmps110 Tryd.results110
attribute [go_sem] Int.natCast_nonneg Int.toNat_natCast Int.toNat_zero Int.toNat_one not_true_eq_false false_or or_self Option.isSome_some Bool.and_self Nat.zero_add Nat.mul_one List.length_map List.take_length Int.cast_ofNat_Int Int.le_refl Nat.le_refl List.append_eq ne_eq not_false_eq_true beq_true beq_false BEq.rfl Bool.not_true Bool.not_false decide_true decide_false exists_prop
end Go.Proofs.YtkoachnlimebaaaDoor
