/- Closed facts on the types of this translation. Written by a program of mine (alty.py). -/
import Derived.Test.YtkoachnlimebaaaGreatDoorProg
import Derived.Test.YtkoachnlimebaaaGreatDoorCAL17
import Derived.KernelRfl
namespace Go.Proofs.YtkoachnlimebaaaGreatDoor
open Go.AL
@[go_sem] theorem Tryz.k1 : kindT Tryz.prog 1 = .fnc := by kernel_rfl
@[go_sem] theorem Tryz.s1 : szT Tryz.prog 1 = some 1 := by kernel_rfl
@[go_sem] theorem Tryz.y1 : bytesT Tryz.prog 1 = some 8 := by kernel_rfl
@[go_sem] theorem Tryz.z1 : zeroT Tryz.prog 1 = some (.nilFunc) := by kernel_rfl
@[go_sem] theorem Tryz.k2 : kindT Tryz.prog 2 = .i .i64 := by kernel_rfl
@[go_sem] theorem Tryz.s2 : szT Tryz.prog 2 = some 1 := by kernel_rfl
@[go_sem] theorem Tryz.y2 : bytesT Tryz.prog 2 = some 8 := by kernel_rfl
@[go_sem] theorem Tryz.z2 : zeroT Tryz.prog 2 = some (.int .i64 0) := by kernel_rfl
@[go_sem] theorem Tryz.k3 : kindT Tryz.prog 3 = .i .i64 := by kernel_rfl
@[go_sem] theorem Tryz.s3 : szT Tryz.prog 3 = some 1 := by kernel_rfl
@[go_sem] theorem Tryz.y3 : bytesT Tryz.prog 3 = some 8 := by kernel_rfl
@[go_sem] theorem Tryz.z3 : zeroT Tryz.prog 3 = some (.int .i64 0) := by kernel_rfl
@[go_sem] theorem Tryz.k4 : kindT Tryz.prog 4 = .b := by kernel_rfl
@[go_sem] theorem Tryz.s4 : szT Tryz.prog 4 = some 1 := by kernel_rfl
@[go_sem] theorem Tryz.y4 : bytesT Tryz.prog 4 = some 1 := by kernel_rfl
@[go_sem] theorem Tryz.z4 : zeroT Tryz.prog 4 = some (.bool false) := by kernel_rfl
@[go_sem] theorem Tryz.k5 : kindT Tryz.prog 5 = .i .u8 := by kernel_rfl
@[go_sem] theorem Tryz.s5 : szT Tryz.prog 5 = some 1 := by kernel_rfl
@[go_sem] theorem Tryz.y5 : bytesT Tryz.prog 5 = some 1 := by kernel_rfl
@[go_sem] theorem Tryz.z5 : zeroT Tryz.prog 5 = some (.int .u8 0) := by kernel_rfl
@[go_sem] theorem Tryz.k9 : kindT Tryz.prog 9 = .s := by kernel_rfl
@[go_sem] theorem Tryz.s9 : szT Tryz.prog 9 = some 1 := by kernel_rfl
@[go_sem] theorem Tryz.y9 : bytesT Tryz.prog 9 = some 16 := by kernel_rfl
@[go_sem] theorem Tryz.z9 : zeroT Tryz.prog 9 = some (.string ByteArray.empty) := by kernel_rfl
@[go_sem] theorem Tryz.k20 : kindT Tryz.prog 20 = .ifc := by kernel_rfl
@[go_sem] theorem Tryz.s20 : szT Tryz.prog 20 = some 1 := by kernel_rfl
@[go_sem] theorem Tryz.y20 : bytesT Tryz.prog 20 = some 16 := by kernel_rfl
@[go_sem] theorem Tryz.z20 : zeroT Tryz.prog 20 = some (.nilIface) := by kernel_rfl
@[go_sem] theorem Tryz.k22 : kindT Tryz.prog 22 = .sl 202 := by kernel_rfl
@[go_sem] theorem Tryz.s22 : szT Tryz.prog 22 = some 1 := by kernel_rfl
@[go_sem] theorem Tryz.y22 : bytesT Tryz.prog 22 = some 24 := by kernel_rfl
@[go_sem] theorem Tryz.z22 : zeroT Tryz.prog 22 = some (.slice none 0 0) := by kernel_rfl
@[go_sem] theorem Tryz.k23 : kindT Tryz.prog 23 = .sl 66 := by kernel_rfl
@[go_sem] theorem Tryz.s23 : szT Tryz.prog 23 = some 1 := by kernel_rfl
@[go_sem] theorem Tryz.y23 : bytesT Tryz.prog 23 = some 24 := by kernel_rfl
@[go_sem] theorem Tryz.z23 : zeroT Tryz.prog 23 = some (.slice none 0 0) := by kernel_rfl
@[go_sem] theorem Tryz.k24 : kindT Tryz.prog 24 = .st [(0, 22, 1), (1, 23, 1)] := by kernel_rfl
@[go_sem] theorem Tryz.s24 : szT Tryz.prog 24 = some 2 := by kernel_rfl
@[go_sem] theorem Tryz.y24 : bytesT Tryz.prog 24 = some 48 := by kernel_rfl
@[go_sem] theorem Tryz.z24 : zeroT Tryz.prog 24 = some (.agg #[.slice none 0 0, .slice none 0 0]) := by kernel_rfl
@[go_sem] theorem Tryz.k25 : kindT Tryz.prog 25 = .st [(0, 22, 1), (1, 23, 1)] := by kernel_rfl
@[go_sem] theorem Tryz.s25 : szT Tryz.prog 25 = some 2 := by kernel_rfl
@[go_sem] theorem Tryz.y25 : bytesT Tryz.prog 25 = some 48 := by kernel_rfl
@[go_sem] theorem Tryz.z25 : zeroT Tryz.prog 25 = some (.agg #[.slice none 0 0, .slice none 0 0]) := by kernel_rfl
@[go_sem] theorem Tryz.k26 : kindT Tryz.prog 26 = .sl 3 := by kernel_rfl
@[go_sem] theorem Tryz.s26 : szT Tryz.prog 26 = some 1 := by kernel_rfl
@[go_sem] theorem Tryz.y26 : bytesT Tryz.prog 26 = some 24 := by kernel_rfl
@[go_sem] theorem Tryz.z26 : zeroT Tryz.prog 26 = some (.slice none 0 0) := by kernel_rfl
@[go_sem] theorem Tryz.k29 : kindT Tryz.prog 29 = .st [(0, 3, 1), (1, 3, 1), (2, 26, 1), (3, 3, 1)] := by kernel_rfl
@[go_sem] theorem Tryz.s29 : szT Tryz.prog 29 = some 4 := by kernel_rfl
@[go_sem] theorem Tryz.y29 : bytesT Tryz.prog 29 = some 48 := by kernel_rfl
@[go_sem] theorem Tryz.z29 : zeroT Tryz.prog 29 = some (.agg #[.int .i64 0, .int .i64 0, .slice none 0 0, .int .i64 0]) := by kernel_rfl
@[go_sem] theorem Tryz.k30 : kindT Tryz.prog 30 = .st [(0, 3, 1), (1, 3, 1), (2, 26, 1), (3, 3, 1)] := by kernel_rfl
@[go_sem] theorem Tryz.s30 : szT Tryz.prog 30 = some 4 := by kernel_rfl
@[go_sem] theorem Tryz.y30 : bytesT Tryz.prog 30 = some 48 := by kernel_rfl
@[go_sem] theorem Tryz.z30 : zeroT Tryz.prog 30 = some (.agg #[.int .i64 0, .int .i64 0, .slice none 0 0, .int .i64 0]) := by kernel_rfl
@[go_sem] theorem Tryz.k31 : kindT Tryz.prog 31 = .i .i64 := by kernel_rfl
@[go_sem] theorem Tryz.s31 : szT Tryz.prog 31 = some 1 := by kernel_rfl
@[go_sem] theorem Tryz.y31 : bytesT Tryz.prog 31 = some 8 := by kernel_rfl
@[go_sem] theorem Tryz.z31 : zeroT Tryz.prog 31 = some (.int .i64 0) := by kernel_rfl
@[go_sem] theorem Tryz.k60 : kindT Tryz.prog 60 = .sl 77 := by kernel_rfl
@[go_sem] theorem Tryz.s60 : szT Tryz.prog 60 = some 1 := by kernel_rfl
@[go_sem] theorem Tryz.y60 : bytesT Tryz.prog 60 = some 24 := by kernel_rfl
@[go_sem] theorem Tryz.z60 : zeroT Tryz.prog 60 = some (.slice none 0 0) := by kernel_rfl
@[go_sem] theorem Tryz.k61 : kindT Tryz.prog 61 = .sl 64 := by kernel_rfl
@[go_sem] theorem Tryz.s61 : szT Tryz.prog 61 = some 1 := by kernel_rfl
@[go_sem] theorem Tryz.y61 : bytesT Tryz.prog 61 = some 24 := by kernel_rfl
@[go_sem] theorem Tryz.z61 : zeroT Tryz.prog 61 = some (.slice none 0 0) := by kernel_rfl
@[go_sem] theorem Tryz.k62 : kindT Tryz.prog 62 = .sl 177 := by kernel_rfl
@[go_sem] theorem Tryz.s62 : szT Tryz.prog 62 = some 1 := by kernel_rfl
@[go_sem] theorem Tryz.y62 : bytesT Tryz.prog 62 = some 24 := by kernel_rfl
@[go_sem] theorem Tryz.z62 : zeroT Tryz.prog 62 = some (.slice none 0 0) := by kernel_rfl
@[go_sem] theorem Tryz.k63 : kindT Tryz.prog 63 = .st [(0, 3, 1), (1, 3, 1), (2, 9, 1), (3, 3, 1), (4, 61, 1), (5, 62, 1)] := by kernel_rfl
@[go_sem] theorem Tryz.s63 : szT Tryz.prog 63 = some 6 := by kernel_rfl
@[go_sem] theorem Tryz.y63 : bytesT Tryz.prog 63 = some 88 := by kernel_rfl
@[go_sem] theorem Tryz.z63 : zeroT Tryz.prog 63 = some (.agg #[.int .i64 0, .int .i64 0, .string ByteArray.empty, .int .i64 0, .slice none 0 0, .slice none 0 0]) := by kernel_rfl
@[go_sem] theorem Tryz.k64 : kindT Tryz.prog 64 = .st [(0, 3, 1), (1, 3, 1), (2, 9, 1), (3, 3, 1), (4, 61, 1), (5, 62, 1)] := by kernel_rfl
@[go_sem] theorem Tryz.s64 : szT Tryz.prog 64 = some 6 := by kernel_rfl
@[go_sem] theorem Tryz.y64 : bytesT Tryz.prog 64 = some 88 := by kernel_rfl
@[go_sem] theorem Tryz.z64 : zeroT Tryz.prog 64 = some (.agg #[.int .i64 0, .int .i64 0, .string ByteArray.empty, .int .i64 0, .slice none 0 0, .slice none 0 0]) := by kernel_rfl
@[go_sem] theorem Tryz.k65 : kindT Tryz.prog 65 = .st [(0, 9, 1), (1, 60, 1), (2, 3, 1), (3, 64, 6)] := by kernel_rfl
@[go_sem] theorem Tryz.s65 : szT Tryz.prog 65 = some 9 := by kernel_rfl
@[go_sem] theorem Tryz.y65 : bytesT Tryz.prog 65 = some 136 := by kernel_rfl
@[go_sem] theorem Tryz.z65 : zeroT Tryz.prog 65 = some (.agg #[.string ByteArray.empty, .slice none 0 0, .int .i64 0, .int .i64 0, .int .i64 0, .string ByteArray.empty, .int .i64 0, .slice none 0 0, .slice none 0 0]) := by kernel_rfl
@[go_sem] theorem Tryz.k66 : kindT Tryz.prog 66 = .st [(0, 9, 1), (1, 60, 1), (2, 3, 1), (3, 64, 6)] := by kernel_rfl
@[go_sem] theorem Tryz.s66 : szT Tryz.prog 66 = some 9 := by kernel_rfl
@[go_sem] theorem Tryz.y66 : bytesT Tryz.prog 66 = some 136 := by kernel_rfl
@[go_sem] theorem Tryz.z66 : zeroT Tryz.prog 66 = some (.agg #[.string ByteArray.empty, .slice none 0 0, .int .i64 0, .int .i64 0, .int .i64 0, .string ByteArray.empty, .int .i64 0, .slice none 0 0, .slice none 0 0]) := by kernel_rfl
@[go_sem] theorem Tryz.k70 : kindT Tryz.prog 70 = .p 75 := by kernel_rfl
@[go_sem] theorem Tryz.s70 : szT Tryz.prog 70 = some 1 := by kernel_rfl
@[go_sem] theorem Tryz.y70 : bytesT Tryz.prog 70 = some 8 := by kernel_rfl
@[go_sem] theorem Tryz.z70 : zeroT Tryz.prog 70 = some (.pointer none) := by kernel_rfl
@[go_sem] theorem Tryz.k71 : kindT Tryz.prog 71 = .p 151 := by kernel_rfl
@[go_sem] theorem Tryz.s71 : szT Tryz.prog 71 = some 1 := by kernel_rfl
@[go_sem] theorem Tryz.y71 : bytesT Tryz.prog 71 = some 8 := by kernel_rfl
@[go_sem] theorem Tryz.z71 : zeroT Tryz.prog 71 = some (.pointer none) := by kernel_rfl
@[go_sem] theorem Tryz.k72 : kindT Tryz.prog 72 = .p 157 := by kernel_rfl
@[go_sem] theorem Tryz.s72 : szT Tryz.prog 72 = some 1 := by kernel_rfl
@[go_sem] theorem Tryz.y72 : bytesT Tryz.prog 72 = some 8 := by kernel_rfl
@[go_sem] theorem Tryz.z72 : zeroT Tryz.prog 72 = some (.pointer none) := by kernel_rfl
@[go_sem] theorem Tryz.k73 : kindT Tryz.prog 73 = .ifc := by kernel_rfl
@[go_sem] theorem Tryz.s73 : szT Tryz.prog 73 = some 1 := by kernel_rfl
@[go_sem] theorem Tryz.y73 : bytesT Tryz.prog 73 = some 16 := by kernel_rfl
@[go_sem] theorem Tryz.z73 : zeroT Tryz.prog 73 = some (.nilIface) := by kernel_rfl
@[go_sem] theorem Tryz.k74 : kindT Tryz.prog 74 = .st [(0, 25, 2), (2, 30, 4), (6, 3, 1), (7, 64, 6), (13, 71, 1), (14, 72, 1), (15, 73, 1), (16, 4, 1), (17, 4, 1)] := by kernel_rfl
@[go_sem] theorem Tryz.s74 : szT Tryz.prog 74 = some 18 := by kernel_rfl
@[go_sem] theorem Tryz.y74 : bytesT Tryz.prog 74 = some 232 := by kernel_rfl
@[go_sem] theorem Tryz.z74 : zeroT Tryz.prog 74 = some (.agg #[.slice none 0 0, .slice none 0 0, .int .i64 0, .int .i64 0, .slice none 0 0, .int .i64 0, .int .i64 0, .int .i64 0, .int .i64 0, .string ByteArray.empty, .int .i64 0, .slice none 0 0, .slice none 0 0, .pointer none, .pointer none, .nilIface, .bool false, .bool false]) := by kernel_rfl
@[go_sem] theorem Tryz.k75 : kindT Tryz.prog 75 = .st [(0, 25, 2), (2, 30, 4), (6, 3, 1), (7, 64, 6), (13, 71, 1), (14, 72, 1), (15, 73, 1), (16, 4, 1), (17, 4, 1)] := by kernel_rfl
@[go_sem] theorem Tryz.s75 : szT Tryz.prog 75 = some 18 := by kernel_rfl
@[go_sem] theorem Tryz.y75 : bytesT Tryz.prog 75 = some 232 := by kernel_rfl
@[go_sem] theorem Tryz.z75 : zeroT Tryz.prog 75 = some (.agg #[.slice none 0 0, .slice none 0 0, .int .i64 0, .int .i64 0, .slice none 0 0, .int .i64 0, .int .i64 0, .int .i64 0, .int .i64 0, .string ByteArray.empty, .int .i64 0, .slice none 0 0, .slice none 0 0, .pointer none, .pointer none, .nilIface, .bool false, .bool false]) := by kernel_rfl
@[go_sem] theorem Tryz.k76 : kindT Tryz.prog 76 = .st [(0, 9, 1), (1, 3, 1)] := by kernel_rfl
@[go_sem] theorem Tryz.s76 : szT Tryz.prog 76 = some 2 := by kernel_rfl
@[go_sem] theorem Tryz.y76 : bytesT Tryz.prog 76 = some 24 := by kernel_rfl
@[go_sem] theorem Tryz.z76 : zeroT Tryz.prog 76 = some (.agg #[.string ByteArray.empty, .int .i64 0]) := by kernel_rfl
@[go_sem] theorem Tryz.k77 : kindT Tryz.prog 77 = .st [(0, 9, 1), (1, 3, 1)] := by kernel_rfl
@[go_sem] theorem Tryz.s77 : szT Tryz.prog 77 = some 2 := by kernel_rfl
@[go_sem] theorem Tryz.y77 : bytesT Tryz.prog 77 = some 24 := by kernel_rfl
@[go_sem] theorem Tryz.z77 : zeroT Tryz.prog 77 = some (.agg #[.string ByteArray.empty, .int .i64 0]) := by kernel_rfl
@[go_sem] theorem Tryz.k79 : kindT Tryz.prog 79 = .p 160 := by kernel_rfl
@[go_sem] theorem Tryz.s79 : szT Tryz.prog 79 = some 1 := by kernel_rfl
@[go_sem] theorem Tryz.y79 : bytesT Tryz.prog 79 = some 8 := by kernel_rfl
@[go_sem] theorem Tryz.z79 : zeroT Tryz.prog 79 = some (.pointer none) := by kernel_rfl
@[go_sem] theorem Tryz.k80 : kindT Tryz.prog 80 = .st [(0, 73, 1), (1, 79, 1)] := by kernel_rfl
@[go_sem] theorem Tryz.s80 : szT Tryz.prog 80 = some 2 := by kernel_rfl
@[go_sem] theorem Tryz.y80 : bytesT Tryz.prog 80 = some 24 := by kernel_rfl
@[go_sem] theorem Tryz.z80 : zeroT Tryz.prog 80 = some (.agg #[.nilIface, .pointer none]) := by kernel_rfl
@[go_sem] theorem Tryz.k81 : kindT Tryz.prog 81 = .st [(0, 73, 1), (1, 79, 1)] := by kernel_rfl
@[go_sem] theorem Tryz.s81 : szT Tryz.prog 81 = some 2 := by kernel_rfl
@[go_sem] theorem Tryz.y81 : bytesT Tryz.prog 81 = some 24 := by kernel_rfl
@[go_sem] theorem Tryz.z81 : zeroT Tryz.prog 81 = some (.agg #[.nilIface, .pointer none]) := by kernel_rfl
@[go_sem] theorem Tryz.k83 : kindT Tryz.prog 83 = .p 86 := by kernel_rfl
@[go_sem] theorem Tryz.s83 : szT Tryz.prog 83 = some 1 := by kernel_rfl
@[go_sem] theorem Tryz.y83 : bytesT Tryz.prog 83 = some 8 := by kernel_rfl
@[go_sem] theorem Tryz.z83 : zeroT Tryz.prog 83 = some (.pointer none) := by kernel_rfl
@[go_sem] theorem Tryz.k84 : kindT Tryz.prog 84 = .sl 5 := by kernel_rfl
@[go_sem] theorem Tryz.s84 : szT Tryz.prog 84 = some 1 := by kernel_rfl
@[go_sem] theorem Tryz.y84 : bytesT Tryz.prog 84 = some 24 := by kernel_rfl
@[go_sem] theorem Tryz.z84 : zeroT Tryz.prog 84 = some (.slice none 0 0) := by kernel_rfl
@[go_sem] theorem Tryz.k85 : kindT Tryz.prog 85 = .st [(0, 83, 1), (1, 84, 1)] := by kernel_rfl
@[go_sem] theorem Tryz.s85 : szT Tryz.prog 85 = some 2 := by kernel_rfl
@[go_sem] theorem Tryz.y85 : bytesT Tryz.prog 85 = some 32 := by kernel_rfl
@[go_sem] theorem Tryz.z85 : zeroT Tryz.prog 85 = some (.agg #[.pointer none, .slice none 0 0]) := by kernel_rfl
@[go_sem] theorem Tryz.k86 : kindT Tryz.prog 86 = .st [(0, 83, 1), (1, 84, 1)] := by kernel_rfl
@[go_sem] theorem Tryz.s86 : szT Tryz.prog 86 = some 2 := by kernel_rfl
@[go_sem] theorem Tryz.y86 : bytesT Tryz.prog 86 = some 32 := by kernel_rfl
@[go_sem] theorem Tryz.z86 : zeroT Tryz.prog 86 = some (.agg #[.pointer none, .slice none 0 0]) := by kernel_rfl
@[go_sem] theorem Tryz.k87 : kindT Tryz.prog 87 = .ifc := by kernel_rfl
@[go_sem] theorem Tryz.s87 : szT Tryz.prog 87 = some 1 := by kernel_rfl
@[go_sem] theorem Tryz.y87 : bytesT Tryz.prog 87 = some 16 := by kernel_rfl
@[go_sem] theorem Tryz.z87 : zeroT Tryz.prog 87 = some (.nilIface) := by kernel_rfl
@[go_sem] theorem Tryz.k88 : kindT Tryz.prog 88 = .ifc := by kernel_rfl
@[go_sem] theorem Tryz.s88 : szT Tryz.prog 88 = some 1 := by kernel_rfl
@[go_sem] theorem Tryz.y88 : bytesT Tryz.prog 88 = some 16 := by kernel_rfl
@[go_sem] theorem Tryz.z88 : zeroT Tryz.prog 88 = some (.nilIface) := by kernel_rfl
@[go_sem] theorem Tryz.k93 : kindT Tryz.prog 93 = .p 100 := by kernel_rfl
@[go_sem] theorem Tryz.s93 : szT Tryz.prog 93 = some 1 := by kernel_rfl
@[go_sem] theorem Tryz.y93 : bytesT Tryz.prog 93 = some 8 := by kernel_rfl
@[go_sem] theorem Tryz.z93 : zeroT Tryz.prog 93 = some (.pointer none) := by kernel_rfl
@[go_sem] theorem Tryz.k94 : kindT Tryz.prog 94 = .p 174 := by kernel_rfl
@[go_sem] theorem Tryz.s94 : szT Tryz.prog 94 = some 1 := by kernel_rfl
@[go_sem] theorem Tryz.y94 : bytesT Tryz.prog 94 = some 8 := by kernel_rfl
@[go_sem] theorem Tryz.z94 : zeroT Tryz.prog 94 = some (.pointer none) := by kernel_rfl
@[go_sem] theorem Tryz.k95 : kindT Tryz.prog 95 = .sl 103 := by kernel_rfl
@[go_sem] theorem Tryz.s95 : szT Tryz.prog 95 = some 1 := by kernel_rfl
@[go_sem] theorem Tryz.y95 : bytesT Tryz.prog 95 = some 24 := by kernel_rfl
@[go_sem] theorem Tryz.z95 : zeroT Tryz.prog 95 = some (.slice none 0 0) := by kernel_rfl
@[go_sem] theorem Tryz.k96 : kindT Tryz.prog 96 = .st [(0, 3, 1), (1, 3, 1), (2, 3, 1), (3, 95, 1), (4, 62, 1), (5, 94, 1)] := by kernel_rfl
@[go_sem] theorem Tryz.s96 : szT Tryz.prog 96 = some 6 := by kernel_rfl
@[go_sem] theorem Tryz.y96 : bytesT Tryz.prog 96 = some 80 := by kernel_rfl
@[go_sem] theorem Tryz.z96 : zeroT Tryz.prog 96 = some (.agg #[.int .i64 0, .int .i64 0, .int .i64 0, .slice none 0 0, .slice none 0 0, .pointer none]) := by kernel_rfl
@[go_sem] theorem Tryz.k97 : kindT Tryz.prog 97 = .st [(0, 3, 1), (1, 3, 1), (2, 3, 1), (3, 95, 1), (4, 62, 1), (5, 94, 1)] := by kernel_rfl
@[go_sem] theorem Tryz.s97 : szT Tryz.prog 97 = some 6 := by kernel_rfl
@[go_sem] theorem Tryz.y97 : bytesT Tryz.prog 97 = some 80 := by kernel_rfl
@[go_sem] theorem Tryz.z97 : zeroT Tryz.prog 97 = some (.agg #[.int .i64 0, .int .i64 0, .int .i64 0, .slice none 0 0, .slice none 0 0, .pointer none]) := by kernel_rfl
@[go_sem] theorem Tryz.k98 : kindT Tryz.prog 98 = .p 107 := by kernel_rfl
@[go_sem] theorem Tryz.s98 : szT Tryz.prog 98 = some 1 := by kernel_rfl
@[go_sem] theorem Tryz.y98 : bytesT Tryz.prog 98 = some 8 := by kernel_rfl
@[go_sem] theorem Tryz.z98 : zeroT Tryz.prog 98 = some (.pointer none) := by kernel_rfl
@[go_sem] theorem Tryz.k99 : kindT Tryz.prog 99 = .st [(0, 25, 2), (2, 3, 1), (3, 30, 4), (7, 4, 1), (8, 64, 6), (14, 94, 1), (15, 97, 6), (21, 98, 1), (22, 4, 1)] := by kernel_rfl
@[go_sem] theorem Tryz.s99 : szT Tryz.prog 99 = some 23 := by kernel_rfl
@[go_sem] theorem Tryz.y99 : bytesT Tryz.prog 99 = some 304 := by kernel_rfl
@[go_sem] theorem Tryz.z99 : zeroT Tryz.prog 99 = some (.agg #[.slice none 0 0, .slice none 0 0, .int .i64 0, .int .i64 0, .int .i64 0, .slice none 0 0, .int .i64 0, .bool false, .int .i64 0, .int .i64 0, .string ByteArray.empty, .int .i64 0, .slice none 0 0, .slice none 0 0, .pointer none, .int .i64 0, .int .i64 0, .int .i64 0, .slice none 0 0, .slice none 0 0, .pointer none, .pointer none, .bool false]) := by kernel_rfl
@[go_sem] theorem Tryz.k100 : kindT Tryz.prog 100 = .st [(0, 25, 2), (2, 3, 1), (3, 30, 4), (7, 4, 1), (8, 64, 6), (14, 94, 1), (15, 97, 6), (21, 98, 1), (22, 4, 1)] := by kernel_rfl
@[go_sem] theorem Tryz.s100 : szT Tryz.prog 100 = some 23 := by kernel_rfl
@[go_sem] theorem Tryz.y100 : bytesT Tryz.prog 100 = some 304 := by kernel_rfl
@[go_sem] theorem Tryz.z100 : zeroT Tryz.prog 100 = some (.agg #[.slice none 0 0, .slice none 0 0, .int .i64 0, .int .i64 0, .int .i64 0, .slice none 0 0, .int .i64 0, .bool false, .int .i64 0, .int .i64 0, .string ByteArray.empty, .int .i64 0, .slice none 0 0, .slice none 0 0, .pointer none, .int .i64 0, .int .i64 0, .int .i64 0, .slice none 0 0, .slice none 0 0, .pointer none, .pointer none, .bool false]) := by kernel_rfl
@[go_sem] theorem Tryz.k101 : kindT Tryz.prog 101 = .sl 9 := by kernel_rfl
@[go_sem] theorem Tryz.s101 : szT Tryz.prog 101 = some 1 := by kernel_rfl
@[go_sem] theorem Tryz.y101 : bytesT Tryz.prog 101 = some 24 := by kernel_rfl
@[go_sem] theorem Tryz.z101 : zeroT Tryz.prog 101 = some (.slice none 0 0) := by kernel_rfl
@[go_sem] theorem Tryz.k102 : kindT Tryz.prog 102 = .st [(0, 4, 1), (1, 97, 6), (7, 64, 6), (13, 94, 1)] := by kernel_rfl
@[go_sem] theorem Tryz.s102 : szT Tryz.prog 102 = some 14 := by kernel_rfl
@[go_sem] theorem Tryz.y102 : bytesT Tryz.prog 102 = some 184 := by kernel_rfl
@[go_sem] theorem Tryz.z102 : zeroT Tryz.prog 102 = some (.agg #[.bool false, .int .i64 0, .int .i64 0, .int .i64 0, .slice none 0 0, .slice none 0 0, .pointer none, .int .i64 0, .int .i64 0, .string ByteArray.empty, .int .i64 0, .slice none 0 0, .slice none 0 0, .pointer none]) := by kernel_rfl
@[go_sem] theorem Tryz.k103 : kindT Tryz.prog 103 = .st [(0, 4, 1), (1, 97, 6), (7, 64, 6), (13, 94, 1)] := by kernel_rfl
@[go_sem] theorem Tryz.s103 : szT Tryz.prog 103 = some 14 := by kernel_rfl
@[go_sem] theorem Tryz.y103 : bytesT Tryz.prog 103 = some 184 := by kernel_rfl
@[go_sem] theorem Tryz.z103 : zeroT Tryz.prog 103 = some (.agg #[.bool false, .int .i64 0, .int .i64 0, .int .i64 0, .slice none 0 0, .slice none 0 0, .pointer none, .int .i64 0, .int .i64 0, .string ByteArray.empty, .int .i64 0, .slice none 0 0, .slice none 0 0, .pointer none]) := by kernel_rfl
@[go_sem] theorem Tryz.k106 : kindT Tryz.prog 106 = .st [(0, 3, 1), (1, 64, 6), (7, 94, 1), (8, 95, 1), (9, 3, 1), (10, 98, 1)] := by kernel_rfl
@[go_sem] theorem Tryz.s106 : szT Tryz.prog 106 = some 11 := by kernel_rfl
@[go_sem] theorem Tryz.y106 : bytesT Tryz.prog 106 = some 144 := by kernel_rfl
@[go_sem] theorem Tryz.z106 : zeroT Tryz.prog 106 = some (.agg #[.int .i64 0, .int .i64 0, .int .i64 0, .string ByteArray.empty, .int .i64 0, .slice none 0 0, .slice none 0 0, .pointer none, .slice none 0 0, .int .i64 0, .pointer none]) := by kernel_rfl
@[go_sem] theorem Tryz.k107 : kindT Tryz.prog 107 = .st [(0, 3, 1), (1, 64, 6), (7, 94, 1), (8, 95, 1), (9, 3, 1), (10, 98, 1)] := by kernel_rfl
@[go_sem] theorem Tryz.s107 : szT Tryz.prog 107 = some 11 := by kernel_rfl
@[go_sem] theorem Tryz.y107 : bytesT Tryz.prog 107 = some 144 := by kernel_rfl
@[go_sem] theorem Tryz.z107 : zeroT Tryz.prog 107 = some (.agg #[.int .i64 0, .int .i64 0, .int .i64 0, .string ByteArray.empty, .int .i64 0, .slice none 0 0, .slice none 0 0, .pointer none, .slice none 0 0, .int .i64 0, .pointer none]) := by kernel_rfl
@[go_sem] theorem Tryz.k140 : kindT Tryz.prog 140 = .st [(0, 22, 1), (1, 23, 1)] := by kernel_rfl
@[go_sem] theorem Tryz.s140 : szT Tryz.prog 140 = some 2 := by kernel_rfl
@[go_sem] theorem Tryz.y140 : bytesT Tryz.prog 140 = some 48 := by kernel_rfl
@[go_sem] theorem Tryz.z140 : zeroT Tryz.prog 140 = some (.agg #[.slice none 0 0, .slice none 0 0]) := by kernel_rfl
@[go_sem] theorem Tryz.k141 : kindT Tryz.prog 141 = .st [(0, 22, 1), (1, 23, 1)] := by kernel_rfl
@[go_sem] theorem Tryz.s141 : szT Tryz.prog 141 = some 2 := by kernel_rfl
@[go_sem] theorem Tryz.y141 : bytesT Tryz.prog 141 = some 48 := by kernel_rfl
@[go_sem] theorem Tryz.z141 : zeroT Tryz.prog 141 = some (.agg #[.slice none 0 0, .slice none 0 0]) := by kernel_rfl
@[go_sem] theorem Tryz.k143 : kindT Tryz.prog 143 = .mp 9 4 := by kernel_rfl
@[go_sem] theorem Tryz.s143 : szT Tryz.prog 143 = some 1 := by kernel_rfl
@[go_sem] theorem Tryz.y143 : bytesT Tryz.prog 143 = some 8 := by kernel_rfl
@[go_sem] theorem Tryz.z143 : zeroT Tryz.prog 143 = some (.map none) := by kernel_rfl
@[go_sem] theorem Tryz.k144 : kindT Tryz.prog 144 = .st [(0, 143, 1), (1, 143, 1)] := by kernel_rfl
@[go_sem] theorem Tryz.s144 : szT Tryz.prog 144 = some 2 := by kernel_rfl
@[go_sem] theorem Tryz.y144 : bytesT Tryz.prog 144 = some 16 := by kernel_rfl
@[go_sem] theorem Tryz.z144 : zeroT Tryz.prog 144 = some (.agg #[.map none, .map none]) := by kernel_rfl
@[go_sem] theorem Tryz.k145 : kindT Tryz.prog 145 = .st [(0, 143, 1), (1, 143, 1)] := by kernel_rfl
@[go_sem] theorem Tryz.s145 : szT Tryz.prog 145 = some 2 := by kernel_rfl
@[go_sem] theorem Tryz.y145 : bytesT Tryz.prog 145 = some 16 := by kernel_rfl
@[go_sem] theorem Tryz.z145 : zeroT Tryz.prog 145 = some (.agg #[.map none, .map none]) := by kernel_rfl
@[go_sem] theorem Tryz.k147 : kindT Tryz.prog 147 = .p 3 := by kernel_rfl
@[go_sem] theorem Tryz.s147 : szT Tryz.prog 147 = some 1 := by kernel_rfl
@[go_sem] theorem Tryz.y147 : bytesT Tryz.prog 147 = some 8 := by kernel_rfl
@[go_sem] theorem Tryz.z147 : zeroT Tryz.prog 147 = some (.pointer none) := by kernel_rfl
@[go_sem] theorem Tryz.k148 : kindT Tryz.prog 148 = .st [(0, 9, 1), (1, 81, 2), (3, 72, 1), (4, 4, 1)] := by kernel_rfl
@[go_sem] theorem Tryz.s148 : szT Tryz.prog 148 = some 5 := by kernel_rfl
@[go_sem] theorem Tryz.y148 : bytesT Tryz.prog 148 = some 56 := by kernel_rfl
@[go_sem] theorem Tryz.z148 : zeroT Tryz.prog 148 = some (.agg #[.string ByteArray.empty, .nilIface, .pointer none, .pointer none, .bool false]) := by kernel_rfl
@[go_sem] theorem Tryz.k149 : kindT Tryz.prog 149 = .st [(0, 9, 1), (1, 81, 2), (3, 72, 1), (4, 4, 1)] := by kernel_rfl
@[go_sem] theorem Tryz.s149 : szT Tryz.prog 149 = some 5 := by kernel_rfl
@[go_sem] theorem Tryz.y149 : bytesT Tryz.prog 149 = some 56 := by kernel_rfl
@[go_sem] theorem Tryz.z149 : zeroT Tryz.prog 149 = some (.agg #[.string ByteArray.empty, .nilIface, .pointer none, .pointer none, .bool false]) := by kernel_rfl
@[go_sem] theorem Tryz.k150 : kindT Tryz.prog 150 = .st [(0, 149, 5), (5, 71, 1)] := by kernel_rfl
@[go_sem] theorem Tryz.s150 : szT Tryz.prog 150 = some 6 := by kernel_rfl
@[go_sem] theorem Tryz.y150 : bytesT Tryz.prog 150 = some 64 := by kernel_rfl
@[go_sem] theorem Tryz.z150 : zeroT Tryz.prog 150 = some (.agg #[.string ByteArray.empty, .nilIface, .pointer none, .pointer none, .bool false, .pointer none]) := by kernel_rfl
@[go_sem] theorem Tryz.k151 : kindT Tryz.prog 151 = .st [(0, 149, 5), (5, 71, 1)] := by kernel_rfl
@[go_sem] theorem Tryz.s151 : szT Tryz.prog 151 = some 6 := by kernel_rfl
@[go_sem] theorem Tryz.y151 : bytesT Tryz.prog 151 = some 64 := by kernel_rfl
@[go_sem] theorem Tryz.z151 : zeroT Tryz.prog 151 = some (.agg #[.string ByteArray.empty, .nilIface, .pointer none, .pointer none, .bool false, .pointer none]) := by kernel_rfl
@[go_sem] theorem Tryz.k153 : kindT Tryz.prog 153 = .ifc := by kernel_rfl
@[go_sem] theorem Tryz.s153 : szT Tryz.prog 153 = some 1 := by kernel_rfl
@[go_sem] theorem Tryz.y153 : bytesT Tryz.prog 153 = some 16 := by kernel_rfl
@[go_sem] theorem Tryz.z153 : zeroT Tryz.prog 153 = some (.nilIface) := by kernel_rfl
@[go_sem] theorem Tryz.k154 : kindT Tryz.prog 154 = .ifc := by kernel_rfl
@[go_sem] theorem Tryz.s154 : szT Tryz.prog 154 = some 1 := by kernel_rfl
@[go_sem] theorem Tryz.y154 : bytesT Tryz.prog 154 = some 16 := by kernel_rfl
@[go_sem] theorem Tryz.z154 : zeroT Tryz.prog 154 = some (.nilIface) := by kernel_rfl
@[go_sem] theorem Tryz.k155 : kindT Tryz.prog 155 = .sl 81 := by kernel_rfl
@[go_sem] theorem Tryz.s155 : szT Tryz.prog 155 = some 1 := by kernel_rfl
@[go_sem] theorem Tryz.y155 : bytesT Tryz.prog 155 = some 24 := by kernel_rfl
@[go_sem] theorem Tryz.z155 : zeroT Tryz.prog 155 = some (.slice none 0 0) := by kernel_rfl
@[go_sem] theorem Tryz.k156 : kindT Tryz.prog 156 = .st [(0, 154, 1), (1, 64, 6), (7, 71, 1), (8, 155, 1), (9, 72, 1)] := by kernel_rfl
@[go_sem] theorem Tryz.s156 : szT Tryz.prog 156 = some 10 := by kernel_rfl
@[go_sem] theorem Tryz.y156 : bytesT Tryz.prog 156 = some 144 := by kernel_rfl
@[go_sem] theorem Tryz.z156 : zeroT Tryz.prog 156 = some (.agg #[.nilIface, .int .i64 0, .int .i64 0, .string ByteArray.empty, .int .i64 0, .slice none 0 0, .slice none 0 0, .pointer none, .slice none 0 0, .pointer none]) := by kernel_rfl
@[go_sem] theorem Tryz.k157 : kindT Tryz.prog 157 = .st [(0, 154, 1), (1, 64, 6), (7, 71, 1), (8, 155, 1), (9, 72, 1)] := by kernel_rfl
@[go_sem] theorem Tryz.s157 : szT Tryz.prog 157 = some 10 := by kernel_rfl
@[go_sem] theorem Tryz.y157 : bytesT Tryz.prog 157 = some 144 := by kernel_rfl
@[go_sem] theorem Tryz.z157 : zeroT Tryz.prog 157 = some (.agg #[.nilIface, .int .i64 0, .int .i64 0, .string ByteArray.empty, .int .i64 0, .slice none 0 0, .slice none 0 0, .pointer none, .slice none 0 0, .pointer none]) := by kernel_rfl
@[go_sem] theorem Tryz.k159 : kindT Tryz.prog 159 = .st [(0, 64, 6), (6, 71, 1)] := by kernel_rfl
@[go_sem] theorem Tryz.s159 : szT Tryz.prog 159 = some 7 := by kernel_rfl
@[go_sem] theorem Tryz.y159 : bytesT Tryz.prog 159 = some 96 := by kernel_rfl
@[go_sem] theorem Tryz.z159 : zeroT Tryz.prog 159 = some (.agg #[.int .i64 0, .int .i64 0, .string ByteArray.empty, .int .i64 0, .slice none 0 0, .slice none 0 0, .pointer none]) := by kernel_rfl
@[go_sem] theorem Tryz.k160 : kindT Tryz.prog 160 = .st [(0, 64, 6), (6, 71, 1)] := by kernel_rfl
@[go_sem] theorem Tryz.s160 : szT Tryz.prog 160 = some 7 := by kernel_rfl
@[go_sem] theorem Tryz.y160 : bytesT Tryz.prog 160 = some 96 := by kernel_rfl
@[go_sem] theorem Tryz.z160 : zeroT Tryz.prog 160 = some (.agg #[.int .i64 0, .int .i64 0, .string ByteArray.empty, .int .i64 0, .slice none 0 0, .slice none 0 0, .pointer none]) := by kernel_rfl
@[go_sem] theorem Tryz.k163 : kindT Tryz.prog 163 = .st [] := by kernel_rfl
@[go_sem] theorem Tryz.s163 : szT Tryz.prog 163 = some 0 := by kernel_rfl
@[go_sem] theorem Tryz.y163 : bytesT Tryz.prog 163 = some 0 := by kernel_rfl
@[go_sem] theorem Tryz.z163 : zeroT Tryz.prog 163 = some (.agg #[]) := by kernel_rfl
@[go_sem] theorem Tryz.k164 : kindT Tryz.prog 164 = .st [] := by kernel_rfl
@[go_sem] theorem Tryz.s164 : szT Tryz.prog 164 = some 0 := by kernel_rfl
@[go_sem] theorem Tryz.y164 : bytesT Tryz.prog 164 = some 0 := by kernel_rfl
@[go_sem] theorem Tryz.z164 : zeroT Tryz.prog 164 = some (.agg #[]) := by kernel_rfl
@[go_sem] theorem Tryz.k165 : kindT Tryz.prog 165 = .st [] := by kernel_rfl
@[go_sem] theorem Tryz.s165 : szT Tryz.prog 165 = some 0 := by kernel_rfl
@[go_sem] theorem Tryz.y165 : bytesT Tryz.prog 165 = some 0 := by kernel_rfl
@[go_sem] theorem Tryz.z165 : zeroT Tryz.prog 165 = some (.agg #[]) := by kernel_rfl
@[go_sem] theorem Tryz.k166 : kindT Tryz.prog 166 = .st [(0, 64, 6), (6, 71, 1)] := by kernel_rfl
@[go_sem] theorem Tryz.s166 : szT Tryz.prog 166 = some 7 := by kernel_rfl
@[go_sem] theorem Tryz.y166 : bytesT Tryz.prog 166 = some 96 := by kernel_rfl
@[go_sem] theorem Tryz.z166 : zeroT Tryz.prog 166 = some (.agg #[.int .i64 0, .int .i64 0, .string ByteArray.empty, .int .i64 0, .slice none 0 0, .slice none 0 0, .pointer none]) := by kernel_rfl
@[go_sem] theorem Tryz.k173 : kindT Tryz.prog 173 = .st [(0, 4, 1), (1, 9, 1), (2, 103, 14), (16, 98, 1), (17, 94, 1)] := by kernel_rfl
@[go_sem] theorem Tryz.s173 : szT Tryz.prog 173 = some 18 := by kernel_rfl
@[go_sem] theorem Tryz.y173 : bytesT Tryz.prog 173 = some 224 := by kernel_rfl
@[go_sem] theorem Tryz.z173 : zeroT Tryz.prog 173 = some (.agg #[.bool false, .string ByteArray.empty, .bool false, .int .i64 0, .int .i64 0, .int .i64 0, .slice none 0 0, .slice none 0 0, .pointer none, .int .i64 0, .int .i64 0, .string ByteArray.empty, .int .i64 0, .slice none 0 0, .slice none 0 0, .pointer none, .pointer none, .pointer none]) := by kernel_rfl
@[go_sem] theorem Tryz.k174 : kindT Tryz.prog 174 = .st [(0, 4, 1), (1, 9, 1), (2, 103, 14), (16, 98, 1), (17, 94, 1)] := by kernel_rfl
@[go_sem] theorem Tryz.s174 : szT Tryz.prog 174 = some 18 := by kernel_rfl
@[go_sem] theorem Tryz.y174 : bytesT Tryz.prog 174 = some 224 := by kernel_rfl
@[go_sem] theorem Tryz.z174 : zeroT Tryz.prog 174 = some (.agg #[.bool false, .string ByteArray.empty, .bool false, .int .i64 0, .int .i64 0, .int .i64 0, .slice none 0 0, .slice none 0 0, .pointer none, .int .i64 0, .int .i64 0, .string ByteArray.empty, .int .i64 0, .slice none 0 0, .slice none 0 0, .pointer none, .pointer none, .pointer none]) := by kernel_rfl
@[go_sem] theorem Tryz.k176 : kindT Tryz.prog 176 = .st [(0, 101, 1), (1, 64, 6)] := by kernel_rfl
@[go_sem] theorem Tryz.s176 : szT Tryz.prog 176 = some 7 := by kernel_rfl
@[go_sem] theorem Tryz.y176 : bytesT Tryz.prog 176 = some 112 := by kernel_rfl
@[go_sem] theorem Tryz.z176 : zeroT Tryz.prog 176 = some (.agg #[.slice none 0 0, .int .i64 0, .int .i64 0, .string ByteArray.empty, .int .i64 0, .slice none 0 0, .slice none 0 0]) := by kernel_rfl
@[go_sem] theorem Tryz.k177 : kindT Tryz.prog 177 = .st [(0, 101, 1), (1, 64, 6)] := by kernel_rfl
@[go_sem] theorem Tryz.s177 : szT Tryz.prog 177 = some 7 := by kernel_rfl
@[go_sem] theorem Tryz.y177 : bytesT Tryz.prog 177 = some 112 := by kernel_rfl
@[go_sem] theorem Tryz.z177 : zeroT Tryz.prog 177 = some (.agg #[.slice none 0 0, .int .i64 0, .int .i64 0, .string ByteArray.empty, .int .i64 0, .slice none 0 0, .slice none 0 0]) := by kernel_rfl
@[go_sem] theorem Tryz.k198 : kindT Tryz.prog 198 = .i .u64 := by kernel_rfl
@[go_sem] theorem Tryz.s198 : szT Tryz.prog 198 = some 1 := by kernel_rfl
@[go_sem] theorem Tryz.y198 : bytesT Tryz.prog 198 = some 8 := by kernel_rfl
@[go_sem] theorem Tryz.z198 : zeroT Tryz.prog 198 = some (.int .u64 0) := by kernel_rfl
@[go_sem] theorem Tryz.k200 : kindT Tryz.prog 200 = .sl 205 := by kernel_rfl
@[go_sem] theorem Tryz.s200 : szT Tryz.prog 200 = some 1 := by kernel_rfl
@[go_sem] theorem Tryz.y200 : bytesT Tryz.prog 200 = some 24 := by kernel_rfl
@[go_sem] theorem Tryz.z200 : zeroT Tryz.prog 200 = some (.slice none 0 0) := by kernel_rfl
@[go_sem] theorem Tryz.k201 : kindT Tryz.prog 201 = .st [(0, 9, 1), (1, 4, 1), (2, 200, 1)] := by kernel_rfl
@[go_sem] theorem Tryz.s201 : szT Tryz.prog 201 = some 3 := by kernel_rfl
@[go_sem] theorem Tryz.y201 : bytesT Tryz.prog 201 = some 48 := by kernel_rfl
@[go_sem] theorem Tryz.z201 : zeroT Tryz.prog 201 = some (.agg #[.string ByteArray.empty, .bool false, .slice none 0 0]) := by kernel_rfl
@[go_sem] theorem Tryz.k202 : kindT Tryz.prog 202 = .st [(0, 9, 1), (1, 4, 1), (2, 200, 1)] := by kernel_rfl
@[go_sem] theorem Tryz.s202 : szT Tryz.prog 202 = some 3 := by kernel_rfl
@[go_sem] theorem Tryz.y202 : bytesT Tryz.prog 202 = some 48 := by kernel_rfl
@[go_sem] theorem Tryz.z202 : zeroT Tryz.prog 202 = some (.agg #[.string ByteArray.empty, .bool false, .slice none 0 0]) := by kernel_rfl
@[go_sem] theorem Tryz.k203 : kindT Tryz.prog 203 = .sl 208 := by kernel_rfl
@[go_sem] theorem Tryz.s203 : szT Tryz.prog 203 = some 1 := by kernel_rfl
@[go_sem] theorem Tryz.y203 : bytesT Tryz.prog 203 = some 24 := by kernel_rfl
@[go_sem] theorem Tryz.z203 : zeroT Tryz.prog 203 = some (.slice none 0 0) := by kernel_rfl
@[go_sem] theorem Tryz.k204 : kindT Tryz.prog 204 = .st [(0, 9, 1), (1, 203, 1)] := by kernel_rfl
@[go_sem] theorem Tryz.s204 : szT Tryz.prog 204 = some 2 := by kernel_rfl
@[go_sem] theorem Tryz.y204 : bytesT Tryz.prog 204 = some 40 := by kernel_rfl
@[go_sem] theorem Tryz.z204 : zeroT Tryz.prog 204 = some (.agg #[.string ByteArray.empty, .slice none 0 0]) := by kernel_rfl
@[go_sem] theorem Tryz.k205 : kindT Tryz.prog 205 = .st [(0, 9, 1), (1, 203, 1)] := by kernel_rfl
@[go_sem] theorem Tryz.s205 : szT Tryz.prog 205 = some 2 := by kernel_rfl
@[go_sem] theorem Tryz.y205 : bytesT Tryz.prog 205 = some 40 := by kernel_rfl
@[go_sem] theorem Tryz.z205 : zeroT Tryz.prog 205 = some (.agg #[.string ByteArray.empty, .slice none 0 0]) := by kernel_rfl
@[go_sem] theorem Tryz.k207 : kindT Tryz.prog 207 = .st [(0, 3, 1), (1, 4, 1)] := by kernel_rfl
@[go_sem] theorem Tryz.s207 : szT Tryz.prog 207 = some 2 := by kernel_rfl
@[go_sem] theorem Tryz.y207 : bytesT Tryz.prog 207 = some 16 := by kernel_rfl
@[go_sem] theorem Tryz.z207 : zeroT Tryz.prog 207 = some (.agg #[.int .i64 0, .bool false]) := by kernel_rfl
@[go_sem] theorem Tryz.k208 : kindT Tryz.prog 208 = .st [(0, 3, 1), (1, 4, 1)] := by kernel_rfl
@[go_sem] theorem Tryz.s208 : szT Tryz.prog 208 = some 2 := by kernel_rfl
@[go_sem] theorem Tryz.y208 : bytesT Tryz.prog 208 = some 16 := by kernel_rfl
@[go_sem] theorem Tryz.z208 : zeroT Tryz.prog 208 = some (.agg #[.int .i64 0, .bool false]) := by kernel_rfl
@[go_sem] theorem Tryz.k217 : kindT Tryz.prog 217 = .st [] := by kernel_rfl
@[go_sem] theorem Tryz.s217 : szT Tryz.prog 217 = some 0 := by kernel_rfl
@[go_sem] theorem Tryz.y217 : bytesT Tryz.prog 217 = some 0 := by kernel_rfl
@[go_sem] theorem Tryz.z217 : zeroT Tryz.prog 217 = some (.agg #[]) := by kernel_rfl
@[go_sem] theorem Tryz.k246 : kindT Tryz.prog 246 = .i .u32 := by kernel_rfl
@[go_sem] theorem Tryz.s246 : szT Tryz.prog 246 = some 1 := by kernel_rfl
@[go_sem] theorem Tryz.y246 : bytesT Tryz.prog 246 = some 4 := by kernel_rfl
@[go_sem] theorem Tryz.z246 : zeroT Tryz.prog 246 = some (.int .u32 0) := by kernel_rfl
@[go_sem] theorem Tryz.k248 : kindT Tryz.prog 248 = .i .u64 := by kernel_rfl
@[go_sem] theorem Tryz.s248 : szT Tryz.prog 248 = some 1 := by kernel_rfl
@[go_sem] theorem Tryz.y248 : bytesT Tryz.prog 248 = some 8 := by kernel_rfl
@[go_sem] theorem Tryz.z248 : zeroT Tryz.prog 248 = some (.int .u64 0) := by kernel_rfl
@[go_sem] theorem Tryz.k251 : kindT Tryz.prog 251 = .st [(0, 3, 1), (1, 3, 1), (2, 155, 1)] := by kernel_rfl
@[go_sem] theorem Tryz.s251 : szT Tryz.prog 251 = some 3 := by kernel_rfl
@[go_sem] theorem Tryz.y251 : bytesT Tryz.prog 251 = some 40 := by kernel_rfl
@[go_sem] theorem Tryz.z251 : zeroT Tryz.prog 251 = some (.agg #[.int .i64 0, .int .i64 0, .slice none 0 0]) := by kernel_rfl
@[go_sem] theorem Tryz.k252 : kindT Tryz.prog 252 = .st [(0, 3, 1), (1, 3, 1), (2, 155, 1)] := by kernel_rfl
@[go_sem] theorem Tryz.s252 : szT Tryz.prog 252 = some 3 := by kernel_rfl
@[go_sem] theorem Tryz.y252 : bytesT Tryz.prog 252 = some 40 := by kernel_rfl
@[go_sem] theorem Tryz.z252 : zeroT Tryz.prog 252 = some (.agg #[.int .i64 0, .int .i64 0, .slice none 0 0]) := by kernel_rfl
@[go_sem] theorem Tryz.k253 : kindT Tryz.prog 253 = .st [] := by kernel_rfl
@[go_sem] theorem Tryz.s253 : szT Tryz.prog 253 = some 0 := by kernel_rfl
@[go_sem] theorem Tryz.y253 : bytesT Tryz.prog 253 = some 0 := by kernel_rfl
@[go_sem] theorem Tryz.z253 : zeroT Tryz.prog 253 = some (.agg #[]) := by kernel_rfl
@[go_sem] theorem Tryz.k254 : kindT Tryz.prog 254 = .ar 24 5 := by kernel_rfl
@[go_sem] theorem Tryz.s254 : szT Tryz.prog 254 = some 24 := by kernel_rfl
@[go_sem] theorem Tryz.y254 : bytesT Tryz.prog 254 = some 24 := by kernel_rfl
@[go_sem] theorem Tryz.z254 : zeroT Tryz.prog 254 = some (.agg #[.int .u8 0, .int .u8 0, .int .u8 0, .int .u8 0, .int .u8 0, .int .u8 0, .int .u8 0, .int .u8 0, .int .u8 0, .int .u8 0, .int .u8 0, .int .u8 0, .int .u8 0, .int .u8 0, .int .u8 0, .int .u8 0, .int .u8 0, .int .u8 0, .int .u8 0, .int .u8 0, .int .u8 0, .int .u8 0, .int .u8 0, .int .u8 0]) := by kernel_rfl
@[go_sem] theorem Tryz.k259 : kindT Tryz.prog 259 = .st [(0, 4, 1), (1, 4, 1), (2, 4, 1), (3, 3, 1), (4, 3, 1)] := by kernel_rfl
@[go_sem] theorem Tryz.s259 : szT Tryz.prog 259 = some 5 := by kernel_rfl
@[go_sem] theorem Tryz.y259 : bytesT Tryz.prog 259 = some 24 := by kernel_rfl
@[go_sem] theorem Tryz.z259 : zeroT Tryz.prog 259 = some (.agg #[.bool false, .bool false, .bool false, .int .i64 0, .int .i64 0]) := by kernel_rfl
@[go_sem] theorem Tryz.k260 : kindT Tryz.prog 260 = .st [(0, 4, 1), (1, 4, 1), (2, 4, 1), (3, 3, 1), (4, 3, 1)] := by kernel_rfl
@[go_sem] theorem Tryz.s260 : szT Tryz.prog 260 = some 5 := by kernel_rfl
@[go_sem] theorem Tryz.y260 : bytesT Tryz.prog 260 = some 24 := by kernel_rfl
@[go_sem] theorem Tryz.z260 : zeroT Tryz.prog 260 = some (.agg #[.bool false, .bool false, .bool false, .int .i64 0, .int .i64 0]) := by kernel_rfl
@[go_sem] theorem Tryz.k283 : kindT Tryz.prog 283 = .mp 4 3 := by kernel_rfl
@[go_sem] theorem Tryz.s283 : szT Tryz.prog 283 = some 1 := by kernel_rfl
@[go_sem] theorem Tryz.y283 : bytesT Tryz.prog 283 = some 8 := by kernel_rfl
@[go_sem] theorem Tryz.z283 : zeroT Tryz.prog 283 = some (.map none) := by kernel_rfl
@[go_sem] theorem Tryz.k286 : kindT Tryz.prog 286 = .ar 20 248 := by kernel_rfl
@[go_sem] theorem Tryz.s286 : szT Tryz.prog 286 = some 20 := by kernel_rfl
@[go_sem] theorem Tryz.y286 : bytesT Tryz.prog 286 = some 160 := by kernel_rfl
@[go_sem] theorem Tryz.z286 : zeroT Tryz.prog 286 = some (.agg #[.int .u64 0, .int .u64 0, .int .u64 0, .int .u64 0, .int .u64 0, .int .u64 0, .int .u64 0, .int .u64 0, .int .u64 0, .int .u64 0, .int .u64 0, .int .u64 0, .int .u64 0, .int .u64 0, .int .u64 0, .int .u64 0, .int .u64 0, .int .u64 0, .int .u64 0, .int .u64 0]) := by kernel_rfl
@[go_sem] theorem Tryz.k287 : kindT Tryz.prog 287 = .ar 65 5 := by kernel_rfl
@[go_sem] theorem Tryz.s287 : szT Tryz.prog 287 = some 65 := by kernel_rfl
@[go_sem] theorem Tryz.y287 : bytesT Tryz.prog 287 = some 65 := by kernel_rfl
@[go_sem] theorem Tryz.z287 : zeroT Tryz.prog 287 = some (.agg #[.int .u8 0, .int .u8 0, .int .u8 0, .int .u8 0, .int .u8 0, .int .u8 0, .int .u8 0, .int .u8 0, .int .u8 0, .int .u8 0, .int .u8 0, .int .u8 0, .int .u8 0, .int .u8 0, .int .u8 0, .int .u8 0, .int .u8 0, .int .u8 0, .int .u8 0, .int .u8 0, .int .u8 0, .int .u8 0, .int .u8 0, .int .u8 0, .int .u8 0, .int .u8 0, .int .u8 0, .int .u8 0, .int .u8 0, .int .u8 0, .int .u8 0, .int .u8 0, .int .u8 0, .int .u8 0, .int .u8 0, .int .u8 0, .int .u8 0, .int .u8 0, .int .u8 0, .int .u8 0, .int .u8 0, .int .u8 0, .int .u8 0, .int .u8 0, .int .u8 0, .int .u8 0, .int .u8 0, .int .u8 0, .int .u8 0, .int .u8 0, .int .u8 0, .int .u8 0, .int .u8 0, .int .u8 0, .int .u8 0, .int .u8 0, .int .u8 0, .int .u8 0, .int .u8 0, .int .u8 0, .int .u8 0, .int .u8 0, .int .u8 0, .int .u8 0, .int .u8 0]) := by kernel_rfl
@[go_sem] theorem Tryz.k314 : kindT Tryz.prog 314 = .ar 32 5 := by kernel_rfl
@[go_sem] theorem Tryz.s314 : szT Tryz.prog 314 = some 32 := by kernel_rfl
@[go_sem] theorem Tryz.y314 : bytesT Tryz.prog 314 = some 32 := by kernel_rfl
@[go_sem] theorem Tryz.z314 : zeroT Tryz.prog 314 = some (.agg #[.int .u8 0, .int .u8 0, .int .u8 0, .int .u8 0, .int .u8 0, .int .u8 0, .int .u8 0, .int .u8 0, .int .u8 0, .int .u8 0, .int .u8 0, .int .u8 0, .int .u8 0, .int .u8 0, .int .u8 0, .int .u8 0, .int .u8 0, .int .u8 0, .int .u8 0, .int .u8 0, .int .u8 0, .int .u8 0, .int .u8 0, .int .u8 0, .int .u8 0, .int .u8 0, .int .u8 0, .int .u8 0, .int .u8 0, .int .u8 0, .int .u8 0, .int .u8 0]) := by kernel_rfl
@[go_sem] theorem Tryz.k315 : kindT Tryz.prog 315 = .ar 64 5 := by kernel_rfl
@[go_sem] theorem Tryz.s315 : szT Tryz.prog 315 = some 64 := by kernel_rfl
@[go_sem] theorem Tryz.y315 : bytesT Tryz.prog 315 = some 64 := by kernel_rfl
@[go_sem] theorem Tryz.z315 : zeroT Tryz.prog 315 = some (.agg #[.int .u8 0, .int .u8 0, .int .u8 0, .int .u8 0, .int .u8 0, .int .u8 0, .int .u8 0, .int .u8 0, .int .u8 0, .int .u8 0, .int .u8 0, .int .u8 0, .int .u8 0, .int .u8 0, .int .u8 0, .int .u8 0, .int .u8 0, .int .u8 0, .int .u8 0, .int .u8 0, .int .u8 0, .int .u8 0, .int .u8 0, .int .u8 0, .int .u8 0, .int .u8 0, .int .u8 0, .int .u8 0, .int .u8 0, .int .u8 0, .int .u8 0, .int .u8 0, .int .u8 0, .int .u8 0, .int .u8 0, .int .u8 0, .int .u8 0, .int .u8 0, .int .u8 0, .int .u8 0, .int .u8 0, .int .u8 0, .int .u8 0, .int .u8 0, .int .u8 0, .int .u8 0, .int .u8 0, .int .u8 0, .int .u8 0, .int .u8 0, .int .u8 0, .int .u8 0, .int .u8 0, .int .u8 0, .int .u8 0, .int .u8 0, .int .u8 0, .int .u8 0, .int .u8 0, .int .u8 0, .int .u8 0, .int .u8 0, .int .u8 0, .int .u8 0]) := by kernel_rfl
@[go_sem] theorem Tryz.e77 : eqT Tryz.prog 77 = true := by kernel_rfl
@[go_sem] theorem Tryz.e164 : eqT Tryz.prog 164 = true := by kernel_rfl
@[go_sem] theorem Tryz.e165 : eqT Tryz.prog 165 = true := by kernel_rfl
@[go_sem] theorem Tryz.e208 : eqT Tryz.prog 208 = true := by kernel_rfl
@[go_sem] theorem Tryz.e217 : eqT Tryz.prog 217 = true := by kernel_rfl
@[go_sem] theorem Tryz.e253 : eqT Tryz.prog 253 = true := by kernel_rfl
@[go_sem] theorem Tryz.e260 : eqT Tryz.prog 260 = true := by kernel_rfl
attribute [go_sem] Tryz.ntmps3 Tryz.results3
attribute [go_sem] Tryz.ntmps4 Tryz.results4
attribute [go_sem] Tryz.ntmps5 Tryz.results5
attribute [go_sem] Tryz.ntmps6 Tryz.results6
attribute [go_sem] Tryz.ntmps7 Tryz.results7
attribute [go_sem] Tryz.ntmps8 Tryz.results8
attribute [go_sem] Tryz.ntmps9 Tryz.results9
attribute [go_sem] Tryz.ntmps10 Tryz.results10
attribute [go_sem] Tryz.ntmps11 Tryz.results11
attribute [go_sem] Tryz.ntmps12 Tryz.results12
attribute [go_sem] Tryz.ntmps13 Tryz.results13
attribute [go_sem] Tryz.ntmps14 Tryz.results14
attribute [go_sem] Tryz.ntmps15 Tryz.results15
attribute [go_sem] Tryz.ntmps16 Tryz.results16
attribute [go_sem] Tryz.ntmps17 Tryz.results17
attribute [go_sem] Tryz.ntmps18 Tryz.results18
attribute [go_sem] Tryz.ntmps19 Tryz.results19
attribute [go_sem] Tryz.ntmps20 Tryz.results20
attribute [go_sem] Tryz.ntmps21 Tryz.results21
attribute [go_sem] Tryz.ntmps22 Tryz.results22
attribute [go_sem] Tryz.ntmps23 Tryz.results23
attribute [go_sem] Tryz.ntmps24 Tryz.results24
attribute [go_sem] Tryz.ntmps25 Tryz.results25
attribute [go_sem] Tryz.ntmps26 Tryz.results26
attribute [go_sem] Tryz.ntmps27 Tryz.results27
attribute [go_sem] Tryz.ntmps28 Tryz.results28
attribute [go_sem] Tryz.ntmps29 Tryz.results29
attribute [go_sem] Tryz.ntmps30 Tryz.results30
attribute [go_sem] Tryz.ntmps31 Tryz.results31
attribute [go_sem] Tryz.ntmps32 Tryz.results32
attribute [go_sem] Tryz.ntmps33 Tryz.results33
attribute [go_sem] Tryz.ntmps34 Tryz.results34
attribute [go_sem] Tryz.ntmps35 Tryz.results35
attribute [go_sem] Tryz.ntmps36 Tryz.results36
attribute [go_sem] Tryz.ntmps37 Tryz.results37
attribute [go_sem] Tryz.ntmps38 Tryz.results38
attribute [go_sem] Tryz.ntmps39 Tryz.results39
attribute [go_sem] Tryz.ntmps40 Tryz.results40
attribute [go_sem] Tryz.ntmps41 Tryz.results41
attribute [go_sem] Tryz.ntmps42 Tryz.results42
attribute [go_sem] Tryz.ntmps43 Tryz.results43
attribute [go_sem] Tryz.ntmps44 Tryz.results44
attribute [go_sem] Tryz.ntmps45 Tryz.results45
attribute [go_sem] Tryz.ntmps46 Tryz.results46
attribute [go_sem] Tryz.ntmps47 Tryz.results47
attribute [go_sem] Tryz.ntmps48 Tryz.results48
attribute [go_sem] Tryz.ntmps49 Tryz.results49
attribute [go_sem] Tryz.ntmps50 Tryz.results50
attribute [go_sem] Tryz.ntmps51 Tryz.results51
attribute [go_sem] Tryz.ntmps52 Tryz.results52
attribute [go_sem] Tryz.ntmps53 Tryz.results53
attribute [go_sem] Tryz.ntmps54 Tryz.results54
attribute [go_sem] Tryz.ntmps55 Tryz.results55
attribute [go_sem] Tryz.ntmps56 Tryz.results56
attribute [go_sem] Tryz.ntmps57 Tryz.results57
attribute [go_sem] Tryz.ntmps58 Tryz.results58
attribute [go_sem] Tryz.ntmps59 Tryz.results59
attribute [go_sem] Tryz.ntmps60 Tryz.results60
attribute [go_sem] Tryz.ntmps61 Tryz.results61
attribute [go_sem] Tryz.ntmps62 Tryz.results62
attribute [go_sem] Tryz.ntmps63 Tryz.results63
attribute [go_sem] Tryz.ntmps64 Tryz.results64
attribute [go_sem] Tryz.ntmps65 Tryz.results65
attribute [go_sem] Tryz.ntmps66 Tryz.results66
attribute [go_sem] Tryz.ntmps67 Tryz.results67
attribute [go_sem] Tryz.ntmps68 Tryz.results68
attribute [go_sem] Tryz.ntmps69 Tryz.results69
attribute [go_sem] Tryz.ntmps70 Tryz.results70
attribute [go_sem] Tryz.ntmps71 Tryz.results71
attribute [go_sem] Tryz.ntmps72 Tryz.results72
attribute [go_sem] Tryz.ntmps73 Tryz.results73
attribute [go_sem] Tryz.ntmps74 Tryz.results74
attribute [go_sem] Tryz.ntmps75 Tryz.results75
attribute [go_sem] Tryz.ntmps76 Tryz.results76
attribute [go_sem] Tryz.ntmps77 Tryz.results77
attribute [go_sem] Tryz.ntmps78 Tryz.results78
attribute [go_sem] Tryz.ntmps79 Tryz.results79
attribute [go_sem] Tryz.ntmps80 Tryz.results80
attribute [go_sem] Tryz.ntmps81 Tryz.results81
attribute [go_sem] Tryz.ntmps82 Tryz.results82
attribute [go_sem] Tryz.ntmps83 Tryz.results83
attribute [go_sem] Tryz.ntmps84 Tryz.results84
attribute [go_sem] Tryz.ntmps85 Tryz.results85
attribute [go_sem] Tryz.ntmps86 Tryz.results86
attribute [go_sem] Tryz.ntmps87 Tryz.results87
attribute [go_sem] Tryz.ntmps88 Tryz.results88
attribute [go_sem] Tryz.ntmps89 Tryz.results89
attribute [go_sem] Tryz.ntmps90 Tryz.results90
attribute [go_sem] Tryz.ntmps91 Tryz.results91
attribute [go_sem] Tryz.ntmps92 Tryz.results92
attribute [go_sem] Tryz.ntmps93 Tryz.results93
attribute [go_sem] Tryz.ntmps94 Tryz.results94
attribute [go_sem] Tryz.ntmps95 Tryz.results95
attribute [go_sem] Tryz.ntmps96 Tryz.results96
attribute [go_sem] Tryz.ntmps97 Tryz.results97
attribute [go_sem] Tryz.ntmps98 Tryz.results98
attribute [go_sem] Tryz.ntmps99 Tryz.results99
attribute [go_sem] Tryz.ntmps100 Tryz.results100
attribute [go_sem] Tryz.ntmps101 Tryz.results101
attribute [go_sem] Tryz.ntmps102 Tryz.results102
attribute [go_sem] Tryz.ntmps103 Tryz.results103
attribute [go_sem] Tryz.ntmps104 Tryz.results104
attribute [go_sem] Tryz.ntmps105 Tryz.results105
attribute [go_sem] Tryz.ntmps106 Tryz.results106
attribute [go_sem] Tryz.ntmps107 Tryz.results107
attribute [go_sem] Tryz.ntmps108 Tryz.results108
attribute [go_sem] Tryz.ntmps109 Tryz.results109
attribute [go_sem] Tryz.ntmps110 Tryz.results110
attribute [go_sem] Tryz.ntmps111 Tryz.results111
attribute [go_sem] Tryz.ntmps112 Tryz.results112
attribute [go_sem] Tryz.ntmps113 Tryz.results113
attribute [go_sem] Tryz.ntmps114 Tryz.results114
attribute [go_sem] Tryz.ntmps115 Tryz.results115
attribute [go_sem] Tryz.ntmps116 Tryz.results116
attribute [go_sem] Tryz.ntmps117 Tryz.results117
attribute [go_sem] Tryz.ntmps118 Tryz.results118
attribute [go_sem] Tryz.ntmps119 Tryz.results119
attribute [go_sem] Tryz.ntmps120 Tryz.results120
attribute [go_sem] Tryz.ntmps121 Tryz.results121
attribute [go_sem] Tryz.ntmps122 Tryz.results122
attribute [go_sem] Tryz.ntmps123 Tryz.results123
attribute [go_sem] Tryz.ntmps124 Tryz.results124
attribute [go_sem] Tryz.ntmps125 Tryz.results125
attribute [go_sem] Tryz.ntmps126 Tryz.results126
attribute [go_sem] Tryz.ntmps127 Tryz.results127
attribute [go_sem] Tryz.ntmps128 Tryz.results128
attribute [go_sem] Tryz.ntmps129 Tryz.results129
attribute [go_sem] Tryz.ntmps130 Tryz.results130
attribute [go_sem] Tryz.ntmps131 Tryz.results131
attribute [go_sem] Tryz.ntmps132 Tryz.results132
attribute [go_sem] Tryz.ntmps133 Tryz.results133
attribute [go_sem] Tryz.ntmps134 Tryz.results134
attribute [go_sem] Tryz.ntmps135 Tryz.results135
attribute [go_sem] Tryz.ntmps136 Tryz.results136
attribute [go_sem] Tryz.ntmps137 Tryz.results137
attribute [go_sem] Tryz.ntmps138 Tryz.results138
attribute [go_sem] Tryz.ntmps139 Tryz.results139
attribute [go_sem] Tryz.ntmps140 Tryz.results140
attribute [go_sem] Tryz.ntmps141 Tryz.results141
attribute [go_sem] Tryz.ntmps142 Tryz.results142
attribute [go_sem] Tryz.ntmps143 Tryz.results143
attribute [go_sem] Tryz.ntmps144 Tryz.results144
attribute [go_sem] Tryz.ntmps145 Tryz.results145
attribute [go_sem] Tryz.ntmps146 Tryz.results146
attribute [go_sem] Tryz.ntmps147 Tryz.results147
attribute [go_sem] Tryz.ntmps148 Tryz.results148
attribute [go_sem] Tryz.ntmps149 Tryz.results149
attribute [go_sem] Tryz.ntmps150 Tryz.results150
attribute [go_sem] Tryz.ntmps151 Tryz.results151
attribute [go_sem] Tryz.ntmps152 Tryz.results152
attribute [go_sem] Tryz.ntmps153 Tryz.results153
attribute [go_sem] Tryz.ntmps154 Tryz.results154
attribute [go_sem] Tryz.ntmps155 Tryz.results155
attribute [go_sem] Tryz.ntmps156 Tryz.results156
attribute [go_sem] Tryz.ntmps157 Tryz.results157
attribute [go_sem] Tryz.ntmps158 Tryz.results158
attribute [go_sem] Tryz.ntmps159 Tryz.results159
attribute [go_sem] Tryz.ntmps160 Tryz.results160
attribute [go_sem] Tryz.ntmps161 Tryz.results161
attribute [go_sem] Tryz.ntmps162 Tryz.results162
attribute [go_sem] Tryz.ntmps163 Tryz.results163
attribute [go_sem] Tryz.ntmps164 Tryz.results164
attribute [go_sem] Tryz.ntmps165 Tryz.results165
attribute [go_sem] Tryz.ntmps166 Tryz.results166
attribute [go_sem] Tryz.ntmps167 Tryz.results167
attribute [go_sem] Tryz.ntmps168 Tryz.results168
attribute [go_sem] Tryz.ntmps169 Tryz.results169
attribute [go_sem] Tryz.ntmps170 Tryz.results170
attribute [go_sem] Tryz.ntmps171 Tryz.results171
attribute [go_sem] Tryz.ntmps172 Tryz.results172
attribute [go_sem] Tryz.ntmps173 Tryz.results173
attribute [go_sem] Tryz.ntmps174 Tryz.results174
attribute [go_sem] Tryz.ntmps175 Tryz.results175
attribute [go_sem] Tryz.ntmps176 Tryz.results176
attribute [go_sem] Tryz.ntmps177 Tryz.results177
attribute [go_sem] Tryz.ntmps178 Tryz.results178
attribute [go_sem] Tryz.ntmps179 Tryz.results179
attribute [go_sem] Tryz.ntmps180 Tryz.results180
attribute [go_sem] Tryz.ntmps181 Tryz.results181
attribute [go_sem] Tryz.ntmps182 Tryz.results182
attribute [go_sem] Tryz.ntmps183 Tryz.results183
attribute [go_sem] Tryz.ntmps184 Tryz.results184
attribute [go_sem] Tryz.ntmps185 Tryz.results185
attribute [go_sem] Tryz.ntmps186 Tryz.results186
attribute [go_sem] Tryz.ntmps187 Tryz.results187
attribute [go_sem] Tryz.ntmps188 Tryz.results188
attribute [go_sem] Tryz.ntmps189 Tryz.results189
attribute [go_sem] Tryz.ntmps190 Tryz.results190
attribute [go_sem] Tryz.ntmps191 Tryz.results191
attribute [go_sem] Tryz.ntmps192 Tryz.results192
attribute [go_sem] Tryz.ntmps193 Tryz.results193
attribute [go_sem] Tryz.ntmps194 Tryz.results194
attribute [go_sem] Tryz.ntmps195 Tryz.results195
attribute [go_sem] Tryz.ntmps196 Tryz.results196
attribute [go_sem] Tryz.ntmps197 Tryz.results197
attribute [go_sem] Tryz.ntmps198 Tryz.results198
attribute [go_sem] Tryz.ntmps199 Tryz.results199
attribute [go_sem] Tryz.ntmps200 Tryz.results200
attribute [go_sem] Tryz.ntmps201 Tryz.results201
attribute [go_sem] Tryz.ntmps202 Tryz.results202
attribute [go_sem] Tryz.ntmps203 Tryz.results203
attribute [go_sem] Tryz.ntmps204 Tryz.results204
attribute [go_sem] Tryz.ntmps205 Tryz.results205
attribute [go_sem] Tryz.ntmps206 Tryz.results206
attribute [go_sem] Tryz.ntmps207 Tryz.results207
attribute [go_sem] Tryz.ntmps208 Tryz.results208
attribute [go_sem] Tryz.ntmps209 Tryz.results209
attribute [go_sem] Tryz.ntmps210 Tryz.results210
attribute [go_sem] Tryz.ntmps211 Tryz.results211
attribute [go_sem] Tryz.ntmps212 Tryz.results212
attribute [go_sem] Tryz.ntmps213 Tryz.results213
attribute [go_sem] Tryz.ntmps214 Tryz.results214
attribute [go_sem] Tryz.ntmps215 Tryz.results215
attribute [go_sem] Tryz.ntmps216 Tryz.results216
attribute [go_sem] Tryz.ntmps217 Tryz.results217
attribute [go_sem] Tryz.ntmps218 Tryz.results218
attribute [go_sem] Tryz.ntmps219 Tryz.results219
attribute [go_sem] Tryz.ntmps220 Tryz.results220
attribute [go_sem] Tryz.ntmps221 Tryz.results221
attribute [go_sem] Tryz.ntmps222 Tryz.results222
attribute [go_sem] Tryz.ntmps223 Tryz.results223
attribute [go_sem] Tryz.ntmps224 Tryz.results224
attribute [go_sem] Tryz.ntmps225 Tryz.results225
attribute [go_sem] Tryz.ntmps226 Tryz.results226
attribute [go_sem] Tryz.ntmps227 Tryz.results227
attribute [go_sem] Tryz.ntmps228 Tryz.results228
attribute [go_sem] Tryz.ntmps229 Tryz.results229
attribute [go_sem] Tryz.ntmps230 Tryz.results230
attribute [go_sem] Tryz.ntmps231 Tryz.results231
attribute [go_sem] Tryz.ntmps232 Tryz.results232
attribute [go_sem] Tryz.ntmps233 Tryz.results233
attribute [go_sem] Tryz.ntmps234 Tryz.results234
attribute [go_sem] Tryz.ntmps235 Tryz.results235
attribute [go_sem] Tryz.ntmps236 Tryz.results236
attribute [go_sem] Tryz.ntmps237 Tryz.results237
attribute [go_sem] Tryz.ntmps238 Tryz.results238
attribute [go_sem] Tryz.ntmps239 Tryz.results239
attribute [go_sem] Tryz.ntmps240 Tryz.results240
attribute [go_sem] Tryz.ntmps241 Tryz.results241
attribute [go_sem] Tryz.ntmps242 Tryz.results242
attribute [go_sem] Tryz.ntmps243 Tryz.results243
attribute [go_sem] Tryz.ntmps244 Tryz.results244
attribute [go_sem] Tryz.ntmps245 Tryz.results245
attribute [go_sem] Tryz.ntmps246 Tryz.results246
attribute [go_sem] Tryz.ntmps247 Tryz.results247
attribute [go_sem] Tryz.ntmps248 Tryz.results248
attribute [go_sem] Tryz.ntmps249 Tryz.results249
attribute [go_sem] Tryz.ntmps250 Tryz.results250
attribute [go_sem] Tryz.ntmps251 Tryz.results251
attribute [go_sem] Tryz.ntmps252 Tryz.results252
attribute [go_sem] Tryz.ntmps253 Tryz.results253
attribute [go_sem] Tryz.ntmps254 Tryz.results254
attribute [go_sem] Tryz.ntmps255 Tryz.results255
attribute [go_sem] Tryz.ntmps256 Tryz.results256
attribute [go_sem] Tryz.ntmps257 Tryz.results257
attribute [go_sem] Tryz.ntmps258 Tryz.results258
attribute [go_sem] Tryz.ntmps259 Tryz.results259
attribute [go_sem] Tryz.ntmps260 Tryz.results260
attribute [go_sem] Tryz.ntmps261 Tryz.results261
attribute [go_sem] Tryz.ntmps262 Tryz.results262
attribute [go_sem] Tryz.ntmps263 Tryz.results263
attribute [go_sem] Tryz.ntmps264 Tryz.results264
attribute [go_sem] Tryz.ntmps265 Tryz.results265
attribute [go_sem] Tryz.ntmps266 Tryz.results266
attribute [go_sem] Tryz.ntmps267 Tryz.results267
attribute [go_sem] Tryz.ntmps268 Tryz.results268
attribute [go_sem] Tryz.ntmps269 Tryz.results269
attribute [go_sem] Tryz.ntmps270 Tryz.results270
attribute [go_sem] Tryz.ntmps271 Tryz.results271
attribute [go_sem] Tryz.ntmps272 Tryz.results272
attribute [go_sem] Tryz.ntmps273 Tryz.results273
attribute [go_sem] Tryz.ntmps274 Tryz.results274
attribute [go_sem] Tryz.ntmps275 Tryz.results275
attribute [go_sem] Tryz.ntmps276 Tryz.results276
attribute [go_sem] Tryz.ntmps277 Tryz.results277
attribute [go_sem] Tryz.ntmps278 Tryz.results278
attribute [go_sem] Tryz.ntmps279 Tryz.results279
attribute [go_sem] Tryz.ntmps280 Tryz.results280
attribute [go_sem] Tryz.ntmps281 Tryz.results281
attribute [go_sem] Tryz.ntmps282 Tryz.results282
attribute [go_sem] Tryz.ntmps283 Tryz.results283
attribute [go_sem] Tryz.ntmps284 Tryz.results284
attribute [go_sem] Tryz.ntmps285 Tryz.results285
attribute [go_sem] Int.natCast_nonneg Int.toNat_natCast Int.toNat_zero Int.toNat_one not_true_eq_false false_or or_self Option.isSome_some Bool.and_self Nat.zero_add Nat.mul_one List.length_map List.take_length Int.cast_ofNat_Int Int.le_refl Nat.le_refl List.append_eq ne_eq not_false_eq_true beq_true beq_false BEq.rfl Bool.not_true Bool.not_false decide_true decide_false exists_prop
end Go.Proofs.YtkoachnlimebaaaGreatDoor
