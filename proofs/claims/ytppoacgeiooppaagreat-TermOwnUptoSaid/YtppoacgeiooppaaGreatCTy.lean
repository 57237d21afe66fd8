/- Closed facts on the types of this translation. Written by a program of mine (alty.py). -/
import Derived.Test.YtppoacgeiooppaaGreatProg
import Derived.Test.YtppoacgeiooppaaGreatCAL17
import Derived.KernelRfl
namespace Go.Proofs.YtppoacgeiooppaaGreat
open Go.AL
@[go_sem] theorem Tryz.k1 : kindT Tryz.prog 1 = .fnc := by kernel_rfl
@[go_sem] theorem Tryz.s1 : szT Tryz.prog 1 = some 1 := by kernel_rfl
@[go_sem] theorem Tryz.y1 : bytesT Tryz.prog 1 = some 8 := by kernel_rfl
@[go_sem] theorem Tryz.z1 : zeroT Tryz.prog 1 = some (.nilFunc) := by kernel_rfl
@[go_sem] theorem Tryz.k2 : kindT Tryz.prog 2 = .i .i64 := by kernel_rfl
@[go_sem] theorem Tryz.s2 : szT Tryz.prog 2 = some 1 := by kernel_rfl
@[go_sem] theorem Tryz.y2 : bytesT Tryz.prog 2 = some 8 := by kernel_rfl
@[go_sem] theorem Tryz.z2 : zeroT Tryz.prog 2 = some (.int .i64 0) := by kernel_rfl
@[go_sem] theorem Tryz.k3 : kindT Tryz.prog 3 = .i .i64 := by kernel_rfl
@[go_sem] theorem Tryz.s3 : szT Tryz.prog 3 = some 1 := by kernel_rfl
@[go_sem] theorem Tryz.y3 : bytesT Tryz.prog 3 = some 8 := by kernel_rfl
@[go_sem] theorem Tryz.z3 : zeroT Tryz.prog 3 = some (.int .i64 0) := by kernel_rfl
@[go_sem] theorem Tryz.k4 : kindT Tryz.prog 4 = .b := by kernel_rfl
@[go_sem] theorem Tryz.s4 : szT Tryz.prog 4 = some 1 := by kernel_rfl
@[go_sem] theorem Tryz.y4 : bytesT Tryz.prog 4 = some 1 := by kernel_rfl
@[go_sem] theorem Tryz.z4 : zeroT Tryz.prog 4 = some (.bool false) := by kernel_rfl
@[go_sem] theorem Tryz.k5 : kindT Tryz.prog 5 = .i .u8 := by kernel_rfl
@[go_sem] theorem Tryz.s5 : szT Tryz.prog 5 = some 1 := by kernel_rfl
@[go_sem] theorem Tryz.y5 : bytesT Tryz.prog 5 = some 1 := by kernel_rfl
@[go_sem] theorem Tryz.z5 : zeroT Tryz.prog 5 = some (.int .u8 0) := by kernel_rfl
@[go_sem] theorem Tryz.k9 : kindT Tryz.prog 9 = .s := by kernel_rfl
@[go_sem] theorem Tryz.s9 : szT Tryz.prog 9 = some 1 := by kernel_rfl
@[go_sem] theorem Tryz.y9 : bytesT Tryz.prog 9 = some 16 := by kernel_rfl
@[go_sem] theorem Tryz.z9 : zeroT Tryz.prog 9 = some (.string ByteArray.empty) := by kernel_rfl
@[go_sem] theorem Tryz.k20 : kindT Tryz.prog 20 = .ifc := by kernel_rfl
@[go_sem] theorem Tryz.s20 : szT Tryz.prog 20 = some 1 := by kernel_rfl
@[go_sem] theorem Tryz.y20 : bytesT Tryz.prog 20 = some 16 := by kernel_rfl
@[go_sem] theorem Tryz.z20 : zeroT Tryz.prog 20 = some (.nilIface) := by kernel_rfl
@[go_sem] theorem Tryz.k22 : kindT Tryz.prog 22 = .sl 79 := by kernel_rfl
@[go_sem] theorem Tryz.s22 : szT Tryz.prog 22 = some 1 := by kernel_rfl
@[go_sem] theorem Tryz.y22 : bytesT Tryz.prog 22 = some 24 := by kernel_rfl
@[go_sem] theorem Tryz.z22 : zeroT Tryz.prog 22 = some (.slice none 0 0) := by kernel_rfl
@[go_sem] theorem Tryz.k23 : kindT Tryz.prog 23 = .sl 71 := by kernel_rfl
@[go_sem] theorem Tryz.s23 : szT Tryz.prog 23 = some 1 := by kernel_rfl
@[go_sem] theorem Tryz.y23 : bytesT Tryz.prog 23 = some 24 := by kernel_rfl
@[go_sem] theorem Tryz.z23 : zeroT Tryz.prog 23 = some (.slice none 0 0) := by kernel_rfl
@[go_sem] theorem Tryz.k24 : kindT Tryz.prog 24 = .st [(0, 22, 1), (1, 23, 1)] := by kernel_rfl
@[go_sem] theorem Tryz.s24 : szT Tryz.prog 24 = some 2 := by kernel_rfl
@[go_sem] theorem Tryz.y24 : bytesT Tryz.prog 24 = some 48 := by kernel_rfl
@[go_sem] theorem Tryz.z24 : zeroT Tryz.prog 24 = some (.agg #[.slice none 0 0, .slice none 0 0]) := by kernel_rfl
@[go_sem] theorem Tryz.k25 : kindT Tryz.prog 25 = .st [(0, 22, 1), (1, 23, 1)] := by kernel_rfl
@[go_sem] theorem Tryz.s25 : szT Tryz.prog 25 = some 2 := by kernel_rfl
@[go_sem] theorem Tryz.y25 : bytesT Tryz.prog 25 = some 48 := by kernel_rfl
@[go_sem] theorem Tryz.z25 : zeroT Tryz.prog 25 = some (.agg #[.slice none 0 0, .slice none 0 0]) := by kernel_rfl
@[go_sem] theorem Tryz.k28 : kindT Tryz.prog 28 = .i .i64 := by kernel_rfl
@[go_sem] theorem Tryz.s28 : szT Tryz.prog 28 = some 1 := by kernel_rfl
@[go_sem] theorem Tryz.y28 : bytesT Tryz.prog 28 = some 8 := by kernel_rfl
@[go_sem] theorem Tryz.z28 : zeroT Tryz.prog 28 = some (.int .i64 0) := by kernel_rfl
@[go_sem] theorem Tryz.k30 : kindT Tryz.prog 30 = .sl 3 := by kernel_rfl
@[go_sem] theorem Tryz.s30 : szT Tryz.prog 30 = some 1 := by kernel_rfl
@[go_sem] theorem Tryz.y30 : bytesT Tryz.prog 30 = some 24 := by kernel_rfl
@[go_sem] theorem Tryz.z30 : zeroT Tryz.prog 30 = some (.slice none 0 0) := by kernel_rfl
@[go_sem] theorem Tryz.k37 : kindT Tryz.prog 37 = .sl 81 := by kernel_rfl
@[go_sem] theorem Tryz.s37 : szT Tryz.prog 37 = some 1 := by kernel_rfl
@[go_sem] theorem Tryz.y37 : bytesT Tryz.prog 37 = some 24 := by kernel_rfl
@[go_sem] theorem Tryz.z37 : zeroT Tryz.prog 37 = some (.slice none 0 0) := by kernel_rfl
@[go_sem] theorem Tryz.k38 : kindT Tryz.prog 38 = .sl 41 := by kernel_rfl
@[go_sem] theorem Tryz.s38 : szT Tryz.prog 38 = some 1 := by kernel_rfl
@[go_sem] theorem Tryz.y38 : bytesT Tryz.prog 38 = some 24 := by kernel_rfl
@[go_sem] theorem Tryz.z38 : zeroT Tryz.prog 38 = some (.slice none 0 0) := by kernel_rfl
@[go_sem] theorem Tryz.k39 : kindT Tryz.prog 39 = .sl 96 := by kernel_rfl
@[go_sem] theorem Tryz.s39 : szT Tryz.prog 39 = some 1 := by kernel_rfl
@[go_sem] theorem Tryz.y39 : bytesT Tryz.prog 39 = some 24 := by kernel_rfl
@[go_sem] theorem Tryz.z39 : zeroT Tryz.prog 39 = some (.slice none 0 0) := by kernel_rfl
@[go_sem] theorem Tryz.k40 : kindT Tryz.prog 40 = .st [(0, 3, 1), (1, 3, 1), (2, 9, 1), (3, 3, 1), (4, 38, 1), (5, 39, 1)] := by kernel_rfl
@[go_sem] theorem Tryz.s40 : szT Tryz.prog 40 = some 6 := by kernel_rfl
@[go_sem] theorem Tryz.y40 : bytesT Tryz.prog 40 = some 88 := by kernel_rfl
@[go_sem] theorem Tryz.z40 : zeroT Tryz.prog 40 = some (.agg #[.int .i64 0, .int .i64 0, .string ByteArray.empty, .int .i64 0, .slice none 0 0, .slice none 0 0]) := by kernel_rfl
@[go_sem] theorem Tryz.k41 : kindT Tryz.prog 41 = .st [(0, 3, 1), (1, 3, 1), (2, 9, 1), (3, 3, 1), (4, 38, 1), (5, 39, 1)] := by kernel_rfl
@[go_sem] theorem Tryz.s41 : szT Tryz.prog 41 = some 6 := by kernel_rfl
@[go_sem] theorem Tryz.y41 : bytesT Tryz.prog 41 = some 88 := by kernel_rfl
@[go_sem] theorem Tryz.z41 : zeroT Tryz.prog 41 = some (.agg #[.int .i64 0, .int .i64 0, .string ByteArray.empty, .int .i64 0, .slice none 0 0, .slice none 0 0]) := by kernel_rfl
@[go_sem] theorem Tryz.k46 : kindT Tryz.prog 46 = .fnc := by kernel_rfl
@[go_sem] theorem Tryz.s46 : szT Tryz.prog 46 = some 1 := by kernel_rfl
@[go_sem] theorem Tryz.y46 : bytesT Tryz.prog 46 = some 8 := by kernel_rfl
@[go_sem] theorem Tryz.z46 : zeroT Tryz.prog 46 = some (.nilFunc) := by kernel_rfl
@[go_sem] theorem Tryz.k48 : kindT Tryz.prog 48 = .sl 9 := by kernel_rfl
@[go_sem] theorem Tryz.s48 : szT Tryz.prog 48 = some 1 := by kernel_rfl
@[go_sem] theorem Tryz.y48 : bytesT Tryz.prog 48 = some 24 := by kernel_rfl
@[go_sem] theorem Tryz.z48 : zeroT Tryz.prog 48 = some (.slice none 0 0) := by kernel_rfl
@[go_sem] theorem Tryz.k54 : kindT Tryz.prog 54 = .sl 30 := by kernel_rfl
@[go_sem] theorem Tryz.s54 : szT Tryz.prog 54 = some 1 := by kernel_rfl
@[go_sem] theorem Tryz.y54 : bytesT Tryz.prog 54 = some 24 := by kernel_rfl
@[go_sem] theorem Tryz.z54 : zeroT Tryz.prog 54 = some (.slice none 0 0) := by kernel_rfl
@[go_sem] theorem Tryz.k70 : kindT Tryz.prog 70 = .st [(0, 9, 1), (1, 37, 1), (2, 3, 1), (3, 41, 6)] := by kernel_rfl
@[go_sem] theorem Tryz.s70 : szT Tryz.prog 70 = some 9 := by kernel_rfl
@[go_sem] theorem Tryz.y70 : bytesT Tryz.prog 70 = some 136 := by kernel_rfl
@[go_sem] theorem Tryz.z70 : zeroT Tryz.prog 70 = some (.agg #[.string ByteArray.empty, .slice none 0 0, .int .i64 0, .int .i64 0, .int .i64 0, .string ByteArray.empty, .int .i64 0, .slice none 0 0, .slice none 0 0]) := by kernel_rfl
@[go_sem] theorem Tryz.k71 : kindT Tryz.prog 71 = .st [(0, 9, 1), (1, 37, 1), (2, 3, 1), (3, 41, 6)] := by kernel_rfl
@[go_sem] theorem Tryz.s71 : szT Tryz.prog 71 = some 9 := by kernel_rfl
@[go_sem] theorem Tryz.y71 : bytesT Tryz.prog 71 = some 136 := by kernel_rfl
@[go_sem] theorem Tryz.z71 : zeroT Tryz.prog 71 = some (.agg #[.string ByteArray.empty, .slice none 0 0, .int .i64 0, .int .i64 0, .int .i64 0, .string ByteArray.empty, .int .i64 0, .slice none 0 0, .slice none 0 0]) := by kernel_rfl
@[go_sem] theorem Tryz.k72 : kindT Tryz.prog 72 = .sl 76 := by kernel_rfl
@[go_sem] theorem Tryz.s72 : szT Tryz.prog 72 = some 1 := by kernel_rfl
@[go_sem] theorem Tryz.y72 : bytesT Tryz.prog 72 = some 24 := by kernel_rfl
@[go_sem] theorem Tryz.z72 : zeroT Tryz.prog 72 = some (.slice none 0 0) := by kernel_rfl
@[go_sem] theorem Tryz.k73 : kindT Tryz.prog 73 = .st [(0, 9, 1), (1, 72, 1)] := by kernel_rfl
@[go_sem] theorem Tryz.s73 : szT Tryz.prog 73 = some 2 := by kernel_rfl
@[go_sem] theorem Tryz.y73 : bytesT Tryz.prog 73 = some 40 := by kernel_rfl
@[go_sem] theorem Tryz.z73 : zeroT Tryz.prog 73 = some (.agg #[.string ByteArray.empty, .slice none 0 0]) := by kernel_rfl
@[go_sem] theorem Tryz.k74 : kindT Tryz.prog 74 = .st [(0, 9, 1), (1, 72, 1)] := by kernel_rfl
@[go_sem] theorem Tryz.s74 : szT Tryz.prog 74 = some 2 := by kernel_rfl
@[go_sem] theorem Tryz.y74 : bytesT Tryz.prog 74 = some 40 := by kernel_rfl
@[go_sem] theorem Tryz.z74 : zeroT Tryz.prog 74 = some (.agg #[.string ByteArray.empty, .slice none 0 0]) := by kernel_rfl
@[go_sem] theorem Tryz.k75 : kindT Tryz.prog 75 = .st [(0, 3, 1), (1, 4, 1)] := by kernel_rfl
@[go_sem] theorem Tryz.s75 : szT Tryz.prog 75 = some 2 := by kernel_rfl
@[go_sem] theorem Tryz.y75 : bytesT Tryz.prog 75 = some 16 := by kernel_rfl
@[go_sem] theorem Tryz.z75 : zeroT Tryz.prog 75 = some (.agg #[.int .i64 0, .bool false]) := by kernel_rfl
@[go_sem] theorem Tryz.k76 : kindT Tryz.prog 76 = .st [(0, 3, 1), (1, 4, 1)] := by kernel_rfl
@[go_sem] theorem Tryz.s76 : szT Tryz.prog 76 = some 2 := by kernel_rfl
@[go_sem] theorem Tryz.y76 : bytesT Tryz.prog 76 = some 16 := by kernel_rfl
@[go_sem] theorem Tryz.z76 : zeroT Tryz.prog 76 = some (.agg #[.int .i64 0, .bool false]) := by kernel_rfl
@[go_sem] theorem Tryz.k77 : kindT Tryz.prog 77 = .sl 74 := by kernel_rfl
@[go_sem] theorem Tryz.s77 : szT Tryz.prog 77 = some 1 := by kernel_rfl
@[go_sem] theorem Tryz.y77 : bytesT Tryz.prog 77 = some 24 := by kernel_rfl
@[go_sem] theorem Tryz.z77 : zeroT Tryz.prog 77 = some (.slice none 0 0) := by kernel_rfl
@[go_sem] theorem Tryz.k78 : kindT Tryz.prog 78 = .st [(0, 9, 1), (1, 4, 1), (2, 77, 1)] := by kernel_rfl
@[go_sem] theorem Tryz.s78 : szT Tryz.prog 78 = some 3 := by kernel_rfl
@[go_sem] theorem Tryz.y78 : bytesT Tryz.prog 78 = some 48 := by kernel_rfl
@[go_sem] theorem Tryz.z78 : zeroT Tryz.prog 78 = some (.agg #[.string ByteArray.empty, .bool false, .slice none 0 0]) := by kernel_rfl
@[go_sem] theorem Tryz.k79 : kindT Tryz.prog 79 = .st [(0, 9, 1), (1, 4, 1), (2, 77, 1)] := by kernel_rfl
@[go_sem] theorem Tryz.s79 : szT Tryz.prog 79 = some 3 := by kernel_rfl
@[go_sem] theorem Tryz.y79 : bytesT Tryz.prog 79 = some 48 := by kernel_rfl
@[go_sem] theorem Tryz.z79 : zeroT Tryz.prog 79 = some (.agg #[.string ByteArray.empty, .bool false, .slice none 0 0]) := by kernel_rfl
@[go_sem] theorem Tryz.k80 : kindT Tryz.prog 80 = .st [(0, 9, 1), (1, 3, 1)] := by kernel_rfl
@[go_sem] theorem Tryz.s80 : szT Tryz.prog 80 = some 2 := by kernel_rfl
@[go_sem] theorem Tryz.y80 : bytesT Tryz.prog 80 = some 24 := by kernel_rfl
@[go_sem] theorem Tryz.z80 : zeroT Tryz.prog 80 = some (.agg #[.string ByteArray.empty, .int .i64 0]) := by kernel_rfl
@[go_sem] theorem Tryz.k81 : kindT Tryz.prog 81 = .st [(0, 9, 1), (1, 3, 1)] := by kernel_rfl
@[go_sem] theorem Tryz.s81 : szT Tryz.prog 81 = some 2 := by kernel_rfl
@[go_sem] theorem Tryz.y81 : bytesT Tryz.prog 81 = some 24 := by kernel_rfl
@[go_sem] theorem Tryz.z81 : zeroT Tryz.prog 81 = some (.agg #[.string ByteArray.empty, .int .i64 0]) := by kernel_rfl
@[go_sem] theorem Tryz.k85 : kindT Tryz.prog 85 = .st [(0, 37, 1), (1, 37, 1)] := by kernel_rfl
@[go_sem] theorem Tryz.s85 : szT Tryz.prog 85 = some 2 := by kernel_rfl
@[go_sem] theorem Tryz.y85 : bytesT Tryz.prog 85 = some 48 := by kernel_rfl
@[go_sem] theorem Tryz.z85 : zeroT Tryz.prog 85 = some (.agg #[.slice none 0 0, .slice none 0 0]) := by kernel_rfl
@[go_sem] theorem Tryz.k86 : kindT Tryz.prog 86 = .st [(0, 37, 1), (1, 37, 1)] := by kernel_rfl
@[go_sem] theorem Tryz.s86 : szT Tryz.prog 86 = some 2 := by kernel_rfl
@[go_sem] theorem Tryz.y86 : bytesT Tryz.prog 86 = some 48 := by kernel_rfl
@[go_sem] theorem Tryz.z86 : zeroT Tryz.prog 86 = some (.agg #[.slice none 0 0, .slice none 0 0]) := by kernel_rfl
@[go_sem] theorem Tryz.k88 : kindT Tryz.prog 88 = .ar 2 48 := by kernel_rfl
@[go_sem] theorem Tryz.s88 : szT Tryz.prog 88 = some 2 := by kernel_rfl
@[go_sem] theorem Tryz.y88 : bytesT Tryz.prog 88 = some 48 := by kernel_rfl
@[go_sem] theorem Tryz.z88 : zeroT Tryz.prog 88 = some (.agg #[.slice none 0 0, .slice none 0 0]) := by kernel_rfl
@[go_sem] theorem Tryz.k89 : kindT Tryz.prog 89 = .p 142 := by kernel_rfl
@[go_sem] theorem Tryz.s89 : szT Tryz.prog 89 = some 1 := by kernel_rfl
@[go_sem] theorem Tryz.y89 : bytesT Tryz.prog 89 = some 8 := by kernel_rfl
@[go_sem] theorem Tryz.z89 : zeroT Tryz.prog 89 = some (.pointer none) := by kernel_rfl
@[go_sem] theorem Tryz.k90 : kindT Tryz.prog 90 = .sl 37 := by kernel_rfl
@[go_sem] theorem Tryz.s90 : szT Tryz.prog 90 = some 1 := by kernel_rfl
@[go_sem] theorem Tryz.y90 : bytesT Tryz.prog 90 = some 24 := by kernel_rfl
@[go_sem] theorem Tryz.z90 : zeroT Tryz.prog 90 = some (.slice none 0 0) := by kernel_rfl
@[go_sem] theorem Tryz.k92 : kindT Tryz.prog 92 = .p 131 := by kernel_rfl
@[go_sem] theorem Tryz.s92 : szT Tryz.prog 92 = some 1 := by kernel_rfl
@[go_sem] theorem Tryz.y92 : bytesT Tryz.prog 92 = some 8 := by kernel_rfl
@[go_sem] theorem Tryz.z92 : zeroT Tryz.prog 92 = some (.pointer none) := by kernel_rfl
@[go_sem] theorem Tryz.k94 : kindT Tryz.prog 94 = .fnc := by kernel_rfl
@[go_sem] theorem Tryz.s94 : szT Tryz.prog 94 = some 1 := by kernel_rfl
@[go_sem] theorem Tryz.y94 : bytesT Tryz.prog 94 = some 8 := by kernel_rfl
@[go_sem] theorem Tryz.z94 : zeroT Tryz.prog 94 = some (.nilFunc) := by kernel_rfl
@[go_sem] theorem Tryz.k95 : kindT Tryz.prog 95 = .st [(0, 48, 1), (1, 41, 6)] := by kernel_rfl
@[go_sem] theorem Tryz.s95 : szT Tryz.prog 95 = some 7 := by kernel_rfl
@[go_sem] theorem Tryz.y95 : bytesT Tryz.prog 95 = some 112 := by kernel_rfl
@[go_sem] theorem Tryz.z95 : zeroT Tryz.prog 95 = some (.agg #[.slice none 0 0, .int .i64 0, .int .i64 0, .string ByteArray.empty, .int .i64 0, .slice none 0 0, .slice none 0 0]) := by kernel_rfl
@[go_sem] theorem Tryz.k96 : kindT Tryz.prog 96 = .st [(0, 48, 1), (1, 41, 6)] := by kernel_rfl
@[go_sem] theorem Tryz.s96 : szT Tryz.prog 96 = some 7 := by kernel_rfl
@[go_sem] theorem Tryz.y96 : bytesT Tryz.prog 96 = some 112 := by kernel_rfl
@[go_sem] theorem Tryz.z96 : zeroT Tryz.prog 96 = some (.agg #[.slice none 0 0, .int .i64 0, .int .i64 0, .string ByteArray.empty, .int .i64 0, .slice none 0 0, .slice none 0 0]) := by kernel_rfl
@[go_sem] theorem Tryz.k99 : kindT Tryz.prog 99 = .fnc := by kernel_rfl
@[go_sem] theorem Tryz.s99 : szT Tryz.prog 99 = some 1 := by kernel_rfl
@[go_sem] theorem Tryz.y99 : bytesT Tryz.prog 99 = some 8 := by kernel_rfl
@[go_sem] theorem Tryz.z99 : zeroT Tryz.prog 99 = some (.nilFunc) := by kernel_rfl
@[go_sem] theorem Tryz.k100 : kindT Tryz.prog 100 = .fnc := by kernel_rfl
@[go_sem] theorem Tryz.s100 : szT Tryz.prog 100 = some 1 := by kernel_rfl
@[go_sem] theorem Tryz.y100 : bytesT Tryz.prog 100 = some 8 := by kernel_rfl
@[go_sem] theorem Tryz.z100 : zeroT Tryz.prog 100 = some (.nilFunc) := by kernel_rfl
@[go_sem] theorem Tryz.k102 : kindT Tryz.prog 102 = .mp 3 4 := by kernel_rfl
@[go_sem] theorem Tryz.s102 : szT Tryz.prog 102 = some 1 := by kernel_rfl
@[go_sem] theorem Tryz.y102 : bytesT Tryz.prog 102 = some 8 := by kernel_rfl
@[go_sem] theorem Tryz.z102 : zeroT Tryz.prog 102 = some (.map none) := by kernel_rfl
@[go_sem] theorem Tryz.k104 : kindT Tryz.prog 104 = .fnc := by kernel_rfl
@[go_sem] theorem Tryz.s104 : szT Tryz.prog 104 = some 1 := by kernel_rfl
@[go_sem] theorem Tryz.y104 : bytesT Tryz.prog 104 = some 8 := by kernel_rfl
@[go_sem] theorem Tryz.z104 : zeroT Tryz.prog 104 = some (.nilFunc) := by kernel_rfl
@[go_sem] theorem Tryz.k105 : kindT Tryz.prog 105 = .fnc := by kernel_rfl
@[go_sem] theorem Tryz.s105 : szT Tryz.prog 105 = some 1 := by kernel_rfl
@[go_sem] theorem Tryz.y105 : bytesT Tryz.prog 105 = some 8 := by kernel_rfl
@[go_sem] theorem Tryz.z105 : zeroT Tryz.prog 105 = some (.nilFunc) := by kernel_rfl
@[go_sem] theorem Tryz.k107 : kindT Tryz.prog 107 = .sl 4 := by kernel_rfl
@[go_sem] theorem Tryz.s107 : szT Tryz.prog 107 = some 1 := by kernel_rfl
@[go_sem] theorem Tryz.y107 : bytesT Tryz.prog 107 = some 24 := by kernel_rfl
@[go_sem] theorem Tryz.z107 : zeroT Tryz.prog 107 = some (.slice none 0 0) := by kernel_rfl
@[go_sem] theorem Tryz.k110 : kindT Tryz.prog 110 = .mp 9 4 := by kernel_rfl
@[go_sem] theorem Tryz.s110 : szT Tryz.prog 110 = some 1 := by kernel_rfl
@[go_sem] theorem Tryz.y110 : bytesT Tryz.prog 110 = some 8 := by kernel_rfl
@[go_sem] theorem Tryz.z110 : zeroT Tryz.prog 110 = some (.map none) := by kernel_rfl
@[go_sem] theorem Tryz.k112 : kindT Tryz.prog 112 = .st [(0, 110, 1), (1, 110, 1)] := by kernel_rfl
@[go_sem] theorem Tryz.s112 : szT Tryz.prog 112 = some 2 := by kernel_rfl
@[go_sem] theorem Tryz.y112 : bytesT Tryz.prog 112 = some 16 := by kernel_rfl
@[go_sem] theorem Tryz.z112 : zeroT Tryz.prog 112 = some (.agg #[.map none, .map none]) := by kernel_rfl
@[go_sem] theorem Tryz.k113 : kindT Tryz.prog 113 = .st [(0, 110, 1), (1, 110, 1)] := by kernel_rfl
@[go_sem] theorem Tryz.s113 : szT Tryz.prog 113 = some 2 := by kernel_rfl
@[go_sem] theorem Tryz.y113 : bytesT Tryz.prog 113 = some 16 := by kernel_rfl
@[go_sem] theorem Tryz.z113 : zeroT Tryz.prog 113 = some (.agg #[.map none, .map none]) := by kernel_rfl
@[go_sem] theorem Tryz.k115 : kindT Tryz.prog 115 = .fnc := by kernel_rfl
@[go_sem] theorem Tryz.s115 : szT Tryz.prog 115 = some 1 := by kernel_rfl
@[go_sem] theorem Tryz.y115 : bytesT Tryz.prog 115 = some 8 := by kernel_rfl
@[go_sem] theorem Tryz.z115 : zeroT Tryz.prog 115 = some (.nilFunc) := by kernel_rfl
@[go_sem] theorem Tryz.k116 : kindT Tryz.prog 116 = .fnc := by kernel_rfl
@[go_sem] theorem Tryz.s116 : szT Tryz.prog 116 = some 1 := by kernel_rfl
@[go_sem] theorem Tryz.y116 : bytesT Tryz.prog 116 = some 8 := by kernel_rfl
@[go_sem] theorem Tryz.z116 : zeroT Tryz.prog 116 = some (.nilFunc) := by kernel_rfl
@[go_sem] theorem Tryz.k122 : kindT Tryz.prog 122 = .st [(0, 22, 1), (1, 23, 1)] := by kernel_rfl
@[go_sem] theorem Tryz.s122 : szT Tryz.prog 122 = some 2 := by kernel_rfl
@[go_sem] theorem Tryz.y122 : bytesT Tryz.prog 122 = some 48 := by kernel_rfl
@[go_sem] theorem Tryz.z122 : zeroT Tryz.prog 122 = some (.agg #[.slice none 0 0, .slice none 0 0]) := by kernel_rfl
@[go_sem] theorem Tryz.k123 : kindT Tryz.prog 123 = .st [(0, 22, 1), (1, 23, 1)] := by kernel_rfl
@[go_sem] theorem Tryz.s123 : szT Tryz.prog 123 = some 2 := by kernel_rfl
@[go_sem] theorem Tryz.y123 : bytesT Tryz.prog 123 = some 48 := by kernel_rfl
@[go_sem] theorem Tryz.z123 : zeroT Tryz.prog 123 = some (.agg #[.slice none 0 0, .slice none 0 0]) := by kernel_rfl
@[go_sem] theorem Tryz.k124 : kindT Tryz.prog 124 = .fnc := by kernel_rfl
@[go_sem] theorem Tryz.s124 : szT Tryz.prog 124 = some 1 := by kernel_rfl
@[go_sem] theorem Tryz.y124 : bytesT Tryz.prog 124 = some 8 := by kernel_rfl
@[go_sem] theorem Tryz.z124 : zeroT Tryz.prog 124 = some (.nilFunc) := by kernel_rfl
@[go_sem] theorem Tryz.k127 : kindT Tryz.prog 127 = .p 3 := by kernel_rfl
@[go_sem] theorem Tryz.s127 : szT Tryz.prog 127 = some 1 := by kernel_rfl
@[go_sem] theorem Tryz.y127 : bytesT Tryz.prog 127 = some 8 := by kernel_rfl
@[go_sem] theorem Tryz.z127 : zeroT Tryz.prog 127 = some (.pointer none) := by kernel_rfl
@[go_sem] theorem Tryz.k129 : kindT Tryz.prog 129 = .ar 13 94 := by kernel_rfl
@[go_sem] theorem Tryz.s129 : szT Tryz.prog 129 = some 13 := by kernel_rfl
@[go_sem] theorem Tryz.y129 : bytesT Tryz.prog 129 = some 104 := by kernel_rfl
@[go_sem] theorem Tryz.z129 : zeroT Tryz.prog 129 = some (.agg #[.nilFunc, .nilFunc, .nilFunc, .nilFunc, .nilFunc, .nilFunc, .nilFunc, .nilFunc, .nilFunc, .nilFunc, .nilFunc, .nilFunc, .nilFunc]) := by kernel_rfl
@[go_sem] theorem Tryz.k130 : kindT Tryz.prog 130 = .st [(0, 25, 2), (2, 129, 13), (15, 30, 1), (16, 4, 1)] := by kernel_rfl
@[go_sem] theorem Tryz.s130 : szT Tryz.prog 130 = some 17 := by kernel_rfl
@[go_sem] theorem Tryz.y130 : bytesT Tryz.prog 130 = some 184 := by kernel_rfl
@[go_sem] theorem Tryz.z130 : zeroT Tryz.prog 130 = some (.agg #[.slice none 0 0, .slice none 0 0, .nilFunc, .nilFunc, .nilFunc, .nilFunc, .nilFunc, .nilFunc, .nilFunc, .nilFunc, .nilFunc, .nilFunc, .nilFunc, .nilFunc, .nilFunc, .slice none 0 0, .bool false]) := by kernel_rfl
@[go_sem] theorem Tryz.k131 : kindT Tryz.prog 131 = .st [(0, 25, 2), (2, 129, 13), (15, 30, 1), (16, 4, 1)] := by kernel_rfl
@[go_sem] theorem Tryz.s131 : szT Tryz.prog 131 = some 17 := by kernel_rfl
@[go_sem] theorem Tryz.y131 : bytesT Tryz.prog 131 = some 184 := by kernel_rfl
@[go_sem] theorem Tryz.z131 : zeroT Tryz.prog 131 = some (.agg #[.slice none 0 0, .slice none 0 0, .nilFunc, .nilFunc, .nilFunc, .nilFunc, .nilFunc, .nilFunc, .nilFunc, .nilFunc, .nilFunc, .nilFunc, .nilFunc, .nilFunc, .nilFunc, .slice none 0 0, .bool false]) := by kernel_rfl
@[go_sem] theorem Tryz.k132 : kindT Tryz.prog 132 = .fnc := by kernel_rfl
@[go_sem] theorem Tryz.s132 : szT Tryz.prog 132 = some 1 := by kernel_rfl
@[go_sem] theorem Tryz.y132 : bytesT Tryz.prog 132 = some 8 := by kernel_rfl
@[go_sem] theorem Tryz.z132 : zeroT Tryz.prog 132 = some (.nilFunc) := by kernel_rfl
@[go_sem] theorem Tryz.k137 : kindT Tryz.prog 137 = .sl 86 := by kernel_rfl
@[go_sem] theorem Tryz.s137 : szT Tryz.prog 137 = some 1 := by kernel_rfl
@[go_sem] theorem Tryz.y137 : bytesT Tryz.prog 137 = some 24 := by kernel_rfl
@[go_sem] theorem Tryz.z137 : zeroT Tryz.prog 137 = some (.slice none 0 0) := by kernel_rfl
@[go_sem] theorem Tryz.k141 : kindT Tryz.prog 141 = .st [(0, 81, 2), (2, 4, 1), (3, 89, 1)] := by kernel_rfl
@[go_sem] theorem Tryz.s141 : szT Tryz.prog 141 = some 4 := by kernel_rfl
@[go_sem] theorem Tryz.y141 : bytesT Tryz.prog 141 = some 40 := by kernel_rfl
@[go_sem] theorem Tryz.z141 : zeroT Tryz.prog 141 = some (.agg #[.string ByteArray.empty, .int .i64 0, .bool false, .pointer none]) := by kernel_rfl
@[go_sem] theorem Tryz.k142 : kindT Tryz.prog 142 = .st [(0, 81, 2), (2, 4, 1), (3, 89, 1)] := by kernel_rfl
@[go_sem] theorem Tryz.s142 : szT Tryz.prog 142 = some 4 := by kernel_rfl
@[go_sem] theorem Tryz.y142 : bytesT Tryz.prog 142 = some 40 := by kernel_rfl
@[go_sem] theorem Tryz.z142 : zeroT Tryz.prog 142 = some (.agg #[.string ByteArray.empty, .int .i64 0, .bool false, .pointer none]) := by kernel_rfl
@[go_sem] theorem Tryz.k145 : kindT Tryz.prog 145 = .st [(0, 4, 1), (1, 4, 1), (2, 4, 1), (3, 3, 1), (4, 3, 1)] := by kernel_rfl
@[go_sem] theorem Tryz.s145 : szT Tryz.prog 145 = some 5 := by kernel_rfl
@[go_sem] theorem Tryz.y145 : bytesT Tryz.prog 145 = some 24 := by kernel_rfl
@[go_sem] theorem Tryz.z145 : zeroT Tryz.prog 145 = some (.agg #[.bool false, .bool false, .bool false, .int .i64 0, .int .i64 0]) := by kernel_rfl
@[go_sem] theorem Tryz.k146 : kindT Tryz.prog 146 = .st [(0, 4, 1), (1, 4, 1), (2, 4, 1), (3, 3, 1), (4, 3, 1)] := by kernel_rfl
@[go_sem] theorem Tryz.s146 : szT Tryz.prog 146 = some 5 := by kernel_rfl
@[go_sem] theorem Tryz.y146 : bytesT Tryz.prog 146 = some 24 := by kernel_rfl
@[go_sem] theorem Tryz.z146 : zeroT Tryz.prog 146 = some (.agg #[.bool false, .bool false, .bool false, .int .i64 0, .int .i64 0]) := by kernel_rfl
@[go_sem] theorem Tryz.k174 : kindT Tryz.prog 174 = .i .u64 := by kernel_rfl
@[go_sem] theorem Tryz.s174 : szT Tryz.prog 174 = some 1 := by kernel_rfl
@[go_sem] theorem Tryz.y174 : bytesT Tryz.prog 174 = some 8 := by kernel_rfl
@[go_sem] theorem Tryz.z174 : zeroT Tryz.prog 174 = some (.int .u64 0) := by kernel_rfl
@[go_sem] theorem Tryz.k181 : kindT Tryz.prog 181 = .i .i64 := by kernel_rfl
@[go_sem] theorem Tryz.s181 : szT Tryz.prog 181 = some 1 := by kernel_rfl
@[go_sem] theorem Tryz.y181 : bytesT Tryz.prog 181 = some 8 := by kernel_rfl
@[go_sem] theorem Tryz.z181 : zeroT Tryz.prog 181 = some (.int .i64 0) := by kernel_rfl
@[go_sem] theorem Tryz.k191 : kindT Tryz.prog 191 = .i .u64 := by kernel_rfl
@[go_sem] theorem Tryz.s191 : szT Tryz.prog 191 = some 1 := by kernel_rfl
@[go_sem] theorem Tryz.y191 : bytesT Tryz.prog 191 = some 8 := by kernel_rfl
@[go_sem] theorem Tryz.z191 : zeroT Tryz.prog 191 = some (.int .u64 0) := by kernel_rfl
@[go_sem] theorem Tryz.k199 : kindT Tryz.prog 199 = .i .u64 := by kernel_rfl
@[go_sem] theorem Tryz.s199 : szT Tryz.prog 199 = some 1 := by kernel_rfl
@[go_sem] theorem Tryz.y199 : bytesT Tryz.prog 199 = some 8 := by kernel_rfl
@[go_sem] theorem Tryz.z199 : zeroT Tryz.prog 199 = some (.int .u64 0) := by kernel_rfl
@[go_sem] theorem Tryz.e76 : eqT Tryz.prog 76 = true := by kernel_rfl
@[go_sem] theorem Tryz.e81 : eqT Tryz.prog 81 = true := by kernel_rfl
@[go_sem] theorem Tryz.e146 : eqT Tryz.prog 146 = true := by kernel_rfl
attribute [go_sem] Tryz.ntmps3 Tryz.results3
attribute [go_sem] Tryz.ntmps4 Tryz.results4
attribute [go_sem] Tryz.ntmps5 Tryz.results5
attribute [go_sem] Tryz.ntmps6 Tryz.results6
attribute [go_sem] Tryz.ntmps7 Tryz.results7
attribute [go_sem] Tryz.ntmps8 Tryz.results8
attribute [go_sem] Tryz.ntmps9 Tryz.results9
attribute [go_sem] Tryz.ntmps10 Tryz.results10
attribute [go_sem] Tryz.ntmps11 Tryz.results11
attribute [go_sem] Tryz.ntmps12 Tryz.results12
attribute [go_sem] Tryz.ntmps13 Tryz.results13
attribute [go_sem] Tryz.ntmps14 Tryz.results14
attribute [go_sem] Tryz.ntmps15 Tryz.results15
attribute [go_sem] Tryz.ntmps16 Tryz.results16
attribute [go_sem] Tryz.ntmps17 Tryz.results17
attribute [go_sem] Tryz.ntmps18 Tryz.results18
attribute [go_sem] Tryz.ntmps19 Tryz.results19
attribute [go_sem] Tryz.ntmps20 Tryz.results20
attribute [go_sem] Tryz.ntmps21 Tryz.results21
attribute [go_sem] Tryz.ntmps22 Tryz.results22
attribute [go_sem] Tryz.ntmps23 Tryz.results23
attribute [go_sem] Tryz.ntmps24 Tryz.results24
attribute [go_sem] Tryz.ntmps25 Tryz.results25
attribute [go_sem] Tryz.ntmps26 Tryz.results26
attribute [go_sem] Tryz.ntmps27 Tryz.results27
attribute [go_sem] Tryz.ntmps28 Tryz.results28
attribute [go_sem] Tryz.ntmps29 Tryz.results29
attribute [go_sem] Tryz.ntmps30 Tryz.results30
attribute [go_sem] Tryz.ntmps31 Tryz.results31
attribute [go_sem] Tryz.ntmps32 Tryz.results32
attribute [go_sem] Tryz.ntmps33 Tryz.results33
attribute [go_sem] Tryz.ntmps34 Tryz.results34
attribute [go_sem] Tryz.ntmps35 Tryz.results35
attribute [go_sem] Tryz.ntmps36 Tryz.results36
attribute [go_sem] Tryz.ntmps37 Tryz.results37
attribute [go_sem] Tryz.ntmps38 Tryz.results38
attribute [go_sem] Tryz.ntmps39 Tryz.results39
attribute [go_sem] Tryz.ntmps40 Tryz.results40
attribute [go_sem] Tryz.ntmps41 Tryz.results41
attribute [go_sem] Tryz.ntmps42 Tryz.results42
attribute [go_sem] Tryz.ntmps43 Tryz.results43
attribute [go_sem] Tryz.ntmps44 Tryz.results44
attribute [go_sem] Tryz.ntmps45 Tryz.results45
attribute [go_sem] Tryz.ntmps46 Tryz.results46
attribute [go_sem] Tryz.ntmps47 Tryz.results47
attribute [go_sem] Tryz.ntmps48 Tryz.results48
attribute [go_sem] Tryz.ntmps49 Tryz.results49
attribute [go_sem] Tryz.ntmps50 Tryz.results50
attribute [go_sem] Tryz.ntmps51 Tryz.results51
attribute [go_sem] Tryz.ntmps52 Tryz.results52
attribute [go_sem] Tryz.ntmps53 Tryz.results53
attribute [go_sem] Tryz.ntmps54 Tryz.results54
attribute [go_sem] Tryz.ntmps55 Tryz.results55
attribute [go_sem] Tryz.ntmps56 Tryz.results56
attribute [go_sem] Tryz.ntmps57 Tryz.results57
attribute [go_sem] Tryz.ntmps58 Tryz.results58
attribute [go_sem] Tryz.ntmps59 Tryz.results59
attribute [go_sem] Tryz.ntmps60 Tryz.results60
attribute [go_sem] Tryz.ntmps61 Tryz.results61
attribute [go_sem] Tryz.ntmps62 Tryz.results62
attribute [go_sem] Tryz.ntmps63 Tryz.results63
attribute [go_sem] Tryz.ntmps64 Tryz.results64
attribute [go_sem] Tryz.ntmps65 Tryz.results65
attribute [go_sem] Tryz.ntmps66 Tryz.results66
attribute [go_sem] Tryz.ntmps67 Tryz.results67
attribute [go_sem] Tryz.ntmps68 Tryz.results68
attribute [go_sem] Tryz.ntmps69 Tryz.results69
attribute [go_sem] Tryz.ntmps70 Tryz.results70
attribute [go_sem] Tryz.ntmps71 Tryz.results71
attribute [go_sem] Tryz.ntmps72 Tryz.results72
attribute [go_sem] Tryz.ntmps73 Tryz.results73
attribute [go_sem] Tryz.ntmps74 Tryz.results74
attribute [go_sem] Tryz.ntmps75 Tryz.results75
attribute [go_sem] Tryz.ntmps76 Tryz.results76
attribute [go_sem] Tryz.ntmps77 Tryz.results77
attribute [go_sem] Tryz.ntmps78 Tryz.results78
attribute [go_sem] Tryz.ntmps79 Tryz.results79
attribute [go_sem] Tryz.ntmps80 Tryz.results80
attribute [go_sem] Tryz.ntmps81 Tryz.results81
attribute [go_sem] Tryz.ntmps82 Tryz.results82
attribute [go_sem] Tryz.ntmps83 Tryz.results83
attribute [go_sem] Tryz.ntmps84 Tryz.results84
attribute [go_sem] Tryz.ntmps85 Tryz.results85
attribute [go_sem] Tryz.ntmps86 Tryz.results86
attribute [go_sem] Tryz.ntmps87 Tryz.results87
attribute [go_sem] Tryz.ntmps88 Tryz.results88
attribute [go_sem] Tryz.ntmps89 Tryz.results89
attribute [go_sem] Tryz.ntmps90 Tryz.results90
attribute [go_sem] Tryz.ntmps91 Tryz.results91
attribute [go_sem] Tryz.ntmps92 Tryz.results92
attribute [go_sem] Tryz.ntmps93 Tryz.results93
attribute [go_sem] Tryz.ntmps94 Tryz.results94
attribute [go_sem] Tryz.ntmps95 Tryz.results95
attribute [go_sem] Tryz.ntmps96 Tryz.results96
attribute [go_sem] Tryz.ntmps97 Tryz.results97
attribute [go_sem] Tryz.ntmps98 Tryz.results98
attribute [go_sem] Tryz.ntmps99 Tryz.results99
attribute [go_sem] Tryz.ntmps100 Tryz.results100
attribute [go_sem] Tryz.ntmps101 Tryz.results101
attribute [go_sem] Tryz.ntmps102 Tryz.results102
attribute [go_sem] Tryz.ntmps103 Tryz.results103
attribute [go_sem] Tryz.ntmps104 Tryz.results104
attribute [go_sem] Tryz.ntmps105 Tryz.results105
attribute [go_sem] Tryz.ntmps106 Tryz.results106
attribute [go_sem] Tryz.ntmps107 Tryz.results107
attribute [go_sem] Tryz.ntmps108 Tryz.results108
attribute [go_sem] Tryz.ntmps109 Tryz.results109
attribute [go_sem] Tryz.ntmps110 Tryz.results110
attribute [go_sem] Tryz.ntmps111 Tryz.results111
attribute [go_sem] Tryz.ntmps112 Tryz.results112
attribute [go_sem] Tryz.ntmps113 Tryz.results113
attribute [go_sem] Tryz.ntmps114 Tryz.results114
attribute [go_sem] Tryz.ntmps115 Tryz.results115
attribute [go_sem] Tryz.ntmps116 Tryz.results116
attribute [go_sem] Tryz.ntmps117 Tryz.results117
attribute [go_sem] Tryz.ntmps118 Tryz.results118
attribute [go_sem] Tryz.ntmps119 Tryz.results119
attribute [go_sem] Tryz.ntmps120 Tryz.results120
attribute [go_sem] Tryz.ntmps121 Tryz.results121
attribute [go_sem] Tryz.ntmps122 Tryz.results122
attribute [go_sem] Tryz.ntmps123 Tryz.results123
attribute [go_sem] Tryz.ntmps124 Tryz.results124
attribute [go_sem] Tryz.ntmps125 Tryz.results125
attribute [go_sem] Tryz.ntmps126 Tryz.results126
attribute [go_sem] Tryz.ntmps127 Tryz.results127
attribute [go_sem] Tryz.ntmps128 Tryz.results128
attribute [go_sem] Tryz.ntmps129 Tryz.results129
attribute [go_sem] Tryz.ntmps130 Tryz.results130
attribute [go_sem] Tryz.ntmps131 Tryz.results131
attribute [go_sem] Tryz.ntmps132 Tryz.results132
attribute [go_sem] Tryz.ntmps133 Tryz.results133
attribute [go_sem] Tryz.ntmps134 Tryz.results134
attribute [go_sem] Tryz.ntmps135 Tryz.results135
attribute [go_sem] Tryz.ntmps136 Tryz.results136
attribute [go_sem] Tryz.ntmps137 Tryz.results137
attribute [go_sem] Tryz.ntmps138 Tryz.results138
attribute [go_sem] Tryz.ntmps139 Tryz.results139
attribute [go_sem] Tryz.ntmps140 Tryz.results140
attribute [go_sem] Tryz.ntmps141 Tryz.results141
attribute [go_sem] Tryz.ntmps142 Tryz.results142
attribute [go_sem] Tryz.ntmps143 Tryz.results143
attribute [go_sem] Tryz.ntmps144 Tryz.results144
attribute [go_sem] Tryz.ntmps145 Tryz.results145
attribute [go_sem] Tryz.ntmps146 Tryz.results146
attribute [go_sem] Tryz.ntmps147 Tryz.results147
attribute [go_sem] Tryz.ntmps148 Tryz.results148
attribute [go_sem] Tryz.ntmps149 Tryz.results149
attribute [go_sem] Tryz.ntmps150 Tryz.results150
attribute [go_sem] Tryz.ntmps151 Tryz.results151
attribute [go_sem] Tryz.ntmps152 Tryz.results152
attribute [go_sem] Tryz.ntmps153 Tryz.results153
attribute [go_sem] Tryz.ntmps154 Tryz.results154
attribute [go_sem] Tryz.ntmps155 Tryz.results155
attribute [go_sem] Tryz.ntmps156 Tryz.results156
attribute [go_sem] Tryz.ntmps157 Tryz.results157
attribute [go_sem] Tryz.ntmps158 Tryz.results158
attribute [go_sem] Tryz.ntmps159 Tryz.results159
attribute [go_sem] Tryz.ntmps160 Tryz.results160
attribute [go_sem] Tryz.ntmps161 Tryz.results161
attribute [go_sem] Tryz.ntmps162 Tryz.results162
attribute [go_sem] Tryz.ntmps163 Tryz.results163
attribute [go_sem] Tryz.ntmps164 Tryz.results164
attribute [go_sem] Tryz.ntmps165 Tryz.results165
attribute [go_sem] Tryz.ntmps166 Tryz.results166
attribute [go_sem] Tryz.ntmps167 Tryz.results167
attribute [go_sem] Tryz.ntmps168 Tryz.results168
attribute [go_sem] Tryz.ntmps169 Tryz.results169
attribute [go_sem] Tryz.ntmps170 Tryz.results170
attribute [go_sem] Tryz.ntmps171 Tryz.results171
attribute [go_sem] Tryz.ntmps172 Tryz.results172
attribute [go_sem] Tryz.ntmps173 Tryz.results173
attribute [go_sem] Tryz.ntmps174 Tryz.results174
attribute [go_sem] Tryz.ntmps175 Tryz.results175
attribute [go_sem] Tryz.ntmps176 Tryz.results176
attribute [go_sem] Tryz.ntmps177 Tryz.results177
attribute [go_sem] Tryz.ntmps178 Tryz.results178
attribute [go_sem] Tryz.ntmps179 Tryz.results179
attribute [go_sem] Tryz.ntmps180 Tryz.results180
attribute [go_sem] Tryz.ntmps181 Tryz.results181
attribute [go_sem] Tryz.ntmps182 Tryz.results182
attribute [go_sem] Tryz.ntmps183 Tryz.results183
attribute [go_sem] Tryz.ntmps184 Tryz.results184
attribute [go_sem] Tryz.ntmps185 Tryz.results185
attribute [go_sem] Tryz.ntmps186 Tryz.results186
attribute [go_sem] Tryz.ntmps187 Tryz.results187
attribute [go_sem] Tryz.ntmps188 Tryz.results188
attribute [go_sem] Tryz.ntmps189 Tryz.results189
attribute [go_sem] Tryz.ntmps190 Tryz.results190
attribute [go_sem] Tryz.ntmps191 Tryz.results191
attribute [go_sem] Tryz.ntmps192 Tryz.results192
attribute [go_sem] Tryz.ntmps193 Tryz.results193
attribute [go_sem] Tryz.ntmps194 Tryz.results194
attribute [go_sem] Tryz.ntmps195 Tryz.results195
attribute [go_sem] Tryz.ntmps196 Tryz.results196
attribute [go_sem] Tryz.ntmps197 Tryz.results197
attribute [go_sem] Tryz.ntmps198 Tryz.results198
attribute [go_sem] Tryz.ntmps199 Tryz.results199
attribute [go_sem] Tryz.ntmps200 Tryz.results200
attribute [go_sem] Tryz.ntmps201 Tryz.results201
attribute [go_sem] Int.natCast_nonneg Int.toNat_natCast Int.toNat_zero Int.toNat_one not_true_eq_false false_or or_self Option.isSome_some Bool.and_self Nat.zero_add Nat.mul_one List.length_map List.take_length Int.cast_ofNat_Int Int.le_refl Nat.le_refl List.append_eq ne_eq not_false_eq_true beq_true beq_false BEq.rfl Bool.not_true Bool.not_false decide_true decide_false exists_prop
end Go.Proofs.YtppoacgeiooppaaGreat
