/- Closed facts on the types of this translation. Written by a program of mine (alty.py). -/
import Derived.Test.YtppoacgeiooppaaProg
import Derived.Test.YtppoacgeiooppaaCAL17
import Derived.KernelRfl
namespace Go.Proofs.Ytppoacgeiooppaa
open Go.AL
@[go_sem] theorem Try.k1 : kindT Try.prog 1 = .fnc := by kernel_rfl
@[go_sem] theorem Try.s1 : szT Try.prog 1 = some 1 := by kernel_rfl
@[go_sem] theorem Try.y1 : bytesT Try.prog 1 = some 8 := by kernel_rfl
@[go_sem] theorem Try.z1 : zeroT Try.prog 1 = some (.nilFunc) := by kernel_rfl
@[go_sem] theorem Try.k2 : kindT Try.prog 2 = .i .i64 := by kernel_rfl
@[go_sem] theorem Try.s2 : szT Try.prog 2 = some 1 := by kernel_rfl
@[go_sem] theorem Try.y2 : bytesT Try.prog 2 = some 8 := by kernel_rfl
@[go_sem] theorem Try.z2 : zeroT Try.prog 2 = some (.int .i64 0) := by kernel_rfl
@[go_sem] theorem Try.k3 : kindT Try.prog 3 = .i .i64 := by kernel_rfl
@[go_sem] theorem Try.s3 : szT Try.prog 3 = some 1 := by kernel_rfl
@[go_sem] theorem Try.y3 : bytesT Try.prog 3 = some 8 := by kernel_rfl
@[go_sem] theorem Try.z3 : zeroT Try.prog 3 = some (.int .i64 0) := by kernel_rfl
@[go_sem] theorem Try.k4 : kindT Try.prog 4 = .b := by kernel_rfl
@[go_sem] theorem Try.s4 : szT Try.prog 4 = some 1 := by kernel_rfl
@[go_sem] theorem Try.y4 : bytesT Try.prog 4 = some 1 := by kernel_rfl
@[go_sem] theorem Try.z4 : zeroT Try.prog 4 = some (.bool false) := by kernel_rfl
@[go_sem] theorem Try.k5 : kindT Try.prog 5 = .i .u8 := by kernel_rfl
@[go_sem] theorem Try.s5 : szT Try.prog 5 = some 1 := by kernel_rfl
@[go_sem] theorem Try.y5 : bytesT Try.prog 5 = some 1 := by kernel_rfl
@[go_sem] theorem Try.z5 : zeroT Try.prog 5 = some (.int .u8 0) := by kernel_rfl
@[go_sem] theorem Try.k9 : kindT Try.prog 9 = .s := by kernel_rfl
@[go_sem] theorem Try.s9 : szT Try.prog 9 = some 1 := by kernel_rfl
@[go_sem] theorem Try.y9 : bytesT Try.prog 9 = some 16 := by kernel_rfl
@[go_sem] theorem Try.z9 : zeroT Try.prog 9 = some (.string ByteArray.empty) := by kernel_rfl
@[go_sem] theorem Try.k20 : kindT Try.prog 20 = .ifc := by kernel_rfl
@[go_sem] theorem Try.s20 : szT Try.prog 20 = some 1 := by kernel_rfl
@[go_sem] theorem Try.y20 : bytesT Try.prog 20 = some 16 := by kernel_rfl
@[go_sem] theorem Try.z20 : zeroT Try.prog 20 = some (.nilIface) := by kernel_rfl
@[go_sem] theorem Try.k22 : kindT Try.prog 22 = .sl 71 := by kernel_rfl
@[go_sem] theorem Try.s22 : szT Try.prog 22 = some 1 := by kernel_rfl
@[go_sem] theorem Try.y22 : bytesT Try.prog 22 = some 24 := by kernel_rfl
@[go_sem] theorem Try.z22 : zeroT Try.prog 22 = some (.slice none 0 0) := by kernel_rfl
@[go_sem] theorem Try.k23 : kindT Try.prog 23 = .sl 62 := by kernel_rfl
@[go_sem] theorem Try.s23 : szT Try.prog 23 = some 1 := by kernel_rfl
@[go_sem] theorem Try.y23 : bytesT Try.prog 23 = some 24 := by kernel_rfl
@[go_sem] theorem Try.z23 : zeroT Try.prog 23 = some (.slice none 0 0) := by kernel_rfl
@[go_sem] theorem Try.k24 : kindT Try.prog 24 = .st [(0, 22, 1), (1, 23, 1)] := by kernel_rfl
@[go_sem] theorem Try.s24 : szT Try.prog 24 = some 2 := by kernel_rfl
@[go_sem] theorem Try.y24 : bytesT Try.prog 24 = some 48 := by kernel_rfl
@[go_sem] theorem Try.z24 : zeroT Try.prog 24 = some (.agg #[.slice none 0 0, .slice none 0 0]) := by kernel_rfl
@[go_sem] theorem Try.k25 : kindT Try.prog 25 = .st [(0, 22, 1), (1, 23, 1)] := by kernel_rfl
@[go_sem] theorem Try.s25 : szT Try.prog 25 = some 2 := by kernel_rfl
@[go_sem] theorem Try.y25 : bytesT Try.prog 25 = some 48 := by kernel_rfl
@[go_sem] theorem Try.z25 : zeroT Try.prog 25 = some (.agg #[.slice none 0 0, .slice none 0 0]) := by kernel_rfl
@[go_sem] theorem Try.k26 : kindT Try.prog 26 = .sl 73 := by kernel_rfl
@[go_sem] theorem Try.s26 : szT Try.prog 26 = some 1 := by kernel_rfl
@[go_sem] theorem Try.y26 : bytesT Try.prog 26 = some 24 := by kernel_rfl
@[go_sem] theorem Try.z26 : zeroT Try.prog 26 = some (.slice none 0 0) := by kernel_rfl
@[go_sem] theorem Try.k27 : kindT Try.prog 27 = .sl 30 := by kernel_rfl
@[go_sem] theorem Try.s27 : szT Try.prog 27 = some 1 := by kernel_rfl
@[go_sem] theorem Try.y27 : bytesT Try.prog 27 = some 24 := by kernel_rfl
@[go_sem] theorem Try.z27 : zeroT Try.prog 27 = some (.slice none 0 0) := by kernel_rfl
@[go_sem] theorem Try.k28 : kindT Try.prog 28 = .sl 89 := by kernel_rfl
@[go_sem] theorem Try.s28 : szT Try.prog 28 = some 1 := by kernel_rfl
@[go_sem] theorem Try.y28 : bytesT Try.prog 28 = some 24 := by kernel_rfl
@[go_sem] theorem Try.z28 : zeroT Try.prog 28 = some (.slice none 0 0) := by kernel_rfl
@[go_sem] theorem Try.k29 : kindT Try.prog 29 = .st [(0, 3, 1), (1, 3, 1), (2, 9, 1), (3, 3, 1), (4, 27, 1), (5, 28, 1)] := by kernel_rfl
@[go_sem] theorem Try.s29 : szT Try.prog 29 = some 6 := by kernel_rfl
@[go_sem] theorem Try.y29 : bytesT Try.prog 29 = some 88 := by kernel_rfl
@[go_sem] theorem Try.z29 : zeroT Try.prog 29 = some (.agg #[.int .i64 0, .int .i64 0, .string ByteArray.empty, .int .i64 0, .slice none 0 0, .slice none 0 0]) := by kernel_rfl
@[go_sem] theorem Try.k30 : kindT Try.prog 30 = .st [(0, 3, 1), (1, 3, 1), (2, 9, 1), (3, 3, 1), (4, 27, 1), (5, 28, 1)] := by kernel_rfl
@[go_sem] theorem Try.s30 : szT Try.prog 30 = some 6 := by kernel_rfl
@[go_sem] theorem Try.y30 : bytesT Try.prog 30 = some 88 := by kernel_rfl
@[go_sem] theorem Try.z30 : zeroT Try.prog 30 = some (.agg #[.int .i64 0, .int .i64 0, .string ByteArray.empty, .int .i64 0, .slice none 0 0, .slice none 0 0]) := by kernel_rfl
@[go_sem] theorem Try.k34 : kindT Try.prog 34 = .i .i64 := by kernel_rfl
@[go_sem] theorem Try.s34 : szT Try.prog 34 = some 1 := by kernel_rfl
@[go_sem] theorem Try.y34 : bytesT Try.prog 34 = some 8 := by kernel_rfl
@[go_sem] theorem Try.z34 : zeroT Try.prog 34 = some (.int .i64 0) := by kernel_rfl
@[go_sem] theorem Try.k37 : kindT Try.prog 37 = .sl 9 := by kernel_rfl
@[go_sem] theorem Try.s37 : szT Try.prog 37 = some 1 := by kernel_rfl
@[go_sem] theorem Try.y37 : bytesT Try.prog 37 = some 24 := by kernel_rfl
@[go_sem] theorem Try.z37 : zeroT Try.prog 37 = some (.slice none 0 0) := by kernel_rfl
@[go_sem] theorem Try.k47 : kindT Try.prog 47 = .sl 3 := by kernel_rfl
@[go_sem] theorem Try.s47 : szT Try.prog 47 = some 1 := by kernel_rfl
@[go_sem] theorem Try.y47 : bytesT Try.prog 47 = some 24 := by kernel_rfl
@[go_sem] theorem Try.z47 : zeroT Try.prog 47 = some (.slice none 0 0) := by kernel_rfl
@[go_sem] theorem Try.k55 : kindT Try.prog 55 = .fnc := by kernel_rfl
@[go_sem] theorem Try.s55 : szT Try.prog 55 = some 1 := by kernel_rfl
@[go_sem] theorem Try.y55 : bytesT Try.prog 55 = some 8 := by kernel_rfl
@[go_sem] theorem Try.z55 : zeroT Try.prog 55 = some (.nilFunc) := by kernel_rfl
@[go_sem] theorem Try.k61 : kindT Try.prog 61 = .st [(0, 9, 1), (1, 26, 1), (2, 3, 1), (3, 30, 6)] := by kernel_rfl
@[go_sem] theorem Try.s61 : szT Try.prog 61 = some 9 := by kernel_rfl
@[go_sem] theorem Try.y61 : bytesT Try.prog 61 = some 136 := by kernel_rfl
@[go_sem] theorem Try.z61 : zeroT Try.prog 61 = some (.agg #[.string ByteArray.empty, .slice none 0 0, .int .i64 0, .int .i64 0, .int .i64 0, .string ByteArray.empty, .int .i64 0, .slice none 0 0, .slice none 0 0]) := by kernel_rfl
@[go_sem] theorem Try.k62 : kindT Try.prog 62 = .st [(0, 9, 1), (1, 26, 1), (2, 3, 1), (3, 30, 6)] := by kernel_rfl
@[go_sem] theorem Try.s62 : szT Try.prog 62 = some 9 := by kernel_rfl
@[go_sem] theorem Try.y62 : bytesT Try.prog 62 = some 136 := by kernel_rfl
@[go_sem] theorem Try.z62 : zeroT Try.prog 62 = some (.agg #[.string ByteArray.empty, .slice none 0 0, .int .i64 0, .int .i64 0, .int .i64 0, .string ByteArray.empty, .int .i64 0, .slice none 0 0, .slice none 0 0]) := by kernel_rfl
@[go_sem] theorem Try.k64 : kindT Try.prog 64 = .sl 68 := by kernel_rfl
@[go_sem] theorem Try.s64 : szT Try.prog 64 = some 1 := by kernel_rfl
@[go_sem] theorem Try.y64 : bytesT Try.prog 64 = some 24 := by kernel_rfl
@[go_sem] theorem Try.z64 : zeroT Try.prog 64 = some (.slice none 0 0) := by kernel_rfl
@[go_sem] theorem Try.k65 : kindT Try.prog 65 = .st [(0, 9, 1), (1, 64, 1)] := by kernel_rfl
@[go_sem] theorem Try.s65 : szT Try.prog 65 = some 2 := by kernel_rfl
@[go_sem] theorem Try.y65 : bytesT Try.prog 65 = some 40 := by kernel_rfl
@[go_sem] theorem Try.z65 : zeroT Try.prog 65 = some (.agg #[.string ByteArray.empty, .slice none 0 0]) := by kernel_rfl
@[go_sem] theorem Try.k66 : kindT Try.prog 66 = .st [(0, 9, 1), (1, 64, 1)] := by kernel_rfl
@[go_sem] theorem Try.s66 : szT Try.prog 66 = some 2 := by kernel_rfl
@[go_sem] theorem Try.y66 : bytesT Try.prog 66 = some 40 := by kernel_rfl
@[go_sem] theorem Try.z66 : zeroT Try.prog 66 = some (.agg #[.string ByteArray.empty, .slice none 0 0]) := by kernel_rfl
@[go_sem] theorem Try.k67 : kindT Try.prog 67 = .st [(0, 3, 1), (1, 4, 1)] := by kernel_rfl
@[go_sem] theorem Try.s67 : szT Try.prog 67 = some 2 := by kernel_rfl
@[go_sem] theorem Try.y67 : bytesT Try.prog 67 = some 16 := by kernel_rfl
@[go_sem] theorem Try.z67 : zeroT Try.prog 67 = some (.agg #[.int .i64 0, .bool false]) := by kernel_rfl
@[go_sem] theorem Try.k68 : kindT Try.prog 68 = .st [(0, 3, 1), (1, 4, 1)] := by kernel_rfl
@[go_sem] theorem Try.s68 : szT Try.prog 68 = some 2 := by kernel_rfl
@[go_sem] theorem Try.y68 : bytesT Try.prog 68 = some 16 := by kernel_rfl
@[go_sem] theorem Try.z68 : zeroT Try.prog 68 = some (.agg #[.int .i64 0, .bool false]) := by kernel_rfl
@[go_sem] theorem Try.k69 : kindT Try.prog 69 = .sl 66 := by kernel_rfl
@[go_sem] theorem Try.s69 : szT Try.prog 69 = some 1 := by kernel_rfl
@[go_sem] theorem Try.y69 : bytesT Try.prog 69 = some 24 := by kernel_rfl
@[go_sem] theorem Try.z69 : zeroT Try.prog 69 = some (.slice none 0 0) := by kernel_rfl
@[go_sem] theorem Try.k70 : kindT Try.prog 70 = .st [(0, 9, 1), (1, 4, 1), (2, 69, 1)] := by kernel_rfl
@[go_sem] theorem Try.s70 : szT Try.prog 70 = some 3 := by kernel_rfl
@[go_sem] theorem Try.y70 : bytesT Try.prog 70 = some 48 := by kernel_rfl
@[go_sem] theorem Try.z70 : zeroT Try.prog 70 = some (.agg #[.string ByteArray.empty, .bool false, .slice none 0 0]) := by kernel_rfl
@[go_sem] theorem Try.k71 : kindT Try.prog 71 = .st [(0, 9, 1), (1, 4, 1), (2, 69, 1)] := by kernel_rfl
@[go_sem] theorem Try.s71 : szT Try.prog 71 = some 3 := by kernel_rfl
@[go_sem] theorem Try.y71 : bytesT Try.prog 71 = some 48 := by kernel_rfl
@[go_sem] theorem Try.z71 : zeroT Try.prog 71 = some (.agg #[.string ByteArray.empty, .bool false, .slice none 0 0]) := by kernel_rfl
@[go_sem] theorem Try.k72 : kindT Try.prog 72 = .st [(0, 9, 1), (1, 3, 1)] := by kernel_rfl
@[go_sem] theorem Try.s72 : szT Try.prog 72 = some 2 := by kernel_rfl
@[go_sem] theorem Try.y72 : bytesT Try.prog 72 = some 24 := by kernel_rfl
@[go_sem] theorem Try.z72 : zeroT Try.prog 72 = some (.agg #[.string ByteArray.empty, .int .i64 0]) := by kernel_rfl
@[go_sem] theorem Try.k73 : kindT Try.prog 73 = .st [(0, 9, 1), (1, 3, 1)] := by kernel_rfl
@[go_sem] theorem Try.s73 : szT Try.prog 73 = some 2 := by kernel_rfl
@[go_sem] theorem Try.y73 : bytesT Try.prog 73 = some 24 := by kernel_rfl
@[go_sem] theorem Try.z73 : zeroT Try.prog 73 = some (.agg #[.string ByteArray.empty, .int .i64 0]) := by kernel_rfl
@[go_sem] theorem Try.k76 : kindT Try.prog 76 = .ar 2 37 := by kernel_rfl
@[go_sem] theorem Try.s76 : szT Try.prog 76 = some 2 := by kernel_rfl
@[go_sem] theorem Try.y76 : bytesT Try.prog 76 = some 48 := by kernel_rfl
@[go_sem] theorem Try.z76 : zeroT Try.prog 76 = some (.agg #[.slice none 0 0, .slice none 0 0]) := by kernel_rfl
@[go_sem] theorem Try.k77 : kindT Try.prog 77 = .p 115 := by kernel_rfl
@[go_sem] theorem Try.s77 : szT Try.prog 77 = some 1 := by kernel_rfl
@[go_sem] theorem Try.y77 : bytesT Try.prog 77 = some 8 := by kernel_rfl
@[go_sem] theorem Try.z77 : zeroT Try.prog 77 = some (.pointer none) := by kernel_rfl
@[go_sem] theorem Try.k78 : kindT Try.prog 78 = .sl 26 := by kernel_rfl
@[go_sem] theorem Try.s78 : szT Try.prog 78 = some 1 := by kernel_rfl
@[go_sem] theorem Try.y78 : bytesT Try.prog 78 = some 24 := by kernel_rfl
@[go_sem] theorem Try.z78 : zeroT Try.prog 78 = some (.slice none 0 0) := by kernel_rfl
@[go_sem] theorem Try.k82 : kindT Try.prog 82 = .p 119 := by kernel_rfl
@[go_sem] theorem Try.s82 : szT Try.prog 82 = some 1 := by kernel_rfl
@[go_sem] theorem Try.y82 : bytesT Try.prog 82 = some 8 := by kernel_rfl
@[go_sem] theorem Try.z82 : zeroT Try.prog 82 = some (.pointer none) := by kernel_rfl
@[go_sem] theorem Try.k84 : kindT Try.prog 84 = .fnc := by kernel_rfl
@[go_sem] theorem Try.s84 : szT Try.prog 84 = some 1 := by kernel_rfl
@[go_sem] theorem Try.y84 : bytesT Try.prog 84 = some 8 := by kernel_rfl
@[go_sem] theorem Try.z84 : zeroT Try.prog 84 = some (.nilFunc) := by kernel_rfl
@[go_sem] theorem Try.k88 : kindT Try.prog 88 = .st [(0, 37, 1), (1, 30, 6)] := by kernel_rfl
@[go_sem] theorem Try.s88 : szT Try.prog 88 = some 7 := by kernel_rfl
@[go_sem] theorem Try.y88 : bytesT Try.prog 88 = some 112 := by kernel_rfl
@[go_sem] theorem Try.z88 : zeroT Try.prog 88 = some (.agg #[.slice none 0 0, .int .i64 0, .int .i64 0, .string ByteArray.empty, .int .i64 0, .slice none 0 0, .slice none 0 0]) := by kernel_rfl
@[go_sem] theorem Try.k89 : kindT Try.prog 89 = .st [(0, 37, 1), (1, 30, 6)] := by kernel_rfl
@[go_sem] theorem Try.s89 : szT Try.prog 89 = some 7 := by kernel_rfl
@[go_sem] theorem Try.y89 : bytesT Try.prog 89 = some 112 := by kernel_rfl
@[go_sem] theorem Try.z89 : zeroT Try.prog 89 = some (.agg #[.slice none 0 0, .int .i64 0, .int .i64 0, .string ByteArray.empty, .int .i64 0, .slice none 0 0, .slice none 0 0]) := by kernel_rfl
@[go_sem] theorem Try.k96 : kindT Try.prog 96 = .sl 47 := by kernel_rfl
@[go_sem] theorem Try.s96 : szT Try.prog 96 = some 1 := by kernel_rfl
@[go_sem] theorem Try.y96 : bytesT Try.prog 96 = some 24 := by kernel_rfl
@[go_sem] theorem Try.z96 : zeroT Try.prog 96 = some (.slice none 0 0) := by kernel_rfl
@[go_sem] theorem Try.k99 : kindT Try.prog 99 = .mp 9 4 := by kernel_rfl
@[go_sem] theorem Try.s99 : szT Try.prog 99 = some 1 := by kernel_rfl
@[go_sem] theorem Try.y99 : bytesT Try.prog 99 = some 8 := by kernel_rfl
@[go_sem] theorem Try.z99 : zeroT Try.prog 99 = some (.map none) := by kernel_rfl
@[go_sem] theorem Try.k101 : kindT Try.prog 101 = .st [(0, 99, 1), (1, 99, 1)] := by kernel_rfl
@[go_sem] theorem Try.s101 : szT Try.prog 101 = some 2 := by kernel_rfl
@[go_sem] theorem Try.y101 : bytesT Try.prog 101 = some 16 := by kernel_rfl
@[go_sem] theorem Try.z101 : zeroT Try.prog 101 = some (.agg #[.map none, .map none]) := by kernel_rfl
@[go_sem] theorem Try.k102 : kindT Try.prog 102 = .st [(0, 99, 1), (1, 99, 1)] := by kernel_rfl
@[go_sem] theorem Try.s102 : szT Try.prog 102 = some 2 := by kernel_rfl
@[go_sem] theorem Try.y102 : bytesT Try.prog 102 = some 16 := by kernel_rfl
@[go_sem] theorem Try.z102 : zeroT Try.prog 102 = some (.agg #[.map none, .map none]) := by kernel_rfl
@[go_sem] theorem Try.k104 : kindT Try.prog 104 = .fnc := by kernel_rfl
@[go_sem] theorem Try.s104 : szT Try.prog 104 = some 1 := by kernel_rfl
@[go_sem] theorem Try.y104 : bytesT Try.prog 104 = some 8 := by kernel_rfl
@[go_sem] theorem Try.z104 : zeroT Try.prog 104 = some (.nilFunc) := by kernel_rfl
@[go_sem] theorem Try.k105 : kindT Try.prog 105 = .fnc := by kernel_rfl
@[go_sem] theorem Try.s105 : szT Try.prog 105 = some 1 := by kernel_rfl
@[go_sem] theorem Try.y105 : bytesT Try.prog 105 = some 8 := by kernel_rfl
@[go_sem] theorem Try.z105 : zeroT Try.prog 105 = some (.nilFunc) := by kernel_rfl
@[go_sem] theorem Try.k108 : kindT Try.prog 108 = .st [(0, 22, 1), (1, 23, 1)] := by kernel_rfl
@[go_sem] theorem Try.s108 : szT Try.prog 108 = some 2 := by kernel_rfl
@[go_sem] theorem Try.y108 : bytesT Try.prog 108 = some 48 := by kernel_rfl
@[go_sem] theorem Try.z108 : zeroT Try.prog 108 = some (.agg #[.slice none 0 0, .slice none 0 0]) := by kernel_rfl
@[go_sem] theorem Try.k109 : kindT Try.prog 109 = .st [(0, 22, 1), (1, 23, 1)] := by kernel_rfl
@[go_sem] theorem Try.s109 : szT Try.prog 109 = some 2 := by kernel_rfl
@[go_sem] theorem Try.y109 : bytesT Try.prog 109 = some 48 := by kernel_rfl
@[go_sem] theorem Try.z109 : zeroT Try.prog 109 = some (.agg #[.slice none 0 0, .slice none 0 0]) := by kernel_rfl
@[go_sem] theorem Try.k110 : kindT Try.prog 110 = .fnc := by kernel_rfl
@[go_sem] theorem Try.s110 : szT Try.prog 110 = some 1 := by kernel_rfl
@[go_sem] theorem Try.y110 : bytesT Try.prog 110 = some 8 := by kernel_rfl
@[go_sem] theorem Try.z110 : zeroT Try.prog 110 = some (.nilFunc) := by kernel_rfl
@[go_sem] theorem Try.k113 : kindT Try.prog 113 = .p 3 := by kernel_rfl
@[go_sem] theorem Try.s113 : szT Try.prog 113 = some 1 := by kernel_rfl
@[go_sem] theorem Try.y113 : bytesT Try.prog 113 = some 8 := by kernel_rfl
@[go_sem] theorem Try.z113 : zeroT Try.prog 113 = some (.pointer none) := by kernel_rfl
@[go_sem] theorem Try.k114 : kindT Try.prog 114 = .st [(0, 73, 2), (2, 4, 1), (3, 77, 1)] := by kernel_rfl
@[go_sem] theorem Try.s114 : szT Try.prog 114 = some 4 := by kernel_rfl
@[go_sem] theorem Try.y114 : bytesT Try.prog 114 = some 40 := by kernel_rfl
@[go_sem] theorem Try.z114 : zeroT Try.prog 114 = some (.agg #[.string ByteArray.empty, .int .i64 0, .bool false, .pointer none]) := by kernel_rfl
@[go_sem] theorem Try.k115 : kindT Try.prog 115 = .st [(0, 73, 2), (2, 4, 1), (3, 77, 1)] := by kernel_rfl
@[go_sem] theorem Try.s115 : szT Try.prog 115 = some 4 := by kernel_rfl
@[go_sem] theorem Try.y115 : bytesT Try.prog 115 = some 40 := by kernel_rfl
@[go_sem] theorem Try.z115 : zeroT Try.prog 115 = some (.agg #[.string ByteArray.empty, .int .i64 0, .bool false, .pointer none]) := by kernel_rfl
@[go_sem] theorem Try.k117 : kindT Try.prog 117 = .ar 13 84 := by kernel_rfl
@[go_sem] theorem Try.s117 : szT Try.prog 117 = some 13 := by kernel_rfl
@[go_sem] theorem Try.y117 : bytesT Try.prog 117 = some 104 := by kernel_rfl
@[go_sem] theorem Try.z117 : zeroT Try.prog 117 = some (.agg #[.nilFunc, .nilFunc, .nilFunc, .nilFunc, .nilFunc, .nilFunc, .nilFunc, .nilFunc, .nilFunc, .nilFunc, .nilFunc, .nilFunc, .nilFunc]) := by kernel_rfl
@[go_sem] theorem Try.k118 : kindT Try.prog 118 = .st [(0, 25, 2), (2, 117, 13), (15, 47, 1), (16, 4, 1)] := by kernel_rfl
@[go_sem] theorem Try.s118 : szT Try.prog 118 = some 17 := by kernel_rfl
@[go_sem] theorem Try.y118 : bytesT Try.prog 118 = some 184 := by kernel_rfl
@[go_sem] theorem Try.z118 : zeroT Try.prog 118 = some (.agg #[.slice none 0 0, .slice none 0 0, .nilFunc, .nilFunc, .nilFunc, .nilFunc, .nilFunc, .nilFunc, .nilFunc, .nilFunc, .nilFunc, .nilFunc, .nilFunc, .nilFunc, .nilFunc, .slice none 0 0, .bool false]) := by kernel_rfl
@[go_sem] theorem Try.k119 : kindT Try.prog 119 = .st [(0, 25, 2), (2, 117, 13), (15, 47, 1), (16, 4, 1)] := by kernel_rfl
@[go_sem] theorem Try.s119 : szT Try.prog 119 = some 17 := by kernel_rfl
@[go_sem] theorem Try.y119 : bytesT Try.prog 119 = some 184 := by kernel_rfl
@[go_sem] theorem Try.z119 : zeroT Try.prog 119 = some (.agg #[.slice none 0 0, .slice none 0 0, .nilFunc, .nilFunc, .nilFunc, .nilFunc, .nilFunc, .nilFunc, .nilFunc, .nilFunc, .nilFunc, .nilFunc, .nilFunc, .nilFunc, .nilFunc, .slice none 0 0, .bool false]) := by kernel_rfl
@[go_sem] theorem Try.k124 : kindT Try.prog 124 = .fnc := by kernel_rfl
@[go_sem] theorem Try.s124 : szT Try.prog 124 = some 1 := by kernel_rfl
@[go_sem] theorem Try.y124 : bytesT Try.prog 124 = some 8 := by kernel_rfl
@[go_sem] theorem Try.z124 : zeroT Try.prog 124 = some (.nilFunc) := by kernel_rfl
@[go_sem] theorem Try.k125 : kindT Try.prog 125 = .fnc := by kernel_rfl
@[go_sem] theorem Try.s125 : szT Try.prog 125 = some 1 := by kernel_rfl
@[go_sem] theorem Try.y125 : bytesT Try.prog 125 = some 8 := by kernel_rfl
@[go_sem] theorem Try.z125 : zeroT Try.prog 125 = some (.nilFunc) := by kernel_rfl
@[go_sem] theorem Try.k127 : kindT Try.prog 127 = .mp 3 4 := by kernel_rfl
@[go_sem] theorem Try.s127 : szT Try.prog 127 = some 1 := by kernel_rfl
@[go_sem] theorem Try.y127 : bytesT Try.prog 127 = some 8 := by kernel_rfl
@[go_sem] theorem Try.z127 : zeroT Try.prog 127 = some (.map none) := by kernel_rfl
@[go_sem] theorem Try.k129 : kindT Try.prog 129 = .fnc := by kernel_rfl
@[go_sem] theorem Try.s129 : szT Try.prog 129 = some 1 := by kernel_rfl
@[go_sem] theorem Try.y129 : bytesT Try.prog 129 = some 8 := by kernel_rfl
@[go_sem] theorem Try.z129 : zeroT Try.prog 129 = some (.nilFunc) := by kernel_rfl
@[go_sem] theorem Try.k130 : kindT Try.prog 130 = .fnc := by kernel_rfl
@[go_sem] theorem Try.s130 : szT Try.prog 130 = some 1 := by kernel_rfl
@[go_sem] theorem Try.y130 : bytesT Try.prog 130 = some 8 := by kernel_rfl
@[go_sem] theorem Try.z130 : zeroT Try.prog 130 = some (.nilFunc) := by kernel_rfl
@[go_sem] theorem Try.k135 : kindT Try.prog 135 = .fnc := by kernel_rfl
@[go_sem] theorem Try.s135 : szT Try.prog 135 = some 1 := by kernel_rfl
@[go_sem] theorem Try.y135 : bytesT Try.prog 135 = some 8 := by kernel_rfl
@[go_sem] theorem Try.z135 : zeroT Try.prog 135 = some (.nilFunc) := by kernel_rfl
@[go_sem] theorem Try.k153 : kindT Try.prog 153 = .i .u64 := by kernel_rfl
@[go_sem] theorem Try.s153 : szT Try.prog 153 = some 1 := by kernel_rfl
@[go_sem] theorem Try.y153 : bytesT Try.prog 153 = some 8 := by kernel_rfl
@[go_sem] theorem Try.z153 : zeroT Try.prog 153 = some (.int .u64 0) := by kernel_rfl
@[go_sem] theorem Try.k161 : kindT Try.prog 161 = .i .i64 := by kernel_rfl
@[go_sem] theorem Try.s161 : szT Try.prog 161 = some 1 := by kernel_rfl
@[go_sem] theorem Try.y161 : bytesT Try.prog 161 = some 8 := by kernel_rfl
@[go_sem] theorem Try.z161 : zeroT Try.prog 161 = some (.int .i64 0) := by kernel_rfl
@[go_sem] theorem Try.k170 : kindT Try.prog 170 = .i .u64 := by kernel_rfl
@[go_sem] theorem Try.s170 : szT Try.prog 170 = some 1 := by kernel_rfl
@[go_sem] theorem Try.y170 : bytesT Try.prog 170 = some 8 := by kernel_rfl
@[go_sem] theorem Try.z170 : zeroT Try.prog 170 = some (.int .u64 0) := by kernel_rfl
@[go_sem] theorem Try.k178 : kindT Try.prog 178 = .i .u64 := by kernel_rfl
@[go_sem] theorem Try.s178 : szT Try.prog 178 = some 1 := by kernel_rfl
@[go_sem] theorem Try.y178 : bytesT Try.prog 178 = some 8 := by kernel_rfl
@[go_sem] theorem Try.z178 : zeroT Try.prog 178 = some (.int .u64 0) := by kernel_rfl
@[go_sem] theorem Try.e68 : eqT Try.prog 68 = true := by kernel_rfl
@[go_sem] theorem Try.e73 : eqT Try.prog 73 = true := by kernel_rfl
attribute [go_sem] Try.ntmps3 Try.results3
attribute [go_sem] Try.ntmps4 Try.results4
attribute [go_sem] Try.ntmps5 Try.results5
attribute [go_sem] Try.ntmps6 Try.results6
attribute [go_sem] Try.ntmps7 Try.results7
attribute [go_sem] Try.ntmps8 Try.results8
attribute [go_sem] Try.ntmps9 Try.results9
attribute [go_sem] Try.ntmps10 Try.results10
attribute [go_sem] Try.ntmps11 Try.results11
attribute [go_sem] Try.ntmps12 Try.results12
attribute [go_sem] Try.ntmps13 Try.results13
attribute [go_sem] Try.ntmps14 Try.results14
attribute [go_sem] Try.ntmps15 Try.results15
attribute [go_sem] Try.ntmps16 Try.results16
attribute [go_sem] Try.ntmps17 Try.results17
attribute [go_sem] Try.ntmps18 Try.results18
attribute [go_sem] Try.ntmps19 Try.results19
attribute [go_sem] Try.ntmps20 Try.results20
attribute [go_sem] Try.ntmps21 Try.results21
attribute [go_sem] Try.ntmps22 Try.results22
attribute [go_sem] Try.ntmps23 Try.results23
attribute [go_sem] Try.ntmps24 Try.results24
attribute [go_sem] Try.ntmps25 Try.results25
attribute [go_sem] Try.ntmps26 Try.results26
attribute [go_sem] Try.ntmps27 Try.results27
attribute [go_sem] Try.ntmps28 Try.results28
attribute [go_sem] Try.ntmps29 Try.results29
attribute [go_sem] Try.ntmps30 Try.results30
attribute [go_sem] Try.ntmps31 Try.results31
attribute [go_sem] Try.ntmps32 Try.results32
attribute [go_sem] Try.ntmps33 Try.results33
attribute [go_sem] Try.ntmps34 Try.results34
attribute [go_sem] Try.ntmps35 Try.results35
attribute [go_sem] Try.ntmps36 Try.results36
attribute [go_sem] Try.ntmps37 Try.results37
attribute [go_sem] Try.ntmps38 Try.results38
attribute [go_sem] Try.ntmps39 Try.results39
attribute [go_sem] Try.ntmps40 Try.results40
attribute [go_sem] Try.ntmps41 Try.results41
attribute [go_sem] Try.ntmps42 Try.results42
attribute [go_sem] Try.ntmps43 Try.results43
attribute [go_sem] Try.ntmps44 Try.results44
attribute [go_sem] Try.ntmps45 Try.results45
attribute [go_sem] Try.ntmps46 Try.results46
attribute [go_sem] Try.ntmps47 Try.results47
attribute [go_sem] Try.ntmps48 Try.results48
attribute [go_sem] Try.ntmps49 Try.results49
attribute [go_sem] Try.ntmps50 Try.results50
attribute [go_sem] Try.ntmps51 Try.results51
attribute [go_sem] Try.ntmps52 Try.results52
attribute [go_sem] Try.ntmps53 Try.results53
attribute [go_sem] Try.ntmps54 Try.results54
attribute [go_sem] Try.ntmps55 Try.results55
attribute [go_sem] Try.ntmps56 Try.results56
attribute [go_sem] Try.ntmps57 Try.results57
attribute [go_sem] Try.ntmps58 Try.results58
attribute [go_sem] Try.ntmps59 Try.results59
attribute [go_sem] Try.ntmps60 Try.results60
attribute [go_sem] Try.ntmps61 Try.results61
attribute [go_sem] Try.ntmps62 Try.results62
attribute [go_sem] Try.ntmps63 Try.results63
attribute [go_sem] Try.ntmps64 Try.results64
attribute [go_sem] Try.ntmps65 Try.results65
attribute [go_sem] Try.ntmps66 Try.results66
attribute [go_sem] Try.ntmps67 Try.results67
attribute [go_sem] Try.ntmps68 Try.results68
attribute [go_sem] Try.ntmps69 Try.results69
attribute [go_sem] Try.ntmps70 Try.results70
attribute [go_sem] Try.ntmps71 Try.results71
attribute [go_sem] Try.ntmps72 Try.results72
attribute [go_sem] Try.ntmps73 Try.results73
attribute [go_sem] Try.ntmps74 Try.results74
attribute [go_sem] Try.ntmps75 Try.results75
attribute [go_sem] Try.ntmps76 Try.results76
attribute [go_sem] Try.ntmps77 Try.results77
attribute [go_sem] Try.ntmps78 Try.results78
attribute [go_sem] Try.ntmps79 Try.results79
attribute [go_sem] Try.ntmps80 Try.results80
attribute [go_sem] Try.ntmps81 Try.results81
attribute [go_sem] Try.ntmps82 Try.results82
attribute [go_sem] Try.ntmps83 Try.results83
attribute [go_sem] Try.ntmps84 Try.results84
attribute [go_sem] Try.ntmps85 Try.results85
attribute [go_sem] Try.ntmps86 Try.results86
attribute [go_sem] Try.ntmps87 Try.results87
attribute [go_sem] Try.ntmps88 Try.results88
attribute [go_sem] Try.ntmps89 Try.results89
attribute [go_sem] Try.ntmps90 Try.results90
attribute [go_sem] Try.ntmps91 Try.results91
attribute [go_sem] Try.ntmps92 Try.results92
attribute [go_sem] Try.ntmps93 Try.results93
attribute [go_sem] Try.ntmps94 Try.results94
attribute [go_sem] Try.ntmps95 Try.results95
attribute [go_sem] Try.ntmps96 Try.results96
attribute [go_sem] Try.ntmps97 Try.results97
attribute [go_sem] Try.ntmps98 Try.results98
attribute [go_sem] Try.ntmps99 Try.results99
attribute [go_sem] Try.ntmps100 Try.results100
attribute [go_sem] Try.ntmps101 Try.results101
attribute [go_sem] Try.ntmps102 Try.results102
attribute [go_sem] Try.ntmps103 Try.results103
attribute [go_sem] Try.ntmps104 Try.results104
attribute [go_sem] Try.ntmps105 Try.results105
attribute [go_sem] Try.ntmps106 Try.results106
attribute [go_sem] Try.ntmps107 Try.results107
attribute [go_sem] Try.ntmps108 Try.results108
attribute [go_sem] Try.ntmps109 Try.results109
attribute [go_sem] Try.ntmps110 Try.results110
attribute [go_sem] Try.ntmps111 Try.results111
attribute [go_sem] Try.ntmps112 Try.results112
attribute [go_sem] Try.ntmps113 Try.results113
attribute [go_sem] Try.ntmps114 Try.results114
attribute [go_sem] Try.ntmps115 Try.results115
attribute [go_sem] Try.ntmps116 Try.results116
attribute [go_sem] Try.ntmps117 Try.results117
attribute [go_sem] Try.ntmps118 Try.results118
attribute [go_sem] Try.ntmps119 Try.results119
attribute [go_sem] Try.ntmps120 Try.results120
attribute [go_sem] Try.ntmps121 Try.results121
attribute [go_sem] Try.ntmps122 Try.results122
attribute [go_sem] Try.ntmps123 Try.results123
attribute [go_sem] Try.ntmps124 Try.results124
attribute [go_sem] Try.ntmps125 Try.results125
attribute [go_sem] Try.ntmps126 Try.results126
attribute [go_sem] Try.ntmps127 Try.results127
attribute [go_sem] Try.ntmps128 Try.results128
attribute [go_sem] Try.ntmps129 Try.results129
attribute [go_sem] Try.ntmps130 Try.results130
attribute [go_sem] Try.ntmps131 Try.results131
attribute [go_sem] Try.ntmps132 Try.results132
attribute [go_sem] Try.ntmps133 Try.results133
attribute [go_sem] Try.ntmps134 Try.results134
attribute [go_sem] Try.ntmps135 Try.results135
attribute [go_sem] Try.ntmps136 Try.results136
attribute [go_sem] Try.ntmps137 Try.results137
attribute [go_sem] Try.ntmps138 Try.results138
attribute [go_sem] Try.ntmps139 Try.results139
attribute [go_sem] Try.ntmps140 Try.results140
attribute [go_sem] Try.ntmps141 Try.results141
attribute [go_sem] Try.ntmps142 Try.results142
attribute [go_sem] Try.ntmps143 Try.results143
attribute [go_sem] Try.ntmps144 Try.results144
attribute [go_sem] Try.ntmps145 Try.results145
attribute [go_sem] Try.ntmps146 Try.results146
attribute [go_sem] Try.ntmps147 Try.results147
attribute [go_sem] Try.ntmps148 Try.results148
attribute [go_sem] Try.ntmps149 Try.results149
attribute [go_sem] Try.ntmps150 Try.results150
attribute [go_sem] Try.ntmps151 Try.results151
attribute [go_sem] Try.ntmps152 Try.results152
attribute [go_sem] Try.ntmps153 Try.results153
attribute [go_sem] Try.ntmps154 Try.results154
attribute [go_sem] Try.ntmps155 Try.results155
attribute [go_sem] Try.ntmps156 Try.results156
attribute [go_sem] Try.ntmps157 Try.results157
attribute [go_sem] Try.ntmps158 Try.results158
attribute [go_sem] Try.ntmps159 Try.results159
attribute [go_sem] Try.ntmps160 Try.results160
attribute [go_sem] Try.ntmps161 Try.results161
attribute [go_sem] Try.ntmps162 Try.results162
attribute [go_sem] Try.ntmps163 Try.results163
attribute [go_sem] Try.ntmps164 Try.results164
attribute [go_sem] Try.ntmps165 Try.results165
attribute [go_sem] Try.ntmps166 Try.results166
attribute [go_sem] Try.ntmps167 Try.results167
attribute [go_sem] Int.natCast_nonneg Int.toNat_natCast Int.toNat_zero Int.toNat_one not_true_eq_false false_or or_self Option.isSome_some Bool.and_self Nat.zero_add Nat.mul_one List.length_map List.take_length Int.cast_ofNat_Int Int.le_refl Nat.le_refl List.append_eq ne_eq not_false_eq_true beq_true beq_false BEq.rfl Bool.not_true Bool.not_false decide_true decide_false exists_prop
end Go.Proofs.Ytppoacgeiooppaa
