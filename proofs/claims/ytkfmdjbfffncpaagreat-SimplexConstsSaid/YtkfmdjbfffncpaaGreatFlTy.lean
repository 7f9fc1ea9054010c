/- Facts about the types (printed by gen/tyfacts.py). -/
import Derived.Test.YtkfmdjbfffncpaaGreatFlMay
import Derived.Test.YtkfmdjbfffncpaaGreatProg
import Derived.KernelRfl
namespace Go.Proofs.YtkfmdjbfffncpaaGreat
open Go.Fl
theorem el22 : tEl Tryz.prog 22 = some (80, 2, 32) := by kernel_rfl
theorem z80 : tZ Tryz.prog 80 = some [.int .i64 0, .slice none 0 0] := by kernel_rfl
theorem sz80 : tSz Tryz.prog 80 = some (2, true) := by kernel_rfl
theorem el35 : tEl Tryz.prog 35 = some (127, 16, 256) := by kernel_rfl
theorem z127 : tZ Tryz.prog 127 = some [.bool false, .bool false, .slice none 0 0, .slice none 0 0, .bool false, .slice none 0 0, .slice none 0 0, .int .i64 0, .bool false, .bool false, .slice none 0 0, .slice none 0 0, .bool false, .slice none 0 0, .slice none 0 0, .int .i64 0] := by kernel_rfl
theorem sz127 : tSz Tryz.prog 127 = some (16, true) := by kernel_rfl
theorem el36 : tEl Tryz.prog 36 = some (90, 9, 152) := by kernel_rfl
theorem z90 : tZ Tryz.prog 90 = some [.int .i64 0, .bool false, .bool false, .slice none 0 0, .slice none 0 0, .bool false, .slice none 0 0, .slice none 0 0, .slice none 0 0] := by kernel_rfl
theorem sz90 : tSz Tryz.prog 90 = some (9, true) := by kernel_rfl
theorem el41 : tEl Tryz.prog 41 = some (47, 4, 48) := by kernel_rfl
theorem z47 : tZ Tryz.prog 47 = some [.bool false, .slice none 0 0, .int .i64 0, .int .i64 0] := by kernel_rfl
theorem sz47 : tSz Tryz.prog 47 = some (4, true) := by kernel_rfl
theorem el42 : tEl Tryz.prog 42 = some (58, 6, 112) := by kernel_rfl
theorem z58 : tZ Tryz.prog 58 = some [.bool false, .slice none 0 0, .slice none 0 0, .bool false, .slice none 0 0, .slice none 0 0] := by kernel_rfl
theorem sz58 : tSz Tryz.prog 58 = some (6, true) := by kernel_rfl
theorem el44 : tEl Tryz.prog 44 = some (72, 4, 64) := by kernel_rfl
theorem z72 : tZ Tryz.prog 72 = some [.int .i64 0, .bool false, .slice none 0 0, .slice none 0 0] := by kernel_rfl
theorem sz72 : tSz Tryz.prog 72 = some (4, true) := by kernel_rfl
theorem el45 : tEl Tryz.prog 45 = some (72, 4, 64) := by kernel_rfl
theorem el52 : tEl Tryz.prog 52 = some (109, 1, 4) := by kernel_rfl
theorem z109 : tZ Tryz.prog 109 = some [.int .u32 0] := by kernel_rfl
theorem sz109 : tSz Tryz.prog 109 = some (1, false) := by kernel_rfl
theorem el88 : tEl Tryz.prog 88 = some (131, 4, 64) := by kernel_rfl
theorem z131 : tZ Tryz.prog 131 = some [.int .i64 0, .bool false, .slice none 0 0, .slice none 0 0] := by kernel_rfl
theorem sz131 : tSz Tryz.prog 131 = some (4, true) := by kernel_rfl
theorem el115 : tEl Tryz.prog 115 = some (3, 1, 8) := by kernel_rfl
theorem z3 : tZ Tryz.prog 3 = some [.int .i64 0] := by kernel_rfl
theorem sz3 : tSz Tryz.prog 3 = some (1, false) := by kernel_rfl
theorem el173 : tEl Tryz.prog 173 = some (228, 11, 152) := by kernel_rfl
theorem z228 : tZ Tryz.prog 228 = some [.int .i64 0, .bool false, .int .i64 0, .bool false, .bool false, .slice none 0 0, .slice none 0 0, .bool false, .slice none 0 0, .slice none 0 0, .int .i64 0] := by kernel_rfl
theorem sz228 : tSz Tryz.prog 228 = some (11, true) := by kernel_rfl
theorem fd24_0 : tFd Tryz.prog 24 0 = some (0, 1, false) := by kernel_rfl
theorem fd24_1 : tFd Tryz.prog 24 1 = some (1, 1, false) := by kernel_rfl
theorem fd47_0 : tFd Tryz.prog 47 0 = some (0, 1, false) := by kernel_rfl
theorem fd47_1 : tFd Tryz.prog 47 1 = some (1, 1, false) := by kernel_rfl
theorem fd47_2 : tFd Tryz.prog 47 2 = some (2, 1, false) := by kernel_rfl
theorem fd47_3 : tFd Tryz.prog 47 3 = some (3, 1, false) := by kernel_rfl
theorem fd54_0 : tFd Tryz.prog 54 0 = some (0, 1, false) := by kernel_rfl
theorem fd54_1 : tFd Tryz.prog 54 1 = some (1, 1, false) := by kernel_rfl
theorem fd56_0 : tFd Tryz.prog 56 0 = some (0, 2, true) := by kernel_rfl
theorem fd56_1 : tFd Tryz.prog 56 1 = some (2, 1, false) := by kernel_rfl
theorem fd58_0 : tFd Tryz.prog 58 0 = some (0, 3, true) := by kernel_rfl
theorem fd58_1 : tFd Tryz.prog 58 1 = some (3, 3, true) := by kernel_rfl
theorem fd72_0 : tFd Tryz.prog 72 0 = some (0, 1, false) := by kernel_rfl
theorem fd72_1 : tFd Tryz.prog 72 1 = some (1, 3, true) := by kernel_rfl
theorem fd74_0 : tFd Tryz.prog 74 0 = some (0, 1, false) := by kernel_rfl
theorem fd74_1 : tFd Tryz.prog 74 1 = some (1, 3, true) := by kernel_rfl
theorem fd80_0 : tFd Tryz.prog 80 0 = some (0, 1, false) := by kernel_rfl
theorem fd80_1 : tFd Tryz.prog 80 1 = some (1, 1, false) := by kernel_rfl
theorem fd90_0 : tFd Tryz.prog 90 0 = some (0, 1, false) := by kernel_rfl
theorem fd90_1 : tFd Tryz.prog 90 1 = some (1, 1, false) := by kernel_rfl
theorem fd90_2 : tFd Tryz.prog 90 2 = some (2, 6, true) := by kernel_rfl
theorem fd90_3 : tFd Tryz.prog 90 3 = some (8, 1, false) := by kernel_rfl
theorem fd122_0 : tFd Tryz.prog 122 0 = some (0, 1, false) := by kernel_rfl
theorem fd125_0 : tFd Tryz.prog 125 0 = some (0, 1, false) := by kernel_rfl
theorem fd125_1 : tFd Tryz.prog 125 1 = some (1, 6, true) := by kernel_rfl
theorem fd125_2 : tFd Tryz.prog 125 2 = some (7, 1, false) := by kernel_rfl
theorem fd127_0 : tFd Tryz.prog 127 0 = some (0, 8, true) := by kernel_rfl
theorem fd127_1 : tFd Tryz.prog 127 1 = some (8, 8, true) := by kernel_rfl
theorem fd131_0 : tFd Tryz.prog 131 0 = some (0, 1, false) := by kernel_rfl
theorem fd131_1 : tFd Tryz.prog 131 1 = some (1, 3, true) := by kernel_rfl
theorem fd137_0 : tFd Tryz.prog 137 0 = some (0, 1, false) := by kernel_rfl
theorem fd137_1 : tFd Tryz.prog 137 1 = some (1, 2, true) := by kernel_rfl
theorem fd137_2 : tFd Tryz.prog 137 2 = some (3, 1, false) := by kernel_rfl
theorem fd141_0 : tFd Tryz.prog 141 0 = some (0, 1, false) := by kernel_rfl
theorem fd141_1 : tFd Tryz.prog 141 1 = some (1, 1, false) := by kernel_rfl
theorem fd175_0 : tFd Tryz.prog 175 0 = some (0, 1, false) := by kernel_rfl
theorem fd175_1 : tFd Tryz.prog 175 1 = some (1, 1, false) := by kernel_rfl
theorem fd177_0 : tFd Tryz.prog 177 0 = some (0, 2, true) := by kernel_rfl
theorem fd177_1 : tFd Tryz.prog 177 1 = some (2, 1, false) := by kernel_rfl
theorem fd177_2 : tFd Tryz.prog 177 2 = some (3, 1, false) := by kernel_rfl
theorem fd180_0 : tFd Tryz.prog 180 0 = some (0, 1, false) := by kernel_rfl
theorem fd180_1 : tFd Tryz.prog 180 1 = some (1, 1, false) := by kernel_rfl
theorem pl24 : tPl Tryz.prog 24 = some ([.int .i64 0, .slice none 0 0], [(0, 1), (1, 1)]) := by kernel_rfl
theorem pl54 : tPl Tryz.prog 54 = some ([.bool false, .slice none 0 0], [(0, 1), (1, 1)]) := by kernel_rfl
theorem pl56 : tPl Tryz.prog 56 = some ([.bool false, .slice none 0 0, .slice none 0 0], [(0, 2), (2, 1)]) := by kernel_rfl
theorem pl58 : tPl Tryz.prog 58 = some ([.bool false, .slice none 0 0, .slice none 0 0, .bool false, .slice none 0 0, .slice none 0 0], [(0, 3), (3, 3)]) := by kernel_rfl
theorem pl72 : tPl Tryz.prog 72 = some ([.int .i64 0, .bool false, .slice none 0 0, .slice none 0 0], [(0, 1), (1, 3)]) := by kernel_rfl
theorem pl74 : tPl Tryz.prog 74 = some ([.slice none 0 0, .bool false, .slice none 0 0, .slice none 0 0], [(0, 1), (1, 3)]) := by kernel_rfl
theorem pl80 : tPl Tryz.prog 80 = some ([.int .i64 0, .slice none 0 0], [(0, 1), (1, 1)]) := by kernel_rfl
theorem pl90 : tPl Tryz.prog 90 = some ([.int .i64 0, .bool false, .bool false, .slice none 0 0, .slice none 0 0, .bool false, .slice none 0 0, .slice none 0 0, .slice none 0 0], [(0, 1), (1, 1), (2, 6), (8, 1)]) := by kernel_rfl
theorem pl122 : tPl Tryz.prog 122 = some ([.slice none 0 0], [(0, 1)]) := by kernel_rfl
theorem pl125 : tPl Tryz.prog 125 = some ([.bool false, .bool false, .slice none 0 0, .slice none 0 0, .bool false, .slice none 0 0, .slice none 0 0, .int .i64 0], [(0, 1), (1, 6), (7, 1)]) := by kernel_rfl
theorem pl127 : tPl Tryz.prog 127 = some ([.bool false, .bool false, .slice none 0 0, .slice none 0 0, .bool false, .slice none 0 0, .slice none 0 0, .int .i64 0, .bool false, .bool false, .slice none 0 0, .slice none 0 0, .bool false, .slice none 0 0, .slice none 0 0, .int .i64 0], [(0, 8), (8, 8)]) := by kernel_rfl
theorem pl131 : tPl Tryz.prog 131 = some ([.int .i64 0, .bool false, .slice none 0 0, .slice none 0 0], [(0, 1), (1, 3)]) := by kernel_rfl
theorem pl137 : tPl Tryz.prog 137 = some ([.pointer none, .int .i64 0, .slice none 0 0, .slice none 0 0, .map none, .int .i64 0], [(0, 1), (1, 2), (3, 1), (4, 1), (5, 1)]) := by kernel_rfl
theorem pl141 : tPl Tryz.prog 141 = some ([.bool false, .int .i64 0], [(0, 1), (1, 1)]) := by kernel_rfl
theorem pl177 : tPl Tryz.prog 177 = some ([.int .i64 0, .slice none 0 0, .bool false, .slice none 0 0], [(0, 2), (2, 1), (3, 1)]) := by kernel_rfl
theorem pl180 : tPl Tryz.prog 180 = some ([.int .i64 0, .int .i64 0], [(0, 1), (1, 1)]) := by kernel_rfl
theorem pl228 : tPl Tryz.prog 228 = some ([.int .i64 0, .bool false, .int .i64 0, .bool false, .bool false, .slice none 0 0, .slice none 0 0, .bool false, .slice none 0 0, .slice none 0 0, .int .i64 0], [(0, 1), (1, 1), (2, 1), (3, 8)]) := by kernel_rfl
theorem sz4 : tSz Tryz.prog 4 = some (1, false) := by kernel_rfl
theorem sz22 : tSz Tryz.prog 22 = some (1, false) := by kernel_rfl
theorem sz24 : tSz Tryz.prog 24 = some (2, true) := by kernel_rfl
theorem sz35 : tSz Tryz.prog 35 = some (1, false) := by kernel_rfl
theorem sz42 : tSz Tryz.prog 42 = some (1, false) := by kernel_rfl
theorem sz45 : tSz Tryz.prog 45 = some (1, false) := by kernel_rfl
theorem sz52 : tSz Tryz.prog 52 = some (1, false) := by kernel_rfl
theorem sz54 : tSz Tryz.prog 54 = some (2, true) := by kernel_rfl
theorem sz56 : tSz Tryz.prog 56 = some (3, true) := by kernel_rfl
theorem sz74 : tSz Tryz.prog 74 = some (4, true) := by kernel_rfl
theorem sz88 : tSz Tryz.prog 88 = some (1, false) := by kernel_rfl
theorem sz122 : tSz Tryz.prog 122 = some (1, true) := by kernel_rfl
theorem sz125 : tSz Tryz.prog 125 = some (8, true) := by kernel_rfl
theorem sz132 : tSz Tryz.prog 132 = some (1, false) := by kernel_rfl
theorem sz137 : tSz Tryz.prog 137 = some (6, true) := by kernel_rfl
theorem sz141 : tSz Tryz.prog 141 = some (2, true) := by kernel_rfl
theorem sz142 : tSz Tryz.prog 142 = some (4, true) := by kernel_rfl
theorem sz173 : tSz Tryz.prog 173 = some (1, false) := by kernel_rfl
theorem sz177 : tSz Tryz.prog 177 = some (4, true) := by kernel_rfl
theorem sz180 : tSz Tryz.prog 180 = some (2, true) := by kernel_rfl
theorem sz236 : tSz Tryz.prog 236 = some (1, false) := by kernel_rfl
theorem sz249 : tSz Tryz.prog 249 = some (1, false) := by kernel_rfl
theorem un2 : Tryz.prog.underlying 2 = some (.int .i64) := by kernel_rfl
theorem un3 : Tryz.prog.underlying 3 = some (.int .i64) := by kernel_rfl
theorem un5 : Tryz.prog.underlying 5 = some (.int .u8) := by kernel_rfl
theorem un109 : Tryz.prog.underlying 109 = some (.int .u32) := by kernel_rfl
theorem un157 : Tryz.prog.underlying 157 = some (.int .u64) := by kernel_rfl
theorem un192 : Tryz.prog.underlying 192 = some (.int .u64) := by kernel_rfl
theorem un236 : Tryz.prog.underlying 236 = some (.int .u64) := by kernel_rfl
theorem z24 : tZ Tryz.prog 24 = some [.int .i64 0, .slice none 0 0] := by kernel_rfl
theorem z54 : tZ Tryz.prog 54 = some [.bool false, .slice none 0 0] := by kernel_rfl
theorem z56 : tZ Tryz.prog 56 = some [.bool false, .slice none 0 0, .slice none 0 0] := by kernel_rfl
theorem z74 : tZ Tryz.prog 74 = some [.slice none 0 0, .bool false, .slice none 0 0, .slice none 0 0] := by kernel_rfl
theorem z122 : tZ Tryz.prog 122 = some [.slice none 0 0] := by kernel_rfl
theorem z125 : tZ Tryz.prog 125 = some [.bool false, .bool false, .slice none 0 0, .slice none 0 0, .bool false, .slice none 0 0, .slice none 0 0, .int .i64 0] := by kernel_rfl
theorem z142 : tZ Tryz.prog 142 = some [.bool false, .int .i64 0, .bool false, .int .i64 0] := by kernel_rfl
theorem z180 : tZ Tryz.prog 180 = some [.int .i64 0, .int .i64 0] := by kernel_rfl
theorem z236 : tZ Tryz.prog 236 = some [.int .u64 0] := by kernel_rfl
end Go.Proofs.YtkfmdjbfffncpaaGreat
