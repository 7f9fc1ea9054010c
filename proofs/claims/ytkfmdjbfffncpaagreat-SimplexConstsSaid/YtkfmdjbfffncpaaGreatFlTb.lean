/- The tables of what is asked of types and functions (printed by gen/tabs.py). -/
import Derived.Test.YtkfmdjbfffncpaaGreatFlEvc
import Derived.Test.YtkfmdjbfffncpaaGreatProg
import Derived.KernelRfl
set_option linter.unusedVariables false
set_option maxRecDepth 100000
namespace Go.Proofs.YtkfmdjbfffncpaaGreat
open Go.Fl
theorem tb_sz3 : tSz Tryz.prog 3 = some (1, false) := by kernel_rfl
theorem tb_sz4 : tSz Tryz.prog 4 = some (1, false) := by kernel_rfl
theorem tb_sz22 : tSz Tryz.prog 22 = some (1, false) := by kernel_rfl
theorem tb_sz24 : tSz Tryz.prog 24 = some (2, true) := by kernel_rfl
theorem tb_sz35 : tSz Tryz.prog 35 = some (1, false) := by kernel_rfl
theorem tb_sz42 : tSz Tryz.prog 42 = some (1, false) := by kernel_rfl
theorem tb_sz45 : tSz Tryz.prog 45 = some (1, false) := by kernel_rfl
theorem tb_sz52 : tSz Tryz.prog 52 = some (1, false) := by kernel_rfl
theorem tb_sz54 : tSz Tryz.prog 54 = some (2, true) := by kernel_rfl
theorem tb_sz56 : tSz Tryz.prog 56 = some (3, true) := by kernel_rfl
theorem tb_sz58 : tSz Tryz.prog 58 = some (6, true) := by kernel_rfl
theorem tb_sz72 : tSz Tryz.prog 72 = some (4, true) := by kernel_rfl
theorem tb_sz74 : tSz Tryz.prog 74 = some (4, true) := by kernel_rfl
theorem tb_sz80 : tSz Tryz.prog 80 = some (2, true) := by kernel_rfl
theorem tb_sz109 : tSz Tryz.prog 109 = some (1, false) := by kernel_rfl
theorem tb_sz125 : tSz Tryz.prog 125 = some (8, true) := by kernel_rfl
theorem tb_sz127 : tSz Tryz.prog 127 = some (16, true) := by kernel_rfl
theorem tb_sz131 : tSz Tryz.prog 131 = some (4, true) := by kernel_rfl
theorem tb_sz132 : tSz Tryz.prog 132 = some (1, false) := by kernel_rfl
theorem tb_sz137 : tSz Tryz.prog 137 = some (6, true) := by kernel_rfl
theorem tb_sz141 : tSz Tryz.prog 141 = some (2, true) := by kernel_rfl
theorem tb_sz142 : tSz Tryz.prog 142 = some (4, true) := by kernel_rfl
theorem tb_sz173 : tSz Tryz.prog 173 = some (1, false) := by kernel_rfl
theorem tb_sz177 : tSz Tryz.prog 177 = some (4, true) := by kernel_rfl
theorem tb_sz180 : tSz Tryz.prog 180 = some (2, true) := by kernel_rfl
theorem tb_sz228 : tSz Tryz.prog 228 = some (11, true) := by kernel_rfl
theorem tb_sz236 : tSz Tryz.prog 236 = some (1, false) := by kernel_rfl
theorem tb_sz249 : tSz Tryz.prog 249 = some (1, false) := by kernel_rfl
noncomputable def tb_sz : Tr (Nat × Bool) := (.node (.node (.node (.node (.node .leaf 3 (1, false) .leaf) 4 (1, false) (.node .leaf 22 (1, false) .leaf)) 24 (2, true) (.node (.node .leaf 35 (1, false) .leaf) 42 (1, false) (.node .leaf 45 (1, false) .leaf))) 52 (1, false) (.node (.node (.node .leaf 54 (2, true) .leaf) 56 (3, true) (.node .leaf 58 (6, true) .leaf)) 72 (4, true) (.node (.node .leaf 74 (4, true) .leaf) 80 (2, true) .leaf))) 109 (1, false) (.node (.node (.node (.node .leaf 125 (8, true) .leaf) 127 (16, true) (.node .leaf 131 (4, true) .leaf)) 132 (1, false) (.node (.node .leaf 137 (6, true) .leaf) 141 (2, true) .leaf)) 142 (4, true) (.node (.node (.node .leaf 173 (1, false) .leaf) 177 (4, true) (.node .leaf 180 (2, true) .leaf)) 228 (11, true) (.node (.node .leaf 236 (1, false) .leaf) 249 (1, false) .leaf))))
theorem tb_sz_ok : tb_sz.All (fun T r => tSz Tryz.prog T = some r) := ⟨tb_sz109, ⟨tb_sz52, ⟨tb_sz24, ⟨tb_sz4, ⟨tb_sz3, trivial, trivial⟩, ⟨tb_sz22, trivial, trivial⟩⟩, ⟨tb_sz42, ⟨tb_sz35, trivial, trivial⟩, ⟨tb_sz45, trivial, trivial⟩⟩⟩, ⟨tb_sz72, ⟨tb_sz56, ⟨tb_sz54, trivial, trivial⟩, ⟨tb_sz58, trivial, trivial⟩⟩, ⟨tb_sz80, ⟨tb_sz74, trivial, trivial⟩, trivial⟩⟩⟩, ⟨tb_sz142, ⟨tb_sz132, ⟨tb_sz127, ⟨tb_sz125, trivial, trivial⟩, ⟨tb_sz131, trivial, trivial⟩⟩, ⟨tb_sz141, ⟨tb_sz137, trivial, trivial⟩, trivial⟩⟩, ⟨tb_sz228, ⟨tb_sz177, ⟨tb_sz173, trivial, trivial⟩, ⟨tb_sz180, trivial, trivial⟩⟩, ⟨tb_sz249, ⟨tb_sz236, trivial, trivial⟩, trivial⟩⟩⟩⟩
theorem tb_el22 : tEl Tryz.prog 22 = some (80, 2, 32) := by kernel_rfl
theorem tb_el35 : tEl Tryz.prog 35 = some (127, 16, 256) := by kernel_rfl
theorem tb_el42 : tEl Tryz.prog 42 = some (58, 6, 112) := by kernel_rfl
theorem tb_el44 : tEl Tryz.prog 44 = some (72, 4, 64) := by kernel_rfl
theorem tb_el45 : tEl Tryz.prog 45 = some (72, 4, 64) := by kernel_rfl
theorem tb_el52 : tEl Tryz.prog 52 = some (109, 1, 4) := by kernel_rfl
theorem tb_el88 : tEl Tryz.prog 88 = some (131, 4, 64) := by kernel_rfl
theorem tb_el115 : tEl Tryz.prog 115 = some (3, 1, 8) := by kernel_rfl
theorem tb_el173 : tEl Tryz.prog 173 = some (228, 11, 152) := by kernel_rfl
noncomputable def tb_el : Tr (Nat × Nat × Nat) := (.node (.node (.node (.node .leaf 22 (80, 2, 32) .leaf) 35 (127, 16, 256) .leaf) 42 (58, 6, 112) (.node .leaf 44 (72, 4, 64) .leaf)) 45 (72, 4, 64) (.node (.node (.node .leaf 52 (109, 1, 4) .leaf) 88 (131, 4, 64) .leaf) 115 (3, 1, 8) (.node .leaf 173 (228, 11, 152) .leaf)))
theorem tb_el_ok : tb_el.All (fun T r => tEl Tryz.prog T = some r) := ⟨tb_el45, ⟨tb_el42, ⟨tb_el35, ⟨tb_el22, trivial, trivial⟩, trivial⟩, ⟨tb_el44, trivial, trivial⟩⟩, ⟨tb_el115, ⟨tb_el88, ⟨tb_el52, trivial, trivial⟩, trivial⟩, ⟨tb_el173, trivial, trivial⟩⟩⟩
theorem tb_z3 : tZ Tryz.prog 3 = some [.int .i64 0] := by kernel_rfl
theorem tb_z24 : tZ Tryz.prog 24 = some [.int .i64 0, .slice none 0 0] := by kernel_rfl
theorem tb_z54 : tZ Tryz.prog 54 = some [.bool false, .slice none 0 0] := by kernel_rfl
theorem tb_z56 : tZ Tryz.prog 56 = some [.bool false, .slice none 0 0, .slice none 0 0] := by kernel_rfl
theorem tb_z58 : tZ Tryz.prog 58 = some [.bool false, .slice none 0 0, .slice none 0 0, .bool false, .slice none 0 0, .slice none 0 0] := by kernel_rfl
theorem tb_z72 : tZ Tryz.prog 72 = some [.int .i64 0, .bool false, .slice none 0 0, .slice none 0 0] := by kernel_rfl
theorem tb_z74 : tZ Tryz.prog 74 = some [.slice none 0 0, .bool false, .slice none 0 0, .slice none 0 0] := by kernel_rfl
theorem tb_z80 : tZ Tryz.prog 80 = some [.int .i64 0, .slice none 0 0] := by kernel_rfl
theorem tb_z109 : tZ Tryz.prog 109 = some [.int .u32 0] := by kernel_rfl
theorem tb_z125 : tZ Tryz.prog 125 = some [.bool false, .bool false, .slice none 0 0, .slice none 0 0, .bool false, .slice none 0 0, .slice none 0 0, .int .i64 0] := by kernel_rfl
theorem tb_z127 : tZ Tryz.prog 127 = some [.bool false, .bool false, .slice none 0 0, .slice none 0 0, .bool false, .slice none 0 0, .slice none 0 0, .int .i64 0, .bool false, .bool false, .slice none 0 0, .slice none 0 0, .bool false, .slice none 0 0, .slice none 0 0, .int .i64 0] := by kernel_rfl
theorem tb_z131 : tZ Tryz.prog 131 = some [.int .i64 0, .bool false, .slice none 0 0, .slice none 0 0] := by kernel_rfl
theorem tb_z142 : tZ Tryz.prog 142 = some [.bool false, .int .i64 0, .bool false, .int .i64 0] := by kernel_rfl
theorem tb_z180 : tZ Tryz.prog 180 = some [.int .i64 0, .int .i64 0] := by kernel_rfl
theorem tb_z228 : tZ Tryz.prog 228 = some [.int .i64 0, .bool false, .int .i64 0, .bool false, .bool false, .slice none 0 0, .slice none 0 0, .bool false, .slice none 0 0, .slice none 0 0, .int .i64 0] := by kernel_rfl
theorem tb_z236 : tZ Tryz.prog 236 = some [.int .u64 0] := by kernel_rfl
noncomputable def tb_z : Tr (List Value) := (.node (.node (.node (.node (.node .leaf 3 [.int .i64 0] .leaf) 24 [.int .i64 0, .slice none 0 0] .leaf) 54 [.bool false, .slice none 0 0] (.node .leaf 56 [.bool false, .slice none 0 0, .slice none 0 0] .leaf)) 58 [.bool false, .slice none 0 0, .slice none 0 0, .bool false, .slice none 0 0, .slice none 0 0] (.node (.node .leaf 72 [.int .i64 0, .bool false, .slice none 0 0, .slice none 0 0] .leaf) 74 [.slice none 0 0, .bool false, .slice none 0 0, .slice none 0 0] (.node .leaf 80 [.int .i64 0, .slice none 0 0] .leaf))) 109 [.int .u32 0] (.node (.node (.node .leaf 125 [.bool false, .bool false, .slice none 0 0, .slice none 0 0, .bool false, .slice none 0 0, .slice none 0 0, .int .i64 0] .leaf) 127 [.bool false, .bool false, .slice none 0 0, .slice none 0 0, .bool false, .slice none 0 0, .slice none 0 0, .int .i64 0, .bool false, .bool false, .slice none 0 0, .slice none 0 0, .bool false, .slice none 0 0, .slice none 0 0, .int .i64 0] (.node .leaf 131 [.int .i64 0, .bool false, .slice none 0 0, .slice none 0 0] .leaf)) 142 [.bool false, .int .i64 0, .bool false, .int .i64 0] (.node (.node .leaf 180 [.int .i64 0, .int .i64 0] .leaf) 228 [.int .i64 0, .bool false, .int .i64 0, .bool false, .bool false, .slice none 0 0, .slice none 0 0, .bool false, .slice none 0 0, .slice none 0 0, .int .i64 0] (.node .leaf 236 [.int .u64 0] .leaf))))
theorem tb_z_ok : tb_z.All (fun T r => tZ Tryz.prog T = some r) := ⟨tb_z109, ⟨tb_z58, ⟨tb_z54, ⟨tb_z24, ⟨tb_z3, trivial, trivial⟩, trivial⟩, ⟨tb_z56, trivial, trivial⟩⟩, ⟨tb_z74, ⟨tb_z72, trivial, trivial⟩, ⟨tb_z80, trivial, trivial⟩⟩⟩, ⟨tb_z142, ⟨tb_z127, ⟨tb_z125, trivial, trivial⟩, ⟨tb_z131, trivial, trivial⟩⟩, ⟨tb_z228, ⟨tb_z180, trivial, trivial⟩, ⟨tb_z236, trivial, trivial⟩⟩⟩⟩
theorem tb_fd6144 : tFd Tryz.prog 24 0 = some (0, 1, false) := by kernel_rfl
theorem tb_fd6145 : tFd Tryz.prog 24 1 = some (1, 1, false) := by kernel_rfl
theorem tb_fd13824 : tFd Tryz.prog 54 0 = some (0, 1, false) := by kernel_rfl
theorem tb_fd13825 : tFd Tryz.prog 54 1 = some (1, 1, false) := by kernel_rfl
theorem tb_fd14336 : tFd Tryz.prog 56 0 = some (0, 2, true) := by kernel_rfl
theorem tb_fd14337 : tFd Tryz.prog 56 1 = some (2, 1, false) := by kernel_rfl
theorem tb_fd14848 : tFd Tryz.prog 58 0 = some (0, 3, true) := by kernel_rfl
theorem tb_fd14849 : tFd Tryz.prog 58 1 = some (3, 3, true) := by kernel_rfl
theorem tb_fd18432 : tFd Tryz.prog 72 0 = some (0, 1, false) := by kernel_rfl
theorem tb_fd18433 : tFd Tryz.prog 72 1 = some (1, 3, true) := by kernel_rfl
theorem tb_fd18944 : tFd Tryz.prog 74 0 = some (0, 1, false) := by kernel_rfl
theorem tb_fd18945 : tFd Tryz.prog 74 1 = some (1, 3, true) := by kernel_rfl
theorem tb_fd20480 : tFd Tryz.prog 80 0 = some (0, 1, false) := by kernel_rfl
theorem tb_fd20481 : tFd Tryz.prog 80 1 = some (1, 1, false) := by kernel_rfl
theorem tb_fd32000 : tFd Tryz.prog 125 0 = some (0, 1, false) := by kernel_rfl
theorem tb_fd32001 : tFd Tryz.prog 125 1 = some (1, 6, true) := by kernel_rfl
theorem tb_fd32002 : tFd Tryz.prog 125 2 = some (7, 1, false) := by kernel_rfl
theorem tb_fd32512 : tFd Tryz.prog 127 0 = some (0, 8, true) := by kernel_rfl
theorem tb_fd32513 : tFd Tryz.prog 127 1 = some (8, 8, true) := by kernel_rfl
theorem tb_fd35072 : tFd Tryz.prog 137 0 = some (0, 1, false) := by kernel_rfl
theorem tb_fd35073 : tFd Tryz.prog 137 1 = some (1, 2, true) := by kernel_rfl
theorem tb_fd35074 : tFd Tryz.prog 137 2 = some (3, 1, false) := by kernel_rfl
theorem tb_fd36096 : tFd Tryz.prog 141 0 = some (0, 1, false) := by kernel_rfl
theorem tb_fd36097 : tFd Tryz.prog 141 1 = some (1, 1, false) := by kernel_rfl
theorem tb_fd44800 : tFd Tryz.prog 175 0 = some (0, 1, false) := by kernel_rfl
theorem tb_fd44801 : tFd Tryz.prog 175 1 = some (1, 1, false) := by kernel_rfl
theorem tb_fd45312 : tFd Tryz.prog 177 0 = some (0, 2, true) := by kernel_rfl
theorem tb_fd45313 : tFd Tryz.prog 177 1 = some (2, 1, false) := by kernel_rfl
theorem tb_fd45314 : tFd Tryz.prog 177 2 = some (3, 1, false) := by kernel_rfl
theorem tb_fd46080 : tFd Tryz.prog 180 0 = some (0, 1, false) := by kernel_rfl
theorem tb_fd46081 : tFd Tryz.prog 180 1 = some (1, 1, false) := by kernel_rfl
noncomputable def tb_fd : Tr (Nat × Nat × Bool) := (.node (.node (.node (.node (.node .leaf 6144 (0, 1, false) .leaf) 6145 (1, 1, false) (.node .leaf 13824 (0, 1, false) .leaf)) 13825 (1, 1, false) (.node (.node .leaf 14336 (0, 2, true) .leaf) 14337 (2, 1, false) (.node .leaf 14848 (0, 3, true) .leaf))) 14849 (3, 3, true) (.node (.node (.node .leaf 18432 (0, 1, false) .leaf) 18433 (1, 3, true) (.node .leaf 18944 (0, 1, false) .leaf)) 18945 (1, 3, true) (.node (.node .leaf 20480 (0, 1, false) .leaf) 20481 (1, 1, false) (.node .leaf 32000 (0, 1, false) .leaf)))) 32001 (1, 6, true) (.node (.node (.node (.node .leaf 32002 (7, 1, false) .leaf) 32512 (0, 8, true) (.node .leaf 32513 (8, 8, true) .leaf)) 35072 (0, 1, false) (.node (.node .leaf 35073 (1, 2, true) .leaf) 35074 (3, 1, false) (.node .leaf 36096 (0, 1, false) .leaf))) 36097 (1, 1, false) (.node (.node (.node .leaf 44800 (0, 1, false) .leaf) 44801 (1, 1, false) (.node .leaf 45312 (0, 2, true) .leaf)) 45313 (2, 1, false) (.node (.node .leaf 45314 (3, 1, false) .leaf) 46080 (0, 1, false) (.node .leaf 46081 (1, 1, false) .leaf)))))
theorem tb_fd_ok : tb_fd.All (fun x r => tFd Tryz.prog (x / 256) (x % 256) = some r) := ⟨tb_fd32001, ⟨tb_fd14849, ⟨tb_fd13825, ⟨tb_fd6145, ⟨tb_fd6144, trivial, trivial⟩, ⟨tb_fd13824, trivial, trivial⟩⟩, ⟨tb_fd14337, ⟨tb_fd14336, trivial, trivial⟩, ⟨tb_fd14848, trivial, trivial⟩⟩⟩, ⟨tb_fd18945, ⟨tb_fd18433, ⟨tb_fd18432, trivial, trivial⟩, ⟨tb_fd18944, trivial, trivial⟩⟩, ⟨tb_fd20481, ⟨tb_fd20480, trivial, trivial⟩, ⟨tb_fd32000, trivial, trivial⟩⟩⟩⟩, ⟨tb_fd36097, ⟨tb_fd35072, ⟨tb_fd32512, ⟨tb_fd32002, trivial, trivial⟩, ⟨tb_fd32513, trivial, trivial⟩⟩, ⟨tb_fd35074, ⟨tb_fd35073, trivial, trivial⟩, ⟨tb_fd36096, trivial, trivial⟩⟩⟩, ⟨tb_fd45313, ⟨tb_fd44801, ⟨tb_fd44800, trivial, trivial⟩, ⟨tb_fd45312, trivial, trivial⟩⟩, ⟨tb_fd46080, ⟨tb_fd45314, trivial, trivial⟩, ⟨tb_fd46081, trivial, trivial⟩⟩⟩⟩⟩
theorem tb_fdT14336 : tFdT Tryz.prog 56 0 = some (0, 54) := by kernel_rfl
theorem tb_fdT18944 : tFdT Tryz.prog 74 0 = some (0, 45) := by kernel_rfl
noncomputable def tb_fdT : Tr (Nat × Nat) := (.node (.node .leaf 14336 (0, 54) .leaf) 18944 (0, 45) .leaf)
theorem tb_fdT_ok : tb_fdT.All (fun x r => tFdT Tryz.prog (x / 256) (x % 256) = some r) := ⟨tb_fdT18944, ⟨tb_fdT14336, trivial, trivial⟩, trivial⟩
theorem tb_pl24 : tPl Tryz.prog 24 = some ([.int .i64 0, .slice none 0 0], [(0, 1), (1, 1)]) := by kernel_rfl
theorem tb_pl54 : tPl Tryz.prog 54 = some ([.bool false, .slice none 0 0], [(0, 1), (1, 1)]) := by kernel_rfl
theorem tb_pl56 : tPl Tryz.prog 56 = some ([.bool false, .slice none 0 0, .slice none 0 0], [(0, 2), (2, 1)]) := by kernel_rfl
theorem tb_pl58 : tPl Tryz.prog 58 = some ([.bool false, .slice none 0 0, .slice none 0 0, .bool false, .slice none 0 0, .slice none 0 0], [(0, 3), (3, 3)]) := by kernel_rfl
theorem tb_pl72 : tPl Tryz.prog 72 = some ([.int .i64 0, .bool false, .slice none 0 0, .slice none 0 0], [(0, 1), (1, 3)]) := by kernel_rfl
theorem tb_pl74 : tPl Tryz.prog 74 = some ([.slice none 0 0, .bool false, .slice none 0 0, .slice none 0 0], [(0, 1), (1, 3)]) := by kernel_rfl
theorem tb_pl80 : tPl Tryz.prog 80 = some ([.int .i64 0, .slice none 0 0], [(0, 1), (1, 1)]) := by kernel_rfl
theorem tb_pl125 : tPl Tryz.prog 125 = some ([.bool false, .bool false, .slice none 0 0, .slice none 0 0, .bool false, .slice none 0 0, .slice none 0 0, .int .i64 0], [(0, 1), (1, 6), (7, 1)]) := by kernel_rfl
theorem tb_pl127 : tPl Tryz.prog 127 = some ([.bool false, .bool false, .slice none 0 0, .slice none 0 0, .bool false, .slice none 0 0, .slice none 0 0, .int .i64 0, .bool false, .bool false, .slice none 0 0, .slice none 0 0, .bool false, .slice none 0 0, .slice none 0 0, .int .i64 0], [(0, 8), (8, 8)]) := by kernel_rfl
theorem tb_pl131 : tPl Tryz.prog 131 = some ([.int .i64 0, .bool false, .slice none 0 0, .slice none 0 0], [(0, 1), (1, 3)]) := by kernel_rfl
theorem tb_pl137 : tPl Tryz.prog 137 = some ([.pointer none, .int .i64 0, .slice none 0 0, .slice none 0 0, .map none, .int .i64 0], [(0, 1), (1, 2), (3, 1), (4, 1), (5, 1)]) := by kernel_rfl
theorem tb_pl141 : tPl Tryz.prog 141 = some ([.bool false, .int .i64 0], [(0, 1), (1, 1)]) := by kernel_rfl
theorem tb_pl177 : tPl Tryz.prog 177 = some ([.int .i64 0, .slice none 0 0, .bool false, .slice none 0 0], [(0, 2), (2, 1), (3, 1)]) := by kernel_rfl
theorem tb_pl180 : tPl Tryz.prog 180 = some ([.int .i64 0, .int .i64 0], [(0, 1), (1, 1)]) := by kernel_rfl
theorem tb_pl228 : tPl Tryz.prog 228 = some ([.int .i64 0, .bool false, .int .i64 0, .bool false, .bool false, .slice none 0 0, .slice none 0 0, .bool false, .slice none 0 0, .slice none 0 0, .int .i64 0], [(0, 1), (1, 1), (2, 1), (3, 8)]) := by kernel_rfl
noncomputable def tb_pl : Tr (List Value × List (Nat × Nat)) := (.node (.node (.node (.node .leaf 24 ([.int .i64 0, .slice none 0 0], [(0, 1), (1, 1)]) .leaf) 54 ([.bool false, .slice none 0 0], [(0, 1), (1, 1)]) (.node .leaf 56 ([.bool false, .slice none 0 0, .slice none 0 0], [(0, 2), (2, 1)]) .leaf)) 58 ([.bool false, .slice none 0 0, .slice none 0 0, .bool false, .slice none 0 0, .slice none 0 0], [(0, 3), (3, 3)]) (.node (.node .leaf 72 ([.int .i64 0, .bool false, .slice none 0 0, .slice none 0 0], [(0, 1), (1, 3)]) .leaf) 74 ([.slice none 0 0, .bool false, .slice none 0 0, .slice none 0 0], [(0, 1), (1, 3)]) (.node .leaf 80 ([.int .i64 0, .slice none 0 0], [(0, 1), (1, 1)]) .leaf))) 125 ([.bool false, .bool false, .slice none 0 0, .slice none 0 0, .bool false, .slice none 0 0, .slice none 0 0, .int .i64 0], [(0, 1), (1, 6), (7, 1)]) (.node (.node (.node .leaf 127 ([.bool false, .bool false, .slice none 0 0, .slice none 0 0, .bool false, .slice none 0 0, .slice none 0 0, .int .i64 0, .bool false, .bool false, .slice none 0 0, .slice none 0 0, .bool false, .slice none 0 0, .slice none 0 0, .int .i64 0], [(0, 8), (8, 8)]) .leaf) 131 ([.int .i64 0, .bool false, .slice none 0 0, .slice none 0 0], [(0, 1), (1, 3)]) (.node .leaf 137 ([.pointer none, .int .i64 0, .slice none 0 0, .slice none 0 0, .map none, .int .i64 0], [(0, 1), (1, 2), (3, 1), (4, 1), (5, 1)]) .leaf)) 141 ([.bool false, .int .i64 0], [(0, 1), (1, 1)]) (.node (.node .leaf 177 ([.int .i64 0, .slice none 0 0, .bool false, .slice none 0 0], [(0, 2), (2, 1), (3, 1)]) .leaf) 180 ([.int .i64 0, .int .i64 0], [(0, 1), (1, 1)]) (.node .leaf 228 ([.int .i64 0, .bool false, .int .i64 0, .bool false, .bool false, .slice none 0 0, .slice none 0 0, .bool false, .slice none 0 0, .slice none 0 0, .int .i64 0], [(0, 1), (1, 1), (2, 1), (3, 8)]) .leaf))))
theorem tb_pl_ok : tb_pl.All (fun T r => tPl Tryz.prog T = some r) := ⟨tb_pl125, ⟨tb_pl58, ⟨tb_pl54, ⟨tb_pl24, trivial, trivial⟩, ⟨tb_pl56, trivial, trivial⟩⟩, ⟨tb_pl74, ⟨tb_pl72, trivial, trivial⟩, ⟨tb_pl80, trivial, trivial⟩⟩⟩, ⟨tb_pl141, ⟨tb_pl131, ⟨tb_pl127, trivial, trivial⟩, ⟨tb_pl137, trivial, trivial⟩⟩, ⟨tb_pl180, ⟨tb_pl177, trivial, trivial⟩, ⟨tb_pl228, trivial, trivial⟩⟩⟩⟩
theorem tb_plA142 : tPlA Tryz.prog 142 = some ([.bool false, .int .i64 0, .bool false, .int .i64 0], 2) := by kernel_rfl
noncomputable def tb_plA : Tr (List Value × Nat) := (.node .leaf 142 ([.bool false, .int .i64 0, .bool false, .int .i64 0], 2) .leaf)
theorem tb_plA_ok : tb_plA.All (fun T r => tPlA Tryz.prog T = some r) := ⟨tb_plA142, trivial, trivial⟩
theorem tb_mp65 : tMap Tryz.prog 65 = some (3, .int .i64, .slice none 0 0) := by kernel_rfl
theorem tb_mp135 : tMap Tryz.prog 135 = some (9, .string, .int .i64 0) := by kernel_rfl
noncomputable def tb_mp : Tr (TypeId × TypeDesc × Value) := (.node (.node .leaf 65 (3, .int .i64, .slice none 0 0) .leaf) 135 (9, .string, .int .i64 0) .leaf)
theorem tb_mp_ok : tb_mp.All (fun T r => tMap Tryz.prog T = some r) := ⟨tb_mp135, ⟨tb_mp65, trivial, trivial⟩, trivial⟩
theorem tb_arr142 : tArr Tryz.prog 142 = some (2, 141, 2) := by kernel_rfl
noncomputable def tb_arr : Tr (Nat × Nat × Nat) := (.node .leaf 142 (2, 141, 2) .leaf)
theorem tb_arr_ok : tb_arr.All (fun T r => tArr Tryz.prog T = some r) := ⟨tb_arr142, trivial, trivial⟩
theorem tb_ptr93 : Tryz.prog.underlying 93 = some (.pointer 137) := by kernel_rfl
theorem tb_ptr132 : Tryz.prog.underlying 132 = some (.pointer 177) := by kernel_rfl
noncomputable def tb_ptr : Tr Nat := (.node (.node .leaf 93 137 .leaf) 132 177 .leaf)
theorem tb_ptr_ok : tb_ptr.All (fun T e => Tryz.prog.underlying T = some (.pointer e)) := ⟨tb_ptr132, ⟨tb_ptr93, trivial, trivial⟩, trivial⟩
theorem tb_ik2 : Tryz.prog.underlying 2 = some (.int .i64) := by kernel_rfl
theorem tb_ik3 : Tryz.prog.underlying 3 = some (.int .i64) := by kernel_rfl
theorem tb_ik5 : Tryz.prog.underlying 5 = some (.int .u8) := by kernel_rfl
theorem tb_ik109 : Tryz.prog.underlying 109 = some (.int .u32) := by kernel_rfl
theorem tb_ik157 : Tryz.prog.underlying 157 = some (.int .u64) := by kernel_rfl
theorem tb_ik192 : Tryz.prog.underlying 192 = some (.int .u64) := by kernel_rfl
theorem tb_ik236 : Tryz.prog.underlying 236 = some (.int .u64) := by kernel_rfl
noncomputable def tb_ik : Tr IntKind := (.node (.node (.node .leaf 2 .i64 .leaf) 3 .i64 (.node .leaf 5 .u8 .leaf)) 109 .u32 (.node (.node .leaf 157 .u64 .leaf) 192 .u64 (.node .leaf 236 .u64 .leaf)))
theorem tb_ik_ok : tb_ik.All (fun T k => Tryz.prog.underlying T = some (.int k)) := ⟨tb_ik109, ⟨tb_ik3, ⟨tb_ik2, trivial, trivial⟩, ⟨tb_ik5, trivial, trivial⟩⟩, ⟨tb_ik192, ⟨tb_ik157, trivial, trivial⟩, ⟨tb_ik236, trivial, trivial⟩⟩⟩
theorem tb_bl4 : Tryz.prog.underlying 4 = some .bool := by kernel_rfl
noncomputable def tb_bl : Tr Unit := (.node .leaf 4 () .leaf)
theorem tb_bl_ok : tb_bl.All (fun T _ => Tryz.prog.underlying T = some .bool) := ⟨tb_bl4, trivial, trivial⟩
theorem tb_str9 : Tryz.prog.underlying 9 = some .string := by kernel_rfl
noncomputable def tb_str : Tr Unit := (.node .leaf 9 () .leaf)
theorem tb_str_ok : tb_str.All (fun T _ => Tryz.prog.underlying T = some .string) := ⟨tb_str9, trivial, trivial⟩
noncomputable def tb_fn : Tr Func := (.node (.node (.node (.node (.node (.node (.node (.node .leaf 5 Tryz.f5 .leaf) 9 Tryz.f9 .leaf) 13 Tryz.f13 (.node .leaf 17 Tryz.f17 .leaf)) 18 Tryz.f18 (.node (.node (.node .leaf 19 Tryz.f19 .leaf) 24 Tryz.f24 .leaf) 26 Tryz.f26 (.node .leaf 28 Tryz.f28 .leaf))) 29 Tryz.f29 (.node (.node (.node (.node .leaf 30 Tryz.f30 .leaf) 35 Tryz.f35 .leaf) 40 Tryz.f40 (.node .leaf 46 Tryz.f46 .leaf)) 47 Tryz.f47 (.node (.node .leaf 48 Tryz.f48 .leaf) 49 Tryz.f49 (.node .leaf 50 Tryz.f50 .leaf)))) 51 Tryz.f51 (.node (.node (.node (.node (.node .leaf 52 Tryz.f52 .leaf) 53 Tryz.f53 .leaf) 54 Tryz.f54 (.node .leaf 56 Tryz.f56 .leaf)) 58 Tryz.f58 (.node (.node (.node .leaf 59 Tryz.f59 .leaf) 61 Tryz.f61 .leaf) 62 Tryz.f62 (.node .leaf 63 Tryz.f63 .leaf))) 64 Tryz.f64 (.node (.node (.node (.node .leaf 66 Tryz.f66 .leaf) 67 Tryz.f67 .leaf) 69 Tryz.f69 (.node .leaf 70 Tryz.f70 .leaf)) 71 Tryz.f71 (.node (.node .leaf 76 Tryz.f76 .leaf) 79 Tryz.f79 (.node .leaf 81 Tryz.f81 .leaf))))) 83 Tryz.f83 (.node (.node (.node (.node (.node (.node .leaf 89 Tryz.f89 .leaf) 90 Tryz.f90 .leaf) 91 Tryz.f91 (.node .leaf 92 Tryz.f92 .leaf)) 93 Tryz.f93 (.node (.node (.node .leaf 94 Tryz.f94 .leaf) 95 Tryz.f95 .leaf) 96 Tryz.f96 (.node .leaf 97 Tryz.f97 .leaf))) 98 Tryz.f98 (.node (.node (.node (.node .leaf 99 Tryz.f99 .leaf) 102 Tryz.f102 .leaf) 103 Tryz.f103 (.node .leaf 104 Tryz.f104 .leaf)) 105 Tryz.f105 (.node (.node .leaf 109 Tryz.f109 .leaf) 110 Tryz.f110 (.node .leaf 111 Tryz.f111 .leaf)))) 112 Tryz.f112 (.node (.node (.node (.node (.node .leaf 113 Tryz.f113 .leaf) 114 Tryz.f114 .leaf) 115 Tryz.f115 (.node .leaf 116 Tryz.f116 .leaf)) 118 Tryz.f118 (.node (.node (.node .leaf 119 Tryz.f119 .leaf) 120 Tryz.f120 .leaf) 121 Tryz.f121 (.node .leaf 122 Tryz.f122 .leaf))) 123 Tryz.f123 (.node (.node (.node (.node .leaf 124 Tryz.f124 .leaf) 126 Tryz.f126 .leaf) 127 Tryz.f127 (.node .leaf 128 Tryz.f128 .leaf)) 129 Tryz.f129 (.node (.node .leaf 130 Tryz.f130 .leaf) 132 Tryz.f132 (.node .leaf 133 Tryz.f133 .leaf)))))) 142 Tryz.f142 (.node (.node (.node (.node (.node (.node (.node .leaf 143 Tryz.f143 .leaf) 144 Tryz.f144 .leaf) 145 Tryz.f145 (.node .leaf 146 Tryz.f146 .leaf)) 147 Tryz.f147 (.node (.node (.node .leaf 148 Tryz.f148 .leaf) 149 Tryz.f149 .leaf) 150 Tryz.f150 (.node .leaf 151 Tryz.f151 .leaf))) 152 Tryz.f152 (.node (.node (.node (.node .leaf 153 Tryz.f153 .leaf) 154 Tryz.f154 .leaf) 155 Tryz.f155 (.node .leaf 156 Tryz.f156 .leaf)) 157 Tryz.f157 (.node (.node .leaf 158 Tryz.f158 .leaf) 159 Tryz.f159 (.node .leaf 160 Tryz.f160 .leaf)))) 161 Tryz.f161 (.node (.node (.node (.node (.node .leaf 162 Tryz.f162 .leaf) 163 Tryz.f163 .leaf) 164 Tryz.f164 (.node .leaf 165 Tryz.f165 .leaf)) 166 Tryz.f166 (.node (.node (.node .leaf 167 Tryz.f167 .leaf) 168 Tryz.f168 .leaf) 169 Tryz.f169 (.node .leaf 170 Tryz.f170 .leaf))) 171 Tryz.f171 (.node (.node (.node (.node .leaf 172 Tryz.f172 .leaf) 174 Tryz.f174 .leaf) 175 Tryz.f175 (.node .leaf 180 Tryz.f180 .leaf)) 181 Tryz.f181 (.node (.node .leaf 182 Tryz.f182 .leaf) 183 Tryz.f183 (.node .leaf 184 Tryz.f184 .leaf))))) 185 Tryz.f185 (.node (.node (.node (.node (.node (.node .leaf 186 Tryz.f186 .leaf) 187 Tryz.f187 .leaf) 188 Tryz.f188 (.node .leaf 189 Tryz.f189 .leaf)) 190 Tryz.f190 (.node (.node (.node .leaf 191 Tryz.f191 .leaf) 192 Tryz.f192 .leaf) 193 Tryz.f193 (.node .leaf 194 Tryz.f194 .leaf))) 195 Tryz.f195 (.node (.node (.node (.node .leaf 196 Tryz.f196 .leaf) 197 Tryz.f197 .leaf) 198 Tryz.f198 (.node .leaf 199 Tryz.f199 .leaf)) 200 Tryz.f200 (.node (.node .leaf 201 Tryz.f201 .leaf) 202 Tryz.f202 (.node .leaf 203 Tryz.f203 .leaf)))) 204 Tryz.f204 (.node (.node (.node (.node (.node .leaf 205 Tryz.f205 .leaf) 206 Tryz.f206 .leaf) 207 Tryz.f207 (.node .leaf 208 Tryz.f208 .leaf)) 209 Tryz.f209 (.node (.node (.node .leaf 210 Tryz.f210 .leaf) 211 Tryz.f211 .leaf) 212 Tryz.f212 (.node .leaf 213 Tryz.f213 .leaf))) 214 Tryz.f214 (.node (.node (.node (.node .leaf 215 Tryz.f215 .leaf) 216 Tryz.f216 .leaf) 217 Tryz.f217 (.node .leaf 218 Tryz.f218 .leaf)) 219 Tryz.f219 (.node (.node .leaf 220 Tryz.f220 .leaf) 221 Tryz.f221 (.node .leaf 222 Tryz.f222 .leaf)))))))
theorem tb_fn_ok : tb_fn.All (fun f r => Tryz.prog.funcs[f]? = some r) := ⟨Tryz.func142, ⟨Tryz.func83, ⟨Tryz.func51, ⟨Tryz.func29, ⟨Tryz.func18, ⟨Tryz.func13, ⟨Tryz.func9, ⟨Tryz.func5, trivial, trivial⟩, trivial⟩, ⟨Tryz.func17, trivial, trivial⟩⟩, ⟨Tryz.func26, ⟨Tryz.func24, ⟨Tryz.func19, trivial, trivial⟩, trivial⟩, ⟨Tryz.func28, trivial, trivial⟩⟩⟩, ⟨Tryz.func47, ⟨Tryz.func40, ⟨Tryz.func35, ⟨Tryz.func30, trivial, trivial⟩, trivial⟩, ⟨Tryz.func46, trivial, trivial⟩⟩, ⟨Tryz.func49, ⟨Tryz.func48, trivial, trivial⟩, ⟨Tryz.func50, trivial, trivial⟩⟩⟩⟩, ⟨Tryz.func64, ⟨Tryz.func58, ⟨Tryz.func54, ⟨Tryz.func53, ⟨Tryz.func52, trivial, trivial⟩, trivial⟩, ⟨Tryz.func56, trivial, trivial⟩⟩, ⟨Tryz.func62, ⟨Tryz.func61, ⟨Tryz.func59, trivial, trivial⟩, trivial⟩, ⟨Tryz.func63, trivial, trivial⟩⟩⟩, ⟨Tryz.func71, ⟨Tryz.func69, ⟨Tryz.func67, ⟨Tryz.func66, trivial, trivial⟩, trivial⟩, ⟨Tryz.func70, trivial, trivial⟩⟩, ⟨Tryz.func79, ⟨Tryz.func76, trivial, trivial⟩, ⟨Tryz.func81, trivial, trivial⟩⟩⟩⟩⟩, ⟨Tryz.func112, ⟨Tryz.func98, ⟨Tryz.func93, ⟨Tryz.func91, ⟨Tryz.func90, ⟨Tryz.func89, trivial, trivial⟩, trivial⟩, ⟨Tryz.func92, trivial, trivial⟩⟩, ⟨Tryz.func96, ⟨Tryz.func95, ⟨Tryz.func94, trivial, trivial⟩, trivial⟩, ⟨Tryz.func97, trivial, trivial⟩⟩⟩, ⟨Tryz.func105, ⟨Tryz.func103, ⟨Tryz.func102, ⟨Tryz.func99, trivial, trivial⟩, trivial⟩, ⟨Tryz.func104, trivial, trivial⟩⟩, ⟨Tryz.func110, ⟨Tryz.func109, trivial, trivial⟩, ⟨Tryz.func111, trivial, trivial⟩⟩⟩⟩, ⟨Tryz.func123, ⟨Tryz.func118, ⟨Tryz.func115, ⟨Tryz.func114, ⟨Tryz.func113, trivial, trivial⟩, trivial⟩, ⟨Tryz.func116, trivial, trivial⟩⟩, ⟨Tryz.func121, ⟨Tryz.func120, ⟨Tryz.func119, trivial, trivial⟩, trivial⟩, ⟨Tryz.func122, trivial, trivial⟩⟩⟩, ⟨Tryz.func129, ⟨Tryz.func127, ⟨Tryz.func126, ⟨Tryz.func124, trivial, trivial⟩, trivial⟩, ⟨Tryz.func128, trivial, trivial⟩⟩, ⟨Tryz.func132, ⟨Tryz.func130, trivial, trivial⟩, ⟨Tryz.func133, trivial, trivial⟩⟩⟩⟩⟩⟩, ⟨Tryz.func185, ⟨Tryz.func161, ⟨Tryz.func152, ⟨Tryz.func147, ⟨Tryz.func145, ⟨Tryz.func144, ⟨Tryz.func143, trivial, trivial⟩, trivial⟩, ⟨Tryz.func146, trivial, trivial⟩⟩, ⟨Tryz.func150, ⟨Tryz.func149, ⟨Tryz.func148, trivial, trivial⟩, trivial⟩, ⟨Tryz.func151, trivial, trivial⟩⟩⟩, ⟨Tryz.func157, ⟨Tryz.func155, ⟨Tryz.func154, ⟨Tryz.func153, trivial, trivial⟩, trivial⟩, ⟨Tryz.func156, trivial, trivial⟩⟩, ⟨Tryz.func159, ⟨Tryz.func158, trivial, trivial⟩, ⟨Tryz.func160, trivial, trivial⟩⟩⟩⟩, ⟨Tryz.func171, ⟨Tryz.func166, ⟨Tryz.func164, ⟨Tryz.func163, ⟨Tryz.func162, trivial, trivial⟩, trivial⟩, ⟨Tryz.func165, trivial, trivial⟩⟩, ⟨Tryz.func169, ⟨Tryz.func168, ⟨Tryz.func167, trivial, trivial⟩, trivial⟩, ⟨Tryz.func170, trivial, trivial⟩⟩⟩, ⟨Tryz.func181, ⟨Tryz.func175, ⟨Tryz.func174, ⟨Tryz.func172, trivial, trivial⟩, trivial⟩, ⟨Tryz.func180, trivial, trivial⟩⟩, ⟨Tryz.func183, ⟨Tryz.func182, trivial, trivial⟩, ⟨Tryz.func184, trivial, trivial⟩⟩⟩⟩⟩, ⟨Tryz.func204, ⟨Tryz.func195, ⟨Tryz.func190, ⟨Tryz.func188, ⟨Tryz.func187, ⟨Tryz.func186, trivial, trivial⟩, trivial⟩, ⟨Tryz.func189, trivial, trivial⟩⟩, ⟨Tryz.func193, ⟨Tryz.func192, ⟨Tryz.func191, trivial, trivial⟩, trivial⟩, ⟨Tryz.func194, trivial, trivial⟩⟩⟩, ⟨Tryz.func200, ⟨Tryz.func198, ⟨Tryz.func197, ⟨Tryz.func196, trivial, trivial⟩, trivial⟩, ⟨Tryz.func199, trivial, trivial⟩⟩, ⟨Tryz.func202, ⟨Tryz.func201, trivial, trivial⟩, ⟨Tryz.func203, trivial, trivial⟩⟩⟩⟩, ⟨Tryz.func214, ⟨Tryz.func209, ⟨Tryz.func207, ⟨Tryz.func206, ⟨Tryz.func205, trivial, trivial⟩, trivial⟩, ⟨Tryz.func208, trivial, trivial⟩⟩, ⟨Tryz.func212, ⟨Tryz.func211, ⟨Tryz.func210, trivial, trivial⟩, trivial⟩, ⟨Tryz.func213, trivial, trivial⟩⟩⟩, ⟨Tryz.func219, ⟨Tryz.func217, ⟨Tryz.func216, ⟨Tryz.func215, trivial, trivial⟩, trivial⟩, ⟨Tryz.func218, trivial, trivial⟩⟩, ⟨Tryz.func221, ⟨Tryz.func220, trivial, trivial⟩, ⟨Tryz.func222, trivial, trivial⟩⟩⟩⟩⟩⟩⟩
theorem tb_nm5 : (Tryz.f5.name == "runtime.NumGoroutine") = false := by kernel_rfl
theorem tb_nm9 : (Tryz.f9.name == "runtime.NumGoroutine") = false := by kernel_rfl
theorem tb_nm13 : (Tryz.f13.name == "runtime.NumGoroutine") = false := by kernel_rfl
theorem tb_nm17 : (Tryz.f17.name == "runtime.NumGoroutine") = false := by kernel_rfl
theorem tb_nm18 : (Tryz.f18.name == "runtime.NumGoroutine") = false := by kernel_rfl
theorem tb_nm19 : (Tryz.f19.name == "runtime.NumGoroutine") = false := by kernel_rfl
theorem tb_nm24 : (Tryz.f24.name == "runtime.NumGoroutine") = false := by kernel_rfl
theorem tb_nm26 : (Tryz.f26.name == "runtime.NumGoroutine") = false := by kernel_rfl
theorem tb_nm28 : (Tryz.f28.name == "runtime.NumGoroutine") = false := by kernel_rfl
theorem tb_nm29 : (Tryz.f29.name == "runtime.NumGoroutine") = false := by kernel_rfl
theorem tb_nm30 : (Tryz.f30.name == "runtime.NumGoroutine") = false := by kernel_rfl
theorem tb_nm35 : (Tryz.f35.name == "runtime.NumGoroutine") = false := by kernel_rfl
theorem tb_nm40 : (Tryz.f40.name == "runtime.NumGoroutine") = false := by kernel_rfl
theorem tb_nm46 : (Tryz.f46.name == "runtime.NumGoroutine") = false := by kernel_rfl
theorem tb_nm47 : (Tryz.f47.name == "runtime.NumGoroutine") = false := by kernel_rfl
theorem tb_nm48 : (Tryz.f48.name == "runtime.NumGoroutine") = false := by kernel_rfl
theorem tb_nm49 : (Tryz.f49.name == "runtime.NumGoroutine") = false := by kernel_rfl
theorem tb_nm50 : (Tryz.f50.name == "runtime.NumGoroutine") = false := by kernel_rfl
theorem tb_nm51 : (Tryz.f51.name == "runtime.NumGoroutine") = false := by kernel_rfl
theorem tb_nm52 : (Tryz.f52.name == "runtime.NumGoroutine") = false := by kernel_rfl
theorem tb_nm53 : (Tryz.f53.name == "runtime.NumGoroutine") = false := by kernel_rfl
theorem tb_nm54 : (Tryz.f54.name == "runtime.NumGoroutine") = false := by kernel_rfl
theorem tb_nm56 : (Tryz.f56.name == "runtime.NumGoroutine") = false := by kernel_rfl
theorem tb_nm58 : (Tryz.f58.name == "runtime.NumGoroutine") = false := by kernel_rfl
theorem tb_nm59 : (Tryz.f59.name == "runtime.NumGoroutine") = false := by kernel_rfl
theorem tb_nm61 : (Tryz.f61.name == "runtime.NumGoroutine") = false := by kernel_rfl
theorem tb_nm62 : (Tryz.f62.name == "runtime.NumGoroutine") = false := by kernel_rfl
theorem tb_nm63 : (Tryz.f63.name == "runtime.NumGoroutine") = false := by kernel_rfl
theorem tb_nm64 : (Tryz.f64.name == "runtime.NumGoroutine") = false := by kernel_rfl
theorem tb_nm66 : (Tryz.f66.name == "runtime.NumGoroutine") = false := by kernel_rfl
theorem tb_nm67 : (Tryz.f67.name == "runtime.NumGoroutine") = false := by kernel_rfl
theorem tb_nm69 : (Tryz.f69.name == "runtime.NumGoroutine") = false := by kernel_rfl
theorem tb_nm70 : (Tryz.f70.name == "runtime.NumGoroutine") = false := by kernel_rfl
theorem tb_nm71 : (Tryz.f71.name == "runtime.NumGoroutine") = false := by kernel_rfl
theorem tb_nm76 : (Tryz.f76.name == "runtime.NumGoroutine") = false := by kernel_rfl
theorem tb_nm79 : (Tryz.f79.name == "runtime.NumGoroutine") = false := by kernel_rfl
theorem tb_nm81 : (Tryz.f81.name == "runtime.NumGoroutine") = false := by kernel_rfl
theorem tb_nm83 : (Tryz.f83.name == "runtime.NumGoroutine") = false := by kernel_rfl
theorem tb_nm89 : (Tryz.f89.name == "runtime.NumGoroutine") = false := by kernel_rfl
theorem tb_nm90 : (Tryz.f90.name == "runtime.NumGoroutine") = false := by kernel_rfl
theorem tb_nm91 : (Tryz.f91.name == "runtime.NumGoroutine") = false := by kernel_rfl
theorem tb_nm92 : (Tryz.f92.name == "runtime.NumGoroutine") = false := by kernel_rfl
theorem tb_nm93 : (Tryz.f93.name == "runtime.NumGoroutine") = false := by kernel_rfl
theorem tb_nm94 : (Tryz.f94.name == "runtime.NumGoroutine") = false := by kernel_rfl
theorem tb_nm95 : (Tryz.f95.name == "runtime.NumGoroutine") = false := by kernel_rfl
theorem tb_nm96 : (Tryz.f96.name == "runtime.NumGoroutine") = false := by kernel_rfl
theorem tb_nm97 : (Tryz.f97.name == "runtime.NumGoroutine") = false := by kernel_rfl
theorem tb_nm98 : (Tryz.f98.name == "runtime.NumGoroutine") = false := by kernel_rfl
theorem tb_nm99 : (Tryz.f99.name == "runtime.NumGoroutine") = false := by kernel_rfl
theorem tb_nm102 : (Tryz.f102.name == "runtime.NumGoroutine") = false := by kernel_rfl
theorem tb_nm103 : (Tryz.f103.name == "runtime.NumGoroutine") = false := by kernel_rfl
theorem tb_nm104 : (Tryz.f104.name == "runtime.NumGoroutine") = false := by kernel_rfl
theorem tb_nm105 : (Tryz.f105.name == "runtime.NumGoroutine") = false := by kernel_rfl
theorem tb_nm109 : (Tryz.f109.name == "runtime.NumGoroutine") = false := by kernel_rfl
theorem tb_nm110 : (Tryz.f110.name == "runtime.NumGoroutine") = false := by kernel_rfl
theorem tb_nm111 : (Tryz.f111.name == "runtime.NumGoroutine") = false := by kernel_rfl
theorem tb_nm112 : (Tryz.f112.name == "runtime.NumGoroutine") = false := by kernel_rfl
theorem tb_nm113 : (Tryz.f113.name == "runtime.NumGoroutine") = false := by kernel_rfl
theorem tb_nm114 : (Tryz.f114.name == "runtime.NumGoroutine") = false := by kernel_rfl
theorem tb_nm115 : (Tryz.f115.name == "runtime.NumGoroutine") = false := by kernel_rfl
theorem tb_nm116 : (Tryz.f116.name == "runtime.NumGoroutine") = false := by kernel_rfl
theorem tb_nm118 : (Tryz.f118.name == "runtime.NumGoroutine") = false := by kernel_rfl
theorem tb_nm119 : (Tryz.f119.name == "runtime.NumGoroutine") = false := by kernel_rfl
theorem tb_nm120 : (Tryz.f120.name == "runtime.NumGoroutine") = false := by kernel_rfl
theorem tb_nm121 : (Tryz.f121.name == "runtime.NumGoroutine") = false := by kernel_rfl
theorem tb_nm122 : (Tryz.f122.name == "runtime.NumGoroutine") = false := by kernel_rfl
theorem tb_nm123 : (Tryz.f123.name == "runtime.NumGoroutine") = false := by kernel_rfl
theorem tb_nm124 : (Tryz.f124.name == "runtime.NumGoroutine") = false := by kernel_rfl
theorem tb_nm126 : (Tryz.f126.name == "runtime.NumGoroutine") = false := by kernel_rfl
theorem tb_nm127 : (Tryz.f127.name == "runtime.NumGoroutine") = false := by kernel_rfl
theorem tb_nm128 : (Tryz.f128.name == "runtime.NumGoroutine") = false := by kernel_rfl
theorem tb_nm129 : (Tryz.f129.name == "runtime.NumGoroutine") = false := by kernel_rfl
theorem tb_nm130 : (Tryz.f130.name == "runtime.NumGoroutine") = false := by kernel_rfl
theorem tb_nm132 : (Tryz.f132.name == "runtime.NumGoroutine") = false := by kernel_rfl
theorem tb_nm133 : (Tryz.f133.name == "runtime.NumGoroutine") = false := by kernel_rfl
theorem tb_nm142 : (Tryz.f142.name == "runtime.NumGoroutine") = false := by kernel_rfl
theorem tb_nm143 : (Tryz.f143.name == "runtime.NumGoroutine") = false := by kernel_rfl
theorem tb_nm144 : (Tryz.f144.name == "runtime.NumGoroutine") = false := by kernel_rfl
theorem tb_nm145 : (Tryz.f145.name == "runtime.NumGoroutine") = false := by kernel_rfl
theorem tb_nm146 : (Tryz.f146.name == "runtime.NumGoroutine") = false := by kernel_rfl
theorem tb_nm147 : (Tryz.f147.name == "runtime.NumGoroutine") = false := by kernel_rfl
theorem tb_nm148 : (Tryz.f148.name == "runtime.NumGoroutine") = false := by kernel_rfl
theorem tb_nm149 : (Tryz.f149.name == "runtime.NumGoroutine") = false := by kernel_rfl
theorem tb_nm150 : (Tryz.f150.name == "runtime.NumGoroutine") = false := by kernel_rfl
theorem tb_nm151 : (Tryz.f151.name == "runtime.NumGoroutine") = false := by kernel_rfl
theorem tb_nm152 : (Tryz.f152.name == "runtime.NumGoroutine") = false := by kernel_rfl
theorem tb_nm153 : (Tryz.f153.name == "runtime.NumGoroutine") = false := by kernel_rfl
theorem tb_nm154 : (Tryz.f154.name == "runtime.NumGoroutine") = false := by kernel_rfl
theorem tb_nm155 : (Tryz.f155.name == "runtime.NumGoroutine") = false := by kernel_rfl
theorem tb_nm156 : (Tryz.f156.name == "runtime.NumGoroutine") = false := by kernel_rfl
theorem tb_nm157 : (Tryz.f157.name == "runtime.NumGoroutine") = false := by kernel_rfl
theorem tb_nm158 : (Tryz.f158.name == "runtime.NumGoroutine") = false := by kernel_rfl
theorem tb_nm159 : (Tryz.f159.name == "runtime.NumGoroutine") = false := by kernel_rfl
theorem tb_nm160 : (Tryz.f160.name == "runtime.NumGoroutine") = false := by kernel_rfl
theorem tb_nm161 : (Tryz.f161.name == "runtime.NumGoroutine") = false := by kernel_rfl
theorem tb_nm162 : (Tryz.f162.name == "runtime.NumGoroutine") = false := by kernel_rfl
theorem tb_nm163 : (Tryz.f163.name == "runtime.NumGoroutine") = false := by kernel_rfl
theorem tb_nm164 : (Tryz.f164.name == "runtime.NumGoroutine") = false := by kernel_rfl
theorem tb_nm165 : (Tryz.f165.name == "runtime.NumGoroutine") = false := by kernel_rfl
theorem tb_nm166 : (Tryz.f166.name == "runtime.NumGoroutine") = false := by kernel_rfl
theorem tb_nm167 : (Tryz.f167.name == "runtime.NumGoroutine") = false := by kernel_rfl
theorem tb_nm168 : (Tryz.f168.name == "runtime.NumGoroutine") = false := by kernel_rfl
theorem tb_nm169 : (Tryz.f169.name == "runtime.NumGoroutine") = false := by kernel_rfl
theorem tb_nm170 : (Tryz.f170.name == "runtime.NumGoroutine") = false := by kernel_rfl
theorem tb_nm171 : (Tryz.f171.name == "runtime.NumGoroutine") = false := by kernel_rfl
theorem tb_nm172 : (Tryz.f172.name == "runtime.NumGoroutine") = false := by kernel_rfl
theorem tb_nm174 : (Tryz.f174.name == "runtime.NumGoroutine") = false := by kernel_rfl
theorem tb_nm175 : (Tryz.f175.name == "runtime.NumGoroutine") = false := by kernel_rfl
theorem tb_nm180 : (Tryz.f180.name == "runtime.NumGoroutine") = false := by kernel_rfl
theorem tb_nm181 : (Tryz.f181.name == "runtime.NumGoroutine") = false := by kernel_rfl
theorem tb_nm182 : (Tryz.f182.name == "runtime.NumGoroutine") = false := by kernel_rfl
theorem tb_nm183 : (Tryz.f183.name == "runtime.NumGoroutine") = false := by kernel_rfl
theorem tb_nm184 : (Tryz.f184.name == "runtime.NumGoroutine") = false := by kernel_rfl
theorem tb_nm185 : (Tryz.f185.name == "runtime.NumGoroutine") = false := by kernel_rfl
theorem tb_nm186 : (Tryz.f186.name == "runtime.NumGoroutine") = false := by kernel_rfl
theorem tb_nm187 : (Tryz.f187.name == "runtime.NumGoroutine") = false := by kernel_rfl
theorem tb_nm188 : (Tryz.f188.name == "runtime.NumGoroutine") = false := by kernel_rfl
theorem tb_nm189 : (Tryz.f189.name == "runtime.NumGoroutine") = false := by kernel_rfl
theorem tb_nm190 : (Tryz.f190.name == "runtime.NumGoroutine") = false := by kernel_rfl
theorem tb_nm191 : (Tryz.f191.name == "runtime.NumGoroutine") = false := by kernel_rfl
theorem tb_nm192 : (Tryz.f192.name == "runtime.NumGoroutine") = false := by kernel_rfl
theorem tb_nm193 : (Tryz.f193.name == "runtime.NumGoroutine") = false := by kernel_rfl
theorem tb_nm194 : (Tryz.f194.name == "runtime.NumGoroutine") = false := by kernel_rfl
theorem tb_nm195 : (Tryz.f195.name == "runtime.NumGoroutine") = false := by kernel_rfl
theorem tb_nm196 : (Tryz.f196.name == "runtime.NumGoroutine") = false := by kernel_rfl
theorem tb_nm197 : (Tryz.f197.name == "runtime.NumGoroutine") = false := by kernel_rfl
theorem tb_nm198 : (Tryz.f198.name == "runtime.NumGoroutine") = false := by kernel_rfl
theorem tb_nm199 : (Tryz.f199.name == "runtime.NumGoroutine") = false := by kernel_rfl
theorem tb_nm200 : (Tryz.f200.name == "runtime.NumGoroutine") = false := by kernel_rfl
theorem tb_nm201 : (Tryz.f201.name == "runtime.NumGoroutine") = false := by kernel_rfl
theorem tb_nm202 : (Tryz.f202.name == "runtime.NumGoroutine") = false := by kernel_rfl
theorem tb_nm203 : (Tryz.f203.name == "runtime.NumGoroutine") = false := by kernel_rfl
theorem tb_nm204 : (Tryz.f204.name == "runtime.NumGoroutine") = false := by kernel_rfl
theorem tb_nm205 : (Tryz.f205.name == "runtime.NumGoroutine") = false := by kernel_rfl
theorem tb_nm206 : (Tryz.f206.name == "runtime.NumGoroutine") = false := by kernel_rfl
theorem tb_nm207 : (Tryz.f207.name == "runtime.NumGoroutine") = false := by kernel_rfl
theorem tb_nm208 : (Tryz.f208.name == "runtime.NumGoroutine") = false := by kernel_rfl
theorem tb_nm209 : (Tryz.f209.name == "runtime.NumGoroutine") = false := by kernel_rfl
theorem tb_nm210 : (Tryz.f210.name == "runtime.NumGoroutine") = false := by kernel_rfl
theorem tb_nm211 : (Tryz.f211.name == "runtime.NumGoroutine") = false := by kernel_rfl
theorem tb_nm212 : (Tryz.f212.name == "runtime.NumGoroutine") = false := by kernel_rfl
theorem tb_nm213 : (Tryz.f213.name == "runtime.NumGoroutine") = false := by kernel_rfl
theorem tb_nm214 : (Tryz.f214.name == "runtime.NumGoroutine") = false := by kernel_rfl
theorem tb_nm215 : (Tryz.f215.name == "runtime.NumGoroutine") = false := by kernel_rfl
theorem tb_nm216 : (Tryz.f216.name == "runtime.NumGoroutine") = false := by kernel_rfl
theorem tb_nm217 : (Tryz.f217.name == "runtime.NumGoroutine") = false := by kernel_rfl
theorem tb_nm218 : (Tryz.f218.name == "runtime.NumGoroutine") = false := by kernel_rfl
theorem tb_nm219 : (Tryz.f219.name == "runtime.NumGoroutine") = false := by kernel_rfl
theorem tb_nm220 : (Tryz.f220.name == "runtime.NumGoroutine") = false := by kernel_rfl
theorem tb_nm221 : (Tryz.f221.name == "runtime.NumGoroutine") = false := by kernel_rfl
theorem tb_nm222 : (Tryz.f222.name == "runtime.NumGoroutine") = false := by kernel_rfl
theorem tb_nm_ok : tb_fn.All (fun _ r => (r.name == "runtime.NumGoroutine") = false) := ⟨tb_nm142, ⟨tb_nm83, ⟨tb_nm51, ⟨tb_nm29, ⟨tb_nm18, ⟨tb_nm13, ⟨tb_nm9, ⟨tb_nm5, trivial, trivial⟩, trivial⟩, ⟨tb_nm17, trivial, trivial⟩⟩, ⟨tb_nm26, ⟨tb_nm24, ⟨tb_nm19, trivial, trivial⟩, trivial⟩, ⟨tb_nm28, trivial, trivial⟩⟩⟩, ⟨tb_nm47, ⟨tb_nm40, ⟨tb_nm35, ⟨tb_nm30, trivial, trivial⟩, trivial⟩, ⟨tb_nm46, trivial, trivial⟩⟩, ⟨tb_nm49, ⟨tb_nm48, trivial, trivial⟩, ⟨tb_nm50, trivial, trivial⟩⟩⟩⟩, ⟨tb_nm64, ⟨tb_nm58, ⟨tb_nm54, ⟨tb_nm53, ⟨tb_nm52, trivial, trivial⟩, trivial⟩, ⟨tb_nm56, trivial, trivial⟩⟩, ⟨tb_nm62, ⟨tb_nm61, ⟨tb_nm59, trivial, trivial⟩, trivial⟩, ⟨tb_nm63, trivial, trivial⟩⟩⟩, ⟨tb_nm71, ⟨tb_nm69, ⟨tb_nm67, ⟨tb_nm66, trivial, trivial⟩, trivial⟩, ⟨tb_nm70, trivial, trivial⟩⟩, ⟨tb_nm79, ⟨tb_nm76, trivial, trivial⟩, ⟨tb_nm81, trivial, trivial⟩⟩⟩⟩⟩, ⟨tb_nm112, ⟨tb_nm98, ⟨tb_nm93, ⟨tb_nm91, ⟨tb_nm90, ⟨tb_nm89, trivial, trivial⟩, trivial⟩, ⟨tb_nm92, trivial, trivial⟩⟩, ⟨tb_nm96, ⟨tb_nm95, ⟨tb_nm94, trivial, trivial⟩, trivial⟩, ⟨tb_nm97, trivial, trivial⟩⟩⟩, ⟨tb_nm105, ⟨tb_nm103, ⟨tb_nm102, ⟨tb_nm99, trivial, trivial⟩, trivial⟩, ⟨tb_nm104, trivial, trivial⟩⟩, ⟨tb_nm110, ⟨tb_nm109, trivial, trivial⟩, ⟨tb_nm111, trivial, trivial⟩⟩⟩⟩, ⟨tb_nm123, ⟨tb_nm118, ⟨tb_nm115, ⟨tb_nm114, ⟨tb_nm113, trivial, trivial⟩, trivial⟩, ⟨tb_nm116, trivial, trivial⟩⟩, ⟨tb_nm121, ⟨tb_nm120, ⟨tb_nm119, trivial, trivial⟩, trivial⟩, ⟨tb_nm122, trivial, trivial⟩⟩⟩, ⟨tb_nm129, ⟨tb_nm127, ⟨tb_nm126, ⟨tb_nm124, trivial, trivial⟩, trivial⟩, ⟨tb_nm128, trivial, trivial⟩⟩, ⟨tb_nm132, ⟨tb_nm130, trivial, trivial⟩, ⟨tb_nm133, trivial, trivial⟩⟩⟩⟩⟩⟩, ⟨tb_nm185, ⟨tb_nm161, ⟨tb_nm152, ⟨tb_nm147, ⟨tb_nm145, ⟨tb_nm144, ⟨tb_nm143, trivial, trivial⟩, trivial⟩, ⟨tb_nm146, trivial, trivial⟩⟩, ⟨tb_nm150, ⟨tb_nm149, ⟨tb_nm148, trivial, trivial⟩, trivial⟩, ⟨tb_nm151, trivial, trivial⟩⟩⟩, ⟨tb_nm157, ⟨tb_nm155, ⟨tb_nm154, ⟨tb_nm153, trivial, trivial⟩, trivial⟩, ⟨tb_nm156, trivial, trivial⟩⟩, ⟨tb_nm159, ⟨tb_nm158, trivial, trivial⟩, ⟨tb_nm160, trivial, trivial⟩⟩⟩⟩, ⟨tb_nm171, ⟨tb_nm166, ⟨tb_nm164, ⟨tb_nm163, ⟨tb_nm162, trivial, trivial⟩, trivial⟩, ⟨tb_nm165, trivial, trivial⟩⟩, ⟨tb_nm169, ⟨tb_nm168, ⟨tb_nm167, trivial, trivial⟩, trivial⟩, ⟨tb_nm170, trivial, trivial⟩⟩⟩, ⟨tb_nm181, ⟨tb_nm175, ⟨tb_nm174, ⟨tb_nm172, trivial, trivial⟩, trivial⟩, ⟨tb_nm180, trivial, trivial⟩⟩, ⟨tb_nm183, ⟨tb_nm182, trivial, trivial⟩, ⟨tb_nm184, trivial, trivial⟩⟩⟩⟩⟩, ⟨tb_nm204, ⟨tb_nm195, ⟨tb_nm190, ⟨tb_nm188, ⟨tb_nm187, ⟨tb_nm186, trivial, trivial⟩, trivial⟩, ⟨tb_nm189, trivial, trivial⟩⟩, ⟨tb_nm193, ⟨tb_nm192, ⟨tb_nm191, trivial, trivial⟩, trivial⟩, ⟨tb_nm194, trivial, trivial⟩⟩⟩, ⟨tb_nm200, ⟨tb_nm198, ⟨tb_nm197, ⟨tb_nm196, trivial, trivial⟩, trivial⟩, ⟨tb_nm199, trivial, trivial⟩⟩, ⟨tb_nm202, ⟨tb_nm201, trivial, trivial⟩, ⟨tb_nm203, trivial, trivial⟩⟩⟩⟩, ⟨tb_nm214, ⟨tb_nm209, ⟨tb_nm207, ⟨tb_nm206, ⟨tb_nm205, trivial, trivial⟩, trivial⟩, ⟨tb_nm208, trivial, trivial⟩⟩, ⟨tb_nm212, ⟨tb_nm211, ⟨tb_nm210, trivial, trivial⟩, trivial⟩, ⟨tb_nm213, trivial, trivial⟩⟩⟩, ⟨tb_nm219, ⟨tb_nm217, ⟨tb_nm216, ⟨tb_nm215, trivial, trivial⟩, trivial⟩, ⟨tb_nm218, trivial, trivial⟩⟩, ⟨tb_nm221, ⟨tb_nm220, trivial, trivial⟩, ⟨tb_nm222, trivial, trivial⟩⟩⟩⟩⟩⟩⟩
noncomputable def tb : Tb := ⟨tb_sz, tb_el, tb_z, tb_fd, tb_fdT, tb_pl, tb_plA, tb_mp, tb_arr, tb_ptr, tb_ik, tb_bl, tb_str, tb_fn⟩
theorem tb_ok : Tb.OK Tryz.prog tb := ⟨tb_sz_ok, tb_el_ok, tb_z_ok, tb_fd_ok, tb_fdT_ok, tb_pl_ok, tb_plA_ok, tb_mp_ok, tb_arr_ok, tb_ptr_ok, tb_ik_ok, tb_bl_ok, tb_str_ok, tb_fn_ok, tb_nm_ok, by kernel_rfl⟩
end Go.Proofs.YtkfmdjbfffncpaaGreat
