/- More facts on the types of the loaded program, each a closed fact of the kernel's. Printed by my gen.py. -/
import Derived.Test.YtanhehbfbakdcaaGreatDoorMap
import Derived.Test.YtanhehbfbakdcaaGreatDoorProg
namespace Go.Proofs.YtanhehbfbakdcaaGreatDoor
namespace Sl
open Go
instance : FlatC Tryz.prog 89 [K1.s, K1.i .i64] := ⟨by kernel_rfl, by kernel_rfl, by kernel_rfl, by kernel_rfl⟩
instance : PtrC Tryz.prog 112 := ⟨117, by kernel_rfl, by kernel_rfl⟩
instance : PtrC Tryz.prog 113 := ⟨115, by kernel_rfl, by kernel_rfl⟩
instance : FlatC Tryz.prog 125 [K1.i .i64, K1.s] := ⟨by kernel_rfl, by kernel_rfl, by kernel_rfl, by kernel_rfl⟩
instance : FlatC Tryz.prog 130 [K1.i .i64, K1.s, K1.i .i64] := ⟨by kernel_rfl, by kernel_rfl, by kernel_rfl, by kernel_rfl⟩
instance : FlatC Tryz.prog 170 [K1.i .i64, K1.s, K1.i .i64] := ⟨by kernel_rfl, by kernel_rfl, by kernel_rfl, by kernel_rfl⟩
instance : PtrC Tryz.prog 174 := ⟨107, by kernel_rfl, by kernel_rfl⟩
instance : FlatC Tryz.prog 185 [K1.s, K1.s] := ⟨by kernel_rfl, by kernel_rfl, by kernel_rfl, by kernel_rfl⟩
instance : PtrC Tryz.prog 188 := ⟨5, by kernel_rfl, by kernel_rfl⟩
instance : PtrC Tryz.prog 206 := ⟨208, by kernel_rfl, by kernel_rfl⟩
instance : MapC Tryz.prog 224 9 4 := ⟨by kernel_rfl⟩
instance : FlatC Tryz.prog 230 [K1.b, K1.b, K1.b, K1.b, K1.i .i64] := ⟨by kernel_rfl, by kernel_rfl, by kernel_rfl, by kernel_rfl⟩
instance : PtrC Tryz.prog 240 := ⟨244, by kernel_rfl, by kernel_rfl⟩
instance : MapC Tryz.prog 249 9 253 := ⟨by kernel_rfl⟩
instance : PtrC Tryz.prog 255 := ⟨134, by kernel_rfl, by kernel_rfl⟩
instance : MapC Tryz.prog 262 9 3 := ⟨by kernel_rfl⟩
instance : PtrC Tryz.prog 296 := ⟨308, by kernel_rfl, by kernel_rfl⟩
instance : PtrC Tryz.prog 312 := ⟨314, by kernel_rfl, by kernel_rfl⟩
instance : ZrC Tryz.prog 3 (.int .i64 0) := ⟨by kernel_rfl⟩
instance : ZrC Tryz.prog 4 (.bool false) := ⟨by kernel_rfl⟩
instance : ZrC Tryz.prog 5 (.int .u8 0) := ⟨by kernel_rfl⟩
instance : ZrC Tryz.prog 253 (.agg #[.int .i64 0, .nilFunc]) := ⟨by kernel_rfl⟩
end Sl
end Go.Proofs.YtanhehbfbakdcaaGreatDoor
