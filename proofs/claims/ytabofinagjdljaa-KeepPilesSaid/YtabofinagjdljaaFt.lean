/- What the types of the program are. -/
import Derived.Test.YtabofinagjdljaaProg
import Derived.Test.YtabofinagjdljaaEs
set_option linter.unusedVariables false
namespace Go.Proofs.YtabofinagjdljaaE
open Go.RowKit

@[simp] theorem u3 : Go.Program.underlying Go.Proofs.Try.prog 3 = some (Go.TypeDesc.int Go.IntKind.i64) := by rfl
@[simp] theorem sz3 : szOf Go.Proofs.Try.prog 3 = some 1 := by rfl
@[simp] theorem by3 : byOf Go.Proofs.Try.prog 3 = some 8 := by rfl
@[simp] theorem ze3 : zeroOf Go.Proofs.Try.prog 3 = some [PV.int .i64 0] := by rfl
@[simp] theorem ag3 : aggOf Go.Proofs.Try.prog 3 = some false := by rfl
@[simp] theorem u4 : Go.Program.underlying Go.Proofs.Try.prog 4 = some (Go.TypeDesc.bool) := by rfl
@[simp] theorem sz4 : szOf Go.Proofs.Try.prog 4 = some 1 := by rfl
@[simp] theorem by4 : byOf Go.Proofs.Try.prog 4 = some 1 := by rfl
@[simp] theorem ze4 : zeroOf Go.Proofs.Try.prog 4 = some [PV.bool false] := by rfl
@[simp] theorem ag4 : aggOf Go.Proofs.Try.prog 4 = some false := by rfl
@[simp] theorem u22 : Go.Program.underlying Go.Proofs.Try.prog 22 = some (Go.TypeDesc.slice 3) := by rfl
@[simp] theorem sz22 : szOf Go.Proofs.Try.prog 22 = some 1 := by rfl
@[simp] theorem by22 : byOf Go.Proofs.Try.prog 22 = some 24 := by rfl
@[simp] theorem ze22 : zeroOf Go.Proofs.Try.prog 22 = some [PV.nilS] := by rfl
@[simp] theorem ag22 : aggOf Go.Proofs.Try.prog 22 = some false := by rfl
@[simp] theorem u24 : Go.Program.underlying Go.Proofs.Try.prog 24 = some (Go.TypeDesc.slice 28) := by rfl
@[simp] theorem sz24 : szOf Go.Proofs.Try.prog 24 = some 1 := by rfl
@[simp] theorem by24 : byOf Go.Proofs.Try.prog 24 = some 24 := by rfl
@[simp] theorem ze24 : zeroOf Go.Proofs.Try.prog 24 = some [PV.nilS] := by rfl
@[simp] theorem ag24 : aggOf Go.Proofs.Try.prog 24 = some false := by rfl
@[simp] theorem u27 : Go.Program.underlying Go.Proofs.Try.prog 27 = some (Go.TypeDesc.struct #[{ name := "From", type := 3, offset := 0, embedded := false, tag := "", pkgPath := "", byteOffset := 0 }, { name := "To", type := 3, offset := 1, embedded := false, tag := "", pkgPath := "", byteOffset := 8 }]) := by rfl
@[simp] theorem sz27 : szOf Go.Proofs.Try.prog 27 = some 2 := by rfl
@[simp] theorem by27 : byOf Go.Proofs.Try.prog 27 = some 16 := by rfl
@[simp] theorem ze27 : zeroOf Go.Proofs.Try.prog 27 = some [PV.int .i64 0, PV.int .i64 0] := by rfl
@[simp] theorem ag27 : aggOf Go.Proofs.Try.prog 27 = some true := by rfl
@[simp] theorem eq27 : eqT Go.Proofs.Try.prog 27 = true := by kernel_rfl
@[simp] theorem u28 : Go.Program.underlying Go.Proofs.Try.prog 28 = some (Go.TypeDesc.struct #[{ name := "From", type := 3, offset := 0, embedded := false, tag := "", pkgPath := "", byteOffset := 0 }, { name := "To", type := 3, offset := 1, embedded := false, tag := "", pkgPath := "", byteOffset := 8 }]) := by rfl
@[simp] theorem sz28 : szOf Go.Proofs.Try.prog 28 = some 2 := by rfl
@[simp] theorem by28 : byOf Go.Proofs.Try.prog 28 = some 16 := by rfl
@[simp] theorem ze28 : zeroOf Go.Proofs.Try.prog 28 = some [PV.int .i64 0, PV.int .i64 0] := by rfl
@[simp] theorem ag28 : aggOf Go.Proofs.Try.prog 28 = some true := by rfl
@[simp] theorem eq28 : eqT Go.Proofs.Try.prog 28 = true := by kernel_rfl
@[simp] theorem u31 : Go.Program.underlying Go.Proofs.Try.prog 31 = some (Go.TypeDesc.slice 35) := by rfl
@[simp] theorem sz31 : szOf Go.Proofs.Try.prog 31 = some 1 := by rfl
@[simp] theorem by31 : byOf Go.Proofs.Try.prog 31 = some 24 := by rfl
@[simp] theorem ze31 : zeroOf Go.Proofs.Try.prog 31 = some [PV.nilS] := by rfl
@[simp] theorem ag31 : aggOf Go.Proofs.Try.prog 31 = some false := by rfl
@[simp] theorem u32 : Go.Program.underlying Go.Proofs.Try.prog 32 = some (Go.TypeDesc.struct #[{ name := "l", type := 22, offset := 0, embedded := false, tag := "", pkgPath := "retrospect/keep", byteOffset := 0 }]) := by rfl
@[simp] theorem sz32 : szOf Go.Proofs.Try.prog 32 = some 1 := by rfl
@[simp] theorem by32 : byOf Go.Proofs.Try.prog 32 = some 24 := by rfl
@[simp] theorem ze32 : zeroOf Go.Proofs.Try.prog 32 = some [PV.nilS] := by rfl
@[simp] theorem ag32 : aggOf Go.Proofs.Try.prog 32 = some true := by rfl
@[simp] theorem u33 : Go.Program.underlying Go.Proofs.Try.prog 33 = some (Go.TypeDesc.struct #[{ name := "l", type := 22, offset := 0, embedded := false, tag := "", pkgPath := "retrospect/keep", byteOffset := 0 }]) := by rfl
@[simp] theorem sz33 : szOf Go.Proofs.Try.prog 33 = some 1 := by rfl
@[simp] theorem by33 : byOf Go.Proofs.Try.prog 33 = some 24 := by rfl
@[simp] theorem ze33 : zeroOf Go.Proofs.Try.prog 33 = some [PV.nilS] := by rfl
@[simp] theorem ag33 : aggOf Go.Proofs.Try.prog 33 = some true := by rfl
@[simp] theorem u34 : Go.Program.underlying Go.Proofs.Try.prog 34 = some (Go.TypeDesc.struct #[{ name := "Kind", type := 3, offset := 0, embedded := false, tag := "", pkgPath := "", byteOffset := 0 }, { name := "L", type := 22, offset := 1, embedded := false, tag := "", pkgPath := "", byteOffset := 8 }]) := by rfl
@[simp] theorem sz34 : szOf Go.Proofs.Try.prog 34 = some 2 := by rfl
@[simp] theorem by34 : byOf Go.Proofs.Try.prog 34 = some 32 := by rfl
@[simp] theorem ze34 : zeroOf Go.Proofs.Try.prog 34 = some [PV.int .i64 0, PV.nilS] := by rfl
@[simp] theorem ag34 : aggOf Go.Proofs.Try.prog 34 = some true := by rfl
@[simp] theorem u35 : Go.Program.underlying Go.Proofs.Try.prog 35 = some (Go.TypeDesc.struct #[{ name := "Kind", type := 3, offset := 0, embedded := false, tag := "", pkgPath := "", byteOffset := 0 }, { name := "L", type := 22, offset := 1, embedded := false, tag := "", pkgPath := "", byteOffset := 8 }]) := by rfl
@[simp] theorem sz35 : szOf Go.Proofs.Try.prog 35 = some 2 := by rfl
@[simp] theorem by35 : byOf Go.Proofs.Try.prog 35 = some 32 := by rfl
@[simp] theorem ze35 : zeroOf Go.Proofs.Try.prog 35 = some [PV.int .i64 0, PV.nilS] := by rfl
@[simp] theorem ag35 : aggOf Go.Proofs.Try.prog 35 = some true := by rfl
@[simp] theorem u43 : Go.Program.underlying Go.Proofs.Try.prog 43 = some (Go.TypeDesc.struct #[{ name := "l", type := 24, offset := 0, embedded := false, tag := "", pkgPath := "retrospect/keep", byteOffset := 0 }]) := by rfl
@[simp] theorem sz43 : szOf Go.Proofs.Try.prog 43 = some 1 := by rfl
@[simp] theorem by43 : byOf Go.Proofs.Try.prog 43 = some 24 := by rfl
@[simp] theorem ze43 : zeroOf Go.Proofs.Try.prog 43 = some [PV.nilS] := by rfl
@[simp] theorem ag43 : aggOf Go.Proofs.Try.prog 43 = some true := by rfl
@[simp] theorem u44 : Go.Program.underlying Go.Proofs.Try.prog 44 = some (Go.TypeDesc.struct #[{ name := "l", type := 24, offset := 0, embedded := false, tag := "", pkgPath := "retrospect/keep", byteOffset := 0 }]) := by rfl
@[simp] theorem sz44 : szOf Go.Proofs.Try.prog 44 = some 1 := by rfl
@[simp] theorem by44 : byOf Go.Proofs.Try.prog 44 = some 24 := by rfl
@[simp] theorem ze44 : zeroOf Go.Proofs.Try.prog 44 = some [PV.nilS] := by rfl
@[simp] theorem ag44 : aggOf Go.Proofs.Try.prog 44 = some true := by rfl
theorem mixed : Go.Proofs.Try.prog.follows .mixedOrders = true := by rfl
end Go.Proofs.YtabofinagjdljaaE
