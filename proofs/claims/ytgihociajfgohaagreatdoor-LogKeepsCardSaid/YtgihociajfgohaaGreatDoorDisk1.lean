/- Log: types and functions as the program has them; what begins an operation of a disk; changes; no condition. -/
import Derived.Test.YtgihociajfgohaaGreatDoorHeap6
import Derived.Test.YtgihociajfgohaaGreatDoorProg
set_option linter.unusedSimpArgs false
set_option linter.unusedVariables false
open Go Go.AB Go.Proofs
namespace Go.Proofs.YtgihociajfgohaaGreatDoor
noncomputable def tC : Ctx := mkCtx Tryz.prog
theorem tOK : tC.OK := mkCtx_ok Tryz.prog (by kernel_rfl)
theorem tCodes : CodesOK tC := codesOK_of (by kernel_rfl)
theorem fn5 : tC.fn 5 = some Tryz.f5 := by kernel_rfl
theorem fn8 : tC.fn 8 = some Tryz.f8 := by kernel_rfl
theorem ok8 : fnOk Tryz.f8 = true := by kernel_rfl
theorem fn9 : tC.fn 9 = some Tryz.f9 := by kernel_rfl
theorem ok9 : fnOk Tryz.f9 = true := by kernel_rfl
theorem fn10 : tC.fn 10 = some Tryz.f10 := by kernel_rfl
theorem ok10 : fnOk Tryz.f10 = true := by kernel_rfl
theorem fn14 : tC.fn 14 = some Tryz.f14 := by kernel_rfl
theorem ok14 : fnOk Tryz.f14 = true := by kernel_rfl
theorem fn17 : tC.fn 17 = some Tryz.f17 := by kernel_rfl
theorem ok17 : fnOk Tryz.f17 = true := by kernel_rfl
theorem fn18 : tC.fn 18 = some Tryz.f18 := by kernel_rfl
theorem ok18 : fnOk Tryz.f18 = true := by kernel_rfl
theorem fn19 : tC.fn 19 = some Tryz.f19 := by kernel_rfl
theorem ok19 : fnOk Tryz.f19 = true := by kernel_rfl
theorem fn20 : tC.fn 20 = some Tryz.f20 := by kernel_rfl
theorem ok20 : fnOk Tryz.f20 = true := by kernel_rfl
theorem fn21 : tC.fn 21 = some Tryz.f21 := by kernel_rfl
theorem ok21 : fnOk Tryz.f21 = true := by kernel_rfl
theorem fn22 : tC.fn 22 = some Tryz.f22 := by kernel_rfl
theorem ok22 : fnOk Tryz.f22 = true := by kernel_rfl
theorem fn23 : tC.fn 23 = some Tryz.f23 := by kernel_rfl
theorem ok23 : fnOk Tryz.f23 = true := by kernel_rfl
theorem fn24 : tC.fn 24 = some Tryz.f24 := by kernel_rfl
theorem ok24 : fnOk Tryz.f24 = true := by kernel_rfl
theorem fn25 : tC.fn 25 = some Tryz.f25 := by kernel_rfl
theorem ok25 : fnOk Tryz.f25 = true := by kernel_rfl
theorem fn26 : tC.fn 26 = some Tryz.f26 := by kernel_rfl
theorem ok26 : fnOk Tryz.f26 = true := by kernel_rfl
theorem fn32 : tC.fn 32 = some Tryz.f32 := by kernel_rfl
theorem ok32 : fnOk Tryz.f32 = true := by kernel_rfl
theorem fn35 : tC.fn 35 = some Tryz.f35 := by kernel_rfl
theorem ok35 : fnOk Tryz.f35 = true := by kernel_rfl
theorem fn37 : tC.fn 37 = some Tryz.f37 := by kernel_rfl
theorem ok37 : fnOk Tryz.f37 = true := by kernel_rfl
theorem fn38 : tC.fn 38 = some Tryz.f38 := by kernel_rfl
theorem ok38 : fnOk Tryz.f38 = true := by kernel_rfl
theorem fn39 : tC.fn 39 = some Tryz.f39 := by kernel_rfl
theorem ok39 : fnOk Tryz.f39 = true := by kernel_rfl
theorem fn40 : tC.fn 40 = some Tryz.f40 := by kernel_rfl
theorem ok40 : fnOk Tryz.f40 = true := by kernel_rfl
theorem fn43 : tC.fn 43 = some Tryz.f43 := by kernel_rfl
theorem ok43 : fnOk Tryz.f43 = true := by kernel_rfl
theorem fn45 : tC.fn 45 = some Tryz.f45 := by kernel_rfl
theorem ok45 : fnOk Tryz.f45 = true := by kernel_rfl
theorem fn46 : tC.fn 46 = some Tryz.f46 := by kernel_rfl
theorem ok46 : fnOk Tryz.f46 = true := by kernel_rfl
theorem fn47 : tC.fn 47 = some Tryz.f47 := by kernel_rfl
theorem ok47 : fnOk Tryz.f47 = true := by kernel_rfl
theorem fn48 : tC.fn 48 = some Tryz.f48 := by kernel_rfl
theorem ok48 : fnOk Tryz.f48 = true := by kernel_rfl
theorem fn49 : tC.fn 49 = some Tryz.f49 := by kernel_rfl
theorem ok49 : fnOk Tryz.f49 = true := by kernel_rfl
theorem fn50 : tC.fn 50 = some Tryz.f50 := by kernel_rfl
theorem ok50 : fnOk Tryz.f50 = true := by kernel_rfl
theorem fn51 : tC.fn 51 = some Tryz.f51 := by kernel_rfl
theorem ok51 : fnOk Tryz.f51 = true := by kernel_rfl
theorem fn52 : tC.fn 52 = some Tryz.f52 := by kernel_rfl
theorem ok52 : fnOk Tryz.f52 = true := by kernel_rfl
theorem fn53 : tC.fn 53 = some Tryz.f53 := by kernel_rfl
theorem ok53 : fnOk Tryz.f53 = true := by kernel_rfl
theorem fn54 : tC.fn 54 = some Tryz.f54 := by kernel_rfl
theorem ok54 : fnOk Tryz.f54 = true := by kernel_rfl
theorem fn55 : tC.fn 55 = some Tryz.f55 := by kernel_rfl
theorem ok55 : fnOk Tryz.f55 = true := by kernel_rfl
theorem fn62 : tC.fn 62 = some Tryz.f62 := by kernel_rfl
theorem ok62 : fnOk Tryz.f62 = true := by kernel_rfl
theorem fn63 : tC.fn 63 = some Tryz.f63 := by kernel_rfl
theorem ok63 : fnOk Tryz.f63 = true := by kernel_rfl
theorem fn64 : tC.fn 64 = some Tryz.f64 := by kernel_rfl
theorem ok64 : fnOk Tryz.f64 = true := by kernel_rfl
theorem fn65 : tC.fn 65 = some Tryz.f65 := by kernel_rfl
theorem ok65 : fnOk Tryz.f65 = true := by kernel_rfl
theorem fn66 : tC.fn 66 = some Tryz.f66 := by kernel_rfl
theorem ok66 : fnOk Tryz.f66 = true := by kernel_rfl
theorem fn67 : tC.fn 67 = some Tryz.f67 := by kernel_rfl
theorem ok67 : fnOk Tryz.f67 = true := by kernel_rfl
theorem fn68 : tC.fn 68 = some Tryz.f68 := by kernel_rfl
theorem ok68 : fnOk Tryz.f68 = true := by kernel_rfl
theorem fn69 : tC.fn 69 = some Tryz.f69 := by kernel_rfl
theorem ok69 : fnOk Tryz.f69 = true := by kernel_rfl
theorem fn70 : tC.fn 70 = some Tryz.f70 := by kernel_rfl
theorem ok70 : fnOk Tryz.f70 = true := by kernel_rfl
theorem fn71 : tC.fn 71 = some Tryz.f71 := by kernel_rfl
theorem ok71 : fnOk Tryz.f71 = true := by kernel_rfl
theorem fn72 : tC.fn 72 = some Tryz.f72 := by kernel_rfl
theorem ok72 : fnOk Tryz.f72 = true := by kernel_rfl
theorem fn73 : tC.fn 73 = some Tryz.f73 := by kernel_rfl
theorem ok73 : fnOk Tryz.f73 = true := by kernel_rfl
theorem fn74 : tC.fn 74 = some Tryz.f74 := by kernel_rfl
theorem ok74 : fnOk Tryz.f74 = true := by kernel_rfl
theorem fn77 : tC.fn 77 = some Tryz.f77 := by kernel_rfl
theorem ok77 : fnOk Tryz.f77 = true := by kernel_rfl
theorem fn78 : tC.fn 78 = some Tryz.f78 := by kernel_rfl
theorem ok78 : fnOk Tryz.f78 = true := by kernel_rfl
theorem fn79 : tC.fn 79 = some Tryz.f79 := by kernel_rfl
theorem ok79 : fnOk Tryz.f79 = true := by kernel_rfl
theorem fn80 : tC.fn 80 = some Tryz.f80 := by kernel_rfl
theorem ok80 : fnOk Tryz.f80 = true := by kernel_rfl
theorem fn93 : tC.fn 93 = some Tryz.f93 := by kernel_rfl
theorem ok93 : fnOk Tryz.f93 = true := by kernel_rfl
theorem fn94 : tC.fn 94 = some Tryz.f94 := by kernel_rfl
theorem ok94 : fnOk Tryz.f94 = true := by kernel_rfl
theorem fn95 : tC.fn 95 = some Tryz.f95 := by kernel_rfl
theorem ok95 : fnOk Tryz.f95 = true := by kernel_rfl
theorem fn96 : tC.fn 96 = some Tryz.f96 := by kernel_rfl
theorem ok96 : fnOk Tryz.f96 = true := by kernel_rfl
theorem fn97 : tC.fn 97 = some Tryz.f97 := by kernel_rfl
theorem ok97 : fnOk Tryz.f97 = true := by kernel_rfl
theorem fn98 : tC.fn 98 = some Tryz.f98 := by kernel_rfl
theorem ok98 : fnOk Tryz.f98 = true := by kernel_rfl
theorem fn99 : tC.fn 99 = some Tryz.f99 := by kernel_rfl
theorem ok99 : fnOk Tryz.f99 = true := by kernel_rfl
theorem fn100 : tC.fn 100 = some Tryz.f100 := by kernel_rfl
theorem ok100 : fnOk Tryz.f100 = true := by kernel_rfl
theorem fn101 : tC.fn 101 = some Tryz.f101 := by kernel_rfl
theorem ok101 : fnOk Tryz.f101 = true := by kernel_rfl
theorem fn113 : tC.fn 113 = some Tryz.f113 := by kernel_rfl
theorem ok113 : fnOk Tryz.f113 = true := by kernel_rfl
theorem ti3 : tC.ti 3 = some ⟨.int Go.IntKind.i64, 1, 8, (some (.int Go.IntKind.i64 (.ofNat 0))), true⟩ := by kernel_rfl
theorem ti4 : tC.ti 4 = some ⟨.bool, 1, 1, (some (.bool false)), true⟩ := by kernel_rfl
theorem ti5 : tC.ti 5 = some ⟨.int Go.IntKind.u8, 1, 1, (some (.int Go.IntKind.u8 (.ofNat 0))), true⟩ := by kernel_rfl
theorem ti9 : tC.ti 9 = some ⟨.string, 1, 16, (some (.str [])), true⟩ := by kernel_rfl
theorem ti20 : tC.ti 20 = some ⟨.interface #[], 1, 16, (some (.nili)), true⟩ := by kernel_rfl
theorem ti21 : tC.ti 21 = some ⟨.int Go.IntKind.i32, 1, 4, (some (.int Go.IntKind.i32 (.ofNat 0))), true⟩ := by kernel_rfl
theorem ti24 : tC.ti 24 = some ⟨.int Go.IntKind.i64, 1, 8, (some (.int Go.IntKind.i64 (.ofNat 0))), true⟩ := by kernel_rfl
theorem ti27 : tC.ti 27 = some ⟨.pointer 65, 1, 8, (some (.nilp)), true⟩ := by kernel_rfl
theorem ti28 : tC.ti 28 = some ⟨.slice 32, 1, 24, (some (.nils)), true⟩ := by kernel_rfl
theorem ti32 : tC.ti 32 = some ⟨.slice 5, 1, 24, (some (.nils)), true⟩ := by kernel_rfl
theorem ti37 : tC.ti 37 = some ⟨.slice 9, 1, 24, (some (.nils)), true⟩ := by kernel_rfl
theorem ti40 : tC.ti 40 = some ⟨.slice 3, 1, 24, (some (.nils)), true⟩ := by kernel_rfl
theorem ti42 : tC.ti 42 = some ⟨.pointer 75, 1, 8, (some (.nilp)), true⟩ := by kernel_rfl
theorem ti47 : tC.ti 47 = some ⟨.func #[] #[24] false, 1, 8, (some (.nilf)), true⟩ := by kernel_rfl
theorem ti57 : tC.ti 57 = some ⟨.interface #[("Error", 169)], 1, 16, (some (.nili)), false⟩ := by kernel_rfl
theorem ti60 : tC.ti 60 = some ⟨.func #[9] #[4] false, 1, 8, (some (.nilf)), true⟩ := by kernel_rfl
theorem ti63 : tC.ti 63 = some ⟨.struct #[{ name := "e", type := 24, offset := 0, embedded := false, tag := "", pkgPath := "waterwheel/log", byteOffset := 0 }], 1, 8, (some (.agg [.int Go.IntKind.i64 (.ofNat 0)])), true⟩ := by kernel_rfl
theorem ti65 : tC.ti 65 = some ⟨.struct #[{ name := "spoilt", type := 63, offset := 0, embedded := true, tag := "", pkgPath := "waterwheel/log", byteOffset := 0 }, { name := "d", type := 42, offset := 1, embedded := false, tag := "", pkgPath := "waterwheel/log", byteOffset := 8 }, { name := "name", type := 9, offset := 2, embedded := false, tag := "", pkgPath := "waterwheel/log", byteOffset := 16 }, { name := "gen", type := 3, offset := 3, embedded := false, tag := "", pkgPath := "waterwheel/log", byteOffset := 32 }, { name := "size", type := 3, offset := 4, embedded := false, tag := "", pkgPath := "waterwheel/log", byteOffset := 40 }, { name := "n", type := 3, offset := 5, embedded := false, tag := "", pkgPath := "waterwheel/log", byteOffset := 48 }], 6, 56, (some (.agg [.int Go.IntKind.i64 (.ofNat 0), .nilp, .str [], .int Go.IntKind.i64 (.ofNat 0), .int Go.IntKind.i64 (.ofNat 0), .int Go.IntKind.i64 (.ofNat 0)])), true⟩ := by kernel_rfl
theorem ti72 : tC.ti 72 = some ⟨.map 9 85, 1, 8, (some (.nilm)), true⟩ := by kernel_rfl
theorem ti73 : tC.ti 73 = some ⟨.slice 104, 1, 24, (some (.nils)), true⟩ := by kernel_rfl
theorem ti75 : tC.ti 75 = some ⟨.struct #[{ name := "room", type := 3, offset := 0, embedded := false, tag := "", pkgPath := "waterwheel/files", byteOffset := 0 }, { name := "now", type := 72, offset := 1, embedded := false, tag := "", pkgPath := "waterwheel/files", byteOffset := 8 }, { name := "safe", type := 72, offset := 2, embedded := false, tag := "", pkgPath := "waterwheel/files", byteOffset := 16 }, { name := "changes", type := 73, offset := 3, embedded := false, tag := "", pkgPath := "waterwheel/files", byteOffset := 24 }, { name := "fuse", type := 3, offset := 4, embedded := false, tag := "", pkgPath := "waterwheel/files", byteOffset := 48 }, { name := "off", type := 4, offset := 5, embedded := false, tag := "", pkgPath := "waterwheel/files", byteOffset := 56 }], 6, 64, (some (.agg [.int Go.IntKind.i64 (.ofNat 0), .nilm, .nilm, .nils, .int Go.IntKind.i64 (.ofNat 0), .bool false])), true⟩ := by kernel_rfl
theorem ti83 : tC.ti 83 = some ⟨.func #[60] #[] false, 1, 8, (some (.nilf)), true⟩ := by kernel_rfl
theorem ti85 : tC.ti 85 = some ⟨.pointer 87, 1, 8, (some (.nilp)), true⟩ := by kernel_rfl
theorem ti87 : tC.ti 87 = some ⟨.struct #[{ name := "b", type := 32, offset := 0, embedded := false, tag := "", pkgPath := "waterwheel/files", byteOffset := 0 }, { name := "safe", type := 3, offset := 1, embedded := false, tag := "", pkgPath := "waterwheel/files", byteOffset := 24 }], 2, 32, (some (.agg [.nils, .int Go.IntKind.i64 (.ofNat 0)])), true⟩ := by kernel_rfl
theorem ti91 : tC.ti 91 = some ⟨.func #[21] #[4] false, 1, 8, (some (.nilf)), true⟩ := by kernel_rfl
theorem ti96 : tC.ti 96 = some ⟨.int Go.IntKind.u32, 1, 4, (some (.int Go.IntKind.u32 (.ofNat 0))), true⟩ := by kernel_rfl
theorem ti104 : tC.ti 104 = some ⟨.func #[72] #[] false, 1, 8, (some (.nilf)), true⟩ := by kernel_rfl
theorem ti116 : tC.ti 116 = some ⟨.slice 47, 1, 24, (some (.nils)), true⟩ := by kernel_rfl
theorem ti118 : tC.ti 118 = some ⟨.int Go.IntKind.u64, 1, 8, (some (.int Go.IntKind.u64 (.ofNat 0))), true⟩ := by kernel_rfl
theorem ti119 : tC.ti 119 = some ⟨.array 256 96, 256, 1024, (some (.agg [.int Go.IntKind.u32 (.ofNat 0), .int Go.IntKind.u32 (.ofNat 0), .int Go.IntKind.u32 (.ofNat 0), .int Go.IntKind.u32 (.ofNat 0), .int Go.IntKind.u32 (.ofNat 0), .int Go.IntKind.u32 (.ofNat 0), .int Go.IntKind.u32 (.ofNat 0), .int Go.IntKind.u32 (.ofNat 0), .int Go.IntKind.u32 (.ofNat 0), .int Go.IntKind.u32 (.ofNat 0), .int Go.IntKind.u32 (.ofNat 0), .int Go.IntKind.u32 (.ofNat 0), .int Go.IntKind.u32 (.ofNat 0), .int Go.IntKind.u32 (.ofNat 0), .int Go.IntKind.u32 (.ofNat 0), .int Go.IntKind.u32 (.ofNat 0), .int Go.IntKind.u32 (.ofNat 0), .int Go.IntKind.u32 (.ofNat 0), .int Go.IntKind.u32 (.ofNat 0), .int Go.IntKind.u32 (.ofNat 0), .int Go.IntKind.u32 (.ofNat 0), .int Go.IntKind.u32 (.ofNat 0), .int Go.IntKind.u32 (.ofNat 0), .int Go.IntKind.u32 (.ofNat 0), .int Go.IntKind.u32 (.ofNat 0), .int Go.IntKind.u32 (.ofNat 0), .int Go.IntKind.u32 (.ofNat 0), .int Go.IntKind.u32 (.ofNat 0), .int Go.IntKind.u32 (.ofNat 0), .int Go.IntKind.u32 (.ofNat 0), .int Go.IntKind.u32 (.ofNat 0), .int Go.IntKind.u32 (.ofNat 0), .int Go.IntKind.u32 (.ofNat 0), .int Go.IntKind.u32 (.ofNat 0), .int Go.IntKind.u32 (.ofNat 0), .int Go.IntKind.u32 (.ofNat 0), .int Go.IntKind.u32 (.ofNat 0), .int Go.IntKind.u32 (.ofNat 0), .int Go.IntKind.u32 (.ofNat 0), .int Go.IntKind.u32 (.ofNat 0), .int Go.IntKind.u32 (.ofNat 0), .int Go.IntKind.u32 (.ofNat 0), .int Go.IntKind.u32 (.ofNat 0), .int Go.IntKind.u32 (.ofNat 0), .int Go.IntKind.u32 (.ofNat 0), .int Go.IntKind.u32 (.ofNat 0), .int Go.IntKind.u32 (.ofNat 0), .int Go.IntKind.u32 (.ofNat 0), .int Go.IntKind.u32 (.ofNat 0), .int Go.IntKind.u32 (.ofNat 0), .int Go.IntKind.u32 (.ofNat 0), .int Go.IntKind.u32 (.ofNat 0), .int Go.IntKind.u32 (.ofNat 0), .int Go.IntKind.u32 (.ofNat 0), .int Go.IntKind.u32 (.ofNat 0), .int Go.IntKind.u32 (.ofNat 0), .int Go.IntKind.u32 (.ofNat 0), .int Go.IntKind.u32 (.ofNat 0), .int Go.IntKind.u32 (.ofNat 0), .int Go.IntKind.u32 (.ofNat 0), .int Go.IntKind.u32 (.ofNat 0), .int Go.IntKind.u32 (.ofNat 0), .int Go.IntKind.u32 (.ofNat 0), .int Go.IntKind.u32 (.ofNat 0), .int Go.IntKind.u32 (.ofNat 0), .int Go.IntKind.u32 (.ofNat 0), .int Go.IntKind.u32 (.ofNat 0), .int Go.IntKind.u32 (.ofNat 0), .int Go.IntKind.u32 (.ofNat 0), .int Go.IntKind.u32 (.ofNat 0), .int Go.IntKind.u32 (.ofNat 0), .int Go.IntKind.u32 (.ofNat 0), .int Go.IntKind.u32 (.ofNat 0), .int Go.IntKind.u32 (.ofNat 0), .int Go.IntKind.u32 (.ofNat 0), .int Go.IntKind.u32 (.ofNat 0), .int Go.IntKind.u32 (.ofNat 0), .int Go.IntKind.u32 (.ofNat 0), .int Go.IntKind.u32 (.ofNat 0), .int Go.IntKind.u32 (.ofNat 0), .int Go.IntKind.u32 (.ofNat 0), .int Go.IntKind.u32 (.ofNat 0), .int Go.IntKind.u32 (.ofNat 0), .int Go.IntKind.u32 (.ofNat 0), .int Go.IntKind.u32 (.ofNat 0), .int Go.IntKind.u32 (.ofNat 0), .int Go.IntKind.u32 (.ofNat 0), .int Go.IntKind.u32 (.ofNat 0), .int Go.IntKind.u32 (.ofNat 0), .int Go.IntKind.u32 (.ofNat 0), .int Go.IntKind.u32 (.ofNat 0), .int Go.IntKind.u32 (.ofNat 0), .int Go.IntKind.u32 (.ofNat 0), .int Go.IntKind.u32 (.ofNat 0), .int Go.IntKind.u32 (.ofNat 0), .int Go.IntKind.u32 (.ofNat 0), .int Go.IntKind.u32 (.ofNat 0), .int Go.IntKind.u32 (.ofNat 0), .int Go.IntKind.u32 (.ofNat 0), .int Go.IntKind.u32 (.ofNat 0), .int Go.IntKind.u32 (.ofNat 0), .int Go.IntKind.u32 (.ofNat 0), .int Go.IntKind.u32 (.ofNat 0), .int Go.IntKind.u32 (.ofNat 0), .int Go.IntKind.u32 (.ofNat 0), .int Go.IntKind.u32 (.ofNat 0), .int Go.IntKind.u32 (.ofNat 0), .int Go.IntKind.u32 (.ofNat 0), .int Go.IntKind.u32 (.ofNat 0), .int Go.IntKind.u32 (.ofNat 0), .int Go.IntKind.u32 (.ofNat 0), .int Go.IntKind.u32 (.ofNat 0), .int Go.IntKind.u32 (.ofNat 0), .int Go.IntKind.u32 (.ofNat 0), .int Go.IntKind.u32 (.ofNat 0), .int Go.IntKind.u32 (.ofNat 0), .int Go.IntKind.u32 (.ofNat 0), .int Go.IntKind.u32 (.ofNat 0), .int Go.IntKind.u32 (.ofNat 0), .int Go.IntKind.u32 (.ofNat 0), .int Go.IntKind.u32 (.ofNat 0), .int Go.IntKind.u32 (.ofNat 0), .int Go.IntKind.u32 (.ofNat 0), .int Go.IntKind.u32 (.ofNat 0), .int Go.IntKind.u32 (.ofNat 0), .int Go.IntKind.u32 (.ofNat 0), .int Go.IntKind.u32 (.ofNat 0), .int Go.IntKind.u32 (.ofNat 0), .int Go.IntKind.u32 (.ofNat 0), .int Go.IntKind.u32 (.ofNat 0), .int Go.IntKind.u32 (.ofNat 0), .int Go.IntKind.u32 (.ofNat 0), .int Go.IntKind.u32 (.ofNat 0), .int Go.IntKind.u32 (.ofNat 0), .int Go.IntKind.u32 (.ofNat 0), .int Go.IntKind.u32 (.ofNat 0), .int Go.IntKind.u32 (.ofNat 0), .int Go.IntKind.u32 (.ofNat 0), .int Go.IntKind.u32 (.ofNat 0), .int Go.IntKind.u32 (.ofNat 0), .int Go.IntKind.u32 (.ofNat 0), .int Go.IntKind.u32 (.ofNat 0), .int Go.IntKind.u32 (.ofNat 0), .int Go.IntKind.u32 (.ofNat 0), .int Go.IntKind.u32 (.ofNat 0), .int Go.IntKind.u32 (.ofNat 0), .int Go.IntKind.u32 (.ofNat 0), .int Go.IntKind.u32 (.ofNat 0), .int Go.IntKind.u32 (.ofNat 0), .int Go.IntKind.u32 (.ofNat 0), .int Go.IntKind.u32 (.ofNat 0), .int Go.IntKind.u32 (.ofNat 0), .int Go.IntKind.u32 (.ofNat 0), .int Go.IntKind.u32 (.ofNat 0), .int Go.IntKind.u32 (.ofNat 0), .int Go.IntKind.u32 (.ofNat 0), .int Go.IntKind.u32 (.ofNat 0), .int Go.IntKind.u32 (.ofNat 0), .int Go.IntKind.u32 (.ofNat 0), .int Go.IntKind.u32 (.ofNat 0), .int Go.IntKind.u32 (.ofNat 0), .int Go.IntKind.u32 (.ofNat 0), .int Go.IntKind.u32 (.ofNat 0), .int Go.IntKind.u32 (.ofNat 0), .int Go.IntKind.u32 (.ofNat 0), .int Go.IntKind.u32 (.ofNat 0), .int Go.IntKind.u32 (.ofNat 0), .int Go.IntKind.u32 (.ofNat 0), .int Go.IntKind.u32 (.ofNat 0), .int Go.IntKind.u32 (.ofNat 0), .int Go.IntKind.u32 (.ofNat 0), .int Go.IntKind.u32 (.ofNat 0), .int Go.IntKind.u32 (.ofNat 0), .int Go.IntKind.u32 (.ofNat 0), .int Go.IntKind.u32 (.ofNat 0), .int Go.IntKind.u32 (.ofNat 0), .int Go.IntKind.u32 (.ofNat 0), .int Go.IntKind.u32 (.ofNat 0), .int Go.IntKind.u32 (.ofNat 0), .int Go.IntKind.u32 (.ofNat 0), .int Go.IntKind.u32 (.ofNat 0), .int Go.IntKind.u32 (.ofNat 0), .int Go.IntKind.u32 (.ofNat 0), .int Go.IntKind.u32 (.ofNat 0), .int Go.IntKind.u32 (.ofNat 0), .int Go.IntKind.u32 (.ofNat 0), .int Go.IntKind.u32 (.ofNat 0), .int Go.IntKind.u32 (.ofNat 0), .int Go.IntKind.u32 (.ofNat 0), .int Go.IntKind.u32 (.ofNat 0), .int Go.IntKind.u32 (.ofNat 0), .int Go.IntKind.u32 (.ofNat 0), .int Go.IntKind.u32 (.ofNat 0), .int Go.IntKind.u32 (.ofNat 0), .int Go.IntKind.u32 (.ofNat 0), .int Go.IntKind.u32 (.ofNat 0), .int Go.IntKind.u32 (.ofNat 0), .int Go.IntKind.u32 (.ofNat 0), .int Go.IntKind.u32 (.ofNat 0), .int Go.IntKind.u32 (.ofNat 0), .int Go.IntKind.u32 (.ofNat 0), .int Go.IntKind.u32 (.ofNat 0), .int Go.IntKind.u32 (.ofNat 0), .int Go.IntKind.u32 (.ofNat 0), .int Go.IntKind.u32 (.ofNat 0), .int Go.IntKind.u32 (.ofNat 0), .int Go.IntKind.u32 (.ofNat 0), .int Go.IntKind.u32 (.ofNat 0), .int Go.IntKind.u32 (.ofNat 0), .int Go.IntKind.u32 (.ofNat 0), .int Go.IntKind.u32 (.ofNat 0), .int Go.IntKind.u32 (.ofNat 0), .int Go.IntKind.u32 (.ofNat 0), .int Go.IntKind.u32 (.ofNat 0), .int Go.IntKind.u32 (.ofNat 0), .int Go.IntKind.u32 (.ofNat 0), .int Go.IntKind.u32 (.ofNat 0), .int Go.IntKind.u32 (.ofNat 0), .int Go.IntKind.u32 (.ofNat 0), .int Go.IntKind.u32 (.ofNat 0), .int Go.IntKind.u32 (.ofNat 0), .int Go.IntKind.u32 (.ofNat 0), .int Go.IntKind.u32 (.ofNat 0), .int Go.IntKind.u32 (.ofNat 0), .int Go.IntKind.u32 (.ofNat 0), .int Go.IntKind.u32 (.ofNat 0), .int Go.IntKind.u32 (.ofNat 0), .int Go.IntKind.u32 (.ofNat 0), .int Go.IntKind.u32 (.ofNat 0), .int Go.IntKind.u32 (.ofNat 0), .int Go.IntKind.u32 (.ofNat 0), .int Go.IntKind.u32 (.ofNat 0), .int Go.IntKind.u32 (.ofNat 0), .int Go.IntKind.u32 (.ofNat 0), .int Go.IntKind.u32 (.ofNat 0), .int Go.IntKind.u32 (.ofNat 0), .int Go.IntKind.u32 (.ofNat 0), .int Go.IntKind.u32 (.ofNat 0), .int Go.IntKind.u32 (.ofNat 0), .int Go.IntKind.u32 (.ofNat 0), .int Go.IntKind.u32 (.ofNat 0), .int Go.IntKind.u32 (.ofNat 0), .int Go.IntKind.u32 (.ofNat 0), .int Go.IntKind.u32 (.ofNat 0), .int Go.IntKind.u32 (.ofNat 0), .int Go.IntKind.u32 (.ofNat 0), .int Go.IntKind.u32 (.ofNat 0), .int Go.IntKind.u32 (.ofNat 0), .int Go.IntKind.u32 (.ofNat 0), .int Go.IntKind.u32 (.ofNat 0), .int Go.IntKind.u32 (.ofNat 0), .int Go.IntKind.u32 (.ofNat 0), .int Go.IntKind.u32 (.ofNat 0), .int Go.IntKind.u32 (.ofNat 0), .int Go.IntKind.u32 (.ofNat 0), .int Go.IntKind.u32 (.ofNat 0)])), true⟩ := by kernel_rfl
theorem ld3 (H : AH) (b k : Nat) : aload tC H 3 (.ptr b k) = cellAt H b k := aload_one ti3 rfl
theorem st3 (H : AH) (b o : Nat) (v : AV) (hv : v.one = true) : astore tC H 3 (.ptr b o) v = storeAt H b o v := astore_one ti3 rfl H b o v hv
theorem ld4 (H : AH) (b k : Nat) : aload tC H 4 (.ptr b k) = cellAt H b k := aload_one ti4 rfl
theorem st4 (H : AH) (b o : Nat) (v : AV) (hv : v.one = true) : astore tC H 4 (.ptr b o) v = storeAt H b o v := astore_one ti4 rfl H b o v hv
theorem ld5 (H : AH) (b k : Nat) : aload tC H 5 (.ptr b k) = cellAt H b k := aload_one ti5 rfl
theorem st5 (H : AH) (b o : Nat) (v : AV) (hv : v.one = true) : astore tC H 5 (.ptr b o) v = storeAt H b o v := astore_one ti5 rfl H b o v hv
theorem al9 (s : List UInt8) : alen tC 9 (.str s) = some (.int .i64 (s.length : Int)) := alen_str ti9 rfl
theorem ld9 (H : AH) (b k : Nat) : aload tC H 9 (.ptr b k) = cellAt H b k := aload_one ti9 rfl
theorem st9 (H : AH) (b o : Nat) (v : AV) (hv : v.one = true) : astore tC H 9 (.ptr b o) v = storeAt H b o v := astore_one ti9 rfl H b o v hv
theorem ld20 (H : AH) (b k : Nat) : aload tC H 20 (.ptr b k) = cellAt H b k := aload_one ti20 rfl
theorem st20 (H : AH) (b o : Nat) (v : AV) (hv : v.one = true) : astore tC H 20 (.ptr b o) v = storeAt H b o v := astore_one ti20 rfl H b o v hv
theorem ld21 (H : AH) (b k : Nat) : aload tC H 21 (.ptr b k) = cellAt H b k := aload_one ti21 rfl
theorem st21 (H : AH) (b o : Nat) (v : AV) (hv : v.one = true) : astore tC H 21 (.ptr b o) v = storeAt H b o v := astore_one ti21 rfl H b o v hv
theorem ld24 (H : AH) (b k : Nat) : aload tC H 24 (.ptr b k) = cellAt H b k := aload_one ti24 rfl
theorem st24 (H : AH) (b o : Nat) (v : AV) (hv : v.one = true) : astore tC H 24 (.ptr b o) v = storeAt H b o v := astore_one ti24 rfl H b o v hv
theorem ld27 (H : AH) (b k : Nat) : aload tC H 27 (.ptr b k) = cellAt H b k := aload_one ti27 rfl
theorem eq27a (cst : Bool) (b o : Nat) : abin tC .eql 27 cst (.ptr b o) .nilp = some (.bool false) := by simp only [abin, eqRes, aeq, ti27, Option.map_some, Bool.not_false, Bool.not_true]
theorem ne27a (cst : Bool) (b o : Nat) : abin tC .neq 27 cst (.ptr b o) .nilp = some (.bool true) := by simp only [abin, eqRes, aeq, ti27, Option.map_some, Bool.not_false, Bool.not_true]
theorem eq27b (cst : Bool)  : abin tC .eql 27 cst .nilp .nilp = some (.bool true) := by simp only [abin, eqRes, aeq, ti27, Option.map_some, Bool.not_false, Bool.not_true]
theorem ne27b (cst : Bool)  : abin tC .neq 27 cst .nilp .nilp = some (.bool false) := by simp only [abin, eqRes, aeq, ti27, Option.map_some, Bool.not_false, Bool.not_true]
theorem st27 (H : AH) (b o : Nat) (v : AV) (hv : v.one = true) : astore tC H 27 (.ptr b o) v = storeAt H b o v := astore_one ti27 rfl H b o v hv
theorem al28 (x : AV) : alen tC 28 x = (lenOfAV x).map fun n => .int .i64 (n : Int) := alen_sliceM ti28 rfl x
theorem ix28 (b o len z m : Nat) (cap : ACap) (k : IntKind) (hm : m < len) : aindexAddr tC 28 (.slice b o len cap z) (.int k (m : Int)) = some (.ptr b (o + m * 1)) := aindexAddr_slice ti28 rfl ti32 hm
theorem bs28 (F : Fns) (H : AH) (ev : Operand → AV) (dst : Option Tmp) (ty : TypeId) (pos : String) (after : Array Edge) (guard : Option (Nat × Bool)) : evOp tC F H ev { dst, op := .buildSlice 28 0 ⟨[]⟩, type := ty, pos, after, guard } = some (.slice H.next 0 0 (.ex 0) 1, H.alloc (.cells false [])) := evOp_buildSlice0 ti28 rfl ti32
theorem ld28 (H : AH) (b k : Nat) : aload tC H 28 (.ptr b k) = cellAt H b k := aload_one ti28 rfl
theorem eq28a (cst : Bool) (b o n z : Nat) (c : ACap) : abin tC .eql 28 cst (.slice b o n c z) .nils = some (.bool false) := by simp only [abin, eqRes, aeq, ti28, Option.map_some, Bool.not_false, Bool.not_true]
theorem ne28a (cst : Bool) (b o n z : Nat) (c : ACap) : abin tC .neq 28 cst (.slice b o n c z) .nils = some (.bool true) := by simp only [abin, eqRes, aeq, ti28, Option.map_some, Bool.not_false, Bool.not_true]
theorem eq28b (cst : Bool)  : abin tC .eql 28 cst .nils .nils = some (.bool true) := by simp only [abin, eqRes, aeq, ti28, Option.map_some, Bool.not_false, Bool.not_true]
theorem ne28b (cst : Bool)  : abin tC .neq 28 cst .nils .nils = some (.bool false) := by simp only [abin, eqRes, aeq, ti28, Option.map_some, Bool.not_false, Bool.not_true]
theorem eq28c (cst : Bool) (b : Nat) : abin tC .eql 28 cst (.empty b) .nils = some (.bool false) := by simp only [abin, eqRes, aeq, ti28, Option.map_some, Bool.not_false, Bool.not_true]
theorem ne28c (cst : Bool) (b : Nat) : abin tC .neq 28 cst (.empty b) .nils = some (.bool true) := by simp only [abin, eqRes, aeq, ti28, Option.map_some, Bool.not_false, Bool.not_true]
theorem st28 (H : AH) (b o : Nat) (v : AV) (hv : v.one = true) : astore tC H 28 (.ptr b o) v = storeAt H b o v := astore_one ti28 rfl H b o v hv
theorem al32 (x : AV) : alen tC 32 x = (lenOfAV x).map fun n => .int .i64 (n : Int) := alen_sliceM ti32 rfl x
theorem ix32 (b o len z m : Nat) (cap : ACap) (k : IntKind) (hm : m < len) : aindexAddr tC 32 (.slice b o len cap z) (.int k (m : Int)) = some (.ptr b (o + m * 1)) := aindexAddr_slice ti32 rfl ti5 hm
theorem bs32 (F : Fns) (H : AH) (ev : Operand → AV) (dst : Option Tmp) (ty : TypeId) (pos : String) (after : Array Edge) (guard : Option (Nat × Bool)) : evOp tC F H ev { dst, op := .buildSlice 32 0 ⟨[]⟩, type := ty, pos, after, guard } = some (.slice H.next 0 0 (.ex 0) 1, H.alloc (.cells false [])) := evOp_buildSlice0 ti32 rfl ti5
theorem ld32 (H : AH) (b k : Nat) : aload tC H 32 (.ptr b k) = cellAt H b k := aload_one ti32 rfl
theorem eq32a (cst : Bool) (b o n z : Nat) (c : ACap) : abin tC .eql 32 cst (.slice b o n c z) .nils = some (.bool false) := by simp only [abin, eqRes, aeq, ti32, Option.map_some, Bool.not_false, Bool.not_true]
theorem ne32a (cst : Bool) (b o n z : Nat) (c : ACap) : abin tC .neq 32 cst (.slice b o n c z) .nils = some (.bool true) := by simp only [abin, eqRes, aeq, ti32, Option.map_some, Bool.not_false, Bool.not_true]
theorem eq32b (cst : Bool)  : abin tC .eql 32 cst .nils .nils = some (.bool true) := by simp only [abin, eqRes, aeq, ti32, Option.map_some, Bool.not_false, Bool.not_true]
theorem ne32b (cst : Bool)  : abin tC .neq 32 cst .nils .nils = some (.bool false) := by simp only [abin, eqRes, aeq, ti32, Option.map_some, Bool.not_false, Bool.not_true]
theorem eq32c (cst : Bool) (b : Nat) : abin tC .eql 32 cst (.empty b) .nils = some (.bool false) := by simp only [abin, eqRes, aeq, ti32, Option.map_some, Bool.not_false, Bool.not_true]
theorem ne32c (cst : Bool) (b : Nat) : abin tC .neq 32 cst (.empty b) .nils = some (.bool true) := by simp only [abin, eqRes, aeq, ti32, Option.map_some, Bool.not_false, Bool.not_true]
theorem st32 (H : AH) (b o : Nat) (v : AV) (hv : v.one = true) : astore tC H 32 (.ptr b o) v = storeAt H b o v := astore_one ti32 rfl H b o v hv
theorem al37 (x : AV) : alen tC 37 x = (lenOfAV x).map fun n => .int .i64 (n : Int) := alen_sliceM ti37 rfl x
theorem ix37 (b o len z m : Nat) (cap : ACap) (k : IntKind) (hm : m < len) : aindexAddr tC 37 (.slice b o len cap z) (.int k (m : Int)) = some (.ptr b (o + m * 1)) := aindexAddr_slice ti37 rfl ti9 hm
theorem bs37 (F : Fns) (H : AH) (ev : Operand → AV) (dst : Option Tmp) (ty : TypeId) (pos : String) (after : Array Edge) (guard : Option (Nat × Bool)) : evOp tC F H ev { dst, op := .buildSlice 37 0 ⟨[]⟩, type := ty, pos, after, guard } = some (.slice H.next 0 0 (.ex 0) 1, H.alloc (.cells false [])) := evOp_buildSlice0 ti37 rfl ti9
theorem ld37 (H : AH) (b k : Nat) : aload tC H 37 (.ptr b k) = cellAt H b k := aload_one ti37 rfl
theorem eq37a (cst : Bool) (b o n z : Nat) (c : ACap) : abin tC .eql 37 cst (.slice b o n c z) .nils = some (.bool false) := by simp only [abin, eqRes, aeq, ti37, Option.map_some, Bool.not_false, Bool.not_true]
theorem ne37a (cst : Bool) (b o n z : Nat) (c : ACap) : abin tC .neq 37 cst (.slice b o n c z) .nils = some (.bool true) := by simp only [abin, eqRes, aeq, ti37, Option.map_some, Bool.not_false, Bool.not_true]
theorem eq37b (cst : Bool)  : abin tC .eql 37 cst .nils .nils = some (.bool true) := by simp only [abin, eqRes, aeq, ti37, Option.map_some, Bool.not_false, Bool.not_true]
theorem ne37b (cst : Bool)  : abin tC .neq 37 cst .nils .nils = some (.bool false) := by simp only [abin, eqRes, aeq, ti37, Option.map_some, Bool.not_false, Bool.not_true]
theorem eq37c (cst : Bool) (b : Nat) : abin tC .eql 37 cst (.empty b) .nils = some (.bool false) := by simp only [abin, eqRes, aeq, ti37, Option.map_some, Bool.not_false, Bool.not_true]
theorem ne37c (cst : Bool) (b : Nat) : abin tC .neq 37 cst (.empty b) .nils = some (.bool true) := by simp only [abin, eqRes, aeq, ti37, Option.map_some, Bool.not_false, Bool.not_true]
theorem st37 (H : AH) (b o : Nat) (v : AV) (hv : v.one = true) : astore tC H 37 (.ptr b o) v = storeAt H b o v := astore_one ti37 rfl H b o v hv
theorem al40 (x : AV) : alen tC 40 x = (lenOfAV x).map fun n => .int .i64 (n : Int) := alen_sliceM ti40 rfl x
theorem ix40 (b o len z m : Nat) (cap : ACap) (k : IntKind) (hm : m < len) : aindexAddr tC 40 (.slice b o len cap z) (.int k (m : Int)) = some (.ptr b (o + m * 1)) := aindexAddr_slice ti40 rfl ti3 hm
theorem bs40 (F : Fns) (H : AH) (ev : Operand → AV) (dst : Option Tmp) (ty : TypeId) (pos : String) (after : Array Edge) (guard : Option (Nat × Bool)) : evOp tC F H ev { dst, op := .buildSlice 40 0 ⟨[]⟩, type := ty, pos, after, guard } = some (.slice H.next 0 0 (.ex 0) 1, H.alloc (.cells false [])) := evOp_buildSlice0 ti40 rfl ti3
theorem ld40 (H : AH) (b k : Nat) : aload tC H 40 (.ptr b k) = cellAt H b k := aload_one ti40 rfl
theorem eq40a (cst : Bool) (b o n z : Nat) (c : ACap) : abin tC .eql 40 cst (.slice b o n c z) .nils = some (.bool false) := by simp only [abin, eqRes, aeq, ti40, Option.map_some, Bool.not_false, Bool.not_true]
theorem ne40a (cst : Bool) (b o n z : Nat) (c : ACap) : abin tC .neq 40 cst (.slice b o n c z) .nils = some (.bool true) := by simp only [abin, eqRes, aeq, ti40, Option.map_some, Bool.not_false, Bool.not_true]
theorem eq40b (cst : Bool)  : abin tC .eql 40 cst .nils .nils = some (.bool true) := by simp only [abin, eqRes, aeq, ti40, Option.map_some, Bool.not_false, Bool.not_true]
theorem ne40b (cst : Bool)  : abin tC .neq 40 cst .nils .nils = some (.bool false) := by simp only [abin, eqRes, aeq, ti40, Option.map_some, Bool.not_false, Bool.not_true]
theorem eq40c (cst : Bool) (b : Nat) : abin tC .eql 40 cst (.empty b) .nils = some (.bool false) := by simp only [abin, eqRes, aeq, ti40, Option.map_some, Bool.not_false, Bool.not_true]
theorem ne40c (cst : Bool) (b : Nat) : abin tC .neq 40 cst (.empty b) .nils = some (.bool true) := by simp only [abin, eqRes, aeq, ti40, Option.map_some, Bool.not_false, Bool.not_true]
theorem st40 (H : AH) (b o : Nat) (v : AV) (hv : v.one = true) : astore tC H 40 (.ptr b o) v = storeAt H b o v := astore_one ti40 rfl H b o v hv
theorem ld42 (H : AH) (b k : Nat) : aload tC H 42 (.ptr b k) = cellAt H b k := aload_one ti42 rfl
theorem eq42a (cst : Bool) (b o : Nat) : abin tC .eql 42 cst (.ptr b o) .nilp = some (.bool false) := by simp only [abin, eqRes, aeq, ti42, Option.map_some, Bool.not_false, Bool.not_true]
theorem ne42a (cst : Bool) (b o : Nat) : abin tC .neq 42 cst (.ptr b o) .nilp = some (.bool true) := by simp only [abin, eqRes, aeq, ti42, Option.map_some, Bool.not_false, Bool.not_true]
theorem eq42b (cst : Bool)  : abin tC .eql 42 cst .nilp .nilp = some (.bool true) := by simp only [abin, eqRes, aeq, ti42, Option.map_some, Bool.not_false, Bool.not_true]
theorem ne42b (cst : Bool)  : abin tC .neq 42 cst .nilp .nilp = some (.bool false) := by simp only [abin, eqRes, aeq, ti42, Option.map_some, Bool.not_false, Bool.not_true]
theorem st42 (H : AH) (b o : Nat) (v : AV) (hv : v.one = true) : astore tC H 42 (.ptr b o) v = storeAt H b o v := astore_one ti42 rfl H b o v hv
theorem ld47 (H : AH) (b k : Nat) : aload tC H 47 (.ptr b k) = cellAt H b k := aload_one ti47 rfl
theorem st47 (H : AH) (b o : Nat) (v : AV) (hv : v.one = true) : astore tC H 47 (.ptr b o) v = storeAt H b o v := astore_one ti47 rfl H b o v hv
theorem ld57 (H : AH) (b k : Nat) : aload tC H 57 (.ptr b k) = cellAt H b k := aload_one ti57 rfl
theorem st57 (H : AH) (b o : Nat) (v : AV) (hv : v.one = true) : astore tC H 57 (.ptr b o) v = storeAt H b o v := astore_one ti57 rfl H b o v hv
theorem ld60 (H : AH) (b k : Nat) : aload tC H 60 (.ptr b k) = cellAt H b k := aload_one ti60 rfl
theorem st60 (H : AH) (b o : Nat) (v : AV) (hv : v.one = true) : astore tC H 60 (.ptr b o) v = storeAt H b o v := astore_one ti60 rfl H b o v hv
theorem fa63_0 (b o : Nat) : afieldAddr tC 63 (.ptr b o) 0 = some (.ptr b (o + 0)) := by simp only [afieldAddr, ti63, ti24, List.getElem?_cons_zero, List.getElem?_cons_succ, nbeq, Nat.reduceEqDiff, decide_false, cond_false]
theorem ld63 (H : AH) (b k : Nat) : aload tC H 63 (.ptr b k) = cellsAt H b k 1 := aload_agg ti63 rfl
theorem fa65_0 (b o : Nat) : afieldAddr tC 65 (.ptr b o) 0 = some (.ptr b (o + 0)) := by simp only [afieldAddr, ti65, ti63, List.getElem?_cons_zero, List.getElem?_cons_succ, nbeq, Nat.reduceEqDiff, decide_false, cond_false]
theorem fa65_1 (b o : Nat) : afieldAddr tC 65 (.ptr b o) 1 = some (.ptr b (o + 1)) := by simp only [afieldAddr, ti65, ti42, List.getElem?_cons_zero, List.getElem?_cons_succ, nbeq, Nat.reduceEqDiff, decide_false, cond_false]
theorem fa65_2 (b o : Nat) : afieldAddr tC 65 (.ptr b o) 2 = some (.ptr b (o + 2)) := by simp only [afieldAddr, ti65, ti9, List.getElem?_cons_zero, List.getElem?_cons_succ, nbeq, Nat.reduceEqDiff, decide_false, cond_false]
theorem fa65_3 (b o : Nat) : afieldAddr tC 65 (.ptr b o) 3 = some (.ptr b (o + 3)) := by simp only [afieldAddr, ti65, ti3, List.getElem?_cons_zero, List.getElem?_cons_succ, nbeq, Nat.reduceEqDiff, decide_false, cond_false]
theorem fa65_4 (b o : Nat) : afieldAddr tC 65 (.ptr b o) 4 = some (.ptr b (o + 4)) := by simp only [afieldAddr, ti65, ti3, List.getElem?_cons_zero, List.getElem?_cons_succ, nbeq, Nat.reduceEqDiff, decide_false, cond_false]
theorem fa65_5 (b o : Nat) : afieldAddr tC 65 (.ptr b o) 5 = some (.ptr b (o + 5)) := by simp only [afieldAddr, ti65, ti3, List.getElem?_cons_zero, List.getElem?_cons_succ, nbeq, Nat.reduceEqDiff, decide_false, cond_false]
theorem ld65 (H : AH) (b k : Nat) : aload tC H 65 (.ptr b k) = cellsAt H b k 6 := aload_agg ti65 rfl
theorem am72 (H : AH) (b : Nat) : alenMap tC H 72 (.map b) = mapLenAt H b := alenMap_of ti72 rfl
theorem an72 (b : Nat) : alen tC 72 (.map b) = none := alen_map ti72 rfl
theorem ld72 (H : AH) (b k : Nat) : aload tC H 72 (.ptr b k) = cellAt H b k := aload_one ti72 rfl
theorem sk72 : isStrKey tC 9 = true := by simp only [isStrKey, ti9]
theorem lk72 (H : AH) (m : Nat) (k : List UInt8) : alookup tC H 72 (.map m) (.str k) false = lookAt H m k (.nilp) := alookup_map ti72 rfl sk72 ti85 rfl H m k
theorem ms72 (H : AH) (m : Nat) (k : List UInt8) (v : AV) : amapUpdate tC H 72 (.map m) (.str k) v = mapSetAt H m k v := amapUpdate_map ti72 rfl sk72 H m k v
theorem md72 (H : AH) (u m : Nat) (k : List UInt8) : adelete tC H [72, u] [.map m, .str k] = mapDelAt H m k := adelete_map ti72 rfl sk72 H u m k
theorem eq72a (cst : Bool) (b : Nat) : abin tC .eql 72 cst (.map b) .nilm = some (.bool false) := by simp only [abin, eqRes, aeq, ti72, Option.map_some, Bool.not_false, Bool.not_true]
theorem ne72a (cst : Bool) (b : Nat) : abin tC .neq 72 cst (.map b) .nilm = some (.bool true) := by simp only [abin, eqRes, aeq, ti72, Option.map_some, Bool.not_false, Bool.not_true]
theorem eq72b (cst : Bool)  : abin tC .eql 72 cst .nilm .nilm = some (.bool true) := by simp only [abin, eqRes, aeq, ti72, Option.map_some, Bool.not_false, Bool.not_true]
theorem ne72b (cst : Bool)  : abin tC .neq 72 cst .nilm .nilm = some (.bool false) := by simp only [abin, eqRes, aeq, ti72, Option.map_some, Bool.not_false, Bool.not_true]
theorem st72 (H : AH) (b o : Nat) (v : AV) (hv : v.one = true) : astore tC H 72 (.ptr b o) v = storeAt H b o v := astore_one ti72 rfl H b o v hv
theorem al73 (x : AV) : alen tC 73 x = (lenOfAV x).map fun n => .int .i64 (n : Int) := alen_sliceM ti73 rfl x
theorem ix73 (b o len z m : Nat) (cap : ACap) (k : IntKind) (hm : m < len) : aindexAddr tC 73 (.slice b o len cap z) (.int k (m : Int)) = some (.ptr b (o + m * 1)) := aindexAddr_slice ti73 rfl ti104 hm
theorem bs73 (F : Fns) (H : AH) (ev : Operand → AV) (dst : Option Tmp) (ty : TypeId) (pos : String) (after : Array Edge) (guard : Option (Nat × Bool)) : evOp tC F H ev { dst, op := .buildSlice 73 0 ⟨[]⟩, type := ty, pos, after, guard } = some (.slice H.next 0 0 (.ex 0) 1, H.alloc (.cells false [])) := evOp_buildSlice0 ti73 rfl ti104
theorem ld73 (H : AH) (b k : Nat) : aload tC H 73 (.ptr b k) = cellAt H b k := aload_one ti73 rfl
theorem eq73a (cst : Bool) (b o n z : Nat) (c : ACap) : abin tC .eql 73 cst (.slice b o n c z) .nils = some (.bool false) := by simp only [abin, eqRes, aeq, ti73, Option.map_some, Bool.not_false, Bool.not_true]
theorem ne73a (cst : Bool) (b o n z : Nat) (c : ACap) : abin tC .neq 73 cst (.slice b o n c z) .nils = some (.bool true) := by simp only [abin, eqRes, aeq, ti73, Option.map_some, Bool.not_false, Bool.not_true]
theorem eq73b (cst : Bool)  : abin tC .eql 73 cst .nils .nils = some (.bool true) := by simp only [abin, eqRes, aeq, ti73, Option.map_some, Bool.not_false, Bool.not_true]
theorem ne73b (cst : Bool)  : abin tC .neq 73 cst .nils .nils = some (.bool false) := by simp only [abin, eqRes, aeq, ti73, Option.map_some, Bool.not_false, Bool.not_true]
theorem eq73c (cst : Bool) (b : Nat) : abin tC .eql 73 cst (.empty b) .nils = some (.bool false) := by simp only [abin, eqRes, aeq, ti73, Option.map_some, Bool.not_false, Bool.not_true]
theorem ne73c (cst : Bool) (b : Nat) : abin tC .neq 73 cst (.empty b) .nils = some (.bool true) := by simp only [abin, eqRes, aeq, ti73, Option.map_some, Bool.not_false, Bool.not_true]
theorem st73 (H : AH) (b o : Nat) (v : AV) (hv : v.one = true) : astore tC H 73 (.ptr b o) v = storeAt H b o v := astore_one ti73 rfl H b o v hv
theorem fa75_0 (b o : Nat) : afieldAddr tC 75 (.ptr b o) 0 = some (.ptr b (o + 0)) := by simp only [afieldAddr, ti75, ti3, List.getElem?_cons_zero, List.getElem?_cons_succ, nbeq, Nat.reduceEqDiff, decide_false, cond_false]
theorem fa75_1 (b o : Nat) : afieldAddr tC 75 (.ptr b o) 1 = some (.ptr b (o + 1)) := by simp only [afieldAddr, ti75, ti72, List.getElem?_cons_zero, List.getElem?_cons_succ, nbeq, Nat.reduceEqDiff, decide_false, cond_false]
theorem fa75_2 (b o : Nat) : afieldAddr tC 75 (.ptr b o) 2 = some (.ptr b (o + 2)) := by simp only [afieldAddr, ti75, ti72, List.getElem?_cons_zero, List.getElem?_cons_succ, nbeq, Nat.reduceEqDiff, decide_false, cond_false]
theorem fa75_3 (b o : Nat) : afieldAddr tC 75 (.ptr b o) 3 = some (.ptr b (o + 3)) := by simp only [afieldAddr, ti75, ti73, List.getElem?_cons_zero, List.getElem?_cons_succ, nbeq, Nat.reduceEqDiff, decide_false, cond_false]
theorem fa75_4 (b o : Nat) : afieldAddr tC 75 (.ptr b o) 4 = some (.ptr b (o + 4)) := by simp only [afieldAddr, ti75, ti3, List.getElem?_cons_zero, List.getElem?_cons_succ, nbeq, Nat.reduceEqDiff, decide_false, cond_false]
theorem fa75_5 (b o : Nat) : afieldAddr tC 75 (.ptr b o) 5 = some (.ptr b (o + 5)) := by simp only [afieldAddr, ti75, ti4, List.getElem?_cons_zero, List.getElem?_cons_succ, nbeq, Nat.reduceEqDiff, decide_false, cond_false]
theorem ld75 (H : AH) (b k : Nat) : aload tC H 75 (.ptr b k) = cellsAt H b k 6 := aload_agg ti75 rfl
theorem ld83 (H : AH) (b k : Nat) : aload tC H 83 (.ptr b k) = cellAt H b k := aload_one ti83 rfl
theorem st83 (H : AH) (b o : Nat) (v : AV) (hv : v.one = true) : astore tC H 83 (.ptr b o) v = storeAt H b o v := astore_one ti83 rfl H b o v hv
theorem ld85 (H : AH) (b k : Nat) : aload tC H 85 (.ptr b k) = cellAt H b k := aload_one ti85 rfl
theorem eq85a (cst : Bool) (b o : Nat) : abin tC .eql 85 cst (.ptr b o) .nilp = some (.bool false) := by simp only [abin, eqRes, aeq, ti85, Option.map_some, Bool.not_false, Bool.not_true]
theorem ne85a (cst : Bool) (b o : Nat) : abin tC .neq 85 cst (.ptr b o) .nilp = some (.bool true) := by simp only [abin, eqRes, aeq, ti85, Option.map_some, Bool.not_false, Bool.not_true]
theorem eq85b (cst : Bool)  : abin tC .eql 85 cst .nilp .nilp = some (.bool true) := by simp only [abin, eqRes, aeq, ti85, Option.map_some, Bool.not_false, Bool.not_true]
theorem ne85b (cst : Bool)  : abin tC .neq 85 cst .nilp .nilp = some (.bool false) := by simp only [abin, eqRes, aeq, ti85, Option.map_some, Bool.not_false, Bool.not_true]
theorem st85 (H : AH) (b o : Nat) (v : AV) (hv : v.one = true) : astore tC H 85 (.ptr b o) v = storeAt H b o v := astore_one ti85 rfl H b o v hv
theorem fa87_0 (b o : Nat) : afieldAddr tC 87 (.ptr b o) 0 = some (.ptr b (o + 0)) := by simp only [afieldAddr, ti87, ti32, List.getElem?_cons_zero, List.getElem?_cons_succ, nbeq, Nat.reduceEqDiff, decide_false, cond_false]
theorem fa87_1 (b o : Nat) : afieldAddr tC 87 (.ptr b o) 1 = some (.ptr b (o + 1)) := by simp only [afieldAddr, ti87, ti3, List.getElem?_cons_zero, List.getElem?_cons_succ, nbeq, Nat.reduceEqDiff, decide_false, cond_false]
theorem ld87 (H : AH) (b k : Nat) : aload tC H 87 (.ptr b k) = cellsAt H b k 2 := aload_agg ti87 rfl
theorem ld91 (H : AH) (b k : Nat) : aload tC H 91 (.ptr b k) = cellAt H b k := aload_one ti91 rfl
theorem st91 (H : AH) (b o : Nat) (v : AV) (hv : v.one = true) : astore tC H 91 (.ptr b o) v = storeAt H b o v := astore_one ti91 rfl H b o v hv
theorem ld96 (H : AH) (b k : Nat) : aload tC H 96 (.ptr b k) = cellAt H b k := aload_one ti96 rfl
theorem st96 (H : AH) (b o : Nat) (v : AV) (hv : v.one = true) : astore tC H 96 (.ptr b o) v = storeAt H b o v := astore_one ti96 rfl H b o v hv
theorem ld104 (H : AH) (b k : Nat) : aload tC H 104 (.ptr b k) = cellAt H b k := aload_one ti104 rfl
theorem st104 (H : AH) (b o : Nat) (v : AV) (hv : v.one = true) : astore tC H 104 (.ptr b o) v = storeAt H b o v := astore_one ti104 rfl H b o v hv
theorem al116 (x : AV) : alen tC 116 x = (lenOfAV x).map fun n => .int .i64 (n : Int) := alen_sliceM ti116 rfl x
theorem ix116 (b o len z m : Nat) (cap : ACap) (k : IntKind) (hm : m < len) : aindexAddr tC 116 (.slice b o len cap z) (.int k (m : Int)) = some (.ptr b (o + m * 1)) := aindexAddr_slice ti116 rfl ti47 hm
theorem bs116 (F : Fns) (H : AH) (ev : Operand → AV) (dst : Option Tmp) (ty : TypeId) (pos : String) (after : Array Edge) (guard : Option (Nat × Bool)) : evOp tC F H ev { dst, op := .buildSlice 116 0 ⟨[]⟩, type := ty, pos, after, guard } = some (.slice H.next 0 0 (.ex 0) 1, H.alloc (.cells false [])) := evOp_buildSlice0 ti116 rfl ti47
theorem ld116 (H : AH) (b k : Nat) : aload tC H 116 (.ptr b k) = cellAt H b k := aload_one ti116 rfl
theorem eq116a (cst : Bool) (b o n z : Nat) (c : ACap) : abin tC .eql 116 cst (.slice b o n c z) .nils = some (.bool false) := by simp only [abin, eqRes, aeq, ti116, Option.map_some, Bool.not_false, Bool.not_true]
theorem ne116a (cst : Bool) (b o n z : Nat) (c : ACap) : abin tC .neq 116 cst (.slice b o n c z) .nils = some (.bool true) := by simp only [abin, eqRes, aeq, ti116, Option.map_some, Bool.not_false, Bool.not_true]
theorem eq116b (cst : Bool)  : abin tC .eql 116 cst .nils .nils = some (.bool true) := by simp only [abin, eqRes, aeq, ti116, Option.map_some, Bool.not_false, Bool.not_true]
theorem ne116b (cst : Bool)  : abin tC .neq 116 cst .nils .nils = some (.bool false) := by simp only [abin, eqRes, aeq, ti116, Option.map_some, Bool.not_false, Bool.not_true]
theorem eq116c (cst : Bool) (b : Nat) : abin tC .eql 116 cst (.empty b) .nils = some (.bool false) := by simp only [abin, eqRes, aeq, ti116, Option.map_some, Bool.not_false, Bool.not_true]
theorem ne116c (cst : Bool) (b : Nat) : abin tC .neq 116 cst (.empty b) .nils = some (.bool true) := by simp only [abin, eqRes, aeq, ti116, Option.map_some, Bool.not_false, Bool.not_true]
theorem st116 (H : AH) (b o : Nat) (v : AV) (hv : v.one = true) : astore tC H 116 (.ptr b o) v = storeAt H b o v := astore_one ti116 rfl H b o v hv
theorem ld118 (H : AH) (b k : Nat) : aload tC H 118 (.ptr b k) = cellAt H b k := aload_one ti118 rfl
theorem st118 (H : AH) (b o : Nat) (v : AV) (hv : v.one = true) : astore tC H 118 (.ptr b o) v = storeAt H b o v := astore_one ti118 rfl H b o v hv
theorem ld119 (H : AH) (b k : Nat) : aload tC H 119 (.ptr b k) = cellsAt H b k 256 := aload_agg ti119 rfl
theorem ix119 (b o m : Nat) (k : IntKind) (hm : m < 256) : aindexAddr tC 119 (.ptr b o) (.int k (m : Int)) = some (.ptr b (o + m * 1)) := aindexAddr_array ti119 rfl ti96 hm
theorem cv9_32 (H : AH) (s : List UInt8) : convOp tC H 9 32 (.str s) = some (.slice H.next 0 s.length (.lo s.length) 1, H.alloc (.cells false (s.map fun b => .int .u8 b.toNat))) := conv_strBytes ti9 ti32 rfl rfl ti5 rfl H s
theorem cv32_9 (H : AH) (v : AV) (hv : ∀ s, v ≠ .str s) : convOp tC H 32 9 v = (aToString H v).map (·, H) := conv_bytesStr ti32 ti9 rfl rfl ti5 rfl H v hv
theorem cv96_3 (H : AH) (k' : IntKind) (n : Int) : convOp tC H 96 3 (.int k' n) = some (.int Go.IntKind.i64 (IntKind.wrap Go.IntKind.i64 n), H) := conv_int ti96 ti3 rfl H k' n
theorem cv5_96 (H : AH) (k' : IntKind) (n : Int) : convOp tC H 5 96 (.int k' n) = some (.int Go.IntKind.u32 (IntKind.wrap Go.IntKind.u32 n), H) := conv_int ti5 ti96 rfl H k' n
theorem cv96_5 (H : AH) (k' : IntKind) (n : Int) : convOp tC H 96 5 (.int k' n) = some (.int Go.IntKind.u8 (IntKind.wrap Go.IntKind.u8 n), H) := conv_int ti96 ti5 rfl H k' n
theorem cv3_96 (H : AH) (k' : IntKind) (n : Int) : convOp tC H 3 96 (.int k' n) = some (.int Go.IntKind.u32 (IntKind.wrap Go.IntKind.u32 n), H) := conv_int ti3 ti96 rfl H k' n
theorem cv3_118 (H : AH) (k' : IntKind) (n : Int) : convOp tC H 3 118 (.int k' n) = some (.int Go.IntKind.u64 (IntKind.wrap Go.IntKind.u64 n), H) := conv_int ti3 ti118 rfl H k' n
end Go.Proofs.YtgihociajfgohaaGreatDoor

open Go Go.AB Go.Proofs
namespace Go.Proofs.YtgihociajfgohaaGreatDoor
set_option maxRecDepth 100000

abbrev Nm := List UInt8
def okC (c : UInt8) : Bool := (decide (97 ≤ c.toNat) && decide (c.toNat ≤ 122)) || (decide (48 ≤ c.toNat) && decide (c.toNat ≤ 57)) || decide (c.toNat = 45) || decide (c.toNat = 46)
def nameOK (s : Nm) : Bool := decide (1 ≤ s.length) && decide (s.length ≤ 24) && s.all okC

theorem idx9 (s : Nm) (k : IntKind) (m : Nat) (c : UInt8) (h : s[m]? = some c) : aindex tC 9 (.str s) (.int k (m : Int)) = some (.int .u8 (c.toNat : Int)) := by
  have hlt := (List.getElem?_eq_some_iff.1 h).1
  simp only [aindex, ti9, inRange_lt hlt, h, Option.map_some]

set_option maxHeartbeats 4000000 in
theorem name18 (N : Nat) (H : AH) (s : Nm) : AC tC N 0 97 [.str s] H fun r K => r = .bool (nameOK s) ∧ K = H := by
  refine AC.by (n := 45) (rs := [.tmp 2]) tOK fn97 rfl rfl rfl rfl ?_
  have e0 : (PT.ofList .leaf 0 [AV.str s]).get 0 = some (.str s) := rfl
  by_cases h1 : (s.length : Int) < 1
  · with_reducible repeat' (first
 | refine AW.seq ?_
 | refine AW.region ?_
 | refine AOs.nil ?_
 | refine AW.ret ?_
 | refine andThen_normal ?_
 | refine andThen_ret ?_
 | refine AOs.guardF (by with_unfolding_all rfl) (by simp only [PT.get_set, Nat.reduceEqDiff, reduceIte]; rfl) (by first | rfl | decide | assumption) (by with_unfolding_all rfl) ?_
 | refine AW.condT (by simp only [aeval, PT.get_set, Nat.reduceEqDiff, reduceIte]; rfl) (by first | rfl | decide | assumption) ?_
 | ((first
 | refine AOs.op1E tOK (by with_unfolding_all rfl) ?_
 ); refine Step.mk (by simp only [evOp_move, evOp_assign, evOp_pick, evOp_binOp, evOp_len, aeval, ofVal, PT.get_set, Nat.reduceEqDiff, reduceIte, Option.map_some, abin_lss, cond_true, decide_true, eq_self, al9, e0, h1]; rfl) ?_)
 | fail "stop")
    exact fnPost_ret1 (by first | (simp only [PT.get_set, Nat.reduceEqDiff, reduceIte]; rfl) | simp only [PT.get_set, Nat.reduceEqDiff, reduceIte]) ⟨by simp [nameOK]; omega, rfl⟩
  by_cases h24 : (24 : Int) < (s.length : Int)
  · with_reducible repeat' (first
 | refine AW.seq ?_
 | refine AW.region ?_
 | refine AOs.nil ?_
 | refine AW.ret ?_
 | refine andThen_normal ?_
 | refine andThen_ret ?_
 | refine AOs.guardT (by with_unfolding_all rfl) (by simp only [PT.get_set, Nat.reduceEqDiff, reduceIte]; rfl) (by first | rfl | decide | assumption) ?_
 | refine AW.condT (by simp only [aeval, PT.get_set, Nat.reduceEqDiff, reduceIte]; rfl) (by first | rfl | decide | assumption) ?_
 | ((first
 | refine AOs.op1E tOK (by with_unfolding_all rfl) ?_
 ); refine Step.mk (by simp only [evOp_move, evOp_assign, evOp_pick, evOp_binOp, evOp_len, aeval, ofVal, PT.get_set, Nat.reduceEqDiff, reduceIte, Option.map_some, abin_lss, abin_gtr, cond_false, decide_true, decide_false, eq_self, al9, e0, h1, h24]; rfl) ?_)
 | fail "stop")
    exact fnPost_ret1 (by first | (simp only [PT.get_set, Nat.reduceEqDiff, reduceIte]; rfl) | simp only [PT.get_set, Nat.reduceEqDiff, reduceIte]) ⟨by simp [nameOK]; omega, rfl⟩
  with_reducible repeat' (first
 | refine AW.seq ?_
 | refine AW.region ?_
 | refine AW.block ?_
 | refine AOs.nil ?_
 | refine AW.skip ?_
 | refine andThen_normal ?_
 | refine AOs.guardT (by with_unfolding_all rfl) (by simp only [PT.get_set, Nat.reduceEqDiff, reduceIte]; rfl) (by first | rfl | decide | assumption) ?_
 | refine AW.condF (by simp only [aeval, PT.get_set, Nat.reduceEqDiff, reduceIte]; rfl) (by first | rfl | decide | assumption) ?_
 | ((first
 | refine AOs.op1E tOK (by with_unfolding_all rfl) ?_
 ); refine Step.mk (by simp only [evOp_move, evOp_assign, evOp_pick, evOp_binOp, evOp_len, aeval, ofVal, PT.get_set, Nat.reduceEqDiff, reduceIte, Option.map_some, abin_lss, abin_gtr, cond_false, decide_false, eq_self, al9, e0, h1, h24]; rfl) ?_)
 | fail "stop")
  refine AW.loop (fun m T K => K = H ∧ T.get 0 = some (.str s) ∧ T.get 14 = some (.int .i64 (s.length : Int)) ∧ ∃ i : Nat, i ≤ s.length ∧ m = s.length - i ∧ T.get 15 = some (.int .i64 i) ∧ (s.take i).all okC = true) ?_ (s.length - 0) ⟨rfl, by simp [PT.get_set, e0], by simp [PT.get_set], 0, by omega, rfl, by simp [PT.get_set], by simp⟩
  rintro m T K ⟨rfl, g0, g14, i, hi, rfl, g15, hall⟩
  by_cases hlt : i < s.length
  · have hd := lt_int hlt
    obtain ⟨c, hc⟩ : ∃ c, s[i]? = some c := ⟨_, List.getElem?_eq_getElem hlt⟩
    have hidx := fun k => idx9 s k i c hc
    have htake : (s.take (i + 1)).all okC = ((s.take i).all okC && okC c) := by
      rw [List.take_add_one, hc]; simp
    have hbad : okC c = false → s.all okC = false := fun h => by
      rw [List.all_eq_false]
      exact ⟨c, List.mem_of_getElem? hc, by rw [h]; simp⟩
    obtain ⟨b1, d1⟩ : ∃ b, decide ((97 : Int) ≤ (c.toNat : Int)) = b := ⟨_, rfl⟩
    obtain ⟨b2, d2⟩ : ∃ b, decide ((c.toNat : Int) ≤ 122) = b := ⟨_, rfl⟩
    obtain ⟨b3, d3⟩ : ∃ b, decide ((48 : Int) ≤ (c.toNat : Int)) = b := ⟨_, rfl⟩
    obtain ⟨b4, d4⟩ : ∃ b, decide ((c.toNat : Int) ≤ 57) = b := ⟨_, rfl⟩
    obtain ⟨b5, d5⟩ : ∃ b, decide ((c.toNat : Int) = 45) = b := ⟨_, rfl⟩
    obtain ⟨b6, d6⟩ : ∃ b, decide ((c.toNat : Int) = 46) = b := ⟨_, rfl⟩
    have hok : okC c = (b1 && b2 || b3 && b4 || b5 || b6) := by
      rw [← d1, ← d2, ← d3, ← d4, ← d5, ← d6]
      unfold okC
      congr 1
      · congr 1
        · congr 1
          · congr 1 <;> exact decide_eq_decide.2 (by omega)
          · congr 1 <;> exact decide_eq_decide.2 (by omega)
        · exact decide_eq_decide.2 (by omega)
      · exact decide_eq_decide.2 (by omega)
    cases b1 <;> cases b2 <;> cases b3 <;> cases b4 <;> cases b5 <;> cases b6 <;> first
      | (exfalso; simp only [decide_eq_true_eq, decide_eq_false_iff_not] at d1 d2 d3 d4 d5 d6; omega)
      | skip
    all_goals with_reducible repeat' (first
 | refine AW.seq ?_
 | refine AW.region ?_
 | refine AW.block ?_
 | refine AOs.nil ?_
 | refine AW.skip ?_
 | refine AW.ret ?_
 | refine andThen_normal ?_
 | refine andThen_ret ?_
 | refine inBlock_normal ?_
 | refine inBlock_ret ?_
 | refine AOs.guardU (by with_unfolding_all rfl) (by simp only [PT.get_set, Nat.reduceEqDiff, reduceIte]; rfl) (by with_unfolding_all rfl) (by with_unfolding_all rfl) ?_
 | refine AOs.guardT (by with_unfolding_all rfl) (by simp only [PT.get_set, Nat.reduceEqDiff, reduceIte]; rfl) (by first | rfl | decide | assumption) ?_
 | refine AOs.guardF (by with_unfolding_all rfl) (by simp only [PT.get_set, Nat.reduceEqDiff, reduceIte]; rfl) (by first | rfl | decide | assumption) (by with_unfolding_all rfl) ?_
 | refine AW.condT (by simp only [aeval, PT.get_set, Nat.reduceEqDiff, reduceIte]; rfl) (by first | rfl | decide | assumption) ?_
 | refine AW.condF (by simp only [aeval, PT.get_set, Nat.reduceEqDiff, reduceIte]; rfl) (by first | rfl | decide | assumption) ?_
 | ((first
 | refine AOs.op1E tOK (by with_unfolding_all rfl) ?_
 ); refine Step.mk (by simp only [evOp_move, evOp_assign, evOp_pick, evOp_binOp, evOp_not, evOp_index, aeval, ofVal, PT.get_set, Nat.reduceEqDiff, reduceIte, Option.map_some, abin_add, abin_lss, abin_leq, abin_geq, abin_eql, cond_true, cond_false, Bool.not_true, Bool.not_false, eq_self, g0, g14, g15, hd, hidx, d1, d2, d3, d4, d5, d6]; rfl) ?_)
 | fail "stop")
    all_goals first
      | (refine ⟨s.length - (i + 1), by omega, rfl, by simp only [PT.get_set, Nat.reduceEqDiff, reduceIte, g0], by simp only [PT.get_set, Nat.reduceEqDiff, reduceIte, g14], i + 1, by omega, rfl, ?_, ?_⟩
         · simp only [PT.get_set, Nat.reduceEqDiff, reduceIte, wrap64_succ (show i < 9223372036854775807 by omega)]
         · rw [htake, hall, hok]; rfl)
      | (refine fnPost_ret1 (by first | (simp only [PT.get_set, Nat.reduceEqDiff, reduceIte]; rfl) | simp only [PT.get_set, Nat.reduceEqDiff, reduceIte]) ⟨?_, rfl⟩
         simp only [nameOK, hbad hok, Bool.and_false])
  · have hd := nlt_int hlt
    obtain rfl : i = s.length := by omega
    with_reducible repeat' (first
 | refine AW.seq ?_
 | refine AW.region ?_
 | refine AOs.nil ?_
 | refine AW.exit ?_
 | refine AW.ret ?_
 | refine andThen_normal ?_
 | refine andThen_exit ?_
 | refine inBlock_hit ?_
 | refine AW.condF (by simp only [aeval, PT.get_set, reduceIte]; rfl) (by first | rfl | decide | assumption) ?_
 | ((first
 | refine AOs.op1E tOK (by with_unfolding_all rfl) ?_
 ); refine Step.mk (by simp only [evOp_assign, evOp_binOp, aeval, ofVal, Option.map_some, abin_lss, g14, g15, hd]; rfl) ?_)
 | fail "stop")
    refine fnPost_ret1 (by first | (simp only [PT.get_set, Nat.reduceEqDiff, reduceIte]; rfl) | simp only [PT.get_set, Nat.reduceEqDiff, reduceIte]) ⟨?_, rfl⟩
    rw [List.take_length] at hall
    simp only [nameOK, hall, Bool.and_true]
    simp; omega

set_option maxHeartbeats 1000000 in
theorem op41 (N : Nat) (H : AH) (s : Nm) : AC tC N 0 96 [.str s] H fun r K => r = .bool (!nameOK s) ∧ K = H := by
  refine AC.by (n := 6) (rs := [.tmp 2]) tOK fn96 rfl rfl rfl rfl ?_
  have e0 : (PT.ofList .leaf 0 [AV.str s]).get 0 = some (.str s) := rfl
  with_reducible repeat' (first
 | refine AW.seq ?_
 | refine AW.region ?_
 | refine AOs.nil ?_
 | refine andThen_normal ?_
 | ((first
 | refine AOs.op1E tOK (by with_unfolding_all rfl) ?_
 ); refine Step.mk (by simp only [evOp_move, evOp_assign, aeval, ofVal, PT.get_set, Nat.reduceEqDiff, reduceIte, e0]; rfl) ?_)
 | fail "stop")
  refine AOs.callQ tOK (fs := []) (cs := []) rfl fn97 ok97 rfl (by simp only [List.map_cons, List.map_nil, List.nil_append, List.append_nil, aeval, PT.get_set, Nat.reduceEqDiff, reduceIte] <;> rfl) (name18 N _ s) ?_
  rintro r K ⟨rfl, rfl⟩
  with_reducible repeat' (first
 | refine AOs.nil ?_
 | refine AW.ret ?_
 | refine andThen_normal ?_
 | ((first
 | refine AOs.op1E tOK (by with_unfolding_all rfl) ?_
 ); refine Step.mk (by simp only [evOp_assign, evOp_not, aeval, PT.get_set, Nat.reduceEqDiff, reduceIte, eq_self, if_true]; rfl) ?_)
 | fail "stop")
  exact fnPost_ret1 (by first | (simp only [PT.get_set, Nat.reduceEqDiff, reduceIte]; rfl) | simp only [PT.get_set, Nat.reduceEqDiff, reduceIte]) ⟨rfl, rfl⟩

set_option maxHeartbeats 1000000 in
theorem idx48 (N : Nat) (H : AH) (v : AV) (l : List Nm) (hl : StrsAt H v l) (hb : l.length ≤ 1000000) : AC tC N 0 113 [v, .func 96 [] []] H fun r K => K = H ∧ ∃ z : Int, r = .int .i64 z ∧ (decide (0 ≤ z) = !l.all nameOK) := by
  have hlen := hl.len
  refine AC.by (n := 19) (rs := [.tmp 4]) tOK fn113 rfl rfl rfl rfl ?_
  have e0 : (PT.ofList .leaf 0 [v, .func 96 [] []]).get 0 = some v := rfl
  have e1 : (PT.ofList .leaf 0 [v, .func 96 [] []]).get 1 = some (.func 96 [] []) := rfl
  with_reducible repeat' (first
 | refine AW.seq ?_
 | refine AW.region ?_
 | refine AW.block ?_
 | refine AOs.nil ?_
 | refine andThen_normal ?_
 | ((first
 | refine AOs.op1E tOK (by with_unfolding_all rfl) ?_
 ); refine Step.mk (by simp only [evOp_move, evOp_assign, evOp_len, aeval, ofVal, PT.get_set, Nat.reduceEqDiff, reduceIte, Option.map_some, eq_self, al37, e0, hlen]; rfl) ?_)
 | fail "stop")
  refine AW.loop (fun m T K => K = H ∧ T.get 0 = some v ∧ T.get 1 = some (.func 96 [] []) ∧ T.get 7 = some (.int .i64 (l.length : Int)) ∧ ∃ i : Nat, i ≤ l.length ∧ m = l.length - i ∧ T.get 8 = some (.int .i64 i) ∧ (l.take i).all nameOK = true) ?_ (l.length - 0) ⟨rfl, by simp [PT.get_set, e0], by simp [PT.get_set, e1], by simp [PT.get_set], 0, by omega, rfl, by simp [PT.get_set], by simp⟩
  rintro m T K ⟨rfl, g0, g1, g7, i, hi, rfl, g8, hall⟩
  by_cases hlt : i < l.length
  · have hd := lt_int hlt
    rcases hl with ⟨_, rfl⟩ | ⟨b, c, ro, vs, rfl, hbb, hat⟩
    · simp at hlt
    · obtain ⟨s, hs⟩ : ∃ s, l[i]? = some s := ⟨_, List.getElem?_eq_getElem hlt⟩
      have hvs : vs[i * 1]? = some (AV.str s) := by rw [Nat.mul_one]; exact hat i s hs
      with_reducible repeat' (first
 | refine AW.seq ?_
 | refine AW.region ?_
 | refine AW.block ?_
 | refine AOs.nil ?_
 | refine AW.skip ?_
 | refine andThen_normal ?_
 | refine AW.condT (by simp only [aeval, PT.get_set, reduceIte]; rfl) (by first | rfl | decide | assumption) ?_
 | ((first
 | refine AOs.op1E tOK (by with_unfolding_all rfl) ?_
 ); refine Step.mk (by simp only [evOp_move, evOp_assign, evOp_binOp, evOp_indexAddr, evOp_load, aeval, PT.get_set, Nat.reduceEqDiff, reduceIte, cellAt, Option.map_some, abin_lss, Nat.zero_add, eq_self, ld9, ix37, g0, g1, g7, g8, hd, hlt, hbb, hvs]; rfl) ?_)
 | fail "stop")
      refine AOs.callQ tOK (fs := []) (cs := []) (by simp only [aeval, PT.get_set, Nat.reduceEqDiff, reduceIte]) fn96 ok96 rfl (by simp only [List.map_cons, List.map_nil, List.nil_append, List.append_nil, aeval, PT.get_set, Nat.reduceEqDiff, reduceIte] <;> rfl) (op41 N _ s) ?_
      rintro r K1 ⟨rfl, rfl⟩
      cases hok : nameOK s
      · with_reducible repeat' (first
 | refine AW.seq ?_
 | refine AW.region ?_
 | refine AOs.nil ?_
 | refine AW.ret ?_
 | refine andThen_normal ?_
 | refine andThen_ret ?_
 | refine inBlock_ret ?_
 | refine AW.condT (by simp only [aeval, PT.get_set, Nat.reduceEqDiff, reduceIte, Bool.not_false]; rfl) (by first | rfl | decide | assumption) ?_
 | ((first
 | refine AOs.op1E tOK (by with_unfolding_all rfl) ?_
 ); refine Step.mk (by simp only [evOp_move, evOp_assign, aeval, PT.get_set, Nat.reduceEqDiff, reduceIte, Bool.not_false, eq_self, Bool.not_false]; rfl) ?_)
 | fail "stop")
        refine fnPost_ret1 (by first | (simp only [PT.get_set, Nat.reduceEqDiff, reduceIte]; rfl) | simp only [PT.get_set, Nat.reduceEqDiff, reduceIte]) ⟨rfl, _, rfl, ?_⟩
        have : l.all nameOK = false := by rw [List.all_eq_false]; exact ⟨s, List.mem_of_getElem? hs, by rw [hok]; simp⟩
        rw [this]; simp
      · with_reducible repeat' (first
 | refine AW.region ?_
 | refine AOs.nil ?_
 | refine AW.skip ?_
 | refine andThen_normal ?_
 | refine inBlock_normal ?_
 | refine AW.condF (by simp only [aeval, PT.get_set, Nat.reduceEqDiff, reduceIte, Bool.not_true]; rfl) (by first | rfl | decide | assumption) ?_
 | ((first
 | refine AOs.op1E tOK (by with_unfolding_all rfl) ?_
 ); refine Step.mk (by simp only [evOp_move, evOp_binOp, aeval, ofVal, PT.get_set, Nat.reduceEqDiff, reduceIte, Option.map_some, abin_add, Bool.not_true, eq_self, Bool.not_true, g8]; rfl) ?_)
 | fail "stop")
        refine ⟨l.length - (i + 1), by omega, rfl, by simp only [PT.get_set, Nat.reduceEqDiff, reduceIte, g0], by simp only [PT.get_set, Nat.reduceEqDiff, reduceIte, g1], by simp only [PT.get_set, Nat.reduceEqDiff, reduceIte, g7], i + 1, by omega, rfl, ?_, ?_⟩
        · simp only [PT.get_set, Nat.reduceEqDiff, reduceIte, wrap64_succ (show i < 9223372036854775807 by omega)]
        · rw [List.take_add_one, hs, List.all_append, hall]; simp [hok]
  · have hd := nlt_int hlt
    obtain rfl : i = l.length := by omega
    rw [List.take_length] at hall
    with_reducible repeat' (first
 | refine AW.seq ?_
 | refine AW.region ?_
 | refine AOs.nil ?_
 | refine AW.exit ?_
 | refine AW.ret ?_
 | refine andThen_normal ?_
 | refine andThen_exit ?_
 | refine inBlock_hit ?_
 | refine AW.condF (by simp only [aeval, PT.get_set, reduceIte]; rfl) (by first | rfl | decide | assumption) ?_
 | ((first
 | refine AOs.op1E tOK (by with_unfolding_all rfl) ?_
 ); refine Step.mk (by simp only [evOp_assign, evOp_binOp, aeval, ofVal, Option.map_some, abin_lss, Int.reduceNeg, g7, g8, hd]; rfl) ?_)
 | fail "stop")
    refine fnPost_ret1 (by first | (simp only [PT.get_set, Nat.reduceEqDiff, reduceIte]; rfl) | simp only [PT.get_set, Nat.reduceEqDiff, reduceIte]) ⟨rfl, _, rfl, ?_⟩
    rw [hall]; rfl

set_option maxHeartbeats 1000000 in
theorem has40 (N : Nat) (H : AH) (v : AV) (l : List Nm) (hl : StrsAt H v l) (hb : l.length ≤ 1000000) : AC tC N 0 95 [v, .func 96 [] []] H fun r K => r = .bool (!l.all nameOK) ∧ K = H := by
  refine AC.by (n := 9) (rs := [.tmp 4]) tOK fn95 rfl rfl rfl rfl ?_
  have e0 : (PT.ofList .leaf 0 [v, .func 96 [] []]).get 0 = some v := rfl
  have e1 : (PT.ofList .leaf 0 [v, .func 96 [] []]).get 1 = some (.func 96 [] []) := rfl
  with_reducible repeat' (first
 | refine AW.seq ?_
 | refine AW.region ?_
 | refine AOs.nil ?_
 | refine andThen_normal ?_
 | ((first
 | refine AOs.op1E tOK (by with_unfolding_all rfl) ?_
 ); refine Step.mk (by simp only [evOp_move, evOp_assign, aeval, ofVal, PT.get_set, Nat.reduceEqDiff, reduceIte, e0, e1]; rfl) ?_)
 | fail "stop")
  refine AOs.callQ tOK (fs := []) (cs := []) rfl fn113 ok113 rfl (by simp only [List.map_cons, List.map_nil, List.nil_append, List.append_nil, aeval, PT.get_set, Nat.reduceEqDiff, reduceIte] <;> rfl) (idx48 N _ v l hl hb) ?_
  rintro r K ⟨rfl, z, rfl, hz⟩
  with_reducible repeat' (first
 | refine AOs.nil ?_
 | refine AW.ret ?_
 | refine andThen_normal ?_
 | ((first
 | refine AOs.op1E tOK (by with_unfolding_all rfl) ?_
 ); refine Step.mk (by simp only [evOp_assign, evOp_binOp, aeval, ofVal, PT.get_set, Nat.reduceEqDiff, reduceIte, Option.map_some, abin_geq, eq_self, hz]; rfl) ?_)
 | fail "stop")
  exact fnPost_ret1 (by first | (simp only [PT.get_set, Nat.reduceEqDiff, reduceIte]; rfl) | simp only [PT.get_set, Nat.reduceEqDiff, reduceIte]) ⟨rfl, rfl⟩

/-- A disk's own cells. -/
def CoreAt (H : AH) (d : Nat) (room : Int) (nb sb : Nat) (cv : AV) (fuse : Int) (off : Bool) : Prop := H.get d = some (.cells false [.int .i64 room, .map nb, .map sb, cv, .int .i64 fuse, .bool off])

set_option maxHeartbeats 1000000 in
theorem made34 (N : Nat) (H : AH) {d : Nat} {room : Int} {nb sb : Nat} {cv : AV} {fuse : Int} {off : Bool} (hc : CoreAt H d room nb sb cv fuse off) : AC tC N 0 37 [.ptr d 0] H fun r K => r = .bool true ∧ K = H := by
  refine AC.by (n := 12) (rs := [.tmp 2]) tOK fn37 rfl rfl rfl rfl ?_
  have e0 : (PT.ofList .leaf 0 [AV.ptr d 0]).get 0 = some (.ptr d 0) := rfl
  have hc' := hc
  unfold CoreAt at hc'
  with_reducible repeat' (first
 | refine AW.seq ?_
 | refine AW.region ?_
 | refine AOs.nil ?_
 | refine AW.ret ?_
 | refine andThen_normal ?_
 | refine AOs.guardT (by with_unfolding_all rfl) (by simp only [PT.get_set, Nat.reduceEqDiff, reduceIte]; rfl) (by first | rfl | decide | assumption) ?_
 | ((first
 | refine AOs.op1E tOK (by with_unfolding_all rfl) ?_
 ); refine Step.mk (by simp only [evOp_move, evOp_assign, evOp_pick, evOp_nilCheck, evOp_binOp, evOp_fieldAddr, evOp_load, aeval, ofVal, PT.get_set, Nat.reduceEqDiff, reduceIte, cellAt, Option.map_some, cond_true, List.getElem?_cons_zero, List.getElem?_cons_succ, Nat.zero_add, eq_self, ne42a, ld72, ne72a, fa75_1, e0, hc']; rfl) ?_)
 | fail "stop")
  exact fnPost_ret1 (by first | (simp only [PT.get_set, Nat.reduceEqDiff, reduceIte]; rfl) | simp only [PT.get_set, Nat.reduceEqDiff, reduceIte]) ⟨rfl, rfl⟩
end Go.Proofs.YtgihociajfgohaaGreatDoor

open Go Go.AB Go.Proofs
namespace Go.Proofs.YtgihociajfgohaaGreatDoor
set_option maxRecDepth 100000

/-- What an operation begins with: its answer, the fuse and the power behind it. -/
def opM (ok : Bool) (fuse : Int) (off : Bool) : Int × Int × Bool :=
  if ok = false then (2, fuse, off) else if off = true then (12, fuse, off) else if fuse = 0 then (12, -1, true) else if 0 < fuse then (0, fuse - 1, false) else (0, fuse, false)

set_option maxHeartbeats 2000000 in
theorem op27 (N : Nat) (H : AH) {d : Nat} {room : Int} {nb sb : Nat} {cv : AV} {fuse : Int} {off : Bool} (hc : CoreAt H d room nb sb cv fuse off) (h1 : -1 ≤ fuse) (h2 : fuse < 9223372036854775808) {v : AV} {l : List Nm} (hl : StrsAt H v l) (hb : l.length ≤ 1000000) :
    AC tC N 0 72 [.ptr d 0, v] H fun r K => r = .int .i64 (opM (l.all nameOK) fuse off).1 ∧ K.next = H.next ∧ CoreAt K d room nb sb cv (opM (l.all nameOK) fuse off).2.1 (opM (l.all nameOK) fuse off).2.2 ∧ ∀ b, b ≠ d → K.get b = H.get b := by
  refine AC.by (n := 40) (rs := [.tmp 4]) tOK fn72 rfl rfl rfl rfl ?_
  have e0 : (PT.ofList .leaf 0 [AV.ptr d 0, v]).get 0 = some (.ptr d 0) := rfl
  have e1 : (PT.ofList .leaf 0 [AV.ptr d 0, v]).get 1 = some v := rfl
  have hc' := hc
  unfold CoreAt at hc'
  with_reducible repeat' (first
 | refine AW.seq ?_
 | refine AW.region ?_
 | refine AOs.nil ?_
 | refine andThen_normal ?_
 | ((first
 | refine AOs.op1E tOK (by with_unfolding_all rfl) ?_
 ); refine Step.mk (by simp only [evOp_move, evOp_assign, aeval, ofVal, PT.get_set, Nat.reduceEqDiff, reduceIte, e0]; rfl) ?_)
 | fail "stop")
  refine AOs.callQ tOK (fs := []) (cs := []) rfl fn37 ok37 rfl (by simp only [List.map_cons, List.map_nil, List.nil_append, List.append_nil, aeval, PT.get_set, Nat.reduceEqDiff, reduceIte] <;> rfl) (made34 N _ hc) ?_
  rintro r K ⟨rfl, rfl⟩
  with_reducible repeat' (first
 | refine AW.seq ?_
 | refine AW.region ?_
 | refine AOs.nil ?_
 | refine AW.skip ?_
 | refine andThen_normal ?_
 | refine AW.condF (by simp only [aeval, PT.get_set, Nat.reduceEqDiff, reduceIte]; rfl) (by first | rfl | decide | assumption) ?_
 | ((first
 | refine AOs.op1E tOK (by with_unfolding_all rfl) ?_
 ); refine Step.mk (by simp only [evOp_move, evOp_not, aeval, PT.get_set, Nat.reduceEqDiff, reduceIte, Bool.not_true, eq_self, e1]; rfl) ?_)
 | fail "stop")
  refine AOs.callQ tOK (fs := []) (cs := []) rfl fn95 ok95 rfl (by simp only [List.map_cons, List.map_nil, List.nil_append, List.append_nil, aeval, PT.get_set, Nat.reduceEqDiff, reduceIte] <;> rfl) (has40 N _ v l hl hb) ?_
  rintro r K1 ⟨rfl, rfl⟩
  cases hok : l.all nameOK
  · with_reducible repeat' (first
 | refine AW.seq ?_
 | refine AW.region ?_
 | refine AOs.nil ?_
 | refine AW.ret ?_
 | refine andThen_normal ?_
 | refine andThen_ret ?_
 | refine AW.condT (by simp only [aeval, PT.get_set, Nat.reduceEqDiff, reduceIte]; rfl) (by first | rfl | decide | assumption) ?_
 | ((first
 | refine AOs.op1E tOK (by with_unfolding_all rfl) ?_
 ); refine Step.mk (by simp only [evOp_assign, aeval, ofVal, Bool.not_false]; rfl) ?_)
 | fail "stop")
    refine fnPost_ret1 (by first | (simp only [PT.get_set, Nat.reduceEqDiff, reduceIte]; rfl) | simp only [PT.get_set, Nat.reduceEqDiff, reduceIte]) ⟨?_, rfl, ?_, fun b hb => rfl⟩
    · simp [opM]
    · simpa [opM] using hc
  · cases off
    · by_cases hf0 : fuse = 0
      · with_reducible repeat' (first
 | refine AW.seq ?_
 | refine AW.region ?_
 | refine AW.block ?_
 | refine AOs.nil ?_
 | refine AW.skip ?_
 | refine AW.ret ?_
 | refine andThen_normal ?_
 | refine andThen_ret ?_
 | refine inBlock_ret ?_
 | refine AW.condT (by simp only [aeval, PT.get_set, Nat.reduceEqDiff, reduceIte]; rfl) (by first | rfl | decide | assumption) ?_
 | refine AW.condF (by simp only [aeval, PT.get_set, Nat.reduceEqDiff, reduceIte]; rfl) (by first | rfl | decide | assumption) ?_
 | ((first
 | refine AOs.op1E tOK (by with_unfolding_all rfl) ?_
 | refine AOs.op0E tOK ?_
 ); refine Step.mk (by simp only [evOp_move, evOp_assign, evOp_nilCheck, evOp_binOp, evOp_fieldAddr, evOp_load, evOp_store, storeAt, one_bool, one_int, aeval, ofVal, PT.get_set, Nat.reduceEqDiff, reduceIte, cellAt, Option.map_some, abin_eql, decide_true, Bool.not_true, List.getElem?_cons_zero, List.getElem?_cons_succ, Nat.zero_add, Nat.reduceLT, Nat.reduceAdd, List.length_cons, List.length_nil, List.set_cons_zero, List.set_cons_succ, AH.get_set, eq_self, Int.reduceNeg, ld3, st3, ld4, st4, fa75_4, fa75_5, e0, hc', hf0]; rfl) ?_)
 | fail "stop")
        refine fnPost_ret1 (by first | (simp only [PT.get_set, Nat.reduceEqDiff, reduceIte]; rfl) | simp only [PT.get_set, Nat.reduceEqDiff, reduceIte]) ⟨?_, rfl, ?_, fun b hb => by simp only [AH.get_set, if_neg hb]⟩
        · simp [opM, hf0]
        · simp [opM, hf0, CoreAt, AH.get_set]
      · by_cases hfp : (0 : Int) < fuse
        · have hw : IntKind.i64.wrap (fuse - 1) = fuse - 1 := wrap64 (by omega) (by omega)
          with_reducible repeat' (first
 | refine AW.seq ?_
 | refine AW.region ?_
 | refine AW.block ?_
 | refine AOs.nil ?_
 | refine AW.skip ?_
 | refine AW.ret ?_
 | refine andThen_normal ?_
 | refine inBlock_normal ?_
 | refine AW.condT (by simp only [aeval, PT.get_set, Nat.reduceEqDiff, reduceIte]; rfl) (by first | rfl | decide | assumption) ?_
 | refine AW.condF (by simp only [aeval, PT.get_set, Nat.reduceEqDiff, reduceIte]; rfl) (by first | rfl | decide | assumption) ?_
 | ((first
 | refine AOs.op1E tOK (by with_unfolding_all rfl) ?_
 | refine AOs.op0E tOK ?_
 ); refine Step.mk (by simp only [evOp_move, evOp_assign, evOp_nilCheck, evOp_binOp, evOp_fieldAddr, evOp_load, evOp_store, storeAt, one_int, aeval, ofVal, PT.get_set, Nat.reduceEqDiff, reduceIte, cellAt, Option.map_some, abin_sub, abin_gtr, abin_eql, decide_true, decide_false, Bool.not_true, List.getElem?_cons_zero, List.getElem?_cons_succ, Nat.zero_add, Nat.reduceLT, Nat.reduceAdd, List.length_cons, List.length_nil, List.set_cons_zero, List.set_cons_succ, eq_self, ld3, st3, ld4, fa75_4, fa75_5, e0, hc', hf0, hfp, hw]; rfl) ?_)
 | fail "stop")
          refine fnPost_ret1 (by first | (simp only [PT.get_set, Nat.reduceEqDiff, reduceIte]; rfl) | simp only [PT.get_set, Nat.reduceEqDiff, reduceIte]) ⟨?_, rfl, ?_, fun b hb => by simp only [AH.get_set, if_neg hb]⟩
          · simp [opM, hf0, hfp]
          · simp [opM, hf0, hfp, CoreAt, AH.get_set]
        · with_reducible repeat' (first
 | refine AW.seq ?_
 | refine AW.region ?_
 | refine AW.block ?_
 | refine AOs.nil ?_
 | refine AW.skip ?_
 | refine AW.ret ?_
 | refine andThen_normal ?_
 | refine inBlock_normal ?_
 | refine AW.condF (by simp only [aeval, PT.get_set, Nat.reduceEqDiff, reduceIte]; rfl) (by first | rfl | decide | assumption) ?_
 | ((first
 | refine AOs.op1E tOK (by with_unfolding_all rfl) ?_
 ); refine Step.mk (by simp only [evOp_move, evOp_assign, evOp_nilCheck, evOp_binOp, evOp_fieldAddr, evOp_load, aeval, ofVal, PT.get_set, Nat.reduceEqDiff, reduceIte, cellAt, Option.map_some, abin_gtr, abin_eql, decide_false, Bool.not_true, List.getElem?_cons_zero, List.getElem?_cons_succ, Nat.zero_add, eq_self, ld3, ld4, fa75_4, fa75_5, e0, hc', hf0, hfp]; rfl) ?_)
 | fail "stop")
          refine fnPost_ret1 (by first | (simp only [PT.get_set, Nat.reduceEqDiff, reduceIte]; rfl) | simp only [PT.get_set, Nat.reduceEqDiff, reduceIte]) ⟨?_, rfl, ?_, fun b hb => rfl⟩
          · simp [opM, hf0, hfp]
          · simpa [opM, hf0, hfp] using hc
    · with_reducible repeat' (first
 | refine AW.seq ?_
 | refine AW.region ?_
 | refine AW.block ?_
 | refine AOs.nil ?_
 | refine AW.skip ?_
 | refine AW.ret ?_
 | refine andThen_normal ?_
 | refine andThen_ret ?_
 | refine inBlock_ret ?_
 | refine AW.condT (by simp only [aeval, PT.get_set, Nat.reduceEqDiff, reduceIte]; rfl) (by first | rfl | decide | assumption) ?_
 | refine AW.condF (by simp only [aeval, PT.get_set, Nat.reduceEqDiff, reduceIte]; rfl) (by first | rfl | decide | assumption) ?_
 | ((first
 | refine AOs.op1E tOK (by with_unfolding_all rfl) ?_
 ); refine Step.mk (by simp only [evOp_move, evOp_assign, evOp_nilCheck, evOp_fieldAddr, evOp_load, aeval, ofVal, PT.get_set, Nat.reduceEqDiff, reduceIte, cellAt, Option.map_some, Bool.not_true, List.getElem?_cons_zero, List.getElem?_cons_succ, Nat.zero_add, eq_self, ld4, fa75_5, e0, hc']; rfl) ?_)
 | fail "stop")
      refine fnPost_ret1 (by first | (simp only [PT.get_set, Nat.reduceEqDiff, reduceIte]; rfl) | simp only [PT.get_set, Nat.reduceEqDiff, reduceIte]) ⟨?_, rfl, ?_, fun b hb => rfl⟩
      · simp [opM]
      · simpa [opM] using hc
end Go.Proofs.YtgihociajfgohaaGreatDoor

open Go Go.AB Go.Proofs
namespace Go.Proofs.YtgihociajfgohaaGreatDoor
set_option maxRecDepth 100000

abbrev Ents := List (Nm × Nat)

/-- A change of names: a file made, called otherwise, removed. -/
inductive Note where
  | make (n : Nm) (f : Nat)
  | ren (a b : Nm)
  | rem (n : Nm)

def Note.do : Note → Ents → Ents
  | .make n f, E => setN E n f
  | .rem n, E => delN E n
  | .ren a b, E => match getN E a with
    | none => E
    | some f => delN (setN E b f) a

/-- A change as a function's value: what it holds lies in boxes. -/
def NoteAt (H : AH) (fv : AV) : Note → Prop
  | .make n f => ∃ bf bn, fv = .func 93 [] [.ptr bf 0, .ptr bn 0] ∧ H.get bf = some (.cells false [.ptr f 0]) ∧ H.get bn = some (.cells false [.str n])
  | .ren a b => ∃ ba bb, fv = .func 94 [] [.ptr ba 0, .ptr bb 0] ∧ H.get ba = some (.cells false [.str a]) ∧ H.get bb = some (.cells false [.str b])
  | .rem n => ∃ bn, fv = .func 80 [] [.ptr bn 0] ∧ H.get bn = some (.cells false [.str n])

/-- One map turned, all else as it was. -/
def MapDone (H K : AH) (m : Nat) (E : Ents) : Prop := (∃ v, K.get m = some (.map (ents E) v) ∧ v < K.next) ∧ H.next ≤ K.next ∧ ∀ b, b ≠ m → K.get b = H.get b

theorem ne_of_get {H : AH} {a b : Nat} {x y : AO} (ha : H.get a = some x) (hb : H.get b = some y) (h : x ≠ y) : a ≠ b := fun e => by
  subst e; rw [ha] at hb; exact h (Option.some.inj hb)

set_option maxHeartbeats 1000000 in
theorem do29 (N : Nat) (H : AH) {m bf bn f : Nat} {n : Nm} {E : Ents} {v : Nat} (hm : H.get m = some (.map (ents E) v)) (hv : v < H.next) (h1 : H.get bf = some (.cells false [.ptr f 0])) (h2 : H.get bn = some (.cells false [.str n])) :
    AC tC N 0 93 [.map m, .ptr bf 0, .ptr bn 0] H fun r K => MapDone H K m (setN E n f) := by
  refine AC.by (n := 7) (rs := []) tOK fn93 rfl rfl rfl rfl ?_
  have e0 : (PT.ofList .leaf 0 [AV.map m, .ptr bf 0, .ptr bn 0]).get 0 = some (.map m) := rfl
  have e1 : (PT.ofList .leaf 0 [AV.map m, .ptr bf 0, .ptr bn 0]).get 1 = some (.ptr bf 0) := rfl
  have e2 : (PT.ofList .leaf 0 [AV.map m, .ptr bf 0, .ptr bn 0]).get 2 = some (.ptr bn 0) := rfl
  with_reducible repeat' (first
 | refine AW.region ?_
 | refine AOs.nil ?_
 | ((first
 | refine AOs.op1E tOK (by with_unfolding_all rfl) ?_
 | refine AOs.op0E tOK ?_
 ); refine Step.mk (by simp only [evOp_move, evOp_load, evOp_mapUpdate, aeval, PT.get_set, Nat.reduceEqDiff, reduceIte, cellAt, mapSetAt, Option.map_some, List.getElem?_cons_zero, eq_self, ld9, ms72, ld85, e0, e1, e2, hm, h1, h2, mset_ents]; rfl) ?_)
 | fail "stop")
  refine fnPost_normal (show _ = some ([] : List AV) from rfl) ⟨⟨_, by rw [AH.get_mk, PT.get_set, if_pos rfl], by show H.next < H.next + 1; omega⟩, by simp, fun b hb => by rw [AH.get_mk, PT.get_set, if_neg hb]; rfl⟩

set_option maxHeartbeats 1000000 in
theorem do47 (N : Nat) (H : AH) {m bn : Nat} {n : Nm} {E : Ents} {v : Nat} (hm : H.get m = some (.map (ents E) v)) (hv : v < H.next) (h2 : H.get bn = some (.cells false [.str n])) :
    AC tC N 0 80 [.map m, .ptr bn 0] H fun r K => MapDone H K m (delN E n) := by
  refine AC.by (n := 5) (rs := []) tOK fn80 rfl rfl rfl rfl ?_
  have e0 : (PT.ofList .leaf 0 [AV.map m, .ptr bn 0]).get 0 = some (.map m) := rfl
  have e1 : (PT.ofList .leaf 0 [AV.map m, .ptr bn 0]).get 1 = some (.ptr bn 0) := rfl
  with_reducible repeat' (first
 | refine AW.region ?_
 | refine AOs.nil ?_
 | ((first
 | refine AOs.op1E tOK (by with_unfolding_all rfl) ?_
 | refine AOs.op0E tOK ?_
 ); refine Step.mk (by simp only [evOp_move, evOp_load, evOp_delete, aeval, PT.get_set, Nat.reduceEqDiff, reduceIte, cellAt, mapDelAt, List.map_cons, List.map_nil, Option.map_some, List.getElem?_cons_zero, eq_self, ld9, md72, e0, e1, hm, h2, mdel_ents]; rfl) ?_)
 | fail "stop")
  exact fnPost_normal (show _ = some ([] : List AV) from rfl) ⟨⟨_, by rw [AH.get_mk, PT.get_set, if_pos rfl], by show H.next < H.next + 1; omega⟩, by simp, fun b hb => by rw [AH.get_mk, PT.get_set, if_neg hb]; rfl⟩

theorem get_mkset (H : AH) (m n b : Nat) (x : AO) : AH.get ⟨H.t.set m x, n⟩ b = if b = m then some x else H.get b := PT.get_set _ _ _ _

set_option maxHeartbeats 1000000 in
theorem do33 (N : Nat) (H : AH) {m ba bb : Nat} {a b : Nm} {E : Ents} {v : Nat} (hm : H.get m = some (.map (ents E) v)) (hv : v < H.next) (h1 : H.get ba = some (.cells false [.str a])) (h2 : H.get bb = some (.cells false [.str b])) :
    AC tC N 0 94 [.map m, .ptr ba 0, .ptr bb 0] H fun r K => MapDone H K m ((Note.ren a b).do E) := by
  refine AC.by (n := 15) (rs := []) tOK fn94 rfl rfl rfl rfl ?_
  have e0 : (PT.ofList .leaf 0 [AV.map m, .ptr ba 0, .ptr bb 0]).get 0 = some (.map m) := rfl
  have e1 : (PT.ofList .leaf 0 [AV.map m, .ptr ba 0, .ptr bb 0]).get 1 = some (.ptr ba 0) := rfl
  have e2 : (PT.ofList .leaf 0 [AV.map m, .ptr ba 0, .ptr bb 0]).get 2 = some (.ptr bb 0) := rfl
  have hne : ¬ ba = m := ne_of_get h1 hm (by intro e; cases e)
  cases hg : getN E a with
  | none =>
    with_reducible repeat' (first
 | refine AW.seq ?_
 | refine AW.region ?_
 | refine AOs.nil ?_
 | refine AW.skip ?_
 | refine andThen_normal ?_
 | refine AW.condF (by simp only [aeval, PT.get_set, Nat.reduceEqDiff, reduceIte]; rfl) (by first | rfl | decide | assumption) ?_
 | ((first
 | refine AOs.op1E tOK (by with_unfolding_all rfl) ?_
 ); refine Step.mk (by simp only [evOp_move, evOp_assign, evOp_binOp, evOp_load, evOp_lookup, aeval, ofVal, PT.get_set, Nat.reduceEqDiff, reduceIte, cellAt, lookAt, Option.map_some, Option.map_none, List.getElem?_cons_zero, eq_self, ld9, lk72, ne85b, e0, e1, hm, h1, mget_ents, hg, Option.getD_none]; rfl) ?_)
 | fail "stop")
    refine fnPost_normal (show _ = some ([] : List AV) from rfl) ⟨⟨v, by simp only [Note.do, hg]; exact hm, hv⟩, Nat.le_refl _, fun b hb => rfl⟩
  | some f =>
    with_reducible repeat' (first
 | refine AW.seq ?_
 | refine AW.region ?_
 | refine AOs.nil ?_
 | refine andThen_normal ?_
 | refine AW.condT (by simp only [aeval, PT.get_set, Nat.reduceEqDiff, reduceIte]; rfl) (by first | rfl | decide | assumption) ?_
 | ((first
 | refine AOs.op1E tOK (by with_unfolding_all rfl) ?_
 | refine AOs.op0E tOK ?_
 ); refine Step.mk (by simp only [evOp_move, evOp_assign, evOp_binOp, evOp_load, evOp_lookup, evOp_mapUpdate, evOp_delete, aeval, ofVal, PT.get_set, Nat.reduceEqDiff, reduceIte, cellAt, lookAt, mapSetAt, mapDelAt, List.map_cons, List.map_nil, Option.map_some, List.getElem?_cons_zero, eq_self, ld9, md72, ms72, lk72, ne85a, e0, e1, e2, hm, h1, h2, mget_ents, hg, Option.getD_some, get_mkset, hne, mset_ents, mdel_ents]; rfl) ?_)
 | fail "stop")
    exact fnPost_normal (show _ = some ([] : List AV) from rfl) ⟨⟨H.next + 1, by simp only [AH.get_mk, PT.get_set, if_true, Note.do, hg], by show H.next + 1 < H.next + 1 + 1; omega⟩, by show H.next ≤ H.next + 1 + 1; omega, fun b hb => by simp only [AH.get_mk, PT.get_set, if_neg hb]; rfl⟩

/-- A change is done to a map. -/
theorem note_do (N : Nat) (H : AH) {m : Nat} {E : Ents} {v : Nat} (hm : H.get m = some (.map (ents E) v)) (hv : v < H.next) {fv : AV} {nt : Note} (hn : NoteAt H fv nt) :
    ∃ f cs g, fv = .func f [] cs ∧ tC.fn f = some g ∧ fnOk g = true ∧ AC tC N 0 f (.map m :: cs) H fun r K => MapDone H K m (nt.do E) := by
  cases nt with
  | make n f =>
    obtain ⟨bf, bn, rfl, h1, h2⟩ := hn
    exact ⟨93, _, _, rfl, fn93, ok93, do29 N H hm hv h1 h2⟩
  | ren a b =>
    obtain ⟨ba, bb, rfl, h1, h2⟩ := hn
    exact ⟨94, _, _, rfl, fn94, ok94, do33 N H hm hv h1 h2⟩
  | rem n =>
    obtain ⟨bn, rfl, h2⟩ := hn
    exact ⟨80, _, _, rfl, fn80, ok80, do47 N H hm hv h2⟩
end Go.Proofs.YtgihociajfgohaaGreatDoor

open Go Go.AB Go.Proofs
namespace Go.Proofs.YtgihociajfgohaaGreatDoor
set_option maxRecDepth 100000

theorem ar72 (H : AH) (m : Nat) : arange tC H 72 (.map m) = rangeMapAt H m := arange_map ti72 rfl H m

theorem ents_keys (E : Ents) : (ents E).map (·.1) = E.map (·.1) := by simp [ents]

set_option maxHeartbeats 1000000 in
theorem used30 (N : Nat) (H : AH) {d : Nat} {room : Int} {nb sb : Nat} {cv : AV} {fuse : Int} {off : Bool} (hc : CoreAt H d room nb sb cv fuse off) {E : Ents} {v : Nat} (hm : H.get nb = some (.map (ents E) v)) (hv : v < H.next) (g : Nm → Nat)
    (hg : ∀ k f, getN E k = some f → ∃ bv s, H.get f = some (.cells false [bv, s]) ∧ lenOfAV bv = some (g k)) (hb : lenSum g (E.map (·.1)) < 4611686018427387904) :
    AC tC N 0 55 [.ptr d 0] H fun r K => r = .int .i64 (lenSum g (E.map (·.1)) : Nat) ∧ K = H := by
  refine AC.wf0 fun hwf => AC.quiet rfl ?_
  refine AC.by (n := 23) (rs := [.tmp 2]) tOK fn55 rfl rfl rfl rfl ?_
  have e0 : (PT.ofList .leaf 0 [AV.ptr d 0]).get 0 = some (.ptr d 0) := rfl
  have hc' := hc
  unfold CoreAt at hc'
  have hvb : Nat.blt v H.next = true := by rw [nblt]; exact decide_eq_true hv
  with_reducible repeat' (first
 | refine AW.seq ?_
 | refine AW.region ?_
 | refine AW.block ?_
 | refine AOs.nil ?_
 | refine andThen_normal ?_
 | ((first
 | refine AOs.op1E tOK (by with_unfolding_all rfl) ?_
 ); refine Step.mk (by simp only [evOp_move, evOp_assign, evOp_nilCheck, evOp_fieldAddr, evOp_load, evOp_range, rangeMapAt, aeval, ofVal, PT.get_set, Nat.reduceEqDiff, reduceIte, cellAt, Option.map_some, cond_true, decide_true, List.getElem?_cons_zero, List.getElem?_cons_succ, Nat.zero_add, nblt, eq_self, ld72, fa75_1, e0, hc', hm, ar72, hv]; rfl) ?_)
 | fail "stop")
  have hnb := hwf _ _ hm
  refine AW.loop (fun m T K => (∀ b o, H.get b = some o → K.get b = some o) ∧ ∃ (left : List Nm) (cur : Option Nm) (acc : Nat), m = left.length ∧ T.get 10 = some (.ptr H.next 0) ∧ T.get 3 = some (.int .i64 acc) ∧ K.get H.next = some (.miter nb left v cur) ∧ acc + lenSum g left = lenSum g (E.map (·.1))) ?_ ((ents E).map (·.1)).length ⟨fun b o h => by rw [AH.get_alloc, if_neg (by have := hwf _ _ h; omega)]; exact h, (ents E).map (·.1), none, 0, rfl, by simp [PT.get_set], by simp [PT.get_set], by rw [AH.get_alloc, if_pos rfl], by rw [ents_keys]; simp⟩
  rintro m T K ⟨hk, left, cur, acc, rfl, g10, g3, hit, hsum⟩
  refine AW.seq ?_
  refine AW.region ?_
  refine AOs.nextM (by simp only [aeval, g10]) hit (hk _ _ hm) (by rfl) ?_ ?_
  · rintro rfl
    with_reducible repeat' (first
 | refine AW.seq ?_
 | refine AW.region ?_
 | refine AOs.nil ?_
 | refine AW.exit ?_
 | refine AW.ret ?_
 | refine andThen_normal ?_
 | refine andThen_exit ?_
 | refine inBlock_hit ?_
 | refine AW.condF (by simp only [aeval, PT.get_set, Nat.reduceEqDiff, reduceIte]; rfl) (by first | rfl | decide | assumption) ?_
 | ((first
 | refine AOs.op1E tOK (by with_unfolding_all rfl) ?_
 ); refine Step.mk (by simp only [evOp_move, evOp_assign, evOp_extract, aeval, PT.get_set, Nat.reduceEqDiff, reduceIte, Option.map_some, List.getElem?_cons_zero, eq_self, g3]; rfl) ?_)
 | fail "stop")
    refine fnPost_ret1 (by first | (simp only [PT.get_set, Nat.reduceEqDiff, reduceIte]; rfl) | simp only [PT.get_set, Nat.reduceEqDiff, reduceIte]) ⟨?_, hk⟩
    simp [lenSum] at hsum ⊢
    omega
  · intro k x hkl hx
    rw [mget_ents] at hx
    obtain ⟨f, hf, rfl⟩ := Option.map_eq_some_iff.1 hx
    obtain ⟨bv, s, hfc, hlen⟩ := hg k f hf
    have hfn := hwf _ _ hfc
    have hfc2 := hk _ _ hfc
    have hm2 := hk _ _ hm
    have hne1 : ¬ nb = H.next := by omega
    have hne2 : ¬ f = H.next := by omega
    have he := lenSum_erase (g := g) hkl
    with_reducible repeat' (first
 | refine AW.seq ?_
 | refine AW.region ?_
 | refine AW.block ?_
 | refine AOs.nil ?_
 | refine AW.skip ?_
 | refine andThen_normal ?_
 | refine inBlock_normal ?_
 | refine AW.condT (by simp only [aeval, PT.get_set, Nat.reduceEqDiff, reduceIte]; rfl) (by first | rfl | decide | assumption) ?_
 | ((first
 | refine AOs.op1E tOK (by with_unfolding_all rfl) ?_
 ); refine Step.mk (by simp only [evOp_move, evOp_assign, evOp_nilCheck, evOp_binOp, evOp_fieldAddr, evOp_extract, evOp_load, evOp_len, evOp_entry, aeval, PT.get_set, Nat.reduceEqDiff, reduceIte, cellAt, Option.map_some, abin_add, cond_true, decide_true, List.getElem?_cons_zero, List.getElem?_cons_succ, Nat.add_zero, nbeq, AH.get_set, eq_self, al32, ld32, fa87_0, g10, g3, hit, hm2, hne1, hne2, aentry, mget_ents, hf, hfc2, hlen]; rfl) ?_)
 | fail "stop")
    refine ⟨(left.erase k).length, ?_, ?_, left.erase k, some k, acc + g k, rfl, by simp only [PT.get_set, Nat.reduceEqDiff, reduceIte, g10], ?_, by rw [AH.get_set, if_pos rfl], by omega⟩
    · have := List.length_erase_of_mem hkl
      have : 0 < left.length := List.length_pos_of_mem hkl
      omega
    · intro b o h
      rw [AH.get_set, if_neg (by have := hwf _ _ h; omega)]
      exact hk b o h
    · simp only [PT.get_set, Nat.reduceEqDiff, reduceIte]
      rw [wrap64 (by omega) (by omega)]
      simp
end Go.Proofs.YtgihociajfgohaaGreatDoor

open Go Go.AB Go.Proofs
namespace Go.Proofs.YtgihociajfgohaaGreatDoor
set_option maxRecDepth 100000

def NotesAt (H : AH) (cv : AV) (l : List Note) : Prop :=
  (cv = .nils ∧ l = []) ∨ ∃ cb ws, cv = .slice cb 0 l.length (.lo l.length) 1 ∧ l ≠ [] ∧ H.get cb = some (.cells false ws) ∧ ws.length = l.length ∧ ∀ (i : Nat) nt, l[i]? = some nt → ∃ fv, ws[i]? = some fv ∧ NoteAt H fv nt

theorem NotesAt.one {H : AH} {cv : AV} {l : List Note} (h : NotesAt H cv l) : cv.one = true := by
  rcases h with ⟨rfl, _⟩ | ⟨cb, ws, rfl, _⟩ <;> rfl

/-! What kind of thing an object is. -/
def isU8 : AV → Bool
  | .int .u8 _ => true
  | _ => false
def kindV : List AV → Nat
  | [] => 4
  | .int .. :: _ => 0
  | .func .. :: _ => 2
  | .str _ :: _ => 3
  | .ptr .. :: _ => 3
  | _ => 5
def kind : AO → Nat
  | .map .. => 1
  | .cells _ vs => if vs.any isU8 then 4 else kindV vs
  | _ => 7

theorem kind_map (ps : List (List UInt8 × AV)) (v : Nat) : kind (.map ps v) = 1 := rfl
theorem ne_of_kind {H : AH} {a b : Nat} {x y : AO} (ha : H.get a = some x) (hb : H.get b = some y) (h : kind x ≠ kind y) : a ≠ b := ne_of_get ha hb fun e => h (by rw [e])

theorem NoteAt.keep {H K : AH} {fv : AV} {nt : Note} (h : NoteAt H fv nt) (hk : ∀ b x, H.get b = some x → kind x = 3 → K.get b = H.get b) : NoteAt K fv nt := by
  cases nt with
  | make n f =>
    obtain ⟨bf, bn, rfl, h1, h2⟩ := h
    exact ⟨bf, bn, rfl, by rw [hk _ _ h1 rfl]; exact h1, by rw [hk _ _ h2 rfl]; exact h2⟩
  | ren a b =>
    obtain ⟨bf, bn, rfl, h1, h2⟩ := h
    exact ⟨bf, bn, rfl, by rw [hk _ _ h1 rfl]; exact h1, by rw [hk _ _ h2 rfl]; exact h2⟩
  | rem n =>
    obtain ⟨bn, rfl, h2⟩ := h
    exact ⟨bn, rfl, by rw [hk _ _ h2 rfl]; exact h2⟩

theorem NoteAt.func {H : AH} {fv : AV} {nt : Note} (h : NoteAt H fv nt) : ∃ f cs, fv = .func f [] cs := by
  cases nt with
  | make n f => obtain ⟨_, _, rfl, _⟩ := h; exact ⟨_, _, rfl⟩
  | ren a b => obtain ⟨_, _, rfl, _⟩ := h; exact ⟨_, _, rfl⟩
  | rem n => obtain ⟨_, rfl, _⟩ := h; exact ⟨_, _, rfl⟩

theorem NotesAt.ofKind {H : AH} {cv : AV} {l : List Note} (h : NotesAt H cv l) {b o n z : Nat} {c : ACap} (e : cv = .slice b o n c z) : ∃ ws, H.get b = some (.cells false ws) ∧ kind (.cells false ws) = 2 := by
  rcases h with ⟨rfl, _⟩ | ⟨cb, ws, rfl, h0, h1, h2, h3⟩
  · cases e
  · cases e
    have hall : ∀ (i : Nat) x, ws[i]? = some x → ∃ f cs, x = .func f [] cs := fun i x hx => by
      have hi := (List.getElem?_eq_some_iff.1 hx).1
      obtain ⟨fv, h4, h5⟩ := h3 i _ (List.getElem?_eq_getElem (by omega))
      rw [hx] at h4; cases h4
      exact h5.func
    have hno : ws.any isU8 = false := by
      rw [List.any_eq_false]
      intro x hx
      obtain ⟨i, hi, rfl⟩ := List.getElem_of_mem hx
      obtain ⟨f, cs, e⟩ := hall i _ (List.getElem?_eq_getElem hi)
      rw [e]; simp [isU8]
    refine ⟨ws, h1, ?_⟩
    simp only [YtgihociajfgohaaGreatDoor.kind, hno]
    cases ws with
    | nil => exact absurd (List.eq_nil_of_length_eq_zero h2.symm) h0
    | cons x ws =>
      obtain ⟨f, cs, rfl⟩ := hall 0 x rfl
      rfl

theorem core_kind {H : AH} {room : Int} {nb sb : Nat} {cv : AV} {fuse : Int} {off : Bool} {l : List Note} (h : NotesAt H cv l) : kind (.cells false [.int .i64 room, .map nb, .map sb, cv, .int .i64 fuse, .bool off]) = 0 := by
  rcases h with ⟨rfl, _⟩ | ⟨cb, ws, rfl, _⟩ <;> rfl

theorem bs73_1 (F : Fns) (H : AH) (ev : Operand → AV) (dst : Option Tmp) (ty : TypeId) (pos : String) (after : Array Edge) (guard : Option (Nat × Bool)) (x : Operand) (hv : (ev x).one = true) :
    evOp tC F H ev { dst, op := .buildSlice 73 1 ⟨[(0, x)]⟩, type := ty, pos, after, guard } = some (.slice H.next 0 1 (.ex 1) 1, H.alloc (.cells false [ev x])) := evOp_buildSlice1 ti73 rfl ti104 rfl rfl rfl hv
theorem bs37_1 (F : Fns) (H : AH) (ev : Operand → AV) (dst : Option Tmp) (ty : TypeId) (pos : String) (after : Array Edge) (guard : Option (Nat × Bool)) (x : Operand) (hv : (ev x).one = true) :
    evOp tC F H ev { dst, op := .buildSlice 37 1 ⟨[(0, x)]⟩, type := ty, pos, after, guard } = some (.slice H.next 0 1 (.ex 1) 1, H.alloc (.cells false [ev x])) := evOp_buildSlice1 ti37 rfl ti9 rfl rfl rfl hv

/-- What a change leaves. -/
structure Changed (H K : AH) (d room : _) (nb sb : Nat) (cv : AV) (fuse : Int) (off : Bool) (E' : Ents) (l' : List Note) : Prop where
  core : ∃ cv', CoreAt K d room nb sb cv' fuse off ∧ NotesAt K cv' l' ∧ ∀ cb o n c z, cv' = .slice cb o n c z → H.next ≤ cb
  now : ∃ v, K.get nb = some (.map (ents E') v) ∧ v < K.next
  next : H.next ≤ K.next
  rest : ∀ b, b < H.next → b ≠ d → b ≠ nb → (∀ o n c z, cv ≠ .slice b o n c z) → K.get b = H.get b

set_option maxHeartbeats 1000000 in
theorem change28 (N : Nat) (H : AH) {d : Nat} {room : Int} {nb sb : Nat} {cv : AV} {fuse : Int} {off : Bool} (hc : CoreAt H d room nb sb cv fuse off) {E : Ents} {v : Nat} (hm : H.get nb = some (.map (ents E) v)) (hv : v < H.next)
    {fv : AV} {nt : Note} (hn : NoteAt H fv nt) {l : List Note} (hl : NotesAt H cv l) (hlen : l.length ≤ 1000000) :
    AC tC N 0 79 [.ptr d 0, fv] H fun r K => Changed H K d room nb sb cv fuse off (nt.do E) (l ++ [nt]) := by
  refine AC.wf0 fun hwf => ?_
  refine AC.by (n := 20) (rs := []) tOK fn79 rfl rfl rfl rfl ?_
  have e0 : (PT.ofList .leaf 0 [AV.ptr d 0, fv]).get 0 = some (.ptr d 0) := rfl
  have e1 : (PT.ofList .leaf 0 [AV.ptr d 0, fv]).get 1 = some fv := rfl
  have hc' := hc
  unfold CoreAt at hc'
  obtain ⟨f, cs, g, rfl, hfn, hok, hac⟩ := note_do N H hm hv hn
  have hdn : ¬ d = nb := ne_of_get hc' hm (by simp)
  with_reducible repeat' (first
 | refine AW.seq ?_
 | refine AW.region ?_
 | ((first
 | refine AOs.op1E tOK (by with_unfolding_all rfl) ?_
 ); refine Step.mk (by simp only [evOp_move, evOp_nilCheck, evOp_fieldAddr, evOp_load, aeval, PT.get_set, Nat.reduceEqDiff, reduceIte, cellAt, Option.map_some, List.getElem?_cons_zero, List.getElem?_cons_succ, Nat.zero_add, eq_self, ld72, fa75_1, e0, e1, hc']; rfl) ?_)
 | fail "stop")
  refine AOs.callQ tOK (fs := []) (cs := cs) (by simp only [aeval, PT.get_set, Nat.reduceEqDiff, reduceIte]) hfn hok rfl (by simp only [List.map_cons, List.map_nil, List.nil_append, List.cons_append, aeval, PT.get_set, Nat.reduceEqDiff, reduceIte] <;> rfl) hac ?_
  rintro r K ⟨⟨v', hm', hv'⟩, hnx, hk⟩
  have hcK : K.get d = some (.cells false [.int .i64 room, .map nb, .map sb, cv, .int .i64 fuse, .bool off]) := by rw [hk d hdn]; exact hc'
  have hwd := hwf _ _ hc'
  have hwn := hwf _ _ hm
  have hnK : NoteAt K (.func f [] cs) nt := hn.keep fun b x hb hx => hk b (ne_of_kind hb hm (by rw [hx, kind_map]; decide))
  have hfin : ∀ L : AH, L.next = K.next + 2 → L.get d = some (.cells false [.int .i64 room, .map nb, .map sb, .slice (K.next + 1) 0 (l.length + 1) (.lo (l.length + 1)) 1, .int .i64 fuse, .bool off]) →
      (∀ b, b < K.next → b ≠ d → (∀ o n c z, cv ≠ .slice b o n c z) → L.get b = K.get b) →
      (∃ ws, L.get (K.next + 1) = some (.cells false (ws ++ [.func f [] cs])) ∧ ws.length = l.length ∧ ∀ (i : Nat) nt, l[i]? = some nt → ∃ fv, ws[i]? = some fv ∧ NoteAt H fv nt) → Changed H L d room nb sb cv fuse off (nt.do E) (l ++ [nt]) := by
    rintro L hL1 hL2 hL3 ⟨ws, hL4, hL5, hL6⟩
    have hcv : ∀ b x, H.get b = some x → kind x ≠ 2 → ∀ o n c z, cv ≠ .slice b o n c z := fun b x hb h1 o n c z e => by
      obtain ⟨ws', h3, h4⟩ := hl.ofKind e
      rw [hb] at h3; cases h3
      exact h1 h4
    have hbox : ∀ b x, H.get b = some x → kind x = 3 → L.get b = H.get b := fun b x hb hx => by
      have hw := hwf _ _ hb
      rw [hL3 b (by omega) (ne_of_kind hb hc' (by rw [hx, core_kind hl]; decide)) (hcv b x hb (by omega)), hk b (ne_of_kind hb hm (by rw [hx, kind_map]; decide))]
    refine ⟨⟨_, hL2, .inr ⟨K.next + 1, ws ++ [.func f [] cs], by simp, by simp, hL4, by simp [hL5], fun i x hx => ?_⟩, fun cb o n c z e => by cases e; omega⟩, ⟨v', ?_, by omega⟩, by omega, fun b hb h1 h2 h3 => ?_⟩
    · by_cases hi : i < l.length
      · rw [List.getElem?_append_left hi] at hx
        obtain ⟨fv, h4, h5⟩ := hL6 i x hx
        exact ⟨fv, by rw [List.getElem?_append_left (by omega)]; exact h4, h5.keep hbox⟩
      · rw [List.getElem?_append_right (by omega)] at hx
        have hi2 : i - l.length = 0 := by
          have := (List.getElem?_eq_some_iff.1 hx).1
          simp at this; omega
        rw [hi2] at hx
        simp at hx
        subst hx
        exact ⟨_, by rw [List.getElem?_append_right (by omega), show i - ws.length = 0 by omega]; rfl, hn.keep hbox⟩
    · rw [hL3 nb (by omega) (fun e => hdn e.symm) (hcv nb _ hm (by rw [kind_map]; decide))]; exact hm'
    · rw [hL3 b (by omega) h1 h3, hk b h2]
  have n1 : ¬ d = K.next := by omega
  have n2 : ¬ d = K.next + 1 := by omega
  have n3 : ¬ K.next + 1 = d := by omega
  have hl0 := hl
  rcases hl with ⟨rfl, rfl⟩ | ⟨cb, ws, rfl, hl1, hcb, hwl, hws⟩
  · have hap : aappend tC (K.alloc (.cells false [.func f [] cs])) [73, 73] [.nils, .slice K.next 0 1 (.ex 1) 1] = some (.slice (K.next + 1) 0 1 (.lo 1) 1, (K.alloc (.cells false [.func f [] cs])).alloc (.cells false [.func f [] cs])) :=
      aappend_nil1 (C := tC) (v := .func f [] cs) ti73 rfl ti104 rfl rfl rfl (by rw [AH.get_alloc, if_pos rfl]) rfl rfl (by decide)
    with_reducible repeat' (first
 | refine AW.region ?_
 | refine AOs.nil ?_
 | refine andThen_normal ?_
 | ((first
 | refine AOs.op1E tOK (by with_unfolding_all rfl) ?_
 | refine AOs.op0E tOK ?_
 ); refine Step.mk (by simp only [evOp_move, evOp_nilCheck, evOp_fieldAddr, evOp_load, evOp_store, evOp_append, storeAt, one_slice, one_func, aeval, PT.get_set, Nat.reduceEqDiff, reduceIte, cellAt, List.map_cons, List.map_nil, Option.map_some, List.getElem?_cons_zero, List.getElem?_cons_succ, Nat.zero_add, Nat.reduceLT, Nat.reduceAdd, List.length_cons, List.length_nil, List.set_cons_zero, List.set_cons_succ, eq_self, ld73, st73, fa75_3, e0, e1, hcK, bs73_1, hap, AH.get_alloc, AH.next_alloc, n1, n2]; rfl) ?_)
 | fail "stop")
    refine fnPost_normal (show _ = some ([] : List AV) from rfl) (hfin _ rfl (by rw [AH.get_set, if_pos rfl]; rfl) (fun b h1 h2 h3 => ?_) ⟨[], ?_, rfl, fun i nt h => by simp at h⟩)
    · rw [AH.get_set, if_neg h2, AH.get_alloc, if_neg (by simp; omega), AH.get_alloc, if_neg (by omega)]
    · rw [AH.get_set, if_neg n3, AH.get_alloc, if_pos (by simp)]; rfl
  · have hcbw := hwf _ _ hcb
    obtain ⟨ws', h3, h4⟩ := hl0.ofKind rfl
    rw [hcb] at h3; cases h3
    have c1 : ¬ cb = nb := ne_of_kind hcb hm (by rw [kind_map, h4]; decide)
    have c2 : ¬ cb = d := ne_of_kind hcb hc' (by rw [core_kind hl0, h4]; decide)
    have c3 : ¬ d = cb := fun e => c2 e.symm
    have hap : aappend tC (K.alloc (.cells false [.func f [] cs])) [73, 73] [.slice cb 0 l.length (.lo l.length) 1, .slice K.next 0 1 (.ex 1) 1] = some (.slice (K.next + 1) 0 (l.length + 1) (.lo (l.length + 1)) 1, ((K.alloc (.cells false [.func f [] cs])).del cb).alloc (.cells false (ws ++ [.func f [] cs]))) :=
      aappend_lo1 (C := tC) (v := .func f [] cs) ti73 rfl ti104 rfl rfl rfl (by rw [AH.get_alloc, if_pos rfl]) rfl rfl (by rw [AH.get_alloc, if_neg (by omega), hk cb c1]; exact hcb) hwl (by show (2 * (l.length + 1) + 1024) * 8 ≤ _; omega) (by omega)
    with_reducible repeat' (first
 | refine AW.region ?_
 | refine AOs.nil ?_
 | refine andThen_normal ?_
 | ((first
 | refine AOs.op1E tOK (by with_unfolding_all rfl) ?_
 | refine AOs.op0E tOK ?_
 ); refine Step.mk (by simp only [evOp_move, evOp_nilCheck, evOp_fieldAddr, evOp_load, evOp_store, evOp_append, storeAt, one_slice, one_func, aeval, PT.get_set, Nat.reduceEqDiff, reduceIte, cellAt, List.map_cons, List.map_nil, Option.map_some, List.getElem?_cons_zero, List.getElem?_cons_succ, Nat.zero_add, Nat.reduceLT, Nat.reduceAdd, List.length_cons, List.length_nil, List.set_cons_zero, List.set_cons_succ, eq_self, ld73, st73, fa75_3, e0, e1, hcK, bs73_1, hap, AH.get_alloc, AH.get_del, AH.next_alloc, AH.next_del, n1, n2, c3]; rfl) ?_)
 | fail "stop")
    refine fnPost_normal (show _ = some ([] : List AV) from rfl) (hfin _ rfl (by rw [AH.get_set, if_pos rfl]) (fun b h1 h2 h3 => ?_) ⟨ws, ?_, hwl, hws⟩)
    · rw [AH.get_set, if_neg h2, AH.get_alloc, if_neg (by simp; omega), AH.get_del, if_neg (fun e => h3 _ _ _ _ (by rw [e])), AH.get_alloc, if_neg (by omega)]
    · rw [AH.get_set, if_neg n3, AH.get_alloc, if_pos (by simp)]
end Go.Proofs.YtgihociajfgohaaGreatDoor
