/- Group: types; great sums, bags in trees, what a cell tells; no condition. -/
import Derived.Test.YtapokkpdgfpokaaGreatCh6
import Derived.Test.YtapokkpdgfpokaaGreatCh1
import Derived.Test.YtapokkpdgfpokaaGreatHeap6
import GoSem.Extern.MathBitsCarry
set_option linter.unusedSimpArgs false
set_option linter.unusedVariables false
set_option linter.defProp false
set_option maxRecDepth 100000
open Go Go.AB Go.Proofs
namespace Go.Proofs.YtapokkpdgfpokaaGreat
theorem fn4 : tC.fn 4 = some Tryz.f4 := by kernel_rfl
theorem fn17 : tC.fn 17 = some Tryz.f17 := by kernel_rfl
theorem ok17 : fnOk Tryz.f17 = true := by kernel_rfl
theorem fn18 : tC.fn 18 = some Tryz.f18 := by kernel_rfl
theorem ok18 : fnOk Tryz.f18 = true := by kernel_rfl
theorem fn19 : tC.fn 19 = some Tryz.f19 := by kernel_rfl
theorem ok19 : fnOk Tryz.f19 = true := by kernel_rfl
theorem fn20 : tC.fn 20 = some Tryz.f20 := by kernel_rfl
theorem ok20 : fnOk Tryz.f20 = true := by kernel_rfl
theorem fn21 : tC.fn 21 = some Tryz.f21 := by kernel_rfl
theorem ok21 : fnOk Tryz.f21 = true := by kernel_rfl
theorem fn22 : tC.fn 22 = some Tryz.f22 := by kernel_rfl
theorem ok22 : fnOk Tryz.f22 = true := by kernel_rfl
theorem fn23 : tC.fn 23 = some Tryz.f23 := by kernel_rfl
theorem ok23 : fnOk Tryz.f23 = true := by kernel_rfl
theorem fn43 : tC.fn 43 = some Tryz.f43 := by kernel_rfl
theorem ok43 : fnOk Tryz.f43 = true := by kernel_rfl
theorem fn44 : tC.fn 44 = some Tryz.f44 := by kernel_rfl
theorem ok44 : fnOk Tryz.f44 = true := by kernel_rfl
theorem fn45 : tC.fn 45 = some Tryz.f45 := by kernel_rfl
theorem ok45 : fnOk Tryz.f45 = true := by kernel_rfl
theorem fn46 : tC.fn 46 = some Tryz.f46 := by kernel_rfl
theorem ok46 : fnOk Tryz.f46 = true := by kernel_rfl
theorem fn47 : tC.fn 47 = some Tryz.f47 := by kernel_rfl
theorem ok47 : fnOk Tryz.f47 = true := by kernel_rfl
theorem fn48 : tC.fn 48 = some Tryz.f48 := by kernel_rfl
theorem ok48 : fnOk Tryz.f48 = true := by kernel_rfl
theorem fn49 : tC.fn 49 = some Tryz.f49 := by kernel_rfl
theorem ok49 : fnOk Tryz.f49 = true := by kernel_rfl
theorem fn50 : tC.fn 50 = some Tryz.f50 := by kernel_rfl
theorem ok50 : fnOk Tryz.f50 = true := by kernel_rfl
theorem fn51 : tC.fn 51 = some Tryz.f51 := by kernel_rfl
theorem ok51 : fnOk Tryz.f51 = true := by kernel_rfl
theorem fn52 : tC.fn 52 = some Tryz.f52 := by kernel_rfl
theorem ok52 : fnOk Tryz.f52 = true := by kernel_rfl
theorem fn53 : tC.fn 53 = some Tryz.f53 := by kernel_rfl
theorem ok53 : fnOk Tryz.f53 = true := by kernel_rfl
theorem fn54 : tC.fn 54 = some Tryz.f54 := by kernel_rfl
theorem ok54 : fnOk Tryz.f54 = true := by kernel_rfl
theorem fn55 : tC.fn 55 = some Tryz.f55 := by kernel_rfl
theorem ok55 : fnOk Tryz.f55 = true := by kernel_rfl
theorem fn57 : tC.fn 57 = some Tryz.f57 := by kernel_rfl
theorem ok57 : fnOk Tryz.f57 = true := by kernel_rfl
theorem fn56 : tC.fn 56 = some Tryz.f56 := by kernel_rfl
theorem fn58 : tC.fn 58 = some Tryz.f58 := by kernel_rfl
theorem fn59 : tC.fn 59 = some Tryz.f59 := by kernel_rfl
theorem ok59 : fnOk Tryz.f59 = true := by kernel_rfl
theorem fn60 : tC.fn 60 = some Tryz.f60 := by kernel_rfl
theorem ok60 : fnOk Tryz.f60 = true := by kernel_rfl
theorem fn61 : tC.fn 61 = some Tryz.f61 := by kernel_rfl
theorem ok61 : fnOk Tryz.f61 = true := by kernel_rfl
theorem fn74 : tC.fn 74 = some Tryz.f74 := by kernel_rfl
theorem ok74 : fnOk Tryz.f74 = true := by kernel_rfl
theorem fn75 : tC.fn 75 = some Tryz.f75 := by kernel_rfl
theorem ok75 : fnOk Tryz.f75 = true := by kernel_rfl
theorem fn76 : tC.fn 76 = some Tryz.f76 := by kernel_rfl
theorem ok76 : fnOk Tryz.f76 = true := by kernel_rfl
theorem fn77 : tC.fn 77 = some Tryz.f77 := by kernel_rfl
theorem ok77 : fnOk Tryz.f77 = true := by kernel_rfl
theorem fn78 : tC.fn 78 = some Tryz.f78 := by kernel_rfl
theorem ok78 : fnOk Tryz.f78 = true := by kernel_rfl
theorem fn79 : tC.fn 79 = some Tryz.f79 := by kernel_rfl
theorem ok79 : fnOk Tryz.f79 = true := by kernel_rfl
theorem fn80 : tC.fn 80 = some Tryz.f80 := by kernel_rfl
theorem ok80 : fnOk Tryz.f80 = true := by kernel_rfl
theorem fn82 : tC.fn 82 = some Tryz.f82 := by kernel_rfl
theorem ok82 : fnOk Tryz.f82 = true := by kernel_rfl
theorem fn83 : tC.fn 83 = some Tryz.f83 := by kernel_rfl
theorem ok83 : fnOk Tryz.f83 = true := by kernel_rfl
theorem fn84 : tC.fn 84 = some Tryz.f84 := by kernel_rfl
theorem ok84 : fnOk Tryz.f84 = true := by kernel_rfl
theorem fn85 : tC.fn 85 = some Tryz.f85 := by kernel_rfl
theorem ok85 : fnOk Tryz.f85 = true := by kernel_rfl
theorem fn86 : tC.fn 86 = some Tryz.f86 := by kernel_rfl
theorem ok86 : fnOk Tryz.f86 = true := by kernel_rfl
theorem fn93 : tC.fn 93 = some Tryz.f93 := by kernel_rfl
theorem ok93 : fnOk Tryz.f93 = true := by kernel_rfl
theorem fn94 : tC.fn 94 = some Tryz.f94 := by kernel_rfl
theorem ok94 : fnOk Tryz.f94 = true := by kernel_rfl
theorem fn95 : tC.fn 95 = some Tryz.f95 := by kernel_rfl
theorem ok95 : fnOk Tryz.f95 = true := by kernel_rfl
theorem fn100 : tC.fn 100 = some Tryz.f100 := by kernel_rfl
theorem ok100 : fnOk Tryz.f100 = true := by kernel_rfl
theorem fn101 : tC.fn 101 = some Tryz.f101 := by kernel_rfl
theorem ok101 : fnOk Tryz.f101 = true := by kernel_rfl
theorem fn102 : tC.fn 102 = some Tryz.f102 := by kernel_rfl
theorem ok102 : fnOk Tryz.f102 = true := by kernel_rfl
theorem fn103 : tC.fn 103 = some Tryz.f103 := by kernel_rfl
theorem ok103 : fnOk Tryz.f103 = true := by kernel_rfl
theorem fn104 : tC.fn 104 = some Tryz.f104 := by kernel_rfl
theorem ok104 : fnOk Tryz.f104 = true := by kernel_rfl
theorem fn105 : tC.fn 105 = some Tryz.f105 := by kernel_rfl
theorem ok105 : fnOk Tryz.f105 = true := by kernel_rfl
theorem fn106 : tC.fn 106 = some Tryz.f106 := by kernel_rfl
theorem ok106 : fnOk Tryz.f106 = true := by kernel_rfl
theorem fn107 : tC.fn 107 = some Tryz.f107 := by kernel_rfl
theorem ok107 : fnOk Tryz.f107 = true := by kernel_rfl
theorem fn108 : tC.fn 108 = some Tryz.f108 := by kernel_rfl
theorem ok108 : fnOk Tryz.f108 = true := by kernel_rfl
theorem fn109 : tC.fn 109 = some Tryz.f109 := by kernel_rfl
theorem ok109 : fnOk Tryz.f109 = true := by kernel_rfl
theorem fn110 : tC.fn 110 = some Tryz.f110 := by kernel_rfl
theorem ok110 : fnOk Tryz.f110 = true := by kernel_rfl
theorem fn111 : tC.fn 111 = some Tryz.f111 := by kernel_rfl
theorem ok111 : fnOk Tryz.f111 = true := by kernel_rfl
theorem fn132 : tC.fn 132 = some Tryz.f132 := by kernel_rfl
theorem ok132 : fnOk Tryz.f132 = true := by kernel_rfl
theorem fn133 : tC.fn 133 = some Tryz.f133 := by kernel_rfl
theorem ok133 : fnOk Tryz.f133 = true := by kernel_rfl
theorem fn134 : tC.fn 134 = some Tryz.f134 := by kernel_rfl
theorem ok134 : fnOk Tryz.f134 = true := by kernel_rfl
theorem fn137 : tC.fn 137 = some Tryz.f137 := by kernel_rfl
theorem ok137 : fnOk Tryz.f137 = true := by kernel_rfl
theorem fn138 : tC.fn 138 = some Tryz.f138 := by kernel_rfl
theorem ok138 : fnOk Tryz.f138 = true := by kernel_rfl
theorem fn140 : tC.fn 140 = some Tryz.f140 := by kernel_rfl
theorem ok140 : fnOk Tryz.f140 = true := by kernel_rfl
theorem fn141 : tC.fn 141 = some Tryz.f141 := by kernel_rfl
theorem ok141 : fnOk Tryz.f141 = true := by kernel_rfl
theorem fn142 : tC.fn 142 = some Tryz.f142 := by kernel_rfl
theorem ok142 : fnOk Tryz.f142 = true := by kernel_rfl
theorem fn160 : tC.fn 160 = some Tryz.f160 := by kernel_rfl
theorem ok160 : fnOk Tryz.f160 = true := by kernel_rfl
theorem fn162 : tC.fn 162 = some Tryz.f162 := by kernel_rfl
theorem ok162 : fnOk Tryz.f162 = true := by kernel_rfl
theorem fn163 : tC.fn 163 = some Tryz.f163 := by kernel_rfl
theorem ok163 : fnOk Tryz.f163 = true := by kernel_rfl
theorem fn164 : tC.fn 164 = some Tryz.f164 := by kernel_rfl
theorem ok164 : fnOk Tryz.f164 = true := by kernel_rfl
theorem fn165 : tC.fn 165 = some Tryz.f165 := by kernel_rfl
theorem ok165 : fnOk Tryz.f165 = true := by kernel_rfl
theorem ti41 : tC.ti 41 = some ⟨.slice 23, 1, 24, (some (.nils)), true⟩ := by kernel_rfl
theorem ti50 : tC.ti 50 = some ⟨.slice 5, 1, 24, (some (.nils)), true⟩ := by kernel_rfl
theorem ti74 : tC.ti 74 = some ⟨.map 9 82, 1, 8, (some (.nilm)), true⟩ := by kernel_rfl
theorem ti76 : tC.ti 76 = some ⟨.struct #[{ name := "fn", type := 3, offset := 0, embedded := false, tag := "", pkgPath := "waterwheel/group", byteOffset := 0 }, { name := "names", type := 40, offset := 1, embedded := false, tag := "", pkgPath := "waterwheel/group", byteOffset := 8 }, { name := "in", type := 22, offset := 2, embedded := false, tag := "", pkgPath := "waterwheel/group", byteOffset := 32 }, { name := "cells", type := 74, offset := 3, embedded := false, tag := "", pkgPath := "waterwheel/group", byteOffset := 56 }], 4, 64, (some (.agg [.int Go.IntKind.i64 (.ofNat 0), .nils, .nils, .nilm])), true⟩ := by kernel_rfl
theorem ti77 : tC.ti 77 = some ⟨.map 9 31, 1, 8, (some (.nilm)), true⟩ := by kernel_rfl
theorem ti78 : tC.ti 78 = some ⟨.map 9 29, 1, 8, (some (.nilm)), true⟩ := by kernel_rfl
theorem ti82 : tC.ti 82 = some ⟨.pointer 99, 1, 8, (some (.nilp)), true⟩ := by kernel_rfl
theorem ti90 : tC.ti 90 = some ⟨.func #[106] #[] false, 1, 8, (some (.nilf)), true⟩ := by kernel_rfl
theorem ti93 : tC.ti 93 = some ⟨.func #[33, 33] #[3] false, 1, 8, (some (.nilf)), true⟩ := by kernel_rfl
theorem ti94 : tC.ti 94 = some ⟨.int Go.IntKind.u64, 1, 8, (some (.int Go.IntKind.u64 (.ofNat 0))), true⟩ := by kernel_rfl
theorem ti96 : tC.ti 96 = some ⟨.struct #[{ name := "High", type := 2, offset := 0, embedded := false, tag := "", pkgPath := "", byteOffset := 0 }, { name := "Low", type := 94, offset := 1, embedded := false, tag := "", pkgPath := "", byteOffset := 8 }, { name := "Overs", type := 94, offset := 2, embedded := false, tag := "", pkgPath := "", byteOffset := 16 }], 3, 24, (some (.agg [.int Go.IntKind.i64 (.ofNat 0), .int Go.IntKind.u64 (.ofNat 0), .int Go.IntKind.u64 (.ofNat 0)])), true⟩ := by kernel_rfl
theorem ti97 : tC.ti 97 = some ⟨.pointer 147, 1, 8, (some (.nilp)), true⟩ := by kernel_rfl
theorem ti99 : tC.ti 99 = some ⟨.struct #[{ name := "labels", type := 29, offset := 0, embedded := false, tag := "", pkgPath := "waterwheel/group", byteOffset := 0 }, { name := "total", type := 96, offset := 1, embedded := false, tag := "", pkgPath := "waterwheel/group", byteOffset := 24 }, { name := "n", type := 3, offset := 4, embedded := false, tag := "", pkgPath := "waterwheel/group", byteOffset := 48 }, { name := "bag", type := 97, offset := 5, embedded := false, tag := "", pkgPath := "waterwheel/group", byteOffset := 56 }], 6, 64, (some (.agg [.nils, .int Go.IntKind.i64 (.ofNat 0), .int Go.IntKind.u64 (.ofNat 0), .int Go.IntKind.u64 (.ofNat 0), .int Go.IntKind.i64 (.ofNat 0), .nilp])), true⟩ := by kernel_rfl
theorem ti101 : tC.ti 101 = some ⟨.func #[58, 58] #[3] false, 1, 8, (some (.nilf)), true⟩ := by kernel_rfl
theorem ti137 : tC.ti 137 = some ⟨.pointer 139, 1, 8, (some (.nilp)), true⟩ := by kernel_rfl
theorem ti139 : tC.ti 139 = some ⟨.struct #[{ name := "n", type := 2, offset := 0, embedded := false, tag := "", pkgPath := "waterwheel/bag", byteOffset := 0 }, { name := "times", type := 3, offset := 1, embedded := false, tag := "", pkgPath := "waterwheel/bag", byteOffset := 8 }, { name := "all", type := 3, offset := 2, embedded := false, tag := "", pkgPath := "waterwheel/bag", byteOffset := 16 }, { name := "level", type := 3, offset := 3, embedded := false, tag := "", pkgPath := "waterwheel/bag", byteOffset := 24 }, { name := "left", type := 137, offset := 4, embedded := false, tag := "", pkgPath := "waterwheel/bag", byteOffset := 32 }, { name := "right", type := 137, offset := 5, embedded := false, tag := "", pkgPath := "waterwheel/bag", byteOffset := 40 }], 6, 48, (some (.agg [.int Go.IntKind.i64 (.ofNat 0), .int Go.IntKind.i64 (.ofNat 0), .int Go.IntKind.i64 (.ofNat 0), .int Go.IntKind.i64 (.ofNat 0), .nilp, .nilp])), true⟩ := by kernel_rfl
theorem ti140 : tC.ti 140 = some ⟨.func #[137] #[137] false, 1, 8, (some (.nilf)), true⟩ := by kernel_rfl
theorem ti141 : tC.ti 141 = some ⟨.struct #[{ name := "High", type := 2, offset := 0, embedded := false, tag := "", pkgPath := "", byteOffset := 0 }, { name := "Low", type := 94, offset := 1, embedded := false, tag := "", pkgPath := "", byteOffset := 8 }, { name := "Overs", type := 94, offset := 2, embedded := false, tag := "", pkgPath := "", byteOffset := 16 }], 3, 24, (some (.agg [.int Go.IntKind.i64 (.ofNat 0), .int Go.IntKind.u64 (.ofNat 0), .int Go.IntKind.u64 (.ofNat 0)])), true⟩ := by kernel_rfl
theorem ti147 : tC.ti 147 = some ⟨.struct #[{ name := "made", type := 4, offset := 0, embedded := false, tag := "", pkgPath := "waterwheel/bag", byteOffset := 0 }, { name := "root", type := 137, offset := 1, embedded := false, tag := "", pkgPath := "waterwheel/bag", byteOffset := 8 }, { name := "overs", type := 3, offset := 2, embedded := false, tag := "", pkgPath := "waterwheel/bag", byteOffset := 16 }], 3, 24, (some (.agg [.bool false, .nilp, .int Go.IntKind.i64 (.ofNat 0)])), true⟩ := by kernel_rfl
theorem ti148 : tC.ti 148 = some ⟨.pointer 137, 1, 8, (some (.nilp)), true⟩ := by kernel_rfl
theorem ti150 : tC.ti 150 = some ⟨.struct #[{ name := "at", type := 148, offset := 0, embedded := false, tag := "", pkgPath := "waterwheel/bag", byteOffset := 0 }], 1, 8, (some (.agg [.nilp])), true⟩ := by kernel_rfl
theorem ti172 : tC.ti 172 = some ⟨.slice 50, 1, 24, (some (.nils)), true⟩ := by kernel_rfl
theorem al41 (x : AV) : alen tC 41 x = (lenOfAV x).map fun n => .int .i64 (n : Int) := alen_sliceM ti41 rfl x
theorem ix41 (b o len z m : Nat) (cap : ACap) (k : IntKind) (hm : m < len) : aindexAddr tC 41 (.slice b o len cap z) (.int k (m : Int)) = some (.ptr b (o + m * 1)) := aindexAddr_slice ti41 rfl ti23 hm
theorem bs41 (F : Fns) (H : AH) (ev : Operand → AV) (dst : Option Tmp) (ty : TypeId) (pos : String) (after : Array Edge) (guard : Option (Nat × Bool)) : evOp tC F H ev { dst, op := .buildSlice 41 0 ⟨[]⟩, type := ty, pos, after, guard } = some (.slice H.next 0 0 (.ex 0) 1, H.alloc (.cells false [])) := evOp_buildSlice0 ti41 rfl ti23
theorem ld41 (H : AH) (b k : Nat) : aload tC H 41 (.ptr b k) = cellAt H b k := aload_one ti41 rfl
theorem eq41a (cst : Bool) (b o n z : Nat) (c : ACap) : abin tC .eql 41 cst (.slice b o n c z) .nils = some (.bool false) := by simp only [abin, eqRes, aeq, ti41, Option.map_some, Bool.not_false, Bool.not_true]
theorem ne41a (cst : Bool) (b o n z : Nat) (c : ACap) : abin tC .neq 41 cst (.slice b o n c z) .nils = some (.bool true) := by simp only [abin, eqRes, aeq, ti41, Option.map_some, Bool.not_false, Bool.not_true]
theorem eq41b (cst : Bool)  : abin tC .eql 41 cst .nils .nils = some (.bool true) := by simp only [abin, eqRes, aeq, ti41, Option.map_some, Bool.not_false, Bool.not_true]
theorem ne41b (cst : Bool)  : abin tC .neq 41 cst .nils .nils = some (.bool false) := by simp only [abin, eqRes, aeq, ti41, Option.map_some, Bool.not_false, Bool.not_true]
theorem eq41c (cst : Bool) (b : Nat) : abin tC .eql 41 cst (.empty b) .nils = some (.bool false) := by simp only [abin, eqRes, aeq, ti41, Option.map_some, Bool.not_false, Bool.not_true]
theorem ne41c (cst : Bool) (b : Nat) : abin tC .neq 41 cst (.empty b) .nils = some (.bool true) := by simp only [abin, eqRes, aeq, ti41, Option.map_some, Bool.not_false, Bool.not_true]
theorem st41 (H : AH) (b o : Nat) (v : AV) (hv : v.one = true) : astore tC H 41 (.ptr b o) v = storeAt H b o v := astore_one ti41 rfl H b o v hv
theorem al50 (x : AV) : alen tC 50 x = (lenOfAV x).map fun n => .int .i64 (n : Int) := alen_sliceM ti50 rfl x
theorem ix50 (b o len z m : Nat) (cap : ACap) (k : IntKind) (hm : m < len) : aindexAddr tC 50 (.slice b o len cap z) (.int k (m : Int)) = some (.ptr b (o + m * 1)) := aindexAddr_slice ti50 rfl ti5 hm
theorem bs50 (F : Fns) (H : AH) (ev : Operand → AV) (dst : Option Tmp) (ty : TypeId) (pos : String) (after : Array Edge) (guard : Option (Nat × Bool)) : evOp tC F H ev { dst, op := .buildSlice 50 0 ⟨[]⟩, type := ty, pos, after, guard } = some (.slice H.next 0 0 (.ex 0) 1, H.alloc (.cells false [])) := evOp_buildSlice0 ti50 rfl ti5
theorem ld50 (H : AH) (b k : Nat) : aload tC H 50 (.ptr b k) = cellAt H b k := aload_one ti50 rfl
theorem eq50a (cst : Bool) (b o n z : Nat) (c : ACap) : abin tC .eql 50 cst (.slice b o n c z) .nils = some (.bool false) := by simp only [abin, eqRes, aeq, ti50, Option.map_some, Bool.not_false, Bool.not_true]
theorem ne50a (cst : Bool) (b o n z : Nat) (c : ACap) : abin tC .neq 50 cst (.slice b o n c z) .nils = some (.bool true) := by simp only [abin, eqRes, aeq, ti50, Option.map_some, Bool.not_false, Bool.not_true]
theorem eq50b (cst : Bool)  : abin tC .eql 50 cst .nils .nils = some (.bool true) := by simp only [abin, eqRes, aeq, ti50, Option.map_some, Bool.not_false, Bool.not_true]
theorem ne50b (cst : Bool)  : abin tC .neq 50 cst .nils .nils = some (.bool false) := by simp only [abin, eqRes, aeq, ti50, Option.map_some, Bool.not_false, Bool.not_true]
theorem eq50c (cst : Bool) (b : Nat) : abin tC .eql 50 cst (.empty b) .nils = some (.bool false) := by simp only [abin, eqRes, aeq, ti50, Option.map_some, Bool.not_false, Bool.not_true]
theorem ne50c (cst : Bool) (b : Nat) : abin tC .neq 50 cst (.empty b) .nils = some (.bool true) := by simp only [abin, eqRes, aeq, ti50, Option.map_some, Bool.not_false, Bool.not_true]
theorem st50 (H : AH) (b o : Nat) (v : AV) (hv : v.one = true) : astore tC H 50 (.ptr b o) v = storeAt H b o v := astore_one ti50 rfl H b o v hv
theorem am74 (H : AH) (b : Nat) : alenMap tC H 74 (.map b) = mapLenAt H b := alenMap_of ti74 rfl
theorem an74 (b : Nat) : alen tC 74 (.map b) = none := alen_map ti74 rfl
theorem ld74 (H : AH) (b k : Nat) : aload tC H 74 (.ptr b k) = cellAt H b k := aload_one ti74 rfl
theorem sk74 : isStrKey tC 9 = true := by simp only [isStrKey, ti9]
theorem lk74 (H : AH) (m : Nat) (k : List UInt8) : alookup tC H 74 (.map m) (.str k) false = lookAt H m k (.nilp) := alookup_map ti74 rfl sk74 ti82 rfl H m k
theorem ms74 (H : AH) (m : Nat) (k : List UInt8) (v : AV) : amapUpdate tC H 74 (.map m) (.str k) v = mapSetAt H m k v := amapUpdate_map ti74 rfl sk74 H m k v
theorem md74 (H : AH) (u m : Nat) (k : List UInt8) : adelete tC H [74, u] [.map m, .str k] = mapDelAt H m k := adelete_map ti74 rfl sk74 H u m k
theorem eq74a (cst : Bool) (b : Nat) : abin tC .eql 74 cst (.map b) .nilm = some (.bool false) := by simp only [abin, eqRes, aeq, ti74, Option.map_some, Bool.not_false, Bool.not_true]
theorem ne74a (cst : Bool) (b : Nat) : abin tC .neq 74 cst (.map b) .nilm = some (.bool true) := by simp only [abin, eqRes, aeq, ti74, Option.map_some, Bool.not_false, Bool.not_true]
theorem eq74b (cst : Bool)  : abin tC .eql 74 cst .nilm .nilm = some (.bool true) := by simp only [abin, eqRes, aeq, ti74, Option.map_some, Bool.not_false, Bool.not_true]
theorem ne74b (cst : Bool)  : abin tC .neq 74 cst .nilm .nilm = some (.bool false) := by simp only [abin, eqRes, aeq, ti74, Option.map_some, Bool.not_false, Bool.not_true]
theorem st74 (H : AH) (b o : Nat) (v : AV) (hv : v.one = true) : astore tC H 74 (.ptr b o) v = storeAt H b o v := astore_one ti74 rfl H b o v hv
theorem fa76_0 (b o : Nat) : afieldAddr tC 76 (.ptr b o) 0 = some (.ptr b (o + 0)) := by simp only [afieldAddr, ti76, ti3, List.getElem?_cons_zero, List.getElem?_cons_succ, nbeq, Nat.reduceEqDiff, decide_false, cond_false]
theorem fa76_1 (b o : Nat) : afieldAddr tC 76 (.ptr b o) 1 = some (.ptr b (o + 1)) := by simp only [afieldAddr, ti76, ti40, List.getElem?_cons_zero, List.getElem?_cons_succ, nbeq, Nat.reduceEqDiff, decide_false, cond_false]
theorem fa76_2 (b o : Nat) : afieldAddr tC 76 (.ptr b o) 2 = some (.ptr b (o + 2)) := by simp only [afieldAddr, ti76, ti22, List.getElem?_cons_zero, List.getElem?_cons_succ, nbeq, Nat.reduceEqDiff, decide_false, cond_false]
theorem fa76_3 (b o : Nat) : afieldAddr tC 76 (.ptr b o) 3 = some (.ptr b (o + 3)) := by simp only [afieldAddr, ti76, ti74, List.getElem?_cons_zero, List.getElem?_cons_succ, nbeq, Nat.reduceEqDiff, decide_false, cond_false]
theorem ld76 (H : AH) (b k : Nat) : aload tC H 76 (.ptr b k) = cellsAt H b k 4 := aload_agg ti76 rfl
theorem am77 (H : AH) (b : Nat) : alenMap tC H 77 (.map b) = mapLenAt H b := alenMap_of ti77 rfl
theorem an77 (b : Nat) : alen tC 77 (.map b) = none := alen_map ti77 rfl
theorem ld77 (H : AH) (b k : Nat) : aload tC H 77 (.ptr b k) = cellAt H b k := aload_one ti77 rfl
theorem sk77 : isStrKey tC 9 = true := by simp only [isStrKey, ti9]
theorem lk77 (H : AH) (m : Nat) (k : List UInt8) : alookup tC H 77 (.map m) (.str k) false = lookAt H m k (.agg [.int Go.IntKind.i64 (.ofNat 0), .bool false]) := alookup_map ti77 rfl sk77 ti31 rfl H m k
theorem ms77 (H : AH) (m : Nat) (k : List UInt8) (v : AV) : amapUpdate tC H 77 (.map m) (.str k) v = mapSetAt H m k v := amapUpdate_map ti77 rfl sk77 H m k v
theorem md77 (H : AH) (u m : Nat) (k : List UInt8) : adelete tC H [77, u] [.map m, .str k] = mapDelAt H m k := adelete_map ti77 rfl sk77 H u m k
theorem eq77a (cst : Bool) (b : Nat) : abin tC .eql 77 cst (.map b) .nilm = some (.bool false) := by simp only [abin, eqRes, aeq, ti77, Option.map_some, Bool.not_false, Bool.not_true]
theorem ne77a (cst : Bool) (b : Nat) : abin tC .neq 77 cst (.map b) .nilm = some (.bool true) := by simp only [abin, eqRes, aeq, ti77, Option.map_some, Bool.not_false, Bool.not_true]
theorem eq77b (cst : Bool)  : abin tC .eql 77 cst .nilm .nilm = some (.bool true) := by simp only [abin, eqRes, aeq, ti77, Option.map_some, Bool.not_false, Bool.not_true]
theorem ne77b (cst : Bool)  : abin tC .neq 77 cst .nilm .nilm = some (.bool false) := by simp only [abin, eqRes, aeq, ti77, Option.map_some, Bool.not_false, Bool.not_true]
theorem st77 (H : AH) (b o : Nat) (v : AV) (hv : v.one = true) : astore tC H 77 (.ptr b o) v = storeAt H b o v := astore_one ti77 rfl H b o v hv
theorem am78 (H : AH) (b : Nat) : alenMap tC H 78 (.map b) = mapLenAt H b := alenMap_of ti78 rfl
theorem an78 (b : Nat) : alen tC 78 (.map b) = none := alen_map ti78 rfl
theorem ld78 (H : AH) (b k : Nat) : aload tC H 78 (.ptr b k) = cellAt H b k := aload_one ti78 rfl
theorem sk78 : isStrKey tC 9 = true := by simp only [isStrKey, ti9]
theorem lk78 (H : AH) (m : Nat) (k : List UInt8) : alookup tC H 78 (.map m) (.str k) false = lookAt H m k (.nils) := alookup_map ti78 rfl sk78 ti29 rfl H m k
theorem ms78 (H : AH) (m : Nat) (k : List UInt8) (v : AV) : amapUpdate tC H 78 (.map m) (.str k) v = mapSetAt H m k v := amapUpdate_map ti78 rfl sk78 H m k v
theorem md78 (H : AH) (u m : Nat) (k : List UInt8) : adelete tC H [78, u] [.map m, .str k] = mapDelAt H m k := adelete_map ti78 rfl sk78 H u m k
theorem eq78a (cst : Bool) (b : Nat) : abin tC .eql 78 cst (.map b) .nilm = some (.bool false) := by simp only [abin, eqRes, aeq, ti78, Option.map_some, Bool.not_false, Bool.not_true]
theorem ne78a (cst : Bool) (b : Nat) : abin tC .neq 78 cst (.map b) .nilm = some (.bool true) := by simp only [abin, eqRes, aeq, ti78, Option.map_some, Bool.not_false, Bool.not_true]
theorem eq78b (cst : Bool)  : abin tC .eql 78 cst .nilm .nilm = some (.bool true) := by simp only [abin, eqRes, aeq, ti78, Option.map_some, Bool.not_false, Bool.not_true]
theorem ne78b (cst : Bool)  : abin tC .neq 78 cst .nilm .nilm = some (.bool false) := by simp only [abin, eqRes, aeq, ti78, Option.map_some, Bool.not_false, Bool.not_true]
theorem st78 (H : AH) (b o : Nat) (v : AV) (hv : v.one = true) : astore tC H 78 (.ptr b o) v = storeAt H b o v := astore_one ti78 rfl H b o v hv
theorem ld82 (H : AH) (b k : Nat) : aload tC H 82 (.ptr b k) = cellAt H b k := aload_one ti82 rfl
theorem eq82a (cst : Bool) (b o : Nat) : abin tC .eql 82 cst (.ptr b o) .nilp = some (.bool false) := by simp only [abin, eqRes, aeq, ti82, Option.map_some, Bool.not_false, Bool.not_true]
theorem ne82a (cst : Bool) (b o : Nat) : abin tC .neq 82 cst (.ptr b o) .nilp = some (.bool true) := by simp only [abin, eqRes, aeq, ti82, Option.map_some, Bool.not_false, Bool.not_true]
theorem eq82b (cst : Bool)  : abin tC .eql 82 cst .nilp .nilp = some (.bool true) := by simp only [abin, eqRes, aeq, ti82, Option.map_some, Bool.not_false, Bool.not_true]
theorem ne82b (cst : Bool)  : abin tC .neq 82 cst .nilp .nilp = some (.bool false) := by simp only [abin, eqRes, aeq, ti82, Option.map_some, Bool.not_false, Bool.not_true]
theorem st82 (H : AH) (b o : Nat) (v : AV) (hv : v.one = true) : astore tC H 82 (.ptr b o) v = storeAt H b o v := astore_one ti82 rfl H b o v hv
theorem ld90 (H : AH) (b k : Nat) : aload tC H 90 (.ptr b k) = cellAt H b k := aload_one ti90 rfl
theorem st90 (H : AH) (b o : Nat) (v : AV) (hv : v.one = true) : astore tC H 90 (.ptr b o) v = storeAt H b o v := astore_one ti90 rfl H b o v hv
theorem ld93 (H : AH) (b k : Nat) : aload tC H 93 (.ptr b k) = cellAt H b k := aload_one ti93 rfl
theorem st93 (H : AH) (b o : Nat) (v : AV) (hv : v.one = true) : astore tC H 93 (.ptr b o) v = storeAt H b o v := astore_one ti93 rfl H b o v hv
theorem ld94 (H : AH) (b k : Nat) : aload tC H 94 (.ptr b k) = cellAt H b k := aload_one ti94 rfl
theorem st94 (H : AH) (b o : Nat) (v : AV) (hv : v.one = true) : astore tC H 94 (.ptr b o) v = storeAt H b o v := astore_one ti94 rfl H b o v hv
theorem fa96_0 (b o : Nat) : afieldAddr tC 96 (.ptr b o) 0 = some (.ptr b (o + 0)) := by simp only [afieldAddr, ti96, ti2, List.getElem?_cons_zero, List.getElem?_cons_succ, nbeq, Nat.reduceEqDiff, decide_false, cond_false]
theorem fa96_1 (b o : Nat) : afieldAddr tC 96 (.ptr b o) 1 = some (.ptr b (o + 1)) := by simp only [afieldAddr, ti96, ti94, List.getElem?_cons_zero, List.getElem?_cons_succ, nbeq, Nat.reduceEqDiff, decide_false, cond_false]
theorem fa96_2 (b o : Nat) : afieldAddr tC 96 (.ptr b o) 2 = some (.ptr b (o + 2)) := by simp only [afieldAddr, ti96, ti94, List.getElem?_cons_zero, List.getElem?_cons_succ, nbeq, Nat.reduceEqDiff, decide_false, cond_false]
theorem ld96 (H : AH) (b k : Nat) : aload tC H 96 (.ptr b k) = cellsAt H b k 3 := aload_agg ti96 rfl
theorem ld97 (H : AH) (b k : Nat) : aload tC H 97 (.ptr b k) = cellAt H b k := aload_one ti97 rfl
theorem eq97a (cst : Bool) (b o : Nat) : abin tC .eql 97 cst (.ptr b o) .nilp = some (.bool false) := by simp only [abin, eqRes, aeq, ti97, Option.map_some, Bool.not_false, Bool.not_true]
theorem ne97a (cst : Bool) (b o : Nat) : abin tC .neq 97 cst (.ptr b o) .nilp = some (.bool true) := by simp only [abin, eqRes, aeq, ti97, Option.map_some, Bool.not_false, Bool.not_true]
theorem eq97b (cst : Bool)  : abin tC .eql 97 cst .nilp .nilp = some (.bool true) := by simp only [abin, eqRes, aeq, ti97, Option.map_some, Bool.not_false, Bool.not_true]
theorem ne97b (cst : Bool)  : abin tC .neq 97 cst .nilp .nilp = some (.bool false) := by simp only [abin, eqRes, aeq, ti97, Option.map_some, Bool.not_false, Bool.not_true]
theorem st97 (H : AH) (b o : Nat) (v : AV) (hv : v.one = true) : astore tC H 97 (.ptr b o) v = storeAt H b o v := astore_one ti97 rfl H b o v hv
theorem fa99_0 (b o : Nat) : afieldAddr tC 99 (.ptr b o) 0 = some (.ptr b (o + 0)) := by simp only [afieldAddr, ti99, ti29, List.getElem?_cons_zero, List.getElem?_cons_succ, nbeq, Nat.reduceEqDiff, decide_false, cond_false]
theorem fa99_1 (b o : Nat) : afieldAddr tC 99 (.ptr b o) 1 = some (.ptr b (o + 1)) := by simp only [afieldAddr, ti99, ti96, List.getElem?_cons_zero, List.getElem?_cons_succ, nbeq, Nat.reduceEqDiff, decide_false, cond_false]
theorem fa99_2 (b o : Nat) : afieldAddr tC 99 (.ptr b o) 2 = some (.ptr b (o + 4)) := by simp only [afieldAddr, ti99, ti3, List.getElem?_cons_zero, List.getElem?_cons_succ, nbeq, Nat.reduceEqDiff, decide_false, cond_false]
theorem fa99_3 (b o : Nat) : afieldAddr tC 99 (.ptr b o) 3 = some (.ptr b (o + 5)) := by simp only [afieldAddr, ti99, ti97, List.getElem?_cons_zero, List.getElem?_cons_succ, nbeq, Nat.reduceEqDiff, decide_false, cond_false]
theorem ld99 (H : AH) (b k : Nat) : aload tC H 99 (.ptr b k) = cellsAt H b k 6 := aload_agg ti99 rfl
theorem ld101 (H : AH) (b k : Nat) : aload tC H 101 (.ptr b k) = cellAt H b k := aload_one ti101 rfl
theorem st101 (H : AH) (b o : Nat) (v : AV) (hv : v.one = true) : astore tC H 101 (.ptr b o) v = storeAt H b o v := astore_one ti101 rfl H b o v hv
theorem ld137 (H : AH) (b k : Nat) : aload tC H 137 (.ptr b k) = cellAt H b k := aload_one ti137 rfl
theorem eq137a (cst : Bool) (b o : Nat) : abin tC .eql 137 cst (.ptr b o) .nilp = some (.bool false) := by simp only [abin, eqRes, aeq, ti137, Option.map_some, Bool.not_false, Bool.not_true]
theorem ne137a (cst : Bool) (b o : Nat) : abin tC .neq 137 cst (.ptr b o) .nilp = some (.bool true) := by simp only [abin, eqRes, aeq, ti137, Option.map_some, Bool.not_false, Bool.not_true]
theorem eq137b (cst : Bool)  : abin tC .eql 137 cst .nilp .nilp = some (.bool true) := by simp only [abin, eqRes, aeq, ti137, Option.map_some, Bool.not_false, Bool.not_true]
theorem ne137b (cst : Bool)  : abin tC .neq 137 cst .nilp .nilp = some (.bool false) := by simp only [abin, eqRes, aeq, ti137, Option.map_some, Bool.not_false, Bool.not_true]
theorem st137 (H : AH) (b o : Nat) (v : AV) (hv : v.one = true) : astore tC H 137 (.ptr b o) v = storeAt H b o v := astore_one ti137 rfl H b o v hv
theorem fa139_0 (b o : Nat) : afieldAddr tC 139 (.ptr b o) 0 = some (.ptr b (o + 0)) := by simp only [afieldAddr, ti139, ti2, List.getElem?_cons_zero, List.getElem?_cons_succ, nbeq, Nat.reduceEqDiff, decide_false, cond_false]
theorem fa139_1 (b o : Nat) : afieldAddr tC 139 (.ptr b o) 1 = some (.ptr b (o + 1)) := by simp only [afieldAddr, ti139, ti3, List.getElem?_cons_zero, List.getElem?_cons_succ, nbeq, Nat.reduceEqDiff, decide_false, cond_false]
theorem fa139_2 (b o : Nat) : afieldAddr tC 139 (.ptr b o) 2 = some (.ptr b (o + 2)) := by simp only [afieldAddr, ti139, ti3, List.getElem?_cons_zero, List.getElem?_cons_succ, nbeq, Nat.reduceEqDiff, decide_false, cond_false]
theorem fa139_3 (b o : Nat) : afieldAddr tC 139 (.ptr b o) 3 = some (.ptr b (o + 3)) := by simp only [afieldAddr, ti139, ti3, List.getElem?_cons_zero, List.getElem?_cons_succ, nbeq, Nat.reduceEqDiff, decide_false, cond_false]
theorem fa139_4 (b o : Nat) : afieldAddr tC 139 (.ptr b o) 4 = some (.ptr b (o + 4)) := by simp only [afieldAddr, ti139, ti137, List.getElem?_cons_zero, List.getElem?_cons_succ, nbeq, Nat.reduceEqDiff, decide_false, cond_false]
theorem fa139_5 (b o : Nat) : afieldAddr tC 139 (.ptr b o) 5 = some (.ptr b (o + 5)) := by simp only [afieldAddr, ti139, ti137, List.getElem?_cons_zero, List.getElem?_cons_succ, nbeq, Nat.reduceEqDiff, decide_false, cond_false]
theorem ld139 (H : AH) (b k : Nat) : aload tC H 139 (.ptr b k) = cellsAt H b k 6 := aload_agg ti139 rfl
theorem ld140 (H : AH) (b k : Nat) : aload tC H 140 (.ptr b k) = cellAt H b k := aload_one ti140 rfl
theorem st140 (H : AH) (b o : Nat) (v : AV) (hv : v.one = true) : astore tC H 140 (.ptr b o) v = storeAt H b o v := astore_one ti140 rfl H b o v hv
theorem fa141_0 (b o : Nat) : afieldAddr tC 141 (.ptr b o) 0 = some (.ptr b (o + 0)) := by simp only [afieldAddr, ti141, ti2, List.getElem?_cons_zero, List.getElem?_cons_succ, nbeq, Nat.reduceEqDiff, decide_false, cond_false]
theorem fa141_1 (b o : Nat) : afieldAddr tC 141 (.ptr b o) 1 = some (.ptr b (o + 1)) := by simp only [afieldAddr, ti141, ti94, List.getElem?_cons_zero, List.getElem?_cons_succ, nbeq, Nat.reduceEqDiff, decide_false, cond_false]
theorem fa141_2 (b o : Nat) : afieldAddr tC 141 (.ptr b o) 2 = some (.ptr b (o + 2)) := by simp only [afieldAddr, ti141, ti94, List.getElem?_cons_zero, List.getElem?_cons_succ, nbeq, Nat.reduceEqDiff, decide_false, cond_false]
theorem ld141 (H : AH) (b k : Nat) : aload tC H 141 (.ptr b k) = cellsAt H b k 3 := aload_agg ti141 rfl
theorem fa147_0 (b o : Nat) : afieldAddr tC 147 (.ptr b o) 0 = some (.ptr b (o + 0)) := by simp only [afieldAddr, ti147, ti4, List.getElem?_cons_zero, List.getElem?_cons_succ, nbeq, Nat.reduceEqDiff, decide_false, cond_false]
theorem fa147_1 (b o : Nat) : afieldAddr tC 147 (.ptr b o) 1 = some (.ptr b (o + 1)) := by simp only [afieldAddr, ti147, ti137, List.getElem?_cons_zero, List.getElem?_cons_succ, nbeq, Nat.reduceEqDiff, decide_false, cond_false]
theorem fa147_2 (b o : Nat) : afieldAddr tC 147 (.ptr b o) 2 = some (.ptr b (o + 2)) := by simp only [afieldAddr, ti147, ti3, List.getElem?_cons_zero, List.getElem?_cons_succ, nbeq, Nat.reduceEqDiff, decide_false, cond_false]
theorem ld147 (H : AH) (b k : Nat) : aload tC H 147 (.ptr b k) = cellsAt H b k 3 := aload_agg ti147 rfl
theorem ld148 (H : AH) (b k : Nat) : aload tC H 148 (.ptr b k) = cellAt H b k := aload_one ti148 rfl
theorem eq148a (cst : Bool) (b o : Nat) : abin tC .eql 148 cst (.ptr b o) .nilp = some (.bool false) := by simp only [abin, eqRes, aeq, ti148, Option.map_some, Bool.not_false, Bool.not_true]
theorem ne148a (cst : Bool) (b o : Nat) : abin tC .neq 148 cst (.ptr b o) .nilp = some (.bool true) := by simp only [abin, eqRes, aeq, ti148, Option.map_some, Bool.not_false, Bool.not_true]
theorem eq148b (cst : Bool)  : abin tC .eql 148 cst .nilp .nilp = some (.bool true) := by simp only [abin, eqRes, aeq, ti148, Option.map_some, Bool.not_false, Bool.not_true]
theorem ne148b (cst : Bool)  : abin tC .neq 148 cst .nilp .nilp = some (.bool false) := by simp only [abin, eqRes, aeq, ti148, Option.map_some, Bool.not_false, Bool.not_true]
theorem st148 (H : AH) (b o : Nat) (v : AV) (hv : v.one = true) : astore tC H 148 (.ptr b o) v = storeAt H b o v := astore_one ti148 rfl H b o v hv
theorem fa150_0 (b o : Nat) : afieldAddr tC 150 (.ptr b o) 0 = some (.ptr b (o + 0)) := by simp only [afieldAddr, ti150, ti148, List.getElem?_cons_zero, List.getElem?_cons_succ, nbeq, Nat.reduceEqDiff, decide_false, cond_false]
theorem ld150 (H : AH) (b k : Nat) : aload tC H 150 (.ptr b k) = cellsAt H b k 1 := aload_agg ti150 rfl
theorem al172 (x : AV) : alen tC 172 x = (lenOfAV x).map fun n => .int .i64 (n : Int) := alen_sliceM ti172 rfl x
theorem ix172 (b o len z m : Nat) (cap : ACap) (k : IntKind) (hm : m < len) : aindexAddr tC 172 (.slice b o len cap z) (.int k (m : Int)) = some (.ptr b (o + m * 1)) := aindexAddr_slice ti172 rfl ti50 hm
theorem bs172 (F : Fns) (H : AH) (ev : Operand → AV) (dst : Option Tmp) (ty : TypeId) (pos : String) (after : Array Edge) (guard : Option (Nat × Bool)) : evOp tC F H ev { dst, op := .buildSlice 172 0 ⟨[]⟩, type := ty, pos, after, guard } = some (.slice H.next 0 0 (.ex 0) 1, H.alloc (.cells false [])) := evOp_buildSlice0 ti172 rfl ti50
theorem ld172 (H : AH) (b k : Nat) : aload tC H 172 (.ptr b k) = cellAt H b k := aload_one ti172 rfl
theorem eq172a (cst : Bool) (b o n z : Nat) (c : ACap) : abin tC .eql 172 cst (.slice b o n c z) .nils = some (.bool false) := by simp only [abin, eqRes, aeq, ti172, Option.map_some, Bool.not_false, Bool.not_true]
theorem ne172a (cst : Bool) (b o n z : Nat) (c : ACap) : abin tC .neq 172 cst (.slice b o n c z) .nils = some (.bool true) := by simp only [abin, eqRes, aeq, ti172, Option.map_some, Bool.not_false, Bool.not_true]
theorem eq172b (cst : Bool)  : abin tC .eql 172 cst .nils .nils = some (.bool true) := by simp only [abin, eqRes, aeq, ti172, Option.map_some, Bool.not_false, Bool.not_true]
theorem ne172b (cst : Bool)  : abin tC .neq 172 cst .nils .nils = some (.bool false) := by simp only [abin, eqRes, aeq, ti172, Option.map_some, Bool.not_false, Bool.not_true]
theorem eq172c (cst : Bool) (b : Nat) : abin tC .eql 172 cst (.empty b) .nils = some (.bool false) := by simp only [abin, eqRes, aeq, ti172, Option.map_some, Bool.not_false, Bool.not_true]
theorem ne172c (cst : Bool) (b : Nat) : abin tC .neq 172 cst (.empty b) .nils = some (.bool true) := by simp only [abin, eqRes, aeq, ti172, Option.map_some, Bool.not_false, Bool.not_true]
theorem st172 (H : AH) (b o : Nat) (v : AV) (hv : v.one = true) : astore tC H 172 (.ptr b o) v = storeAt H b o v := astore_one ti172 rfl H b o v hv
theorem cv3_94 (H : AH) (k' : IntKind) (n : Int) : convOp tC H 3 94 (.int k' n) = some (.int Go.IntKind.u64 (IntKind.wrap Go.IntKind.u64 n), H) := conv_int ti3 ti94 rfl H k' n
theorem cv3_5 (H : AH) (k' : IntKind) (n : Int) : convOp tC H 3 5 (.int k' n) = some (.int Go.IntKind.u8 (IntKind.wrap Go.IntKind.u8 n), H) := conv_int ti3 ti5 rfl H k' n
theorem cv9_50 (H : AH) (s : List UInt8) : convOp tC H 9 50 (.str s) = some (.slice H.next 0 s.length (.lo s.length) 1, H.alloc (.cells false (s.map fun b => .int .u8 b.toNat))) := conv_strBytes ti9 ti50 rfl rfl ti5 rfl H s
theorem cv94_2 (H : AH) (k' : IntKind) (n : Int) : convOp tC H 94 2 (.int k' n) = some (.int Go.IntKind.i64 (IntKind.wrap Go.IntKind.i64 n), H) := conv_int ti94 ti2 rfl H k' n
theorem cv94_5 (H : AH) (k' : IntKind) (n : Int) : convOp tC H 94 5 (.int k' n) = some (.int Go.IntKind.u8 (IntKind.wrap Go.IntKind.u8 n), H) := conv_int ti94 ti5 rfl H k' n
theorem cv2_94 (H : AH) (k' : IntKind) (n : Int) : convOp tC H 2 94 (.int k' n) = some (.int Go.IntKind.u64 (IntKind.wrap Go.IntKind.u64 n), H) := conv_int ti2 ti94 rfl H k' n
def tyE0 := And.intro @al41 (And.intro @ix41 (And.intro @bs41 (And.intro @ld41 (And.intro @ne41a (And.intro @eq41a (And.intro @ne41b (And.intro @eq41b (And.intro @ne41c (And.intro @eq41c (And.intro @st41 (And.intro @al50 (And.intro @ix50 (And.intro @bs50 (And.intro @ld50 (And.intro @ne50a (And.intro @eq50a (And.intro @ne50b (And.intro @eq50b (And.intro @ne50c (And.intro @eq50c (And.intro @st50 (And.intro @an74 (And.intro @am74 (And.intro @ld74 (And.intro @md74 (And.intro @ms74 (And.intro @lk74 (And.intro @ne74a (And.intro @eq74a (And.intro @ne74b (And.intro @eq74b (And.intro @st74 (And.intro @fa76_0 (And.intro @fa76_1 (And.intro @fa76_2 (And.intro @fa76_3 (And.intro @ld76 (And.intro @an77 (And.intro @am77 (And.intro @ld77 (And.intro @md77 (And.intro @ms77 (And.intro @lk77 (And.intro @ne77a (And.intro @eq77a (And.intro @ne77b (And.intro @eq77b (And.intro @st77 (And.intro @an78 (And.intro @am78 (And.intro @ld78 (And.intro @md78 (And.intro @ms78 (And.intro @lk78 (And.intro @ne78a (And.intro @eq78a (And.intro @ne78b (And.intro @eq78b (And.intro @st78 (And.intro @ld82 (And.intro @ne82a (And.intro @eq82a (And.intro @ne82b (And.intro @eq82b (And.intro @st82 (And.intro @ld90 (And.intro @st90 (And.intro @ld93 (And.intro @st93 (And.intro @ld94 (And.intro @st94 (And.intro @fa96_0 (And.intro @fa96_1 (And.intro @fa96_2 (And.intro @ld96 (And.intro @ld97 (And.intro @ne97a (And.intro @eq97a (And.intro @ne97b (And.intro @eq97b (And.intro @st97 (And.intro @fa99_0 (And.intro @fa99_1 (And.intro @fa99_2 (And.intro @fa99_3 (And.intro @ld99 (And.intro @ld101 (And.intro @st101 (And.intro @ld137 (And.intro @ne137a (And.intro @eq137a (And.intro @ne137b (And.intro @eq137b (And.intro @st137 (And.intro @fa139_0 (And.intro @fa139_1 (And.intro @fa139_2 (And.intro @fa139_3 (And.intro @fa139_4 (And.intro @fa139_5 (And.intro @ld139 (And.intro @ld140 (And.intro @st140 (And.intro @fa141_0 (And.intro @fa141_1 (And.intro @fa141_2 (And.intro @ld141 (And.intro @fa147_0 (And.intro @fa147_1 (And.intro @fa147_2 (And.intro @ld147 (And.intro @ld148 (And.intro @ne148a (And.intro @eq148a (And.intro @ne148b (And.intro @eq148b (And.intro @st148 (And.intro @fa150_0 (And.intro @ld150 (And.intro @al172 (And.intro @ix172 (And.intro @bs172 (And.intro @ld172 (And.intro @ne172a (And.intro @eq172a (And.intro @ne172b (And.intro @eq172b (And.intro @ne172c (And.intro @eq172c (And.intro @st172 (And.intro @cv3_94 (And.intro @cv3_5 (And.intro @cv9_50 (And.intro @cv94_2 (And.intro @cv94_5 @cv2_94)))))))))))))))))))))))))))))))))))))))))))))))))))))))))))))))))))))))))))))))))))))))))))))))))))))))))))))))))))))))))))))))))))))))
theorem tyE : type_of% tyE0 := tyE0
section
variable {p q : Prop} {K : AH} {v : AV} {x : Option (AV × AH)} {w : AV → AH → Prop}
theorem zw {F : Prop} {x y : Option (AV × AH)} (f : F) (h : F → x = y := by intro f; simp only [evc, evr, tyC, tyE, rangeMapAt, storeAt, aeval, ofVal, cellAt, cellsAt, mapLenAt, lookAt, mapSetAt, mapDelAt, TI.agg, eq_self, Nat.reduceEqDiff, reduceIte, Nat.reduceLeDiff, Nat.reduceLT, Nat.reduceMul, Nat.reduceAdd, Nat.reduceSub, Int.reduceEq, Int.reduceLT, Int.reduceLE, Int.reduceNeg, f]; rfl) : x = y := h f
theorem zwb {F p q : Prop} (f : F) (h : p) (i : F → Hd p → q := by intro f h; (with_reducible repeat' first | ((first | refine AOs.o1 tOK ?_ | refine AOs.op0E tOK ?_); refine Step.mk (by simp only [evc, evr, tyC, tyE, rangeMapAt, storeAt, aeval, ofVal, cellAt, cellsAt, mapLenAt, lookAt, mapSetAt, mapDelAt, TI.agg, eq_self, Nat.reduceEqDiff, reduceIte, Nat.reduceLeDiff, Nat.reduceLT, Nat.reduceMul, Nat.reduceAdd, Nat.reduceSub, Int.reduceEq, Int.reduceLT, Int.reduceLE, Int.reduceNeg, f]; rfl) ?_) | refine za ?_ | fail); exact h.h) : q := i f ⟨h⟩
theorem zwbz {p q : Prop} (h : p) (i : Hd p → q := by intro h; (with_reducible repeat' first | ((first | refine AOs.o1 tOK ?_ | refine AOs.op0E tOK ?_); refine Step.mk (by simp only [evc, evr, tyC, tyE, rangeMapAt, storeAt, aeval, ofVal, cellAt, cellsAt, mapLenAt, lookAt, mapSetAt, mapDelAt, TI.agg, eq_self, Nat.reduceEqDiff, reduceIte, Nat.reduceLeDiff, Nat.reduceLT, Nat.reduceMul, Nat.reduceAdd, Nat.reduceSub, Int.reduceEq, Int.reduceLT, Int.reduceLE, Int.reduceNeg]; rfl) ?_) | refine za ?_ | fail); exact h.h) : q := i ⟨h⟩
theorem zp0 (h : p) (i : Hd p → q := by intro h; exact zwbz h.h) : q := i ⟨h⟩
theorem zp1 {X0 : Prop} (a : X0) (h : p) (i : X0 → Hd p → q := by intro a h; exact zwb @a h.h) : q := i a ⟨h⟩
theorem zp3 {X0 X1 X2 : Prop} (a : X0) (b : X1) (c : X2) (h : p) (i : X0 → X1 → X2 → Hd p → q := by intro a b c h; exact zwb (And.intro @a (And.intro @b @c)) h.h) : q := i a b c ⟨h⟩
theorem zp4 {X0 X1 X2 X3 : Prop} (a : X0) (b : X1) (c : X2) (d : X3) (h : p) (i : X0 → X1 → X2 → X3 → Hd p → q := by intro a b c d h; exact zwb (And.intro @a (And.intro @b (And.intro @c @d))) h.h) : q := i a b c d ⟨h⟩
theorem zp5 {X0 X1 X2 X3 X4 : Prop} (a : X0) (b : X1) (c : X2) (d : X3) (e : X4) (h : p) (i : X0 → X1 → X2 → X3 → X4 → Hd p → q := by intro a b c d e h; exact zwb (And.intro @a (And.intro @b (And.intro @c (And.intro @d @e)))) h.h) : q := i a b c d e ⟨h⟩
theorem zp6 {X0 X1 X2 X3 X4 X5 : Prop} (a : X0) (b : X1) (c : X2) (d : X3) (e : X4) (f : X5) (h : p) (i : X0 → X1 → X2 → X3 → X4 → X5 → Hd p → q := by intro a b c d e f h; exact zwb (And.intro @a (And.intro @b (And.intro @c (And.intro @d (And.intro @e @f))))) h.h) : q := i a b c d e f ⟨h⟩
theorem zp7 {X0 X1 X2 X3 X4 X5 X6 : Prop} (a : X0) (b : X1) (c : X2) (d : X3) (e : X4) (f : X5) (g : X6) (h : p) (i : X0 → X1 → X2 → X3 → X4 → X5 → X6 → Hd p → q := by intro a b c d e f g h; exact zwb (And.intro @a (And.intro @b (And.intro @c (And.intro @d (And.intro @e (And.intro @f @g)))))) h.h) : q := i a b c d e f g ⟨h⟩
theorem zp8 {X0 X1 X2 X3 X4 X5 X6 X7 : Prop} (a : X0) (b : X1) (c : X2) (d : X3) (e : X4) (f : X5) (g : X6) (m : X7) (h : p) (i : X0 → X1 → X2 → X3 → X4 → X5 → X6 → X7 → Hd p → q := by intro a b c d e f g m h; exact zwb (And.intro @a (And.intro @b (And.intro @c (And.intro @d (And.intro @e (And.intro @f (And.intro @g @m))))))) h.h) : q := i a b c d e f g m ⟨h⟩
theorem zq1 {X0 : Prop} (a : X0) (q : w v K) (i : X0 → x = some (v, K) := by intro a; exact zw @a) : Step x w := Step.mk (i a) q
theorem zq2 {X0 X1 : Prop} (a : X0) (b : X1) (q : w v K) (i : X0 → X1 → x = some (v, K) := by intro a b; exact zw (And.intro @a @b)) : Step x w := Step.mk (i a b) q
theorem zq3 {X0 X1 X2 : Prop} (a : X0) (b : X1) (c : X2) (q : w v K) (i : X0 → X1 → X2 → x = some (v, K) := by intro a b c; exact zw (And.intro @a (And.intro @b @c))) : Step x w := Step.mk (i a b c) q
theorem zq4 {X0 X1 X2 X3 : Prop} (a : X0) (b : X1) (c : X2) (d : X3) (q : w v K) (i : X0 → X1 → X2 → X3 → x = some (v, K) := by intro a b c d; exact zw (And.intro @a (And.intro @b (And.intro @c @d)))) : Step x w := Step.mk (i a b c d) q
theorem zq5 {X0 X1 X2 X3 X4 : Prop} (a : X0) (b : X1) (c : X2) (d : X3) (e : X4) (q : w v K) (i : X0 → X1 → X2 → X3 → X4 → x = some (v, K) := by intro a b c d e; exact zw (And.intro @a (And.intro @b (And.intro @c (And.intro @d @e))))) : Step x w := Step.mk (i a b c d e) q
theorem zq6 {X0 X1 X2 X3 X4 X5 : Prop} (a : X0) (b : X1) (c : X2) (d : X3) (e : X4) (f : X5) (q : w v K) (i : X0 → X1 → X2 → X3 → X4 → X5 → x = some (v, K) := by intro a b c d e f; exact zw (And.intro @a (And.intro @b (And.intro @c (And.intro @d (And.intro @e @f)))))) : Step x w := Step.mk (i a b c d e f) q
theorem zq8 {X0 X1 X2 X3 X4 X5 X6 X7 : Prop} (a : X0) (b : X1) (c : X2) (d : X3) (e : X4) (f : X5) (g : X6) (m : X7) (q : w v K) (i : X0 → X1 → X2 → X3 → X4 → X5 → X6 → X7 → x = some (v, K) := by intro a b c d e f g m; exact zw (And.intro @a (And.intro @b (And.intro @c (And.intro @d (And.intro @e (And.intro @f (And.intro @g @m)))))))) : Step x w := Step.mk (i a b c d e f g m) q
end
theorem zk {F P : Prop} (f : F) (h : F → P := by intro f; repeat' (first | exact good_nil | with_reducible refine good_cons ?_ ?_ | (with_reducible refine good_ofN ?_ ?_ 1; rotate_left; (simp only [evc, evr, tyC, tyE, rangeMapAt, storeAt, aeval, ofVal, cellAt, cellsAt, mapLenAt, lookAt, mapSetAt, mapDelAt, TI.agg, eq_self, Nat.reduceEqDiff, reduceIte, Nat.reduceLeDiff, Nat.reduceLT, Nat.reduceMul, Nat.reduceAdd, Nat.reduceSub, Int.reduceEq, Int.reduceLT, Int.reduceLE, Int.reduceNeg, f] <;> rfl); kernel_rfl) | (with_reducible refine good_ofG wu (by simp only [f, PT.get_set, Nat.reduceEqDiff, reduceIte] <;> rfl) ?_ ?_ ?_ 1; rotate_left 2; (simp only [evc, evr, tyC, tyE, rangeMapAt, storeAt, aeval, ofVal, cellAt, cellsAt, mapLenAt, lookAt, mapSetAt, mapDelAt, TI.agg, eq_self, Nat.reduceEqDiff, reduceIte, Nat.reduceLeDiff, Nat.reduceLT, Nat.reduceMul, Nat.reduceAdd, Nat.reduceSub, Int.reduceEq, Int.reduceLT, Int.reduceLE, Int.reduceNeg, f] <;> rfl); (first | rfl | decide | assumption); kernel_rfl) | fail "stop")) : P := h f

theorem fnPost_retC {C : Ctx} {T : PT AV} {H : AH} {a : Nat} {t : TypeId} {Q : AV → AH → Prop} {p x : AV} (h : T.get a = some p) (h2 : aload C H t p = some x) (hq : Q x H) : fnPost C [.cell a t] Q .ret T H := ⟨[x], by simp only [aresults, aresult, h, h2], hq⟩
theorem store_whole {K : AH} {t : TypeId} {i : TI} {b : Nat} {vs cs : List AV} (ht : tC.ti t = some i) (hb : K.get b = some (.cells false vs)) (hl : cs.length = i.size) (hv : vs.length = i.size) (ho : allOne cs = true) : astore tC K t (.ptr b 0) (.agg cs) = some (K.set b (.cells false cs)) := by
  rw [astore_agg ht hb hl ho (by omega)]
  have : splice vs 0 cs = cs := by
    unfold splice
    rw [List.take_zero, List.nil_append, Nat.zero_add, List.drop_of_length_le (by omega), List.append_nil]
  rw [this]
theorem load_whole {K : AH} {b n : Nat} {ro : Bool} {vs : List AV} (hb : K.get b = some (.cells ro vs)) (hl : vs.length = n) : cellsAt K b 0 n = some (.agg vs) := by
  simp only [cellsAt, hb, List.drop_zero, nbeq, ← hl, List.take_length, decide_true, cond_true]
theorem all31 (K : AH) (ev : Operand → AV) (d : Nat) (ty : TypeId) (pos : String) (after : Array Edge) : evOp tC F0 K ev { dst := some d, op := .alloc 31, type := ty, pos, after, guard := none } = some (.ptr K.next 0, K.alloc (.cells false [.int .i64 0, .bool false])) := evOp_alloc ti31 rfl rfl
theorem all96 (K : AH) (ev : Operand → AV) (d : Nat) (ty : TypeId) (pos : String) (after : Array Edge) : evOp tC F0 K ev { dst := some d, op := .alloc 96, type := ty, pos, after, guard := none } = some (.ptr K.next 0, K.alloc (.cells false [.int .i64 0, .int .u64 0, .int .u64 0])) := evOp_alloc ti96 rfl rfl
theorem all141 (K : AH) (ev : Operand → AV) (d : Nat) (ty : TypeId) (pos : String) (after : Array Edge) : evOp tC F0 K ev { dst := some d, op := .alloc 141, type := ty, pos, after, guard := none } = some (.ptr K.next 0, K.alloc (.cells false [.int .i64 0, .int .u64 0, .int .u64 0])) := evOp_alloc ti141 rfl rfl
theorem bd31n (n : Int) : abuild tC 31 [(0, .int .i64 n)] = some (.agg [.int .i64 n, .bool false]) := by
  simp only [abuild, ti31]
  simp [afill, AV.cells, notJunk, splice, ti2, ti4, nbeq, nble]
theorem bd31o : abuild tC 31 [(1, .bool true)] = some (.agg [.int .i64 0, .bool true]) := by kernel_rfl
theorem bd141o : abuild tC 141 [(2, .int .u64 1)] = some (.agg [.int .i64 0, .int .u64 0, .int .u64 1]) := by kernel_rfl
theorem bd141a (a b : Int) : abuild tC 141 [(0, .int .i64 a), (1, .int .u64 b)] = some (.agg [.int .i64 a, .int .u64 b, .int .u64 0]) := by
  simp only [abuild, ti141]
  simp [afill, AV.cells, notJunk, splice, ti2, ti94, nbeq, nble]
theorem bd141b (a b c : Int) : abuild tC 141 [(0, .int .i64 a), (1, .int .u64 b), (2, .int .u64 c)] = some (.agg [.int .i64 a, .int .u64 b, .int .u64 c]) := by
  simp only [abuild, ti141]
  simp [afill, AV.cells, notJunk, splice, ti2, ti94, nbeq, nble]

theorem of77 (N : Bd) (H : AH) (n : Int) : AC tC N 0 77 [.int .i64 n] H fun r K => r = .agg [.int .i64 n, .bool false] ∧ K = H := by
  refine AC.quiet rfl ?_
  refine AC.wf0 fun wfH => ?_
  refine AC.by (n := 5) (rs := [.cell 2 31]) tOK fn77 rfl rfl rfl rfl ?_
  have e0 : (PT.ofList .leaf 0 [AV.int .i64 n]).get 0 = some (.int .i64 n) := rfl
  generalize hK1 : H.alloc (.cells false [.int .i64 0, .bool false]) = K1
  obtain ⟨sK1, wfK1, nK1, gK1⟩ := laid wfH hK1
  have q1 := store_whole (cs := [.int .i64 n, .bool false]) ti31 gK1 rfl rfl rfl
  generalize hK2 : K1.set H.next (.cells false [.int .i64 n, .bool false]) = K2
  obtain ⟨sK2, nK2, wfK2, gK2⟩ := puts wfK1 hK2
  refine zs6 @e0 @all31 @hK1 @bd31n @q1 @hK2 ?_
  exact fnPost_retC gt1 (by rw [ld31, load_whole (n := 2) gK2 rfl]) ⟨rfl, fun k z hz => sK2 _ _ (by have := wfH _ _ hz; omega) (sK1 _ _ hz)⟩

theorem over101 (N : Bd) (H : AH) : AC tC N 0 101 [] H fun r K => r = .agg [.int .i64 0, .bool true] ∧ K = H := by
  refine AC.quiet rfl ?_
  refine AC.wf0 fun wfH => ?_
  refine AC.by (n := 2) (rs := [.cell 0 31]) tOK fn101 rfl rfl rfl rfl ?_
  generalize hK1 : H.alloc (.cells false [.int .i64 0, .bool false]) = K1
  obtain ⟨sK1, wfK1, nK1, gK1⟩ := laid wfH hK1
  have q1 := store_whole (cs := [.int .i64 0, .bool true]) ti31 gK1 rfl rfl rfl
  generalize hK2 : K1.set H.next (.cells false [.int .i64 0, .bool true]) = K2
  obtain ⟨sK2, nK2, wfK2, gK2⟩ := puts wfK1 hK2
  refine zs5 @all31 @hK1 @bd31o @q1 @hK2 ?_
  exact fnPost_retC gt1 (by rw [ld31, load_whole (n := 2) gK2 rfl]) ⟨rfl, fun k z hz => sK2 _ _ (by have := wfH _ _ hz; omega) (sK1 _ _ hz)⟩

set_option maxHeartbeats 2000000 in
theorem value76 (N : Bd) (H : AH) (S c : Int) : AC tC N 0 76 [.agg (grt S c)] H fun r K => r = .agg [.int .i64 (grtV S c).1, .bool (grtV S c).2] ∧ K = H := by
  refine AC.quiet rfl ?_
  refine AC.wf0 fun wfH => ?_
  refine AC.by (n := 20) (rs := [.cell 2 31]) tOK fn76 rfl rfl rfl rfl ?_
  have e0 : (PT.ofList .leaf 0 [AV.agg (grt S c)]).get 0 = some (.agg [.int .i64 (hiI S), .int .u64 (loN S : Nat), .int .u64 (loN c : Nat)]) := rfl
  generalize hK1 : H.alloc (.cells false [.int .i64 (hiI S), .int .u64 (loN S : Nat), .int .u64 (loN c : Nat)]) = K1
  obtain ⟨sK1, wfK1, nK1, gK1⟩ := laid wfH hK1
  generalize hK2 : K1.alloc (.cells false [.int .i64 0, .bool false]) = K2
  obtain ⟨sK2, wfK2, nK2, gK2⟩ := laid wfK1 hK2
  have gK1 := sK2 _ _ gK1
  have sh := shr63 (C := tC) (t := 2) (cst := true) (n := IntKind.wrap .i64 (loN S : Nat)) (k' := .u64)
  have hw : I64 (IntKind.wrap .i64 (loN S : Nat)) := by
    unfold I64; rw [wi64]; have := loN_lt S; split <;> omega
  have sh : ∀ (t : TypeId) (cst : Bool) (k' : IntKind), abin tC .shr t cst (.int .i64 (IntKind.wrap .i64 (loN S : Nat))) (.int k' 63) = some (.int .i64 (if IntKind.wrap .i64 (loN S : Nat) < 0 then -1 else 0)) := fun t cst k' => shr63 hw
  have fin : ∀ K3 : AH, (∀ k z, k ≠ K1.next → K2.get k = some z → K3.get k = some z) → ∀ b o, H.get b = some o → K3.get b = some o := fun K3 h k z hz => h _ _ (by have := wfH _ _ hz; omega) (sK2 _ _ (sK1 _ _ hz))
  unfold grtV
  by_cases h1 : loN c = 0
  · have d1 : decide (((loN c : Nat) : Int) = 0) = true := decide_eq_true (by omega)
    by_cases h2 : hiI S = (if IntKind.wrap .i64 (loN S : Nat) < 0 then -1 else 0)
    · have d2 : decide (hiI S = (if IntKind.wrap .i64 (loN S : Nat) < 0 then -1 else 0)) = true := decide_eq_true h2
      rw [if_pos ⟨h1, h2⟩]
      refine zp8 @e0 @all31 @hK1 @hK2 @gK1 @d1 @sh @d2 ?_
      refine AOs.cq tOK fn77 ok77 (of77 N K2 _) ?_
      rintro r K2 ⟨rfl, rfl⟩
      have q1 := store_whole (cs := [.int .i64 (IntKind.wrap .i64 (loN S : Nat)), .bool false]) ti31 gK2 rfl rfl rfl
      generalize hK3 : K2.set K1.next (.cells false [.int .i64 (IntKind.wrap .i64 (loN S : Nat)), .bool false]) = K3
      obtain ⟨sK3, nK3, wfK3, gK3⟩ := puts wfK2 hK3
      refine zs2 @q1 @hK3 ?_
      exact fnPost_retC gt1 (by rw [ld31, load_whole (n := 2) gK3 rfl]) ⟨rfl, fin K3 sK3⟩
    · have d2 : decide (hiI S = (if IntKind.wrap .i64 (loN S : Nat) < 0 then -1 else 0)) = false := decide_eq_false h2
      rw [if_neg (fun h => h2 h.2)]
      refine zp8 @e0 @all31 @hK1 @hK2 @gK1 @d1 @sh @d2 ?_
      refine AOs.callQ tOK (fs := []) (cs := []) rfl fn101 ok101 rfl (by simp only [List.map_nil, List.append_nil] <;> rfl) (over101 N K2) ?_
      rintro r K2 ⟨rfl, rfl⟩
      have q1 := store_whole (cs := [.int .i64 0, .bool true]) ti31 gK2 rfl rfl rfl
      generalize hK3 : K2.set K1.next (.cells false [.int .i64 0, .bool true]) = K3
      obtain ⟨sK3, nK3, wfK3, gK3⟩ := puts wfK2 hK3
      refine zs2 @q1 @hK3 ?_
      exact fnPost_retC gt1 (by rw [ld31, load_whole (n := 2) gK3 rfl]) ⟨rfl, fin K3 sK3⟩
  · have d1 : decide (((loN c : Nat) : Int) = 0) = false := decide_eq_false (by omega)
    rw [if_neg (fun h => h1 h.1)]
    refine zp6 @e0 @all31 @hK1 @hK2 @gK1 @d1 ?_
    refine AOs.callQ tOK (fs := []) (cs := []) rfl fn101 ok101 rfl (by simp only [List.map_nil, List.append_nil] <;> rfl) (over101 N K2) ?_
    rintro r K2 ⟨rfl, rfl⟩
    have q1 := store_whole (cs := [.int .i64 0, .bool true]) ti31 gK2 rfl rfl rfl
    generalize hK3 : K2.set K1.next (.cells false [.int .i64 0, .bool true]) = K3
    obtain ⟨sK3, nK3, wfK3, gK3⟩ := puts wfK2 hK3
    refine zs2 @q1 @hK3 ?_
    exact fnPost_retC gt1 (by rw [ld31, load_whole (n := 2) gK3 rfl]) ⟨rfl, fin K3 sK3⟩

/-! Sums. -/
theorem run_add64 (x y c : Nat) (w : World) (hc : c ≤ 1) :
    (callFunc 139 #[.int .u64 (.ofNat x), .int .u64 (.ofNat y), .int .u64 (.ofNat c)]).run Tryz.prog w = .ok (.value (.tuple #[.int .u64 (.ofNat ((x + y + c) % 18446744073709551616)), .int .u64 (.ofNat ((x + y + c) / 18446744073709551616))])) w := by
  obtain ⟨e, he, hrun⟩ : ∃ e, Extern.find Tryz.f139 = some e ∧ (e #[.int .u64 (.ofNat x), .int .u64 (.ofNat y), .int .u64 (.ofNat c)]).run Tryz.prog w = .ok (.tuple #[.int .u64 (.ofNat ((x + y + c) % 18446744073709551616)), .int .u64 (.ofNat ((x + y + c) / 18446744073709551616))]) w := by
    refine ⟨fun args => do
      let (x, y, c) ← Extern.MathBitsCarry.three "Add64" args
      pure (Extern.MathBitsCarry.pair ((x + y + c) % Extern.MathBitsCarry.m64) ((x + y + c) / Extern.MathBitsCarry.m64)), by kernel_rfl, ?_⟩
    have hn : ¬ c > 1 := by omega
    obtain ⟨u, hu⟩ : ∃ u : Sem (Nat × Nat × Nat), Extern.MathBitsCarry.three "Add64" #[.int .u64 (.ofNat x), .int .u64 (.ofNat y), .int .u64 (.ofNat c)] = (if c > 1 then u else pure (x, y, c)) := ⟨_, rfl⟩
    simp only [hu, if_neg hn]
    rfl
  rw [run_callFunc_extern Tryz.func139 (by kernel_rfl) (by kernel_rfl) (by kernel_rfl) (e := e) he, hrun]
  rfl
theorem add64_open {N : Bd} {H : AH} {x y a b : Nat} (ha : (x + y) % 18446744073709551616 = a) (hb : (x + y) / 18446744073709551616 = b) : ∀ ρ w vs, R N 0 ρ H w → VRs ρ [.int .u64 (x : Int), .int .u64 (y : Int), .int .u64 0] vs →
    ∃ v w' ρ' r H', (callFunc 139 ⟨vs⟩).run tC.P w = .ok (.value v) w' ∧ VR ρ' r v ∧ R N 0 ρ' H' w' ∧ Fr ρ H w ρ' H' w' ∧ (r = .tuple [.int .u64 (a : Int), .int .u64 (b : Int)] ∧ H' = H) := fun ρ w vs hR hv => by
  have hsp : specAdd64 [.int .u64 (x : Int), .int .u64 (y : Int), .int .u64 0] H = some (.tuple [.int .u64 (a : Int), .int .u64 (b : Int)], H) := by
    subst ha; subst hb; rfl
  obtain ⟨v, w', ρ', h1, h2, h3, h4⟩ := specAdd64_ok (P := Tryz.prog) run_add64 hsp hR hv
  exact ⟨v, w', ρ', _, _, h1, h2, h3, h4, rfl, rfl⟩

def valS (n : Int) (o : Bool) : Int := if o = true then 0 else n
def valO (o : Bool) : Int := if o = true then 1 else 0

set_option maxHeartbeats 2000000 in
theorem of106 (N : Bd) (H : AH) (n : Int) (o : Bool) (hn : I64 n) : AC tC N 0 106 [.agg [.int .i64 n, .bool o]] H fun r K => r = .agg (grt (valS n o) (valO o)) ∧ K = H := by
  refine AC.quiet rfl ?_
  refine AC.wf0 fun wfH => ?_
  refine AC.by (n := 13) (rs := [.cell 2 141]) tOK fn106 rfl rfl rfl rfl ?_
  have e0 : (PT.ofList .leaf 0 [AV.agg [.int .i64 n, .bool o]]).get 0 = some (.agg [.int .i64 n, .bool o]) := rfl
  generalize hK1 : H.alloc (.cells false [.int .i64 n, .bool o]) = K1
  obtain ⟨sK1, wfK1, nK1, gK1⟩ := laid wfH hK1
  generalize hK2 : K1.alloc (.cells false [.int .i64 0, .int .u64 0, .int .u64 0]) = K2
  obtain ⟨sK2, wfK2, nK2, gK2⟩ := laid wfK1 hK2
  have gK1 := sK2 _ _ gK1
  have fin : ∀ K3 : AH, (∀ k z, k ≠ K1.next → K2.get k = some z → K3.get k = some z) → ∀ b o, H.get b = some o → K3.get b = some o := fun K3 h k z hz => h _ _ (by have := wfH _ _ hz; omega) (sK2 _ _ (sK1 _ _ hz))
  cases o with
  | true =>
    have q1 := store_whole (cs := [.int .i64 0, .int .u64 0, .int .u64 1]) ti141 gK2 rfl rfl rfl
    generalize hK3 : K2.set K1.next (.cells false [.int .i64 0, .int .u64 0, .int .u64 1]) = K3
    obtain ⟨sK3, nK3, wfK3, gK3⟩ := puts wfK2 hK3
    refine zs8 @ld4 @fa31_1 @e0 @all141 @hK1 @hK2 @gK1 (And.intro @bd141o (And.intro @q1 @hK3)) ?_
    exact fnPost_retC gt1 (by rw [ld141, load_whole (n := 3) gK3 rfl]; rfl) ⟨rfl, fin K3 sK3⟩
  | false =>
    have sh : ∀ (t : TypeId) (cst : Bool) (k' : IntKind), abin tC .shr t cst (.int .i64 n) (.int k' 63) = some (.int .i64 (if n < 0 then -1 else 0)) := fun t cst k' => shr63 hn
    have e1 : (if n < 0 then (-1 : Int) else 0) = hiI n := by
      unfold hiI; rw [wi64]; unfold I64 at hn; split <;> split <;> omega
    have e2 : IntKind.u64.wrap n = ((loN n : Nat) : Int) := by rw [wu64, loN_cast]
    have q1 := store_whole (cs := [.int .i64 (hiI n), .int .u64 (loN n : Nat), .int .u64 0]) ti141 gK2 rfl rfl rfl
    generalize hK3 : K2.set K1.next (.cells false [.int .i64 (hiI n), .int .u64 (loN n : Nat), .int .u64 0]) = K3
    obtain ⟨sK3, nK3, wfK3, gK3⟩ := puts wfK2 hK3
    refine zp8 @e0 @all141 @hK1 @hK2 @gK1 @sh @e1 (And.intro @e2 (And.intro @bd141a (And.intro @q1 @hK3))) ?_
    exact fnPost_retC gt1 (by rw [ld141, load_whole (n := 3) gK3 rfl]; rfl) ⟨rfl, fin K3 sK3⟩

set_option maxHeartbeats 4000000 in
theorem plus105 (N : Bd) (H : AH) (S c S' c' : Int) : AC tC N 0 105 [.agg (grt S c), .agg (grt S' c')] H fun r K => r = .agg (grt (S + S') (c + c')) ∧ K = H := by
  refine AC.quiet rfl ?_
  refine AC.wf0 fun wfH => ?_
  refine AC.by (n := 32) (rs := [.cell 4 141]) tOK fn105 rfl rfl rfl rfl ?_
  have e0 : (PT.ofList .leaf 0 [AV.agg (grt S c), AV.agg (grt S' c')]).get 0 = some (.agg [.int .i64 (hiI S), .int .u64 (loN S : Nat), .int .u64 (loN c : Nat)]) := rfl
  have e1 : (PT.ofList .leaf 0 [AV.agg (grt S c), AV.agg (grt S' c')]).get 1 = some (.agg [.int .i64 (hiI S'), .int .u64 (loN S' : Nat), .int .u64 (loN c' : Nat)]) := rfl
  generalize hK1 : H.alloc (.cells false [.int .i64 (hiI S), .int .u64 (loN S : Nat), .int .u64 (loN c : Nat)]) = K1
  obtain ⟨sK1, wfK1, nK1, gK1⟩ := laid wfH hK1
  generalize hK2 : K1.alloc (.cells false [.int .i64 (hiI S'), .int .u64 (loN S' : Nat), .int .u64 (loN c' : Nat)]) = K2
  obtain ⟨sK2, wfK2, nK2, gK2⟩ := laid wfK1 hK2
  have gK1 := sK2 _ _ gK1
  generalize hK3 : K2.alloc (.cells false [.int .i64 0, .int .u64 0, .int .u64 0]) = K3
  obtain ⟨sK3, wfK3, nK3, gK3⟩ := laid wfK2 hK3
  have gK1 := sK3 _ _ gK1
  have gK2 := sK3 _ _ gK2
  have a1 := loN_cast S
  have a2 := loN_cast S'
  have a3 := loN_cast (S + S')
  have b1 := hiI_mod S
  have b2 := hiI_mod S'
  have hlo : (loN S + loN S') % 18446744073709551616 = loN (S + S') := by omega
  obtain ⟨cy, hcy⟩ : ∃ cy, (loN S + loN S') / 18446744073709551616 = cy := ⟨_, rfl⟩
  have hhi : IntKind.i64.wrap (IntKind.u64.wrap (IntKind.u64.wrap (IntKind.u64.wrap (hiI S) + IntKind.u64.wrap (hiI S')) + ((cy : Nat) : Int))) = hiI (S + S') := by
    refine hiI_of ?_
    simp only [wu64]
    omega
  have hov : IntKind.u64.wrap (((loN c : Nat) : Int) + ((loN c' : Nat) : Int)) = ((loN (c + c') : Nat) : Int) := by
    rw [wu64, loN_cast, loN_cast, loN_cast]; omega
  refine zs8 @ld94 @fa141_1 @e0 @e1 @all141 @hK1 @hK2 (And.intro @hK3 (And.intro @gK1 @gK2)) ?_
  refine AOs.callO (f := 139) (Qc := fun r K => r = .tuple [.int .u64 (loN (S + S') : Nat), .int .u64 (cy : Nat)] ∧ K = K3) rfl rfl (by simp only [List.map_cons, List.map_nil, aeval, ofVal, PT.get_set, Nat.reduceEqDiff, reduceIte] <;> rfl) (add64_open hlo hcy) ?_
  rintro r K3 ⟨rfl, rfl⟩
  have q1 := store_whole (cs := [.int .i64 (hiI (S + S')), .int .u64 (loN (S + S') : Nat), .int .u64 (loN (c + c') : Nat)]) ti141 gK3 rfl rfl rfl
  generalize hK4 : K3.set K2.next (.cells false [.int .i64 (hiI (S + S')), .int .u64 (loN (S + S') : Nat), .int .u64 (loN (c + c') : Nat)]) = K4
  obtain ⟨sK4, nK4, wfK4, gK4⟩ := puts wfK3 hK4
  refine zp7 @gK1 @gK2 @hhi @hov @bd141b @q1 @hK4 ?_
  exact fnPost_retC gt1 (by rw [ld141, load_whole (n := 3) gK4 rfl]; rfl) ⟨rfl, fun k z hz => sK4 _ _ (by have := wfH _ _ hz; omega) (sK3 _ _ (sK2 _ _ (sK1 _ _ hz)))⟩

set_option maxHeartbeats 4000000 in
theorem turned107 (N : Bd) (H : AH) (S c : Int) : AC tC N 0 107 [.agg (grt S c)] H fun r K => r = .agg (grt (-S) (-c)) ∧ K = H := by
  refine AC.quiet rfl ?_
  refine AC.wf0 fun wfH => ?_
  refine AC.by (n := 24) (rs := [.cell 2 141]) tOK fn107 rfl rfl rfl rfl ?_
  have e0 : (PT.ofList .leaf 0 [AV.agg (grt S c)]).get 0 = some (.agg [.int .i64 (hiI S), .int .u64 (loN S : Nat), .int .u64 (loN c : Nat)]) := rfl
  generalize hK1 : H.alloc (.cells false [.int .i64 (hiI S), .int .u64 (loN S : Nat), .int .u64 (loN c : Nat)]) = K1
  obtain ⟨sK1, wfK1, nK1, gK1⟩ := laid wfH hK1
  generalize hK2 : K1.alloc (.cells false [.int .i64 0, .int .u64 0, .int .u64 0]) = K2
  obtain ⟨sK2, wfK2, nK2, gK2⟩ := laid wfK1 hK2
  have gK1 := sK2 _ _ gK1
  have a1 := loN_cast S
  have a3 := loN_cast (-S)
  have b1 := hiI_mod S
  have l1 := loN_lt S
  have x1 := uop_xor_u64 (loN_lt S)
  have x2 := uop_xor_i64 (hiI_64 S)
  have x3 := uop_neg_u64 (n := ((loN c : Nat) : Int))
  have hlo : (18446744073709551615 - loN S + 1) % 18446744073709551616 = loN (-S) := by omega
  obtain ⟨cy, hcy⟩ : ∃ cy, (18446744073709551615 - loN S + 1) / 18446744073709551616 = cy := ⟨_, rfl⟩
  have hhi : IntKind.i64.wrap (IntKind.u64.wrap (IntKind.u64.wrap (-1 - hiI S) + ((cy : Nat) : Int))) = hiI (-S) := by
    refine hiI_of ?_
    simp only [wu64]
    omega
  have hov : IntKind.u64.wrap (0 - ((loN c : Nat) : Int)) = ((loN (-c) : Nat) : Int) := by
    rw [wu64, loN_cast, loN_cast]; omega
  refine zs8 @ld94 @fa141_1 @e0 @all141 @hK1 @hK2 @gK1 (And.intro @evOp_unX @x1) ?_
  refine AOs.callO (f := 139) (Qc := fun r K => r = .tuple [.int .u64 (loN (-S) : Nat), .int .u64 (cy : Nat)] ∧ K = K2) rfl rfl (by simp only [List.map_cons, List.map_nil, aeval, ofVal, PT.get_set, Nat.reduceEqDiff, reduceIte] <;> rfl) (add64_open (x := 18446744073709551615 - loN S) (y := 1) hlo hcy) ?_
  rintro r K2 ⟨rfl, rfl⟩
  have q1 := store_whole (cs := [.int .i64 (hiI (-S)), .int .u64 (loN (-S) : Nat), .int .u64 (loN (-c) : Nat)]) ti141 gK2 rfl rfl rfl
  generalize hK3 : K2.set K1.next (.cells false [.int .i64 (hiI (-S)), .int .u64 (loN (-S) : Nat), .int .u64 (loN (-c) : Nat)]) = K3
  obtain ⟨sK3, nK3, wfK3, gK3⟩ := puts wfK2 hK3
  refine zp8 @gK1 @evOp_unX @evOp_unN @x2 @x3 @hhi @hov (And.intro @bd141b (And.intro @q1 @hK3)) ?_
  exact fnPost_retC gt1 (by rw [ld141, load_whole (n := 3) gK3 rfl]; rfl) ⟨rfl, fun k z hz => sK3 _ _ (by have := wfH _ _ hz; omega) (sK2 _ _ (sK1 _ _ hz))⟩

set_option maxHeartbeats 4000000 in
theorem put85 (N : Bd) (H : AH) (S c n : Int) (o : Bool) (hn : I64 n) : AC tC N 0 85 [.agg (grt S c), .agg [.int .i64 n, .bool o]] H fun r K => r = .agg (grt (S + valS n o) (c + valO o)) ∧ K = H := by
  refine AC.quiet rfl ?_
  refine AC.wf0 fun wfH => ?_
  refine AC.by (n := 9) (rs := [.cell 4 96]) tOK fn85 rfl rfl rfl rfl ?_
  have e0 : (PT.ofList .leaf 0 [AV.agg (grt S c), AV.agg [.int .i64 n, .bool o]]).get 0 = some (.agg (grt S c)) := rfl
  have e1 : (PT.ofList .leaf 0 [AV.agg (grt S c), AV.agg [.int .i64 n, .bool o]]).get 1 = some (.agg [.int .i64 n, .bool o]) := rfl
  generalize hK1 : H.alloc (.cells false (grt S c)) = K1
  obtain ⟨sK1, wfK1, nK1, gK1⟩ := laid wfH hK1
  generalize hK2 : K1.alloc (.cells false [.int .i64 n, .bool o]) = K2
  obtain ⟨sK2, wfK2, nK2, gK2⟩ := laid wfK1 hK2
  have gK1 := sK2 _ _ gK1
  generalize hK3 : K2.alloc (.cells false [.int .i64 0, .int .u64 0, .int .u64 0]) = K3
  obtain ⟨sK3, wfK3, nK3, gK3⟩ := laid wfK2 hK3
  have gK1 := sK3 _ _ gK1
  have gK2 := sK3 _ _ gK2
  have tkG : List.take 3 (List.drop 0 (grt S c)) = grt S c := rfl
  have lG : (grt S c).length = 3 := rfl
  refine zs6 @e0 @e1 @all96 @hK1 @hK2 @hK3 ?_
  refine AW.drawN tOK (Qs := [2, 3]) [0, 1, 2, 3, 4] (by kernel_rfl) pk1 ?_
  with_reducible repeat' first | (refine DN.rd1E (by kernel_rfl) wu ?_; refine zr8 @ld31 @ld96 @ld96 @gK1 @tkG @lG @gK2 @tk2 ?_; refine Same.mk ?_) | fail
  refine DN.callQ (fs := []) (cs := []) rfl fn106 ok106 rfl ar1 (of106 N K3 n o hn) ?_
  with_reducible repeat' first | (refine DN.rd1E (by kernel_rfl) wu ?_; refine zq2 @e0 @e1 ?_; refine Same.mk ?_) | fail
  refine DN.callQ (fs := []) (cs := []) rfl fn105 ok105 rfl ar1 (plus105 N K3 S c (valS n o) (valO o)) ?_
  have q1 := store_whole (cs := grt (S + valS n o) (c + valO o)) ti96 gK3 rfl rfl rfl
  generalize hK4 : K3.set K2.next (.cells false (grt (S + valS n o) (c + valO o))) = K4 at q1
  have gK4 : K4.get K2.next = some (.cells false (grt (S + valS n o) (c + valO o))) := by rw [← hK4, AH.get_set, if_pos rfl]
  have sK4 : ∀ k z, k ≠ K2.next → K3.get k = some z → K4.get k = some z := fun k z hk hz => by rw [← hK4, AH.get_set, if_neg hk]; exact hz
  with_reducible repeat' first | refine zb ?_ | refine DN.nil tOK ?_ | (refine DN.act0E tOK (by kernel_rfl) wu ?_; refine zr1 @q1 ?_) | fail
  exact fnPost_retC gt1 (by rw [ld96, load_whole (n := 3) gK4 rfl]) ⟨rfl, fun k z hz => sK4 _ _ (by have := wfH _ _ hz; omega) (sK3 _ _ (sK2 _ _ (sK1 _ _ hz)))⟩

set_option maxHeartbeats 4000000 in
theorem take82 (N : Bd) (H : AH) (S c n : Int) (o : Bool) (hn : I64 n) : AC tC N 0 82 [.agg (grt S c), .agg [.int .i64 n, .bool o]] H fun r K => r = .agg (grt (S + -valS n o) (c + -valO o)) ∧ K = H := by
  refine AC.quiet rfl ?_
  refine AC.wf0 fun wfH => ?_
  refine AC.by (n := 10) (rs := [.cell 4 96]) tOK fn82 rfl rfl rfl rfl ?_
  have e0 : (PT.ofList .leaf 0 [AV.agg (grt S c), AV.agg [.int .i64 n, .bool o]]).get 0 = some (.agg (grt S c)) := rfl
  have e1 : (PT.ofList .leaf 0 [AV.agg (grt S c), AV.agg [.int .i64 n, .bool o]]).get 1 = some (.agg [.int .i64 n, .bool o]) := rfl
  generalize hK1 : H.alloc (.cells false (grt S c)) = K1
  obtain ⟨sK1, wfK1, nK1, gK1⟩ := laid wfH hK1
  generalize hK2 : K1.alloc (.cells false [.int .i64 n, .bool o]) = K2
  obtain ⟨sK2, wfK2, nK2, gK2⟩ := laid wfK1 hK2
  have gK1 := sK2 _ _ gK1
  generalize hK3 : K2.alloc (.cells false [.int .i64 0, .int .u64 0, .int .u64 0]) = K3
  obtain ⟨sK3, wfK3, nK3, gK3⟩ := laid wfK2 hK3
  have gK1 := sK3 _ _ gK1
  have gK2 := sK3 _ _ gK2
  have tkG : List.take 3 (List.drop 0 (grt S c)) = grt S c := rfl
  have lG : (grt S c).length = 3 := rfl
  refine zs6 @e0 @e1 @all96 @hK1 @hK2 @hK3 ?_
  refine AW.drawN tOK (Qs := [2, 3, 4]) [0, 1, 2, 3, 4, 5] (by kernel_rfl) pk1 ?_
  with_reducible repeat' first | (refine DN.rd1E (by kernel_rfl) wu ?_; refine zr8 @ld31 @ld96 @ld96 @gK1 @tkG @lG @gK2 @tk2 ?_; refine Same.mk ?_) | fail
  refine DN.callQ (fs := []) (cs := []) rfl fn106 ok106 rfl ar1 (of106 N K3 n o hn) ?_
  with_reducible repeat' first | (refine DN.rd1E (by kernel_rfl) wu ?_; refine zq2 @e0 @e1 ?_; refine Same.mk ?_) | fail
  refine DN.callQ (fs := []) (cs := []) rfl fn107 ok107 rfl ar1 (turned107 N K3 (valS n o) (valO o)) ?_
  with_reducible repeat' first | (refine DN.rd1E (by kernel_rfl) wu ?_; refine zq2 @e0 @e1 ?_; refine Same.mk ?_) | fail
  refine DN.callQ (fs := []) (cs := []) rfl fn105 ok105 rfl ar1 (plus105 N K3 S c (-valS n o) (-valO o)) ?_
  have q1 := store_whole (cs := grt (S + -valS n o) (c + -valO o)) ti96 gK3 rfl rfl rfl
  generalize hK4 : K3.set K2.next (.cells false (grt (S + -valS n o) (c + -valO o))) = K4 at q1
  have gK4 : K4.get K2.next = some (.cells false (grt (S + -valS n o) (c + -valO o))) := by rw [← hK4, AH.get_set, if_pos rfl]
  have sK4 : ∀ k z, k ≠ K2.next → K3.get k = some z → K4.get k = some z := fun k z hk hz => by rw [← hK4, AH.get_set, if_neg hk]; exact hz
  with_reducible repeat' first | refine zb ?_ | refine DN.nil tOK ?_ | (refine DN.act0E tOK (by kernel_rfl) wu ?_; refine zr1 @q1 ?_) | fail
  exact fnPost_retC gt1 (by rw [ld96, load_whole (n := 3) gK4 rfl]) ⟨rfl, fun k z hz => sK4 _ _ (by have := wfH _ _ hz; omega) (sK3 _ _ (sK2 _ _ (sK1 _ _ hz)))⟩

theorem count162 (N : Bd) (H : AH) {v : AV} {t : Tr} (hv : TrAt H v t) : AC tC N 0 162 [v] H fun r K => r = .int .i64 (t.cnt : Nat) ∧ K = H := by
  refine AC.by (n := 9) (rs := [.tmp 2]) tOK fn162 rfl rfl rfl rfl ?_
  have e0 : (PT.ofList .leaf 0 [v]).get 0 = some v := rfl
  cases t with
  | leaf =>
    rw [show v = .nilp from hv] at e0 ⊢
    refine zs3 @eq137b @eq137b @e0 ?_
    exact fr1 ⟨rfl, rfl⟩
  | node b n k a h l r =>
    obtain ⟨rfl, vl, vr, hb, _, _⟩ := hv
    have hb : H.get b = some (.cells false [.int .i64 n, .int .i64 (k : Nat), .int .i64 (a : Nat), .int .i64 (h : Nat), vl, vr]) := hb
    refine zs6 @ld3 @eq137a @fa139_2 @eq137a @e0 @hb ?_
    exact fr1 ⟨rfl, rfl⟩
theorem high164 (N : Bd) (H : AH) {v : AV} {t : Tr} (hv : TrAt H v t) : AC tC N 0 164 [v] H fun r K => r = .int .i64 (t.hi : Nat) ∧ K = H := by
  refine AC.by (n := 9) (rs := [.tmp 2]) tOK fn164 rfl rfl rfl rfl ?_
  have e0 : (PT.ofList .leaf 0 [v]).get 0 = some v := rfl
  cases t with
  | leaf =>
    rw [show v = .nilp from hv] at e0 ⊢
    refine zs3 @eq137b @eq137b @e0 ?_
    exact fr1 ⟨rfl, rfl⟩
  | node b n k a h l r =>
    obtain ⟨rfl, vl, vr, hb, _, _⟩ := hv
    have hb : H.get b = some (.cells false [.int .i64 n, .int .i64 (k : Nat), .int .i64 (a : Nat), .int .i64 (h : Nat), vl, vr]) := hb
    refine zs6 @ld3 @eq137a @fa139_3 @eq137a @e0 @hb ?_
    exact fr1 ⟨rfl, rfl⟩

theorem store_nd {H : AH} {b j : Nat} {n t a h : Int} {vl vr u : AV} (hb : H.get b = some (.cells false (ndC n t a h vl vr))) (hu : u.one = true) (hj : j < 6) : storeAt H b j u = some (H.set b (.cells false ((ndC n t a h vl vr).set j u))) := by
  simp only [storeAt, hb]
  rw [if_pos (show j < (ndC n t a h vl vr).length from hj)]
set_option maxHeartbeats 4000000 in
theorem tell163 (N : Bd) (H : AH) {b : Nat} {n : Int} {k : Nat} {a h : Int} {vl vr : AV} {l r : Tr} (hb : H.get b = some (.cells false (ndC n k a h vl vr))) (hl : TrAt H vl l) (hr : TrAt H vr r) (nl : b ∉ l.blks) (nr : b ∉ r.blks) (ol : l.ok) (or : r.ok) (hN : k + l.cnt + r.cnt ≤ 1000000000) :
    AC tC N 0 163 [.ptr b 0] H fun x K => K.get b = some (.cells false (ndC n k ((k + l.cnt + r.cnt : Nat) : Int) ((1 + max l.hi r.hi : Nat) : Int) vl vr)) ∧ (∀ j, j ≠ b → K.get j = H.get j) ∧ K.next = H.next := by
  refine AC.wf0 fun wfH => ?_
  refine AC.by (n := 36) (rs := []) tOK fn163 rfl rfl rfl rfl ?_
  have e0 : (PT.ofList .leaf 0 [AV.ptr b 0]).get 0 = some (.ptr b 0) := rfl
  have hb' : H.get b = some (.cells false [.int .i64 n, .int .i64 (k : Nat), .int .i64 a, .int .i64 h, vl, vr]) := hb
  have hbn : b < H.next := wfH _ _ hb
  have bl := Tr.hi_le ol
  have br := Tr.hi_le or
  have w1 : IntKind.i64.wrap (((k : Nat) : Int) + ((l.cnt : Nat) : Int)) = ((k + l.cnt : Nat) : Int) := by rw [wrap64 (by omega) (by omega)]; omega
  have w2 : IntKind.i64.wrap (((k + l.cnt : Nat) : Int) + ((r.cnt : Nat) : Int)) = ((k + l.cnt + r.cnt : Nat) : Int) := by rw [wrap64 (by omega) (by omega)]; omega
  have w3 : max ((l.hi : Nat) : Int) ((r.hi : Nat) : Int) = ((max l.hi r.hi : Nat) : Int) := by omega
  have w4 : IntKind.i64.wrap ((1 : Int) + ((max l.hi r.hi : Nat) : Int)) = ((1 + max l.hi r.hi : Nat) : Int) := by rw [wrap64 (by omega) (by omega)]; omega
  have s1 : storeAt H b 2 (.int .i64 ((k + l.cnt + r.cnt : Nat) : Int)) = some (H.set b (.cells false (ndC n k ((k + l.cnt + r.cnt : Nat) : Int) h vl vr))) := store_nd hb rfl (by decide)
  generalize hK1 : H.set b (.cells false [.int .i64 n, .int .i64 (k : Nat), .int .i64 ((k + l.cnt + r.cnt : Nat) : Int), .int .i64 h, vl, vr]) = K1
  obtain ⟨sK1, nK1, wfK1, gK1⟩ := puts wfH hK1
  have hK1' : H.set b (.cells false (ndC n k ((k + l.cnt + r.cnt : Nat) : Int) h vl vr)) = K1 := hK1
  have gK1' : K1.get b = some (.cells false (ndC n k ((k + l.cnt + r.cnt : Nat) : Int) h vl vr)) := gK1
  have s2 : storeAt K1 b 3 (.int .i64 ((1 + max l.hi r.hi : Nat) : Int)) = some (K1.set b (.cells false (ndC n k ((k + l.cnt + r.cnt : Nat) : Int) ((1 + max l.hi r.hi : Nat) : Int) vl vr))) := store_nd gK1' rfl (by decide)
  generalize hK2 : K1.set b (.cells false (ndC n k ((k + l.cnt + r.cnt : Nat) : Int) ((1 + max l.hi r.hi : Nat) : Int) vl vr)) = K2 at s2
  have hK2l : K1.set b (.cells false [.int .i64 n, .int .i64 (k : Nat), .int .i64 ((k + l.cnt + r.cnt : Nat) : Int), .int .i64 ((1 + max l.hi r.hi : Nat) : Int), vl, vr]) = K2 := hK2
  have hl1 : TrAt K1 vl l := hl.keep fun j hj o ho => sK1 j o (fun e => nl (e ▸ hj)) ho
  have hr1 : TrAt K1 vr r := hr.keep fun j hj o ho => sK1 j o (fun e => nr (e ▸ hj)) ho
  refine zs0 ?_
  refine AW.drawN tOK (Qs := [9, 15]) [0, 1, 2, 3, 4, 5, 6, 7, 8, 9, 10, 11, 12, 13, 14, 15, 16, 17, 18, 19] (by kernel_rfl) pk1 ?_
  with_reducible repeat' first | (refine zd ?_; refine zr6 @ld3 @ld137 @fa139_1 @fa139_4 @e0 @hb' ?_; refine Same.mk ?_) | fail
  refine DN.callQ (fs := []) (cs := []) rfl fn162 ok162 rfl ar1 (count162 N H hl) ?_
  with_reducible repeat' first | (refine zd ?_; refine zr5 @ld137 @fa139_5 @e0 @hb' @w1 ?_; refine Same.mk ?_) | fail
  refine DN.callQ (fs := []) (cs := []) rfl fn162 ok162 rfl ar1 (count162 N H hr) ?_
  with_reducible repeat' first | refine zb ?_ | refine DN.nil tOK ?_ | (refine DN.fl1E wu wu ?_; refine zr2 @fa139_2 @w2 ?_; refine Same.mk ?_) | (refine DN.act0E tOK (by kernel_rfl) wu ?_; refine zq2 @hb' @hK1 ?_) | fail
  refine AW.drawN tOK (Qs := [5, 10]) [0, 1, 2, 3, 4, 5, 6, 7, 8, 9, 10, 11, 12, 13, 14, 15] (by kernel_rfl) pk1 ?_
  with_reducible repeat' first | (refine zd ?_; refine zr4 @ld137 @fa139_4 @e0 @gK1 ?_; refine Same.mk ?_) | fail
  refine DN.callQ (fs := []) (cs := []) rfl fn164 ok164 rfl ar1 (high164 N K1 hl1) ?_
  with_reducible repeat' first | (refine zd ?_; refine zr4 @ld137 @fa139_5 @e0 @gK1 ?_; refine Same.mk ?_) | fail
  refine DN.callQ (fs := []) (cs := []) rfl fn164 ok164 rfl ar1 (high164 N K1 hr1) ?_
  with_reducible repeat' first | refine DN.nil tOK ?_ | (refine zd ?_; refine Step.mk (by simp only [evc, aeval, ofVal, Nat.reduceEqDiff, reduceIte, eq_self, fa139_3, evOp_max2, max2V_int, Option.isSome_some, w3, w4]; rfl) ?_; refine Same.mk ?_) | (refine DN.act0E tOK (by kernel_rfl) wu ?_; refine zq2 @gK1 @hK2l ?_) | fail
  exact fnPost_normal0 ⟨by rw [← hK2, AH.get_set, if_pos rfl], fun j hj => by rw [← hK2, AH.get_set, if_neg hj, ← hK1, AH.get_set, if_neg hj], by rw [← hK2, ← hK1]; rfl⟩

/-! A place where a tree hangs. -/
def SlotAt (H : AH) (p o : Nat) (v : AV) : Prop := ∃ ps, H.get p = some (.cells false ps) ∧ ps[o]? = some v
/-- What became of a tree that hangs at a place. -/
structure TD (H K : AH) (p o : Nat) (t t' : Tr) : Prop where
  slot : ∃ v', (∀ ps, H.get p = some (.cells false ps) → K.get p = some (.cells false (ps.set o v'))) ∧ TrAt K v' t'
  old : ∀ b ∈ t'.blks, b ∈ t.blks ∨ H.next ≤ b
  nd : t'.blks.Nodup
  keep : ∀ k y, k ≠ p → k ∉ t.blks → H.get k = some y → K.get k = some y
  next : H.next ≤ K.next
def mkT (b : Nat) (n : Int) (k : Nat) (l r : Tr) : Tr := .node b n k (k + l.cnt + r.cnt) (1 + max l.hi r.hi) l r
theorem mkT_ok {b : Nat} {n : Int} {k : Nat} {l r : Tr} (h1 : 1 ≤ k) (h2 : l.ok) (h3 : r.ok) : (mkT b n k l r).ok := ⟨h1, rfl, rfl, h2, h3⟩
theorem SlotAt.lt {H : AH} {p o : Nat} {v : AV} (h : SlotAt H p o v) {ps : List AV} (hp : H.get p = some (.cells false ps)) : ps[o]? = some v ∧ o < ps.length := by
  obtain ⟨ps', h1, h2⟩ := h
  rw [hp] at h1; cases h1
  exact ⟨h2, (List.getElem?_eq_some_iff.1 h2).1⟩

theorem nd3 {b c : Nat} {L2 R2 R : List Nat} (h : (b :: ((c :: (L2 ++ R2)) ++ R)).Nodup) : b ≠ c ∧ (b ∉ L2 ∧ b ∉ R2 ∧ b ∉ R) ∧ (c ∉ L2 ∧ c ∉ R2 ∧ c ∉ R) ∧ (∀ x ∈ L2, x ∉ R2) ∧ (∀ x ∈ L2, x ∉ R) ∧ (∀ x ∈ R2, x ∉ R) := by
  simp only [List.cons_append, List.nodup_cons, List.mem_cons, List.mem_append, not_or, List.append_assoc, List.nodup_append] at h
  obtain ⟨⟨h1, h2, h3, h4⟩, ⟨h5, h6, h7⟩, h8, ⟨h9, h10, h11⟩, h12⟩ := h
  refine ⟨h1, ⟨h2, h3, h4⟩, ⟨h5, h6, h7⟩, fun x hx hy => ?_, fun x hx hy => ?_, fun x hx hy => ?_⟩
  · exact h12 x hx x (by simp [hy]) rfl
  · exact h12 x hx x (by simp [hy]) rfl
  · exact h11 x hx x hy rfl
theorem ne_of_mem {b : Nat} {L : List Nat} (h : b ∉ L) : ∀ x ∈ L, x ≠ b := fun x hx e => h (e ▸ hx)

set_option maxHeartbeats 8000000 in
theorem turn_left (N : Bd) (H : AH) {p o b c k k2 : Nat} {n n2 : Int} {a h a2 h2 : Nat} {l2 r2 r : Tr} {v : AV} (hs : SlotAt H p o v) (ht : TrAt H v (.node b n k a h (.node c n2 k2 a2 h2 l2 r2) r)) (hp : p ∉ (Tr.node b n k a h (.node c n2 k2 a2 h2 l2 r2) r).blks) (hnd : (Tr.node b n k a h (.node c n2 k2 a2 h2 l2 r2) r).blks.Nodup)
    (kpos : 1 ≤ k) (o1 : l2.ok) (o2 : r2.ok) (o3 : r.ok) (hN : k + k2 + l2.cnt + r2.cnt + r.cnt ≤ 1000000000) :
    AC tC N 0 165 [.agg [.ptr p o], .bool true] H fun x K => TD H K p o (.node b n k a h (.node c n2 k2 a2 h2 l2 r2) r) (mkT c n2 k2 l2 (mkT b n k r2 r)) := by
  refine AC.wf0 fun wfH => ?_
  refine AC.by (n := 58) (rs := []) tOK fn165 rfl rfl rfl rfl ?_
  have e0 : (PT.ofList .leaf 0 [AV.agg [.ptr p o], .bool true]).get 0 = some (.agg [.ptr p o]) := rfl
  have e1 : (PT.ofList .leaf 0 [AV.agg [.ptr p o], .bool true]).get 1 = some (.bool true) := rfl
  obtain ⟨rfl, vl, vr, hb, hl, hr⟩ := ht
  obtain ⟨rfl, vl2, vr2, hc, hl2, hr2⟩ := hl
  obtain ⟨ps, hps, hpo⟩ := hs
  have hpl := (List.getElem?_eq_some_iff.1 hpo).1
  have hperm : (c :: (l2.blks ++ b :: (r2.blks ++ r.blks))).Perm (b :: ((c :: (l2.blks ++ r2.blks)) ++ r.blks)) := List.perm_iff_count.2 fun x => by simp only [List.count_cons, List.count_append]; omega
  obtain ⟨hbc, ⟨bl2, br2, br⟩, ⟨cl2, cr2, cr⟩, d1, d2, d3⟩ := nd3 hnd
  have hp' : p ≠ b ∧ p ≠ c ∧ p ∉ l2.blks ∧ p ∉ r2.blks ∧ p ∉ r.blks := by
    have hp : ¬ p ∈ b :: ((c :: (l2.blks ++ r2.blks)) ++ r.blks) := hp
    simp only [List.cons_append, List.mem_cons, List.mem_append, not_or] at hp
    exact ⟨hp.1, hp.2.1, hp.2.2.1.1, hp.2.2.1.2, hp.2.2.2⟩
  obtain ⟨pb, pc, pl2, pr2, pr⟩ := hp'
  have hb : H.get b = some (.cells false [.int .i64 n, .int .i64 (k : Nat), .int .i64 (a : Nat), .int .i64 (h : Nat), .ptr c 0, vr]) := hb
  have hc : H.get c = some (.cells false [.int .i64 n2, .int .i64 (k2 : Nat), .int .i64 (a2 : Nat), .int .i64 (h2 : Nat), vl2, vr2]) := hc
  have bN := wfH _ _ hb
  have cN := wfH _ _ hc
  have pN := wfH _ _ hps
  generalize hK1 : H.alloc (.cells false [.ptr p o]) = K1
  obtain ⟨sK1, wfK1, nK1, gK1⟩ := laid wfH hK1
  have hb1 := sK1 _ _ hb
  have hc1 := sK1 _ _ hc
  have hp1 := sK1 _ _ hps
  have hr2o := hr2.one
  generalize hK2 : K1.set b (.cells false [.int .i64 n, .int .i64 (k : Nat), .int .i64 (a : Nat), .int .i64 (h : Nat), vr2, vr]) = K2
  obtain ⟨sK2, nK2, wfK2, gK2⟩ := puts wfK1 hK2
  have hc2 := sK2 _ _ (Ne.symm hbc) hc1
  have hp2 := sK2 _ _ pb hp1
  have gb2 := sK2 _ _ (by omega) gK1
  generalize hK3 : K2.set c (.cells false [.int .i64 n2, .int .i64 (k2 : Nat), .int .i64 (a2 : Nat), .int .i64 (h2 : Nat), vl2, .ptr b 0]) = K3
  obtain ⟨sK3, nK3, wfK3, gK3⟩ := puts wfK2 hK3
  have hb3 := sK3 _ _ hbc gK2
  have hp3 := sK3 _ _ pc hp2
  have gb3 := sK3 _ _ (by omega) gb2
  have keep3 : ∀ j, j ≠ b → j ≠ c → ∀ y, H.get j = some y → K3.get j = some y := fun j hb hc y hy => sK3 _ _ hc (sK2 _ _ hb (sK1 _ _ hy))
  have tr3 : ∀ {w : AV} {t : Tr}, TrAt H w t → b ∉ t.blks → c ∉ t.blks → TrAt K3 w t := fun h h1 h2 => h.keep fun j hj y hy => keep3 j (ne_of_mem h1 j hj) (ne_of_mem h2 j hj) y hy
  refine zp8 @e0 @e1 @hK1 @gK1 @hp1 @hpo @hb1 (And.intro @hc1 (And.intro @hr2o (And.intro @hK2 (And.intro @hc2 @hK3)))) ?_
  refine AOs.cq tOK fn163 ok163 (tell163 N K3 (l := r2) (r := r) (vl := vr2) (vr := vr) hb3 (tr3 hr2 br2 cr2) (tr3 hr br cr) br2 br o2 o3 (by omega)).wf ?_
  rintro x K4 ⟨⟨gb4, k4, n4⟩, wf4⟩
  have hc4 : K4.get c = some (.cells false (ndC n2 k2 a2 h2 vl2 (.ptr b 0))) := by rw [k4 c (Ne.symm hbc)]; exact gK3
  have tr4 : ∀ {w : AV} {t : Tr}, TrAt H w t → b ∉ t.blks → c ∉ t.blks → TrAt K4 w t := fun h h1 h2 => (tr3 h h1 h2).keep fun j hj y hy => by rw [k4 j (ne_of_mem h1 j hj)]; exact hy
  have tb4 : TrAt K4 (.ptr b 0) (mkT b n k r2 r) := ⟨rfl, vr2, vr, gb4, tr4 hr2 br2 cr2, tr4 hr br cr⟩
  have cb : c ∉ (mkT b n k r2 r).blks := by simp [mkT, Tr.blks, Ne.symm hbc, cr2, cr]
  refine zs0 ?_
  refine AOs.cq tOK fn163 ok163 (tell163 N K4 (l := l2) (r := mkT b n k r2 r) (vl := vl2) (vr := .ptr b 0) hc4 (tr4 hl2 bl2 cl2) tb4 cl2 cb o1 (mkT_ok kpos o2 o3) (show k2 + l2.cnt + (k + r2.cnt + r.cnt) ≤ 1000000000 by omega)).wf ?_
  rintro x K5 ⟨⟨gc5, k5, n5⟩, wf5⟩
  have hp5 : K5.get p = some (.cells false ps) := by rw [k5 p pc, k4 p pb]; exact hp3
  have gb5 : K5.get H.next = some (.cells false [.ptr p o]) := by rw [k5 _ (by omega), k4 _ (by omega)]; exact gb3
  generalize hK6 : K5.set p (.cells false (ps.set o (.ptr c 0))) = K6
  have keep6 : ∀ j, j ≠ p → j ≠ b → j ≠ c → ∀ y, H.get j = some y → K6.get j = some y := fun j h1 h2 h3 y hy => by rw [← hK6, AH.get_set, if_neg h1, k5 j h3, k4 j h2]; exact keep3 j h2 h3 y hy
  have tr6 : ∀ {w : AV} {t : Tr}, TrAt H w t → p ∉ t.blks → b ∉ t.blks → c ∉ t.blks → TrAt K6 w t := fun h h0 h1 h2 => h.keep fun j hj y hy => keep6 j (ne_of_mem h0 j hj) (ne_of_mem h1 j hj) (ne_of_mem h2 j hj) y hy
  have gc6 : K6.get c = some (.cells false (ndC n2 k2 ((k2 + l2.cnt + (mkT b n k r2 r).cnt : Nat) : Int) ((1 + max l2.hi (mkT b n k r2 r).hi : Nat) : Int) vl2 (.ptr b 0))) := by rw [← hK6, AH.get_set, if_neg (Ne.symm pc)]; exact gc5
  have gb6 : K6.get b = some (.cells false (ndC n k ((k + r2.cnt + r.cnt : Nat) : Int) ((1 + max r2.hi r.hi : Nat) : Int) vr2 vr)) := by rw [← hK6, AH.get_set, if_neg (Ne.symm pb), k5 b hbc]; exact gb4
  refine zp4 @gb5 @hp5 @hpl @hK6 ?_
  refine fnPost_ret0 ⟨⟨.ptr c 0, fun qs hq => ?_, rfl, vl2, .ptr b 0, gc6, tr6 hl2 pl2 bl2 cl2, rfl, vr2, vr, gb6, tr6 hr2 pr2 br2 cr2, tr6 hr pr br cr⟩, fun j hj => .inl ((hperm.mem_iff).1 hj), hperm.nodup_iff.2 hnd, fun j y h1 h2 hy => ?_, ?_⟩
  · rw [hps] at hq; cases hq
    rw [← hK6, AH.get_set, if_pos rfl]
  · have h2 : ¬ j ∈ b :: ((c :: (l2.blks ++ r2.blks)) ++ r.blks) := h2
    simp only [List.cons_append, List.mem_cons, List.mem_append, not_or] at h2
    exact keep6 j h1 h2.1 h2.2.1 y hy
  · rw [← hK6]; show H.next ≤ K5.next; omega
set_option maxHeartbeats 8000000 in
theorem turn_right (N : Bd) (H : AH) {p o b c k k2 : Nat} {n n2 : Int} {a h a2 h2 : Nat} {l2 r2 l : Tr} {v : AV} (hs : SlotAt H p o v) (ht : TrAt H v (.node b n k a h l (.node c n2 k2 a2 h2 l2 r2))) (hp : p ∉ (Tr.node b n k a h l (.node c n2 k2 a2 h2 l2 r2)).blks) (hnd : (Tr.node b n k a h l (.node c n2 k2 a2 h2 l2 r2)).blks.Nodup)
    (kpos : 1 ≤ k) (o1 : l2.ok) (o2 : r2.ok) (o3 : l.ok) (hN : k + k2 + l2.cnt + r2.cnt + l.cnt ≤ 1000000000) :
    AC tC N 0 165 [.agg [.ptr p o], .bool false] H fun x K => TD H K p o (.node b n k a h l (.node c n2 k2 a2 h2 l2 r2)) (mkT c n2 k2 (mkT b n k l l2) r2) := by
  refine AC.wf0 fun wfH => ?_
  refine AC.by (n := 58) (rs := []) tOK fn165 rfl rfl rfl rfl ?_
  have e0 : (PT.ofList .leaf 0 [AV.agg [.ptr p o], .bool false]).get 0 = some (.agg [.ptr p o]) := rfl
  have e1 : (PT.ofList .leaf 0 [AV.agg [.ptr p o], .bool false]).get 1 = some (.bool false) := rfl
  obtain ⟨rfl, vl, vr, hb, hl, hr⟩ := ht
  obtain ⟨rfl, vl2, vr2, hc, hl2, hr2⟩ := hr
  obtain ⟨ps, hps, hpo⟩ := hs
  have hpl := (List.getElem?_eq_some_iff.1 hpo).1
  have hperm : (c :: ((b :: (l.blks ++ l2.blks)) ++ r2.blks)).Perm (b :: (l.blks ++ (c :: (l2.blks ++ r2.blks)))) := List.perm_iff_count.2 fun x => by simp only [List.count_cons, List.count_append]; omega
  have hperm2 : (b :: ((c :: (l2.blks ++ r2.blks)) ++ l.blks)).Perm (b :: (l.blks ++ (c :: (l2.blks ++ r2.blks)))) := List.perm_iff_count.2 fun x => by simp only [List.count_cons, List.count_append]; omega
  obtain ⟨hbc, ⟨bl2, br2, bl⟩, ⟨cl2, cr2, cl⟩, d1, d2, d3⟩ := nd3 (hperm2.nodup_iff.2 hnd)
  have hp' : p ≠ b ∧ p ≠ c ∧ p ∉ l2.blks ∧ p ∉ r2.blks ∧ p ∉ l.blks := by
    have hp : ¬ p ∈ b :: ((c :: (l2.blks ++ r2.blks)) ++ l.blks) := fun h => hp (hperm2.mem_iff.1 h)
    simp only [List.cons_append, List.mem_cons, List.mem_append, not_or] at hp
    exact ⟨hp.1, hp.2.1, hp.2.2.1.1, hp.2.2.1.2, hp.2.2.2⟩
  obtain ⟨pb, pc, pl2, pr2, pl⟩ := hp'
  have hb : H.get b = some (.cells false [.int .i64 n, .int .i64 (k : Nat), .int .i64 (a : Nat), .int .i64 (h : Nat), vl, .ptr c 0]) := hb
  have hc : H.get c = some (.cells false [.int .i64 n2, .int .i64 (k2 : Nat), .int .i64 (a2 : Nat), .int .i64 (h2 : Nat), vl2, vr2]) := hc
  have bN := wfH _ _ hb
  have cN := wfH _ _ hc
  have pN := wfH _ _ hps
  generalize hK1 : H.alloc (.cells false [.ptr p o]) = K1
  obtain ⟨sK1, wfK1, nK1, gK1⟩ := laid wfH hK1
  have hb1 := sK1 _ _ hb
  have hc1 := sK1 _ _ hc
  have hp1 := sK1 _ _ hps
  have hl2o := hl2.one
  generalize hK2 : K1.set b (.cells false [.int .i64 n, .int .i64 (k : Nat), .int .i64 (a : Nat), .int .i64 (h : Nat), vl, vl2]) = K2
  obtain ⟨sK2, nK2, wfK2, gK2⟩ := puts wfK1 hK2
  have hc2 := sK2 _ _ (Ne.symm hbc) hc1
  have hp2 := sK2 _ _ pb hp1
  have gb2 := sK2 _ _ (by omega) gK1
  generalize hK3 : K2.set c (.cells false [.int .i64 n2, .int .i64 (k2 : Nat), .int .i64 (a2 : Nat), .int .i64 (h2 : Nat), .ptr b 0, vr2]) = K3
  obtain ⟨sK3, nK3, wfK3, gK3⟩ := puts wfK2 hK3
  have hb3 := sK3 _ _ hbc gK2
  have hp3 := sK3 _ _ pc hp2
  have gb3 := sK3 _ _ (by omega) gb2
  have keep3 : ∀ j, j ≠ b → j ≠ c → ∀ y, H.get j = some y → K3.get j = some y := fun j hb hc y hy => sK3 _ _ hc (sK2 _ _ hb (sK1 _ _ hy))
  have tr3 : ∀ {w : AV} {t : Tr}, TrAt H w t → b ∉ t.blks → c ∉ t.blks → TrAt K3 w t := fun h h1 h2 => h.keep fun j hj y hy => keep3 j (ne_of_mem h1 j hj) (ne_of_mem h2 j hj) y hy
  refine zp8 @e0 @e1 @hK1 @gK1 @hp1 @hpo @hb1 (And.intro @hc1 (And.intro @hl2o (And.intro @hK2 (And.intro @hc2 @hK3)))) ?_
  refine AOs.cq tOK fn163 ok163 (tell163 N K3 (l := l) (r := l2) (vl := vl) (vr := vl2) hb3 (tr3 hl bl cl) (tr3 hl2 bl2 cl2) bl bl2 o3 o1 (by omega)).wf ?_
  rintro x K4 ⟨⟨gb4, k4, n4⟩, wf4⟩
  have hc4 : K4.get c = some (.cells false (ndC n2 k2 a2 h2 (.ptr b 0) vr2)) := by rw [k4 c (Ne.symm hbc)]; exact gK3
  have tr4 : ∀ {w : AV} {t : Tr}, TrAt H w t → b ∉ t.blks → c ∉ t.blks → TrAt K4 w t := fun h h1 h2 => (tr3 h h1 h2).keep fun j hj y hy => by rw [k4 j (ne_of_mem h1 j hj)]; exact hy
  have tb4 : TrAt K4 (.ptr b 0) (mkT b n k l l2) := ⟨rfl, vl, vl2, gb4, tr4 hl bl cl, tr4 hl2 bl2 cl2⟩
  have cb : c ∉ (mkT b n k l l2).blks := by simp [mkT, Tr.blks, Ne.symm hbc, cl2, cl]
  refine zs0 ?_
  refine AOs.cq tOK fn163 ok163 (tell163 N K4 (l := mkT b n k l l2) (r := r2) (vl := .ptr b 0) (vr := vr2) hc4 tb4 (tr4 hr2 br2 cr2) cb cr2 (mkT_ok kpos o3 o1) o2 (show k2 + (k + l.cnt + l2.cnt) + r2.cnt ≤ 1000000000 by omega)).wf ?_
  rintro x K5 ⟨⟨gc5, k5, n5⟩, wf5⟩
  have hp5 : K5.get p = some (.cells false ps) := by rw [k5 p pc, k4 p pb]; exact hp3
  have gb5 : K5.get H.next = some (.cells false [.ptr p o]) := by rw [k5 _ (by omega), k4 _ (by omega)]; exact gb3
  generalize hK6 : K5.set p (.cells false (ps.set o (.ptr c 0))) = K6
  have keep6 : ∀ j, j ≠ p → j ≠ b → j ≠ c → ∀ y, H.get j = some y → K6.get j = some y := fun j h1 h2 h3 y hy => by rw [← hK6, AH.get_set, if_neg h1, k5 j h3, k4 j h2]; exact keep3 j h2 h3 y hy
  have tr6 : ∀ {w : AV} {t : Tr}, TrAt H w t → p ∉ t.blks → b ∉ t.blks → c ∉ t.blks → TrAt K6 w t := fun h h0 h1 h2 => h.keep fun j hj y hy => keep6 j (ne_of_mem h0 j hj) (ne_of_mem h1 j hj) (ne_of_mem h2 j hj) y hy
  have gc6 : K6.get c = some (.cells false (ndC n2 k2 ((k2 + (mkT b n k l l2).cnt + r2.cnt : Nat) : Int) ((1 + max (mkT b n k l l2).hi r2.hi : Nat) : Int) (.ptr b 0) vr2)) := by rw [← hK6, AH.get_set, if_neg (Ne.symm pc)]; exact gc5
  have gb6 : K6.get b = some (.cells false (ndC n k ((k + l.cnt + l2.cnt : Nat) : Int) ((1 + max l.hi l2.hi : Nat) : Int) vl vl2)) := by rw [← hK6, AH.get_set, if_neg (Ne.symm pb), k5 b hbc]; exact gb4
  refine zp4 @gb5 @hp5 @hpl @hK6 ?_
  refine fnPost_normal0 ⟨⟨.ptr c 0, fun qs hq => ?_, rfl, .ptr b 0, vr2, gc6, ⟨rfl, vl, vl2, gb6, tr6 hl pl bl cl, tr6 hl2 pl2 bl2 cl2⟩, tr6 hr2 pr2 br2 cr2⟩, fun j hj => .inl ((hperm.mem_iff).1 hj), hperm.nodup_iff.2 hnd, fun j y h1 h2 hy => ?_, ?_⟩
  · rw [hps] at hq; cases hq
    rw [← hK6, AH.get_set, if_pos rfl]
  · have h2 : ¬ j ∈ b :: ((c :: (l2.blks ++ r2.blks)) ++ l.blks) := fun h => h2 (hperm2.mem_iff.1 h)
    simp only [List.cons_append, List.mem_cons, List.mem_append, not_or] at h2
    exact keep6 j h1 h2.1 h2.2.1 y hy
  · rw [← hK6]; show H.next ≤ K5.next; omega

/-- Children that are right. -/
def subT : Tr → Prop
  | .leaf => True
  | .node _ _ k _ _ l r => 1 ≤ k ∧ Tr.ok l ∧ Tr.ok r
theorem SlotAt.keepP {H K : AH} {p o : Nat} {v : AV} (h : SlotAt H p o v) (hk : ∀ y, H.get p = some y → K.get p = some y) : SlotAt K p o v := by
  obtain ⟨ps, h1, h2⟩ := h
  exact ⟨ps, hk _ h1, h2⟩
theorem set_self {ps : List AV} {o : Nat} {v : AV} (h : ps[o]? = some v) : ps.set o v = ps := by
  have hl := (List.getElem?_eq_some_iff.1 h).1
  refine List.ext_getElem? fun i => ?_
  rw [List.getElem?_set]
  by_cases e : o = i
  · subst e; rw [if_pos rfl, if_pos hl, h]
  · rw [if_neg e]
theorem TD.stay {H K : AH} {p o : Nat} {v : AV} {t : Tr} (hs : SlotAt H p o v) (ht : TrAt H v t) (hnd : t.blks.Nodup) (hk : ∀ j y, H.get j = some y → K.get j = some y) (hn : H.next ≤ K.next) : TD H K p o t t where
  slot := ⟨v, fun ps hp => by rw [set_self (hs.lt hp).1]; exact hk _ _ hp, ht.keep fun b _ y hy => hk _ _ hy⟩
  old b hb := .inl hb
  nd := hnd
  keep j y _ _ hy := hk j y hy
  next := hn
theorem TD.slotAt {H K : AH} {p o : Nat} {t t' : Tr} (h : TD H K p o t t') {v : AV} (hs : SlotAt H p o v) : ∃ v', SlotAt K p o v' ∧ TrAt K v' t' := by
  obtain ⟨v', h1, h2⟩ := h.slot
  obtain ⟨ps, g1, g2⟩ := hs
  have hl := (List.getElem?_eq_some_iff.1 g2).1
  exact ⟨v', ⟨_, h1 _ g1, by rw [List.getElem?_set_self hl]⟩, h2⟩
theorem TD.trans {H K L : AH} {p o : Nat} {t t1 t2 : Tr} {v : AV} (wf : WF H) (hs : SlotAt H p o v) (a : TD H K p o t t1) (b : TD K L p o t1 t2) : TD H L p o t t2 where
  slot := by
    obtain ⟨v1, h1, h2⟩ := a.slot
    obtain ⟨v2, h3, h4⟩ := b.slot
    exact ⟨v2, fun ps hp => by rw [h3 _ (h1 _ hp), List.set_set], h4⟩
  old c hc := by
    rcases b.old c hc with h | h
    · exact a.old c h
    · exact .inr (Nat.le_trans a.next h)
  nd := b.nd
  keep j y h1 h2 hy := by
    have hj := wf _ _ hy
    refine b.keep j y h1 (fun h => ?_) (a.keep j y h1 h2 hy)
    rcases a.old j h with h | h
    · exact h2 h
    · omega
  next := Nat.le_trans a.next b.next
/-- A tree apart from the place where it hangs stays so. -/
theorem TD.apart {H K : AH} {p o : Nat} {t t' : Tr} (h : TD H K p o t t') (hp : p ∉ t.blks) (hl : p < H.next) : p ∉ t'.blks := fun hc => by
  rcases h.old p hc with h | h
  · exact hp h
  · omega
theorem TD.left {H K : AH} {p o b : Nat} {n : Int} {k a h : Nat} {l l' r : Tr} {v : AV} (wf : WF H) (hs : SlotAt H p o v) (ht : TrAt H v (.node b n k a h l r)) (hp : p ∉ (Tr.node b n k a h l r).blks) (hnd : (Tr.node b n k a h l r).blks.Nodup) (td : TD H K b 4 l l') : TD H K p o (.node b n k a h l r) (.node b n k a h l' r) := by
  have hlt := ht.lt wf
  obtain ⟨rfl, vl, vr, hb, hl, hr⟩ := ht
  simp only [Tr.blks, List.mem_cons, List.mem_append, not_or] at hp
  simp only [Tr.blks, List.nodup_cons, List.mem_append, not_or, List.nodup_append] at hnd
  obtain ⟨⟨n1, n2⟩, m1, m2, m3⟩ := hnd
  obtain ⟨pb, pl, pr⟩ := hp
  obtain ⟨v', h1, h2⟩ := td.slot
  obtain ⟨ps, hps, hpo⟩ := hs
  have oldlt : ∀ c ∈ (Tr.node b n k a h l r).blks, c < H.next := hlt
  have blt : b < H.next := oldlt b (by simp [Tr.blks])
  refine ⟨⟨.ptr b 0, fun qs hq => ?_, rfl, v', vr, ?_, h2, ?_⟩, fun c hc => ?_, ?_, fun j y h3 h4 hy => ?_, td.next⟩
  · rw [hps] at hq; cases hq
    rw [set_self hpo]; exact td.keep p _ pb pl hps
  · have := h1 _ hb
    exact this
  · exact hr.keep fun c hc y hy => td.keep c y (fun e => n2 (e ▸ hc)) (fun e => m3 c e c hc rfl) hy
  · simp only [Tr.blks, List.mem_cons, List.mem_append] at hc ⊢
    rcases hc with rfl | hc | hc
    · exact .inl (.inl rfl)
    · exact (td.old c hc).imp (fun h => .inr (.inl h)) id
    · exact .inl (.inr (.inr hc))
  · have hbl : b ∉ l'.blks := fun hc => by
      rcases td.old b hc with h | h
      · exact n1 h
      · omega
    simp only [Tr.blks, List.nodup_cons, List.mem_append, not_or, List.nodup_append]
    refine ⟨⟨hbl, n2⟩, td.nd, m2, fun x hx y hy e => ?_⟩
    subst e
    rcases td.old x hx with h | h
    · exact m3 x h x hy rfl
    · have := oldlt x (by simp [Tr.blks, hy]); omega
  · simp only [Tr.blks, List.mem_cons, List.mem_append, not_or] at h4
    exact td.keep j y h4.1 h4.2.1 hy
theorem TD.right {H K : AH} {p o b : Nat} {n : Int} {k a h : Nat} {l r r' : Tr} {v : AV} (wf : WF H) (hs : SlotAt H p o v) (ht : TrAt H v (.node b n k a h l r)) (hp : p ∉ (Tr.node b n k a h l r).blks) (hnd : (Tr.node b n k a h l r).blks.Nodup) (td : TD H K b 5 r r') : TD H K p o (.node b n k a h l r) (.node b n k a h l r') := by
  have hlt := ht.lt wf
  obtain ⟨rfl, vl, vr, hb, hl, hr⟩ := ht
  simp only [Tr.blks, List.mem_cons, List.mem_append, not_or] at hp
  simp only [Tr.blks, List.nodup_cons, List.mem_append, not_or, List.nodup_append] at hnd
  obtain ⟨⟨n1, n2⟩, m1, m2, m3⟩ := hnd
  obtain ⟨pb, pl, pr⟩ := hp
  obtain ⟨v', h1, h2⟩ := td.slot
  obtain ⟨ps, hps, hpo⟩ := hs
  have oldlt : ∀ c ∈ (Tr.node b n k a h l r).blks, c < H.next := hlt
  have blt : b < H.next := oldlt b (by simp [Tr.blks])
  refine ⟨⟨.ptr b 0, fun qs hq => ?_, rfl, vl, v', ?_, ?_, h2⟩, fun c hc => ?_, ?_, fun j y h3 h4 hy => ?_, td.next⟩
  · rw [hps] at hq; cases hq
    rw [set_self hpo]; exact td.keep p _ pb pr hps
  · have := h1 _ hb
    exact this
  · exact hl.keep fun c hc y hy => td.keep c y (fun e => n1 (e ▸ hc)) (fun e => m3 c hc c e rfl) hy
  · simp only [Tr.blks, List.mem_cons, List.mem_append] at hc ⊢
    rcases hc with rfl | hc | hc
    · exact .inl (.inl rfl)
    · exact .inl (.inr (.inl hc))
    · exact (td.old c hc).imp (fun h => .inr (.inr h)) id
  · have hbl : b ∉ r'.blks := fun hc => by
      rcases td.old b hc with h | h
      · exact n2 h
      · omega
    simp only [Tr.blks, List.nodup_cons, List.mem_append, not_or, List.nodup_append]
    refine ⟨⟨n1, hbl⟩, m1, td.nd, fun x hx y hy e => ?_⟩
    subst e
    rcases td.old x hy with h | h
    · exact m3 x hx x h rfl
    · have := oldlt x (by simp [Tr.blks, hx]); omega
  · simp only [Tr.blks, List.mem_cons, List.mem_append, not_or] at h4
    exact td.keep j y h4.1 h4.2.2 hy
/-- A node's own words written. -/
theorem TD.here {H K : AH} {p o b : Nat} {n n' : Int} {k k' a a' h h' : Nat} {l r : Tr} {v : AV} (hs : SlotAt H p o v) (ht : TrAt H v (.node b n k a h l r)) (hp : p ∉ (Tr.node b n k a h l r).blks) (hnd : (Tr.node b n k a h l r).blks.Nodup)
    (hb : ∀ vl vr, H.get b = some (.cells false (ndC n k a h vl vr)) → K.get b = some (.cells false (ndC n' k' a' h' vl vr))) (hk : ∀ j, j ≠ b → ∀ y, H.get j = some y → K.get j = some y) (hn : H.next ≤ K.next) : TD H K p o (.node b n k a h l r) (.node b n' k' a' h' l r) := by
  obtain ⟨rfl, vl, vr, hbb, hl, hr⟩ := ht
  have hnd' : (Tr.node b n k a h l r).blks.Nodup := hnd
  simp only [Tr.blks, List.mem_cons, List.mem_append, not_or] at hp
  simp only [Tr.blks, List.nodup_cons, List.mem_append, not_or] at hnd
  obtain ⟨⟨n1, n2⟩, _⟩ := hnd
  obtain ⟨ps, hps, hpo⟩ := hs
  refine ⟨⟨.ptr b 0, fun qs hq => ?_, rfl, vl, vr, hb _ _ hbb, hl.keep fun c hc y hy => hk c (fun e => n1 (e ▸ hc)) y hy, hr.keep fun c hc y hy => hk c (fun e => n2 (e ▸ hc)) y hy⟩, fun c hc => .inl hc, hnd', fun j y h1 h2 hy => hk j (fun e => h2 (by simp [Tr.blks, e])) y hy, hn⟩
  rw [hps] at hq; cases hq
  rw [set_self hpo]; exact hk p hp.1 _ hps
theorem nd_sides {b : Nat} {n : Int} {k a h : Nat} {l r : Tr} (hnd : (Tr.node b n k a h l r).blks.Nodup) : b ∉ l.blks ∧ b ∉ r.blks ∧ l.blks.Nodup ∧ r.blks.Nodup := by
  simp only [Tr.blks, List.nodup_cons, List.mem_append, not_or, List.nodup_append] at hnd
  exact ⟨hnd.1.1, hnd.1.2, hnd.2.1, hnd.2.2.1⟩

theorem SlotAt.cells {H : AH} {p o : Nat} {v : AV} (h : SlotAt H p o v) : ∃ ps, H.get p = some (.cells false ps) ∧ ps[o]? = some v ∧ o < ps.length := by
  obtain ⟨ps, h1, h2⟩ := h
  exact ⟨ps, h1, h2, (List.getElem?_eq_some_iff.1 h2).1⟩
theorem bd150 (p o : Nat) : abuild tC 150 [(0, .ptr p o)] = some (.agg [.ptr p o]) := by
  simp only [abuild, ti150]
  simp [afill, AV.cells, notJunk, splice, ti148, nbeq, nble]
theorem mkT_ino (b : Nat) (n : Int) (k : Nat) (l r : Tr) : (mkT b n k l r).ino = l.ino ++ (n, k) :: r.ino := rfl
theorem ld1 (p o : Nat) : List.take 1 (List.drop 0 [AV.ptr p o]) = [AV.ptr p o] := rfl

set_option maxHeartbeats 16000000 in
theorem level142 (N : Bd) (H : AH) {p o : Nat} {v : AV} {t : Tr} (hs : SlotAt H p o v) (ht : TrAt H v t) (hp : p ∉ t.blks) (hnd : t.blks.Nodup) (hsub : subT t) (hN : sumT t.ino ≤ 1000000000) :
    AC tC N 0 142 [.agg [.ptr p o]] H fun x K => ∃ t', TD H K p o t t' ∧ t'.ok ∧ t'.ino = t.ino := by
  refine AC.wf0 fun wfH => ?_
  refine AC.by (n := 77) (rs := []) tOK fn142 rfl rfl rfl rfl ?_
  have e0 : (PT.ofList .leaf 0 [AV.agg [.ptr p o]]).get 0 = some (.agg [.ptr p o]) := rfl
  obtain ⟨ps, hps, hpo, hpl⟩ := hs.cells
  have pN := wfH _ _ hps
  generalize hK1 : H.alloc (.cells false [.ptr p o]) = K1
  obtain ⟨sK1, wfK1, nK1, gK1⟩ := laid wfH hK1
  have hps := sK1 _ _ hps
  cases t with
  | leaf =>
    have hv : v = .nilp := ht
    subst hv
    refine zp5 @e0 @hK1 @gK1 @hps @hpo ?_
    exact fnPost_ret0 ⟨.leaf, TD.stay hs rfl (by simp [Tr.blks]) sK1 (by omega), trivial, rfl⟩
  | node b n k a h l r =>
    obtain ⟨kpos, okl, okr⟩ := hsub
    have hcl := Tr.cnt_ino okl
    have hcr := Tr.cnt_ino okr
    have hN' : sumT l.ino + (k + sumT r.ino) ≤ 1000000000 := by
      have hN : sumT (l.ino ++ (n, k) :: r.ino) ≤ 1000000000 := hN
      rwa [sumT_app, sumT_cons] at hN
    have t1 : TD H K1 p o (.node b n k a h l r) (.node b n k a h l r) := TD.stay hs ht hnd sK1 (by omega)
    have hs1 := hs.keepP (K := K1) (fun y hy => sK1 _ _ hy)
    have ht1 : TrAt K1 v (.node b n k a h l r) := ht.keep fun c _ y hy => sK1 _ _ hy
    have hlt := ht.lt wfH
    obtain ⟨bl, br, ndl, ndr⟩ := nd_sides hnd
    have bN : b < H.next := hlt b (by simp [Tr.blks])
    have boxb : H.next ≠ b := by omega
    obtain ⟨rfl, vl, vr, hb1, hl1, hr1⟩ := ht1
    refine zp5 @e0 @hK1 @gK1 @hps @hpo ?_
    refine AOs.cq tOK fn163 ok163 (tell163 N K1 (l := l) (r := r) hb1 hl1 hr1 bl br okl okr (by omega)).wf ?_
    rintro x K2 ⟨⟨gb2, k2, n2⟩, wf2⟩
    have t2 : TD K1 K2 p o (.node b n k a h l r) (mkT b n k l r) := TD.here (k' := k) (n' := n) hs1 ⟨rfl, vl, vr, hb1, hl1, hr1⟩ hp hnd (fun vl' vr' hq => by rw [hb1] at hq; cases hq; exact gb2) (fun j hj y hy => by rw [k2 j hj]; exact hy) (by omega)
    have T2 := t1.trans wfH hs t2
    have gbox2 : K2.get H.next = some (.cells false [.ptr p o]) := by rw [k2 _ boxb]; exact gK1
    have hl2 : TrAt K2 vl l := hl1.keep fun c hc y hy => by rw [k2 c (ne_of_mem bl c hc)]; exact hy
    have hr2 : TrAt K2 vr r := hr1.keep fun c hc y hy => by rw [k2 c (ne_of_mem br c hc)]; exact hy
    have hs2 : SlotAt K2 p o (.ptr b 0) := hs1.keepP fun y hy => by rw [k2 p (fun e => hp (by simp [Tr.blks, e]))]; exact hy
    have ht2 : TrAt K2 (.ptr b 0) (mkT b n k l r) := ⟨rfl, vl, vr, gb2, hl2, hr2⟩
    have gb2' : K2.get b = some (.cells false [.int .i64 n, .int .i64 (k : Nat), .int .i64 ((k + l.cnt + r.cnt : Nat) : Int), .int .i64 ((1 + max l.hi r.hi : Nat) : Int), vl, vr]) := gb2
    have hil := Tr.hi_le okl
    have hir := Tr.hi_le okr
    have w1 : IntKind.i64.wrap (((l.hi : Nat) : Int) - ((r.hi : Nat) : Int)) = ((l.hi : Nat) : Int) - ((r.hi : Nat) : Int) := wrap64 (by omega) (by omega)
    have okm : (mkT b n k l r).ok := mkT_ok kpos okl okr
    refine zs0 ?_
    refine AW.drawN tOK (Qs := [4, 9]) [0, 1, 2, 3, 4, 5, 6, 7, 8, 9, 10, 11] (by kernel_rfl) pk1 ?_
    with_reducible repeat' first | (refine zd ?_; refine zr3 @ld137 @fa139_4 @gb2' ?_; refine Same.mk ?_) | fail
    refine DN.callQ (fs := []) (cs := []) rfl fn164 ok164 rfl ar1 (high164 N K2 hl2) ?_
    with_reducible repeat' first | (refine zd ?_; refine zr3 @ld137 @fa139_5 @gb2' ?_; refine Same.mk ?_) | fail
    refine DN.callQ (fs := []) (cs := []) rfl fn164 ok164 rfl ar1 (high164 N K2 hr2) ?_
    have boxn : ∀ c ∈ (Tr.node b n k a h l r).blks, H.next ≠ c := fun c hc => by have := hlt c hc; omega
    have boxp : H.next ≠ p := by omega
    by_cases c1 : r.hi + 1 < l.hi
    · have d1 : decide ((1 : Int) < ((l.hi : Nat) : Int) - ((r.hi : Nat) : Int)) = true := decide_eq_true (by omega)
      obtain ⟨c, m, k3, a3, h3, l3, r3, rfl⟩ := Tr.hi_pos okl (by omega)
      obtain ⟨kp3, ca3, hh3, ol3, or3⟩ := okl
      have hcl : a3 = sumT (l3.ino ++ (m, k3) :: r3.ino) := hcl
      have hcl' : sumT (Tr.node c m k3 a3 h3 l3 r3).ino = a3 := hcl.symm
      obtain ⟨ec, vl3, vr3, gc2, hl3, hr3⟩ := hl2
      subst ec
      have gc2' : K2.get c = some (.cells false [.int .i64 m, .int .i64 (k3 : Nat), .int .i64 (a3 : Nat), .int .i64 (h3 : Nat), vl3, vr3]) := gc2
      with_reducible repeat' first | refine za ?_ | refine DN.nil tOK ?_ | (refine DN.fl1E wu wu ?_; refine zr1 @w1 ?_; refine Same.mk ?_) | (refine AOs.o1 tOK ?_; refine zr1 @d1 ?_) | fail
      refine AW.drawN tOK (Qs := [7, 15]) [0, 1, 2, 3, 4, 5, 6, 7, 8, 9, 10, 11, 12, 13, 14, 15, 16] (by kernel_rfl) pk1 ?_
      with_reducible repeat' first | (refine zd ?_; refine zr4 @ld137 @fa139_4 @gb2' @gc2' ?_; refine Same.mk ?_) | fail
      refine DN.callQ (fs := []) (cs := []) rfl fn164 ok164 rfl ar1 (high164 N K2 hl3) ?_
      with_reducible repeat' first | (refine zd ?_; refine zr5 @ld137 @fa139_4 @fa139_5 @gb2' @gc2' ?_; refine Same.mk ?_) | fail
      refine DN.callQ (fs := []) (cs := []) rfl fn164 ok164 rfl ar1 (high164 N K2 hr3) ?_
      by_cases c3 : l3.hi < r3.hi
      · have d3 : decide (((l3.hi : Nat) : Int) < ((r3.hi : Nat) : Int)) = true := decide_eq_true (by omega)
        obtain ⟨e, m4, k4, a4, h4, l4, r4, rfl⟩ := Tr.hi_pos or3 (by omega)
        obtain ⟨kp4, ca4, hh4, ol4, or4⟩ := or3
        have ca3 : a3 = k3 + l3.cnt + a4 := ca3
        have hsl : SlotAt K2 b 4 (.ptr c 0) := ⟨_, gb2, rfl⟩
        have htl : TrAt K2 (.ptr c 0) (.node c m k3 a3 h3 l3 (.node e m4 k4 a4 h4 l4 r4)) := ⟨rfl, vl3, vr3, gc2, hl3, hr3⟩
        with_reducible repeat' first | refine zb ?_ | refine DN.nil tOK ?_ | (refine DN.fl1E wu wu ?_; refine zr1 @d3 ?_; refine Same.mk ?_) | (refine AOs.o1 tOK ?_; refine zr2 @fa139_4 @bd150 ?_) | fail
        refine AOs.cq tOK fn165 ok165 (turn_right N K2 (p := b) (o := 4) hsl htl bl ndl kp3 ol4 or4 ol3 (by omega)).wf ?_
        rintro x K3 ⟨td3, wf3⟩
        have T3 := TD.left wf2 hs2 ht2 hp hnd td3
        obtain ⟨v3, hs3, ht3⟩ := T3.slotAt hs2
        have gbox3 : K3.get H.next = some (.cells false [.ptr p o]) := td3.keep _ _ (boxn b (by simp [Tr.blks])) (fun hc => boxn _ (by simp only [Tr.blks, List.mem_cons, List.mem_append] at hc ⊢; exact .inr (.inl hc)) rfl) gbox2
        refine zs3 @ld150 @gbox3 @ld1 ?_
        refine AOs.cq tOK fn165 ok165 (turn_left N K3 (p := p) (o := o) (b := b) (c := e) (k := k) (k2 := k4) (n2 := m4) (l2 := mkT c m k3 l3 l4) (r2 := r4) (r := r) hs3 ht3 (T3.apart hp (by omega)) T3.nd kpos (mkT_ok kp3 ol3 ol4) or4 okr (show k + k4 + (k3 + l3.cnt + l4.cnt) + r4.cnt + r.cnt ≤ 1000000000 by omega)) ?_
        rintro x K4 td4
        refine zs0 ?_
        refine fnPost_normal0 ⟨_, (T2.trans wfH hs T3).trans wfH hs td4, mkT_ok kp4 (mkT_ok kp3 ol3 ol4) (mkT_ok kpos or4 okr), ?_⟩
        simp only [mkT_ino, Tr.ino, List.append_assoc, List.cons_append]
      · have d3 : decide (((l3.hi : Nat) : Int) < ((r3.hi : Nat) : Int)) = false := decide_eq_false (by omega)
        with_reducible repeat' first | refine zb ?_ | refine DN.nil tOK ?_ | (refine DN.fl1E wu wu ?_; refine zr1 @d3 ?_; refine Same.mk ?_) | (refine AOs.o1 tOK ?_; refine zr3 @ld150 @gbox2 @ld1 ?_) | fail
        refine AOs.cq tOK fn165 ok165 (turn_left N K2 (p := p) (o := o) (b := b) (c := c) (k := k) (k2 := k3) (n2 := m) (l2 := l3) (r2 := r3) (r := r) hs2 ⟨rfl, _, vr, gb2, ⟨rfl, vl3, vr3, gc2, hl3, hr3⟩, hr2⟩ hp hnd kpos ol3 or3 okr (by omega)) ?_
        rintro x K4 td4
        refine zs0 ?_
        refine fnPost_normal0 ⟨_, T2.trans wfH hs td4, mkT_ok kp3 ol3 (mkT_ok kpos or3 okr), ?_⟩
        simp only [mkT_ino, Tr.ino, List.append_assoc, List.cons_append]
    by_cases c2 : l.hi + 1 < r.hi
    · have d1 : decide ((1 : Int) < ((l.hi : Nat) : Int) - ((r.hi : Nat) : Int)) = false := decide_eq_false (by omega)
      have d2 : decide (((l.hi : Nat) : Int) - ((r.hi : Nat) : Int) < -1) = true := decide_eq_true (by omega)
      obtain ⟨c, m, k3, a3, h3, l3, r3, rfl⟩ := Tr.hi_pos okr (by omega)
      obtain ⟨kp3, ca3, hh3, ol3, or3⟩ := okr
      have hcr : a3 = sumT (l3.ino ++ (m, k3) :: r3.ino) := hcr
      have hcr' : sumT (Tr.node c m k3 a3 h3 l3 r3).ino = a3 := hcr.symm
      obtain ⟨ec, vl3, vr3, gc2, hl3, hr3⟩ := hr2
      subst ec
      have gc2' : K2.get c = some (.cells false [.int .i64 m, .int .i64 (k3 : Nat), .int .i64 (a3 : Nat), .int .i64 (h3 : Nat), vl3, vr3]) := gc2
      with_reducible repeat' first | refine za ?_ | refine DN.nil tOK ?_ | (refine DN.fl1E wu wu ?_; refine zr1 @w1 ?_; refine Same.mk ?_) | (refine AOs.o1 tOK ?_; refine zr2 @d1 @d2 ?_) | fail
      refine AW.drawN tOK (Qs := [7, 15]) [0, 1, 2, 3, 4, 5, 6, 7, 8, 9, 10, 11, 12, 13, 14, 15, 16] (by kernel_rfl) pk1 ?_
      with_reducible repeat' first | (refine zd ?_; refine zr4 @ld137 @fa139_5 @gb2' @gc2' ?_; refine Same.mk ?_) | fail
      refine DN.callQ (fs := []) (cs := []) rfl fn164 ok164 rfl ar1 (high164 N K2 hr3) ?_
      with_reducible repeat' first | (refine zd ?_; refine zr5 @ld137 @fa139_4 @fa139_5 @gb2' @gc2' ?_; refine Same.mk ?_) | fail
      refine DN.callQ (fs := []) (cs := []) rfl fn164 ok164 rfl ar1 (high164 N K2 hl3) ?_
      by_cases c3 : r3.hi < l3.hi
      · have d3 : decide (((r3.hi : Nat) : Int) < ((l3.hi : Nat) : Int)) = true := decide_eq_true (by omega)
        obtain ⟨e, m4, k4, a4, h4, l4, r4, rfl⟩ := Tr.hi_pos ol3 (by omega)
        obtain ⟨kp4, ca4, hh4, ol4, or4⟩ := ol3
        have ca3 : a3 = k3 + a4 + r3.cnt := ca3
        have hsl : SlotAt K2 b 5 (.ptr c 0) := ⟨_, gb2, rfl⟩
        have htl : TrAt K2 (.ptr c 0) (.node c m k3 a3 h3 (.node e m4 k4 a4 h4 l4 r4) r3) := ⟨rfl, vl3, vr3, gc2, hl3, hr3⟩
        with_reducible repeat' first | refine zb ?_ | refine DN.nil tOK ?_ | (refine DN.fl1E wu wu ?_; refine zr1 @d3 ?_; refine Same.mk ?_) | (refine AOs.o1 tOK ?_; refine zr2 @fa139_5 @bd150 ?_) | fail
        refine AOs.cq tOK fn165 ok165 (turn_left N K2 (p := b) (o := 5) hsl htl br ndr kp3 ol4 or4 or3 (by omega)).wf ?_
        rintro x K3 ⟨td3, wf3⟩
        have T3 := TD.right wf2 hs2 ht2 hp hnd td3
        obtain ⟨v3, hs3, ht3⟩ := T3.slotAt hs2
        have gbox3 : K3.get H.next = some (.cells false [.ptr p o]) := td3.keep _ _ (boxn b (by simp [Tr.blks])) (fun hc => boxn _ (by simp only [Tr.blks, List.mem_cons, List.mem_append] at hc ⊢; exact .inr (.inr hc)) rfl) gbox2
        refine zs3 @ld150 @gbox3 @ld1 ?_
        refine AOs.cq tOK fn165 ok165 (turn_right N K3 (p := p) (o := o) (b := b) (c := e) (k := k) (k2 := k4) (n2 := m4) (l2 := l4) (r2 := mkT c m k3 r4 r3) (l := l) hs3 ht3 (T3.apart hp (by omega)) T3.nd kpos ol4 (mkT_ok kp3 or4 or3) okl (show k + k4 + l4.cnt + (k3 + r4.cnt + r3.cnt) + l.cnt ≤ 1000000000 by omega)) ?_
        rintro x K4 td4
        refine zs0 ?_
        refine fnPost_normal0 ⟨_, (T2.trans wfH hs T3).trans wfH hs td4, mkT_ok kp4 (mkT_ok kpos okl ol4) (mkT_ok kp3 or4 or3), ?_⟩
        simp only [mkT_ino, Tr.ino, List.append_assoc, List.cons_append]
      · have d3 : decide (((r3.hi : Nat) : Int) < ((l3.hi : Nat) : Int)) = false := decide_eq_false (by omega)
        with_reducible repeat' first | refine zb ?_ | refine DN.nil tOK ?_ | (refine DN.fl1E wu wu ?_; refine zr1 @d3 ?_; refine Same.mk ?_) | (refine AOs.o1 tOK ?_; refine zr3 @ld150 @gbox2 @ld1 ?_) | fail
        refine AOs.cq tOK fn165 ok165 (turn_right N K2 (p := p) (o := o) (b := b) (c := c) (k := k) (k2 := k3) (n2 := m) (l2 := l3) (r2 := r3) (l := l) hs2 ⟨rfl, vl, _, gb2, hl2, ⟨rfl, vl3, vr3, gc2, hl3, hr3⟩⟩ hp hnd kpos ol3 or3 okl (by omega)) ?_
        rintro x K4 td4
        refine zs0 ?_
        refine fnPost_normal0 ⟨_, T2.trans wfH hs td4, mkT_ok kp3 (mkT_ok kpos okl ol3) or3, ?_⟩
        simp only [mkT_ino, Tr.ino, List.append_assoc, List.cons_append]
    have d1 : decide ((1 : Int) < ((l.hi : Nat) : Int) - ((r.hi : Nat) : Int)) = false := decide_eq_false (by omega)
    have d2 : decide (((l.hi : Nat) : Int) - ((r.hi : Nat) : Int) < -1) = false := decide_eq_false (by omega)
    with_reducible repeat' first | refine za ?_ | refine DN.nil tOK ?_ | (refine DN.fl1E wu wu ?_; refine zr1 @w1 ?_; refine Same.mk ?_) | (refine AOs.o1 tOK ?_; refine zr2 @d1 @d2 ?_) | fail
    exact fnPost_normal0 ⟨mkT b n k l r, T2, okm, rfl⟩

theorem bd139 (n k : Int) : abuild tC 139 [(0, .int .i64 n), (1, .int .i64 k)] = some (.agg [.int .i64 n, .int .i64 k, .int .i64 0, .int .i64 0, .nilp, .nilp]) := by
  simp only [abuild, ti139]
  simp [afill, AV.cells, notJunk, splice, ti2, ti3, ti137, nbeq, nble]
theorem level_ac {N : Bd} {H K1 K2 : AH} {p o : Nat} {t t1 : Tr} {v : AV} {ti : List (Int × Nat)} (wfH : WF H) (hs : SlotAt H p o v) (hp : p ∉ t.blks) (pN : p < H.next) (T : TD H K2 p o t t1) (hsub : subT t1) (hi : t1.ino = ti) (hN : sumT ti ≤ 1000000000) :
    AC tC N 0 142 [.agg [.ptr p o]] K2 fun x K => ∃ t', TD H K p o t t' ∧ t'.ok ∧ t'.ino = ti := by
  obtain ⟨v1, h1, h2⟩ := T.slotAt hs
  refine (level142 N K2 h1 h2 (T.apart hp pN) T.nd hsub (by rw [hi]; exact hN)).mono ?_
  rintro x K ⟨t', h3, h4, h5⟩
  exact ⟨t', T.trans wfH hs h3, h4, by rw [h5, hi]⟩

set_option maxHeartbeats 16000000 in
theorem put111 (N : Bd) (n : Int) (k : Nat) (kpos : 1 ≤ k) (t : Tr) : ∀ (H : AH) (p o : Nat) (v : AV), SlotAt H p o v → TrAt H v t → p ∉ t.blks → t.blks.Nodup → t.ok → Srt t.ino → sumT t.ino + k ≤ 1000000000 →
    AC tC N 0 111 [.agg [.ptr p o], .int .i64 n, .int .i64 (k : Nat)] H fun x K => ∃ t', TD H K p o t t' ∧ t'.ok ∧ t'.ino = insL n k t.ino := by
  induction t with
  | leaf =>
    intro H p o v hs ht hp hnd hok hsrt hN
    refine AC.wf0 fun wfH => ?_
    refine AC.by (n := 59) (rs := []) tOK fn111 rfl rfl rfl rfl ?_
    have e0 : (PT.ofList .leaf 0 [AV.agg [.ptr p o], .int .i64 n, .int .i64 (k : Nat)]).get 0 = some (.agg [.ptr p o]) := rfl
    have e1 : (PT.ofList .leaf 0 [AV.agg [.ptr p o], .int .i64 n, .int .i64 (k : Nat)]).get 1 = some (.int .i64 n) := rfl
    have e2 : (PT.ofList .leaf 0 [AV.agg [.ptr p o], .int .i64 n, .int .i64 (k : Nat)]).get 2 = some (.int .i64 (k : Nat)) := rfl
    obtain ⟨ps, hps, hpo, hpl⟩ := hs.cells
    have pN := wfH _ _ hps
    have hv : v = .nilp := ht
    subst hv
    have hps0 := hps
    generalize hK1 : H.alloc (.cells false [.ptr p o]) = K1
    obtain ⟨sK1, wfK1, nK1, gK1⟩ := laid wfH hK1
    have hps := sK1 _ _ hps
    generalize hK2 : K1.alloc (.cells false [.int .i64 n, .int .i64 (k : Nat), .int .i64 0, .int .i64 0, .nilp, .nilp]) = K2
    obtain ⟨sK2, wfK2, nK2, gK2⟩ := laid wfK1 hK2
    have hp2 := sK2 _ _ hps
    have gb2 := sK2 _ _ gK1
    generalize hK3 : K2.set p (.cells false (ps.set o (.ptr K1.next 0))) = K3
    have hother : ∀ j y, j ≠ p → K2.get j = some y → K3.get j = some y := fun j y hj hy => by rw [← hK3, AH.get_set, if_neg hj]; exact hy
    have gb3 := hother _ _ (show H.next ≠ p by omega) gb2
    have gn3 : K3.get K1.next = some (.cells false (ndC n (k : Nat) 0 0 .nilp .nilp)) := hother _ _ (by omega) gK2
    have n3 : K3.next = K2.next := by rw [← hK3]; rfl
    have T : TD H K3 p o .leaf (.node K1.next n k 0 0 .leaf .leaf) := by
      refine ⟨⟨.ptr K1.next 0, fun qs hq => ?_, rfl, .nilp, .nilp, gn3, rfl, rfl⟩, fun b hb => ?_, by simp [Tr.blks], fun j y h1 _ hy => hother j y h1 (sK2 _ _ (sK1 _ _ hy)), by omega⟩
      · rw [hps0] at hq; cases hq
        rw [← hK3, AH.get_set, if_pos rfl]
      · simp [Tr.blks] at hb; subst hb; exact .inr (by omega)
    refine zp8 @e0 @e1 @e2 @hK1 @gK1 @hps @hpo (And.intro @bd139 (And.intro @hK2 (And.intro @hp2 (And.intro @hpl (And.intro @hK3 (And.intro @gb3 @ld1)))))) ?_
    refine AOs.cq tOK fn142 ok142 (level_ac (K1 := K1) (ti := [(n, k)]) wfH hs hp pN T ⟨kpos, trivial, trivial⟩ rfl (by simp [sumT] at hN ⊢; omega)) ?_
    rintro x K4 h4
    refine zs0 ?_
    exact fnPost_normal0 h4
  | node b m k0 a h l r ihl ihr =>
    intro H p o v hs ht hp hnd hok hsrt hN
    refine AC.wf0 fun wfH => ?_
    refine AC.by (n := 59) (rs := []) tOK fn111 rfl rfl rfl rfl ?_
    have e0 : (PT.ofList .leaf 0 [AV.agg [.ptr p o], .int .i64 n, .int .i64 (k : Nat)]).get 0 = some (.agg [.ptr p o]) := rfl
    have e1 : (PT.ofList .leaf 0 [AV.agg [.ptr p o], .int .i64 n, .int .i64 (k : Nat)]).get 1 = some (.int .i64 n) := rfl
    have e2 : (PT.ofList .leaf 0 [AV.agg [.ptr p o], .int .i64 n, .int .i64 (k : Nat)]).get 2 = some (.int .i64 (k : Nat)) := rfl
    obtain ⟨ps, hps, hpo, hpl⟩ := hs.cells
    have pN := wfH _ _ hps
    obtain ⟨k0p, ha, hh, okl, okr⟩ := hok
    have hlt := ht.lt wfH
    have bN : b < H.next := hlt b (by simp [Tr.blks])
    obtain ⟨bl, br, ndl, ndr⟩ := nd_sides hnd
    obtain ⟨sl, sr, lm, rm⟩ := Srt.split (l := l.ino) (r := r.ino) hsrt
    have hN1 : sumT l.ino + (k0 + sumT r.ino) + k ≤ 1000000000 := by
      have hN : sumT (l.ino ++ (m, k0) :: r.ino) + k ≤ 1000000000 := hN
      rwa [sumT_app, sumT_cons] at hN
    generalize hK1 : H.alloc (.cells false [.ptr p o]) = K1
    obtain ⟨sK1, wfK1, nK1, gK1⟩ := laid wfH hK1
    have hps := sK1 _ _ hps
    have t1 : TD H K1 p o (.node b m k0 a h l r) (.node b m k0 a h l r) := TD.stay hs ht hnd sK1 (by omega)
    obtain ⟨v1, hs1, ht1⟩ := t1.slotAt hs
    have hv1 : v1 = v := by
      obtain ⟨q, g1, g2⟩ := hs1
      rw [hps] at g1; cases g1
      rw [hpo] at g2; exact (Option.some.inj g2).symm
    subst hv1
    have ht1' := ht1
    obtain ⟨rfl, vl, vr, hb1, hl1, hr1⟩ := ht1'
    have hb1' : K1.get b = some (.cells false [.int .i64 m, .int .i64 (k0 : Nat), .int .i64 (a : Nat), .int .i64 (h : Nat), vl, vr]) := hb1
    have boxn : ∀ c ∈ (Tr.node b m k0 a h l r).blks, H.next ≠ c := fun c hc => by have := hlt c hc; omega
    by_cases c1 : n < m
    · have d1 : decide (n < m) = true := decide_eq_true c1
      have hins : insL n k (Tr.node b m k0 a h l r).ino = insL n k l.ino ++ (m, k0) :: r.ino := insL_left c1 _ _
      refine zp8 @e0 @e1 @e2 @hK1 @gK1 @hps @hpo (And.intro @hb1' (And.intro @d1 @bd150)) ?_
      refine AOs.cq tOK fn111 ok111 (ihl K1 b 4 vl ⟨_, hb1, rfl⟩ hl1 bl ndl okl sl (by omega)).wf ?_
      rintro x K2 ⟨⟨l', td2, ok2, ino2⟩, wf2⟩
      have T2 := t1.trans wfH hs (TD.left wfK1 hs1 ht1 hp hnd td2)
      have gb2 : K2.get H.next = some (.cells false [.ptr p o]) := td2.keep _ _ (boxn b (by simp [Tr.blks])) (fun hc => boxn _ (by simp only [Tr.blks, List.mem_cons, List.mem_append]; exact .inr (.inl hc)) rfl) gK1
      refine zs3 @ld150 @gb2 @ld1 ?_
      refine AOs.cq tOK fn142 ok142 (level_ac (K1 := K1) (ti := insL n k (Tr.node b m k0 a h l r).ino) wfH hs hp pN T2 ⟨k0p, ok2, okr⟩ (by rw [hins, ← ino2]; rfl) (by rw [sumT_ins]; exact hN)) ?_
      rintro x K4 h4
      refine zs0 ?_
      exact fnPost_normal0 h4
    have d1 : decide (n < m) = false := decide_eq_false c1
    by_cases c2 : m < n
    · have d2 : decide (m < n) = true := decide_eq_true c2
      have hins : insL n k (Tr.node b m k0 a h l r).ino = l.ino ++ (m, k0) :: insL n k r.ino := insL_right c2 _ _ fun q hq => by have := lm q hq; omega
      refine zp8 @e0 @e1 @e2 @hK1 @gK1 @hps @hpo (And.intro @hb1' (And.intro @d1 (And.intro @d2 @bd150))) ?_
      refine AOs.cq tOK fn111 ok111 (ihr K1 b 5 vr ⟨_, hb1, rfl⟩ hr1 br ndr okr sr (by omega)).wf ?_
      rintro x K2 ⟨⟨r', td2, ok2, ino2⟩, wf2⟩
      have T2 := t1.trans wfH hs (TD.right wfK1 hs1 ht1 hp hnd td2)
      have gb2 : K2.get H.next = some (.cells false [.ptr p o]) := td2.keep _ _ (boxn b (by simp [Tr.blks])) (fun hc => boxn _ (by simp only [Tr.blks, List.mem_cons, List.mem_append]; exact .inr (.inr hc)) rfl) gK1
      refine zs3 @ld150 @gb2 @ld1 ?_
      refine AOs.cq tOK fn142 ok142 (level_ac (K1 := K1) (ti := insL n k (Tr.node b m k0 a h l r).ino) wfH hs hp pN T2 ⟨k0p, okl, ok2⟩ (by rw [hins, ← ino2]; rfl) (by rw [sumT_ins]; exact hN)) ?_
      rintro x K4 h4
      refine zs0 ?_
      exact fnPost_normal0 h4
    have hnm : n = m := by omega
    subst hnm
    have d2 : decide (n < n) = false := decide_eq_false (by omega)
    have hins : insL n k (Tr.node b n k0 a h l r).ino = l.ino ++ (n, k0 + k) :: r.ino := insL_here _ _ lm
    have w1 : IntKind.i64.wrap (((k0 : Nat) : Int) + ((k : Nat) : Int)) = ((k0 + k : Nat) : Int) := by rw [wrap64 (by omega) (by omega)]; omega
    generalize hK2 : K1.set b (.cells false [.int .i64 n, .int .i64 (k0 + k : Nat), .int .i64 (a : Nat), .int .i64 (h : Nat), vl, vr]) = K2
    obtain ⟨sK2, nK2, wfK2, gK2⟩ := puts wfK1 hK2
    have T2 := t1.trans wfH hs (TD.here (k' := k0 + k) (a' := a) (h' := h) (n' := n) (K := K2) hs1 ht1 hp hnd (fun vl' vr' hq => by rw [hb1] at hq; cases hq; exact gK2) (fun j hj y hy => sK2 j y hj hy) (by omega))
    have gb2 := sK2 _ _ (boxn b (by simp [Tr.blks])) gK1
    refine zp8 @e0 @e1 @e2 @hK1 @gK1 @hps @hpo (And.intro @hb1' (And.intro @d1 (And.intro @w1 (And.intro @hK2 (And.intro @gb2 @ld1))))) ?_
    refine AOs.cq tOK fn142 ok142 (level_ac (K1 := K1) (ti := insL n k (Tr.node b n k0 a h l r).ino) wfH hs hp pN T2 ⟨by omega, okl, okr⟩ (by rw [hins]; rfl) (by rw [sumT_ins]; exact hN)) ?_
    rintro x K4 h4
    refine zs0 ?_
    exact fnPost_normal0 h4
end Go.Proofs.YtapokkpdgfpokaaGreat
