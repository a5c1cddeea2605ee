/- Group: the types and functions that a nil group reaches, as the program has them; no condition. -/
import Derived.Test.YtapokkpdgfpokaaGreatBase
import Derived.Test.YtapokkpdgfpokaaGreatAb31
open Go Go.AB Go.Proofs
namespace Go.Proofs.YtapokkpdgfpokaaGreat
set_option linter.unusedSimpArgs false
set_option linter.unusedVariables false
theorem fn5 : tC.fn 5 = some Tryz.f5 := by kernel_rfl
theorem ok5 : fnOk Tryz.f5 = true := by kernel_rfl
theorem fn6 : tC.fn 6 = some Tryz.f6 := by kernel_rfl
theorem ok6 : fnOk Tryz.f6 = true := by kernel_rfl
theorem fn8 : tC.fn 8 = some Tryz.f8 := by kernel_rfl
theorem ok8 : fnOk Tryz.f8 = true := by kernel_rfl
theorem fn28 : tC.fn 28 = some Tryz.f28 := by kernel_rfl
theorem ok28 : fnOk Tryz.f28 = true := by kernel_rfl
theorem fn20 : tC.fn 20 = some Tryz.f20 := by kernel_rfl
theorem ok20 : fnOk Tryz.f20 = true := by kernel_rfl
theorem fn21 : tC.fn 21 = some Tryz.f21 := by kernel_rfl
theorem ok21 : fnOk Tryz.f21 = true := by kernel_rfl
theorem fn22 : tC.fn 22 = some Tryz.f22 := by kernel_rfl
theorem ok22 : fnOk Tryz.f22 = true := by kernel_rfl
theorem fn23 : tC.fn 23 = some Tryz.f23 := by kernel_rfl
theorem ok23 : fnOk Tryz.f23 = true := by kernel_rfl
theorem fn24 : tC.fn 24 = some Tryz.f24 := by kernel_rfl
theorem ok24 : fnOk Tryz.f24 = true := by kernel_rfl
theorem fn45 : tC.fn 45 = some Tryz.f45 := by kernel_rfl
theorem ok45 : fnOk Tryz.f45 = true := by kernel_rfl
theorem ti2 : tC.ti 2 = some ⟨.int Go.IntKind.i64, 1, 8, (some (.int Go.IntKind.i64 (.ofNat 0))), true⟩ := by kernel_rfl
theorem ti3 : tC.ti 3 = some ⟨.int Go.IntKind.i64, 1, 8, (some (.int Go.IntKind.i64 (.ofNat 0))), true⟩ := by kernel_rfl
theorem ti4 : tC.ti 4 = some ⟨.bool, 1, 1, (some (.bool false)), true⟩ := by kernel_rfl
theorem ti5 : tC.ti 5 = some ⟨.int Go.IntKind.u8, 1, 1, (some (.int Go.IntKind.u8 (.ofNat 0))), true⟩ := by kernel_rfl
theorem ti9 : tC.ti 9 = some ⟨.string, 1, 16, (some (.str [])), true⟩ := by kernel_rfl
theorem ti22 : tC.ti 22 = some ⟨.slice 58, 1, 24, (some (.nils)), true⟩ := by kernel_rfl
theorem ti23 : tC.ti 23 = some ⟨.slice 33, 1, 24, (some (.nils)), true⟩ := by kernel_rfl
theorem ti27 : tC.ti 27 = some ⟨.int Go.IntKind.i64, 1, 8, (some (.int Go.IntKind.i64 (.ofNat 0))), true⟩ := by kernel_rfl
theorem ti29 : tC.ti 29 = some ⟨.slice 71, 1, 24, (some (.nils)), true⟩ := by kernel_rfl
theorem ti31 : tC.ti 31 = some ⟨.struct #[{ name := "N", type := 2, offset := 0, embedded := false, tag := "", pkgPath := "", byteOffset := 0 }, { name := "Over", type := 4, offset := 1, embedded := false, tag := "", pkgPath := "", byteOffset := 8 }], 2, 16, (some (.agg [.int Go.IntKind.i64 (.ofNat 0), .bool false])), true⟩ := by kernel_rfl
theorem ti33 : tC.ti 33 = some ⟨.struct #[{ name := "Labels", type := 29, offset := 0, embedded := false, tag := "", pkgPath := "", byteOffset := 0 }, { name := "Value", type := 31, offset := 1, embedded := true, tag := "", pkgPath := "", byteOffset := 24 }, { name := "Gone", type := 4, offset := 3, embedded := false, tag := "", pkgPath := "", byteOffset := 40 }], 4, 48, (some (.agg [.nils, .int Go.IntKind.i64 (.ofNat 0), .bool false, .bool false])), true⟩ := by kernel_rfl
theorem ti40 : tC.ti 40 = some ⟨.slice 9, 1, 24, (some (.nils)), true⟩ := by kernel_rfl
theorem ti44 : tC.ti 44 = some ⟨.pointer 76, 1, 8, (some (.nilp)), true⟩ := by kernel_rfl
theorem ti50 : tC.ti 50 = some ⟨.slice 5, 1, 24, (some (.nils)), true⟩ := by kernel_rfl
theorem ti58 : tC.ti 58 = some ⟨.struct #[{ name := "Labels", type := 29, offset := 0, embedded := false, tag := "", pkgPath := "", byteOffset := 0 }, { name := "Value", type := 31, offset := 1, embedded := true, tag := "", pkgPath := "", byteOffset := 24 }], 3, 40, (some (.agg [.nils, .int Go.IntKind.i64 (.ofNat 0), .bool false])), true⟩ := by kernel_rfl
theorem ti71 : tC.ti 71 = some ⟨.struct #[{ name := "Name", type := 9, offset := 0, embedded := false, tag := "", pkgPath := "", byteOffset := 0 }, { name := "Text", type := 9, offset := 1, embedded := false, tag := "", pkgPath := "", byteOffset := 16 }], 2, 32, (some (.agg [.str [], .str []])), true⟩ := by kernel_rfl
theorem ti74 : tC.ti 74 = some ⟨.map 9 82, 1, 8, (some (.nilm)), true⟩ := by kernel_rfl
theorem ti76 : tC.ti 76 = some ⟨.struct #[{ name := "fn", type := 3, offset := 0, embedded := false, tag := "", pkgPath := "waterwheel/group", byteOffset := 0 }, { name := "names", type := 40, offset := 1, embedded := false, tag := "", pkgPath := "waterwheel/group", byteOffset := 8 }, { name := "in", type := 22, offset := 2, embedded := false, tag := "", pkgPath := "waterwheel/group", byteOffset := 32 }, { name := "cells", type := 74, offset := 3, embedded := false, tag := "", pkgPath := "waterwheel/group", byteOffset := 56 }], 4, 64, (some (.agg [.int Go.IntKind.i64 (.ofNat 0), .nils, .nils, .nilm])), true⟩ := by kernel_rfl
theorem ti77 : tC.ti 77 = some ⟨.map 9 31, 1, 8, (some (.nilm)), true⟩ := by kernel_rfl
theorem ti78 : tC.ti 78 = some ⟨.map 9 29, 1, 8, (some (.nilm)), true⟩ := by kernel_rfl
theorem ti82 : tC.ti 82 = some ⟨.pointer 99, 1, 8, (some (.nilp)), true⟩ := by kernel_rfl
theorem ti90 : tC.ti 90 = some ⟨.func #[106] #[] false, 1, 8, (some (.nilf)), true⟩ := by kernel_rfl
theorem ti93 : tC.ti 93 = some ⟨.func #[33, 33] #[3] false, 1, 8, (some (.nilf)), true⟩ := by kernel_rfl
theorem ti94 : tC.ti 94 = some ⟨.int Go.IntKind.u64, 1, 8, (some (.int Go.IntKind.u64 (.ofNat 0))), true⟩ := by kernel_rfl
theorem ti96 : tC.ti 96 = some ⟨.struct #[{ name := "High", type := 2, offset := 0, embedded := false, tag := "", pkgPath := "", byteOffset := 0 }, { name := "Low", type := 94, offset := 1, embedded := false, tag := "", pkgPath := "", byteOffset := 8 }, { name := "Overs", type := 94, offset := 2, embedded := false, tag := "", pkgPath := "", byteOffset := 16 }], 3, 24, (some (.agg [.int Go.IntKind.i64 (.ofNat 0), .int Go.IntKind.u64 (.ofNat 0), .int Go.IntKind.u64 (.ofNat 0)])), true⟩ := by kernel_rfl
theorem ti97 : tC.ti 97 = some ⟨.pointer 147, 1, 8, (some (.nilp)), true⟩ := by kernel_rfl
theorem ti99 : tC.ti 99 = some ⟨.struct #[{ name := "labels", type := 29, offset := 0, embedded := false, tag := "", pkgPath := "waterwheel/group", byteOffset := 0 }, { name := "total", type := 96, offset := 1, embedded := false, tag := "", pkgPath := "waterwheel/group", byteOffset := 24 }, { name := "n", type := 3, offset := 4, embedded := false, tag := "", pkgPath := "waterwheel/group", byteOffset := 48 }, { name := "bag", type := 97, offset := 5, embedded := false, tag := "", pkgPath := "waterwheel/group", byteOffset := 56 }], 6, 64, (some (.agg [.nils, .int Go.IntKind.i64 (.ofNat 0), .int Go.IntKind.u64 (.ofNat 0), .int Go.IntKind.u64 (.ofNat 0), .int Go.IntKind.i64 (.ofNat 0), .nilp])), true⟩ := by kernel_rfl
theorem ti101 : tC.ti 101 = some ⟨.func #[58, 58] #[3] false, 1, 8, (some (.nilf)), true⟩ := by kernel_rfl
theorem ld2 (H : AH) (b k : Nat) : aload tC H 2 (.ptr b k) = cellAt H b k := aload_one ti2 rfl
theorem ld3 (H : AH) (b k : Nat) : aload tC H 3 (.ptr b k) = cellAt H b k := aload_one ti3 rfl
theorem ld4 (H : AH) (b k : Nat) : aload tC H 4 (.ptr b k) = cellAt H b k := aload_one ti4 rfl
theorem ld5 (H : AH) (b k : Nat) : aload tC H 5 (.ptr b k) = cellAt H b k := aload_one ti5 rfl
theorem al9 (s : List UInt8) : alen tC 9 (.str s) = some (.int .i64 (s.length : Int)) := alen_str ti9 rfl
theorem ld9 (H : AH) (b k : Nat) : aload tC H 9 (.ptr b k) = cellAt H b k := aload_one ti9 rfl
theorem al22 (x : AV) : alen tC 22 x = (lenOfAV x).map fun n => .int .i64 (n : Int) := alen_sliceM ti22 rfl x
theorem ix22 (b o len z m : Nat) (cap : ACap) (k : IntKind) (hm : m < len) : aindexAddr tC 22 (.slice b o len cap z) (.int k (m : Int)) = some (.ptr b (o + m * 3)) := aindexAddr_slice ti22 rfl ti58 hm
theorem bs22 (F : Fns) (H : AH) (ev : Operand → AV) (dst : Option Tmp) (ty : TypeId) (pos : String) (after : Array Edge) (guard : Option (Nat × Bool)) : evOp tC F H ev { dst, op := .buildSlice 22 0 ⟨[]⟩, type := ty, pos, after, guard } = some (.slice H.next 0 0 (.ex 0) 3, H.alloc (.cells false [])) := evOp_buildSlice0 ti22 rfl ti58
theorem ld22 (H : AH) (b k : Nat) : aload tC H 22 (.ptr b k) = cellAt H b k := aload_one ti22 rfl
theorem al23 (x : AV) : alen tC 23 x = (lenOfAV x).map fun n => .int .i64 (n : Int) := alen_sliceM ti23 rfl x
theorem ix23 (b o len z m : Nat) (cap : ACap) (k : IntKind) (hm : m < len) : aindexAddr tC 23 (.slice b o len cap z) (.int k (m : Int)) = some (.ptr b (o + m * 4)) := aindexAddr_slice ti23 rfl ti33 hm
theorem bs23 (F : Fns) (H : AH) (ev : Operand → AV) (dst : Option Tmp) (ty : TypeId) (pos : String) (after : Array Edge) (guard : Option (Nat × Bool)) : evOp tC F H ev { dst, op := .buildSlice 23 0 ⟨[]⟩, type := ty, pos, after, guard } = some (.slice H.next 0 0 (.ex 0) 4, H.alloc (.cells false [])) := evOp_buildSlice0 ti23 rfl ti33
theorem ld23 (H : AH) (b k : Nat) : aload tC H 23 (.ptr b k) = cellAt H b k := aload_one ti23 rfl
theorem ld27 (H : AH) (b k : Nat) : aload tC H 27 (.ptr b k) = cellAt H b k := aload_one ti27 rfl
theorem al29 (x : AV) : alen tC 29 x = (lenOfAV x).map fun n => .int .i64 (n : Int) := alen_sliceM ti29 rfl x
theorem ix29 (b o len z m : Nat) (cap : ACap) (k : IntKind) (hm : m < len) : aindexAddr tC 29 (.slice b o len cap z) (.int k (m : Int)) = some (.ptr b (o + m * 2)) := aindexAddr_slice ti29 rfl ti71 hm
theorem bs29 (F : Fns) (H : AH) (ev : Operand → AV) (dst : Option Tmp) (ty : TypeId) (pos : String) (after : Array Edge) (guard : Option (Nat × Bool)) : evOp tC F H ev { dst, op := .buildSlice 29 0 ⟨[]⟩, type := ty, pos, after, guard } = some (.slice H.next 0 0 (.ex 0) 2, H.alloc (.cells false [])) := evOp_buildSlice0 ti29 rfl ti71
theorem ld29 (H : AH) (b k : Nat) : aload tC H 29 (.ptr b k) = cellAt H b k := aload_one ti29 rfl
theorem fa31_0 (b o : Nat) : afieldAddr tC 31 (.ptr b o) 0 = some (.ptr b (o + 0)) := by simp only [afieldAddr, ti31, ti2, List.getElem?_cons_zero, List.getElem?_cons_succ, nbeq, Nat.reduceEqDiff, decide_false, cond_false]
theorem fa31_1 (b o : Nat) : afieldAddr tC 31 (.ptr b o) 1 = some (.ptr b (o + 1)) := by simp only [afieldAddr, ti31, ti4, List.getElem?_cons_zero, List.getElem?_cons_succ, nbeq, Nat.reduceEqDiff, decide_false, cond_false]
theorem ld31 (H : AH) (b k : Nat) : aload tC H 31 (.ptr b k) = cellsAt H b k 2 := aload_agg ti31 rfl
theorem fa33_0 (b o : Nat) : afieldAddr tC 33 (.ptr b o) 0 = some (.ptr b (o + 0)) := by simp only [afieldAddr, ti33, ti29, List.getElem?_cons_zero, List.getElem?_cons_succ, nbeq, Nat.reduceEqDiff, decide_false, cond_false]
theorem fa33_1 (b o : Nat) : afieldAddr tC 33 (.ptr b o) 1 = some (.ptr b (o + 1)) := by simp only [afieldAddr, ti33, ti31, List.getElem?_cons_zero, List.getElem?_cons_succ, nbeq, Nat.reduceEqDiff, decide_false, cond_false]
theorem fa33_2 (b o : Nat) : afieldAddr tC 33 (.ptr b o) 2 = some (.ptr b (o + 3)) := by simp only [afieldAddr, ti33, ti4, List.getElem?_cons_zero, List.getElem?_cons_succ, nbeq, Nat.reduceEqDiff, decide_false, cond_false]
theorem ld33 (H : AH) (b k : Nat) : aload tC H 33 (.ptr b k) = cellsAt H b k 4 := aload_agg ti33 rfl
theorem al40 (x : AV) : alen tC 40 x = (lenOfAV x).map fun n => .int .i64 (n : Int) := alen_sliceM ti40 rfl x
theorem ix40 (b o len z m : Nat) (cap : ACap) (k : IntKind) (hm : m < len) : aindexAddr tC 40 (.slice b o len cap z) (.int k (m : Int)) = some (.ptr b (o + m * 1)) := aindexAddr_slice ti40 rfl ti9 hm
theorem bs40 (F : Fns) (H : AH) (ev : Operand → AV) (dst : Option Tmp) (ty : TypeId) (pos : String) (after : Array Edge) (guard : Option (Nat × Bool)) : evOp tC F H ev { dst, op := .buildSlice 40 0 ⟨[]⟩, type := ty, pos, after, guard } = some (.slice H.next 0 0 (.ex 0) 1, H.alloc (.cells false [])) := evOp_buildSlice0 ti40 rfl ti9
theorem ld40 (H : AH) (b k : Nat) : aload tC H 40 (.ptr b k) = cellAt H b k := aload_one ti40 rfl
theorem ld44 (H : AH) (b k : Nat) : aload tC H 44 (.ptr b k) = cellAt H b k := aload_one ti44 rfl
theorem al50 (x : AV) : alen tC 50 x = (lenOfAV x).map fun n => .int .i64 (n : Int) := alen_sliceM ti50 rfl x
theorem ix50 (b o len z m : Nat) (cap : ACap) (k : IntKind) (hm : m < len) : aindexAddr tC 50 (.slice b o len cap z) (.int k (m : Int)) = some (.ptr b (o + m * 1)) := aindexAddr_slice ti50 rfl ti5 hm
theorem bs50 (F : Fns) (H : AH) (ev : Operand → AV) (dst : Option Tmp) (ty : TypeId) (pos : String) (after : Array Edge) (guard : Option (Nat × Bool)) : evOp tC F H ev { dst, op := .buildSlice 50 0 ⟨[]⟩, type := ty, pos, after, guard } = some (.slice H.next 0 0 (.ex 0) 1, H.alloc (.cells false [])) := evOp_buildSlice0 ti50 rfl ti5
theorem ld50 (H : AH) (b k : Nat) : aload tC H 50 (.ptr b k) = cellAt H b k := aload_one ti50 rfl
theorem fa58_0 (b o : Nat) : afieldAddr tC 58 (.ptr b o) 0 = some (.ptr b (o + 0)) := by simp only [afieldAddr, ti58, ti29, List.getElem?_cons_zero, List.getElem?_cons_succ, nbeq, Nat.reduceEqDiff, decide_false, cond_false]
theorem fa58_1 (b o : Nat) : afieldAddr tC 58 (.ptr b o) 1 = some (.ptr b (o + 1)) := by simp only [afieldAddr, ti58, ti31, List.getElem?_cons_zero, List.getElem?_cons_succ, nbeq, Nat.reduceEqDiff, decide_false, cond_false]
theorem ld58 (H : AH) (b k : Nat) : aload tC H 58 (.ptr b k) = cellsAt H b k 3 := aload_agg ti58 rfl
theorem fa71_0 (b o : Nat) : afieldAddr tC 71 (.ptr b o) 0 = some (.ptr b (o + 0)) := by simp only [afieldAddr, ti71, ti9, List.getElem?_cons_zero, List.getElem?_cons_succ, nbeq, Nat.reduceEqDiff, decide_false, cond_false]
theorem fa71_1 (b o : Nat) : afieldAddr tC 71 (.ptr b o) 1 = some (.ptr b (o + 1)) := by simp only [afieldAddr, ti71, ti9, List.getElem?_cons_zero, List.getElem?_cons_succ, nbeq, Nat.reduceEqDiff, decide_false, cond_false]
theorem ld71 (H : AH) (b k : Nat) : aload tC H 71 (.ptr b k) = cellsAt H b k 2 := aload_agg ti71 rfl
theorem am74 (H : AH) (b : Nat) : alenMap tC H 74 (.map b) = mapLenAt H b := alenMap_of ti74 rfl
theorem an74 (b : Nat) : alen tC 74 (.map b) = none := alen_map ti74 rfl
theorem ld74 (H : AH) (b k : Nat) : aload tC H 74 (.ptr b k) = cellAt H b k := aload_one ti74 rfl
theorem fa76_0 (b o : Nat) : afieldAddr tC 76 (.ptr b o) 0 = some (.ptr b (o + 0)) := by simp only [afieldAddr, ti76, ti3, List.getElem?_cons_zero, List.getElem?_cons_succ, nbeq, Nat.reduceEqDiff, decide_false, cond_false]
theorem fa76_1 (b o : Nat) : afieldAddr tC 76 (.ptr b o) 1 = some (.ptr b (o + 1)) := by simp only [afieldAddr, ti76, ti40, List.getElem?_cons_zero, List.getElem?_cons_succ, nbeq, Nat.reduceEqDiff, decide_false, cond_false]
theorem fa76_2 (b o : Nat) : afieldAddr tC 76 (.ptr b o) 2 = some (.ptr b (o + 2)) := by simp only [afieldAddr, ti76, ti22, List.getElem?_cons_zero, List.getElem?_cons_succ, nbeq, Nat.reduceEqDiff, decide_false, cond_false]
theorem fa76_3 (b o : Nat) : afieldAddr tC 76 (.ptr b o) 3 = some (.ptr b (o + 3)) := by simp only [afieldAddr, ti76, ti74, List.getElem?_cons_zero, List.getElem?_cons_succ, nbeq, Nat.reduceEqDiff, decide_false, cond_false]
theorem ld76 (H : AH) (b k : Nat) : aload tC H 76 (.ptr b k) = cellsAt H b k 4 := aload_agg ti76 rfl
theorem am77 (H : AH) (b : Nat) : alenMap tC H 77 (.map b) = mapLenAt H b := alenMap_of ti77 rfl
theorem an77 (b : Nat) : alen tC 77 (.map b) = none := alen_map ti77 rfl
theorem ld77 (H : AH) (b k : Nat) : aload tC H 77 (.ptr b k) = cellAt H b k := aload_one ti77 rfl
theorem am78 (H : AH) (b : Nat) : alenMap tC H 78 (.map b) = mapLenAt H b := alenMap_of ti78 rfl
theorem an78 (b : Nat) : alen tC 78 (.map b) = none := alen_map ti78 rfl
theorem ld78 (H : AH) (b k : Nat) : aload tC H 78 (.ptr b k) = cellAt H b k := aload_one ti78 rfl
theorem ld82 (H : AH) (b k : Nat) : aload tC H 82 (.ptr b k) = cellAt H b k := aload_one ti82 rfl
theorem ld90 (H : AH) (b k : Nat) : aload tC H 90 (.ptr b k) = cellAt H b k := aload_one ti90 rfl
theorem ld93 (H : AH) (b k : Nat) : aload tC H 93 (.ptr b k) = cellAt H b k := aload_one ti93 rfl
theorem ld94 (H : AH) (b k : Nat) : aload tC H 94 (.ptr b k) = cellAt H b k := aload_one ti94 rfl
theorem fa96_0 (b o : Nat) : afieldAddr tC 96 (.ptr b o) 0 = some (.ptr b (o + 0)) := by simp only [afieldAddr, ti96, ti2, List.getElem?_cons_zero, List.getElem?_cons_succ, nbeq, Nat.reduceEqDiff, decide_false, cond_false]
theorem fa96_1 (b o : Nat) : afieldAddr tC 96 (.ptr b o) 1 = some (.ptr b (o + 1)) := by simp only [afieldAddr, ti96, ti94, List.getElem?_cons_zero, List.getElem?_cons_succ, nbeq, Nat.reduceEqDiff, decide_false, cond_false]
theorem fa96_2 (b o : Nat) : afieldAddr tC 96 (.ptr b o) 2 = some (.ptr b (o + 2)) := by simp only [afieldAddr, ti96, ti94, List.getElem?_cons_zero, List.getElem?_cons_succ, nbeq, Nat.reduceEqDiff, decide_false, cond_false]
theorem ld96 (H : AH) (b k : Nat) : aload tC H 96 (.ptr b k) = cellsAt H b k 3 := aload_agg ti96 rfl
theorem ld97 (H : AH) (b k : Nat) : aload tC H 97 (.ptr b k) = cellAt H b k := aload_one ti97 rfl
theorem fa99_0 (b o : Nat) : afieldAddr tC 99 (.ptr b o) 0 = some (.ptr b (o + 0)) := by simp only [afieldAddr, ti99, ti29, List.getElem?_cons_zero, List.getElem?_cons_succ, nbeq, Nat.reduceEqDiff, decide_false, cond_false]
theorem fa99_1 (b o : Nat) : afieldAddr tC 99 (.ptr b o) 1 = some (.ptr b (o + 1)) := by simp only [afieldAddr, ti99, ti96, List.getElem?_cons_zero, List.getElem?_cons_succ, nbeq, Nat.reduceEqDiff, decide_false, cond_false]
theorem fa99_2 (b o : Nat) : afieldAddr tC 99 (.ptr b o) 2 = some (.ptr b (o + 4)) := by simp only [afieldAddr, ti99, ti3, List.getElem?_cons_zero, List.getElem?_cons_succ, nbeq, Nat.reduceEqDiff, decide_false, cond_false]
theorem fa99_3 (b o : Nat) : afieldAddr tC 99 (.ptr b o) 3 = some (.ptr b (o + 5)) := by simp only [afieldAddr, ti99, ti97, List.getElem?_cons_zero, List.getElem?_cons_succ, nbeq, Nat.reduceEqDiff, decide_false, cond_false]
theorem ld99 (H : AH) (b k : Nat) : aload tC H 99 (.ptr b k) = cellsAt H b k 6 := aload_agg ti99 rfl
theorem ld101 (H : AH) (b k : Nat) : aload tC H 101 (.ptr b k) = cellAt H b k := aload_one ti101 rfl

end Go.Proofs.YtapokkpdgfpokaaGreat
