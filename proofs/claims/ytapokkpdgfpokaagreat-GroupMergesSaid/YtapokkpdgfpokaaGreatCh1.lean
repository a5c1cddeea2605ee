/- Group: types as the program has them; what labels, values, changes, vectors may be; labels compared; no condition. -/
import Derived.Test.YtapokkpdgfpokaaGreatHeap6
import Derived.Test.YtapokkpdgfpokaaGreatProg
set_option linter.unusedSimpArgs false
set_option linter.unusedVariables false
set_option linter.defProp false
set_option maxRecDepth 100000
open Go Go.AB Go.Proofs
namespace Go.Proofs.YtapokkpdgfpokaaGreat
noncomputable def tC : Ctx := mkCtx Tryz.prog
theorem tOK : tC.OK := mkCtx_ok Tryz.prog (by kernel_rfl)
theorem tCodes : CodesOK tC := codesOK_of (by kernel_rfl)
theorem fn6 : tC.fn 6 = some Tryz.f6 := by kernel_rfl
theorem ok6 : fnOk Tryz.f6 = true := by kernel_rfl
theorem fn8 : tC.fn 8 = some Tryz.f8 := by kernel_rfl
theorem ok8 : fnOk Tryz.f8 = true := by kernel_rfl
theorem fn9 : tC.fn 9 = some Tryz.f9 := by kernel_rfl
theorem ok9 : fnOk Tryz.f9 = true := by kernel_rfl
theorem fn11 : tC.fn 11 = some Tryz.f11 := by kernel_rfl
theorem ok11 : fnOk Tryz.f11 = true := by kernel_rfl
theorem fn14 : tC.fn 14 = some Tryz.f14 := by kernel_rfl
theorem ok14 : fnOk Tryz.f14 = true := by kernel_rfl
theorem fn16 : tC.fn 16 = some Tryz.f16 := by kernel_rfl
theorem ok16 : fnOk Tryz.f16 = true := by kernel_rfl
theorem fn28 : tC.fn 28 = some Tryz.f28 := by kernel_rfl
theorem ok28 : fnOk Tryz.f28 = true := by kernel_rfl
theorem fn29 : tC.fn 29 = some Tryz.f29 := by kernel_rfl
theorem ok29 : fnOk Tryz.f29 = true := by kernel_rfl
theorem fn30 : tC.fn 30 = some Tryz.f30 := by kernel_rfl
theorem ok30 : fnOk Tryz.f30 = true := by kernel_rfl
theorem fn33 : tC.fn 33 = some Tryz.f33 := by kernel_rfl
theorem ok33 : fnOk Tryz.f33 = true := by kernel_rfl
theorem fn34 : tC.fn 34 = some Tryz.f34 := by kernel_rfl
theorem ok34 : fnOk Tryz.f34 = true := by kernel_rfl
theorem fn35 : tC.fn 35 = some Tryz.f35 := by kernel_rfl
theorem ok35 : fnOk Tryz.f35 = true := by kernel_rfl
theorem fn36 : tC.fn 36 = some Tryz.f36 := by kernel_rfl
theorem ok36 : fnOk Tryz.f36 = true := by kernel_rfl
theorem fn39 : tC.fn 39 = some Tryz.f39 := by kernel_rfl
theorem ok39 : fnOk Tryz.f39 = true := by kernel_rfl
theorem fn40 : tC.fn 40 = some Tryz.f40 := by kernel_rfl
theorem ok40 : fnOk Tryz.f40 = true := by kernel_rfl
theorem fn41 : tC.fn 41 = some Tryz.f41 := by kernel_rfl
theorem ok41 : fnOk Tryz.f41 = true := by kernel_rfl
theorem fn63 : tC.fn 63 = some Tryz.f63 := by kernel_rfl
theorem ok63 : fnOk Tryz.f63 = true := by kernel_rfl
theorem fn65 : tC.fn 65 = some Tryz.f65 := by kernel_rfl
theorem ok65 : fnOk Tryz.f65 = true := by kernel_rfl
theorem fn66 : tC.fn 66 = some Tryz.f66 := by kernel_rfl
theorem ok66 : fnOk Tryz.f66 = true := by kernel_rfl
theorem fn67 : tC.fn 67 = some Tryz.f67 := by kernel_rfl
theorem ok67 : fnOk Tryz.f67 = true := by kernel_rfl
theorem fn68 : tC.fn 68 = some Tryz.f68 := by kernel_rfl
theorem ok68 : fnOk Tryz.f68 = true := by kernel_rfl
theorem fn69 : tC.fn 69 = some Tryz.f69 := by kernel_rfl
theorem ok69 : fnOk Tryz.f69 = true := by kernel_rfl
theorem fn71 : tC.fn 71 = some Tryz.f71 := by kernel_rfl
theorem ok71 : fnOk Tryz.f71 = true := by kernel_rfl
theorem fn72 : tC.fn 72 = some Tryz.f72 := by kernel_rfl
theorem ok72 : fnOk Tryz.f72 = true := by kernel_rfl
theorem fn98 : tC.fn 98 = some Tryz.f98 := by kernel_rfl
theorem ok98 : fnOk Tryz.f98 = true := by kernel_rfl
theorem fn99 : tC.fn 99 = some Tryz.f99 := by kernel_rfl
theorem ok99 : fnOk Tryz.f99 = true := by kernel_rfl
theorem fn136 : tC.fn 136 = some Tryz.f136 := by kernel_rfl
theorem ok136 : fnOk Tryz.f136 = true := by kernel_rfl
theorem ti2 : tC.ti 2 = some ⟨.int Go.IntKind.i64, 1, 8, (some (.int Go.IntKind.i64 (.ofNat 0))), true⟩ := by kernel_rfl
theorem ti3 : tC.ti 3 = some ⟨.int Go.IntKind.i64, 1, 8, (some (.int Go.IntKind.i64 (.ofNat 0))), true⟩ := by kernel_rfl
theorem ti4 : tC.ti 4 = some ⟨.bool, 1, 1, (some (.bool false)), true⟩ := by kernel_rfl
theorem ti5 : tC.ti 5 = some ⟨.int Go.IntKind.u8, 1, 1, (some (.int Go.IntKind.u8 (.ofNat 0))), true⟩ := by kernel_rfl
theorem ti9 : tC.ti 9 = some ⟨.string, 1, 16, (some (.str [])), true⟩ := by kernel_rfl
theorem ti22 : tC.ti 22 = some ⟨.slice 58, 1, 24, (some (.nils)), true⟩ := by kernel_rfl
theorem ti23 : tC.ti 23 = some ⟨.slice 33, 1, 24, (some (.nils)), true⟩ := by kernel_rfl
theorem ti27 : tC.ti 27 = some ⟨.int Go.IntKind.i64, 1, 8, (some (.int Go.IntKind.i64 (.ofNat 0))), true⟩ := by kernel_rfl
theorem ti29 : tC.ti 29 = some ⟨.slice 71, 1, 24, (some (.nils)), true⟩ := by kernel_rfl
theorem ti31 : tC.ti 31 = some ⟨.struct #[{ name := "N", type := 2, offset := 0, embedded := false, tag := "", pkgPath := "", byteOffset := 0 }, { name := "Over", type := 4, offset := 1, embedded := false, tag := "", pkgPath := "", byteOffset := 8 }], 2, 16, (some (.agg [.int Go.IntKind.i64 (.ofNat 0), .bool false])), true⟩ := by kernel_rfl
theorem ti33 : tC.ti 33 = some ⟨.struct #[{ name := "Labels", type := 29, offset := 0, embedded := false, tag := "", pkgPath := "", byteOffset := 0 }, { name := "Value", type := 31, offset := 1, embedded := true, tag := "", pkgPath := "", byteOffset := 24 }, { name := "Gone", type := 4, offset := 3, embedded := false, tag := "", pkgPath := "", byteOffset := 40 }], 4, 48, (some (.agg [.nils, .int Go.IntKind.i64 (.ofNat 0), .bool false, .bool false])), true⟩ := by kernel_rfl
theorem ti40 : tC.ti 40 = some ⟨.slice 9, 1, 24, (some (.nils)), true⟩ := by kernel_rfl
theorem ti44 : tC.ti 44 = some ⟨.pointer 76, 1, 8, (some (.nilp)), true⟩ := by kernel_rfl
theorem ti58 : tC.ti 58 = some ⟨.struct #[{ name := "Labels", type := 29, offset := 0, embedded := false, tag := "", pkgPath := "", byteOffset := 0 }, { name := "Value", type := 31, offset := 1, embedded := true, tag := "", pkgPath := "", byteOffset := 24 }], 3, 40, (some (.agg [.nils, .int Go.IntKind.i64 (.ofNat 0), .bool false])), true⟩ := by kernel_rfl
theorem ti71 : tC.ti 71 = some ⟨.struct #[{ name := "Name", type := 9, offset := 0, embedded := false, tag := "", pkgPath := "", byteOffset := 0 }, { name := "Text", type := 9, offset := 1, embedded := false, tag := "", pkgPath := "", byteOffset := 16 }], 2, 32, (some (.agg [.str [], .str []])), true⟩ := by kernel_rfl
theorem ti110 : tC.ti 110 = some ⟨.func #[58, 29] #[3] false, 1, 8, (some (.nilf)), true⟩ := by kernel_rfl
theorem ti114 : tC.ti 114 = some ⟨.func #[71, 71] #[3] false, 1, 8, (some (.nilf)), true⟩ := by kernel_rfl
theorem ti127 : tC.ti 127 = some ⟨.int Go.IntKind.u64, 1, 8, (some (.int Go.IntKind.u64 (.ofNat 0))), true⟩ := by kernel_rfl
theorem ti174 : tC.ti 174 = some ⟨.slice 3, 1, 24, (some (.nils)), true⟩ := by kernel_rfl
theorem ld2 (H : AH) (b k : Nat) : aload tC H 2 (.ptr b k) = cellAt H b k := aload_one ti2 rfl
theorem st2 (H : AH) (b o : Nat) (v : AV) (hv : v.one = true) : astore tC H 2 (.ptr b o) v = storeAt H b o v := astore_one ti2 rfl H b o v hv
theorem ld3 (H : AH) (b k : Nat) : aload tC H 3 (.ptr b k) = cellAt H b k := aload_one ti3 rfl
theorem st3 (H : AH) (b o : Nat) (v : AV) (hv : v.one = true) : astore tC H 3 (.ptr b o) v = storeAt H b o v := astore_one ti3 rfl H b o v hv
theorem ld4 (H : AH) (b k : Nat) : aload tC H 4 (.ptr b k) = cellAt H b k := aload_one ti4 rfl
theorem st4 (H : AH) (b o : Nat) (v : AV) (hv : v.one = true) : astore tC H 4 (.ptr b o) v = storeAt H b o v := astore_one ti4 rfl H b o v hv
theorem ld5 (H : AH) (b k : Nat) : aload tC H 5 (.ptr b k) = cellAt H b k := aload_one ti5 rfl
theorem st5 (H : AH) (b o : Nat) (v : AV) (hv : v.one = true) : astore tC H 5 (.ptr b o) v = storeAt H b o v := astore_one ti5 rfl H b o v hv
theorem al9 (s : List UInt8) : alen tC 9 (.str s) = some (.int .i64 (s.length : Int)) := alen_str ti9 rfl
theorem ld9 (H : AH) (b k : Nat) : aload tC H 9 (.ptr b k) = cellAt H b k := aload_one ti9 rfl
theorem st9 (H : AH) (b o : Nat) (v : AV) (hv : v.one = true) : astore tC H 9 (.ptr b o) v = storeAt H b o v := astore_one ti9 rfl H b o v hv
theorem al22 (x : AV) : alen tC 22 x = (lenOfAV x).map fun n => .int .i64 (n : Int) := alen_sliceM ti22 rfl x
theorem ix22 (b o len z m : Nat) (cap : ACap) (k : IntKind) (hm : m < len) : aindexAddr tC 22 (.slice b o len cap z) (.int k (m : Int)) = some (.ptr b (o + m * 3)) := aindexAddr_slice ti22 rfl ti58 hm
theorem bs22 (F : Fns) (H : AH) (ev : Operand → AV) (dst : Option Tmp) (ty : TypeId) (pos : String) (after : Array Edge) (guard : Option (Nat × Bool)) : evOp tC F H ev { dst, op := .buildSlice 22 0 ⟨[]⟩, type := ty, pos, after, guard } = some (.slice H.next 0 0 (.ex 0) 3, H.alloc (.cells false [])) := evOp_buildSlice0 ti22 rfl ti58
theorem ld22 (H : AH) (b k : Nat) : aload tC H 22 (.ptr b k) = cellAt H b k := aload_one ti22 rfl
theorem eq22a (cst : Bool) (b o n z : Nat) (c : ACap) : abin tC .eql 22 cst (.slice b o n c z) .nils = some (.bool false) := by simp only [abin, eqRes, aeq, ti22, Option.map_some, Bool.not_false, Bool.not_true]
theorem ne22a (cst : Bool) (b o n z : Nat) (c : ACap) : abin tC .neq 22 cst (.slice b o n c z) .nils = some (.bool true) := by simp only [abin, eqRes, aeq, ti22, Option.map_some, Bool.not_false, Bool.not_true]
theorem eq22b (cst : Bool)  : abin tC .eql 22 cst .nils .nils = some (.bool true) := by simp only [abin, eqRes, aeq, ti22, Option.map_some, Bool.not_false, Bool.not_true]
theorem ne22b (cst : Bool)  : abin tC .neq 22 cst .nils .nils = some (.bool false) := by simp only [abin, eqRes, aeq, ti22, Option.map_some, Bool.not_false, Bool.not_true]
theorem eq22c (cst : Bool) (b : Nat) : abin tC .eql 22 cst (.empty b) .nils = some (.bool false) := by simp only [abin, eqRes, aeq, ti22, Option.map_some, Bool.not_false, Bool.not_true]
theorem ne22c (cst : Bool) (b : Nat) : abin tC .neq 22 cst (.empty b) .nils = some (.bool true) := by simp only [abin, eqRes, aeq, ti22, Option.map_some, Bool.not_false, Bool.not_true]
theorem st22 (H : AH) (b o : Nat) (v : AV) (hv : v.one = true) : astore tC H 22 (.ptr b o) v = storeAt H b o v := astore_one ti22 rfl H b o v hv
theorem al23 (x : AV) : alen tC 23 x = (lenOfAV x).map fun n => .int .i64 (n : Int) := alen_sliceM ti23 rfl x
theorem ix23 (b o len z m : Nat) (cap : ACap) (k : IntKind) (hm : m < len) : aindexAddr tC 23 (.slice b o len cap z) (.int k (m : Int)) = some (.ptr b (o + m * 4)) := aindexAddr_slice ti23 rfl ti33 hm
theorem bs23 (F : Fns) (H : AH) (ev : Operand → AV) (dst : Option Tmp) (ty : TypeId) (pos : String) (after : Array Edge) (guard : Option (Nat × Bool)) : evOp tC F H ev { dst, op := .buildSlice 23 0 ⟨[]⟩, type := ty, pos, after, guard } = some (.slice H.next 0 0 (.ex 0) 4, H.alloc (.cells false [])) := evOp_buildSlice0 ti23 rfl ti33
theorem ld23 (H : AH) (b k : Nat) : aload tC H 23 (.ptr b k) = cellAt H b k := aload_one ti23 rfl
theorem eq23a (cst : Bool) (b o n z : Nat) (c : ACap) : abin tC .eql 23 cst (.slice b o n c z) .nils = some (.bool false) := by simp only [abin, eqRes, aeq, ti23, Option.map_some, Bool.not_false, Bool.not_true]
theorem ne23a (cst : Bool) (b o n z : Nat) (c : ACap) : abin tC .neq 23 cst (.slice b o n c z) .nils = some (.bool true) := by simp only [abin, eqRes, aeq, ti23, Option.map_some, Bool.not_false, Bool.not_true]
theorem eq23b (cst : Bool)  : abin tC .eql 23 cst .nils .nils = some (.bool true) := by simp only [abin, eqRes, aeq, ti23, Option.map_some, Bool.not_false, Bool.not_true]
theorem ne23b (cst : Bool)  : abin tC .neq 23 cst .nils .nils = some (.bool false) := by simp only [abin, eqRes, aeq, ti23, Option.map_some, Bool.not_false, Bool.not_true]
theorem eq23c (cst : Bool) (b : Nat) : abin tC .eql 23 cst (.empty b) .nils = some (.bool false) := by simp only [abin, eqRes, aeq, ti23, Option.map_some, Bool.not_false, Bool.not_true]
theorem ne23c (cst : Bool) (b : Nat) : abin tC .neq 23 cst (.empty b) .nils = some (.bool true) := by simp only [abin, eqRes, aeq, ti23, Option.map_some, Bool.not_false, Bool.not_true]
theorem st23 (H : AH) (b o : Nat) (v : AV) (hv : v.one = true) : astore tC H 23 (.ptr b o) v = storeAt H b o v := astore_one ti23 rfl H b o v hv
theorem ld27 (H : AH) (b k : Nat) : aload tC H 27 (.ptr b k) = cellAt H b k := aload_one ti27 rfl
theorem st27 (H : AH) (b o : Nat) (v : AV) (hv : v.one = true) : astore tC H 27 (.ptr b o) v = storeAt H b o v := astore_one ti27 rfl H b o v hv
theorem al29 (x : AV) : alen tC 29 x = (lenOfAV x).map fun n => .int .i64 (n : Int) := alen_sliceM ti29 rfl x
theorem ix29 (b o len z m : Nat) (cap : ACap) (k : IntKind) (hm : m < len) : aindexAddr tC 29 (.slice b o len cap z) (.int k (m : Int)) = some (.ptr b (o + m * 2)) := aindexAddr_slice ti29 rfl ti71 hm
theorem bs29 (F : Fns) (H : AH) (ev : Operand → AV) (dst : Option Tmp) (ty : TypeId) (pos : String) (after : Array Edge) (guard : Option (Nat × Bool)) : evOp tC F H ev { dst, op := .buildSlice 29 0 ⟨[]⟩, type := ty, pos, after, guard } = some (.slice H.next 0 0 (.ex 0) 2, H.alloc (.cells false [])) := evOp_buildSlice0 ti29 rfl ti71
theorem ld29 (H : AH) (b k : Nat) : aload tC H 29 (.ptr b k) = cellAt H b k := aload_one ti29 rfl
theorem eq29a (cst : Bool) (b o n z : Nat) (c : ACap) : abin tC .eql 29 cst (.slice b o n c z) .nils = some (.bool false) := by simp only [abin, eqRes, aeq, ti29, Option.map_some, Bool.not_false, Bool.not_true]
theorem ne29a (cst : Bool) (b o n z : Nat) (c : ACap) : abin tC .neq 29 cst (.slice b o n c z) .nils = some (.bool true) := by simp only [abin, eqRes, aeq, ti29, Option.map_some, Bool.not_false, Bool.not_true]
theorem eq29b (cst : Bool)  : abin tC .eql 29 cst .nils .nils = some (.bool true) := by simp only [abin, eqRes, aeq, ti29, Option.map_some, Bool.not_false, Bool.not_true]
theorem ne29b (cst : Bool)  : abin tC .neq 29 cst .nils .nils = some (.bool false) := by simp only [abin, eqRes, aeq, ti29, Option.map_some, Bool.not_false, Bool.not_true]
theorem eq29c (cst : Bool) (b : Nat) : abin tC .eql 29 cst (.empty b) .nils = some (.bool false) := by simp only [abin, eqRes, aeq, ti29, Option.map_some, Bool.not_false, Bool.not_true]
theorem ne29c (cst : Bool) (b : Nat) : abin tC .neq 29 cst (.empty b) .nils = some (.bool true) := by simp only [abin, eqRes, aeq, ti29, Option.map_some, Bool.not_false, Bool.not_true]
theorem st29 (H : AH) (b o : Nat) (v : AV) (hv : v.one = true) : astore tC H 29 (.ptr b o) v = storeAt H b o v := astore_one ti29 rfl H b o v hv
theorem fa31_0 (b o : Nat) : afieldAddr tC 31 (.ptr b o) 0 = some (.ptr b (o + 0)) := by simp only [afieldAddr, ti31, ti2, List.getElem?_cons_zero, List.getElem?_cons_succ, nbeq, Nat.reduceEqDiff, decide_false, cond_false]
theorem fa31_1 (b o : Nat) : afieldAddr tC 31 (.ptr b o) 1 = some (.ptr b (o + 1)) := by simp only [afieldAddr, ti31, ti4, List.getElem?_cons_zero, List.getElem?_cons_succ, nbeq, Nat.reduceEqDiff, decide_false, cond_false]
theorem ld31 (H : AH) (b k : Nat) : aload tC H 31 (.ptr b k) = cellsAt H b k 2 := aload_agg ti31 rfl
theorem fa33_0 (b o : Nat) : afieldAddr tC 33 (.ptr b o) 0 = some (.ptr b (o + 0)) := by simp only [afieldAddr, ti33, ti29, List.getElem?_cons_zero, List.getElem?_cons_succ, nbeq, Nat.reduceEqDiff, decide_false, cond_false]
theorem fa33_1 (b o : Nat) : afieldAddr tC 33 (.ptr b o) 1 = some (.ptr b (o + 1)) := by simp only [afieldAddr, ti33, ti31, List.getElem?_cons_zero, List.getElem?_cons_succ, nbeq, Nat.reduceEqDiff, decide_false, cond_false]
theorem fa33_2 (b o : Nat) : afieldAddr tC 33 (.ptr b o) 2 = some (.ptr b (o + 3)) := by simp only [afieldAddr, ti33, ti4, List.getElem?_cons_zero, List.getElem?_cons_succ, nbeq, Nat.reduceEqDiff, decide_false, cond_false]
theorem ld33 (H : AH) (b k : Nat) : aload tC H 33 (.ptr b k) = cellsAt H b k 4 := aload_agg ti33 rfl
theorem al40 (x : AV) : alen tC 40 x = (lenOfAV x).map fun n => .int .i64 (n : Int) := alen_sliceM ti40 rfl x
theorem ix40 (b o len z m : Nat) (cap : ACap) (k : IntKind) (hm : m < len) : aindexAddr tC 40 (.slice b o len cap z) (.int k (m : Int)) = some (.ptr b (o + m * 1)) := aindexAddr_slice ti40 rfl ti9 hm
theorem bs40 (F : Fns) (H : AH) (ev : Operand → AV) (dst : Option Tmp) (ty : TypeId) (pos : String) (after : Array Edge) (guard : Option (Nat × Bool)) : evOp tC F H ev { dst, op := .buildSlice 40 0 ⟨[]⟩, type := ty, pos, after, guard } = some (.slice H.next 0 0 (.ex 0) 1, H.alloc (.cells false [])) := evOp_buildSlice0 ti40 rfl ti9
theorem ld40 (H : AH) (b k : Nat) : aload tC H 40 (.ptr b k) = cellAt H b k := aload_one ti40 rfl
theorem eq40a (cst : Bool) (b o n z : Nat) (c : ACap) : abin tC .eql 40 cst (.slice b o n c z) .nils = some (.bool false) := by simp only [abin, eqRes, aeq, ti40, Option.map_some, Bool.not_false, Bool.not_true]
theorem ne40a (cst : Bool) (b o n z : Nat) (c : ACap) : abin tC .neq 40 cst (.slice b o n c z) .nils = some (.bool true) := by simp only [abin, eqRes, aeq, ti40, Option.map_some, Bool.not_false, Bool.not_true]
theorem eq40b (cst : Bool)  : abin tC .eql 40 cst .nils .nils = some (.bool true) := by simp only [abin, eqRes, aeq, ti40, Option.map_some, Bool.not_false, Bool.not_true]
theorem ne40b (cst : Bool)  : abin tC .neq 40 cst .nils .nils = some (.bool false) := by simp only [abin, eqRes, aeq, ti40, Option.map_some, Bool.not_false, Bool.not_true]
theorem eq40c (cst : Bool) (b : Nat) : abin tC .eql 40 cst (.empty b) .nils = some (.bool false) := by simp only [abin, eqRes, aeq, ti40, Option.map_some, Bool.not_false, Bool.not_true]
theorem ne40c (cst : Bool) (b : Nat) : abin tC .neq 40 cst (.empty b) .nils = some (.bool true) := by simp only [abin, eqRes, aeq, ti40, Option.map_some, Bool.not_false, Bool.not_true]
theorem st40 (H : AH) (b o : Nat) (v : AV) (hv : v.one = true) : astore tC H 40 (.ptr b o) v = storeAt H b o v := astore_one ti40 rfl H b o v hv
theorem ld44 (H : AH) (b k : Nat) : aload tC H 44 (.ptr b k) = cellAt H b k := aload_one ti44 rfl
theorem eq44a (cst : Bool) (b o : Nat) : abin tC .eql 44 cst (.ptr b o) .nilp = some (.bool false) := by simp only [abin, eqRes, aeq, ti44, Option.map_some, Bool.not_false, Bool.not_true]
theorem ne44a (cst : Bool) (b o : Nat) : abin tC .neq 44 cst (.ptr b o) .nilp = some (.bool true) := by simp only [abin, eqRes, aeq, ti44, Option.map_some, Bool.not_false, Bool.not_true]
theorem eq44b (cst : Bool)  : abin tC .eql 44 cst .nilp .nilp = some (.bool true) := by simp only [abin, eqRes, aeq, ti44, Option.map_some, Bool.not_false, Bool.not_true]
theorem ne44b (cst : Bool)  : abin tC .neq 44 cst .nilp .nilp = some (.bool false) := by simp only [abin, eqRes, aeq, ti44, Option.map_some, Bool.not_false, Bool.not_true]
theorem st44 (H : AH) (b o : Nat) (v : AV) (hv : v.one = true) : astore tC H 44 (.ptr b o) v = storeAt H b o v := astore_one ti44 rfl H b o v hv
theorem fa58_0 (b o : Nat) : afieldAddr tC 58 (.ptr b o) 0 = some (.ptr b (o + 0)) := by simp only [afieldAddr, ti58, ti29, List.getElem?_cons_zero, List.getElem?_cons_succ, nbeq, Nat.reduceEqDiff, decide_false, cond_false]
theorem fa58_1 (b o : Nat) : afieldAddr tC 58 (.ptr b o) 1 = some (.ptr b (o + 1)) := by simp only [afieldAddr, ti58, ti31, List.getElem?_cons_zero, List.getElem?_cons_succ, nbeq, Nat.reduceEqDiff, decide_false, cond_false]
theorem ld58 (H : AH) (b k : Nat) : aload tC H 58 (.ptr b k) = cellsAt H b k 3 := aload_agg ti58 rfl
theorem fa71_0 (b o : Nat) : afieldAddr tC 71 (.ptr b o) 0 = some (.ptr b (o + 0)) := by simp only [afieldAddr, ti71, ti9, List.getElem?_cons_zero, List.getElem?_cons_succ, nbeq, Nat.reduceEqDiff, decide_false, cond_false]
theorem fa71_1 (b o : Nat) : afieldAddr tC 71 (.ptr b o) 1 = some (.ptr b (o + 1)) := by simp only [afieldAddr, ti71, ti9, List.getElem?_cons_zero, List.getElem?_cons_succ, nbeq, Nat.reduceEqDiff, decide_false, cond_false]
theorem ld71 (H : AH) (b k : Nat) : aload tC H 71 (.ptr b k) = cellsAt H b k 2 := aload_agg ti71 rfl
theorem ld110 (H : AH) (b k : Nat) : aload tC H 110 (.ptr b k) = cellAt H b k := aload_one ti110 rfl
theorem st110 (H : AH) (b o : Nat) (v : AV) (hv : v.one = true) : astore tC H 110 (.ptr b o) v = storeAt H b o v := astore_one ti110 rfl H b o v hv
theorem ld114 (H : AH) (b k : Nat) : aload tC H 114 (.ptr b k) = cellAt H b k := aload_one ti114 rfl
theorem st114 (H : AH) (b o : Nat) (v : AV) (hv : v.one = true) : astore tC H 114 (.ptr b o) v = storeAt H b o v := astore_one ti114 rfl H b o v hv
theorem ld127 (H : AH) (b k : Nat) : aload tC H 127 (.ptr b k) = cellAt H b k := aload_one ti127 rfl
theorem st127 (H : AH) (b o : Nat) (v : AV) (hv : v.one = true) : astore tC H 127 (.ptr b o) v = storeAt H b o v := astore_one ti127 rfl H b o v hv
theorem al174 (x : AV) : alen tC 174 x = (lenOfAV x).map fun n => .int .i64 (n : Int) := alen_sliceM ti174 rfl x
theorem ix174 (b o len z m : Nat) (cap : ACap) (k : IntKind) (hm : m < len) : aindexAddr tC 174 (.slice b o len cap z) (.int k (m : Int)) = some (.ptr b (o + m * 1)) := aindexAddr_slice ti174 rfl ti3 hm
theorem bs174 (F : Fns) (H : AH) (ev : Operand → AV) (dst : Option Tmp) (ty : TypeId) (pos : String) (after : Array Edge) (guard : Option (Nat × Bool)) : evOp tC F H ev { dst, op := .buildSlice 174 0 ⟨[]⟩, type := ty, pos, after, guard } = some (.slice H.next 0 0 (.ex 0) 1, H.alloc (.cells false [])) := evOp_buildSlice0 ti174 rfl ti3
theorem ld174 (H : AH) (b k : Nat) : aload tC H 174 (.ptr b k) = cellAt H b k := aload_one ti174 rfl
theorem eq174a (cst : Bool) (b o n z : Nat) (c : ACap) : abin tC .eql 174 cst (.slice b o n c z) .nils = some (.bool false) := by simp only [abin, eqRes, aeq, ti174, Option.map_some, Bool.not_false, Bool.not_true]
theorem ne174a (cst : Bool) (b o n z : Nat) (c : ACap) : abin tC .neq 174 cst (.slice b o n c z) .nils = some (.bool true) := by simp only [abin, eqRes, aeq, ti174, Option.map_some, Bool.not_false, Bool.not_true]
theorem eq174b (cst : Bool)  : abin tC .eql 174 cst .nils .nils = some (.bool true) := by simp only [abin, eqRes, aeq, ti174, Option.map_some, Bool.not_false, Bool.not_true]
theorem ne174b (cst : Bool)  : abin tC .neq 174 cst .nils .nils = some (.bool false) := by simp only [abin, eqRes, aeq, ti174, Option.map_some, Bool.not_false, Bool.not_true]
theorem eq174c (cst : Bool) (b : Nat) : abin tC .eql 174 cst (.empty b) .nils = some (.bool false) := by simp only [abin, eqRes, aeq, ti174, Option.map_some, Bool.not_false, Bool.not_true]
theorem ne174c (cst : Bool) (b : Nat) : abin tC .neq 174 cst (.empty b) .nils = some (.bool true) := by simp only [abin, eqRes, aeq, ti174, Option.map_some, Bool.not_false, Bool.not_true]
theorem st174 (H : AH) (b o : Nat) (v : AV) (hv : v.one = true) : astore tC H 174 (.ptr b o) v = storeAt H b o v := astore_one ti174 rfl H b o v hv
theorem cv3_127 (H : AH) (k' : IntKind) (n : Int) : convOp tC H 3 127 (.int k' n) = some (.int Go.IntKind.u64 (IntKind.wrap Go.IntKind.u64 n), H) := conv_int ti3 ti127 rfl H k' n
theorem cv127_3 (H : AH) (k' : IntKind) (n : Int) : convOp tC H 127 3 (.int k' n) = some (.int Go.IntKind.i64 (IntKind.wrap Go.IntKind.i64 n), H) := conv_int ti127 ti3 rfl H k' n
def tyC0 := And.intro @ld2 (And.intro @st2 (And.intro @ld3 (And.intro @st3 (And.intro @ld4 (And.intro @st4 (And.intro @ld5 (And.intro @st5 (And.intro @al9 (And.intro @ld9 (And.intro @st9 (And.intro @al22 (And.intro @ix22 (And.intro @bs22 (And.intro @ld22 (And.intro @ne22a (And.intro @eq22a (And.intro @ne22b (And.intro @eq22b (And.intro @ne22c (And.intro @eq22c (And.intro @st22 (And.intro @al23 (And.intro @ix23 (And.intro @bs23 (And.intro @ld23 (And.intro @ne23a (And.intro @eq23a (And.intro @ne23b (And.intro @eq23b (And.intro @ne23c (And.intro @eq23c (And.intro @st23 (And.intro @ld27 (And.intro @st27 (And.intro @al29 (And.intro @ix29 (And.intro @bs29 (And.intro @ld29 (And.intro @ne29a (And.intro @eq29a (And.intro @ne29b (And.intro @eq29b (And.intro @ne29c (And.intro @eq29c (And.intro @st29 (And.intro @fa31_0 (And.intro @fa31_1 (And.intro @ld31 (And.intro @fa33_0 (And.intro @fa33_1 (And.intro @fa33_2 (And.intro @ld33 (And.intro @al40 (And.intro @ix40 (And.intro @bs40 (And.intro @ld40 (And.intro @ne40a (And.intro @eq40a (And.intro @ne40b (And.intro @eq40b (And.intro @ne40c (And.intro @eq40c (And.intro @st40 (And.intro @ld44 (And.intro @ne44a (And.intro @eq44a (And.intro @ne44b (And.intro @eq44b (And.intro @st44 (And.intro @fa58_0 (And.intro @fa58_1 (And.intro @ld58 (And.intro @fa71_0 (And.intro @fa71_1 (And.intro @ld71 (And.intro @ld110 (And.intro @st110 (And.intro @ld114 (And.intro @st114 (And.intro @ld127 (And.intro @st127 (And.intro @al174 (And.intro @ix174 (And.intro @bs174 (And.intro @ld174 (And.intro @ne174a (And.intro @eq174a (And.intro @ne174b (And.intro @eq174b (And.intro @ne174c (And.intro @eq174c (And.intro @st174 (And.intro @cv3_127 @cv127_3)))))))))))))))))))))))))))))))))))))))))))))))))))))))))))))))))))))))))))))))))))))))))))))
theorem tyC : type_of% tyC0 := tyC0
structure Hd (P : Prop) : Prop where
  h : P
theorem za {p q : Prop} (h : p) (i : Hd p → q := by intro h; (first | refine AW.seq ?_ | refine AW.region ?_ | refine AOs.nil ?_ | refine andThen_normal ?_ | refine AW.block ?_ | refine AW.skip ?_ | refine AW.ret ?_ | refine andThen_ret ?_ | refine inBlock_normal ?_ | refine inBlock_ret ?_ | refine AW.exit ?_ | refine andThen_exit ?_ | refine inBlock_hit ?_ | refine inBlock_miss wu ?_ | refine AW.label ?_ | refine AW.scope ?_ | refine AWn.succ ?_ | refine AW.cT ?_ | refine AW.cF ?_ | refine AOs.gT ?_ | refine AOs.gF ?_); exact h.h) : q := i ⟨h⟩
theorem zb {p q : Prop} (h : p) (i : Hd p → q := by intro h; (first | refine AW.region ?_ | refine AOs.nil ?_ | refine andThen_normal ?_ | refine AW.block ?_ | refine AW.skip ?_ | refine AW.ret ?_ | refine andThen_ret ?_ | refine inBlock_normal ?_ | refine inBlock_ret ?_ | refine AW.exit ?_ | refine andThen_exit ?_ | refine inBlock_hit ?_ | refine inBlock_miss wu ?_ | refine AW.label ?_ | refine AW.scope ?_ | refine AWn.succ ?_ | refine AW.cT ?_ | refine AW.cF ?_ | refine AOs.gT ?_ | refine AOs.gF ?_); exact h.h) : q := i ⟨h⟩
theorem zd {p q : Prop} (h : p) (i : Hd p → q := by intro h; (first | refine DN.fl1E wu wu ?_ | refine DN.rd1E (by kernel_rfl) wu ?_); exact h.h) : q := i ⟨h⟩
theorem zo {p q : Prop} (h : p) (i : Hd p → q := by intro h; (first | refine AOs.o1 tOK ?_ | refine AOs.op0E tOK ?_); exact h.h) : q := i ⟨h⟩
section
variable {p q : Prop} {K : AH} {v : AV} {x : Option (AV × AH)} {w : AV → AH → Prop}
theorem zy {F : Prop} {x y : Option (AV × AH)} (f : F) (h : F → x = y := by intro f; simp only [evc, storeAt, aeval, ofVal, cellAt, cellsAt, eq_self, Nat.reduceEqDiff, reduceIte, Nat.reduceLT, Nat.reduceAdd, Int.reduceLT, Int.reduceNeg, f]; rfl) : x = y := h f
theorem zyz {x y : Option (AV × AH)} (h : x = y := by simp only [evc, storeAt, aeval, ofVal, cellAt, cellsAt, eq_self, Nat.reduceEqDiff, reduceIte, Nat.reduceLT, Nat.reduceAdd, Int.reduceLT, Int.reduceNeg]; rfl) : x = y := h
theorem zyb {F p q : Prop} (f : F) (h : p) (i : F → Hd p → q := by intro f h; (with_reducible repeat' first | ((first | refine AOs.o1 tOK ?_ | refine AOs.op0E tOK ?_); refine Step.mk (by simp only [evc, storeAt, aeval, ofVal, cellAt, cellsAt, eq_self, Nat.reduceEqDiff, reduceIte, Nat.reduceLT, Nat.reduceAdd, Int.reduceLT, Int.reduceNeg, f]; rfl) ?_) | refine za ?_ | fail); exact h.h) : q := i f ⟨h⟩
theorem zybz {p q : Prop} (h : p) (i : Hd p → q := by intro h; (with_reducible repeat' first | ((first | refine AOs.o1 tOK ?_ | refine AOs.op0E tOK ?_); refine Step.mk (by simp only [evc, storeAt, aeval, ofVal, cellAt, cellsAt, eq_self, Nat.reduceEqDiff, reduceIte, Nat.reduceLT, Nat.reduceAdd, Int.reduceLT, Int.reduceNeg]; rfl) ?_) | refine za ?_ | fail); exact h.h) : q := i ⟨h⟩
theorem zs0 (h : p) (i : Hd p → q := by intro h; exact zybz h.h) : q := i ⟨h⟩
theorem zs1 {X0 : Prop} (a : X0) (h : p) (i : X0 → Hd p → q := by intro a h; exact zyb @a h.h) : q := i a ⟨h⟩
theorem zs2 {X0 X1 : Prop} (a : X0) (b : X1) (h : p) (i : X0 → X1 → Hd p → q := by intro a b h; exact zyb (And.intro @a @b) h.h) : q := i a b ⟨h⟩
theorem zs3 {X0 X1 X2 : Prop} (a : X0) (b : X1) (c : X2) (h : p) (i : X0 → X1 → X2 → Hd p → q := by intro a b c h; exact zyb (And.intro @a (And.intro @b @c)) h.h) : q := i a b c ⟨h⟩
theorem zs4 {X0 X1 X2 X3 : Prop} (a : X0) (b : X1) (c : X2) (d : X3) (h : p) (i : X0 → X1 → X2 → X3 → Hd p → q := by intro a b c d h; exact zyb (And.intro @a (And.intro @b (And.intro @c @d))) h.h) : q := i a b c d ⟨h⟩
theorem zs5 {X0 X1 X2 X3 X4 : Prop} (a : X0) (b : X1) (c : X2) (d : X3) (e : X4) (h : p) (i : X0 → X1 → X2 → X3 → X4 → Hd p → q := by intro a b c d e h; exact zyb (And.intro @a (And.intro @b (And.intro @c (And.intro @d @e)))) h.h) : q := i a b c d e ⟨h⟩
theorem zs6 {X0 X1 X2 X3 X4 X5 : Prop} (a : X0) (b : X1) (c : X2) (d : X3) (e : X4) (f : X5) (h : p) (i : X0 → X1 → X2 → X3 → X4 → X5 → Hd p → q := by intro a b c d e f h; exact zyb (And.intro @a (And.intro @b (And.intro @c (And.intro @d (And.intro @e @f))))) h.h) : q := i a b c d e f ⟨h⟩
theorem zs7 {X0 X1 X2 X3 X4 X5 X6 : Prop} (a : X0) (b : X1) (c : X2) (d : X3) (e : X4) (f : X5) (g : X6) (h : p) (i : X0 → X1 → X2 → X3 → X4 → X5 → X6 → Hd p → q := by intro a b c d e f g h; exact zyb (And.intro @a (And.intro @b (And.intro @c (And.intro @d (And.intro @e (And.intro @f @g)))))) h.h) : q := i a b c d e f g ⟨h⟩
theorem zs8 {X0 X1 X2 X3 X4 X5 X6 X7 : Prop} (a : X0) (b : X1) (c : X2) (d : X3) (e : X4) (f : X5) (g : X6) (m : X7) (h : p) (i : X0 → X1 → X2 → X3 → X4 → X5 → X6 → X7 → Hd p → q := by intro a b c d e f g m h; exact zyb (And.intro @a (And.intro @b (And.intro @c (And.intro @d (And.intro @e (And.intro @f (And.intro @g @m))))))) h.h) : q := i a b c d e f g m ⟨h⟩
theorem zr0 (q : w v K) (i : x = some (v, K) := by exact zyz) : Step x w := Step.mk (i) q
theorem zr1 {X0 : Prop} (a : X0) (q : w v K) (i : X0 → x = some (v, K) := by intro a; exact zy @a) : Step x w := Step.mk (i a) q
theorem zr2 {X0 X1 : Prop} (a : X0) (b : X1) (q : w v K) (i : X0 → X1 → x = some (v, K) := by intro a b; exact zy (And.intro @a @b)) : Step x w := Step.mk (i a b) q
theorem zr3 {X0 X1 X2 : Prop} (a : X0) (b : X1) (c : X2) (q : w v K) (i : X0 → X1 → X2 → x = some (v, K) := by intro a b c; exact zy (And.intro @a (And.intro @b @c))) : Step x w := Step.mk (i a b c) q
theorem zr4 {X0 X1 X2 X3 : Prop} (a : X0) (b : X1) (c : X2) (d : X3) (q : w v K) (i : X0 → X1 → X2 → X3 → x = some (v, K) := by intro a b c d; exact zy (And.intro @a (And.intro @b (And.intro @c @d)))) : Step x w := Step.mk (i a b c d) q
theorem zr5 {X0 X1 X2 X3 X4 : Prop} (a : X0) (b : X1) (c : X2) (d : X3) (e : X4) (q : w v K) (i : X0 → X1 → X2 → X3 → X4 → x = some (v, K) := by intro a b c d e; exact zy (And.intro @a (And.intro @b (And.intro @c (And.intro @d @e))))) : Step x w := Step.mk (i a b c d e) q
theorem zr6 {X0 X1 X2 X3 X4 X5 : Prop} (a : X0) (b : X1) (c : X2) (d : X3) (e : X4) (f : X5) (q : w v K) (i : X0 → X1 → X2 → X3 → X4 → X5 → x = some (v, K) := by intro a b c d e f; exact zy (And.intro @a (And.intro @b (And.intro @c (And.intro @d (And.intro @e @f)))))) : Step x w := Step.mk (i a b c d e f) q
theorem zr7 {X0 X1 X2 X3 X4 X5 X6 : Prop} (a : X0) (b : X1) (c : X2) (d : X3) (e : X4) (f : X5) (g : X6) (q : w v K) (i : X0 → X1 → X2 → X3 → X4 → X5 → X6 → x = some (v, K) := by intro a b c d e f g; exact zy (And.intro @a (And.intro @b (And.intro @c (And.intro @d (And.intro @e (And.intro @f @g))))))) : Step x w := Step.mk (i a b c d e f g) q
theorem zr8 {X0 X1 X2 X3 X4 X5 X6 X7 : Prop} (a : X0) (b : X1) (c : X2) (d : X3) (e : X4) (f : X5) (g : X6) (m : X7) (q : w v K) (i : X0 → X1 → X2 → X3 → X4 → X5 → X6 → X7 → x = some (v, K) := by intro a b c d e f g m; exact zy (And.intro @a (And.intro @b (And.intro @c (And.intro @d (And.intro @e (And.intro @f (And.intro @g @m)))))))) : Step x w := Step.mk (i a b c d e f g m) q
theorem zx {F : Prop} {x y : Option (AV × AH)} (f : F) (h : F → x = y := by intro f; simp only [evc, evr, tyC, rangeMapAt, storeAt, aeval, ofVal, cellAt, cellsAt, mapLenAt, lookAt, mapSetAt, mapDelAt, TI.agg, eq_self, Nat.reduceEqDiff, reduceIte, Nat.reduceLeDiff, Nat.reduceLT, Nat.reduceMul, Nat.reduceAdd, Nat.reduceSub, Int.reduceEq, Int.reduceLT, Int.reduceLE, Int.reduceNeg, f]; rfl) : x = y := h f
theorem zxb {F p q : Prop} (f : F) (h : p) (i : F → Hd p → q := by intro f h; (with_reducible repeat' first | ((first | refine AOs.o1 tOK ?_ | refine AOs.op0E tOK ?_); refine Step.mk (by simp only [evc, evr, tyC, rangeMapAt, storeAt, aeval, ofVal, cellAt, cellsAt, mapLenAt, lookAt, mapSetAt, mapDelAt, TI.agg, eq_self, Nat.reduceEqDiff, reduceIte, Nat.reduceLeDiff, Nat.reduceLT, Nat.reduceMul, Nat.reduceAdd, Nat.reduceSub, Int.reduceEq, Int.reduceLT, Int.reduceLE, Int.reduceNeg, f]; rfl) ?_) | refine za ?_ | fail); exact h.h) : q := i f ⟨h⟩
theorem zt1 {X0 : Prop} (a : X0) (h : p) (i : X0 → Hd p → q := by intro a h; exact zxb @a h.h) : q := i a ⟨h⟩
theorem zt2 {X0 X1 : Prop} (a : X0) (b : X1) (h : p) (i : X0 → X1 → Hd p → q := by intro a b h; exact zxb (And.intro @a @b) h.h) : q := i a b ⟨h⟩
theorem zt5 {X0 X1 X2 X3 X4 : Prop} (a : X0) (b : X1) (c : X2) (d : X3) (e : X4) (h : p) (i : X0 → X1 → X2 → X3 → X4 → Hd p → q := by intro a b c d e h; exact zxb (And.intro @a (And.intro @b (And.intro @c (And.intro @d @e)))) h.h) : q := i a b c d e ⟨h⟩
theorem zt6 {X0 X1 X2 X3 X4 X5 : Prop} (a : X0) (b : X1) (c : X2) (d : X3) (e : X4) (f : X5) (h : p) (i : X0 → X1 → X2 → X3 → X4 → X5 → Hd p → q := by intro a b c d e f h; exact zxb (And.intro @a (And.intro @b (And.intro @c (And.intro @d (And.intro @e @f))))) h.h) : q := i a b c d e f ⟨h⟩
theorem zt7 {X0 X1 X2 X3 X4 X5 X6 : Prop} (a : X0) (b : X1) (c : X2) (d : X3) (e : X4) (f : X5) (g : X6) (h : p) (i : X0 → X1 → X2 → X3 → X4 → X5 → X6 → Hd p → q := by intro a b c d e f g h; exact zxb (And.intro @a (And.intro @b (And.intro @c (And.intro @d (And.intro @e (And.intro @f @g)))))) h.h) : q := i a b c d e f g ⟨h⟩
theorem zt8 {X0 X1 X2 X3 X4 X5 X6 X7 : Prop} (a : X0) (b : X1) (c : X2) (d : X3) (e : X4) (f : X5) (g : X6) (m : X7) (h : p) (i : X0 → X1 → X2 → X3 → X4 → X5 → X6 → X7 → Hd p → q := by intro a b c d e f g m h; exact zxb (And.intro @a (And.intro @b (And.intro @c (And.intro @d (And.intro @e (And.intro @f (And.intro @g @m))))))) h.h) : q := i a b c d e f g m ⟨h⟩
theorem zu1 {X0 : Prop} (a : X0) (q : w v K) (i : X0 → x = some (v, K) := by intro a; exact zx @a) : Step x w := Step.mk (i a) q
theorem zu4 {X0 X1 X2 X3 : Prop} (a : X0) (b : X1) (c : X2) (d : X3) (q : w v K) (i : X0 → X1 → X2 → X3 → x = some (v, K) := by intro a b c d; exact zx (And.intro @a (And.intro @b (And.intro @c @d)))) : Step x w := Step.mk (i a b c d) q
theorem zu5 {X0 X1 X2 X3 X4 : Prop} (a : X0) (b : X1) (c : X2) (d : X3) (e : X4) (q : w v K) (i : X0 → X1 → X2 → X3 → X4 → x = some (v, K) := by intro a b c d e; exact zx (And.intro @a (And.intro @b (And.intro @c (And.intro @d @e))))) : Step x w := Step.mk (i a b c d e) q
theorem zu6 {X0 X1 X2 X3 X4 X5 : Prop} (a : X0) (b : X1) (c : X2) (d : X3) (e : X4) (f : X5) (q : w v K) (i : X0 → X1 → X2 → X3 → X4 → X5 → x = some (v, K) := by intro a b c d e f; exact zx (And.intro @a (And.intro @b (And.intro @c (And.intro @d (And.intro @e @f)))))) : Step x w := Step.mk (i a b c d e f) q
theorem zu8 {X0 X1 X2 X3 X4 X5 X6 X7 : Prop} (a : X0) (b : X1) (c : X2) (d : X3) (e : X4) (f : X5) (g : X6) (m : X7) (q : w v K) (i : X0 → X1 → X2 → X3 → X4 → X5 → X6 → X7 → x = some (v, K) := by intro a b c d e f g m; exact zx (And.intro @a (And.intro @b (And.intro @c (And.intro @d (And.intro @e (And.intro @f (And.intro @g @m)))))))) : Step x w := Step.mk (i a b c d e f g m) q
end
theorem zg {F P : Prop} (f : F) (h : F → P := by intro f; repeat' (first | exact good_nil | with_reducible refine good_cons ?_ ?_ | (with_reducible refine good_ofN ?_ ?_ 1; rotate_left; (simp only [evc, evr, tyC, rangeMapAt, storeAt, aeval, ofVal, cellAt, cellsAt, mapLenAt, lookAt, mapSetAt, mapDelAt, TI.agg, eq_self, Nat.reduceEqDiff, reduceIte, Nat.reduceLeDiff, Nat.reduceLT, Nat.reduceMul, Nat.reduceAdd, Nat.reduceSub, Int.reduceEq, Int.reduceLT, Int.reduceLE, Int.reduceNeg, f] <;> rfl); kernel_rfl) | (with_reducible refine good_ofG wu (by simp only [f, PT.get_set, Nat.reduceEqDiff, reduceIte] <;> rfl) ?_ ?_ ?_ 1; rotate_left 2; (simp only [evc, evr, tyC, rangeMapAt, storeAt, aeval, ofVal, cellAt, cellsAt, mapLenAt, lookAt, mapSetAt, mapDelAt, TI.agg, eq_self, Nat.reduceEqDiff, reduceIte, Nat.reduceLeDiff, Nat.reduceLT, Nat.reduceMul, Nat.reduceAdd, Nat.reduceSub, Int.reduceEq, Int.reduceLT, Int.reduceLE, Int.reduceNeg, f] <;> rfl); (first | rfl | decide | assumption); kernel_rfl) | fail "stop")) : P := h f

abbrev Nm := List UInt8
abbrev Lb := Nm × Nm
abbrev Ls := List Lb
/-- A result: its labels, its number, whether it is too great. -/
abbrev Rs := Ls × Int × Bool
/-- A change: labels, number, too great, gone. -/
abbrev Ch := Ls × Int × Bool × Bool

theorem less_eq : ∀ (x y : Nm), Op.bytesLess x y = decide (x < y)
  | [], [] => by simp [Op.bytesLess]
  | _ :: _, [] => by simp [Op.bytesLess]
  | [], _ :: _ => by simp [Op.bytesLess]
  | a :: x, b :: y => by
    rw [Op.bytesLess, less_eq x y]
    simp only [List.cons_lt_cons_iff]
    by_cases h1 : a < b <;> by_cases h2 : a = b <;> by_cases h3 : x < y <;> simp [h1, h2, h3]

theorem nm_irrefl (a : Nm) : ¬ a < a := List.lt_irrefl a
theorem nm_trans {a b c : Nm} (h : a < b) (h2 : b < c) : a < c := List.lt_trans h h2
theorem nm_tri (a b : Nm) : a < b ∨ a = b ∨ b < a := by
  by_cases h1 : a < b
  · exact .inl h1
  · by_cases h2 : b < a
    · exact .inr (.inr h2)
    · exact .inr (.inl (List.le_antisymm (List.not_lt.1 h2) (List.not_lt.1 h1)))
theorem nm_asymm {a b : Nm} (h : a < b) : ¬ b < a := fun h2 => nm_irrefl a (nm_trans h h2)

/-- Two texts compared. -/
def cmpS (a b : Nm) : Int := if a < b then -1 else if b < a then 1 else 0
theorem cmpS_self (a : Nm) : cmpS a a = 0 := by unfold cmpS; rw [if_neg (nm_irrefl a), if_neg (nm_irrefl a)]
theorem cmpS_zero {a b : Nm} : cmpS a b = 0 ↔ a = b := by
  constructor
  · intro h
    unfold cmpS at h
    split at h
    · cases h
    · split at h
      · cases h
      · rename_i h1 h2
        rcases nm_tri a b with h | h | h
        · exact absurd h h1
        · exact h
        · exact absurd h h2
  · rintro rfl; exact cmpS_self a
theorem cmpS_neg {a b : Nm} : cmpS a b < 0 ↔ a < b := by
  unfold cmpS
  by_cases h : a < b
  · rw [if_pos h]; simp [h]
  · rw [if_neg h]
    by_cases h2 : b < a
    · rw [if_pos h2]; simp [h]
    · rw [if_neg h2]; simp [h]
theorem cmpS_swap (a b : Nm) : cmpS b a = - cmpS a b := by
  rcases nm_tri a b with h | rfl | h
  · unfold cmpS; rw [if_neg (nm_asymm h), if_pos h, if_pos h]; rfl
  · rw [cmpS_self]; rfl
  · unfold cmpS; rw [if_pos h, if_neg (nm_asymm h), if_pos h]
def cmpL (x y : Lb) : Int := if cmpS x.1 y.1 = 0 then cmpS x.2 y.2 else cmpS x.1 y.1
theorem cmpL_zero {x y : Lb} : cmpL x y = 0 ↔ x = y := by
  obtain ⟨a, b⟩ := x
  obtain ⟨c, d⟩ := y
  unfold cmpL
  by_cases h : cmpS a c = 0
  · rw [if_pos h, cmpS_zero, Prod.mk.injEq]
    exact ⟨fun h2 => ⟨cmpS_zero.1 h, h2⟩, fun h2 => h2.2⟩
  · rw [if_neg h]
    exact ⟨fun h2 => absurd h2 h, fun h2 => by cases h2; exact absurd (cmpS_self a) h⟩
theorem cmpL_swap (x y : Lb) : cmpL y x = - cmpL x y := by
  unfold cmpL
  rw [cmpS_swap x.1 y.1, cmpS_swap x.2 y.2]
  by_cases h : cmpS x.1 y.1 = 0
  · rw [if_pos h, if_pos (by omega)]
  · rw [if_neg h, if_neg (by omega)]
theorem cmpL_neg_trans {x y z : Lb} (h : cmpL x y < 0) (h2 : cmpL y z < 0) : cmpL x z < 0 := by
  unfold cmpL at h h2 ⊢
  by_cases e1 : cmpS x.1 y.1 = 0
  · rw [if_pos e1] at h
    rw [cmpS_zero.1 e1]
    by_cases e2 : cmpS y.1 z.1 = 0
    · rw [if_pos e2] at h2 ⊢
      exact cmpS_neg.2 (nm_trans (cmpS_neg.1 h) (cmpS_neg.1 h2))
    · rw [if_neg e2] at h2 ⊢
      exact h2
  · rw [if_neg e1] at h
    have hl := cmpS_neg.1 h
    by_cases e2 : cmpS y.1 z.1 = 0
    · rw [if_pos e2] at h2
      rw [← cmpS_zero.1 e2, if_neg e1]; exact h
    · rw [if_neg e2] at h2
      have h3 := nm_trans hl (cmpS_neg.1 h2)
      have h4 := cmpS_neg.2 h3
      rw [if_neg (by omega)]; exact h4

/-- Two sets of labels compared. -/
def orderM : Ls → Ls → Int
  | [], [] => 0
  | [], _ :: _ => -1
  | _ :: _, [] => 1
  | x :: xs, y :: ys => if cmpL x y = 0 then orderM xs ys else cmpL x y
theorem orderM_self : ∀ a : Ls, orderM a a = 0
  | [] => rfl
  | x :: xs => by rw [orderM, if_pos (cmpL_zero.2 rfl), orderM_self xs]
theorem orderM_zero : ∀ {a b : Ls}, orderM a b = 0 ↔ a = b
  | [], [] => by simp [orderM]
  | [], _ :: _ => by simp [orderM]
  | _ :: _, [] => by simp [orderM]
  | x :: xs, y :: ys => by
    rw [orderM]
    by_cases h : cmpL x y = 0
    · rw [if_pos h, orderM_zero, List.cons.injEq]
      exact ⟨fun h2 => ⟨cmpL_zero.1 h, h2⟩, fun h2 => h2.2⟩
    · rw [if_neg h]
      exact ⟨fun h2 => absurd h2 h, fun h2 => by cases h2; exact absurd (cmpL_zero.2 rfl) h⟩
theorem orderM_swap : ∀ (a b : Ls), orderM b a = - orderM a b
  | [], [] => rfl
  | [], _ :: _ => rfl
  | _ :: _, [] => rfl
  | x :: xs, y :: ys => by
    rw [orderM, orderM, cmpL_swap x y, orderM_swap xs ys]
    by_cases h : cmpL x y = 0
    · rw [if_pos h, if_pos (by omega)]
    · rw [if_neg h, if_neg (by omega)]
theorem orderM_trans : ∀ {a b c : Ls}, orderM a b < 0 → orderM b c < 0 → orderM a c < 0
  | [], [], _, h, _ => by simp [orderM] at h
  | [], _ :: _, [], _, h2 => by simp [orderM] at h2
  | [], _ :: _, _ :: _, _, _ => by simp [orderM]
  | _ :: _, [], _, h, _ => by simp [orderM] at h
  | _ :: _, _ :: _, [], _, h2 => by simp [orderM] at h2
  | x :: xs, y :: ys, z :: zs, h, h2 => by
    rw [orderM] at h h2 ⊢
    by_cases e1 : cmpL x y = 0
    · rw [if_pos e1] at h
      obtain rfl := cmpL_zero.1 e1
      by_cases e2 : cmpL x z = 0
      · rw [if_pos e2] at h2 ⊢
        exact orderM_trans h h2
      · rw [if_neg e2] at h2 ⊢; exact h2
    · rw [if_neg e1] at h
      by_cases e2 : cmpL y z = 0
      · rw [if_pos e2] at h2
        obtain rfl := cmpL_zero.1 e2
        rw [if_neg e1]; exact h
      · rw [if_neg e2] at h2
        have := cmpL_neg_trans h h2
        rw [if_neg (by omega)]; exact this

/-! What may be. -/
def chB (c : UInt8) : Bool := (decide (97 ≤ c.toNat) && decide (c.toNat ≤ 122)) || (decide (48 ≤ c.toNat) && decide (c.toNat ≤ 57)) || decide (c.toNat = 95)
def digB (c : UInt8) : Bool := decide (48 ≤ c.toNat) && decide (c.toNat ≤ 57)
def nameB (s : Nm) : Bool := decide (1 ≤ s.length) && decide (s.length ≤ 24) && !(match s with | [] => false | c :: _ => digB c) && s.all chB
def labB (x : Lb) : Bool := nameB x.1 && decide (x.2 ≠ []) && decide (x.2.length ≤ 64)
/-- Labels in order, behind a name. -/
def okFrom : Nm → Ls → Bool
  | _, [] => true
  | last, x :: xs => labB x && decide (last < x.1) && okFrom x.1 xs
def checkM (l : Ls) : Int := if 8 < l.length then 3 else if okFrom [] l = true then 0 else 2
def numM (n : Int) (o : Bool) : Int := if o = true ∧ n ≠ 0 then 2 else 0
def chgM (c : Ch) : Int := if checkM c.1 ≠ 0 then checkM c.1 else if numM c.2.1 c.2.2.1 ≠ 0 ∨ (c.2.2.2 = true ∧ ¬ (c.2.1 = 0 ∧ c.2.2.1 = false)) then 2 else 0
def rightM (r : Rs) : Bool := decide (checkM r.1 = 0) && decide (numM r.2.1 r.2.2 = 0)
def okVec : Option Ls → List Rs → Bool
  | _, [] => true
  | p, r :: rs => rightM r && (match p with | none => true | some q => decide (orderM q r.1 < 0)) && okVec (some r.1) rs
def vecM (v : List Rs) : Int := if 4096 < v.length then 3 else if okVec none v = true then 0 else 2

/-! Indices. -/
theorem okFrom_app : ∀ (l : Ls) (m : Ls) (p : Nm), okFrom p (l ++ m) = (okFrom p l && okFrom ((l.getLast?.map (·.1)).getD p) m)
  | [], m, p => by simp [okFrom]
  | x :: xs, m, p => by
    rw [List.cons_append, okFrom, okFrom, okFrom_app xs m x.1]
    have : ((x :: xs).getLast?.map (·.1)).getD p = (xs.getLast?.map (·.1)).getD x.1 := by
      cases xs with
      | nil => rfl
      | cons y ys => rw [List.getLast?_cons_cons]; cases h : (y :: ys).getLast? with
        | none => simp at h
        | some z => rfl
    rw [this]
    simp only [Bool.and_assoc]
theorem getLast_take {α : Type} {l : List α} {i : Nat} {x : α} (h : l[i]? = some x) : (l.take (i + 1)).getLast? = some x := by
  rw [List.take_add_one, h]; simp
theorem okFrom_take {l : Ls} {i : Nat} {x : Lb} (h : l[i]? = some x) (p : Nm) : okFrom p (l.take (i + 1)) = (okFrom p (l.take i) && (labB x && decide (((l.take i).getLast?.map (·.1)).getD p < x.1))) := by
  rw [List.take_add_one, h, okFrom_app]
  simp only [Option.toList_some, okFrom, Bool.and_true]
theorem okFrom_bad {l : Ls} {i : Nat} {x : Lb} (h : l[i]? = some x) (p : Nm) (hb : (labB x && decide (((l.take i).getLast?.map (·.1)).getD p < x.1)) = false) : okFrom p l = false := by
  have h1 : okFrom p (l.take (i + 1)) = false := by rw [okFrom_take h, hb, Bool.and_false]
  have h2 := okFrom_app (l.take (i + 1)) (l.drop (i + 1)) p
  rw [List.take_append_drop, h1, Bool.false_and] at h2
  exact h2

theorem okVec_app : ∀ (l : List Rs) (m : List Rs) (p : Option Ls), okVec p (l ++ m) = (okVec p l && okVec ((l.getLast?.map fun r => some r.1).getD p) m)
  | [], m, p => by simp [okVec]
  | x :: xs, m, p => by
    simp only [List.cons_append, okVec, okVec_app xs m (some x.1)]
    have : ((x :: xs).getLast?.map fun r => some r.1).getD p = (xs.getLast?.map fun r => some r.1).getD (some x.1) := by
      cases xs with
      | nil => rfl
      | cons y ys => rw [List.getLast?_cons_cons]; cases h : (y :: ys).getLast? with
        | none => simp at h
        | some z => rfl
    rw [this]
    simp only [Bool.and_assoc]

theorem stay_alloc {H : AH} (hw : WF H) (o : AO) : ∀ b x, H.get b = some x → (H.alloc o).get b = some x := fun b x hb => by
  rw [AH.get_alloc, if_neg (by have := hw b x hb; omega)]; exact hb
theorem wf_alloc {H : AH} (hw : WF H) (o : AO) : WF (H.alloc o) := fun b x hb => by
  rw [AH.get_alloc] at hb
  split at hb
  · subst_vars; simp
  · have := hw b x hb; simp; omega
theorem wf_set {H : AH} (hw : WF H) {b : Nat} (hb : b < H.next) (o : AO) : WF (H.set b o) := fun k x hk => by
  rw [AH.get_set] at hk
  split at hk
  · subst_vars; exact hb
  · exact hw k x hk
theorem idx9 (s : Nm) (k : IntKind) (m : Nat) (c : UInt8) (h : s[m]? = some c) : aindex tC 9 (.str s) (.int k (m : Int)) = some (.int .u8 (c.toNat : Int)) := by
  have hlt : m < s.length := (List.getElem?_eq_some_iff.1 h).1
  simp only [aindex, ti9, inRange_lt hlt, h, Option.map_some]

theorem lssS (t : TypeId) (cst : Bool) (a b : Nm) : abin tC .lss t cst (.str a) (.str b) = some (.bool (decide (a < b))) := by
  simp only [abin, astr, less_eq]
theorem gtrS (t : TypeId) (cst : Bool) (a b : Nm) : abin tC .gtr t cst (.str a) (.str b) = some (.bool (decide (b < a))) := by
  simp only [abin, astr, less_eq, beqL_eq]
  congr 2
  rcases nm_tri a b with h | rfl | h
  · simp [h, nm_asymm h]
  · simp [nm_irrefl]
  · have h1 := nm_asymm h
    have h2 : a ≠ b := fun e => by subst e; exact nm_irrefl a h
    simp only [decide_eq_false h1, decide_eq_false h2, decide_eq_true h]; rfl
theorem leqS (t : TypeId) (cst : Bool) (a b : Nm) : abin tC .leq t cst (.str a) (.str b) = some (.bool (!decide (b < a))) := by
  simp only [abin, astr, less_eq, beqL_eq]
  congr 2
  rcases nm_tri a b with h | rfl | h
  · simp [h, nm_asymm h]
  · simp [nm_irrefl]
  · have h1 := nm_asymm h
    have h2 : a ≠ b := fun e => by subst e; exact nm_irrefl a h
    simp only [decide_eq_false h1, decide_eq_false h2, decide_eq_true h]; rfl
theorem nan136 (N : Bd) (H : AH) (a : Nm) : AC tC N 0 136 [.str a] H fun r K => r = .bool false ∧ K = H := by
  refine AC.by (n := 6) (rs := [.tmp 2]) tOK fn136 rfl rfl rfl rfl ?_
  have e0 : (PT.ofList .leaf 0 [AV.str a]).get 0 = some (.str a) := rfl
  have hd : decide (a = a) = true := decide_eq_true rfl
  refine zt1 @e0 ?_
  exact fr1 ⟨rfl, rfl⟩

theorem compare99 (N : Bd) (H : AH) (a b : Nm) : AC tC N 0 99 [.str a, .str b] H fun r K => r = .int .i64 (cmpS a b) ∧ K = H := by
  refine AC.by (n := 20) (rs := [.tmp 4]) tOK fn99 rfl rfl rfl rfl ?_
  have e0 : (PT.ofList .leaf 0 [AV.str a, AV.str b]).get 0 = some (.str a) := rfl
  have e1 : (PT.ofList .leaf 0 [AV.str a, AV.str b]).get 1 = some (.str b) := rfl
  refine zs1 @e0 ?_
  refine AOs.cq tOK fn136 ok136 (nan136 N H a) ?_
  rintro r K ⟨rfl, rfl⟩
  refine zs1 @e1 ?_
  refine AOs.cq tOK fn136 ok136 (nan136 N K b) ?_
  rintro r K ⟨rfl, rfl⟩
  unfold cmpS
  by_cases h : a < b
  · have d1 : decide (a < b) = true := decide_eq_true h
    rw [if_pos h]
    refine zs4 @e0 @e1 @lssS @d1 ?_
    exact fr1 ⟨rfl, rfl⟩
  · have d1 : decide (a < b) = false := decide_eq_false h
    rw [if_neg h]
    by_cases h2 : b < a
    · have d2 : decide (b < a) = true := decide_eq_true h2
      rw [if_pos h2]
      refine zs6 @e0 @e1 @lssS @gtrS @d1 @d2 ?_
      exact fr1 ⟨rfl, rfl⟩
    · have d2 : decide (b < a) = false := decide_eq_false h2
      rw [if_neg h2]
      refine zs6 @e0 @e1 @lssS @gtrS @d1 @d2 ?_
      exact fr1 ⟨rfl, rfl⟩

set_option maxHeartbeats 1000000 in
theorem or98 (N : Bd) (H : AH) {b : Nat} {x y : Int} (hb : H.get b = some (.cells false [.int .i64 x, .int .i64 y])) : AC tC N 0 98 [.slice b 0 2 (.ex 2) 1] H fun r K => r = .int .i64 (if x = 0 then y else x) ∧ K = H := by
  refine AC.by (n := 18) (rs := [.tmp 2]) tOK fn98 rfl rfl rfl rfl ?_
  have e0 : (PT.ofList .leaf 0 [AV.slice b 0 2 (.ex 2) 1]).get 0 = some (.slice b 0 2 (.ex 2) 1) := rfl
  refine zs2 @al174 @e0 ?_
  refine AW.loop (fun m T K => K = H ∧ T.get 3 = some (.int .i64 0) ∧ T.get 6 = some (.slice b 0 2 (.ex 2) 1) ∧ T.get 7 = some (.int .i64 2) ∧ ∃ i : Nat, i ≤ 2 ∧ m = 2 - i ∧ T.get 8 = some (.int .i64 (i : Nat)) ∧ (1 ≤ i → x = 0) ∧ (2 ≤ i → y = 0)) ?_ (2 - 0)
    ⟨rfl, by simp [PT.get_set], by simp [PT.get_set, e0], by simp [PT.get_set], 0, by omega, rfl, by simp [PT.get_set], by omega, by omega⟩
  rintro m T K ⟨rfl, g3, g6, g7, i, hi, rfl, g8, hx, hy⟩
  match i, hi, g8, hx, hy with
  | 0, _, g8, hx, hy =>
    have g8 : T.get 8 = some (.int .i64 0) := g8
    have d0 : decide ((0 : Int) < 2) = true := by decide
    have hix : ∀ k, aindexAddr tC 174 (.slice b 0 2 (.ex 2) 1) (.int k 0) = some (.ptr b (0 + 0 * 1)) := fun k => ix174 b 0 2 1 0 (.ex 2) k (by omega)
    by_cases h : x = 0
    · have d1 : decide (x = 0) = true := decide_eq_true h
      refine zt7 @g3 @g6 @g7 @g8 @hix @hb @d1 ?_
      exact ⟨2 - 1, by omega, rfl, by simp [PT.get_set, g3], by simp [PT.get_set, g6], by simp [PT.get_set, g7], 1, by omega, rfl, by simp [PT.get_set]; rfl, fun _ => h, by omega⟩
    · have d1 : decide (x = 0) = false := decide_eq_false h
      rw [if_neg h]
      refine zt7 @g3 @g6 @g7 @g8 @hix @hb @d1 ?_
      exact fr1 ⟨rfl, rfl⟩
  | 1, _, g8, hx, hy =>
    have g8 : T.get 8 = some (.int .i64 1) := g8
    have d0 : decide ((1 : Int) < 2) = true := by decide
    have hix : ∀ k, aindexAddr tC 174 (.slice b 0 2 (.ex 2) 1) (.int k 1) = some (.ptr b (0 + 1 * 1)) := fun k => ix174 b 0 2 1 1 (.ex 2) k (by omega)
    rw [if_pos (hx (by omega))]
    by_cases h : y = 0
    · have d1 : decide (y = 0) = true := decide_eq_true h
      refine zt7 @g3 @g6 @g7 @g8 @hix @hb @d1 ?_
      exact ⟨2 - 2, by omega, rfl, by simp [PT.get_set, g3], by simp [PT.get_set, g6], by simp [PT.get_set, g7], 2, by omega, rfl, by simp [PT.get_set]; rfl, fun _ => hx (by omega), fun _ => h⟩
    · have d1 : decide (y = 0) = false := decide_eq_false h
      refine zt7 @g3 @g6 @g7 @g8 @hix @hb @d1 ?_
      exact fr1 ⟨rfl, rfl⟩
  | 2, _, g8, hx, hy =>
    have g8 : T.get 8 = some (.int .i64 2) := g8
    have d0 : decide ((2 : Int) < 2) = false := by decide
    rw [if_pos (hx (by omega)), hy (by omega)]
    refine zs3 @g3 @g7 @g8 ?_
    exact fr1 ⟨rfl, rfl⟩

theorem bs174_2 (F : Fns) (H : AH) (ev : Operand → AV) (dst : Option Tmp) (ty : TypeId) (pos : String) (after : Array Edge) (guard : Option (Nat × Bool)) (x y : Operand) (hv : (ev x).one = true) (hw : (ev y).one = true) :
    evOp tC F H ev { dst, op := .buildSlice 174 2 ⟨[(0, x), (1, y)]⟩, type := ty, pos, after, guard } = some (.slice H.next 0 2 (.ex 2) 1, H.alloc (.cells false [ev x, ev y])) := evOp_buildSlice2 ti174 rfl ti3 rfl rfl rfl hv hw

set_option maxHeartbeats 2000000 in
theorem compare72 (N : Bd) (H : AH) (x y : Lb) : AC tC N 0 72 [.agg [.str x.1, .str x.2], .agg [.str y.1, .str y.2]] H fun r K => r = .int .i64 (cmpL x y) ∧ K = H := by
  refine AC.quiet rfl ?_
  refine AC.wf0 fun hwf => ?_
  refine AC.by (n := 17) (rs := [.tmp 4]) tOK fn72 rfl rfl rfl rfl ?_
  have e0 : (PT.ofList .leaf 0 [AV.agg [.str x.1, .str x.2], AV.agg [.str y.1, .str y.2]]).get 0 = some (.agg [.str x.1, .str x.2]) := rfl
  have e1 : (PT.ofList .leaf 0 [AV.agg [.str x.1, .str x.2], AV.agg [.str y.1, .str y.2]]).get 1 = some (.agg [.str y.1, .str y.2]) := rfl
  generalize hK1 : (H.alloc (.cells false [.str x.1, .str x.2])).alloc (.cells false [.str y.1, .str y.2]) = K1
  have wf1 : WF K1 := by rw [← hK1]; exact wf_alloc (wf_alloc hwf _) _
  have s1 : ∀ b z, H.get b = some z → K1.get b = some z := fun b z hb => by rw [← hK1]; exact stay_alloc (wf_alloc hwf _) _ b z (stay_alloc hwf _ b z hb)
  have p0 : K1.get H.next = some (.cells false [.str x.1, .str x.2]) := by rw [← hK1, AH.get_alloc, if_neg (by simp), AH.get_alloc, if_pos rfl]
  have p1 : K1.get (H.next + 1) = some (.cells false [.str y.1, .str y.2]) := by rw [← hK1, AH.get_alloc, if_pos (by simp)]
  have n1 : (H.alloc (.cells false [.str x.1, .str x.2])).next = H.next + 1 := rfl
  refine zs4 @e0 @e1 @n1 @hK1 ?_
  refine AW.drawN tOK (Qs := [4, 9]) [0, 1, 2, 3, 4, 5, 6, 7, 8, 9, 10, 11, 12] (by kernel_rfl) pk1 ?_
  with_reducible repeat' first | (refine zd ?_; refine zr4 @ld9 @fa71_0 @p0 @p1 ?_; refine Same.mk ?_) | fail
  refine DN.callQ (fs := []) (cs := []) rfl fn99 ok99 rfl ar1 (compare99 N K1 x.1 y.1) ?_
  with_reducible repeat' first | (refine zd ?_; refine zr4 @ld9 @fa71_1 @p0 @p1 ?_; refine Same.mk ?_) | fail
  refine DN.callQ (fs := []) (cs := []) rfl fn99 ok99 rfl ar1 (compare99 N K1 x.2 y.2) ?_
  generalize hK2 : K1.alloc (.cells false [.int .i64 (cmpS x.1 y.1), .int .i64 (cmpS x.2 y.2)]) = K2
  have s2 : ∀ b z, K1.get b = some z → K2.get b = some z := fun b z hb => by rw [← hK2]; exact stay_alloc wf1 _ b z hb
  have q2 : K2.get K1.next = some (.cells false [.int .i64 (cmpS x.1 y.1), .int .i64 (cmpS x.2 y.2)]) := by rw [← hK2, AH.get_alloc, if_pos rfl]
  have p0' := s2 _ _ p0
  have p1' := s2 _ _ p1
  refine DN.actP tOK (by kernel_rfl) (by simp only [one_int, aeval, PT.get_set, Nat.reduceEqDiff, reduceIte, eq_self, bs174_2, hK2]; rfl) rfl ?_ ?_
  · repeat' (first | exact good_nil | with_reducible refine good_cons ?_ ?_ | (with_reducible refine good_ofN ?_ ?_ 1; rotate_left; (simp only [evc, evr, tyC, rangeMapAt, storeAt, aeval, ofVal, Nat.reduceEqDiff, reduceIte, cellAt, cellsAt, mapLenAt, lookAt, mapSetAt, mapDelAt, TI.agg, Nat.reduceLeDiff, Nat.reduceLT, Nat.reduceMul, Nat.reduceAdd, Nat.reduceSub, eq_self, Int.reduceEq, Int.reduceLT, Int.reduceLE, Int.reduceNeg, e0, e1, p0', p1'] <;> rfl); kernel_rfl) | (with_reducible refine good_ofG wu (by simp only [e0, e1, p0', p1', PT.get_set, Nat.reduceEqDiff, reduceIte] <;> rfl) ?_ ?_ ?_ 1; rotate_left 2; (simp only [evc, evr, tyC, rangeMapAt, storeAt, aeval, ofVal, Nat.reduceEqDiff, reduceIte, cellAt, cellsAt, mapLenAt, lookAt, mapSetAt, mapDelAt, TI.agg, Nat.reduceLeDiff, Nat.reduceLT, Nat.reduceMul, Nat.reduceAdd, Nat.reduceSub, eq_self, Int.reduceEq, Int.reduceLT, Int.reduceLE, Int.reduceNeg, e0, e1, p0', p1'] <;> rfl); (first | rfl | decide | assumption); kernel_rfl) | fail "stop")
    · exact good_callQ (fs := []) (cs := []) rfl fn99 ok99 ar1 (compare99 N K2 x.2 y.2) 1
    · exact good_callQ (fs := []) (cs := []) rfl fn99 ok99 ar1 (compare99 N K2 x.1 y.1) 1
  refine DN.call tOK (fs := []) (cs := []) rfl fn98 ok98 rfl ar1 (or98 N K2 q2) wu ?_
  rintro r K3 ⟨rfl, rfl⟩
  with_reducible repeat' first | refine zb ?_ | refine DN.nil tOK ?_ | (refine DN.fl1E wu wu ?_; refine zr0 ?_; refine Same.mk ?_) | fail
  exact fr1 ⟨rfl, fun b z hb => s2 b z (s1 b z hb)⟩
theorem laid {K0 K : AH} {o : AO} (wf : WF K0) (h : K0.alloc o = K) : (∀ b z, K0.get b = some z → K.get b = some z) ∧ WF K ∧ K.next = K0.next + 1 ∧ K.get K0.next = some o := by
  subst h; exact ⟨stay_alloc wf _, wf_alloc wf _, rfl, by rw [AH.get_alloc, if_pos rfl]⟩
theorem puts {K0 K : AH} {o : AO} {b : Nat} (wf : WF K0) (h : K0.set b o = K) (hb : b < K0.next := by omega) : (∀ k z, k ≠ b → K0.get k = some z → K.get k = some z) ∧ K.next = K0.next ∧ WF K ∧ K.get b = some o := by
  subst h; exact ⟨fun k z hk hz => by rw [AH.get_set, if_neg hk]; exact hz, rfl, wf_set wf hb _, by rw [AH.get_set, if_pos rfl]⟩

def isStr : AV → Bool
  | .str _ => true
  | _ => false
/-- Labels in a heap: a row of texts, two by two, nothing else in the block. -/
def LabelsAt (H : AH) (v : AV) (l : Ls) : Prop :=
  (l = [] ∧ lenOfAV v = some 0 ∧ v.one = true) ∨ ∃ b o c ro vs, v = .slice b o l.length c 2 ∧ H.get b = some (.cells ro vs) ∧ vs.all isStr = true ∧ l ≠ [] ∧ ∀ i p, l[i]? = some p → vs[o + i * 2]? = some (.str p.1) ∧ vs[o + i * 2 + 1]? = some (.str p.2)
theorem LabelsAt.len {H : AH} {v : AV} {l : Ls} (h : LabelsAt H v l) : lenOfAV v = some l.length := by
  rcases h with ⟨rfl, h, _⟩ | ⟨b, o, c, ro, vs, rfl, _⟩
  · exact h
  · rfl
theorem LabelsAt.one {H : AH} {v : AV} {l : Ls} (h : LabelsAt H v l) : v.one = true := by
  rcases h with ⟨_, _, h⟩ | ⟨b, o, c, ro, vs, rfl, _⟩
  · exact h
  · rfl
theorem take2 {vs : List AV} {k : Nat} {x y : AV} (h1 : vs[k]? = some x) (h2 : vs[k + 1]? = some y) : (vs.drop k).take 2 = [x, y] := by
  rw [List.drop_eq_getElem_cons (List.getElem?_eq_some_iff.1 h1).1, List.drop_eq_getElem_cons (List.getElem?_eq_some_iff.1 h2).1]
  rw [List.getElem?_eq_getElem (List.getElem?_eq_some_iff.1 h1).1] at h1
  rw [List.getElem?_eq_getElem (List.getElem?_eq_some_iff.1 h2).1] at h2
  rw [Option.some.inj h1, Option.some.inj h2]; rfl
theorem LabelsAt.at {H : AH} {v : AV} {l : Ls} (h : LabelsAt H v l) {i : Nat} {p : Lb} (hi : l[i]? = some p) :
    ∃ b o c ro vs, v = .slice b o l.length c 2 ∧ H.get b = some (.cells ro vs) ∧ (vs.drop (o + i * 2)).take 2 = [.str p.1, .str p.2] ∧ vs[o + i * 2]? = some (.str p.1) ∧ vs[o + i * 2 + 1]? = some (.str p.2) := by
  rcases h with ⟨rfl, _⟩ | ⟨b, o, c, ro, vs, rfl, h1, _, _, h2⟩
  · simp at hi
  · obtain ⟨h3, h4⟩ := h2 i p hi
    exact ⟨b, o, c, ro, vs, rfl, h1, take2 h3 h4, h3, h4⟩
theorem tk2 (x y : AV) : List.take 2 (List.drop 0 [x, y]) = [x, y] := rfl
/-- Rows of texts, and what was there to be read alone, stay. -/
def KS (H K : AH) : Prop := (∀ b ro vs, H.get b = some (.cells ro vs) → vs ≠ [] → (vs.all isStr = true ∨ ro = true) → K.get b = some (.cells ro vs)) ∧ H.next ≤ K.next
theorem KS.trans {H K L : AH} (a : KS H K) (b : KS K L) : KS H L := ⟨fun k ro vs h h1 h2 => b.1 k ro vs (a.1 k ro vs h h1 h2) h1 h2, Nat.le_trans a.2 b.2⟩
theorem KS.of {H K : AH} (h : ∀ b x, H.get b = some x → K.get b = some x) (hn : H.next ≤ K.next) : KS H K := ⟨fun b ro vs hb _ _ => h b _ hb, hn⟩
theorem LabelsAt.keep {H K : AH} {v : AV} {l : Ls} (h : LabelsAt H v l) (hk : KS H K) : LabelsAt K v l := by
  rcases h with h | ⟨b, o, c, ro, vs, rfl, h1, h2, h3, h4⟩
  · exact .inl h
  · refine .inr ⟨b, o, c, ro, vs, rfl, hk.1 b ro vs h1 (fun e => ?_) (.inl h2), h2, h3, h4⟩
    subst e
    cases l with
    | nil => exact h3 rfl
    | cons p l => have := (h4 0 p rfl).1; simp at this

theorem al71 (K : AH) (ev : Operand → AV) (d : Nat) (ty : TypeId) (pos : String) (after : Array Edge) : evOp tC F0 K ev { dst := some d, op := .alloc 71, type := ty, pos, after, guard := none } = some (.ptr K.next 0, K.alloc (.cells false [.str [], .str []])) := evOp_alloc ti71 rfl rfl
theorem stA71 {K : AH} {b : Nat} {x y : AV} (hb : K.get b = some (.cells false [x, y])) (s t : Nm) : astore tC K 71 (.ptr b 0) (.agg [.str s, .str t]) = some (K.set b (.cells false [.str s, .str t])) := by
  have := astore_agg (cs := [AV.str s, .str t]) (o := 0) ti71 hb rfl rfl (by simp)
  rw [this]; rfl
theorem cellsAt2 {K : AH} {b : Nat} {x y : AV} {ro : Bool} (hb : K.get b = some (.cells ro [x, y])) : cellsAt K b 0 2 = some (.agg [x, y]) := by
  simp only [cellsAt, hb, List.drop_zero, nbeq]; rfl

theorem orderM_drop {a b : Ls} {i : Nat} {x y : Lb} (hx : a[i]? = some x) (hy : b[i]? = some y) : orderM (a.drop i) (b.drop i) = if cmpL x y = 0 then orderM (a.drop (i + 1)) (b.drop (i + 1)) else cmpL x y := by
  rw [List.drop_eq_getElem_cons (List.getElem?_eq_some_iff.1 hx).1, List.drop_eq_getElem_cons (List.getElem?_eq_some_iff.1 hy).1, orderM]
  rw [List.getElem?_eq_getElem (List.getElem?_eq_some_iff.1 hx).1] at hx
  rw [List.getElem?_eq_getElem (List.getElem?_eq_some_iff.1 hy).1] at hy
  rw [Option.some.inj hx, Option.some.inj hy]

set_option maxHeartbeats 4000000 in
theorem compare71 (N : Bd) (H : AH) {v u : AV} {a b : Ls} (ha : LabelsAt H v a) (hb : LabelsAt H u b) (hl : a.length ≤ 1000000) : AC tC N 0 71 [v, u, .func 72 [] []] H fun r K => r = .int .i64 (orderM a b) ∧ K = H := by
  refine AC.quiet rfl ?_
  refine AC.wf0 fun hwf => ?_
  refine AC.by (n := 39) (rs := [.tmp 6]) tOK fn71 rfl rfl rfl rfl ?_
  have e0 : (PT.ofList .leaf 0 [v, u, AV.func 72 [] []]).get 0 = some v := rfl
  have e1 : (PT.ofList .leaf 0 [v, u, AV.func 72 [] []]).get 1 = some u := rfl
  have e2 : (PT.ofList .leaf 0 [v, u, AV.func 72 [] []]).get 2 = some (.func 72 [] []) := rfl
  have la := ha.len
  have lb := hb.len
  refine zs3 @al29 @e0 @la ?_
  refine AW.loop (fun m T K => (∀ b x, H.get b = some x → K.get b = some x) ∧ H.next ≤ K.next ∧ T.get 0 = some v ∧ T.get 1 = some u ∧ T.get 2 = some (.func 72 [] []) ∧ T.get 11 = some v ∧ T.get 12 = some (.int .i64 (a.length : Nat)) ∧ ∃ i : Nat, i ≤ a.length ∧ i ≤ b.length ∧ m = a.length - i ∧ T.get 13 = some (.int .i64 (i : Nat)) ∧ orderM a b = orderM (a.drop i) (b.drop i)) ?_ (a.length - 0)
    ⟨fun b x h => h, Nat.le_refl _, by simp [PT.get_set, e0], by simp [PT.get_set, e1], by simp [PT.get_set, e2], by simp [PT.get_set, e0], by simp [PT.get_set], 0, by omega, by omega, rfl, by simp [PT.get_set], by simp⟩
  rintro m T K ⟨hk, hn, g0, g1, g2, g11, g12, i, hi, hib, rfl, g13, ho⟩
  refine AW.wf0 fun wfK => ?_
  have haK := ha.keep (KS.of hk hn)
  have hbK := hb.keep (KS.of hk hn)
  by_cases hil : i < a.length
  · have hd := lt_int hil
    obtain ⟨x, hx⟩ : ∃ x, a[i]? = some x := ⟨_, List.getElem?_eq_getElem hil⟩
    obtain ⟨ab, ao, ac, aro, avs, rfl, ag, ax, _, _⟩ := haK.at hx
    generalize hK1 : (K.alloc (.cells false [.str [], .str []])).set K.next (.cells false [.str x.1, .str x.2]) = K1
    have hst : astore tC (K.alloc (.cells false [.str [], .str []])) 71 (.ptr K.next 0) (.agg [.str x.1, .str x.2]) = some K1 := by
      rw [← hK1]; exact stA71 (x := .str []) (y := .str []) (by rw [AH.get_alloc, if_pos rfl]) x.1 x.2
    have n1 : K1.next = K.next + 1 := by rw [← hK1]; rfl
    have k1 : ∀ b x, K.get b = some x → K1.get b = some x := fun b z hz => by
      have := wfK b z hz
      rw [← hK1, AH.get_set, if_neg (by omega), AH.get_alloc, if_neg (by omega)]; exact hz
    have q1 : K1.get K.next = some (.cells false [.str x.1, .str x.2]) := by rw [← hK1, AH.get_set, if_pos rfl]
    have wf1 : WF K1 := by rw [← hK1]; exact wf_set (wf_alloc wfK _) (by simp) _
    by_cases hib2 : i < b.length
    · have hd2 : decide (((b.length : Nat) : Int) ≤ ((i : Nat) : Int)) = false := decide_eq_false (by omega)
      obtain ⟨y, hy⟩ : ∃ y, b[i]? = some y := ⟨_, List.getElem?_eq_getElem hib2⟩
      obtain ⟨bb, bo, bc, bro, bvs, rfl, bg, bx, _, _⟩ := (hbK.keep (KS.of k1 (by omega))).at hy
      generalize hK2 : (K1.alloc (.cells false [.str [], .str []])).set K1.next (.cells false [.str y.1, .str y.2]) = K2
      have hst2 : astore tC (K1.alloc (.cells false [.str [], .str []])) 71 (.ptr K1.next 0) (.agg [.str y.1, .str y.2]) = some K2 := by
        rw [← hK2]; exact stA71 (x := .str []) (y := .str []) (by rw [AH.get_alloc, if_pos rfl]) y.1 y.2
      have k2 : ∀ b x, K1.get b = some x → K2.get b = some x := fun b z hz => by
        have := wf1 b z hz
        rw [← hK2, AH.get_set, if_neg (by omega), AH.get_alloc, if_neg (by omega)]; exact hz
      have n2 : K2.next = K1.next + 1 := by rw [← hK2]; rfl
      have q2 : K2.get K1.next = some (.cells false [.str y.1, .str y.2]) := by rw [← hK2, AH.get_set, if_pos rfl]
      have q1' := k2 _ _ q1
      refine zs8 @al29 @ix29 @ld71 @g1 @g2 @g11 @g12 (And.intro @g13 (And.intro @hd (And.intro @hil (And.intro @ag (And.intro @ax (And.intro @al71 (And.intro @hst (And.intro @lb (And.intro @hd2 (And.intro @hib2 (And.intro @bg (And.intro @bx (And.intro @hst2 (And.intro @q1' (And.intro @q2 @tk2))))))))))))))) ?_
      refine AOs.callQ tOK (fs := []) (cs := []) (by simp only [aeval, PT.get_set, Nat.reduceEqDiff, reduceIte]) fn72 ok72 rfl ar1 (compare72 N K2 x y) ?_
      rintro r K3 ⟨rfl, rfl⟩
      have ho2 := ho.trans (orderM_drop hx hy)
      by_cases hc : cmpL x y = 0
      · have d3 : decide (cmpL x y = 0) = true := decide_eq_true hc
        rw [if_pos hc] at ho2
        refine zs2 @g13 @d3 ?_
        refine ⟨a.length - (i + 1), by omega, fun b z hz => k2 b z (k1 b z (hk b z hz)), by omega, by simp [PT.get_set, g0], by simp [PT.get_set, g1], by simp [PT.get_set, g2], by simp [PT.get_set, g11], by simp [PT.get_set, g12], i + 1, by omega, by omega, rfl, ?_, ho2⟩
        simp only [PT.get_set, Nat.reduceEqDiff, reduceIte, wrap64_succ (show i < 9223372036854775807 by omega)]
      · have d3 : decide (cmpL x y = 0) = false := decide_eq_false hc
        rw [if_neg hc] at ho2
        refine zs1 @d3 ?_
        exact fnPost_ret1 gt1 ⟨by rw [ho2], fun b z hz => k2 b z (k1 b z (hk b z hz))⟩
    · have hd2 : decide (((b.length : Nat) : Int) ≤ ((i : Nat) : Int)) = true := decide_eq_true (by omega)
      have hr : orderM a b = 1 := by
        rw [ho, List.drop_of_length_le (l := b) (by omega), List.drop_eq_getElem_cons hil]; rfl
      refine zs8 @al29 @ix29 @ld71 @g1 @g11 @g12 @g13 (And.intro @hd (And.intro @hil (And.intro @ag (And.intro @ax (And.intro @al71 (And.intro @hst (And.intro @lb @hd2))))))) ?_
      exact fnPost_ret1 gt1 ⟨by rw [hr], fun b z hz => k1 b z (hk b z hz)⟩
  · have hd := nlt_int hil
    obtain rfl : i = a.length := by omega
    by_cases hlt : a.length < b.length
    · have hd2 := lt_int hlt
      have hr : orderM a b = -1 := by
        rw [ho, List.drop_length, List.drop_eq_getElem_cons hlt]; rfl
      refine zs8 @al29 @g0 @g1 @g12 @g13 @hd @la (And.intro @lb @hd2) ?_
      exact fnPost_ret1 gt1 ⟨by rw [hr], hk⟩
    · have hd2 := nlt_int hlt
      have hr : orderM a b = 0 := by
        rw [ho, List.drop_length, List.drop_of_length_le (by omega)]; rfl
      refine zs8 @al29 @g0 @g1 @g12 @g13 @hd @la (And.intro @lb @hd2) ?_
      exact fnPost_ret1 gt1 ⟨by rw [hr], hk⟩

/-- What a letter's five tests come to. -/
theorem chVals (c : UInt8) : ∃ p1 p2 p3 p4 p5 : Bool, decide ((97 : Int) ≤ (c.toNat : Int)) = p1 ∧ decide ((c.toNat : Int) ≤ 122) = p2 ∧ decide ((48 : Int) ≤ (c.toNat : Int)) = p3 ∧ decide ((c.toNat : Int) ≤ 57) = p4 ∧ decide ((c.toNat : Int) = 95) = p5 ∧
    ((p1 = true ∧ p2 = true ∧ p3 = true ∧ p4 = false ∧ p5 = false ∧ chB c = true ∧ digB c = false) ∨ (p1 = true ∧ p2 = false ∧ p3 = true ∧ p4 = false ∧ p5 = false ∧ chB c = false ∧ digB c = false) ∨ (p1 = false ∧ p2 = true ∧ p3 = true ∧ p4 = true ∧ p5 = false ∧ chB c = true ∧ digB c = true) ∨
     (p1 = false ∧ p2 = true ∧ p3 = true ∧ p4 = false ∧ p5 = true ∧ chB c = true ∧ digB c = false) ∨ (p1 = false ∧ p2 = true ∧ p3 = true ∧ p4 = false ∧ p5 = false ∧ chB c = false ∧ digB c = false) ∨ (p1 = false ∧ p2 = true ∧ p3 = false ∧ p4 = true ∧ p5 = false ∧ chB c = false ∧ digB c = false)) := by
  refine ⟨_, _, _, _, _, rfl, rfl, rfl, rfl, rfl, ?_⟩
  simp only [decide_eq_true_eq, decide_eq_false_iff_not, chB, digB, Bool.or_eq_true, Bool.or_eq_false_iff, Bool.and_eq_true, Bool.and_eq_false_iff]
  omega
theorem all_take {s : Nm} {i : Nat} {c : UInt8} (h : s[i]? = some c) : (s.take (i + 1)).all chB = ((s.take i).all chB && chB c) := by
  rw [List.take_add_one, h, List.all_append]; simp
theorem all_bad {s : Nm} {i : Nat} {c : UInt8} (h : s[i]? = some c) (hc : chB c = false) : s.all chB = false := by
  rw [List.all_eq_false]; exact ⟨c, List.mem_of_getElem? h, by rw [hc]; simp⟩
def headDig (s : Nm) : Bool := match s with | [] => false | c :: _ => digB c
theorem nameB_eq (s : Nm) : nameB s = (decide (1 ≤ s.length) && decide (s.length ≤ 24) && !headDig s && s.all chB) := rfl
theorem headDig_of {s : Nm} {c : UInt8} (h : s[0]? = some c) : headDig s = digB c := by
  cases s with
  | nil => simp at h
  | cons a s => simp at h; subst h; rfl

set_option maxHeartbeats 4000000 in
theorem name63 (N : Bd) (H : AH) (s : Nm) : AC tC N 0 63 [.str s] H fun r K => r = .bool (nameB s) ∧ K = H := by
  refine AC.by (n := 51) (rs := [.tmp 2]) tOK fn63 rfl rfl rfl rfl ?_
  have e0 : (PT.ofList .leaf 0 [AV.str s]).get 0 = some (.str s) := rfl
  rw [nameB_eq]
  by_cases h1 : 1 ≤ s.length
  case neg =>
    have d1 : decide (((s.length : Nat) : Int) < 1) = true := decide_eq_true (by omega)
    rw [decide_eq_false h1]
    with_reducible repeat' first | refine za ?_ | refine AOs.guardU wu (by simp only [PT.get_set, Nat.reduceEqDiff, reduceIte]; rfl) wu wu ?_ | (refine AOs.o1 tOK ?_; refine zr3 @al9 @e0 @d1 ?_) | fail
    exact fr1 ⟨rfl, rfl⟩
  have d1 : decide (((s.length : Nat) : Int) < 1) = false := decide_eq_false (by omega)
  by_cases h2 : s.length ≤ 24
  case neg =>
    have d2 : decide ((24 : Int) < ((s.length : Nat) : Int)) = true := decide_eq_true (by omega)
    rw [decide_eq_true h1, decide_eq_false h2]
    with_reducible repeat' first | refine za ?_ | refine AOs.guardU wu (by simp only [PT.get_set, Nat.reduceEqDiff, reduceIte]; rfl) wu wu ?_ | (refine AOs.o1 tOK ?_; refine zr4 @al9 @e0 @d1 @d2 ?_) | fail
    exact fr1 ⟨rfl, rfl⟩
  have d2 : decide ((24 : Int) < ((s.length : Nat) : Int)) = false := decide_eq_false (by omega)
  rw [decide_eq_true h1, decide_eq_true h2]
  obtain ⟨c0, hc0⟩ : ∃ c, s[0]? = some c := ⟨_, List.getElem?_eq_getElem (by omega)⟩
  have hx0 : ∀ k, aindex tC 9 (.str s) (.int k 0) = some (.int .u8 (c0.toNat : Int)) := fun k => idx9 s k 0 c0 hc0
  rw [headDig_of hc0]
  cases hdg : digB c0 with
  | true =>
    simp only [digB, Bool.and_eq_true, decide_eq_true_eq] at hdg
    have d3 : decide ((48 : Int) ≤ (c0.toNat : Int)) = true := decide_eq_true (by omega)
    have d4 : decide ((c0.toNat : Int) ≤ 57) = true := decide_eq_true (by omega)
    refine zt6 @e0 @d1 @d2 @hx0 @d3 @d4 ?_
    exact fr1 ⟨rfl, rfl⟩
  | false =>
  by_cases h48 : 48 ≤ c0.toNat
  · have d3 : decide ((48 : Int) ≤ (c0.toNat : Int)) = true := decide_eq_true (by omega)
    have d4 : decide ((c0.toNat : Int) ≤ 57) = false := decide_eq_false (by simp [digB] at hdg; omega)
    refine zt6 @e0 @d1 @d2 @hx0 @d3 @d4 ?_
    refine AW.loop (fun m T K => K = H ∧ T.get 0 = some (.str s) ∧ T.get 24 = some (.int .i64 (s.length : Nat)) ∧ ∃ i : Nat, i ≤ s.length ∧ m = s.length - i ∧ T.get 25 = some (.int .i64 (i : Nat)) ∧ (s.take i).all chB = true) ?_ (s.length - 0)
      ⟨rfl, by simp [PT.get_set, e0], by simp [PT.get_set], 0, by omega, rfl, by simp [PT.get_set], rfl⟩
    rintro m T K ⟨rfl, g0, g24, i, hi, rfl, g25, hall⟩
    by_cases hil : i < s.length
    · have hd := lt_int hil
      obtain ⟨c, hc⟩ : ∃ c, s[i]? = some c := ⟨_, List.getElem?_eq_getElem hil⟩
      have hx : ∀ k, aindex tC 9 (.str s) (.int k (i : Int)) = some (.int .u8 (c.toNat : Int)) := fun k => idx9 s k i c hc
      obtain ⟨p1, p2, p3, p4, p5, q1, q2, q3, q4, q5, hv⟩ := chVals c
      have good : chB c = true → ((s.take (i + 1)).all chB = true) := fun h => by rw [all_take hc, hall, h]; rfl
      have bad : chB c = false → s.all chB = false := all_bad hc
      rcases hv with ⟨rfl, rfl, rfl, rfl, rfl, h, _⟩ | ⟨rfl, rfl, rfl, rfl, rfl, h, _⟩ | ⟨rfl, rfl, rfl, rfl, rfl, h, _⟩ | ⟨rfl, rfl, rfl, rfl, rfl, h, _⟩ | ⟨rfl, rfl, rfl, rfl, rfl, h, _⟩ | ⟨rfl, rfl, rfl, rfl, rfl, h, _⟩
      all_goals with_reducible repeat' first | refine za ?_ | refine AOs.guardU wu (by simp only [PT.get_set, Nat.reduceEqDiff, reduceIte]; rfl) wu wu ?_ | (refine AOs.o1 tOK ?_; refine zu8 @g0 @g24 @g25 @hd @hx @q1 @q2 (And.intro @q3 (And.intro @q4 @q5)) ?_) | fail
      all_goals first
        | exact fnPost_ret1 gt1 ⟨by rw [bad h]; rfl, rfl⟩
        | exact ⟨s.length - (i + 1), by omega, rfl, by simp [PT.get_set, g0], by simp [PT.get_set, g24], i + 1, by omega, rfl, by simp only [PT.get_set, Nat.reduceEqDiff, reduceIte, wrap64_succ (show i < 9223372036854775807 by omega)], good h⟩
    · have hd := nlt_int hil
      obtain rfl : i = s.length := by omega
      rw [List.take_length] at hall
      rw [hall]
      refine zs3 @g24 @g25 @hd ?_
      exact fr1 ⟨rfl, rfl⟩
  · have d3 : decide ((48 : Int) ≤ (c0.toNat : Int)) = false := decide_eq_false (by omega)
    refine zt5 @e0 @d1 @d2 @hx0 @d3 ?_
    refine AW.loop (fun m T K => K = H ∧ T.get 0 = some (.str s) ∧ T.get 24 = some (.int .i64 (s.length : Nat)) ∧ ∃ i : Nat, i ≤ s.length ∧ m = s.length - i ∧ T.get 25 = some (.int .i64 (i : Nat)) ∧ (s.take i).all chB = true) ?_ (s.length - 0)
      ⟨rfl, by simp [PT.get_set, e0], by simp [PT.get_set], 0, by omega, rfl, by simp [PT.get_set], rfl⟩
    rintro m T K ⟨rfl, g0, g24, i, hi, rfl, g25, hall⟩
    by_cases hil : i < s.length
    · have hd := lt_int hil
      obtain ⟨c, hc⟩ : ∃ c, s[i]? = some c := ⟨_, List.getElem?_eq_getElem hil⟩
      have hx : ∀ k, aindex tC 9 (.str s) (.int k (i : Int)) = some (.int .u8 (c.toNat : Int)) := fun k => idx9 s k i c hc
      obtain ⟨p1, p2, p3, p4, p5, q1, q2, q3, q4, q5, hv⟩ := chVals c
      have good : chB c = true → ((s.take (i + 1)).all chB = true) := fun h => by rw [all_take hc, hall, h]; rfl
      have bad : chB c = false → s.all chB = false := all_bad hc
      rcases hv with ⟨rfl, rfl, rfl, rfl, rfl, h, _⟩ | ⟨rfl, rfl, rfl, rfl, rfl, h, _⟩ | ⟨rfl, rfl, rfl, rfl, rfl, h, _⟩ | ⟨rfl, rfl, rfl, rfl, rfl, h, _⟩ | ⟨rfl, rfl, rfl, rfl, rfl, h, _⟩ | ⟨rfl, rfl, rfl, rfl, rfl, h, _⟩
      all_goals with_reducible repeat' first | refine za ?_ | refine AOs.guardU wu (by simp only [PT.get_set, Nat.reduceEqDiff, reduceIte]; rfl) wu wu ?_ | (refine AOs.o1 tOK ?_; refine zu8 @g0 @g24 @g25 @hd @hx @q1 @q2 (And.intro @q3 (And.intro @q4 @q5)) ?_) | fail
      all_goals first
        | exact fnPost_ret1 gt1 ⟨by rw [bad h]; rfl, rfl⟩
        | exact ⟨s.length - (i + 1), by omega, rfl, by simp [PT.get_set, g0], by simp [PT.get_set, g24], i + 1, by omega, rfl, by simp only [PT.get_set, Nat.reduceEqDiff, reduceIte, wrap64_succ (show i < 9223372036854775807 by omega)], good h⟩
    · have hd := nlt_int hil
      obtain rfl : i = s.length := by omega
      rw [List.take_length] at hall
      rw [hall]
      refine zs3 @g24 @g25 @hd ?_
      exact fr1 ⟨rfl, rfl⟩

end Go.Proofs.YtapokkpdgfpokaaGreat
