/- Log: Append, Read, SyncNames; no condition. -/
import Derived.Test.YtgihociajfgohaaGreatDoorDisk2
import Derived.Test.YtgihociajfgohaaGreatDoorHeap6
set_option linter.unusedSimpArgs false
set_option linter.unusedVariables false
open Go Go.AB Go.Proofs
namespace Go.Proofs.YtgihociajfgohaaGreatDoor
set_option maxRecDepth 100000

theorem kindV_bytes (l : List UInt8) (ro : Bool) : kind (.cells ro (bytesAV l)) = 4 := by
  cases l with
  | nil => rfl
  | cons a l => simp [kind, bytesAV, isU8]

theorem cap22n : acap tC 32 .nils = some (.int .i64 0) := by simp only [acap, ti32]
theorem sl32n : aslice tC 32 .nils none (some (.int .i64 0)) none = some .nils := by simp only [aslice, ti32, ti5]; rfl
theorem sl32z (b n : Nat) : aslice tC 32 (.slice b 0 n (.lo n) 1) none (some (.int .i64 0)) none = some (.slice b 0 0 (.lo n) 1) := by
  have : bnd (some (AV.int .i64 0)) n = some 0 := rfl
  simp only [aslice, ti32, ti5, this, show bnd none 0 = some 0 from rfl]
  simp [nbeq, nble]

set_option maxHeartbeats 1000000 in
theorem grow42 (N : Nat) (H : AH) (n : Nat) (hn : n ≤ 1000000000000) : AC tC N 0 101 [.nils, .int .i64 (n : Int)] H fun r K => (n = 0 ∧ r = .nils ∧ K = H) ∨ (0 < n ∧ r = .slice H.next 0 0 (.lo n) 1 ∧ K = H.alloc (.cells false (List.replicate n (.int .u8 0)))) := by
  refine AC.by (n := 27) (rs := [.tmp 4]) tOK fn101 rfl rfl rfl rfl ?_
  have e0 : (PT.ofList .leaf 0 [AV.nils, .int .i64 (n : Int)]).get 0 = some .nils := rfl
  have e1 : (PT.ofList .leaf 0 [AV.nils, .int .i64 (n : Int)]).get 1 = some (.int .i64 (n : Int)) := rfl
  have h1 : decide ((n : Int) < 0) = false := by simp
  have hw0 : IntKind.i64.wrap ((0 : Int) - 0) = 0 := by decide
  have hw1 : IntKind.i64.wrap ((n : Int) - 0) = n := by rw [wrap64 (by omega) (by omega)]; omega
  by_cases h0 : n = 0
  · have h2 : decide ((0 : Int) < (n : Int)) = false := by simp; omega
    with_reducible repeat' (first
 | refine AW.seq ?_
 | refine AW.region ?_
 | refine AOs.nil ?_
 | refine AW.skip ?_
 | refine AW.ret ?_
 | refine andThen_normal ?_
 | refine AW.condF (by simp only [aeval, PT.get_set, Nat.reduceEqDiff, reduceIte]; rfl) (by first | rfl | decide | assumption) ?_
 | ((first
 | refine AOs.op1E tOK (by with_unfolding_all rfl) ?_
 ); refine Step.mk (by simp only [evOp_move, evOp_assign, evOp_binOp, evOp_len, evOp_cap, aeval, ofVal, PT.get_set, Nat.reduceEqDiff, reduceIte, lenOfAV_nils, Option.map_some, abin_sub, abin_lss, abin_gtr, eq_self, Int.cast_ofNat_Int, al32, e0, e1, h1, h2, cap22n, hw0, hw1]; rfl) ?_)
 | fail "stop")
    refine fnPost_ret1 (by first | (simp only [PT.get_set, Nat.reduceEqDiff, reduceIte]; rfl) | simp only [PT.get_set, Nat.reduceEqDiff, reduceIte]) (.inl ⟨h0, rfl, rfl⟩)
  · have h2 : decide ((0 : Int) < (n : Int)) = true := by simp; omega
    have hz := aappend_zeros (C := tC) (H := H) (st := 32) (xt := 3) (k' := .i64) (n := n) ti32 rfl ti5 rfl rfl rfl rfl ti3 rfl (by omega) hn
    with_reducible repeat' (first
 | refine AW.seq ?_
 | refine AW.region ?_
 | refine AOs.nil ?_
 | refine AW.skip ?_
 | refine AW.ret ?_
 | refine andThen_normal ?_
 | refine AW.condT (by simp only [aeval, PT.get_set, Nat.reduceEqDiff, reduceIte]; rfl) (by first | rfl | decide | assumption) ?_
 | refine AW.condF (by simp only [aeval, PT.get_set, Nat.reduceEqDiff, reduceIte]; rfl) (by first | rfl | decide | assumption) ?_
 | ((first
 | refine AOs.op1E tOK (by with_unfolding_all rfl) ?_
 ); refine Step.mk (by simp only [evOp_move, evOp_assign, evOp_binOp, evOp_len, evOp_append, evOp_slice, evOp_cap, aeval, ofVal, PT.get_set, Nat.reduceEqDiff, reduceIte, lenOfAV_nils, List.map_cons, List.map_nil, Option.map_some, Option.map_none, abin_sub, abin_lss, abin_gtr, eq_self, Int.ofNat_eq_natCast, Int.cast_ofNat_Int, al32, e0, e1, h1, h2, cap22n, hw0, hw1, sl32n, hz, sl32z]; rfl) ?_)
 | fail "stop")
    refine fnPost_ret1 (by first | (simp only [PT.get_set, Nat.reduceEqDiff, reduceIte]; rfl) | simp only [PT.get_set, Nat.reduceEqDiff, reduceIte]) (.inr ⟨by omega, rfl, rfl⟩)

set_option maxHeartbeats 2000000 in
theorem concat31 (N : Nat) (H : AH) {sb : Nat} {w1 w2 : AV} {l1 l2 : List UInt8} (hs : H.get sb = some (.cells false [w1, w2])) (h1 : BytesAt H w1 l1) (h2 : BytesAt H w2 l2) (hl : l1.length + l2.length ≤ 1000000000000) :
    AC tC N 0 78 [.slice sb 0 2 (.ex 2) 1] H fun r K => FB K r (l1 ++ l2) ∧ (∀ b x, H.get b = some x → K.get b = some x) ∧ H.next ≤ K.next := by
  refine AC.wf0 fun hwf => ?_
  refine AC.by (n := 36) (rs := [.tmp 2]) tOK fn78 rfl rfl rfl rfl ?_
  have e0 : (PT.ofList .leaf 0 [AV.slice sb 0 2 (.ex 2) 1]).get 0 = some (.slice sb 0 2 (.ex 2) 1) := rfl
  have hn1 := h1.len
  have hn2 := h2.len
  with_reducible repeat' (first
 | refine AW.seq ?_
 | refine AW.region ?_
 | refine AW.block ?_
 | refine AOs.nil ?_
 | refine andThen_normal ?_
 | ((first
 | refine AOs.op1E tOK (by with_unfolding_all rfl) ?_
 ); refine Step.mk (by simp only [evOp_move, evOp_assign, evOp_len, aeval, ofVal, PT.get_set, Nat.reduceEqDiff, reduceIte, lenOfAV_slice, Option.map_some, eq_self, Int.cast_ofNat_Int, al28, e0]; rfl) ?_)
 | fail "stop")
  have x0 : ∀ cap, aindexAddr tC 28 (.slice sb 0 2 cap 1) (.int .i64 0) = some (.ptr sb 0) := fun cap => by
    have := ix28 sb 0 2 1 0 cap .i64 (by omega)
    simpa using this
  have x1 : ∀ cap, aindexAddr tC 28 (.slice sb 0 2 cap 1) (.int .i64 1) = some (.ptr sb 1) := fun cap => by
    have := ix28 sb 0 2 1 1 cap .i64 (by omega)
    simpa using this
  have y1 : IntKind.i64.wrap ((0 : Int) + 1) = 1 := by decide
  have y2 : IntKind.i64.wrap ((1 : Int) + 1) = 2 := by decide
  have y3 : IntKind.i64.wrap ((0 : Int) + (l1.length : Int)) = (l1.length : Int) := by rw [wrap64 (by omega) (by omega)]; omega
  have y4 : IntKind.i64.wrap ((l1.length : Int) + (l2.length : Int)) = ((l1.length + l2.length : Nat) : Int) := by rw [wrap64 (by omega) (by omega)]; omega
  have d1 : decide ((l1.length : Int) < 0) = false := by simp
  have d2 : decide (((l1.length + l2.length : Nat) : Int) < 0) = false := by simp; omega
  refine AW.loopN 3 ?_
  with_reducible repeat' (first
 | refine AW.seq ?_
 | refine AW.region ?_
 | refine AW.block ?_
 | refine AOs.nil ?_
 | refine AW.skip ?_
 | refine AW.exit ?_
 | refine AWn.succ ?_
 | refine andThen_normal ?_
 | refine andThen_exit ?_
 | refine inBlock_normal ?_
 | refine inBlock_hit ?_
 | refine AW.condT (by simp only [aeval, PT.get_set, Nat.reduceEqDiff, reduceIte]; rfl) (by first | rfl | decide | assumption) ?_
 | refine AW.condF (by simp only [aeval, PT.get_set, Nat.reduceEqDiff, reduceIte]; rfl) (by first | rfl | decide | assumption) ?_
 | ((first
 | refine AOs.op1E tOK (by with_unfolding_all rfl) ?_
 ); refine Step.mk (by simp only [evOp_move, evOp_assign, evOp_binOp, evOp_indexAddr, evOp_load, evOp_len, aeval, ofVal, PT.get_set, Nat.reduceEqDiff, reduceIte, cellAt, Option.map_some, abin_add, abin_lss, decide_true, decide_false, List.getElem?_cons_zero, List.getElem?_cons_succ, eq_self, Int.reduceLT, al32, ld32, hs, x0, x1, y1, y2, y3, y4, d1, d2, hn1, hn2]; rfl) ?_)
 | fail "stop")
  refine AOs.callQ tOK (fs := []) (cs := []) rfl fn101 ok101 rfl (by simp only [List.map_cons, List.map_nil, List.nil_append, List.append_nil, aeval, ofVal, PT.get_set, Nat.reduceEqDiff, reduceIte] <;> rfl) (grow42 N H (l1.length + l2.length) (by omega)) ?_
  rintro r K (⟨h0, rfl, rfl⟩ | ⟨h0, rfl, rfl⟩)
  · have a1 := aappend_bytesNil (C := tC) (st := 32) ti32 rfl ti5 rfl rfl rfl h1 (List.eq_nil_of_length_eq_zero (by omega))
    have a2 := aappend_bytesNil (C := tC) (st := 32) ti32 rfl ti5 rfl rfl rfl h2 (List.eq_nil_of_length_eq_zero (by omega))
    with_reducible repeat' (first
 | refine AW.seq ?_
 | refine AW.region ?_
 | refine AW.block ?_
 | refine AOs.nil ?_
 | refine andThen_normal ?_
 | ((first
 | refine AOs.op1E tOK (by with_unfolding_all rfl) ?_
 ); refine Step.mk (by simp only [evOp_move, evOp_assign, evOp_len, aeval, ofVal, PT.get_set, Nat.reduceEqDiff, reduceIte, lenOfAV_slice, Option.map_some, eq_self, Int.cast_ofNat_Int, al28, e0]; rfl) ?_)
 | fail "stop")
    refine AW.loopN 3 ?_
    with_reducible repeat' (first
 | refine AW.seq ?_
 | refine AW.region ?_
 | refine AW.block ?_
 | refine AOs.nil ?_
 | refine AW.skip ?_
 | refine AW.exit ?_
 | refine AW.ret ?_
 | refine AWn.succ ?_
 | refine andThen_normal ?_
 | refine andThen_exit ?_
 | refine inBlock_normal ?_
 | refine inBlock_hit ?_
 | refine AW.condT (by simp only [aeval, PT.get_set, Nat.reduceEqDiff, reduceIte]; rfl) (by first | rfl | decide | assumption) ?_
 | refine AW.condF (by simp only [aeval, PT.get_set, Nat.reduceEqDiff, reduceIte]; rfl) (by first | rfl | decide | assumption) ?_
 | ((first
 | refine AOs.op1E tOK (by with_unfolding_all rfl) ?_
 ); refine Step.mk (by simp only [evOp_move, evOp_assign, evOp_binOp, evOp_indexAddr, evOp_load, evOp_append, aeval, ofVal, PT.get_set, Nat.reduceEqDiff, reduceIte, cellAt, List.map_cons, List.map_nil, Option.map_some, abin_add, abin_lss, decide_true, decide_false, List.getElem?_cons_zero, List.getElem?_cons_succ, eq_self, Int.reduceLT, ld32, hs, x0, x1, y1, y2, a1, a2]; rfl) ?_)
 | fail "stop")
    refine fnPost_ret1 (by first | (simp only [PT.get_set, Nat.reduceEqDiff, reduceIte]; rfl) | simp only [PT.get_set, Nat.reduceEqDiff, reduceIte]) ⟨.inl ⟨rfl, ?_⟩, fun _ _ h => h, Nat.le_refl _⟩
    rw [List.eq_nil_of_length_eq_zero (show l1.length = 0 by omega), List.eq_nil_of_length_eq_zero (show l2.length = 0 by omega)]; rfl
  · have hst := (Stays.refl H).alloc (.cells false (List.replicate (l1.length + l2.length) (.int .u8 0)))
    have hsn := hwf _ _ hs
    obtain ⟨K1, a1, b1, c1, n1⟩ := aappend_room (C := tC) (st := 32) (k := 0) ti32 rfl ti5 rfl rfl rfl rfl (h1.stays hwf hst) (b := H.next) (by rw [AH.get_alloc, if_pos rfl]) (by simp) (by omega) hl
    have hs1 : K1.get sb = some (.cells false [w1, w2]) := by rw [c1 sb (by omega), AH.get_alloc, if_neg (by omega)]; exact hs
    have h2' : BytesAt K1 w2 l2 := h2.keep fun b o c e x hx => by
      have := hwf _ _ hx
      rw [c1 b (by omega), AH.get_alloc, if_neg (by omega)]; exact hx
    obtain ⟨K2, a2, b2, c2, n2⟩ := aappend_room (C := tC) (st := 32) (k := l1.length) (n := l1.length + l2.length) ti32 rfl ti5 rfl rfl rfl rfl h2' b1 (by simp [splice, bytesAV_length]) (by omega) hl
    have hs2 : K2.get sb = some (.cells false [w1, w2]) := by rw [c2 sb (by omega)]; exact hs1
    rw [Nat.zero_add] at a1
    have hs0 : (H.alloc (.cells false (List.replicate (l1.length + l2.length) (.int .u8 0)))).get sb = some (.cells false [w1, w2]) := by rw [AH.get_alloc, if_neg (by omega)]; exact hs
    with_reducible repeat' (first
 | refine AW.seq ?_
 | refine AW.region ?_
 | refine AW.block ?_
 | refine AOs.nil ?_
 | refine andThen_normal ?_
 | ((first
 | refine AOs.op1E tOK (by with_unfolding_all rfl) ?_
 ); refine Step.mk (by simp only [evOp_move, evOp_assign, evOp_len, aeval, ofVal, PT.get_set, Nat.reduceEqDiff, reduceIte, lenOfAV_slice, Option.map_some, eq_self, Int.cast_ofNat_Int, al28, e0]; rfl) ?_)
 | fail "stop")
    refine AW.loopN 3 ?_
    with_reducible repeat' (first
 | refine AW.seq ?_
 | refine AW.region ?_
 | refine AW.block ?_
 | refine AOs.nil ?_
 | refine AW.skip ?_
 | refine AW.exit ?_
 | refine AW.ret ?_
 | refine AWn.succ ?_
 | refine andThen_normal ?_
 | refine andThen_exit ?_
 | refine inBlock_normal ?_
 | refine inBlock_hit ?_
 | refine AW.condT (by simp only [aeval, PT.get_set, Nat.reduceEqDiff, reduceIte]; rfl) (by first | rfl | decide | assumption) ?_
 | refine AW.condF (by simp only [aeval, PT.get_set, Nat.reduceEqDiff, reduceIte]; rfl) (by first | rfl | decide | assumption) ?_
 | ((first
 | refine AOs.op1E tOK (by with_unfolding_all rfl) ?_
 ); refine Step.mk (by simp only [evOp_move, evOp_assign, evOp_binOp, evOp_indexAddr, evOp_load, evOp_append, aeval, ofVal, PT.get_set, Nat.reduceEqDiff, reduceIte, cellAt, List.map_cons, List.map_nil, Option.map_some, abin_add, abin_lss, decide_true, decide_false, List.getElem?_cons_zero, List.getElem?_cons_succ, eq_self, Int.reduceLT, ld32, hs0, hs1, x0, x1, y1, y2, a1, a2]; rfl) ?_)
 | fail "stop")
    have hfin : splice (splice (List.replicate (l1.length + l2.length) (AV.int .u8 0)) 0 (bytesAV l1)) l1.length (bytesAV l2) = bytesAV (l1 ++ l2) := by
      simp [splice, bytesAV_append, bytesAV_length]
    rw [hfin] at b2
    refine fnPost_ret1 (by first | (simp only [PT.get_set, Nat.reduceEqDiff, reduceIte]; rfl) | simp only [PT.get_set, Nat.reduceEqDiff, reduceIte]) ⟨.inr ⟨H.next, 0, .lo (l1.length + l2.length), false, _, by simp, b2, by simp [bytesAV_length, List.take_of_length_le], kindV_bytes _ _, by simp [ACap.low]⟩, fun b x hx => ?_, by rw [n2, n1]; simp⟩
    have := hwf _ _ hx
    rw [c2 b (by omega), c1 b (by omega), AH.get_alloc, if_neg (by omega)]; exact hx
end Go.Proofs.YtgihociajfgohaaGreatDoor

open Go Go.AB Go.Proofs
namespace Go.Proofs.YtgihociajfgohaaGreatDoor
set_option maxRecDepth 100000

def DM.lenOf (M : DM) (k : Nm) : Nat := match getN M.now k with
  | some i => (M.file i).1.length
  | none => 0
/-- How many bytes all files have. -/
def DM.used (M : DM) : Nat := lenSum M.lenOf (M.now.map (·.1))

theorem DA.used (N : Nat) {H : AH} {d : Nat} {φ : Nat → Nat} {M : DM} {A : Nat → Prop} {nb sb : Nat} {cv : AV} {v1 v2 : Nat} (h : DA H d φ M A nb sb cv v1 v2) (ok : M.OK) (hu : M.used < 4611686018427387904) :
    AC tC N 0 55 [.ptr d 0] H fun r K => r = .int .i64 (M.used : Nat) ∧ K = H := by
  have := used30 N H h.core h.now h.ver1 M.lenOf (fun k f hf => by
    rw [getN_mapE] at hf
    obtain ⟨i, hi, rfl⟩ := Option.map_eq_some_iff.1 hf
    obtain ⟨_, bv, h1, h2⟩ := h.files i _ (DM.file_of (ok.now _ (getN_mem hi)))
    refine ⟨bv, _, h1, ?_⟩
    rw [h2.bytes.len]; simp only [DM.lenOf, hi]) (by rw [mapE_keys]; exact hu)
  rw [mapE_keys] at this
  exact this

/-- What is known of 'used' where a region draws its order. -/
def UsedP (d : Nat) (K0 : AH) (U : Nat) (f : FuncId) (args : List AV) (K : AH) (r : AV) : Prop := f = 55 ∧ args = [.ptr d 0] ∧ (∃ m, K = ⟨K0.t, m⟩ ∧ K0.next ≤ m) ∧ r = .int .i64 (U : Nat)

theorem DA.usedP (N : Nat) {H : AH} {d : Nat} {φ : Nat → Nat} {M : DM} {A : Nat → Prop} {nb sb : Nat} {cv : AV} {v1 v2 : Nat} (h : DA H d φ M A nb sb cv v1 v2) (ok : M.OK) (hu : M.used < 4611686018427387904) : (quietFns (UsedP d H M.used)).OK tC N 0 :=
  quietFns_ok tOK fun f args K r hp => by
    obtain ⟨rfl, rfl, ⟨m, rfl, hm⟩, rfl⟩ := hp
    exact ⟨⟨_, fn55, ok55⟩, (h.keep (StaysA.mk H A m hm) fun _ => id).used N ok hu⟩

theorem usedCall {d m : Nat} {K0 : AH} {U : Nat} (hm : K0.next ≤ m) : (quietFns (UsedP d K0 U)).call 55 [.ptr d 0] ⟨K0.t, m⟩ = some (.int .i64 (U : Nat), ⟨K0.t, m⟩) :=
  quietFns_call ⟨rfl, rfl, ⟨m, rfl, hm⟩, rfl⟩ fun r' h => h.2.2.2

def DM.append (M : DM) (n : Nm) (b : List UInt8) : Int × DM :=
  if M.err (nameOK n) ≠ 0 then (M.err (nameOK n), M.op (nameOK n))
  else match getN M.now n with
    | none => (6, M.op (nameOK n))
    | some i => if M.room - M.used < b.length then (11, M.op (nameOK n)) else (0, { M.op (nameOK n) with files := M.files.set i ((M.file i).1 ++ b, (M.file i).2) })

theorem bs28_2 (F : Fns) (H : AH) (ev : Operand → AV) (dst : Option Tmp) (ty : TypeId) (pos : String) (after : Array Edge) (guard : Option (Nat × Bool)) (x y : Operand) (hv : (ev x).one = true) (hw : (ev y).one = true) :
    evOp tC F H ev { dst, op := .buildSlice 28 2 ⟨[(0, x), (1, y)]⟩, type := ty, pos, after, guard } = some (.slice H.next 0 2 (.ex 2) 1, H.alloc (.cells false [ev x, ev y])) := evOp_buildSlice2 ti28 rfl ti32 rfl rfl rfl hv hw

set_option maxHeartbeats 2000000 in
theorem append9 (N : Nat) (H : AH) {d : Nat} {M : DM} {A : Nat → Prop} {n : Nm} {bv : AV} {b : List UInt8} (h : DiskAt H d M A) (ok : M.OK) (hb : FB H bv b) (hu : M.used < 1000000000000) (hbl : b.length < 1000000000000) (hfl : ∀ i, (M.file i).1.length + b.length ≤ 1000000000000) (hr : 0 ≤ M.room) (hr2 : M.room < 1000000000000) :
    AC tC N 0 47 [.ptr d 0, .str n, bv] H fun r K => r = .int .i64 (M.append n b).1 ∧ DiskAt K d (M.append n b).2 (AddR A H.next K.next) ∧ Apart H K A := by
  refine AC.wf0 fun hwf => ?_
  obtain ⟨φ, nb, sb, cv, v1, v2, h⟩ := h
  refine AC.by (n := 46) (rs := [.tmp 6]) tOK fn47 rfl rfl rfl rfl ?_
  have e0 : (PT.ofList .leaf 0 [AV.ptr d 0, .str n, bv]).get 0 = some (.ptr d 0) := rfl
  have e1 : (PT.ofList .leaf 0 [AV.ptr d 0, .str n, bv]).get 1 = some (.str n) := rfl
  have e2 : (PT.ofList .leaf 0 [AV.ptr d 0, .str n, bv]).get 2 = some bv := rfl
  with_reducible repeat' (first
 | refine AW.seq ?_
 | refine AW.region ?_
 | refine AOs.nil ?_
 | refine andThen_normal ?_
 | ((first
 | refine AOs.op1E tOK (by with_unfolding_all rfl) ?_
 ); refine Step.mk (by simp only [evOp_move, evOp_assign, one_str, aeval, ofVal, PT.get_set, Nat.reduceEqDiff, reduceIte, eq_self, e0, e1, bs37_1]; rfl) ?_)
 | fail "stop")
  have hs1 : Stays H (H.alloc (.cells false [.str n])) := (Stays.refl H).alloc _
  refine AOs.callQ tOK (fs := []) (cs := []) rfl fn72 ok72 rfl (by simp only [List.map_cons, List.map_nil, List.nil_append, List.append_nil, aeval, PT.get_set, Nat.reduceEqDiff, reduceIte] <;> rfl) (CoreAt.op27 N (h.keep (A' := A) (StaysA.of hwf hs1) fun _ => id) ok (strs1 (b := H.next) (n := n) (by rw [AH.get_alloc, if_pos rfl])) (by simp)).wf ?_
  have hall : [n].all nameOK = nameOK n := by simp
  rw [hall]
  rintro r K ⟨⟨rfl, hK, hnx, hrest⟩, hwK⟩
  have hap := Apart.op h hwf hs1 hnx hrest
  have hnx' : K.next = H.next + 1 := hnx
  have hblen := hb.bytes.len
  by_cases he : M.err (nameOK n) = 0
  · have hcK : K.get d = _ := hK.core
    have hnK : K.get nb = _ := hK.now
    have hcKm : ∀ m, AH.get ⟨K.t, m⟩ d = _ := fun m => hK.core
    cases hg : getN M.now n with
    | none =>
      have hg' : getN (M.op (nameOK n)).now n = none := hg
      with_reducible repeat' (first
 | refine AW.seq ?_
 | refine AW.region ?_
 | refine AW.block ?_
 | refine AOs.nil ?_
 | refine AW.skip ?_
 | refine AW.ret ?_
 | refine andThen_normal ?_
 | refine andThen_ret ?_
 | refine inBlock_ret ?_
 | refine AW.condT (by simp only [aeval, PT.get_set, Nat.reduceEqDiff, reduceIte, he]; rfl) (by first | rfl | decide | assumption) ?_
 | refine AW.condF (by simp only [aeval, PT.get_set, Nat.reduceEqDiff, reduceIte, he]; rfl) (by first | rfl | decide | assumption) ?_
 | ((first
 | refine AOs.op1E tOK (by with_unfolding_all rfl) ?_
 ); refine Step.mk (by simp only [evOp_move, evOp_assign, evOp_nilCheck, evOp_binOp, evOp_fieldAddr, evOp_load, evOp_lookup, aeval, ofVal, PT.get_set, Nat.reduceEqDiff, reduceIte, cellAt, lookAt, Option.map_some, Option.map_none, abin_neq, decide_true, Bool.not_true, List.getElem?_cons_zero, List.getElem?_cons_succ, Nat.zero_add, eq_self, ld72, lk72, fa75_1, eq85b, e0, e1, he, hcK, hnK, mget_ents, getN_mapE, hg', Option.getD_none]; rfl) ?_)
 | fail "stop")
      refine fnPost_ret1 (by first | (simp only [PT.get_set, Nat.reduceEqDiff, reduceIte]; rfl) | simp only [PT.get_set, Nat.reduceEqDiff, reduceIte]) ⟨?_, ?_, hap⟩
      · simp [DM.append, he, hg]
      · simp only [DM.append, he, hg, ne_eq, not_true_eq_false, if_false]
        exact ⟨φ, nb, sb, cv, v1, v2, hK.keep ⟨fun _ _ h _ => h, Nat.le_refl _⟩ fun b hb => .inl hb⟩
    | some i =>
      have hg' : getN (M.op (nameOK n)).now n = some i := hg
      have hi : i < M.files.length := ok.now _ (getN_mem hg)
      with_reducible repeat' (first
 | refine AW.seq ?_
 | refine AW.region ?_
 | refine AW.block ?_
 | refine AOs.nil ?_
 | refine AW.skip ?_
 | refine andThen_normal ?_
 | refine AW.condF (by simp only [aeval, PT.get_set, Nat.reduceEqDiff, reduceIte, he]; rfl) (by first | rfl | decide | assumption) ?_
 | ((first
 | refine AOs.op1E tOK (by with_unfolding_all rfl) ?_
 ); refine Step.mk (by simp only [evOp_move, evOp_assign, evOp_nilCheck, evOp_binOp, evOp_fieldAddr, evOp_load, evOp_lookup, aeval, ofVal, PT.get_set, Nat.reduceEqDiff, reduceIte, cellAt, lookAt, Option.map_some, abin_neq, decide_true, Bool.not_true, List.getElem?_cons_zero, List.getElem?_cons_succ, Nat.zero_add, eq_self, ld72, lk72, fa75_1, eq85a, e0, e1, he, hcK, hnK, mget_ents, getN_mapE, hg', Option.getD_some]; rfl) ?_)
 | fail "stop")
      refine AW.drawG tOK (hK.usedP N (ok.op _) (by show M.used < _; omega)) (quietFns_quiet _) (by kernel_rfl) (fun m hm => ?_)
      with_reducible repeat' (first
 | refine Same.mk ?_
 | ((first
 | refine QO.op1E (by with_unfolding_all rfl) ?_
 ); refine Step.mk (by simp only [evOp_move, evOp_nilCheck, evOp_fieldAddr, evOp_load, evOp_len, aeval, PT.get_set, Nat.reduceEqDiff, reduceIte, cellAt, Option.map_some, List.getElem?_cons_zero, Nat.add_zero, eq_self, ld3, al32, fa75_0, e0, e2, he, hcKm, hblen]; rfl) ?_)
 | fail "stop")
      refine QO.call rfl (by simp only [List.map_cons, List.map_nil, List.nil_append, List.append_nil, aeval, PT.get_set, Nat.reduceEqDiff, reduceIte]) (usedCall hm) rfl ?_
      have hw1 : IntKind.i64.wrap ((M.op (nameOK n)).room - ((M.op (nameOK n)).used : Int)) = M.room - M.used := wrap64 (by show _ ≤ M.room - (M.used : Int); omega) (by show M.room - (M.used : Int) < _; omega)
      have hfull : ∀ L : AH, (∀ b x, K.get b = some x → L.get b = some x) → K.next ≤ L.next → DiskAt L d (M.op (nameOK n)) (AddR A H.next L.next) ∧ Apart H L A := fun L h1 h2 =>
        ⟨⟨φ, nb, sb, cv, v1, v2, hK.keep ⟨fun b x hb _ => h1 b x hb, h2⟩ fun b hb => .inl hb⟩, fun b x hb hx => h1 b x (hap.1 b x hb hx), by omega⟩
      by_cases hroom : M.room - (M.used : Int) < (b.length : Int)
      · have hd := decide_eq_true hroom
        with_reducible repeat' (first
 | refine AW.seq ?_
 | refine AW.region ?_
 | refine AOs.nil ?_
 | refine AW.ret ?_
 | refine andThen_normal ?_
 | refine andThen_ret ?_
 | refine inBlock_ret ?_
 | refine AW.condT (by simp only [aeval, PT.get_set, Nat.reduceEqDiff, reduceIte]; rfl) (by first | rfl | decide | assumption) ?_
 | refine QO.nil ?_
 | refine Same.mk ?_
 | ((first
 | refine AOs.op1E tOK (by with_unfolding_all rfl) ?_
 | refine QO.op1E (by with_unfolding_all rfl) ?_
 ); refine Step.mk (by simp only [evOp_assign, evOp_binOp, aeval, ofVal, PT.get_set, Nat.reduceEqDiff, reduceIte, Option.map_some, abin_sub, abin_gtr, eq_self, hw1, hd]; rfl) ?_)
 | fail "stop")
        obtain ⟨h1, h2⟩ := hfull ⟨K.t, m⟩ (fun _ _ h => h) hm
        refine fnPost_ret1 (by first | (simp only [PT.get_set, Nat.reduceEqDiff, reduceIte]; rfl) | simp only [PT.get_set, Nat.reduceEqDiff, reduceIte]) ⟨?_, ?_, h2⟩
        · simp [DM.append, he, hg, hroom]
        · simp only [DM.append, he, hg, ne_eq, not_true_eq_false, if_false, hroom, if_true]
          exact h1
      · have hd := decide_eq_false hroom
        obtain ⟨ha, fv, hfc, hfb⟩ := hK.files i _ (DM.file_of (M := M.op (nameOK n)) hi)
        have hfcm : ∀ m, AH.get ⟨K.t, m⟩ (φ i) = _ := fun m => hfc
        have one1 : fv.one = true := hfb.bytes.one
        have one2 : bv.one = true := hb.bytes.one
        with_reducible repeat' (first
 | refine AW.seq ?_
 | refine AW.region ?_
 | refine AW.skip ?_
 | refine andThen_normal ?_
 | refine inBlock_normal ?_
 | refine AW.condF (by simp only [aeval, PT.get_set, Nat.reduceEqDiff, reduceIte]; rfl) (by first | rfl | decide | assumption) ?_
 | refine QO.nil ?_
 | refine Same.mk ?_
 | ((first
 | refine AOs.op1E tOK (by with_unfolding_all rfl) ?_
 | refine QO.op1E (by with_unfolding_all rfl) ?_
 ); refine Step.mk (by simp only [evOp_move, evOp_assign, evOp_nilCheck, evOp_binOp, evOp_fieldAddr, evOp_load, aeval, PT.get_set, Nat.reduceEqDiff, reduceIte, cellAt, Option.map_some, abin_sub, abin_gtr, List.getElem?_cons_zero, Nat.add_zero, eq_self, ld32, fa87_0, e2, hw1, hd, hfcm, bs28_2, one1, one2]; rfl) ?_)
 | fail "stop")
        have hwm : ∀ b x, K.get b = some x → b < m := fun b x hx => Nat.lt_of_lt_of_le (hwK b x hx) hm
        have hk3 : ∀ b x, K.get b = some x → (AH.alloc ⟨K.t, m⟩ (.cells false [fv, bv])).get b = some x := fun b x hx => by
          rw [AH.get_alloc, if_neg (by have := hwm b x hx; show ¬ b = m; omega)]; exact hx
        have hbK : FB K bv b := hb.keep fun b x hx hk => hap.1 b x hx (.inr (.inr hk))
        refine AOs.callQ tOK (fs := []) (cs := []) rfl fn78 ok78 rfl (by simp only [List.map_cons, List.map_nil, List.nil_append, List.append_nil, aeval, PT.get_set, Nat.reduceEqDiff, reduceIte] <;> rfl) (concat31 N (AH.alloc ⟨K.t, m⟩ (.cells false [fv, bv])) (by rw [AH.get_alloc, if_pos rfl]) (hfb.keep fun b x hx _ => hk3 b x hx).bytes (hbK.keep fun b x hx _ => hk3 b x hx).bytes (hfl i)) ?_
        rintro r K3 ⟨hr1, hr2, hr3⟩
        have one3 : r.one = true := hr1.bytes.one
        have hK3 : ∀ b x, K.get b = some x → K3.get b = some x := fun b x hx => hr2 b x (hk3 b x hx)
        have hfc3 := hK3 _ _ hfc
        have hn3 : m + 1 ≤ K3.next := hr3
        with_reducible repeat' (first
 | refine AW.seq ?_
 | refine AW.region ?_
 | refine AOs.nil ?_
 | refine AW.ret ?_
 | refine andThen_normal ?_
 | ((first
 | refine AOs.op1E tOK (by with_unfolding_all rfl) ?_
 | refine AOs.op0E tOK ?_
 ); refine Step.mk (by simp only [evOp_assign, evOp_nilCheck, evOp_fieldAddr, evOp_store, storeAt, aeval, ofVal, PT.get_set, Nat.reduceEqDiff, reduceIte, Option.map_some, Nat.add_zero, Nat.zero_add, Nat.reduceLT, Nat.reduceAdd, List.length_cons, List.length_nil, List.set_cons_zero, eq_self, st32, fa87_0, hfc3, one3]; rfl) ?_)
 | fail "stop")
        obtain ⟨hfin, hap2⟩ := (hK.keep (K := K3) (A' := AddR A H.next K3.next) ⟨fun b x hb _ => hK3 b x hb, by omega⟩ fun b hb => .inl hb).setFile (K := K3.set (φ i) (.cells false [r, .int .i64 ((M.op (nameOK n)).file i).2])) (l := ((M.op (nameOK n)).file i).1 ++ b) (s := ((M.op (nameOK n)).file i).2) (DM.file_of (M := M.op (nameOK n)) hi) (by rw [AH.get_set, if_pos rfl]) (hr1.keep fun b x hb hx => by
          rw [AH.get_set, if_neg (ne_of_kind hb hfc3 (by rw [hfb.ofKind, hx]; decide))]; exact hb) (fun b x hb hne => by rw [AH.get_set, if_neg hne]; exact hb) (Nat.le_refl _)
        refine fnPost_ret1 (by first | (simp only [PT.get_set, Nat.reduceEqDiff, reduceIte]; rfl) | simp only [PT.get_set, Nat.reduceEqDiff, reduceIte]) ⟨?_, ?_, ?_⟩
        · simp [DM.append, he, hg, hroom]
        · simp only [DM.append, he, hg, ne_eq, not_true_eq_false, if_false, hroom]
          exact ⟨φ, nb, sb, cv, v1, v2, hfin.keep ⟨fun _ _ h _ => h, Nat.le_refl _⟩ fun b hb => hb⟩
        · exact Apart.trans hwf ⟨fun b x hb hx => hK3 b x (hap.1 b x hb hx), by omega⟩ hap2
  · with_reducible repeat' (first
 | refine AW.seq ?_
 | refine AW.region ?_
 | refine AOs.nil ?_
 | refine AW.ret ?_
 | refine andThen_normal ?_
 | refine andThen_ret ?_
 | refine AW.condT (by simp only [aeval, PT.get_set, Nat.reduceEqDiff, reduceIte]; rfl) (by first | rfl | decide | assumption) ?_
 | ((first
 | refine AOs.op1E tOK (by with_unfolding_all rfl) ?_
 ); refine Step.mk (by simp only [evOp_move, evOp_assign, evOp_binOp, aeval, ofVal, PT.get_set, Nat.reduceEqDiff, reduceIte, Option.map_some, abin_neq, decide_false, Bool.not_false, eq_self, he]; rfl) ?_)
 | fail "stop")
    refine fnPost_ret1 (by first | (simp only [PT.get_set, Nat.reduceEqDiff, reduceIte]; rfl) | simp only [PT.get_set, Nat.reduceEqDiff, reduceIte]) ⟨?_, ?_, hap⟩
    · simp [DM.append, he]
    · simp only [DM.append, he, ne_eq, not_false_eq_true, if_true]
      exact ⟨φ, nb, sb, cv, v1, v2, hK.keep ⟨fun _ _ h _ => h, Nat.le_refl _⟩ fun b hb => .inl hb⟩
end Go.Proofs.YtgihociajfgohaaGreatDoor

open Go Go.AB Go.Proofs
namespace Go.Proofs.YtgihociajfgohaaGreatDoor
set_option maxRecDepth 100000

set_option maxHeartbeats 1000000 in
theorem clone37 (N : Nat) (H : AH) {v : AV} {l : List UInt8} (h : FB H v l) (hl : l.length ≤ 1000000000000) :
    AC tC N 0 53 [v] H fun r K => FB K r l ∧ (∀ b x, H.get b = some x → K.get b = some x) ∧ H.next ≤ K.next := by
  refine AC.wf0 fun hwf => ?_
  refine AC.by (n := 8) (rs := [.tmp 2]) tOK fn53 rfl rfl rfl rfl ?_
  have e0 : (PT.ofList .leaf 0 [v]).get 0 = some v := rfl
  have hst := (Stays.refl H).alloc (.cells false [])
  have ha := aappend_bytesEx (C := tC) (st := 32) (b := H.next) ti32 rfl ti5 rfl rfl rfl rfl (h.bytes.stays hwf hst) hl
  rcases h with ⟨rfl, rfl⟩ | ⟨b, o, c, ro, vs, rfl, h1, h2, h3⟩
  · with_reducible repeat' (first
 | refine AW.seq ?_
 | refine AW.region ?_
 | refine AOs.nil ?_
 | refine AW.ret ?_
 | refine andThen_normal ?_
 | refine andThen_ret ?_
 | refine AW.condT (by simp only [aeval, PT.get_set, Nat.reduceEqDiff, reduceIte]; rfl) (by first | rfl | decide | assumption) ?_
 | ((first
 | refine AOs.op1E tOK (by with_unfolding_all rfl) ?_
 ); refine Step.mk (by simp only [evOp_move, evOp_assign, evOp_binOp, aeval, ofVal, PT.get_set, Nat.reduceEqDiff, reduceIte, Option.map_some, eq_self, eq32b, e0]; rfl) ?_)
 | fail "stop")
    exact fnPost_ret1 (by first | (simp only [PT.get_set, Nat.reduceEqDiff, reduceIte]; rfl) | simp only [PT.get_set, Nat.reduceEqDiff, reduceIte]) ⟨.inl ⟨rfl, rfl⟩, fun _ _ h => h, Nat.le_refl _⟩
  · by_cases h0 : l = []
    · subst h0
      rw [if_pos rfl] at ha
      simp only [List.length_nil] at e0 ha
      with_reducible repeat' (first
 | refine AW.seq ?_
 | refine AW.region ?_
 | refine AOs.nil ?_
 | refine AW.skip ?_
 | refine AW.ret ?_
 | refine andThen_normal ?_
 | refine AW.condF (by simp only [aeval, PT.get_set, Nat.reduceEqDiff, reduceIte, List.length_nil]; rfl) (by first | rfl | decide | assumption) ?_
 | ((first
 | refine AOs.op1E tOK (by with_unfolding_all rfl) ?_
 ); refine Step.mk (by simp only [evOp_move, evOp_assign, evOp_binOp, evOp_append, aeval, ofVal, PT.get_set, Nat.reduceEqDiff, reduceIte, List.map_cons, List.map_nil, Option.map_some, List.length_nil, eq_self, bs32, eq32a, e0, ha, List.length_nil]; rfl) ?_)
 | fail "stop")
      refine fnPost_ret1 (by first | (simp only [PT.get_set, Nat.reduceEqDiff, reduceIte]; rfl) | simp only [PT.get_set, Nat.reduceEqDiff, reduceIte]) ⟨.inr ⟨H.next, 0, .ex 0, false, [], rfl, by rw [AH.get_alloc, if_pos rfl], rfl, rfl, Nat.le_refl _⟩, fun b x hx => hst.get b x (hwf b x hx) hx, hst.next⟩
    · rw [if_neg h0] at ha
      have hst2 := hst.alloc (.cells false (bytesAV l))
      with_reducible repeat' (first
 | refine AW.seq ?_
 | refine AW.region ?_
 | refine AOs.nil ?_
 | refine AW.skip ?_
 | refine AW.ret ?_
 | refine andThen_normal ?_
 | refine AW.condF (by simp only [aeval, PT.get_set, Nat.reduceEqDiff, reduceIte]; rfl) (by first | rfl | decide | assumption) ?_
 | ((first
 | refine AOs.op1E tOK (by with_unfolding_all rfl) ?_
 ); refine Step.mk (by simp only [evOp_move, evOp_assign, evOp_binOp, evOp_append, aeval, ofVal, PT.get_set, Nat.reduceEqDiff, reduceIte, List.map_cons, List.map_nil, Option.map_some, eq_self, bs32, eq32a, e0, ha]; rfl) ?_)
 | fail "stop")
      refine fnPost_ret1 (by first | (simp only [PT.get_set, Nat.reduceEqDiff, reduceIte]; rfl) | simp only [PT.get_set, Nat.reduceEqDiff, reduceIte]) ⟨.inr ⟨H.next + 1, 0, .lo l.length, false, bytesAV l, rfl, by rw [AH.get_alloc, if_pos (by simp)], by simp [bytesAV_length, List.take_of_length_le], kindV_bytes _ _, Nat.le_refl _⟩, fun b x hx => hst2.get b x (hwf b x hx) hx, hst2.next⟩
end Go.Proofs.YtgihociajfgohaaGreatDoor

open Go Go.AB Go.Proofs
namespace Go.Proofs.YtgihociajfgohaaGreatDoor
set_option maxRecDepth 100000

def DM.readE (M : DM) (n : Nm) : Int := if M.err (nameOK n) ≠ 0 then M.err (nameOK n) else if (getN M.now n).isNone then 6 else 0
def DM.readB (M : DM) (n : Nm) : List UInt8 := if M.err (nameOK n) ≠ 0 then [] else match getN M.now n with
  | none => []
  | some i => (M.file i).1

set_option maxHeartbeats 1000000 in
theorem read20 (N : Nat) (H : AH) {d : Nat} {M : DM} {A : Nat → Prop} {n : Nm} (h : DiskAt H d M A) (ok : M.OK) (hfl : ∀ i, (M.file i).1.length ≤ 1000000000000) :
    AC tC N 0 39 [.ptr d 0, .str n] H fun r K => (∃ bv, r = .tuple [bv, .int .i64 (M.readE n)] ∧ FB K bv (M.readB n)) ∧ DiskAt K d (M.op (nameOK n)) (AddR A H.next K.next) ∧ Apart H K A := by
  refine AC.wf0 fun hwf => ?_
  obtain ⟨φ, nb, sb, cv, v1, v2, h⟩ := h
  refine AC.by (n := 28) (rs := [.tmp 4, .tmp 5]) tOK fn39 rfl rfl rfl rfl ?_
  have e0 : (PT.ofList .leaf 0 [AV.ptr d 0, .str n]).get 0 = some (.ptr d 0) := rfl
  have e1 : (PT.ofList .leaf 0 [AV.ptr d 0, .str n]).get 1 = some (.str n) := rfl
  with_reducible repeat' (first
 | refine AW.seq ?_
 | refine AW.region ?_
 | refine AOs.nil ?_
 | refine andThen_normal ?_
 | ((first
 | refine AOs.op1E tOK (by with_unfolding_all rfl) ?_
 ); refine Step.mk (by simp only [evOp_move, evOp_assign, one_str, aeval, ofVal, PT.get_set, Nat.reduceEqDiff, reduceIte, eq_self, e0, e1, bs37_1]; rfl) ?_)
 | fail "stop")
  have hs1 : Stays H (H.alloc (.cells false [.str n])) := (Stays.refl H).alloc _
  refine AOs.callQ tOK (fs := []) (cs := []) rfl fn72 ok72 rfl (by simp only [List.map_cons, List.map_nil, List.nil_append, List.append_nil, aeval, PT.get_set, Nat.reduceEqDiff, reduceIte] <;> rfl) (CoreAt.op27 N (h.keep (A' := A) (StaysA.of hwf hs1) fun _ => id) ok (strs1 (b := H.next) (n := n) (by rw [AH.get_alloc, if_pos rfl])) (by simp)).wf ?_
  have hall : [n].all nameOK = nameOK n := by simp
  rw [hall]
  rintro r K ⟨⟨rfl, hK, hnx, hrest⟩, hwK⟩
  have hap := Apart.op h hwf hs1 hnx hrest
  have hnx' : K.next = H.next + 1 := hnx
  have hfull : ∀ L : AH, (∀ b x, K.get b = some x → L.get b = some x) → K.next ≤ L.next → DiskAt L d (M.op (nameOK n)) (AddR A H.next L.next) ∧ Apart H L A := fun L h1 h2 =>
    ⟨⟨φ, nb, sb, cv, v1, v2, hK.keep ⟨fun b x hb _ => h1 b x hb, h2⟩ fun b hb => .inl hb⟩, fun b x hb hx => h1 b x (hap.1 b x hb hx), by omega⟩
  by_cases he : M.err (nameOK n) = 0
  · have hcK : K.get d = _ := hK.core
    have hnK : K.get nb = _ := hK.now
    cases hg : getN M.now n with
    | none =>
      have hg' : getN (M.op (nameOK n)).now n = none := hg
      with_reducible repeat' (first
 | refine AW.seq ?_
 | refine AW.region ?_
 | refine AOs.nil ?_
 | refine AW.skip ?_
 | refine AW.ret ?_
 | refine andThen_normal ?_
 | refine andThen_ret ?_
 | refine AW.condT (by simp only [aeval, PT.get_set, Nat.reduceEqDiff, reduceIte, he]; rfl) (by first | rfl | decide | assumption) ?_
 | refine AW.condF (by simp only [aeval, PT.get_set, Nat.reduceEqDiff, reduceIte, he]; rfl) (by first | rfl | decide | assumption) ?_
 | ((first
 | refine AOs.op1E tOK (by with_unfolding_all rfl) ?_
 ); refine Step.mk (by simp only [evOp_move, evOp_assign, evOp_nilCheck, evOp_binOp, evOp_fieldAddr, evOp_load, evOp_lookup, aeval, ofVal, PT.get_set, Nat.reduceEqDiff, reduceIte, cellAt, lookAt, Option.map_some, Option.map_none, abin_neq, decide_true, Bool.not_true, List.getElem?_cons_zero, List.getElem?_cons_succ, Nat.zero_add, eq_self, ld72, lk72, fa75_1, eq85b, e0, e1, he, hcK, hnK, mget_ents, getN_mapE, hg', Option.getD_none]; rfl) ?_)
 | fail "stop")
      refine fnPost_ret2 (by first | (simp only [PT.get_set, Nat.reduceEqDiff, reduceIte]; rfl) | simp only [PT.get_set, Nat.reduceEqDiff, reduceIte]) (by first | (simp only [PT.get_set, Nat.reduceEqDiff, reduceIte]; rfl) | simp only [PT.get_set, Nat.reduceEqDiff, reduceIte]) ⟨⟨.nils, ?_, .inl ⟨rfl, ?_⟩⟩, hfull K (fun _ _ h => h) (Nat.le_refl _)⟩
      · simp [DM.readE, he, hg]
      · simp [DM.readB, he, hg]
    | some i =>
      have hg' : getN (M.op (nameOK n)).now n = some i := hg
      have hi : i < M.files.length := ok.now _ (getN_mem hg)
      obtain ⟨ha, bv, hfc, hfb⟩ := hK.files i _ (DM.file_of (M := M.op (nameOK n)) hi)
      with_reducible repeat' (first
 | refine AW.seq ?_
 | refine AW.region ?_
 | refine AOs.nil ?_
 | refine AW.skip ?_
 | refine andThen_normal ?_
 | refine AW.condF (by simp only [aeval, PT.get_set, Nat.reduceEqDiff, reduceIte, he]; rfl) (by first | rfl | decide | assumption) ?_
 | ((first
 | refine AOs.op1E tOK (by with_unfolding_all rfl) ?_
 ); refine Step.mk (by simp only [evOp_move, evOp_assign, evOp_nilCheck, evOp_binOp, evOp_fieldAddr, evOp_load, evOp_lookup, aeval, ofVal, PT.get_set, Nat.reduceEqDiff, reduceIte, cellAt, lookAt, Option.map_some, abin_neq, decide_true, Bool.not_true, List.getElem?_cons_zero, List.getElem?_cons_succ, Nat.add_zero, Nat.zero_add, eq_self, ld32, ld72, lk72, fa75_1, eq85a, fa87_0, e0, e1, he, hcK, hnK, mget_ents, getN_mapE, hg', Option.getD_some, hfc]; rfl) ?_)
 | fail "stop")
      refine AOs.callQ tOK (fs := []) (cs := []) rfl fn53 ok53 rfl (by simp only [List.map_cons, List.map_nil, List.nil_append, List.append_nil, aeval, PT.get_set, Nat.reduceEqDiff, reduceIte] <;> rfl) (clone37 N K hfb (hfl i)) ?_
      rintro r K2 ⟨h1, h2, h3⟩
      with_reducible repeat' (first
 | refine AOs.nil ?_
 | refine AW.ret ?_
 | refine andThen_normal ?_
 | ((first
 | refine AOs.op1E tOK (by with_unfolding_all rfl) ?_
 ); refine Step.mk (by simp only [evOp_assign, aeval, ofVal, PT.get_set, Nat.reduceEqDiff, reduceIte, eq_self]; rfl) ?_)
 | fail "stop")
      refine fnPost_ret2 (by first | (simp only [PT.get_set, Nat.reduceEqDiff, reduceIte]; rfl) | simp only [PT.get_set, Nat.reduceEqDiff, reduceIte]) (by first | (simp only [PT.get_set, Nat.reduceEqDiff, reduceIte]; rfl) | simp only [PT.get_set, Nat.reduceEqDiff, reduceIte]) ⟨⟨r, ?_, ?_⟩, hfull K2 h2 h3⟩
      · simp [DM.readE, he, hg]
      · simp only [DM.readB, he, hg, ne_eq, not_true_eq_false, if_false]; exact h1
  · with_reducible repeat' (first
 | refine AW.seq ?_
 | refine AW.region ?_
 | refine AOs.nil ?_
 | refine AW.ret ?_
 | refine andThen_normal ?_
 | refine andThen_ret ?_
 | refine AW.condT (by simp only [aeval, PT.get_set, Nat.reduceEqDiff, reduceIte]; rfl) (by first | rfl | decide | assumption) ?_
 | ((first
 | refine AOs.op1E tOK (by with_unfolding_all rfl) ?_
 ); refine Step.mk (by simp only [evOp_move, evOp_assign, evOp_binOp, aeval, ofVal, PT.get_set, Nat.reduceEqDiff, reduceIte, Option.map_some, abin_neq, decide_false, Bool.not_false, eq_self, he]; rfl) ?_)
 | fail "stop")
    refine fnPost_ret2 (by first | (simp only [PT.get_set, Nat.reduceEqDiff, reduceIte]; rfl) | simp only [PT.get_set, Nat.reduceEqDiff, reduceIte]) (by first | (simp only [PT.get_set, Nat.reduceEqDiff, reduceIte]; rfl) | simp only [PT.get_set, Nat.reduceEqDiff, reduceIte]) ⟨⟨.nils, ?_, .inl ⟨rfl, ?_⟩⟩, hfull K (fun _ _ h => h) (Nat.le_refl _)⟩
    · simp [DM.readE, he]
    · simp [DM.readB, he]

theorem FB.str {H : AH} {v : AV} {l : List UInt8} (h : FB H v l) : aToString H v = some (.str l) := h.bytes.str


end Go.Proofs.YtgihociajfgohaaGreatDoor

open Go Go.AB Go.Proofs
namespace Go.Proofs.YtgihociajfgohaaGreatDoor
set_option maxRecDepth 100000

/-- Changes one behind the other. -/
def doAll (l : List Note) (E : Ents) : Ents := l.foldl (fun E nt => nt.do E) E
theorem doAll_succ {l : List Note} {i : Nat} {nt : Note} (h : l[i]? = some nt) (E : Ents) : doAll (l.take (i + 1)) E = nt.do (doAll (l.take i) E) := by
  rw [List.take_add_one, h]; simp [doAll, List.foldl_append]

/-- The first changes are safe. -/
def DM.keep (M : DM) (n : Nat) : DM := { M with sf := doAll (M.notes.take n) M.sf, notes := [] }

theorem sl73n : aslice tC 73 .nils none (some (.int .i64 0)) none = some .nils := aslice_hiNil ti73 rfl ti104
theorem sl73h {x o len c n : Nat} (hn : n ≤ c) : aslice tC 73 (.slice x o len (.lo c) 1) none (some (.int .i64 (n : Int))) none = some (.slice x o n (.lo c) 1) := aslice_hi ti73 rfl ti104 rfl hn

set_option maxHeartbeats 1000000 in
theorem keep32 (N : Nat) (H : AH) {d : Nat} {φ : Nat → Nat} {M : DM} {A : Nat → Prop} {nb sb : Nat} {cv : AV} {v1 v2 : Nat} (h : DA H d φ M A nb sb cv v1 v2) {n : Nat} (hn : n ≤ M.notes.length) (hlen : M.notes.length ≤ 1000000) :
    AC tC N 0 50 [.ptr d 0, .int .i64 (n : Int)] H fun r K => ∃ v2', DA K d φ (M.keep n) A nb sb .nils v1 v2' ∧ H.next ≤ K.next ∧ ∀ b, b ≠ d → b ≠ sb → K.get b = H.get b := by
  refine AC.wf0 fun hwf => ?_
  refine AC.by (n := 27) (rs := []) tOK fn50 rfl rfl rfl rfl ?_
  have e0 : (PT.ofList .leaf 0 [AV.ptr d 0, .int .i64 (n : Int)]).get 0 = some (.ptr d 0) := rfl
  have e1 : (PT.ofList .leaf 0 [AV.ptr d 0, .int .i64 (n : Int)]).get 1 = some (.int .i64 (n : Int)) := rfl
  have hc : H.get d = _ := h.core
  have hck := core_kind (room := M.room) (nb := nb) (sb := sb) (fuse := M.fuse) (off := M.off) h.notes
  have hds : d ≠ sb := ne_of_kind hc h.sf (by rw [kind_map, hck]; decide)
  have hdn : d ≠ nb := ne_of_kind hc h.now (by rw [kind_map, hck]; decide)
  obtain ⟨cv', hsl, hln, hat⟩ : ∃ cv', aslice tC 73 cv none (some (.int .i64 (n : Int))) none = some cv' ∧ lenOfAV cv' = some n ∧
      ∀ (i : Nat) nt, i < n → M.notes[i]? = some nt → ∃ cb c fv ws, cv' = .slice cb 0 n c 1 ∧ H.get cb = some (.cells false ws) ∧ cb ≠ sb ∧ ws[i]? = some fv ∧ NoteAt H fv (nt.at φ) := by
    have hl := h.notes
    rcases hl with ⟨hcv, hl⟩ | ⟨cb, ws, hcv, h0, h1, h2, h3⟩
    · have : M.notes.length = 0 := by simpa using congrArg List.length hl
      obtain rfl : n = 0 := by omega
      refine ⟨.nils, by rw [hcv]; exact sl73n, rfl, fun i nt hi => by omega⟩
    · simp only [List.length_map] at hcv h2
      refine ⟨.slice cb 0 n (.lo M.notes.length) 1, by rw [hcv]; exact sl73h hn, rfl, fun i nt hi hnt => ?_⟩
      obtain ⟨fv, h4, h5⟩ := h3 i (nt.at φ) (by rw [List.getElem?_map, hnt]; rfl)
      obtain ⟨ws', h6, h7⟩ := h.notes.ofKind hcv
      rw [h1] at h6; cases h6
      exact ⟨cb, _, fv, ws, rfl, h1, ne_of_kind h1 h.sf (by rw [kind_map, h7]; decide), h4, h5⟩
  with_reducible repeat' (first
 | refine AW.seq ?_
 | refine AW.region ?_
 | refine AW.block ?_
 | refine AOs.nil ?_
 | refine andThen_normal ?_
 | ((first
 | refine AOs.op1E tOK (by with_unfolding_all rfl) ?_
 ); refine Step.mk (by simp only [evOp_move, evOp_nilCheck, evOp_fieldAddr, evOp_load, evOp_len, evOp_slice, aeval, ofVal, PT.get_set, Nat.reduceEqDiff, reduceIte, cellAt, Option.map_some, Option.map_none, List.getElem?_cons_zero, List.getElem?_cons_succ, Nat.zero_add, eq_self, al73, ld73, fa75_3, e0, e1, hc, hsl, hln]; rfl) ?_)
 | fail "stop")
  refine AW.loop (fun m T K => H.next ≤ K.next ∧ (∀ b, b ≠ sb → K.get b = H.get b) ∧ T.get 0 = some (.ptr d 0) ∧ T.get 11 = some cv' ∧ T.get 12 = some (.int .i64 (n : Int)) ∧
      ∃ i v : Nat, i ≤ n ∧ m = n - i ∧ T.get 13 = some (.int .i64 (i : Int)) ∧ K.get sb = some (.map (ents (mapE φ (doAll (M.notes.take i) M.sf))) v) ∧ v < K.next) ?_ (n - 0)
    ⟨Nat.le_refl _, fun _ _ => rfl, by simp [PT.get_set, e0], by simp [PT.get_set], by simp [PT.get_set], 0, v2, by omega, rfl, by simp [PT.get_set], h.sf, h.ver2⟩
  rintro m T K ⟨hnx, hk, g0, g11, g12, i, v, hi, rfl, g13, hsb, hv⟩
  have hcK : K.get d = _ := (hk d hds).trans hc
  by_cases hlt : i < n
  · have hd := lt_int hlt
    obtain ⟨nt, hnt⟩ : ∃ nt, M.notes[i]? = some nt := ⟨_, List.getElem?_eq_getElem (by omega)⟩
    obtain ⟨cb, c, fv, ws, rfl, hcb, hcs, hws, hfv⟩ := hat i nt hlt hnt
    have hcbK := (hk cb hcs).trans hcb
    have hws1 : ws[i * 1]? = some fv := by rw [Nat.mul_one]; exact hws
    have hfvK : NoteAt K fv (nt.at φ) := hfv.keep fun b x hb hx => hk b (ne_of_kind hb h.sf (by rw [kind_map, hx]; decide))
    obtain ⟨f, cs, g, rfl, hfn, hok, hac⟩ := note_do N K hsb hv hfvK
    with_reducible repeat' (first
 | refine AW.seq ?_
 | refine AW.region ?_
 | refine AW.block ?_
 | refine AOs.nil ?_
 | refine AW.skip ?_
 | refine andThen_normal ?_
 | refine AW.condT (by simp only [aeval, PT.get_set, reduceIte]; rfl) (by first | rfl | decide | assumption) ?_
 | ((first
 | refine AOs.op1E tOK (by with_unfolding_all rfl) ?_
 ); refine Step.mk (by simp only [evOp_move, evOp_assign, evOp_nilCheck, evOp_binOp, evOp_fieldAddr, evOp_indexAddr, evOp_load, aeval, PT.get_set, Nat.reduceEqDiff, reduceIte, cellAt, Option.map_some, abin_lss, List.getElem?_cons_zero, List.getElem?_cons_succ, Nat.zero_add, eq_self, ld72, ix73, fa75_2, ld104, g0, g11, g12, g13, hd, hlt, hcbK, hws1, hcK]; rfl) ?_)
 | fail "stop")
    refine AOs.callQ tOK (fs := []) (cs := cs) (by simp only [aeval, PT.get_set, Nat.reduceEqDiff, reduceIte]) hfn hok rfl (by simp only [List.map_cons, List.map_nil, List.nil_append, List.cons_append, aeval, PT.get_set, Nat.reduceEqDiff, reduceIte] <;> rfl) hac ?_
    rintro r K2 ⟨⟨v', hm', hv'⟩, hnx2, hk2⟩
    with_reducible repeat' (first
 | refine AW.region ?_
 | refine AOs.nil ?_
 | refine andThen_normal ?_
 | refine inBlock_normal ?_
 | ((first
 | refine AOs.op1E tOK (by with_unfolding_all rfl) ?_
 ); refine Step.mk (by simp only [evOp_move, evOp_binOp, aeval, ofVal, PT.get_set, Nat.reduceEqDiff, reduceIte, Option.map_some, abin_add, eq_self, g13]; rfl) ?_)
 | fail "stop")
    refine ⟨n - (i + 1), by omega, by omega, fun b hb => (hk2 b hb).trans (hk b hb), by simp only [PT.get_set, Nat.reduceEqDiff, reduceIte, g0], by simp only [PT.get_set, Nat.reduceEqDiff, reduceIte, g11], by simp only [PT.get_set, Nat.reduceEqDiff, reduceIte, g12], i + 1, v', by omega, rfl, ?_, ?_, hv'⟩
    · simp only [PT.get_set, Nat.reduceEqDiff, reduceIte, wrap64_succ (show i < 9223372036854775807 by omega)]
    · rw [hm', do_mapE, doAll_succ hnt]
  · have hd := nlt_int hlt
    obtain rfl : i = n := by omega
    with_reducible repeat' (first
 | refine AW.seq ?_
 | refine AW.region ?_
 | refine AOs.nil ?_
 | refine AW.exit ?_
 | refine andThen_normal ?_
 | refine andThen_exit ?_
 | refine inBlock_hit ?_
 | refine AW.condF (by simp only [aeval, PT.get_set, reduceIte]; rfl) (by first | rfl | decide | assumption) ?_
 | ((first
 | refine AOs.op1E tOK (by with_unfolding_all rfl) ?_
 | refine AOs.op0E tOK ?_
 ); refine Step.mk (by simp only [evOp_move, evOp_nilCheck, evOp_binOp, evOp_fieldAddr, evOp_store, storeAt, one_nils, aeval, ofVal, PT.get_set, Nat.reduceEqDiff, reduceIte, Option.map_some, abin_lss, Nat.zero_add, Nat.reduceLT, Nat.reduceAdd, List.length_cons, List.length_nil, List.set_cons_zero, List.set_cons_succ, eq_self, st73, fa75_3, g0, g12, g13, hd, hcK]; rfl) ?_)
 | fail "stop")
    have hall : ∀ b, b ≠ d → b ≠ sb → (K.set d (.cells false [.int .i64 M.room, .map nb, .map sb, .nils, .int .i64 M.fuse, .bool M.off])).get b = H.get b := fun b h1 h2 => by
      rw [AH.get_set, if_neg h1]; exact hk b h2
    have hst : ∀ b x, H.get b = some x → kind x ≠ 0 → kind x ≠ 1 → (K.set d (.cells false [.int .i64 M.room, .map nb, .map sb, .nils, .int .i64 M.fuse, .bool M.off])).get b = some x := fun b x hb k0 k1 => by
      rw [hall b (h.neD hb k0) (ne_of_kind hb h.sf (by rw [kind_map]; exact k1))]; exact hb
    refine fnPost_normal (show _ = some ([] : List AV) from rfl) ⟨v, ?_, hnx, hall⟩
    exact {
      core := by show AH.get _ d = _; rw [AH.get_set, if_pos rfl]; rfl
      now := by rw [hall nb hdn.symm h.ne]; exact h.now
      ver1 := Nat.lt_of_lt_of_le h.ver1 hnx
      sf := by rw [AH.get_set, if_neg hds.symm]; exact hsb
      ver2 := hv
      notes := .inl ⟨rfl, rfl⟩
      ne := h.ne
      ad := h.ad
      an := h.an
      asf := h.asf
      ac := fun b o n c z e => by cases e
      files := fun j p hj => by
        obtain ⟨a1, bv, a2, a3⟩ := h.files j p hj
        have hk5 := a3.ofKind (p.2 : Nat)
        exact ⟨a1, bv, hst _ _ a2 (by rw [hk5]; decide) (by rw [hk5]; decide), a3.keep fun b x hb hx => hst b x hb (by omega) (by omega)⟩
      inj := h.inj }

def DM.syncNames (M : DM) : Int × DM :=
  if M.err true ≠ 0 then (M.err true, M.op true) else (0, (M.op true).keep M.notes.length)

theorem strs0 (H : AH) : StrsAt H .nils [] := .inl ⟨rfl, rfl⟩

theorem Apart.keep {H K : AH} {d : Nat} {φ : Nat → Nat} {M : DM} {A : Nat → Prop} {nb sb : Nat} {cv : AV} {v1 v2 : Nat} (h : DA H d φ M A nb sb cv v1 v2) (hn : H.next ≤ K.next) (hk : ∀ b, b ≠ d → b ≠ sb → K.get b = H.get b) : Apart H K A :=
  ⟨fun b x hb hx => by
    have h1 : b ≠ d := by
      rcases hx with hx | hx
      · exact fun e => hx (by rw [e]; exact h.ad)
      · exact h.neD hb (by omega)
    have h2 : b ≠ sb := by
      rcases hx with hx | hx
      · exact fun e => hx (by rw [e]; exact h.asf)
      · exact ne_of_kind hb h.sf (by rw [kind_map]; omega)
    rw [hk b h1 h2]; exact hb, hn⟩

theorem NotesAt.len {H : AH} {cv : AV} {l : List Note} (h : NotesAt H cv l) : lenOfAV cv = some l.length := by
  rcases h with ⟨rfl, rfl⟩ | ⟨cb, ws, rfl, _⟩ <;> rfl

set_option maxHeartbeats 1000000 in
theorem syncNames12 (N : Nat) (H : AH) {d : Nat} {M : DM} {A : Nat → Prop} (h : DiskAt H d M A) (ok : M.OK) (hlen : M.notes.length ≤ 1000000) :
    AC tC N 0 71 [.ptr d 0] H fun r K => r = .int .i64 M.syncNames.1 ∧ DiskAt K d M.syncNames.2 (AddR A H.next K.next) ∧ Apart H K A := by
  refine AC.wf0 fun hwf => ?_
  obtain ⟨φ, nb, sb, cv, v1, v2, h⟩ := h
  refine AC.by (n := 16) (rs := [.tmp 2]) tOK fn71 rfl rfl rfl rfl ?_
  have e0 : (PT.ofList .leaf 0 [AV.ptr d 0]).get 0 = some (.ptr d 0) := rfl
  with_reducible repeat' (first
 | refine AW.seq ?_
 | refine AW.region ?_
 | refine AOs.nil ?_
 | refine andThen_normal ?_
 | ((first
 | refine AOs.op1E tOK (by with_unfolding_all rfl) ?_
 ); refine Step.mk (by simp only [evOp_move, evOp_assign, aeval, ofVal, PT.get_set, Nat.reduceEqDiff, reduceIte, e0]; rfl) ?_)
 | fail "stop")
  refine AOs.callQ tOK (fs := []) (cs := []) rfl fn72 ok72 rfl (by simp only [List.map_cons, List.map_nil, List.nil_append, List.append_nil, aeval, ofVal, PT.get_set, Nat.reduceEqDiff, reduceIte] <;> rfl) (CoreAt.op27 N h ok (strs0 H) (by simp)).wf ?_
  have hall : [].all nameOK = true := rfl
  rw [hall]
  rintro r K ⟨⟨rfl, hK, hnx, hrest⟩, hwK⟩
  have hap := Apart.op h hwf (Stays.refl H) hnx hrest
  by_cases he : M.err true = 0
  · have hcK : K.get d = _ := hK.core
    have hcl := hK.notes.len
    rw [List.length_map] at hcl
    with_reducible repeat' (first
 | refine AW.seq ?_
 | refine AW.region ?_
 | refine AOs.nil ?_
 | refine AW.skip ?_
 | refine andThen_normal ?_
 | refine AW.condF (by simp only [aeval, PT.get_set, Nat.reduceEqDiff, reduceIte, he]; rfl) (by first | rfl | decide | assumption) ?_
 | ((first
 | refine AOs.op1E tOK (by with_unfolding_all rfl) ?_
 ); refine Step.mk (by simp only [evOp_move, evOp_assign, evOp_nilCheck, evOp_binOp, evOp_fieldAddr, evOp_load, evOp_len, aeval, ofVal, PT.get_set, Nat.reduceEqDiff, reduceIte, cellAt, Option.map_some, abin_neq, decide_true, Bool.not_true, List.getElem?_cons_zero, List.getElem?_cons_succ, Nat.zero_add, eq_self, al73, ld73, fa75_3, e0, he, hcK, hcl]; rfl) ?_)
 | fail "stop")
    refine AOs.callQ tOK (fs := []) (cs := []) rfl fn50 ok50 rfl (by simp only [List.map_cons, List.map_nil, List.nil_append, List.append_nil, aeval, PT.get_set, Nat.reduceEqDiff, reduceIte] <;> rfl) (keep32 N K hK (n := M.notes.length) (Nat.le_refl _) hlen) ?_
    rintro r K2 ⟨v2', hK2, hnx2, hk2⟩
    with_reducible repeat' (first
 | refine AW.seq ?_
 | refine AW.region ?_
 | refine AOs.nil ?_
 | refine AW.ret ?_
 | refine andThen_normal ?_
 | ((first
 | refine AOs.op1E tOK (by with_unfolding_all rfl) ?_
 ); refine Step.mk (by simp only [evOp_assign, aeval, ofVal]; rfl) ?_)
 | fail "stop")
    refine fnPost_ret1 (by first | (simp only [PT.get_set, Nat.reduceEqDiff, reduceIte]; rfl) | simp only [PT.get_set, Nat.reduceEqDiff, reduceIte]) ⟨?_, ?_, ?_⟩
    · simp [DM.syncNames, he]
    · simp only [DM.syncNames, he, ne_eq, not_true_eq_false, if_false]
      exact ⟨φ, nb, sb, .nils, v1, v2', hK2.keep ⟨fun _ _ h _ => h, Nat.le_refl _⟩ fun b hb => .inl hb⟩
    · have h2 := Apart.keep hK hnx2 hk2
      exact ⟨fun b x hb hx => h2.1 b x (hap.1 b x hb hx) hx, Nat.le_trans hap.2 h2.2⟩
  · with_reducible repeat' (first
 | refine AW.seq ?_
 | refine AW.region ?_
 | refine AOs.nil ?_
 | refine AW.ret ?_
 | refine andThen_normal ?_
 | refine andThen_ret ?_
 | refine AW.condT (by simp only [aeval, PT.get_set, Nat.reduceEqDiff, reduceIte]; rfl) (by first | rfl | decide | assumption) ?_
 | ((first
 | refine AOs.op1E tOK (by with_unfolding_all rfl) ?_
 ); refine Step.mk (by simp only [evOp_move, evOp_assign, evOp_binOp, aeval, ofVal, PT.get_set, Nat.reduceEqDiff, reduceIte, Option.map_some, abin_neq, decide_false, Bool.not_false, eq_self, he]; rfl) ?_)
 | fail "stop")
    refine fnPost_ret1 (by first | (simp only [PT.get_set, Nat.reduceEqDiff, reduceIte]; rfl) | simp only [PT.get_set, Nat.reduceEqDiff, reduceIte]) ⟨?_, ?_, hap⟩
    · simp [DM.syncNames, he]
    · simp only [DM.syncNames, he, ne_eq, not_false_eq_true, if_true]
      exact ⟨φ, nb, sb, cv, v1, v2, hK.keep ⟨fun _ _ h _ => h, Nat.le_refl _⟩ fun b hb => .inl hb⟩
end Go.Proofs.YtgihociajfgohaaGreatDoor
