/- Log: the table of sums, sums, bytes put together; no condition. -/
import Derived.Test.YtgihociajfgohaaGreatDoorDisk1
import Derived.Test.YtgihociajfgohaaGreatDoorHeap6
import Derived.Test.YtgihociajfgohaaGreatDoorDisk3
set_option linter.unusedSimpArgs false
set_option linter.unusedVariables false
open Go Go.AB Go.Proofs
namespace Go.Proofs.YtgihociajfgohaaGreatDoor

/-- One step of a byte's. -/
def st (n : Nat) : Nat := if n % 2 = 1 then n / 2 ^^^ 2197175160 else n / 2
def stN : Nat → Nat → Nat
  | 0, n => n
  | j + 1, n => st (stN j n)
theorem st_lt {n : Nat} (h : n < 4294967296) : st n < 4294967296 := by
  unfold st
  split
  · exact Nat.xor_lt_two_pow (n := 32) (by omega) (by decide)
  · omega
theorem stN_lt : ∀ (j : Nat) {n : Nat}, n < 4294967296 → stN j n < 4294967296
  | 0, _, h => h
  | j + 1, _, h => st_lt (stN_lt j h)

def tabAV (n : Nat) : AV := .int .u32 ((stN 8 n : Nat) : Int)
def rowAV (i : Nat) : List AV := (List.range i).map tabAV ++ List.replicate (256 - i) (.int .u32 0)
theorem rowAV_length {i : Nat} (h : i ≤ 256) : (rowAV i).length = 256 := by simp [rowAV]; omega
theorem rowAV_set {i : Nat} (h : i < 256) : (rowAV i).set i (tabAV i) = rowAV (i + 1) := by
  unfold rowAV
  rw [List.set_append_right _ _ (by simp), List.range_succ, List.map_append, List.append_assoc]
  congr 1
  simp only [List.length_map, List.length_range, Nat.sub_self, List.map_cons, List.map_nil]
  rw [show 256 - i = (256 - (i + 1)) + 1 by omega, List.replicate_succ]
  simp
theorem row_all (i : Nat) : allOne (rowAV i) = true := by
  have h1 : ∀ l : List AV, (∀ a ∈ l, a.one = true) → allOne l = true := by
    intro l
    induction l with
    | nil => intro _; rfl
    | cons a l ih => intro h; simp only [allOne, h a (by simp), ih fun b hb => h b (by simp [hb]), Bool.and_true]
  refine h1 _ fun a ha => ?_
  unfold rowAV at ha
  rcases List.mem_append.1 ha with ha | ha
  · obtain ⟨n, _, rfl⟩ := List.mem_map.1 ha; rfl
  · obtain ⟨_, rfl⟩ := List.mem_replicate.1 ha; rfl

set_option maxHeartbeats 2000000 in
set_option maxRecDepth 100000 in
theorem table98 (N : Nat) (H : AH) : AC tC N 0 98 [] H fun r _ => r = .agg ((List.range 256).map tabAV) := by
  refine AC.by (n := 26) (rs := [.cell 0 119]) tOK fn98 rfl rfl rfl rfl ?_
  have hz : (AV.agg (List.replicate 256 (.int .u32 0))).cells = rowAV 0 := rfl
  have hal : ∀ (K : AH) (ev : Operand → AV) (d : Nat) (ty : TypeId) (pos : String) (after : Array Edge), evOp tC F0 K ev { dst := some d, op := .alloc 119, type := ty, pos, after, guard := none } = some (.ptr K.next 0, K.alloc (.cells false (rowAV 0))) := fun K ev d ty pos after => evOp_alloc ti119 rfl rfl
  with_reducible repeat' (first
 | refine AW.seq ?_
 | refine AW.region ?_
 | refine AW.block ?_
 | refine AOs.nil ?_
 | refine andThen_normal ?_
 | ((first
 | refine AOs.op1E tOK (by with_unfolding_all rfl) ?_
 ); refine Step.mk (by simp only [evOp_move, aeval, ofVal, hal]; rfl) ?_)
 | fail "stop")
  have hz0 : (rowAV 0).length = 256 := rowAV_length (by omega)
  -- outer loop
  refine AW.loop (fun m T K => T.get 0 = some (.ptr H.next 0) ∧ T.get 1 = some (.ptr (H.next + 1) 0) ∧ ∃ i : Nat, i ≤ 256 ∧ m = 256 - i ∧ T.get 5 = some (.int .i64 i) ∧ K.get (H.next + 1) = some (.cells false (rowAV i)) ∧ K.get H.next = some (.cells false (rowAV 0))) ?_ (256 - 0)
    ⟨by simp [PT.get_set], by simp [PT.get_set], 0, by omega, rfl, by simp [PT.get_set], by simp [AH.get_alloc], by simp [AH.get_alloc]⟩
  rintro m T K ⟨h0, h1, i, hi, rfl, h5, hk1, hk0⟩
  by_cases hlt : i < 256
  · have hd : decide ((i : Int) < 256) = true := by simp; omega
    have hcv : IntKind.wrap .u32 (i : Int) = ((stN 0 i : Nat) : Int) := wrapU32 (by omega)
    with_reducible repeat' (first
 | refine AW.seq ?_
 | refine AW.region ?_
 | refine AW.block ?_
 | refine AOs.nil ?_
 | refine AW.skip ?_
 | refine andThen_normal ?_
 | refine AW.condT (by simp only [aeval, PT.get_set, reduceIte]; rfl) (by first | rfl | decide | assumption) ?_
 | ((first
 | refine AOs.op1E tOK (by with_unfolding_all rfl) ?_
 ); refine Step.mk (by simp only [evOp_move, evOp_assign, evOp_binOp, evOp_convert, aeval, ofVal, PT.get_set, Nat.reduceEqDiff, reduceIte, Option.map_some, abin_lss, eq_self, cv3_96, h5, hd, hcv]; rfl) ?_)
 | fail "stop")
    -- inner loop
    refine AW.loop (fun m T' K' => K' = K ∧ T'.get 0 = some (.ptr H.next 0) ∧ T'.get 1 = some (.ptr (H.next + 1) 0) ∧ T'.get 2 = some (.int .i64 i) ∧ T'.get 5 = some (.int .i64 i) ∧ ∃ j : Nat, j ≤ 8 ∧ m = 8 - j ∧ T'.get 10 = some (.int .i64 j) ∧ T'.get 3 = some (.int .u32 ((stN j i : Nat) : Int))) ?_ (8 - 0)
      ⟨rfl, by simp [PT.get_set, h0], by simp [PT.get_set, h1], by simp [PT.get_set], by simp [PT.get_set, h5], 0, by omega, rfl, by simp [PT.get_set], by simp [PT.get_set]⟩
    rintro m T K' ⟨rfl, g0, g1, g2, g5, j, hj, rfl, g10, g3⟩
    have hx := stN_lt j (show i < 4294967296 by omega)
    have hx2 : stN j i / 2 < 4294967296 := by omega
    have hand : ∀ cst, abin tC .and 96 cst (.int .u32 ((stN j i : Nat) : Int)) (.int .u32 1) = some (.int .u32 ((stN j i % 2 : Nat) : Int)) := fun cst => by
      have := abin_and32 (C := tC) (t := 96) (cst := cst) (m := 1) hx (by decide)
      rw [Nat.and_one_is_mod] at this
      exact this
    have hshr : ∀ cst k', abin tC .shr 96 cst (.int .u32 ((stN j i : Nat) : Int)) (.int k' 1) = some (.int .u32 ((stN j i / 2 : Nat) : Int)) := fun cst k' => by
      have := abin_shr (C := tC) (t := 96) (cst := cst) (n := stN j i) (m := 1) (k := .u32) (k' := k') (by decide)
      simpa using this
    have hxor : ∀ cst, abin tC .xor 96 cst (.int .u32 ((stN j i / 2 : Nat) : Int)) (.int .u32 2197175160) = some (.int .u32 ((stN j i / 2 ^^^ 2197175160 : Nat) : Int)) := fun cst =>
      abin_xor32 (C := tC) (t := 96) (cst := cst) (m := 2197175160) hx2 (by decide)
    by_cases hjl : j < 8
    · have hjd : decide ((j : Int) < 8) = true := by simp; omega
      by_cases ho : stN j i % 2 = 1
      · have hod : decide (((stN j i % 2 : Nat) : Int) = 1) = true := by rw [ho]; rfl
        with_reducible repeat' (first
 | refine AW.seq ?_
 | refine AW.region ?_
 | refine AW.block ?_
 | refine AOs.nil ?_
 | refine AW.skip ?_
 | refine andThen_normal ?_
 | refine inBlock_normal ?_
 | refine AW.condT (by simp only [aeval, PT.get_set, Nat.reduceEqDiff, reduceIte]; rfl) (by first | rfl | decide | assumption) ?_
 | ((first
 | refine AOs.op1E tOK (by with_unfolding_all rfl) ?_
 ); refine Step.mk (by simp only [evOp_move, evOp_assign, evOp_binOp, aeval, ofVal, PT.get_set, Nat.reduceEqDiff, reduceIte, Option.map_some, abin_add, abin_lss, abin_eql, eq_self, g3, g10, hjd, hand, hshr, hxor, hod]; rfl) ?_)
 | fail "stop")
        refine ⟨8 - (j + 1), by omega, rfl, by simp [PT.get_set, g0], by simp [PT.get_set, g1], by simp [PT.get_set, g2], by simp [PT.get_set, g5], j + 1, by omega, rfl, ?_, ?_⟩
        · simp only [PT.get_set, Nat.reduceEqDiff, reduceIte, wrap64_succ (show j < 9223372036854775807 by omega)]
        · simp only [PT.get_set, Nat.reduceEqDiff, reduceIte, stN, st, ho]
      · have hod : decide (((stN j i % 2 : Nat) : Int) = 1) = false := by simp; omega
        with_reducible repeat' (first
 | refine AW.seq ?_
 | refine AW.region ?_
 | refine AW.block ?_
 | refine AOs.nil ?_
 | refine AW.skip ?_
 | refine andThen_normal ?_
 | refine inBlock_normal ?_
 | refine AW.condT (by simp only [aeval, PT.get_set, Nat.reduceEqDiff, reduceIte]; rfl) (by first | rfl | decide | assumption) ?_
 | refine AW.condF (by simp only [aeval, PT.get_set, Nat.reduceEqDiff, reduceIte]; rfl) (by first | rfl | decide | assumption) ?_
 | ((first
 | refine AOs.op1E tOK (by with_unfolding_all rfl) ?_
 ); refine Step.mk (by simp only [evOp_move, evOp_assign, evOp_binOp, aeval, ofVal, PT.get_set, Nat.reduceEqDiff, reduceIte, Option.map_some, abin_add, abin_lss, abin_eql, eq_self, g3, g10, hjd, hand, hshr, hod]; rfl) ?_)
 | fail "stop")
        refine ⟨8 - (j + 1), by omega, rfl, by simp [PT.get_set, g0], by simp [PT.get_set, g1], by simp [PT.get_set, g2], by simp [PT.get_set, g5], j + 1, by omega, rfl, ?_, ?_⟩
        · simp only [PT.get_set, Nat.reduceEqDiff, reduceIte, wrap64_succ (show j < 9223372036854775807 by omega)]
        · simp only [PT.get_set, Nat.reduceEqDiff, reduceIte, stN, st, ho]
    · have hjd : decide ((j : Int) < 8) = false := by simp; omega
      obtain rfl : j = 8 := by omega
      have hlen := rowAV_length hi
      have hin : i * 1 < (rowAV i).length := by omega
      with_reducible repeat' (first
 | refine AW.seq ?_
 | refine AW.region ?_
 | refine AOs.nil ?_
 | refine AW.exit ?_
 | refine andThen_normal ?_
 | refine andThen_exit ?_
 | refine inBlock_normal ?_
 | refine inBlock_hit ?_
 | refine AW.condF (by simp only [aeval, PT.get_set, reduceIte]; rfl) (by first | rfl | decide | assumption) ?_
 | ((first
 | refine AOs.op1E tOK (by with_unfolding_all rfl) ?_
 | refine AOs.op0E tOK ?_
 ); refine Step.mk (by simp only [evOp_move, evOp_binOp, evOp_indexAddr, evOp_store, storeAt, one_int, aeval, ofVal, PT.get_set, Nat.reduceEqDiff, reduceIte, Option.map_some, abin_add, abin_lss, decide_false, Nat.zero_add, eq_self, Int.cast_ofNat_Int, Int.reduceLT, st96, ix119, g1, g2, g3, g5, g10, hlt, hk1, hin]; rfl) ?_)
 | fail "stop")
      refine ⟨256 - (i + 1), by omega, by simp [PT.get_set, g0], by simp [PT.get_set, g1], i + 1, by omega, rfl, ?_, ?_, ?_⟩
      · simp only [PT.get_set, Nat.reduceEqDiff, reduceIte, wrap64_succ (show i < 9223372036854775807 by omega)]
      · rw [AH.get_set, if_pos rfl, Nat.mul_one, ← rowAV_set hlt]; rfl
      · rw [AH.get_set, if_neg (by omega)]; exact hk0
  · have hd : decide ((i : Int) < 256) = false := by simp; omega
    obtain rfl : i = 256 := by omega
    have hlen := rowAV_length hi
    have h256 : ((rowAV 256).drop 0).take 256 = rowAV 256 := by rw [List.drop_zero, List.take_of_length_le (by omega)]
    have hst : astore tC K 119 (.ptr H.next 0) (.agg (rowAV 256)) = some (K.set H.next (.cells false (splice (rowAV 0) 0 (rowAV 256)))) := astore_agg ti119 hk0 (by rw [hlen]) (row_all _) (by rw [hlen, hz0]; omega)
    with_reducible repeat' (first
 | refine AW.seq ?_
 | refine AW.region ?_
 | refine AOs.nil ?_
 | refine AW.exit ?_
 | refine AW.ret ?_
 | refine andThen_normal ?_
 | refine andThen_exit ?_
 | refine inBlock_hit ?_
 | refine AW.condF (by simp only [aeval, PT.get_set, reduceIte]; rfl) (by first | rfl | decide | assumption) ?_
 | ((first
 | refine AOs.op1E tOK (by with_unfolding_all rfl) ?_
 | refine AOs.op0E tOK ?_
 ); refine Step.mk (by simp only [evOp_binOp, evOp_load, evOp_store, aeval, ofVal, PT.get_set, Nat.reduceEqDiff, reduceIte, cellsAt, Option.map_some, abin_lss, cond_true, decide_true, decide_false, nbeq, eq_self, Int.cast_ofNat_Int, Int.reduceLT, ld119, h0, h1, h5, hk1, h256, hlen, hst]; rfl) ?_)
 | fail "stop")
    have hsp : splice (rowAV 0) 0 (rowAV 256) = rowAV 256 := by
      unfold splice
      rw [List.take_zero, List.nil_append, List.drop_of_length_le (by rw [hlen, hz0]; omega), List.append_nil]
    refine fnPost_ret (show _ = some [AV.agg (rowAV 256)] from ?_) ?_
    · have e0 : PT.get (((T.set 6 (AV.bool false)).set 25 (AV.agg (rowAV 256)))) 0 = some (.ptr H.next 0) := by simp [PT.get_set, h0]
      simp only [aresults, aresult, e0, ld119, cellsAt, AH.get_set, if_true, hsp, h256, hlen, nbeq, decide_true, cond_true]
    · simp [one, rowAV]
end Go.Proofs.YtgihociajfgohaaGreatDoor

open Go Go.AB Go.Proofs
namespace Go.Proofs.YtgihociajfgohaaGreatDoor
set_option maxRecDepth 100000

def tabV : AV := .agg ((List.range 256).map tabAV)
theorem plainVs_of : ∀ l : List AV, (∀ a ∈ l, a.plainV = true) → AV.plainVs l = true
  | [], _ => rfl
  | a :: l, h => by
    simp only [AV.plainVs]
    rw [h a (by simp), plainVs_of l fun b hb => h b (by simp [hb])]; rfl
theorem tabV_plain : tabV.plainV = true := by
  show AV.plainVs _ = true
  refine plainVs_of _ fun a ha => ?_
  obtain ⟨n, _, rfl⟩ := List.mem_map.1 ha; rfl
theorem table_const (N : Nat) (H : AH) : AC tC N 0 98 [] H fun r K => r = tabV ∧ K = H := const_of tabV_plain (fun N => table98 N H0) N 0 H

/-- A byte is summed. -/
def crcStep (x : Nat) (c : UInt8) : Nat := x / 256 ^^^ stN 8 (x % 256 ^^^ c.toNat)
def crcFold (l : List UInt8) (x : Nat) : Nat := l.foldl crcStep x
def crcM (l : List UInt8) : Nat := 4294967295 ^^^ crcFold l 4294967295
theorem byte_xor (x : Nat) (c : UInt8) : x % 256 ^^^ c.toNat < 256 := Nat.xor_lt_two_pow (n := 8) (Nat.mod_lt _ (by omega)) c.toNat_lt
theorem crcStep_lt {x : Nat} (h : x < 4294967296) (c : UInt8) : crcStep x c < 4294967296 :=
  Nat.xor_lt_two_pow (n := 32) (by omega) (stN_lt 8 (by have := byte_xor x c; omega))
theorem crcFold_lt : ∀ (l : List UInt8) {x : Nat}, x < 4294967296 → crcFold l x < 4294967296
  | [], _, h => h
  | c :: l, x, h => crcFold_lt l (crcStep_lt h c)
theorem crcM_lt (l : List UInt8) : crcM l < 4294967296 := Nat.xor_lt_two_pow (n := 32) (by decide) (crcFold_lt l (by decide))
theorem crcFold_app (l m : List UInt8) (x : Nat) : crcFold (l ++ m) x = crcFold m (crcFold l x) := List.foldl_append
theorem crcFold_take {l : List UInt8} {i : Nat} {c : UInt8} (h : l[i]? = some c) (x : Nat) : crcFold (l.take (i + 1)) x = crcStep (crcFold (l.take i) x) c := by
  rw [List.take_add_one, h, crcFold_app]; rfl

/-- Rows of bytes in a row. -/
def RowsAt (H : AH) (v : AV) (ls : List (List UInt8)) : Prop :=
  (lenOfAV v = some 0 ∧ ls = []) ∨ ∃ b o c ro ws, v = .slice b o ls.length c 1 ∧ H.get b = some (.cells ro ws) ∧ ∀ (i : Nat) l, ls[i]? = some l → ∃ u, ws[o + i * 1]? = some u ∧ BytesAt H u l
theorem RowsAt.len {H : AH} {v : AV} {ls : List (List UInt8)} (h : RowsAt H v ls) : lenOfAV v = some ls.length := by
  rcases h with ⟨h, rfl⟩ | ⟨b, o, c, ro, ws, rfl, _⟩
  · exact h
  · rfl
theorem RowsAt.keep {H K : AH} {v : AV} {ls : List (List UInt8)} (h : RowsAt H v ls) (hk : ∀ b x, H.get b = some x → K.get b = some x) : RowsAt K v ls := by
  rcases h with h | ⟨b, o, c, ro, ws, rfl, h1, h2⟩
  · exact .inl h
  · refine .inr ⟨b, o, c, ro, ws, rfl, hk _ _ h1, fun i l hi => ?_⟩
    obtain ⟨u, h3, h4⟩ := h2 i l hi
    exact ⟨u, h3, h4.keep fun b o c _ x hx => hk b x hx⟩

theorem BytesAt.at {H : AH} {v : AV} {l : List UInt8} (h : BytesAt H v l) {j : Nat} {c : UInt8} (hj : l[j]? = some c) : ∃ b o cp ro vs, v = .slice b o l.length cp 1 ∧ H.get b = some (.cells ro vs) ∧ vs[o + j * 1]? = some (.int .u8 (c.toNat : Nat)) := by
  rcases h with ⟨_, rfl⟩ | ⟨b, o, cp, ro, vs, rfl, h1, h2⟩
  · simp at hj
  · refine ⟨b, o, cp, ro, vs, rfl, h1, ?_⟩
    have hlt := (List.getElem?_eq_some_iff.1 hj).1
    have := congrArg (·[j]?) h2
    simp only [bytesAV, List.getElem?_map, hj, Option.map_some] at this
    rw [List.getElem?_take_of_lt hlt, List.getElem?_drop] at this
    rw [Nat.mul_one]; exact this

theorem aggTab_get {i : Nat} (h : i < 256) : ((List.range 256).map tabAV)[i]? = some (.int .u32 ((stN 8 i : Nat) : Int)) := by
  rw [List.getElem?_map, List.getElem?_range h]; rfl

set_option maxHeartbeats 4000000 in
theorem sum74 (N : Nat) (H : AH) {v : AV} {ls : List (List UInt8)} (h : RowsAt H v ls) (hl : ls.length ≤ 1000000) (hb : ∀ l ∈ ls, l.length ≤ 1000000000000) : AC tC N 0 74 [v] H fun r K => r = .int .u32 (crcM ls.flatten : Nat) ∧ K = H := by
  refine AC.quiet rfl ?_
  refine AC.wf0 fun hwf => ?_
  refine AC.by (n := 35) (rs := [.tmp 2]) tOK fn74 rfl rfl rfl rfl ?_
  have e0 : (PT.ofList .leaf 0 [v]).get 0 = some v := rfl
  have hz0 : (rowAV 0).length = 256 := rowAV_length (by omega)
  have hal : ∀ (K : AH) (ev : Operand → AV) (d : Nat) (ty : TypeId) (pos : String) (after : Array Edge), evOp tC F0 K ev { dst := some d, op := .alloc 119, type := ty, pos, after, guard := none } = some (.ptr K.next 0, K.alloc (.cells false (rowAV 0))) := fun K ev d ty pos after => evOp_alloc ti119 rfl rfl
  have hlt := h.len
  with_reducible repeat' (first
 | refine AW.seq ?_
 | refine AW.region ?_
 | refine AOs.nil ?_
 | refine andThen_normal ?_
 | ((first
 | refine AOs.op1E tOK (by with_unfolding_all rfl) ?_
 ); refine Step.mk (by simp only [evOp_assign, aeval, ofVal]; rfl) ?_)
 | fail "stop")
  refine AOs.callQ tOK (fs := []) (cs := []) rfl fn98 ok98 rfl (by simp only [List.map_nil, List.append_nil] <;> rfl) (table_const N H) ?_
  rintro r K ⟨rfl, rfl⟩
  obtain ⟨K1, hK1⟩ : ∃ K1, K1 = (K.alloc (.cells false (rowAV 0))).set K.next (.cells false ((List.range 256).map tabAV)) := ⟨_, rfl⟩
  have hsp : splice (rowAV 0) 0 ((List.range 256).map tabAV) = (List.range 256).map tabAV := by
    unfold splice
    rw [List.take_zero, List.nil_append, List.drop_of_length_le (by rw [hz0]; simp), List.append_nil]
  have hst : astore tC (K.alloc (.cells false (rowAV 0))) 119 (.ptr K.next 0) tabV = some K1 := by
    have := astore_agg (cs := (List.range 256).map tabAV) (o := 0) ti119 (show (K.alloc (.cells false (rowAV 0))).get K.next = some (.cells false (rowAV 0)) by rw [AH.get_alloc, if_pos rfl]) (by simp) (by
      have := row_all 256
      simpa [rowAV] using this) (by rw [hz0]; simp)
    rw [hsp] at this
    rw [hK1]; exact this
  have hst1 : ∀ b x, K.get b = some x → K1.get b = some x := fun b x hb => by
    have := hwf b x hb
    rw [hK1, AH.get_set, if_neg (by omega), AH.get_alloc, if_neg (by omega)]; exact hb
  have hg1 : K1.get K.next = some (.cells false ((List.range 256).map tabAV)) := by rw [hK1, AH.get_set, if_pos rfl]
  have h1 := h.keep hst1
  with_reducible repeat' (first
 | refine AW.seq ?_
 | refine AW.region ?_
 | refine AW.block ?_
 | refine AOs.nil ?_
 | refine andThen_normal ?_
 | ((first
 | refine AOs.op1E tOK (by with_unfolding_all rfl) ?_
 | refine AOs.op0E tOK ?_
 ); refine Step.mk (by simp only [evOp_move, evOp_assign, evOp_store, evOp_len, aeval, ofVal, PT.get_set, Nat.reduceEqDiff, reduceIte, Option.map_some, eq_self, al28, e0, hal, hst, hlt]; rfl) ?_)
 | fail "stop")
  refine AW.loop (fun m T L => L = K1 ∧ T.get 3 = some (.ptr K.next 0) ∧ T.get 10 = some v ∧ T.get 11 = some (.int .i64 (ls.length : Nat)) ∧ ∃ i : Nat, i ≤ ls.length ∧ m = ls.length - i ∧ T.get 12 = some (.int .i64 (i : Nat)) ∧ T.get 4 = some (.int .u32 ((crcFold (ls.take i).flatten 4294967295 : Nat) : Int))) ?_ (ls.length - 0)
    ⟨rfl, by simp [PT.get_set], by simp [PT.get_set, e0], by simp [PT.get_set], 0, by omega, rfl, by simp [PT.get_set], by simp [PT.get_set, crcFold]⟩
  rintro m T L ⟨rfl, g3, g10, g11, i, hi, rfl, g12, g4⟩
  by_cases hil : i < ls.length
  · have hd := lt_int hil
    obtain ⟨l, hli⟩ : ∃ l, ls[i]? = some l := ⟨_, List.getElem?_eq_getElem hil⟩
    have hlb := hb l (List.mem_of_getElem? hli)
    rcases h1 with ⟨_, h1⟩ | ⟨b, o, c, ro, ws, rfl, hbg, hw⟩
    · rw [h1] at hil; simp at hil
    obtain ⟨u, hu, hB⟩ := hw i l hli
    have hul := hB.len
    with_reducible repeat' (first
 | refine AW.seq ?_
 | refine AW.region ?_
 | refine AW.block ?_
 | refine AOs.nil ?_
 | refine AW.skip ?_
 | refine andThen_normal ?_
 | refine AW.condT (by simp only [aeval, PT.get_set, reduceIte]; rfl) (by first | rfl | decide | assumption) ?_
 | ((first
 | refine AOs.op1E tOK (by with_unfolding_all rfl) ?_
 ); refine Step.mk (by simp only [evOp_move, evOp_assign, evOp_binOp, evOp_indexAddr, evOp_load, evOp_len, aeval, ofVal, PT.get_set, Nat.reduceEqDiff, reduceIte, cellAt, Option.map_some, abin_lss, eq_self, ix28, al32, ld32, g10, g11, g12, hd, hil, hbg, hu, hul]; rfl) ?_)
 | fail "stop")
    have hx0 := crcFold_lt (ls.take i).flatten (x := 4294967295) (by omega)
    refine AW.loop (fun m T M => M = L ∧ T.get 3 = some (.ptr K.next 0) ∧ T.get 10 = some (.slice b o ls.length c 1) ∧ T.get 11 = some (.int .i64 (ls.length : Nat)) ∧ T.get 12 = some (.int .i64 (i : Nat)) ∧ T.get 16 = some u ∧ T.get 17 = some (.int .i64 (l.length : Nat)) ∧ ∃ j : Nat, j ≤ l.length ∧ m = l.length - j ∧ T.get 18 = some (.int .i64 (j : Nat)) ∧ T.get 4 = some (.int .u32 ((crcFold (l.take j) (crcFold (ls.take i).flatten 4294967295) : Nat) : Int))) ?_ (l.length - 0)
      ⟨rfl, by simp [PT.get_set, g3], by simp [PT.get_set, g10], by simp [PT.get_set, g11], by simp [PT.get_set, g12], by simp [PT.get_set], by simp [PT.get_set], 0, by omega, rfl, by simp [PT.get_set], by simp [PT.get_set, g4, crcFold]⟩
    rintro m T M ⟨rfl, g3, g10, g11, g12, g16, g17, j, hj, rfl, g18, g4⟩
    generalize hx : crcFold (l.take j) (crcFold (ls.take i).flatten 4294967295) = x at g4
    have hxl : x < 4294967296 := by rw [← hx]; exact crcFold_lt _ hx0
    by_cases hjl : j < l.length
    · have hd2 := lt_int hjl
      obtain ⟨cc, hcc⟩ : ∃ cc, l[j]? = some cc := ⟨_, List.getElem?_eq_getElem hjl⟩
      obtain ⟨ub, uo, ucp, uro, uvs, rfl, hug, hua⟩ := BytesAt.at hB hcc
      have hshr : ∀ cst k', abin tC .shr 96 cst (.int .u32 (x : Int)) (.int k' 8) = some (.int .u32 ((x / 256 : Nat) : Int)) := fun cst k' => by
        have := abin_shr (C := tC) (t := 96) (cst := cst) (n := x) (m := 8) (k := .u32) (k' := k') (by decide)
        simpa using this
      have hcv : IntKind.u8.wrap (x : Int) = ((x % 256 : Nat) : Int) := wrapU8
      have hx8 : ∀ t cst, abin tC .xor t cst (.int .u8 ((x % 256 : Nat) : Int)) (.int .u8 ((cc.toNat : Nat) : Int)) = some (.int .u8 ((x % 256 ^^^ cc.toNat : Nat) : Int)) := fun t cst => abin_xor8 (Nat.mod_lt _ (by omega)) cc.toNat_lt
      have hbx := byte_xor x cc
      have htg := aggTab_get hbx
      have htg' : ((List.range 256).map tabAV)[(x % 256 ^^^ cc.toNat) * 1]? = some (.int .u32 ((stN 8 (x % 256 ^^^ cc.toNat) : Nat) : Int)) := by rw [Nat.mul_one]; exact htg
      have hx32 : ∀ t cst, abin tC .xor t cst (.int .u32 ((x / 256 : Nat) : Int)) (.int .u32 ((stN 8 (x % 256 ^^^ cc.toNat) : Nat) : Int)) = some (.int .u32 ((x / 256 ^^^ stN 8 (x % 256 ^^^ cc.toNat) : Nat) : Int)) := fun t cst => abin_xor32 (by omega) (stN_lt 8 (by omega))
      with_reducible repeat' (first
 | refine AW.seq ?_
 | refine AW.region ?_
 | refine AW.block ?_
 | refine AOs.nil ?_
 | refine AW.skip ?_
 | refine andThen_normal ?_
 | refine inBlock_normal ?_
 | refine AW.condT (by simp only [aeval, PT.get_set, reduceIte]; rfl) (by first | rfl | decide | assumption) ?_
 | ((first
 | refine AOs.op1E tOK (by with_unfolding_all rfl) ?_
 ); refine Step.mk (by simp only [evOp_move, evOp_assign, evOp_binOp, evOp_indexAddr, evOp_load, evOp_convert, aeval, ofVal, PT.get_set, Nat.reduceEqDiff, reduceIte, cellAt, Option.map_some, abin_add, abin_lss, Nat.zero_add, eq_self, ld5, ix32, ld96, ix119, cv96_5, g3, g4, g16, g17, g18, hd2, hjl, hug, hua, hshr, hcv, hx8, hbx, hg1, htg', hx32]; rfl) ?_)
 | fail "stop")
      refine ⟨l.length - (j + 1), by omega, rfl, by simp [PT.get_set, g3], by simp [PT.get_set, g10], by simp [PT.get_set, g11], by simp [PT.get_set, g12], by simp [PT.get_set, g16], by simp [PT.get_set, g17], j + 1, by omega, rfl, ?_, ?_⟩
      · simp only [PT.get_set, Nat.reduceEqDiff, reduceIte, wrap64_succ (show j < 9223372036854775807 by omega)]
      · rw [crcFold_take hcc, hx]; simp only [PT.get_set, Nat.reduceEqDiff, reduceIte]; rfl
    · have hd2 := nlt_int hjl
      obtain rfl : j = l.length := by omega
      with_reducible repeat' (first
 | refine AW.seq ?_
 | refine AW.region ?_
 | refine AOs.nil ?_
 | refine AW.exit ?_
 | refine andThen_normal ?_
 | refine andThen_exit ?_
 | refine inBlock_normal ?_
 | refine inBlock_hit ?_
 | refine AW.condF (by simp only [aeval, PT.get_set, reduceIte]; rfl) (by first | rfl | decide | assumption) ?_
 | ((first
 | refine AOs.op1E tOK (by with_unfolding_all rfl) ?_
 ); refine Step.mk (by simp only [evOp_move, evOp_binOp, aeval, ofVal, PT.get_set, Nat.reduceEqDiff, reduceIte, Option.map_some, abin_add, abin_lss, eq_self, g12, g17, g18, hd2]; rfl) ?_)
 | fail "stop")
      refine ⟨ls.length - (i + 1), by omega, rfl, by simp [PT.get_set, g3], by simp [PT.get_set, g10], by simp [PT.get_set, g11], i + 1, by omega, rfl, ?_, ?_⟩
      · simp only [PT.get_set, Nat.reduceEqDiff, reduceIte, wrap64_succ (show i < 9223372036854775807 by omega)]
      · have e : (some l).toList.flatten = l := by simp
        rw [List.take_length] at hx
        rw [List.take_add_one, hli, List.flatten_append, crcFold_app, e, hx]
        simp only [PT.get_set, Nat.reduceEqDiff, reduceIte, g4]
  · have hd := nlt_int hil
    obtain rfl : i = ls.length := by omega
    have hx0 := crcFold_lt (ls.take ls.length).flatten (x := 4294967295) (by omega)
    have hcp := compl32_int hx0
    with_reducible repeat' (first
 | refine AW.seq ?_
 | refine AW.region ?_
 | refine AOs.nil ?_
 | refine AW.exit ?_
 | refine AW.ret ?_
 | refine andThen_normal ?_
 | refine andThen_exit ?_
 | refine inBlock_hit ?_
 | refine AW.condF (by simp only [aeval, PT.get_set, reduceIte]; rfl) (by first | rfl | decide | assumption) ?_
 | ((first
 | refine AOs.op1E tOK (by with_unfolding_all rfl) ?_
 ); refine Step.mk (by simp only [evOp_move, evOp_assign, evOp_binOp, aeval, PT.get_set, Nat.reduceEqDiff, reduceIte, Option.map_some, abin_lss, eq_self, g4, g11, g12, hd, evOp_compl, hcp, Option.isSome_some]; rfl) ?_)
 | fail "stop")
    rw [List.take_length]
    exact fnPost_ret1 (by first | (simp only [PT.get_set, Nat.reduceEqDiff, reduceIte]; rfl) | simp only [PT.get_set, Nat.reduceEqDiff, reduceIte]) ⟨rfl, hst1⟩
end Go.Proofs.YtgihociajfgohaaGreatDoor

open Go Go.AB Go.Proofs
namespace Go.Proofs.YtgihociajfgohaaGreatDoor
set_option maxRecDepth 100000

def fourM (x : Nat) : List UInt8 := [UInt8.ofNat x, UInt8.ofNat (x / 256), UInt8.ofNat (x / 65536), UInt8.ofNat (x / 16777216)]
theorem fourM_len (x : Nat) : (fourM x).length = 4 := rfl
theorem fourM_AV (x : Nat) : bytesAV (fourM x) = [.int .u8 ((x % 256 : Nat) : Int), .int .u8 ((x / 256 % 256 : Nat) : Int), .int .u8 ((x / 65536 % 256 : Nat) : Int), .int .u8 ((x / 16777216 % 256 : Nat) : Int)] := by
  simp [fourM, bytesAV, UInt8.toNat_ofNat']

theorem bs32_4 (F : Fns) (H : AH) (ev : Operand → AV) (dst : Option Tmp) (ty : TypeId) (pos : String) (after : Array Edge) (guard : Option (Nat × Bool)) (x0 x1 x2 x3 : Operand) (h0 : (ev x0).one = true) (h1 : (ev x1).one = true) (h2 : (ev x2).one = true) (h3 : (ev x3).one = true) :
    evOp tC F H ev { dst, op := .buildSlice 32 4 ⟨[(0, x0), (1, x1), (2, x2), (3, x3)]⟩, type := ty, pos, after, guard } = some (.slice H.next 0 4 (.ex 4) 1, H.alloc (.cells false [ev x0, ev x1, ev x2, ev x3])) := evOp_buildSlice4 ti32 rfl ti5 rfl rfl rfl h0 h1 h2 h3

set_option maxHeartbeats 1000000 in
theorem four99 (N : Nat) (H : AH) {x : Nat} : AC tC N 0 99 [.int .u32 (x : Int)] H fun r K => r = .slice H.next 0 4 (.ex 4) 1 ∧ K = H.alloc (.cells false (bytesAV (fourM x))) := by
  refine AC.by (n := 15) (rs := [.tmp 2]) tOK fn99 rfl rfl rfl rfl ?_
  have e0 : (PT.ofList .leaf 0 [AV.int .u32 (x : Int)]).get 0 = some (.int .u32 (x : Int)) := rfl
  have s1 : ∀ cst k', abin tC .shr 96 cst (.int .u32 (x : Int)) (.int k' 8) = some (.int .u32 ((x / 256 : Nat) : Int)) := fun cst k' => by
    simpa using abin_shr (C := tC) (t := 96) (cst := cst) (n := x) (m := 8) (k := .u32) (k' := k') (by decide)
  have s2 : ∀ cst k', abin tC .shr 96 cst (.int .u32 (x : Int)) (.int k' 16) = some (.int .u32 ((x / 65536 : Nat) : Int)) := fun cst k' => by
    simpa using abin_shr (C := tC) (t := 96) (cst := cst) (n := x) (m := 16) (k := .u32) (k' := k') (by decide)
  have s3 : ∀ cst k', abin tC .shr 96 cst (.int .u32 (x : Int)) (.int k' 24) = some (.int .u32 ((x / 16777216 : Nat) : Int)) := fun cst k' => by
    simpa using abin_shr (C := tC) (t := 96) (cst := cst) (n := x) (m := 24) (k := .u32) (k' := k') (by decide)
  have hw : ∀ n : Nat, IntKind.u8.wrap (n : Int) = ((n % 256 : Nat) : Int) := fun n => wrapU8
  with_reducible repeat' (first
 | refine AW.seq ?_
 | refine AW.region ?_
 | refine AOs.nil ?_
 | refine AW.ret ?_
 | refine andThen_normal ?_
 | ((first
 | refine AOs.op1E tOK (by with_unfolding_all rfl) ?_
 ); refine Step.mk (by simp only [evOp_move, evOp_assign, evOp_binOp, evOp_convert, one_int, aeval, ofVal, PT.get_set, Nat.reduceEqDiff, reduceIte, Option.map_some, eq_self, cv96_5, e0, s1, s2, s3, cv96_5, hw, bs32_4]; rfl) ?_)
 | fail "stop")
  exact fnPost_ret1 (by first | (simp only [PT.get_set, Nat.reduceEqDiff, reduceIte]; rfl) | simp only [PT.get_set, Nat.reduceEqDiff, reduceIte]) ⟨rfl, by rw [fourM_AV]⟩

def toldM (l : List UInt8) : Nat := (l.getD 0 0).toNat ||| (l.getD 1 0).toNat * 256 ||| (l.getD 2 0).toNat * 65536 ||| (l.getD 3 0).toNat * 16777216

theorem or_add {a b k : Nat} (h : a < 2 ^ k) : a ||| b * 2 ^ k = a + b * 2 ^ k := by
  rw [Nat.or_comm, ← Nat.shiftLeft_eq, ← Nat.shiftLeft_add_eq_or_of_lt h, Nat.shiftLeft_eq, Nat.add_comm]
theorem toldM_eq (l : List UInt8) : toldM l = (l.getD 0 0).toNat + (l.getD 1 0).toNat * 256 + (l.getD 2 0).toNat * 65536 + (l.getD 3 0).toNat * 16777216 := by
  unfold toldM
  have h0 := (l.getD 0 0).toNat_lt
  have h1 := (l.getD 1 0).toNat_lt
  have h2 := (l.getD 2 0).toNat_lt
  rw [or_add (k := 8) (by omega), or_add (k := 16) (by omega), or_add (k := 24) (by omega)]
theorem toldM_lt (l : List UInt8) : toldM l < 4294967296 := by
  rw [toldM_eq]
  have h0 := (l.getD 0 0).toNat_lt
  have h1 := (l.getD 1 0).toNat_lt
  have h2 := (l.getD 2 0).toNat_lt
  have h3 := (l.getD 3 0).toNat_lt
  omega
theorem toldM_four {x : Nat} (hx : x < 4294967296) (r : List UInt8) : toldM (fourM x ++ r) = x := by
  rw [toldM_eq]
  simp only [fourM, List.cons_append, List.getD_cons_zero, List.getD_cons_succ, UInt8.toNat_ofNat']
  omega

set_option maxHeartbeats 4000000 in
theorem told73 (N : Nat) (H : AH) {v : AV} {l : List UInt8} (h : BytesAt H v l) (h4 : 4 ≤ l.length) : AC tC N 0 73 [v] H fun r K => r = .int .u32 (toldM l : Nat) ∧ K = H := by
  refine AC.by (n := 25) (rs := [.tmp 2]) tOK fn73 rfl rfl rfl rfl ?_
  have e0 : (PT.ofList .leaf 0 [v]).get 0 = some v := rfl
  have hg : ∀ j, j < 4 → l[j]? = some (l.getD j 0) := fun j hj => by rw [List.getD_eq_getElem?_getD, List.getElem?_eq_getElem (by omega)]; rfl
  obtain ⟨b, o, cp, ro, vs, rfl, hb, v0⟩ := BytesAt.at h (hg 0 (by omega))
  have key : ∀ j, j < 4 → vs[o + j]? = some (.int .u8 ((l.getD j 0).toNat : Nat)) := fun j hj => by
    obtain ⟨b', o', cp', ro', vs', e, hb', v1⟩ := BytesAt.at h (hg j hj)
    cases e
    rw [hb] at hb'; cases hb'
    rwa [Nat.mul_one] at v1
  have k0 := key 0 (by omega)
  have k1 := key 1 (by omega)
  have k2 := key 2 (by omega)
  have k3 := key 3 (by omega)
  have x0 : ∀ k, aindexAddr tC 32 (.slice b o l.length cp 1) (.int k 0) = some (.ptr b (o + 0)) := fun k => by simpa using ix32 b o l.length 1 0 cp k (by omega)
  have x1 : ∀ k, aindexAddr tC 32 (.slice b o l.length cp 1) (.int k 1) = some (.ptr b (o + 1)) := fun k => by simpa using ix32 b o l.length 1 1 cp k (by omega)
  have x2 : ∀ k, aindexAddr tC 32 (.slice b o l.length cp 1) (.int k 2) = some (.ptr b (o + 2)) := fun k => by simpa using ix32 b o l.length 1 2 cp k (by omega)
  have x3 : ∀ k, aindexAddr tC 32 (.slice b o l.length cp 1) (.int k 3) = some (.ptr b (o + 3)) := fun k => by simpa using ix32 b o l.length 1 3 cp k (by omega)
  have b0 := (l.getD 0 0).toNat_lt
  have b1 := (l.getD 1 0).toNat_lt
  have b2 := (l.getD 2 0).toNat_lt
  have b3 := (l.getD 3 0).toNat_lt
  have hlt := toldM_lt l
  unfold toldM at hlt ⊢
  generalize (l.getD 0 0).toNat = c0 at *
  generalize (l.getD 1 0).toNat = c1 at *
  generalize (l.getD 2 0).toNat = c2 at *
  generalize (l.getD 3 0).toNat = c3 at *
  have q1 : c0 ||| c1 * 256 < 4294967296 := Nat.or_lt_two_pow (n := 32) (by omega) (by omega)
  have q2 : c0 ||| c1 * 256 ||| c2 * 65536 < 4294967296 := Nat.or_lt_two_pow (n := 32) q1 (by omega)
  have w0 := wrapU32 (n := c0) (by omega)
  have w1 := wrapU32 (n := c1) (by omega)
  have w2 := wrapU32 (n := c2) (by omega)
  have w3 := wrapU32 (n := c3) (by omega)
  have s1 : ∀ cst k', abin tC .shl 96 cst (.int .u32 (c1 : Int)) (.int k' 8) = some (.int .u32 ((c1 * 256 : Nat) : Int)) := fun cst k' => abin_shl32 (m := 8) (by omega) (by omega)
  have s2 : ∀ cst k', abin tC .shl 96 cst (.int .u32 (c2 : Int)) (.int k' 16) = some (.int .u32 ((c2 * 65536 : Nat) : Int)) := fun cst k' => abin_shl32 (m := 16) (by omega) (by omega)
  have s3 : ∀ cst k', abin tC .shl 96 cst (.int .u32 (c3 : Int)) (.int k' 24) = some (.int .u32 ((c3 * 16777216 : Nat) : Int)) := fun cst k' => abin_shl32 (m := 24) (by omega) (by omega)
  have o1 : ∀ cst, abin tC .or 96 cst (.int .u32 (c0 : Int)) (.int .u32 ((c1 * 256 : Nat) : Int)) = some (.int .u32 ((c0 ||| c1 * 256 : Nat) : Int)) := fun cst => abin_or32 (by omega) (by omega)
  have o2 : ∀ cst, abin tC .or 96 cst (.int .u32 ((c0 ||| c1 * 256 : Nat) : Int)) (.int .u32 ((c2 * 65536 : Nat) : Int)) = some (.int .u32 ((c0 ||| c1 * 256 ||| c2 * 65536 : Nat) : Int)) := fun cst => abin_or32 q1 (by omega)
  have o3 : ∀ cst, abin tC .or 96 cst (.int .u32 ((c0 ||| c1 * 256 ||| c2 * 65536 : Nat) : Int)) (.int .u32 ((c3 * 16777216 : Nat) : Int)) = some (.int .u32 ((c0 ||| c1 * 256 ||| c2 * 65536 ||| c3 * 16777216 : Nat) : Int)) := fun cst => abin_or32 q2 (by omega)
  rw [Nat.add_zero] at k0
  with_reducible repeat' (first
 | refine AW.seq ?_
 | refine AW.region ?_
 | refine AOs.nil ?_
 | refine AW.ret ?_
 | refine andThen_normal ?_
 | refine AW.drawT tOK (by with_unfolding_all rfl) (by simp only [pickAll, Nat.reduceAdd]; rfl) ?_
 | refine DN.nil tOK ?_
 | ((first
 | refine DN.fl1E (by with_unfolding_all rfl) (by with_unfolding_all rfl) ?_
 | refine DN.rd1E (by kernel_rfl) (by with_unfolding_all rfl) ?_
 ); refine Step.mk (by simp only [evOp_move, evOp_assign, evOp_binOp, evOp_indexAddr, evOp_load, evOp_convert, aeval, ofVal, PT.get_set, Nat.reduceEqDiff, reduceIte, cellAt, Option.map_some, Nat.add_zero, eq_self, ld5, cv5_96, e0, x0, x1, x2, x3, hb, k0, k1, k2, k3, cv5_96, w0, w1, w2, w3, s1, s2, s3, o1, o2, o3]; rfl) ?_; refine Same.mk ?_)
 | ((first
 | refine AOs.op1E tOK (by with_unfolding_all rfl) ?_
 ); refine Step.mk (by simp only [evOp_assign, aeval, ofVal]; rfl) ?_)
 | fail "stop")
  exact fnPost_ret1 (by first | (simp only [PT.get_set, Nat.reduceEqDiff, reduceIte]; rfl) | simp only [PT.get_set, Nat.reduceEqDiff, reduceIte]) ⟨rfl, rfl⟩

theorem splice_take {vs ws : List AV} {k : Nat} (h : k + ws.length ≤ vs.length) : (splice vs k ws).length = vs.length ∧ (splice vs k ws).take (k + ws.length) = vs.take k ++ ws := by
  have h1 : (vs.take k).length = k := by rw [List.length_take]; omega
  refine ⟨?_, ?_⟩
  · simp [splice]; omega
  · unfold splice
    rw [List.append_assoc, List.take_append, h1, List.take_of_length_le (by rw [h1]; omega), Nat.add_sub_cancel_left, List.take_left']
    rfl

theorem flat_take {ls : List (List UInt8)} {i : Nat} {l : List UInt8} (h : ls[i]? = some l) : (ls.take (i + 1)).flatten = (ls.take i).flatten ++ l := by
  rw [List.take_add_one, h, List.flatten_append]; simp
theorem flat_le (ls : List (List UInt8)) (i : Nat) : (ls.take i).flatten.length ≤ ls.flatten.length := by
  have := congrArg List.length (congrArg List.flatten (List.take_append_drop i ls))
  rw [List.flatten_append, List.length_append] at this; omega

set_option maxHeartbeats 4000000 in
theorem concat78 (N : Nat) (H : AH) {v : AV} {ls : List (List UInt8)} (h : RowsAt H v ls) (hn : ls.length ≤ 1000000) (hl : ls.flatten.length ≤ 1000000000000) :
    AC tC N 0 78 [v] H fun r K => FB K r ls.flatten ∧ (∀ b x, H.get b = some x → K.get b = some x) ∧ H.next ≤ K.next := by
  refine AC.wf0 fun hwf => ?_
  refine AC.by (n := 36) (rs := [.tmp 2]) tOK fn78 rfl rfl rfl rfl ?_
  have e0 : (PT.ofList .leaf 0 [v]).get 0 = some v := rfl
  have hlen := h.len
  with_reducible repeat' (first
 | refine AW.seq ?_
 | refine AW.region ?_
 | refine AW.block ?_
 | refine AOs.nil ?_
 | refine andThen_normal ?_
 | ((first
 | refine AOs.op1E tOK (by with_unfolding_all rfl) ?_
 ); refine Step.mk (by simp only [evOp_move, evOp_assign, evOp_len, aeval, ofVal, PT.get_set, Nat.reduceEqDiff, reduceIte, Option.map_some, eq_self, al28, e0, hlen]; rfl) ?_)
 | fail "stop")
  refine AW.loop (fun m T L => L = H ∧ T.get 0 = some v ∧ T.get 9 = some v ∧ T.get 10 = some (.int .i64 (ls.length : Nat)) ∧ ∃ i : Nat, i ≤ ls.length ∧ m = ls.length - i ∧ T.get 11 = some (.int .i64 (i : Nat)) ∧ T.get 3 = some (.int .i64 (((ls.take i).flatten.length : Nat) : Int))) ?_ (ls.length - 0)
    ⟨rfl, by simp [PT.get_set, e0], by simp [PT.get_set, e0], by simp [PT.get_set], 0, by omega, rfl, by simp [PT.get_set], by simp [PT.get_set]⟩
  rintro m T L ⟨rfl, g0, g9, g10, i, hi, rfl, g11, g3⟩
  by_cases hil : i < ls.length
  · have hd := lt_int hil
    obtain ⟨l, hli⟩ : ∃ l, ls[i]? = some l := ⟨_, List.getElem?_eq_getElem hil⟩
    rcases h with ⟨_, h⟩ | ⟨b, o, c, ro, ws, rfl, hbg, hw⟩
    · rw [h] at hil; simp at hil
    obtain ⟨u, hu, hB⟩ := hw i l hli
    have hul := hB.len
    have hf1 := flat_le ls (i + 1)
    rw [flat_take hli, List.length_append] at hf1
    have hw1 : IntKind.i64.wrap ((((ls.take i).flatten.length : Nat) : Int) + ((l.length : Nat) : Int)) = (((ls.take i).flatten.length + l.length : Nat) : Int) := by rw [wrap64 (by omega) (by omega)]; omega
    have hd2 : decide (((((ls.take i).flatten.length + l.length : Nat) : Int)) < 0) = false := decide_eq_false (by omega)
    with_reducible repeat' (first
 | refine AW.seq ?_
 | refine AW.region ?_
 | refine AW.block ?_
 | refine AOs.nil ?_
 | refine AW.skip ?_
 | refine andThen_normal ?_
 | refine inBlock_normal ?_
 | refine AW.condT (by simp only [aeval, PT.get_set, Nat.reduceEqDiff, reduceIte]; rfl) (by first | rfl | decide | assumption) ?_
 | refine AW.condF (by simp only [aeval, PT.get_set, Nat.reduceEqDiff, reduceIte]; rfl) (by first | rfl | decide | assumption) ?_
 | ((first
 | refine AOs.op1E tOK (by with_unfolding_all rfl) ?_
 ); refine Step.mk (by simp only [evOp_move, evOp_assign, evOp_binOp, evOp_indexAddr, evOp_load, evOp_len, aeval, ofVal, PT.get_set, Nat.reduceEqDiff, reduceIte, cellAt, Option.map_some, abin_add, abin_lss, eq_self, ix28, al32, ld32, g3, g9, g10, g11, hd, hil, hbg, hu, hul, hw1, hd2]; rfl) ?_)
 | fail "stop")
    refine ⟨ls.length - (i + 1), by omega, rfl, by simp [PT.get_set, g0], by simp [PT.get_set, g9], by simp [PT.get_set, g10], i + 1, by omega, rfl, ?_, ?_⟩
    · simp only [PT.get_set, Nat.reduceEqDiff, reduceIte, wrap64_succ (show i < 9223372036854775807 by omega)]
    · rw [flat_take hli, List.length_append]; simp only [PT.get_set, Nat.reduceEqDiff, reduceIte]
  · have hd := nlt_int hil
    obtain rfl : i = ls.length := by omega
    rw [List.take_length] at g3
    with_reducible repeat' (first
 | refine AW.seq ?_
 | refine AW.region ?_
 | refine AOs.nil ?_
 | refine AW.exit ?_
 | refine andThen_normal ?_
 | refine andThen_exit ?_
 | refine inBlock_hit ?_
 | refine AW.condF (by simp only [aeval, PT.get_set, reduceIte]; rfl) (by first | rfl | decide | assumption) ?_
 | ((first
 | refine AOs.op1E tOK (by with_unfolding_all rfl) ?_
 ); refine Step.mk (by simp only [evOp_move, evOp_binOp, aeval, PT.get_set, Nat.reduceEqDiff, reduceIte, Option.map_some, abin_lss, g3, g10, g11, hd]; rfl) ?_)
 | fail "stop")
    refine AOs.callQ tOK (fs := []) (cs := []) rfl fn101 ok101 rfl (by simp only [List.map_cons, List.map_nil, List.nil_append, List.append_nil, aeval, ofVal, PT.get_set, Nat.reduceEqDiff, reduceIte] <;> rfl) (grow42 N L ls.flatten.length hl) ?_
    rintro r K (⟨hz, rfl, rfl⟩ | ⟨hz, rfl, rfl⟩)
    · with_reducible repeat' (first
 | refine AW.seq ?_
 | refine AW.region ?_
 | refine AW.block ?_
 | refine AOs.nil ?_
 | refine andThen_normal ?_
 | ((first
 | refine AOs.op1E tOK (by with_unfolding_all rfl) ?_
 ); refine Step.mk (by simp only [evOp_move, evOp_assign, evOp_len, aeval, ofVal, PT.get_set, Nat.reduceEqDiff, reduceIte, Option.map_some, eq_self, al28, g0, hlen]; rfl) ?_)
 | fail "stop")
      refine AW.loop (fun m T M => M = K ∧ T.get 6 = some .nils ∧ T.get 25 = some v ∧ T.get 26 = some (.int .i64 (ls.length : Nat)) ∧ ∃ i : Nat, i ≤ ls.length ∧ m = ls.length - i ∧ T.get 27 = some (.int .i64 (i : Nat))) ?_ (ls.length - 0)
        ⟨rfl, by simp [PT.get_set], by simp [PT.get_set, g0], by simp [PT.get_set], 0, by omega, rfl, by simp [PT.get_set]⟩
      rintro m T M ⟨rfl, g6, g25, g26, i, hi, rfl, g27⟩
      by_cases hil : i < ls.length
      · have hd := lt_int hil
        obtain ⟨l, hli⟩ : ∃ l, ls[i]? = some l := ⟨_, List.getElem?_eq_getElem hil⟩
        rcases h with ⟨_, h⟩ | ⟨b, o, c, ro, ws, rfl, hbg, hw⟩
        · rw [h] at hil; simp at hil
        obtain ⟨u, hu, hB⟩ := hw i l hli
        have hf1 := flat_le ls (i + 1)
        rw [flat_take hli, List.length_append] at hf1
        have a1 := aappend_bytesNil (C := tC) (st := 32) ti32 rfl ti5 rfl rfl rfl hB (List.eq_nil_of_length_eq_zero (by omega))
        with_reducible repeat' (first
 | refine AW.seq ?_
 | refine AW.region ?_
 | refine AW.block ?_
 | refine AOs.nil ?_
 | refine AW.skip ?_
 | refine andThen_normal ?_
 | refine inBlock_normal ?_
 | refine AW.condT (by simp only [aeval, PT.get_set, reduceIte]; rfl) (by first | rfl | decide | assumption) ?_
 | ((first
 | refine AOs.op1E tOK (by with_unfolding_all rfl) ?_
 ); refine Step.mk (by simp only [evOp_move, evOp_assign, evOp_binOp, evOp_indexAddr, evOp_load, evOp_append, aeval, ofVal, PT.get_set, Nat.reduceEqDiff, reduceIte, cellAt, List.map_cons, List.map_nil, Option.map_some, abin_add, abin_lss, eq_self, ix28, ld32, g6, g25, g26, g27, hd, hil, hbg, hu, a1]; rfl) ?_)
 | fail "stop")
        refine ⟨ls.length - (i + 1), by omega, rfl, by simp [PT.get_set], by simp [PT.get_set, g25], by simp [PT.get_set, g26], i + 1, by omega, rfl, ?_⟩
        simp only [PT.get_set, Nat.reduceEqDiff, reduceIte, wrap64_succ (show i < 9223372036854775807 by omega)]
      · have hd := nlt_int hil
        with_reducible repeat' (first
 | refine AW.seq ?_
 | refine AW.region ?_
 | refine AOs.nil ?_
 | refine AW.exit ?_
 | refine AW.ret ?_
 | refine andThen_normal ?_
 | refine andThen_exit ?_
 | refine inBlock_hit ?_
 | refine AW.condF (by simp only [aeval, PT.get_set, reduceIte]; rfl) (by first | rfl | decide | assumption) ?_
 | ((first
 | refine AOs.op1E tOK (by with_unfolding_all rfl) ?_
 ); refine Step.mk (by simp only [evOp_move, evOp_assign, evOp_binOp, aeval, PT.get_set, Nat.reduceEqDiff, reduceIte, Option.map_some, abin_lss, eq_self, g6, g26, g27, hd]; rfl) ?_)
 | fail "stop")
        exact fnPost_ret1 (by first | (simp only [PT.get_set, Nat.reduceEqDiff, reduceIte]; rfl) | simp only [PT.get_set, Nat.reduceEqDiff, reduceIte]) ⟨.inl ⟨rfl, List.eq_nil_of_length_eq_zero hz⟩, fun _ _ h => h, Nat.le_refl _⟩
    · with_reducible repeat' (first
 | refine AW.seq ?_
 | refine AW.region ?_
 | refine AW.block ?_
 | refine AOs.nil ?_
 | refine andThen_normal ?_
 | ((first
 | refine AOs.op1E tOK (by with_unfolding_all rfl) ?_
 ); refine Step.mk (by simp only [evOp_move, evOp_assign, evOp_len, aeval, ofVal, PT.get_set, Nat.reduceEqDiff, reduceIte, Option.map_some, eq_self, al28, g0, hlen]; rfl) ?_)
 | fail "stop")
      refine AW.loop (fun m T M => T.get 25 = some v ∧ T.get 26 = some (.int .i64 (ls.length : Nat)) ∧ (∀ b x, L.get b = some x → M.get b = some x) ∧ L.next ≤ M.next ∧ ∃ (i : Nat) (vs : List AV), i ≤ ls.length ∧ m = ls.length - i ∧ T.get 27 = some (.int .i64 (i : Nat)) ∧ T.get 6 = some (.slice L.next 0 (ls.take i).flatten.length (.lo ls.flatten.length) 1) ∧
          M.get L.next = some (.cells false vs) ∧ vs.length = ls.flatten.length ∧ vs.take (ls.take i).flatten.length = bytesAV (ls.take i).flatten) ?_ (ls.length - 0)
        ⟨by simp [PT.get_set, g0], by simp [PT.get_set], fun b x hb => by rw [AH.get_alloc, if_neg (by have := hwf b x hb; omega)]; exact hb, by rw [AH.next_alloc]; omega, 0, _, by omega, rfl, by simp [PT.get_set], by simp [PT.get_set], by rw [AH.get_alloc, if_pos rfl], by simp, by simp [bytesAV]⟩
      rintro m T M ⟨g25, g26, hst, hnx, i, vs, hi, rfl, g27, g6, hgv, hvl, hvt⟩
      by_cases hil : i < ls.length
      · have hd := lt_int hil
        obtain ⟨l, hli⟩ : ∃ l, ls[i]? = some l := ⟨_, List.getElem?_eq_getElem hil⟩
        rcases h with ⟨_, h⟩ | ⟨b, o, c, ro, ws, rfl, hbg, hw⟩
        · rw [h] at hil; simp at hil
        obtain ⟨u, hu, hB⟩ := hw i l hli
        have hf1 := flat_le ls (i + 1)
        rw [flat_take hli, List.length_append] at hf1
        have hBM : BytesAt M u l := hB.keep fun b o c _ x hx => hst b x hx
        obtain ⟨M1, a1, b1, c1, n1⟩ := aappend_room (C := tC) (st := 32) (k := (ls.take i).flatten.length) (n := ls.flatten.length) ti32 rfl ti5 rfl rfl rfl rfl hBM hgv hvl hf1 hl
        have hbM := hst _ _ hbg
        have hwfM : ∀ b x, L.get b = some x → b ≠ L.next := fun b x hb e => by have := hwf b x hb; omega
        with_reducible repeat' (first
 | refine AW.seq ?_
 | refine AW.region ?_
 | refine AW.block ?_
 | refine AOs.nil ?_
 | refine AW.skip ?_
 | refine andThen_normal ?_
 | refine inBlock_normal ?_
 | refine AW.condT (by simp only [aeval, PT.get_set, reduceIte]; rfl) (by first | rfl | decide | assumption) ?_
 | ((first
 | refine AOs.op1E tOK (by with_unfolding_all rfl) ?_
 ); refine Step.mk (by simp only [evOp_move, evOp_assign, evOp_binOp, evOp_indexAddr, evOp_load, evOp_append, aeval, ofVal, PT.get_set, Nat.reduceEqDiff, reduceIte, cellAt, List.map_cons, List.map_nil, Option.map_some, abin_add, abin_lss, eq_self, ix28, ld32, g6, g25, g26, g27, hd, hil, hbM, hu, a1]; rfl) ?_)
 | fail "stop")
        obtain ⟨s1, s2⟩ := splice_take (vs := vs) (k := (ls.take i).flatten.length) (ws := bytesAV l) (by rw [bytesAV_length, hvl]; exact hf1)
        rw [bytesAV_length, hvt] at s2
        refine ⟨ls.length - (i + 1), by omega, by simp [PT.get_set, g25], by simp [PT.get_set, g26], fun b x hb => by rw [c1 b (hwfM b x hb)]; exact hst b x hb, by rw [n1]; exact hnx, i + 1, _, by omega, rfl, ?_, ?_, b1, by rw [s1, hvl], ?_⟩
        · simp only [PT.get_set, Nat.reduceEqDiff, reduceIte, wrap64_succ (show i < 9223372036854775807 by omega)]
        · rw [flat_take hli, List.length_append]; simp only [PT.get_set, Nat.reduceEqDiff, reduceIte]
        · rw [flat_take hli, List.length_append, s2, bytesAV_append]
      · have hd := nlt_int hil
        obtain rfl : i = ls.length := by omega
        rw [List.take_length] at g6 hvt
        with_reducible repeat' (first
 | refine AW.seq ?_
 | refine AW.region ?_
 | refine AOs.nil ?_
 | refine AW.exit ?_
 | refine AW.ret ?_
 | refine andThen_normal ?_
 | refine andThen_exit ?_
 | refine inBlock_hit ?_
 | refine AW.condF (by simp only [aeval, PT.get_set, reduceIte]; rfl) (by first | rfl | decide | assumption) ?_
 | ((first
 | refine AOs.op1E tOK (by with_unfolding_all rfl) ?_
 ); refine Step.mk (by simp only [evOp_move, evOp_assign, evOp_binOp, aeval, PT.get_set, Nat.reduceEqDiff, reduceIte, Option.map_some, abin_lss, eq_self, g6, g26, g27, hd]; rfl) ?_)
 | fail "stop")
        refine fnPost_ret1 (by first | (simp only [PT.get_set, Nat.reduceEqDiff, reduceIte]; rfl) | simp only [PT.get_set, Nat.reduceEqDiff, reduceIte]) ⟨.inr ⟨L.next, 0, .lo ls.flatten.length, false, vs, rfl, hgv, by rw [List.drop_zero]; exact hvt, ?_, Nat.le_refl _⟩, hst, hnx⟩
        rw [← hvl, List.take_length] at hvt
        rw [hvt]; exact kindV_bytes _ _
end Go.Proofs.YtgihociajfgohaaGreatDoor
