/- Log: Size, Left, Fuse, Names, New; no condition. -/
import Derived.Test.YtgihociajfgohaaGreatDoorDisk3
import Derived.Test.YtgihociajfgohaaGreatDoorHeap6
import Derived.Test.YtgihociajfgohaaGreatDoorKeys
import Derived.Laws.Externs
set_option linter.unusedSimpArgs false
set_option linter.unusedVariables false
open Go Go.AB Go.Proofs
namespace Go.Proofs.YtgihociajfgohaaGreatDoor
set_option maxRecDepth 100000

def DM.size (M : DM) (n : Nm) : Int := match getN M.now n with
  | none => -1
  | some i => ((M.file i).1.length : Nat)

set_option maxHeartbeats 1000000 in
theorem size16 (N : Nat) (H : AH) {d : Nat} {M : DM} {A : Nat → Prop} {n : Nm} (h : DiskAt H d M A) (ok : M.OK) : AC tC N 0 64 [.ptr d 0, .str n] H fun r K => r = .int .i64 (M.size n) ∧ K = H := by
  obtain ⟨φ, nb, sb, cv, v1, v2, h⟩ := h
  have hc : H.get d = _ := h.core
  have hn : H.get nb = _ := h.now
  refine AC.by (n := 27) (rs := [.tmp 4]) tOK fn64 rfl rfl rfl rfl ?_
  have e0 : (PT.ofList .leaf 0 [AV.ptr d 0, .str n]).get 0 = some (.ptr d 0) := rfl
  have e1 : (PT.ofList .leaf 0 [AV.ptr d 0, .str n]).get 1 = some (.str n) := rfl
  with_reducible repeat' (first
 | refine AW.seq ?_
 | refine AW.region ?_
 | refine AOs.nil ?_
 | refine andThen_normal ?_
 | ((first
 | refine AOs.op1E tOK (by with_unfolding_all rfl) ?_
 ); refine Step.mk (by simp only [evOp_move, evOp_assign, aeval, ofVal, PT.get_set, Nat.reduceEqDiff, reduceIte, e0]; rfl) ?_)
 | fail "stop")
  refine AOs.callQ tOK (fs := []) (cs := []) rfl fn37 ok37 rfl (by simp only [List.map_cons, List.map_nil, List.nil_append, List.append_nil, aeval, PT.get_set, Nat.reduceEqDiff, reduceIte] <;> rfl) (made34 N _ h.core) ?_
  rintro r K ⟨rfl, rfl⟩
  cases hg : getN M.now n with
  | none =>
    with_reducible repeat' (first
 | refine AW.seq ?_
 | refine AW.region ?_
 | refine AOs.nil ?_
 | refine AW.ret ?_
 | refine andThen_normal ?_
 | refine andThen_ret ?_
 | refine AOs.guardT (by with_unfolding_all rfl) (by simp only [PT.get_set, Nat.reduceEqDiff, reduceIte]; rfl) (by first | rfl | decide | assumption) ?_
 | refine AW.condT (by simp only [aeval, PT.get_set, Nat.reduceEqDiff, reduceIte]; rfl) (by first | rfl | decide | assumption) ?_
 | ((first
 | refine AOs.op1E tOK (by with_unfolding_all rfl) ?_
 ); refine Step.mk (by simp only [evOp_move, evOp_assign, evOp_pick, evOp_nilCheck, evOp_binOp, evOp_not, evOp_fieldAddr, evOp_load, evOp_lookup, aeval, ofVal, PT.get_set, Nat.reduceEqDiff, reduceIte, cellAt, lookAt, Option.map_some, Option.map_none, cond_false, Bool.not_true, List.getElem?_cons_zero, List.getElem?_cons_succ, Nat.zero_add, eq_self, Int.reduceNeg, ld72, lk72, fa75_1, eq85b, e0, e1, hc, hn, mget_ents, getN_mapE, hg, Option.getD_none]; rfl) ?_)
 | fail "stop")
    exact fnPost_ret1 (by first | (simp only [PT.get_set, Nat.reduceEqDiff, reduceIte]; rfl) | simp only [PT.get_set, Nat.reduceEqDiff, reduceIte]) ⟨by simp only [DM.size, hg], rfl⟩
  | some i =>
    obtain ⟨ha, bv, hfc, hfb⟩ := h.files i _ (DM.file_of (ok.now _ (getN_mem hg)))
    have hlen := hfb.bytes.len
    with_reducible repeat' (first
 | refine AW.seq ?_
 | refine AW.region ?_
 | refine AOs.nil ?_
 | refine AW.skip ?_
 | refine AW.ret ?_
 | refine andThen_normal ?_
 | refine AOs.guardT (by with_unfolding_all rfl) (by simp only [PT.get_set, Nat.reduceEqDiff, reduceIte]; rfl) (by first | rfl | decide | assumption) ?_
 | refine AW.condF (by simp only [aeval, PT.get_set, Nat.reduceEqDiff, reduceIte]; rfl) (by first | rfl | decide | assumption) ?_
 | ((first
 | refine AOs.op1E tOK (by with_unfolding_all rfl) ?_
 ); refine Step.mk (by simp only [evOp_move, evOp_assign, evOp_pick, evOp_nilCheck, evOp_binOp, evOp_not, evOp_fieldAddr, evOp_load, evOp_lookup, evOp_len, aeval, ofVal, PT.get_set, Nat.reduceEqDiff, reduceIte, cellAt, lookAt, Option.map_some, cond_false, Bool.not_true, List.getElem?_cons_zero, List.getElem?_cons_succ, Nat.add_zero, Nat.zero_add, eq_self, al32, ld32, ld72, lk72, fa75_1, eq85a, fa87_0, e0, e1, hc, hn, mget_ents, getN_mapE, hg, Option.getD_some, hfc, hlen]; rfl) ?_)
 | fail "stop")
    exact fnPost_ret1 (by first | (simp only [PT.get_set, Nat.reduceEqDiff, reduceIte]; rfl) | simp only [PT.get_set, Nat.reduceEqDiff, reduceIte]) ⟨by simp only [DM.size, hg], rfl⟩

def DM.setFuse (M : DM) (n : Int) : DM := { M with fuse := max (-1) n }

set_option maxHeartbeats 1000000 in
theorem fuse19 (N : Nat) (H : AH) {d : Nat} {M : DM} {A : Nat → Prop} {n : Int} (h : DiskAt H d M A) : AC tC N 0 24 [.ptr d 0, .int .i64 n] H fun r K => r = .int .i64 0 ∧ DiskAt K d (M.setFuse n) (AddR A H.next K.next) ∧ Apart H K A := by
  refine AC.wf0 fun hwf => ?_
  obtain ⟨φ, nb, sb, cv, v1, v2, h⟩ := h
  have hc : H.get d = _ := h.core
  refine AC.by (n := 13) (rs := [.tmp 4]) tOK fn24 rfl rfl rfl rfl ?_
  have e0 : (PT.ofList .leaf 0 [AV.ptr d 0, .int .i64 n]).get 0 = some (.ptr d 0) := rfl
  have e1 : (PT.ofList .leaf 0 [AV.ptr d 0, .int .i64 n]).get 1 = some (.int .i64 n) := rfl
  with_reducible repeat' (first
 | refine AW.seq ?_
 | refine AW.region ?_
 | refine AOs.nil ?_
 | refine andThen_normal ?_
 | ((first
 | refine AOs.op1E tOK (by with_unfolding_all rfl) ?_
 ); refine Step.mk (by simp only [evOp_move, evOp_assign, aeval, ofVal, PT.get_set, Nat.reduceEqDiff, reduceIte, e0]; rfl) ?_)
 | fail "stop")
  refine AOs.callQ tOK (fs := []) (cs := []) rfl fn37 ok37 rfl (by simp only [List.map_cons, List.map_nil, List.nil_append, List.append_nil, aeval, PT.get_set, Nat.reduceEqDiff, reduceIte] <;> rfl) (made34 N _ h.core) ?_
  rintro r K ⟨rfl, rfl⟩
  with_reducible repeat' (first
 | refine AW.seq ?_
 | refine AW.region ?_
 | refine AOs.nil ?_
 | refine AW.skip ?_
 | refine AW.ret ?_
 | refine andThen_normal ?_
 | refine AW.condF (by simp only [aeval, PT.get_set, Nat.reduceEqDiff, reduceIte]; rfl) (by first | rfl | decide | assumption) ?_
 | ((first
 | refine AOs.op1E tOK (by with_unfolding_all rfl) ?_
 | refine AOs.op0E tOK ?_
 ); refine Step.mk (by simp only [evOp_move, evOp_assign, evOp_nilCheck, evOp_not, evOp_fieldAddr, evOp_store, storeAt, one_int, aeval, ofVal, PT.get_set, Nat.reduceEqDiff, reduceIte, Option.map_some, Bool.not_true, Nat.zero_add, Nat.reduceLT, Nat.reduceAdd, List.length_cons, List.length_nil, List.set_cons_zero, List.set_cons_succ, eq_self, Int.reduceNeg, st3, fa75_4, e0, e1, hc, evOp_max2, max2V_int, Option.isSome_some]; rfl) ?_)
 | fail "stop")
  have hk : ∀ b x, K.get b = some x → b ≠ d → (K.set d (.cells false [.int .i64 M.room, .map nb, .map sb, cv, .int .i64 (max (-1) n), .bool M.off])).get b = some x := fun b x hb hne => by rw [AH.get_set, if_neg hne]; exact hb
  have hD := h.op (K := K.set d (.cells false [.int .i64 M.room, .map nb, .map sb, cv, .int .i64 (max (-1) n), .bool M.off])) (Nat.le_refl _) (by unfold CoreAt; rw [AH.get_set, if_pos rfl]) hk
  refine fnPost_ret1 (by first | (simp only [PT.get_set, Nat.reduceEqDiff, reduceIte]; rfl) | simp only [PT.get_set, Nat.reduceEqDiff, reduceIte]) ⟨rfl, ⟨φ, nb, sb, cv, v1, v2, hD.keep ⟨fun _ _ h _ => h, Nat.le_refl _⟩ fun b hb => .inl hb⟩, Apart.op h hwf (Stays.refl K) rfl fun b hb => by rw [AH.get_set, if_neg hb]⟩
end Go.Proofs.YtgihociajfgohaaGreatDoor

open Go Go.AB Go.Proofs
namespace Go.Proofs
open Go.RowKit Go.Maps Go.Sort Go.Shelf

theorem Tryz.sorts51 (m : Nat) : AnyZ.SortsIn Tryz.prog Tryz.sorted51_ren Fence.wide m :=
  ⟨fun blk off cap ss W hH hblk hsz => callsIn_wide.2 (AnyM.slices_Sort_string Tryz.sort82 blk off cap ss W hH hblk hsz),
   fun p cap W => callsIn_wide.2 (AnyM.slices_Sort_string_none Tryz.sort82 p cap W)⟩

set_option maxHeartbeats 1000000 in
theorem Tryz.sortedAt {H : Type} (R : Value → Option (DataW H × List MemPlace)) (Bm b nn : Nat) (D0 : DataW H) (w : World) (hBm : Bm < w.heap.size) (hm : w.cell? ⟨Bm, 0, none⟩ = some (.map (some b))) (hown : w.ownsMap Tryz.prog 9 R b nn D0) (hmax : Maps.size D0 ≤ maxLen) (hbytes : Maps.size D0 * 16 ≤ 140737488355328) :
    Calls Tryz.prog 51 #[.func (.func 83) #[] #[.pointer (some ⟨Bm, 0, none⟩)]] w fun e w' => ∃ (v : Value) (ss : List (List UInt8)), e = .returned v ∧ ss.Perm (strKeys D0) ∧
      w'.ownsRow w.heap.size 9 1 v ss.length ((ss.mergeSort (fun x y => decide (x ≤ y))).map encStr) ∧ (v = .slice none 0 0 ↔ ss = []) ∧ Below w.heap.size w w' := by
  have hseq : SeqGives Fence.wide 2 Tryz.prog 83 #[.pointer (some ⟨Bm, 0, none⟩)] encStr (fun ss => ss.Perm (strKeys D0)) (Maps.size D0) w :=
    AnyZ.keys_gives (ρ := Tryz.keys52_ren) { Tryz.keys52 with } Fence.wide _ trivial rfl (by omega) Bm b nn D0 w hBm hm hown
  exact (callsIn_wide (n := 5)).1 (AnyZ.sorted_in Tryz.sorted51 Fence.wide 5 trivial trivial trivial trivial rfl (by omega) (Tryz.sorts51 _) (enters_of Tryz.func82 (by kernel_rfl) rfl) 83 #[.pointer (some ⟨Bm, 0, none⟩)] trivial (enters_of Tryz.func83 (by kernel_rfl) rfl) _ _ hmax hbytes w hseq)
end Go.Proofs
namespace Go.Proofs.YtgihociajfgohaaGreatDoor
set_option maxRecDepth 100000
open Go.RowKit

theorem run_clone (t : TypeId) (b : Nat) (es : Array MapEntry) (clock : Nat) (w : World) (hb : w.heap[b]? = some (.map es clock)) :
    (callFunc 84 #[.iface t (.map (some b))]).run Tryz.prog w = .ok (.value (.iface t (.map (some w.heap.size)))) (w.alloc (.map es clock)) := by
  rw [run_callFunc_extern Tryz.func84 (by kernel_rfl) (by kernel_rfl) (by kernel_rfl) (e := Extern.MapsClone.clone) (by kernel_rfl)]
  have : (Extern.MapsClone.clone #[.iface t (.map (some b))]).run Tryz.prog w = .ok (.iface t (.map (some w.heap.size))) (w.alloc (.map es clock)) := by
    obtain ⟨k, e, hk⟩ : ∃ k : Obj → Sem Value, Extern.MapsClone.clone #[.iface t (.map (some b))] = (getObj b >>= k) ∧ k (.map es clock) = (newObj (.map es clock) >>= fun n => pure (.iface t (.map (some n)))) := ⟨_, rfl, rfl⟩
    rw [e]
    simp [MapKept.run_getObj_map hb, Result.andThen, go_sem, hk]
  rw [this]; rfl

/-- A map's clone, taken as known. -/
def FX : Fns := ⟨fun _ _ _ => none, fun f args H => bif Nat.beq f 84 then specClone args H else none⟩
theorem FX_ok (N : Nat) : FX.OK tC N 0 where
  call _ _ _ _ _ h := by cases h
  ext f args H r H' h := by
    simp only [FX] at h
    cases h1 : Nat.beq f 84
    · rw [h1] at h; cases h
    · rw [h1] at h
      obtain rfl := Nat.eq_of_beq_eq_true h1
      exact fun ρ w vs hR hv => specClone_ok (P := Tryz.prog) run_clone h hR hv

theorem lensOk_ents : ∀ {E : Ents}, (∀ p ∈ E, p.1.length ≤ 1000000) → lensOk (ents E) = true
  | [], _ => rfl
  | p :: E, h => by
    have h1 := h p (by simp)
    have h2 := lensOk_ents (E := E) fun q hq => h q (by simp [hq])
    show (Nat.ble p.1.length bigLen && lensOk (ents E)) = true
    rw [h2, Bool.and_true]
    exact Nat.ble_eq_true_of_le (by unfold bigLen; omega)


/-- Sorted keys. -/
theorem sorted35 (N : Nat) (H : AH) {b m : Nat} {rest : List AV} {E : Ents} {v : Nat} (hb : H.get b = some (.cells false (.map m :: rest))) (hm : H.get m = some (.map (ents E) v)) (hl : ∀ p ∈ E, p.1.length ≤ 1000000) (hn : E.length ≤ 1000000) :
    AC tC N 0 51 [.func 83 [] [.ptr b 0]] H fun r K => StrsAt K r (isortK (E.map (·.1))) ∧ (∀ b x, H.get b = some x → K.get b = some x) ∧ H.next ≤ K.next := fun ρ w vs hR hv => by
  have hwf := hR.wf
  have hc : (lensOk (ents E) && Nat.ble ((ents E).length * 16) 140737488355328) = true := by
    rw [lensOk_ents hl, Bool.true_and]
    refine Nat.ble_eq_true_of_le ?_
    simp only [ents, List.length_map]; omega
  have hk : (ents E).map (·.1) = E.map (·.1) := ents_keys E
  cases hs : isortK (E.map (·.1)) with
  | nil =>
    have he : specSorted 83 [.func 83 [] [.ptr b 0]] H = some (.nils, H) := by
      simp only [specSorted, Nat.beq_refl, cond_true, hb, hm, hc, hk, hs]
    refine (specSorted_ok (P := Tryz.prog) (kt := 9) Tryz.underlying9 (fun Bm b nn D0 w => Tryz.sortedAt anyElem Bm b nn D0 w) he hR hv).mono ?_
    rintro e w' ⟨u, ρ', h1, h2, h3, h4⟩
    exact ⟨u, ρ', _, _, ⟨.inl ⟨rfl, rfl⟩, fun _ _ h => h, Nat.le_refl _⟩, h1, h2, h3, h4⟩
  | cons k ks =>
    have he : specSorted 83 [.func 83 [] [.ptr b 0]] H = some (.slice H.next 0 (k :: ks).length (.lo (k :: ks).length) 1, H.alloc (.cells false ((k :: ks).map .str))) := by
      simp only [specSorted, Nat.beq_refl, cond_true, hb, hm, hc, hk, hs]
    refine (specSorted_ok (P := Tryz.prog) (kt := 9) Tryz.underlying9 (fun Bm b nn D0 w => Tryz.sortedAt anyElem Bm b nn D0 w) he hR hv).mono ?_
    rintro e w' ⟨u, ρ', h1, h2, h3, h4⟩
    refine ⟨u, ρ', _, _, ⟨.inr ⟨H.next, _, false, _, rfl, by rw [AH.get_alloc, if_pos rfl], fun i s hi => by rw [List.getElem?_map, hi]; rfl⟩, fun b x hx => ?_, by simp⟩, h1, h2, h3, h4⟩
    rw [AH.get_alloc, if_neg (by have := hwf b x hx; omega)]; exact hx

set_option maxHeartbeats 1000000 in
theorem keys36 (N : Nat) (H : AH) (m : Nat) : AC tC N 0 52 [.map m] H fun r K => r = .func 83 [] [.ptr H.next 0] ∧ K = H.alloc (.cells false [.map m]) := by
  refine AC.by (n := 4) (rs := [.tmp 2]) tOK fn52 rfl rfl rfl rfl ?_
  have e0 : (PT.ofList .leaf 0 [AV.map m]).get 0 = some (.map m) := rfl
  with_reducible repeat' (first
 | refine AW.seq ?_
 | refine AW.region ?_
 | refine AOs.nil ?_
 | refine AW.ret ?_
 | refine andThen_normal ?_
 | ((first
 | refine AOs.op1E tOK (by with_unfolding_all rfl) ?_
 ); refine Step.mk (by simp only [evOp_assign, evOp_makeFunc, evOp_boxC, boxC_one, one_map, aeval, ofVal, PT.get_set, Nat.reduceEqDiff, reduceIte, List.map_cons, List.map_nil, Option.map_some, eq_self, e0, evOp_makeFunc]; rfl) ?_)
 | fail "stop")
  exact fnPost_ret1 (by first | (simp only [PT.get_set, Nat.reduceEqDiff, reduceIte]; rfl) | simp only [PT.get_set, Nat.reduceEqDiff, reduceIte]) ⟨rfl, rfl⟩

set_option maxHeartbeats 1000000 in
theorem clone38 (N : Nat) (H : AH) {m : Nat} {E : Ents} {v : Nat} (hm : H.get m = some (.map (ents E) v)) : AC tC N 0 54 [.map m] H fun r K => r = .map H.next ∧ K = H.alloc (.map (ents E) 0) := by
  refine AC.by (n := 9) (rs := [.tmp 2]) tOK fn54 rfl rfl rfl rfl ?_
  have e0 : (PT.ofList .leaf 0 [AV.map m]).get 0 = some (.map m) := rfl
  have hm1 : H.get m = some (.map (ents E) v) := hm
  have hi : ∀ (F : Fns) (H : AH) (ev : Operand → AV) (dst : Option Tmp) (ty : TypeId) (pos : String) (after : Array Edge) (guard : Option (Nat × Bool)) (x : Operand), evOp tC F H ev { dst, op := .makeInterface 72 x, type := ty, pos, after, guard } = some (.iface 72 (ev x), H) := fun _ _ _ _ _ _ _ _ _ => evOp_mkIface ti72 rfl
  with_reducible repeat' (first
 | refine AW.seq ?_
 | refine AW.region ?_
 | refine AOs.nil ?_
 | refine AW.skip ?_
 | refine andThen_normal ?_
 | refine AW.condF (by simp only [aeval, PT.get_set, Nat.reduceEqDiff, reduceIte]; rfl) (by first | rfl | decide | assumption) ?_
 | ((first
 | refine AOs.op1E tOK (by with_unfolding_all rfl) ?_
 ); refine Step.mk (by simp only [evOp_move, evOp_assign, evOp_binOp, aeval, ofVal, PT.get_set, Nat.reduceEqDiff, reduceIte, Option.map_some, eq_self, eq72a, e0, hi]; rfl) ?_)
 | fail "stop")
  refine AOs.callX tOK (FX_ok N) (f := 84) (fs := []) (cs := []) rfl (fun _ _ => rfl) rfl (by simp only [List.map_cons, List.map_nil, List.nil_append, List.append_nil, aeval, PT.get_set, Nat.reduceEqDiff, reduceIte] <;> rfl) (show _ = some (AV.iface 72 (.map H.next), H.alloc (.map (ents E) 0)) from by simp only [FX, Nat.beq_refl, cond_true, specClone, hm]) ?_
  refine AOs.op1 tOK (evOp_assert ti72 rfl (by simp only [aeval, PT.get_set, Nat.reduceEqDiff, reduceIte]; rfl)) rfl ?_
  with_reducible repeat' (first
 | refine AOs.nil ?_
 | refine AW.ret ?_
 | refine andThen_normal ?_
 | ((first
 | refine AOs.op1E tOK (by with_unfolding_all rfl) ?_
 ); refine Step.mk (by simp only [evOp_assign, aeval, PT.get_set, Nat.reduceEqDiff, reduceIte, eq_self]; rfl) ?_)
 | fail "stop")
  exact fnPost_ret1 (by first | (simp only [PT.get_set, Nat.reduceEqDiff, reduceIte]; rfl) | simp only [PT.get_set, Nat.reduceEqDiff, reduceIte]) ⟨rfl, rfl⟩

def DM.names (M : DM) : List Nm := isortK (M.now.map (·.1))

theorem mapE_len (φ : Nat → Nat) (E : Ents) : (mapE φ E).length = E.length := by simp [mapE]
theorem mapE_names {φ : Nat → Nat} {E : Ents} {n : Nat} (h : ∀ p ∈ E, p.1.length ≤ n) : ∀ p ∈ mapE φ E, p.1.length ≤ n := fun p hp => by
  obtain ⟨q, hq, rfl⟩ := List.mem_map.1 hp
  exact h q hq

set_option maxHeartbeats 1000000 in
theorem names24 (N : Nat) (H : AH) {d : Nat} {M : DM} {A : Nat → Prop} (h : DiskAt H d M A) (hl : ∀ p ∈ M.now, p.1.length ≤ 1000000) (hn : M.now.length ≤ 1000000) :
    AC tC N 0 32 [.ptr d 0] H fun r K => StrsAt K r M.names ∧ (∀ b x, H.get b = some x → K.get b = some x) ∧ H.next ≤ K.next := by
  refine AC.wf0 fun hwf => ?_
  obtain ⟨φ, nb, sb, cv, v1, v2, h⟩ := h
  refine AC.by (n := 12) (rs := [.tmp 2]) tOK fn32 rfl rfl rfl rfl ?_
  have e0 : (PT.ofList .leaf 0 [AV.ptr d 0]).get 0 = some (.ptr d 0) := rfl
  have hc : H.get d = _ := h.core
  have hnow : H.get nb = _ := h.now
  with_reducible repeat' (first
 | refine AW.seq ?_
 | refine AW.region ?_
 | refine AOs.nil ?_
 | refine andThen_normal ?_
 | ((first
 | refine AOs.op1E tOK (by with_unfolding_all rfl) ?_
 ); refine Step.mk (by simp only [evOp_move, evOp_assign, aeval, ofVal, PT.get_set, Nat.reduceEqDiff, reduceIte, e0]; rfl) ?_)
 | fail "stop")
  refine AOs.callQ tOK (fs := []) (cs := []) rfl fn37 ok37 rfl (by simp only [List.map_cons, List.map_nil, List.nil_append, List.append_nil, aeval, PT.get_set, Nat.reduceEqDiff, reduceIte] <;> rfl) (made34 N _ h.core) ?_
  rintro r K ⟨rfl, rfl⟩
  with_reducible repeat' (first
 | refine AW.seq ?_
 | refine AW.region ?_
 | refine AOs.nil ?_
 | refine AW.skip ?_
 | refine andThen_normal ?_
 | refine AW.condF (by simp only [aeval, PT.get_set, Nat.reduceEqDiff, reduceIte]; rfl) (by first | rfl | decide | assumption) ?_
 | ((first
 | refine AOs.op1E tOK (by with_unfolding_all rfl) ?_
 ); refine Step.mk (by simp only [evOp_move, evOp_nilCheck, evOp_not, evOp_fieldAddr, evOp_load, aeval, PT.get_set, Nat.reduceEqDiff, reduceIte, cellAt, Option.map_some, Bool.not_true, List.getElem?_cons_zero, List.getElem?_cons_succ, Nat.zero_add, eq_self, ld72, fa75_1, e0, hc]; rfl) ?_)
 | fail "stop")
  refine AOs.callQ tOK (fs := []) (cs := []) rfl fn52 ok52 rfl (by simp only [List.map_cons, List.map_nil, List.nil_append, List.append_nil, aeval, PT.get_set, Nat.reduceEqDiff, reduceIte] <;> rfl) (keys36 N K nb) ?_
  rintro r K1 ⟨rfl, rfl⟩
  have hw := hwf _ _ hnow
  have hst : ∀ b x, K.get b = some x → (K.alloc (.cells false [.map nb])).get b = some x := fun b x hx => by
    rw [AH.get_alloc, if_neg (by have := hwf b x hx; omega)]; exact hx
  refine AOs.callQ tOK (fs := []) (cs := []) rfl fn51 ok51 rfl (by simp only [List.map_cons, List.map_nil, List.nil_append, List.append_nil, aeval, PT.get_set, Nat.reduceEqDiff, reduceIte] <;> rfl) (sorted35 N (K.alloc (.cells false [.map nb])) (b := K.next) (rest := []) (by rw [AH.get_alloc, if_pos rfl]) (hst _ _ hnow) (mapE_names hl) (by rw [mapE_len]; exact hn)) ?_
  rintro r K2 ⟨h1, h2, h3⟩
  rw [mapE_keys] at h1
  with_reducible repeat' (first
 | refine AOs.nil ?_
 | refine AW.ret ?_
 | refine andThen_normal ?_
 | ((first
 | refine AOs.op1E tOK (by with_unfolding_all rfl) ?_
 ); refine Step.mk (by simp only [evOp_assign, aeval, PT.get_set, Nat.reduceEqDiff, reduceIte, eq_self]; rfl) ?_)
 | fail "stop")
  exact fnPost_ret1 (by first | (simp only [PT.get_set, Nat.reduceEqDiff, reduceIte]; rfl) | simp only [PT.get_set, Nat.reduceEqDiff, reduceIte]) ⟨h1, fun b x hx => h2 b x (hst b x hx), by simp at h3; omega⟩
end Go.Proofs.YtgihociajfgohaaGreatDoor

open Go Go.AB Go.Proofs
namespace Go.Proofs.YtgihociajfgohaaGreatDoor
set_option maxRecDepth 100000

def DM.new (room : Int) : DM := ⟨room, [], [], [], [], -1, false⟩
theorem DM.new_ok (room : Int) : (DM.new room).OK := ⟨fun p h => by simp [DM.new] at h, fun p h => by simp [DM.new] at h, fun n i h => by simp [DM.new] at h, by simp [DM.new], by simp [DM.new], fun i p h => by simp [DM.new] at h⟩

theorem bd75 (room : Int) (a b : Nat) : abuild tC 75 [(0, .int .i64 room), (1, .map a), (2, .map b), (4, .int .i64 (-1))] = some (.agg [.int .i64 room, .map a, .map b, .nils, .int .i64 (-1), .bool false]) := by kernel_rfl

set_option maxHeartbeats 1000000 in
theorem new7 (N : Nat) (H : AH) {room : Int} (h0 : 0 ≤ room) (h1 : room ≤ 67108864) :
    AC tC N 0 20 [.int .i64 room] H fun r K => ∃ d, r = .tuple [.ptr d 0, .int .i64 0] ∧ DiskAt K d (DM.new room) (AddR (fun _ => False) H.next K.next) ∧ (∀ b x, H.get b = some x → K.get b = some x) ∧ H.next ≤ K.next := by
  refine AC.wf0 fun hwf => ?_
  refine AC.by (n := 15) (rs := [.tmp 2, .tmp 3]) tOK fn20 rfl rfl rfl rfl ?_
  have e0 : (PT.ofList .leaf 0 [AV.int .i64 room]).get 0 = some (.int .i64 room) := rfl
  have d1 : decide (room < 0) = false := by simp; omega
  have d2 : decide ((67108864 : Int) < room) = false := by simp; omega
  with_reducible repeat' (first
 | refine AW.seq ?_
 | refine AW.region ?_
 | refine AOs.nil ?_
 | refine AW.skip ?_
 | refine AW.ret ?_
 | refine andThen_normal ?_
 | refine AOs.guardT (by with_unfolding_all rfl) (by simp only [PT.get_set, Nat.reduceEqDiff, reduceIte]; rfl) (by first | rfl | decide | assumption) ?_
 | refine AW.condF (by simp only [aeval, PT.get_set, Nat.reduceEqDiff, reduceIte]; rfl) (by first | rfl | decide | assumption) ?_
 | ((first
 | refine AOs.op1E tOK (by with_unfolding_all rfl) ?_
 ); refine Step.mk (by simp only [evOp_move, evOp_assign, evOp_pick, evOp_build, evOp_binOp, evOp_makeMap, evOp_boxC, boxC_agg, aeval, ofVal, PT.get_set, Nat.reduceEqDiff, reduceIte, List.map_cons, List.map_nil, Option.map_some, abin_lss, abin_gtr, cond_false, nblt, eq_self, Int.reduceNeg, e0, d1, d2, bd75, AH.next_alloc]; rfl) ?_)
 | fail "stop")
  have hn1 : ¬ H.next = H.next + 1 := by omega
  have hn2 : ¬ H.next = H.next + 1 + 1 := by omega
  refine fnPost_ret2 (by first | (simp only [PT.get_set, Nat.reduceEqDiff, reduceIte]; rfl) | simp only [PT.get_set, Nat.reduceEqDiff, reduceIte]) (by first | (simp only [PT.get_set, Nat.reduceEqDiff, reduceIte]; rfl) | simp only [PT.get_set, Nat.reduceEqDiff, reduceIte]) ⟨H.next + 1 + 1, rfl, ⟨id, H.next, H.next + 1, .nils, 0, 0, ?_⟩, fun b x hx => ?_, by simp; omega⟩
  · exact {
      core := by show AH.get _ _ = _; rw [AH.get_alloc, if_pos (by simp)]; rfl
      now := by rw [AH.get_alloc, if_neg (by simp; omega), AH.get_alloc, if_neg (by simp), AH.get_alloc, if_pos rfl]; rfl
      ver1 := by simp
      sf := by rw [AH.get_alloc, if_neg (by simp), AH.get_alloc, if_pos (by simp)]; rfl
      ver2 := by simp
      notes := .inl ⟨rfl, rfl⟩
      ne := by omega
      ad := .inr ⟨by omega, by simp⟩
      an := .inr ⟨by omega, by simp; omega⟩
      asf := .inr ⟨by omega, by simp⟩
      ac := fun b o n c z e => by cases e
      files := fun i p h => by simp [DM.new] at h
      inj := fun i j h => by simp [DM.new] at h }
  · have := hwf b x hx
    rw [AH.get_alloc, if_neg (by simp; omega), AH.get_alloc, if_neg (by simp; omega), AH.get_alloc, if_neg (by omega)]; exact hx

/-- A first part of bytes. -/
theorem FB.head {H : AH} {v : AV} {l : List UInt8} (h : FB H v l) {n : Nat} (hn : n ≤ l.length) : ∃ u, aslice tC 32 v none (some (.int .i64 (n : Int))) none = some u ∧ FB H u (l.take n) := by
  rcases h with ⟨rfl, rfl⟩ | ⟨b, o, c, ro, vs, rfl, h1, h2, h3, h4⟩
  · obtain rfl : n = 0 := by simpa using hn
    exact ⟨.nils, sl32n, .inl ⟨rfl, rfl⟩⟩
  · have hlen : (l.take n).length = n := by rw [List.length_take]; omega
    have htk : (vs.drop o).take n = bytesAV (l.take n) := by
      have := congrArg (List.take n) h2
      rw [List.take_take, Nat.min_eq_left hn] at this
      rw [this]; simp [bytesAV, List.map_take]
    cases c with
    | lo c =>
      simp only [ACap.low] at h4
      exact ⟨_, aslice_hi ti32 rfl ti5 rfl (by omega), .inr ⟨b, o, .lo c, ro, vs, by rw [hlen], h1, by rw [hlen]; exact htk, h3, by rw [hlen]; simp only [ACap.low]; omega⟩⟩
    | ex c =>
      simp only [ACap.low] at h4
      have hb : bnd (some (AV.int .i64 (n : Int))) l.length = some n := by simp [bnd]
      by_cases hc : c = 0
      · subst hc
        obtain rfl : n = 0 := by omega
        refine ⟨.slice b o 0 (.ex 0) 1, ?_, .inr ⟨b, o, .ex 0, ro, vs, by simp, h1, by simp [bytesAV], h3, by simp⟩⟩
        simp only [aslice, ti32, ti5, hb, show bnd none 0 = some 0 from rfl]
        simp [nbeq, nble]
      · refine ⟨.slice b o n (.ex c) 1, ?_, .inr ⟨b, o, .ex c, ro, vs, by rw [hlen], h1, by rw [hlen]; exact htk, h3, by rw [hlen]; simp only [ACap.low]; omega⟩⟩
        simp only [aslice, ti32, ti5, hb, show bnd none 0 = some 0 from rfl]
        simp [nbeq, nble, hc, show n ≤ c by omega]
end Go.Proofs.YtgihociajfgohaaGreatDoor
