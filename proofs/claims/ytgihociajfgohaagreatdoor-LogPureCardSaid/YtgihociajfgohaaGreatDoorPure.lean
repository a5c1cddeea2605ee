/- LogPure returns true and leaves its arguments as they were, whatever they are; the listed variables lie as the program lays them; no other condition. -/
import Derived.Test.YtgihociajfgohaaGreatDoorRows
import Derived.Test.YtgihociajfgohaaGreatDoorCards
import Derived.Test.YtgihociajfgohaaGreatDoorTie
import Derived.Test.YtgihociajfgohaaGreatDoorPureWalk
import Derived.MakeChecks
import Derived.WalkKit
import Derived.ProofKit
import Derived.LaidMore
import Derived.OpenShut
import Derived.Stop.Joined
import Derived.SevenTiedAt
namespace Go.Proofs.YtgihociajfgohaaGreatDoor.logPure
open Go.ChangeShapes Go.WideShapes Go.ChangeAt Go.RowKit
set_option linter.unusedVariables false

theorem own : ownKnob Tryz.prog.godebug = none := by kernel_rfl
theorem rowsLaid : laidOutB Tryz.prog = true := by kernel_rfl
theorem plains : ([9, 9, 3, 32].all fun t => AB.plainT Tryz.prog 8 t && AB.oneT Tryz.prog t && Tryz.prog.readableRec t && decide (t < Tryz.prog.types.size)) = true := by kernel_rfl

theorem plain (t : TypeId) (ht : t ∈ [9, 9, 3, 32]) : AB.plainT Tryz.prog 8 t = true ∧ AB.oneT Tryz.prog t = true ∧ Tryz.prog.readableRec t = true ∧ t < Tryz.prog.types.size := by
  have h := List.all_eq_true.1 plains t ht
  simp only [Bool.and_eq_true, decide_eq_true_eq] at h
  exact ⟨h.1.1.1, h.1.1.2, h.1.2, h.2⟩

/-- The heap that the program's own laying leaves meets the condition. -/
theorem door_met (os : Os) (args : Array Value) : laidMetH Tryz.prog Rows.logPureRow.laid ((World.doorLaid Tryz.prog 400 os).forCall (fun _ _ => 0) ⟨#[], args, []⟩).memory :=
  laidMetH_of_parts3 (fuel := 8) (laidMet_of_run' 8 (by kernel_rfl) (by kernel_rfl)) (by kernel_rfl) (by kernel_rfl)

/-! ### THE ROW's STEP: WRITTEN OUT: LEAVE IT -/
set_option maxRecDepth 100000 in
theorem lifted (os : Os) (started : os.Started) (H : Type) (enc : TypeId × Value → H) :
    ReturnsInHanded {} Tryz.checked os 4 .any (fun w args => (Rows.logPureSpec.pre enc Tryz.prog Tryz.f4 [] false w args ∧ laidMetH Tryz.prog Rows.logPureRow.laid w) ∧ sizedMet enc Tryz.prog Tryz.f4 (OpenSpec.ofChange Rows.logPureSpec) false w args) (Rows.logPureSpec.post enc Tryz.prog Tryz.f4 false true false false) := by
  refine returnsInHanded_of_change_and (C := Tryz.checked) (X := fun w _ => laidMetH Tryz.prog Rows.logPureRow.laid w) (fun _ _ _ hh h => h.of_heap hh) own started (by kernel_rfl) Tryz.func4
    (ChangeSpec.witness_shaped (enc := enc) (C := Tryz.checked) (os := os) (X := fun w _ => laidMetH Tryz.prog Rows.logPureRow.laid w) false (World.doorLaid Tryz.prog 400 os) #[.string ⟨#[]⟩, .string ⟨#[]⟩, .int .i64 0, .slice none 0 0] 8 rfl (World.shaped_of_RefB (by kernel_rfl) (by kernel_rfl)) (by kernel_rfl) (by kernel_rfl) (by kernel_rfl) (door_met os _)) ?_
  intro W base args ds gs before hval0 hW _ _ hL _
  have hval : ∀ (j : Nat) t v, Tryz.f4.params[j]? = some t → args[j]? = some v → Value.okWide Tryz.prog W .any base t v := hval0
  have hW' := hW
  obtain ⟨p, q, hA0, hV, rfl, hfz, hnd⟩ := hW
  have hA : DataW.TrodAll enc Tryz.prog W 0 (fun _ => true) true Tryz.f4.params.toList args.toList ds p := hA0
  rw [Tryz.params4] at hA hval
  obtain ⟨rfl, rfl⟩ := trodVars_none hV
  have hlt : ∀ x ∈ p, x.block < W.heap.size := fun x hx => hW'.lt x (by simp [hx])
  have hA' : DataW.TrodAll enc Tryz.prog W 0 (fun _ => true) true [9, 9, 3, 32] args.toList ds p := hA
  have hL5 : laidMet Tryz.prog Rows.logPureRow.laid W := by
    rw [Go.MakeChecks.laidMetH_plain Tryz.prog Rows.logPureRow.laid W (by kernel_rfl)] at hL
    exact hL
  have hpow : (Rows.laid_internal_strconv_uint64pow10 : DataW Unit) = Lib.tabData .u64 Lib.pow10Tab := by kernel_rfl
  have hL6 : laidMet Tryz.prog [("math/bits.deBruijn32tab", Rows.laid_math_bits_deBruijn32tab), ("math/bits.deBruijn64tab", Rows.laid_math_bits_deBruijn64tab), ("internal/strconv.uint64pow10", Rows.laid_internal_strconv_uint64pow10), ("strconv.ErrRange", Rows.laid_strconv_ErrRange), ("strconv.ErrSyntax", Rows.laid_strconv_ErrSyntax)] W := hL5
  rw [hpow] at hL6
  refine (show Calls Tryz.prog 4 args W _ from law_true5 (f := 4) (ts := [9, 9, 3, 32]) (ds := ds) (vs := args.toList) (enc := enc) (k := 8) (vars5 hL6) (fun t ht => ⟨(plain t ht).1, (plain t ht).2.1⟩)
    (fun N H xs hG hh => law4_all N H xs hG hh) (base := base) (fun j t u hj hu => hval j t u (by simpa using hj) (by simpa using hu)) hA').mono fun e W' ⟨he, hg⟩ => ?_
  subst he
  have hst : ∀ sp : Nat → Bool, (∀ x ∈ p, sp x.block = true) → DataW.TrodAll enc Tryz.prog W' 0 sp true [9, 9, 3, 32] args.toList ds p := fun sp hsp =>
    AB.trodAll_stays rowsLaid hg _ _ _ _ (fun t ht => ⟨(plain t ht).2.2.1, (plain t ht).2.2.2⟩) hA' hlt sp hsp
  obtain ⟨v0, vs0, d0, ds0, p0, q0, ha0, rfl, hp0, -, h0⟩ := trodAll_cons hA
  obtain ⟨v1, vs1, d1, ds1, p1, q1, ha1, rfl, hp1, -, h1⟩ := trodAll_cons h0
  obtain ⟨v2, vs2, d2, ds2, p2, q2, ha2, rfl, hp2, -, h2⟩ := trodAll_cons h1
  obtain ⟨v3, vs3, d3, ds3, p3, q3, ha3, rfl, hp3, -, h3⟩ := trodAll_cons h2
  obtain ⟨hn1, rfl, hn3⟩ := trodAll_nil h3
  exact ⟨_, rfl, AB.post_of_below (pa := _) (pv := []) hW' (fun _ _ _ => (trodAll_cons_mk (shut_bool Tryz.underlying4 _) trodAll_mk0))
    (fun sp hsp => hst sp (fun x hx => hsp x (by simp [hx]))) (fun _ _ => rfl) rfl
    hg (ok_one (by kernel_rfl) rfl (okWide_bool_mk Tryz.underlying4 _))⟩

theorem over : Rows.logPureRow.holds Tryz.pinned (OpenSpec.ofChange Rows.logPureSpec) :=
  OpenClaim.holds_of_wide 4 Tryz.f4 rfl rfl rfl rfl rfl rfl rfl ⟨rfl, rfl, rfl, rfl, rfl⟩ rfl rfl rfl rfl rfl (by kernel_rfl) Tryz.func4 (by kernel_rfl)
    (of_decide_eq_true (by kernel_rfl)) (by unfold Func.isWrapper; first | (rw [if_pos (by decide +kernel)]; kernel_rfl) | (rw [if_neg (by decide +kernel)]; exact ⟨rfl, rfl⟩))
    (fun os started H enc _ => lifted os started H enc)

/-- ████ THE STATEMENT ████ -/
theorem proved : Rows.LogPureCardSaid :=
  Claim7.holds_tied_plain_at .later [] [.data, .data, .data, .sentinel, .sentinel] true (true, "58651825e140989d2f2646aa8cbcf720e1bd415469c31e521ff0636d0fb91134") true
    over (fun _ h => by cases h) (by kernel_rfl) (fun _ h => by cases h) logPure_row_tie rfl ⟨rfl, rfl⟩ (by kernel_rfl) rfl
    (fun f fn hf hfn => by
      obtain rfl : f = 4 := Option.some.inj ((show Tryz.prog.funcNamed Rows.logPureRow.func = some 4 by kernel_rfl).symm.trans hf) |>.symm
      obtain rfl : fn = Tryz.f4 := (Option.some.inj (Tryz.func4.symm.trans hfn)).symm
      exact ⟨by kernel_rfl, fun j t ht => by
        rw [Tryz.params4] at ht
        have hm : t ∈ [9, 9, 3, 32] := by simpa using Array.mem_of_getElem? ht
        have hall : ([9, 9, 3, 32].all fun u => !Tryz.prog.wantsStandIn u) = true := by kernel_rfl
        exact (show Tryz.prog.wantsStandIn t = false by simpa using List.all_eq_true.1 hall t hm)⟩)
    (by kernel_rfl)
#print axioms proved
end Go.Proofs.YtgihociajfgohaaGreatDoor.logPure
