/- GroupMerges returns true and leaves its arguments as they were, whatever they are; no condition. -/
import Derived.Test.YtapokkpdgfpokaaGreatRows
import Derived.Test.YtapokkpdgfpokaaGreatMg8
import Derived.WalkKit
import Derived.ProofKit
import Derived.LaidMore
import Derived.OpenShut
import Derived.Stop.Joined
import Derived.SevenTiedAt
namespace Go.Proofs.YtapokkpdgfpokaaGreat.groupMerges
open Go.ChangeShapes Go.WideShapes Go.ChangeAt Go.RowKit
set_option linter.unusedVariables false

theorem own : ownKnob Tryz.prog.godebug = none := by kernel_rfl
theorem rowsLaid : laidOutB Tryz.prog = true := by kernel_rfl
theorem plains : ([3, 40, 41].all fun t => AB.plainT Tryz.prog 10 t && AB.oneT Tryz.prog t && Tryz.prog.readableRec t && decide (t < Tryz.prog.types.size)) = true := by kernel_rfl

theorem plain (t : TypeId) (ht : t ∈ [3, 40, 41]) : AB.plainT Tryz.prog 10 t = true ∧ AB.oneT Tryz.prog t = true ∧ Tryz.prog.readableRec t = true ∧ t < Tryz.prog.types.size := by
  have h := List.all_eq_true.1 plains t ht
  simp only [Bool.and_eq_true, decide_eq_true_eq] at h
  exact ⟨h.1.1.1, h.1.1.2, h.1.2, h.2⟩

/-! ### THE ROW's STEP: WRITTEN OUT: LEAVE IT -/
set_option maxRecDepth 100000 in
theorem lifted (os : Os) (started : os.Started) (H : Type) (enc : TypeId × Value → H) :
    ReturnsInHanded {} Tryz.checked os 4 .any (Rows.groupMergesSpec.pre6 enc Tryz.prog Tryz.f4 Rows.groupMergesRow.domain false) (Rows.groupMergesSpec.post enc Tryz.prog Tryz.f4 false true false false) := by
  refine returnsInHanded_of_change (C := Tryz.checked) own started (by kernel_rfl) Tryz.func4
    (ChangeSpec.witness6 (enc := enc) (C := Tryz.checked) false ⟨#[], #[.int .i64 0, .slice none 0 0, .slice none 0 0], []⟩ 8 (by kernel_rfl) (by kernel_rfl) (by kernel_rfl) (by kernel_rfl)) ?_
  intro W base args ds gs before hval0 hW hcnd _
  have hval : ∀ (j : Nat) t v, Tryz.f4.params[j]? = some t → args[j]? = some v → Value.okWide Tryz.prog W .any base t v := hval0
  have hW' := hW
  obtain ⟨p, q, hA0, hV, rfl, hfz, hnd⟩ := hW
  have hA : DataW.TrodAll enc Tryz.prog W 0 (fun _ => true) true Tryz.f4.params.toList args.toList ds p := hA0
  rw [Tryz.params4] at hA hval
  obtain ⟨rfl, rfl⟩ := trodVars_none hV
  have hlt : ∀ x ∈ p, x.block < W.heap.size := fun x hx => hW'.lt x (by simp [hx])
  have hA' : DataW.TrodAll enc Tryz.prog W 0 (fun _ => true) true [3, 40, 41] args.toList ds p := hA
  refine (show Calls Tryz.prog 4 args W _ from AB.law_true (C := tC) (k := 10) (f := 4) (ts := [3, 40, 41]) (ds := ds) (vs := args.toList) (enc := enc) (fun t ht => ⟨(plain t ht).1, (plain t ht).2.1⟩)
    (fun N H xs hd _ hh => law4_any N hd H xs hh) (base := base) (fun j t u hj hu => hval j t u (by simpa using hj) (by simpa using hu)) hA').mono fun e W' ⟨he, hg⟩ => ?_
  subst he
  have hst : ∀ sp : Nat → Bool, (∀ x ∈ p, sp x.block = true) → DataW.TrodAll enc Tryz.prog W' 0 sp true [3, 40, 41] args.toList ds p := fun sp hsp =>
    AB.trodAll_stays rowsLaid hg _ _ _ _ (fun t ht => ⟨(plain t ht).2.2.1, (plain t ht).2.2.2⟩) hA' hlt sp hsp
  obtain ⟨v0, vs0, d0, ds0, p0, q0, ha0, rfl, hp0, -, h0⟩ := trodAll_cons hA
  obtain ⟨v1, vs1, d1, ds1, p1, q1, ha1, rfl, hp1, -, h1⟩ := trodAll_cons h0
  obtain ⟨v2, vs2, d2, ds2, p2, q2, ha2, rfl, hp2, -, h2⟩ := trodAll_cons h1
  obtain ⟨hn1, rfl, hn3⟩ := trodAll_nil h2
  exact ⟨_, rfl, AB.post_of_below (pa := _) (pv := []) hW' (fun _ _ _ => (trodAll_cons_mk (shut_bool Tryz.underlying4 _) trodAll_mk0))
    (fun sp hsp => hst sp (fun x hx => hsp x (by simp [hx]))) (fun _ _ => rfl) rfl
    hg (ok_one (by kernel_rfl) rfl (okWide_bool_mk Tryz.underlying4 _))⟩

theorem over : Rows.groupMergesRow.holds Tryz.pinned (OpenSpec.ofChange Rows.groupMergesSpec) :=
  OpenClaim.holds_of_wide 4 Tryz.f4 rfl rfl rfl rfl rfl rfl rfl ⟨rfl, rfl, rfl, rfl, rfl⟩ rfl rfl rfl rfl rfl (by kernel_rfl) Tryz.func4 (by kernel_rfl)
    (of_decide_eq_true (by kernel_rfl)) (by unfold Func.isWrapper; first | (rw [if_pos (by decide +kernel)]; kernel_rfl) | (rw [if_neg (by decide +kernel)]; exact ⟨rfl, rfl⟩))
    (fun os started H enc _ => lifted os started H enc)

/-- ████ THE STATEMENT ████ -/
theorem proved : Rows.GroupMergesSaid :=
  over
#print axioms proved
end Go.Proofs.YtapokkpdgfpokaaGreat.groupMerges
