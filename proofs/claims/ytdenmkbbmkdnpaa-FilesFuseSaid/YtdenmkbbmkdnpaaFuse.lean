/- FilesFuse returns true and leaves its arguments as they were, whatever they are; no condition. -/
import Derived.Test.YtdenmkbbmkdnpaaRows
import Derived.Test.YtdenmkbbmkdnpaaFuseWalk
import Derived.WalkKit
import Derived.ProofKit
import Derived.OpenShut
namespace Go.Proofs.Ytdenmkbbmkdnpaa.filesFuse
open Go.ChangeShapes Go.WideShapes Go.ChangeAt Go.RowKit
set_option linter.unusedVariables false

theorem own : ownKnob Try.prog.godebug = none := by kernel_rfl
theorem rowsLaid : laidOutB Try.prog = true := by kernel_rfl
theorem plains : ([43, 3].all fun t => AB.plainT Try.prog 8 t && AB.oneT Try.prog t && Try.prog.readableRec t && decide (t < Try.prog.types.size)) = true := by kernel_rfl

theorem plain (t : TypeId) (ht : t ∈ [43, 3]) : AB.plainT Try.prog 8 t = true ∧ AB.oneT Try.prog t = true ∧ Try.prog.readableRec t = true ∧ t < Try.prog.types.size := by
  have h := List.all_eq_true.1 plains t ht
  simp only [Bool.and_eq_true, decide_eq_true_eq] at h
  exact ⟨h.1.1.1, h.1.1.2, h.1.2, h.2⟩

/-! ### THE ROW's STEP: WRITTEN OUT: LEAVE IT -/
set_option maxRecDepth 100000 in
theorem lifted (os : Os) (started : os.Started) (H : Type) (enc : TypeId × Value → H) :
    ReturnsInHanded {} Try.checked os 5 .any (Rows.filesFuseSpec.pre6 enc Try.prog Try.f5 Rows.filesFuseRow.domain false) (Rows.filesFuseSpec.post enc Try.prog Try.f5 false true false false) := by
  refine returnsInHanded_of_change (C := Try.checked) own started (by kernel_rfl) Try.func5
    (ChangeSpec.witness6 (enc := enc) (C := Try.checked) false ⟨#[], #[.slice none 0 0, .int .i64 0], []⟩ 8 (by kernel_rfl) (by kernel_rfl) (by kernel_rfl) (by kernel_rfl)) ?_
  intro W base args ds gs before hval0 hW hcnd _
  have hval : ∀ (j : Nat) t v, Try.f5.params[j]? = some t → args[j]? = some v → Value.okWide Try.prog W .any base t v := hval0
  have hW' := hW
  obtain ⟨p, q, hA0, hV, rfl, hfz, hnd⟩ := hW
  have hA : DataW.TrodAll enc Try.prog W 0 (fun _ => true) true Try.f5.params.toList args.toList ds p := hA0
  rw [Try.params5] at hA hval
  obtain ⟨rfl, rfl⟩ := trodVars_none hV
  have hlt : ∀ x ∈ p, x.block < W.heap.size := fun x hx => hW'.lt x (by simp [hx])
  have hA' : DataW.TrodAll enc Try.prog W 0 (fun _ => true) true [43, 3] args.toList ds p := hA
  refine (show Calls Try.prog 5 args W _ from AB.law_true (C := tC) (k := 8) (f := 5) (ts := [43, 3]) (ds := ds) (vs := args.toList) (enc := enc) (fun t ht => ⟨(plain t ht).1, (plain t ht).2.1⟩)
    (fun N H xs hl hh => law5_all N H xs hl hh) (base := base) (fun j t u hj hu => hval j t u (by simpa using hj) (by simpa using hu)) hA').mono fun e W' ⟨he, hg⟩ => ?_
  subst he
  have hst : ∀ sp : Nat → Bool, (∀ x ∈ p, sp x.block = true) → DataW.TrodAll enc Try.prog W' 0 sp true [43, 3] args.toList ds p := fun sp hsp =>
    AB.trodAll_stays rowsLaid hg _ _ _ _ (fun t ht => ⟨(plain t ht).2.2.1, (plain t ht).2.2.2⟩) hA' hlt sp hsp
  obtain ⟨v0, v1, d0, d1, p0, p1, rfl, rfl, rfl, -, -⟩ := trodAll_two hA
  exact ⟨_, rfl, AB.post_of_below (pa := _) (pv := []) hW' (fun _ _ _ => (trodAll_cons_mk (shut_bool Try.underlying4 _) trodAll_mk0))
    (fun sp hsp => hst sp (fun x hx => hsp x (by simp [hx]))) (fun _ _ => rfl) rfl
    hg (ok_one (by kernel_rfl) rfl (okWide_bool_mk Try.underlying4 _))⟩

theorem over : Rows.filesFuseRow.holds Try.pinned (OpenSpec.ofChange Rows.filesFuseSpec) :=
  OpenClaim.holds_of_wide 5 Try.f5 rfl rfl rfl rfl rfl rfl rfl ⟨rfl, rfl, rfl, rfl, rfl⟩ rfl rfl rfl rfl rfl (by kernel_rfl) Try.func5 (by kernel_rfl)
    (of_decide_eq_true (by kernel_rfl)) (by unfold Func.isWrapper; first | (rw [if_pos (by decide +kernel)]; kernel_rfl) | (rw [if_neg (by decide +kernel)]; exact ⟨rfl, rfl⟩))
    (fun os started H enc _ => lifted os started H enc)

/-- ████ THE STATEMENT ████ -/
theorem proved : Rows.FilesFuseSaid :=
  over
#print axioms proved
end Go.Proofs.Ytdenmkbbmkdnpaa.filesFuse
