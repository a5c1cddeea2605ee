/- GroupNil returns true and leaves its argument as it was, whatever the changes; no condition. -/
import Derived.Test.YtapokkpdgfpokaaGreatRows
import Derived.Test.YtapokkpdgfpokaaGreatNilArgs
import Derived.WalkKit
import Derived.ProofKit
import Derived.OpenShut
namespace Go.Proofs.YtapokkpdgfpokaaGreat.groupNil
open Go.ChangeShapes Go.WideShapes Go.ChangeAt Go.RowKit
set_option linter.unusedVariables false

theorem own : ownKnob Tryz.prog.godebug = none := by kernel_rfl
theorem laid : laidOutB Tryz.prog = true := by kernel_rfl
theorem plains : ([23].all fun t => AB.plainT Tryz.prog 8 t && AB.oneT Tryz.prog t && Tryz.prog.readableRec t && decide (t < Tryz.prog.types.size)) = true := by kernel_rfl

theorem plain (t : TypeId) (ht : t ∈ [23]) : AB.plainT Tryz.prog 8 t = true ∧ AB.oneT Tryz.prog t = true ∧ Tryz.prog.readableRec t = true ∧ t < Tryz.prog.types.size := by
  have h := List.all_eq_true.1 plains t ht
  simp only [Bool.and_eq_true, decide_eq_true_eq] at h
  exact ⟨h.1.1.1, h.1.1.2, h.1.2, h.2⟩

/-! ### THE ROW's STEP: WRITTEN OUT: LEAVE IT -/
set_option maxRecDepth 100000 in
theorem lifted (os : Os) (started : os.Started) (H : Type) (enc : TypeId × Value → H) :
    ReturnsInHanded {} Tryz.checked os 5 .any (Rows.groupNilSpec.pre6 enc Tryz.prog Tryz.f5 Rows.groupNilRow.domain false) (Rows.groupNilSpec.post enc Tryz.prog Tryz.f5 false true false false) := by
  refine returnsInHanded_of_change (C := Tryz.checked) own started (by kernel_rfl) Tryz.func5
    (ChangeSpec.witness6 (enc := enc) (C := Tryz.checked) false ⟨#[], #[.slice none 0 0], []⟩ 8 (by kernel_rfl) (by kernel_rfl) (by kernel_rfl) (by kernel_rfl)) ?_
  intro W base args ds gs before hval0 hW hcnd _
  have hval : ∀ (j : Nat) t v, Tryz.f5.params[j]? = some t → args[j]? = some v → Value.okWide Tryz.prog W .any base t v := hval0
  have hW' := hW
  obtain ⟨p, q, hA0, hV, rfl, hfz, hnd⟩ := hW
  have hA : DataW.TrodAll enc Tryz.prog W 0 (fun _ => true) true Tryz.f5.params.toList args.toList ds p := hA0
  rw [Tryz.params5] at hA hval
  obtain ⟨rfl, rfl⟩ := trodVars_none hV
  have hlt : ∀ x ∈ p, x.block < W.heap.size := fun x hx => hW'.lt x (by simp [hx])
  have hA' : DataW.TrodAll enc Tryz.prog W 0 (fun _ => true) true [23] args.toList ds p := hA
  obtain ⟨v, d, rfl, rfl, hd⟩ := trodAll_one hA'
  refine (AB.law_true (C := tC) (k := 8) (f := 5) (ts := [23]) (ds := [d]) (vs := [v]) (enc := enc) (fun t ht => ⟨(plain t ht).1, (plain t ht).2.1⟩)
    (fun N H xs hl hh => law5_all lives N H xs hl hh) (base := base) (fun j t u hj hu => hval j t u (by simpa using hj) (by simpa using hu)) hA').mono fun e W' ⟨he, hg⟩ => ?_
  subst he
  exact ⟨_, rfl, AB.post_of_below (pa := p) (pv := []) hW' (fun _ _ _ => (trodAll_cons_mk (shut_bool Tryz.underlying4 _) trodAll_mk0))
    (fun sp hsp => AB.trodAll_stays laid hg _ _ _ _ (fun t ht => ⟨(plain t ht).2.2.1, (plain t ht).2.2.2⟩) hA' hlt sp (fun x hx => hsp x (by simp [hx]))) (fun _ _ => rfl) rfl
    hg (ok_one (by kernel_rfl) rfl (okWide_bool_mk Tryz.underlying4 _))⟩

theorem over : Rows.groupNilRow.holds Tryz.pinned (OpenSpec.ofChange Rows.groupNilSpec) :=
  OpenClaim.holds_of_wide 5 Tryz.f5 rfl rfl rfl rfl rfl rfl rfl ⟨rfl, rfl, rfl, rfl, rfl⟩ rfl rfl rfl rfl rfl (by kernel_rfl) Tryz.func5 (by kernel_rfl)
    (of_decide_eq_true (by kernel_rfl)) (by unfold Func.isWrapper; first | (rw [if_pos (by decide +kernel)]; kernel_rfl) | (rw [if_neg (by decide +kernel)]; exact ⟨rfl, rfl⟩))
    (fun os started H enc _ => lifted os started H enc)

/-- ████ THE STATEMENT ████ -/
theorem proved : Rows.GroupNilSaid :=
  over
#print axioms proved
end Go.Proofs.YtapokkpdgfpokaaGreat.groupNil
