/- A closed call: from whatever world, by the evaluator; what the claim's form asks of it. -/
import Derived.Test.YtgihociajfgohaaGreatDoorAb24
import Derived.RowKit3
import Derived.WalkKit
import Derived.ProofKit
namespace Go.AB
set_option linter.unusedSimpArgs false

theorem codesOK_of {P : Program} (h : (P.funcs.toList.all fun g => match g.body with
    | some c => codeOK c
    | none => true) = true) : CodesOK (mkCtx P) := by
  intro f g c hg hc
  simp only [mkCtx, mkFn, PT.get_ofList0] at hg
  have := List.all_eq_true.1 h g (List.mem_of_getElem? hg)
  rw [hc] at this
  exact this

/-- The heap of which nothing is known. -/
def H0 : AH := ⟨.leaf, 0⟩

theorem R.start (w : World) : R w.heap.size 0 (fun _ => none) H0 w where
  size := Nat.le_refl _
  glob g hg := by omega
  obj b o hb := by simp [H0, AH.get, PT.get] at hb
  inj b b' o o' s s' hb := by simp [H0, AH.get, PT.get] at hb
  fresh _ _ := rfl
  gn := Nat.le_refl _
  vers b m l v c hb := by simp [H0, AH.get, PT.get] at hb
  flat b s hs := by cases hs

theorem Fr.start {w w' : World} {ρ' : Names} {H' : AH} (h : Fr (fun _ => none) H0 w ρ' H' w') : Go.RowKit.Below w.heap.size w w' :=
  ⟨h.os, h.tape, h.output, h.size, fun k hk => h.keep k hk fun b o s hb => by simp [H0, AH.get, PT.get] at hb⟩

def saysTrue : Option (AV × AH) → Bool
  | some (.bool b, _) => b
  | _ => false

theorem saysTrue_spec {x : Option (AV × AH)} (h : saysTrue x = true) : ∃ H', x = some (.bool true, H') := by
  cases x with
  | none => cases h
  | some p =>
    obtain ⟨v, H'⟩ := p
    cases v <;> simp [saysTrue] at h
    subst h
    exact ⟨H', rfl⟩

/-- **A closed call that the evaluator finds true.** -/
theorem closed_true {C : Ctx} (hC : C.OK) (hK : CodesOK C) {known : FuncId → Option (List AV → AH → Option (AV × AH))} {ext : FuncId → List AV → AH → Option (AV × AH)} (hn : ∀ N, KnownOK C N 0 known ext) {fuel d : Nat} {f : FuncId}
    (h : saysTrue (evCall C known ext 0 fuel d f [] H0) = true) (w : World) : Calls C.P f #[] w fun e w' => e = .returned (.bool true) ∧ Go.RowKit.Below w.heap.size w w' := by
  obtain ⟨H', h⟩ := saysTrue_spec h
  refine (evCall_ok hC hK (hn w.heap.size) h (R.start w) VRs.nil).mono ?_
  rintro e w' ⟨v, ρ', rfl, hv, _, hF⟩
  simp only [VR] at hv
  exact ⟨by rw [hv], hF.start⟩

end Go.AB

namespace Go.AB
open Go.ChangeShapes Go.WideShapes Go.ChangeAt Go.RowKit

section
variable {P : Program} {H : Type} {enc : TypeId × Value → H}

/-- As 'post_of_same', of a world that is as it was below its old end. -/
theorem post_of_below {f : Func} {s : ChangeSpec} {apart fresh handsOn again : Bool} {W W' : World} {args : Array Value} {v : Value} {ds gs : List (DataW H)} {before pa pv : List MemPlace}
    (hW : DataW.Whole enc P f.params.toList s.vars apart W args.toList ds gs before)
    (hres : ∀ (b : Nat) (sp : Nat → Bool) (hd : Bool), DataW.TrodAll enc P W' b sp hd f.resultTypes.toList (v.resultList f.resultTypes.size) (s.fn H (ds ++ gs)).results [])
    (hargs : ∀ sp : Nat → Bool, (∀ p ∈ before, sp p.block = true) → DataW.TrodAll enc P W' 0 sp true f.params.toList args.toList (s.fn H (ds ++ gs)).args pa)
    (hvars : ∀ sp : Nat → Bool, (∀ p ∈ before, sp p.block = true) → DataW.TrodVars enc P W' sp s.vars (s.fn H (ds ++ gs)).vars pv)
    (hps : before = pa ++ pv) (hb : Below W.heap.size W W')
    (hok : ∀ (j : Nat) (t : TypeId) (r : Value), f.resultTypes[j]? = some t → (v.resultList f.resultTypes.size)[j]? = some r → Value.okWide P W' .any 0 t r) :
    s.post enc P f apart fresh handsOn again W args v W' := by
  have hlt := hW.lt
  have hold : ∀ p ∈ before, (fun b => decide (b < W.heap.size)) p.block = true := fun p hp => by simpa using hlt p hp
  refine ⟨ds, gs, before, [], pa, pv, hW, hres _ _ _, hargs _ hold, hvars _ hold, World.keptBut_mono (fun p hp => ⟨hp, ?_⟩) (hb.frame (· ∈ before)), fun _ => ?_⟩
  · rw [hps, List.mem_append] at hp
    exact Or.inr hp
  · obtain ⟨_, _, _, _, _, hz, hn⟩ := hW
    refine ⟨hok, _, _, ([] ++ pa) ++ pv, ⟨[] ++ pa, pv, trodAll_append (hargs _ (fun _ _ => rfl)) (hres _ _ _), hvars _ (fun _ _ => rfl), rfl, ?_, ?_⟩, ?_⟩
    · intro b off hp
      have hp' : MemPlace.cell b off ∈ before := by rw [hps]; simpa using hp
      rw [hb.frozen (p := ⟨b, off, none⟩) (hlt _ hp')]
      exact hz b off hp'
    · intro ha
      have := hn ha
      rw [hps] at this
      simpa using this
    · intro p hp _
      rw [hps]
      simpa using hp
end

end Go.AB
