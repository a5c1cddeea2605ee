/- A closed function whose result bears no address is taken as a constant. -/
import Derived.Test.YtgihociajfgohaaGreatDoorAb25
namespace Go.AB
set_option linter.unusedSimpArgs false

mutual
def AV.plainV : AV → Bool
  | .bool _ => true
  | .int _ _ => true
  | .str _ => true
  | .agg cs => AV.plainVs cs
  | _ => false
def AV.plainVs : List AV → Bool
  | [] => true
  | a :: as => AV.plainV a && AV.plainVs as
end

mutual
theorem AV.plainV_ok {ρ ρ' : Names} : ∀ (a : AV) (v : Value), a.plainV = true → VR ρ a v → VR ρ' a v
  | .bool b, v, _, h => by simpa [VR] using h
  | .int k n, v, _, h => by simpa [VR] using h
  | .str s, v, _, h => by simpa [VR] using h
  | .agg cs, v, hp, h => by
    simp only [AV.plainV] at hp
    simp only [VR] at h ⊢
    obtain ⟨vs, e, hvs⟩ := h
    exact ⟨vs, e, AV.plainVs_ok cs vs hp hvs⟩
  | .junk, v, hp, _ => by simp [AV.plainV] at hp
  | .nilp, v, hp, _ => by simp [AV.plainV] at hp
  | .ptr _ _, v, hp, _ => by simp [AV.plainV] at hp
  | .nils, v, hp, _ => by simp [AV.plainV] at hp
  | .slice _ _ _ _ _, v, hp, _ => by simp [AV.plainV] at hp
  | .empty _, v, hp, _ => by simp [AV.plainV] at hp
  | .nilm, v, hp, _ => by simp [AV.plainV] at hp
  | .map _, v, hp, _ => by simp [AV.plainV] at hp
  | .func _ _ _, v, hp, _ => by simp [AV.plainV] at hp
  | .nilf, v, hp, _ => by simp [AV.plainV] at hp
  | .iface _ _, v, hp, _ => by simp [AV.plainV] at hp
  | .nili, v, hp, _ => by simp [AV.plainV] at hp
  | .tuple _, v, hp, _ => by simp [AV.plainV] at hp
theorem AV.plainVs_ok {ρ ρ' : Names} : ∀ (as : List AV) (vs : List Value), AV.plainVs as = true → VRs ρ as vs → VRs ρ' as vs
  | [], vs, _, h => by simpa [VRs] using h
  | a :: as, vs, hp, h => by
    simp only [AV.plainVs, Bool.and_eq_true] at hp
    simp only [VRs] at h ⊢
    obtain ⟨v, vs', e, h1, h2⟩ := h
    exact ⟨v, vs', e, AV.plainV_ok a v hp.1 h1, AV.plainVs_ok as vs' hp.2 h2⟩
end

def constOut (r : AV) : Option (AV × AH) → Bool
  | some (v, _) => AV.beq v r && r.plainV
  | none => false

def specConst (r : AV) (args : List AV) (H : AH) : Option (AV × AH) :=
  match args with
  | [] => some (r, H)
  | _ => none

theorem specConst_ok {C : Ctx} (hC : C.OK) (hK : CodesOK C) {known : FuncId → Option (List AV → AH → Option (AV × AH))} {ext : FuncId → List AV → AH → Option (AV × AH)} (hn : ∀ N, KnownOK C N 0 known ext) {fuel d : Nat} {f : FuncId} {r : AV}
    (h : constOut r (evCall C known ext 0 fuel d f [] H0) = true) {args : List AV} {H H' : AH} {u : AV} (hu : specConst r args H = some (u, H')) {N G : Nat} {ρ : Names} {w : World} {vs : List Value} (hR : R N G ρ H w) (hv : VRs ρ args vs) :
    Calls C.P f ⟨vs⟩ w fun e w' => ∃ v ρ', e = .returned v ∧ VR ρ' u v ∧ R N G ρ' H' w' ∧ Fr ρ H w ρ' H' w' := by
  cases args with
  | cons a as => cases hu
  | nil =>
    simp only [specConst, Option.some.injEq, Prod.mk.injEq] at hu
    obtain ⟨rfl, rfl⟩ := hu
    simp only [VRs] at hv
    subst hv
    cases hx : evCall C known ext 0 fuel d f [] H0 with
    | none => rw [hx] at h; cases h
    | some p =>
      obtain ⟨x, H1⟩ := p
      rw [hx] at h
      simp only [constOut, Bool.and_eq_true] at h
      obtain rfl := AV.beq_eq _ _ h.1
      refine (evCall_ok hC hK (hn w.heap.size) hx (R.start w) VRs.nil).mono ?_
      rintro e w' ⟨v, ρ', rfl, hv, _, hF⟩
      obtain ⟨r1, r2⟩ := hR.below hF.start
      exact ⟨v, ρ, rfl, AV.plainV_ok x v h.2 hv, r1, r2⟩

end Go.AB
