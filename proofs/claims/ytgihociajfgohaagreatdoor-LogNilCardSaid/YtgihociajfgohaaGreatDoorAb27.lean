/- math/bits.Add64 as the model has it. -/
import Derived.Test.YtgihociajfgohaaGreatDoorAb26
import GoSem.Extern.MathBitsCarry
namespace Go.AB
set_option linter.unusedSimpArgs false

def specAdd64 (args : List AV) (H : AH) : Option (AV × AH) :=
  match args with
  | [.int .u64 (.ofNat x), .int .u64 (.ofNat y), .int .u64 (.ofNat c)] => bif Nat.ble c 1 then some (.tuple [.int .u64 (.ofNat ((x + y + c) % 18446744073709551616)), .int .u64 (.ofNat ((x + y + c) / 18446744073709551616))], H) else none
  | _ => none

theorem specAdd64_ok {P : Program} {f : FuncId}
    (hrun : ∀ (x y c : Nat) (w : World), c ≤ 1 → (callFunc f #[.int .u64 (.ofNat x), .int .u64 (.ofNat y), .int .u64 (.ofNat c)]).run P w = .ok (.value (.tuple #[.int .u64 (.ofNat ((x + y + c) % 18446744073709551616)), .int .u64 (.ofNat ((x + y + c) / 18446744073709551616))])) w)
    {N G : Nat} {ρ : Names} {H H' : AH} {w : World} {args : List AV} {vs : List Value} {r : AV} (h : specAdd64 args H = some (r, H')) (hR : R N G ρ H w) (hv : VRs ρ args vs) :
    ∃ v w' ρ', (callFunc f ⟨vs⟩).run P w = .ok (.value v) w' ∧ VR ρ' r v ∧ R N G ρ' H' w' ∧ Fr ρ H w ρ' H' w' := by
  unfold specAdd64 at h
  split at h
  · rename_i x y c
    cases hc : Nat.ble c 1
    · rw [hc] at h; cases h
    rw [hc] at h
    simp only [cond_true, Option.some.injEq, Prod.mk.injEq] at h
    obtain ⟨rfl, rfl⟩ := h
    simp only [VRs, VR] at hv
    obtain ⟨a, vs1, rfl, rfl, b, vs2, rfl, rfl, d, vs3, rfl, rfl, rfl⟩ := hv
    refine ⟨_, w, ρ, hrun x y c w (Nat.le_of_ble_eq_true hc), ?_, hR, Fr.refl _ _ _⟩
    simp only [VR]
    exact ⟨_, rfl, VRs.cons (by simp only [VR]) (VRs.cons (by simp only [VR]) VRs.nil)⟩
  · cases h

end Go.AB
