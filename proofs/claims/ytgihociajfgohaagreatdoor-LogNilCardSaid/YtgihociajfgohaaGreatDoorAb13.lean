/- Operations that write: copy, clear, delete; iterators. -/
import Derived.Test.YtgihociajfgohaaGreatDoorAb12
namespace Go.AB
set_option linter.unusedSimpArgs false

def acopy (C : Ctx) (H : AH) (ats : List TypeId) (args : List AV) : Option (AV × AH) :=
  match ats, args with
  | dt :: _, d :: x :: _ =>
    match C.ti dt with
    | none => none
    | some di =>
      match di.d with
      | .slice elem =>
        match C.ti elem, (match x with | .str s => some s.length | x => lenOfAV x), lenOfAV d with
        | some j, some xl, some dl =>
          let n := Nat.min xl dl
          match acells H j.size n x with
          | none => none
          | some cs =>
            if n = 0 then some (.int .i64 0, H) else
            match d with
            | .slice b o _ _ z =>
              match H.get b with
              | some (.cells false vs) => bif Nat.beq z j.size && allOne cs && Nat.beq cs.length (n * j.size) && Nat.ble (o + cs.length) vs.length then some (.int .i64 n, H.set b (.cells false (splice vs o cs))) else none
              | _ => none
            | _ => none
        | _, _, _ => none
      | _ => none
  | _, _ => none

theorem acells_zero {H : AH} {z : Nat} {x : AV} {cs : List AV} (h : acells H z 0 x = some cs) : cs = [] := by
  unfold acells at h
  split at h
  · simpa using h.symm
  · simpa using h.symm
  · rw [show Nat.beq (0 * z) 0 = true from by simp] at h; simpa using h.symm
  · rw [show Nat.ble 0 _ = true from by rw [Nat.ble_eq]; exact Nat.zero_le _] at h; simpa using h.symm
  · cases h

theorem acopy_ok {C : Ctx} (hC : C.OK) {N G : Nat} {ρ : Names} {H H' : AH} {w : World} (hR : R N G ρ H w) {ats : List TypeId} {ty : TypeId} {args : List AV} {vs : List Value} {r : AV} (hv : VRs ρ args vs) (h : acopy C H ats args = some (r, H')) :
    Did C.P N G ρ H w (Builtin.copy_ ⟨ats⟩ ty ⟨vs⟩) (fun ρ' v => VR ρ' r v) H' := by
  unfold acopy at h
  split at h
  · rename_i dt ats d x args
    simp only [VRs] at hv
    obtain ⟨dv, vs1, rfl, hd, xv, vs2, rfl, hx, _⟩ := hv
    split at h
    · cases h
    · rename_i di hdi
      split at h
      · rename_i elem hde
        split at h
        · rename_i j xl dl hj hxl hdl
          simp only at h
          have hlx : (Builtin.lenOf xv).run C.P w = .ok xl w := by
            split at hxl
            · simp only [VR] at hx; subst hx
              simp only [Option.some.injEq] at hxl; subst hxl
              show Sem.run C.P (pure _) w = _
              simp [ByteArray.size]
            · exact lenOf_ok hx hxl
          obtain ⟨a, c, hdv⟩ := lenOfAV_ok hd hdl
          split at h
          · cases h
          · rename_i cs hcs
            obtain ⟨us, h1, h2⟩ := acells_ok (P := C.P) hR hx hcs
            have hul := h2.length
            have run : ∀ w', (match a with | some a => storeCells a us | none => pure () : Sem Unit).run C.P w = .ok () w' → (Builtin.copy_ ⟨dt :: ats⟩ ty ⟨dv :: xv :: vs2⟩).run C.P w = .ok (.int .i64 (Nat.min xl dl : Nat)) w' := by
              intro w' hst
              unfold Builtin.copy_
              simp only [getElem?_mk, List.getElem?_cons_zero, List.getElem?_cons_succ, Sem.run_bind, hC.run_und hdi, hde, Result.andThen_ok, hdv, hlx, hC.run_size hj, h1]
              cases a with
              | none => cases hst; rfl
              | some a =>
                simp only at hst
                simp only [Sem.run_bind, hst, Result.andThen_ok, Sem.run_pure, goInt]
            split at h
            · rename_i hn0
              simp only [Option.some.injEq, Prod.mk.injEq] at h
              obtain ⟨rfl, rfl⟩ := h
              rw [hn0] at hcs
              have := acells_zero hcs
              subst this
              have : us = [] := List.eq_nil_of_length_eq_zero (by simpa using hul)
              subst this
              refine ⟨_, w, ρ, run w (by cases a <;> rfl), ?_, hR, Fr.refl _ _ _⟩
              rw [hn0]; simp [VR]
            · rename_i hn0
              split at h
              · rename_i b o l c z
                split at h
                · rename_i vs hb
                  cases hc : (Nat.beq z j.size && allOne cs && Nat.beq cs.length (Nat.min xl dl * j.size) && Nat.ble (o + cs.length) vs.length)
                  · rw [hc] at h; cases h
                  · rw [hc] at h
                    simp only [cond_true, Option.some.injEq, Prod.mk.injEq] at h
                    obtain ⟨rfl, rfl⟩ := h
                    simp only [Bool.and_eq_true] at hc
                    obtain ⟨⟨⟨c1, c2⟩, c3⟩, c4⟩ := hc
                    simp only [VR] at hd
                    obtain ⟨sg, cc, hsg, e, hok, hle, hroom⟩ := hd
                    rw [hdv] at e
                    injection e with e1 e2 e3
                    obtain ⟨w', g1, g2, g3⟩ := hR.storeCells (P := C.P) hb hsg h2 (allOne_ok h2 c2) (Nat.le_of_ble_eq_true c4)
                    refine ⟨_, w', ρ, run w' ?_, by simp only [VR], g2, g3⟩
                    rw [e1]; exact g1
                · cases h
              · cases h
        · cases h
      · cases h
  · cases h

def aclear (C : Ctx) (H : AH) (ats : List TypeId) (args : List AV) : Option (AV × AH) :=
  match ats, args with
  | t :: _, x :: _ =>
    match C.ti t with
    | none => none
    | some i =>
      match i.d, x with
      | .slice _, .nils => some (.tuple [], H)
      | .slice e, .slice b o n _ _ =>
        if n = 0 then some (.tuple [], H) else
        match C.ti e, H.get b with
        | some j, some (.cells false vs) =>
          match j.zero with
          | some z => bif notJunk z && allOne (zerosOf z.cells n) && Nat.ble (o + n * z.cells.length) vs.length then some (.tuple [], H.set b (.cells false (splice vs o (zerosOf z.cells n)))) else none
          | none => none
        | _, _ => none
      | _, _ => none
  | _, _ => none

theorem aclear_ok {C : Ctx} (hC : C.OK) {N G : Nat} {ρ : Names} {H H' : AH} {w : World} (hR : R N G ρ H w) {ats : List TypeId} {ty : TypeId} {args : List AV} {vs : List Value} {r : AV} (hv : VRs ρ args vs) (h : aclear C H ats args = some (r, H')) :
    Did C.P N G ρ H w (Builtin.clear_ ⟨ats⟩ ty ⟨vs⟩) (fun ρ' v => VR ρ' r v) H' := by
  unfold aclear at h
  split at h
  · rename_i t ats x args
    simp only [VRs] at hv
    obtain ⟨xv, vs1, rfl, hx, _⟩ := hv
    split at h
    · cases h
    · rename_i i hi
      have nothing : ∀ a c, xv = .slice a 0 c → r = .tuple [] → H' = H → Did C.P N G ρ H w (Builtin.clear_ ⟨t :: ats⟩ ty ⟨xv :: vs1⟩) (fun ρ' v => VR ρ' r v) H' := by
        intro a c e er eH
        subst e; subst er; subst eH
        refine ⟨.tuple #[], w, ρ, ?_, by simp only [VR]; exact ⟨[], rfl, VRs.nil⟩, hR, Fr.refl _ _ _⟩
        unfold Builtin.clear_
        simp only [getElem?_mk, List.getElem?_cons_zero, Sem.run_bind, hC.run_und hi, Result.andThen_ok]
        cases a <;> (cases i.d <;> rfl)
      split at h
      · rename_i e hd
        simp only [Option.some.injEq, Prod.mk.injEq] at h
        simp only [VR] at hx
        exact nothing none 0 hx h.1.symm h.2.symm
      · rename_i e b o n c z hd
        simp only [VR] at hx
        obtain ⟨sg, cc, hsg, hxe, hok, hle, hroom⟩ := hx
        split at h
        · rename_i hn
          subst hn
          simp only [Option.some.injEq, Prod.mk.injEq] at h
          exact nothing _ _ hxe h.1.symm h.2.symm
        · rename_i hn
          split at h
          · rename_i j vs hj hb
            split at h
            · rename_i zz hz
              cases hc : (notJunk zz && allOne (zerosOf zz.cells n) && Nat.ble (o + n * zz.cells.length) vs.length)
              · rw [hc] at h; cases h
              · rw [hc] at h
                simp only [cond_true, Option.some.injEq, Prod.mk.injEq] at h
                obtain ⟨rfl, rfl⟩ := h
                simp only [Bool.and_eq_true] at hc
                obtain ⟨⟨c1, c2⟩, c3⟩ := hc
                obtain ⟨q, hq, hr⟩ := hC.run_zero hj hz w ρ
                have hcs := VR.cells hr c1
                have hl := hcs.length
                simp at hl
                have hzs := zerosOf_ok hcs n (n * q.cells.size) (by rw [hl])
                obtain ⟨w', g1, g2, g3⟩ := hR.storeCells (P := C.P) hb hsg hzs (allOne_ok hzs c2) (by rw [zerosOf_length]; exact Nat.le_of_ble_eq_true c3)
                refine ⟨.tuple #[], w', ρ, ?_, by simp only [VR]; exact ⟨[], rfl, VRs.nil⟩, g2, g3⟩
                unfold Builtin.clear_
                obtain ⟨n', rfl⟩ : ∃ n', n = n' + 1 := ⟨n - 1, by omega⟩
                simp only [getElem?_mk, List.getElem?_cons_zero, Sem.run_bind, hC.run_und hi, Result.andThen_ok, hxe, hd, hq, Builtin.zeroCells, g1, Sem.run_pure]
            · cases h
          · cases h
      · cases h
  · cases h

def adelete (C : Ctx) (H : AH) (ats : List TypeId) (args : List AV) : Option (AV × AH) :=
  match ats, args with
  | t :: _, m :: k :: _ =>
    match C.ti t with
    | none => none
    | some i =>
      match i.d, k with
      | .map kt _, .str s =>
        bif isStrKey C kt then
          match m with
          | .nilm => some (.tuple [], H)
          | .map b => match H.get b with
            | some (.map ps _) => some (.tuple [], ⟨H.t.set b (.map (mdel ps s) H.next), H.next + 1⟩)
            | _ => none
          | _ => none
        else none
      | _, _ => none
  | _, _ => none

theorem adelete_ok {C : Ctx} (hC : C.OK) {N G : Nat} {ρ : Names} {H H' : AH} {w : World} (hR : R N G ρ H w) {ats : List TypeId} {ty : TypeId} {args : List AV} {vs : List Value} {r : AV} (hv : VRs ρ args vs) (h : adelete C H ats args = some (r, H')) :
    Did C.P N G ρ H w (Builtin.delete_ ⟨ats⟩ ty ⟨vs⟩) (fun ρ' v => VR ρ' r v) H' := by
  unfold adelete at h
  split at h
  · rename_i t ats m k args
    simp only [VRs] at hv
    obtain ⟨mv, vs1, rfl, hm, kv, vs2, rfl, hk, _⟩ := hv
    split at h
    · cases h
    · rename_i i hi
      split at h
      · rename_i kt et s hd
        cases hkey : isStrKey C kt
        · rw [hkey] at h; cases h
        · rw [hkey] at h
          simp only [cond_true] at h
          obtain ⟨ki, hki, hkd⟩ := isStrKey_some hkey
          simp only [VR] at hk
          subst hk
          have hck := fun b w => checkKey_string hC hki hkd b 9999 ⟨s.toArray⟩ w
          split at h
          · simp only [Option.some.injEq, Prod.mk.injEq] at h
            obtain ⟨rfl, rfl⟩ := h
            simp only [VR] at hm
            subst hm
            refine ⟨.tuple #[], w, ρ, ?_, by simp only [VR]; exact ⟨[], rfl, VRs.nil⟩, hR, Fr.refl _ _ _⟩
            unfold Builtin.delete_
            simp only [getElem?_mk, List.getElem?_cons_zero, List.getElem?_cons_succ, Sem.run_bind, hC.run_und hi, hd, Result.andThen_ok, hck, Sem.run_pure]
          · rename_i b
            split at h
            · rename_i ps ver hb
              simp only [Option.some.injEq, Prod.mk.injEq] at h
              obtain ⟨rfl, rfl⟩ := h
              simp only [VR] at hm
              obtain ⟨sg, hsg, rfl⟩ := hm
              obtain ⟨hN, es, clock, h0, h1⟩ := hR.map hb hsg
              obtain ⟨f, hf, hq⟩ := findKey_string hC hki hkd s h1.ents w
              cases hg : mget ps s with
              | none =>
                rw [hg] at hq
                subst hq
                have hm' : MapR ρ (mdel ps s) es clock := by rw [mdel_none hg]; exact h1
                obtain ⟨r1, r2⟩ := hR.setMap hb hsg hm'
                refine ⟨.tuple #[], _, ρ, ?_, by simp only [VR]; exact ⟨[], rfl, VRs.nil⟩, r1, r2⟩
                unfold Builtin.delete_
                simp only [getElem?_mk, List.getElem?_cons_zero, List.getElem?_cons_succ, Sem.run_bind, hC.run_und hi, hd, Result.andThen_ok, getObj, Sem.run, h0, hck, hf, setObj, Sem.run_pure]
              | some a =>
                rw [hg] at hq
                obtain ⟨j, u, e, rfl, hu, he, hev, hkj⟩ := hq
                have hjlt : j < es.toList.length := by
                  rcases Nat.lt_or_ge j es.toList.length with h | h
                  · exact h
                  · rw [List.getElem?_eq_none h] at he; cases he
                have hes : (es.eraseIdxIfInBounds j).toList = es.toList.eraseIdx j := by
                  simp at hjlt
                  simp [Array.eraseIdxIfInBounds, hjlt]
                have hm' : MapR ρ (mdel ps s) (es.eraseIdxIfInBounds j) clock := by
                  refine ⟨by rw [hes]; exact EntsR.erase h1.ents h1.keys hkj, (mdel_keys ps s).nodup h1.keys, ?_, ?_⟩
                  · rw [hes]
                    exact List.Pairwise.sublist ((List.eraseIdx_sublist _ _).map _) h1.born
                  · intro x hx
                    rw [hes] at hx
                    exact h1.old x (List.mem_of_mem_eraseIdx hx)
                obtain ⟨r1, r2⟩ := hR.setMap hb hsg hm'
                refine ⟨.tuple #[], _, ρ, ?_, by simp only [VR]; exact ⟨[], rfl, VRs.nil⟩, r1, r2⟩
                unfold Builtin.delete_
                simp only [getElem?_mk, List.getElem?_cons_zero, List.getElem?_cons_succ, Sem.run_bind, hC.run_und hi, hd, Result.andThen_ok, getObj, Sem.run, h0, hck, hf, setObj, Sem.run_pure]
            · cases h
          · cases h
      · cases h
  · cases h

end Go.AB
