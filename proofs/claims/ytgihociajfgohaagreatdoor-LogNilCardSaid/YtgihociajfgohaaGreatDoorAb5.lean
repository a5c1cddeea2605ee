/- Operations that reckon with what lies in temporaries alone, one by one, and all together. -/
import Derived.Test.YtgihociajfgohaaGreatDoorAb4
import Derived.Lib.IndexBytes
namespace Go.AB
set_option linter.unusedSimpArgs false

def ACap.low : ACap → Nat
  | .ex n => n
  | .lo n => n
theorem ACap.ok.low {c : ACap} {n : Nat} (h : c.ok n) : c.low ≤ n := by
  cases c <;> simp only [ACap.ok, ACap.low] at * <;> omega

/-! ### Slices of slices, strings, arrays -/
def bnd : Option AV → Nat → Option Nat
  | none, d => some d
  | some (.int _ i), _ => if 0 ≤ i then some i.toNat else none
  | _, _ => none

def aslice (C : Ctx) (t : TypeId) (x : AV) (lo hi mx : Option AV) : Option AV :=
  match C.ti t with
  | none => none
  | some i =>
    match i.d, x with
    | .string, .str s =>
      match mx, bnd lo 0, bnd hi s.length with
      | none, some l, some h => bif Nat.ble l h && Nat.ble h s.length then some (.str ((s.drop l).take (h - l))) else none
      | _, _, _ => none
    | .slice e, .nils =>
      match C.ti e, bnd lo 0, bnd hi 0, bnd mx 0 with
      | some _, some 0, some 0, some 0 => bif mx.isNone || hi.isSome then some .nils else none
      | _, _, _, _ => none
    | .slice e, .slice b o len cap z =>
      match C.ti e, mx with
      | none, _ => none
      | some j, none =>
        match cap with
        | .ex c =>
          match bnd lo 0, bnd hi len with
          | some l, some h => bif Nat.ble l h && Nat.ble h c && Nat.beq j.size z then (if c = l then some (.slice b o 0 (.ex 0) z) else some (.slice b (o + l * z) (h - l) (.ex (c - l)) z)) else none
          | _, _ => none
        | .lo c =>
          match bnd lo 0, bnd hi len with
          | some l, some h => bif Nat.ble l h && Nat.ble h c && Nat.beq j.size z then (if l = 0 then some (.slice b o h (.lo c) z) else if c = l then some (.empty b) else some (.slice b (o + l * z) (h - l) (.lo (c - l)) z)) else none
          | _, _ => none
      | some j, some m =>
        match bnd (some m) 0, bnd lo 0, bnd hi len, hi with
        | some m, some l, some h, some _ =>
          bif Nat.ble l h && Nat.ble h m && Nat.beq j.size z && Nat.ble m cap.low then (if m = l then some (.slice b o 0 (.ex 0) z) else some (.slice b (o + l * z) (h - l) (.ex (m - l)) z)) else none
        | _, _, _, _ => none
    | .slice e, .empty b =>
      match C.ti e, mx, bnd lo 0, bnd hi 0 with
      | some _, none, some 0, some 0 => some (.empty b)
      | _, _, _, _ => none
    | _, _ => none


theorem bnd_irrel (a : AV) (d d' : Nat) : bnd (some a) d = bnd (some a) d' := by
  unfold bnd; split <;> simp_all

def OVR (ρ : Names) : Option AV → Option Value → Prop
  | none, none => True
  | some a, some v => VR ρ a v
  | _, _ => False

theorem sliceBound_run {P : Program} {w : World} (k : IntKind) (i : Int) (y : Nat) (code : BoundsCode) (h0 : 0 ≤ i) (h1 : i.toNat ≤ y) :
    (Instr.sliceBound (.int k i) y code).run P w = .ok i.toNat w := by
  unfold Instr.sliceBound asIntOf
  simp only [Sem.run_bind, Sem.run_pure, Result.andThen_ok]
  rw [if_pos ⟨h0, by omega⟩]; rfl

theorem bnd_some {ρ : Names} {a : AV} {v : Value} {d n : Nat} (hv : VR ρ a v) (h : bnd (some a) d = some n) : ∃ k i, v = .int k i ∧ 0 ≤ i ∧ i.toNat = n := by
  unfold bnd at h
  split at h
  · rename_i e; cases e
  · rename_i e; cases e
    split at h
    · simp only [VR] at hv; simp at h; exact ⟨_, _, hv, by assumption, h⟩
    · cases h
  · cases h

theorem bnd_cases {ρ : Names} {a : Option AV} {v : Option Value} {d n : Nat} (hv : OVR ρ a v) (h : bnd a d = some n) :
    (a = none ∧ v = none ∧ d = n) ∨ (a.isSome = true ∧ ∃ k i, v = some (.int k i) ∧ 0 ≤ i ∧ i.toNat = n) := by
  cases a with
  | none => cases v with
    | none => simp [bnd] at h; exact .inl ⟨rfl, rfl, h⟩
    | some _ => exact hv.elim
  | some a => cases v with
    | none => exact hv.elim
    | some v =>
      obtain ⟨k, i, rfl, h0, e⟩ := bnd_some hv h
      exact .inr ⟨rfl, k, i, rfl, h0, e⟩

theorem sliceBounds_run {P : Program} {w : World} {ρ : Names} {isSlice : Bool} {len cap : Nat} {lo hi mx : Option AV} {lo' hi' mx' : Option Value} (hl : OVR ρ lo lo') (hh : OVR ρ hi hi') (hm : OVR ρ mx mx')
    {l h m : Nat} (el : bnd lo 0 = some l) (eh : bnd hi len = some h) (em : bnd mx cap = some m) (h1 : l ≤ h) (h2 : hi.isSome → h ≤ m) (h3 : m ≤ cap) (h4 : mx.isSome → hi.isSome) :
    (Instr.sliceBounds isSlice len cap lo' hi' mx').run P w = .ok (l, h, m) w := by
  unfold Instr.sliceBounds
  rcases bnd_cases hl el with ⟨rfl, rfl, rfl⟩ | ⟨_, k1, i1, rfl, p1, rfl⟩ <;> rcases bnd_cases hh eh with ⟨rfl, rfl, rfl⟩ | ⟨s2, k2, i2, rfl, p2, rfl⟩ <;> rcases bnd_cases hm em with ⟨rfl, rfl, rfl⟩ | ⟨s3, k3, i3, rfl, p3, rfl⟩
  all_goals first
    | (simp [s3] at h4; done)
    | simp only [Sem.run_bind, Sem.run_pure, Result.andThen_ok, Option.isSome_none, Option.isSome_some, Bool.false_eq_true, if_false, if_true]
  all_goals (try simp only [sliceBound_run k3 i3 _ _ p3 h3, Result.andThen_ok])
  all_goals (try simp only [sliceBound_run k2 i2 _ _ p2 (h2 s2), Result.andThen_ok])
  all_goals (try simp only [sliceBound_run k1 i1 _ _ p1 h1, Result.andThen_ok])

theorem aslice_ok {C : Ctx} (hC : C.OK) {ρ : Names} {t : TypeId} {x r : AV} {lo hi mx : Option AV} {v : Value} {lo' hi' mx' : Option Value} (hx : VR ρ x v) (hl : OVR ρ lo lo') (hh : OVR ρ hi hi') (hm : OVR ρ mx mx')
    (h : aslice C t x lo hi mx = some r) (w : World) : ∃ u, (Instr.sliceAt t v lo' hi' mx').run C.P w = .ok u w ∧ VR ρ r u := by
  unfold aslice at h
  split at h
  · cases h
  · rename_i i hi0
    unfold Instr.sliceAt
    simp only [Sem.run_bind, hC.run_und hi0, Result.andThen_ok]
    split at h
    · rename_i s hd
      simp only [hd]
      split at h
      · rename_i l hh2 el eh
        rename_i e
        cases hc : (Nat.ble l hh2 && Nat.ble hh2 s.length)
        · rw [hc] at h; cases h
        · rw [hc] at h
          simp only [cond_true, Option.some.injEq] at h
          subst h
          simp only [Bool.and_eq_true] at hc
          have c1 := Nat.le_of_ble_eq_true hc.1
          have c2 := Nat.le_of_ble_eq_true hc.2
          cases mx' with
          | some _ => exact hm.elim
          | none =>
            simp only [VR] at hx
            subst hx
            unfold Instr.slice
            simp only [Sem.run_bind, hC.run_und hi0, Result.andThen_ok, hd, Option.isSome_none, Bool.false_eq_true, if_false]
            have := sliceBounds_run (P := C.P) (w := w) (isSlice := false) (len := s.length) (cap := s.length) hl hh hm el eh (m := s.length) rfl c1 (fun _ => c2) (Nat.le_refl _) (by simp)
            have hsz : (ByteArray.mk s.toArray).size = s.length := by simp [ByteArray.size]
            simp only [Sem.run_pure, Result.andThen_ok, hsz, this]
            refine ⟨_, rfl, ?_⟩
            simp only [VR]
            congr 1
            apply ByteArray.ext
            apply Array.ext'
            have := Lib.extract_data (ByteArray.mk s.toArray) l hh2
            simp at this ⊢
      · cases h
    · rename_i e hd
      simp only [hd]
      split at h
      · rename_i hz el eh em
        cases hc : (mx.isNone || hi.isSome)
        · rw [hc] at h; cases h
        · rw [hc] at h
          simp only [cond_true, Option.some.injEq] at h; subst h
          simp only [VR] at hx; subst hx
          unfold Instr.slice
          simp only [Sem.run_bind, hC.run_und hi0, Result.andThen_ok, hd]
          have h2 : mx.isSome → hi.isSome := by
            intro e; cases mx <;> simp_all
          have := sliceBounds_run (P := C.P) (w := w) (isSlice := true) (len := 0) (cap := 0) hl hh hm el eh em (Nat.le_refl _) (fun _ => Nat.le_refl _) (Nat.le_refl _) h2
          simp only [this, Result.andThen_ok, hC.run_size hz, Sem.run_pure]
          exact ⟨_, rfl, by simp [VR]⟩
      · cases h
    · rename_i e b o len cap z hd
      simp only [hd]
      simp only [VR] at hx
      obtain ⟨sg, cc, hsg, rfl, hok, hlen, hroom⟩ := hx
      unfold Instr.slice
      simp only [Sem.run_bind, hC.run_und hi0, Result.andThen_ok, hd]
      split at h
      · cases h
      · rename_i j hj
        cases mx' with
        | some _ => exact hm.elim
        | none =>
        split at h
        · rename_i c
          simp only [ACap.ok] at hok
          subst hok
          split at h
          · rename_i l hh2 el eh
            cases hc : (Nat.ble l hh2 && Nat.ble hh2 cc && Nat.beq j.size z)
            · rw [hc] at h; cases h
            · rw [hc] at h
              simp only [cond_true] at h
              simp only [Bool.and_eq_true] at hc
              have c1 := Nat.le_of_ble_eq_true hc.1.1
              have c2 := Nat.le_of_ble_eq_true hc.1.2
              have c3 := Nat.eq_of_beq_eq_true hc.2
              have := sliceBounds_run (P := C.P) (w := w) (isSlice := true) (len := len) (cap := cc) hl hh hm el eh (m := cc) rfl c1 (fun _ => c2) (Nat.le_refl _) (by simp)
              simp only [this, Result.andThen_ok, hC.run_size hj, Sem.run_pure]
              refine ⟨_, rfl, ?_⟩
              split at h
              · rename_i hcl
                subst hcl
                simp only [Option.some.injEq] at h; subst h
                simp only [VR, if_true]
                have : hh2 - cc = 0 := by omega
                refine ⟨sg, 0, hsg, by simp [this], rfl, Nat.le_refl _, ?_⟩
                have := Nat.zero_le (cc * z)
                omega
              · rename_i hcl
                simp only [Option.some.injEq] at h; subst h
                rw [if_neg hcl]
                simp only [VR, Option.map_some]
                refine ⟨sg, cc - l, hsg, ?_, rfl, by omega, ?_⟩
                · subst c3
                  congr 2
                  unfold Addr.add
                  split <;> simp_all [Nat.add_assoc]
                · rw [Nat.add_assoc, ← Nat.add_mul, Nat.add_sub_cancel' (by omega : l ≤ cc)]
                  exact hroom
          · cases h
        · rename_i c
          simp only [ACap.ok] at hok
          split at h
          · rename_i l hh2 el eh
            cases hc : (Nat.ble l hh2 && Nat.ble hh2 c && Nat.beq j.size z)
            · rw [hc] at h; cases h
            · rw [hc] at h
              simp only [cond_true] at h
              simp only [Bool.and_eq_true] at hc
              have c1 := Nat.le_of_ble_eq_true hc.1.1
              have c2 := Nat.le_of_ble_eq_true hc.1.2
              have c3 := Nat.eq_of_beq_eq_true hc.2
              have := sliceBounds_run (P := C.P) (w := w) (isSlice := true) (len := len) (cap := cc) hl hh hm el eh (m := cc) rfl c1 (fun _ => by omega) (Nat.le_refl _) (by simp)
              simp only [this, Result.andThen_ok, hC.run_size hj, Sem.run_pure]
              refine ⟨_, rfl, ?_⟩
              split at h
              · rename_i hl0
                subst hl0
                simp only [Option.some.injEq] at h; subst h
                simp only [VR]
                refine ⟨sg, cc, hsg, ?_, by simpa [ACap.ok] using hok, by omega, hroom⟩
                simp [Addr.add]
              · rename_i hl0
                split at h
                · rename_i hcl
                  subst hcl
                  simp only [Option.some.injEq] at h; subst h
                  simp only [VR]
                  have e0 : hh2 - c = 0 := by omega
                  simp only [e0, Option.map_some]
                  by_cases hcc : cc = c
                  · rw [if_pos hcc]; exact ⟨_, _, rfl⟩
                  · rw [if_neg hcc]
                    exact ⟨_, _, rfl⟩
                · rename_i hcl
                  simp only [Option.some.injEq] at h; subst h
                  rw [if_neg (by omega)]
                  simp only [VR, Option.map_some]
                  refine ⟨sg, cc - l, hsg, ?_, by simp only [ACap.ok]; omega, by omega, ?_⟩
                  · subst c3
                    congr 2
                    unfold Addr.add
                    split <;> simp_all [Nat.add_assoc]
                  · rw [Nat.add_assoc, ← Nat.add_mul, Nat.add_sub_cancel' (by omega : l ≤ cc)]
                    exact hroom
          · cases h
      · rename_i j m hj
        cases mx' with
        | none => exact hm.elim
        | some m' =>
        split at h
        · rename_i m l hh2 hix em el eh
          cases hc : (Nat.ble l hh2 && Nat.ble hh2 m && Nat.beq j.size z && Nat.ble m cap.low)
          · rw [hc] at h; cases h
          · rw [hc] at h
            simp only [cond_true] at h
            simp only [Bool.and_eq_true] at hc
            have c1 := Nat.le_of_ble_eq_true hc.1.1.1
            have c2 := Nat.le_of_ble_eq_true hc.1.1.2
            have c3 := Nat.eq_of_beq_eq_true hc.1.2
            have c4 : m ≤ cc := by
              have := Nat.le_of_ble_eq_true hc.2
              have := hok.low
              omega
            have := sliceBounds_run (P := C.P) (w := w) (isSlice := true) (len := len) (cap := cc) hl hh hm el eh (m := m) ((bnd_irrel _ _ _).trans em) c1 (fun _ => c2) c4 (by simp)
            simp only [this, Result.andThen_ok, hC.run_size hj, Sem.run_pure]
            refine ⟨_, rfl, ?_⟩
            split at h
            · rename_i hcl
              subst hcl
              simp only [Option.some.injEq] at h; subst h
              simp only [VR, if_true]
              have : hh2 - m = 0 := by omega
              refine ⟨sg, 0, hsg, by simp [this], rfl, Nat.le_refl _, ?_⟩
              have := Nat.zero_le (cc * z)
              omega
            · rename_i hcl
              simp only [Option.some.injEq] at h; subst h
              rw [if_neg hcl]
              simp only [VR, Option.map_some]
              refine ⟨sg, m - l, hsg, ?_, rfl, by omega, ?_⟩
              · subst c3
                congr 2
                unfold Addr.add
                split <;> simp_all [Nat.add_assoc]
              · rw [Nat.add_assoc, ← Nat.add_mul, Nat.add_sub_cancel' (by omega : l ≤ m)]
                have := Nat.mul_le_mul_right z c4
                omega
        · cases h
    · rename_i e b hd
      simp only [hd]
      simp only [VR] at hx
      obtain ⟨sg, cc, rfl⟩ := hx
      unfold Instr.slice
      simp only [Sem.run_bind, hC.run_und hi0, Result.andThen_ok, hd]
      split at h
      · rename_i j hj el eh
        cases mx' with
        | some _ => exact hm.elim
        | none =>
        simp only [Option.some.injEq] at h; subst h
        have := sliceBounds_run (P := C.P) (w := w) (isSlice := true) (len := 0) (cap := cc) hl hh hm el eh (m := cc) rfl (Nat.le_refl _) (fun _ => Nat.zero_le _) (Nat.le_refl _) (by simp)
        simp only [this, Result.andThen_ok, hC.run_size hj, Sem.run_pure]
        refine ⟨_, rfl, ?_⟩
        simp only [VR]
        split <;> exact ⟨_, _, rfl⟩
      · cases h
    · cases h

end Go.AB
