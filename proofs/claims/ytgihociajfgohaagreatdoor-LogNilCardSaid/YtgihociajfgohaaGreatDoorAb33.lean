/- Slices that are made and grown by one; what of a heap stays. -/
import Derived.Test.YtgihociajfgohaaGreatDoorAb32
namespace Go.AB
set_option linter.unusedSimpArgs false
set_option linter.unusedVariables false

section
variable {C : Ctx} {F : Fns} {H : AH} {ev : Operand → AV} {dst : Option Tmp} {ty : TypeId} {pos : String} {after : Array Edge} {guard : Option (Nat × Bool)}

theorem evOp_buildSlice1 {t e : TypeId} {i j : TI} {z : AV} {x : Operand} (ht : C.ti t = some i) (hd : i.d = .slice e) (he : C.ti e = some j) (hs : j.size = 1) (hz : j.zero = some z) (hzo : z.one = true) (hv : (ev x).one = true) :
    evOp C F H ev { dst, op := .buildSlice t 1 ⟨[(0, x)]⟩, type := ty, pos, after, guard } = some (.slice H.next 0 1 (.ex 1) 1, H.alloc (.cells false [ev x])) := by
  obtain ⟨z1, z2⟩ := cells_of_one hzo
  obtain ⟨v1, v2⟩ := cells_of_one hv
  have hsp : splice [z] 0 [ev x] = [ev x] := by simp [splice]
  have hzs : zerosOf [z] 1 = [z] := by simp [zerosOf]
  simp only [evOp, pureOp, readOp, newOp, ht, hd, he, hs, hz, z1, z2, nbeq, nble, Nat.one_mul, Nat.mul_one, List.length_cons, List.length_nil, Nat.zero_add, decide_true, Bool.and_true, Bool.true_and, cond_true, List.map_cons, List.map_nil, hzs, afill, v1, v2, Option.map_some, Nat.zero_mul]
  simp [hsp]

theorem zOK_of {j : TI} {z : AV} (hz : j.zero = some z) (hzo : z.one = true) (hs : j.size = 1) : zOK j = true := by
  obtain ⟨z1, z2⟩ := cells_of_one hzo
  simp [zOK, hz, z1, z2, hs]

theorem aappended_one {xt : TypeId} {j xi : TI} {e : TypeId} {b o : Nat} {c : ACap} {ro : Bool} {vs : List AV} {v : AV} (hx : C.ti xt = some xi) (hxd : xi.d = .slice e) (hs : j.size = 1) (hb : H.get b = some (.cells ro vs)) (hv : vs[o]? = some v) :
    aappended C H j xt (.slice b o 1 c 1) = some (1, [v]) := by
  have h1 : (vs.drop o).take 1 = [v] := by
    have hlt := (List.getElem?_eq_some_iff.1 hv).1
    rw [List.getElem?_eq_getElem hlt] at hv
    have hv := Option.some.inj hv
    rw [List.drop_eq_getElem_cons hlt, hv]
    simp
  simp [aappended, hx, hxd, lenOfAV, acells, hb, hs, h1, nbeq]

theorem aappend_nil1 {st e : TypeId} {i j : TI} {z v : AV} {b o : Nat} {c : ACap} {ro : Bool} {vs : List AV} (ht : C.ti st = some i) (hd : i.d = .slice e) (he : C.ti e = some j) (hs : j.size = 1) (hz : j.zero = some z) (hzo : z.one = true)
    (hb : H.get b = some (.cells ro vs)) (hv : vs[o]? = some v) (ho : v.one = true) (hc : 1026 * j.bytes ≤ 281474976710656) :
    aappend C H [st, st] [.nils, .slice b o 1 c 1] = some (.slice H.next 0 1 (.lo 1) 1, H.alloc (.cells false [v])) := by
  have h1 := aappended_one (C := C) (j := j) (c := c) ht hd hs hb hv
  simp [aappend, ht, hd, he, h1, allOne, ho, hs, zOK_of hz hzo hs, nble, hc]

theorem aappend_lo1 {st e : TypeId} {i j : TI} {z v : AV} {a n b o : Nat} {c : ACap} {ro : Bool} {vs ws : List AV} (ht : C.ti st = some i) (hd : i.d = .slice e) (he : C.ti e = some j) (hs : j.size = 1) (hz : j.zero = some z) (hzo : z.one = true)
    (hb : H.get b = some (.cells ro vs)) (hv : vs[o]? = some v) (ho : v.one = true) (ha : H.get a = some (.cells false ws)) (hw : ws.length = n) (hc : (2 * (n + 1) + 1024) * j.bytes ≤ 281474976710656) (hn : n + 1 ≤ 4611686018427387904) :
    aappend C H [st, st] [.slice a 0 n (.lo n) 1, .slice b o 1 c 1] = some (.slice H.next 0 (n + 1) (.lo (n + 1)) 1, (H.del a).alloc (.cells false (ws ++ [v]))) := by
  have h1 := aappended_one (C := C) (j := j) (c := c) ht hd hs hb hv
  simp [aappend, ht, hd, he, h1, allOne, ho, hs, zOK_of hz hzo hs, nble, hc, hn, ACap.low, ha, hw]
end

/-- The objects of a heap are there behind it. -/
structure Stays (H K : AH) : Prop where
  get : ∀ b o, b < H.next → H.get b = some o → K.get b = some o
  next : H.next ≤ K.next

theorem Stays.refl (H : AH) : Stays H H := ⟨fun _ _ _ h => h, Nat.le_refl _⟩
theorem Stays.trans {H K L : AH} (a : Stays H K) (b : Stays K L) : Stays H L := ⟨fun k o hk h => b.get k o (Nat.lt_of_lt_of_le hk a.next) (a.get k o hk h), Nat.le_trans a.next b.next⟩
theorem Stays.alloc {H K : AH} (a : Stays H K) (o : AO) : Stays H (K.alloc o) :=
  ⟨fun b x hb h => by rw [AH.get_alloc, if_neg (by have := a.next; omega)]; exact a.get b x hb h, by have := a.next; simp; omega⟩
theorem Stays.del {H K : AH} (a : Stays H K) {b : Nat} (hb : H.next ≤ b) : Stays H (K.del b) :=
  ⟨fun k x hk h => by rw [AH.get_del, if_neg (by omega)]; exact a.get k x hk h, a.next⟩
theorem Stays.set {H K : AH} (a : Stays H K) {b : Nat} (hb : H.next ≤ b) (o : AO) : Stays H (K.set b o) :=
  ⟨fun k x hk h => by rw [AH.get_set, if_neg (by omega)]; exact a.get k x hk h, a.next⟩

/-- Objects have names that were given. -/
def WF (H : AH) : Prop := ∀ b o, H.get b = some o → b < H.next

theorem R.wf {N G : Nat} {ρ : Names} {H : AH} {w : World} (h : R N G ρ H w) : WF H := fun b o hb => h.dom_lt hb

section
variable {C : Ctx} {N G n : Nat} {H : AH}
theorem AC.wf {f : FuncId} {args : List AV} {Q : AV → AH → Prop} (h : AC C N G f args H Q) : AC C N G f args H fun r K => Q r K ∧ WF K := fun ρ w vs hR hv =>
  (h ρ w vs hR hv).mono fun e w' ⟨v, ρ', r, K, hQ, he, h1, h2, h3⟩ => ⟨v, ρ', r, K, ⟨hQ, h2.wf⟩, he, h1, h2, h3⟩
theorem AC.wf0 {f : FuncId} {args : List AV} {Q : AV → AH → Prop} (h : WF H → AC C N G f args H Q) : AC C N G f args H Q := fun ρ w vs hR hv => h hR.wf ρ w vs hR hv
theorem AW.wf0 {c : Code} {T : PT AV} {Q : AEx → PT AV → AH → Prop} (h : WF H → AW C N G n c T H Q) : AW C N G n c T H Q := fun ρ w a hR hA K hK => h hR.wf ρ w a hR hA K hK
theorem AOs.wf0 {ops : Array Oper} {l : List Oper} {T : PT AV} {Q : PT AV → AH → Prop} (h : WF H → AOs C N G n ops l T H Q) : AOs C N G n ops l T H Q := fun ρ w a hR hA K hK => h hR.wf ρ w a hR hA K hK
end
end Go.AB
