/- A law's frame: its arguments, read before the call and behind it. -/
import Derived.Test.YtgihociajfgohaaGreatDoorAb30
import Derived.Carry
namespace Go.AB
open Go.ChangeShapes Go.WideShapes Go.RowKit
set_option linter.unusedSimpArgs false
set_option linter.unusedVariables false

/-- Types whose values are one cell each. -/
def oneT (P : Program) (t : TypeId) : Bool :=
  match P.underlying t with
  | some .bool | some (.int _) | some .string | some (.slice _) => true
  | _ => false

theorem cells_one {P : Program} {W : World} {base : Nat} {t : TypeId} {v : Value} (ht : oneT P t = true) (h : Value.okWide P W .any base t v) : v.cells = #[v] := by
  unfold oneT at ht
  unfold Value.okWide at h
  cases v <;> try rfl
  rename_i cs
  split at ht <;> rename_i hu <;> simp only [hu, Cell.okWide, Cell.ok] at h <;> first | cases h | cases ht

section
variable {X : Type} {enc : TypeId × Value → X} {P : Program}

theorem trodAll_stays (hl : laidOutB P = true) {W W' : World} (hb : Below W.heap.size W W') : ∀ (ts : List TypeId) (vs : List Value) (ds : List (DataW X)) (ps : List MemPlace), (∀ t ∈ ts, P.readableRec t = true ∧ t < P.types.size) →
    DataW.TrodAll enc P W 0 (fun _ => true) true ts vs ds ps → (∀ x ∈ ps, x.block < W.heap.size) → ∀ sp : Nat → Bool, (∀ p ∈ ps, sp p.block = true) → DataW.TrodAll enc P W' 0 sp true ts vs ds ps
  | [], vs, ds, ps, _, h, _, _, _ => by cases vs <;> cases ds <;> simp_all [DataW.TrodAll]
  | t :: ts, vs, ds, ps, hr, h, hlt, sp, hsp => by
    obtain ⟨v, vs', d, ds', p, q, rfl, rfl, rfl, h1, h2⟩ := trodAll_cons h
    have ⟨r1, r2⟩ := hr t (by simp)
    exact ⟨p, q, WideElems.Trod_stays hl r1 r2 h1 (fun x hx => hb.same (hlt x (by simp [hx]))) (fun x hx => hsp x (by simp [hx])),
      trodAll_stays hl hb ts vs' ds' q (fun t ht => hr t (by simp [ht])) h2 (fun x hx => hlt x (by simp [hx])) sp (fun x hx => hsp x (by simp [hx])), rfl⟩

/-- Arguments in an abstract heap. -/
def HasAll (P : Program) (H : AH) (k : Nat) : List TypeId → List (DataW X) → List AV → Prop
  | [], [], as => as = []
  | t :: ts, d :: ds, as => ∃ a as', as = a :: as' ∧ Has P H k t d [a] ∧ HasAll P H k ts ds as'
  | _, _, _ => False

theorem HasAll.mono {H H' : AH} (hg : ∀ b o, H.get b = some o → H'.get b = some o) {k : Nat} : ∀ {ts : List TypeId} {ds : List (DataW X)} {as : List AV}, HasAll P H k ts ds as → HasAll P H' k ts ds as
  | [], [], _, h => h
  | t :: ts, d :: ds, as, h => by
    obtain ⟨a, as', e, h1, h2⟩ := h
    exact ⟨a, as', e, h1.mono hg, h2.mono hg⟩
  | [], _ :: _, _, h => h.elim
  | _ :: _, [], _, h => h.elim

theorem Has.one {H : AH} {k : Nat} {t : TypeId} {d : DataW X} {as : List AV} (ht : oneT P t = true) (h : Has P H k t d as) : ∃ a, as = [a] := by
  cases k with
  | zero => exact h.elim
  | succ k =>
    unfold oneT at ht
    unfold Has at h
    split at h
    · obtain ⟨b, _, rfl⟩ := h; exact ⟨_, rfl⟩
    · obtain ⟨b, _, _, rfl⟩ := h; exact ⟨_, rfl⟩
    · obtain ⟨b, _, _, rfl⟩ := h; exact ⟨_, rfl⟩
    · rcases h with ⟨_, rfl⟩ | ⟨_, rfl⟩ | ⟨b, es, sp, vs, _, _, rfl, _⟩ <;> exact ⟨_, rfl⟩
    · rename_i hu; rw [hu] at ht; cases ht
    · exact h.elim

theorem imp_all {N G k : Nat} {W : World} (hN : N = W.heap.size) : ∀ (ts : List TypeId) (vs : List Value) (ds : List (DataW X)) (ps : List MemPlace), (∀ t ∈ ts, plainT P k t = true ∧ oneT P t = true) → (∀ v ∈ vs, v.cells = #[v]) →
    DataW.TrodAll enc P W 0 (fun _ => true) true ts vs ds ps → ∀ ρ H, R N G ρ H W → ∃ ρ' H' as, More N G W ρ H ρ' H' ∧ VRs ρ' as vs ∧ HasAll P H' k ts ds as
  | [], vs, ds, ps, _, _, h, ρ, H, hR => by
    obtain ⟨rfl, rfl, rfl⟩ := trodAll_nil h
    exact ⟨ρ, H, [], More.refl hR, VRs.nil, rfl⟩
  | t :: ts, vs, ds, ps, hp, hc, h, ρ, H, hR => by
    obtain ⟨v, vs', d, ds', p, q, rfl, rfl, rfl, ⟨fuel, h1⟩, h2⟩ := trodAll_cons h
    obtain ⟨p1, p2⟩ := hp t (by simp)
    rw [hc v (by simp)] at h1
    obtain ⟨ρ1, H1, as, m1, v1, g1⟩ := imp_trod hN k t p1 fuel [v] (d, p) h1 ρ H hR
    obtain ⟨a, rfl⟩ := g1.one p2
    obtain ⟨ρ2, H2, bs, m2, v2, g2⟩ := imp_all hN ts vs' ds' q (fun t ht => hp t (by simp [ht])) (fun v hv => hc v (by simp [hv])) h2 ρ1 H1 m1.r
    simp only [VRs] at v1
    obtain ⟨u, us, e, hu, rfl⟩ := v1
    cases e
    exact ⟨ρ2, H2, a :: bs, m1.trans m2, VRs.cons (hu.ext m2.ext) v2, a, bs, rfl, g1.mono m2.get, g2⟩

/-- **A law**: from what its triple says of the arguments' reading. -/
theorem law_true {C : Ctx} {k : Nat} {f : FuncId} {ts : List TypeId} {ds : List (DataW X)} (hp : ∀ t ∈ ts, plainT C.P k t = true ∧ oneT C.P t = true) (h : ∀ (N : Nat) (H : AH) (as : List AV), (∀ b o, H.get b = some o → b < H.next) → HasAll C.P H k ts ds as → AC C N 0 f as H fun r _ => r = .bool true)
    {W : World} {base : Nat} {vs : List Value} {ps : List MemPlace} (hval : ∀ (j : Nat) t v, ts[j]? = some t → vs[j]? = some v → Value.okWide C.P W .any base t v) (hA : DataW.TrodAll enc C.P W 0 (fun _ => true) true ts vs ds ps) :
    Calls C.P f ⟨vs⟩ W fun e W' => e = .returned (.bool true) ∧ Below W.heap.size W W' := by
  have hlen : vs.length = ts.length := by
    clear hval h hp
    induction ts generalizing vs ds ps with
    | nil => obtain ⟨h1, _, _⟩ := trodAll_nil hA; simp [h1]
    | cons t ts ih =>
      obtain ⟨v, vs', d, ds', p, q, rfl, rfl, rfl, _, h2⟩ := trodAll_cons hA
      simp [ih h2]
  have hc : ∀ v ∈ vs, v.cells = #[v] := by
    intro v hv
    obtain ⟨j, hj⟩ := List.getElem?_of_mem hv
    have hjl := (List.getElem?_eq_some_iff.1 hj).1
    have hjt : ts[j]? = some (ts[j]'(by omega)) := List.getElem?_eq_getElem (by omega)
    exact cells_one (hp _ (List.mem_of_getElem? hjt)).2 (hval j _ v hjt hj)
  obtain ⟨ρ, H, as, hm, hv, hh⟩ := imp_all (N := W.heap.size) (G := 0) (k := k) rfl ts vs ds ps hp hc hA _ _ (R.start W)
  refine (h W.heap.size H as (fun b o hb => hm.r.dom_lt hb) hh ρ W vs hm.r hv).mono ?_
  rintro e w' ⟨v, ρ', r, H', rfl, rfl, hv', _, hF⟩
  simp only [VR] at hv'
  refine ⟨by rw [hv'], hF.os, hF.tape, hF.output, hF.size, fun k hk => hF.keep k hk fun b o s hb hrw hs e => ?_⟩
  obtain ⟨s', h1, h2⟩ := hm.r.obj b o hb
  rw [hs] at h1; cases h1
  have := h2.rwN hrw
  omega
end
end Go.AB
