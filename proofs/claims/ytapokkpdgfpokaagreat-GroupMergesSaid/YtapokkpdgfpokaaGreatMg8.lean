/- Group: the law of what is put together; no condition. -/
import Derived.Test.YtapokkpdgfpokaaGreatMg7
import Derived.Test.YtapokkpdgfpokaaGreatMg5
set_option linter.unusedSimpArgs false
set_option linter.unusedVariables false
set_option maxRecDepth 100000
open Go Go.AB Go.Proofs
namespace Go.Proofs.YtapokkpdgfpokaaGreat
set_option maxRecDepth 100000

theorem new19b (N : Bd) (H : AH) {v : AV} {f : Int} {ns : List Nm} (hv : NamesAt H v ns) (hl : ns.length ≤ 1000000) : AC tC N 0 19 [.int .i64 f, v] H fun r K => if newOK f ns = true then
    ∃ g un m, r = .tuple [.ptr g 0, .int .i64 0] ∧ K.get g = some (.cells false [.int .i64 f, un, .nils, .map m]) ∧ NamesAt K un ns ∧ K.get m = some (.map [] 0) ∧ H.next ≤ m ∧ m < g ∧ g < K.next ∧ H.next ≤ K.next ∧ ∀ b y, H.get b = some y → K.get b = some y
    else r = .tuple [.nilp, .int .i64 2] ∧ K = H := by
  refine AC.wf0 fun hwf => ?_
  refine AC.by (n := 23) (rs := [.tmp 4, .tmp 5]) tOK fn19 rfl rfl rfl rfl ?_
  have e0 : (PT.ofList .leaf 0 [AV.int .i64 f, v]).get 0 = some (.int .i64 f) := rfl
  have e1 : (PT.ofList .leaf 0 [AV.int .i64 f, v]).get 1 = some v := rfl
  unfold newOK
  by_cases h1 : 1 ≤ f
  case neg =>
    have d1 : decide (f < 1) = true := decide_eq_true (by omega)
    refine zs2 @e0 @d1 ?_
    exact fnPost_ret2 gt1 gt1 (by rw [if_neg (by simp [h1])]; exact ⟨rfl, rfl⟩)
  have d1 : decide (f < 1) = false := decide_eq_false (by omega)
  by_cases h2 : f ≤ 4
  case neg =>
    have d2 : decide (4 < f) = true := decide_eq_true (by omega)
    refine zs3 @e0 @d1 @d2 ?_
    exact fnPost_ret2 gt1 gt1 (by rw [if_neg (by simp [h2])]; exact ⟨rfl, rfl⟩)
  have d2 : decide (4 < f) = false := decide_eq_false (by omega)
  refine zs4 @e0 @e1 @d1 @d2 ?_
  refine AOs.cq tOK fn43 ok43 (right43 N H hv hl) ?_
  rintro r K ⟨rfl, rfl⟩
  by_cases hr : rightNs ns = true
  case neg =>
    have hr' : rightNs ns = false := by simpa using hr
    with_reducible repeat' first | refine za ?_ | refine AOs.guardT wu (by simp only [PT.get_set, Nat.reduceEqDiff, reduceIte, hr']; rfl) (by first | rfl | decide | assumption) ?_ | refine AW.condT (by simp only [aeval, PT.get_set, Nat.reduceEqDiff, reduceIte, hr']; rfl) (by first | rfl | decide | assumption) ?_ | (refine AOs.o1 tOK ?_; refine zr1 @hr' ?_) | fail
    exact fnPost_ret2 gt1 gt1 (by rw [if_neg (by simp [hr'])]; exact ⟨rfl, rfl⟩)
  with_reducible repeat' first | refine za ?_ | refine AOs.guardT wu (by simp only [PT.get_set, Nat.reduceEqDiff, reduceIte, hr]; rfl) (by first | rfl | decide | assumption) ?_ | refine AW.condF (by simp only [aeval, PT.get_set, Nat.reduceEqDiff, reduceIte, hr]; rfl) (by first | rfl | decide | assumption) ?_ | (refine AOs.o1 tOK ?_; refine zr3 @e0 @e1 @hr ?_) | fail
  refine AOs.cq tOK fn44 ok44 (AC.wf (clone44 N K hv hl)) ?_
  rintro un K1 ⟨⟨hun, nK1, sK1⟩, wfK1⟩
  have huo := hun.one
  generalize hK2 : K1.alloc (.map [] 0) = K2
  obtain ⟨sK2, wfK2, nK2, gK2⟩ := laid wfK1 hK2
  have bdx := bd76 (f := f) huo K1.next
  generalize hK3 : K2.alloc (.cells false [.int .i64 f, un, .nils, .map K1.next]) = K3
  obtain ⟨sK3, wfK3, nK3, gK3⟩ := laid wfK2 hK3
  have gK2 := sK3 _ _ gK2
  refine zp3 @hK2 @bdx @hK3 ?_
  refine fnPost_ret2 gt1 gt1 ?_
  rw [if_pos (by simp [h1, h2, hr])]
  exact ⟨K2.next, un, K1.next, rfl, gK3, hun.keep (KS.of (fun b y hy => sK3 _ _ (sK2 _ _ hy)) (by omega)), gK2, by omega, by omega, by omega, by omega, fun b y hy => sK3 _ _ (sK2 _ _ (sK1 _ _ hy))⟩

theorem GroupAt.empty {K : AH} {g m : Nat} {f : Int} {ns : List Nm} {un : AV} (hg : K.get g = some (.cells false [.int .i64 f, un, .nils, .map m])) (hun : NamesAt K un ns) (hm : K.get m = some (.map [] 0)) (hlt : m < g) (hn : g < K.next) (hl : ns.length ≤ 1000000) : GroupAt K g m f ns [] [] where
  here := ⟨un, .nils, hg, hun, .inl ⟨rfl, rfl, rfl⟩, True.intro⟩
  cells := ⟨⟨0, hm⟩, fun ps v hv => (by rw [hm] at hv; cases hv; omega), fun c hc => (by cases hc), fun c hc => (by cases hc), by simp [fpsC], List.nodup_nil⟩
  has x := by simp
  gm := by simp [fpsC]; omega
  vec := rfl
  i64 r hr := by cases hr
  nsl := hl
theorem GroupAt.keep {H K : AH} {g m : Nat} {f : Int} {ns : List Nm} {V : List Rs} {cs : List GCell} (h : GroupAt H g m f ns V cs) (hk : ∀ b ∈ g :: m :: fpsC cs, ∀ y, H.get b = some y → K.get b = some y) (hs : KS H K)
    (hv : ∀ un ui, H.get g = some (.cells false [.int .i64 f, un, ui, .map m]) → VecAt H ui V → VecAt K ui V) : GroupAt K g m f ns V cs where
  here := let ⟨un, ui, h1, h2, h3, h4⟩ := h.here; ⟨un, ui, hk g List.mem_cons_self _ h1, h2.keep hs, hv un ui h1 h3, h4⟩
  cells := h.cells.keep (fun b hb => hk b (List.mem_cons_of_mem _ hb)) hs
  has := h.has
  gm := h.gm
  vec := h.vec
  i64 := h.i64
  nsl := h.nsl

/-- Rows in blocks that are not one another's. -/
def Sep (a b : AV) : Prop := ∀ k o n c z, a = .slice k o n c z → ∀ o n c z, b ≠ .slice k o n c z
theorem AccC.data {n0 : Nat} {K : AH} {w : AV} {out : List Ch} (h : AccC n0 K w out) : ∀ b o n c z, w = .slice b o n c z → n0 ≤ b ∧ ∃ vs, K.get b = some (.cells false vs) ∧ dataV vs = true := fun b o n c z e => by
  rcases h with ⟨rfl, _⟩ | ⟨b', vs, rfl, h1, h2, h3, h4, h5⟩
  · cases e
  · cases e
    refine ⟨h1, vs, h2, ?_⟩
    obtain ⟨r, hr⟩ : ∃ r, out[0]? = some r := by
      cases out with
      | nil => exact absurd rfl h4
      | cons r l => exact ⟨r, rfl⟩
    obtain ⟨u, e1, _⟩ := h5 0 r hr
    exact dataV_row (get_of_take e1 (j := 2) rfl) (by omega)
theorem AccC.keepD {n0 : Nat} {H K : AH} {w : AV} {out : List Ch} (h : AccC n0 H w out) (hk : KD H K) : AccC n0 K w out := by
  have hd := h.data
  rcases h with h | ⟨b, vs, rfl, h1, h2, h3, h4, h5⟩
  · exact .inl h
  · obtain ⟨_, vs', q1, q2⟩ := hd _ _ _ _ _ rfl
    rw [h2] at q1; cases q1
    refine .inr ⟨b, vs, rfl, h1, hk.1 b _ vs h2 (fun e => by subst e; simp [dataV] at *; exact h4 (List.eq_nil_of_length_eq_zero (by omega))) (.inl q2), h3, h4, fun i r hi => ?_⟩
    obtain ⟨u, h6, h7⟩ := h5 i r hi
    exact ⟨u, h6, h7.keep hk.ks⟩
theorem accC_append2 {n0 k : Nat} {K : AH} {w u : AV} {out : List Ch} {c : Ch} (hw : WF K) (hn : n0 ≤ K.next) (h : AccC n0 K w out) (hu : LabelsAt K u c.1) (hk : K.get k = some (.cells false (chC u c))) (hN : out.length ≤ 1000000) :
    ∃ l K', aappend tC K [23, 23] [w, .slice k 0 1 (.ex 1) 4] = some (.slice K.next 0 l (.lo l) 4, K') ∧ AccC n0 K' (.slice K.next 0 l (.lo l) 4) (out ++ [c]) ∧ K.next ≤ K'.next ∧ KS K K' ∧ (∀ b y, K.get b = some y → (∀ o n c z, w ≠ .slice b o n c z) → K'.get b = some y) := by
  have hx := aappended_z (C := tC) (H := K) (j := ⟨.struct #[{ name := "Labels", type := 29, offset := 0, embedded := false, tag := "", pkgPath := "", byteOffset := 0 }, { name := "Value", type := 31, offset := 1, embedded := true, tag := "", pkgPath := "", byteOffset := 24 }, { name := "Gone", type := 4, offset := 3, embedded := false, tag := "", pkgPath := "", byteOffset := 40 }], 4, 48, (some (.agg [.nils, .int Go.IntKind.i64 (.ofNat 0), .bool false, .bool false])), true⟩) (xt := 23) (n := 1) (z' := 4) (c := .ex 1) (o := 0) (cs := chC u c) ti23 rfl hk rfl rfl
  have hone : allOne (chC u c) = true := by simp [allOne, chC, hu.one, one_int, one_bool]
  have fin : ∀ (vs : List AV), AccZ 4 K w out.length vs → (∀ b o n c z, w = .slice b o n c z → n0 ≤ b) → (∀ L, KS K L → ∀ i r, out[i]? = some r → ∃ u, (vs.drop (i * 4)).take 4 = chC u r ∧ LabelsAt L u r.1) → (∀ b ro ws, K.get b = some (.cells ro ws) → ws ≠ [] → (ws.all isStr = true ∨ ro = true) → ∀ o n c z, w ≠ .slice b o n c z) → vs.length = out.length * 4 →
      ∃ l K', aappend tC K [23, 23] [w, .slice k 0 1 (.ex 1) 4] = some (.slice K.next 0 l (.lo l) 4, K') ∧ AccC n0 K' (.slice K.next 0 l (.lo l) 4) (out ++ [c]) ∧ K.next ≤ K'.next ∧ KS K K' ∧ (∀ b y, K.get b = some y → (∀ o n c z, w ≠ .slice b o n c z) → K'.get b = some y) := fun vs ha hb hl hs hvl => by
    obtain ⟨K', e1, e2, e3, e4⟩ := accz_append (C := tC) (st := 23) (xt := 23) (m := 1) ti23 rfl ti33 rfl rfl rfl (by decide) hw ha hx rfl (by decide) hone (by omega)
    have hks : KS K K' := ⟨fun b ro ws h1 h2 h3 => e4 b _ h1 (hs b ro ws h1 h2 h3), by omega⟩
    refine ⟨_, K', e1, .inr ⟨K.next, vs ++ chC u c, by simp, hn, e2, by simp [hvl, chC]; omega, by simp, fun i r hi => ?_⟩, by omega, hks, e4⟩
    by_cases hil : i < out.length
    · rw [List.getElem?_append_left hil] at hi
      obtain ⟨u', h6, h7⟩ := hl K' hks i r hi
      refine ⟨u', ?_, h7⟩
      rw [List.drop_append_of_le_length (by omega), List.take_append_of_le_length (by rw [List.length_drop]; omega)]
      exact h6
    · have hi2 : i = out.length := by
        have := (List.getElem?_eq_some_iff.1 hi).1
        simp at this; omega
      subst hi2
      rw [List.getElem?_append_right (Nat.le_refl _), Nat.sub_self] at hi
      cases Option.some.inj hi
      refine ⟨u, ?_, hu.keep hks⟩
      rw [← hvl, List.drop_left]; rfl
  rcases h with ⟨rfl, rfl⟩ | ⟨b, vs, rfl, h1, h2, h3, h4, h5⟩
  · exact fin [] (.inl ⟨rfl, rfl, rfl⟩) (fun _ _ _ _ _ e => by cases e) (fun L _ i r hi => by simp at hi) (fun _ _ _ _ _ _ _ _ _ _ e => by cases e) rfl
  · have hz : out.length ≠ 0 := fun e => h4 (List.eq_nil_of_length_eq_zero e)
    refine fin vs (.inr ⟨b, rfl, h2, h3, hz⟩) (fun _ _ _ _ _ e => by cases e; exact h1) (fun L hL i r hi => let ⟨u, h6, h7⟩ := h5 i r hi; ⟨u, h6, h7.keep hL⟩) (fun b' ro ws g1 g2 g3 o n c z e => ?_) h3
    cases e
    rw [h2] at g1; cases g1
    rcases g3 with g3 | g3
    · obtain ⟨u', h6, _⟩ := h5 0 _ (List.getElem?_eq_getElem (by omega))
      have h7 := get_of_take h6 (j := 1) rfl
      have := List.all_eq_true.1 g3 _ (List.mem_of_getElem? h7)
      simp [isStr] at this
    · cases g3
theorem VecAt.keepS {H K : AH} {w v : AV} {l : List Rs} (h : VecAt H v l) (hk : ∀ b y, H.get b = some y → (∀ o n c z, w ≠ .slice b o n c z) → K.get b = some y) (hs : KS H K) (hp : l ≠ [] → Sep w v) : VecAt K v l := by
  rcases h with h | ⟨b, o, c, ro, vs, rfl, h1, h2, h3⟩
  · exact .inl h
  · exact .inr ⟨b, o, c, ro, vs, rfl, hk _ _ h1 fun o n c z e => hp h2 b o n c z e _ _ _ _ rfl, h2, fun i r hi => let ⟨u, q1, q2⟩ := h3 i r hi; ⟨u, q1, q2.keep hs⟩⟩
theorem VecAt.below {H : AH} {v : AV} {l : List Rs} (hw : WF H) (h : VecAt H v l) (h0 : l ≠ []) : ∀ b o n c z, v = .slice b o n c z → b < H.next := fun b o n c z e => by
  rcases h with ⟨h, _⟩ | ⟨b', o, c, ro, vs, rfl, h1, _⟩
  · exact absurd h h0
  · cases e; exact hw _ _ h1

/-- In the midst of the law. -/
structure Mid (H K : AH) (n0 ga ma gb mb : Nat) (f : Int) (ns : List Nm) (wa wt : AV) (all : List Ch) (V VT : List Rs) : Prop where
  keep : ∀ b y, H.get b = some y → K.get b = some y
  next : n0 ≤ K.next
  hn : H.next ≤ n0
  acc : AccC n0 K wa all
  a : ∃ cs, GroupAt K ga ma f ns V cs ∧ ∀ b ∈ ga :: ma :: fpsC cs, H.next ≤ b ∧ b ≠ gb ∧ b ≠ mb
  b : GroupAt K gb mb f ns [] []
  blt : H.next ≤ gb ∧ H.next ≤ mb ∧ gb < n0 ∧ mb < n0
  told : ∃ W, VecAt K wt W ∧ capOK wt ∧ Tells f ns VT W ∧ (W ≠ [] → Sep wa wt)
  sepU : V ≠ [] → ∀ un ui, K.get ga = some (.cells false [.int .i64 f, un, ui, .map ma]) → Sep wa ui
section
variable {H K K' : AH} {n0 ga ma gb mb : Nat} {f : Int} {ns : List Nm} {wa wt : AV} {all : List Ch} {V VT V' : List Rs}
theorem Mid.more (h : Mid H K n0 ga ma gb mb f ns wa wt all V VT) (hk : ∀ b y, K.get b = some y → K'.get b = some y) (hn : K.next ≤ K'.next) : Mid H K' n0 ga ma gb mb f ns wa wt all V VT where
  keep b y hy := hk _ _ (h.keep b y hy)
  next := Nat.le_trans h.next hn
  hn := h.hn
  acc := h.acc.keep hk hn
  a := let ⟨cs, h1, h2⟩ := h.a; ⟨cs, h1.keep (fun b _ y hy => hk _ _ hy) (KS.of hk hn) (fun un ui _ hv => hv.keep hk hn), h2⟩
  b := h.b.keep (fun b _ y hy => hk _ _ hy) (KS.of hk hn) (fun un ui _ hv => hv.keep hk hn)
  blt := h.blt
  told := let ⟨W, h1, h2, h3, h4⟩ := h.told; ⟨W, h1.keep hk hn, h2, h3, h4⟩
  sepU h0 un ui hg := by
    obtain ⟨cs, h1, _⟩ := h.a
    obtain ⟨un', ui', h3, _⟩ := h1.here
    have := hk _ _ h3
    rw [hg] at this; cases this
    exact h.sepU h0 un ui h3
theorem Mid.append (h : Mid H K n0 ga ma gb mb f ns wa wt all V VT) (hwH : WF H) (hw : WF K) {k : Nat} {u : AV} {c : Ch} (hu : LabelsAt K u c.1) (hk : K.get k = some (.cells false (chC u c))) (hN : all.length ≤ 1000000) :
    ∃ w' K', aappend tC K [23, 23] [wa, .slice k 0 1 (.ex 1) 4] = some (w', K') ∧ Mid H K' n0 ga ma gb mb f ns w' wt (all ++ [c]) V VT ∧ K.next ≤ K'.next := by
  obtain ⟨l, K', e1, e2, e3, e4, e5⟩ := accC_append2 hw h.next h.acc hu hk hN
  have hd := h.acc.data
  have hnw : ∀ b, Work K b → ∀ o n c z, wa ≠ .slice b o n c z := fun b hb o n c z e => by
    obtain ⟨_, vs, q1, q2⟩ := hd _ _ _ _ _ e
    have := (hb _ _ q1).2
    rw [q2] at this; cases this
  refine ⟨_, K', e1, ?_, e3⟩
  obtain ⟨cs, a1, a2⟩ := h.a
  obtain ⟨W, t1, t2, t3, t4⟩ := h.told
  refine ⟨fun b y hy => e5 b y (h.keep b y hy) fun o n c z e => ?_, Nat.le_trans h.next e3, h.hn, e2, ⟨cs, a1.keep (fun b hb y hy => e5 b y hy (hnw b (a1.work b hb))) e4 (fun un ui hg hv => hv.keepS e5 e4 fun h0 => h.sepU h0 un ui hg), a2⟩,
    h.b.keep (fun b hb y hy => e5 b y hy (hnw b (h.b.work b hb))) e4 (fun un ui hg hv => hv.keepS e5 e4 fun h0 => absurd rfl h0), h.blt, ⟨W, t1.keepS e5 e4 t4, t2, t3, fun h0 k o n c z e o' n' c' z' e' => ?_⟩, fun h0 un ui hg k o n c z e o' n' c' z' e' => ?_⟩
  · have := (hd _ _ _ _ _ e).1
    have := hwH _ _ hy
    have := h.hn; omega
  · have := t1.below hw h0 _ _ _ _ _ e'
    cases e; omega
  · obtain ⟨un', ui', h3, _, h4, _⟩ := a1.here
    have := e5 _ _ h3 (hnw _ (a1.work _ List.mem_cons_self))
    rw [hg] at this; cases this
    have := h4.below hw h0 _ _ _ _ _ e'
    cases e; omega
theorem Mid.set (h : Mid H K n0 ga ma gb mb f ns wa wt all V VT) (hwH : WF H) (hw : WF K) {cs cs' : List GCell} (hcs : GroupAt K ga ma f ns V cs) (hft : ∀ b ∈ ga :: ma :: fpsC cs, H.next ≤ b ∧ b ≠ gb ∧ b ≠ mb) (h1 : GroupAt K' ga ma f ns V' cs')
    (hk : ∀ k y, k ∉ ga :: ma :: fpsC cs → K.get k = some y → K'.get k = some y) (ho : ∀ b ∈ fpsC cs', b ∈ fpsC cs ∨ K.next ≤ b) (hn : K.next ≤ K'.next) (hu : ∃ un ui, K'.get ga = some (.cells false [.int .i64 f, un, ui, .map ma]) ∧ FrV K.next ui) :
    Mid H K' n0 ga ma gb mb f ns wa wt all V' VT := by
  have kd : KD K K' := KD.keep hk hcs.work hn
  obtain ⟨b1, b2, b3, b4⟩ := h.blt
  have hnx := h.next
  have hhn := h.hn
  obtain ⟨W, t1, t2, t3, t4⟩ := h.told
  refine ⟨fun b y hy => hk b y (fun hb => ?_) (h.keep b y hy), Nat.le_trans h.next hn, h.hn, h.acc.keepD kd, ⟨cs', h1, fun b hb => ?_⟩, h.b.keep (fun b hb y hy => hk b y (fun hb2 => ?_) hy) kd.ks (fun un ui _ hv => hv.keepD kd), h.blt, ⟨W, t1.keepD kd, t2, t3, t4⟩, fun h0 un ui hg k o n c z e o' n' c' z' e' => ?_⟩
  · have := (hft b hb).1
    have := hwH _ _ hy; omega
  · rcases List.mem_cons.1 hb with rfl | hb
    · exact hft _ List.mem_cons_self
    · rcases List.mem_cons.1 hb with rfl | hb
      · exact hft _ (List.mem_cons_of_mem _ List.mem_cons_self)
      · rcases ho b hb with h | h
        · exact hft _ (List.mem_cons_of_mem _ (List.mem_cons_of_mem _ h))
        · omega
  · have := hft b hb2
    simp [fpsC] at hb
    rcases hb with rfl | rfl
    · exact this.2.1 rfl
    · exact this.2.2 rfl
  · obtain ⟨un', ui', h3, h4⟩ := hu
    rw [hg] at h3; cases h3
    have := h4 _ _ _ _ _ e'
    obtain ⟨_, vs, q1, _⟩ := h.acc.data _ _ _ _ _ e
    have := hw _ _ q1; omega
theorem Mid.apply (h : Mid H K n0 ga ma gb mb f ns wa wt all V VT) (hw : WF K) {wt' : AV} {W : List Rs} (hk : ∀ b y, K.get b = some y → K'.get b = some y) (hn : K.next ≤ K'.next) (h1 : VecAt K' wt' W) (h2 : capOK wt') (h3 : FrV K.next wt') (h4 : Tells f ns V W) : Mid H K' n0 ga ma gb mb f ns wa wt' all V V :=
  { h.more hk hn with told := ⟨W, h1, h2, h4, fun _ k o n c z e o' n' c' z' e' => by
      have := h3 _ _ _ _ _ e'
      obtain ⟨_, vs, q1, _⟩ := h.acc.data _ _ _ _ _ e
      have := hw _ _ q1; omega⟩ }
end

theorem applyE_ok {V : List Rs} {l : List Ch} (hV : vecM V = 0) (hc : ∀ c ∈ l, chgM c = 0) (hl : (foldM V l).length ≤ 4096) : applyE V l = 0 ∧ applyM V l = foldM V l := by
  have h1 : firstM l = 0 := firstM_of hc
  have h : applyE V l = 0 := by
    unfold applyE
    rw [if_neg (by omega), if_neg (by omega), if_neg (by omega)]
  exact ⟨h, (applyE_zero h).2.2.2⟩
theorem short_of {l : Ls} (h : checkM l = 0) : Short l ∧ l.length ≤ 1000000 := by
  obtain ⟨c1, c2⟩ := checkM_zero h
  exact ⟨fun x hx => by have := labB_lens (okFrom_mem c2 x hx); omega, by omega⟩
theorem foldM_snoc (v : List Rs) (l : List Ch) (c : Ch) : foldM v (l ++ [c]) = foldM (foldM v l) [c] := by
  unfold foldM; rw [List.foldl_append]
theorem foldM_len {all : List Ch} (h : ∀ c ∈ all, chgM c = 0) : (foldM [] all).length ≤ all.length := by
  have := (foldM_ok (a := []) (l := all) (fun r hr => by cases hr) Rise.nil h all.length).2.2
  rw [List.take_length] at this; simpa using this
theorem one_chs {K : AH} {b : Nat} {u : AV} {c : Ch} (hb : K.get b = some (.cells false (chC u c))) (hu : LabelsAt K u c.1) : ChsAt K (.slice b 0 1 (.ex 1) 4) [c] :=
  .inr ⟨b, 0, _, false, chC u c, rfl, hb, by simp, fun i r hi => by
    match i, hi with
    | 0, hi => simp at hi; subst hi; exact ⟨u, rfl, hu⟩
    | i + 1, hi => simp at hi⟩

theorem one_all {P : Ch → Prop} {x : Ch} (h : P x) : ∀ c ∈ [x], P c := fun c hc => by rw [List.mem_singleton.1 hc]; exact h

theorem right_short {r : Rs} (h : rightM r = true) : Short r.1 ∧ r.1.length ≤ 1000000 := by
  unfold rightM at h
  simp only [Bool.and_eq_true, decide_eq_true_eq] at h
  exact short_of h.1
/-- At the law's end. -/
structure Fin4 (K : AH) (ga ma gb mb : Nat) (f : Int) (ns : List Nm) (V W : List Rs) (csa csb : List GCell) (wt wc : AV) : Prop where
  a : GroupAt K ga ma f ns V csa
  b : GroupAt K gb mb f ns V csb
  t : VecAt K wt W
  c : VecAt K wc W
theorem Fin4.more {K K' : AH} {ga ma gb mb : Nat} {f : Int} {ns : List Nm} {V W : List Rs} {csa csb : List GCell} {wt wc : AV} (h : Fin4 K ga ma gb mb f ns V W csa csb wt wc) (k : ∀ b y, K.get b = some y → K'.get b = some y) (n : K.next ≤ K'.next) : Fin4 K' ga ma gb mb f ns V W csa csb wt wc :=
  ⟨h.a.keep (fun b _ y hy => k _ _ hy) (KS.of k n) (fun un ui _ hv => hv.keep k n), h.b.keep (fun b _ y hy => k _ _ hy) (KS.of k n) (fun un ui _ hv => hv.keep k n), h.t.keep k n, h.c.keep k n⟩

set_option maxHeartbeats 16000000 in
theorem law4 (N : Bd) (hd : N.d = 0) (H : AH) {f : Int} {v u : AV} {ns : List Nm} {L : List (List Ch)} (hv : NamesAt H v ns) (hu : LlsAt H u L) (hi : ∀ l ∈ L, ∀ c ∈ l, I64 c.2.1) (hlives : ∀ K, AC tC N 0 6 [] K fun r K' => r = .bool true ∧ K' = K) :
    AC tC N 0 4 [.int .i64 f, v, u] H fun r _ => r = .bool true := by
  refine AC.wf0 fun wfH => ?_
  refine AC.by (n := 196) (rs := [.tmp 6]) tOK fn4 rfl rfl rfl rfl ?_
  have e0 : (PT.ofList .leaf 0 [AV.int .i64 f, v, u]).get 0 = some (.int .i64 f) := rfl
  have e1 : (PT.ofList .leaf 0 [AV.int .i64 f, v, u]).get 1 = some v := rfl
  have e2 : (PT.ofList .leaf 0 [AV.int .i64 f, v, u]).get 2 = some u := rfl
  refine zs0 ?_
  refine AOs.callQ tOK (fs := []) (cs := []) rfl fn6 ok6 rfl (by simp only [List.map_nil, List.append_nil] <;> rfl) (hlives H) ?_
  rintro r H ⟨rfl, rfl⟩
  refine zs1 @e2 ?_
  refine AOs.cq tOK fn17 ok17 (light17 N H hu) ?_
  rintro r H ⟨⟨x, rfl, hx⟩, rfl⟩
  cases x
  · refine zs0 ?_
    exact fr1 rfl
  refine zs1 @e1 ?_
  refine AOs.cq tOK fn18 ok18 (lightTexts18 N H hv) ?_
  rintro r H ⟨⟨x, rfl, hy⟩, rfl⟩
  cases x
  · refine zs0 ?_
    exact fr1 rfl
  obtain ⟨hL, hl⟩ := hx rfl
  obtain ⟨hn, hs⟩ := hy rfl
  have hw1 := wf_alloc wfH (.cells false [])
  have sa1 := stay_alloc wfH (.cells false [])
  have na1 : (H.alloc (.cells false [])).next = H.next + 1 := rfl
  obtain ⟨v1, K1, ha1, hv1, n1, s1, wfK1⟩ := names_append (b := H.next) hw1 (hv.keep (KS.of sa1 (by omega))) (by omega)
  refine zs4 @bs40 @e0 @e1 @ha1 ?_
  refine AOs.cq tOK fn19 ok19 (AC.wf (new19b N K1 hv1 (by omega))) ?_
  rintro r K2 ⟨h19, wfK2⟩
  by_cases hnew : newOK f ns = true
  case neg =>
    rw [if_neg hnew] at h19
    obtain ⟨rfl, rfl⟩ := h19
    have hw2 := wf_alloc wfK1 (.cells false [])
    have sa2 := stay_alloc wfK1 (.cells false [])
    have na2 : (K2.alloc (.cells false [])).next = K2.next + 1 := rfl
    obtain ⟨v3, K3, ha3, hv3, n3, s3, wfK3⟩ := names_append (b := K2.next) hw2 ((hv.keep (KS.of (fun b y hy => s1 _ _ (sa1 _ _ hy)) (by omega))).keep (KS.of sa2 (by omega))) (by omega)
    refine zs4 @bs40 @e0 @e1 @ha3 ?_
    refine AOs.cq tOK fn19 ok19 (AC.wf (new19b N K3 hv3 (by omega))) ?_
    rintro r K4 ⟨h19, wfK4⟩
    rw [if_neg hnew] at h19
    obtain ⟨rfl, rfl⟩ := h19
    refine zp0 ?_
    exact fr1 rfl
  rw [if_pos hnew] at h19
  obtain ⟨ga, una, ma, rfl, hga, huna, hma, m1, m2, m3, n2, k2⟩ := h19
  have hw2 := wf_alloc wfK2 (.cells false [])
  have sa2 := stay_alloc wfK2 (.cells false [])
  have na2 : (K2.alloc (.cells false [])).next = K2.next + 1 := rfl
  have k02 : ∀ b y, H.get b = some y → K2.get b = some y := fun b y hy => k2 _ _ (s1 _ _ (sa1 _ _ hy))
  obtain ⟨v3, K3, ha3, hv3, n3, s3, wfK3⟩ := names_append (b := K2.next) hw2 ((hv.keep (KS.of k02 (by omega))).keep (KS.of sa2 (by omega))) (by omega)
  refine zs4 @bs40 @e0 @e1 @ha3 ?_
  refine AOs.cq tOK fn19 ok19 (AC.wf (new19b N K3 hv3 (by omega))) ?_
  rintro r K4 ⟨h19, wfK4⟩
  rw [if_pos hnew] at h19
  obtain ⟨gb, unb, mb, rfl, hgb, hunb, hmb, m4, m5, m6, n4, k4⟩ := h19
  have k24 : ∀ b y, K2.get b = some y → K4.get b = some y := fun b y hy => k4 _ _ (s3 _ _ (sa2 _ _ hy))
  have M0 : Mid H K4 K4.next ga ma gb mb f ns .nils .nils [] (foldM [] []) (foldM [] []) := by
    refine ⟨fun b y hy => k24 _ _ (k02 _ _ hy), Nat.le_refl _, by omega, .inl ⟨rfl, rfl⟩, ⟨[], GroupAt.empty (k24 _ _ hga) (huna.keep (KS.of k24 (by omega))) (k24 _ _ hma) m2 (by omega) (by omega), fun b hb => ?_⟩, GroupAt.empty hgb hunb hmb m5 m6 (by omega), by omega, ⟨[], .inl ⟨rfl, rfl, rfl⟩, True.intro, Tells.nil f ns, fun h => absurd rfl h⟩, fun h => absurd rfl h⟩
    simp [fpsC] at hb
    rcases hb with rfl | rfl <;> omega
  refine zs0 ?_
  refine AW.loop (fun mm T K => T.get 2 = some u ∧ T.get 7 = some (.ptr ga 0) ∧ T.get 9 = some (.ptr gb 0) ∧ ∃ (i : Nat) (wa wt : AV) (all : List Ch), i ≤ L.length ∧ mm = L.length - i ∧ T.get 13 = some (.int .i64 (i : Nat)) ∧ T.get 11 = some wa ∧ T.get 12 = some wt ∧ Mid H K K4.next ga ma gb mb f ns wa wt all (foldM [] all) (foldM [] all) ∧ (∀ c ∈ all, chgM c = 0 ∧ I64 c.2.1) ∧ all.length ≤ i * 40) ?_ (L.length - 0)
    ⟨gt2, gt2, gt2, 0, .nils, .nils, [], by omega, rfl, gt2, gt2, gt2, M0, (fun c hc => by cases hc), by simp⟩
  rintro mm T K ⟨g2, g7, g9, i, wa, wt, all, hiL, rfl, g13, g11, g12, hM, hall, hlen⟩
  refine AW.wf0 fun wfK => ?_
  have hul := hu.1
  by_cases hil : i < L.length
  case neg =>
    have hd1 := nlt_int hil
    obtain rfl : i = L.length := by omega
    have hall0 : ∀ c ∈ all, chgM c = 0 := fun c hc => (hall c hc).1
    have hVl := foldM_len hall0
    have hap := applyE_ok (V := []) rfl hall0 (by omega)
    refine zs7 @al41 @g2 @g9 @g11 @g13 @hul @hd1 ?_
    refine AOs.cq tOK fn20 ok20 (AC.wf (set20 N hd K hM.b hM.acc.chs (fun c hc => (short_of (chgM_zero (hall c hc).1).1).1) (by omega) hap.1 (fun c hc => (hall c hc).2) (by simp))) ?_
    rintro r K5 ⟨⟨w, out, csb, rfl, hB, hco, hond, hom, hol, hkp, hold, hnx, _⟩, wfK5⟩
    obtain ⟨V, hV⟩ : ∃ V, foldM [] all = V := ⟨_, rfl⟩
    rw [hV] at hB hom hM hVl
    obtain ⟨csa, hA, hft⟩ := hM.a
    have kd5 : KD K K5 := KD.keep hkp hM.b.work hnx
    have hA5 := hA.keep (K := K5) (fun b hb y hy => hkp b y (fun h => by
      have := hft b hb
      simp [fpsC] at h
      rcases h with h | h
      · exact this.2.1 h
      · exact this.2.2 h) hy) kd5.ks (fun un ui _ hv => hv.keepD kd5)
    obtain ⟨W, hW, cW, tW, _⟩ := hM.told
    have hW5 := hW.keepD kd5
    have riV := (vecM_rise hB.vec).1
    have okV := (vecM_rise hB.vec).2.1
    obtain ⟨tC', hoc⟩ := tells_step Rise.nil riV (Tells.nil f ns) hond hom
    have hap2 := applyE_ok (V := []) rfl hoc (by have := tC'.len; omega)
    have hWl := tW.len
    refine zs0 ?_
    refine AOs.cq tOK fn11 ok11 (AC.wf (apply11c N K5 (v := .nils) (a := []) (.inl ⟨rfl, rfl, rfl⟩) hco (fun c hc => (short_of (chgM_zero (hoc c hc)).1).1) (by omega))) ?_
    rintro r K6 ⟨⟨wc, rfl, hwc, cwc, _, n6, k6⟩, wfK6⟩
    rw [hap2.2, tC'.uniq tW] at hwc
    have de : decide (applyE [] out = 0) = true := decide_eq_true hap2.1
    have P6 : Fin4 K6 ga ma gb mb f ns V W csa csb wt wc := ⟨hA5.keep (fun b _ y hy => k6 _ _ hy) (KS.of k6 n6) (fun un ui _ hv => hv.keep k6 n6), hB.keep (fun b _ y hy => k6 _ _ hy) (KS.of k6 n6) (fun un ui _ hv => hv.keep k6 n6), hW5.keep k6 n6, hwc⟩
    have hsW : ∀ r ∈ W, r.1.length ≤ 1000000 := fun r hr => (right_short (tW.ok r hr)).2
    have hsV : ∀ r ∈ V, r.1.length ≤ 1000000 := fun r hr => (right_short (okV r hr)).2
    refine zs2 @g7 @de ?_
    obtain ⟨va1, va2, va3, _, _, _⟩ := P6.a.here
    refine AOs.cq tOK fn21 ok21 (AC.wf (vector21 N hd K6 va3 P6.a.cells P6.a.has (by omega))) ?_
    rintro r1 K7 ⟨⟨vaW, vav, _, vat, _, k7, n7⟩, wfK7⟩
    obtain rfl := vat.uniq tW
    have P7 := P6.more k7 n7
    refine zs1 @g9 ?_
    obtain ⟨vb1, vb2, vb3, _, _, _⟩ := P7.b.here
    refine AOs.cq tOK fn21 ok21 (AC.wf (vector21 N hd K7 vb3 P7.b.cells P7.b.has (by omega))) ?_
    rintro r2 K8 ⟨⟨vbW, vbv, _, vbt, _, k8, n8⟩, wfK8⟩
    obtain rfl := vbt.uniq tW
    have P8 := P7.more k8 n8
    refine zp5 @g2 @g7 @g9 @g11 @g12 ?_
    refine AOs.cq tOK fn16 ok16 (same16 N K8 (vav.keep k8 n8) vbv (by omega) hsW) ?_
    rintro r K8 ⟨rfl, rfl⟩
    refine zs1 @g7 ?_
    obtain ⟨ua1, ua2, ua3, _, ua4, _⟩ := P8.a.here
    refine AOs.cq tOK fn22 ok22 (AC.wf (in22 N K8 ua3 ua4 (by omega))) ?_
    rintro r3 K9 ⟨⟨hin1, k9, n9⟩, wfK9⟩
    have P9 := P8.more k9 n9
    refine zs1 @g9 ?_
    obtain ⟨ub1, ub2, ub3, _, ub4, _⟩ := P9.b.here
    refine AOs.cq tOK fn22 ok22 (AC.wf (in22 N K9 ub3 ub4 (by omega))) ?_
    rintro r4 K10 ⟨⟨hin2, k10, n10⟩, wfK10⟩
    have P10 := P9.more k10 n10
    refine zp5 @g2 @g7 @g9 @g11 @g12 ?_
    refine AOs.cq tOK fn16 ok16 (same16 N K10 (hin1.keep k10 n10) hin2 (by omega) hsV) ?_
    rintro r K10 ⟨rfl, rfl⟩
    refine zs2 @g7 @g12 ?_
    obtain ⟨vc1, vc2, vc3, _, _, _⟩ := P10.a.here
    refine AOs.cq tOK fn21 ok21 (AC.wf (vector21 N hd K10 vc3 P10.a.cells P10.a.has (by omega))) ?_
    rintro r5 K11 ⟨⟨vcW, vcv, _, vct, _, k11, n11⟩, wfK11⟩
    obtain rfl := vct.uniq tW
    have P11 := P10.more k11 n11
    refine zp5 @g2 @g7 @g9 @g11 @g12 ?_
    refine AOs.cq tOK fn16 ok16 (same16 N K11 P11.t vcv (by omega) hsW) ?_
    rintro r K11 ⟨rfl, rfl⟩
    refine zs1 @g12 ?_
    refine AOs.cq tOK fn16 ok16 (same16 N K11 P11.c P11.t (by omega) hsW) ?_
    rintro r K11 ⟨rfl, rfl⟩
    have vW : vecM vcW = 0 := tW.vec (by omega)
    have hshort : ∀ r, r ∈ vcW ∨ r ∈ ([] : List Rs) → Short r.1 ∧ r.1.length ≤ 1000000 := fun r hr => by
      rcases hr with hr | hr
      · exact right_short (tW.ok r hr)
      · cases hr
    refine zs1 @g12 ?_
    refine AOs.cq tOK fn14 ok14 (AC.wf (changes14 N K11 (u := .nils) (b := []) P11.t (.inl ⟨rfl, rfl, rfl⟩) cW True.intro hshort)) ?_
    rintro dv K12 ⟨⟨hdv, n12, k12⟩, wfK12⟩
    have P12 := P11.more k12 n12
    rw [diffM, if_neg (by rw [vW]; decide)] at hdv
    have hD : ∀ c ∈ changesM vcW [], chgM c = 0 := fun c hc => chgM_right ((mem_changesM vcW [] tW.rise Rise.nil c).1 hc) tW.ok (fun r hr => by cases hr)
    have hDl := (changesM_len vcW []).1
    have hap3 := applyE_ok vW hD (by rw [diff_apply tW.rise Rise.nil]; decide)
    refine zp5 @g2 @g7 @g9 @g11 @g12 ?_
    refine AOs.cq tOK fn11 ok11 (AC.wf (apply11c N K12 P12.t hdv (fun c hc => (short_of (chgM_zero (hD c hc)).1).1) (by simp at hDl; omega))) ?_
    rintro r K13 ⟨⟨wd, rfl, hwd, _, _, n13, k13⟩, wfK13⟩
    rw [hap3.2, diff_apply tW.rise Rise.nil] at hwd
    have hwdl := hwd.len
    have P13 := P12.more k13 n13
    have de3 : decide (applyE vcW (changesM vcW []) = 0) = true := decide_eq_true hap3.1
    refine zs0 ?_
    refine AW.drawN tOK (Qs := []) [0, 1, 2, 3, 4, 5, 6, 7, 8, 9, 10, 11, 12, 13, 14, 15, 18, 16, 17, 19, 20, 21, 22, 23] (by kernel_rfl) pk1 ?_
    with_reducible repeat' first | ((first | refine DN.fl1E wu wu ?_ | refine DN.flTE wu (by simp only [PT.get_set, Nat.reduceEqDiff, reduceIte]; rfl) (by first | rfl | decide | assumption) wu wu ?_ | refine DN.rdTE wu (by simp only [PT.get_set, Nat.reduceEqDiff, reduceIte]; rfl) (by first | rfl | decide | assumption) (by kernel_rfl) wu ?_); refine zr4 @al22 @g12 @de3 @hwdl ?_; refine Same.mk ?_) | fail
    refine DN.callG tOK wu gt1 rfl (fs := []) (cs := []) rfl fn14 ok14 rfl ar1 (AC.wf (changes14 N K13 P13.t P13.t cW cW (fun r hr => right_short (tW.ok r (hr.elim id id))))) wu ?_
    rintro dw K14 ⟨⟨hdw, n14, k14⟩, wfK14⟩
    have P14 := P13.more k14 n14
    rw [diffM, if_neg (by rw [vW]; decide), diff_self tW.rise] at hdw
    have hdwl := hdw.len
    with_reducible repeat' first | ((first | refine DN.fl1E wu wu ?_ | refine DN.flTE wu (by simp only [PT.get_set, Nat.reduceEqDiff, reduceIte]; rfl) (by first | rfl | decide | assumption) wu wu ?_ | refine DN.rdTE wu (by simp only [PT.get_set, Nat.reduceEqDiff, reduceIte]; rfl) (by first | rfl | decide | assumption) (by kernel_rfl) wu ?_); refine zr4 @al23 @g7 @g9 @hdwl ?_; refine Same.mk ?_) | fail
    obtain ⟨xa1, xa2, xa3, xa5, xa4, _⟩ := P14.a.here
    refine DN.callGP tOK wu gt1 rfl (fs := []) (cs := []) rfl fn23 ok23 rfl ar1 (AC.wf (bytes23 N K14 xa3 xa5 xa4 hn hs (by omega))) ?_
    rintro y1 K15 ⟨⟨hb1, k15, n15⟩, wfK15⟩
    have P15 := P14.more k15 n15
    have cv1 := cvBS K15 hb1
    constructor
    · exact zk (And.intro @g2 (And.intro @g7 (And.intro @g9 (And.intro @g12 @hdwl))))
    with_reducible repeat' first | (refine DN.rdTE wu (by simp only [PT.get_set, Nat.reduceEqDiff, reduceIte]; rfl) (by first | rfl | decide | assumption) (by kernel_rfl) wu ?_; refine zr1 @cv1 ?_; refine Same.mk ?_) | fail
    obtain ⟨xb1, xb2, xb3, xb5, xb4, _⟩ := P15.b.here
    refine DN.callGP tOK wu gt1 rfl (fs := []) (cs := []) rfl fn23 ok23 rfl ar1 (AC.wf (bytes23 N K15 xb3 xb5 xb4 hn hs (by omega))) ?_
    rintro y2 K16 ⟨⟨hb2, k16, n16⟩, wfK16⟩
    have cv1' := cvBS K16 (hb1.keep fun b o c _ y hy => k16 _ _ hy)
    have cv2 := cvBS K16 hb2
    constructor
    · exact zk (And.intro @g2 (And.intro @g7 (And.intro @g9 (And.intro @g12 (And.intro @hdwl @cv1')))))
    with_reducible repeat' first | refine zb ?_ | refine DN.nil tOK ?_ | ((first | refine DN.fl1E wu wu ?_ | refine DN.flTE wu (by simp only [PT.get_set, Nat.reduceEqDiff, reduceIte]; rfl) (by first | rfl | decide | assumption) wu wu ?_ | refine DN.rdTE wu (by simp only [PT.get_set, Nat.reduceEqDiff, reduceIte]; rfl) (by first | rfl | decide | assumption) (by kernel_rfl) wu ?_); refine zq1 @cv2 ?_; refine Same.mk ?_) | fail
    exact fr1 rfl
  have hd1 := lt_int hil
  obtain ⟨l, hli⟩ : ∃ l, L[i]? = some l := ⟨_, List.getElem?_eq_getElem hil⟩
  obtain ⟨ub, uo, uc, uro, uvs, sv, rfl, hub, huv, hsv⟩ := hu.2 i l hli
  have hlm := List.mem_of_getElem? hli
  obtain ⟨hl40, hll⟩ := hl l hlm
  have hsl := hsv.len
  refine zs4 @al41 @g2 @g13 @hd1 ?_
  refine AW.loop (fun mm T K => T.get 2 = some (.slice ub uo L.length uc 1) ∧ T.get 7 = some (.ptr ga 0) ∧ T.get 9 = some (.ptr gb 0) ∧ T.get 13 = some (.int .i64 (i : Nat)) ∧ ∃ (j : Nat) (wa wt : AV) (all : List Ch), j ≤ l.length ∧ mm = l.length - j ∧ T.get 14 = some (.int .i64 (j : Nat)) ∧ T.get 11 = some wa ∧ T.get 12 = some wt ∧ Mid H K K4.next ga ma gb mb f ns wa wt all (foldM [] all) (foldM [] all) ∧ (∀ c ∈ all, chgM c = 0 ∧ I64 c.2.1) ∧ all.length ≤ i * 40 + j) ?_ (l.length - 0)
    ⟨gt2, gt2, gt2, gt2, 0, wa, wt, all, by omega, rfl, gt2, gt2, gt2, hM, hall, by omega⟩
  clear g2 g7 g9 g13 g11 g12 hM hall hlen wfK
  clear T K wa wt all
  rintro mm T K ⟨g2, g7, g9, g13, j, wa, wt, all, hjl, rfl, g14, g11, g12, hM, hall, hlen⟩
  refine AW.wf0 fun wfK => ?_
  have hubK := hM.keep _ _ hub
  by_cases hj : j < l.length
  case neg =>
    have hd2 := nlt_int hj
    obtain rfl : j = l.length := by omega
    refine zs8 @al23 @ld23 @ix41 @g2 @g13 @g14 @hil (And.intro @hubK (And.intro @huv (And.intro @hsl @hd2))) ?_
    refine ⟨L.length - (i + 1), by omega, gt2, gt2, gt2, i + 1, wa, wt, all, hil, rfl, ?_, gt2, gt2, hM, hall, by omega⟩
    simp only [PT.get_set, Nat.reduceEqDiff, reduceIte, wrap64_succ (show i < 9223372036854775807 by omega)]
  have hd2 := lt_int hj
  obtain ⟨x, hx⟩ : ∃ x, l[j]? = some x := ⟨_, List.getElem?_eq_getElem hj⟩
  have hxl := hll x (List.mem_of_getElem? hx)
  have hnK : H.next ≤ K.next := Nat.le_trans hM.hn hM.next
  obtain ⟨ab, ao, ac, aro, avs, xu, rfl, agH, hxuH, ax, _⟩ := hsv.at hx
  have ag := hM.keep _ _ agH
  have hxu := hxuH.keep (KS.of hM.keep hnK)
  have t4 : List.take 4 (List.drop 0 (chC xu x)) = chC xu x := rfl
  have t4l : (chC xu x).length = 4 := rfl
  refine zp8 @g2 @g13 @g14 @hil @hubK @huv @hsl (And.intro @hd2 (And.intro @hj (And.intro @ag (And.intro @ax @t4l)))) ?_
  refine AOs.cq tOK fn9 ok9 (change9 N K hxu hxl.short) ?_
  rintro r K ⟨rfl, rfl⟩
  by_cases hcx : chgM x = 0
  case neg =>
    have dx : decide (chgM x = 0) = false := decide_eq_false hcx
    refine zs1 @dx ?_
    exact fr1 rfl
  have dx : decide (chgM x = 0) = true := decide_eq_true hcx
  have bsf := fun dst ty pos after guard q (ev : Operand → AV) hx => bs23_1 F0 K ev dst ty pos after guard q xu (.int .i64 x.2.1) (.bool x.2.2.1) (.bool x.2.2.2) hx
  generalize hK5 : K.alloc (.cells false [xu, .int .i64 x.2.1, .bool x.2.2.1, .bool x.2.2.2]) = K5
  obtain ⟨sK5, wfK5, nK5, gK5⟩ := laid wfK hK5
  rw [hK5] at bsf
  obtain ⟨wa', K6, happ, hM6, n6⟩ := (hM.more sK5 (by omega)).append wfH wfK5 (hxu.keep (KS.of sK5 (by omega))) gK5 (by omega)
  have chx : AV.agg (chC xu x) = .agg [xu, .int .i64 x.2.1, .bool x.2.2.1, .bool x.2.2.2] := rfl
  with_reducible repeat' first | refine za ?_ | refine AW.condF (by simp only [aeval, PT.get_set, Nat.reduceEqDiff, reduceIte, chx]; rfl) (by first | rfl | decide | assumption) ?_ | (refine AOs.o1 tOK ?_; refine zq8 @g2 @g7 @g11 @g13 @g14 @dx @hil (And.intro @hubK (And.intro @huv (And.intro @hj (And.intro @ag (And.intro @ax (And.intro @t4l (And.intro @chx (And.intro @bsf @happ)))))))) ?_) | fail
  refine AOs.wf0 fun wfK6 => ?_
  have hub6 := hM6.keep _ _ hub
  have ag6 := hM6.keep _ _ agH
  have bsf6 := fun dst ty pos after guard q (ev : Operand → AV) hx => bs23_1 F0 K6 ev dst ty pos after guard q xu (.int .i64 x.2.1) (.bool x.2.2.1) (.bool x.2.2.2) hx
  generalize hK7 : K6.alloc (.cells false [xu, .int .i64 x.2.1, .bool x.2.2.1, .bool x.2.2.2]) = K7
  obtain ⟨sK7, wfK7, nK7, gK7⟩ := laid wfK6 hK7
  rw [hK7] at bsf6
  have hM7 := hM6.more sK7 (by omega)
  have hn7 : H.next ≤ K7.next := Nat.le_trans hM7.hn hM7.next
  have hxu7 := hxuH.keep (KS.of hM7.keep hn7)
  refine zs8 @ix23 @ld23 @ld33 @g14 @hub6 @huv @hj (And.intro @ag6 (And.intro @ax (And.intro @t4l (And.intro @chx @bsf6)))) ?_
  obtain ⟨cs, hG, hft⟩ := hM7.a
  have hvec := hG.vec
  have hVl := foldM_len fun c hc => (hall c hc).1
  have hall' : ∀ c ∈ all ++ [x], chgM c = 0 ∧ I64 c.2.1 := fun c hc => by
    rcases List.mem_append.1 hc with hc | hc
    · exact hall c hc
    · obtain rfl : c = x := by simpa using hc
      exact ⟨hcx, hi l hlm c (List.mem_of_getElem? hx)⟩
  have hVl' := foldM_len fun c hc => (hall' c hc).1
  rw [List.length_append, List.length_singleton] at hVl'
  have hsn := foldM_snoc [] all x
  have hap := applyE_ok hvec (l := [x]) (one_all (P := fun c => chgM c = 0) hcx) (by rw [← hsn]; omega)
  refine AOs.cq tOK fn20 ok20 (AC.wf (set20 N hd K7 hG (one_chs gK7 hxu7) (one_all (P := fun c => Short c.1) hxl.short) (by simp) hap.1 (one_all (P := fun c => I64 c.2.1) (hall' x (by simp)).2) (by omega))) ?_
  rintro r K8 ⟨⟨w, out, cs', rfl, hG', hco, hond, hom, hol, hkp, hold, hnx, hun⟩, wfK8⟩
  rw [← hsn] at hG' hom
  have hM8 := hM7.set wfH wfK7 hG hft hG' hkp hold hnx hun
  obtain ⟨W, hW, cW, tW, sW⟩ := hM8.told
  have riV := (vecM_rise hvec).1
  have riV' := (vecM_rise hG'.vec).1
  obtain ⟨tW', hoc⟩ := tells_step riV riV' tW hond hom
  have hap2 := applyE_ok (tW.vec (by omega)) hoc (by have := tW'.len; omega)
  refine zs1 @g12 ?_
  refine AOs.cq tOK fn11 ok11 (AC.wf (apply11c N K8 hW hco (fun c hc => (short_of (chgM_zero (hoc c hc)).1).1) (by omega))) ?_
  rintro r K9 ⟨⟨w2, rfl, hw2, cw2, frw, n9, k9⟩, wfK9⟩
  rw [hap2.2] at hw2
  have hM9 := hM8.apply wfK8 k9 n9 hw2 cw2 frw tW'
  have de : decide (applyE W out = 0) = true := decide_eq_true hap2.1
  refine zs2 @g14 @de ?_
  refine ⟨l.length - (j + 1), by omega, gt2, gt2, gt2, gt2, j + 1, wa', w2, all ++ [x], hj, rfl, ?_, gt2, gt2, hM9, hall', by simp; omega⟩
  simp only [PT.get_set, Nat.reduceEqDiff, reduceIte, wrap64_succ (show j < 9223372036854775807 by omega)]
theorem has_int3 {X : Type} {H : AH} {k : Nat} {d : DataW X} {a : AV} (h : Has Tryz.prog H (k + 1) 3 d [a]) : ∃ f, a = .int .i64 f := by
  unfold Has at h
  rw [u3] at h
  obtain ⟨f, _, _, e⟩ := h
  exact ⟨f, by simpa using e⟩
theorem hasAll3 {X : Type} {P : Program} {H : AH} {k : Nat} {t1 t2 t3 : TypeId} {ds : List (DataW X)} {xs : List AV} (h : HasAll P H k [t1, t2, t3] ds xs) : ∃ (d1 d2 d3 : DataW X) (a b c : AV), xs = [a, b, c] ∧ Has P H k t1 d1 [a] ∧ Has P H k t2 d2 [b] ∧ Has P H k t3 d3 [c] := by
  match ds, h with
  | [d1, d2, d3], h =>
    obtain ⟨a, xs1, rfl, h1, b, xs2, rfl, h2, c, xs3, rfl, h3, rfl⟩ := h
    exact ⟨d1, d2, d3, a, b, c, rfl, h1, h2, h3⟩
/-- The law, of whatever function, names and lists. -/
theorem law4_all {X : Type} (hlives : ∀ (N : Bd), N.d = 0 → ∀ (K : AH), AC tC N 0 6 [] K fun r K' => r = .bool true ∧ K' = K) {ds : List (DataW X)} (N : Bd) (hd : N.d = 0) (H : AH) (xs : List AV) (h : HasAll Tryz.prog H 10 [3, 40, 41] ds xs) :
    AC tC N 0 4 xs H fun r _ => r = .bool true := by
  obtain ⟨d1, d2, d3, a, b, c, rfl, h1, h2, h3⟩ := hasAll3 h
  obtain ⟨ns, hn⟩ := has_names (k := 8) h2
  obtain ⟨L, hL, hi⟩ := has_lists (k := 4) h3
  obtain ⟨f, rfl⟩ := has_int3 (k := 9) h1
  exact law4 N hd H hn hL hi (hlives N hd)
theorem law4_any {X : Type} {ds : List (DataW X)} (N : Bd) (hd : N.d = 0) (H : AH) (xs : List AV) (h : HasAll Tryz.prog H 10 [3, 40, 41] ds xs) : AC tC N 0 4 xs H fun r _ => r = .bool true := law4_all lives N hd H xs h
end Go.Proofs.YtapokkpdgfpokaaGreat
