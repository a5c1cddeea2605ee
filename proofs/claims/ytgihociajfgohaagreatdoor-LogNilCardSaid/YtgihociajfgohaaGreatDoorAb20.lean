/- A region that draws its order does what the evaluator says, in every order. -/
import Derived.Test.YtgihociajfgohaaGreatDoorAb19
namespace Go.AB
set_option linter.unusedSimpArgs false

theorem aeval_ok {N G : Nat} {ρ : Names} {H : AH} {w : World} (hR : R N G ρ H w) {T : PT AV} {a : Act} (x : Operand) (h : ∀ t, x = .tmp t → ∀ v, T.get t = some v → ∃ y, a.tmps[t]? = some y ∧ VR ρ v y) : VR ρ (aeval G T x) (a.eval x) := by
  cases x with
  | tmp t =>
    simp only [aeval, Act.eval]
    cases ht : T.get t with
    | none => simp [VR]
    | some v =>
      obtain ⟨y, hy, hr⟩ := h t rfl v ht
      simp only [Array.getD_eq_getD_getElem?, hy, Option.getD_some]
      exact hr
  | const v => exact VR.ofVal ρ v
  | global g =>
    simp only [aeval, Act.eval]
    cases hg : Nat.blt g G
    · simp [VR]
    · obtain ⟨room, hs⟩ := hR.glob g (Nat.le_of_ble_eq_true hg)
      simp only [cond_true, VR]
      exact ⟨_, hs, rfl⟩
  | func f => simp only [aeval, Act.eval, VR]; exact ⟨[], [], rfl, VRs.nil, VRs.nil⟩

theorem awanted_ok' {ρ : Names} {T : PT AV} {a : Act} {ops : Array Oper} {o : Oper} {b : Bool} (hb : awanted ops T o = some b)
    (h : ∀ j want d, o.guard = some (j, want) → (ops[j]?).bind (·.dst) = some d → ∀ v, T.get d = some v → ∃ x, a.tmps[d]? = some x ∧ VR ρ v x) : Region.wanted o (yielded ops a.tmps) = b := by
  unfold awanted at hb
  unfold Region.wanted
  split at hb
  · rename_i hg; rw [hg]; simpa using hb
  · rename_i j want hg
    rw [hg]
    simp only
    unfold yielded
    split at hb
    · rename_i hd
      rw [hd]
      simp at hb; subst hb; rfl
    · rename_i d hd
      rw [hd]
      simp only [Option.bind_some]
      split at hb
      · rename_i c hc
        obtain ⟨x, hx, hr⟩ := h j want d hg hd _ hc
        simp only [VR] at hr; subst hr
        rw [hx]
        simp only [Option.some.injEq] at hb
        subst hb
        cases c <;> cases want <;> rfl
      · rename_i hc
        obtain ⟨x, hx, hr⟩ := h j want d hg hd _ hc
        simp only [VR, VRs] at hr
        obtain ⟨vs, rfl, rfl⟩ := hr
        rw [hx]
        simp at hb; subst hb; rfl
      · cases hb

theorem addNews_iff {n0 : Nat} {sel : Nat → Bool} {news : List (Nat × AO)} {H : AH} (ho : Once news) (hold : ∀ a x o, (a, x) ∈ news → sel a = true → H.get (n0 + a) ≠ some o) (b : Nat) (o : AO) :
    (addNews n0 sel news H).get b = some o ↔ H.get b = some o ∨ ∃ a, (a, o) ∈ news ∧ sel a = true ∧ b = n0 + a := by
  rw [addNews_get]
  cases hp : pick n0 sel b news with
  | some x =>
    obtain ⟨a, h1, h2, h3⟩ := pick_some hp
    simp only [Option.some.injEq]
    constructor
    · rintro rfl; exact .inr ⟨a, h1, h2, h3⟩
    · rintro (h | ⟨a', g1, g2, g3⟩)
      · subst h3; exact absurd h (hold a x o h1 h2)
      · obtain rfl : a = a' := by omega
        exact ho a x o h1 g1
  | none =>
    simp only
    constructor
    · exact .inl
    · rintro (h | ⟨a, g1, g2, g3⟩)
      · exact h
      · exact absurd g3 (pick_none hp a o g1 g2)

def curH (n0 : Nat) (news : List (Nat × AO)) (S : Nat → Bool) (s : Stage) : AH := addNews n0 (fun j => S j && !s.cm.testBit j) news s.H

section
variable {C : Ctx} {F : Fns} {N G n n0 : Nat} {ops : Array Oper} {T0 T' : PT AV} {s0 s' : Stage} {rs : List Row} {news : List (Nat × AO)}

/-- What holds when just the operations in S are done. -/
structure Inv (N G n n0 : Nat) (T' : PT AV) (s' : Stage) (rs : List Row) (news : List (Nat × AO)) (ρ0 : Names) (H0 : AH) (w0 : World) (S : Nat → Bool) (ρ : Names) (a : Act) (w : World) (p : Nat) : Prop where
  ple : p ≤ rs.length
  chain : ∀ (k : Nat) (r : Row), rs[k]? = some r → isChain r.kd = true → (S k = true ↔ k < p)
  closed : ∀ (k : Nat) (r : Row), rs[k]? = some r → S k = true → ∀ j, r.anc.testBit j = true → S j = true
  names : ∀ j, j < rs.length → S j = false → ρ (n0 + j) = none
  rd : R N G ρ (curH n0 news S (Sof rs s' p)) w
  fr : Fr ρ0 H0 w0 ρ (curH n0 news S (Sof rs s' p)) w
  old : ∀ j, j < rs.length → ∀ o, (Sof rs s' p).H.get (n0 + j) = some o → (Sof rs s' p).cm.testBit j = true
  hi : n0 + rs.length ≤ (Sof rs s' p).H.next
  defers : a.defers = []
  size : a.tmps.size = n
  vals : ∀ k, k ≤ rs.length → ∀ d, (∀ (j : Nat) (r : Row), rs[j]? = some r → r.o.dst = some d → (S j = true ↔ j < k)) → ∀ v, (Tof rs T' k).get d = some v → ∃ x, a.tmps[d]? = some x ∧ VR ρ v x

/-- All that is known of a region, beside its rows. -/
structure Known (C : Ctx) (F : Fns) (G n n0 : Nat) (ops : Array Oper) (T0 T' : PT AV) (s0 s' : Stage) (rs : List Row) (news : List (Nat × AO)) : Prop where
  f : Facts C F G n n0 ops T0 T' s0 s' rs news
  D : DrawOK ops
  cm0 : s0.cm = 0
  done0 : s0.done = 0
  tmp0 : ∀ d v, T0.get d = some v → d < n
  plain : ∀ (a : Nat) (x : AO), (a, x) ∈ news → plain x = true
  mit : ∀ p, p ≤ rs.length → mitOk n0 rs.length news (Sof rs s' p) = true
  reads : ∀ (i : Nat) (r : Row), rs[i]? = some r → isRead r.kd = true → ∀ p, p ≤ rs.length → readAt C G n0 news s'.done r (Sof rs s' p) = true
  last : Sof rs s' rs.length = s'

variable {ρ0 : Names} {H0 : AH} {w0 : World} {S S' : Nat → Bool} {ρ ρ' : Names} {a : Act} {w w' : World} {p i : Nat} {r : Row}

theorem clash_of {d : Nat} {x y : Option Nat} {l m : List Nat} (h : x = some d) (hm : d ∈ m) : clash (x, l) (y, m) = true := by
  subst h
  simp only [clash, Bool.or_eq_true]
  exact .inl (memB_iff.2 hm)

theorem clash_of' {d : Nat} {x y : Option Nat} {l m : List Nat} (h : y = some d) (hm : d ∈ l) : clash (x, l) (y, m) = true := by
  subst h
  simp only [clash, Bool.or_eq_true]
  exact .inr (memB_iff.2 hm)

theorem dst_mem {ops : Array Oper} {o : Oper} {d : Nat} (h : o.dst = some d) : d ∈ tmpsOf ops o := by
  unfold tmpsOf
  rw [h]; simp

/-- What an operation that may come now finds in its temporaries. -/
theorem Inv.sees (h : Inv N G n n0 T' s' rs news ρ0 H0 w0 S ρ a w p) (K : Known C F G n n0 ops T0 T' s0 s' rs news) (hr : rs[i]? = some r) (hi : S i = false) (hanc : ∀ j, r.anc.testBit j = true → S j = true)
    {d : Nat} (hd : d ∈ tmpsOf ops r.o) {v : AV} (hv : r.T.get d = some v) : ∃ x, a.tmps[d]? = some x ∧ VR ρ v x := by
  obtain ⟨ho, _, ha, hT, _⟩ := K.f.row i r hr
  have hlt : i < rs.length := (List.getElem?_eq_some_iff.1 hr).1
  refine h.vals i (by omega) d (fun j rj hj hdj => ?_) v (hT ▸ hv)
  obtain ⟨hoj, _, haj, _⟩ := K.f.row j rj hj
  constructor
  · intro hs
    rcases Nat.lt_trichotomy j i with h1 | h1 | h1
    · exact h1
    · subst h1; rw [hi] at hs; cases hs
    · have := K.D.pairs i j _ _ h1 ho hoj (clash_of' hdj hd)
      rw [← haj] at this
      have := h.closed j rj hj hs i this
      rw [hi] at this; cases this
  · intro hji
    have := K.D.pairs j i _ _ hji hoj ho (clash_of hdj hd)
    rw [← ha] at this
    exact hanc j this

/-- The next state's bookkeeping. -/
theorem Inv.next (h : Inv N G n n0 T' s' rs news ρ0 H0 w0 S ρ a w p) (K : Known C F G n n0 ops T0 T' s0 s' rs news) (hr : rs[i]? = some r) (hi : S i = false) (hanc : ∀ j, r.anc.testBit j = true → S j = true)
    (hSi : S' i = true) (hS : ∀ j, j ≠ i → S' j = S j) {x : Value} (hx : VR ρ' r.v x) (hext : Ext ρ ρ') {p' : Nat} (hp' : p' ≤ rs.length)
    (hch : ∀ (k : Nat) (r : Row), rs[k]? = some r → isChain r.kd = true → (S' k = true ↔ k < p'))
    (hnames : ∀ j, j < rs.length → S' j = false → ρ' (n0 + j) = none)
    (hR : R N G ρ' (curH n0 news S' (Sof rs s' p')) w') (hF : Fr ρ0 H0 w0 ρ' (curH n0 news S' (Sof rs s' p')) w')
    (hold : ∀ j, j < rs.length → ∀ o, (Sof rs s' p').H.get (n0 + j) = some o → (Sof rs s' p').cm.testBit j = true) (hhi : n0 + rs.length ≤ (Sof rs s' p').H.next) :
    Inv N G n n0 T' s' rs news ρ0 H0 w0 S' ρ' (a.put r.o.dst x) w' p' := by
  obtain ⟨ho, _, ha, hT, _, _, hTn, _⟩ := K.f.row i r hr
  have hlt : i < rs.length := (List.getElem?_eq_some_iff.1 hr).1
  have mono : ∀ j, S j = true → S' j = true := fun j hj => by
    by_cases e : j = i
    · subst e; exact hSi
    · rw [hS j e]; exact hj
  refine ⟨hp', hch, ?_, hnames, hR, hF, hold, hhi, ?_, ?_, ?_⟩
  · intro k rk hk hs j hj
    by_cases e : k = i
    · subst e
      rw [hr] at hk; cases hk
      exact mono j (hanc j hj)
    · rw [hS k e] at hs
      exact mono j (h.closed k rk hk hs j hj)
  · cases hd : r.o.dst <;> exact h.defers
  · cases hd : r.o.dst
    · exact h.size
    · simp [Act.put, h.size]
  · intro k hk d hw v hv
    by_cases hd : r.o.dst = some d
    · have hik : i < k := (hw i r hr hd).1 hSi
      have hsame : (Tof rs T' k).get d = (Tof rs T' (i + 1)).get d := by
        have := K.f.tmp_same (d := d) (p := i + 1) (k - (i + 1)) (by omega) fun j rj h1 h2 h3 h4 => by
          have hjs := (hw j rj h3 h4).2 (by omega)
          rw [hS j (by omega)] at hjs
          obtain ⟨hoj, _, haj, _⟩ := K.f.row j rj h3
          have := K.D.pairs i j _ _ (by omega) ho hoj (clash_of hd (dst_mem h4))
          rw [← haj] at this
          have := h.closed j rj h3 hjs i this
          rw [hi] at this; cases this
        rwa [show i + 1 + (k - (i + 1)) = k by omega] at this
      have hdn : d < n := K.f.tmp_lt K.tmp0 k hk d v hv
      rw [hsame, hTn, hd] at hv
      have hb : Nat.blt d n = true := Nat.ble_eq_true_of_le hdn
      simp only [aput, hb, cond_true, PT.get_set, if_true, Option.some.injEq] at hv
      subst hv
      refine ⟨x, ?_, hx⟩
      rw [hd]
      simp [Act.put, h.size, hdn]
    · have hkeep : (a.put r.o.dst x).tmps[d]? = a.tmps[d]? := by
        cases he : r.o.dst with
        | none => rfl
        | some e =>
          simp only [Act.put]
          rw [Array.getElem?_setIfInBounds_ne]
          intro e'; subst e'; exact hd he
      rw [hkeep]
      obtain ⟨y, hy, hr'⟩ := h.vals k hk d (fun j rj hj hdj => by
        have hne : j ≠ i := by
          rintro rfl
          rw [hr] at hj; cases hj
          exact hd hdj
        rw [← hS j hne]
        exact hw j rj hj hdj) v hv
      exact ⟨y, hy, hr'.ext hext⟩

theorem Inv.cm_S (h : Inv N G n n0 T' s' rs news ρ0 H0 w0 S ρ a w p) (K : Known C F G n n0 ops T0 T' s0 s' rs news) {j : Nat} (hj : (Sof rs s' p).cm.testBit j = true) : S j = true := by
  obtain ⟨k, r, h1, h2, h3, h4⟩ := (K.f.stage_bits K.cm0 K.done0 p h.ple).2 j hj
  exact h.closed k r h2 ((h.chain k r h2 h3).2 h1) j h4

/-- The heap that lies there, by its names. -/
theorem Inv.get_iff (h : Inv N G n n0 T' s' rs news ρ0 H0 w0 S ρ a w p) (K : Known C F G n n0 ops T0 T' s0 s' rs news) (sel : Nat → Bool) (hsel : ∀ j, sel j = true → (Sof rs s' p).cm.testBit j = false) (b : Nat) (o : AO) :
    (addNews n0 sel news (Sof rs s' p).H).get b = some o ↔ (Sof rs s' p).H.get b = some o ∨ ∃ j, (j, o) ∈ news ∧ sel j = true ∧ b = n0 + j := by
  refine addNews_iff K.f.once (fun j x o' hm hs e => ?_) b o
  obtain ⟨r, hr, _⟩ := K.f.isNew j x hm
  have := h.old j (List.getElem?_eq_some_iff.1 hr).1 o' e
  rw [hsel j hs] at this; cases this

theorem plain_spec {x : AO} (h : plain x = true) : x.rw = true ∧ ∀ m l v c, x ≠ .miter m l v c := by
  cases x with
  | cells ro vs => cases ro <;> simp [plain, AO.rw] at *
  | map ps v => simp [AO.rw]
  | siter s p => simp [plain] at h
  | miter m l v c => simp [plain] at h

/-- No iterator goes over a new block beside. -/
theorem mit_spec {st : Stage} {len : Nat} (h : mitOk n0 len news st = true) {b m : Nat} {l : List (List UInt8)} {v : Nat} {c : Option (List UInt8)} (hb : st.H.get b = some (.miter m l v c)) {j : Nat} {ps : List (List UInt8 × AV)} {v' : Nat} (hj : (j, AO.map ps v') ∈ news) (hlt : j < len) (hcm : st.cm.testBit j = false) : m ≠ n0 + j := by
  rintro rfl
  simp only [mitOk, Bool.or_eq_true] at h
  rcases h with h | h
  · have := List.all_eq_true.1 h _ hj
    simp [notMap] at this
  · have := PT.every_get h b _ hb
    simp only [Bool.or_eq_true] at this
    rcases this with (h | h) | h
    · have : n0 + j < n0 := Nat.le_of_ble_eq_true h
      omega
    · have := Nat.le_of_ble_eq_true h
      omega
    · rw [show n0 + j - n0 = j by omega, hcm] at h; cases h

/-- What an operation waits for lies there. -/
theorem Inv.view (h : Inv N G n n0 T' s' rs news ρ0 H0 w0 S ρ a w p) (K : Known C F G n n0 ops T0 T' s0 s' rs news) (hanc : ∀ j, r.anc.testBit j = true → S j = true) (b : Nat) (o : AO) (hb : (viewOf n0 news r.anc (Sof rs s' p)).get b = some o) : (curH n0 news S (Sof rs s' p)).get b = some o := by
  unfold viewOf at hb
  unfold curH
  rw [h.get_iff K _ (fun j hj => by simp at hj; exact hj.2)] at hb ⊢
  rcases hb with hb | ⟨j, h1, h2, h3⟩
  · exact .inl hb
  · refine .inr ⟨j, h1, ?_, h3⟩
    simp only [Bool.and_eq_true] at h2 ⊢
    exact ⟨hanc j h2.1, h2.2⟩

theorem viewOf_next {anc : Nat} {s : Stage} : (viewOf n0 news anc s).next = s.H.next := addNews_next _ _
theorem curH_next {s : Stage} : (curH n0 news S s).next = s.H.next := addNews_next _ _

/-- A step that reads, and does no more. -/
theorem Inv.readBack (h : Inv N G n n0 T' s' rs news ρ0 H0 w0 S ρ a w p) (K : Known C F G n n0 ops T0 T' s0 s' rs news) (hanc : ∀ j, r.anc.testBit j = true → S j = true)
    (hR : R N G ρ (viewOf n0 news r.anc (Sof rs s' p)) w') (hF : Fr ρ (viewOf n0 news r.anc (Sof rs s' p)) w ρ (viewOf n0 news r.anc (Sof rs s' p)) w') :
    R N G ρ (curH n0 news S (Sof rs s' p)) w' ∧ Fr ρ (curH n0 news S (Sof rs s' p)) w ρ (curH n0 news S (Sof rs s' p)) w' := by
  have hview := fun b o => h.view K hanc b o
  have vget := fun b o => h.get_iff K (fun a => r.anc.testBit a && !(Sof rs s' p).cm.testBit a) (fun j hj => by simp at hj; exact hj.2) b o
  have cget := fun b o => h.get_iff K (fun j => S j && !(Sof rs s' p).cm.testBit j) (fun j hj => by simp at hj; exact hj.2) b o
  refine h.rd.union hview (by rw [viewOf_next, curH_next]) hR hF (by rw [viewOf_next, curH_next]) (fun b o hb => ?_) (fun b m l v c hb ps hm => ?_)
  · cases hv : (viewOf n0 news r.anc (Sof rs s' p)).get b with
    | some o' =>
      have := hview b o' hv
      rw [hb] at this; cases this
      exact .inl rfl
    | none =>
      right
      refine ⟨hb, rfl, ?_⟩
      rcases (cget b o).1 hb with h1 | ⟨j, h1, _⟩
      · have := (vget b o).2 (.inl h1)
        unfold viewOf at hv
        rw [hv] at this; cases this
      · exact plain_spec (K.plain j o h1)
  · rcases (cget m _).1 hm with h1 | ⟨j, h1, h2, h3⟩
    · exact (vget m _).2 (.inl h1)
    · exfalso
      rcases (vget b _).1 hb with g1 | ⟨j', g1, _⟩
      · simp only [Bool.and_eq_true, Bool.not_eq_true'] at h2
        obtain ⟨r', hr', _⟩ := K.f.isNew j _ h1
        exact mit_spec (K.mit p h.ple) g1 h1 (List.getElem?_eq_some_iff.1 hr').1 h2.2 h3
      · exact (plain_spec (K.plain j' _ g1)).2 _ _ _ _ rfl

/-- A new block. -/
theorem Inv.newAt (h : Inv N G n n0 T' s' rs news ρ0 H0 w0 S ρ a w p) (K : Known C F G n n0 ops T0 T' s0 s' rs news) (hr : rs[i]? = some r) (hi : S i = false) (hSi : S' i = true) (hS : ∀ j, j ≠ i → S' j = S j) {ao : AO} (hk : r.kd = .new ao) (k : Nat) :
    (curH n0 news S' (Sof rs s' p)).get k = if k = n0 + i then some ao else (curH n0 news S (Sof rs s' p)).get k := by
  have hmem := K.f.inNew i r ao hr hk
  have hcm : (Sof rs s' p).cm.testBit i = false := by
    cases hc : (Sof rs s' p).cm.testBit i
    · rfl
    · have := h.cm_S K hc; rw [hi] at this; cases this
  have cget := fun b o => h.get_iff K (fun j => S j && !(Sof rs s' p).cm.testBit j) (fun j hj => by simp at hj; exact hj.2) b o
  have cget' := fun b o => h.get_iff K (fun j => S' j && !(Sof rs s' p).cm.testBit j) (fun j hj => by simp at hj; exact hj.2) b o
  split
  · rename_i e
    subst e
    exact (cget' _ _).2 (.inr ⟨i, hmem, by simp [hSi, hcm], rfl⟩)
  · rename_i e
    apply Option.ext
    intro o
    unfold curH
    rw [cget, cget']
    constructor
    · rintro (h1 | ⟨j, h1, h2, h3⟩)
      · exact .inl h1
      · have hj : j ≠ i := by rintro rfl; exact e h3
        rw [hS j hj] at h2
        exact .inr ⟨j, h1, h2, h3⟩
    · rintro (h1 | ⟨j, h1, h2, h3⟩)
      · exact .inl h1
      · have hj : j ≠ i := by rintro rfl; exact e h3
        rw [← hS j hj] at h2
        exact .inr ⟨j, h1, h2, h3⟩

/-- A step that makes no new block, and is none of the chain. -/
theorem Inv.sameH (h : Inv N G n n0 T' s' rs news ρ0 H0 w0 S ρ a w p) (K : Known C F G n n0 ops T0 T' s0 s' rs news) (hr : rs[i]? = some r) (hS : ∀ j, j ≠ i → S' j = S j) (hk : ∀ ao, r.kd ≠ .new ao) (k : Nat) :
    (curH n0 news S' (Sof rs s' p)).get k = (curH n0 news S (Sof rs s' p)).get k := by
  have cget := fun b o => h.get_iff K (fun j => S j && !(Sof rs s' p).cm.testBit j) (fun j hj => by simp at hj; exact hj.2) b o
  have cget' := fun b o => h.get_iff K (fun j => S' j && !(Sof rs s' p).cm.testBit j) (fun j hj => by simp at hj; exact hj.2) b o
  have hne : ∀ j x, (j, x) ∈ news → j ≠ i := by
    rintro j x hm rfl
    obtain ⟨r', h1, h2⟩ := K.f.isNew j x hm
    rw [hr] at h1; cases h1
    exact hk x h2
  apply Option.ext
  intro o
  unfold curH
  rw [cget, cget']
  constructor
  · rintro (h1 | ⟨j, h1, h2, h3⟩)
    · exact .inl h1
    · rw [hS j (hne j o h1)] at h2
      exact .inr ⟨j, h1, h2, h3⟩
  · rintro (h1 | ⟨j, h1, h2, h3⟩)
    · exact .inl h1
    · rw [← hS j (hne j o h1)] at h2
      exact .inr ⟨j, h1, h2, h3⟩

/-- **One operation that may come now.** -/
theorem Inv.step (hC : C.OK) (hF : F.OK C N G) (h : Inv N G n H0.next T' s' rs news ρ0 H0 w0 S ρ a w p) (K : Known C F G n H0.next ops T0 T' s0 s' rs news) (hr : rs[i]? = some r) (hi : S i = false) (hanc : ∀ j, r.anc.testBit j = true → S j = true)
    (hSi : S' i = true) (hS : ∀ j, j ≠ i → S' j = S j) {Q : Exit → Act → World → Prop} {next : Act → World → Prop}
    (hnext : ∀ ρ' a' w' p', Inv N G n H0.next T' s' rs news ρ0 H0 w0 S' ρ' a' w' p' → next a' w') : wpOp C.P ops Q i next a w := by
  obtain ⟨ho, hri, ha, hT, hs, hkind, hTn, hSn⟩ := K.f.row i r hr
  have hlt : i < rs.length := (List.getElem?_eq_some_iff.1 hr).1
  have sees := fun (d : Nat) (hd : d ∈ tmpsOf ops r.o) (v : AV) (hv : r.T.get d = some v) => h.sees K hr hi hanc hd hv
  have hwant : ∀ b, awanted ops r.T r.o = some b → Region.wanted r.o (yielded ops a.tmps) = b := fun b hb =>
    awanted_ok' (ρ := ρ) hb fun j want d hg hd v hv => sees d (by unfold tmpsOf; rw [hg]; simp [hd]) v hv
  obtain ⟨ev, hev1, hev2⟩ : ∃ ev : Operand → AV, (∀ x ∈ r.o.op.operands, aeval G r.T x = ev x) ∧ VEv ρ ev a.eval := by
    classical
    refine ⟨fun x => if x ∈ r.o.op.operands then aeval G r.T x else .junk, fun x hx => by simp [hx], fun x => ?_⟩
    simp only
    split
    · rename_i hx
      refine aeval_ok h.rd x fun t ht v hv => sees t ?_ v hv
      subst ht
      unfold tmpsOf
      simp only [List.mem_append, List.mem_filterMap]
      exact .inl (.inr ⟨_, Array.mem_toList_iff.2 hx, rfl⟩)
    · simp [VR]
  have names' : ∀ j, j < rs.length → S' j = false → ρ (H0.next + j) = none := fun j hj hn => by
    have hne : j ≠ i := by rintro rfl; rw [hSi] at hn; cases hn
    rw [hS j hne] at hn
    exact h.names j hj hn
  have chain' : isChain r.kd = false → ∀ (k : Nat) (r : Row), rs[k]? = some r → isChain r.kd = true → (S' k = true ↔ k < p) := fun hc k rk hk hck => by
    have hne : k ≠ i := by rintro rfl; rw [hr] at hk; cases hk; rw [hc] at hck; cases hck
    rw [hS k hne]
    exact h.chain k rk hk hck
  -- a step that leaves the heap's names
  have quiet : isChain r.kd = false → (∀ ao, r.kd ≠ .new ao) → ∀ (x : Value) (w' : World), VR ρ r.v x → R N G ρ (curH H0.next news S (Sof rs s' p)) w' → Fr ρ (curH H0.next news S (Sof rs s' p)) w ρ (curH H0.next news S (Sof rs s' p)) w' → next (a.put r.o.dst x) w' := by
    intro hc hn x w' hx hR' hF'
    have hg := h.sameH K hr hS hn
    have hnx : (curH H0.next news S' (Sof rs s' p)).next = (curH H0.next news S (Sof rs s' p)).next := by rw [curH_next, curH_next]
    exact hnext ρ _ w' p (h.next K hr hi hanc hSi hS hx (fun _ _ h => h) h.ple (chain' hc) names' (hR'.congr hg hnx) ((h.fr.trans hF').congr hg hnx) h.old h.hi)
  unfold wpOp
  rw [ho]
  simp only
  rcases hkind with ⟨hk, hw, hv⟩ | ⟨hw, hkind⟩
  · rw [hwant _ hw]
    simp only [Bool.false_eq_true, if_false]
    exact quiet (by rw [hk]; rfl) (fun ao e => by rw [hk] at e; cases e) undef w (by rw [hv]; simp only [VR, undef]; exact ⟨[], rfl, VRs.nil⟩) h.rd (Fr.refl _ _ _)
  · rw [hwant _ hw]
    simp only [if_true]
    left
    rcases hkind with ⟨hk, hv⟩ | ⟨hk, hv⟩ | ⟨ao, mk, hk, hv, hv2⟩ | ⟨H', hk, hv, hdone⟩
    · rw [pureOp_congr hev1] at hv
      obtain ⟨u, hu, hru⟩ := pureOp_ok hC hev2 hv w
      unfold Oper.wp
      rw [hu]
      exact quiet (by rw [hk]; rfl) (fun ao e => by rw [hk] at e; cases e) u w hru h.rd (Fr.refl _ _ _)
    · have hread := K.reads i r hr (by rw [hk]; rfl) p h.ple
      unfold readAt at hread
      have hcond : (Nat.beq ((Sof rs s' p).done &&& (r.anc &&& s'.done)) (r.anc &&& s'.done) && !(Sof rs s' p).cm.testBit r.i) = true := by
        simp only [Bool.and_eq_true, Bool.not_eq_true']
        refine ⟨?_, ?_⟩
        · have : (Sof rs s' p).done &&& (r.anc &&& s'.done) = r.anc &&& s'.done := by
            apply Nat.eq_of_testBit_eq
            intro j
            simp only [Nat.testBit_and]
            cases h1 : r.anc.testBit j
            · simp
            · cases h2 : s'.done.testBit j
              · simp
              · simp only [Bool.and_true, Bool.true_and]
                rw [← K.last] at h2
                obtain ⟨hjl, rj, hj, hcj⟩ := ((K.f.stage_bits K.cm0 K.done0 rs.length (Nat.le_refl _)).1 j).1 h2
                exact ((K.f.stage_bits K.cm0 K.done0 p h.ple).1 j).2 ⟨(h.chain j rj hj hcj).1 (hanc j h1), rj, hj, hcj⟩
          rw [this]; exact Nat.beq_refl _
        · rw [hri]
          cases hc : (Sof rs s' p).cm.testBit i
          · rfl
          · have := h.cm_S K hc; rw [hi] at this; cases this
      rw [hcond] at hread
      simp only [cond_true] at hread
      split at hread
      · rename_i v hv'
        have e := AV.beq_eq _ _ hread
        subst e
        rw [readOp_congr hev1] at hv'
        have hRs := h.rd.sub (h.view K hanc) (by rw [viewOf_next, curH_next])
        obtain ⟨u, w', hu, hru, hR', hF'⟩ := readOp_ok hC hRs hev2 hv'
        obtain ⟨h1, h2⟩ := h.readBack K hanc hR' hF'
        unfold Oper.wp
        rw [hu]
        exact quiet (by rw [hk]; rfl) (fun ao e => by rw [hk] at e; cases e) u w' hru h1 h2
      · cases hread
    · rw [newOp_congr hev1] at hv
      have hnm := h.names i hlt hi
      obtain ⟨v, ob, d, s, hm⟩ := newOp_ok hC (w := w) hev2 hv (H0.next + i) hnm
      have hg := h.newAt K hr hi hSi hS hk
      have hnx : (curH H0.next news S' (Sof rs s' p)).next = (curH H0.next news S (Sof rs s' p)).next := by rw [curH_next, curH_next]
      have hR' := h.rd.allocAt (H2 := curH H0.next news S' (Sof rs s' p)) ob d ao s (H0.next + i) hnm (by rw [curH_next]; have := h.hi; omega) hm.blk hm.obj.base hg hnx (hm.obj.or h.rd hm.blk d) (fun m l v c => hm.obj.nomiter m l v c)
      have hF' := h.fr.allocAt (H2 := curH H0.next news S' (Sof rs s' p)) ob d ao s (H0.next + i) (by omega) hm.blk hg hnx
      unfold Oper.wp
      rw [hm.run]
      refine hnext _ _ _ p (h.next K hr hi hanc hSi hS (x := v) (by rw [hv2, hri]; exact hm.val) (Names.put_ext hnm) h.ple (chain' (by rw [hk]; rfl)) (fun j hj hn => ?_) hR' hF' h.old h.hi)
      have hne : j ≠ i := by rintro rfl; rw [hSi] at hn; cases hn
      rw [show (ρ.put (H0.next + i) s) (H0.next + j) = ρ (H0.next + j) by simp [Names.put, hne]]
      exact names' j hj hn
    · have hcr : isChain r.kd = true := by rw [hk]; rfl
      -- the stage is the one that the evaluator had
      have hdn : ∀ (k : Nat) (rk : Row), rs[k]? = some rk → isChain rk.kd = true → k < i → r.anc.testBit k = true := by
        intro k rk hk' hck hki
        have h1 := ((K.f.stage_bits K.cm0 K.done0 i (by omega)).1 k).2 ⟨hki, rk, hk', hck⟩
        rw [← hs, ← hdone, Nat.testBit_and] at h1
        simp only [Bool.and_eq_true] at h1
        exact h1.2
      have hpi : ∀ (k : Nat) (rk : Row), rs[k]? = some rk → isChain rk.kd = true → (k < p ↔ k < i) := by
        intro k rk hk' hck
        rw [← h.chain k rk hk' hck]
        constructor
        · intro hsk
          rcases Nat.lt_trichotomy k i with h1 | h1 | h1
          · exact h1
          · subst h1; rw [hi] at hsk; cases hsk
          · obtain ⟨_, _, _, _, hsk', hkk, _⟩ := K.f.row k rk hk'
            have hdk : rk.s.done &&& rk.anc = rk.s.done := by
              rcases hkk with ⟨e, _⟩ | ⟨_, ⟨e, _⟩ | ⟨e, _⟩ | ⟨_, _, e, _⟩ | ⟨_, _, _, e⟩⟩
              · rw [e] at hck; cases hck
              · rw [e] at hck; cases hck
              · rw [e] at hck; cases hck
              · rw [e] at hck; cases hck
              · exact e
            have h2 := ((K.f.stage_bits K.cm0 K.done0 k (by have := (List.getElem?_eq_some_iff.1 hk').1; omega)).1 i).2 ⟨h1, r, hr, hcr⟩
            rw [← hsk', ← hdk, Nat.testBit_and] at h2
            simp only [Bool.and_eq_true] at h2
            have := h.closed k rk hk' hsk i h2.2
            rw [hi] at this; cases this
        · intro hki
          exact hanc k (hdn k rk hk' hck hki)
      have hst : Sof rs s' p = r.s := by rw [hs]; exact K.f.stage_eq h.ple (by omega) hpi
      have hn : Sof rs s' (i + 1) = ⟨H', r.s.cm ||| r.anc, r.s.done ||| 2 ^ r.i⟩ := by rw [hSn]; unfold stageOf; rw [hk]
      rw [chainOp_congr hev1] at hv
      have hview := h.view K hanc
      have hRs := h.rd.sub hview (by rw [viewOf_next, curH_next])
      rw [← hst] at hv
      refine chainOp_ok hC hF hRs hev2 hv _ _ fun x w' ρ' hx hR' hF' => ?_
      have vget := fun b o => h.get_iff K (fun a => r.anc.testBit a && !(Sof rs s' p).cm.testBit a) (fun j hj => by simp at hj; exact hj.2) b o
      have cget := fun b o => h.get_iff K (fun j => S j && !(Sof rs s' p).cm.testBit j) (fun j hj => by simp at hj; exact hj.2) b o
      have old' : ∀ j, j < rs.length → ∀ o, H'.get (H0.next + j) = some o → (r.s.cm ||| r.anc).testBit j = true := by
        intro j hj o ho'
        obtain ⟨o0, h0⟩ := hF'.dom (H0.next + j) o (by rw [viewOf_next]; have := h.hi; omega) ho'
        rw [Nat.testBit_or, Bool.or_eq_true]
        rcases (vget _ _).1 h0 with h1 | ⟨j', _, h2, h3⟩
        · rw [← hst]; exact .inl (h.old j hj o0 h1)
        · obtain rfl : j = j' := by omega
          simp only [Bool.and_eq_true] at h2
          exact .inr h2.1
      have nget : ∀ b o, (curH H0.next news S' (Sof rs s' (i + 1))).get b = some o ↔ H'.get b = some o ∨ ∃ j, (j, o) ∈ news ∧ (S' j && !(r.s.cm ||| r.anc).testBit j) = true ∧ b = H0.next + j := by
        intro b o
        unfold curH
        rw [hn]
        refine addNews_iff K.f.once (fun j y o' hm hsj e => ?_) b o
        obtain ⟨rj, hrj, _⟩ := K.f.isNew j y hm
        have := old' j (List.getElem?_eq_some_iff.1 hrj).1 o' e
        simp only [this, Bool.not_true, Bool.and_false] at hsj
        cases hsj
      obtain ⟨hR2, hF2⟩ := h.rd.union (H2 := curH H0.next news S' (Sof rs s' (i + 1))) hview (by rw [viewOf_next, curH_next]) hR' hF' (by rw [curH_next, hn]) (fun b o hb => by
          rcases (nget b o).1 hb with h1 | ⟨j, h1, h2, h3⟩
          · exact .inl h1
          · right
            simp only [Nat.testBit_or, Bool.and_eq_true, Bool.not_eq_true', Bool.or_eq_false_iff] at h2
            obtain ⟨g1, g2, g3⟩ := h2
            have hne : j ≠ i := by
              rintro rfl
              obtain ⟨rj, hrj, hkj⟩ := K.f.isNew j o h1
              rw [hr] at hrj; cases hrj
              rw [hk] at hkj; cases hkj
            rw [hS j hne] at g1
            refine ⟨(cget b o).2 (.inr ⟨j, h1, by rw [hst]; simp [g1, g2], h3⟩), ?_, plain_spec (K.plain j o h1)⟩
            cases hv' : (viewOf H0.next news r.anc (Sof rs s' p)).get b with
            | none => rfl
            | some o' =>
              exfalso
              rcases (vget b o').1 hv' with q1 | ⟨j', _, q2, q3⟩
              · subst h3
                obtain ⟨rj, hrj, _⟩ := K.f.isNew j o h1
                have := h.old j (List.getElem?_eq_some_iff.1 hrj).1 o' q1
                rw [hst, g2] at this; cases this
              · obtain rfl : j = j' := by omega
                simp [g3] at q2)
        (fun b m l v c hb ps hm => by
          rcases (nget m _).1 hm with h1 | ⟨j, h1, h2, h3⟩
          · exact h1
          · exfalso
            obtain ⟨rj, hrj, _⟩ := K.f.isNew j _ h1
            refine mit_spec (K.mit (i + 1) (by omega)) (b := b) (by rw [hn]; exact hb) h1 (List.getElem?_eq_some_iff.1 hrj).1 ?_ h3
            rw [hn]
            simp only [Bool.and_eq_true, Bool.not_eq_true'] at h2
            exact h2.2)
      refine hnext ρ' _ w' (i + 1) (h.next K hr hi hanc hSi hS hx (hRs.ext hF') (by omega) (fun k rk hk' hck => ?_) (fun j hj hnj => ?_) hR2 (h.fr.trans hF2) (by rw [hn]; exact old') ?_)
      · by_cases e : k = i
        · subst e; simp [hSi]
        · rw [hS k e, h.chain k rk hk' hck, hpi k rk hk' hck]; omega
      · rw [hF'.same _ (by rw [viewOf_next]; have := h.hi; omega)]
        exact names' j hj hnj
      · rw [hn]
        have := hF'.next
        rw [viewOf_next] at this
        have := h.hi
        show _ ≤ H'.next
        omega

/-- All that a region's evaluation has looked at. -/
theorem known {H : AH} (hD : DrawOK ops) {T : PT AV} (ht : ∀ d v, T.get d = some v → d < n)
    (hrows : mkRows C F G n H.next ops (ops.toList.zip (Region.before ops).toList) 0 [] T ⟨⟨H.t, H.next + ops.toList.length⟩, 0, 0⟩ = some (rs, news, T', s'))
    (hplain : (news.all fun p => plain p.2) = true) (hmit : ((allStages ⟨⟨H.t, H.next + ops.toList.length⟩, 0, 0⟩ rs).all fun st => mitOk H.next ops.toList.length news st) = true)
    (hread : ((rs.filter fun r => isRead r.kd).all fun r => (allStages ⟨⟨H.t, H.next + ops.toList.length⟩, 0, 0⟩ rs).all fun st => readAt C G H.next news s'.done r st) = true) :
    Known C F G n H.next ops T T' ⟨⟨H.t, H.next + ops.toList.length⟩, 0, 0⟩ s' rs news := by
  have f := facts hD hrows
  have hl : rs.length = ops.toList.length := by rw [f.len]; simp
  refine ⟨f, hD, rfl, rfl, ht, fun a x hm => List.all_eq_true.1 hplain _ hm, fun p hp => ?_, fun i r hr hk p hp => ?_, ?_⟩
  · rw [hl]
    exact List.all_eq_true.1 hmit _ (f.stage_mem p hp)
  · have := List.all_eq_true.1 hread r (List.mem_filter.2 ⟨List.mem_of_getElem? hr, hk⟩)
    exact List.all_eq_true.1 this _ (f.stage_mem p hp)
  · unfold Sof
    rw [List.getElem?_eq_none (Nat.le_refl _)]

theorem Inv.start {H : AH} {T : PT AV} (K : Known C F G n H.next ops T T' ⟨⟨H.t, H.next + ops.toList.length⟩, 0, 0⟩ s' rs news) (hR : R N G ρ H w) (hA : AR ρ T n a) (d : Nat) :
    Inv N G n H.next T' s' rs news ρ H w (fun _ => false) ρ a { w with drawn := d } 0 := by
  have hl : rs.length = ops.toList.length := by rw [K.f.len]; simp
  have h0 : Sof rs s' 0 = ⟨⟨H.t, H.next + ops.toList.length⟩, 0, 0⟩ := K.f.S0
  have hcur : curH H.next news (fun _ => false) (Sof rs s' 0) = ⟨H.t, H.next + ops.toList.length⟩ := by
    rw [h0]
    unfold curH
    exact addNews_append [] (l' := news) _ fun _ _ _ => rfl
  refine ⟨Nat.zero_le _, fun k r _ _ => by simp, fun k r _ h => (by simp at h), fun j _ _ => hR.fresh _ (by omega), ?_, ?_, ?_, ?_, hA.defers, hA.size, ?_⟩
  · rw [hcur]; exact (hR.bump (n := H.next + ops.toList.length) (by omega)).drawn d
  · rw [hcur]; exact (Fr.bump (n := H.next + ops.toList.length) (by omega)).trans (Fr.drawn d)
  · intro j hj o ho
    rw [h0] at ho
    have := hR.dom_lt (show H.get (H.next + j) = some o from ho)
    omega
  · rw [h0, hl]; exact Nat.le_refl _
  · intro k hk d hw v hv
    have := K.f.tmp_same (d := d) (p := 0) k (by omega) fun j rj _ h2 h3 h4 => by
      have := (hw j rj h3 h4).2 (by omega)
      cases this
    rw [Nat.zero_add] at this
    rw [this, K.f.T0] at hv
    exact hA.vals d v hv

/-- The operations in any order. -/
theorem Inv.any (hC : C.OK) (hF : F.OK C N G) {H : AH} {T : PT AV} (K : Known C F G n H.next ops T T' s0 s' rs news) {Q : Exit → Act → World → Prop}
    (hQ : ∀ ρ' a' w', AR ρ' T' n a' → R N G ρ' (addNews H.next (fun a => !s'.cm.testBit a) news s'.H) w' → Fr ρ0 H w0 ρ' (addNews H.next (fun a => !s'.cm.testBit a) news s'.H) w' → Q .normal a' w') :
    ∀ (fuel : Nat) (listed : Array Bool) (ρ : Names) (a : Act) (w : World) (p : Nat), listed.size = ops.size → listed.toList.count false = fuel →
      Inv N G n H.next T' s' rs news ρ0 H w0 (fun j => listed.getD j false) ρ a w p → wpAny C.P .any ops Q fuel listed a w := by
  have fin : ∀ (listed : Array Bool) (ρ : Names) (a : Act) (w : World) (p : Nat), listed.size = ops.size → Inv N G n H.next T' s' rs news ρ0 H w0 (fun j => listed.getD j false) ρ a w p → (∀ j, j < ops.size → listed.getD j false = true) → Q .normal a w := by
    intro listed ρ a w p hsz h hall
    have hlen := K.f.len
    have hall' : ∀ (j : Nat) (r : Row), rs[j]? = some r → listed.getD j false = true := fun j r hr => hall j (by have := (List.getElem?_eq_some_iff.1 hr).1; omega)
    have hp : Sof rs s' p = s' := by
      refine Eq.trans ?_ K.last
      refine K.f.stage_eq h.ple (Nat.le_refl _) fun k r hr hc => ?_
      have h1 := (h.chain k r hr hc).1 (hall' k r hr)
      have h2 := (List.getElem?_eq_some_iff.1 hr).1
      exact ⟨fun _ => h2, fun _ => h1⟩
    have hcur : ∀ k, (addNews H.next (fun a => !s'.cm.testBit a) news s'.H).get k = (curH H.next news (fun j => listed.getD j false) (Sof rs s' p)).get k := by
      intro k
      rw [hp]
      unfold curH
      rw [addNews_get, addNews_get, pick_congr (sel := fun a => !s'.cm.testBit a) (sel' := fun j => listed.getD j false && !s'.cm.testBit j) fun a x hm => by
        obtain ⟨r, hr, _⟩ := K.f.isNew a x hm
        simp only [hall' a r hr, Bool.true_and]]
    have hnx : (addNews H.next (fun a => !s'.cm.testBit a) news s'.H).next = (curH H.next news (fun j => listed.getD j false) (Sof rs s' p)).next := by rw [curH_next, addNews_next, hp]
    refine hQ ρ a w ⟨h.defers, h.size, fun d v hv => ?_⟩ (h.rd.congr hcur hnx) (h.fr.congr hcur hnx)
    refine h.vals rs.length (Nat.le_refl _) d (fun j r hr _ => ?_) v ?_
    · have := (List.getElem?_eq_some_iff.1 hr).1
      exact ⟨fun _ => this, fun _ => hall' j r hr⟩
    · unfold Tof
      rw [List.getElem?_eq_none (Nat.le_refl _)]
      exact hv
  have all_of_ready : ∀ (listed : Array Bool), listed.size = ops.size → Region.ready .any ops listed = [] → ∀ j, j < ops.size → listed.getD j false = true := by
    intro listed hsz hr j
    induction j using Nat.strongRecOn with
    | ind j ih =>
      intro hj
      cases hb : listed.getD j false
      · exfalso
        have : j ∈ Region.ready .any ops listed := by
          rw [mem_ready]
          refine ⟨?_, ops[j], by simp [hj], fun e he hbd => ?_⟩
          · rw [Array.getD_eq_getD_getElem?] at hb ⊢
            have : j < listed.size := by omega
            simp only [Array.getElem?_eq_getElem this, Option.getD_some] at hb ⊢
            exact hb
          · have := K.D.edges j _ (by simp [hj]) e he hbd
            exact ih e.on this (by omega)
        rw [hr] at this; cases this
      · rfl
  intro fuel
  induction fuel with
  | zero =>
    intro listed ρ a w p hsz hc h
    have hall : ∀ j, j < ops.size → listed.getD j false = true := by
      intro j hj
      cases hb : listed.getD j false
      · exfalso
        rw [Array.getD_eq_getD_getElem?] at hb
        have hlt : j < listed.size := by omega
        simp only [Array.getElem?_eq_getElem hlt, Option.getD_some] at hb
        have : false ∈ listed.toList := by rw [← hb]; simp
        rw [List.count_eq_zero] at hc
        exact hc this
      · rfl
    refine ⟨?_, fin listed ρ a w p hsz h hall⟩
    rw [List.eq_nil_iff_forall_not_mem]
    intro j hj
    obtain ⟨h1, o, ho, _⟩ := mem_ready.1 hj
    have hjs : j < ops.size := (Array.getElem?_eq_some_iff.1 ho).1
    have h2 := hall j hjs
    rw [Array.getD_eq_getD_getElem?] at h1 h2
    have hlt : j < listed.size := by omega
    simp only [Array.getElem?_eq_getElem hlt, Option.getD_some] at h1 h2
    rw [h1] at h2; cases h2
  | succ fuel ih =>
    intro listed ρ a w p hsz hc h
    refine ⟨fun hr => fin listed ρ a w p hsz h (all_of_ready listed hsz hr), fun i hi => ?_⟩
    obtain ⟨h1, o, ho, hedges⟩ := mem_ready.1 hi
    have his : i < ops.size := (Array.getElem?_eq_some_iff.1 ho).1
    have hlt : i < listed.size := by omega
    have hfalse : listed.getD i false = false := by
      rw [Array.getD_eq_getD_getElem?] at h1 ⊢
      simp only [Array.getElem?_eq_getElem hlt, Option.getD_some] at h1 ⊢
      exact h1
    have hlen := K.f.len
    have hr : rs[i]? = some rs[i] := List.getElem?_eq_getElem (by omega)
    obtain ⟨hro, _, ha, _⟩ := K.f.row i _ hr
    rw [ho] at hro; cases hro
    have hanc : ∀ j, (rs[i]).anc.testBit j = true → listed.getD j false = true := by
      intro j hj
      rw [ha] at hj
      obtain ⟨o', ho', e, he, hb, hon⟩ := before_spec ops hj
      rw [ho] at ho'; cases ho'
      have hS := hedges e he hb
      rcases hon with rfl | ⟨hon, hei⟩
      · exact hS
      · have hre : rs[e.on]? = some rs[e.on] := List.getElem?_eq_getElem (by omega)
        obtain ⟨_, _, hae, _⟩ := K.f.row e.on _ hre
        exact h.closed e.on _ hre hS j (by rw [hae]; exact hon)
    have hset : ∀ j, (listed.setIfInBounds i true).getD j false = if j = i then true else listed.getD j false := by
      intro j
      split
      · rename_i e
        subst e
        rw [Array.getD_eq_getD_getElem?]; simp [hlt]
      · rename_i e
        exact getD_set_ne false (fun e' => e e'.symm)
    refine h.step (S' := fun j => (listed.setIfInBounds i true).getD j false) hC hF K hr hfalse hanc (by simp only [hset, if_true]) (fun j hj => by simp only [hset, if_neg hj]) fun ρ' a' w' p' h' => ?_
    refine ih _ ρ' a' w' p' (by simp [hsz]) ?_ h'
    have hget : listed.toList[i]'(by simpa using hlt) = false := by
      rw [Array.getD_eq_getD_getElem?] at hfalse
      simp only [Array.getElem?_eq_getElem hlt, Option.getD_some] at hfalse
      simpa using hfalse
    rw [Array.setIfInBounds, dif_pos hlt]
    simp only [Array.toList_set]
    rw [List.count_set (by simpa using hlt)]
    rw [hget, hc]
    simp

/-- **A region that draws its order.** -/
theorem evDraw_ok (hC : C.OK) (hF : F.OK C N G) (hD : DrawOK ops) {T T1 : PT AV} {H H' : AH} (h : evDraw C F G n ops T H = some (T1, H')) {id : Nat} (hR : R N G ρ H w) (hA : AR ρ T n a)
    (Q : Exit → Act → World → Prop) (hQ : ∀ ρ' a' w', AR ρ' T1 n a' → R N G ρ' H' w' → Fr ρ H w ρ' H' w' → Q .normal a' w') : (Code.region id ops true).wp C.P Q a w := by
  unfold evDraw at h
  simp only at h
  split at h
  · cases h
  · rename_i rs news T2 s hrows
    have cond_some : ∀ {b : Bool} {x y : PT AV × AH}, (bif b then some x else none) = some y → b = true ∧ x = y := by
      intro b x y hb
      cases b
      · cases hb
      · exact ⟨rfl, Option.some.inj hb⟩
    have h := cond_some h
    simp only [Bool.and_eq_true, Prod.mk.injEq] at h
    obtain ⟨⟨h1, h2⟩, h3⟩ := h.1
    obtain ⟨rfl, rfl⟩ := h.2
    have ht : ∀ d v, T.get d = some v → d < n := fun d v hd => by
      obtain ⟨x, hx, _⟩ := hA.vals d v hd
      have := (Array.getElem?_eq_some_iff.1 hx).1
      rw [hA.size] at this; exact this
    have K := known (F := F) hD ht hrows h1 h2 h3
    refine wp_region_any hC.mixed (Inv.any hC hF K hQ ops.size _ ρ a _ 0 (by simp) (by simp) ?_)
    have := Inv.start (w := w) K hR hA (w.drawn + 1)
    have e : (fun j => (Array.replicate ops.size false).getD j false) = fun _ => false := by
      funext j
      rw [Array.getD_eq_getD_getElem?]
      by_cases hj : j < ops.size
      · simp [hj]
      · simp [hj]
    rw [e]
    exact this
end

end Go.AB
