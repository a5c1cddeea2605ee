/- Group: rows sorted by a comparison; keys sorted; the vector that is told; no condition. -/
import Derived.Test.YtapokkpdgfpokaaGreatMg4
import Derived.Test.YtapokkpdgfpokaaGreatKeys2
import Derived.Test.YtapokkpdgfpokaaGreatKeys
import Derived.Laws.Externs
set_option linter.unusedSimpArgs false
set_option linter.unusedVariables false
set_option maxRecDepth 100000
open Go Go.AB Go.Proofs Go.Sort
namespace Go.Proofs.YtapokkpdgfpokaaGreat

theorem flatten_uni {α : Type} {z : Nat} : ∀ {ll : List (List α)}, (∀ l ∈ ll, l.length = z) → ∀ (i j : Nat), j < z → (ll.flatten)[i * z + j]? = (ll[i]?).bind (·[j]?)
  | [], _, i, j, _ => by simp
  | l :: ll, h, 0, j, hj => by
    have hl := h l (List.mem_cons_self)
    rw [List.flatten_cons, Nat.zero_mul, Nat.zero_add, List.getElem?_append_left (by omega)]; rfl
  | l :: ll, h, i + 1, j, hj => by
    have hl := h l (List.mem_cons_self)
    rw [List.flatten_cons, show (i + 1) * z + j = z + (i * z + j) by rw [Nat.add_mul]; omega, List.getElem?_append_right (by omega), hl, Nat.add_sub_cancel_left, flatten_uni (fun x hx => h x (List.mem_cons_of_mem _ hx)) i j hj]; rfl
theorem flatten_len {α : Type} {z : Nat} : ∀ {ll : List (List α)}, (∀ l ∈ ll, l.length = z) → ll.flatten.length = ll.length * z
  | [], _ => by simp
  | l :: ll, h => by
    rw [List.flatten_cons, List.length_append, h l (List.mem_cons_self), flatten_len fun x hx => h x (List.mem_cons_of_mem _ hx), List.length_cons, Nat.add_mul]; omega

/-! Trees of objects, some left out. -/
def PTfm {α β : Type} (f : α → Option β) : PT α → PT β
  | .leaf => .leaf
  | .node l v r => .node (PTfm f l) (v.bind f) (PTfm f r)
theorem PTfm_get {α β : Type} (f : α → Option β) : ∀ (t : PT α) (n : Nat), (PTfm f t).get n = (t.get n).bind f
  | .leaf, n => by simp [PTfm, PT.get]
  | .node l v r, n => by
    cases n with
    | zero => simp [PTfm, PT.get]
    | succ m =>
      simp only [PTfm, PT.get]
      cases Nat.beq (m % 2) 0
      · simp only [cond_false]; exact PTfm_get f r _
      · simp only [cond_true]; exact PTfm_get f l _
def frzO : AO → Option AO
  | .cells _ vs => if vs.all isStr = true then some (.cells true vs) else none
  | _ => none
def frz (H : AH) : AH := ⟨PTfm frzO H.t, H.next⟩
theorem frz_get (H : AH) (b : Nat) : (frz H).get b = (H.get b).bind frzO := PTfm_get _ _ _
theorem frz_some {H : AH} {b : Nat} {o : AO} (h : (frz H).get b = some o) : ∃ ro vs, o = .cells true vs ∧ H.get b = some (.cells ro vs) ∧ vs.all isStr = true := by
  rw [frz_get] at h
  cases hb : H.get b with
  | none => rw [hb] at h; cases h
  | some x =>
    rw [hb] at h
    cases x with
    | cells ro vs =>
      simp only [Option.bind_some, frzO] at h
      split at h
      · cases h; exact ⟨ro, vs, rfl, rfl, by assumption⟩
      · cases h
    | _ => cases h
theorem isStr_VR {ρ ρ' : Names} {a : AV} {v : Value} (h : isStr a = true) (hv : VR ρ a v) : VR ρ' a v := by
  cases a <;> simp [isStr] at h
  simp only [VR] at hv ⊢; exact hv

/-- Rows of texts, read alone, in a world that has them still. -/
theorem R.frz {N : Bd} {G : Nat} {ρ : Names} {H : AH} {w W : World} (hR : R N G ρ H w) {b0 : Nat} {vs0 : List AV} {s0 : Seg} (hb0 : H.get b0 = some (.cells false vs0)) (hs0 : ρ b0 = some s0) (hn0 : vs0.all isStr = false)
    (hW : ∀ k, k < w.heap.size → k ≠ s0.blk → W.heap[k]? = w.heap[k]?) (hsz : w.heap.size ≤ W.heap.size) :
    R ⟨W.heap.size, W.drawn⟩ 0 (fun k => if ((YtapokkpdgfpokaaGreat.frz H).get k).isSome = true then ρ k else none) (YtapokkpdgfpokaaGreat.frz H) W where
  size := Nat.le_refl _
  glob g hg := by omega
  obj b o hb := by
    obtain ⟨ro, vs, rfl, hH, hst⟩ := frz_some hb
    obtain ⟨s, hs, c, e, lo, hi, h1, h2, h3, h4, h5, h6⟩ := hR.obj b _ hH
    have hlt : s.blk < w.heap.size := by
      rcases Nat.lt_or_ge s.blk w.heap.size with h | h
      · exact h
      · rw [Array.getElem?_eq_none h] at h1; cases h1
    have hne : s.blk ≠ s0.blk := fun e => by
      cases ro with
      | true =>
        obtain ⟨s', hs', _, _, _, _, _, _, _, _, _, h7⟩ := hR.obj b0 _ hb0
        rw [hs0] at hs'; cases hs'
        have := h5 rfl
        have := (h7 rfl).1
        omega
      | false =>
        have := hR.inj b b0 _ _ s s0 hH hb0 rfl rfl hs hs0 e
        subst this
        rw [hb0] at hH; cases hH
        rw [hn0] at hst; cases hst
    refine ⟨s, by simp only [hb, Option.isSome_some, if_true]; exact hs, c, e, lo, hi, by rw [hW _ hlt hne]; exact h1, h2, h3, fun i a ha => ?_, fun _ => by show s.blk < W.heap.size; omega, fun h => by cases h⟩
    obtain ⟨v, hv, hr⟩ := h4 i a ha
    exact ⟨v, hv, isStr_VR (List.all_eq_true.1 hst a (List.mem_of_getElem? ha)) hr⟩
  inj b b' o o' s s' h1 h2 r1 r2 := by
    obtain ⟨ro, vs, rfl, _⟩ := frz_some h1
    cases r1
  fresh b hb := by
    have : (YtapokkpdgfpokaaGreat.frz H).get b = none := by
      rw [frz_get]
      cases hx : H.get b with
      | none => rfl
      | some o => have := hR.dom_lt hx; exact absurd this (by have : H.next ≤ b := hb; omega)
    simp [this]
  gn := Nat.zero_le _
  vers b m l v k hb := by
    obtain ⟨ro, vs, e, _⟩ := frz_some hb
    cases e
  flat b s hs hN := by
    split at hs
    · rename_i h
      obtain ⟨o, ho⟩ := Option.isSome_iff_exists.1 h
      obtain ⟨ro, vs, rfl, hH, hst⟩ := frz_some ho
      obtain ⟨s', hs', c, e, lo, hi, h1, _⟩ := hR.obj b _ hH
      rw [hs] at hs'; cases hs'
      have hlt : s.blk < w.heap.size := by
        rcases Nat.lt_or_ge s.blk w.heap.size with h | h
        · exact h
        · rw [Array.getElem?_eq_none h] at h1; cases h1
      have : W.heap.size ≤ s.blk := hN
      omega
    · cases hs
  draws := Nat.le_refl _

theorem labs_frz {ρ : Names} {H : AH} {u : AV} {v : Value} {l : Ls} (h : LabelsAt H u l) (hv : VR ρ u v) : ∃ u', LabelsAt (YtapokkpdgfpokaaGreat.frz H) u' l ∧ VR (fun k => if ((YtapokkpdgfpokaaGreat.frz H).get k).isSome = true then ρ k else none) u' v := by
  rcases h with ⟨rfl, h1, h2⟩ | ⟨b, o, c, ro, vs, rfl, h1, h2, h3, h4⟩
  · cases u with
    | nils => exact ⟨.nils, .inl ⟨rfl, rfl, rfl⟩, hv⟩
    | slice b o n c z =>
      simp [lenOfAV] at h1
      subst h1
      simp only [VR] at hv
      obtain ⟨s, cc, _, rfl, _⟩ := hv
      exact ⟨.empty 0, .inl ⟨rfl, rfl, rfl⟩, by simp only [VR]; exact ⟨_, _, rfl⟩⟩
    | empty k => exact ⟨.empty k, .inl ⟨rfl, rfl, rfl⟩, by simp only [VR] at hv ⊢; exact hv⟩
    | _ => simp [lenOfAV] at h1
  · have hg : (YtapokkpdgfpokaaGreat.frz H).get b = some (.cells true vs) := by rw [frz_get, h1, Option.bind_some, frzO, if_pos h2]
    refine ⟨_, .inr ⟨b, o, c, true, vs, rfl, hg, h2, h3, h4⟩, ?_⟩
    simp only [VR] at hv ⊢
    obtain ⟨s, cc, hs, r⟩ := hv
    exact ⟨s, cc, by simp only [hg, Option.isSome_some, if_true]; exact hs, r⟩
theorem labs_nostr {H : AH} {u : AV} {l : Ls} (h : LabelsAt H u l) : isStr u = false := by
  have := h.len
  cases u <;> first | rfl | (simp [lenOfAV] at this)

/-- A world that has grown. -/
theorem grown_of {W w' : World} (hs : W.heap.size ≤ w'.heap.size) (hk : ∀ k, k < W.heap.size → w'.heap[k]? = W.heap[k]?) (ho : w'.os = W.os) (ht : w'.tape = W.tape) (hp : w'.output = W.output) (hd : W.drawn ≤ w'.drawn) : ∃ q os', w' = grow (W.drewN q) os' := by
  refine ⟨w'.drawn - W.drawn, w'.heap.extract W.heap.size w'.heap.size, ?_⟩
  obtain ⟨heap, tape, drawn, os, output⟩ := w'
  obtain ⟨heap0, tape0, drawn0, os0, output0⟩ := W
  simp only at hs hk ho ht hp hd
  subst ho; subst ht; subst hp
  simp only [grow, World.drewN, World.mk.injEq, and_true, true_and]
  refine ⟨?_, by omega⟩
  apply Array.ext_getElem?
  intro k
  rw [Array.getElem?_append]
  by_cases hlt : k < heap0.size
  · rw [if_pos hlt, hk k hlt]
  · rw [if_neg hlt, Array.getElem?_extract]
    by_cases h2 : k < heap.size
    · rw [if_pos (by omega)]; congr 1; omega
    · rw [if_neg (by omega), Array.getElem?_eq_none (by omega)]
end Go.Proofs.YtapokkpdgfpokaaGreat

open Go Go.AB Go.Proofs Go.Sort
namespace Go.Proofs.YtapokkpdgfpokaaGreat

section
variable {n z : Nat} (u : Fin n → AV) (rest : Fin n → List AV) (L : Fin n → Ls)
def rowF (i : Fin n) : List AV := u i :: rest i
/-- The cells of a row, out of a block's. -/
def encF (z : Nat) (c : Array Value) (base : Nat) (i : Fin n) : List Value := (List.range z).map fun j => c[base + (i.val * z + j)]!
theorem encF_len (c : Array Value) (base : Nat) (i : Fin n) : (encF z c base i).length = z := by simp [encF]
def orderF (i j : Fin n) : Int := compM (L i) (L j)
theorem orderF_eq (hL : ∀ i, checkM (L i) = 0) (i j : Fin n) : orderF L i j = orderM (L i) (L j) := by
  unfold orderF compM; rw [if_neg (by rw [hL, hL]; simp)]
theorem swoF (hL : ∀ i, checkM (L i) = 0) : SWO (ltOf (orderF L)) where
  irrefl x := by simp [ltOf, orderF_eq L hL, orderM_self]
  trans x y z h1 h2 := by
    simp only [ltOf, orderF_eq L hL, decide_eq_true_eq] at h1 h2 ⊢
    exact orderM_trans h1 h2
  ntrans x y z h1 h2 := by
    simp only [ltOf, orderF_eq L hL, decide_eq_false_iff_not] at h1 h2 ⊢
    intro h
    have e1 := orderM_swap (L x) (L y)
    by_cases h3 : orderM (L x) (L y) = 0
    · rw [orderM_zero.1 h3] at h; exact h2 h
    · have h4 : orderM (L y) (L x) < 0 := by omega
      exact h2 (orderM_trans h4 h)

theorem finRange_get (i : Fin n) : (List.finRange n)[i.val]? = some i := by
  rw [List.getElem?_eq_getElem (by simp), List.getElem_finRange]; rfl
theorem mapBlock_other {w : World} {blk : Nat} {f : Array Value → Array Value} {k : Nat} (h : k ≠ blk) : (mapBlock w blk f).heap[k]? = w.heap[k]? := by
  simp only [mapBlock, Array.getElem?_modify]
  rw [if_neg (fun e => h e.symm)]
theorem mapBlock_here {w : World} {blk : Nat} {f : Array Value → Array Value} {c : Array Value} {e : TypeId} {fr : Nat × Nat} (h : w.heap[blk]? = some (.cells c e fr)) : (mapBlock w blk f).heap[blk]? = some (.cells (f c) e fr) := by
  simp only [mapBlock, Array.getElem?_modify, if_true, h, Option.map_some, onCells]

set_option maxHeartbeats 4000000 in
/-- **Rows sorted**: out of the contract. -/
theorem sortRows [Inhabited (Fin n)] {f g : FuncId} (hz : 0 < z) (hrl : ∀ i, (rest i).length + 1 = z) (hrp : ∀ i, AV.plainVs (rest i) = true) (hro : ∀ i, allOne (rest i) = true) (hL : ∀ i, checkM (L i) = 0)
    (hcon : ∀ (enc : Fin n → List Value), (∀ x, (enc x).length = z) → (∀ x, ∀ v ∈ enc x, v.oneCell' = true) → ∀ (blk off cap : Nat) (d : Array (Fin n)) (w : World), CmpLays Tryz.prog g #[] enc z (orderF L) blk off d.size w → HoldsK enc z w blk off d → blk < w.heap.size → d.size < 4611686018427387904 →
      Calls Tryz.prog f #[.slice (some ⟨blk, off, none⟩) d.size cap, .func (.func g) #[] #[]] w fun e w' => e = .returned (.tuple #[]) ∧ ∃ d' m os, PermIn 0 d.size d d' ∧ SortedIn (ltOf (orderF L)) 0 d.size d' ∧ w' = sortWorldK enc z w blk off m d' os)
    (hcmp : ∀ (N : Bd) (H : AH) (u1 u2 : AV) (i j : Fin n), LabelsAt H u1 (L i) → LabelsAt H u2 (L j) → AC tC N 0 g [.agg (u1 :: rest i), .agg (u2 :: rest j)] H fun r K => r = .int .i64 (compM (L i) (L j)) ∧ K = H)
    (hnL : n < 1000000) (N : Bd) (H : AH) {b : Nat} {cap : ACap} (hb : H.get b = some (.cells false ((List.finRange n).map (rowF u rest)).flatten)) (hu : ∀ i, LabelsAt H (u i) (L i)) :
    AC tC N 0 f [.slice b 0 n cap z, .func g [] []] H fun r K => ∃ σ : List (Fin n), σ.Perm (List.finRange n) ∧ (∀ (i j : Nat) (x y : Fin n), i < j → σ[i]? = some x → σ[j]? = some y → ¬ orderM (L y) (L x) < 0) ∧ K = H.set b (.cells false (σ.map (rowF u rest)).flatten) := fun ρ w vs hR hv => by
  have n0 : 0 < n := Nat.lt_of_le_of_lt (Nat.zero_le _) (default : Fin n).isLt
  have hlen : ∀ (σ : List (Fin n)), ∀ l ∈ σ.map (rowF u rest), l.length = z := fun σ l hl => by
    obtain ⟨i, _, rfl⟩ := List.mem_map.1 hl
    simp [rowF, hrl i]
  obtain ⟨s, hs, hO⟩ := hR.obj b _ hb
  obtain ⟨c, e, lo, hi, h1, h2, h3, h4, h5, h6⟩ := hO
  obtain ⟨hN, hfz⟩ := h6 rfl
  simp only [VRs, VR] at hv
  obtain ⟨v1, vs1, rfl, ⟨s', cc, hs', rfl, hc, hlc, hroom⟩, v2, vs2, rfl, ⟨us, ws, rfl, rfl, rfl⟩, rfl⟩ := hv
  rw [hs] at hs'; cases hs'
  have hblk : s.blk < w.heap.size := by
    rcases Nat.lt_or_ge s.blk w.heap.size with h | h
    · exact h
    · rw [Array.getElem?_eq_none h] at h1; cases h1
  have hflen : ((List.finRange n).map (rowF u rest)).flatten.length = n * z := by rw [flatten_len (hlen _)]; simp
  rw [hflen] at h3
  -- a row's cells
  have hfg : ∀ (σ : List (Fin n)) (i j : Nat), j < z → ((σ.map (rowF u rest)).flatten)[i * z + j]? = (σ[i]?).bind fun x => (rowF u rest x)[j]? := fun σ i j hj => by
    rw [flatten_uni (hlen σ) i j hj, List.getElem?_map]; cases σ[i]? <;> rfl
  have hmul : ∀ i j : Nat, i < n → j < z → i * z + j < n * z := fun i j hi hj => by
    have := Nat.mul_le_mul_right z (show i + 1 ≤ n from hi); rw [Nat.add_mul, Nat.one_mul] at this; omega
  have hrow : ∀ i : Fin n, VRs ρ (rowF u rest i) (encF z c s.base i) := fun i => by
    refine VRs.of_get (by rw [encF_len]; simp [rowF, hrl i]) fun j a v ha hv => ?_
    have hj : j < z := by have := (List.getElem?_eq_some_iff.1 ha).1; simp [rowF, hrl i] at this; exact this
    have hfl := hfg (List.finRange n) i.val j hj
    rw [finRange_get, Option.bind_some, ha] at hfl
    obtain ⟨x, hx, hxr⟩ := h4 _ a hfl
    have : v = x := by
      simp only [encF, List.getElem?_map, List.getElem?_range hj, Option.map_some, Option.some.injEq] at hv
      rw [← hv, getElem!_def, hx]
    rw [this]; exact hxr
  let enc : Fin n → List Value := encF z c s.base
  have hone : ∀ x, ∀ v ∈ enc x, v.oneCell' = true := fun x v hv => by
    refine allOne_ok (hrow x) ?_ v hv
    simp [rowF, allOne, (hu x).one, hro x]
  let d : Array (Fin n) := (List.finRange n).toArray
  have hds : d.size = n := by simp [d]
  have hdi : ∀ i, i < n → (d[i]!).val = i := fun i hi => by
    have : d[i]! = (⟨i, hi⟩ : Fin n) := by
      rw [getElem!_pos d i (by rw [hds]; exact hi)]
      simp only [d, List.getElem_toArray, List.getElem_finRange]; rfl
    rw [this]
  have hflat : ∀ (dk : Array (Fin n)) (i j : Nat), dk.size = n → i < n → j < z → (flatK enc z dk)[i * z + j]! = c[s.base + ((dk[i]!).val * z + j)]! := fun dk i j hk hi hj => by
    have e1 : (i * z + j) / z = i := (blk_iff z i _ hz).1 ⟨by omega, by omega⟩
    have e2 : (i * z + j) % z = j := by rw [Nat.mod_eq_sub_div_mul, e1]; omega
    rw [get_flatK _ _ _ _ (by rw [hk]; exact hmul i j hi hj), e1, e2]
    simp only [enc, encF]
    rw [getElem!_pos _ j (by simpa using hj)]
    simp
  have hdiv : ∀ t, t < n * z → ∃ i j, i < n ∧ j < z ∧ t = i * z + j := fun t ht => by
    refine ⟨t / z, t % z, ?_, Nat.mod_lt _ hz, ?_⟩
    · exact (Nat.div_lt_iff_lt_mul hz).2 ht
    · have := Nat.div_add_mod t z; rw [Nat.mul_comm] at this; exact this.symm
  have hH : HoldsK enc z w s.blk (s.base + 0) d := fun t ht => by
    rw [size_flatK, hds] at ht
    obtain ⟨i, j, hi, hj, rfl⟩ := hdiv t ht
    have hlt : s.base + (i * z + j) < c.size := by omega
    refine ⟨?_, ?_⟩
    · rw [hflat d i j hds hi hj, hdi i hi]
      simp only [World.cell?, h1, id]
      rw [Nat.add_zero, getElem!_pos c _ hlt, Array.getElem?_eq_getElem hlt]; rfl
    · simp only [World.frozen?, h1]
      exact notFrozen hfz _ (by omega)
  -- the worlds of the sort
  have hW : ∀ (m : Nat) (os : Array Obj) (dk : Array (Fin n)), (∀ k, k < w.heap.size → k ≠ s.blk → (sortWorldK enc z w s.blk (s.base + 0) m dk os).heap[k]? = w.heap[k]?) ∧ w.heap.size ≤ (sortWorldK enc z w s.blk (s.base + 0) m dk os).heap.size := fun m os dk => by
    have hsz : (putRowK enc z (Go.Sort.ahead w m) s.blk (s.base + 0) dk).heap.size = w.heap.size := size_putRow _ _ _ _ _
    refine ⟨fun k hk hne => ?_, by unfold sortWorldK; rw [size_grow, hsz]; exact Nat.le_add_right _ _⟩
    unfold sortWorldK
    rw [heap_grow_old _ _ (by rw [hsz]; exact hk)]
    exact mapBlock_other hne
  have hns : (((List.finRange n).map (rowF u rest)).flatten).all isStr = false := by
    rw [Bool.eq_false_iff]
    intro h
    have h0 := hfg (List.finRange n) 0 0 hz
    rw [finRange_get ⟨0, n0⟩, Option.bind_some] at h0
    have := List.all_eq_true.1 h (u ⟨0, n0⟩) (List.mem_of_getElem? (h0.trans rfl))
    rw [labs_nostr (hu _)] at this; cases this
  have hC : CmpLays Tryz.prog g #[] enc z (orderF L) s.blk (s.base + 0) d.size w := fun m os dk hdk x y => by
    obtain ⟨w1, w2⟩ := hW m os dk
    have hRf := R.frz hR hb hs hns w1 w2
    have hx : ∀ i : Fin n, ∃ u', LabelsAt (YtapokkpdgfpokaaGreat.frz H) u' (L i) ∧ VR (fun k => if ((YtapokkpdgfpokaaGreat.frz H).get k).isSome = true then ρ k else none) (.agg (u' :: rest i)) (.agg (enc i).toArray) := fun i => by
      have hr := hrow i
      unfold rowF at hr
      simp only [VRs] at hr
      obtain ⟨v0, vr, ev, hv0, hvr⟩ := hr
      obtain ⟨u', q1, q2⟩ := labs_frz (hu i) hv0
      refine ⟨u', q1, ?_⟩
      simp only [VR]
      refine ⟨v0 :: vr, by show Value.agg (encF z c s.base i).toArray = _; rw [ev], VRs.cons q2 (AV.plainVs_ok _ _ (hrp i) hvr)⟩
    obtain ⟨ux, lx, vx⟩ := hx x
    obtain ⟨uy, ly, vy⟩ := hx y
    refine (hcmp ⟨_, _⟩ (YtapokkpdgfpokaaGreat.frz H) ux uy x y lx ly _ _ _ hRf (VRs.cons vx (VRs.cons vy VRs.nil))).mono ?_
    rintro e' w' ⟨v, ρ', r, H', ⟨rfl, rfl⟩, rfl, hv, hR', hF⟩
    simp only [VR] at hv
    refine ⟨by rw [hv]; rfl, grown_of hF.size (fun k hk => hF.keep k hk fun b o s hb' hrw _ => ?_) hF.os hF.tape hF.output hR'.draws⟩
    obtain ⟨ro, vs, rfl, _⟩ := frz_some hb'
    cases hrw
  have hcall := hcon enc (fun x => encF_len _ _ _) hone s.blk (s.base + 0) cc d w hC hH hblk (by rw [hds]; omega)
  rw [hds] at hcall
  refine hcall.mono ?_
  rintro e' w' ⟨rfl, d', m, os, ⟨p1, _, p3⟩, hsd, rfl⟩
  rw [hds] at p1
  have hperm : d'.toList.Perm (List.finRange n) := by
    have ex : ∀ (q : Array (Fin n)) (k : Nat), q.size = k → q.extract 0 k = q := fun q k h => by subst h; exact Array.extract_size
    have e1 : d'.extract 0 n = d' := ex _ _ p1
    have e2 : d.extract 0 n = d := ex _ _ hds
    rw [e1, e2] at p3
    exact p3
  have hσl : d'.toList.length = n := by simp [p1]
  have hd'i : ∀ i, i < n → d'.toList[i]? = some d'[i]! := fun i hi => by
    rw [Array.getElem?_toList, getElem!_pos d' i (by rw [p1]; exact hi), Array.getElem?_eq_getElem (by rw [p1]; exact hi)]
  -- the row written
  have hdr : (sortWorldK enc z w s.blk (s.base + 0) m d' os).drawn = w.drawn + m := rfl
  obtain ⟨r1, r2⟩ := hR.write (w' := putRowK enc z (Go.Sort.ahead w m) s.blk (s.base + 0) d') (o' := .cells false (d'.toList.map (rowF u rest)).flatten) hb rfl hs rfl (size_putRow _ _ _ _ _) (fun k hk => mapBlock_other hk) rfl rfl rfl H.next (Nat.le_refl _)
    ⟨_, e, lo, hi, mapBlock_here h1, by simp [putCells]; omega, by rw [flatten_len (hlen _)]; simp [p1]; exact h3, fun t a ha => by
      have ht : t < n * z := by have := (List.getElem?_eq_some_iff.1 ha).1; rw [flatten_len (hlen _), List.length_map, hσl] at this; exact this
      obtain ⟨i, j, hi', hj, rfl⟩ := hdiv t ht
      rw [hfg _ i j hj, hd'i i hi', Option.bind_some] at ha
      obtain ⟨v, hv, hvr⟩ := (hrow d'[i]!).get j a ha
      have hlt : s.base + (i * z + j) < c.size := by omega
      refine ⟨v, ?_, hvr⟩
      simp only [putCells, Array.getElem?_mapIdx, Array.getElem?_eq_getElem hlt, Option.map_some, size_flatK, p1, Nat.add_zero]
      rw [if_pos ⟨by omega, by omega⟩, show s.base + (i * z + j) - s.base = i * z + j by omega, hflat d' i j p1 hi' hj]
      simp only [encF, List.getElem?_map, List.getElem?_range hj, Option.map_some, Option.some.injEq] at hv
      rw [id, hv], fun h => (by cases h), fun _ => ⟨hN, by rw [show (putCells id (s.base + 0) (flatK enc z d') c).size = c.size by simp [putCells]]; exact hfz⟩⟩
    (fun m l v c e => by cases e) (fun k m l v c _ _ _ ps => by simp) (Nat.le_add_right _ _)
  have hbel : Go.RowKit.Below (putRowK enc z (Go.Sort.ahead w m) s.blk (s.base + 0) d').heap.size (putRowK enc z (Go.Sort.ahead w m) s.blk (s.base + 0) d') (sortWorldK enc z w s.blk (s.base + 0) m d' os) :=
    ⟨rfl, rfl, rfl, by unfold sortWorldK; rw [size_grow]; exact Nat.le_add_right _ _, fun k hk => by unfold sortWorldK; exact heap_grow_old _ _ hk⟩
  obtain ⟨q1, q2⟩ := r1.below hbel (by rw [hdr]; have := hR.draws; omega)
  refine ⟨_, ρ, .tuple [], H.set b (.cells false (d'.toList.map (rowF u rest)).flatten), ⟨d'.toList, hperm, fun i j x y hij hx hy => ?_, rfl⟩, rfl, by simp only [VR]; exact ⟨[], rfl, VRs.nil⟩, q1, r2.trans q2⟩
  have hjn : j < n := by have := (List.getElem?_eq_some_iff.1 hy).1; omega
  have := hsd i j (Nat.zero_le _) hij hjn
  rw [hd'i i (by omega)] at hx
  rw [hd'i j hjn] at hy
  cases hx; cases hy
  simp only [ltOf, decide_eq_false_iff_not, orderF_eq L hL] at this
  exact this
end
end Go.Proofs.YtapokkpdgfpokaaGreat

namespace Go.Proofs
open Go.RowKit Go.Maps Go.Sort Go.Shelf

theorem Tryz.sorts53 (m : Nat) : AnyZ.SortsIn Tryz.prog Tryz.sorted53_ren Fence.wide m :=
  ⟨fun blk off cap ss W hH hblk hsz => callsIn_wide.2 (AnyM.slices_Sort_string Tryz.sort88 blk off cap ss W hH hblk hsz),
   fun p cap W => callsIn_wide.2 (AnyM.slices_Sort_string_none Tryz.sort88 p cap W)⟩

set_option maxHeartbeats 1000000 in
theorem Tryz.sortedAt {H : Type} (R : Value → Option (DataW H × List MemPlace)) (Bm b nn : Nat) (D0 : DataW H) (w : World) (hBm : Bm < w.heap.size) (hm : w.cell? ⟨Bm, 0, none⟩ = some (.map (some b))) (hown : w.ownsMap Tryz.prog 9 R b nn D0) (hmax : Maps.size D0 ≤ maxLen) (hbytes : Maps.size D0 * 16 ≤ 140737488355328) :
    Calls Tryz.prog 53 #[.func (.func 89) #[] #[.pointer (some ⟨Bm, 0, none⟩)]] w fun e w' => ∃ (v : Value) (ss : List (List UInt8)), e = .returned v ∧ ss.Perm (strKeys D0) ∧
      w'.ownsRow w.heap.size 9 1 v ss.length ((ss.mergeSort (fun x y => decide (x ≤ y))).map encStr) ∧ (v = .slice none 0 0 ↔ ss = []) ∧ Below w.heap.size w w' := by
  have hseq : SeqGives Fence.wide 2 Tryz.prog 89 #[.pointer (some ⟨Bm, 0, none⟩)] encStr (fun ss => ss.Perm (strKeys D0)) (Maps.size D0) w :=
    AnyZ.keys_gives (ρ := Tryz.keys54_ren) { Tryz.keys54 with } Fence.wide _ trivial rfl (by omega) Bm b nn D0 w hBm hm hown
  exact (callsIn_wide (n := 5)).1 (AnyZ.sorted_in Tryz.sorted53 Fence.wide 5 trivial trivial trivial trivial rfl (by omega) (Tryz.sorts53 _) (enters_of Tryz.func88 (by kernel_rfl) rfl) 89 #[.pointer (some ⟨Bm, 0, none⟩)] trivial (enters_of Tryz.func89 (by kernel_rfl) rfl) _ _ hmax hbytes w hseq)

end Go.Proofs
namespace Go.Proofs.YtapokkpdgfpokaaGreat
open Go.AB


noncomputable def tKnown (f : FuncId) : Option (List AV → AH → Option (AV × AH)) := bif Nat.beq f 53 then some (specSorted 89) else none
def tExt (f : FuncId) (args : List AV) (H : AH) : Option (AV × AH) := bif Nat.beq f 139 then specAdd64 args H else none

theorem tKnownOK (N : Bd) (hd : N.d = 0) : KnownOK tC N 0 tKnown tExt where
  call f k hk := by
    unfold tKnown at hk
    cases h1 : Nat.beq f 53
    · rw [h1] at hk; cases hk
    · rw [h1] at hk
      obtain rfl := Nat.eq_of_beq_eq_true h1
      simp only [cond_true, Option.some.injEq] at hk
      subst hk
      exact ⟨⟨_, Tryz.func53, by kernel_rfl, by kernel_rfl⟩, fun args H r H' h ρ w vs hR hv => specSorted_ok (P := Tryz.prog) (kt := 9) Tryz.underlying9 (fun Bm b nn D0 w => Tryz.sortedAt anyElem Bm b nn D0 w) hd h hR hv⟩
  ext f args H r H' h := by
    unfold tExt at h
    cases h1 : Nat.beq f 139
    · rw [h1] at h; cases h
    · rw [h1] at h
      obtain rfl := Nat.eq_of_beq_eq_true h1
      exact fun ρ w vs hR hv => specAdd64_ok (P := Tryz.prog) run_add64 h hR hv

theorem run6 : constOut (.bool true) (evCall tC tKnown tExt 0 100000 100 6 [] H0) = true := by kernel_rfl

/-- The chapter's examples, from whatever memory. -/
theorem lives (N : Bd) (hd : N.d = 0) (H : AH) : AC tC N 0 6 [] H fun r K => r = .bool true ∧ K = H := fun ρ w vs hR hv =>
  (specConst_ok tOK tCodes tKnownOK run6 (args := []) rfl hd hR hv).mono fun e w' ⟨v, ρ', he, h1, h2, h3⟩ => ⟨v, ρ', _, _, ⟨rfl, rfl⟩, he, h1, h2, h3⟩

end Go.Proofs.YtapokkpdgfpokaaGreat

open Go Go.AB Go.Proofs Go.Sort
namespace Go.Proofs.YtapokkpdgfpokaaGreat
set_option maxRecDepth 100000

theorem map_finRange {α : Type} {l : List α} {n : Nat} (h : l.length = n) (f : Fin n → α) (hf : ∀ i : Fin n, l[i.val]? = some (f i)) : (List.finRange n).map f = l := by
  refine List.ext_getElem? fun i => ?_
  rw [List.getElem?_map]
  by_cases hi : i < n
  · rw [finRange_get ⟨i, hi⟩, Option.map_some, hf ⟨i, hi⟩]
  · rw [List.getElem?_eq_none (by simp; omega), List.getElem?_eq_none (by omega)]; rfl

set_option maxHeartbeats 1000000 in
/-- Rows sorted, of whatever is in a row behind its labels. -/
theorem srtG {β : Type} {z : Nat} {f g : FuncId} (rst : β → List AV) (lab : β → Ls) (hrl : ∀ x, (rst x).length + 1 = z) (hrp : ∀ x, AV.plainVs (rst x) = true) (hro : ∀ x, allOne (rst x) = true) (hrs : ∀ x, ∃ k n, (rst x)[0]? = some (.int k n))
    (hcon : ∀ (n : Nat) [Inhabited (Fin n)] (L : Fin n → Ls), (∀ i, checkM (L i) = 0) → ∀ (enc : Fin n → List Value), (∀ x, (enc x).length = z) → (∀ x, ∀ v ∈ enc x, v.oneCell' = true) → ∀ (blk off cap : Nat) (d : Array (Fin n)) (w : World), CmpLays Tryz.prog g #[] enc z (orderF L) blk off d.size w → HoldsK enc z w blk off d → blk < w.heap.size → d.size < 4611686018427387904 →
      Calls Tryz.prog f #[.slice (some ⟨blk, off, none⟩) d.size cap, .func (.func g) #[] #[]] w fun e w' => e = .returned (.tuple #[]) ∧ ∃ d' m os, PermIn 0 d.size d d' ∧ SortedIn (ltOf (orderF L)) 0 d.size d' ∧ w' = sortWorldK enc z w blk off m d' os)
    (hcmp : ∀ (N : Bd) (H : AH) (u1 u2 : AV) (x y : β), LabelsAt H u1 (lab x) → LabelsAt H u2 (lab y) → AC tC N 0 g [.agg (u1 :: rst x), .agg (u2 :: rst y)] H fun r K => r = .int .i64 (compM (lab x) (lab y)) ∧ K = H)
    (N : Bd) (H : AH) {b : Nat} {cap : ACap} {l : List β} {X : List (List AV)} (hb : H.get b = some (.cells false X.flatten)) (hX : X.length = l.length) (hx : ∀ (i : Nat) x, l[i]? = some x → ∃ u, X[i]? = some (u :: rst x) ∧ LabelsAt H u (lab x)) (hL : ∀ x ∈ l, checkM (lab x) = 0) (h0 : l ≠ []) (hn : l.length < 1000000) (hwf : WF H) :
    AC tC N 0 f [.slice b 0 l.length cap z, .func g [] []] H fun r K => ∃ (l' : List β) (X' : List (List AV)), l'.Perm l ∧ (∀ (i j : Nat) x y, i < j → l'[i]? = some x → l'[j]? = some y → ¬ orderM (lab y) (lab x) < 0) ∧ K.get b = some (.cells false X'.flatten) ∧ X'.length = l'.length ∧
      (∀ (i : Nat) x, l'[i]? = some x → ∃ u, X'[i]? = some (u :: rst x) ∧ LabelsAt K u (lab x)) ∧ (∀ k y, k ≠ b → H.get k = some y → K.get k = some y) ∧ K.next = H.next := by
  have n0 : 0 < l.length := List.length_pos_iff.2 h0
  haveI : Inhabited (Fin l.length) := ⟨⟨0, n0⟩⟩
  have hl : ∀ i : Fin l.length, l[i.val]? = some l[i.val] := fun i => List.getElem?_eq_getElem i.isLt
  let u : Fin l.length → AV := fun i => ((X[i.val]?).getD []).headD .nils
  let rest : Fin l.length → List AV := fun i => rst l[i.val]
  let L : Fin l.length → Ls := fun i => lab l[i.val]
  have hu : ∀ i, X[i.val]? = some (rowF u rest i) ∧ LabelsAt H (u i) (L i) := fun i => by
    obtain ⟨v, h1, h2⟩ := hx i.val _ (hl i)
    have hv : u i = v := by show ((X[i.val]?).getD []).headD .nils = v; rw [h1]; rfl
    exact ⟨by rw [h1, rowF, hv], by rw [hv]; exact h2⟩
  have hmap : (List.finRange l.length).map (rowF u rest) = X := map_finRange hX _ fun i => (hu i).1
  have hlm : (List.finRange l.length).map (fun i => l[i.val]) = l := map_finRange rfl _ hl
  have hLc : ∀ i, checkM (L i) = 0 := fun i => hL _ (List.getElem_mem _)
  have hz : 0 < z := by have := hrl l[0]; omega
  refine (sortRows u rest L (f := f) (g := g) (z := z) hz (fun i => hrl _) (fun i => hrp _) (fun i => hro _) hLc (hcon l.length L hLc) (fun N H u1 u2 i j h1 h2 => hcmp N H u1 u2 _ _ h1 h2) hn N H (by rw [hmap]; exact hb) (fun i => (hu i).2)).mono ?_
  rintro r K ⟨σ, hp, hs, rfl⟩
  have hbk : ∀ ro vs, H.get b = some (.cells ro vs) → vs.all isStr = false := fun ro vs h => by
    rw [hb] at h; cases h
    rw [Bool.eq_false_iff]
    intro h
    have h1 := (hu ⟨0, n0⟩).1
    obtain ⟨k, n, hk⟩ := hrs l[0]
    have : X.flatten[0 * z + 1]? = some (.int k n) := by
      rw [flatten_uni (z := z) (fun x hx => ?_) 0 1 (by have := hrl l[0]; have := (List.getElem?_eq_some_iff.1 hk).1; omega), h1]
      · show (u _ :: rst l[0])[1]? = _; simpa using hk
      · rw [← hmap] at hx; obtain ⟨i, _, rfl⟩ := List.mem_map.1 hx; simp [rowF, rest, hrl]
    have := List.all_eq_true.1 h _ (List.mem_of_getElem? this)
    cases this
  have hks : KS H (H.set b (.cells false (σ.map (rowF u rest)).flatten)) := ⟨fun k ro vs h1 h2 h3 => by
    rw [AH.get_set, if_neg fun e => by
      subst e
      rcases h3 with h3 | h3
      · rw [hbk ro vs h1] at h3; cases h3
      · rw [hb] at h1; cases h1; cases h3]
    exact h1, Nat.le_refl _⟩
  refine ⟨σ.map fun i => l[i.val], σ.map (rowF u rest), ?_, fun i j x y hij hx hy => ?_, by rw [AH.get_set, if_pos rfl], by simp, fun i x hi => ?_, fun k y hk hy => by rw [AH.get_set, if_neg hk]; exact hy, rfl⟩
  · have := hp.map fun i : Fin l.length => l[i.val]
    rwa [hlm] at this
  · rw [List.getElem?_map, Option.map_eq_some_iff] at hx hy
    obtain ⟨p, hp1, rfl⟩ := hx
    obtain ⟨q, hq1, rfl⟩ := hy
    exact hs i j p q hij hp1 hq1
  · rw [List.getElem?_map, Option.map_eq_some_iff] at hi
    obtain ⟨p, hp1, rfl⟩ := hi
    refine ⟨u p, by rw [List.getElem?_map, hp1]; rfl, (hu p).2.keep hks⟩

set_option maxHeartbeats 1000000 in
theorem cmp58 (N : Bd) (H : AH) {u1 u2 : AV} {x y : Rs} (h1 : LabelsAt H u1 x.1) (h2 : LabelsAt H u2 y.1) : AC tC N 0 58 [.agg (rsC u1 x), .agg (rsC u2 y)] H fun r K => r = .int .i64 (compM x.1 y.1) ∧ K = H := by
  refine AC.quiet rfl ?_
  refine AC.wf0 fun wfH => ?_
  refine AC.by (n := 10) (rs := [.tmp 4]) tOK fn58 rfl rfl rfl rfl ?_
  have e0 : (PT.ofList .leaf 0 [AV.agg (rsC u1 x), .agg (rsC u2 y)]).get 0 = some (.agg [u1, .int .i64 x.2.1, .bool x.2.2]) := rfl
  have e1 : (PT.ofList .leaf 0 [AV.agg (rsC u1 x), .agg (rsC u2 y)]).get 1 = some (.agg [u2, .int .i64 y.2.1, .bool y.2.2]) := rfl
  generalize hK1 : H.alloc (.cells false [u1, .int .i64 x.2.1, .bool x.2.2]) = K1
  obtain ⟨sK1, wfK1, nK1, gK1⟩ := laid wfH hK1
  generalize hK2 : K1.alloc (.cells false [u2, .int .i64 y.2.1, .bool y.2.2]) = K2
  obtain ⟨sK2, wfK2, nK2, gK2⟩ := laid wfK1 hK2
  have gK1 := sK2 _ _ gK1
  have s2 : ∀ b z, H.get b = some z → K2.get b = some z := fun b z hz => sK2 _ _ (sK1 _ _ hz)
  refine zs8 @ld29 @fa58_0 @e0 @e1 @hK1 @hK2 @gK1 @gK2 ?_
  refine AOs.cq tOK fn40 ok40 (compare40 N K2 (h1.keep (KS.of s2 (by omega))) (h2.keep (KS.of s2 (by omega)))) ?_
  rintro r K3 ⟨rfl, rfl⟩
  refine zs0 ?_
  exact fr1 ⟨rfl, s2⟩
set_option maxHeartbeats 1000000 in
theorem cmp56 (N : Bd) (H : AH) {u1 u2 : AV} {x y : Ch} (h1 : LabelsAt H u1 x.1) (h2 : LabelsAt H u2 y.1) : AC tC N 0 56 [.agg (chC u1 x), .agg (chC u2 y)] H fun r K => r = .int .i64 (compM x.1 y.1) ∧ K = H := by
  refine AC.quiet rfl ?_
  refine AC.wf0 fun wfH => ?_
  refine AC.by (n := 10) (rs := [.tmp 4]) tOK fn56 rfl rfl rfl rfl ?_
  have e0 : (PT.ofList .leaf 0 [AV.agg (chC u1 x), .agg (chC u2 y)]).get 0 = some (.agg [u1, .int .i64 x.2.1, .bool x.2.2.1, .bool x.2.2.2]) := rfl
  have e1 : (PT.ofList .leaf 0 [AV.agg (chC u1 x), .agg (chC u2 y)]).get 1 = some (.agg [u2, .int .i64 y.2.1, .bool y.2.2.1, .bool y.2.2.2]) := rfl
  generalize hK1 : H.alloc (.cells false [u1, .int .i64 x.2.1, .bool x.2.2.1, .bool x.2.2.2]) = K1
  obtain ⟨sK1, wfK1, nK1, gK1⟩ := laid wfH hK1
  generalize hK2 : K1.alloc (.cells false [u2, .int .i64 y.2.1, .bool y.2.2.1, .bool y.2.2.2]) = K2
  obtain ⟨sK2, wfK2, nK2, gK2⟩ := laid wfK1 hK2
  have gK1 := sK2 _ _ gK1
  have s2 : ∀ b z, H.get b = some z → K2.get b = some z := fun b z hz => sK2 _ _ (sK1 _ _ hz)
  refine zs8 @ld29 @fa33_0 @e0 @e1 @hK1 @hK2 @gK1 @gK2 ?_
  refine AOs.cq tOK fn40 ok40 (compare40 N K2 (h1.keep (KS.of s2 (by omega))) (h2.keep (KS.of s2 (by omega)))) ?_
  rintro r K3 ⟨rfl, rfl⟩
  refine zs0 ?_
  exact fr1 ⟨rfl, s2⟩

theorem enters56 : ∀ args w, (callFunc 56 args).run Tryz.prog w = .ok (.enter 56 args) w := enters_of Tryz.func56 (by kernel_rfl) rfl
theorem enters58 : ∀ args w, (callFunc 58 args).run Tryz.prog w = .ok (.enter 58 args) w := enters_of Tryz.func58 (by kernel_rfl) rfl
theorem con57 (n : Nat) [Inhabited (Fin n)] (L : Fin n → Ls) (hL : ∀ i, checkM (L i) = 0) (enc : Fin n → List Value) (hk : ∀ x, (enc x).length = 3) (h1 : ∀ x, ∀ v ∈ enc x, v.oneCell' = true) (blk off cap : Nat) (d : Array (Fin n)) (w : World) (hc : CmpLays Tryz.prog 58 #[] enc 3 (orderF L) blk off d.size w) (hH : HoldsK enc 3 w blk off d) (hb : blk < w.heap.size) (hs : d.size < 4611686018427387904) :
    Calls Tryz.prog 57 #[.slice (some ⟨blk, off, none⟩) d.size cap, .func (.func 58) #[] #[]] w fun e w' => e = .returned (.tuple #[]) ∧ ∃ d' m os, PermIn 0 d.size d d' ∧ SortedIn (ltOf (orderF L)) 0 d.size d' ∧ w' = sortWorldK enc 3 w blk off m d' os :=
  AnyQ.slices_SortFunc Tryz.sort57 3 Tryz.isAgg58 Tryz.sizeOf58 enc hk h1 (orderF L) (swoF L hL) 58 #[] blk off cap d w enters58 hc hH hb hs
theorem con55 (n : Nat) [Inhabited (Fin n)] (L : Fin n → Ls) (hL : ∀ i, checkM (L i) = 0) (enc : Fin n → List Value) (hk : ∀ x, (enc x).length = 4) (h1 : ∀ x, ∀ v ∈ enc x, v.oneCell' = true) (blk off cap : Nat) (d : Array (Fin n)) (w : World) (hc : CmpLays Tryz.prog 56 #[] enc 4 (orderF L) blk off d.size w) (hH : HoldsK enc 4 w blk off d) (hb : blk < w.heap.size) (hs : d.size < 4611686018427387904) :
    Calls Tryz.prog 55 #[.slice (some ⟨blk, off, none⟩) d.size cap, .func (.func 56) #[] #[]] w fun e w' => e = .returned (.tuple #[]) ∧ ∃ d' m os, PermIn 0 d.size d d' ∧ SortedIn (ltOf (orderF L)) 0 d.size d' ∧ w' = sortWorldK enc 4 w blk off m d' os :=
  AnyQ.slices_SortFunc Tryz.sort55 4 Tryz.isAgg33 Tryz.sizeOf33 enc hk h1 (orderF L) (swoF L hL) 56 #[] blk off cap d w enters56 hc hH hb hs

/-- Changes sorted. -/
theorem sort55 (N : Bd) (H : AH) {b : Nat} {cap : ACap} {l : List Ch} {X : List (List AV)} (hb : H.get b = some (.cells false X.flatten)) (hX : X.length = l.length) (hx : ∀ (i : Nat) x, l[i]? = some x → ∃ u, X[i]? = some (chC u x) ∧ LabelsAt H u x.1) (hL : ∀ x ∈ l, checkM x.1 = 0) (h0 : l ≠ []) (hn : l.length < 1000000) (hwf : WF H) :
    AC tC N 0 55 [.slice b 0 l.length cap 4, .func 56 [] []] H fun r K => ∃ (l' : List Ch) (X' : List (List AV)), l'.Perm l ∧ (∀ (i j : Nat) x y, i < j → l'[i]? = some x → l'[j]? = some y → ¬ orderM y.1 x.1 < 0) ∧ K.get b = some (.cells false X'.flatten) ∧ X'.length = l'.length ∧
      (∀ (i : Nat) x, l'[i]? = some x → ∃ u, X'[i]? = some (chC u x) ∧ LabelsAt K u x.1) ∧ (∀ k y, k ≠ b → H.get k = some y → K.get k = some y) ∧ K.next = H.next :=
  srtG (f := 55) (g := 56) (fun c : Ch => [.int .i64 c.2.1, .bool c.2.2.1, .bool c.2.2.2]) (fun c => c.1) (fun _ => rfl) (fun _ => rfl) (fun _ => rfl) (fun c => ⟨_, _, rfl⟩) con55 (fun N H u1 u2 x y h1 h2 => cmp56 N H h1 h2) N H hb hX hx hL h0 hn hwf
/-- Results sorted. -/
theorem sort57 (N : Bd) (H : AH) {b : Nat} {cap : ACap} {l : List Rs} {X : List (List AV)} (hb : H.get b = some (.cells false X.flatten)) (hX : X.length = l.length) (hx : ∀ (i : Nat) x, l[i]? = some x → ∃ u, X[i]? = some (rsC u x) ∧ LabelsAt H u x.1) (hL : ∀ x ∈ l, checkM x.1 = 0) (h0 : l ≠ []) (hn : l.length < 1000000) (hwf : WF H) :
    AC tC N 0 57 [.slice b 0 l.length cap 3, .func 58 [] []] H fun r K => ∃ (l' : List Rs) (X' : List (List AV)), l'.Perm l ∧ (∀ (i j : Nat) x y, i < j → l'[i]? = some x → l'[j]? = some y → ¬ orderM y.1 x.1 < 0) ∧ K.get b = some (.cells false X'.flatten) ∧ X'.length = l'.length ∧
      (∀ (i : Nat) x, l'[i]? = some x → ∃ u, X'[i]? = some (rsC u x) ∧ LabelsAt K u x.1) ∧ (∀ k y, k ≠ b → H.get k = some y → K.get k = some y) ∧ K.next = H.next :=
  srtG (f := 57) (g := 58) (fun c : Rs => [.int .i64 c.2.1, .bool c.2.2]) (fun c => c.1) (fun _ => rfl) (fun _ => rfl) (fun _ => rfl) (fun c => ⟨_, _, rfl⟩) con57 (fun N H u1 u2 x y h1 h2 => cmp58 N H h1 h2) N H hb hX hx hL h0 hn hwf

theorem constF {f : FuncId} {args : List AV} {r : AV} (h : constR r (evCall tC tKnown tExt 0 100000 100 f args H0) = true) (ha : ∀ (ρ ρ' : Names) vs, VRs ρ args vs → VRs ρ' args vs) (N : Bd) (hd : N.d = 0) (H : AH) : AC tC N 0 f args H fun x K => x = r ∧ K = H := fun ρ w vs hR hv => by
  cases hx : evCall tC tKnown tExt 0 100000 100 f args H0 with
  | none => rw [hx] at h; cases h
  | some p =>
    obtain ⟨x, H1⟩ := p
    rw [hx] at h
    simp only [constR, Bool.and_eq_true] at h
    obtain rfl := eqV_eq _ _ h.1
    refine (evCall_ok tOK tCodes (tKnownOK ⟨w.heap.size, 0⟩ rfl) hx (R.start w) (ha _ _ vs hv)).mono ?_
    rintro e w' ⟨v, ρ', rfl, hv, _, hF⟩
    obtain ⟨r1, r2⟩ := hR.below hF.start (by omega)
    exact ⟨v, ρ, x, H, ⟨rfl, rfl⟩, rfl, plainR_ok x v h.2 hv, r1, r2⟩
theorem VR_nf (g : FuncId) (ρ ρ' : Names) (vs : List Value) (h : VRs ρ [.nils, .func g [] []] vs) : VRs ρ' [.nils, .func g [] []] vs := by
  simp only [VRs, VR] at h ⊢; exact h
theorem nil55 (N : Bd) (hd : N.d = 0) (H : AH) : AC tC N 0 55 [.nils, .func 56 [] []] H fun r K => r = .tuple [] ∧ K = H := constF (by kernel_rfl) (VR_nf 56) N hd H
theorem nil57 (N : Bd) (hd : N.d = 0) (H : AH) : AC tC N 0 57 [.nils, .func 58 [] []] H fun r K => r = .tuple [] ∧ K = H := constF (by kernel_rfl) (VR_nf 58) N hd H

/-! A map's keys, sorted. -/
theorem keys54 (N : Bd) (H : AH) {m : Nat} : AC tC N 0 54 [.map m] H fun r K => r = .func 89 [] [.ptr H.next 0] ∧ K = H.alloc (.cells false [.map m]) := by
  refine AC.by (n := 4) (rs := [.tmp 2]) tOK fn54 rfl rfl rfl rfl ?_
  have e0 : (PT.ofList .leaf 0 [AV.map m]).get 0 = some (.map m) := rfl
  refine zp1 @e0 ?_
  exact fr1 ⟨rfl, rfl⟩
theorem lensOk_of : ∀ {ps : List (List UInt8 × AV)}, (∀ p ∈ ps, p.1.length ≤ 1000000) → lensOk ps = true
  | [], _ => rfl
  | p :: ps, h => by
    rw [lensOk, lensOk_of fun q hq => h q (List.mem_cons_of_mem _ hq), Bool.and_true]
    exact Nat.ble_eq_true_of_le (Nat.le_trans (h p (List.mem_cons_self)) (by decide))
theorem sorted53 (N : Bd) (hd : N.d = 0) (H : AH) {b m : Nat} {ps : List (List UInt8 × AV)} {ver : Nat} (hb : H.get b = some (.cells false [.map m])) (hm : H.get m = some (.map ps ver)) (hl : ∀ p ∈ ps, p.1.length ≤ 1000000) (hn : ps.length ≤ 1000000) (hwf : WF H) :
    AC tC N 0 53 [.func 89 [] [.ptr b 0]] H fun r K => ∃ ks, ks.Perm (ps.map (·.1)) ∧ NamesAt K r ks ∧ H.next ≤ K.next ∧ ∀ k y, H.get k = some y → K.get k = some y := fun ρ w vs hR hv => by
  have hc : (lensOk ps && Nat.ble (ps.length * 16) 140737488355328) = true := by
    rw [lensOk_of hl, Bool.true_and]; exact Nat.ble_eq_true_of_le (by omega)
  have hperm := isortK_perm (ps.map (·.1))
  have hsp : ∃ r K, specSorted 89 [.func 89 [] [.ptr b 0]] H = some (r, K) ∧ NamesAt K r (isortK (ps.map (·.1))) ∧ H.next ≤ K.next ∧ ∀ k y, H.get k = some y → K.get k = some y := by
    simp only [specSorted, Nat.beq_refl, cond_true, hb, hm, hc]
    cases hk : isortK (ps.map (·.1)) with
    | nil => exact ⟨_, _, rfl, .inl ⟨rfl, rfl, rfl⟩, Nat.le_refl _, fun _ _ h => h⟩
    | cons k ks =>
      refine ⟨_, _, rfl, .inr ⟨H.next, 0, _, false, _, rfl, by rw [AH.get_alloc, if_pos rfl], .inr (strs_str (k :: ks)), by simp, fun i s hi => ?_⟩, by rw [AH.next_alloc]; omega, stay_alloc hwf _⟩
      rw [Nat.zero_add, Nat.mul_one]
      show ((k :: ks).map AV.str)[i]? = _
      rw [List.getElem?_map, hi]; rfl
  obtain ⟨r, K, hsp, q1, q2, q3⟩ := hsp
  refine (specSorted_ok (P := Tryz.prog) (kt := 9) Tryz.underlying9 (fun Bm b nn D0 w => Tryz.sortedAt anyElem Bm b nn D0 w) hd hsp hR hv).mono ?_
  rintro e w' ⟨v, ρ', he, h1, h2, h3⟩
  exact ⟨v, ρ', r, K, ⟨_, hperm, q1, q2, q3⟩, he, h1, h2, h3⟩

/-- What a group of these results tells. -/
structure Tells (f : Int) (ns : List Nm) (M W : List Rs) : Prop where
  rise : Rise W
  ok : ∀ r ∈ W, rightM r = true
  mem : ∀ (x : Ls) (v : Int × Bool), (x, v) ∈ W ↔ (∃ r ∈ M, onlyM ns r.1 = x) ∧ v = valG f (selM ns x M)

/-- Results put together by append. -/
def AccR (n0 : Nat) (K : AH) (w : AV) (out : List Rs) : Prop :=
  (w = .nils ∧ out = []) ∨ ∃ (b : Nat) (X : List (List AV)), w = .slice b 0 out.length (.lo out.length) 3 ∧ n0 ≤ b ∧ K.get b = some (.cells false X.flatten) ∧ X.length = out.length ∧ out ≠ [] ∧ ∀ (i : Nat) r, out[i]? = some r → ∃ u, X[i]? = some (rsC u r) ∧ LabelsAt K u r.1
theorem AccR.keep {n0 : Nat} {H K : AH} {w : AV} {out : List Rs} (h : AccR n0 H w out) (hk : ∀ b x, n0 ≤ b → H.get b = some x → K.get b = some x) (hs : KS H K) : AccR n0 K w out := by
  rcases h with h | ⟨b, X, rfl, h1, h2, h3, h4, h5⟩
  · exact .inl h
  · exact .inr ⟨b, X, rfl, h1, hk b _ h1 h2, h3, h4, fun i r hi => let ⟨u, h6, h7⟩ := h5 i r hi; ⟨u, h6, h7.keep hs⟩⟩
theorem R3_of {out : List Rs} {X : List (List AV)} {K : AH} (hl : X.length = out.length) (hx : ∀ (i : Nat) r, out[i]? = some r → ∃ u, X[i]? = some (rsC u r) ∧ LabelsAt K u r.1) : ∀ l ∈ X, l.length = 3 := fun l h => by
  obtain ⟨i, hi⟩ := List.getElem?_of_mem h
  have hlt := (List.getElem?_eq_some_iff.1 hi).1
  obtain ⟨u, h1, _⟩ := hx i _ (List.getElem?_eq_getElem (by omega))
  rw [hi] at h1; cases h1; rfl
theorem row_nostr {X : List (List AV)} {z : Nat} {u : AV} {rs : List AV} {k : IntKind} {n : Int} (h3 : ∀ l ∈ X, l.length = z) (h : X[0]? = some (u :: .int k n :: rs)) : X.flatten.all isStr = false := by
  rw [Bool.eq_false_iff]
  intro hs
  have hz : z = rs.length + 2 := by rw [← h3 _ (List.mem_of_getElem? h)]; rfl
  have := flatten_uni h3 0 1 (by omega)
  rw [h] at this
  have := List.all_eq_true.1 hs _ (List.mem_of_getElem? this)
  cases this
theorem accR_append {n0 k : Nat} {K : AH} {w u : AV} {out : List Rs} {r : Rs} (hw : WF K) (hn : n0 ≤ K.next) (h : AccR n0 K w out) (hu : LabelsAt K u r.1) (hk : K.get k = some (.cells false (rsC u r))) (hN : out.length ≤ 1000000) :
    ∃ w' K', aappend tC K [22, 22] [w, .slice k 0 1 (.ex 1) 3] = some (w', K') ∧ AccR n0 K' w' (out ++ [r]) ∧ K'.next = K.next + 1 ∧ (∀ b y, b < n0 → K.get b = some y → K'.get b = some y) := by
  obtain ⟨j, t1, t2, t3, t4, t5⟩ := ti58'
  have hx := aappended_z (C := tC) (H := K) (j := j) (xt := 22) (e := 58) (b := k) (o := 0) (n := 1) (z' := 3) (c := .ex 1) ti22 rfl hk (cs := rsC u r) (by rw [t2]; rfl) (by rw [t2]; rfl)
  have hone : allOne (rsC u r) = true := by simp [allOne, rsC, hu.one, one_int, one_bool]
  have hz := t4
  rcases h with ⟨rfl, rfl⟩ | ⟨b, X, rfl, h1, h2, h3, h4, h5⟩
  · obtain ⟨K', e1, e2, e3, e4⟩ := accz_append (C := tC) (st := 22) (xt := 22) (v := .nils) (n := 0) (vs := []) (m := 1) ti22 rfl t1 hz rfl (by rw [t2]; rfl) (by rw [t3]; decide) hw (.inl ⟨rfl, rfl, rfl⟩) hx (by rw [t2]; rfl) (by decide) hone (by omega)
    rw [t2] at e1
    refine ⟨_, K', e1, .inr ⟨K.next, [rsC u r], rfl, hn, by simpa using e2, rfl, by simp, fun i s hi => ?_⟩, e3, fun b y _ hy => e4 b y hy fun o n c z e => by cases e⟩
    cases i with
    | zero =>
      simp at hi; subst hi
      exact ⟨u, rfl, hu.keep ⟨fun b ro vs g1 _ _ => e4 b _ g1 fun o n c z e => (by cases e), by omega⟩⟩
    | succ i => simp at hi
  · have h30 := R3_of h3 h5
    have hz0 : out.length ≠ 0 := fun e => h4 (List.eq_nil_of_length_eq_zero e)
    have hac : AccZ j.size K (.slice b 0 out.length (.lo out.length) 3) out.length X.flatten := by rw [t2]; exact .inr ⟨b, rfl, h2, by rw [flatten_len h30, h3], hz0⟩
    obtain ⟨K', e1, e2, e3, e4⟩ := accz_append (C := tC) (st := 22) (xt := 22) (m := 1) ti22 rfl t1 hz rfl (by rw [t2]; rfl) (by rw [t3]; decide) hw hac hx (by rw [t2]; rfl) (by decide) hone (by omega)
    rw [t2] at e1
    obtain ⟨u0, q1, _⟩ := h5 0 _ (List.getElem?_eq_getElem (by omega))
    have hkk : ∀ k' ro vs, K.get k' = some (.cells ro vs) → vs ≠ [] → (vs.all isStr = true ∨ ro = true) → K'.get k' = some (.cells ro vs) := by
      intro k' ro vs g1 _ g3
      refine e4 k' _ g1 fun o n c z e => ?_
      cases e
      rw [h2] at g1; cases g1
      rcases g3 with g3 | g3
      · rw [row_nostr h30 q1] at g3; cases g3
      · cases g3
    have hks : KS K K' := ⟨hkk, by omega⟩
    refine ⟨_, K', e1, .inr ⟨K.next, X ++ [rsC u r], by simp, hn, by rw [e2]; simp, by simp [h3], by simp, fun i s hi => ?_⟩, e3, fun b' y hb hy => e4 b' y hy fun o n c z e => by cases e; omega⟩
    by_cases hil : i < out.length
    · rw [List.getElem?_append_left hil] at hi
      obtain ⟨u', h6, h7⟩ := h5 i s hi
      exact ⟨u', by rw [List.getElem?_append_left (by omega)]; exact h6, h7.keep hks⟩
    · have hi2 : i = out.length := by
        have := (List.getElem?_eq_some_iff.1 hi).1
        simp at this; omega
      subst hi2
      rw [List.getElem?_append_right (Nat.le_refl _), Nat.sub_self] at hi
      cases Option.some.inj hi
      exact ⟨u, by rw [← h3, List.getElem?_append_right (Nat.le_refl _), Nat.sub_self]; rfl, hu.keep hks⟩
theorem nodup_le {α : Type} [DecidableEq α] : ∀ {l m : List α}, l.Nodup → (∀ x ∈ l, x ∈ m) → l.length ≤ m.length
  | [], _, _, _ => Nat.zero_le _
  | x :: xs, m, h, hs => by
    rw [List.nodup_cons] at h
    have hx := hs x (List.mem_cons_self)
    have := nodup_le (l := xs) (m := m.erase x) h.2 fun y hy => (List.mem_erase_of_ne fun e : y = x => h.1 (e ▸ hy)).2 (hs y (List.mem_cons_of_mem _ hy))
    have := List.length_erase_of_mem hx
    have := List.length_pos_of_mem hx
    simp only [List.length_cons]; omega
theorem cells_le {cs : List GCell} {ns : List Nm} {M : List Rs} (hn : (cs.map (·.x)).Nodup) (h : HasC cs ns M) : cs.length ≤ M.length := by
  have := nodup_le (m := M.map fun r => onlyM ns r.1) hn fun x hx => by
    obtain ⟨c, hc, rfl⟩ := List.mem_map.1 hx
    obtain ⟨r, hr, e⟩ := (h c.x).1 ⟨c, hc, rfl⟩
    exact List.mem_map.2 ⟨r, hr, e⟩
  simpa using this
theorem ar74 (H : AH) (m : Nat) : arange tC H 74 (.map m) = rangeMapAt H m := arange_map ti74 rfl H m
theorem ents_keysC (cs : List GCell) : (ents (entC cs)).map (·.1) = cs.map fun c => keyM c.x := by simp [ents, entC]

/-- Sorted, and no labels twice: in order. -/
theorem rise_of {l l' : List Rs} (hp : l'.Perm l) (hs : ∀ (i j : Nat) x y, i < j → l'[i]? = some x → l'[j]? = some y → ¬ orderM y.1 x.1 < 0) (hn : (l.map (·.1)).Nodup) : Rise l' := fun i j r s hij hi hj => by
  have h1 := hs i j r s hij hi hj
  have hn' : (l'.map (·.1)).Nodup := (hp.map _).nodup_iff.2 hn
  have hne : r.1 ≠ s.1 := fun e => by
    have hi' : (l'.map (·.1))[i]? = some r.1 := by rw [List.getElem?_map, hi]; rfl
    have hj' : (l'.map (·.1))[j]? = some s.1 := by rw [List.getElem?_map, hj]; rfl
    have a := (List.getElem?_eq_some_iff.1 hi').1
    have b := (List.getElem?_eq_some_iff.1 hj').1
    have := List.pairwise_iff_getElem.1 hn' i j a b hij
    rw [List.getElem?_eq_getElem a] at hi'
    rw [List.getElem?_eq_getElem b] at hj'
    rw [Option.some.inj hi', Option.some.inj hj'] at this
    exact this e
  have h2 := orderM_swap r.1 s.1
  have h3 : orderM r.1 s.1 ≠ 0 := fun e => hne (orderM_zero.1 e)
  omega

theorem valA_eq (v : Int × Bool) : valA v = .agg [.int .i64 v.1, .bool v.2] := rfl
theorem keysDone {cs vs : List GCell} (hok : ∀ c ∈ cs, checkM c.x = 0) (hsub : ∀ c ∈ vs, c ∈ cs) (hn : (cs.map (·.x)).Nodup) (hp : (vs.map fun c => keyM c.x).Perm (cs.map fun c => keyM c.x)) : (vs.map (·.x)).Nodup ∧ ∀ x, (∃ c ∈ vs, c.x = x) ↔ ∃ c ∈ cs, c.x = x := by
  have hkn : (cs.map fun c => keyM c.x).Nodup := by
    have e : (cs.map fun c => keyM c.x) = (cs.map (·.x)).map keyM := by rw [List.map_map]; rfl
    rw [e]
    refine List.pairwise_map.2 ((List.Pairwise.and_mem.1 hn).imp fun {a b} h e => ?_)
    obtain ⟨h1, h2, h3⟩ := h
    obtain ⟨c, hc, rfl⟩ := List.mem_map.1 h1
    obtain ⟨d, hd, rfl⟩ := List.mem_map.1 h2
    exact h3 (keyM_inj (hok c hc) (hok d hd) e)
  have hvn := hp.nodup_iff.2 hkn
  refine ⟨?_, fun x => ⟨fun ⟨c, hc, e⟩ => ⟨c, hsub c hc, e⟩, fun ⟨c, hc, e⟩ => ?_⟩⟩
  · have e : (vs.map fun c => keyM c.x) = (vs.map (·.x)).map keyM := by rw [List.map_map]; rfl
    rw [e] at hvn
    exact (List.pairwise_map.1 hvn).imp fun {a b} h e => h (by rw [e])
  · have : keyM c.x ∈ vs.map fun c => keyM c.x := hp.mem_iff.2 (List.mem_map.2 ⟨c, hc, rfl⟩)
    obtain ⟨d, hd, hk⟩ := List.mem_map.1 this
    exact ⟨d, hd, by rw [keyM_inj (hok d (hsub d hd)) (hok c hc) hk, e]⟩

def rowG (f : Int) (ns : List Nm) (M : List Rs) (c : GCell) : Rs := (c.x, valG f (selM ns c.x M))
theorem rowG_right {f : Int} {ns : List Nm} {M : List Rs} {c : GCell} (h : checkM c.x = 0) : rightM (rowG f ns M c) = true := by
  unfold rightM rowG
  simp only [Bool.and_eq_true, decide_eq_true_eq]
  exact ⟨h, valM_right _ _ _ _ _ _⟩
theorem tells_of {f : Int} {ns : List Nm} {M : List Rs} {cs vs : List GCell} {l' : List Rs} (hok : ∀ c ∈ cs, checkM c.x = 0) (hsub : ∀ c ∈ vs, c ∈ cs) (hn : (vs.map (·.x)).Nodup) (hx : ∀ x, (∃ c ∈ vs, c.x = x) ↔ ∃ r ∈ M, onlyM ns r.1 = x)
    (hp : l'.Perm (vs.map (rowG f ns M))) (hs : ∀ (i j : Nat) x y, i < j → l'[i]? = some x → l'[j]? = some y → ¬ orderM y.1 x.1 < 0) : Tells f ns M l' where
  rise := rise_of hp hs (by
    have e : (vs.map (rowG f ns M)).map (·.1) = vs.map (·.x) := by rw [List.map_map]; rfl
    rw [e]; exact hn)
  ok r hr := by
    obtain ⟨c, hc, rfl⟩ := List.mem_map.1 (hp.mem_iff.1 hr)
    exact rowG_right (hok c (hsub c hc))
  mem x v := by
    rw [hp.mem_iff, List.mem_map, ← hx x]
    constructor
    · rintro ⟨c, hc, e⟩
      have e1 : c.x = x := congrArg Prod.fst e
      have e2 : valG f (selM ns c.x M) = v := congrArg Prod.snd e
      exact ⟨⟨c, hc, e1⟩, by rw [← e2, e1]⟩
    · rintro ⟨⟨c, hc, e⟩, rfl⟩
      exact ⟨c, hc, by rw [rowG, e]⟩

set_option maxHeartbeats 8000000 in
theorem vector21 (N : Bd) (hd : N.d = 0) (H : AH) {g m : Nat} {f : Int} {un ui : AV} {ns : List Nm} {M : List Rs} {cs : List GCell} (hg : H.get g = some (.cells false [.int .i64 f, un, ui, .map m])) (hc : CellsH H m ns M cs) (hhas : HasC cs ns M) (hM : M.length ≤ 100000) :
    AC tC N 0 21 [.ptr g 0] H fun r K => ∃ W, VecAt K r W ∧ capOK r ∧ Tells f ns M W ∧ W.length ≤ M.length ∧ (∀ b y, H.get b = some y → K.get b = some y) ∧ H.next ≤ K.next := by
  refine AC.wf0 fun wfH => ?_
  refine AC.by (n := 36) (rs := [.tmp 2]) tOK fn21 rfl rfl rfl rfl ?_
  have e0 : (PT.ofList .leaf 0 [AV.ptr g 0]).get 0 = some (.ptr g 0) := rfl
  obtain ⟨ver, hmap⟩ := hc.map
  have hvb := hc.ver _ _ hmap
  have hcl := cells_le hc.xs hhas
  have mN := wfH _ _ hmap
  refine zs1 @e0 ?_
  refine AOs.cq tOK fn45 ok45 (made45 N H hg) ?_
  rintro r K ⟨rfl, rfl⟩
  refine zp5 @e0 @hg @ar74 @hmap @hvb ?_
  refine AW.loop (fun mm T L => (∀ b o, K.get b = some o → L.get b = some o) ∧ K.next < L.next ∧ T.get 0 = some (.ptr g 0) ∧ ∃ (left : List Nm) (cur : Option Nm) (vs : List GCell) (w : AV), mm = left.length ∧ T.get 13 = some (.ptr K.next 0) ∧ L.get K.next = some (.miter m left ver cur) ∧ (∀ c ∈ vs, c ∈ cs) ∧ ((vs.map fun c => keyM c.x) ++ left).Perm (cs.map fun c => keyM c.x) ∧ T.get 3 = some w ∧ AccR (K.next + 1) L w (vs.map (rowG f ns M))) ?_ ((ents (entC cs)).map (·.1)).length
    ⟨?_, ?_, ?_, (ents (entC cs)).map (·.1), none, [], .nils, rfl, ?_, ?_, ?_, ?_, ?_, .inl ⟨rfl, rfl⟩⟩
  · rintro mm T L ⟨hk, hnx, g0, left, cur, vs, w, rfl, g13, hit, hsub, hperm, g3, hacc⟩
    refine AW.wf0 fun wfL => ?_
    have hvl : vs.length + left.length = cs.length := by have := hperm.length_eq; simp at this; exact this
    refine AW.seq ?_
    refine AW.region ?_
    refine AOs.nextM (by simp only [aeval, g13]) hit (hk _ _ hmap) (by rfl) ?_ ?_
    · rintro rfl
      rw [List.append_nil] at hperm
      obtain ⟨hvn, hvx⟩ := keysDone hc.ok hsub hc.xs hperm
      have hvx2 : ∀ x, (∃ c ∈ vs, c.x = x) ↔ ∃ r ∈ M, onlyM ns r.1 = x := fun x => (hvx x).trans (hhas x)
      refine zs1 @g3 ?_
      rcases hacc with ⟨rfl, hnil⟩ | ⟨b, X, rfl, h1, h2, h3, h4, h5⟩
      · refine AOs.cq tOK fn57 ok57 (nil57 N hd L) ?_
        rintro r L ⟨rfl, rfl⟩
        refine zs1 @g3 ?_
        refine fnPost_ret1 (a := AV.nils) gt1 ⟨[], .inl ⟨rfl, rfl, rfl⟩, True.intro, tells_of hc.ok hsub hvn hvx2 (by rw [hnil]) (fun i j x y _ hx => by simp at hx), Nat.zero_le _, hk, Nat.le_of_lt hnx⟩
      · refine AOs.cq tOK fn57 ok57 (sort57 N L h2 h3 h5 (fun x hx => ?_) h4 (by simp; omega) wfL) ?_
        · obtain ⟨c, hcv, rfl⟩ := List.mem_map.1 hx
          exact hc.ok c (hsub c hcv)
        rintro r L2 ⟨l', X', hp, hs, q1, q2, q3, q4, q5⟩
        refine zs1 @g3 ?_
        have hlen : (vs.map (rowG f ns M)).length = l'.length := hp.length_eq.symm
        have h30 := R3_of q2 q3
        refine fnPost_ret1 gt1 ⟨l', .inr ⟨b, 0, .lo (vs.map (rowG f ns M)).length, false, X'.flatten, by rw [hlen], q1, ?_, fun i s hi => ?_⟩, Nat.le_refl _, tells_of hc.ok hsub hvn hvx2 hp hs, by rw [← hlen, List.length_map]; omega, fun k y hy => q4 k y (by have := wfH _ _ hy; omega) (hk _ _ hy), by omega⟩
        · intro e; rw [e] at hlen; simp at hlen h4; exact h4 hlen
        · obtain ⟨u, h6, h7⟩ := q3 i s hi
          refine ⟨u, ?_, h7⟩
          rw [Nat.zero_add]
          refine List.ext_getElem? fun j => ?_
          by_cases hj : j < 3
          · rw [List.getElem?_take_of_lt hj, List.getElem?_drop, flatten_uni h30 i j hj, h6]; rfl
          · rw [List.getElem?_eq_none (by rw [List.length_take]; omega), List.getElem?_eq_none (by show (rsC u s).length ≤ j; simp [rsC]; omega)]
    · intro k x hkl hx
      have hkm : k ∈ cs.map fun c => keyM c.x := hperm.mem_iff.1 (List.mem_append.2 (.inr hkl))
      obtain ⟨c, hcm, rfl⟩ := List.mem_map.1 hkm
      obtain ⟨A, B, hAB⟩ := List.append_of_mem hcm
      have hgn : getN (entC cs) (keyM c.x) = some c.cb := by rw [hAB]; exact getN_some (by rw [← hAB]; exact hc.ok) (xs_mid (by rw [← hAB]; exact hc.xs)).2
      rw [mget_ents, hgn] at hx
      simp only [Option.map_some, Option.some.injEq] at hx
      subst hx
      have hm2 := hk _ _ hmap
      have hne1 : ¬ m = K.next := by omega
      generalize hL1 : L.set K.next (.miter m (left.erase (keyM c.x)) ver (some (keyM c.x))) = L1
      have g1 : ∀ j, L1.get j = if j = K.next then some (.miter m (left.erase (keyM c.x)) ver (some (keyM c.x))) else L.get j := fun j => by rw [← hL1]; exact AH.get_set _ _ _ _
      have n1 : L1.next = L.next := by rw [← hL1]; rfl
      have k1 : ∀ j y, j ≠ K.next → L.get j = some y → L1.get j = some y := fun j y hj hy => by rw [g1, if_neg hj]; exact hy
      have kK : ∀ j y, K.get j = some y → L1.get j = some y := fun j y hy => k1 j y (by have := wfH _ _ hy; omega) (hk _ _ hy)
      have ks1 : KS L L1 := ⟨fun b ro vs h1 h2 h3 => k1 b _ (fun e => by subst e; rw [hit] at h1; cases h1) h1, by omega⟩
      have wfL1 : WF L1 := fun b y hy => by
        rw [g1] at hy
        split at hy
        · omega
        · have := wfL _ _ hy; omega
      have hit1 : L1.get K.next = some (.miter m (left.erase (keyM c.x)) ver (some (keyM c.x))) := by rw [g1, if_pos rfl]
      have hm1 := kK _ _ hmap
      have hg1 := kK _ _ hg
      have hc1 : CellsH L1 m ns M cs := hc.keep (fun b _ y hy => kK _ _ hy) (KS.of kK (by omega))
      have hcl1 := hc1.cell c hcm
      have hacc1 : AccR (K.next + 1) L1 w (vs.map (rowG f ns M)) := hacc.keep (fun b x hb hx => k1 b x (by omega) hx) ks1
      have hcb : L1.get c.cb = some (.cells false [c.vl, .int .i64 (hiI (sumV (selM ns c.x M))), .int .u64 (loN (sumV (selM ns c.x M)) : Nat), .int .u64 (loN (ovV (selM ns c.x M) : Nat) : Nat), .int .i64 ((selM ns c.x M).length : Nat), .ptr c.q 0]) := hcl1.here
      have hsl := selM_le ns c.x M
      have hcx8 := checkM_len (hc.ok c hcm)
      with_reducible repeat' first | refine za ?_ | (refine AOs.o1 tOK ?_; refine Step.mk (by simp only [evc, evr, aeval, Nat.reduceEqDiff, reduceIte, eq_self, g13, hit1, hm1, aentry, mget_ents, hgn]; rfl) ?_) | fail
      refine AW.drawN tOK (Qs := [11]) [0, 1, 2, 3, 4, 6, 7, 8, 9, 10, 5, 11, 12, 13, 14, 15] (by kernel_rfl) pk1 ?_
      with_reducible repeat' first | (refine zd ?_; refine zr8 @ld3 @ld29 @fa76_0 @fa99_0 @g0 @g3 @hcb @hg1 ?_; refine Same.mk ?_) | fail
      refine DN.callP tOK (fs := []) (cs := []) rfl fn41 ok41 rfl ar1 (clone41 N L1 hcl1.labs (by omega)).wf ?_
      rintro lu L2 ⟨⟨hlu, n2, k2⟩, wf2⟩
      have wfL2 := wf2
      have hcb2 := k2 _ _ hcb
      have hg2 := k2 _ _ hg1
      have hcl2 := hcl1.keep (fun b _ y hy => k2 _ _ hy) (KS.of k2 n2)
      constructor
      · exact zk (And.intro @g0 (And.intro @g13 (And.intro @g3 (And.intro @hcb2 @hg2))))
      with_reducible repeat' first | (refine DN.rd1E (by kernel_rfl) wu ?_; refine zq5 @g0 @g13 @g3 @hcb2 @hg2 ?_; refine Same.mk ?_) | fail
      refine DN.callQ (fs := []) (cs := []) rfl fn49 ok49 rfl ar1 (hcl2.value N (by omega)) ?_
      have hbd := bd58h hlu.one (valG f (selM ns c.x M)).1 (valG f (selM ns c.x M)).2
      have bsf := fun dst ty pos after guard x (ev : Operand → AV) hx => bs22_1 F0 L2 ev dst ty pos after guard x lu (.int .i64 (valG f (selM ns c.x M)).1) (.bool (valG f (selM ns c.x M)).2) hx
      generalize hL3 : L2.alloc (.cells false [lu, .int .i64 (valG f (selM ns c.x M)).1, .bool (valG f (selM ns c.x M)).2]) = L3
      obtain ⟨sL3, wfL3, nL3, gL3⟩ := laid wfL2 hL3
      rw [hL3] at bsf
      have hacc3 := hacc1.keep (K := L3) (fun b x _ hx => sL3 _ _ (k2 _ _ hx)) (KS.of (fun b x hx => sL3 _ _ (k2 _ _ hx)) (by omega))
      have hlu3 := hlu.keep (KS.of sL3 (by omega))
      obtain ⟨w', L4, happ, hacc4, n4, k4⟩ := accR_append (r := rowG f ns M c) (u := lu) wfL3 (by omega) hacc3 hlu3 gL3 (by rw [List.length_map]; omega)
      with_reducible repeat' first | refine zb ?_ | refine DN.nil tOK ?_ | (refine zd ?_; refine zr4 @valA_eq @hbd @bsf @happ ?_; refine Same.mk ?_) | (refine DN.actE tOK (by kernel_rfl) wu wu ?_; refine zr3 @valA_eq @bsf @happ ?_) | fail
      have hpk := List.perm_cons_erase hkl
      have hll := List.length_erase_of_mem hkl
      have hlp := List.length_pos_of_mem hkl
      refine ⟨(left.erase (keyM c.x)).length, by omega, fun b y hy => k4 b y (by have := wfH _ _ hy; omega) (sL3 _ _ (k2 _ _ (kK _ _ hy))), by omega, by simp [PT.get_set, g0], left.erase (keyM c.x), some (keyM c.x), vs ++ [c], w', rfl, by simp [PT.get_set, g13], k4 _ _ (by omega) (sL3 _ _ (k2 _ _ hit1)), fun d hd => ?_, ?_, gt1, ?_⟩
      · rcases List.mem_append.1 hd with hd | hd
        · exact hsub d hd
        · simp at hd; subst hd; exact hcm
      · rw [List.map_append, List.append_assoc]
        exact (List.Perm.append_left _ (by simpa using hpk.symm)).trans hperm
      · rw [List.map_append]; exact hacc4
  · exact stay_alloc wfH _
  · rw [AH.next_alloc]; omega
  · simp [PT.get_set, e0]
  · simp [PT.get_set]
  · rw [AH.get_alloc, if_pos rfl]
  · intro c hc; cases hc
  · rw [ents_keysC]; exact List.Perm.refl _
  · simp [PT.get_set]
end Go.Proofs.YtapokkpdgfpokaaGreat
