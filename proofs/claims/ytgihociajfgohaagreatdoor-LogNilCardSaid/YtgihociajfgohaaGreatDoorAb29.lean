/- Arguments: what lies in the memory that was there, read as abstract objects. -/
import Derived.Test.YtgihociajfgohaaGreatDoorAb28
import Derived.Deep.Slices
import Derived.ChangeArms
namespace Go.AB
open Go.ChangeShapes Go.WideShapes Go.Deep
set_option linter.unusedSimpArgs false
set_option linter.unusedVariables false

/-- An object of the memory that was there is given a name. -/
theorem R.addRo {N G : Nat} {ρ : Names} {H : AH} {w : World} (hR : R N G ρ H w) {s : Seg} {vs : List AV} {c : Array Value} {e : TypeId} {lo hi : Nat} (hb : w.heap[s.blk]? = some (.cells c e (lo, hi))) (hN : s.blk < N)
    (hroom : s.base + s.room ≤ c.size) (hlen : vs.length ≤ s.room) (hc : CellsR ρ vs c s.base) : R N G (ρ.put H.next s) (H.alloc (.cells true vs)) w := by
  have hnew : ρ H.next = none := hR.fresh _ (Nat.le_refl _)
  have hext : Ext ρ (ρ.put H.next s) := Names.put_ext hnew
  have hother : ∀ k, k ≠ H.next → (ρ.put H.next s) k = ρ k := fun k hk => by simp [Names.put, hk]
  refine ⟨hR.size, fun g hg => ?_, fun b o hbo => ?_, fun b b' o o' s1 s2 h1 h2 r1 r2 e1 e2 he => ?_, fun b hb => ?_, by have := hR.gn; simp; omega, fun b m l v k hbo => ?_, fun b t hbt hNt => ?_⟩
  · have : g ≠ H.next := by have := hR.gn; omega
    rw [hother g this]; exact hR.glob g hg
  · rw [AH.get_alloc] at hbo
    split at hbo
    · rename_i hbn; subst hbn
      cases hbo
      exact ⟨s, Names.put_same _ _ _, c, e, lo, hi, hb, hroom, hlen, hc.ext hext, fun _ => hN, fun h => by cases h⟩
    · obtain ⟨t, h1, h2⟩ := hR.obj b o hbo
      refine ⟨t, hext _ _ h1, h2.keep hext rfl fun m l v k _ sm ps hm hg => ⟨?_, rfl⟩⟩
      rw [AH.get_alloc] at hg
      split at hg
      · cases hg
      · exact hg
  · rw [AH.get_alloc] at h1 h2
    split at h1
    · cases h1; cases r1
    · split at h2
      · cases h2; cases r2
      · rename_i n1 n2
        rw [hother _ n1] at e1
        rw [hother _ n2] at e2
        exact hR.inj b b' o o' s1 s2 h1 h2 r1 r2 e1 e2 he
  · rw [hother b (by simp at hb; omega)]
    exact hR.fresh b (by simp at hb; omega)
  · rw [AH.get_alloc] at hbo
    split at hbo
    · cases hbo
    · have := hR.vers b m l v k hbo
      simp; omega
  · by_cases hbn : b = H.next
    · subst hbn; rw [Names.put_same] at hbt; cases hbt; omega
    · rw [hother b hbn] at hbt; exact hR.flat b t hbt hNt

/-- A heap that says more. -/
structure More (N G : Nat) (w : World) (ρ : Names) (H : AH) (ρ' : Names) (H' : AH) : Prop where
  r : R N G ρ' H' w
  ext : Ext ρ ρ'
  get : ∀ b o, H.get b = some o → H'.get b = some o
  next : H.next ≤ H'.next

theorem More.refl {N G : Nat} {w : World} {ρ : Names} {H : AH} (h : R N G ρ H w) : More N G w ρ H ρ H := ⟨h, fun _ _ h => h, fun _ _ h => h, Nat.le_refl _⟩
theorem More.trans {N G : Nat} {w : World} {ρ ρ1 ρ2 : Names} {H H1 H2 : AH} (a : More N G w ρ H ρ1 H1) (b : More N G w ρ1 H1 ρ2 H2) : More N G w ρ H ρ2 H2 :=
  ⟨b.r, fun k s h => b.ext k s (a.ext k s h), fun k o h => b.get k o (a.get k o h), Nat.le_trans a.next b.next⟩

/-- What a datum is in an abstract heap. -/
def Has {X : Type} (P : Program) (H : AH) : Nat → TypeId → DataW X → List AV → Prop
  | 0, _, _, _ => False
  | n + 1, t, d, as =>
    match P.underlying t with
    | some .bool => ∃ b, d = .lit (.bool b) ∧ as = [.bool b]
    | some (.int k) => ∃ m, d = .lit (.int k m) ∧ (Lit.int k m).wf = true ∧ as = [.int k m]
    | some .string => ∃ s, d = .lit (.string s) ∧ s.length ≤ maxLen ∧ as = [.str s]
    | some (.slice e) => (d = .nil ∧ as = [.nils]) ∨ (d = .slice [] [] ∧ as = [.empty 0]) ∨
        ∃ b es sp vs, d = .slice es sp ∧ es.length + sp.length ≤ maxLen ∧ as = [.slice b 0 es.length (.ex (es.length + sp.length)) (P.cellsOf e)] ∧ H.get b = some (.cells true vs) ∧ vs.length = (es.length + sp.length) * P.cellsOf e ∧
          ∀ i x, (es ++ sp)[i]? = some x → Has P H n e x ((vs.drop (i * P.cellsOf e)).take (P.cellsOf e))
    | some (.struct fs) => ∃ ds, d = .agg ds ∧ as.length = P.cellsOf t ∧ ds.length = fs.size ∧ ∀ (i : Nat) f x, fs[i]? = some f → ds[i]? = some x → Has P H n f.type x ((as.drop f.offset).take (P.cellsOf f.type))
    | _ => False

theorem Has.mono {X : Type} {P : Program} {H H' : AH} (hg : ∀ b o, H.get b = some o → H'.get b = some o) : ∀ (n : Nat) (t : TypeId) (d : DataW X) (as : List AV), Has P H n t d as → Has P H' n t d as
  | 0, _, _, _, h => h
  | n + 1, t, d, as, h => by
    unfold Has at h ⊢
    split at h
    · exact h
    · exact h
    · exact h
    · rename_i e hu
      rcases h with h | h | ⟨b, es, sp, vs, h1, h2, h3, h4, h5, h6⟩
      · exact .inl h
      · exact .inr (.inl h)
      · exact .inr (.inr ⟨b, es, sp, vs, h1, h2, h3, hg _ _ h4, h5, fun i x hx => Has.mono hg n e x _ (h6 i x hx)⟩)
    · rename_i fs hu
      obtain ⟨ds, h1, h2, h3, h4⟩ := h
      exact ⟨ds, h1, h2, h3, fun i f x hf hx => Has.mono hg n f.type x _ (h4 i f x hf hx)⟩
    · exact h.elim

/-- A struct's fields lie one behind the other. -/
def tiled (P : Program) : List Field → Nat → Nat → Bool
  | [], k, n => Nat.beq k n
  | f :: fs, k, n => Nat.beq f.offset k && tiled P fs (k + P.cellsOf f.type) n

/-- Types of plain data. -/
def plainT (P : Program) : Nat → TypeId → Bool
  | 0, _ => false
  | n + 1, t =>
    match P.underlying t with
    | some .bool => true
    | some (.int _) => true
    | some .string => true
    | some (.slice e) => !(Nat.beq (P.cellsOf e) 0) && plainT P n e
    | some (.struct fs) => tiled P fs.toList 0 (P.cellsOf t) && fs.toList.all fun f => plainT P n f.type
    | _ => false

def Imp {X : Type} (P : Program) (N G : Nat) (w : World) (n : Nat) (t : TypeId) (cs : List Value) (d : DataW X) : Prop :=
  ∀ ρ H, R N G ρ H w → ∃ ρ' H' as, More N G w ρ H ρ' H' ∧ VRs ρ' as cs ∧ Has P H' n t d as

theorem imp_rows {X : Type} {P : Program} {N G : Nat} {w : World} {n : Nat} {e : TypeId} {D : Nat → DataW X} {V : Nat → List Value} : ∀ (m : Nat), (∀ i, i < m → Imp P N G w n e (V i) (D i)) → (∀ i, i < m → (V i).length = P.cellsOf e) →
    ∀ ρ H, R N G ρ H w → ∃ ρ' H' vs, More N G w ρ H ρ' H' ∧ VRs ρ' vs ((List.range m).flatMap V) ∧ vs.length = m * P.cellsOf e ∧ ∀ i, i < m → Has P H' n e (D i) ((vs.drop (i * P.cellsOf e)).take (P.cellsOf e))
  | 0, _, _, ρ, H, hR => ⟨ρ, H, [], More.refl hR, by simpa using VRs.nil, by simp, fun i hi => by omega⟩
  | m + 1, h, hl, ρ, H, hR => by
    obtain ⟨ρ1, H1, vs, hm, hv, hlen, hh⟩ := imp_rows m (fun i hi => h i (by omega)) (fun i hi => hl i (by omega)) ρ H hR
    obtain ⟨ρ2, H2, as, hm2, hv2, hh2⟩ := h m (by omega) ρ1 H1 hm.r
    have hal : as.length = P.cellsOf e := by rw [← hl m (by omega)]; exact hv2.length.symm
    refine ⟨ρ2, H2, vs ++ as, hm.trans hm2, ?_, ?_, fun i hi => ?_⟩
    · rw [List.range_succ, List.flatMap_append]
      simp only [List.flatMap_cons, List.flatMap_nil, List.append_nil]
      exact (hv.ext hm2.ext).append hv2
    · rw [List.length_append, hlen, hal, Nat.add_mul, Nat.one_mul]
    · by_cases him : i = m
      · subst him
        rw [List.drop_append_of_le_length (by omega), List.drop_of_length_le (by omega), List.nil_append, List.take_of_length_le (by omega)]
        exact hh2
      · have hi' : i < m := by omega
        have hle : i * P.cellsOf e + P.cellsOf e ≤ vs.length := by
          rw [hlen]
          calc i * P.cellsOf e + P.cellsOf e = (i + 1) * P.cellsOf e := by rw [Nat.add_mul, Nat.one_mul]
            _ ≤ m * P.cellsOf e := Nat.mul_le_mul_right _ (by omega)
        rw [List.drop_append_of_le_length (by omega), List.take_append_of_le_length (by rw [List.length_drop]; omega)]
        exact Has.mono hm2.get n e _ _ (hh i hi')

theorem imp_fields {X : Type} {P : Program} {N G : Nat} {w : World} {n : Nat} {cs : List Value} {tot : Nat} : ∀ (fs : List Field) (ds : List (DataW X)) (k : Nat), tiled P fs k tot = true → cs.length = tot → ds.length = fs.length →
    (∀ (i : Nat) f x, fs[i]? = some f → ds[i]? = some x → Imp P N G w n f.type ((cs.drop f.offset).take (P.cellsOf f.type)) x) → k ≤ tot →
    ∀ ρ H, R N G ρ H w → ∃ ρ' H' as, More N G w ρ H ρ' H' ∧ VRs ρ' as (cs.drop k) ∧
      ∀ (i : Nat) f x, fs[i]? = some f → ds[i]? = some x → k ≤ f.offset ∧ Has P H' n f.type x ((as.drop (f.offset - k)).take (P.cellsOf f.type))
  | [], ds, k, ht, hl, hd, h, hk, ρ, H, hR => by
    simp only [tiled] at ht
    have := Nat.eq_of_beq_eq_true ht
    subst this
    exact ⟨ρ, H, [], More.refl hR, by rw [List.drop_of_length_le (by omega)]; exact VRs.nil, fun i f x hf => by simp at hf⟩
  | f :: fs, [], k, ht, hl, hd, h, hk, ρ, H, hR => by simp at hd
  | f :: fs, d :: ds, k, ht, hl, hd, h, hk, ρ, H, hR => by
    simp only [tiled, Bool.and_eq_true] at ht
    obtain ⟨ho, ht⟩ := ht
    have ho := Nat.eq_of_beq_eq_true ho
    have hle : ∀ (fs : List Field) (k n : Nat), tiled P fs k n = true → k ≤ n := by
      intro fs
      induction fs with
      | nil => intro k n h; simp only [tiled] at h; have := Nat.eq_of_beq_eq_true h; omega
      | cons f fs ih => intro k n h; simp only [tiled, Bool.and_eq_true] at h; have := ih _ _ h.2; omega
    have hk2 := hle _ _ _ ht
    obtain ⟨ρ1, H1, as, hm1, hv1, hh1⟩ := h 0 f d (by simp) (by simp) ρ H hR
    obtain ⟨ρ2, H2, bs, hm2, hv2, hh2⟩ := imp_fields fs ds (k + P.cellsOf f.type) ht hl (by simpa using hd) (fun i f x hf hx => h (i + 1) f x (by simpa using hf) (by simpa using hx)) hk2 ρ1 H1 hm1.r
    have hal : as.length = P.cellsOf f.type := by
      rw [← hv1.length, List.length_take, List.length_drop, ho]; omega
    refine ⟨ρ2, H2, as ++ bs, hm1.trans hm2, ?_, fun i f' x hf hx => ?_⟩
    · have e : cs.drop k = (cs.drop f.offset).take (P.cellsOf f.type) ++ cs.drop (k + P.cellsOf f.type) := by
        rw [ho, ← List.drop_drop, List.take_append_drop]
      rw [e]
      exact (hv1.ext hm2.ext).append hv2
    · cases i with
      | zero =>
        simp only [List.getElem?_cons_zero, Option.some.injEq] at hf hx
        subst hf; subst hx
        refine ⟨by omega, ?_⟩
        rw [ho, Nat.sub_self, List.drop_zero, List.take_append_of_le_length (by omega), List.take_of_length_le (by omega)]
        exact Has.mono hm2.get n _ _ _ hh1
      | succ i =>
        simp only [List.getElem?_cons_succ] at hf hx
        obtain ⟨h3, h4⟩ := hh2 i f' x hf hx
        refine ⟨by omega, ?_⟩
        rw [List.drop_append, List.drop_of_length_le (by omega), List.nil_append, hal, show f'.offset - k - P.cellsOf f.type = f'.offset - (k + P.cellsOf f.type) by omega]
        exact h4

theorem cells_flat {w : World} {a : Addr} {z : Nat} {V : Nat → List Value} : ∀ (m : Nat), (∀ i, i < m → w.cells? 0 (a.add (i * z)) z = some (V i)) → ∀ j, j < m * z → w.cell? (a.add j) = ((List.range m).flatMap V)[j]?
  | 0, _, j, hj => by omega
  | m + 1, h, j, hj => by
    have hlen : ∀ m', m' ≤ m + 1 → ((List.range m').flatMap V).length = m' * z := by
      intro m'
      induction m' with
      | zero => intro _; simp
      | succ m' ih =>
        intro hle
        rw [List.range_succ, List.flatMap_append, List.length_append, ih (by omega)]
        simp only [List.flatMap_cons, List.flatMap_nil, List.append_nil]
        rw [(World.cells?_some (h m' (by omega))).2.1, Nat.add_mul, Nat.one_mul]
    rw [List.range_succ, List.flatMap_append]
    by_cases hj' : j < m * z
    · rw [List.getElem?_append_left (by rw [hlen m (by omega)]; exact hj')]
      exact cells_flat m (fun i hi => h i (by omega)) j hj'
    · rw [List.getElem?_append_right (by rw [hlen m (by omega)]; omega), hlen m (by omega)]
      simp only [List.flatMap_cons, List.flatMap_nil, List.append_nil]
      have hz : j - m * z < z := by rw [Nat.add_mul, Nat.one_mul] at hj; omega
      have := (World.cells?_some (h m (by omega))).2.2 (j - m * z) hz
      rw [← this, add_add, show m * z + (j - m * z) = j by omega]

/-- **A datum that is read of the memory that was there** has an abstract reading. -/
theorem imp_trod {X : Type} {enc : TypeId × Value → X} {P : Program} {N G : Nat} {w : World} (hN : N = w.heap.size) : ∀ (k : Nat) (t : TypeId), plainT P k t = true → ∀ (fuel : Nat) (cs : List Value) (x : DataW X × List MemPlace),
    DataW.trod enc P w 0 (fun _ => true) true fuel t cs = some x → Imp P N G w k t cs x.1
  | 0, t, hp, _, _, _, _ => by simp [plainT] at hp
  | k + 1, t, hp, fuel, cs, x, h => by
    unfold plainT at hp
    split at hp
    · rename_i hu
      obtain ⟨b, rfl, rfl⟩ := DataW.trod_bool hu h
      exact fun ρ H hR => ⟨ρ, H, [.bool b], More.refl hR, VRs.cons (by simp only [VR]) VRs.nil, by simp [Has, hu]⟩
    · rename_i kk hu
      obtain ⟨m, rfl, rfl, hw⟩ := DataW.trod_int hu h
      exact fun ρ H hR => ⟨ρ, H, [.int kk m], More.refl hR, VRs.cons (by simp only [VR]) VRs.nil, by simp [Has, hu, hw]⟩
    · rename_i hu
      obtain ⟨s, rfl, rfl, hs⟩ := DataW.trod_string hu h
      exact fun ρ H hR => ⟨ρ, H, [.str s.data.toList], More.refl hR, VRs.cons (by simp only [VR]) VRs.nil, by simp [Has, hu]; exact hs⟩
    · rename_i e hu
      simp only [Bool.and_eq_true, Bool.not_eq_true'] at hp
      obtain ⟨hz, hp⟩ := hp
      have hz : P.cellsOf e ≠ 0 := fun e0 => by rw [e0] at hz; cases hz
      rcases open_slice hu h with ⟨rfl, rfl⟩ | ⟨a, len, cap, m, n, D, Pl, rfl, _, hl, hm, hmm, rfl, hx⟩
      · exact fun ρ H hR => ⟨ρ, H, [.nils], More.refl hR, VRs.cons (by simp only [VR]) VRs.nil, by simp [Has, hu]⟩
      simp only [if_true] at hmm
      subst hmm
      by_cases hm0 : m = 0
      · subst hm0
        obtain rfl : len = 0 := by omega
        exact fun ρ H hR => ⟨ρ, H, [.empty 0], More.refl hR, VRs.cons (by simp only [VR]; exact ⟨a, 0, rfl⟩) VRs.nil, by simp [Has, hu]⟩
      · obtain ⟨V, hV⟩ := choose_lt (α := List Value) (p := fun i cs' => w.cells? 0 (a.add (i * P.cellsOf e)) (P.cellsOf e) = some cs' ∧ DataW.trod enc P w 0 (fun _ => true) true n e cs' = some (D i, Pl i)) (n := m) hx
        intro ρ H hR
        obtain ⟨ρ1, H1, vs, hm1, hv1, hlen1, hh1⟩ := imp_rows (P := P) (n := k) (e := e) (D := D) (V := V) m (fun i hi => imp_trod hN k e hp n (V i) (D i, Pl i) (hV i hi).2) (fun i hi => (World.cells?_some (hV i hi).1).2.1) ρ H hR
        have hcell := cells_flat (w := w) (a := a) (z := P.cellsOf e) (V := V) m (fun i hi => (hV i hi).1)
        have hpos : 0 < m * P.cellsOf e := Nat.mul_pos (by omega) (by omega)
        have hflen : ((List.range m).flatMap V).length = m * P.cellsOf e := by rw [hv1.length, hlen1]
        have h0 := hcell 0 hpos
        have hspot : a.spot = none ∧ ∃ c el fr, w.heap[a.block]? = some (.cells c el fr) := by
          have : w.cell? a ≠ none := by
            have e0 : a.add 0 = a := by simp [Addr.add]
            rw [e0] at h0
            rw [h0, List.getElem?_eq_getElem (by omega)]
            simp
          unfold World.cell? at this
          split at this
          · rename_i c el fr hc
            split at this
            · simp at this
            · rename_i hs
              exact ⟨by simpa using hs, c, el, fr, hc⟩
          · simp at this
        obtain ⟨hsp, c, el, ⟨lo, hi⟩, hheap⟩ := hspot
        obtain ⟨blk, off, spot⟩ := a
        simp only at hsp hheap
        subst hsp
        have hcell' : ∀ j, j < m * P.cellsOf e → c[off + j]? = ((List.range m).flatMap V)[j]? := by
          intro j hj
          have := hcell j hj
          rw [Addr.add_mk] at this
          simpa [World.cell?, hheap] using this
        have hroom : off + m * P.cellsOf e ≤ c.size := by
          have := hcell' (m * P.cellsOf e - 1) (by omega)
          rw [List.getElem?_eq_getElem (by omega)] at this
          have := (Array.getElem?_eq_some_iff.1 this).1
          omega
        have hblk : blk < N := by
          rw [hN]
          rcases Nat.lt_or_ge blk w.heap.size with h | h
          · exact h
          · rw [Array.getElem?_eq_none h] at hheap; cases hheap
        let s : Seg := ⟨blk, off, m * P.cellsOf e⟩
        have hR2 := hm1.r.addRo (s := s) (vs := vs) hheap hblk hroom (by show vs.length ≤ m * P.cellsOf e; omega) (fun i av hi => by
          obtain ⟨v, h1, h2⟩ := hv1.get i av hi
          have hlt := (List.getElem?_eq_some_iff.1 hi).1
          exact ⟨v, by show c[off + i]? = _; rw [hcell' i (by omega)]; exact h1, h2⟩)
        have hnew : ρ1 H1.next = none := hm1.r.fresh _ (Nat.le_refl _)
        have hget : ∀ b o, H1.get b = some o → (H1.alloc (.cells true vs)).get b = some o := fun b o hb => by
          rw [AH.get_alloc, if_neg (by have := hm1.r.dom_lt hb; omega)]; exact hb
        refine ⟨_, _, [.slice H1.next 0 len (.ex m) (P.cellsOf e)], hm1.trans ⟨hR2, Names.put_ext hnew, hget, by simp⟩, VRs.cons ?_ VRs.nil, ?_⟩
        · simp only [VR]
          exact ⟨s, m, Names.put_same _ _ _, rfl, rfl, hl, by show 0 + m * P.cellsOf e ≤ m * P.cellsOf e; omega⟩
        · unfold Has
          rw [hu]
          have hlen : ((List.range len).map D).length = len := by simp
          have hsum : ((List.range len).map D).length + ((List.range (m - len)).map fun j => D (len + j)).length = m := by simp; omega
          refine .inr (.inr ⟨H1.next, _, _, vs, rfl, by omega, by rw [hsum, hlen], by rw [AH.get_alloc, if_pos rfl], by rw [hsum, hlen1], fun i x hx => ?_⟩)
          have hi : i < m := by
            have := (List.getElem?_eq_some_iff.1 hx).1
            rw [List.length_append, hsum] at this
            exact this
          have hxe : x = D i := by
            by_cases hil : i < len
            · rw [List.getElem?_append_left (by simpa using hil)] at hx
              simp [hil] at hx
              exact hx.symm
            · rw [List.getElem?_append_right (by simpa using hil)] at hx
              simp at hx
              obtain ⟨y, hy, rfl⟩ := hx
              rw [List.getElem?_range (by omega)] at hy
              cases hy
              congr 1
              omega
          subst hxe
          exact Has.mono hget k e _ _ (hh1 i hi)
    · rename_i fs hu
      simp only [Bool.and_eq_true, List.all_eq_true] at hp
      obtain ⟨ht, hp⟩ := hp
      obtain ⟨xs, n, _, rfl, hl, hlen, hf⟩ := DataW.trod_struct hu h
      intro ρ H hR
      obtain ⟨ρ1, H1, as, hm1, hv1, hh1⟩ := imp_fields (X := X) (N := N) (G := G) (w := w) (n := k) fs.toList (xs.map (·.1)) 0 ht hl (by simpa using hlen) (fun i f y hfi hy => by
        rw [List.getElem?_map, Option.map_eq_some_iff] at hy
        obtain ⟨z, hz, rfl⟩ := hy
        have hfi' : fs[i]? = some f := by simpa using hfi
        have := hf i f hfi'
        rw [hz] at this
        exact imp_trod hN k f.type (hp f (List.mem_of_getElem? hfi)) n _ z this) (Nat.zero_le _) ρ H hR
      refine ⟨ρ1, H1, as, hm1, by simpa using hv1, ?_⟩
      unfold Has
      rw [hu]
      refine ⟨xs.map (·.1), rfl, ?_, by simpa using hlen, fun i f x hfi hx => ?_⟩
      · have := hv1.length; rw [List.drop_zero] at this; omega
      · have := (hh1 i f x (by simpa using hfi) hx).2
        rwa [Nat.sub_zero] at this
    · cases hp

end Go.AB
