/- What the library's functions without a body, and its sorted keys of a map, do to an abstract heap. -/
import Derived.Test.YtgihociajfgohaaGreatDoorAb22
import Derived.KernelRfl
import Derived.Laws.Externs
import Derived.Maps.Own
import Derived.Sort.KeysCollected
import Derived.Laws.AppendOwn
namespace Go.AB
set_option linter.unusedSimpArgs false

/-- A new object in a new block, behind a step that left all that was there. -/
theorem R.adopt {N G : Nat} {ρ : Names} {H : AH} {w w' : World} (hR : R N G ρ H w) (hb : Go.RowKit.Below w.heap.size w w') (o : AO) (s : Seg) (hs : w.heap.size ≤ s.blk) (hz : s.base = 0) (hrw : o.rw = true)
    (ho : OR N (ρ.put H.next s) (H.alloc o) w' s o) (hv : ∀ m l v c, o = .miter m l v c → v < H.next) :
    R N G (ρ.put H.next s) (H.alloc o) w' ∧ Fr ρ H w (ρ.put H.next s) (H.alloc o) w' := by
  have hnew : ρ H.next = none := hR.fresh _ (Nat.le_refl _)
  have hext : Ext ρ (ρ.put H.next s) := Names.put_ext hnew
  have hold := hb.block
  have hsz := hb.size
  have hother : ∀ k, k ≠ H.next → (ρ.put H.next s) k = ρ k := fun k hk => by simp [Names.put, hk]
  refine ⟨⟨by have := hR.size; omega, ?_, ?_, ?_, ?_, ?_, ?_, fun k t hk hN => (by
      by_cases e : k = H.next
      · subst e; rw [Names.put_same] at hk; cases hk; exact hz
      · rw [hother k e] at hk; exact hR.flat k t hk hN)⟩, ⟨?_, by simp, hsz, ?_, ?_, fun k o hk h => ⟨o, by rw [AH.get_alloc, if_neg (by omega)] at h; exact h⟩, hb.os, hb.tape, hb.output⟩⟩
  · intro g hg
    have : g ≠ H.next := by have := hR.gn; omega
    rw [hother g this]
    exact hR.glob g hg
  · intro k ok hk
    rw [AH.get_alloc] at hk
    split at hk
    · cases hk; subst_vars; exact ⟨s, Names.put_same _ _ _, ho⟩
    · rename_i hne
      obtain ⟨t, h1, h2⟩ := hR.obj k ok hk
      refine ⟨t, hext _ _ h1, h2.keep hext (hold _ h2.lt) fun m l v c e sm ps hm hg => ?_⟩
      rw [AH.get_alloc] at hg
      split at hg
      · rename_i hmn; subst hmn; rw [hnew] at hm; cases hm
      · refine ⟨hg, hold _ ?_⟩
        obtain ⟨t', h3, h4⟩ := hR.obj m _ hg
        rw [hm] at h3; cases h3; exact h4.lt
  · intro k k' o1 o2 s1 s2 h1 h2 r1 r2 e1 e2 he
    rw [AH.get_alloc] at h1 h2
    split at h1 <;> split at h2
    · subst_vars; rfl
    · rename_i hk hk'
      subst hk
      rw [Names.put_same] at e1; cases e1
      rw [hother _ hk'] at e2
      obtain ⟨t, h3, h4⟩ := hR.obj k' _ h2
      rw [e2] at h3; cases h3
      have := h4.lt; omega
    · rename_i hk hk'
      subst hk'
      rw [Names.put_same] at e2; cases e2
      rw [hother _ hk] at e1
      obtain ⟨t, h3, h4⟩ := hR.obj k _ h1
      rw [e1] at h3; cases h3
      have := h4.lt; omega
    · rename_i hk hk'
      rw [hother _ hk] at e1
      rw [hother _ hk'] at e2
      exact hR.inj k k' o1 o2 s1 s2 h1 h2 r1 r2 e1 e2 he
  · intro b hb
    simp at hb
    rw [hother b (by omega)]; exact hR.fresh b (by omega)
  · have := hR.gn; simp; omega
  · intro b m l v c hb
    rw [AH.get_alloc] at hb
    split at hb
    · cases hb; have := hv m l v c rfl; simp; omega
    · have := hR.vers b m l v c hb; simp; omega
  · intro b hb
    exact hother b (by omega)
  · intro k hk _
    exact hold k hk
  · intro k o1 s1 h1 r1 e1
    rw [AH.get_alloc] at h1
    split at h1
    · rename_i hk; subst hk; rw [Names.put_same] at e1; cases e1; left; omega
    · rename_i hk; rw [hother k hk] at e1
      exact .inr ⟨k, o1, s1, h1, r1, e1, rfl⟩


/-! ### maps.clone -/
def specClone (args : List AV) (H : AH) : Option (AV × AH) :=
  match args with
  | [.iface t (.map m)] => match H.get m with
    | some (.map ps _) => some (.iface t (.map H.next), H.alloc (.map ps 0))
    | _ => none
  | _ => none

theorem specClone_ok {P : Program} {f : FuncId}
    (hrun : ∀ (t : TypeId) (b : Nat) (es : Array MapEntry) (clock : Nat) (w : World), w.heap[b]? = some (.map es clock) → (callFunc f #[.iface t (.map (some b))]).run P w = .ok (.value (.iface t (.map (some w.heap.size)))) (w.alloc (.map es clock)))
    {N G : Nat} {ρ : Names} {H H' : AH} {w : World} {args : List AV} {vs : List Value} {r : AV} (h : specClone args H = some (r, H')) (hR : R N G ρ H w) (hv : VRs ρ args vs) :
    ∃ v w' ρ', (callFunc f ⟨vs⟩).run P w = .ok (.value v) w' ∧ VR ρ' r v ∧ R N G ρ' H' w' ∧ Fr ρ H w ρ' H' w' := by
  unfold specClone at h
  split at h
  · rename_i t m
    split at h
    · rename_i ps ver hm
      simp only [Option.some.injEq, Prod.mk.injEq] at h
      obtain ⟨rfl, rfl⟩ := h
      simp only [VRs, VR] at hv
      obtain ⟨v, vs', rfl, ⟨y, rfl, sm, hsm, rfl⟩, rfl⟩ := hv
      obtain ⟨hN, es, clock, h0, h1⟩ := hR.map hm hsm
      let sg : Seg := ⟨w.heap.size, 0, 0⟩
      have hnew : ρ H.next = none := hR.fresh _ (Nat.le_refl _)
      obtain ⟨r1, r2⟩ := hR.alloc (.map es clock) w.drawn (.map ps 0) sg rfl rfl rfl ⟨by have := hR.size; exact this, es, clock, by simp [sg], h1.ext (Names.put_ext hnew)⟩ (fun m l v c e => by cases e)
      refine ⟨_, _, _, hrun t sm.blk es clock w h0, ?_, r1, r2⟩
      simp only [VR]
      exact ⟨_, rfl, sg, Names.put_same _ _ _, rfl⟩
    · cases h
  · cases h

/-! ### Sorted keys -/
def leK (a b : List UInt8) : Bool := decide (a ≤ b)

def insK (k : List UInt8) : List (List UInt8) → List (List UInt8)
  | [] => [k]
  | x :: xs => bif leK k x then k :: x :: xs else x :: insK k xs

def isortK : List (List UInt8) → List (List UInt8)
  | [] => []
  | x :: xs => insK x (isortK xs)

theorem insK_perm (k : List UInt8) : ∀ l, (insK k l).Perm (k :: l)
  | [] => List.Perm.refl _
  | x :: xs => by
    unfold insK
    cases leK k x
    · exact ((insK_perm k xs).cons x).trans (List.Perm.swap k x xs)
    · exact List.Perm.refl _

theorem isortK_perm : ∀ l, (isortK l).Perm l
  | [] => List.Perm.refl _
  | x :: xs => (insK_perm x _).trans ((isortK_perm xs).cons x)

theorem insK_sorted (k : List UInt8) : ∀ l, l.Pairwise (fun a b => leK a b = true) → (insK k l).Pairwise (fun a b => leK a b = true)
  | [], _ => by simp [insK]
  | x :: xs, h => by
    unfold insK
    rw [List.pairwise_cons] at h
    cases hd : leK k x
    · have hx : x ≤ k := by
        have := of_decide_eq_false hd
        rcases List.le_total x k with h | h
        · exact h
        · exact absurd h this
      simp only [cond_false, List.pairwise_cons]
      refine ⟨fun y hy => ?_, insK_sorted k xs h.2⟩
      rcases List.mem_cons.1 ((insK_perm k xs).mem_iff.1 hy) with rfl | hy
      · exact decide_eq_true hx
      · exact h.1 y hy
    · have hx : k ≤ x := of_decide_eq_true hd
      simp only [cond_true, List.pairwise_cons]
      refine ⟨fun y hy => ?_, h.1, h.2⟩
      rcases List.mem_cons.1 hy with rfl | hy
      · exact decide_eq_true hx
      · exact decide_eq_true (List.le_trans hx (of_decide_eq_true (h.1 y hy)))

theorem isortK_sorted : ∀ l, (isortK l).Pairwise (fun a b => leK a b = true)
  | [] => List.Pairwise.nil
  | x :: xs => insK_sorted x _ (isortK_sorted xs)

theorem mergeSort_isortK {ss ks : List (List UInt8)} (h : ss.Perm ks) : ss.mergeSort (fun x y => decide (x ≤ y)) = isortK ks := by
  have tr : ∀ a b c : List UInt8, leK a b = true → leK b c = true → leK a c = true := fun a b c h1 h2 => decide_eq_true (List.le_trans (of_decide_eq_true h1) (of_decide_eq_true h2))
  have to : ∀ a b : List UInt8, (leK a b || leK b a) = true := fun a b => by
    rcases List.le_total a b with h | h
    · simp [leK, h]
    · simp [leK, h]
  exact List.Perm.eq_of_pairwise (le := fun a b => leK a b = true) (fun a b _ _ h1 h2 => List.le_antisymm (of_decide_eq_true h1) (of_decide_eq_true h2))
    (List.pairwise_mergeSort (le := leK) tr to ss) (isortK_sorted ks) (((List.mergeSort_perm ss _).trans h).trans (isortK_perm ks).symm)

theorem insert_perm {H : Type} (x : Lit × DataW H) : ∀ l, (DataW.insert x l).Perm (x :: l)
  | [] => List.Perm.refl _
  | y :: l => by
    unfold DataW.insert
    split
    · exact List.Perm.refl _
    · exact ((insert_perm x l).cons y).trans (List.Perm.swap x y l)

theorem foldr_insert_perm {H : Type} : ∀ l : List (Lit × DataW H), (l.foldr DataW.insert []).Perm l
  | [] => List.Perm.refl _
  | x :: l => (insert_perm x _).trans ((foldr_insert_perm l).cons x)

end Go.AB
