/- Group: what is there as bytes; plain laws of changes; what is told behind changes; no condition. -/
import Derived.Test.YtapokkpdgfpokaaGreatMg5
set_option linter.unusedSimpArgs false
set_option linter.unusedVariables false
set_option maxRecDepth 100000
open Go Go.AB Go.Proofs
namespace Go.Proofs.YtapokkpdgfpokaaGreat
set_option maxRecDepth 100000

theorem wu64n (x : Int) : IntKind.wrap .u64 x = (((x % 18446744073709551616).toNat : Nat) : Int) := by rw [wu64]; omega
theorem u64_lt (x : Int) : (x % 18446744073709551616).toNat < 18446744073709551616 := by omega
theorem ofNat64 (n : Nat) : BitVec.ofInt 64 (n : Int) = BitVec.ofNat 64 n := BitVec.ofInt_natCast ..
theorem xor64 {C : Ctx} {t : TypeId} {cst : Bool} {n m : Nat} (hn : n < 18446744073709551616) (hm : m < 18446744073709551616) : abin C .xor t cst (.int .u64 (n : Int)) (.int .u64 (m : Int)) = some (.int .u64 ((n ^^^ m : Nat) : Int)) := by
  have e : abin C .xor t cst (.int .u64 (n : Int)) (.int .u64 (m : Int)) = some (.int .u64 (IntKind.wrap .u64 (((BitVec.ofInt 64 (n : Int) ^^^ BitVec.ofInt 64 (m : Int)).toNat : Nat) : Int))) := by
    simp [abin, binOp, pur, Op.intBits, ofVal]; rfl
  rw [e, ofNat64, ofNat64]
  have : (BitVec.ofNat 64 n ^^^ BitVec.ofNat 64 m).toNat = n ^^^ m := by
    rw [BitVec.toNat_xor, BitVec.toNat_ofNat, BitVec.toNat_ofNat, Nat.mod_eq_of_lt (by omega), Nat.mod_eq_of_lt (by omega)]
  have hlt : n ^^^ m < 18446744073709551616 := Nat.xor_lt_two_pow (n := 64) hn hm
  rw [this, wrapU64 hlt]
theorem shl64 {C : Ctx} {t : TypeId} {cst : Bool} {n : Nat} {k' : IntKind} : abin C .shl t cst (.int .u64 (n : Int)) (.int k' 1) = some (.int .u64 ((n * 2 % 18446744073709551616 : Nat) : Int)) := by
  have e : abin C .shl t cst (.int .u64 (n : Int)) (.int k' 1) = pur (Op.shift .shl .u64 (n : Int) k' 1) := by
    simp [abin, binOp]
  rw [e]
  unfold Op.shift
  rw [if_neg (by decide)]
  show some (ofVal (.int .u64 (IntKind.wrap .u64 ((n : Int) * 2 ^ 1)))) = _
  rw [wu64n]
  simp only [ofVal]
  rfl
theorem shr63' {C : Ctx} {t : TypeId} {cst : Bool} {n : Int} {k' : IntKind} : abin C .shr t cst (.int .i64 n) (.int k' 63) = some (.int .i64 (Int.fdiv n (2 ^ 63))) := by
  have e : abin C .shr t cst (.int .i64 n) (.int k' 63) = pur (Op.shift .shr .i64 n k' 63) := by
    simp [abin, binOp]
  rw [e]
  unfold Op.shift
  rw [if_neg (by decide)]
  rfl
/-- A number's sign put behind it. -/
def sgnM (n : Int) : Nat := ((n % 18446744073709551616).toNat * 2 % 18446744073709551616) ^^^ (Int.fdiv n (2 ^ 63) % 18446744073709551616).toNat
theorem sgnM_lt (n : Int) : sgnM n < 18446744073709551616 := Nat.xor_lt_two_pow (n := 64) (Nat.mod_lt _ (by decide)) (u64_lt _)

theorem signed133 (N : Bd) (H : AH) {v : AV} {l : List UInt8} {n : Int} (hv : BytesAt H v l) (hl : l.length ≤ 900000000) :
    AC tC N 0 133 [v, .int .i64 n] H fun r K => BytesAt K r (l ++ numB (sgnM n)) ∧ (∀ b x, H.get b = some x → K.get b = some x) ∧ H.next ≤ K.next := by
  refine AC.by (n := 14) (rs := [.tmp 4]) tOK fn133 rfl rfl rfl rfl ?_
  have e0 : (PT.ofList .leaf 0 [v, AV.int .i64 n]).get 0 = some v := rfl
  have e1 : (PT.ofList .leaf 0 [v, AV.int .i64 n]).get 1 = some (.int .i64 n) := rfl
  have hx : ∀ cst, abin tC .xor 94 cst (.int .u64 (((n % 18446744073709551616).toNat * 2 % 18446744073709551616 : Nat) : Int)) (.int .u64 (((Int.fdiv n (2 ^ 63) % 18446744073709551616).toNat : Nat) : Int)) = some (.int .u64 ((sgnM n : Nat) : Int)) := fun cst => xor64 (Nat.mod_lt _ (by decide)) (u64_lt _)
  have c1 : ∀ k', convOp tC H 2 94 (.int k' n) = some (.int .u64 (((n % 18446744073709551616).toNat : Nat) : Int), H) := fun k' => by rw [cv2_94, wu64n]
  have c2 : ∀ k', convOp tC H 2 94 (.int k' (Int.fdiv n (2 ^ 63))) = some (.int .u64 (((Int.fdiv n (2 ^ 63) % 18446744073709551616).toNat : Nat) : Int), H) := fun k' => by rw [cv2_94, wu64n]
  have hs : ∀ cst k', abin tC .shr 2 cst (.int .i64 n) (.int k' 63) = some (.int .i64 (Int.fdiv n (2 ^ 63))) := fun cst k' => shr63'
  generalize Int.fdiv n (2 ^ 63) = q at *
  have hsl : ∀ cst k', abin tC .shl 94 cst (.int .u64 (((n % 18446744073709551616).toNat : Nat) : Int)) (.int k' 1) = some (.int .u64 (((n % 18446744073709551616).toNat * 2 % 18446744073709551616 : Nat) : Int)) := fun cst k' => shl64
  refine zs7 @e0 @e1 @c1 @c2 @hs @hsl @hx ?_
  refine AOs.cq tOK fn61 ok61 (number61 N H hv (sgnM_lt n) hl) ?_
  rintro r K h
  refine zs0 ?_
  exact fr1 h

def trB (b : Bool) : List UInt8 := if b = true then [1] else [0]
set_option maxHeartbeats 1000000 in
theorem truth132 (N : Bd) (H : AH) {v : AV} {l : List UInt8} {b : Bool} (hv : BytesAt H v l) (hl : l.length ≤ 900000000) :
    AC tC N 0 132 [v, .bool b] H fun r K => BytesAt K r (l ++ trB b) ∧ (∀ b x, H.get b = some x → K.get b = some x) ∧ H.next ≤ K.next := by
  refine AC.wf0 fun wfH => ?_
  refine AC.by (n := 14) (rs := [.tmp 4]) tOK fn132 rfl rfl rfl rfl ?_
  have e0 : (PT.ofList .leaf 0 [v, AV.bool b]).get 0 = some v := rfl
  have e1 : (PT.ofList .leaf 0 [v, AV.bool b]).get 1 = some (.bool b) := rfl
  cases b with
  | true =>
    generalize hK1 : H.alloc (.cells false [.int .u8 1]) = K1
    obtain ⟨sK1, wfK1, nK1, gK1⟩ := laid wfH hK1
    generalize hK2 : K1.alloc (.cells false [.slice H.next 0 1 (.ex 1) 1]) = K2
    obtain ⟨sK2, wfK2, nK2, gK2⟩ := laid wfK1 hK2
    have gK1 := sK2 _ _ gK1
    have hb1 : BytesAt K2 (.slice H.next 0 1 (.ex 1) 1) [1] := .inr ⟨H.next, 0, _, false, _, rfl, gK1, rfl⟩
    refine zp6 @e0 @e1 @bs50_1 @hK1 @bs172_1 @hK2 ?_
    refine AOs.cq tOK fn95 ok95 (put95 N K2 (uc := .ex 1) (us := [.slice H.next 0 1 (.ex 1) 1]) (ls := [[1]]) (hv.keep fun b o c _ x hx => sK2 _ _ (sK1 _ _ hx)) gK2 (by simp) rfl (fun i u m hu hm => ?_) (by simp [allOne, one_slice]) (by simp) (by simp; omega)) ?_
    · match i with
      | 0 => simp at hu hm; subst hu hm; exact hb1
      | i + 1 => simp at hu
    rintro r K ⟨h1, h2, h3⟩
    refine zs0 ?_
    exact fnPost_ret1 gt1 ⟨by simpa [trB] using h1, fun b x hx => h2 _ _ (sK2 _ _ (sK1 _ _ hx)), by omega⟩
  | false =>
    generalize hK1 : H.alloc (.cells false [.int .u8 0]) = K1
    obtain ⟨sK1, wfK1, nK1, gK1⟩ := laid wfH hK1
    generalize hK2 : K1.alloc (.cells false [.slice H.next 0 1 (.ex 1) 1]) = K2
    obtain ⟨sK2, wfK2, nK2, gK2⟩ := laid wfK1 hK2
    have gK1 := sK2 _ _ gK1
    have hb1 : BytesAt K2 (.slice H.next 0 1 (.ex 1) 1) [0] := .inr ⟨H.next, 0, _, false, _, rfl, gK1, rfl⟩
    refine zp6 @e0 @e1 @bs50_1 @hK1 @bs172_1 @hK2 ?_
    refine AOs.cq tOK fn95 ok95 (put95 N K2 (uc := .ex 1) (us := [.slice H.next 0 1 (.ex 1) 1]) (ls := [[0]]) (hv.keep fun b o c _ x hx => sK2 _ _ (sK1 _ _ hx)) gK2 (by simp) rfl (fun i u m hu hm => ?_) (by simp [allOne, one_slice]) (by simp) (by simp; omega)) ?_
    · match i with
      | 0 => simp at hu hm; subst hu hm; exact hb1
      | i + 1 => simp at hu
    rintro r K ⟨h1, h2, h3⟩
    refine zs0 ?_
    exact fnPost_ret1 gt1 ⟨by simpa [trB] using h1, fun b x hx => h2 _ _ (sK2 _ _ (sK1 _ _ hx)), by omega⟩

def valB (n : Int) (o : Bool) : List UInt8 := trB o ++ if o = true then [] else numB (sgnM n)
theorem valB_le (n : Int) (o : Bool) : (valB n o).length ≤ 10 := by
  have := numB_le (sgnM n) (sgnM_lt n)
  unfold valB trB
  cases o <;> simp <;> omega
set_option maxHeartbeats 1000000 in
theorem number93 (N : Bd) (H : AH) {v : AV} {l : List UInt8} {n : Int} {o : Bool} (hv : BytesAt H v l) (hl : l.length ≤ 800000000) :
    AC tC N 0 93 [v, .agg [.int .i64 n, .bool o]] H fun r K => BytesAt K r (l ++ valB n o) ∧ (∀ b x, H.get b = some x → K.get b = some x) ∧ H.next ≤ K.next := by
  refine AC.wf0 fun wfH => ?_
  refine AC.by (n := 16) (rs := [.tmp 4]) tOK fn93 rfl rfl rfl rfl ?_
  have e0 : (PT.ofList .leaf 0 [v, AV.agg [.int .i64 n, .bool o]]).get 0 = some v := rfl
  have e1 : (PT.ofList .leaf 0 [v, AV.agg [.int .i64 n, .bool o]]).get 1 = some (.agg [.int .i64 n, .bool o]) := rfl
  generalize hK1 : H.alloc (.cells false [.int .i64 n, .bool o]) = K1
  obtain ⟨sK1, wfK1, nK1, gK1⟩ := laid wfH hK1
  refine zs6 @ld4 @fa31_1 @e0 @e1 @hK1 @gK1 ?_
  refine AOs.cq tOK fn132 ok132 (AC.wf (truth132 N K1 (hv.keep fun b o c _ x hx => sK1 _ _ hx) (by omega))) ?_
  rintro r K2 ⟨⟨h1, k2, n2⟩, wf2⟩
  have g2 := k2 _ _ gK1
  cases o with
  | true =>
    refine zs4 @ld4 @fa31_1 @e0 @g2 ?_
    exact fnPost_ret1 gt1 ⟨by simpa [valB] using h1, fun b x hx => k2 _ _ (sK1 _ _ hx), by omega⟩
  | false =>
    refine zs6 @ld2 @ld4 @fa31_0 @fa31_1 @e0 @g2 ?_
    refine AOs.cq tOK fn133 ok133 (signed133 N K2 h1 (by simp [trB]; omega)) ?_
    rintro r K3 ⟨h3, k3, n3⟩
    refine zs0 ?_
    exact fnPost_ret1 gt1 ⟨by simpa [valB] using h3, fun b x hx => k3 _ _ (k2 _ _ (sK1 _ _ hx)), by omega⟩

def namesB (ns : List Nm) : List UInt8 := numB ns.length ++ ns.flatMap textB
theorem fmap_take {α : Type} {g : α → List UInt8} {l : List α} {i : Nat} {x : α} (h : l[i]? = some x) : (l.take (i + 1)).flatMap g = (l.take i).flatMap g ++ g x := by
  rw [List.take_add_one, h, List.flatMap_append]; simp
theorem fmap_le {α : Type} {g : α → List UInt8} {k : Nat} : ∀ {l : List α}, (∀ x ∈ l, (g x).length ≤ k) → (l.flatMap g).length ≤ l.length * k
  | [], _ => by simp
  | x :: xs, h => by
    have h1 := h x (List.mem_cons_self)
    have h2 := fmap_le (l := xs) fun y hy => h y (List.mem_cons_of_mem _ hy)
    rw [List.flatMap_cons, List.length_append, List.length_cons, Nat.add_mul]; omega
set_option maxHeartbeats 2000000 in
theorem names60 (N : Bd) (H : AH) {v w : AV} {l : List UInt8} {ns : List Nm} (hv : BytesAt H v l) (hw : NamesAt H w ns) (hl : l.length ≤ 10000) (hn : ns.length ≤ 30) (hs : ∀ s ∈ ns, s.length ≤ 300) :
    AC tC N 0 60 [v, w] H fun r K => BytesAt K r (l ++ namesB ns) ∧ (∀ b x, H.get b = some x → K.get b = some x) ∧ H.next ≤ K.next := by
  refine AC.wf0 fun wfH => ?_
  refine AC.by (n := 26) (rs := [.tmp 4]) tOK fn60 rfl rfl rfl rfl ?_
  have e0 : (PT.ofList .leaf 0 [v, w]).get 0 = some v := rfl
  have e1 : (PT.ofList .leaf 0 [v, w]).get 1 = some w := rfl
  have hlen := hw.len
  have hw1 : IntKind.u64.wrap ((ns.length : Nat) : Int) = ((ns.length : Nat) : Int) := wrapU64 (by omega)
  refine zs7 @al40 @cv3_94 @cv3_94 @e0 @e1 @hlen @hw1 ?_
  refine AOs.cq tOK fn61 ok61 (number61 N H hv (n := ns.length) (by omega) (by omega)) ?_
  rintro r K ⟨h1, k1, n1⟩
  have hnb := numB_le ns.length (by omega)
  have htb : ∀ x ∈ ns, (textB x).length ≤ 309 := fun x hx => by have := hs x hx; have := textB_le (s := x) (by omega); omega
  refine zs3 @al40 @e1 @hlen ?_
  refine AW.loop (fun m T L => (∀ b x, K.get b = some x → L.get b = some x) ∧ K.next ≤ L.next ∧ T.get 12 = some w ∧ T.get 13 = some (.int .i64 (ns.length : Nat)) ∧ ∃ (i : Nat) (a : AV), i ≤ ns.length ∧ m = ns.length - i ∧ T.get 14 = some (.int .i64 (i : Nat)) ∧ T.get 0 = some a ∧ BytesAt L a (l ++ numB ns.length ++ (ns.take i).flatMap textB)) ?_ (ns.length - 0)
    ⟨fun _ _ h => h, Nat.le_refl _, by simp [PT.get_set, e1], by simp [PT.get_set], 0, r, by omega, rfl, by simp [PT.get_set], by simp [PT.get_set], by simpa using h1⟩
  rintro m T L ⟨hk, hnx, g12, g13, i, a, hi, rfl, g14, g0, hA⟩
  refine AW.wf0 fun wfL => ?_
  have wi : IntKind.i64.wrap (((i : Nat) : Int) + 1) = ((i + 1 : Nat) : Int) := wrap64_succ (by omega)
  by_cases hil : i < ns.length
  · have hd := lt_int hil
    obtain ⟨s, hsi⟩ : ∃ s, ns[i]? = some s := ⟨_, List.getElem?_eq_getElem hil⟩
    obtain ⟨b, o, c, ro, vs, rfl, hb, hc⟩ := (hw.keep (KS.of (fun b x hx => hk _ _ (k1 _ _ hx)) (by omega))).at hsi
    have hfl := fmap_le (g := textB) (l := ns.take i) (k := 309) fun x hx => htb x (List.mem_of_mem_take hx)
    rw [List.length_take] at hfl
    refine zs8 @ld9 @ix40 @g12 @g13 @g14 @g0 @hd (And.intro @hil (And.intro @hb @hc)) ?_
    refine AOs.cq tOK fn75 ok75 (text75 N L (s := s) hA (by have := hs s (List.mem_of_getElem? hsi); omega) (by simp only [List.length_append]; omega)) ?_
    rintro r2 L2 ⟨w2, rfl, h2, k2, n2⟩
    refine zs2 @g14 @wi ?_
    refine ⟨ns.length - (i + 1), by omega, fun b x hx => k2 _ _ (hk _ _ hx), by omega, by simp [PT.get_set, g12], by simp [PT.get_set, g13], i + 1, w2, by omega, rfl, gt1, gt1, ?_⟩
    rw [fmap_take hsi, ← List.append_assoc]; exact h2
  · have hd := nlt_int hil
    obtain rfl : i = ns.length := by omega
    rw [List.take_length] at hA
    refine zs4 @g13 @g14 @g0 @hd ?_
    exact fnPost_ret1 gt1 ⟨by unfold namesB; rw [← List.append_assoc]; exact hA, fun b x hx => hk _ _ (k1 _ _ hx), by omega⟩

def rowB (r : Rs) : List UInt8 := textB (keyM r.1) ++ valB r.2.1 r.2.2
def resB (V : List Rs) : List UInt8 := numB V.length ++ V.flatMap rowB
theorem rowB_le (r : Rs) : (rowB r).length ≤ 1019 := by
  have h1 := keyM_le r.1
  have h2 := textB_le (s := keyM r.1) (by omega)
  have h3 := valB_le r.2.1 r.2.2
  unfold rowB; rw [List.length_append]; omega
set_option maxHeartbeats 4000000 in
theorem results59 (N : Bd) (H : AH) {v w : AV} {l : List UInt8} {V : List Rs} (hv : BytesAt H v l) (hw : VecAt H w V) (hl : l.length ≤ 100000) (hn : V.length ≤ 10000) :
    AC tC N 0 59 [v, w] H fun r K => BytesAt K r (l ++ resB V) ∧ (∀ b x, H.get b = some x → K.get b = some x) ∧ H.next ≤ K.next := by
  refine AC.wf0 fun wfH => ?_
  refine AC.by (n := 32) (rs := [.tmp 4]) tOK fn59 rfl rfl rfl rfl ?_
  have e0 : (PT.ofList .leaf 0 [v, w]).get 0 = some v := rfl
  have e1 : (PT.ofList .leaf 0 [v, w]).get 1 = some w := rfl
  have hlen := hw.len
  have hw1 : IntKind.u64.wrap ((V.length : Nat) : Int) = ((V.length : Nat) : Int) := wrapU64 (by omega)
  refine zs7 @al22 @cv3_94 @cv3_94 @e0 @e1 @hlen @hw1 ?_
  refine AOs.cq tOK fn61 ok61 (number61 N H hv (n := V.length) (by omega) (by omega)) ?_
  rintro r K ⟨h1, k1, n1⟩
  have hnb := numB_le V.length (by omega)
  refine zs3 @al22 @e1 @hlen ?_
  refine AW.loop (fun m T L => (∀ b x, K.get b = some x → L.get b = some x) ∧ K.next ≤ L.next ∧ T.get 12 = some w ∧ T.get 13 = some (.int .i64 (V.length : Nat)) ∧ ∃ (i : Nat) (a : AV), i ≤ V.length ∧ m = V.length - i ∧ T.get 14 = some (.int .i64 (i : Nat)) ∧ T.get 0 = some a ∧ BytesAt L a (l ++ numB V.length ++ (V.take i).flatMap rowB)) ?_ (V.length - 0)
    ⟨fun _ _ h => h, Nat.le_refl _, by simp [PT.get_set, e1], by simp [PT.get_set], 0, r, by omega, rfl, by simp [PT.get_set], by simp [PT.get_set], by simpa using h1⟩
  rintro m T L ⟨hk, hnx, g12, g13, i, a, hi, rfl, g14, g0, hA⟩
  refine AW.wf0 fun wfL => ?_
  have wi : IntKind.i64.wrap (((i : Nat) : Int) + 1) = ((i + 1 : Nat) : Int) := wrap64_succ (by omega)
  by_cases hil : i < V.length
  · have hd := lt_int hil
    obtain ⟨x, hx⟩ : ∃ x, V[i]? = some x := ⟨_, List.getElem?_eq_getElem hil⟩
    obtain ⟨ab, ao, ac, aro, avs, u, rfl, ag, hu, ax, _, _⟩ := (hw.keep (K := L) (fun b x hx => hk _ _ (k1 _ _ hx)) (by omega)).at hx
    have t3l : (rsC u x).length = 3 := rfl
    have hfl := fmap_le (g := rowB) (l := V.take i) (k := 1019) fun x _ => rowB_le x
    rw [List.length_take] at hfl
    have hst : astore tC (L.alloc (.cells false [.nils, .int .i64 0, .bool false])) 58 (.ptr L.next 0) (.agg (rsC u x)) = some ((L.alloc (.cells false [.nils, .int .i64 0, .bool false])).set L.next (.cells false (rsC u x))) := stA58 (x := .nils) (y := .int .i64 0) (z := .bool false) (by rw [AH.get_alloc, if_pos rfl]) hu.one x
    generalize hL1 : (L.alloc (.cells false [.nils, .int .i64 0, .bool false])).set L.next (.cells false (rsC u x)) = L1 at hst
    have k2 : ∀ b y, L.get b = some y → L1.get b = some y := fun b y hy => by
      rw [← hL1, AH.get_set, if_neg (by have := wfL _ _ hy; omega)]; exact stay_alloc wfL _ _ _ hy
    have n2 : L1.next = L.next + 1 := by rw [← hL1]; rfl
    have g1 : L1.get L.next = some (.cells false [u, .int .i64 x.2.1, .bool x.2.2]) := by rw [← hL1, AH.get_set, if_pos rfl]; rfl
    have tkp : List.take 2 (List.drop 1 [u, .int .i64 x.2.1, .bool x.2.2]) = [.int .i64 x.2.1, .bool x.2.2] := rfl
    have l2 : List.length [AV.int .i64 x.2.1, .bool x.2.2] = 2 := rfl
    refine zp8 @g12 @g13 @g14 @g0 @hd @hil @ag (And.intro @ax (And.intro @t3l (And.intro @al58 (And.intro @hst @g1)))) ?_
    refine AOs.cq tOK fn48 ok48 (key48 N L1 (hu.keep (KS.of k2 (by omega)))) ?_
    rintro r2 L1 ⟨rfl, rfl⟩
    have hkl := keyM_le x.1
    have hkt := textB_le (s := keyM x.1) (by omega)
    refine zp4 @g12 @g13 @g14 @g0 ?_
    refine AOs.cq tOK fn75 ok75 (text75 N L1 (s := keyM x.1) (hA.keep fun b o c _ y hy => k2 _ _ hy) (by omega) (by simp only [List.length_append]; omega)) ?_
    rintro r2 L2 ⟨w2, rfl, h2, k3, n3⟩
    have g2 := k3 _ _ g1
    refine zs6 @ld31 @fa58_1 @g0 @g2 @tkp @l2 ?_
    refine AOs.cq tOK fn93 ok93 (number93 N L2 (n := x.2.1) (o := x.2.2) h2 (by simp only [List.length_append]; omega)) ?_
    rintro w3 L3 ⟨h3, k4, n4⟩
    refine zs2 @g14 @wi ?_
    refine ⟨V.length - (i + 1), by omega, fun b x hx => k4 _ _ (k3 _ _ (k2 _ _ (hk _ _ hx))), by omega, by simp [PT.get_set, g12], by simp [PT.get_set, g13], i + 1, w3, by omega, rfl, gt1, gt1, ?_⟩
    rw [fmap_take hx, rowB]; simpa only [List.append_assoc] using h3
  · have hd := nlt_int hil
    obtain rfl : i = V.length := by omega
    rw [List.take_length] at hA
    refine zs4 @g13 @g14 @g0 @hd ?_
    exact fnPost_ret1 gt1 ⟨by unfold resB; rw [← List.append_assoc]; exact hA, fun b x hx => hk _ _ (k1 _ _ hx), by omega⟩

def bytesM (f : Int) (ns : List Nm) (V : List Rs) : List UInt8 := numB (f % 18446744073709551616).toNat ++ namesB ns ++ resB V
theorem namesB_le {ns : List Nm} (hn : ns.length ≤ 30) (hs : ∀ s ∈ ns, s.length ≤ 300) : (namesB ns).length ≤ 20000 := by
  have hnb := numB_le ns.length (by omega)
  have hfl := fmap_le (g := textB) (l := ns) (k := 309) fun x hx => by have := hs x hx; have := textB_le (s := x) (by omega); omega
  unfold namesB; rw [List.length_append]; omega
set_option maxHeartbeats 4000000 in
theorem bytes23 (N : Bd) (H : AH) {g m : Nat} {f : Int} {un ui : AV} {ns : List Nm} {V : List Rs} (hg : H.get g = some (.cells false [.int .i64 f, un, ui, .map m])) (hun : NamesAt H un ns) (hui : VecAt H ui V) (hn : ns.length ≤ 30) (hs : ∀ s ∈ ns, s.length ≤ 300) (hV : V.length ≤ 10000) :
    AC tC N 0 23 [.ptr g 0] H fun r K => BytesAt K r (bytesM f ns V) ∧ (∀ b x, H.get b = some x → K.get b = some x) ∧ H.next ≤ K.next := by
  refine AC.wf0 fun wfH => ?_
  refine AC.by (n := 22) (rs := [.tmp 2]) tOK fn23 rfl rfl rfl rfl ?_
  have e0 : (PT.ofList .leaf 0 [AV.ptr g 0]).get 0 = some (.ptr g 0) := rfl
  refine zs1 @e0 ?_
  refine AOs.cq tOK fn45 ok45 (made45 N H hg) ?_
  rintro r K ⟨rfl, rfl⟩
  refine zs0 ?_
  have c1 : ∀ (L : AH) k', convOp tC L 3 94 (.int k' f) = some (.int .u64 (((f % 18446744073709551616).toNat : Nat) : Int), L) := fun L k' => by rw [cv3_94, wu64n]
  refine AW.drawN tOK (Qs := []) [0, 1, 2, 3, 4, 6, 7, 8, 9, 11, 12, 13, 14, 5, 10, 15, 16] (by kernel_rfl) pk1 ?_
  with_reducible repeat' first | (refine zd ?_; refine zq3 @e0 @hg @c1 ?_; refine Same.mk ?_) | fail
  refine DN.callP tOK (fs := []) (cs := []) rfl fn61 ok61 rfl ar1 (number61 N K (v := .nils) (l := []) (n := (f % 18446744073709551616).toNat) (.inl ⟨.inl rfl, rfl⟩) (u64_lt f) (by simp)) ?_
  rintro w1 K1 ⟨h1, k1, n1⟩
  have g1 := k1 _ _ hg
  have hb1 := numB_le (f % 18446744073709551616).toNat (u64_lt f)
  have hnb := namesB_le hn hs
  constructor
  · exact zk (And.intro @e0 (And.intro @g1 @c1))
  with_reducible repeat' first | (refine DN.rd1E (by kernel_rfl) wu ?_; refine zq2 @e0 @g1 ?_; refine Same.mk ?_) | fail
  refine DN.callP tOK (fs := []) (cs := []) rfl fn60 ok60 rfl ar1 (names60 N K1 h1 (hun.keep (KS.of k1 n1)) (by simp; omega) hn hs) ?_
  rintro w2 K2 ⟨h2, k2, n2⟩
  have g2 := k2 _ _ g1
  constructor
  · exact zk (And.intro @e0 (And.intro @g2 @c1))
  with_reducible repeat' first | (refine DN.rd1E (by kernel_rfl) wu ?_; refine zq2 @e0 @g2 ?_; refine Same.mk ?_) | (refine DN.actE tOK (by kernel_rfl) wu wu ?_; refine zq2 @e0 @g2 ?_) | fail
  refine DN.call tOK (fs := []) (cs := []) rfl fn59 ok59 rfl ar1 (results59 N K2 h2 (hui.keep (fun b x hx => k2 _ _ (k1 _ _ hx)) (by omega)) (by simp; omega) hV) wu ?_
  rintro w3 K3 ⟨h3, k3, n3⟩
  with_reducible repeat' first | refine zb ?_ | refine DN.nil tOK ?_ | (refine DN.fl1E wu wu ?_; refine zr0 ?_; refine Same.mk ?_) | fail
  exact fnPost_ret1 gt1 ⟨by simpa [bytesM] using h3, fun b x hx => k3 _ _ (k2 _ _ (k1 _ _ hx)), by omega⟩

theorem in22 (N : Bd) (H : AH) {g m : Nat} {f : Int} {un ui : AV} {V : List Rs} (hg : H.get g = some (.cells false [.int .i64 f, un, ui, .map m])) (hui : VecAt H ui V) (hV : V.length ≤ 10000) :
    AC tC N 0 22 [.ptr g 0] H fun r K => VecAt K r V ∧ (∀ b x, H.get b = some x → K.get b = some x) ∧ H.next ≤ K.next := by
  refine AC.by (n := 11) (rs := [.tmp 2]) tOK fn22 rfl rfl rfl rfl ?_
  have e0 : (PT.ofList .leaf 0 [AV.ptr g 0]).get 0 = some (.ptr g 0) := rfl
  refine zs1 @e0 ?_
  refine AOs.cq tOK fn45 ok45 (made45 N H hg) ?_
  rintro r K ⟨rfl, rfl⟩
  refine zs4 @ld22 @fa76_2 @e0 @hg ?_
  refine AOs.cq tOK fn35 ok35 (clone35 N K hui (by omega)) ?_
  rintro w K2 ⟨h1, h2, h3⟩
  refine zs0 ?_
  exact fr1 ⟨h1.vec, h3, h2⟩

theorem Rise.cons {x : Rs} {v : List Rs} : Rise (x :: v) ↔ (∀ r ∈ v, orderM x.1 r.1 < 0) ∧ Rise v := by
  constructor
  · intro h
    refine ⟨fun r hr => ?_, fun i j r s hij hi hj => h (i + 1) (j + 1) r s (by omega) (by simpa using hi) (by simpa using hj)⟩
    obtain ⟨i, hi⟩ := List.getElem?_of_mem hr
    exact h 0 (i + 1) x r (by omega) rfl (by simpa using hi)
  · rintro ⟨h1, h2⟩ i j r s hij hi hj
    cases i with
    | zero =>
      cases j with
      | zero => omega
      | succ j =>
        simp at hi hj; subst hi
        exact h1 s (List.mem_of_getElem? hj)
    | succ i =>
      cases j with
      | zero => omega
      | succ j => exact h2 i j r s (by omega) (by simpa using hi) (by simpa using hj)
theorem Rise.nil : Rise [] := fun i j r s _ h => by simp at h
theorem order_ne {a b : Ls} (h : orderM a b < 0) : a ≠ b := fun e => by subst e; rw [orderM_self] at h; omega
theorem order_asymm {a b : Ls} (h : orderM a b < 0) : ¬ orderM b a < 0 := fun h2 => by have := orderM_swap a b; omega
theorem Rise.inj : ∀ {v : List Rs}, Rise v → ∀ {r s : Rs}, r ∈ v → s ∈ v → r.1 = s.1 → r = s
  | [], _, r, s, hr, _, _ => by cases hr
  | x :: v, h, r, s, hr, hs, e => by
    obtain ⟨h1, h2⟩ := Rise.cons.1 h
    rcases List.mem_cons.1 hr with hr | hr
    · rcases List.mem_cons.1 hs with hs | hs
      · rw [hr, hs]
      · exact absurd (by rw [← hr]; exact e) (order_ne (h1 s hs))
    · rcases List.mem_cons.1 hs with hs | hs
      · exact absurd (by rw [← hs]; exact e.symm) (order_ne (h1 r hr))
      · exact Rise.inj h2 hr hs e
theorem rise_ext : ∀ {v w : List Rs}, Rise v → Rise w → (∀ r, r ∈ v ↔ r ∈ w) → v = w
  | [], [], _, _, _ => rfl
  | [], x :: w, _, _, h => by have := (h x).2 (List.mem_cons_self); cases this
  | x :: v, [], _, _, h => by have := (h x).1 (List.mem_cons_self); cases this
  | x :: v, y :: w, hv, hw, h => by
    obtain ⟨v1, v2⟩ := Rise.cons.1 hv
    obtain ⟨w1, w2⟩ := Rise.cons.1 hw
    have e : x = y := by
      rcases List.mem_cons.1 ((h x).1 (List.mem_cons_self)) with e | hx
      · exact e
      · rcases List.mem_cons.1 ((h y).2 (List.mem_cons_self)) with e | hy
        · exact e.symm
        · exact absurd (v1 y hy) (order_asymm (w1 x hx))
    subst e
    have hvx : x ∉ v := fun hx => order_ne (v1 x hx) rfl
    have hwx : x ∉ w := fun hx => order_ne (w1 x hx) rfl
    rw [rise_ext v2 w2 fun r => ?_]
    have := h r
    simp only [List.mem_cons] at this
    constructor
    · intro hr
      rcases this.1 (.inr hr) with rfl | h
      · exact absurd hr hvx
      · exact h
    · intro hr
      rcases this.2 (.inr hr) with rfl | h
      · exact absurd hr hwx
      · exact h

theorem oneM_nil (c : Ch) : oneM [] c = if c.2.2.2 = true then [] else [resC c] := by
  unfold oneM thereM; simp [posM]
theorem oneM_lt {x : Rs} {v : List Rs} {c : Ch} (h : orderM x.1 c.1 < 0) : oneM (x :: v) c = x :: oneM v c := by
  unfold oneM thereM
  simp only [posM, if_pos h, List.take_succ_cons, List.getElem?_cons_succ, List.drop_succ_cons, List.cons_append]
theorem oneM_ge {x : Rs} {v : List Rs} {c : Ch} (h : ¬ orderM x.1 c.1 < 0) : oneM (x :: v) c = (if c.2.2.2 = true then [] else [resC c]) ++ (if x.1 = c.1 then v else x :: v) := by
  unfold oneM thereM
  simp only [posM, if_neg h, List.take_zero, List.nil_append, List.getElem?_cons_zero, List.drop_succ_cons, List.drop_zero, decide_eq_true_eq, orderM_zero]
theorem there_nil (t : Ls) : thereM [] t = false := rfl
theorem there_lt {x : Rs} {v : List Rs} {t : Ls} (h : orderM x.1 t < 0) : thereM (x :: v) t = thereM v t := by
  unfold thereM; simp only [posM, if_pos h, List.getElem?_cons_succ]
theorem there_ge {x : Rs} {v : List Rs} {t : Ls} (h : ¬ orderM x.1 t < 0) : thereM (x :: v) t = decide (x.1 = t) := by
  unfold thereM; simp only [posM, if_neg h, List.getElem?_cons_zero, orderM_zero]
theorem there_iff : ∀ {v : List Rs} {t : Ls}, Rise v → (thereM v t = true ↔ ∃ r ∈ v, r.1 = t)
  | [], t, _ => by rw [there_nil]; simp
  | x :: v, t, h => by
    obtain ⟨h1, h2⟩ := Rise.cons.1 h
    by_cases hl : orderM x.1 t < 0
    · rw [there_lt hl, there_iff h2]
      constructor
      · rintro ⟨r, hr, e⟩; exact ⟨r, List.mem_cons_of_mem _ hr, e⟩
      · rintro ⟨r, hr, e⟩
        rcases List.mem_cons.1 hr with rfl | hr
        · exact absurd e (order_ne hl)
        · exact ⟨r, hr, e⟩
    · rw [there_ge hl, decide_eq_true_eq]
      constructor
      · intro e; exact ⟨x, List.mem_cons_self, e⟩
      · rintro ⟨r, hr, e⟩
        rcases List.mem_cons.1 hr with rfl | hr
        · exact e
        · exact absurd (e ▸ h1 r hr) hl
theorem mem_oneM : ∀ {v : List Rs} {c : Ch}, Rise v → ∀ r, r ∈ oneM v c ↔ if r.1 = c.1 then c.2.2.2 = false ∧ r = resC c else r ∈ v
  | [], c, _, r => by
    rw [oneM_nil]
    by_cases hg : c.2.2.2 = true
    · rw [if_pos hg]; simp [hg]
    · rw [if_neg hg]
      have hg' : c.2.2.2 = false := by simpa using hg
      simp only [List.mem_singleton, hg', true_and, List.not_mem_nil]
      constructor
      · rintro rfl; rw [if_pos (show (resC c).1 = c.1 from rfl)]
      · intro h; split at h
        · exact h
        · exact h.elim
  | x :: v, c, h, r => by
    obtain ⟨h1, h2⟩ := Rise.cons.1 h
    by_cases hl : orderM x.1 c.1 < 0
    · rw [oneM_lt hl, List.mem_cons, mem_oneM h2 r]
      by_cases e : r.1 = c.1
      · rw [if_pos e, if_pos e]
        constructor
        · rintro (rfl | h)
          · exact absurd e (order_ne hl)
          · exact h
        · exact .inr
      · rw [if_neg e, if_neg e, List.mem_cons]
    · rw [oneM_ge hl, List.mem_append]
      have hg : (r ∈ if c.2.2.2 = true then [] else [resC c]) ↔ c.2.2.2 = false ∧ r = resC c := by
        cases c.2.2.2 <;> simp
      rw [hg]
      by_cases e : r.1 = c.1
      · rw [if_pos e]
        constructor
        · rintro (h | h)
          · exact h
          · split at h
            · rename_i hx; exact absurd (by rw [e, ← hx]) (Ne.symm (order_ne (h1 r h)))
            · rename_i hx
              rcases List.mem_cons.1 h with rfl | h
              · exact absurd e hx
              · exact absurd (e ▸ h1 r h) hl
        · exact .inl
      · rw [if_neg e]
        constructor
        · rintro (⟨_, rfl⟩ | h)
          · exact absurd rfl e
          · split at h
            · exact List.mem_cons_of_mem _ h
            · exact h
        · intro h
          refine .inr ?_
          split
          · rename_i hx
            rcases List.mem_cons.1 h with rfl | h
            · exact absurd hx e
            · exact h
          · exact h

theorem Rise.nodup : ∀ {v : List Rs}, Rise v → v.Nodup
  | [], _ => List.nodup_nil
  | x :: v, h => by
    obtain ⟨h1, h2⟩ := Rise.cons.1 h
    exact List.nodup_cons.2 ⟨fun hx => order_ne (h1 x hx) rfl, h2.nodup⟩
/-- A change, as what was there and what is. -/
theorem oneM_perm {v : List Rs} {c : Ch} (h : Rise v) {r : Rs} (hr : r ∈ v) (e : r.1 = c.1) : (oneM v c).Perm ((if c.2.2.2 = true then [] else [resC c]) ++ v.erase r) := by
  refine (List.perm_ext_iff_of_nodup (oneM_rise h).nodup ?_).2 fun s => ?_
  · rw [List.nodup_append]
    refine ⟨by split <;> simp, h.nodup.erase r, fun a ha b hb eab => ?_⟩
    split at ha
    · cases ha
    · simp at ha; subst ha; subst eab
      have hb' := List.mem_of_mem_erase hb
      have := h.inj hb' hr (by rw [e]; rfl)
      rw [this] at hb
      exact (List.Nodup.not_mem_erase h.nodup) hb
  · rw [mem_oneM h, List.mem_append]
    have hg : (s ∈ if c.2.2.2 = true then [] else [resC c]) ↔ c.2.2.2 = false ∧ s = resC c := by
      cases c.2.2.2 <;> simp
    rw [hg, h.nodup.mem_erase_iff]
    by_cases es : s.1 = c.1
    · rw [if_pos es]
      constructor
      · exact .inl
      · rintro (h' | ⟨h1, h2⟩)
        · exact h'
        · exact absurd (h.inj h2 hr (by rw [es, e])) h1
    · rw [if_neg es]
      constructor
      · exact fun h' => .inr ⟨fun e' => es (by rw [e', e]), h'⟩
      · rintro (⟨_, rfl⟩ | ⟨_, h2⟩)
        · exact absurd rfl es
        · exact h2
theorem oneM_perm0 {v : List Rs} {c : Ch} (h : Rise v) (hn : ∀ r ∈ v, r.1 ≠ c.1) : (oneM v c).Perm ((if c.2.2.2 = true then [] else [resC c]) ++ v) := by
  refine (List.perm_ext_iff_of_nodup (oneM_rise h).nodup ?_).2 fun s => ?_
  · rw [List.nodup_append]
    refine ⟨by split <;> simp, h.nodup, fun a ha b hb eab => ?_⟩
    split at ha
    · cases ha
    · simp at ha; subst ha; subst eab
      exact hn _ hb rfl
  · rw [mem_oneM h, List.mem_append]
    have hg : (s ∈ if c.2.2.2 = true then [] else [resC c]) ↔ c.2.2.2 = false ∧ s = resC c := by
      cases c.2.2.2 <;> simp
    rw [hg]
    by_cases es : s.1 = c.1
    · rw [if_pos es]
      constructor
      · exact .inl
      · rintro (h' | h')
        · exact h'
        · exact absurd es (hn s h')
    · rw [if_neg es]
      constructor
      · exact .inr
      · rintro (⟨_, rfl⟩ | h2)
        · exact absurd rfl es
        · exact h2

theorem foldM_cons (v : List Rs) (c : Ch) (l : List Ch) : foldM v (c :: l) = foldM (oneM v c) l := rfl
theorem foldM_rise : ∀ {l : List Ch} {v : List Rs}, Rise v → Rise (foldM v l)
  | [], _, h => h
  | c :: l, v, h => by rw [foldM_cons]; exact foldM_rise (oneM_rise h)
/-- Whatever of no change's labels stays. -/
theorem mem_foldM : ∀ {l : List Ch} {v : List Rs}, Rise v → (l.map (·.1)).Nodup → ∀ r, r ∈ foldM v l ↔ (∃ c ∈ l, c.1 = r.1 ∧ c.2.2.2 = false ∧ r = resC c) ∨ ((∀ c ∈ l, c.1 ≠ r.1) ∧ r ∈ v)
  | [], v, _, _, r => by simp [foldM]
  | c :: l, v, hv, hn, r => by
    rw [List.map_cons, List.nodup_cons] at hn
    rw [foldM_cons, mem_foldM (oneM_rise hv) hn.2, mem_oneM hv]
    have hne : ∀ d ∈ l, d.1 ≠ c.1 := fun d hd e => hn.1 (List.mem_map.2 ⟨d, hd, e⟩)
    constructor
    · rintro (⟨d, hd, h1, h2, h3⟩ | ⟨h1, h2⟩)
      · exact .inl ⟨d, List.mem_cons_of_mem _ hd, h1, h2, h3⟩
      · split at h2
        · rename_i e
          exact .inl ⟨c, List.mem_cons_self, e.symm, h2.1, h2.2⟩
        · rename_i e
          refine .inr ⟨fun d hd => ?_, h2⟩
          rcases List.mem_cons.1 hd with rfl | hd
          · exact fun e' => e e'.symm
          · exact h1 d hd
    · rintro (⟨d, hd, h1, h2, h3⟩ | ⟨h1, h2⟩)
      · rcases List.mem_cons.1 hd with rfl | hd
        · refine .inr ⟨fun d hd e => hne d hd (by rw [e, h1]), by rw [if_pos h1.symm]; exact ⟨h2, h3⟩⟩
        · exact .inl ⟨d, hd, h1, h2, h3⟩
      · refine .inr ⟨fun d hd => h1 d (List.mem_cons_of_mem _ hd), ?_⟩
        rw [if_neg fun e => h1 c (List.mem_cons_self) e.symm]; exact h2

theorem chg_lab {a b : List Rs} {c : Ch} (h : c ∈ changesM a b) : ∃ r, (r ∈ a ∨ r ∈ b) ∧ c.1 = r.1 := (changesM_len a b).2 c h
theorem changesM_rise : ∀ (a b : List Rs), Rise a → Rise b → (changesM a b).Pairwise fun x y => orderM x.1 y.1 < 0
  | [], [], _, _ => by rw [changesM]; exact List.Pairwise.nil
  | [], s :: ss, ha, hb => by
    obtain ⟨b1, b2⟩ := Rise.cons.1 hb
    rw [changesM]
    refine List.pairwise_cons.2 ⟨fun c hc => ?_, changesM_rise [] ss ha b2⟩
    obtain ⟨r, hr | hr, e⟩ := chg_lab hc
    · cases hr
    · rw [e]; exact b1 r hr
  | r :: rs, [], ha, hb => by
    obtain ⟨a1, a2⟩ := Rise.cons.1 ha
    rw [changesM]
    refine List.pairwise_cons.2 ⟨fun c hc => ?_, changesM_rise rs [] a2 hb⟩
    obtain ⟨s, hr | hr, e⟩ := chg_lab hc
    · rw [e]; exact a1 s hr
    · cases hr
  | r :: rs, s :: ss, ha, hb => by
    obtain ⟨a1, a2⟩ := Rise.cons.1 ha
    obtain ⟨b1, b2⟩ := Rise.cons.1 hb
    rw [changesM]
    by_cases h1 : orderM r.1 s.1 < 0
    · rw [if_pos h1]
      refine List.pairwise_cons.2 ⟨fun c hc => ?_, changesM_rise rs (s :: ss) a2 hb⟩
      obtain ⟨t, ht | ht, e⟩ := chg_lab hc
      · rw [e]; exact a1 t ht
      · rw [e]
        rcases List.mem_cons.1 ht with rfl | ht
        · exact h1
        · exact orderM_trans h1 (b1 t ht)
    · rw [if_neg h1]
      by_cases h2 : orderM r.1 s.1 = 0
      · rw [if_pos h2]
        have e0 := orderM_zero.1 h2
        by_cases h3 : r.2 = s.2
        · rw [if_pos h3]; exact changesM_rise rs ss a2 b2
        · rw [if_neg h3]
          refine List.pairwise_cons.2 ⟨fun c hc => ?_, changesM_rise rs ss a2 b2⟩
          obtain ⟨t, ht | ht, e⟩ := chg_lab hc
          · rw [e]; show orderM s.1 t.1 < 0; rw [← e0]; exact a1 t ht
          · rw [e]; exact b1 t ht
      · rw [if_neg h2]
        have h3 : orderM s.1 r.1 < 0 := by have := orderM_swap r.1 s.1; omega
        refine List.pairwise_cons.2 ⟨fun c hc => ?_, changesM_rise (r :: rs) ss ha b2⟩
        obtain ⟨t, ht | ht, e⟩ := chg_lab hc
        · rw [e]
          rcases List.mem_cons.1 ht with rfl | ht
          · exact h3
          · exact orderM_trans h3 (a1 t ht)
        · rw [e]; exact b1 t ht
termination_by a b => a.length + b.length
theorem changesM_nodup {a b : List Rs} (ha : Rise a) (hb : Rise b) : ((changesM a b).map (·.1)).Nodup :=
  List.pairwise_map.2 ((changesM_rise a b ha hb).imp fun h => order_ne h)
def InChg (a b : List Rs) (c : Ch) : Prop := (∃ r ∈ a, c = goneC r ∧ ∀ s ∈ b, s.1 ≠ r.1) ∨ ∃ s ∈ b, c = hereC s ∧ s ∉ a
theorem mem_changesM : ∀ (a b : List Rs), Rise a → Rise b → ∀ c, c ∈ changesM a b ↔ InChg a b c
  | [], [], _, _, c => by rw [changesM]; simp [InChg]
  | [], s :: ss, ha, hb, c => by
    obtain ⟨b1, b2⟩ := Rise.cons.1 hb
    rw [changesM, List.mem_cons, mem_changesM [] ss ha b2]
    simp [InChg]
  | r :: rs, [], ha, hb, c => by
    obtain ⟨a1, a2⟩ := Rise.cons.1 ha
    rw [changesM, List.mem_cons, mem_changesM rs [] a2 hb]
    simp [InChg]
  | r :: rs, s :: ss, ha, hb, c => by
    obtain ⟨a1, a2⟩ := Rise.cons.1 ha
    obtain ⟨b1, b2⟩ := Rise.cons.1 hb
    rw [changesM]
    by_cases h1 : orderM r.1 s.1 < 0
    · rw [if_pos h1, List.mem_cons, mem_changesM rs (s :: ss) a2 hb]
      have hrs : ∀ t ∈ s :: ss, t.1 ≠ r.1 := fun t ht e => by
        rcases List.mem_cons.1 ht with rfl | ht
        · exact order_ne h1 e.symm
        · exact order_ne (orderM_trans h1 (b1 t ht)) e.symm
      constructor
      · rintro (rfl | ⟨t, ht, e, h⟩ | ⟨t, ht, e, h⟩)
        · exact .inl ⟨r, List.mem_cons_self, rfl, hrs⟩
        · exact .inl ⟨t, List.mem_cons_of_mem _ ht, e, h⟩
        · exact .inr ⟨t, ht, e, fun hm => by
            rcases List.mem_cons.1 hm with rfl | hm
            · exact hrs t ht rfl
            · exact h hm⟩
      · rintro (⟨t, ht, e, h⟩ | ⟨t, ht, e, h⟩)
        · rcases List.mem_cons.1 ht with rfl | ht
          · exact .inl e
          · exact .inr (.inl ⟨t, ht, e, h⟩)
        · exact .inr (.inr ⟨t, ht, e, fun hm => h (List.mem_cons_of_mem _ hm)⟩)
    · rw [if_neg h1]
      by_cases h2 : orderM r.1 s.1 = 0
      · rw [if_pos h2]
        have e0 := orderM_zero.1 h2
        have ra : ∀ t ∈ rs, s.1 ≠ t.1 := fun t ht e => order_ne (a1 t ht) (e0.trans e)
        have sb : ∀ t ∈ ss, t ≠ r := fun t ht e => order_ne (b1 t ht) (by rw [← e0, e])
        have ih := mem_changesM rs ss a2 b2 c
        have key : (∃ t ∈ rs, c = goneC t ∧ ∀ q ∈ ss, q.1 ≠ t.1) ↔ ∃ t ∈ r :: rs, c = goneC t ∧ ∀ q ∈ s :: ss, q.1 ≠ t.1 := by
          constructor
          · rintro ⟨t, ht, e, h⟩
            refine ⟨t, List.mem_cons_of_mem _ ht, e, fun q hq => ?_⟩
            rcases List.mem_cons.1 hq with rfl | hq
            · exact ra t ht
            · exact h q hq
          · rintro ⟨t, ht, e, h⟩
            rcases List.mem_cons.1 ht with rfl | ht
            · exact absurd e0.symm (h s (List.mem_cons_self))
            · exact ⟨t, ht, e, fun q hq => h q (List.mem_cons_of_mem _ hq)⟩
        by_cases h3 : r.2 = s.2
        · rw [if_pos h3, ih]
          have hrs : r = s := Prod.ext e0 h3
          unfold InChg
          rw [← key]
          refine or_congr Iff.rfl ?_
          constructor
          · rintro ⟨t, ht, e, h⟩
            exact ⟨t, List.mem_cons_of_mem _ ht, e, fun hm => by
              rcases List.mem_cons.1 hm with hm | hm
              · exact sb t ht hm
              · exact h hm⟩
          · rintro ⟨t, ht, e, h⟩
            rcases List.mem_cons.1 ht with rfl | ht
            · exact absurd (hrs ▸ List.mem_cons_self) h
            · exact ⟨t, ht, e, fun hm => h (List.mem_cons_of_mem _ hm)⟩
        · rw [if_neg h3, List.mem_cons, ih]
          unfold InChg
          rw [← key]
          have hsn : s ∉ r :: rs := fun hm => by
            rcases List.mem_cons.1 hm with e | hm
            · exact h3 (by rw [e])
            · exact ra s hm rfl
          constructor
          · rintro (rfl | h | ⟨t, ht, e, h⟩)
            · exact .inr ⟨s, List.mem_cons_self, rfl, hsn⟩
            · exact .inl h
            · exact .inr ⟨t, List.mem_cons_of_mem _ ht, e, fun hm => by
                rcases List.mem_cons.1 hm with hm | hm
                · exact sb t ht hm
                · exact h hm⟩
          · rintro (h | ⟨t, ht, e, h⟩)
            · exact .inr (.inl h)
            · rcases List.mem_cons.1 ht with rfl | ht
              · exact .inl e
              · exact .inr (.inr ⟨t, ht, e, fun hm => h (List.mem_cons_of_mem _ hm)⟩)
      · rw [if_neg h2, List.mem_cons, mem_changesM (r :: rs) ss ha b2]
        have h3 : orderM s.1 r.1 < 0 := by have := orderM_swap r.1 s.1; omega
        have hsr : ∀ t ∈ r :: rs, s.1 ≠ t.1 := fun t ht e => by
          rcases List.mem_cons.1 ht with rfl | ht
          · exact order_ne h3 e
          · exact order_ne (orderM_trans h3 (a1 t ht)) e
        constructor
        · rintro (rfl | ⟨t, ht, e, h⟩ | ⟨t, ht, e, h⟩)
          · exact .inr ⟨s, List.mem_cons_self, rfl, fun hm => hsr s hm rfl⟩
          · exact .inl ⟨t, ht, e, fun q hq => by
              rcases List.mem_cons.1 hq with rfl | hq
              · exact hsr t ht
              · exact h q hq⟩
          · exact .inr ⟨t, List.mem_cons_of_mem _ ht, e, h⟩
        · rintro (⟨t, ht, e, h⟩ | ⟨t, ht, e, h⟩)
          · exact .inr (.inl ⟨t, ht, e, fun q hq => h q (List.mem_cons_of_mem _ hq)⟩)
          · rcases List.mem_cons.1 ht with rfl | ht
            · exact .inl e
            · exact .inr (.inr ⟨t, ht, e, h⟩)
termination_by a b => a.length + b.length

/-- What changed, applied, is the other one. -/
theorem diff_apply {a b : List Rs} (ha : Rise a) (hb : Rise b) : foldM a (changesM a b) = b := by
  refine rise_ext (foldM_rise ha) hb fun r => ?_
  rw [mem_foldM ha (changesM_nodup ha hb)]
  constructor
  · rintro (⟨c, hc, e, hg, rfl⟩ | ⟨hn, hra⟩)
    · rcases (mem_changesM a b ha hb c).1 hc with ⟨t, ht, rfl, _⟩ | ⟨s, hs, rfl, _⟩
      · cases hg
      · exact hs
    · by_cases hrb : r ∈ b
      · exact hrb
      · exfalso
        by_cases hex : ∃ s ∈ b, s.1 = r.1
        · obtain ⟨s, hs, e⟩ := hex
          refine hn (hereC s) ((mem_changesM a b ha hb _).2 (.inr ⟨s, hs, rfl, fun hsa => ?_⟩)) e
          have := ha.inj hsa hra e
          exact hrb (this ▸ hs)
        · exact hn (goneC r) ((mem_changesM a b ha hb _).2 (.inl ⟨r, hra, rfl, fun s hs e => hex ⟨s, hs, e⟩⟩)) rfl
  · intro hrb
    by_cases hra : r ∈ a
    · refine .inr ⟨fun c hc e => ?_, hra⟩
      rcases (mem_changesM a b ha hb c).1 hc with ⟨t, ht, rfl, h⟩ | ⟨s, hs, rfl, h⟩
      · exact h r hrb e.symm
      · have := hb.inj hs hrb e
        exact h (this ▸ hra)
    · exact .inl ⟨hereC r, (mem_changesM a b ha hb _).2 (.inr ⟨r, hrb, rfl, hra⟩), rfl, rfl, rfl⟩
theorem diff_self {a : List Rs} (ha : Rise a) : changesM a a = [] := by
  refine List.eq_nil_iff_forall_not_mem.2 fun c hc => ?_
  rcases (mem_changesM a a ha ha c).1 hc with ⟨t, ht, _, h⟩ | ⟨s, hs, _, h⟩
  · exact h t ht rfl
  · exact h hs
theorem chgM_right {a b : List Rs} {c : Ch} (h : InChg a b c) (ha : ∀ r ∈ a, rightM r = true) (hb : ∀ r ∈ b, rightM r = true) : chgM c = 0 := by
  unfold chgM
  rcases h with ⟨r, hr, rfl, _⟩ | ⟨s, hs, rfl, _⟩
  · have := ha r hr
    unfold rightM at this
    simp only [Bool.and_eq_true, decide_eq_true_eq] at this
    simp [goneC, this.1, numM]
  · have := hb s hs
    unfold rightM at this
    simp only [Bool.and_eq_true, decide_eq_true_eq] at this
    simp [hereC, this.1, this.2]
theorem firstM_of : ∀ {l : List Ch}, (∀ c ∈ l, chgM c = 0) → firstM l = 0
  | [], _ => rfl
  | c :: l, h => by
    rw [firstM, if_neg (by have := h c (List.mem_cons_self); omega)]
    exact firstM_of fun d hd => h d (List.mem_cons_of_mem _ hd)
theorem okVec_of : ∀ {v : List Rs} {p : Option Ls}, Rise v → (∀ r ∈ v, rightM r = true) → (∀ q, p = some q → ∀ r ∈ v, orderM q r.1 < 0) → okVec p v = true
  | [], _, _, _, _ => rfl
  | x :: v, p, h, hr, hp => by
    obtain ⟨h1, h2⟩ := Rise.cons.1 h
    have ih : okVec (some x.1) v = true := okVec_of h2 (fun r hr' => hr r (List.mem_cons_of_mem _ hr')) (fun q hq r hr' => by cases hq; exact h1 r hr')
    simp only [okVec, hr x (List.mem_cons_self), ih, Bool.true_and, Bool.and_true]
    cases p with
    | none => rfl
    | some q => exact decide_eq_true (hp q rfl x (List.mem_cons_self))
theorem vecM_of {v : List Rs} (h : Rise v) (hr : ∀ r ∈ v, rightM r = true) (hl : v.length ≤ 4096) : vecM v = 0 := by
  unfold vecM; rw [if_neg (by omega), if_pos (okVec_of h hr fun q hq => by cases hq)]
theorem vecM_rise {v : List Rs} (h : vecM v = 0) : Rise v ∧ (∀ r ∈ v, rightM r = true) ∧ v.length ≤ 4096 := ⟨(okVec_rise (vecM_zero h).2).1, okVec_all (vecM_zero h).2, (vecM_zero h).1⟩

/-! What a group tells. -/
theorem Tells.uniq {f : Int} {ns : List Nm} {M W W' : List Rs} (h : Tells f ns M W) (h' : Tells f ns M W') : W = W' :=
  rise_ext h.rise h'.rise fun r => by
    have a := h.mem r.1 r.2
    have b := h'.mem r.1 r.2
    exact a.trans b.symm
theorem Tells.nil (f : Int) (ns : List Nm) : Tells f ns [] [] := ⟨Rise.nil, fun r hr => (by cases hr), fun x v => (by simp)⟩
theorem Tells.len {f : Int} {ns : List Nm} {M W : List Rs} (h : Tells f ns M W) : W.length ≤ M.length := by
  have hn : (W.map (·.1)).Nodup := by
    have : W.Pairwise fun r s => orderM r.1 s.1 < 0 := List.pairwise_iff_getElem.2 fun i j hi hj hij => h.rise i j _ _ hij (List.getElem?_eq_getElem hi) (List.getElem?_eq_getElem hj)
    exact List.pairwise_map.2 (this.imp fun h => order_ne h)
  have := nodup_le (m := M.map fun r => onlyM ns r.1) hn fun x hx => by
    obtain ⟨r, hr, rfl⟩ := List.mem_map.1 hx
    obtain ⟨⟨s, hs, e⟩, _⟩ := (h.mem r.1 r.2).1 hr
    exact List.mem_map.2 ⟨s, hs, e⟩
  simpa using this
theorem Tells.vec {f : Int} {ns : List Nm} {M W : List Rs} (h : Tells f ns M W) (hM : M.length ≤ 4096) : vecM W = 0 := vecM_of h.rise h.ok (Nat.le_trans h.len hM)
/-- What is told of labels that were touched. -/
def outC (f : Int) (ns : List Nm) (V V' : List Rs) (x : Ls) : List Ch :=
  if selM ns x V' = [] then (if selM ns x V = [] then [] else [(x, 0, false, true)])
  else if selM ns x V = [] ∨ valG f (selM ns x V') ≠ valG f (selM ns x V) then [(x, (valG f (selM ns x V')).1, (valG f (selM ns x V')).2, false)] else []
theorem outC_lab {f : Int} {ns : List Nm} {V V' : List Rs} {x : Ls} {c : Ch} (h : c ∈ outC f ns V V' x) : c.1 = x := by
  unfold outC at h
  split at h
  · split at h
    · cases h
    · simp at h; rw [h]
  · split at h
    · simp at h; rw [h]
    · cases h
theorem outC_right {f : Int} {ns : List Nm} {V V' : List Rs} {x : Ls} {c : Ch} (hx : checkM x = 0) (h : c ∈ outC f ns V V' x) : chgM c = 0 := by
  unfold outC at h
  split at h
  · split at h
    · cases h
    · simp at h; subst h; simp [chgM, hx, numM]
  · split at h
    · simp at h; subst h
      have := valM_right f (sumV (selM ns x V')) (ovV (selM ns x V') : Nat) (selM ns x V').length (bagV (selM ns x V')) (ovV (selM ns x V'))
      unfold chgM
      rw [if_neg (by simp [hx]), if_neg (by simp; exact this)]
    · cases h
theorem selM_rise {ns : List Nm} {x : Ls} {V : List Rs} (h : Rise V) : Rise (selM ns x V) := by
  have h1 : V.Pairwise fun r s => orderM r.1 s.1 < 0 := List.pairwise_iff_getElem.2 fun i j hi hj hij => h i j _ _ hij (List.getElem?_eq_getElem hi) (List.getElem?_eq_getElem hj)
  have h2 := h1.filter fun r => decide (onlyM ns r.1 = x)
  intro i j r s hij hi hj
  have a := (List.getElem?_eq_some_iff.1 hi)
  have b := (List.getElem?_eq_some_iff.1 hj)
  have := List.pairwise_iff_getElem.1 h2 i j a.1 b.1 hij
  rw [show (List.filter (fun r => decide (onlyM ns r.1 = x)) V)[i]'a.1 = r from a.2, show (List.filter (fun r => decide (onlyM ns r.1 = x)) V)[j]'b.1 = s from b.2] at this
  exact this
theorem sel_same {ns : List Nm} {V V' : List Rs} (hV : Rise V) (hV' : Rise V') {x : Ls} (hx : ¬ ∃ d ∈ changesM V V', onlyM ns d.1 = x) : selM ns x V' = selM ns x V := by
  refine rise_ext (selM_rise hV') (selM_rise hV) fun r => ?_
  rw [selM_mem, selM_mem]
  constructor
  · rintro ⟨h1, h2⟩
    refine ⟨?_, h2⟩
    by_cases h : r ∈ V
    · exact h
    · exact absurd ⟨hereC r, (mem_changesM V V' hV hV' _).2 (.inr ⟨r, h1, rfl, h⟩), h2⟩ hx
  · rintro ⟨h1, h2⟩
    refine ⟨?_, h2⟩
    by_cases h : r ∈ V'
    · exact h
    · exfalso
      by_cases hex : ∃ s ∈ V', s.1 = r.1
      · obtain ⟨s, hs, e⟩ := hex
        refine hx ⟨hereC s, (mem_changesM V V' hV hV' _).2 (.inr ⟨s, hs, rfl, fun hsa => ?_⟩), by show onlyM ns s.1 = x; rw [e]; exact h2⟩
        have := hV.inj hsa h1 e
        exact h (this ▸ hs)
      · exact hx ⟨goneC r, (mem_changesM V V' hV hV' _).2 (.inl ⟨r, h1, rfl, fun s hs e => hex ⟨s, hs, e⟩⟩), h2⟩
/-- What a group answers, put to what was told, is what it tells. -/
theorem tells_step {f : Int} {ns : List Nm} {V V' W : List Rs} {out : List Ch} (hV : Rise V) (hV' : Rise V') (hW : Tells f ns V W) (hn : (out.map (·.1)).Nodup)
    (ho : ∀ c, c ∈ out ↔ ∃ x, (∃ d ∈ changesM V V', onlyM ns d.1 = x) ∧ c ∈ outC f ns V V' x) : Tells f ns V' (foldM W out) ∧ ∀ c ∈ out, chgM c = 0 := by
  have hch : ∀ c ∈ out, chgM c = 0 := fun c hc => by
    obtain ⟨x, ⟨d, hd, e⟩, h⟩ := (ho c).1 hc
    exact outC_right (by rw [← e]; exact onlyM_ok _ _) h
  refine ⟨⟨foldM_rise hW.rise, fun r hr => ?_, fun x v => ?_⟩, hch⟩
  · rcases (mem_foldM hW.rise hn r).1 hr with ⟨c, hc, _, _, rfl⟩ | ⟨_, h⟩
    · exact (chgM_zero (hch c hc)).2
    · exact hW.ok r h
  rw [mem_foldM hW.rise hn, hW.mem, ← selM_ne, ← selM_ne]
  by_cases ht : ∃ d ∈ changesM V V', onlyM ns d.1 = x
  · have hox : ∀ c ∈ out, c.1 = x → c ∈ outC f ns V V' x := fun c hc e => by
      obtain ⟨y, _, h⟩ := (ho c).1 hc
      have := outC_lab h
      rw [← this, e] at h; exact h
    have hxo : ∀ c ∈ outC f ns V V' x, c ∈ out := fun c hc => (ho c).2 ⟨x, ht, hc⟩
    unfold outC at hox hxo
    by_cases h1 : selM ns x V' = []
    · rw [if_pos h1] at hox hxo
      by_cases h2 : selM ns x V = []
      · rw [if_pos h2] at hox
        constructor
        · rintro (⟨c, hc, e, _, _⟩ | ⟨_, h, _⟩)
          · exact absurd (hox c hc e) (by simp)
          · exact absurd h2 h
        · rintro ⟨h, _⟩; exact absurd h1 h
      · rw [if_neg h2] at hox hxo
        have hm := hxo _ (List.mem_cons_self)
        constructor
        · rintro (⟨c, hc, e, hg, _⟩ | ⟨h, _⟩)
          · have := hox c hc e
            simp at this; subst this; cases hg
          · exact absurd rfl (h _ hm)
        · rintro ⟨h, _⟩; exact absurd h1 h
    · rw [if_neg h1] at hox hxo
      by_cases h2 : selM ns x V = [] ∨ valG f (selM ns x V') ≠ valG f (selM ns x V)
      · rw [if_pos h2] at hox hxo
        have hm := hxo _ (List.mem_cons_self)
        constructor
        · rintro (⟨c, hc, e, hg, h⟩ | ⟨h, _⟩)
          · have := hox c hc e
            simp at this; subst this
            exact ⟨h1, congrArg Prod.snd h⟩
          · exact absurd rfl (h _ hm)
        · rintro ⟨_, rfl⟩
          exact .inl ⟨_, hm, rfl, rfl, rfl⟩
      · rw [if_neg h2] at hox
        simp only [not_or, ne_eq, Decidable.not_not] at h2
        constructor
        · rintro (⟨c, hc, e, _, _⟩ | ⟨_, h, hv⟩)
          · exact absurd (hox c hc e) (by simp)
          · exact ⟨h1, by rw [hv, h2.2]⟩
        · rintro ⟨_, rfl⟩
          exact .inr ⟨fun c hc e => absurd (hox c hc e) (by simp), h2.1, h2.2⟩
  · rw [sel_same hV hV' ht]
    constructor
    · rintro (⟨c, hc, e, _, _⟩ | ⟨_, h⟩)
      · obtain ⟨y, hy, h⟩ := (ho c).1 hc
        have e2 : c.1 = x := e
        rw [outC_lab h] at e2; subst e2
        exact absurd hy ht
      · exact h
    · intro h
      refine .inr ⟨fun c hc e => ?_, h⟩
      obtain ⟨y, hy, h⟩ := (ho c).1 hc
      have e2 : c.1 = x := e
      rw [outC_lab h] at e2; subst e2
      exact ht hy

theorem vecW_cap {n0 : Nat} {K : AH} {w : AV} {l : List Rs} (h : VecW n0 K w l) : capOK w := by
  rcases h with ⟨rfl, rfl⟩ | ⟨b, c, X, rfl, h1, h2, h3, h4, h5, h6⟩
  · exact True.intro
  · cases c with
    | ex k => exact h5.1
    | lo k => exact h5

/-- A row in a block of its own, laid since. -/
def FrV (n0 : Nat) (w : AV) : Prop := ∀ b o n c z, w = .slice b o n c z → n0 ≤ b
theorem FrV.nils (n0 : Nat) : FrV n0 .nils := fun _ _ _ _ _ e => by cases e
theorem VecW.fr {n0 : Nat} {K : AH} {w : AV} {l : List Rs} (h : VecW n0 K w l) : FrV n0 w := by
  rcases h with ⟨rfl, rfl⟩ | ⟨b, c, X, rfl, h1, _⟩
  · exact FrV.nils _
  · intro b o n c z e; cases e; exact h1

set_option maxHeartbeats 8000000 in
theorem apply11c (N : Bd) (H : AH) {v u : AV} {a : List Rs} {l : List Ch} (hv : VecAt H v a) (hu : ChsAt H u l) (hsl : ∀ r ∈ l, Short r.1) (hl : l.length ≤ 10000) :
    AC tC N 0 11 [v, u] H fun r K => ∃ w, r = .tuple [w, .int .i64 (applyE a l)] ∧ VecAt K w (applyM a l) ∧ capOK w ∧ FrV H.next w ∧ H.next ≤ K.next ∧ ∀ b y, H.get b = some y → K.get b = some y := by
  refine AC.wf0 fun hwf => ?_
  refine AC.by (n := 36) (rs := [.tmp 4, .tmp 5]) tOK fn11 rfl rfl rfl rfl ?_
  have e0 : (PT.ofList .leaf 0 [v, u]).get 0 = some v := rfl
  have e1 : (PT.ofList .leaf 0 [v, u]).get 1 = some u := rfl
  have nilV : ∀ K, VecAt K .nils [] := fun K => .inl ⟨rfl, rfl, rfl⟩
  have hln := hu.len
  refine zs1 @e0 ?_
  refine AOs.cq tOK fn33 ok33 (vector33 N H hv) ?_
  rintro r K ⟨rfl, rfl⟩
  unfold applyM applyE
  by_cases h1 : vecM a = 0
  case neg =>
    have d1 : decide (vecM a = 0) = false := decide_eq_false h1
    rw [if_pos h1, if_pos h1]
    refine zs1 @d1 ?_
    exact fnPost_ret2 gt1 gt1 ⟨.nils, rfl, nilV _, True.intro, FrV.nils _, Nat.le_refl _, fun _ _ h => h⟩
  have d1 : decide (vecM a = 0) = true := decide_eq_true h1
  rw [if_neg (by omega)]
  refine zs2 @e1 @d1 ?_
  refine AOs.cq tOK fn34 ok34 (checked34 N K hu hsl (by omega)) ?_
  rintro r K ⟨rfl, rfl⟩
  by_cases h2 : firstM l = 0
  case neg =>
    have d2 : decide (firstM l = 0) = false := decide_eq_false h2
    rw [if_pos h2, if_pos h2]
    refine zs1 @d2 ?_
    exact fnPost_ret2 gt1 gt1 ⟨.nils, rfl, nilV _, True.intro, FrV.nils _, Nat.le_refl _, fun _ _ h => h⟩
  have d2 : decide (firstM l = 0) = true := decide_eq_true h2
  rw [if_neg (show ¬ firstM l ≠ 0 by omega)]
  have ⟨la, oa⟩ := vecM_zero h1
  have hfo := fun i => foldM_ok (l := l) (okVec_all oa) (okVec_rise oa).1 (firstM_zero h2) i
  refine zs2 @e0 @d2 ?_
  refine AOs.cq tOK fn35 ok35 (clone35 N K hv (by omega)) ?_
  rintro w0 K1 ⟨hw1, n1, k1⟩
  refine zs3 @al23 @e1 @hln ?_
  refine AW.loop (fun m T L => (∀ b y, K.get b = some y → L.get b = some y) ∧ K.next ≤ L.next ∧ T.get 22 = some u ∧ T.get 23 = some (.int .i64 (l.length : Nat)) ∧ ∃ i w, i ≤ l.length ∧ m = l.length - i ∧ T.get 24 = some (.int .i64 (i : Nat)) ∧ T.get 0 = some w ∧ VecW K.next L w (foldM a (l.take i))) ?_ (l.length - 0)
    ⟨k1, n1, by simp [PT.get_set, e1], by simp [PT.get_set], 0, w0, by omega, rfl, by simp [PT.get_set], by simp [PT.get_set], hw1⟩
  rintro m T L ⟨hk, hn, g22, g23, i, w, hi, rfl, g24, g0, hw⟩
  refine AW.wf0 fun wfL => ?_
  obtain ⟨f1, f2, f3⟩ := hfo i
  by_cases hil : i < l.length
  · have hd := lt_int hil
    obtain ⟨x, hx⟩ : ∃ x, l[i]? = some x := ⟨_, List.getElem?_eq_getElem hil⟩
    have hxc := firstM_zero h2 x (List.mem_of_getElem? hx)
    obtain ⟨ab, ao, ac, aro, avs, xu, rfl, ag, hxu, ax, _⟩ := (hu.keep hk hn).at hx
    generalize hL1 : (L.alloc (.cells false [.nils, .int .i64 0, .bool false, .bool false])).set L.next (.cells false (chC xu x)) = L1
    have hst : astore tC (L.alloc (.cells false [.nils, .int .i64 0, .bool false, .bool false])) 33 (.ptr L.next 0) (.agg (chC xu x)) = some L1 := by
      rw [← hL1]; exact stA33 (x := .nils) (y := .int .i64 0) (z := .bool false) (w := .bool false) (by rw [AH.get_alloc, if_pos rfl]) hxu.one x
    have m1 : L1.next = L.next + 1 := by rw [← hL1]; rfl
    have l1 : ∀ b x, L.get b = some x → L1.get b = some x := fun b z hz => by
      have := wfL b z hz
      rw [← hL1, AH.get_set, if_neg (by omega), AH.get_alloc, if_neg (by omega)]; exact hz
    have q1 : L1.get L.next = some (.cells false (chC xu x)) := by rw [← hL1, AH.get_set, if_pos rfl]
    have t4 : List.take 4 (List.drop 0 (chC xu x)) = chC xu x := rfl
    have t4l : (chC xu x).length = 4 := rfl
    refine zs8 @ix23 @ld33 @g22 @g23 @g24 @g0 @hd (And.intro @hil (And.intro @ag (And.intro @ax (And.intro @t4 (And.intro @t4l (And.intro @al33 (And.intro @hst @q1))))))) ?_
    refine AOs.cq tOK fn36 ok36 (set36 N L1 (hw.keep l1 (by omega)) (hxu.keep (KS.of l1 (by omega))) (chgM_zero hxc).1 f1 f2 (by omega) (by omega)) ?_
    rintro w2 L2 ⟨hw2, k2, n2⟩
    refine zs1 @g24 ?_
    refine ⟨l.length - (i + 1), by omega, fun b y hy => k2 b y (hwf b y hy) (l1 _ _ (hk _ _ hy)), by omega, by simp only [PT.get_set, Nat.reduceEqDiff, reduceIte, g22], by simp only [PT.get_set, Nat.reduceEqDiff, reduceIte, g23], i + 1, w2, by omega, rfl, ?_, gt1, by rw [foldM_take hx]; exact hw2⟩
    simp only [PT.get_set, Nat.reduceEqDiff, reduceIte, wrap64_succ (show i < 9223372036854775807 by omega)]
  · have hd := nlt_int hil
    obtain rfl : i = l.length := by omega
    rw [List.take_length] at hw f3
    have lw := hw.vec.len
    by_cases h4 : 4096 < (foldM a l).length
    · have d4 : decide ((4096 : Int) < (((foldM a l).length : Nat) : Int)) = true := decide_eq_true (by omega)
      rw [if_pos h4, if_pos (by decide)]
      refine zs7 @al22 @g23 @g24 @g0 @hd @lw @d4 ?_
      exact fnPost_ret2 gt1 gt1 ⟨.nils, rfl, nilV _, True.intro, FrV.nils _, hn, hk⟩
    · have d4 : decide ((4096 : Int) < (((foldM a l).length : Nat) : Int)) = false := decide_eq_false (by omega)
      rw [if_neg h4, if_neg (by decide)]
      refine zs7 @al22 @g23 @g24 @g0 @hd @lw @d4 ?_
      exact fnPost_ret2 gt1 gt1 ⟨_, rfl, hw.vec, vecW_cap hw, hw.fr, hn, hk⟩

theorem quietR {C : Ctx} {N : Bd} {G : Nat} {f : FuncId} {args : List AV} {H : AH} {r : AV} (hp : plainR r = true) (h : AC C N G f args H fun x K => x = r ∧ ∀ b o, H.get b = some o → K.get b = some o) : AC C N G f args H fun x K => x = r ∧ K = H := fun ρ w vs hR hv =>
  (h ρ w vs hR hv).mono fun e w' ⟨v, ρ', x, K, ⟨hx, hg⟩, he, h1, h2, h3⟩ => by
    subst hx
    -- the names from the heap's end on are given up
    let ρ'' : Names := fun b => if b < H.next then ρ' b else none
    have hsame : ∀ b, b < H.next → ρ'' b = ρ' b := fun b hb => by simp [ρ'', hb]
    have hold : ∀ b, ρ'' b = ρ b := fun b => by
      by_cases hb : b < H.next
      · rw [hsame b hb, h3.same b hb]
      · simp [ρ'', hb, hR.fresh b (by omega)]
    have e : ρ'' = ρ := funext hold
    have hext := hR.ext h3
    have hR' : R N G ρ H w' := by
      refine ⟨Nat.le_trans hR.size h3.size, hR.glob, fun b o hb => ?_, hR.inj, hR.fresh, hR.gn, hR.vers, hR.flat, h2.draws⟩
      obtain ⟨s, h4, h5⟩ := h2.obj b o (hg b o hb)
      have hlt := hR.dom_lt hb
      refine ⟨s, by rw [← h3.same b hlt]; exact h4, ?_⟩
      obtain ⟨s0, h6, h7⟩ := hR.obj b o hb
      have : s0 = s := by
        have := h3.same b hlt
        rw [h4, h6] at this
        exact (Option.some.inj this).symm
      subst this
      exact OR.back hext hg h7 h5
    exact ⟨v, ρ, x, H, ⟨rfl, rfl⟩, he, plainR_ok x v hp h1, hR', ⟨fun _ _ => rfl, Nat.le_refl _, h3.size, h3.keep, fun b o s q1 q2 q3 => .inr ⟨b, o, s, q1, q2, q3, rfl⟩, fun b o _ q => ⟨o, q⟩, h3.os, h3.tape, h3.output⟩⟩

/-- What Find answers. -/
def findV (l : List Rs) (q : Ls) : Int × Bool := if thereM l q = true then ((l[posM l q]?).map (·.2)).getD (0, false) else (0, false)
theorem find50q (N : Bd) (H : AH) {v t : AV} {l : List Rs} {q : Ls} (hv : VecAt H v l) (ht : LabelsAt H t q) (hvm : vecM l = 0) (hq : checkM q = 0) :
    AC tC N 0 50 [v, t] H fun x K => x = .tuple [.agg [.int .i64 (findV l q).1, .bool (findV l q).2], .bool (thereM l q)] ∧ K = H := by
  refine quietR rfl ((find50 N H hv ht hvm hq).mono ?_)
  rintro r K ⟨h, hk⟩
  refine ⟨?_, hk⟩
  unfold findV
  by_cases hth : thereM l q = true
  · rw [if_pos hth] at h ⊢
    obtain ⟨s, hs, _, rfl⟩ := h
    rw [hs, hth]; rfl
  · rw [if_neg hth] at h ⊢
    have : thereM l q = false := by simpa using hth
    rw [h, this]
theorem findV_mem {l : List Rs} {q : Ls} (h : thereM l q = true) : (q, findV l q) ∈ l := by
  obtain ⟨r, hr, e⟩ := there_at h
  unfold findV
  rw [if_pos h, hr]
  have : (q, r.2) = r := Prod.ext e.symm rfl
  show (q, r.2) ∈ l
  rw [this]; exact List.mem_of_getElem? hr

/-- In the midst of Set: some of what changed is done. -/
structure S1 (K0 L : AH) (m wm tm : Nat) (f : Int) (ns : List Nm) (V : List Rs) (cs csi : List GCell) (M : List Rs) (ws : List (Ls × AV)) (td : List (Ls × (Int × Bool))) (xs : Ls → Prop) : Prop where
  keep : ∀ k y, k ∉ m :: fpsC cs → k ≠ wm → k ≠ tm → K0.get k = some y → L.get k = some y
  next : K0.next ≤ L.next
  cells : CellsH L m ns M csi
  has : HasC csi ns M
  old : ∀ b ∈ fpsC csi, b ∈ fpsC cs ∨ K0.next ≤ b
  noted : NotedAt L wm tm ws td
  wsx : ∀ x, (∃ q ∈ ws, q.1 = x) ↔ xs x
  same : ∀ x, ¬ xs x → selM ns x M = selM ns x V
  tdx : ∀ x v, (x, v) ∈ td ↔ xs x ∧ selM ns x V ≠ [] ∧ v = valG f (selM ns x V)
  i64 : ∀ r ∈ M, I64 r.2.1 ∧ numM r.2.1 r.2.2 = 0
  len : M.length ≤ 100000
section
variable {K0 L L' : AH} {m wm tm : Nat} {f : Int} {ns : List Nm} {V M M' : List Rs} {cs csi csi' : List GCell} {ws ws' : List (Ls × AV)} {td td' : List (Ls × (Int × Bool))} {xs xs' : Ls → Prop}
theorem S1.notin (h : S1 K0 L m wm tm f ns V cs csi M ws td xs) {b : Nat} (hb : b ∉ m :: fpsC cs) (hl : b < K0.next) : b ∉ m :: fpsC csi := fun hm => by
  rcases List.mem_cons.1 hm with hm | hm
  · exact hb (by rw [hm]; exact List.mem_cons_self)
  · rcases h.old b hm with h | h
    · exact hb (List.mem_cons_of_mem _ h)
    · omega
theorem S1.kd (h : S1 K0 L m wm tm f ns V cs csi M ws td xs) (h0 : CellsH K0 m ns V cs) (hwm : ∃ ps v, K0.get wm = some (.map ps v)) (htm : ∃ ps v, K0.get tm = some (.map ps v)) : KD K0 L :=
  ⟨fun b ro vs h1 h2 h3 => h.keep b _ (fun hb => by
      obtain ⟨e1, e2⟩ := h0.work b hb ro vs h1
      rcases h3 with h3 | h3
      · rw [e2] at h3; cases h3
      · rw [e1] at h3; cases h3)
    (fun e => by subst e; obtain ⟨ps, v, hw⟩ := hwm; rw [hw] at h1; cases h1) (fun e => by subst e; obtain ⟨ps, v, hw⟩ := htm; rw [hw] at h1; cases h1) h1, h.next⟩
/-- More was laid. -/
theorem S1.more (h : S1 K0 L m wm tm f ns V cs csi M ws td xs) (hk : ∀ b y, L.get b = some y → L'.get b = some y) (hn : L.next ≤ L'.next) : S1 K0 L' m wm tm f ns V cs csi M ws td xs :=
  { h with keep := fun k y h1 h2 h3 hy => hk _ _ (h.keep k y h1 h2 h3 hy), next := Nat.le_trans h.next hn, cells := h.cells.keep (fun b _ y hy => hk _ _ hy) (KS.of hk hn), noted := h.noted.keep (fun y hy => hk _ _ hy) (fun y hy => hk _ _ hy) (KS.of hk hn) }
/-- Labels were noted. -/
theorem S1.note (h : S1 K0 L m wm tm f ns V cs csi M ws td xs) {x : Ls} (hk : ∀ b y, b ≠ wm → b ≠ tm → L.get b = some y → L'.get b = some y) (hn : L.next ≤ L'.next) (hwf : WF K0) (hw0 : wm ∉ m :: fpsC cs) (ht0 : tm ∉ m :: fpsC cs) (hwl : wm < K0.next) (htl : tm < K0.next)
    (hnt : (∃ q ∈ ws, q.1 = x) ∧ NotedAt L' wm tm ws td ∨ (∀ q ∈ ws, q.1 ≠ x) ∧ ∃ u, NotedAt L' wm tm (ws ++ [(x, u)]) (if selM ns x M = [] then td else td ++ [(x, valG f (selM ns x M))])) :
    ∃ ws' td', S1 K0 L' m wm tm f ns V cs csi M ws' td' fun y => xs y ∨ y = x := by
  have hwc := h.notin hw0 hwl
  have htc := h.notin ht0 htl
  have hks : KS L L' := by
    obtain ⟨v1, hv1⟩ := h.noted.was
    obtain ⟨v2, hv2⟩ := h.noted.told
    exact ⟨fun b ro vs h1 _ _ => hk b _ (fun e => by subst e; rw [hv1] at h1; cases h1) (fun e => by subst e; rw [hv2] at h1; cases h1) h1, hn⟩
  have hcl : CellsH L' m ns M csi := h.cells.keep (fun b hb y hy => hk b y (fun e => hwc (e ▸ hb)) (fun e => htc (e ▸ hb)) hy) hks
  have hkeep : ∀ k y, k ∉ m :: fpsC cs → k ≠ wm → k ≠ tm → K0.get k = some y → L'.get k = some y := fun k y h1 h2 h3 hy => hk k y h2 h3 (h.keep k y h1 h2 h3 hy)
  rcases hnt with ⟨⟨q, hq, e⟩, hnt⟩ | ⟨hne, u, hnt⟩
  · have hx : xs x := (h.wsx x).1 ⟨q, hq, e⟩
    have heq : ∀ y, (xs y ∨ y = x) ↔ xs y := fun y => ⟨fun h => h.elim id fun e => e ▸ hx, .inl⟩
    refine ⟨ws, td, hkeep, Nat.le_trans h.next hn, hcl, h.has, h.old, hnt, fun y => by rw [h.wsx, heq], fun y hy => h.same y fun hxs => hy ((heq y).2 hxs), fun y v => by rw [h.tdx, heq], h.i64, h.len⟩
  · have hx : ¬ xs x := fun hx => by obtain ⟨q, hq, e⟩ := (h.wsx x).2 hx; exact hne q hq e
    have hsm := h.same x hx
    refine ⟨_, _, hkeep, Nat.le_trans h.next hn, hcl, h.has, h.old, hnt, fun y => ?_, fun y hy => h.same y fun hxs => hy (.inl hxs), fun y v => ?_, h.i64, h.len⟩
    · rw [← h.wsx]
      constructor
      · rintro ⟨q, hq, e⟩
        rcases List.mem_append.1 hq with hq | hq
        · exact .inl ⟨q, hq, e⟩
        · simp at hq; subst hq; exact .inr e.symm
      · rintro (⟨q, hq, e⟩ | e)
        · exact ⟨q, List.mem_append.2 (.inl hq), e⟩
        · exact ⟨(x, u), by simp, e.symm⟩
    · rw [hsm]
      by_cases h0 : selM ns x V = []
      · rw [if_pos h0, h.tdx]
        constructor
        · rintro ⟨h1, h2⟩; exact ⟨.inl h1, h2⟩
        · rintro ⟨h1 | h1, h2⟩
          · exact ⟨h1, h2⟩
          · subst h1; exact absurd h0 h2.1
      · rw [if_neg h0, List.mem_append, h.tdx, List.mem_singleton]
        constructor
        · rintro (⟨h1, h2⟩ | e)
          · exact ⟨.inl h1, h2⟩
          · obtain ⟨rfl, rfl⟩ := Prod.mk.injEq .. ▸ e
            exact ⟨.inr rfl, h0, rfl⟩
        · rintro ⟨h1 | h1, h2, h3⟩
          · exact .inl ⟨h1, h2, h3⟩
          · subst h1; exact .inr (by rw [h3])
/-- A cell was turned. -/
theorem S1.turn (h : S1 K0 L m wm tm f ns V cs csi M ws td xs) (hwf : WF K0) (hw0 : wm ∉ m :: fpsC cs) (ht0 : tm ∉ m :: fpsC cs) (hwl : wm < K0.next) (htl : tm < K0.next) (hc : CellsH L' m ns M' csi') (hh : HasC csi' ns M') (hg : GTr L L' m csi csi')
    (hs : ∀ x, ¬ xs x → selM ns x M' = selM ns x M) (hi : ∀ r ∈ M', I64 r.2.1 ∧ numM r.2.1 r.2.2 = 0) (hl : M'.length ≤ 100000) : S1 K0 L' m wm tm f ns V cs csi' M' ws td xs where
  keep k y h1 h2 h3 hy := hg.keep k y (h.notin h1 (hwf _ _ hy)) (h.keep k y h1 h2 h3 hy)
  next := Nat.le_trans h.next hg.next
  cells := hc
  has := hh
  old b hb := by
    rcases hg.old b hb with h1 | h1
    · exact h.old b h1
    · exact .inr (Nat.le_trans h.next h1)
  noted := h.noted.keep (fun y hy => hg.keep _ y (h.notin hw0 hwl) hy) (fun y hy => hg.keep _ y (h.notin ht0 htl) hy) (hg.kd h.cells).ks
  wsx := h.wsx
  same x hx := by rw [hs x hx, h.same x hx]
  tdx := h.tdx
  i64 := hi
  len := hl
end

/-- A group in a heap. -/
structure GroupAt (H : AH) (g m : Nat) (f : Int) (ns : List Nm) (V : List Rs) (cs : List GCell) : Prop where
  here : ∃ un ui, H.get g = some (.cells false [.int .i64 f, un, ui, .map m]) ∧ NamesAt H un ns ∧ VecAt H ui V ∧ capOK ui
  cells : CellsH H m ns V cs
  has : HasC cs ns V
  gm : g ∉ m :: fpsC cs
  vec : vecM V = 0
  i64 : ∀ r ∈ V, I64 r.2.1
  nsl : ns.length ≤ 1000000
theorem VecAt.notB {H : AH} {v : AV} {l : List Rs} (h : VecAt H v l) : isB v = false := by
  have := h.len
  cases v <;> first | rfl | (simp [lenOfAV] at this)
theorem GroupAt.work {H : AH} {g m : Nat} {f : Int} {ns : List Nm} {V : List Rs} {cs : List GCell} (h : GroupAt H g m f ns V cs) : ∀ b ∈ g :: m :: fpsC cs, Work H b := fun b hb => by
  rcases List.mem_cons.1 hb with rfl | hb
  · obtain ⟨un, ui, hg, _, hv, _⟩ := h.here
    intro ro vs hx
    rw [hg] at hx; cases hx
    have := VecAt.notB hv
    exact ⟨rfl, by simp [dataV, isStr, this, show isB (.map m) = false from rfl]⟩
  · exact h.cells.work b hb
theorem fold_from : ∀ {l : List Ch} {v : List Rs}, Rise v → ∀ r ∈ foldM v l, r ∈ v ∨ ∃ c ∈ l, r = resC c
  | [], _, _, r, h => .inl h
  | c :: l, v, hv, r, h => by
    rw [foldM_cons] at h
    rcases fold_from (oneM_rise hv) r h with h | ⟨d, hd, e⟩
    · rw [mem_oneM hv] at h
      split at h
      · exact .inr ⟨c, List.mem_cons_self, h.2⟩
      · exact .inl h
    · exact .inr ⟨d, List.mem_cons_of_mem _ hd, e⟩
theorem applyE_zero {a : List Rs} {l : List Ch} (h : applyE a l = 0) : vecM a = 0 ∧ firstM l = 0 ∧ (foldM a l).length ≤ 4096 ∧ applyM a l = foldM a l := by
  have h0 := h
  unfold applyE at h
  split at h
  · rename_i h1; exact absurd h h1
  · split at h
    · rename_i h1; exact absurd h h1
    · split at h
      · cases h
      · rename_i h1 h2 h3
        exact ⟨by omega, by omega, by omega, by unfold applyM; rw [if_neg (by omega)]⟩
theorem take_or {ns : List Nm} {D : List Ch} {i : Nat} {c : Ch} (h : D[i]? = some c) : (fun x => ∃ d ∈ D.take (i + 1), onlyM ns d.1 = x) = fun x => (∃ d ∈ D.take i, onlyM ns d.1 = x) ∨ x = onlyM ns c.1 := by
  funext x
  apply propext
  rw [List.take_add_one, h]
  constructor
  · rintro ⟨d, hd, e⟩
    rcases List.mem_append.1 hd with hd | hd
    · exact .inl ⟨d, hd, e⟩
    · simp at hd; subst hd; exact .inr e.symm
  · rintro (⟨d, hd, e⟩ | e)
    · exact ⟨d, List.mem_append.2 (.inl hd), e⟩
    · exact ⟨c, List.mem_append.2 (.inr (by simp)), e.symm⟩

/-- What a result's label told is taken out. -/
def outM (V M : List Rs) (q : Ls) : List Rs := if thereM V q = true then M.erase (q, findV V q) else M
theorem nodup_take {D : List Ch} {i : Nat} {c : Ch} (hn : (D.map (·.1)).Nodup) (hc : D[i]? = some c) : ((D.take i).map (·.1)).Nodup ∧ ∀ d ∈ D.take i, d.1 ≠ c.1 := by
  refine ⟨hn.sublist ((List.take_sublist i D).map _), fun d hd e => ?_⟩
  obtain ⟨j, hj, rfl⟩ := List.getElem_of_mem hd
  have hi := List.getElem?_eq_some_iff.1 hc
  have hjl : j < i := by rw [List.length_take] at hj; omega
  rw [List.getElem_take] at e
  obtain ⟨hi1, hi2⟩ := hi
  have := List.pairwise_iff_getElem.1 hn j i (by rw [List.length_map]; omega) (by rw [List.length_map]; exact hi1) hjl
  apply this
  rw [List.getElem_map, List.getElem_map, hi2]; exact e
theorem find_in {V : List Rs} {D : List Ch} {i : Nat} {c : Ch} {M : List Rs} (hV : Rise V) (hn : (D.map (·.1)).Nodup) (hc : D[i]? = some c) (hM : M.Perm (foldM V (D.take i))) (ht : thereM V c.1 = true) : (c.1, findV V c.1) ∈ M := by
  obtain ⟨n1, n2⟩ := nodup_take hn hc
  refine hM.mem_iff.2 ((mem_foldM hV n1 _).2 (.inr ⟨fun d hd => n2 d hd, findV_mem ht⟩))
theorem step_perm {V : List Rs} {D : List Ch} {i : Nat} {c : Ch} {M : List Rs} (hV : Rise V) (hn : (D.map (·.1)).Nodup) (hc : D[i]? = some c) (hM : M.Perm (foldM V (D.take i))) :
    ((if c.2.2.2 = true then [] else [resC c]) ++ outM V M c.1).Perm (foldM V (D.take (i + 1))) := by
  obtain ⟨n1, n2⟩ := nodup_take hn hc
  have hW := foldM_rise (l := D.take i) hV
  rw [foldM_take hc]
  unfold outM
  by_cases ht : thereM V c.1 = true
  · rw [if_pos ht]
    have hm := hM.mem_iff.1 (find_in hV hn hc hM ht)
    exact (List.Perm.append_left _ (hM.erase _)).trans (oneM_perm hW hm rfl).symm
  · rw [if_neg ht]
    refine (List.Perm.append_left _ hM).trans (oneM_perm0 hW fun r hr e => ?_).symm
    rcases (mem_foldM hV n1 r).1 hr with ⟨d, hd, h1, _⟩ | ⟨_, h⟩
    · exact n2 d hd (h1.trans e)
    · exact ht ((there_iff hV).2 ⟨r, h, e⟩)

theorem perm_map_inv {α β : Type} {f : α → β} : ∀ {ks : List β} {l : List α}, ks.Perm (l.map f) → ∃ xs : List α, xs.Perm l ∧ ks = xs.map f
  | [], l, h => by
    have := h.symm.eq_nil
    obtain rfl : l = [] := by simpa using this
    exact ⟨[], List.Perm.refl _, rfl⟩
  | k :: ks, l, h => by
    obtain ⟨x, hx, rfl⟩ := List.mem_map.1 (h.mem_iff.1 List.mem_cons_self)
    obtain ⟨A, B, rfl⟩ := List.append_of_mem hx
    have h2 : (f x :: ks).Perm (f x :: (A ++ B).map f) := h.trans ((List.perm_middle (a := x) (l₁ := A) (l₂ := B)).map f)
    obtain ⟨xs, h3, rfl⟩ := perm_map_inv h2.cons_inv
    exact ⟨x :: xs, (h3.cons x).trans List.perm_middle.symm, rfl⟩
/-- What is told of labels in a row. -/
def outsC (f : Int) (ns : List Nm) (V V' : List Rs) (xs : List Ls) : List Ch := xs.flatMap (outC f ns V V')
theorem outC_le (f : Int) (ns : List Nm) (V V' : List Rs) (x : Ls) : (outC f ns V V' x).length ≤ 1 := by
  unfold outC
  split <;> split <;> simp
theorem outsC_le (f : Int) (ns : List Nm) (V V' : List Rs) : ∀ xs : List Ls, (outsC f ns V V' xs).length ≤ xs.length
  | [] => Nat.le_refl _
  | x :: xs => by
    have := outsC_le f ns V V' xs
    have h1 := outC_le f ns V V' x
    unfold outsC at this ⊢
    rw [List.flatMap_cons, List.length_append, List.length_cons]; omega
theorem outsC_nodup (f : Int) (ns : List Nm) (V V' : List Rs) : ∀ {xs : List Ls}, xs.Nodup → ((outsC f ns V V' xs).map (·.1)).Nodup
  | [], _ => List.nodup_nil
  | x :: xs, h => by
    rw [List.nodup_cons] at h
    have ih := outsC_nodup f ns V V' h.2
    unfold outsC at ih ⊢
    rw [List.flatMap_cons, List.map_append, List.nodup_append]
    refine ⟨?_, ih, fun a ha b hb => ?_⟩
    · have h1 := outC_le f ns V V' x
      match outC f ns V V' x, h1 with
      | [], _ => exact List.nodup_nil
      | [c], _ => simp
    · obtain ⟨c, hc, rfl⟩ := List.mem_map.1 ha
      obtain ⟨d, hd, rfl⟩ := List.mem_map.1 hb
      obtain ⟨y, hy, hd⟩ := List.mem_flatMap.1 hd
      rw [outC_lab hc, outC_lab hd]
      exact fun e => h.1 (e ▸ hy)
theorem outsC_take {f : Int} {ns : List Nm} {V V' : List Rs} {xs : List Ls} {j : Nat} {x : Ls} (h : xs[j]? = some x) : outsC f ns V V' (xs.take (j + 1)) = outsC f ns V V' (xs.take j) ++ outC f ns V V' x := by
  unfold outsC
  rw [List.take_add_one, h, List.flatMap_append]; simp
theorem chunks4 : ∀ {n : Nat} {vs : List AV}, vs.length = n * 4 → ∃ X : List (List AV), X.flatten = vs ∧ X.length = n ∧ ∀ i, i < n → X[i]? = some ((vs.drop (i * 4)).take 4)
  | 0, vs, h => ⟨[], (List.eq_nil_of_length_eq_zero (by omega : vs.length = 0)).symm ▸ rfl, rfl, fun i hi => by omega⟩
  | n + 1, vs, h => by
    obtain ⟨X, h1, h2, h3⟩ := chunks4 (n := n) (vs := vs.drop 4) (by rw [List.length_drop]; omega)
    refine ⟨vs.take 4 :: X, by rw [List.flatten_cons, h1, List.take_append_drop], by rw [List.length_cons, h2], fun i hi => ?_⟩
    cases i with
    | zero => simp
    | succ i =>
      rw [List.getElem?_cons_succ, h3 i (by omega), List.drop_drop]
      congr 3; omega
end Go.Proofs.YtapokkpdgfpokaaGreat
