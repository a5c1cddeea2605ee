/- The abstract values, heaps and their reading in the model's worlds: names for blocks, each name a part of a block of the world. -/
import Derived.Calls
import Derived.Orders
import Derived.Tactics
import Derived.Below
import Derived.Scope
import Derived.Laws.Cells
namespace Go.AB

/-! ### Trees keyed by numbers -/

inductive PT (α : Type) where
  | leaf
  | node (l : PT α) (v : Option α) (r : PT α)

namespace PT
variable {α : Type}
def get : PT α → Nat → Option α
  | leaf, _ => none
  | node l v r, n => match n with
    | 0 => v
    | m + 1 => bif Nat.beq (m % 2) 0 then get l (m / 2) else get r (m / 2)

def one : Nat → Nat → α → PT α
  | 0, _, v => node leaf (some v) leaf
  | f + 1, n, v => match n with
    | 0 => node leaf (some v) leaf
    | m + 1 => bif Nat.beq (m % 2) 0 then node (one f (m / 2) v) none leaf else node leaf none (one f (m / 2) v)

def set : PT α → Nat → α → PT α
  | leaf, n, v => one n n v
  | node l x r, n, v => match n with
    | 0 => node l (some v) r
    | m + 1 => bif Nat.beq (m % 2) 0 then node (set l (m / 2) v) x r else node l x (set r (m / 2) v)

def del : PT α → Nat → PT α
  | leaf, _ => leaf
  | node l x r, n => match n with
    | 0 => node l none r
    | m + 1 => bif Nat.beq (m % 2) 0 then node (del l (m / 2)) x r else node l x (del r (m / 2))

theorem get_one (v : α) : ∀ (f n k : Nat), n ≤ f → (one f n v).get k = if k = n then some v else none
  | 0, n, k, h => by
    obtain rfl : n = 0 := by omega
    cases k with
    | zero => simp [one, get]
    | succ m => simp only [one, get]; cases h : Nat.beq (m % 2) 0 <;> simp
  | f + 1, n, k, h => by
    cases n with
    | zero =>
      cases k with
      | zero => simp [one, get]
      | succ m => simp only [one, get]; cases h : Nat.beq (m % 2) 0 <;> simp
    | succ n =>
      simp only [one]
      cases hn : Nat.beq (n % 2) 0
      · have hn' : n % 2 ≠ 0 := by intro e; simp [e] at hn
        cases k with
        | zero => simp [get]
        | succ m =>
          simp only [cond_false, get]
          cases hm : Nat.beq (m % 2) 0
          · have hm' : m % 2 ≠ 0 := by intro e; simp [e] at hm
            simp only [cond_false, get_one v f (n / 2) (m / 2) (by omega)]
            by_cases e : m = n
            · simp [e]
            · rw [if_neg (by omega), if_neg (by omega)]
          · have hm' : m % 2 = 0 := Nat.eq_of_beq_eq_true hm
            simp only [cond_true]
            rw [if_neg (by omega)]
      · have hn' : n % 2 = 0 := Nat.eq_of_beq_eq_true hn
        cases k with
        | zero => simp [get]
        | succ m =>
          simp only [cond_true, get]
          cases hm : Nat.beq (m % 2) 0
          · have hm' : m % 2 ≠ 0 := by intro e; simp [e] at hm
            simp only [cond_false]
            rw [if_neg (by omega)]
          · have hm' : m % 2 = 0 := Nat.eq_of_beq_eq_true hm
            simp only [cond_true, get_one v f (n / 2) (m / 2) (by omega)]
            by_cases e : m = n
            · simp [e]
            · rw [if_neg (by omega), if_neg (by omega)]

theorem get_set (v : α) : ∀ (t : PT α) (n k : Nat), (t.set n v).get k = if k = n then some v else t.get k
  | leaf, n, k => by simp only [set, get_one v n n k (Nat.le_refl _), get]
  | node l x r, n, k => by
    cases n with
    | zero =>
      cases k with
      | zero => simp [set, get]
      | succ m => simp [set, get]
    | succ n =>
      simp only [set]
      cases hn : Nat.beq (n % 2) 0
      · have hn' : n % 2 ≠ 0 := by intro e; simp [e] at hn
        cases k with
        | zero => simp [get]
        | succ m =>
          simp only [cond_false, get]
          cases hm : Nat.beq (m % 2) 0
          · have hm' : m % 2 ≠ 0 := by intro e; simp [e] at hm
            simp only [cond_false, get_set v r (n / 2) (m / 2)]
            by_cases e : m = n
            · simp [e]
            · rw [if_neg (by omega), if_neg (by omega)]
          · have hm' : m % 2 = 0 := Nat.eq_of_beq_eq_true hm
            simp only [cond_true]
            rw [if_neg (by omega)]
      · have hn' : n % 2 = 0 := Nat.eq_of_beq_eq_true hn
        cases k with
        | zero => simp [get]
        | succ m =>
          simp only [cond_true, get]
          cases hm : Nat.beq (m % 2) 0
          · have hm' : m % 2 ≠ 0 := by intro e; simp [e] at hm
            simp only [cond_false]
            rw [if_neg (by omega)]
          · have hm' : m % 2 = 0 := Nat.eq_of_beq_eq_true hm
            simp only [cond_true, get_set v l (n / 2) (m / 2)]
            by_cases e : m = n
            · simp [e]
            · rw [if_neg (by omega), if_neg (by omega)]

theorem get_del : ∀ (t : PT α) (n k : Nat), (t.del n).get k = if k = n then none else t.get k
  | leaf, n, k => by simp [del, get]
  | node l x r, n, k => by
    cases n with
    | zero =>
      cases k with
      | zero => simp [del, get]
      | succ m => simp [del, get]
    | succ n =>
      simp only [del]
      cases hn : Nat.beq (n % 2) 0
      · have hn' : n % 2 ≠ 0 := by intro e; simp [e] at hn
        cases k with
        | zero => simp [get]
        | succ m =>
          simp only [cond_false, get]
          cases hm : Nat.beq (m % 2) 0
          · have hm' : m % 2 ≠ 0 := by intro e; simp [e] at hm
            simp only [cond_false, get_del r (n / 2) (m / 2)]
            by_cases e : m = n
            · simp [e]
            · rw [if_neg (by omega), if_neg (by omega)]
          · have hm' : m % 2 = 0 := Nat.eq_of_beq_eq_true hm
            simp only [cond_true]
            rw [if_neg (by omega)]
      · have hn' : n % 2 = 0 := Nat.eq_of_beq_eq_true hn
        cases k with
        | zero => simp [get]
        | succ m =>
          simp only [cond_true, get]
          cases hm : Nat.beq (m % 2) 0
          · have hm' : m % 2 ≠ 0 := by intro e; simp [e] at hm
            simp only [cond_false]
            rw [if_neg (by omega)]
          · have hm' : m % 2 = 0 := Nat.eq_of_beq_eq_true hm
            simp only [cond_true, get_del l (n / 2) (m / 2)]
            by_cases e : m = n
            · simp [e]
            · rw [if_neg (by omega), if_neg (by omega)]

/-- A tree out of a list, keyed from k on. -/
def ofList (t : PT α) : Nat → List α → PT α
  | _, [] => t
  | k, a :: l => ofList (t.set k a) (k + 1) l

theorem get_ofList : ∀ (l : List α) (t : PT α) (k n : Nat), (ofList t k l).get n = if k ≤ n ∧ n < k + l.length then l[n - k]? else t.get n
  | [], t, k, n => by simp only [ofList, List.length_nil, Nat.add_zero]; rw [if_neg (by omega)]
  | a :: l, t, k, n => by
    simp only [ofList, get_ofList l, get_set, List.length_cons]
    by_cases h : k + 1 ≤ n ∧ n < k + 1 + l.length
    · rw [if_pos h, if_pos (by omega), show n - k = (n - (k + 1)) + 1 by omega]; simp
    · rw [if_neg h]
      by_cases e : n = k
      · subst e; rw [if_pos rfl, if_pos (by omega)]; simp
      · rw [if_neg e, if_neg (by omega)]

theorem get_ofList0 (l : List α) (n : Nat) : (ofList leaf 0 l).get n = l[n]? := by
  rw [get_ofList]
  by_cases h : n < l.length
  · simp [h]
  · simp [h, get]
end PT

/-! ### Values -/

/-- What is known of a slice's capacity: it is so, or at least so. -/
inductive ACap where
  | ex (n : Nat)
  | lo (n : Nat)

def ACap.ok : ACap → Nat → Prop
  | ex n, c => c = n
  | lo n, c => n ≤ c

inductive AV where
  | junk
  | bool (b : Bool)
  | int (k : IntKind) (n : Int)
  | str (s : List UInt8)
  | nilp
  | ptr (b off : Nat)
  | nils
  | slice (b off len : Nat) (cap : ACap) (sz : Nat)
  | empty (b : Nat)
  | nilm
  | map (b : Nat)
  | func (f : FuncId) (first captured : List AV)
  | nilf
  | iface (t : TypeId) (v : AV)
  | nili
  | agg (cs : List AV)
  | tuple (vs : List AV)
  deriving Inhabited

/-- A part of a block of the world: 'room' places from 'base' on. -/
structure Seg where
  blk : Nat
  base : Nat
  room : Nat

abbrev Names := Nat → Option Seg

mutual
/-- An abstract value stands for a value. -/
def VR (ρ : Names) : AV → Value → Prop
  | .junk, _ => True
  | .bool b, v => v = .bool b
  | .int k n, v => v = .int k n
  | .str s, v => v = .string ⟨s.toArray⟩
  | .nilp, v => v = .pointer none
  | .ptr b o, v => ∃ s, ρ b = some s ∧ v = .pointer (some ⟨s.blk, s.base + o, none⟩)
  | .nils, v => v = .slice none 0 0
  | .slice b o l c z, v => ∃ s cc, ρ b = some s ∧ v = .slice (some ⟨s.blk, s.base + o, none⟩) l cc ∧ c.ok cc ∧ l ≤ cc ∧ o + cc * z ≤ s.room
  | .empty _, v => ∃ a cc, v = .slice (some a) 0 cc
  | .nilm, v => v = .map none
  | .map b, v => ∃ s, ρ b = some s ∧ v = .map (some s.blk)
  | .func f fs cs, v => ∃ us vs, v = .func (.func f) ⟨us⟩ ⟨vs⟩ ∧ VRs ρ fs us ∧ VRs ρ cs vs
  | .nilf, v => v = .nilFunc
  | .iface t x, v => ∃ y, v = .iface t y ∧ VR ρ x y
  | .nili, v => v = .nilIface
  | .agg cs, v => ∃ vs, v = .agg ⟨vs⟩ ∧ VRs ρ cs vs
  | .tuple cs, v => ∃ vs, v = .tuple ⟨vs⟩ ∧ VRs ρ cs vs
def VRs (ρ : Names) : List AV → List Value → Prop
  | [], vs => vs = []
  | a :: as, vs => ∃ v vs', vs = v :: vs' ∧ VR ρ a v ∧ VRs ρ as vs'
end

def Ext (ρ ρ' : Names) : Prop := ∀ b s, ρ b = some s → ρ' b = some s

mutual
theorem VR.ext {ρ ρ' : Names} (h : Ext ρ ρ') : ∀ (a : AV) (v : Value), VR ρ a v → VR ρ' a v
  | .junk, _, _ => by simp [VR]
  | .bool b, v, hv => by simpa [VR] using hv
  | .int k n, v, hv => by simpa [VR] using hv
  | .str s, v, hv => by simpa [VR] using hv
  | .nilp, v, hv => by simpa [VR] using hv
  | .ptr b o, v, hv => by
    simp only [VR] at hv ⊢
    obtain ⟨s, hs, e⟩ := hv
    exact ⟨s, h _ _ hs, e⟩
  | .nils, v, hv => by simpa [VR] using hv
  | .slice b o l c z, v, hv => by
    simp only [VR] at hv ⊢
    obtain ⟨s, cc, hs, r⟩ := hv
    exact ⟨s, cc, h _ _ hs, r⟩
  | .empty b, v, hv => by simpa [VR] using hv
  | .nilm, v, hv => by simpa [VR] using hv
  | .map b, v, hv => by
    simp only [VR] at hv ⊢
    obtain ⟨s, hs, e⟩ := hv
    exact ⟨s, h _ _ hs, e⟩
  | .func f fs cs, v, hv => by
    simp only [VR] at hv ⊢
    obtain ⟨us, vs, e, hus, hvs⟩ := hv
    exact ⟨us, vs, e, VRs.ext h fs us hus, VRs.ext h cs vs hvs⟩
  | .nilf, v, hv => by simpa [VR] using hv
  | .iface t x, v, hv => by
    simp only [VR] at hv ⊢
    obtain ⟨y, e, hy⟩ := hv
    exact ⟨y, e, VR.ext h x y hy⟩
  | .nili, v, hv => by simpa [VR] using hv
  | .agg cs, v, hv => by
    simp only [VR] at hv ⊢
    obtain ⟨vs, e, hvs⟩ := hv
    exact ⟨vs, e, VRs.ext h cs vs hvs⟩
  | .tuple cs, v, hv => by
    simp only [VR] at hv ⊢
    obtain ⟨vs, e, hvs⟩ := hv
    exact ⟨vs, e, VRs.ext h cs vs hvs⟩
theorem VRs.ext {ρ ρ' : Names} (h : Ext ρ ρ') : ∀ (as : List AV) (vs : List Value), VRs ρ as vs → VRs ρ' as vs
  | [], vs, hv => by simpa [VRs] using hv
  | a :: as, vs, hv => by
    simp only [VRs] at hv ⊢
    obtain ⟨v, vs', e, h1, h2⟩ := hv
    exact ⟨v, vs', e, VR.ext h a v h1, VRs.ext h as vs' h2⟩
end

theorem VRs.length {ρ : Names} : ∀ {as : List AV} {vs : List Value}, VRs ρ as vs → vs.length = as.length
  | [], vs, h => by simp only [VRs] at h; simp [h]
  | a :: as, vs, h => by
    simp only [VRs] at h
    obtain ⟨v, vs', rfl, _, h2⟩ := h
    simp [VRs.length h2]

theorem VRs.get {ρ : Names} : ∀ {as : List AV} {vs : List Value}, VRs ρ as vs → ∀ (i : Nat) (a : AV), as[i]? = some a → ∃ v, vs[i]? = some v ∧ VR ρ a v
  | [], _, _, i, a, h => by simp at h
  | a0 :: as, vs, h, i, a, hi => by
    simp only [VRs] at h
    obtain ⟨v, vs', rfl, h1, h2⟩ := h
    cases i with
    | zero => simp at hi; subst hi; exact ⟨v, by simp, h1⟩
    | succ i => simp at hi; obtain ⟨x, hx, hr⟩ := VRs.get h2 i a hi; exact ⟨x, by simpa using hx, hr⟩

theorem VRs.of_get {ρ : Names} : ∀ {as : List AV} {vs : List Value}, vs.length = as.length → (∀ (i : Nat) (a : AV) (v : Value), as[i]? = some a → vs[i]? = some v → VR ρ a v) → VRs ρ as vs
  | [], vs, h, _ => by simp only [VRs]; simpa using h
  | a :: as, [], h, _ => by simp at h
  | a :: as, v :: vs, h, hg => by
    simp only [VRs]
    refine ⟨v, vs, rfl, hg 0 a v (by simp) (by simp), VRs.of_get (by simpa using h) fun i a v ha hv => hg (i + 1) a v (by simpa using ha) (by simpa using hv)⟩

theorem VRs.nil {ρ : Names} : VRs ρ [] [] := by simp [VRs]
theorem VRs.cons {ρ : Names} {a : AV} {v : Value} {as : List AV} {vs : List Value} (h : VR ρ a v) (hs : VRs ρ as vs) : VRs ρ (a :: as) (v :: vs) := by
  simp only [VRs]; exact ⟨v, vs, rfl, h, hs⟩
theorem VRs.append {ρ : Names} : ∀ {as bs : List AV} {vs us : List Value}, VRs ρ as vs → VRs ρ bs us → VRs ρ (as ++ bs) (vs ++ us)
  | [], bs, vs, us, h, h' => by simp only [VRs] at h; subst h; simpa using h'
  | a :: as, bs, vs, us, h, h' => by
    simp only [VRs] at h
    obtain ⟨v, vs', rfl, h1, h2⟩ := h
    exact VRs.cons h1 (VRs.append h2 h')
theorem VRs.take {ρ : Names} (n : Nat) {as : List AV} {vs : List Value} (h : VRs ρ as vs) : VRs ρ (as.take n) (vs.take n) := by
  refine VRs.of_get (by simp [VRs.length h]) fun i a v ha hv => ?_
  rw [List.getElem?_take] at ha hv
  by_cases hi : i < n
  · rw [if_pos hi] at ha hv
    obtain ⟨v', hv', hr⟩ := VRs.get h i a ha
    rw [hv'] at hv; cases hv; exact hr
  · rw [if_neg hi] at ha; cases ha
theorem VRs.drop {ρ : Names} (n : Nat) {as : List AV} {vs : List Value} (h : VRs ρ as vs) : VRs ρ (as.drop n) (vs.drop n) := by
  refine VRs.of_get (by simp [VRs.length h]) fun i a v ha hv => ?_
  rw [List.getElem?_drop] at ha hv
  obtain ⟨v', hv', hr⟩ := VRs.get h _ a ha
  rw [hv'] at hv; cases hv; exact hr

/-! ### Objects and heaps -/

inductive AO where
  /-- Variables in a row; 'ro': of the memory that was there. -/
  | cells (ro : Bool) (vs : List AV)
  | map (es : List (List UInt8 × AV)) (ver : Nat)
  | siter (s : List UInt8) (pos : Nat)
  | miter (m : Nat) (left : List (List UInt8)) (ver : Nat) (cur : Option (List UInt8))

def AO.rw : AO → Bool
  | .cells ro _ => !ro
  | _ => true

structure AH where
  t : PT AO
  next : Nat

def AH.get (H : AH) (b : Nat) : Option AO := H.t.get b
def AH.set (H : AH) (b : Nat) (o : AO) : AH := ⟨H.t.set b o, H.next⟩
def AH.del (H : AH) (b : Nat) : AH := ⟨H.t.del b, H.next⟩
def AH.alloc (H : AH) (o : AO) : AH := ⟨H.t.set H.next o, H.next + 1⟩

theorem AH.get_set (H : AH) (b : Nat) (o : AO) (k : Nat) : (H.set b o).get k = if k = b then some o else H.get k := PT.get_set _ _ _ _
theorem AH.get_del (H : AH) (b k : Nat) : (H.del b).get k = if k = b then none else H.get k := PT.get_del _ _ _
theorem AH.get_alloc (H : AH) (o : AO) (k : Nat) : (H.alloc o).get k = if k = H.next then some o else H.get k := PT.get_set _ _ _ _
@[simp] theorem AH.next_set (H : AH) (b : Nat) (o : AO) : (H.set b o).next = H.next := rfl
@[simp] theorem AH.next_del (H : AH) (b : Nat) : (H.del b).next = H.next := rfl
@[simp] theorem AH.next_alloc (H : AH) (o : AO) : (H.alloc o).next = H.next + 1 := rfl

/-- Cells of a row, from 'base' on, are these. -/
def CellsR (ρ : Names) (vs : List AV) (c : Array Value) (base : Nat) : Prop :=
  ∀ (i : Nat) (a : AV), vs[i]? = some a → ∃ v, c[base + i]? = some v ∧ VR ρ a v

/-- A map's entries. -/
def EntsR (ρ : Names) : List (List UInt8 × AV) → List MapEntry → Prop
  | [], es => es = []
  | p :: ps, es => ∃ e es', es = e :: es' ∧ e.key = .string ⟨p.1.toArray⟩ ∧ VR ρ p.2 e.val ∧ EntsR ρ ps es'

structure MapR (ρ : Names) (ps : List (List UInt8 × AV)) (es : Array MapEntry) (clock : Nat) : Prop where
  ents : EntsR ρ ps es.toList
  keys : (ps.map (·.1)).Nodup
  born : (es.toList.map (·.born)).Pairwise (· < ·)
  old : ∀ e ∈ es.toList, e.born < clock

/-- The keys that an iterator has not yet come to. -/
def leftKeys (es : List MapEntry) (seen : Array Nat) : List Value := (es.filter fun e => !seen.contains e.born).map (·.key)

theorem notFrozen {lo hi n : Nat} (h : lo = hi ∨ n ≤ lo) (j : Nat) (hj : j < n) : (decide (lo ≤ j) && decide (j < hi)) = false := by
  rw [Bool.eq_false_iff]
  simp
  intro h1
  omega

/-- An object stands for what lies at its name. -/
def OR (N : Nat) (ρ : Names) (H : AH) (w : World) (s : Seg) : AO → Prop
  | .cells ro vs => ∃ c e lo hi, w.heap[s.blk]? = some (.cells c e (lo, hi)) ∧ s.base + s.room ≤ c.size ∧ vs.length ≤ s.room ∧ CellsR ρ vs c s.base ∧
      (ro = true → s.blk < N) ∧ (ro = false → N ≤ s.blk ∧ (lo = hi ∨ c.size ≤ lo))
  | .map ps _ => N ≤ s.blk ∧ ∃ es clock, w.heap[s.blk]? = some (.map es clock) ∧ MapR ρ ps es clock
  | .siter t pos => N ≤ s.blk ∧ s.base = 0 ∧ w.heap[s.blk]? = some (.stringIter ⟨t.toArray⟩ pos)
  | .miter m left ver cur => N ≤ s.blk ∧ s.base = 0 ∧ ∃ since seen st sm, w.heap[s.blk]? = some (.mapIter (some sm.blk) since seen st) ∧ ρ m = some sm ∧
      ∀ ps, H.get m = some (.map ps ver) → ∀ es clock, w.heap[sm.blk]? = some (.map es clock) →
        (∀ e ∈ es.toList, e.born < since) ∧ leftKeys es.toList seen = left.map (fun k => Value.string ⟨k.toArray⟩) ∧ st = clock ∧
        (∀ k, cur = some k → ∃ e, e ∈ es.toList ∧ e.key = .string ⟨k.toArray⟩ ∧ seen.back? = some e.born)

/-- **The reading of an abstract heap in a world**: N: the blocks below it are read alone; G: the package-level variables. -/
structure R (N G : Nat) (ρ : Names) (H : AH) (w : World) : Prop where
  size : N ≤ w.heap.size
  glob : ∀ g, g < G → ∃ room, ρ g = some ⟨g, 0, room⟩
  obj : ∀ b o, H.get b = some o → ∃ s, ρ b = some s ∧ OR N ρ H w s o
  inj : ∀ b b' o o' s s', H.get b = some o → H.get b' = some o' → o.rw = true → o'.rw = true → ρ b = some s → ρ b' = some s' → s.blk = s'.blk → b = b'
  fresh : ∀ b, H.next ≤ b → ρ b = none
  gn : G ≤ H.next
  vers : ∀ b m l v c, H.get b = some (.miter m l v c) → v < H.next
  flat : ∀ b s, ρ b = some s → N ≤ s.blk → s.base = 0

/-- **What a step leaves alone.** -/
structure Fr (ρ : Names) (H : AH) (w : World) (ρ' : Names) (H' : AH) (w' : World) : Prop where
  same : ∀ b, b < H.next → ρ' b = ρ b
  next : H.next ≤ H'.next
  size : w.heap.size ≤ w'.heap.size
  keep : ∀ k, k < w.heap.size → (∀ b o s, H.get b = some o → o.rw = true → ρ b = some s → s.blk ≠ k) → w'.heap[k]? = w.heap[k]?
  own : ∀ b o s, H'.get b = some o → o.rw = true → ρ' b = some s → w.heap.size ≤ s.blk ∨ ∃ b0 o0 s0, H.get b0 = some o0 ∧ o0.rw = true ∧ ρ b0 = some s0 ∧ s0.blk = s.blk
  dom : ∀ b o, b < H.next → H'.get b = some o → ∃ o0, H.get b = some o0
  os : w'.os = w.os
  tape : w'.tape = w.tape
  output : w'.output = w.output

end Go.AB
