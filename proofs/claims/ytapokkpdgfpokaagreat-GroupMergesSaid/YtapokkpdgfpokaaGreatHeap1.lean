/- Own abstract heaps and operations, proved sound over the given model: names, values, objects, pure operations; no condition. -/
import Derived.Calls
import Derived.Orders
import Derived.Tactics
import Derived.Below
import Derived.Scope
import Derived.Laws.Cells
import Derived.Laws.Strings
import Derived.Lib.IndexBytes
set_option linter.unusedSimpArgs false
set_option linter.unusedVariables false
namespace Go.AB

/-! ### Trees keyed by numbers -/

inductive PT (α : Type) where
  | leaf
  | node (l : PT α) (v : Option α) (r : PT α)

namespace PT
variable {α : Type}
def get : PT α → Nat → Option α
  | leaf, _ => none
  | node l v r, n => match n with
    | 0 => v
    | m + 1 => bif Nat.beq (m % 2) 0 then get l (m / 2) else get r (m / 2)

def one : Nat → Nat → α → PT α
  | 0, _, v => node leaf (some v) leaf
  | f + 1, n, v => match n with
    | 0 => node leaf (some v) leaf
    | m + 1 => bif Nat.beq (m % 2) 0 then node (one f (m / 2) v) none leaf else node leaf none (one f (m / 2) v)

def set : PT α → Nat → α → PT α
  | leaf, n, v => one n n v
  | node l x r, n, v => match n with
    | 0 => node l (some v) r
    | m + 1 => bif Nat.beq (m % 2) 0 then node (set l (m / 2) v) x r else node l x (set r (m / 2) v)

def del : PT α → Nat → PT α
  | leaf, _ => leaf
  | node l x r, n => match n with
    | 0 => node l none r
    | m + 1 => bif Nat.beq (m % 2) 0 then node (del l (m / 2)) x r else node l x (del r (m / 2))

theorem get_one (v : α) : ∀ (f n k : Nat), n ≤ f → (one f n v).get k = if k = n then some v else none
  | 0, n, k, h => by
    obtain rfl : n = 0 := by omega
    cases k with
    | zero => simp [one, get]
    | succ m => simp only [one, get]; cases h : Nat.beq (m % 2) 0 <;> simp
  | f + 1, n, k, h => by
    cases n with
    | zero =>
      cases k with
      | zero => simp [one, get]
      | succ m => simp only [one, get]; cases h : Nat.beq (m % 2) 0 <;> simp
    | succ n =>
      simp only [one]
      cases hn : Nat.beq (n % 2) 0
      · have hn' : n % 2 ≠ 0 := by intro e; simp [e] at hn
        cases k with
        | zero => simp [get]
        | succ m =>
          simp only [cond_false, get]
          cases hm : Nat.beq (m % 2) 0
          · have hm' : m % 2 ≠ 0 := by intro e; simp [e] at hm
            simp only [cond_false, get_one v f (n / 2) (m / 2) (by omega)]
            by_cases e : m = n
            · simp [e]
            · rw [if_neg (by omega), if_neg (by omega)]
          · have hm' : m % 2 = 0 := Nat.eq_of_beq_eq_true hm
            simp only [cond_true]
            rw [if_neg (by omega)]
      · have hn' : n % 2 = 0 := Nat.eq_of_beq_eq_true hn
        cases k with
        | zero => simp [get]
        | succ m =>
          simp only [cond_true, get]
          cases hm : Nat.beq (m % 2) 0
          · have hm' : m % 2 ≠ 0 := by intro e; simp [e] at hm
            simp only [cond_false]
            rw [if_neg (by omega)]
          · have hm' : m % 2 = 0 := Nat.eq_of_beq_eq_true hm
            simp only [cond_true, get_one v f (n / 2) (m / 2) (by omega)]
            by_cases e : m = n
            · simp [e]
            · rw [if_neg (by omega), if_neg (by omega)]

theorem get_set (v : α) : ∀ (t : PT α) (n k : Nat), (t.set n v).get k = if k = n then some v else t.get k
  | leaf, n, k => by simp only [set, get_one v n n k (Nat.le_refl _), get]
  | node l x r, n, k => by
    cases n with
    | zero =>
      cases k with
      | zero => simp [set, get]
      | succ m => simp [set, get]
    | succ n =>
      simp only [set]
      cases hn : Nat.beq (n % 2) 0
      · have hn' : n % 2 ≠ 0 := by intro e; simp [e] at hn
        cases k with
        | zero => simp [get]
        | succ m =>
          simp only [cond_false, get]
          cases hm : Nat.beq (m % 2) 0
          · have hm' : m % 2 ≠ 0 := by intro e; simp [e] at hm
            simp only [cond_false, get_set v r (n / 2) (m / 2)]
            by_cases e : m = n
            · simp [e]
            · rw [if_neg (by omega), if_neg (by omega)]
          · have hm' : m % 2 = 0 := Nat.eq_of_beq_eq_true hm
            simp only [cond_true]
            rw [if_neg (by omega)]
      · have hn' : n % 2 = 0 := Nat.eq_of_beq_eq_true hn
        cases k with
        | zero => simp [get]
        | succ m =>
          simp only [cond_true, get]
          cases hm : Nat.beq (m % 2) 0
          · have hm' : m % 2 ≠ 0 := by intro e; simp [e] at hm
            simp only [cond_false]
            rw [if_neg (by omega)]
          · have hm' : m % 2 = 0 := Nat.eq_of_beq_eq_true hm
            simp only [cond_true, get_set v l (n / 2) (m / 2)]
            by_cases e : m = n
            · simp [e]
            · rw [if_neg (by omega), if_neg (by omega)]

theorem get_del : ∀ (t : PT α) (n k : Nat), (t.del n).get k = if k = n then none else t.get k
  | leaf, n, k => by simp [del, get]
  | node l x r, n, k => by
    cases n with
    | zero =>
      cases k with
      | zero => simp [del, get]
      | succ m => simp [del, get]
    | succ n =>
      simp only [del]
      cases hn : Nat.beq (n % 2) 0
      · have hn' : n % 2 ≠ 0 := by intro e; simp [e] at hn
        cases k with
        | zero => simp [get]
        | succ m =>
          simp only [cond_false, get]
          cases hm : Nat.beq (m % 2) 0
          · have hm' : m % 2 ≠ 0 := by intro e; simp [e] at hm
            simp only [cond_false, get_del r (n / 2) (m / 2)]
            by_cases e : m = n
            · simp [e]
            · rw [if_neg (by omega), if_neg (by omega)]
          · have hm' : m % 2 = 0 := Nat.eq_of_beq_eq_true hm
            simp only [cond_true]
            rw [if_neg (by omega)]
      · have hn' : n % 2 = 0 := Nat.eq_of_beq_eq_true hn
        cases k with
        | zero => simp [get]
        | succ m =>
          simp only [cond_true, get]
          cases hm : Nat.beq (m % 2) 0
          · have hm' : m % 2 ≠ 0 := by intro e; simp [e] at hm
            simp only [cond_false]
            rw [if_neg (by omega)]
          · have hm' : m % 2 = 0 := Nat.eq_of_beq_eq_true hm
            simp only [cond_true, get_del l (n / 2) (m / 2)]
            by_cases e : m = n
            · simp [e]
            · rw [if_neg (by omega), if_neg (by omega)]

/-- A tree out of a list, keyed from k on. -/
def ofList (t : PT α) : Nat → List α → PT α
  | _, [] => t
  | k, a :: l => ofList (t.set k a) (k + 1) l

theorem get_ofList : ∀ (l : List α) (t : PT α) (k n : Nat), (ofList t k l).get n = if k ≤ n ∧ n < k + l.length then l[n - k]? else t.get n
  | [], t, k, n => by simp only [ofList, List.length_nil, Nat.add_zero]; rw [if_neg (by omega)]
  | a :: l, t, k, n => by
    simp only [ofList, get_ofList l, get_set, List.length_cons]
    by_cases h : k + 1 ≤ n ∧ n < k + 1 + l.length
    · rw [if_pos h, if_pos (by omega), show n - k = (n - (k + 1)) + 1 by omega]; simp
    · rw [if_neg h]
      by_cases e : n = k
      · subst e; rw [if_pos rfl, if_pos (by omega)]; simp
      · rw [if_neg e, if_neg (by omega)]

theorem get_ofList0 (l : List α) (n : Nat) : (ofList leaf 0 l).get n = l[n]? := by
  rw [get_ofList]
  by_cases h : n < l.length
  · simp [h]
  · simp [h, get]
end PT

/-! ### Values -/

/-- What is known of a slice's capacity: it is so, or at least so. -/
inductive ACap where
  | ex (n : Nat)
  | lo (n : Nat)

def ACap.ok : ACap → Nat → Prop
  | ex n, c => c = n
  | lo n, c => n ≤ c

inductive AV where
  | junk
  | bool (b : Bool)
  | int (k : IntKind) (n : Int)
  | str (s : List UInt8)
  | nilp
  | ptr (b off : Nat)
  | nils
  | slice (b off len : Nat) (cap : ACap) (sz : Nat)
  | empty (b : Nat)
  | nilm
  | map (b : Nat)
  | func (f : FuncId) (first captured : List AV)
  | nilf
  | iface (t : TypeId) (v : AV)
  | nili
  | agg (cs : List AV)
  | tuple (vs : List AV)
  deriving Inhabited

/-- A part of a block of the world: 'room' places from 'base' on. -/
structure Seg where
  blk : Nat
  base : Nat
  room : Nat

abbrev Names := Nat → Option Seg

mutual
/-- An abstract value stands for a value. -/
def VR (ρ : Names) : AV → Value → Prop
  | .junk, _ => True
  | .bool b, v => v = .bool b
  | .int k n, v => v = .int k n
  | .str s, v => v = .string ⟨s.toArray⟩
  | .nilp, v => v = .pointer none
  | .ptr b o, v => ∃ s, ρ b = some s ∧ v = .pointer (some ⟨s.blk, s.base + o, none⟩)
  | .nils, v => v = .slice none 0 0
  | .slice b o l c z, v => ∃ s cc, ρ b = some s ∧ v = .slice (some ⟨s.blk, s.base + o, none⟩) l cc ∧ c.ok cc ∧ l ≤ cc ∧ o + cc * z ≤ s.room
  | .empty _, v => ∃ a cc, v = .slice (some a) 0 cc
  | .nilm, v => v = .map none
  | .map b, v => ∃ s, ρ b = some s ∧ v = .map (some s.blk)
  | .func f fs cs, v => ∃ us vs, v = .func (.func f) ⟨us⟩ ⟨vs⟩ ∧ VRs ρ fs us ∧ VRs ρ cs vs
  | .nilf, v => v = .nilFunc
  | .iface t x, v => ∃ y, v = .iface t y ∧ VR ρ x y
  | .nili, v => v = .nilIface
  | .agg cs, v => ∃ vs, v = .agg ⟨vs⟩ ∧ VRs ρ cs vs
  | .tuple cs, v => ∃ vs, v = .tuple ⟨vs⟩ ∧ VRs ρ cs vs
def VRs (ρ : Names) : List AV → List Value → Prop
  | [], vs => vs = []
  | a :: as, vs => ∃ v vs', vs = v :: vs' ∧ VR ρ a v ∧ VRs ρ as vs'
end

def Ext (ρ ρ' : Names) : Prop := ∀ b s, ρ b = some s → ρ' b = some s

mutual
theorem VR.ext {ρ ρ' : Names} (h : Ext ρ ρ') : ∀ (a : AV) (v : Value), VR ρ a v → VR ρ' a v
  | .junk, _, _ => by simp [VR]
  | .bool b, v, hv => by simpa [VR] using hv
  | .int k n, v, hv => by simpa [VR] using hv
  | .str s, v, hv => by simpa [VR] using hv
  | .nilp, v, hv => by simpa [VR] using hv
  | .ptr b o, v, hv => by
    simp only [VR] at hv ⊢
    obtain ⟨s, hs, e⟩ := hv
    exact ⟨s, h _ _ hs, e⟩
  | .nils, v, hv => by simpa [VR] using hv
  | .slice b o l c z, v, hv => by
    simp only [VR] at hv ⊢
    obtain ⟨s, cc, hs, r⟩ := hv
    exact ⟨s, cc, h _ _ hs, r⟩
  | .empty b, v, hv => by simpa [VR] using hv
  | .nilm, v, hv => by simpa [VR] using hv
  | .map b, v, hv => by
    simp only [VR] at hv ⊢
    obtain ⟨s, hs, e⟩ := hv
    exact ⟨s, h _ _ hs, e⟩
  | .func f fs cs, v, hv => by
    simp only [VR] at hv ⊢
    obtain ⟨us, vs, e, hus, hvs⟩ := hv
    exact ⟨us, vs, e, VRs.ext h fs us hus, VRs.ext h cs vs hvs⟩
  | .nilf, v, hv => by simpa [VR] using hv
  | .iface t x, v, hv => by
    simp only [VR] at hv ⊢
    obtain ⟨y, e, hy⟩ := hv
    exact ⟨y, e, VR.ext h x y hy⟩
  | .nili, v, hv => by simpa [VR] using hv
  | .agg cs, v, hv => by
    simp only [VR] at hv ⊢
    obtain ⟨vs, e, hvs⟩ := hv
    exact ⟨vs, e, VRs.ext h cs vs hvs⟩
  | .tuple cs, v, hv => by
    simp only [VR] at hv ⊢
    obtain ⟨vs, e, hvs⟩ := hv
    exact ⟨vs, e, VRs.ext h cs vs hvs⟩
theorem VRs.ext {ρ ρ' : Names} (h : Ext ρ ρ') : ∀ (as : List AV) (vs : List Value), VRs ρ as vs → VRs ρ' as vs
  | [], vs, hv => by simpa [VRs] using hv
  | a :: as, vs, hv => by
    simp only [VRs] at hv ⊢
    obtain ⟨v, vs', e, h1, h2⟩ := hv
    exact ⟨v, vs', e, VR.ext h a v h1, VRs.ext h as vs' h2⟩
end

theorem VRs.length {ρ : Names} : ∀ {as : List AV} {vs : List Value}, VRs ρ as vs → vs.length = as.length
  | [], vs, h => by simp only [VRs] at h; simp [h]
  | a :: as, vs, h => by
    simp only [VRs] at h
    obtain ⟨v, vs', rfl, _, h2⟩ := h
    simp [VRs.length h2]

theorem VRs.get {ρ : Names} : ∀ {as : List AV} {vs : List Value}, VRs ρ as vs → ∀ (i : Nat) (a : AV), as[i]? = some a → ∃ v, vs[i]? = some v ∧ VR ρ a v
  | [], _, _, i, a, h => by simp at h
  | a0 :: as, vs, h, i, a, hi => by
    simp only [VRs] at h
    obtain ⟨v, vs', rfl, h1, h2⟩ := h
    cases i with
    | zero => simp at hi; subst hi; exact ⟨v, by simp, h1⟩
    | succ i => simp at hi; obtain ⟨x, hx, hr⟩ := VRs.get h2 i a hi; exact ⟨x, by simpa using hx, hr⟩

theorem VRs.of_get {ρ : Names} : ∀ {as : List AV} {vs : List Value}, vs.length = as.length → (∀ (i : Nat) (a : AV) (v : Value), as[i]? = some a → vs[i]? = some v → VR ρ a v) → VRs ρ as vs
  | [], vs, h, _ => by simp only [VRs]; simpa using h
  | a :: as, [], h, _ => by simp at h
  | a :: as, v :: vs, h, hg => by
    simp only [VRs]
    refine ⟨v, vs, rfl, hg 0 a v (by simp) (by simp), VRs.of_get (by simpa using h) fun i a v ha hv => hg (i + 1) a v (by simpa using ha) (by simpa using hv)⟩

theorem VRs.nil {ρ : Names} : VRs ρ [] [] := by simp [VRs]
theorem VRs.cons {ρ : Names} {a : AV} {v : Value} {as : List AV} {vs : List Value} (h : VR ρ a v) (hs : VRs ρ as vs) : VRs ρ (a :: as) (v :: vs) := by
  simp only [VRs]; exact ⟨v, vs, rfl, h, hs⟩
theorem VRs.append {ρ : Names} : ∀ {as bs : List AV} {vs us : List Value}, VRs ρ as vs → VRs ρ bs us → VRs ρ (as ++ bs) (vs ++ us)
  | [], bs, vs, us, h, h' => by simp only [VRs] at h; subst h; simpa using h'
  | a :: as, bs, vs, us, h, h' => by
    simp only [VRs] at h
    obtain ⟨v, vs', rfl, h1, h2⟩ := h
    exact VRs.cons h1 (VRs.append h2 h')
theorem VRs.take {ρ : Names} (n : Nat) {as : List AV} {vs : List Value} (h : VRs ρ as vs) : VRs ρ (as.take n) (vs.take n) := by
  refine VRs.of_get (by simp [VRs.length h]) fun i a v ha hv => ?_
  rw [List.getElem?_take] at ha hv
  by_cases hi : i < n
  · rw [if_pos hi] at ha hv
    obtain ⟨v', hv', hr⟩ := VRs.get h i a ha
    rw [hv'] at hv; cases hv; exact hr
  · rw [if_neg hi] at ha; cases ha
theorem VRs.drop {ρ : Names} (n : Nat) {as : List AV} {vs : List Value} (h : VRs ρ as vs) : VRs ρ (as.drop n) (vs.drop n) := by
  refine VRs.of_get (by simp [VRs.length h]) fun i a v ha hv => ?_
  rw [List.getElem?_drop] at ha hv
  obtain ⟨v', hv', hr⟩ := VRs.get h _ a ha
  rw [hv'] at hv; cases hv; exact hr

/-! ### Objects and heaps -/

inductive AO where
  /-- Variables in a row; 'ro': of the memory that was there. -/
  | cells (ro : Bool) (vs : List AV)
  | map (es : List (List UInt8 × AV)) (ver : Nat)
  | siter (s : List UInt8) (pos : Nat)
  | miter (m : Nat) (left : List (List UInt8)) (ver : Nat) (cur : Option (List UInt8))
  /-- A whole block of the memory that was there. -/
  | full (vs : List AV)

def AO.rw : AO → Bool
  | .cells ro _ => !ro
  | .full _ => false
  | _ => true

structure AH where
  t : PT AO
  next : Nat

def AH.get (H : AH) (b : Nat) : Option AO := H.t.get b
def AH.set (H : AH) (b : Nat) (o : AO) : AH := ⟨H.t.set b o, H.next⟩
def AH.del (H : AH) (b : Nat) : AH := ⟨H.t.del b, H.next⟩
def AH.alloc (H : AH) (o : AO) : AH := ⟨H.t.set H.next o, H.next + 1⟩

theorem AH.get_set (H : AH) (b : Nat) (o : AO) (k : Nat) : (H.set b o).get k = if k = b then some o else H.get k := PT.get_set _ _ _ _
theorem AH.get_del (H : AH) (b k : Nat) : (H.del b).get k = if k = b then none else H.get k := PT.get_del _ _ _
theorem AH.get_alloc (H : AH) (o : AO) (k : Nat) : (H.alloc o).get k = if k = H.next then some o else H.get k := PT.get_set _ _ _ _
@[simp] theorem AH.next_set (H : AH) (b : Nat) (o : AO) : (H.set b o).next = H.next := rfl
@[simp] theorem AH.next_del (H : AH) (b : Nat) : (H.del b).next = H.next := rfl
@[simp] theorem AH.next_alloc (H : AH) (o : AO) : (H.alloc o).next = H.next + 1 := rfl

/-- Cells of a row, from 'base' on, are these. -/
def CellsR (ρ : Names) (vs : List AV) (c : Array Value) (base : Nat) : Prop :=
  ∀ (i : Nat) (a : AV), vs[i]? = some a → ∃ v, c[base + i]? = some v ∧ VR ρ a v

/-- A map's entries. -/
def EntsR (ρ : Names) : List (List UInt8 × AV) → List MapEntry → Prop
  | [], es => es = []
  | p :: ps, es => ∃ e es', es = e :: es' ∧ e.key = .string ⟨p.1.toArray⟩ ∧ VR ρ p.2 e.val ∧ EntsR ρ ps es'

structure MapR (ρ : Names) (ps : List (List UInt8 × AV)) (es : Array MapEntry) (clock : Nat) : Prop where
  ents : EntsR ρ ps es.toList
  keys : (ps.map (·.1)).Nodup
  born : (es.toList.map (·.born)).Pairwise (· < ·)
  old : ∀ e ∈ es.toList, e.born < clock

/-- The keys that an iterator has not yet come to. -/
def leftKeys (es : List MapEntry) (seen : Array Nat) : List Value := (es.filter fun e => !seen.contains e.born).map (·.key)

theorem notFrozen {lo hi n : Nat} (h : lo = hi ∨ n ≤ lo) (j : Nat) (hj : j < n) : (decide (lo ≤ j) && decide (j < hi)) = false := by
  rw [Bool.eq_false_iff]
  simp
  intro h1
  omega

/-- An object stands for what lies at its name. -/
def OR (N : Nat) (ρ : Names) (H : AH) (w : World) (s : Seg) : AO → Prop
  | .cells ro vs => ∃ c e lo hi, w.heap[s.blk]? = some (.cells c e (lo, hi)) ∧ s.base + s.room ≤ c.size ∧ vs.length ≤ s.room ∧ CellsR ρ vs c s.base ∧
      (ro = true → s.blk < N) ∧ (ro = false → N ≤ s.blk ∧ (lo = hi ∨ c.size ≤ lo))
  | .map ps _ => N ≤ s.blk ∧ ∃ es clock, w.heap[s.blk]? = some (.map es clock) ∧ MapR ρ ps es clock
  | .siter t pos => N ≤ s.blk ∧ s.base = 0 ∧ w.heap[s.blk]? = some (.stringIter ⟨t.toArray⟩ pos)
  | .miter m left ver cur => N ≤ s.blk ∧ s.base = 0 ∧ ∃ since seen st sm, w.heap[s.blk]? = some (.mapIter (some sm.blk) since seen st) ∧ ρ m = some sm ∧
      ∀ ps, H.get m = some (.map ps ver) → ∀ es clock, w.heap[sm.blk]? = some (.map es clock) →
        (∀ e ∈ es.toList, e.born < since) ∧ leftKeys es.toList seen = left.map (fun k => Value.string ⟨k.toArray⟩) ∧ st = clock ∧
        (∀ k, cur = some k → ∃ e, e ∈ es.toList ∧ e.key = .string ⟨k.toArray⟩ ∧ seen.back? = some e.born)
  | .full vs => s.base = 0 ∧ s.blk < N ∧ ∃ c e fr, w.heap[s.blk]? = some (.cells c e fr) ∧ c.size = vs.length ∧ CellsR ρ vs c 0

/-- Bounds: the blocks below the first are read alone; so many draws were made at least. -/
structure Bd where
  n : Nat
  d : Nat

/-- **The reading of an abstract heap in a world**: N: the blocks below it are read alone, and how many draws there were at least; G: the package-level variables. -/
structure R (N : Bd) (G : Nat) (ρ : Names) (H : AH) (w : World) : Prop where
  size : N.n ≤ w.heap.size
  glob : ∀ g, g < G → ∃ room, ρ g = some ⟨g, 0, room⟩
  obj : ∀ b o, H.get b = some o → ∃ s, ρ b = some s ∧ OR N.n ρ H w s o
  inj : ∀ b b' o o' s s', H.get b = some o → H.get b' = some o' → o.rw = true → o'.rw = true → ρ b = some s → ρ b' = some s' → s.blk = s'.blk → b = b'
  fresh : ∀ b, H.next ≤ b → ρ b = none
  gn : G ≤ H.next
  vers : ∀ b m l v c, H.get b = some (.miter m l v c) → v < H.next
  flat : ∀ b s, ρ b = some s → N.n ≤ s.blk → s.base = 0
  draws : N.d ≤ w.drawn

/-- **What a step leaves alone.** -/
structure Fr (ρ : Names) (H : AH) (w : World) (ρ' : Names) (H' : AH) (w' : World) : Prop where
  same : ∀ b, b < H.next → ρ' b = ρ b
  next : H.next ≤ H'.next
  size : w.heap.size ≤ w'.heap.size
  keep : ∀ k, k < w.heap.size → (∀ b o s, H.get b = some o → o.rw = true → ρ b = some s → s.blk ≠ k) → w'.heap[k]? = w.heap[k]?
  own : ∀ b o s, H'.get b = some o → o.rw = true → ρ' b = some s → w.heap.size ≤ s.blk ∨ ∃ b0 o0 s0, H.get b0 = some o0 ∧ o0.rw = true ∧ ρ b0 = some s0 ∧ s0.blk = s.blk
  dom : ∀ b o, b < H.next → H'.get b = some o → ∃ o0, H.get b = some o0
  os : w'.os = w.os
  tape : w'.tape = w.tape
  output : w'.output = w.output

end Go.AB

namespace Go.AB

theorem CellsR.ext {ρ ρ' : Names} (h : Ext ρ ρ') {vs : List AV} {c : Array Value} {base : Nat} (hc : CellsR ρ vs c base) : CellsR ρ' vs c base :=
  fun i a ha => let ⟨v, hv, hr⟩ := hc i a ha; ⟨v, hv, hr.ext h⟩

theorem EntsR.ext {ρ ρ' : Names} (h : Ext ρ ρ') : ∀ {ps : List (List UInt8 × AV)} {es : List MapEntry}, EntsR ρ ps es → EntsR ρ' ps es
  | [], _, he => by simpa [EntsR] using he
  | p :: ps, es, he => by
    simp only [EntsR] at he ⊢
    obtain ⟨e, es', rfl, hk, hv, hr⟩ := he
    exact ⟨e, es', rfl, hk, hv.ext h, EntsR.ext h hr⟩

theorem MapR.ext {ρ ρ' : Names} (h : Ext ρ ρ') {ps : List (List UInt8 × AV)} {es : Array MapEntry} {clock : Nat} (hm : MapR ρ ps es clock) : MapR ρ' ps es clock :=
  ⟨hm.ents.ext h, hm.keys, hm.born, hm.old⟩

theorem R.ext {N : Bd} {G : Nat} {ρ ρ' : Names} {H H' : AH} {w w' : World} (hR : R N G ρ H w) (hF : Fr ρ H w ρ' H' w') : Ext ρ ρ' := by
  intro b s hb
  have hlt : b < H.next := by
    rcases Nat.lt_or_ge b H.next with h | h
    · exact h
    · rw [hR.fresh b h] at hb; cases hb
  rw [hF.same b hlt]; exact hb

theorem R.lt {N : Bd} {G : Nat} {ρ : Names} {H : AH} {w : World} (hR : R N G ρ H w) {b : Nat} {s : Seg} (hb : ρ b = some s) : b < H.next := by
  rcases Nat.lt_or_ge b H.next with h | h
  · exact h
  · rw [hR.fresh b h] at hb; cases hb

theorem R.dom_lt {N : Bd} {G : Nat} {ρ : Names} {H : AH} {w : World} (hR : R N G ρ H w) {b : Nat} {o : AO} (hb : H.get b = some o) : b < H.next :=
  let ⟨_, hs, _⟩ := hR.obj b o hb; hR.lt hs

/-- A block that stands for an object lies in the world. -/
theorem OR.lt {N : Bd} {ρ : Names} {H : AH} {w : World} {s : Seg} {o : AO} (h : OR N.n ρ H w s o) : s.blk < w.heap.size := by
  have key : ∀ x, w.heap[s.blk]? = some x → s.blk < w.heap.size := fun x hx => by
    rcases Nat.lt_or_ge s.blk w.heap.size with h | h
    · exact h
    · rw [Array.getElem?_eq_none h] at hx; cases hx
  cases o with
  | cells ro vs => obtain ⟨c, e, lo, hi, h, _⟩ := h; exact key _ h
  | map ps ver => obtain ⟨_, es, clock, h, _⟩ := h; exact key _ h
  | siter t pos => exact key _ h.2.2
  | miter m left ver cur => obtain ⟨_, _, a, b, c, d, h, _⟩ := h; exact key _ h
  | full vs => obtain ⟨_, _, c, e, fr, h, _⟩ := h; exact key _ h

theorem OR.rwN {N : Bd} {ρ : Names} {H : AH} {w : World} {s : Seg} {o : AO} (h : OR N.n ρ H w s o) (hrw : o.rw = true) : N.n ≤ s.blk := by
  cases o with
  | cells ro vs => cases ro with
    | true => simp [AO.rw] at hrw
    | false => obtain ⟨c, e, lo, hi, _, _, _, _, _, h⟩ := h; exact (h rfl).1
  | map ps ver => exact h.1
  | siter t pos => exact h.1
  | miter m left ver cur => exact h.1
  | full vs => simp [AO.rw] at hrw

theorem OR.roN {N : Bd} {ρ : Names} {H : AH} {w : World} {s : Seg} {o : AO} (h : OR N.n ρ H w s o) (hrw : o.rw = false) : s.blk < N.n := by
  cases o with
  | cells ro vs => cases ro with
    | false => simp [AO.rw] at hrw
    | true => obtain ⟨c, e, lo, hi, _, _, _, _, h, _⟩ := h; exact h rfl
  | full vs => exact h.2.1
  | _ => simp [AO.rw] at hrw

/-- An object whose block is as it was. -/
theorem OR.keep {N : Bd} {ρ ρ' : Names} {H H' : AH} {w w' : World} {s : Seg} {o : AO} (h : OR N.n ρ H w s o) (he : Ext ρ ρ') (hb : w'.heap[s.blk]? = w.heap[s.blk]?)
    (hm : ∀ m left ver cur, o = .miter m left ver cur → ∀ sm ps, ρ m = some sm → H'.get m = some (.map ps ver) → H.get m = some (.map ps ver) ∧ w'.heap[sm.blk]? = w.heap[sm.blk]?) :
    OR N.n ρ' H' w' s o := by
  cases o with
  | cells ro vs =>
    obtain ⟨c, e, lo, hi, h1, h2, h3, h4, h5, h6⟩ := h
    exact ⟨c, e, lo, hi, hb.trans h1, h2, h3, h4.ext he, h5, h6⟩
  | map ps ver =>
    obtain ⟨h0, es, clock, h1, h2⟩ := h
    exact ⟨h0, es, clock, hb.trans h1, h2.ext he⟩
  | siter t pos => exact ⟨h.1, h.2.1, hb.trans h.2.2⟩
  | miter m left ver cur =>
    obtain ⟨h0, hb0, since, seen, st, sm, h1, h2, h3⟩ := h
    refine ⟨h0, hb0, since, seen, st, sm, hb.trans h1, he _ _ h2, fun ps hps es clock hes => ?_⟩
    obtain ⟨hg, hh⟩ := hm m left ver cur rfl sm ps h2 hps
    exact h3 ps hg es clock (hh ▸ hes)
  | full vs =>
    obtain ⟨h0, h1, c, e, fr, h2, h3, h4⟩ := h
    exact ⟨h0, h1, c, e, fr, hb.trans h2, h3, h4.ext he⟩

theorem Fr.refl (ρ : Names) (H : AH) (w : World) : Fr ρ H w ρ H w :=
  ⟨fun _ _ => rfl, Nat.le_refl _, Nat.le_refl _, fun _ _ _ => rfl, fun b o s h1 h2 h3 => .inr ⟨b, o, s, h1, h2, h3, rfl⟩, fun _ o _ h => ⟨o, h⟩, rfl, rfl, rfl⟩

theorem Fr.trans {ρ ρ1 ρ2 : Names} {H H1 H2 : AH} {w w1 w2 : World} (a : Fr ρ H w ρ1 H1 w1) (b : Fr ρ1 H1 w1 ρ2 H2 w2) : Fr ρ H w ρ2 H2 w2 where
  same k hk := by rw [b.same k (Nat.lt_of_lt_of_le hk a.next), a.same k hk]
  next := Nat.le_trans a.next b.next
  size := Nat.le_trans a.size b.size
  keep k hk hn := by
    rw [b.keep k (Nat.lt_of_lt_of_le hk a.size) ?_, a.keep k hk hn]
    intro b1 o1 s1 h1 h2 h3 e
    rcases a.own b1 o1 s1 h1 h2 h3 with h | ⟨b0, o0, s0, g1, g2, g3, g4⟩
    · omega
    · exact hn b0 o0 s0 g1 g2 g3 (g4.trans e)
  own k o s h1 h2 h3 := by
    rcases b.own k o s h1 h2 h3 with h | ⟨b1, o1, s1, g1, g2, g3, g4⟩
    · exact .inl (Nat.le_trans a.size h)
    · rcases a.own b1 o1 s1 g1 g2 g3 with h | ⟨b0, o0, s0, f1, f2, f3, f4⟩
      · exact .inl (g4 ▸ h)
      · exact .inr ⟨b0, o0, s0, f1, f2, f3, f4.trans g4⟩
  dom k o hk h := by
    obtain ⟨o1, h1⟩ := b.dom k o (Nat.lt_of_lt_of_le hk a.next) h
    exact a.dom k o1 hk h1
  os := b.os.trans a.os
  tape := b.tape.trans a.tape
  output := b.output.trans a.output

/-- The names that a heap does not have may be more. -/
theorem R.bump {N : Bd} {G : Nat} {ρ : Names} {H : AH} {w : World} (hR : R N G ρ H w) {n : Nat} (h : H.next ≤ n) : R N G ρ ⟨H.t, n⟩ w where
  size := hR.size
  glob := hR.glob
  obj b o hb := by
    obtain ⟨s, h1, h2⟩ := hR.obj b o hb
    exact ⟨s, h1, h2.keep (fun _ _ h => h) rfl (fun m l v c _ sm ps _ hg => ⟨hg, rfl⟩)⟩
  inj := hR.inj
  fresh b hb := hR.fresh b (Nat.le_trans h hb)
  gn := Nat.le_trans hR.gn h
  vers b m l v c hb := Nat.lt_of_lt_of_le (hR.vers b m l v c hb) h
  flat := hR.flat
  draws := hR.draws

theorem Fr.bump {ρ : Names} {H : AH} {w : World} {n : Nat} (h : H.next ≤ n) : Fr ρ H w ρ ⟨H.t, n⟩ w :=
  ⟨fun _ _ => rfl, h, Nat.le_refl _, fun _ _ _ => rfl, fun b o s h1 h2 h3 => .inr ⟨b, o, s, h1, h2, h3, rfl⟩, fun _ o _ h => ⟨o, h⟩, rfl, rfl, rfl⟩

/-- A draw. -/
theorem R.drawn {N : Bd} {G : Nat} {ρ : Names} {H : AH} {w : World} (hR : R N G ρ H w) (d : Nat) (hd : w.drawn ≤ d := by omega) : R N G ρ H { w with drawn := d } where
  size := hR.size
  glob := hR.glob
  obj b o hb := by
    obtain ⟨s, h1, h2⟩ := hR.obj b o hb
    exact ⟨s, h1, h2.keep (fun _ _ h => h) rfl (fun m l v c _ sm ps _ hg => ⟨hg, rfl⟩)⟩
  inj := hR.inj
  fresh := hR.fresh
  gn := hR.gn
  vers := hR.vers
  flat := hR.flat
  draws := Nat.le_trans hR.draws hd

theorem Fr.drawn {ρ : Names} {H : AH} {w : World} (d : Nat) : Fr ρ H w ρ H { w with drawn := d } :=
  ⟨fun _ _ => rfl, Nat.le_refl _, Nat.le_refl _, fun _ _ _ => rfl, fun b o s h1 h2 h3 => .inr ⟨b, o, s, h1, h2, h3, rfl⟩, fun _ o _ h => ⟨o, h⟩, rfl, rfl, rfl⟩

/-- A name is given up. -/
theorem R.del {N : Bd} {G : Nat} {ρ : Names} {H : AH} {w : World} (hR : R N G ρ H w) (b : Nat) : R N G ρ (H.del b) w where
  size := hR.size
  glob := hR.glob
  obj k o hk := by
    rw [AH.get_del] at hk
    split at hk
    · cases hk
    · obtain ⟨s, h1, h2⟩ := hR.obj k o hk
      refine ⟨s, h1, h2.keep (fun _ _ h => h) rfl (fun m l v c _ sm ps _ hg => ?_)⟩
      rw [AH.get_del] at hg
      split at hg
      · cases hg
      · exact ⟨hg, rfl⟩
  inj k k' o o' s s' h1 h2 := by
    rw [AH.get_del] at h1 h2
    split at h1
    · cases h1
    · split at h2
      · cases h2
      · exact hR.inj k k' o o' s s' h1 h2
  fresh := hR.fresh
  gn := hR.gn
  vers k m l v c hk := by
    rw [AH.get_del] at hk
    split at hk
    · cases hk
    · exact hR.vers k m l v c hk
  flat := hR.flat
  draws := hR.draws

theorem Fr.del {ρ : Names} {H : AH} {w : World} (b : Nat) : Fr ρ H w ρ (H.del b) w :=
  ⟨fun _ _ => rfl, Nat.le_refl _, Nat.le_refl _, fun _ _ _ => rfl, fun k o s h1 h2 h3 => .inr ⟨k, o, s, by rw [AH.get_del] at h1; split at h1; cases h1; exact h1, h2, h3, rfl⟩, fun k o _ h => ⟨o, by rw [AH.get_del] at h; split at h; cases h; exact h⟩, rfl, rfl, rfl⟩

def Names.put (ρ : Names) (b : Nat) (s : Seg) : Names := fun k => if k = b then some s else ρ k

theorem Names.put_same (ρ : Names) (b : Nat) (s : Seg) : ρ.put b s b = some s := by simp [Names.put]
theorem Names.put_ext {ρ : Names} {b : Nat} {s : Seg} (h : ρ b = none) : Ext ρ (ρ.put b s) := by
  intro k t hk
  unfold Names.put
  split
  · subst_vars; rw [h] at hk; cases hk
  · exact hk

/-- **A new object** in a new block, by the next name. -/
theorem R.alloc {N : Bd} {G : Nat} {ρ : Names} {H : AH} {w : World} (hR : R N G ρ H w) (ob : Obj) (d : Nat) (o : AO) (s : Seg) (hs : s.blk = w.heap.size) (hz : s.base = 0) (hrw : o.rw = true)
    (ho : OR N.n (ρ.put H.next s) (H.alloc o) { w with heap := w.heap.push ob, drawn := d } s o) (hv : ∀ m l v c, o = .miter m l v c → v < H.next) (hd : w.drawn ≤ d := by first | exact Nat.le_refl _ | omega | (simp; done)) :
    R N G (ρ.put H.next s) (H.alloc o) { w with heap := w.heap.push ob, drawn := d } ∧ Fr ρ H w (ρ.put H.next s) (H.alloc o) { w with heap := w.heap.push ob, drawn := d } := by
  have hnew : ρ H.next = none := hR.fresh _ (Nat.le_refl _)
  have hext : Ext ρ (ρ.put H.next s) := Names.put_ext hnew
  have hold : ∀ k, k < w.heap.size → (w.heap.push ob)[k]? = w.heap[k]? := fun k hk => by rw [Array.getElem?_push, if_neg (by omega)]
  have hother : ∀ k, k ≠ H.next → (ρ.put H.next s) k = ρ k := fun k hk => by simp [Names.put, hk]
  refine ⟨⟨by have := hR.size; simp; omega, ?_, ?_, ?_, ?_, ?_, ?_, fun k t hk hN => (by
      by_cases e : k = H.next
      · subst e; rw [Names.put_same] at hk; cases hk; exact hz
      · rw [hother k e] at hk; exact hR.flat k t hk hN), Nat.le_trans hR.draws hd⟩, ⟨?_, by simp, by simp, ?_, ?_, fun k o hk h => ⟨o, by rw [AH.get_alloc, if_neg (by omega)] at h; exact h⟩, rfl, rfl, rfl⟩⟩
  · intro g hg
    have : g ≠ H.next := by have := hR.gn; omega
    rw [hother g this]
    exact hR.glob g hg
  · intro k ok hk
    rw [AH.get_alloc] at hk
    split at hk
    · cases hk; subst_vars; exact ⟨s, Names.put_same _ _ _, ho⟩
    · rename_i hne
      obtain ⟨t, h1, h2⟩ := hR.obj k ok hk
      refine ⟨t, hext _ _ h1, h2.keep hext (hold _ h2.lt) fun m l v c e sm ps hm hg => ?_⟩
      rw [AH.get_alloc] at hg
      split at hg
      · rename_i hmn; subst hmn; rw [hnew] at hm; cases hm
      · refine ⟨hg, hold _ ?_⟩
        obtain ⟨t', h3, h4⟩ := hR.obj m _ hg
        rw [hm] at h3; cases h3; exact h4.lt
  · intro k k' o1 o2 s1 s2 h1 h2 r1 r2 e1 e2 he
    rw [AH.get_alloc] at h1 h2
    split at h1 <;> split at h2
    · subst_vars; rfl
    · rename_i hk hk'
      subst hk
      rw [Names.put_same] at e1; cases e1
      rw [hother _ hk'] at e2
      obtain ⟨t, h3, h4⟩ := hR.obj k' _ h2
      rw [e2] at h3; cases h3
      have := h4.lt; omega
    · rename_i hk hk'
      subst hk'
      rw [Names.put_same] at e2; cases e2
      rw [hother _ hk] at e1
      obtain ⟨t, h3, h4⟩ := hR.obj k _ h1
      rw [e1] at h3; cases h3
      have := h4.lt; omega
    · rename_i hk hk'
      rw [hother _ hk] at e1
      rw [hother _ hk'] at e2
      exact hR.inj k k' o1 o2 s1 s2 h1 h2 r1 r2 e1 e2 he
  · intro b hb
    simp at hb
    rw [hother b (by omega)]; exact hR.fresh b (by omega)
  · have := hR.gn; simp; omega
  · intro b m l v c hb
    rw [AH.get_alloc] at hb
    split at hb
    · cases hb; have := hv m l v c rfl; simp; omega
    · have := hR.vers b m l v c hb; simp; omega
  · intro b hb
    exact hother b (by omega)
  · intro k hk _
    exact hold k hk
  · intro k o1 s1 h1 r1 e1
    rw [AH.get_alloc] at h1
    split at h1
    · rename_i hk; subst hk; rw [Names.put_same] at e1; cases e1; left; omega
    · rename_i hk; rw [hother k hk] at e1
      exact .inr ⟨k, o1, s1, h1, r1, e1, rfl⟩

/-- **An object is written** in its own block. -/
theorem R.write {N : Bd} {G : Nat} {ρ : Names} {H : AH} {w w' : World} (hR : R N G ρ H w) {b : Nat} {o o' : AO} {s : Seg} (hb : H.get b = some o) (hrw : o.rw = true) (hs : ρ b = some s) (hrw' : o'.rw = true)
    (hsz : w'.heap.size = w.heap.size) (hh : ∀ k, k ≠ s.blk → w'.heap[k]? = w.heap[k]?) (hos : w'.os = w.os) (ht : w'.tape = w.tape) (hout : w'.output = w.output)
    (n : Nat) (hn : H.next ≤ n)
    (ho : OR N.n ρ ⟨H.t.set b o', n⟩ w' s o')
    (hv : ∀ m l v c, o' = .miter m l v c → v < n)
    (hm : ∀ k m l v c, H.get k = some (.miter m l v c) → k ≠ b → m = b → ∀ ps, o' ≠ .map ps v)
    (hdr : w.drawn ≤ w'.drawn := by first | exact Nat.le_refl _ | assumption | (simp; done) | omega) :
    R N G ρ ⟨H.t.set b o', n⟩ w' ∧ Fr ρ H w ρ ⟨H.t.set b o', n⟩ w' := by
  have hget : ∀ k, AH.get ⟨H.t.set b o', n⟩ k = if k = b then some o' else H.get k := fun k => PT.get_set _ _ _ _
  refine ⟨⟨by have := hR.size; omega, hR.glob, ?_, ?_, fun k hk => hR.fresh k (Nat.le_trans hn hk), Nat.le_trans hR.gn hn, ?_, hR.flat, Nat.le_trans hR.draws hdr⟩, ⟨fun _ _ => rfl, hn, by omega, ?_, ?_, fun k o1 _ h => (by rw [hget] at h; split at h; subst_vars; exact ⟨o, hb⟩; exact ⟨o1, h⟩), hos, ht, hout⟩⟩
  · intro k ok hk
    rw [hget] at hk
    split at hk
    · cases hk; subst_vars; exact ⟨s, hs, ho⟩
    · rename_i hne
      obtain ⟨t, h1, h2⟩ := hR.obj k ok hk
      have hblk : t.blk ≠ s.blk := by
        intro e
        cases hr : ok.rw with
        | false =>
          have a1 := h2.roN hr
          obtain ⟨s', h3, h4⟩ := hR.obj b o hb
          rw [hs] at h3; cases h3
          have a2 := h4.rwN hrw
          omega
        | true => exact hne (hR.inj k b ok o t s hk hb hr hrw h1 hs e)
      refine ⟨t, h1, h2.keep (fun _ _ h => h) (hh _ hblk) fun m l v c e sm ps hsm hg => ?_⟩
      subst e
      rw [hget] at hg
      split at hg
      · rename_i hmb
        exact absurd (Option.some.inj hg) (hm k m l v c hk hne hmb ps)
      · rename_i hmb
        refine ⟨hg, hh _ ?_⟩
        intro e
        exact hmb (hR.inj m b _ o sm s hg hb rfl hrw hsm hs e)
  · intro k k' o1 o2 s1 s2 h1 h2 r1 r2 e1 e2 he
    rw [hget] at h1 h2
    split at h1 <;> split at h2
    · subst_vars; rfl
    · rename_i hk hk'; subst hk
      exact hR.inj k k' o o2 s1 s2 hb h2 hrw r2 e1 e2 he
    · rename_i hk hk'; subst hk'
      exact hR.inj k k' o1 o s1 s2 h1 hb r1 hrw e1 e2 he
    · exact hR.inj k k' o1 o2 s1 s2 h1 h2 r1 r2 e1 e2 he
  · intro k m l v c hk
    rw [hget] at hk
    split at hk
    · cases hk; exact hv m l v c rfl
    · have := hR.vers k m l v c hk; show v < n; omega
  · intro k hk hn
    exact hh k (fun e => hn b o s hb hrw hs e.symm)
  · intro k o1 s1 h1 r1 e1
    rw [hget] at h1
    split at h1
    · rename_i hk; subst hk; exact .inr ⟨k, o, s1, hb, hrw, e1, rfl⟩
    · exact .inr ⟨k, o1, s1, h1, r1, e1, rfl⟩

/-- **A row of cells goes by a new name**, a part of its old block: where a slice is appended to in place. -/
theorem R.rename {N : Bd} {G : Nat} {ρ : Names} {H : AH} {w w' : World} (hR : R N G ρ H w) {b : Nat} {o o' : AO} {s s' : Seg} (hb : H.get b = some o) (hrw : o.rw = true) (hs : ρ b = some s) (hrw' : o'.rw = true)
    (hss : s'.blk = s.blk) (hz : N.n ≤ s'.blk → s'.base = 0)
    (hsz : w'.heap.size = w.heap.size) (hh : ∀ k, k ≠ s.blk → w'.heap[k]? = w.heap[k]?) (hos : w'.os = w.os) (ht : w'.tape = w.tape) (hout : w'.output = w.output)
    (ho : OR N.n (ρ.put H.next s') ((H.del b).alloc o') w' s' o') (hnm : ∀ m l v c, o' ≠ .miter m l v c) (hnp : ∀ ps v, o' ≠ .map ps v)
    (hdr : w.drawn ≤ w'.drawn := by first | exact Nat.le_refl _ | assumption | (simp; done) | omega) :
    R N G (ρ.put H.next s') ((H.del b).alloc o') w' ∧ Fr ρ H w (ρ.put H.next s') ((H.del b).alloc o') w' := by
  have hnew : ρ H.next = none := hR.fresh _ (Nat.le_refl _)
  have hext : Ext ρ (ρ.put H.next s') := Names.put_ext hnew
  have hother : ∀ k, k ≠ H.next → (ρ.put H.next s') k = ρ k := fun k hk => by simp [Names.put, hk]
  have hget : ∀ k, ((H.del b).alloc o').get k = if k = H.next then some o' else if k = b then none else H.get k := fun k => by
    rw [AH.get_alloc, AH.get_del]; rfl
  have hbn : b ≠ H.next := by have := hR.dom_lt hb; omega
  refine ⟨⟨by have := hR.size; omega, ?_, ?_, ?_, ?_, ?_, ?_, fun k t hk hN => (by
      by_cases e : k = H.next
      · subst e; rw [Names.put_same] at hk; cases hk; exact hz hN
      · rw [hother k e] at hk; exact hR.flat k t hk hN), Nat.le_trans hR.draws hdr⟩, ⟨?_, by simp, by omega, ?_, ?_, fun k o1 hk h => (by rw [hget, if_neg (by omega)] at h; split at h; cases h; exact ⟨o1, h⟩), hos, ht, hout⟩⟩
  · intro g hg
    have : g ≠ H.next := by have := hR.gn; omega
    rw [hother g this]
    exact hR.glob g hg
  · intro k ok hk
    rw [hget] at hk
    split at hk
    · cases hk; subst_vars; exact ⟨s', Names.put_same _ _ _, ho⟩
    · split at hk
      · cases hk
      · rename_i hne hkb
        obtain ⟨t, h1, h2⟩ := hR.obj k ok hk
        have hblk : t.blk ≠ s.blk := by
          intro e
          cases hr : ok.rw with
          | false =>
            have a1 := h2.roN hr
            obtain ⟨s', h3, h4⟩ := hR.obj b o hb
            rw [hs] at h3; cases h3
            have a2 := h4.rwN hrw
            omega
          | true => exact hkb (hR.inj k b ok o t s hk hb hr hrw h1 hs e)
        refine ⟨t, hext _ _ h1, h2.keep hext (hh _ hblk) fun m l v c e sm ps hsm hg => ?_⟩
        rw [hget] at hg
        split at hg
        · exact absurd (Option.some.inj hg) (hnp ps v)
        · split at hg
          · cases hg
          · rename_i hmb
            refine ⟨hg, hh _ fun e => ?_⟩
            exact hmb (hR.inj m b _ o sm s hg hb rfl hrw hsm hs e)
  · intro k k' o1 o2 s1 s2 h1 h2 r1 r2 e1 e2 he
    rw [hget] at h1 h2
    split at h1 <;> split at h2
    · subst_vars; rfl
    · split at h2
      · cases h2
      · rename_i hk hk' hkb
        subst hk
        rw [Names.put_same] at e1; cases e1
        rw [hother _ hk'] at e2
        exact absurd (hR.inj k' b o2 o s2 s h2 hb r2 hrw e2 hs (by omega)) hkb
    · split at h1
      · cases h1
      · rename_i hk hk' hkb
        subst hk'
        rw [Names.put_same] at e2; cases e2
        rw [hother _ hk] at e1
        exact absurd (hR.inj k b o1 o s1 s h1 hb r1 hrw e1 hs (by omega)) hkb
    · split at h1
      · cases h1
      · split at h2
        · cases h2
        · rename_i hk hk' _ _
          rw [hother _ hk] at e1
          rw [hother _ hk'] at e2
          exact hR.inj k k' o1 o2 s1 s2 h1 h2 r1 r2 e1 e2 he
  · intro k hk
    simp at hk
    rw [hother k (by omega)]; exact hR.fresh k (by omega)
  · have := hR.gn; simp; omega
  · intro k m l v c hk
    rw [hget] at hk
    split at hk
    · cases hk; exact absurd rfl (hnm m l v c)
    · split at hk
      · cases hk
      · have := hR.vers k m l v c hk; simp; omega
  · intro k hk
    exact hother k (by omega)
  · intro k hk hn
    exact hh k (fun e => hn b o s hb hrw hs e.symm)
  · intro k o1 s1 h1 r1 e1
    rw [hget] at h1
    split at h1
    · rename_i hk; subst hk; rw [Names.put_same] at e1; cases e1; exact .inr ⟨b, o, s, hb, hrw, hs, hss.symm⟩
    · split at h1
      · cases h1
      · rename_i hk _
        rw [hother k hk] at e1
        exact .inr ⟨k, o1, s1, h1, r1, e1, rfl⟩

end Go.AB

namespace Go.AB

/-! ### Constants -/
mutual
def ofVal : Value → AV
  | .bool b => .bool b
  | .int k n => .int k n
  | .string s => .str s.data.toList
  | .pointer none => .nilp
  | .slice none 0 0 => .nils
  | .map none => .nilm
  | .nilFunc => .nilf
  | .nilIface => .nili
  | .agg cs => .agg (ofValA cs)
  | .tuple cs => .tuple (ofValA cs)
  | _ => .junk
def ofValA : Array Value → List AV
  | ⟨l⟩ => ofValL l
def ofValL : List Value → List AV
  | [] => []
  | v :: vs => ofVal v :: ofValL vs
end

mutual
theorem VR.ofVal (ρ : Names) : ∀ v : Value, VR ρ (ofVal v) v
  | .bool b => by simp [AB.ofVal, VR]
  | .int k n => by simp [AB.ofVal, VR]
  | .string s => by simp [AB.ofVal, VR]
  | .pointer none => by simp [AB.ofVal, VR]
  | .pointer (some _) => by simp [AB.ofVal, VR]
  | .slice none 0 0 => by simp [AB.ofVal, VR]
  | .slice (some _) _ _ => by simp [AB.ofVal, VR]
  | .slice none (_ + 1) _ => by simp [AB.ofVal, VR]
  | .slice none 0 (_ + 1) => by simp [AB.ofVal, VR]
  | .map none => by simp [AB.ofVal, VR]
  | .map (some _) => by simp [AB.ofVal, VR]
  | .nilFunc => by simp [AB.ofVal, VR]
  | .nilIface => by simp [AB.ofVal, VR]
  | .agg ⟨cs⟩ => by simp only [AB.ofVal, ofValA, VR]; exact ⟨cs, rfl, VRs.ofVal ρ cs⟩
  | .tuple ⟨cs⟩ => by simp only [AB.ofVal, ofValA, VR]; exact ⟨cs, rfl, VRs.ofVal ρ cs⟩
  | .float _ _ => by simp [AB.ofVal, VR]
  | .complex _ _ _ => by simp [AB.ofVal, VR]
  | .chan _ => by simp [AB.ofVal, VR]
  | .func _ _ _ => by simp [AB.ofVal, VR]
  | .iface _ _ => by simp [AB.ofVal, VR]
theorem VRs.ofVal (ρ : Names) : ∀ vs : List Value, VRs ρ (ofValL vs) vs
  | [] => by simp [ofValL, VRs]
  | v :: vs => by simp only [ofValL]; exact VRs.cons (VR.ofVal ρ v) (VRs.ofVal ρ vs)
end

/-! ### Tables -/
structure TI where
  d : TypeDesc
  size : Nat
  bytes : Nat
  zero : Option AV
  plainEq : Bool

def TI.agg (i : TI) : Bool := match i.d with
  | .struct _ | .array _ _ => true
  | _ => false

def tiOf (P : Program) (t : TypeId) : Option TI :=
  match P.info? t, P.underlying t with
  | some i, some d => some { d, size := i.size, bytes := i.bytes, zero := i.zero.map ofVal, plainEq := !P.stoodInHeld t && !P.eqGuardType P.depth t }
  | _, _ => none

structure Ctx where
  P : Program
  ti : TypeId → Option TI
  fn : FuncId → Option Func

structure Ctx.OK (C : Ctx) : Prop where
  ti : ∀ t i, C.ti t = some i → tiOf C.P t = some i
  fn : ∀ f g, C.fn f = some g → C.P.funcs[f]? = some g
  mixed : C.P.follows .mixedOrders = true

section
variable {C : Ctx} (hC : C.OK) {t : TypeId} {i : TI}
include hC
theorem Ctx.OK.und (h : C.ti t = some i) : C.P.underlying t = some i.d := by
  have := hC.ti t i h
  unfold tiOf at this
  split at this
  · rename_i a d h1 h2; cases this; exact h2
  · cases this
theorem Ctx.OK.info (h : C.ti t = some i) : ∃ x, C.P.info? t = some x ∧ x.size = i.size ∧ x.bytes = i.bytes ∧ x.zero.map ofVal = i.zero := by
  have := hC.ti t i h
  unfold tiOf at this
  split at this
  · rename_i a d h1 h2; cases this; exact ⟨a, h1, rfl, rfl, rfl⟩
  · cases this
theorem Ctx.OK.run_und (h : C.ti t = some i) (w : World) : (underlying t).run C.P w = .ok i.d w := by
  unfold underlying; simp [hC.und h]
theorem Ctx.OK.run_size (h : C.ti t = some i) (w : World) : (sizeOf t).run C.P w = .ok i.size w := by
  obtain ⟨x, h1, h2, _⟩ := hC.info h
  unfold sizeOf typeInfo; simp [h1, h2]
theorem Ctx.OK.run_info (h : C.ti t = some i) (w : World) : ∃ x, (typeInfo t).run C.P w = .ok x w ∧ x.size = i.size ∧ x.bytes = i.bytes := by
  obtain ⟨x, h1, h2, h3, _⟩ := hC.info h
  exact ⟨x, by unfold typeInfo; simp [h1], h2, h3⟩
theorem Ctx.OK.run_isAgg (h : C.ti t = some i) (w : World) : (isAgg t).run C.P w = .ok i.agg w := by
  unfold isAgg
  simp only [Sem.run_bind, hC.run_und h, Result.andThen_ok]
  unfold TI.agg
  cases i.d <;> simp
theorem Ctx.OK.run_zero (h : C.ti t = some i) {z : AV} (hz : i.zero = some z) (w : World) (ρ : Names) : ∃ v, (zeroValue t).run C.P w = .ok v w ∧ VR ρ z v := by
  obtain ⟨x, h1, _, _, h4⟩ := hC.info h
  rw [hz] at h4
  cases hx : x.zero with
  | none => rw [hx] at h4; cases h4
  | some v =>
    rw [hx] at h4
    simp only [Option.map_some, Option.some.injEq] at h4
    exact ⟨v, by unfold zeroValue typeInfo; simp [h1, hx], h4 ▸ VR.ofVal ρ v⟩
end

/-- Tables out of a program. -/
def mkTI (P : Program) : PT (Option TI) := PT.ofList .leaf 0 ((List.range P.types.size).map (tiOf P))
def mkFn (P : Program) : PT Func := PT.ofList .leaf 0 P.funcs.toList
def mkCtx (P : Program) : Ctx := { P, ti := fun t => ((mkTI P).get t).join, fn := fun f => (mkFn P).get f }

theorem mkCtx_ok (P : Program) (h : P.follows .mixedOrders = true) : (mkCtx P).OK where
  ti t i hi := by
    simp only [mkCtx, mkTI, PT.get_ofList0] at hi
    by_cases ht : t < P.types.size
    · simp [ht] at hi; exact hi
    · rw [List.getElem?_eq_none (by simpa using Nat.le_of_not_lt ht)] at hi; cases hi
  fn f g hf := by
    simp only [mkCtx, mkFn, PT.get_ofList0] at hf
    show P.funcs[f]? = some g
    simpa using hf
  mixed := h

/-! ### Parts of structs and arrays -/
def AV.cells : AV → List AV
  | .agg cs => cs
  | v => [v]

/-- May be a cell's value: whatever it stands for is no struct and no array. -/
def AV.one : AV → Bool
  | .junk | .agg _ | .tuple _ => false
  | _ => true

theorem VR.one {ρ : Names} {a : AV} {v : Value} (h : VR ρ a v) (ho : a.one = true) : v.oneCell' = true := by
  cases a <;> simp only [AV.one, Bool.false_eq_true] at ho <;> simp only [VR] at h
  case ptr => obtain ⟨_, _, rfl⟩ := h; rfl
  case slice => obtain ⟨_, _, _, rfl, _⟩ := h; rfl
  case empty => obtain ⟨_, _, rfl⟩ := h; rfl
  case map => obtain ⟨_, _, rfl⟩ := h; rfl
  case func => obtain ⟨_, _, rfl, _⟩ := h; rfl
  case iface => obtain ⟨_, rfl, _⟩ := h; rfl
  all_goals subst h; rfl

def notJunk : AV → Bool
  | .junk => false
  | _ => true

theorem VR.cells {ρ : Names} {a : AV} {v : Value} (h : VR ρ a v) (hj : notJunk a = true) : VRs ρ a.cells v.cells.toList := by
  cases a
  case junk => simp [notJunk] at hj
  case agg cs => simp only [VR] at h; obtain ⟨vs, rfl, hvs⟩ := h; simpa [Value.cells, AV.cells] using hvs
  all_goals
    have h0 := h
    simp only [VR] at h
    first
      | (subst h; exact VRs.cons h0 VRs.nil)
      | (obtain ⟨_, _, rfl⟩ := h; exact VRs.cons h0 VRs.nil)
      | (obtain ⟨_, _, _, rfl, _⟩ := h; exact VRs.cons h0 VRs.nil)
      | (obtain ⟨_, _, _, _, rfl⟩ := h; exact VRs.cons h0 VRs.nil)
      | (obtain ⟨_, rfl, _⟩ := h; exact VRs.cons h0 VRs.nil)
      | (obtain ⟨_, _, rfl, _⟩ := h; exact VRs.cons h0 VRs.nil)

def apart (C : Ctx) (t : TypeId) (cs : List AV) (off : Nat) : Option AV :=
  match C.ti t with
  | none => none
  | some i => bif i.agg then some (.agg ((cs.drop off).take i.size)) else cs[off]?

theorem apart_ok {C : Ctx} (hC : C.OK) {ρ : Names} {t : TypeId} {cs : List AV} {vs : List Value} (h : VRs ρ cs vs) {off : Nat} {a : AV} (ha : apart C t cs off = some a) (w : World) :
    ∃ v, (part t ⟨vs⟩ off).run C.P w = .ok v w ∧ VR ρ a v := by
  unfold apart at ha
  split at ha
  · cases ha
  · rename_i i hi
    unfold part
    simp only [Sem.run_bind, hC.run_isAgg hi, Result.andThen_ok]
    cases hg : i.agg
    · rw [hg] at ha
      simp only [cond_false] at ha
      obtain ⟨v, hv, hr⟩ := VRs.get h off a ha
      exact ⟨v, by simp [hv], hr⟩
    · rw [hg] at ha
      simp only [cond_true, Option.some.injEq] at ha
      subst ha
      refine ⟨.agg ⟨(vs.drop off).take i.size⟩, ?_, by simp only [VR]; exact ⟨_, rfl, (h.drop off).take i.size⟩⟩
      simp only [if_true, Sem.run_bind, hC.run_size hi, Result.andThen_ok, Sem.run_pure]
      congr 2
      rw [List.extract_toArray]
      simp [List.take_drop, List.extract_eq_take_drop, Nat.add_sub_cancel_left]

/-! ### Filling -/
/-- A list, its spine made plain first: for the kernel, which else keeps what is not yet reckoned. -/
def forceList {α β : Type} : List α → (List α → β) → β
  | [], k => k []
  | a :: as, k => forceList as fun l => k (a :: l)

theorem forceList_eq {α β : Type} : ∀ (l : List α) (k : List α → β), forceList l k = k l
  | [], _ => rfl
  | a :: as, k => forceList_eq as fun l => k (a :: l)

def splice (vs : List AV) (o : Nat) (cs : List AV) : List AV := vs.take o ++ cs ++ vs.drop (o + cs.length)

def afill (place : Nat → Option (Nat × Nat)) (cells : List AV) : List (Nat × AV) → Option (List AV)
  | [] => some cells
  | (i, v) :: rest =>
    match place i with
    | none => none
    | some (off, size) =>
      bif notJunk v && Nat.beq v.cells.length size && Nat.ble (off + size) cells.length then afill place (splice cells off v.cells) rest else none

theorem foldl_setIfInBounds (off : Nat) : ∀ (l : List Value) (k : Nat) (cs : Array Value),
    (l.zipIdx k).foldl (fun cs (x : Value × Nat) => cs.setIfInBounds (off + x.2) x.1) cs =
      ⟨(List.range cs.size).map fun j => if off + k ≤ j ∧ j < off + k + l.length then l.getD (j - (off + k)) undef else cs.getD j undef⟩
  | [], k, cs => by
    apply Array.ext'
    apply List.ext_getElem
    · simp
    · intro n h1 h2
      simp at h1 h2
      simp [h1]
      intro h3 h4; omega
  | v :: l, k, cs => by
    simp only [List.zipIdx_cons, List.foldl_cons]
    rw [foldl_setIfInBounds off l (k + 1)]
    apply Array.ext'
    simp only [Array.size_setIfInBounds]
    apply List.map_congr_left
    intro j hj
    simp at hj
    by_cases h1 : off + (k + 1) ≤ j ∧ j < off + (k + 1) + l.length
    · rw [if_pos h1, if_pos (by simp only [List.length_cons]; omega)]
      rw [show j - (off + k) = (j - (off + (k + 1))) + 1 by omega]
      simp
    · rw [if_neg h1]
      by_cases h2 : j = off + k
      · subst h2
        rw [if_pos (by simp only [List.length_cons]; omega)]
        simp [Array.getD, hj]
      · rw [if_neg (by simp only [List.length_cons]; omega)]
        simp [Array.getD, hj, Array.getElem_setIfInBounds_ne, Ne.symm h2]

theorem splice_ok {ρ : Names} {cs : List AV} {vs : Array Value} (h : VRs ρ cs vs.toList) {us : List AV} {xs : Array Value} (hu : VRs ρ us xs.toList) {off : Nat} (hle : off + us.length ≤ cs.length) :
    VRs ρ (splice cs off us) (xs.zipIdx.foldl (fun cs (x : Value × Nat) => cs.setIfInBounds (off + x.2) x.1) vs).toList := by
  have hl := h.length
  have hl2 := hu.length
  have e : (xs.zipIdx.foldl (fun cs (x : Value × Nat) => cs.setIfInBounds (off + x.2) x.1) vs) = (xs.toList.zipIdx 0).foldl (fun cs (x : Value × Nat) => cs.setIfInBounds (off + x.2) x.1) vs := by
    rw [← Array.foldl_toList]; simp
  rw [e, foldl_setIfInBounds]
  refine VRs.of_get ?_ ?_
  · simp only [splice, List.length_append, List.length_take, List.length_drop, List.length_map, List.length_range]
    simp at hl hl2
    omega
  · intro i a v ha hv
    simp only [List.getElem?_map, List.getElem?_range, Nat.add_zero] at hv
    simp at hl hl2
    by_cases hi : i < vs.size
    · rw [List.getElem?_range hi] at hv
      simp only [Option.map_some, Option.some.injEq] at hv
      unfold splice at ha
      by_cases h1 : off ≤ i ∧ i < off + us.length
      · have hx : i - off < xs.toList.length := by simp; omega
        rw [if_pos (by simp; omega)] at hv
        rw [List.append_assoc, List.getElem?_append_right (by simp; omega), List.getElem?_append_left (by simp; omega)] at ha
        simp only [List.length_take, Nat.min_eq_left (show off ≤ cs.length by omega)] at ha
        obtain ⟨v', hv', hr⟩ := hu.get _ _ ha
        rw [List.getD_eq_getElem?_getD, hv'] at hv
        simp at hv; subst hv; exact hr
      · rw [if_neg (by simp; omega)] at hv
        have : cs[i]? = some a := by
          by_cases h2 : i < off
          · rw [List.append_assoc, List.getElem?_append_left (by simp; omega)] at ha
            simpa [List.getElem?_take, h2] using ha
          · rw [List.getElem?_append_right (by simp; omega)] at ha
            simp only [List.length_append, List.length_take, Nat.min_eq_left (show off ≤ cs.length by omega), List.getElem?_drop] at ha
            rw [show off + us.length + (i - (off + us.length)) = i by omega] at ha
            exact ha
        obtain ⟨v', hv', hr⟩ := h.get _ _ this
        have : vs[i]? = some v' := by simpa using hv'
        rw [Array.getD_eq_getD_getElem?, this] at hv
        simp at hv; subst hv; exact hr
    · rw [List.getElem?_eq_none (by simp; omega)] at hv; simp at hv

theorem afill_ok {ρ : Names} {place : Nat → Option (Nat × Nat)} : ∀ {ps : List (Nat × AV)} {qs : List (Nat × Value)} {cs : List AV} {vs : Array Value} {out : List AV},
    (ps.map (·.1) = qs.map (·.1)) → VRs ρ (ps.map (·.2)) (qs.map (·.2)) → VRs ρ cs vs.toList → afill place cs ps = some out →
    ∃ us, Instr.fill place vs qs = some us ∧ VRs ρ out us.toList
  | [], [], cs, vs, out, _, _, h, e => by
    simp only [afill, Option.some.injEq] at e; subst e
    exact ⟨vs, by simp [Instr.fill], h⟩
  | [], q :: qs, _, _, _, e, _, _, _ => by simp at e
  | p :: ps, [], _, _, _, e, _, _, _ => by simp at e
  | (i, a) :: ps, (j, v) :: qs, cs, vs, out, e, hv, h, ha => by
    simp only [List.map_cons, List.cons.injEq] at e
    obtain ⟨rfl, e⟩ := e
    simp only [List.map_cons, VRs] at hv
    obtain ⟨v', vs', e', hv1, hv2⟩ := hv
    cases e'
    simp only [afill] at ha
    split at ha
    · cases ha
    · rename_i off size hp
      cases hcond : (notJunk a && Nat.beq a.cells.length size && Nat.ble (off + size) cs.length)
      · rw [hcond] at ha; cases ha
      · rw [hcond] at ha
        simp only [cond_true] at ha
        simp only [Bool.and_eq_true] at hcond
        obtain ⟨⟨hj, hs⟩, hle⟩ := hcond
        have hs' : a.cells.length = size := Nat.eq_of_beq_eq_true hs
        have hle' : off + size ≤ cs.length := Nat.le_of_ble_eq_true hle
        have hcells := VR.cells hv1 hj
        have hlen := hcells.length
        simp at hlen
        have hl := h.length
        simp at hl
        obtain ⟨us, h1, h2⟩ := afill_ok (place := place) e hv2 (splice_ok h hcells (off := off) (by omega)) ha
        refine ⟨us, ?_, h2⟩
        simp only [Instr.fill, hp]
        rw [if_neg (by simp; omega)]
        exact h1

def abuild (C : Ctx) (t : TypeId) (parts : List (Nat × AV)) : Option AV :=
  match C.ti t with
  | none => none
  | some i =>
    match i.zero with
    | none => none
    | some z =>
      bif notJunk z then
        match i.d with
        | .struct fields =>
          match fields.toList.mapM (m := Option) (fun f => (C.ti f.type).map fun j => (f.offset, j.size)) with
          | none => none
          | some places => (afill (places[·]?) z.cells parts).map .agg
        | .array _ elem =>
          match C.ti elem with
          | none => none
          | some j => (afill (fun n => some (n * j.size, j.size)) z.cells parts).map .agg
        | _ => none
      else none

theorem mapM_sizes {C : Ctx} (hC : C.OK) (w : World) : ∀ (fs : List Field) (ps : List (Nat × Nat)), fs.mapM (m := Option) (fun f => (C.ti f.type).map fun j => (f.offset, j.size)) = some ps →
    (fs.mapM (m := Sem) fun f => do pure (f.offset, ← sizeOf f.type)).run C.P w = .ok ps w
  | [], ps, h => by simp at h; subst h; simp
  | f :: fs, ps, h => by
    simp only [List.mapM_cons, Option.bind_eq_bind, Option.bind_eq_some_iff, Option.pure_def, Option.some.injEq, Option.map_eq_some_iff] at h
    obtain ⟨p, ⟨j, hj, rfl⟩, ps', hps, rfl⟩ := h
    have ih := mapM_sizes hC w fs ps' hps
    simp only [List.mapM_cons, Sem.run_bind, hC.run_size hj, Result.andThen_ok, Sem.run_pure, ih]

theorem abuild_ok {C : Ctx} (hC : C.OK) {ρ : Names} {t : TypeId} {ps : Array (Nat × AV)} {qs : Array (Nat × Value)} {a : AV} (hk : ps.toList.map (·.1) = qs.toList.map (·.1))
    (hv : VRs ρ (ps.toList.map (·.2)) (qs.toList.map (·.2))) (ha : abuild C t ps.toList = some a) (w : World) :
    ∃ v, (Instr.build t qs).run C.P w = .ok v w ∧ VR ρ a v := by
  unfold abuild at ha
  split at ha
  · cases ha
  · rename_i i hi
    split at ha
    · cases ha
    · rename_i z hz
      cases hj : notJunk z
      · rw [hj] at ha; cases ha
      · rw [hj] at ha
        simp only [cond_true] at ha
        obtain ⟨zv, hzr, hzv⟩ := hC.run_zero hi hz w ρ
        have hzc := VR.cells hzv hj
        unfold Instr.build
        simp only [Sem.run_bind, hzr, hC.run_und hi, Result.andThen_ok]
        split at ha
        · rename_i fields hd
          split at ha
          · cases ha
          · rename_i places hp
            simp only [Option.map_eq_some_iff] at ha
            obtain ⟨out, ho, rfl⟩ := ha
            obtain ⟨us, h1, h2⟩ := afill_ok hk hv hzc ho
            have hm := mapM_sizes hC w fields.toList places hp
            have hm' : (fields.mapM (m := Sem) fun f => do pure (f.offset, ← sizeOf f.type)).run C.P w = .ok places.toArray w := by
              rw [Array.mapM_eq_mapM_toList, Sem.run_map, hm]
              rfl
            simp only [hd]
            refine ⟨.agg us, ?_, by simp only [VR]; exact ⟨us.toList, by simp, h2⟩⟩
            rw [Sem.run_bind, hm', Result.andThen_ok]
            have e : (fun x : Nat => places.toArray[x]?) = (fun x : Nat => places[x]?) := by funext x; simp
            rw [e, h1]
            rfl
        · rename_i n elem hd
          split at ha
          · cases ha
          · rename_i j hj
            simp only [Option.map_eq_some_iff] at ha
            obtain ⟨out, ho, rfl⟩ := ha
            obtain ⟨us, h1, h2⟩ := afill_ok hk hv hzc ho
            refine ⟨.agg us, ?_, by simp only [VR]; exact ⟨us.toList, by simp, h2⟩⟩
            simp only [hd, Sem.run_bind, hC.run_size hj, Result.andThen_ok, h1]
            rfl
        · cases ha

end Go.AB

namespace Go.AB

/-- What a computation that asks for nothing yields. -/
def pur : Sem Value → Option AV
  | .pure v => some (ofVal v)
  | _ => none

theorem pur_ok {s : Sem Value} {a : AV} (h : pur s = some a) (P : Program) (w : World) (ρ : Names) : ∃ v, s.run P w = .ok v w ∧ VR ρ a v := by
  cases s <;> simp only [pur, reduceCtorEq, Option.some.injEq] at h
  subst h
  exact ⟨_, rfl, VR.ofVal _ _⟩

def beqL : List UInt8 → List UInt8 → Bool
  | [], [] => true
  | a :: as, b :: bs => Nat.beq a.toNat b.toNat && beqL as bs
  | _, _ => false

theorem beqL_eq : ∀ a b : List UInt8, beqL a b = decide (a = b)
  | [], [] => by simp [beqL]
  | [], _ :: _ => by simp [beqL]
  | _ :: _, [] => by simp [beqL]
  | a :: as, b :: bs => by
    simp only [beqL, beqL_eq as bs, List.cons.injEq]
    have : Nat.beq a.toNat b.toNat = decide (a = b) := by
      rw [Bool.eq_iff_iff, decide_eq_true_iff]
      exact ⟨fun h => UInt8.toNat_inj.1 (Nat.eq_of_beq_eq_true h), fun h => by subst h; exact Nat.beq_refl _⟩
    rw [this]; simp

def astr (op : BinOp) (a b : List UInt8) : Option AV :=
  match op with
  | .add => bif Nat.ble (a.length + b.length) 9223372036854775807 then some (.str (a ++ b)) else none
  | .eql => some (.bool (beqL a b))
  | .neq => some (.bool !(beqL a b))
  | .lss => some (.bool (Op.bytesLess a b))
  | .leq => some (.bool (Op.bytesLess a b || beqL a b))
  | .gtr => some (.bool !(Op.bytesLess a b || beqL a b))
  | .geq => some (.bool !(Op.bytesLess a b))
  | _ => none

theorem astr_ok {op : BinOp} {a b : List UInt8} {x : AV} (h : astr op a b = some x) (P : Program) (w : World) (ρ : Names) :
    ∃ v, (Op.stringOp op ⟨a.toArray⟩ ⟨b.toArray⟩).run P w = .ok v w ∧ VR ρ x v := by
  have e1 : (ByteArray.mk a.toArray).toList = a := by rw [ByteArray.toList_eq]
  have e2 : (ByteArray.mk b.toArray).toList = b := by rw [ByteArray.toList_eq]
  have eb : (a == b) = beqL a b := by rw [beqL_eq, Bool.eq_iff_iff]; simp
  unfold Op.stringOp
  simp only [e1, e2, eb]
  cases op <;> simp only [astr, reduceCtorEq, Option.some.injEq] at h
  case add =>
    cases hc : Nat.ble (a.length + b.length) 9223372036854775807
    · rw [hc] at h; cases h
    · rw [hc] at h
      simp only [cond_true, Option.some.injEq] at h
      subst h
      have hl := Nat.le_of_ble_eq_true hc
      have hs : ¬ (((ByteArray.mk a.toArray).size + (ByteArray.mk b.toArray).size : Nat) : Int) > IntKind.i64.max := by
        show ¬ (((a.length + b.length : Nat)) : Int) > IntKind.i64.max
        have : IntKind.i64.max = 9223372036854775807 := by decide
        omega
      rw [if_neg hs]
      refine ⟨_, rfl, ?_⟩
      simp only [VR]
      exact congrArg Value.string (ByteArray.ext (by simp))
  all_goals
    subst h
    exact ⟨_, rfl, by simp only [VR]⟩

theorem beqB (a b : List UInt8) : ((ByteArray.mk a.toArray) == ByteArray.mk b.toArray) = decide (a = b) := by
  show (ByteArray.mk a.toArray).beq (ByteArray.mk b.toArray) = _
  unfold ByteArray.beq
  rw [Bool.eq_iff_iff]
  simp

/-- Equality, at types without addresses that differ. -/
def aeqGo (C : Ctx) (E : TypeId → AV → AV → Option Bool) : List Field → List AV → List AV → Option Bool
  | [], _, _ => some true
  | f :: fs, xs, ys =>
    if f.name = "_" then aeqGo C E fs xs ys else
    match apart C f.type xs f.offset, apart C f.type ys f.offset with
    | some a, some b =>
      match E f.type a b with
      | some true => aeqGo C E fs xs ys
      | r => r
    | _, _ => none

def aeq (C : Ctx) : Nat → TypeId → AV → AV → Option Bool
  | 0, _, _, _ => none
  | d + 1, t, x, y =>
    match C.ti t with
    | none => none
    | some i =>
      match i.d, x, y with
      | .bool, .bool a, .bool b => some (a == b)
      | .int _, .int k a, .int k' b => if k = k' then some (a == b) else none
      | .string, .str a, .str b => some (beqL a b)
      | .pointer _, .nilp, .nilp => some true
      | .pointer _, .nilp, .ptr _ _ => some false
      | .pointer _, .ptr _ _, .nilp => some false
      | .interface _, .nili, .nili => some true
      | .interface _, .nili, .iface _ _ => some false
      | .interface _, .iface _ _, .nili => some false
      | .slice _, .nils, .nils => some true
      | .slice _, .slice _ _ _ _ _, .nils => some false
      | .slice _, .nils, .slice _ _ _ _ _ => some false
      | .slice _, .empty _, .nils => some false
      | .map _ _, .nilm, .nilm => some true
      | .map _ _, .map _, .nilm => some false
      | .map _ _, .nilm, .map _ => some false
      | .func _ _ _, .nilf, .nilf => some true
      | .func _ _ _, .func _ _ _, .nilf => some false
      | .struct fields, .agg xs, .agg ys => bif i.plainEq then aeqGo C (aeq C d) fields.toList xs ys else none
      | _, _, _ => none

theorem plainEq_held {C : Ctx} (hC : C.OK) {t : TypeId} {i : TI} (hi : C.ti t = some i) (h : i.plainEq = true) : C.P.stoodInHeld t = false ∧ C.P.eqGuardType C.P.depth t = false := by
  have := hC.ti t i hi
  unfold tiOf at this
  split at this
  · cases this; simpa using h
  · cases this

set_option maxHeartbeats 1000000 in
mutual
theorem aeq_ok {C : Ctx} (hC : C.OK) {ρ : Names} (w : World) (D : Nat) : ∀ (d : Nat) (t : TypeId) (x y : AV) (u v : Value) (r : Bool), VR ρ x u → VR ρ y v → aeq C d t x y = some r →
    (Op.equalIn (D + d) t u v).run C.P w = .ok r w
  | 0, t, x, y, u, v, r, _, _, h => by simp [aeq] at h
  | d + 1, t, x, y, u, v, r, hx, hy, h => by
    unfold aeq at h
    split at h
    · cases h
    · rename_i i hi
      rw [show D + (d + 1) = (D + d) + 1 by omega]
      unfold Op.equalIn
      simp only [Sem.run_bind, hC.run_und hi, Result.andThen_ok]
      split at h <;> rename_i hd <;> (try simp only [VR] at hx hy)
      · subst hx; subst hy; simp only [hd]; simp at h; subst h; rfl
      · subst hx; subst hy; simp only [hd]
        split at h
        · subst_vars; simp at h; subst h; simp
        · cases h
      · subst hx; subst hy; simp only [hd]; simp at h; subst h
        rename_i a b
        simp only [Sem.run_pure]
        congr 1
        rw [beqL_eq, beqB]
      · subst hx; subst hy; simp only [hd]; simp at h; subst h; rfl
      · obtain ⟨s, _, rfl⟩ := hy; subst hx; simp only [hd]; simp at h; subst h; rfl
      · obtain ⟨s, _, rfl⟩ := hx; subst hy; simp only [hd]; simp at h; subst h; rfl
      · subst hx; subst hy; simp only [hd]; simp at h; subst h; rfl
      · obtain ⟨z, rfl, _⟩ := hy; subst hx; simp only [hd]; simp at h; subst h; rfl
      · obtain ⟨z, rfl, _⟩ := hx; subst hy; simp only [hd]; simp at h; subst h; rfl
      · subst hx; subst hy; simp only [hd]; simp at h; subst h; rfl
      · obtain ⟨s, cc, _, rfl, _⟩ := hx; subst hy; simp only [hd]; simp at h; subst h; rfl
      · obtain ⟨s, cc, _, rfl, _⟩ := hy; subst hx; simp only [hd]; simp at h; subst h; rfl
      · obtain ⟨s, off, cc, _, rfl⟩ := hx; subst hy; simp only [hd]; simp at h; subst h; rfl
      · subst hx; subst hy; simp only [hd]; simp at h; subst h; rfl
      · obtain ⟨s, _, rfl⟩ := hx; subst hy; simp only [hd]; simp at h; subst h; rfl
      · obtain ⟨s, _, rfl⟩ := hy; subst hx; simp only [hd]; simp at h; subst h; rfl
      · subst hx; subst hy; simp only [hd]; simp at h; subst h; rfl
      · obtain ⟨us, vs, rfl, _⟩ := hx; subst hy; simp only [hd]; simp at h; subst h; rfl
      · obtain ⟨us, rfl, hus⟩ := hx
        obtain ⟨vs, rfl, hvs⟩ := hy
        cases hp : i.plainEq
        · rw [hp] at h; cases h
        · rw [hp] at h
          simp only [cond_true] at h
          obtain ⟨hh, hh2⟩ := plainEq_held hC hi hp
          clear hh2
          rename_i fields xs ys
          have := aeq_go_ok hC w D d fields.toList xs ys us vs r hus hvs h
          simp only [hd, Sem.run_bind, run_program, Result.andThen_ok, hh, Bool.false_eq_true, if_false]
          rw [← Array.forIn_toList]
          rw [Sem.run_bind] at this
          exact this
      · cases h
theorem aeq_go_ok {C : Ctx} (hC : C.OK) {ρ : Names} (w : World) (D : Nat) : ∀ (d : Nat) (fs : List Field) (xs ys : List AV) (us vs : List Value) (r : Bool), VRs ρ xs us → VRs ρ ys vs → aeqGo C (aeq C d) fs xs ys = some r →
    ((do
      for f in fs do
        if f.name ≠ "_" then
          if !(← Op.equalIn (D + d) f.type (← part f.type ⟨us⟩ f.offset) (← part f.type ⟨vs⟩ f.offset)) then return false
      pure true) : Sem Bool).run C.P w = .ok r w
  | d, [], xs, ys, us, vs, r, _, _, h => by
    simp [aeqGo] at h; subst h; simp
  | d, f :: fs, xs, ys, us, vs, r, hx, hy, h => by
    simp only [aeqGo] at h
    split at h
    · rename_i hn
      have ih := aeq_go_ok hC w D d fs xs ys us vs r hx hy h
      simp only [List.forIn_cons, hn, ne_eq, not_true_eq_false, if_false, Sem.run_bind, Sem.run_pure, Result.andThen_ok] at ih ⊢
      exact ih
    · rename_i hn
      split at h
      · rename_i a b ha hb
        obtain ⟨u, hu, hur⟩ := apart_ok hC hx ha w
        obtain ⟨v, hv, hvr⟩ := apart_ok hC hy hb w
        split at h
        · rename_i he
          have h1 := aeq_ok hC w D d f.type a b u v true hur hvr he
          have ih := aeq_go_ok hC w D d fs xs ys us vs r hx hy h
          simp only [List.forIn_cons, hn, ne_eq, not_false_eq_true, if_true, Sem.run_bind, hu, hv, h1, Sem.run_pure, Result.andThen_ok, Bool.not_true, Bool.false_eq_true, if_false] at ih ⊢
          exact ih
        · rename_i he
          cases r with
          | true => exact absurd h he
          | false =>
            have h1 := aeq_ok hC w D d f.type a b u v false hur hvr h
            simp [List.forIn_cons, hn, hu, hv, h1]
      · cases h
end

end Go.AB

namespace Go.AB

def ACap.low : ACap → Nat
  | .ex n => n
  | .lo n => n
theorem ACap.ok.low {c : ACap} {n : Nat} (h : c.ok n) : c.low ≤ n := by
  cases c <;> simp only [ACap.ok, ACap.low] at * <;> omega

/-! ### Slices of slices, strings, arrays -/
def bnd : Option AV → Nat → Option Nat
  | none, d => some d
  | some (.int _ i), _ => if 0 ≤ i then some i.toNat else none
  | _, _ => none

def aslice (C : Ctx) (t : TypeId) (x : AV) (lo hi mx : Option AV) : Option AV :=
  match C.ti t with
  | none => none
  | some i =>
    match i.d, x with
    | .string, .str s =>
      match mx, bnd lo 0, bnd hi s.length with
      | none, some l, some h => bif Nat.ble l h && Nat.ble h s.length then some (.str ((s.drop l).take (h - l))) else none
      | _, _, _ => none
    | .slice e, .nils =>
      match C.ti e, bnd lo 0, bnd hi 0, bnd mx 0 with
      | some _, some 0, some 0, some 0 => bif mx.isNone || hi.isSome then some .nils else none
      | _, _, _, _ => none
    | .slice e, .slice b o len cap z =>
      match C.ti e, mx with
      | none, _ => none
      | some j, none =>
        match cap with
        | .ex c =>
          match bnd lo 0, bnd hi len with
          | some l, some h => bif Nat.ble l h && Nat.ble h c && Nat.beq j.size z then (if c = l then some (.slice b o 0 (.ex 0) z) else some (.slice b (o + l * z) (h - l) (.ex (c - l)) z)) else none
          | _, _ => none
        | .lo c =>
          match bnd lo 0, bnd hi len with
          | some l, some h => bif Nat.ble l h && Nat.ble h c && Nat.beq j.size z then (if l = 0 then some (.slice b o h (.lo c) z) else if c = l then some (.empty b) else some (.slice b (o + l * z) (h - l) (.lo (c - l)) z)) else none
          | _, _ => none
      | some j, some m =>
        match bnd (some m) 0, bnd lo 0, bnd hi len, hi with
        | some m, some l, some h, some _ =>
          bif Nat.ble l h && Nat.ble h m && Nat.beq j.size z && Nat.ble m cap.low then (if m = l then some (.slice b o 0 (.ex 0) z) else some (.slice b (o + l * z) (h - l) (.ex (m - l)) z)) else none
        | _, _, _, _ => none
    | .slice e, .empty b =>
      match C.ti e, mx, bnd lo 0, bnd hi 0 with
      | some _, none, some 0, some 0 => some (.empty b)
      | some _, some m, some 0, some 0 => (match bnd (some m) 0, hi with
        | some 0, some _ => some (.empty b)
        | _, _ => none)
      | _, _, _, _ => none
    | _, _ => none


theorem bnd_irrel (a : AV) (d d' : Nat) : bnd (some a) d = bnd (some a) d' := by
  unfold bnd; split <;> simp_all

def OVR (ρ : Names) : Option AV → Option Value → Prop
  | none, none => True
  | some a, some v => VR ρ a v
  | _, _ => False

theorem sliceBound_run {P : Program} {w : World} (k : IntKind) (i : Int) (y : Nat) (code : BoundsCode) (h0 : 0 ≤ i) (h1 : i.toNat ≤ y) :
    (Instr.sliceBound (.int k i) y code).run P w = .ok i.toNat w := by
  unfold Instr.sliceBound asIntOf
  simp only [Sem.run_bind, Sem.run_pure, Result.andThen_ok]
  rw [if_pos ⟨h0, by omega⟩]; rfl

theorem bnd_some {ρ : Names} {a : AV} {v : Value} {d n : Nat} (hv : VR ρ a v) (h : bnd (some a) d = some n) : ∃ k i, v = .int k i ∧ 0 ≤ i ∧ i.toNat = n := by
  unfold bnd at h
  split at h
  · rename_i e; cases e
  · rename_i e; cases e
    split at h
    · simp only [VR] at hv; simp at h; exact ⟨_, _, hv, by assumption, h⟩
    · cases h
  · cases h

theorem bnd_cases {ρ : Names} {a : Option AV} {v : Option Value} {d n : Nat} (hv : OVR ρ a v) (h : bnd a d = some n) :
    (a = none ∧ v = none ∧ d = n) ∨ (a.isSome = true ∧ ∃ k i, v = some (.int k i) ∧ 0 ≤ i ∧ i.toNat = n) := by
  cases a with
  | none => cases v with
    | none => simp [bnd] at h; exact .inl ⟨rfl, rfl, h⟩
    | some _ => exact hv.elim
  | some a => cases v with
    | none => exact hv.elim
    | some v =>
      obtain ⟨k, i, rfl, h0, e⟩ := bnd_some hv h
      exact .inr ⟨rfl, k, i, rfl, h0, e⟩

theorem sliceBounds_run {P : Program} {w : World} {ρ : Names} {isSlice : Bool} {len cap : Nat} {lo hi mx : Option AV} {lo' hi' mx' : Option Value} (hl : OVR ρ lo lo') (hh : OVR ρ hi hi') (hm : OVR ρ mx mx')
    {l h m : Nat} (el : bnd lo 0 = some l) (eh : bnd hi len = some h) (em : bnd mx cap = some m) (h1 : l ≤ h) (h2 : hi.isSome → h ≤ m) (h3 : m ≤ cap) (h4 : mx.isSome → hi.isSome) :
    (Instr.sliceBounds isSlice len cap lo' hi' mx').run P w = .ok (l, h, m) w := by
  unfold Instr.sliceBounds
  rcases bnd_cases hl el with ⟨rfl, rfl, rfl⟩ | ⟨_, k1, i1, rfl, p1, rfl⟩ <;> rcases bnd_cases hh eh with ⟨rfl, rfl, rfl⟩ | ⟨s2, k2, i2, rfl, p2, rfl⟩ <;> rcases bnd_cases hm em with ⟨rfl, rfl, rfl⟩ | ⟨s3, k3, i3, rfl, p3, rfl⟩
  all_goals first
    | (simp [s3] at h4; done)
    | simp only [Sem.run_bind, Sem.run_pure, Result.andThen_ok, Option.isSome_none, Option.isSome_some, Bool.false_eq_true, if_false, if_true]
  all_goals (try simp only [sliceBound_run k3 i3 _ _ p3 h3, Result.andThen_ok])
  all_goals (try simp only [sliceBound_run k2 i2 _ _ p2 (h2 s2), Result.andThen_ok])
  all_goals (try simp only [sliceBound_run k1 i1 _ _ p1 h1, Result.andThen_ok])

theorem aslice_ok {C : Ctx} (hC : C.OK) {ρ : Names} {t : TypeId} {x r : AV} {lo hi mx : Option AV} {v : Value} {lo' hi' mx' : Option Value} (hx : VR ρ x v) (hl : OVR ρ lo lo') (hh : OVR ρ hi hi') (hm : OVR ρ mx mx')
    (h : aslice C t x lo hi mx = some r) (w : World) : ∃ u, (Instr.sliceAt t v lo' hi' mx').run C.P w = .ok u w ∧ VR ρ r u := by
  unfold aslice at h
  split at h
  · cases h
  · rename_i i hi0
    unfold Instr.sliceAt
    simp only [Sem.run_bind, hC.run_und hi0, Result.andThen_ok]
    split at h
    · rename_i s hd
      simp only [hd]
      split at h
      · rename_i l hh2 el eh
        rename_i e
        cases hc : (Nat.ble l hh2 && Nat.ble hh2 s.length)
        · rw [hc] at h; cases h
        · rw [hc] at h
          simp only [cond_true, Option.some.injEq] at h
          subst h
          simp only [Bool.and_eq_true] at hc
          have c1 := Nat.le_of_ble_eq_true hc.1
          have c2 := Nat.le_of_ble_eq_true hc.2
          cases mx' with
          | some _ => exact hm.elim
          | none =>
            simp only [VR] at hx
            subst hx
            unfold Instr.slice
            simp only [Sem.run_bind, hC.run_und hi0, Result.andThen_ok, hd, Option.isSome_none, Bool.false_eq_true, if_false]
            have := sliceBounds_run (P := C.P) (w := w) (isSlice := false) (len := s.length) (cap := s.length) hl hh hm el eh (m := s.length) rfl c1 (fun _ => c2) (Nat.le_refl _) (by simp)
            have hsz : (ByteArray.mk s.toArray).size = s.length := by simp [ByteArray.size]
            simp only [Sem.run_pure, Result.andThen_ok, hsz, this]
            refine ⟨_, rfl, ?_⟩
            simp only [VR]
            congr 1
            apply ByteArray.ext
            apply Array.ext'
            have := Lib.extract_data (ByteArray.mk s.toArray) l hh2
            simp at this ⊢
      · cases h
    · rename_i e hd
      simp only [hd]
      split at h
      · rename_i hz el eh em
        cases hc : (mx.isNone || hi.isSome)
        · rw [hc] at h; cases h
        · rw [hc] at h
          simp only [cond_true, Option.some.injEq] at h; subst h
          simp only [VR] at hx; subst hx
          unfold Instr.slice
          simp only [Sem.run_bind, hC.run_und hi0, Result.andThen_ok, hd]
          have h2 : mx.isSome → hi.isSome := by
            intro e; cases mx <;> simp_all
          have := sliceBounds_run (P := C.P) (w := w) (isSlice := true) (len := 0) (cap := 0) hl hh hm el eh em (Nat.le_refl _) (fun _ => Nat.le_refl _) (Nat.le_refl _) h2
          simp only [this, Result.andThen_ok, hC.run_size hz, Sem.run_pure]
          exact ⟨_, rfl, by simp [VR]⟩
      · cases h
    · rename_i e b o len cap z hd
      simp only [hd]
      simp only [VR] at hx
      obtain ⟨sg, cc, hsg, rfl, hok, hlen, hroom⟩ := hx
      unfold Instr.slice
      simp only [Sem.run_bind, hC.run_und hi0, Result.andThen_ok, hd]
      split at h
      · cases h
      · rename_i j hj
        cases mx' with
        | some _ => exact hm.elim
        | none =>
        split at h
        · rename_i c
          simp only [ACap.ok] at hok
          subst hok
          split at h
          · rename_i l hh2 el eh
            cases hc : (Nat.ble l hh2 && Nat.ble hh2 cc && Nat.beq j.size z)
            · rw [hc] at h; cases h
            · rw [hc] at h
              simp only [cond_true] at h
              simp only [Bool.and_eq_true] at hc
              have c1 := Nat.le_of_ble_eq_true hc.1.1
              have c2 := Nat.le_of_ble_eq_true hc.1.2
              have c3 := Nat.eq_of_beq_eq_true hc.2
              have := sliceBounds_run (P := C.P) (w := w) (isSlice := true) (len := len) (cap := cc) hl hh hm el eh (m := cc) rfl c1 (fun _ => c2) (Nat.le_refl _) (by simp)
              simp only [this, Result.andThen_ok, hC.run_size hj, Sem.run_pure]
              refine ⟨_, rfl, ?_⟩
              split at h
              · rename_i hcl
                subst hcl
                simp only [Option.some.injEq] at h; subst h
                simp only [VR, if_true]
                have : hh2 - cc = 0 := by omega
                refine ⟨sg, 0, hsg, by simp [this], rfl, Nat.le_refl _, ?_⟩
                have := Nat.zero_le (cc * z)
                omega
              · rename_i hcl
                simp only [Option.some.injEq] at h; subst h
                rw [if_neg hcl]
                simp only [VR, Option.map_some]
                refine ⟨sg, cc - l, hsg, ?_, rfl, by omega, ?_⟩
                · subst c3
                  congr 2
                  unfold Addr.add
                  split <;> simp_all [Nat.add_assoc]
                · rw [Nat.add_assoc, ← Nat.add_mul, Nat.add_sub_cancel' (by omega : l ≤ cc)]
                  exact hroom
          · cases h
        · rename_i c
          simp only [ACap.ok] at hok
          split at h
          · rename_i l hh2 el eh
            cases hc : (Nat.ble l hh2 && Nat.ble hh2 c && Nat.beq j.size z)
            · rw [hc] at h; cases h
            · rw [hc] at h
              simp only [cond_true] at h
              simp only [Bool.and_eq_true] at hc
              have c1 := Nat.le_of_ble_eq_true hc.1.1
              have c2 := Nat.le_of_ble_eq_true hc.1.2
              have c3 := Nat.eq_of_beq_eq_true hc.2
              have := sliceBounds_run (P := C.P) (w := w) (isSlice := true) (len := len) (cap := cc) hl hh hm el eh (m := cc) rfl c1 (fun _ => by omega) (Nat.le_refl _) (by simp)
              simp only [this, Result.andThen_ok, hC.run_size hj, Sem.run_pure]
              refine ⟨_, rfl, ?_⟩
              split at h
              · rename_i hl0
                subst hl0
                simp only [Option.some.injEq] at h; subst h
                simp only [VR]
                refine ⟨sg, cc, hsg, ?_, by simpa [ACap.ok] using hok, by omega, hroom⟩
                simp [Addr.add]
              · rename_i hl0
                split at h
                · rename_i hcl
                  subst hcl
                  simp only [Option.some.injEq] at h; subst h
                  simp only [VR]
                  have e0 : hh2 - c = 0 := by omega
                  simp only [e0, Option.map_some]
                  by_cases hcc : cc = c
                  · rw [if_pos hcc]; exact ⟨_, _, rfl⟩
                  · rw [if_neg hcc]
                    exact ⟨_, _, rfl⟩
                · rename_i hcl
                  simp only [Option.some.injEq] at h; subst h
                  rw [if_neg (by omega)]
                  simp only [VR, Option.map_some]
                  refine ⟨sg, cc - l, hsg, ?_, by simp only [ACap.ok]; omega, by omega, ?_⟩
                  · subst c3
                    congr 2
                    unfold Addr.add
                    split <;> simp_all [Nat.add_assoc]
                  · rw [Nat.add_assoc, ← Nat.add_mul, Nat.add_sub_cancel' (by omega : l ≤ cc)]
                    exact hroom
          · cases h
      · rename_i j m hj
        cases mx' with
        | none => exact hm.elim
        | some m' =>
        split at h
        · rename_i m l hh2 hix em el eh
          cases hc : (Nat.ble l hh2 && Nat.ble hh2 m && Nat.beq j.size z && Nat.ble m cap.low)
          · rw [hc] at h; cases h
          · rw [hc] at h
            simp only [cond_true] at h
            simp only [Bool.and_eq_true] at hc
            have c1 := Nat.le_of_ble_eq_true hc.1.1.1
            have c2 := Nat.le_of_ble_eq_true hc.1.1.2
            have c3 := Nat.eq_of_beq_eq_true hc.1.2
            have c4 : m ≤ cc := by
              have := Nat.le_of_ble_eq_true hc.2
              have := hok.low
              omega
            have := sliceBounds_run (P := C.P) (w := w) (isSlice := true) (len := len) (cap := cc) hl hh hm el eh (m := m) ((bnd_irrel _ _ _).trans em) c1 (fun _ => c2) c4 (by simp)
            simp only [this, Result.andThen_ok, hC.run_size hj, Sem.run_pure]
            refine ⟨_, rfl, ?_⟩
            split at h
            · rename_i hcl
              subst hcl
              simp only [Option.some.injEq] at h; subst h
              simp only [VR, if_true]
              have : hh2 - m = 0 := by omega
              refine ⟨sg, 0, hsg, by simp [this], rfl, Nat.le_refl _, ?_⟩
              have := Nat.zero_le (cc * z)
              omega
            · rename_i hcl
              simp only [Option.some.injEq] at h; subst h
              rw [if_neg hcl]
              simp only [VR, Option.map_some]
              refine ⟨sg, m - l, hsg, ?_, rfl, by omega, ?_⟩
              · subst c3
                congr 2
                unfold Addr.add
                split <;> simp_all [Nat.add_assoc]
              · rw [Nat.add_assoc, ← Nat.add_mul, Nat.add_sub_cancel' (by omega : l ≤ m)]
                have := Nat.mul_le_mul_right z c4
                omega
        · cases h
    · rename_i e b hd
      simp only [hd]
      simp only [VR] at hx
      obtain ⟨sg, cc, rfl⟩ := hx
      unfold Instr.slice
      simp only [Sem.run_bind, hC.run_und hi0, Result.andThen_ok, hd]
      split at h
      · rename_i j hj el eh
        cases mx' with
        | some _ => exact hm.elim
        | none =>
        simp only [Option.some.injEq] at h; subst h
        have := sliceBounds_run (P := C.P) (w := w) (isSlice := true) (len := 0) (cap := cc) hl hh hm el eh (m := cc) rfl (Nat.le_refl _) (fun _ => Nat.zero_le _) (Nat.le_refl _) (by simp)
        simp only [this, Result.andThen_ok, hC.run_size hj, Sem.run_pure]
        refine ⟨_, rfl, ?_⟩
        simp only [VR]
        split <;> exact ⟨_, _, rfl⟩
      · rename_i j m hj el eh
        cases mx' with
        | none => exact hm.elim
        | some m' =>
        split at h
        · rename_i hix em
          simp only [Option.some.injEq] at h; subst h
          have := sliceBounds_run (P := C.P) (w := w) (isSlice := true) (len := 0) (cap := cc) hl hh hm el eh (m := 0) ((bnd_irrel _ _ _).trans em) (Nat.le_refl _) (fun _ => Nat.le_refl _) (Nat.zero_le _) (by simp)
          simp only [this, Result.andThen_ok, hC.run_size hj, Sem.run_pure]
          refine ⟨_, rfl, ?_⟩
          simp only [VR]
          exact ⟨_, _, rfl⟩
        · cases h
      · cases h
    · cases h

end Go.AB

namespace Go.AB

def isC : Operand → Bool
  | .const _ => true
  | _ => false

def eqRes (op : BinOp) (b : Option Bool) : Option AV :=
  match op with
  | .eql => b.map .bool
  | .neq => b.map fun b => .bool !b
  | _ => none

def abin (C : Ctx) (op : BinOp) (t : TypeId) (cst : Bool) (x y : AV) : Option AV :=
  match x, y with
  | .int k a, .int k' b => pur (binOp op t (.int k a) (.int k' b))
  | .str a, .str b => astr op a b
  | .nili, .nili => bif cst then eqRes op (aeq C 8 t .nili .nili) else none
  | x, y => eqRes op (aeq C 8 t x y)

theorem run_equal {C : Ctx} (hC : C.OK) {ρ : Names} (w : World) {t : TypeId} {x y : AV} {u v : Value} {r : Bool} (hx : VR ρ x u) (hy : VR ρ y v) (h : aeq C 8 t x y = some r) : (Op.equal t u v).run C.P w = .ok r w := by
  unfold Op.equal
  have : Op.maxDepth = 9992 + 8 := rfl
  rw [this]
  exact aeq_ok hC w 9992 8 t x y u v r hx hy h

/-- What is compared has no address in it: no guard. -/
theorem aeq_agg {C : Ctx} (hC : C.OK) {t : TypeId} {xs ys : List AV} {d : Nat} {r : Bool} (h : aeq C (d + 1) t (.agg xs) (.agg ys) = some r) : C.P.eqGuardType C.P.depth t = false := by
  unfold aeq at h
  split at h
  · cases h
  · rename_i i hi
    split at h <;> rename_i e1 e2 <;> first
      | (cases e1; done)
      | (cases hp : i.plainEq
         · rw [hp] at h; cases h
         · exact (plainEq_held hC hi hp).2)
      | (cases h; done)

theorem aeq_notJunk {C : Ctx} {t : TypeId} {x y : AV} {d : Nat} {r : Bool} (h : aeq C (d + 1) t x y = some r) : x ≠ .junk ∧ y ≠ .junk := by
  unfold aeq at h
  split at h
  · cases h
  · split at h <;> first
      | (cases h; done)
      | exact ⟨(by intro e; cases e), (by intro e; cases e)⟩

theorem VR.nili_inv {ρ : Names} {x : AV} {v : Value} (h : VR ρ x v) (hx : x ≠ .junk) (hv : v = .nilIface) : x = .nili := by
  subst hv
  cases x <;> simp only [VR] at h <;> first
    | rfl
    | (exact absurd rfl hx)
    | (cases h; done)
    | (obtain ⟨_, h⟩ := h; cases h.1; done)
    | (obtain ⟨_, _, h⟩ := h; cases h; done)
    | (obtain ⟨_, _, _, h, _⟩ := h; cases h; done)
    | (obtain ⟨_, _, h, _⟩ := h; cases h; done)
    | (obtain ⟨_, _, _, _, h⟩ := h; cases h; done)

theorem VR.agg_inv {ρ : Names} {x : AV} {cs : Array Value} (h : VR ρ x (.agg cs)) (hx : x ≠ .junk) : ∃ as, x = .agg as := by
  cases x <;> simp only [VR] at h <;> first
    | exact ⟨_, rfl⟩
    | (exact absurd rfl hx)
    | (cases h; done)
    | (obtain ⟨_, h⟩ := h; cases h.1; done)
    | (obtain ⟨_, _, h⟩ := h; cases h; done)
    | (obtain ⟨_, _, _, h, _⟩ := h; cases h; done)
    | (obtain ⟨_, _, h, _⟩ := h; cases h; done)
    | (obtain ⟨_, _, _, _, h⟩ := h; cases h; done)

theorem eqGuard_run {P : Program} {w : World} {op : BinOp} {t : TypeId} {xo yo : Operand} {u v : Value} (h1 : u = .nilIface → v = .nilIface → (isC xo || isC yo) = true)
    (h2 : ∀ a b, u = .agg a → v = .agg b → P.eqGuardType P.depth t = false) : (eqGuard op t xo yo u v).run P w = .ok () w := by
  unfold eqGuard
  cases op
  case eql =>
    simp only [Bool.not_true, Bool.false_eq_true, if_false]
    split
    · have hx : (isC xo = true) ∨ (isC yo = true) := by simpa using h1 rfl rfl
      rw [if_pos]
      · rfl
      · cases xo <;> cases yo <;> simp_all [isC]
    · rename_i a b
      have := h2 _ _ rfl rfl
      simp only [Sem.run_bind, run_program, Result.andThen_ok, this]
      rfl
    · rfl
  case neq =>
    simp only [Bool.not_true, Bool.false_eq_true, if_false]
    split
    · have hx : (isC xo = true) ∨ (isC yo = true) := by simpa using h1 rfl rfl
      rw [if_pos]
      · rfl
      · cases xo <;> cases yo <;> simp_all [isC]
    · rename_i a b
      have := h2 _ _ rfl rfl
      simp only [Sem.run_bind, run_program, Result.andThen_ok, this]
      rfl
    · rfl
  all_goals rfl

theorem VR.int_inv {ρ : Names} {x : AV} {k : IntKind} {n : Int} (h : VR ρ x (.int k n)) (hx : x ≠ .junk) : x = .int k n := by
  cases x <;> simp only [VR] at h <;> first
    | (cases h; rfl)
    | (exact absurd rfl hx)
    | (cases h; done)
    | (obtain ⟨_, h⟩ := h; cases h.1; done)
    | (obtain ⟨_, _, h⟩ := h; cases h; done)
    | (obtain ⟨_, _, _, h, _⟩ := h; cases h; done)
    | (obtain ⟨_, _, h, _⟩ := h; cases h; done)
    | (obtain ⟨_, _, _, _, h⟩ := h; cases h; done)

theorem VR.str_inv {ρ : Names} {x : AV} {s : ByteArray} (h : VR ρ x (.string s)) (hx : x ≠ .junk) : ∃ l, x = .str l := by
  cases x <;> simp only [VR] at h <;> first
    | exact ⟨_, rfl⟩
    | (exact absurd rfl hx)
    | (cases h; done)
    | (obtain ⟨_, h⟩ := h; cases h.1; done)
    | (obtain ⟨_, _, h⟩ := h; cases h; done)
    | (obtain ⟨_, _, _, h, _⟩ := h; cases h; done)
    | (obtain ⟨_, _, h, _⟩ := h; cases h; done)
    | (obtain ⟨_, _, _, _, h⟩ := h; cases h; done)

theorem VR.float_inv {ρ : Names} {x : AV} {k : FloatKind} {n : Nat} (h : VR ρ x (.float k n)) (hx : x ≠ .junk) : False := by
  cases x <;> simp only [VR] at h <;> first
    | (exact absurd rfl hx)
    | (cases h; done)
    | (obtain ⟨_, h⟩ := h; cases h.1; done)
    | (obtain ⟨_, _, h⟩ := h; cases h; done)
    | (obtain ⟨_, _, _, h, _⟩ := h; cases h; done)
    | (obtain ⟨_, _, h, _⟩ := h; cases h; done)
    | (obtain ⟨_, _, _, _, h⟩ := h; cases h; done)

theorem VR.complex_inv {ρ : Names} {x : AV} {k : FloatKind} {n m : Nat} (h : VR ρ x (.complex k n m)) (hx : x ≠ .junk) : False := by
  cases x <;> simp only [VR] at h <;> first
    | (exact absurd rfl hx)
    | (cases h; done)
    | (obtain ⟨_, h⟩ := h; cases h.1; done)
    | (obtain ⟨_, _, h⟩ := h; cases h; done)
    | (obtain ⟨_, _, _, h, _⟩ := h; cases h; done)
    | (obtain ⟨_, _, h, _⟩ := h; cases h; done)
    | (obtain ⟨_, _, _, _, h⟩ := h; cases h; done)

theorem binOp_eql {t : TypeId} {u v : Value} (hi : ∀ k a k' b, u = .int k a → v = .int k' b → False) (hs : ∀ a b, u = .string a → v = .string b → False)
    (hf : ∀ k a, u = .float k a → False) (hc : ∀ k a b, u = .complex k a b → False) : binOp .eql t u v = (do pure (.bool (← Op.equal t u v))) ∧ binOp .neq t u v = (do pure (.bool (!(← Op.equal t u v)))) := by
  cases u
  case int k a => cases v <;> first | exact (hi _ _ _ _ rfl rfl).elim | exact ⟨rfl, rfl⟩
  case string a => cases v <;> first | exact (hs _ _ rfl rfl).elim | exact ⟨rfl, rfl⟩
  case float k a => exact (hf _ _ rfl).elim
  case complex k a b => exact (hc _ _ _ rfl).elim
  all_goals exact ⟨rfl, rfl⟩

theorem abin_ok {C : Ctx} (hC : C.OK) {ρ : Names} (w : World) {op : BinOp} {t : TypeId} {xo yo : Operand} {x y r : AV} {u v : Value} (hx : VR ρ x u) (hy : VR ρ y v) (h : abin C op t (isC xo || isC yo) x y = some r) :
    ∃ z, (do eqGuard op t xo yo u v; binOp op t u v).run C.P w = .ok z w ∧ VR ρ r z := by
  have Q : ∀ b, aeq C 8 t x y = some b → (x = .nili → y = .nili → (isC xo || isC yo) = true) → (∀ k a k' c, x = .int k a → y = .int k' c → False) → (∀ a c, x = .str a → y = .str c → False) →
      (do eqGuard .eql t xo yo u v; binOp .eql t u v).run C.P w = .ok (.bool b) w ∧ (do eqGuard .neq t xo yo u v; binOp .neq t u v).run C.P w = .ok (.bool !b) w := by
    intro b hb hn hi hs
    have hq := run_equal hC w hx hy hb
    have hj := aeq_notJunk hb
    have he : ∀ op, (eqGuard op t xo yo u v).run C.P w = .ok () w := fun op => by
      refine eqGuard_run (fun e1 e2 => hn (hx.nili_inv hj.1 e1) (hy.nili_inv hj.2 e2)) fun a c e1 e2 => ?_
      subst e1; subst e2
      obtain ⟨as, rfl⟩ := hx.agg_inv hj.1
      obtain ⟨cs, rfl⟩ := hy.agg_inv hj.2
      exact aeq_agg hC hb
    obtain ⟨b1, b2⟩ := binOp_eql (t := t) (u := u) (v := v) (fun k a k' c e1 e2 => by subst e1; subst e2; exact hi _ _ _ _ (hx.int_inv hj.1) (hy.int_inv hj.2))
      (fun a c e1 e2 => by subst e1; subst e2; obtain ⟨_, e1⟩ := hx.str_inv hj.1; obtain ⟨_, e2⟩ := hy.str_inv hj.2; exact hs _ _ e1 e2)
      (fun k a e => by subst e; exact hx.float_inv hj.1) (fun k a c e => by subst e; exact hx.complex_inv hj.1)
    constructor
    · simp only [Sem.run_bind, he, Result.andThen_ok, b1, hq, Sem.run_pure]
    · simp only [Sem.run_bind, he, Result.andThen_ok, b2, hq, Sem.run_pure]
  have F : (x = .nili → y = .nili → (isC xo || isC yo) = true) → (∀ k a k' c, x = .int k a → y = .int k' c → False) → (∀ a c, x = .str a → y = .str c → False) →
      eqRes op (aeq C 8 t x y) = some r →
      ∃ z, (do eqGuard op t xo yo u v; binOp op t u v).run C.P w = .ok z w ∧ VR ρ r z := by
    intro hn hi hs h
    cases op <;> simp only [eqRes, reduceCtorEq, Option.map_eq_some_iff] at h
    case eql => obtain ⟨b, hb, rfl⟩ := h; exact ⟨_, (Q b hb hn hi hs).1, by simp only [VR]⟩
    case neq => obtain ⟨b, hb, rfl⟩ := h; exact ⟨_, (Q b hb hn hi hs).2, by simp only [VR]⟩
  unfold abin at h
  split at h
  · rename_i k a k' b
    simp only [VR] at hx hy
    subst hx; subst hy
    obtain ⟨z, hz, hr⟩ := pur_ok h C.P w ρ
    refine ⟨z, ?_, hr⟩
    have he : (eqGuard op t xo yo (.int k a) (.int k' b)).run C.P w = .ok () w := eqGuard_run (fun e => by cases e) (fun _ _ e => by cases e)
    simp only [Sem.run_bind, he, Result.andThen_ok, hz]
  · rename_i a b
    simp only [VR] at hx hy
    subst hx; subst hy
    obtain ⟨z, hz, hr⟩ := astr_ok h C.P w ρ
    refine ⟨z, ?_, hr⟩
    have he : (eqGuard op t xo yo (.string ⟨a.toArray⟩) (.string ⟨b.toArray⟩)).run C.P w = .ok () w := eqGuard_run (fun e => by cases e) (fun _ _ e => by cases e)
    have hb : binOp op t (.string ⟨a.toArray⟩) (.string ⟨b.toArray⟩) = Op.stringOp op ⟨a.toArray⟩ ⟨b.toArray⟩ := by cases op <;> rfl
    simp only [Sem.run_bind, he, Result.andThen_ok, hb, hz]
  · cases hc : (isC xo || isC yo)
    · rw [hc] at h; cases h
    · rw [hc] at h
      simp only [cond_true] at h
      exact F (fun _ _ => hc) (fun _ _ _ _ e => by cases e) (fun _ _ e => by cases e) h
  · rename_i h1 h2 h3
    exact F (fun e1 e2 => (h3 e1 e2).elim) (fun _ _ _ _ e1 e2 => (h1 _ _ _ _ e1 e2).elim) (fun _ _ e1 e2 => (h2 _ _ e1 e2).elim) h

end Go.AB

namespace Go.AB

/-- What the operands stand for. -/
def VEv (ρ : Names) (ev : Operand → AV) (e : Operand → Value) : Prop := ∀ x, VR ρ (ev x) (e x)

theorem VEv.list {ρ : Names} {ev : Operand → AV} {e : Operand → Value} (h : VEv ρ ev e) : ∀ l : List Operand, VRs ρ (l.map ev) (l.map e)
  | [] => VRs.nil
  | x :: l => VRs.cons (h x) (h.list l)

theorem VEv.opt {ρ : Names} {ev : Operand → AV} {e : Operand → Value} (h : VEv ρ ev e) (o : Option Operand) : OVR ρ (o.map ev) (o.map e) := by
  cases o with
  | none => trivial
  | some x => exact h x

def afieldAddr (C : Ctx) (s : TypeId) (x : AV) (f : Nat) : Option AV :=
  match C.ti s with
  | none => none
  | some i =>
    match i.d, x with
    | .struct fields, .ptr b o =>
      match fields.toList[f]? with
      | none => none
      | some fl =>
        match C.ti fl.type with
        | none => none
        | some j => bif Nat.beq j.size 0 then none else some (.ptr b (o + fl.offset))
    | _, _ => none

theorem afieldAddr_ok {C : Ctx} (hC : C.OK) {ρ : Names} {s : TypeId} {x r : AV} {v : Value} {f : Nat} (hx : VR ρ x v) (h : afieldAddr C s x f = some r) (w : World) :
    ∃ u, (Instr.fieldAt s v f).run C.P w = .ok u w ∧ VR ρ r u := by
  unfold afieldAddr at h
  split at h
  · cases h
  · rename_i i hi
    split at h
    · rename_i fields b o hd
      split at h
      · cases h
      · rename_i fl hfl
        split at h
        · cases h
        · rename_i j hj
          cases hz : Nat.beq j.size 0
          · rw [hz] at h
            simp only [cond_false, Option.some.injEq] at h
            subst h
            simp only [VR] at hx
            obtain ⟨sg, hsg, rfl⟩ := hx
            have hz' : j.size ≠ 0 := fun e => by rw [e] at hz; simp at hz
            have hfl' : fields[f]? = some fl := by simpa using hfl
            unfold Instr.fieldAt
            simp only [Sem.run_bind, hC.run_und hi, Result.andThen_ok, hd, hfl', Instr.sureAddr, Sem.run_pure]
            unfold fieldPlace
            simp only [Sem.run_bind, hC.run_size hj, Result.andThen_ok, hz', if_false, Sem.run_pure]
            refine ⟨_, rfl, ?_⟩
            simp only [VR]
            refine ⟨sg, hsg, ?_⟩
            unfold Addr.add
            split <;> simp_all [Nat.add_assoc]
          · rw [hz] at h; cases h
    · cases h

def afield (C : Ctx) (t : TypeId) (x : AV) (f : Nat) : Option AV :=
  match C.ti t with
  | none => none
  | some i =>
    match i.d, x with
    | .struct fields, .agg cs =>
      match fields.toList[f]? with
      | none => none
      | some fl => apart C fl.type cs fl.offset
    | _, _ => none

theorem afield_ok {C : Ctx} (hC : C.OK) {ρ : Names} {t : TypeId} {x r : AV} {v : Value} {f : Nat} (hx : VR ρ x v) (h : afield C t x f = some r) (w : World) :
    ∃ u, (Instr.field t v f).run C.P w = .ok u w ∧ VR ρ r u := by
  unfold afield at h
  split at h
  · cases h
  · rename_i i hi
    split at h
    · rename_i fields cs hd
      split at h
      · cases h
      · rename_i fl hfl
        simp only [VR] at hx
        obtain ⟨vs, rfl, hvs⟩ := hx
        have hfl' : fields[f]? = some fl := by simpa using hfl
        unfold Instr.field
        obtain ⟨u, hu, hr⟩ := apart_ok hC hvs h w
        simp only [Sem.run_bind, hC.run_und hi, Result.andThen_ok, hd, hfl', asAgg, Sem.run_pure, hu]
        exact ⟨u, rfl, hr⟩
    · cases h

/-- 0 ≤ i < n -/
def inRange (i : Int) (n : Nat) : Option Nat :=
  match i with
  | .ofNat m => bif Nat.blt m n then some m else none
  | .negSucc _ => none

theorem inRange_some {i : Int} {n m : Nat} (h : inRange i n = some m) : i = (m : Int) ∧ m < n := by
  cases i with
  | ofNat k =>
    simp only [inRange] at h
    cases hb : Nat.blt k n
    · rw [hb] at h; cases h
    · rw [hb] at h
      simp only [cond_true, Option.some.injEq] at h
      subst h
      exact ⟨rfl, Nat.le_of_ble_eq_true hb⟩
  | negSucc k => simp [inRange] at h

def aindexAddr (C : Ctx) (t : TypeId) (x ix : AV) : Option AV :=
  match ix with
  | .int _ i =>
    match C.ti t with
    | none => none
    | some d =>
      match d.d, x with
      | .array n e, .ptr b o =>
        match inRange i n, C.ti e with
        | some m, some j => some (.ptr b (o + m * j.size))
        | _, _ => none
      | .slice e, .slice b o len _ _ =>
        match inRange i len, C.ti e with
        | some m, some j => some (.ptr b (o + m * j.size))
        | _, _ => none
      | _, _ => none
  | _ => none

theorem aindexAddr_ok {C : Ctx} (hC : C.OK) {ρ : Names} {t : TypeId} {x ix r : AV} {v k : Value} (hx : VR ρ x v) (hk : VR ρ ix k) (h : aindexAddr C t x ix = some r) (w : World) :
    ∃ u, (Instr.indexAt t v k).run C.P w = .ok u w ∧ VR ρ r u := by
  unfold aindexAddr at h
  split at h
  · rename_i kk i
    simp only [VR] at hk
    subst hk
    split at h
    · cases h
    · rename_i d hd0
      split at h
      · rename_i n e b o hd
        split at h
        · rename_i m j hm hj
          simp only [Option.some.injEq] at h; subst h
          obtain ⟨rfl, hlt⟩ := inRange_some hm
          simp only [VR] at hx
          obtain ⟨sg, hsg, rfl⟩ := hx
          unfold Instr.indexAt asIntOf
          simp only [Sem.run_bind, Sem.run_pure, Result.andThen_ok, hC.run_und hd0, hd, Instr.sureAddr]
          rw [if_pos ⟨by omega, by omega⟩]
          simp only [Sem.run_bind, hC.run_size hj, Result.andThen_ok, Sem.run_pure]
          refine ⟨_, rfl, ?_⟩
          simp only [VR, Int.toNat_natCast]
          refine ⟨sg, hsg, ?_⟩
          unfold Addr.add
          split
          · rename_i e0; rw [e0]; simp
          · simp [Nat.add_assoc]
        · cases h
      · rename_i e b o len cap z hd
        split at h
        · rename_i m j hm hj
          simp only [Option.some.injEq] at h; subst h
          obtain ⟨rfl, hlt⟩ := inRange_some hm
          simp only [VR] at hx
          obtain ⟨sg, cc, hsg, rfl, _⟩ := hx
          unfold Instr.indexAt asIntOf
          simp only [Sem.run_bind, Sem.run_pure, Result.andThen_ok, hC.run_und hd0, hd]
          rw [if_pos ⟨by omega, by omega⟩]
          simp only [Sem.run_bind, hC.run_size hj, Result.andThen_ok, Sem.run_pure]
          refine ⟨_, rfl, ?_⟩
          simp only [VR, Int.toNat_natCast]
          refine ⟨sg, hsg, ?_⟩
          unfold Addr.add
          split
          · rename_i e0; rw [e0]; simp
          · simp [Nat.add_assoc]
        · cases h
      · cases h
  · cases h

def aindex (C : Ctx) (t : TypeId) (x ix : AV) : Option AV :=
  match ix with
  | .int _ i =>
    match C.ti t with
    | none => none
    | some d =>
      match d.d, x with
      | .array n e, .agg cs =>
        match inRange i n, C.ti e with
        | some m, some j => apart C e cs (m * j.size)
        | _, _ => none
      | .string, .str s =>
        match inRange i s.length with
        | some m => (s[m]?).map fun b => .int .u8 b.toNat
        | none => none
      | _, _ => none
  | _ => none

theorem aindex_ok {C : Ctx} (hC : C.OK) {ρ : Names} {t : TypeId} {x ix r : AV} {v k : Value} (hx : VR ρ x v) (hk : VR ρ ix k) (h : aindex C t x ix = some r) (w : World) :
    ∃ u, (Instr.index t v k).run C.P w = .ok u w ∧ VR ρ r u := by
  unfold aindex at h
  split at h
  · rename_i kk i
    simp only [VR] at hk
    subst hk
    split at h
    · cases h
    · rename_i d hd0
      split at h
      · rename_i n e cs hd
        split at h
        · rename_i m j hm hj
          obtain ⟨rfl, hlt⟩ := inRange_some hm
          simp only [VR] at hx
          obtain ⟨vs, rfl, hvs⟩ := hx
          obtain ⟨u, hu, hr⟩ := apart_ok hC hvs h w
          unfold Instr.index asIntOf
          simp only [Sem.run_bind, Sem.run_pure, Result.andThen_ok, hC.run_und hd0, hd]
          rw [if_pos ⟨by omega, by omega⟩]
          simp only [Sem.run_bind, hC.run_size hj, Result.andThen_ok, Int.toNat_natCast, hu]
          exact ⟨u, rfl, hr⟩
        · cases h
      · rename_i s hd
        split at h
        · rename_i m hm
          obtain ⟨rfl, hlt⟩ := inRange_some hm
          simp only [Option.map_eq_some_iff] at h
          obtain ⟨b, hb, rfl⟩ := h
          simp only [VR] at hx
          subst hx
          unfold Instr.index asIntOf
          simp only [Sem.run_bind, Sem.run_pure, Result.andThen_ok, hC.run_und hd0, hd]
          have hs : (ByteArray.mk s.toArray)[m]? = some b := by
            rw [ByteArray.getElem?_lt' _ _ (by simpa [ByteArray.size] using hlt)]
            rw [List.getElem?_eq_getElem hlt] at hb
            simpa [ByteArray.getElem_eq_getElem_data] using hb
          rw [if_pos (by omega), Int.toNat_natCast, hs]
          exact ⟨_, rfl, by simp only [VR]⟩
        · cases h
      · cases h
  · cases h

def aconv (C : Ctx) (src dst : TypeId) (x : AV) : Option AV :=
  match C.ti src, C.ti dst with
  | some _, some j =>
    match j.d, x with
    | .int k, .int _ n => some (.int k (k.wrap n))
    | .string, .str s => some (.str s)
    | _, _ => none
  | _, _ => none

theorem aconv_ok {C : Ctx} (hC : C.OK) {ρ : Names} {src dst : TypeId} {x r : AV} {v : Value} (hx : VR ρ x v) (h : aconv C src dst x = some r) (w : World) :
    ∃ u, (convert src dst v).run C.P w = .ok u w ∧ VR ρ r u := by
  unfold aconv at h
  split at h
  · rename_i i j hi hj
    unfold convert
    simp only [Sem.run_bind, hC.run_und hi, hC.run_und hj, Result.andThen_ok]
    split at h
    · rename_i k k' n hd
      simp only [Option.some.injEq] at h; subst h
      simp only [VR] at hx; subst hx
      rw [hd]
      exact ⟨.int k (k.wrap n), rfl, by simp only [VR]⟩
    · rename_i s hd
      simp only [Option.some.injEq] at h; subst h
      simp only [VR] at hx; subst hx
      rw [hd]
      refine ⟨.string ⟨s.toArray⟩, ?_, by simp only [VR]⟩
      cases i.d <;> rfl
    · cases h
  · cases h

def lenOfAV : AV → Option Nat
  | .nils => some 0
  | .slice _ _ n _ _ => some n
  | .empty _ => some 0
  | _ => none

def alen (C : Ctx) (t : TypeId) (x : AV) : Option AV :=
  match C.ti t with
  | none => none
  | some i =>
    match i.d, x with
    | .string, .str s => some (.int .i64 s.length)
    | .array n _, _ => some (.int .i64 n)
    | .slice _, x => match lenOfAV x with
      | some n => some (.int .i64 (n : Nat))
      | none => none
    | .map _ _, .nilm => some (.int .i64 0)
    | _, _ => none

theorem lenOfAV_ok {ρ : Names} {x : AV} {v : Value} {n : Nat} (hx : VR ρ x v) (h : lenOfAV x = some n) : ∃ a c, v = .slice a n c := by
  cases x <;> simp only [lenOfAV, reduceCtorEq, Option.some.injEq] at h <;> simp only [VR] at hx
  · subst h; exact ⟨_, _, hx⟩
  · subst h; obtain ⟨s, cc, _, e, _⟩ := hx; exact ⟨_, _, e⟩
  · subst h; obtain ⟨_, _, e⟩ := hx; exact ⟨_, _, e⟩

theorem alen_ok {C : Ctx} (hC : C.OK) {ρ : Names} {t : TypeId} {x r : AV} {v : Value} (hx : VR ρ x v) (h : alen C t x = some r) (w : World) (ats : Array TypeId) (ht : ats[0]? = some t) (ty : TypeId) (args : Array Value) (ha : args[0]? = some v) :
    ∃ u, (Builtin.len_ ats ty args).run C.P w = .ok u w ∧ VR ρ r u := by
  unfold alen at h
  split at h
  · cases h
  · rename_i i hi
    unfold Builtin.len_
    simp only [ht, ha, Sem.run_bind, hC.run_und hi, Result.andThen_ok]
    split at h
    · rename_i s hd
      simp only [Option.some.injEq] at h; subst h
      simp only [VR] at hx; subst hx
      simp only [hd]
      exact ⟨_, rfl, by simp [VR, goInt, ByteArray.size]⟩
    · rename_i x0 n e hd
      simp only [Option.some.injEq] at h; subst h
      simp only [hd]
      exact ⟨.int .i64 n, rfl, by simp [VR]⟩
    · rename_i x0 e hd
      split at h
      · rename_i n hn
        simp only [Option.some.injEq] at h; subst h
        obtain ⟨a, c, rfl⟩ := lenOfAV_ok hx hn
        simp only [hd]
        exact ⟨.int .i64 n, rfl, by simp [VR]⟩
      · cases h
    · rename_i k e hd
      simp only [Option.some.injEq] at h; subst h
      simp only [VR] at hx; subst hx
      simp only [hd]
      exact ⟨.int .i64 0, rfl, by simp [VR]⟩
    · cases h

def acap (C : Ctx) (t : TypeId) (x : AV) : Option AV :=
  match C.ti t with
  | none => none
  | some i =>
    match i.d, x with
    | .slice _, .nils => some (.int .i64 0)
    | .slice _, .slice _ _ _ (.ex c) _ => some (.int .i64 c)
    | _, _ => none

theorem acap_ok {C : Ctx} (hC : C.OK) {ρ : Names} {t : TypeId} {x r : AV} {v : Value} (hx : VR ρ x v) (h : acap C t x = some r) (w : World) (ats : Array TypeId) (ht : ats[0]? = some t) (ty : TypeId) (args : Array Value) (ha : args[0]? = some v) :
    ∃ u, (Builtin.cap_ ats ty args).run C.P w = .ok u w ∧ VR ρ r u := by
  unfold acap at h
  split at h
  · cases h
  · rename_i i hi
    unfold Builtin.cap_
    simp only [ht, ha, Sem.run_bind, hC.run_und hi, Result.andThen_ok]
    split at h
    · rename_i e hd
      simp only [Option.some.injEq] at h; subst h
      simp only [VR] at hx; subst hx
      simp only [hd]
      exact ⟨.int .i64 0, rfl, by simp [VR]⟩
    · rename_i e b o l c z hd
      simp only [Option.some.injEq] at h; subst h
      simp only [VR, ACap.ok] at hx
      obtain ⟨sg, cc, _, rfl, rfl, _⟩ := hx
      simp only [hd]
      exact ⟨.int .i64 cc, rfl, by simp [VR]⟩
    · cases h

def intVal : AV → Option Value
  | .int k n => some (.int k n)
  | _ => none

def intVals : List AV → Option (List Value)
  | [] => some []
  | a :: as => match intVal a, intVals as with
    | some v, some vs => some (v :: vs)
    | _, _ => none

theorem intVals_ok {ρ : Names} : ∀ {as : List AV} {vs us : List Value}, VRs ρ as vs → intVals as = some us → us = vs
  | [], vs, us, h, e => by simp only [VRs] at h; subst h; simpa [intVals] using e.symm
  | a :: as, vs, us, h, e => by
    simp only [VRs] at h
    obtain ⟨v, vs', rfl, h1, h2⟩ := h
    simp only [intVals] at e
    split at e
    · rename_i u us' e1 e2
      simp only [Option.some.injEq] at e
      subst e
      cases a <;> simp only [intVal, reduceCtorEq, Option.some.injEq] at e1
      subst e1
      simp only [VR] at h1
      rw [h1, intVals_ok h2 e2]
    · cases e

def abuiltin (C : Ctx) (b : Builtin) (ats : Array TypeId) (ty : TypeId) (args : List AV) : Option AV :=
  match b, ats.toList, args with
  | .len, t :: _, x :: _ => alen C t x
  | .cap, t :: _, x :: _ => acap C t x
  | .max, _, args => match intVals args with
    | some vs => pur (Builtin.max_ ats ty ⟨vs⟩)
    | none => none
  | .min, _, args => match intVals args with
    | some vs => pur (Builtin.min_ ats ty ⟨vs⟩)
    | none => none
  | _, _, _ => none

theorem abuiltin_ok {C : Ctx} (hC : C.OK) {ρ : Names} {b : Builtin} {ats : Array TypeId} {ty : TypeId} {args : List AV} {vs : List Value} {r : AV} {cs : Array Bool} (hv : VRs ρ args vs) (h : abuiltin C b ats ty args = some r) (w : World) :
    ∃ u, (builtin b ats ty cs ⟨vs⟩).run C.P w = .ok (.value u) w ∧ VR ρ r u := by
  obtain ⟨ats⟩ := ats
  unfold abuiltin at h
  split at h
  · rename_i t ts x xs ht
    simp only [VRs] at hv
    obtain ⟨v, vs', rfl, h1, h2⟩ := hv
    have : ats = t :: ts := ht
    subst this
    obtain ⟨u, hu, hr⟩ := alen_ok hC h1 h w ⟨t :: ts⟩ (by simp) ty ⟨v :: vs'⟩ (by simp)
    exact ⟨u, by simp only [builtin, Sem.run_bind, hu, Result.andThen_ok, Sem.run_pure], hr⟩
  · rename_i t ts x xs ht
    simp only [VRs] at hv
    obtain ⟨v, vs', rfl, h1, h2⟩ := hv
    have : ats = t :: ts := ht
    subst this
    obtain ⟨u, hu, hr⟩ := acap_ok hC h1 h w ⟨t :: ts⟩ (by simp) ty ⟨v :: vs'⟩ (by simp)
    exact ⟨u, by simp only [builtin, Sem.run_bind, hu, Result.andThen_ok, Sem.run_pure], hr⟩
  · split at h
    · rename_i us hus
      have := intVals_ok hv hus
      subst this
      obtain ⟨u, hu, hr⟩ := pur_ok h C.P w ρ
      exact ⟨u, by simp only [builtin, Sem.run_bind, hu, Result.andThen_ok, Sem.run_pure], hr⟩
    · cases h
  · split at h
    · rename_i us hus
      have := intVals_ok hv hus
      subst this
      obtain ⟨u, hu, hr⟩ := pur_ok h C.P w ρ
      exact ⟨u, by simp only [builtin, Sem.run_bind, hu, Result.andThen_ok, Sem.run_pure], hr⟩
    · cases h
  · cases h

def pureOp (C : Ctx) (ev : Operand → AV) (o : Oper) : Option AV :=
  match o.op with
  | .move x => some (ev x)
  | .assign x => some (ev x)
  | .pick c a b => match ev c with
    | .bool t => some (bif t then ev a else ev b)
    | _ => none
  | .build t parts => abuild C t (parts.toList.map fun p => (p.1, ev p.2))
  | .nilCheck x => match ev x with
    | .ptr b k => some (.ptr b k)
    | .func f fs cs => some (.func f fs cs)
    | _ => none
  | .binOp op t x y _ => abin C op t (isC x || isC y) (ev x) (ev y)
  | .unOp op _ x => match ev x with
    | .int k n => pur (Op.unary op (.int k n))
    | .bool b => pur (Op.unary op (.bool b))
    | _ => none
  | .convert src dst x => aconv C src dst (ev x)
  | .makeInterface t x => match C.ti t with
    | some i => (match i.d with
      | .interface _ => none
      | _ => some (.iface t (ev x)))
    | none => none
  | .makeFunc fn first cap => match fn with
    | .func f => some (.func f (first.toList.map ev) (cap.toList.map ev))
    | _ => none
  | .slice t x lo hi mx => aslice C t (ev x) (lo.map ev) (hi.map ev) (mx.map ev)
  | .fieldAddr s x f => afieldAddr C s (ev x) f
  | .field t x f => afield C t (ev x) f
  | .indexAddr t x i => aindexAddr C t (ev x) (ev i)
  | .index t x i => aindex C t (ev x) (ev i)
  | .extract t i => match ev t with
    | .tuple vs => vs[i]?
    | _ => none
  | .typeAssert x _ t ok => match C.ti t, ev x with
    | some i, .iface u v => (match i.d with
      | .interface _ => none
      | _ => if u = t then some (bif ok then .tuple [v, .bool true] else v) else none)
    | _, _ => none
  | .call c => match c.callee with
    | .builtin b => abuiltin C b c.argTypes o.type (c.args.toList.map ev)
    | _ => none
  | _ => none

theorem pureOp_ok {C : Ctx} (hC : C.OK) {ρ : Names} {ev : Operand → AV} {e : Operand → Value} (hev : VEv ρ ev e) {o : Oper} {r : AV} (h : pureOp C ev o = some r) (w : World) :
    ∃ u, (execOp e o).run C.P w = .ok (.value u) w ∧ VR ρ r u := by
  obtain ⟨dst, op, type, pos, after, guard⟩ := o
  cases op <;> simp only [pureOp, reduceCtorEq] at h <;> simp only [execOp]
  case move x => simp only [Option.some.injEq] at h; subst h; exact ⟨e x, rfl, hev x⟩
  case assign x => simp only [Option.some.injEq] at h; subst h; exact ⟨e x, rfl, hev x⟩
  case pick c a b =>
    have hc := hev c
    split at h
    · rename_i t ht
      rw [ht] at hc
      simp only [VR] at hc
      simp only [Option.some.injEq] at h
      subst h
      refine ⟨if t then e a else e b, ?_, ?_⟩
      · simp only [Sem.run_bind, hc, asBool, Sem.run_pure, Result.andThen_ok]
      · cases t
        · exact hev b
        · exact hev a
    · cases h
  case build t parts =>
    have hm : (parts.map fun x => (x.1, e x.2)).toList = parts.toList.map fun x => (x.1, e x.2) := by simp
    obtain ⟨u, hu, hr⟩ := abuild_ok hC (ps := (parts.toList.map fun p => (p.1, ev p.2)).toArray) (qs := parts.map fun x => (x.1, e x.2)) (ρ := ρ) (t := t) (a := r)
      (by rw [hm]; simp [List.map_map, Function.comp_def])
      (by rw [hm]; simp only [List.map_map, Function.comp_def]
          have := hev.list (parts.toList.map (·.2))
          simpa [List.map_map, Function.comp_def] using this)
      (by simpa using h) w
    exact ⟨u, by simp only [Sem.run_bind, hu, Result.andThen_ok, Sem.run_pure], hr⟩
  case nilCheck x =>
    have hx := hev x
    split at h
    · rename_i b k hb
      rw [hb] at hx
      simp only [Option.some.injEq] at h; subst h
      have hx' := hx
      simp only [VR] at hx
      obtain ⟨sg, _, hx⟩ := hx
      rw [hx] at hx' ⊢
      exact ⟨_, rfl, hx'⟩
    · rename_i f fs cs hb
      rw [hb] at hx
      simp only [Option.some.injEq] at h; subst h
      have hx' := hx
      simp only [VR] at hx
      obtain ⟨us, vs, hx, _⟩ := hx
      rw [hx] at hx' ⊢
      exact ⟨_, rfl, hx'⟩
    · cases h
  case binOp op t x y yt =>
    obtain ⟨u, hu, hr⟩ := abin_ok hC w (hev x) (hev y) h
    exact ⟨u, by rw [Sem.run_bind, hu]; rfl, hr⟩
  case unOp op t x =>
    have hx := hev x
    split at h
    · rename_i k n hb
      rw [hb] at hx
      simp only [VR] at hx
      rw [hx]
      obtain ⟨u, hu, hr⟩ := pur_ok h C.P w ρ
      exact ⟨u, by simp only [Sem.run_bind, hu, Result.andThen_ok, Sem.run_pure], hr⟩
    · rename_i b hb
      rw [hb] at hx
      simp only [VR] at hx
      rw [hx]
      obtain ⟨u, hu, hr⟩ := pur_ok h C.P w ρ
      exact ⟨u, by simp only [Sem.run_bind, hu, Result.andThen_ok, Sem.run_pure], hr⟩
    · cases h
  case convert src dst x =>
    obtain ⟨u, hu, hr⟩ := aconv_ok hC (hev x) h w
    exact ⟨u, by simp only [Sem.run_bind, hu, Result.andThen_ok, Sem.run_pure], hr⟩
  case makeInterface t x =>
    split at h
    · rename_i i hi
      split at h
      · cases h
      · rename_i hd
        simp only [Option.some.injEq] at h; subst h
        refine ⟨.iface t (e x), ?_, by simp only [VR]; exact ⟨_, rfl, hev x⟩⟩
        unfold Instr.makeInterface
        simp only [Sem.run_bind, hC.run_und hi, Result.andThen_ok]
        rfl
    · cases h
  case makeFunc fn first cap =>
    split at h
    · rename_i f
      simp only [Option.some.injEq] at h; subst h
      refine ⟨.func (.func f) ⟨first.toList.map e⟩ ⟨cap.toList.map e⟩, ?_, by simp only [VR]; exact ⟨_, _, rfl, hev.list _, hev.list _⟩⟩
      unfold Instr.makeFunc
      have h1 : cap.map e = ⟨cap.toList.map e⟩ := by apply Array.ext'; simp
      have h2 : first.map e = ⟨first.toList.map e⟩ := by apply Array.ext'; simp
      simp [h1, h2]
    · cases h
  case slice t x lo hi mx =>
    obtain ⟨u, hu, hr⟩ := aslice_ok hC (hev x) (hev.opt lo) (hev.opt hi) (hev.opt mx) h w
    exact ⟨u, by simp only [Sem.run_bind, hu, Result.andThen_ok, Sem.run_pure], hr⟩
  case fieldAddr s x f =>
    obtain ⟨u, hu, hr⟩ := afieldAddr_ok hC (hev x) h w
    exact ⟨u, by simp only [Sem.run_bind, hu, Result.andThen_ok, Sem.run_pure], hr⟩
  case field t x f =>
    obtain ⟨u, hu, hr⟩ := afield_ok hC (hev x) h w
    exact ⟨u, by simp only [Sem.run_bind, hu, Result.andThen_ok, Sem.run_pure], hr⟩
  case indexAddr t x i =>
    obtain ⟨u, hu, hr⟩ := aindexAddr_ok hC (hev x) (hev i) h w
    exact ⟨u, by simp only [Sem.run_bind, hu, Result.andThen_ok, Sem.run_pure], hr⟩
  case index t x i =>
    obtain ⟨u, hu, hr⟩ := aindex_ok hC (hev x) (hev i) h w
    exact ⟨u, by simp only [Sem.run_bind, hu, Result.andThen_ok, Sem.run_pure], hr⟩
  case extract t i =>
    have hx := hev t
    split at h
    · rename_i vs hb
      rw [hb] at hx
      simp only [VR] at hx
      obtain ⟨us, hx, hus⟩ := hx
      obtain ⟨v, hv, hr⟩ := hus.get _ _ h
      rw [hx]
      refine ⟨v, ?_, hr⟩
      unfold Instr.extract
      simp [hv]
    · cases h
  case typeAssert x xt t ok =>
    have hx := hev x
    split at h
    · rename_i i u v hi hb
      rw [hb] at hx
      simp only [VR] at hx
      obtain ⟨y, hx, hy⟩ := hx
      split at h
      · cases h
      · rename_i hd
        split at h
        · rename_i hut
          subst hut
          simp only [Option.some.injEq] at h; subst h
          rw [hx]
          refine ⟨if ok then .tuple #[y, .bool true] else y, ?_, ?_⟩
          · unfold Instr.typeAssert
            simp only [Sem.run_bind, hC.run_und hi, Result.andThen_ok]
            cases hid : i.d with
            | interface ms => exact absurd hid (hd ms)
            | _ => simp
          · cases ok
            · exact hy
            · simp only [cond_true, if_true, VR]
              exact ⟨[y, .bool true], rfl, VRs.cons hy (VRs.cons (by simp [VR]) VRs.nil)⟩
        · cases h
    · cases h
  case call c =>
    obtain ⟨callee, args, ats⟩ := c
    cases callee <;> simp only [reduceCtorEq] at h
    case builtin b =>
      obtain ⟨u, hu, hr⟩ := abuiltin_ok (cs := args.map fun | .const _ => true | _ => false) hC (hev.list args.toList) h w
      refine ⟨u, ?_, hr⟩
      simp only [resolve, Sem.run_bind, Sem.run_pure, Result.andThen_ok, invoke]
      have : args.map e = ⟨args.toList.map e⟩ := by apply Array.ext'; simp
      rw [this]
      exact hu

end Go.AB
