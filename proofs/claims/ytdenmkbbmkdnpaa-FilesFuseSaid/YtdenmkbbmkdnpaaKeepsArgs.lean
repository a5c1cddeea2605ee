/- Files: the examples as a constant, the arguments, the plain law of FilesKeeps, what holds behind a crash; no condition. -/
import Derived.Test.YtdenmkbbmkdnpaaCrash
set_option linter.unusedSimpArgs false
set_option linter.unusedVariables false
open Go Go.AB Go.Proofs
namespace Go.Proofs.Ytdenmkbbmkdnpaa
set_option maxRecDepth 100000

noncomputable def tKnown (f : FuncId) : Option (List AV → AH → Option (AV × AH)) :=
  bif Nat.beq f 35 then some (specSorted 45) else bif Nat.beq f 30 then some (evFnD tC 0 1000 30) else none
theorem tKnownOK (N : Nat) : KnownOK tC N 0 tKnown FX.ext where
  call f k hk := by
    unfold tKnown at hk
    cases h1 : Nat.beq f 35
    · rw [h1] at hk
      cases h2 : Nat.beq f 30
      · rw [h2] at hk; cases hk
      · rw [h2] at hk
        obtain rfl := Nat.eq_of_beq_eq_true h2
        simp only [cond_true, cond_false, Option.some.injEq] at hk
        subst hk
        exact ⟨⟨_, Try.func30, by kernel_rfl, by kernel_rfl⟩, fun args H r H' h ρ w vs hR hv => evFnD_ok tOK h hR hv⟩
    · rw [h1] at hk
      obtain rfl := Nat.eq_of_beq_eq_true h1
      simp only [cond_true, Option.some.injEq] at hk
      subst hk
      exact ⟨⟨_, Try.func35, by kernel_rfl, by kernel_rfl⟩, fun args H r H' h ρ w vs hR hv => specSorted_ok (P := Try.prog) (kt := 9) Try.underlying9 (fun Bm b nn D0 w => Try.sortedAt anyElem Bm b nn D0 w) h hR hv⟩
  ext := (FX_ok N).ext

theorem run6 : constOut (.bool true) (evCall tC tKnown FX.ext 0 100000 100 6 [] H0) = true := by kernel_rfl

theorem lives6 (N : Nat) (H : AH) : AC tC N 0 6 [] H fun r K => r = .bool true ∧ K = H := fun ρ w vs hR hv =>
  (specConst_ok (C := tC) tOK tCodes tKnownOK run6 (show specConst (.bool true) [] H = some (.bool true, H) from rfl) hR hv).mono fun e w' ⟨v, ρ', h1, h2, h3, h4⟩ => ⟨v, ρ', _, _, ⟨rfl, rfl⟩, h1, h2, h3, h4⟩

theorem c5 : Try.prog.cellsOf 5 = 1 := by kernel_rfl
theorem c3 : Try.prog.cellsOf 3 = 1 := by kernel_rfl
theorem u5 : Try.prog.underlying 5 = some (.int .u8) := by kernel_rfl
theorem u3 : Try.prog.underlying 3 = some (.int .i64) := by kernel_rfl
theorem u4 : Try.prog.underlying 4 = some .bool := by kernel_rfl
theorem u9 : Try.prog.underlying 9 = some .string := by kernel_rfl
theorem u22 : Try.prog.underlying 22 = some (.slice 5) := by kernel_rfl
theorem u23 : Try.prog.underlying 23 = some (.slice 3) := by kernel_rfl

def byteOf : AV → UInt8
  | .int _ n => UInt8.ofNat n.toNat
  | _ => 0
def intOf : AV → Int
  | .int _ n => n
  | _ => 0

/-- Bytes of an argument. -/
def BX (H : AH) (v : AV) (l : List UInt8) : Prop := (v = .empty 0 ∧ l = []) ∨ FB H v l
theorem BX.bytes {H : AH} {v : AV} {l : List UInt8} (h : BX H v l) : BytesAt H v l := by
  rcases h with ⟨rfl, rfl⟩ | h
  · exact .inl ⟨.inr rfl, rfl⟩
  · exact h.bytes
theorem BX.keep {H K : AH} {v : AV} {l : List UInt8} (h : BX H v l) (hk : ∀ b x, H.get b = some x → kind x = 4 → K.get b = some x) : BX K v l := h.imp id fun h => h.keep hk
theorem BX.head {H : AH} {v : AV} {l : List UInt8} (h : BX H v l) {n : Nat} (hn : n ≤ l.length) : ∃ u, aslice tC 22 v none (some (.int .i64 (n : Int))) none = some u ∧ BX H u (l.take n) := by
  rcases h with ⟨rfl, rfl⟩ | h
  · obtain rfl : n = 0 := by simpa using hn
    refine ⟨.empty 0, ?_, .inl ⟨rfl, rfl⟩⟩
    have h1 : bnd (some (AV.int .i64 0)) 0 = some 0 := rfl
    simp only [aslice, ti22, ti5, h1, show bnd none 0 = some 0 from rfl, Int.natCast_zero]
  · obtain ⟨u, h1, h2⟩ := h.head hn
    exact ⟨u, h1, .inr h2⟩

section
variable {X : Type} {H : AH}
theorem has_u8 {k : Nat} {d : DataW X} {xs : List AV} (h : Has Try.prog H (k + 1) 5 d xs) : ∃ n : Nat, n < 256 ∧ xs = [.int .u8 n] := by
  unfold Has at h
  rw [u5] at h
  obtain ⟨m, _, hw, rfl⟩ := h
  have h1 : 0 ≤ m ∧ m < 256 := by
    simp [Lit.wf, IntKind.min, IntKind.max, IntKind.signed, IntKind.bits] at hw
    omega
  exact ⟨m.toNat, by omega, by rw [Int.toNat_of_nonneg h1.1]⟩

theorem byte_back {n : Nat} (h : n < 256) : AV.int .u8 (((UInt8.ofNat n).toNat : Nat) : Int) = .int .u8 (n : Int) := by
  congr 2
  simp [UInt8.toNat_ofNat']
  omega

theorem has_bytes {k : Nat} {d : DataW X} {xs : List AV} (h : Has Try.prog H (k + 2) 22 d xs) : ∃ v l, xs = [v] ∧ BX H v l := by
  unfold Has at h
  rw [u22] at h
  rcases h with ⟨_, rfl⟩ | ⟨_, rfl⟩ | ⟨b, es, sp, vs, rfl, _, rfl, hb, hl, hx⟩
  · exact ⟨.nils, [], rfl, .inr (.inl ⟨rfl, rfl⟩)⟩
  · exact ⟨.empty 0, [], rfl, .inl ⟨rfl, rfl⟩⟩
  · rw [c5] at hl hx
    simp only [Nat.mul_one] at hl hx
    have key : ∀ i, i < vs.length → ∃ n : Nat, n < 256 ∧ vs[i]? = some (.int .u8 n) := by
      intro i hi
      obtain ⟨x, hxi⟩ : ∃ x, (es ++ sp)[i]? = some x := ⟨_, List.getElem?_eq_getElem (by simp; omega)⟩
      obtain ⟨n, hn, he⟩ := has_u8 (hx i x hxi)
      refine ⟨n, hn, ?_⟩
      have := congrArg (·[0]?) he
      simp only [List.getElem?_take, List.getElem?_drop, List.getElem?_cons_zero] at this
      simpa using this
    have hlen : ((vs.take es.length).map byteOf).length = es.length := by simp; omega
    refine ⟨_, (vs.take es.length).map byteOf, rfl, .inr (.inr ⟨b, 0, _, true, vs, by rw [hlen, c5], hb, ?_, ?_, by rw [hlen]; simp [ACap.low]⟩)⟩
    · rw [hlen, List.drop_zero]
      apply List.ext_getElem?
      intro i
      simp only [bytesAV, List.getElem?_map, List.getElem?_take]
      by_cases hi : i < es.length
      · obtain ⟨n, hn, he⟩ := key i (by omega)
        rw [if_pos hi, he]
        simp only [Option.map_some, byteOf, Int.toNat_natCast]
        rw [byte_back hn]
      · rw [if_neg hi]; rfl
    · unfold kind
      cases vs with
      | nil => rfl
      | cons a vs =>
        obtain ⟨n, _, he⟩ := key 0 (by simp)
        simp at he
        subst he
        simp [isU8]

/-- Integers of an argument. -/
def IX (H : AH) (v : AV) (l : List Int) : Prop := ((v = .nils ∨ v = .empty 0) ∧ l = []) ∨ ∃ b c ro vs, v = .slice b 0 l.length c 1 ∧ H.get b = some (.cells ro vs) ∧ vs.take l.length = l.map (.int .i64)

theorem has_ints {k : Nat} {d : DataW X} {xs : List AV} (h : Has Try.prog H (k + 2) 23 d xs) : ∃ v l, xs = [v] ∧ IX H v l := by
  unfold Has at h
  rw [u23] at h
  rcases h with ⟨_, rfl⟩ | ⟨_, rfl⟩ | ⟨b, es, sp, vs, rfl, _, rfl, hb, hl, hx⟩
  · exact ⟨.nils, [], rfl, .inl ⟨.inl rfl, rfl⟩⟩
  · exact ⟨.empty 0, [], rfl, .inl ⟨.inr rfl, rfl⟩⟩
  · rw [c3] at hl hx
    simp only [Nat.mul_one] at hl hx
    have key : ∀ i, i < vs.length → ∃ n : Int, vs[i]? = some (.int .i64 n) := by
      intro i hi
      obtain ⟨x, hxi⟩ : ∃ x, (es ++ sp)[i]? = some x := ⟨_, List.getElem?_eq_getElem (by simp; omega)⟩
      have h1 := hx i x hxi
      unfold Has at h1
      rw [u3] at h1
      obtain ⟨m, _, _, he⟩ := h1
      refine ⟨m, ?_⟩
      have := congrArg (·[0]?) he
      simp only [List.getElem?_take, List.getElem?_drop, List.getElem?_cons_zero] at this
      simpa using this
    have hlen : ((vs.take es.length).map intOf).length = es.length := by simp; omega
    refine ⟨_, (vs.take es.length).map intOf, rfl, .inr ⟨b, _, true, vs, by rw [hlen, c3], hb, ?_⟩⟩
    rw [hlen]
    apply List.ext_getElem?
    intro i
    simp only [List.getElem?_map, List.getElem?_take]
    by_cases hi : i < es.length
    · obtain ⟨n, he⟩ := key i (by omega)
      rw [if_pos hi, he]
      rfl
    · rw [if_neg hi]; rfl
end

theorem IX.len {H : AH} {v : AV} {l : List Int} (h : IX H v l) : lenOfAV v = some l.length := by
  rcases h with ⟨rfl | rfl, rfl⟩ | ⟨b, c, ro, vs, rfl, _⟩ <;> rfl
theorem IX.keep {H K : AH} {v : AV} {l : List Int} (h : IX H v l) (hk : ∀ b x, H.get b = some x → K.get b = some x) : IX K v l := by
  rcases h with h | ⟨b, c, ro, vs, h1, h2, h3⟩
  · exact .inl h
  · exact .inr ⟨b, c, ro, vs, h1, hk _ _ h2, h3⟩

theorem allOne_ints (l : List Int) : allOne (l.map (AV.int .i64)) = true := by
  induction l with
  | nil => rfl
  | cons a l ih => simp only [List.map_cons, allOne]; exact (by rw [show AV.one (.int .i64 a) = true from rfl, Bool.true_and]; exact ih)

theorem aappended_ints {H : AH} {v : AV} {l : List Int} (h : IX H v l) {j : TI} (hs : j.size = 1) : aappended tC H j 23 v = some (l.length, l.map (.int .i64)) := by
  have h1 := h.len
  have h2 : acells H 1 l.length v = some (l.map (.int .i64)) := by
    rcases h with ⟨rfl | rfl, rfl⟩ | ⟨b, c, ro, vs, rfl, h1, h2⟩
    · rfl
    · rfl
    · simp only [acells, Nat.mul_one, h1, List.drop_zero, h2, nbeq, List.length_map, decide_true, cond_true]
      by_cases h0 : l.length = 0
      · have := List.eq_nil_of_length_eq_zero h0
        subst this; rfl
      · simp [h0]
  rcases h with ⟨rfl | rfl, rfl⟩ | ⟨b, c, ro, vs, rfl, h3, h4⟩
  · simp only [aappended, ti23, h1, hs, h2, Option.map_some]
  · simp only [aappended, ti23, h1, hs, h2, Option.map_some]
  · simp only [aappended, ti23, h1, hs, h2, Option.map_some]

theorem aappend_ints {H : AH} {b : Nat} {v : AV} {l : List Int} (hv : IX H v l) (hN : l.length ≤ 1000000) :
    aappend tC H [23, 23] [.slice b 0 0 (.ex 0) 1, v] = some (if l = [] then (.slice b 0 0 (.ex 0) 1, H) else (.slice H.next 0 l.length (.lo l.length) 1, H.alloc (.cells false (l.map (.int .i64))))) := by
  have h1 := aappended_ints hv (j := ⟨.int .i64, 1, 8, some (.int .i64 (.ofNat 0)), true⟩) rfl
  have ho := allOne_ints l
  have hz := zOK_of (j := ⟨.int .i64, 1, 8, some (.int .i64 (.ofNat 0)), true⟩) rfl rfl rfl
  have hz0 := zOK_of (j := ⟨.int .i64, 1, 8, some (.int .i64 0), true⟩) rfl rfl rfl
  by_cases hl : l = []
  · subst hl
    simp only [aappend, ti23, ti3, h1]
    simp [nbeq, allOne, hz, hz0]
  · have hl0 : ¬ l.length = 0 := fun h => hl (List.eq_nil_of_length_eq_zero h)
    simp only [aappend, ti23, ti3, h1]
    simp [ho, hz, hz0, nbeq, nble, hl0, hl, ACap.low, acells]
    rw [decide_eq_true (show (2 * l.length + 1024) * 8 ≤ 281474976710656 by omega), decide_eq_true (show l.length ≤ 4611686018427387904 by omega)]; rfl
end Go.Proofs.Ytdenmkbbmkdnpaa

open Go Go.AB Go.Proofs
namespace Go.Proofs.Ytdenmkbbmkdnpaa

def nf : Nm := [102]
def nt : Nm := [116, 109, 112]
def SD (now sf : Ents) (notes : List Note) (files : List (Nm × Nat)) : DM := ⟨10000, now, sf, notes, files, -1, false⟩

section
variable {now sf : Ents} {notes : List Note} {files : List (Nm × Nat)} {x y : Nm} {i : Nat} {b : List UInt8}
theorem SD_err : (SD now sf notes files).err true = 0 := rfl
theorem SD_op : (SD now sf notes files).op true = SD now sf notes files := rfl
theorem SD_make (hx : nameOK x = true) (hn : getN now x = none) : (SD now sf notes files).make x = (0, SD (setN now x files.length) sf (notes ++ [.make x files.length]) (files ++ [([], 0)])) := by
  simp only [DM.make, hx, SD_err, SD_op]
  simp only [SD, hn]
  rfl
theorem SD_append (hx : nameOK x = true) (hn : getN now x = some i) (hr : ¬ ((10000 : Int) - ((SD now sf notes files).used : Nat) < b.length)) : (SD now sf notes files).append x b = (0, SD now sf notes (files.set i (((SD now sf notes files).file i).1 ++ b, ((SD now sf notes files).file i).2))) := by
  have hn' : getN (SD now sf notes files).now x = some i := hn
  simp only [DM.append, hx, SD_err, SD_op, hn']
  rw [if_neg (show ¬ ((SD now sf notes files).room - ((SD now sf notes files).used : Nat) < (b.length : Int)) from hr)]
  rfl
theorem SD_sync (hx : nameOK x = true) (hn : getN now x = some i) : (SD now sf notes files).sync x = (0, SD now sf notes (files.set i (((SD now sf notes files).file i).1, ((SD now sf notes files).file i).1.length))) := by
  have hn' : getN (SD now sf notes files).now x = some i := hn
  simp only [DM.sync, hx, SD_err, SD_op, hn']
  rfl
theorem SD_syncNames : (SD now sf notes files).syncNames = (0, SD now (doAll notes sf) [] files) := by
  simp only [DM.syncNames, SD_err, SD_op, DM.keep]
  simp only [SD, List.take_length]
  rfl
end

def k1 : DM := SD [(nf, 0)] [] [.make nf 0] [([], 0)]
def k2 (a : List UInt8) : DM := SD [(nf, 0)] [] [.make nf 0] [(a, 0)]
def k3 (a : List UInt8) : DM := SD [(nf, 0)] [] [.make nf 0] [(a, a.length)]
def k4 (a : List UInt8) : DM := SD [(nf, 0)] [(nf, 0)] [] [(a, a.length)]
def k5 (a b : List UInt8) : DM := SD [(nf, 0)] [(nf, 0)] [] [(a ++ b, a.length)]
def k6 (a b : List UInt8) : DM := SD [(nf, 0), (nt, 1)] [(nf, 0)] [.make nt 1] [(a ++ b, a.length), ([], 0)]
def k7 (a b c : List UInt8) : DM := SD [(nf, 0), (nt, 1)] [(nf, 0)] [.make nt 1] [(a ++ b, a.length), (c, 0)]
def k8 (a b c : List UInt8) : DM := SD [(nf, 0), (nt, 1)] [(nf, 0)] [.make nt 1] [(a ++ b, a.length), (c, c.length)]
def k9 (a b c : List UInt8) : DM := SD [(nf, 1)] [(nf, 0)] [.make nt 1, .ren nt nf] [(a ++ b, a.length), (c, c.length)]

theorem k1_eq : (DM.new 10000).make nf = (0, k1) := SD_make (now := []) (sf := []) (notes := []) (files := []) (by decide) rfl
theorem k2_eq {a : List UInt8} (ha : a.length ≤ 300) : k1.append nf a = (0, k2 a) := by
  have hu : (SD [(nf, 0)] [] [.make nf 0] [([], 0)]).used = 0 := rfl
  have := SD_append (now := [(nf, 0)]) (sf := []) (notes := [.make nf 0]) (files := [([], 0)]) (x := nf) (i := 0) (b := a) (by decide) rfl (by rw [hu]; omega)
  exact this
theorem k3_eq {a : List UInt8} : (k2 a).sync nf = (0, k3 a) := SD_sync (now := [(nf, 0)]) (sf := []) (notes := [.make nf 0]) (files := [(a, 0)]) (x := nf) (i := 0) (by decide) rfl
theorem k4_eq {a : List UInt8} : (k3 a).syncNames = (0, k4 a) := SD_syncNames
theorem k4_used {a : List UInt8} : (k4 a).used = a.length := by
  show lenSum _ [nf] = _
  simp only [lenSum, List.map_cons, List.map_nil, List.sum_cons, List.sum_nil]
  rfl
theorem k5_eq {a b : List UInt8} (ha : a.length ≤ 300) (hb : b.length ≤ 300) : (k4 a).append nf b = (0, k5 a b) := by
  have hu := k4_used (a := a)
  exact SD_append (now := [(nf, 0)]) (sf := [(nf, 0)]) (notes := []) (files := [(a, a.length)]) (x := nf) (i := 0) (b := b) (by decide) rfl (by unfold k4 at hu; rw [hu]; omega)
theorem k6_eq {a b : List UInt8} : (k5 a b).make nt = (0, k6 a b) := SD_make (now := [(nf, 0)]) (sf := [(nf, 0)]) (notes := []) (files := [(a ++ b, a.length)]) (by decide) rfl
theorem k6_used {a b : List UInt8} : (k6 a b).used = a.length + b.length := by
  have e : (k6 a b).used = lenSum (k6 a b).lenOf [nf, nt] := rfl
  rw [e]
  simp only [lenSum, List.map_cons, List.map_nil, List.sum_cons, List.sum_nil]
  have e1 : (k6 a b).lenOf nf = (a ++ b).length := rfl
  have e2 : (k6 a b).lenOf nt = 0 := rfl
  rw [e1, e2, List.length_append]; omega
theorem k7_eq {a b c : List UInt8} (ha : a.length ≤ 300) (hb : b.length ≤ 300) (hc : c.length ≤ 300) : (k6 a b).append nt c = (0, k7 a b c) := by
  have hu := k6_used (a := a) (b := b)
  exact SD_append (now := [(nf, 0), (nt, 1)]) (sf := [(nf, 0)]) (notes := [.make nt 1]) (files := [(a ++ b, a.length), ([], 0)]) (x := nt) (i := 1) (b := c) (by decide) rfl (by unfold k6 at hu; rw [hu]; omega)
theorem k8_eq {a b c : List UInt8} : (k7 a b c).sync nt = (0, k8 a b c) := SD_sync (now := [(nf, 0), (nt, 1)]) (sf := [(nf, 0)]) (notes := [.make nt 1]) (files := [(a ++ b, a.length), (c, 0)]) (x := nt) (i := 1) (by decide) rfl
theorem k9_eq {a b c : List UInt8} : (k8 a b c).rename nt nf = (0, k9 a b c) := by
  rfl

/-- What a first part of a file is. -/
def cutOf (a b : List UInt8) (parts : List Int) : List UInt8 := a ++ b.take ((max 0 (parts.headD 0)).toNat % (b.length + 1))
theorem cut_eq (a b : List UInt8) (parts : List Int) : (a ++ b).take (crashCut (a ++ b, a.length) (parts.headD 0)) = cutOf a b parts := by
  unfold crashCut cutOf
  simp only [List.length_append]
  rw [show a.length + b.length - a.length + 1 = b.length + 1 by omega, List.take_append, List.take_of_length_le (by omega)]
  congr 2
  omega

theorem readB_of {now sf : Ents} {notes : List Note} {files : List (Nm × Nat)} {x : Nm} {i : Nat} {p : Nm × Nat} (hx : nameOK x = true) (hn : getN now x = some i) (hp : files[i]? = some p) : (SD now sf notes files).readB x = p.1 := by
  have hn' : getN (SD now sf notes files).now x = some i := hn
  have hf : (SD now sf notes files).file i = p := by simp only [DM.file]; show (files[i]?).getD ([], 0) = p; rw [hp]; rfl
  simp only [DM.readB, hx, SD_err, hn', hf]
  rfl

/-- A crash of a disk whose fuse is out. -/
theorem crash_SD {now sf E : Ents} {notes : List Note} {files : List (Nm × Nat)} {ch : Int} {parts : List Int} (hk : doAll (notes.take ((max 0 ch).toNat % (notes.length + 1))) sf = E) : (SD now sf notes files).crash ch parts =
    SD ((isortK (E.map (·.1))).foldl (crashStep E) (files, [], parts)).2.1 ((isortK (E.map (·.1))).foldl (crashStep E) (files, [], parts)).2.1 [] ((isortK (E.map (·.1))).foldl (crashStep E) (files, [], parts)).1 := by
  subst hk; rfl

theorem c5_read {a b : List UInt8} {ch : Int} {parts : List Int} : ((k5 a b).crash ch parts).readB nf = cutOf a b parts := by
  unfold k5
  rw [crash_SD (E := [(nf, 0)]) (by simp [doAll])]
  exact (readB_of (i := 1) (by decide) rfl rfl).trans (cut_eq a b parts)

theorem c9_read {a b c : List UInt8} {ch : Int} {parts : List Int} (hk : (max 0 ch).toNat % 3 ≠ 2) : ((k9 a b c).crash ch parts).readB nf = cutOf a b parts := by
  unfold k9
  have h3 : (max 0 ch).toNat % 3 = 0 ∨ (max 0 ch).toNat % 3 = 1 := by omega
  rcases h3 with h3 | h3
  · rw [crash_SD (E := [(nf, 0)]) (by show doAll (List.take ((max 0 ch).toNat % 3) _) _ = _; rw [h3]; rfl)]
    exact (readB_of (i := 2) (by decide) rfl rfl).trans (cut_eq a b parts)
  · rw [crash_SD (E := [(nf, 0), (nt, 1)]) (by show doAll (List.take ((max 0 ch).toNat % 3) _) _ = _; rw [h3]; rfl)]
    exact (readB_of (i := 2) (by decide) rfl rfl).trans (cut_eq a b parts)

theorem c9_read2 {a b c : List UInt8} {ch : Int} {parts : List Int} (hk : (max 0 ch).toNat % 3 = 2) : ((k9 a b c).crash ch parts).readB nf = c ∧ (((k9 a b c).crash ch parts).op true).size nt = -1 := by
  unfold k9
  rw [crash_SD (E := [(nf, 1)]) (by show doAll (List.take ((max 0 ch).toNat % 3) _) _ = _; rw [hk]; rfl)]
  refine ⟨(readB_of (i := 2) (by decide) rfl rfl).trans ?_, rfl⟩
  have h1 := (crashCut_le (f := (c, c.length)) (Nat.le_refl _) (parts.headD 0)).1
  exact List.take_of_length_le h1

/-! The states may be. -/
def SDok (n : Nat) (now sf : Ents) (notes : List Note) : Bool := now.all (fun p => decide (p.2 < n)) && sf.all (fun p => decide (p.2 < n)) && notes.all fun
  | .make _ i => decide (i < n)
  | _ => true
theorem SD_ok {now sf : Ents} {notes : List Note} {files : List (Nm × Nat)} (h : SDok files.length now sf notes = true) (hs : ∀ p ∈ files, p.2 ≤ p.1.length) : (SD now sf notes files).OK := by
  simp only [SDok, Bool.and_eq_true, List.all_eq_true] at h
  obtain ⟨⟨h1, h2⟩, h3⟩ := h
  exact ⟨fun p hp => of_decide_eq_true (h1 p hp), fun p hp => of_decide_eq_true (h2 p hp), fun n i hi => of_decide_eq_true (h3 _ hi), by simp [SD], by simp [SD], fun i p hi => hs p (List.mem_of_getElem? hi)⟩
end Go.Proofs.Ytdenmkbbmkdnpaa

open Go Go.AB Go.Proofs
namespace Go.Proofs.Ytdenmkbbmkdnpaa

theorem setN_len (E : Ents) (k : Nm) (f : Nat) : (setN E k f).length ≤ E.length + 1 := by
  induction E with
  | nil => simp [setN]
  | cons p E ih =>
    simp only [setN]
    split
    · simp
    · simp; omega
theorem delN_len (E : Ents) (k : Nm) : (delN E k).length ≤ E.length := by
  induction E with
  | nil => simp [delN]
  | cons p E ih =>
    simp only [delN]
    split
    · simp
    · simp; omega
theorem delN_mem {E : Ents} {k : Nm} {p : Nm × Nat} (h : p ∈ delN E k) : p ∈ E := by
  induction E with
  | nil => simp [delN] at h
  | cons q E ih =>
    simp only [delN] at h
    split at h
    · exact List.mem_cons_of_mem _ h
    · rcases List.mem_cons.1 h with h | h
      · exact h ▸ List.mem_cons_self
      · exact List.mem_cons_of_mem _ (ih h)

/-- A note whose entries fit. -/
def Note.fits (P : Nm × Nat → Prop) : Note → Prop
  | .make n i => P (n, i)
  | .ren _ b => ∀ n i, P (n, i) → P (b, i)
  | .rem _ => True

theorem Note.do_fits {P : Nm × Nat → Prop} {nt : Note} (h : nt.fits P) {E : Ents} (hE : ∀ p ∈ E, P p) : ∀ p ∈ nt.do E, P p := by
  intro p hp
  cases nt with
  | make n i =>
    rcases setN_mem hp with rfl | hp
    · exact h
    · exact hE p hp
  | rem n => exact hE p (delN_mem hp)
  | ren a b =>
    simp only [Note.do] at hp
    cases hg : getN E a with
    | none => rw [hg] at hp; exact hE p hp
    | some f =>
      rw [hg] at hp
      rcases setN_mem (delN_mem hp) with rfl | hp
      · exact h _ _ (hE _ (getN_mem hg))
      · exact hE p hp
theorem Note.do_len (nt : Note) (E : Ents) : (nt.do E).length ≤ E.length + 1 := by
  cases nt with
  | make n i => exact setN_len _ _ _
  | rem n => have := delN_len E n; simp only [Note.do]; omega
  | ren a b =>
    simp only [Note.do]
    cases getN E a with
    | none => simp
    | some f => exact Nat.le_trans (delN_len _ _) (setN_len _ _ _)

theorem doAll_fits {P : Nm × Nat → Prop} : ∀ {l : List Note} {E : Ents}, (∀ nt ∈ l, nt.fits P) → (∀ p ∈ E, P p) → ∀ p ∈ doAll l E, P p
  | [], _, _, hE => hE
  | nt :: l, E, hl, hE => doAll_fits (l := l) (E := nt.do E) (fun x hx => hl x (List.mem_cons_of_mem _ hx)) (Note.do_fits (hl nt List.mem_cons_self) hE)
theorem doAll_len : ∀ (l : List Note) (E : Ents), (doAll l E).length ≤ E.length + l.length
  | [], E => Nat.le_refl _
  | nt :: l, E => by
    have h1 := doAll_len l (nt.do E)
    have h2 := Note.do_len nt E
    show (doAll l (nt.do E)).length ≤ _
    simp only [List.length_cons]; omega

theorem DM.kept_refs {M : DM} (ok : M.OK) (ch : Int) : ∀ p ∈ (M.kept ch).sf, p.2 < M.files.length :=
  doAll_fits (P := fun p => p.2 < M.files.length) (fun nt hn => by
    have hn := List.mem_of_mem_take hn
    cases nt with
    | make n i => exact ok.notes n i hn
    | ren a b => exact fun n i h => h
    | rem n => trivial) ok.sf

/-- Names are short. -/
def Note.short (B : Nat) : Note → Prop
  | .make n _ => n.length ≤ B
  | .ren _ b => b.length ≤ B
  | .rem _ => True
def DM.Short (M : DM) (B : Nat) : Prop := (∀ p ∈ M.sf, p.1.length ≤ B) ∧ ∀ nt ∈ M.notes, nt.short B
theorem DM.kept_short {M : DM} {B : Nat} (h : M.Short B) (ch : Int) : ∀ p ∈ (M.kept ch).sf, p.1.length ≤ B :=
  doAll_fits (P := fun p => p.1.length ≤ B) (fun nt hn => by
    have hn := h.2 nt (List.mem_of_mem_take hn)
    cases nt with
    | make n i => exact hn
    | ren a b => exact fun n i _ => hn
    | rem n => trivial) h.1
theorem DM.kept_len (M : DM) (ch : Int) : (M.kept ch).sf.length ≤ M.sf.length + M.notes.length := by
  have := doAll_len (M.notes.take ((max 0 ch).toNat % (M.notes.length + 1))) M.sf
  have h2 : (M.notes.take ((max 0 ch).toNat % (M.notes.length + 1))).length ≤ M.notes.length := by rw [List.length_take]; omega
  show (doAll _ _).length ≤ _
  omega

theorem CI_fold {n L : Nat} {sf : Ents} (hs : ∀ s i, getN sf s = some i → i < n) : ∀ (l : List Nm) (st : CSt), CI n L st → CI n L (l.foldl (crashStep sf) st)
  | [], _, h => h
  | s :: l, st, h => CI_fold hs l _ (h.step (hs s))

theorem DM.crash_ci {M : DM} (ok : M.OK) {L : Nat} (hfl : ∀ (i : Nat) p, M.files[i]? = some p → p.1.length ≤ L) (ch : Int) (parts : List Int) : CI M.files.length L (M.crashSt ch parts) :=
  CI_fold (fun s i h => M.kept_refs ok ch _ (getN_mem h)) _ _ ⟨Nat.le_refl _, fun p hp => by simp at hp, fun i p hp => ⟨ok.safe i p hp, hfl i p hp⟩⟩

theorem DM.crash_ok {M : DM} (ok : M.OK) {L : Nat} (hfl : ∀ (i : Nat) p, M.files[i]? = some p → p.1.length ≤ L) (ch : Int) (parts : List Int) : (M.crash ch parts).OK :=
  have h := M.crash_ci ok hfl ch parts
  ⟨h.now, h.now, fun n i h => by simp [DM.crash, DM.kept, DM.keep] at h, by simp [DM.crash], by simp [DM.crash], fun i p hp => (h.safe i p hp).1⟩

theorem files_le {M : DM} {L : Nat} (hfl : ∀ (i : Nat) p, M.files[i]? = some p → p.1.length ≤ L) (i : Nat) : (M.file i).1.length ≤ L := by
  unfold DM.file
  cases h : M.files[i]? with
  | none => simp
  | some p => exact hfl i p h
theorem DM.crash_file {M : DM} (ok : M.OK) {L : Nat} (hfl : ∀ (i : Nat) p, M.files[i]? = some p → p.1.length ≤ L) (ch : Int) (parts : List Int) (i : Nat) : ((M.crash ch parts).file i).1.length ≤ L :=
  files_le (fun i p hp => ((M.crash_ci ok hfl ch parts).safe i p hp).2) i
end Go.Proofs.Ytdenmkbbmkdnpaa
