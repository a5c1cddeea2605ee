/- Log: the examples and the names of files as constants; bounds of a disk; no condition. -/
import Derived.Test.YtgihociajfgohaaGreatDoorWire2
import Derived.Test.YtgihociajfgohaaGreatDoorDisk4
import Derived.Test.YtgihociajfgohaaGreatDoorHeap6
import Derived.Test.YtgihociajfgohaaGreatDoorDisk5
set_option linter.unusedSimpArgs false
set_option linter.unusedVariables false
open Go Go.AB Go.Proofs
namespace Go.Proofs.YtgihociajfgohaaGreatDoor
set_option maxRecDepth 100000

def tTable : AV := .agg [
  .int .u32 (.ofNat 0), .int .u32 (.ofNat 4067132163), .int .u32 (.ofNat 3778769143), .int .u32 (.ofNat 324072436), .int .u32 (.ofNat 3348797215), .int .u32 (.ofNat 904991772), .int .u32 (.ofNat 648144872), .int .u32 (.ofNat 3570033899),
  .int .u32 (.ofNat 2329499855), .int .u32 (.ofNat 2024987596), .int .u32 (.ofNat 1809983544), .int .u32 (.ofNat 2575936315), .int .u32 (.ofNat 1296289744), .int .u32 (.ofNat 3207089363), .int .u32 (.ofNat 2893594407), .int .u32 (.ofNat 1578318884),
  .int .u32 (.ofNat 274646895), .int .u32 (.ofNat 3795141740), .int .u32 (.ofNat 4049975192), .int .u32 (.ofNat 51262619), .int .u32 (.ofNat 3619967088), .int .u32 (.ofNat 632279923), .int .u32 (.ofNat 922689671), .int .u32 (.ofNat 3298075524),
  .int .u32 (.ofNat 2592579488), .int .u32 (.ofNat 1760304291), .int .u32 (.ofNat 2075979607), .int .u32 (.ofNat 2312596564), .int .u32 (.ofNat 1562183871), .int .u32 (.ofNat 2943781820), .int .u32 (.ofNat 3156637768), .int .u32 (.ofNat 1313733451),
  .int .u32 (.ofNat 549293790), .int .u32 (.ofNat 3537243613), .int .u32 (.ofNat 3246849577), .int .u32 (.ofNat 871202090), .int .u32 (.ofNat 3878099393), .int .u32 (.ofNat 357341890), .int .u32 (.ofNat 102525238), .int .u32 (.ofNat 4101499445),
  .int .u32 (.ofNat 2858735121), .int .u32 (.ofNat 1477399826), .int .u32 (.ofNat 1264559846), .int .u32 (.ofNat 3107202533), .int .u32 (.ofNat 1845379342), .int .u32 (.ofNat 2677391885), .int .u32 (.ofNat 2361733625), .int .u32 (.ofNat 2125378298),
  .int .u32 (.ofNat 820201905), .int .u32 (.ofNat 3263744690), .int .u32 (.ofNat 3520608582), .int .u32 (.ofNat 598981189), .int .u32 (.ofNat 4151959214), .int .u32 (.ofNat 85089709), .int .u32 (.ofNat 373468761), .int .u32 (.ofNat 3827903834),
  .int .u32 (.ofNat 3124367742), .int .u32 (.ofNat 1213305469), .int .u32 (.ofNat 1526817161), .int .u32 (.ofNat 2842354314), .int .u32 (.ofNat 2107672161), .int .u32 (.ofNat 2412447074), .int .u32 (.ofNat 2627466902), .int .u32 (.ofNat 1861252501),
  .int .u32 (.ofNat 1098587580), .int .u32 (.ofNat 3004210879), .int .u32 (.ofNat 2688576843), .int .u32 (.ofNat 1378610760), .int .u32 (.ofNat 2262928035), .int .u32 (.ofNat 1955203488), .int .u32 (.ofNat 1742404180), .int .u32 (.ofNat 2511436119),
  .int .u32 (.ofNat 3416409459), .int .u32 (.ofNat 969524848), .int .u32 (.ofNat 714683780), .int .u32 (.ofNat 3639785095), .int .u32 (.ofNat 205050476), .int .u32 (.ofNat 4266873199), .int .u32 (.ofNat 3976438427), .int .u32 (.ofNat 526918040),
  .int .u32 (.ofNat 1361435347), .int .u32 (.ofNat 2739821008), .int .u32 (.ofNat 2954799652), .int .u32 (.ofNat 1114974503), .int .u32 (.ofNat 2529119692), .int .u32 (.ofNat 1691668175), .int .u32 (.ofNat 2005155131), .int .u32 (.ofNat 2247081528),
  .int .u32 (.ofNat 3690758684), .int .u32 (.ofNat 697762079), .int .u32 (.ofNat 986182379), .int .u32 (.ofNat 3366744552), .int .u32 (.ofNat 476452099), .int .u32 (.ofNat 3993867776), .int .u32 (.ofNat 4250756596), .int .u32 (.ofNat 255256311),
  .int .u32 (.ofNat 1640403810), .int .u32 (.ofNat 2477592673), .int .u32 (.ofNat 2164122517), .int .u32 (.ofNat 1922457750), .int .u32 (.ofNat 2791048317), .int .u32 (.ofNat 1412925310), .int .u32 (.ofNat 1197962378), .int .u32 (.ofNat 3037525897),
  .int .u32 (.ofNat 3944729517), .int .u32 (.ofNat 427051182), .int .u32 (.ofNat 170179418), .int .u32 (.ofNat 4165941337), .int .u32 (.ofNat 746937522), .int .u32 (.ofNat 3740196785), .int .u32 (.ofNat 3451792453), .int .u32 (.ofNat 1070968646),
  .int .u32 (.ofNat 1905808397), .int .u32 (.ofNat 2213795598), .int .u32 (.ofNat 2426610938), .int .u32 (.ofNat 1657317369), .int .u32 (.ofNat 3053634322), .int .u32 (.ofNat 1147748369), .int .u32 (.ofNat 1463399397), .int .u32 (.ofNat 2773627110),
  .int .u32 (.ofNat 4215344322), .int .u32 (.ofNat 153784257), .int .u32 (.ofNat 444234805), .int .u32 (.ofNat 3893493558), .int .u32 (.ofNat 1021025245), .int .u32 (.ofNat 3467647198), .int .u32 (.ofNat 3722505002), .int .u32 (.ofNat 797665321),
  .int .u32 (.ofNat 2197175160), .int .u32 (.ofNat 1889384571), .int .u32 (.ofNat 1674398607), .int .u32 (.ofNat 2443626636), .int .u32 (.ofNat 1164749927), .int .u32 (.ofNat 3070701412), .int .u32 (.ofNat 2757221520), .int .u32 (.ofNat 1446797203),
  .int .u32 (.ofNat 137323447), .int .u32 (.ofNat 4198817972), .int .u32 (.ofNat 3910406976), .int .u32 (.ofNat 461344835), .int .u32 (.ofNat 3484808360), .int .u32 (.ofNat 1037989803), .int .u32 (.ofNat 781091935), .int .u32 (.ofNat 3705997148),
  .int .u32 (.ofNat 2460548119), .int .u32 (.ofNat 1623424788), .int .u32 (.ofNat 1939049696), .int .u32 (.ofNat 2180517859), .int .u32 (.ofNat 1429367560), .int .u32 (.ofNat 2807687179), .int .u32 (.ofNat 3020495871), .int .u32 (.ofNat 1180866812),
  .int .u32 (.ofNat 410100952), .int .u32 (.ofNat 3927582683), .int .u32 (.ofNat 4182430767), .int .u32 (.ofNat 186734380), .int .u32 (.ofNat 3756733383), .int .u32 (.ofNat 763408580), .int .u32 (.ofNat 1053836080), .int .u32 (.ofNat 3434856499),
  .int .u32 (.ofNat 2722870694), .int .u32 (.ofNat 1344288421), .int .u32 (.ofNat 1131464017), .int .u32 (.ofNat 2971354706), .int .u32 (.ofNat 1708204729), .int .u32 (.ofNat 2545590714), .int .u32 (.ofNat 2229949006), .int .u32 (.ofNat 1988219213),
  .int .u32 (.ofNat 680717673), .int .u32 (.ofNat 3673779818), .int .u32 (.ofNat 3383336350), .int .u32 (.ofNat 1002577565), .int .u32 (.ofNat 4010310262), .int .u32 (.ofNat 493091189), .int .u32 (.ofNat 238226049), .int .u32 (.ofNat 4233660802),
  .int .u32 (.ofNat 2987750089), .int .u32 (.ofNat 1082061258), .int .u32 (.ofNat 1395524158), .int .u32 (.ofNat 2705686845), .int .u32 (.ofNat 1972364758), .int .u32 (.ofNat 2279892693), .int .u32 (.ofNat 2494862625), .int .u32 (.ofNat 1725896226),
  .int .u32 (.ofNat 952904198), .int .u32 (.ofNat 3399985413), .int .u32 (.ofNat 3656866545), .int .u32 (.ofNat 731699698), .int .u32 (.ofNat 4283874585), .int .u32 (.ofNat 222117402), .int .u32 (.ofNat 510512622), .int .u32 (.ofNat 3959836397),
  .int .u32 (.ofNat 3280807620), .int .u32 (.ofNat 837199303), .int .u32 (.ofNat 582374963), .int .u32 (.ofNat 3504198960), .int .u32 (.ofNat 68661723), .int .u32 (.ofNat 4135334616), .int .u32 (.ofNat 3844915500), .int .u32 (.ofNat 390545967),
  .int .u32 (.ofNat 1230274059), .int .u32 (.ofNat 3141532936), .int .u32 (.ofNat 2825850620), .int .u32 (.ofNat 1510247935), .int .u32 (.ofNat 2395924756), .int .u32 (.ofNat 2091215383), .int .u32 (.ofNat 1878366691), .int .u32 (.ofNat 2644384480),
  .int .u32 (.ofNat 3553878443), .int .u32 (.ofNat 565732008), .int .u32 (.ofNat 854102364), .int .u32 (.ofNat 3229815391), .int .u32 (.ofNat 340358836), .int .u32 (.ofNat 3861050807), .int .u32 (.ofNat 4117890627), .int .u32 (.ofNat 119113024),
  .int .u32 (.ofNat 1493875044), .int .u32 (.ofNat 2875275879), .int .u32 (.ofNat 3090270611), .int .u32 (.ofNat 1247431312), .int .u32 (.ofNat 2660249211), .int .u32 (.ofNat 1828433272), .int .u32 (.ofNat 2141937292), .int .u32 (.ofNat 2378227087),
  .int .u32 (.ofNat 3811616794), .int .u32 (.ofNat 291187481), .int .u32 (.ofNat 34330861), .int .u32 (.ofNat 4032846830), .int .u32 (.ofNat 615137029), .int .u32 (.ofNat 3603020806), .int .u32 (.ofNat 3314634738), .int .u32 (.ofNat 939183345),
  .int .u32 (.ofNat 1776939221), .int .u32 (.ofNat 2609017814), .int .u32 (.ofNat 2295496738), .int .u32 (.ofNat 2058945313), .int .u32 (.ofNat 2926798794), .int .u32 (.ofNat 1545135305), .int .u32 (.ofNat 1330124605), .int .u32 (.ofNat 3173225534),
  .int .u32 (.ofNat 4084100981), .int .u32 (.ofNat 17165430), .int .u32 (.ofNat 307568514), .int .u32 (.ofNat 3762199681), .int .u32 (.ofNat 888469610), .int .u32 (.ofNat 3332340585), .int .u32 (.ofNat 3587147933), .int .u32 (.ofNat 665062302),
  .int .u32 (.ofNat 2042050490), .int .u32 (.ofNat 2346497209), .int .u32 (.ofNat 2559330125), .int .u32 (.ofNat 1793573966), .int .u32 (.ofNat 3190661285), .int .u32 (.ofNat 1279665062), .int .u32 (.ofNat 1595330642), .int .u32 (.ofNat 2910671697)]


theorem tTable_eq : tTable = .agg ((List.range 256).map tabAV) := by kernel_rfl

noncomputable def tKnown (f : FuncId) : Option (List AV → AH → Option (AV × AH)) :=
  bif Nat.beq f 51 then some (specSorted 83) else bif Nat.beq f 55 then some (evFnD tC 0 1000 55) else bif Nat.beq f 98 then some (specConst tTable) else none
theorem tKnownOK (N : Nat) : KnownOK tC N 0 tKnown FX.ext where
  call f k hk := by
    unfold tKnown at hk
    cases h1 : Nat.beq f 51
    · rw [h1] at hk
      cases h2 : Nat.beq f 55
      · rw [h2] at hk
        cases h3 : Nat.beq f 98
        · rw [h3] at hk; cases hk
        · rw [h3] at hk
          obtain rfl := Nat.eq_of_beq_eq_true h3
          simp only [cond_true, cond_false, Option.some.injEq] at hk
          subst hk
          refine ⟨⟨_, Tryz.func98, by kernel_rfl, by kernel_rfl⟩, fun args H r H' h ρ w vs hR hv => ?_⟩
          cases args with
          | cons a l => cases h
          | nil =>
            simp only [specConst, Option.some.injEq, Prod.mk.injEq] at h
            obtain ⟨rfl, rfl⟩ := h
            refine (table_const N H ρ w vs hR hv).mono ?_
            rintro e w' ⟨v, ρ', r, K, ⟨rfl, rfl⟩, he, hv', hR', hF'⟩
            exact ⟨v, ρ', he, by rw [tTable_eq]; exact hv', hR', hF'⟩
      · rw [h2] at hk
        obtain rfl := Nat.eq_of_beq_eq_true h2
        simp only [cond_true, cond_false, Option.some.injEq] at hk
        subst hk
        exact ⟨⟨_, Tryz.func55, by kernel_rfl, by kernel_rfl⟩, fun args H r H' h ρ w vs hR hv => evFnD_ok tOK h hR hv⟩
    · rw [h1] at hk
      obtain rfl := Nat.eq_of_beq_eq_true h1
      simp only [cond_true, Option.some.injEq] at hk
      subst hk
      exact ⟨⟨_, Tryz.func51, by kernel_rfl, by kernel_rfl⟩, fun args H r H' h ρ w vs hR hv => specSorted_ok (P := Tryz.prog) (kt := 9) Tryz.underlying9 (fun Bm b nn D0 w => Tryz.sortedAt anyElem Bm b nn D0 w) h hR hv⟩
  ext := (FX_ok N).ext

theorem run11 : constOut (.bool true) (evCall tC tKnown FX.ext 0 100000 100 11 [] H0) = true := by kernel_rfl
theorem lives11 (N : Nat) (H : AH) : AC tC N 0 11 [] H fun r K => r = .bool true ∧ K = H := fun ρ w vs hR hv =>
  (specConst_ok (C := tC) tOK tCodes tKnownOK run11 (show specConst (.bool true) [] H = some (.bool true, H) from rfl) hR hv).mono fun e w' ⟨v, ρ', h1, h2, h3, h4⟩ => ⟨v, ρ', _, _, ⟨rfl, rfl⟩, h1, h2, h3, h4⟩

def nL : Nm := [108]
def tmpL : Nm := [116, 109, 112, 45, 108]
def fileN (g : Nat) : Nm := [108, 45, UInt8.ofNat (48 + g)]

theorem r35 : constR (.bool true) (evCall tC tKnown FX.ext 0 100000 100 35 [.str nL] H0) = true := by kernel_rfl
theorem r91 : constR (.tuple [.str (fileN 1), .int .i64 0]) (evCall tC tKnown FX.ext 0 100000 100 9 [.str nL, .int .i64 1] H0) = true := by kernel_rfl
theorem r92 : constR (.tuple [.str (fileN 2), .int .i64 0]) (evCall tC tKnown FX.ext 0 100000 100 9 [.str nL, .int .i64 2] H0) = true := by kernel_rfl
theorem r93 : constR (.tuple [.str (fileN 3), .int .i64 0]) (evCall tC tKnown FX.ext 0 100000 100 9 [.str nL, .int .i64 3] H0) = true := by kernel_rfl
theorem r80 : constR (.tuple [.int .i64 0, .bool false]) (evCall tC tKnown FX.ext 0 100000 100 8 [.str nL, .str tmpL] H0) = true := by kernel_rfl
theorem r81 : constR (.tuple [.int .i64 1, .bool true]) (evCall tC tKnown FX.ext 0 100000 100 8 [.str nL, .str (fileN 1)] H0) = true := by kernel_rfl
theorem r82 : constR (.tuple [.int .i64 2, .bool true]) (evCall tC tKnown FX.ext 0 100000 100 8 [.str nL, .str (fileN 2)] H0) = true := by kernel_rfl
theorem r83 : constR (.tuple [.int .i64 3, .bool true]) (evCall tC tKnown FX.ext 0 100000 100 8 [.str nL, .str (fileN 3)] H0) = true := by kernel_rfl

theorem right35 (N : Nat) (H : AH) : AC tC N 0 35 [.str nL] H fun r K => r = .bool true ∧ K = H := const_args tOK tCodes tKnownOK r35 rfl N 0 H
/-- Generations that come up. -/
def Gen (g : Nat) : Prop := g = 1 ∨ g = 2 ∨ g = 3
theorem file9 (N : Nat) (H : AH) {g : Nat} (hg : Gen g) : AC tC N 0 9 [.str nL, .int .i64 (g : Nat)] H fun r K => r = .tuple [.str (fileN g), .int .i64 0] ∧ K = H := by
  rcases hg with rfl | rfl | rfl
  · exact const_args tOK tCodes tKnownOK r91 rfl N 0 H
  · exact const_args tOK tCodes tKnownOK r92 rfl N 0 H
  · exact const_args tOK tCodes tKnownOK r93 rfl N 0 H
/-- Names that come up, their generation. -/
def genOf (s : Nm) : Nat := if s = fileN 1 then 1 else if s = fileN 2 then 2 else if s = fileN 3 then 3 else 0
def LName (s : Nm) : Prop := s = tmpL ∨ s = fileN 1 ∨ s = fileN 2 ∨ s = fileN 3
theorem of8 (N : Nat) (H : AH) {s : Nm} (hs : LName s) : AC tC N 0 8 [.str nL, .str s] H fun r K => r = .tuple [.int .i64 (genOf s : Nat), .bool (decide (genOf s ≠ 0))] ∧ K = H := by
  rcases hs with rfl | rfl | rfl | rfl
  · exact const_args tOK tCodes tKnownOK r80 rfl N 0 H
  · exact const_args tOK tCodes tKnownOK r81 rfl N 0 H
  · exact const_args tOK tCodes tKnownOK r82 rfl N 0 H
  · exact const_args tOK tCodes tKnownOK r83 rfl N 0 H
end Go.Proofs.YtgihociajfgohaaGreatDoor

open Go Go.AB Go.Proofs
namespace Go.Proofs.YtgihociajfgohaaGreatDoor

theorem setN_len (E : Ents) (k : Nm) (f : Nat) : (setN E k f).length ≤ E.length + 1 := by
  induction E with
  | nil => simp [setN]
  | cons p E ih =>
    simp only [setN]
    split
    · simp
    · simp; omega
theorem delN_len (E : Ents) (k : Nm) : (delN E k).length ≤ E.length := by
  induction E with
  | nil => simp [delN]
  | cons p E ih =>
    simp only [delN]
    split
    · simp
    · simp; omega
theorem delN_mem {E : Ents} {k : Nm} {p : Nm × Nat} (h : p ∈ delN E k) : p ∈ E := by
  induction E with
  | nil => simp [delN] at h
  | cons q E ih =>
    simp only [delN] at h
    split at h
    · exact List.mem_cons_of_mem _ h
    · rcases List.mem_cons.1 h with h | h
      · exact h ▸ List.mem_cons_self
      · exact List.mem_cons_of_mem _ (ih h)

/-- A note whose entries fit. -/
def Note.fits (P : Nm × Nat → Prop) : Note → Prop
  | .make n i => P (n, i)
  | .ren _ b => ∀ n i, P (n, i) → P (b, i)
  | .rem _ => True

theorem Note.do_fits {P : Nm × Nat → Prop} {nt : Note} (h : nt.fits P) {E : Ents} (hE : ∀ p ∈ E, P p) : ∀ p ∈ nt.do E, P p := by
  intro p hp
  cases nt with
  | make n i =>
    rcases setN_mem hp with rfl | hp
    · exact h
    · exact hE p hp
  | rem n => exact hE p (delN_mem hp)
  | ren a b =>
    simp only [Note.do] at hp
    cases hg : getN E a with
    | none => rw [hg] at hp; exact hE p hp
    | some f =>
      rw [hg] at hp
      rcases setN_mem (delN_mem hp) with rfl | hp
      · exact h _ _ (hE _ (getN_mem hg))
      · exact hE p hp
theorem Note.do_len (nt : Note) (E : Ents) : (nt.do E).length ≤ E.length + 1 := by
  cases nt with
  | make n i => exact setN_len _ _ _
  | rem n => have := delN_len E n; simp only [Note.do]; omega
  | ren a b =>
    simp only [Note.do]
    cases getN E a with
    | none => simp
    | some f => exact Nat.le_trans (delN_len _ _) (setN_len _ _ _)

theorem doAll_fits {P : Nm × Nat → Prop} : ∀ {l : List Note} {E : Ents}, (∀ nt ∈ l, nt.fits P) → (∀ p ∈ E, P p) → ∀ p ∈ doAll l E, P p
  | [], _, _, hE => hE
  | nt :: l, E, hl, hE => doAll_fits (l := l) (E := nt.do E) (fun x hx => hl x (List.mem_cons_of_mem _ hx)) (Note.do_fits (hl nt List.mem_cons_self) hE)
theorem doAll_len : ∀ (l : List Note) (E : Ents), (doAll l E).length ≤ E.length + l.length
  | [], E => Nat.le_refl _
  | nt :: l, E => by
    have h1 := doAll_len l (nt.do E)
    have h2 := Note.do_len nt E
    show (doAll l (nt.do E)).length ≤ _
    simp only [List.length_cons]; omega

theorem DM.kept_refs {M : DM} (ok : M.OK) (ch : Int) : ∀ p ∈ (M.kept ch).sf, p.2 < M.files.length :=
  doAll_fits (P := fun p => p.2 < M.files.length) (fun nt hn => by
    have hn := List.mem_of_mem_take hn
    cases nt with
    | make n i => exact ok.notes n i hn
    | ren a b => exact fun n i h => h
    | rem n => trivial) ok.sf

/-- Names are short. -/
def Note.short (B : Nat) : Note → Prop
  | .make n _ => n.length ≤ B
  | .ren _ b => b.length ≤ B
  | .rem _ => True
def DM.Short (M : DM) (B : Nat) : Prop := (∀ p ∈ M.sf, p.1.length ≤ B) ∧ ∀ nt ∈ M.notes, nt.short B
theorem DM.kept_short {M : DM} {B : Nat} (h : M.Short B) (ch : Int) : ∀ p ∈ (M.kept ch).sf, p.1.length ≤ B :=
  doAll_fits (P := fun p => p.1.length ≤ B) (fun nt hn => by
    have hn := h.2 nt (List.mem_of_mem_take hn)
    cases nt with
    | make n i => exact hn
    | ren a b => exact fun n i _ => hn
    | rem n => trivial) h.1
theorem DM.kept_len (M : DM) (ch : Int) : (M.kept ch).sf.length ≤ M.sf.length + M.notes.length := by
  have := doAll_len (M.notes.take ((max 0 ch).toNat % (M.notes.length + 1))) M.sf
  have h2 : (M.notes.take ((max 0 ch).toNat % (M.notes.length + 1))).length ≤ M.notes.length := by rw [List.length_take]; omega
  show (doAll _ _).length ≤ _
  omega

theorem files_le {M : DM} {L : Nat} (hfl : ∀ (i : Nat) p, M.files[i]? = some p → p.1.length ≤ L) (i : Nat) : (M.file i).1.length ≤ L := by
  unfold DM.file
  cases h : M.files[i]? with
  | none => simp
  | some p => exact hfl i p h
theorem nameOK_len {s : Nm} (h : nameOK s = true) : s.length ≤ 24 := by
  simp only [nameOK, Bool.and_eq_true, decide_eq_true_eq] at h
  exact h.1.2
theorem err_ok {M : DM} {ok : Bool} (h : M.err ok = 0) : ok = true := by
  cases ok with
  | true => rfl
  | false => simp [DM.err, opM] at h

/-- Bounds of a disk behind i calls. -/
structure MB (M : DM) (i : Nat) : Prop where
  ok : M.OK
  room : M.room = 1048576
  keys : ∀ p ∈ M.now, p.1.length ≤ 24
  ents : M.now.length ≤ i
  notes : M.notes.length ≤ i
  files : ∀ (j : Nat) p, M.files[j]? = some p → p.1.length ≤ 20000 * i

theorem MB.mono {M : DM} {i j : Nat} (h : MB M i) (hij : i ≤ j) : MB M j := ⟨h.ok, h.room, h.keys, Nat.le_trans h.ents hij, Nat.le_trans h.notes hij, fun k p hp => Nat.le_trans (h.files k p hp) (Nat.mul_le_mul_left _ hij)⟩
theorem MB.op {M : DM} {i : Nat} (h : MB M i) (b : Bool) : MB (M.op b) i := ⟨h.ok.op b, h.room, h.keys, h.ents, h.notes, h.files⟩

theorem lenSum_le {g : Nm → Nat} {B : Nat} (h : ∀ k, g k ≤ B) : ∀ l : List Nm, lenSum g l ≤ l.length * B
  | [] => by simp [lenSum]
  | a :: l => by
    have ih := lenSum_le h l
    have := h a
    simp only [lenSum, List.map_cons, List.sum_cons, List.length_cons, Nat.succ_mul] at ih ⊢
    omega
theorem MB.used {M : DM} {i : Nat} (h : MB M i) : M.used ≤ i * (20000 * i) := by
  have h1 := lenSum_le (g := M.lenOf) (B := 20000 * i) (fun k => by
    unfold DM.lenOf
    split
    · exact files_le h.files _
    · omega) (M.now.map (·.1))
  rw [List.length_map] at h1
  exact Nat.le_trans h1 (Nat.mul_le_mul_right _ h.ents)

/-- One more file. -/
theorem OK_file {M : DM} (h : M.OK) {E : Ents} {l : List Note} {fs : List (Nm × Nat)} {n : Nat} (hn : M.files.length ≤ n) (hfs : fs.length = n) (hE : ∀ p ∈ E, p.2 < n) (hl : ∀ m i, Note.make m i ∈ l → i < n)
    (hs : ∀ (i : Nat) p, fs[i]? = some p → p.2 ≤ p.1.length) : ({ M with now := E, notes := l, files := fs } : DM).OK :=
  ⟨fun p hp => by rw [hfs]; exact hE p hp, fun p hp => by rw [hfs]; exact Nat.lt_of_lt_of_le (h.sf p hp) hn, fun m i hi => by rw [hfs]; exact hl m i hi, h.f1, h.f2, hs⟩

theorem MB.make {M : DM} {i : Nat} (h : MB M i) (n : Nm) : MB (M.make n).2 (i + 1) := by
  unfold DM.make
  split
  · exact (h.op _).mono (by omega)
  · rename_i he
    split
    · exact (h.op _).mono (by omega)
    · have hn := err_ok (Decidable.not_not.1 he)
      refine ⟨OK_file (h.ok.op _) (n := M.files.length + 1) (by show M.files.length ≤ _; omega) (by simp) (fun p hp => ?_) (fun m j hj => ?_) (fun j p hp => ?_), h.room, fun p hp => ?_, ?_, ?_, fun j p hp => ?_⟩
      · rcases setN_mem hp with rfl | hp
        · simp
        · have := h.ok.now p hp; omega
      · rcases List.mem_append.1 hj with hj | hj
        · have := h.ok.notes m j hj; omega
        · simp at hj; omega
      · rcases Nat.lt_or_ge j M.files.length with hlt | hge
        · rw [List.getElem?_append_left hlt] at hp; exact h.ok.safe j p hp
        · rw [List.getElem?_append_right hge] at hp
          have := List.mem_of_getElem? hp
          simp at this; subst this; simp
      · rcases setN_mem hp with rfl | hp
        · exact nameOK_len hn
        · exact h.keys p hp
      · exact Nat.le_trans (setN_len _ _ _) (by have := h.ents; omega)
      · simp; exact h.notes
      · show p.1.length ≤ _
        rcases Nat.lt_or_ge j M.files.length with hlt | hge
        · have hp' : (M.files ++ [(([] : Nm), 0)])[j]? = some p := hp
          rw [List.getElem?_append_left hlt] at hp'
          have := h.files j p hp'; omega
        · have hp' : (M.files ++ [(([] : Nm), 0)])[j]? = some p := hp
          rw [List.getElem?_append_right hge] at hp'
          have := List.mem_of_getElem? hp'
          simp at this; subst this; simp

/-- A file's bytes and what is safe of them are told anew. -/
theorem MB.set {M : DM} {i j L : Nat} (h : MB M i) {k : Nat} {b : Nm} {s : Nat} (hs : s ≤ b.length) (hb : b.length ≤ 20000 * j) (hij : i ≤ j) (ok : Bool) : MB { M.op ok with files := M.files.set k (b, s) } j := by
  refine ⟨⟨fun p hp => ?_, fun p hp => ?_, fun m q hq => ?_, (h.ok.op ok).f1, (h.ok.op ok).f2, fun q p hp => ?_⟩, h.room, h.keys, Nat.le_trans h.ents hij, Nat.le_trans h.notes hij, fun q p hp => ?_⟩
  · show p.2 < (M.files.set k (b, s)).length
    rw [List.length_set]; exact h.ok.now p hp
  · show p.2 < (M.files.set k (b, s)).length
    rw [List.length_set]; exact h.ok.sf p hp
  · show q < (M.files.set k (b, s)).length
    rw [List.length_set]; exact h.ok.notes m q hq
  · have hp' : (M.files.set k (b, s))[q]? = some p := hp
    rw [List.getElem?_set] at hp'
    split at hp'
    · split at hp'
      · cases hp'; exact hs
      · cases hp'
    · exact h.ok.safe q p hp'
  · have hp' : (M.files.set k (b, s))[q]? = some p := hp
    rw [List.getElem?_set] at hp'
    split at hp'
    · split at hp'
      · cases hp'; exact hb
      · cases hp'
    · exact Nat.le_trans (h.files q p hp') (Nat.mul_le_mul_left _ hij)

theorem file_safe {M : DM} (h : M.OK) (i : Nat) : (M.file i).2 ≤ (M.file i).1.length := by
  unfold DM.file
  cases hf : M.files[i]? with
  | none => simp
  | some p => exact h.safe i p hf

theorem MB.append {M : DM} {i : Nat} (h : MB M i) (n : Nm) {b : Nm} (hb : b.length ≤ 20000) : MB (M.append n b).2 (i + 1) := by
  unfold DM.append
  split
  · exact (h.op _).mono (by omega)
  · split
    · exact (h.op _).mono (by omega)
    · rename_i k hk
      split
      · exact (h.op _).mono (by omega)
      · have h1 := file_safe h.ok k
        have h2 := files_le h.files k
        exact h.set (L := 0) (by simp; omega) (by simp; omega) (by omega) _
theorem MB.sync {M : DM} {i : Nat} (h : MB M i) (n : Nm) : MB (M.sync n).2 (i + 1) := by
  unfold DM.sync
  split
  · exact (h.op _).mono (by omega)
  · split
    · exact (h.op _).mono (by omega)
    · rename_i k hk
      have h2 := files_le h.files k
      exact h.set (L := 0) (Nat.le_refl _) (by omega) (by omega) _
theorem MB.syncNames {M : DM} {i : Nat} (h : MB M i) : MB M.syncNames.2 (i + 1) := by
  unfold DM.syncNames
  split
  · exact (h.op _).mono (by omega)
  · have hk := (h.ok.op true)
    refine ⟨⟨hk.now, fun p hp => ?_, fun m q hq => by simp [DM.keep] at hq, hk.f1, hk.f2, hk.safe⟩, h.room, h.keys, by have := h.ents; show M.now.length ≤ _; omega, by simp [DM.keep], fun j p hp => by have := h.files j p hp; omega⟩
    refine doAll_fits (P := fun p => p.2 < M.files.length) (fun nt hn => ?_) hk.sf p hp
    have hn := List.mem_of_mem_take hn
    cases nt with
    | make n i => exact hk.notes n i hn
    | ren a b => exact fun n i h => h
    | rem n => trivial
theorem MB.noted {M : DM} {i : Nat} (h : MB M i) {nt : Note} (h1 : nt.fits fun p => p.2 < M.files.length) (h2 : nt.fits fun p => p.1.length ≤ 24) (h3 : (nt.do M.now).length ≤ i + 1) (hm : ∀ m j, nt = .make m j → j < M.files.length) (ok : Bool) :
    MB { M.op ok with now := nt.do M.now, notes := M.notes ++ [nt] } (i + 1) := by
  have hk := h.ok.op ok
  refine ⟨⟨Note.do_fits h1 h.ok.now, h.ok.sf, fun m j hj => ?_, hk.f1, hk.f2, h.ok.safe⟩, h.room, Note.do_fits h2 h.keys, h3, by simp; exact h.notes, fun j p hp => by have := h.files j p hp; omega⟩
  rcases List.mem_append.1 hj with hj | hj
  · exact h.ok.notes m j hj
  · simp at hj; exact hm m j hj.symm
theorem MB.remove {M : DM} {i : Nat} (h : MB M i) (n : Nm) : MB (M.remove n).2 (i + 1) := by
  unfold DM.remove
  split
  · exact (h.op _).mono (by omega)
  · split
    · exact (h.op _).mono (by omega)
    · exact h.noted (nt := .rem n) trivial trivial (by have := delN_len M.now n; have := h.ents; show (delN M.now n).length ≤ _; omega) (fun m j e => by cases e) _
theorem MB.rename {M : DM} {i : Nat} (h : MB M i) (n n' : Nm) : MB (M.rename n n').2 (i + 1) := by
  unfold DM.rename
  split
  · exact (h.op _).mono (by omega)
  · rename_i he
    split
    · exact (h.op _).mono (by omega)
    · split
      · exact (h.op _).mono (by omega)
      · have hn := err_ok (Decidable.not_not.1 he)
        rw [Bool.and_eq_true] at hn
        exact h.noted (nt := .ren n n') (fun _ _ h => h) (fun _ _ _ => nameOK_len hn.2) (Nat.le_trans (Note.do_len _ _) (by have := h.ents; omega)) (fun m j e => by cases e) _

end Go.Proofs.YtgihociajfgohaaGreatDoor
