/- Log: the functions that the evaluator takes as known, at this program: sorted keys, a map's clone, a disk's use, the table of sums; lives() as a constant; no condition. -/
import Derived.Test.YtgihociajfgohaaGreatDoorKeys
import Derived.Test.YtgihociajfgohaaGreatDoorTable
import Derived.Laws.Externs
namespace Go.Proofs
open Go.RowKit Go.Maps Go.Sort Go.Shelf

theorem Tryz.sorts51 (m : Nat) : AnyZ.SortsIn Tryz.prog Tryz.sorted51_ren Fence.wide m :=
  ⟨fun blk off cap ss W hH hblk hsz => callsIn_wide.2 (AnyM.slices_Sort_string Tryz.sort82 blk off cap ss W hH hblk hsz),
   fun p cap W => callsIn_wide.2 (AnyM.slices_Sort_string_none Tryz.sort82 p cap W)⟩

set_option maxHeartbeats 1000000 in
theorem Tryz.sortedAt {H : Type} (R : Value → Option (DataW H × List MemPlace)) (Bm b nn : Nat) (D0 : DataW H) (w : World) (hBm : Bm < w.heap.size) (hm : w.cell? ⟨Bm, 0, none⟩ = some (.map (some b))) (hown : w.ownsMap Tryz.prog 9 R b nn D0) (hmax : Maps.size D0 ≤ maxLen) (hbytes : Maps.size D0 * 16 ≤ 140737488355328) :
    Calls Tryz.prog 51 #[.func (.func 83) #[] #[.pointer (some ⟨Bm, 0, none⟩)]] w fun e w' => ∃ (v : Value) (ss : List (List UInt8)), e = .returned v ∧ ss.Perm (strKeys D0) ∧
      w'.ownsRow w.heap.size 9 1 v ss.length ((ss.mergeSort (fun x y => decide (x ≤ y))).map encStr) ∧ (v = .slice none 0 0 ↔ ss = []) ∧ Below w.heap.size w w' := by
  have hseq : SeqGives Fence.wide 2 Tryz.prog 83 #[.pointer (some ⟨Bm, 0, none⟩)] encStr (fun ss => ss.Perm (strKeys D0)) (Maps.size D0) w :=
    AnyZ.keys_gives (ρ := Tryz.keys52_ren) { Tryz.keys52 with } Fence.wide _ trivial rfl (by omega) Bm b nn D0 w hBm hm hown
  exact (callsIn_wide (n := 5)).1 (AnyZ.sorted_in Tryz.sorted51 Fence.wide 5 trivial trivial trivial trivial rfl (by omega) (Tryz.sorts51 _) (enters_of Tryz.func82 (by kernel_rfl) rfl) 83 #[.pointer (some ⟨Bm, 0, none⟩)] trivial (enters_of Tryz.func83 (by kernel_rfl) rfl) _ _ hmax hbytes w hseq)

end Go.Proofs

open Go Go.AB Go.Proofs
namespace Go.Proofs.YtgihociajfgohaaGreatDoor
set_option linter.unusedSimpArgs false
set_option linter.unusedVariables false

def tTable : AV := .agg [
  .int .u32 (.ofNat 0), .int .u32 (.ofNat 4067132163), .int .u32 (.ofNat 3778769143), .int .u32 (.ofNat 324072436), .int .u32 (.ofNat 3348797215), .int .u32 (.ofNat 904991772), .int .u32 (.ofNat 648144872), .int .u32 (.ofNat 3570033899),
  .int .u32 (.ofNat 2329499855), .int .u32 (.ofNat 2024987596), .int .u32 (.ofNat 1809983544), .int .u32 (.ofNat 2575936315), .int .u32 (.ofNat 1296289744), .int .u32 (.ofNat 3207089363), .int .u32 (.ofNat 2893594407), .int .u32 (.ofNat 1578318884),
  .int .u32 (.ofNat 274646895), .int .u32 (.ofNat 3795141740), .int .u32 (.ofNat 4049975192), .int .u32 (.ofNat 51262619), .int .u32 (.ofNat 3619967088), .int .u32 (.ofNat 632279923), .int .u32 (.ofNat 922689671), .int .u32 (.ofNat 3298075524),
  .int .u32 (.ofNat 2592579488), .int .u32 (.ofNat 1760304291), .int .u32 (.ofNat 2075979607), .int .u32 (.ofNat 2312596564), .int .u32 (.ofNat 1562183871), .int .u32 (.ofNat 2943781820), .int .u32 (.ofNat 3156637768), .int .u32 (.ofNat 1313733451),
  .int .u32 (.ofNat 549293790), .int .u32 (.ofNat 3537243613), .int .u32 (.ofNat 3246849577), .int .u32 (.ofNat 871202090), .int .u32 (.ofNat 3878099393), .int .u32 (.ofNat 357341890), .int .u32 (.ofNat 102525238), .int .u32 (.ofNat 4101499445),
  .int .u32 (.ofNat 2858735121), .int .u32 (.ofNat 1477399826), .int .u32 (.ofNat 1264559846), .int .u32 (.ofNat 3107202533), .int .u32 (.ofNat 1845379342), .int .u32 (.ofNat 2677391885), .int .u32 (.ofNat 2361733625), .int .u32 (.ofNat 2125378298),
  .int .u32 (.ofNat 820201905), .int .u32 (.ofNat 3263744690), .int .u32 (.ofNat 3520608582), .int .u32 (.ofNat 598981189), .int .u32 (.ofNat 4151959214), .int .u32 (.ofNat 85089709), .int .u32 (.ofNat 373468761), .int .u32 (.ofNat 3827903834),
  .int .u32 (.ofNat 3124367742), .int .u32 (.ofNat 1213305469), .int .u32 (.ofNat 1526817161), .int .u32 (.ofNat 2842354314), .int .u32 (.ofNat 2107672161), .int .u32 (.ofNat 2412447074), .int .u32 (.ofNat 2627466902), .int .u32 (.ofNat 1861252501),
  .int .u32 (.ofNat 1098587580), .int .u32 (.ofNat 3004210879), .int .u32 (.ofNat 2688576843), .int .u32 (.ofNat 1378610760), .int .u32 (.ofNat 2262928035), .int .u32 (.ofNat 1955203488), .int .u32 (.ofNat 1742404180), .int .u32 (.ofNat 2511436119),
  .int .u32 (.ofNat 3416409459), .int .u32 (.ofNat 969524848), .int .u32 (.ofNat 714683780), .int .u32 (.ofNat 3639785095), .int .u32 (.ofNat 205050476), .int .u32 (.ofNat 4266873199), .int .u32 (.ofNat 3976438427), .int .u32 (.ofNat 526918040),
  .int .u32 (.ofNat 1361435347), .int .u32 (.ofNat 2739821008), .int .u32 (.ofNat 2954799652), .int .u32 (.ofNat 1114974503), .int .u32 (.ofNat 2529119692), .int .u32 (.ofNat 1691668175), .int .u32 (.ofNat 2005155131), .int .u32 (.ofNat 2247081528),
  .int .u32 (.ofNat 3690758684), .int .u32 (.ofNat 697762079), .int .u32 (.ofNat 986182379), .int .u32 (.ofNat 3366744552), .int .u32 (.ofNat 476452099), .int .u32 (.ofNat 3993867776), .int .u32 (.ofNat 4250756596), .int .u32 (.ofNat 255256311),
  .int .u32 (.ofNat 1640403810), .int .u32 (.ofNat 2477592673), .int .u32 (.ofNat 2164122517), .int .u32 (.ofNat 1922457750), .int .u32 (.ofNat 2791048317), .int .u32 (.ofNat 1412925310), .int .u32 (.ofNat 1197962378), .int .u32 (.ofNat 3037525897),
  .int .u32 (.ofNat 3944729517), .int .u32 (.ofNat 427051182), .int .u32 (.ofNat 170179418), .int .u32 (.ofNat 4165941337), .int .u32 (.ofNat 746937522), .int .u32 (.ofNat 3740196785), .int .u32 (.ofNat 3451792453), .int .u32 (.ofNat 1070968646),
  .int .u32 (.ofNat 1905808397), .int .u32 (.ofNat 2213795598), .int .u32 (.ofNat 2426610938), .int .u32 (.ofNat 1657317369), .int .u32 (.ofNat 3053634322), .int .u32 (.ofNat 1147748369), .int .u32 (.ofNat 1463399397), .int .u32 (.ofNat 2773627110),
  .int .u32 (.ofNat 4215344322), .int .u32 (.ofNat 153784257), .int .u32 (.ofNat 444234805), .int .u32 (.ofNat 3893493558), .int .u32 (.ofNat 1021025245), .int .u32 (.ofNat 3467647198), .int .u32 (.ofNat 3722505002), .int .u32 (.ofNat 797665321),
  .int .u32 (.ofNat 2197175160), .int .u32 (.ofNat 1889384571), .int .u32 (.ofNat 1674398607), .int .u32 (.ofNat 2443626636), .int .u32 (.ofNat 1164749927), .int .u32 (.ofNat 3070701412), .int .u32 (.ofNat 2757221520), .int .u32 (.ofNat 1446797203),
  .int .u32 (.ofNat 137323447), .int .u32 (.ofNat 4198817972), .int .u32 (.ofNat 3910406976), .int .u32 (.ofNat 461344835), .int .u32 (.ofNat 3484808360), .int .u32 (.ofNat 1037989803), .int .u32 (.ofNat 781091935), .int .u32 (.ofNat 3705997148),
  .int .u32 (.ofNat 2460548119), .int .u32 (.ofNat 1623424788), .int .u32 (.ofNat 1939049696), .int .u32 (.ofNat 2180517859), .int .u32 (.ofNat 1429367560), .int .u32 (.ofNat 2807687179), .int .u32 (.ofNat 3020495871), .int .u32 (.ofNat 1180866812),
  .int .u32 (.ofNat 410100952), .int .u32 (.ofNat 3927582683), .int .u32 (.ofNat 4182430767), .int .u32 (.ofNat 186734380), .int .u32 (.ofNat 3756733383), .int .u32 (.ofNat 763408580), .int .u32 (.ofNat 1053836080), .int .u32 (.ofNat 3434856499),
  .int .u32 (.ofNat 2722870694), .int .u32 (.ofNat 1344288421), .int .u32 (.ofNat 1131464017), .int .u32 (.ofNat 2971354706), .int .u32 (.ofNat 1708204729), .int .u32 (.ofNat 2545590714), .int .u32 (.ofNat 2229949006), .int .u32 (.ofNat 1988219213),
  .int .u32 (.ofNat 680717673), .int .u32 (.ofNat 3673779818), .int .u32 (.ofNat 3383336350), .int .u32 (.ofNat 1002577565), .int .u32 (.ofNat 4010310262), .int .u32 (.ofNat 493091189), .int .u32 (.ofNat 238226049), .int .u32 (.ofNat 4233660802),
  .int .u32 (.ofNat 2987750089), .int .u32 (.ofNat 1082061258), .int .u32 (.ofNat 1395524158), .int .u32 (.ofNat 2705686845), .int .u32 (.ofNat 1972364758), .int .u32 (.ofNat 2279892693), .int .u32 (.ofNat 2494862625), .int .u32 (.ofNat 1725896226),
  .int .u32 (.ofNat 952904198), .int .u32 (.ofNat 3399985413), .int .u32 (.ofNat 3656866545), .int .u32 (.ofNat 731699698), .int .u32 (.ofNat 4283874585), .int .u32 (.ofNat 222117402), .int .u32 (.ofNat 510512622), .int .u32 (.ofNat 3959836397),
  .int .u32 (.ofNat 3280807620), .int .u32 (.ofNat 837199303), .int .u32 (.ofNat 582374963), .int .u32 (.ofNat 3504198960), .int .u32 (.ofNat 68661723), .int .u32 (.ofNat 4135334616), .int .u32 (.ofNat 3844915500), .int .u32 (.ofNat 390545967),
  .int .u32 (.ofNat 1230274059), .int .u32 (.ofNat 3141532936), .int .u32 (.ofNat 2825850620), .int .u32 (.ofNat 1510247935), .int .u32 (.ofNat 2395924756), .int .u32 (.ofNat 2091215383), .int .u32 (.ofNat 1878366691), .int .u32 (.ofNat 2644384480),
  .int .u32 (.ofNat 3553878443), .int .u32 (.ofNat 565732008), .int .u32 (.ofNat 854102364), .int .u32 (.ofNat 3229815391), .int .u32 (.ofNat 340358836), .int .u32 (.ofNat 3861050807), .int .u32 (.ofNat 4117890627), .int .u32 (.ofNat 119113024),
  .int .u32 (.ofNat 1493875044), .int .u32 (.ofNat 2875275879), .int .u32 (.ofNat 3090270611), .int .u32 (.ofNat 1247431312), .int .u32 (.ofNat 2660249211), .int .u32 (.ofNat 1828433272), .int .u32 (.ofNat 2141937292), .int .u32 (.ofNat 2378227087),
  .int .u32 (.ofNat 3811616794), .int .u32 (.ofNat 291187481), .int .u32 (.ofNat 34330861), .int .u32 (.ofNat 4032846830), .int .u32 (.ofNat 615137029), .int .u32 (.ofNat 3603020806), .int .u32 (.ofNat 3314634738), .int .u32 (.ofNat 939183345),
  .int .u32 (.ofNat 1776939221), .int .u32 (.ofNat 2609017814), .int .u32 (.ofNat 2295496738), .int .u32 (.ofNat 2058945313), .int .u32 (.ofNat 2926798794), .int .u32 (.ofNat 1545135305), .int .u32 (.ofNat 1330124605), .int .u32 (.ofNat 3173225534),
  .int .u32 (.ofNat 4084100981), .int .u32 (.ofNat 17165430), .int .u32 (.ofNat 307568514), .int .u32 (.ofNat 3762199681), .int .u32 (.ofNat 888469610), .int .u32 (.ofNat 3332340585), .int .u32 (.ofNat 3587147933), .int .u32 (.ofNat 665062302),
  .int .u32 (.ofNat 2042050490), .int .u32 (.ofNat 2346497209), .int .u32 (.ofNat 2559330125), .int .u32 (.ofNat 1793573966), .int .u32 (.ofNat 3190661285), .int .u32 (.ofNat 1279665062), .int .u32 (.ofNat 1595330642), .int .u32 (.ofNat 2910671697)]


theorem tTable_eq : tTable = .agg ((List.range 256).map tabAV) := by kernel_rfl
noncomputable def tKnown (f : FuncId) : Option (List AV → AH → Option (AV × AH)) :=
  bif Nat.beq f 51 then some (specSorted 83) else bif Nat.beq f 55 then some (evFnD tC 0 1000 55) else bif Nat.beq f 98 then some (specConst tTable) else none
def tExt (f : FuncId) (args : List AV) (H : AH) : Option (AV × AH) := bif Nat.beq f 84 then specClone args H else none

theorem run_clone (t : TypeId) (b : Nat) (es : Array MapEntry) (clock : Nat) (w : World) (hb : w.heap[b]? = some (.map es clock)) :
    (callFunc 84 #[.iface t (.map (some b))]).run Tryz.prog w = .ok (.value (.iface t (.map (some w.heap.size)))) (w.alloc (.map es clock)) := by
  rw [run_callFunc_extern Tryz.func84 (by kernel_rfl) (by kernel_rfl) (by kernel_rfl) (e := Extern.MapsClone.clone) (by kernel_rfl)]
  have : (Extern.MapsClone.clone #[.iface t (.map (some b))]).run Tryz.prog w = .ok (.iface t (.map (some w.heap.size))) (w.alloc (.map es clock)) := by
    obtain ⟨k, e, hk⟩ : ∃ k : Obj → Sem Value, Extern.MapsClone.clone #[.iface t (.map (some b))] = (getObj b >>= k) ∧ k (.map es clock) = (newObj (.map es clock) >>= fun n => pure (.iface t (.map (some n)))) := ⟨_, rfl, rfl⟩
    rw [e]
    simp [MapKept.run_getObj_map hb, Result.andThen, go_sem, hk]
  rw [this]; rfl


theorem tKnownOK (N : Nat) : KnownOK tC N 0 tKnown tExt where
  call f k hk := by
    unfold tKnown at hk
    cases h1 : Nat.beq f 51
    · rw [h1] at hk
      cases h2 : Nat.beq f 55
      · rw [h2] at hk
        cases h3 : Nat.beq f 98
        · rw [h3] at hk; cases hk
        · rw [h3] at hk
          obtain rfl := Nat.eq_of_beq_eq_true h3
          simp only [cond_true, cond_false, Option.some.injEq] at hk
          subst hk
          refine ⟨⟨_, Tryz.func98, by kernel_rfl, by kernel_rfl⟩, fun args H r H' h ρ w vs hR hv => ?_⟩
          cases args with
          | cons a xs => cases h
          | nil =>
            simp only [specConst, Option.some.injEq, Prod.mk.injEq] at h
            obtain ⟨rfl, rfl⟩ := h
            rw [tTable_eq]
            exact (const_of (by rw [← tTable_eq]; kernel_rfl) (fun M => table98 M H0) N 0 H).known ρ w vs hR hv
      · rw [h2] at hk
        obtain rfl := Nat.eq_of_beq_eq_true h2
        simp only [cond_true, cond_false, Option.some.injEq] at hk
        subst hk
        exact ⟨⟨_, Tryz.func55, by kernel_rfl, by kernel_rfl⟩, fun args H r H' h ρ w vs hR hv => evFnD_ok tOK h hR hv⟩
    · rw [h1] at hk
      obtain rfl := Nat.eq_of_beq_eq_true h1
      simp only [cond_true, Option.some.injEq] at hk
      subst hk
      exact ⟨⟨_, Tryz.func51, by kernel_rfl, by kernel_rfl⟩, fun args H r H' h ρ w vs hR hv => specSorted_ok (P := Tryz.prog) (kt := 9) Tryz.underlying9 (fun Bm b nn D0 w => Tryz.sortedAt anyElem Bm b nn D0 w) h hR hv⟩
  ext f args H r H' h := by
    unfold tExt at h
    cases h1 : Nat.beq f 84
    · rw [h1] at h; cases h
    · rw [h1] at h
      obtain rfl := Nat.eq_of_beq_eq_true h1
      exact fun ρ w vs hR hv => specClone_ok (P := Tryz.prog) run_clone h hR hv

theorem run11 : constOut (.bool true) (evCall tC tKnown tExt 0 100000 100 11 [] H0) = true := by kernel_rfl

/-- The chapter's examples, from whatever memory. -/
theorem lives (N : Nat) (H : AH) : AC tC N 0 11 [] H fun r K => r = .bool true ∧ K = H := fun ρ w vs hR hv =>
  (specConst_ok tOK tCodes tKnownOK run11 (args := []) rfl hR hv).mono fun e w' ⟨v, ρ', he, h1, h2, h3⟩ => ⟨v, ρ', _, _, ⟨rfl, rfl⟩, he, h1, h2, h3⟩

noncomputable def tKnown2 (f : FuncId) : Option (List AV → AH → Option (AV × AH)) :=
  bif Nat.beq f 11 then some (specConst (.bool true)) else tKnown f

theorem tKnown2OK (N : Nat) : KnownOK tC N 0 tKnown2 tExt where
  call f k hk := by
    unfold tKnown2 at hk
    cases h1 : Nat.beq f 11
    · rw [h1] at hk; exact (tKnownOK N).call f k hk
    · rw [h1] at hk
      obtain rfl := Nat.eq_of_beq_eq_true h1
      simp only [cond_true, Option.some.injEq] at hk
      subst hk
      refine ⟨⟨_, Tryz.func11, by kernel_rfl, by kernel_rfl⟩, fun args H r H' h ρ w vs hR hv => ?_⟩
      exact specConst_ok tOK tCodes tKnownOK run11 h hR hv
  ext := (tKnownOK N).ext

end Go.Proofs.YtgihociajfgohaaGreatDoor
