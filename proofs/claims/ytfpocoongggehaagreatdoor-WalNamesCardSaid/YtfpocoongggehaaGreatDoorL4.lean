/- The machine with the library's hooks; sum.Make. -/
import Derived.Test.YtfpocoongggehaaGreatDoorL3
import Derived.Test.YtfpocoongggehaaGreatDoorB4
set_option linter.all false
namespace Go.Proofs.YtfpocoongggehaaGreatDoor
open Go Go.Abs

/-- The library's hooks; 'pu': strconv.ParseUint too. -/
def hk0 (pu : Bool) (n : Nat) : Option (List Value → Heap → Option (Value × Heap)) :=
  bif Nat.beq n 126 then some hkFormat else bif Nat.beq n 81 then some hkRepeat else bif Nat.beq n 84 then some hkJoin
  else bif Nat.beq n 112 then some (hkSorted 159) else bif pu && Nat.beq n 78 then some (hkParse 231) else none

noncomputable def EE0 (pu : Bool) : Env0 := { P := Tryz.prog, fn := fnOf, hook := hk0 pu }

theorem hkCase {n f : Nat} {a : List Value → Heap → Option (Value × Heap)} {b : Option (List Value → Heap → Option (Value × Heap))} {k : List Value → Heap → Option (Value × Heap)} {Q : Nat → (List Value → Heap → Option (Value × Heap)) → Prop}
    (h : (bif Nat.beq n f then some a else b) = some k) (ha : Q f a) (hb : b = some k → Q n k) : Q n k := by
  cases hh : Nat.beq n f with
  | false => rw [hh] at h; exact hb h
  | true =>
    rw [hh] at h
    cases h
    rw [Nat.eq_of_beq_eq_true hh]; exact ha

theorem plain_of {f : Nat} {fn : Func} (h : Tryz.prog.funcs[f]? = some fn) (hb : fn.body.isSome = true) (hn : (fn.name == "runtime.NumGoroutine") = false) : Plain Tryz.prog f := ⟨fn, h, hb, hn⟩

section
variable [Fixed]

theorem envOk0 (pu : Bool) (hL : Laid0) (hM : pu = true → Laid1) : EnvOk (EE0 pu) where
  fn f l h := fnOf_ok f l h
  mixed := by kernel_rfl
  hook := by
    intro f h hk
    have hk : hk0 pu f = some h := hk
    refine hkCase (Q := fun f h => Plain Tryz.prog f ∧ ∀ args H r H', h args H = some (r, H') → ∀ σ w args', R σ H w → LRel σ args args' → CallOk Tryz.prog f args' σ H w r H') hk
      ⟨plain_of Tryz.func126 (by kernel_rfl) (by kernel_rfl), fun _ _ _ _ h _ _ _ hR ha => ok_format hL h hR ha⟩ fun hk => ?_
    refine hkCase (Q := fun f h => Plain Tryz.prog f ∧ ∀ args H r H', h args H = some (r, H') → ∀ σ w args', R σ H w → LRel σ args args' → CallOk Tryz.prog f args' σ H w r H') hk
      ⟨plain_of Tryz.func81 (by kernel_rfl) (by kernel_rfl), fun _ _ _ _ h _ _ _ hR ha => ok_repeat h hR ha⟩ fun hk => ?_
    refine hkCase (Q := fun f h => Plain Tryz.prog f ∧ ∀ args H r H', h args H = some (r, H') → ∀ σ w args', R σ H w → LRel σ args args' → CallOk Tryz.prog f args' σ H w r H') hk
      ⟨plain_of Tryz.func84 (by kernel_rfl) (by kernel_rfl), fun _ _ _ _ h _ _ _ hR ha => ok_join h hR ha⟩ fun hk => ?_
    refine hkCase (Q := fun f h => Plain Tryz.prog f ∧ ∀ args H r H', h args H = some (r, H') → ∀ σ w args', R σ H w → LRel σ args args' → CallOk Tryz.prog f args' σ H w r H') hk
      ⟨plain_of Tryz.func112 (by kernel_rfl) (by kernel_rfl), fun _ _ _ _ h _ _ _ hR ha => ok_sorted h hR ha⟩ fun hk => ?_
    cases pu with
    | false => simp at hk
    | true =>
      rw [Bool.true_and] at hk
      refine hkCase (Q := fun f h => Plain Tryz.prog f ∧ ∀ args H r H', h args H = some (r, H') → ∀ σ w args', R σ H w → LRel σ args args' → CallOk Tryz.prog f args' σ H w r H') hk
        ⟨plain_of Tryz.func78 (by kernel_rfl) (by kernel_rfl), fun _ _ _ _ h _ _ _ hR ha => ok_parse (hM rfl) h hR ha⟩ fun hk => (by cases hk)

end

/-- The table of the sums. -/
def TBL : Value := .agg ⟨[.int .u32 0, .int .u32 4067132163, .int .u32 3778769143, .int .u32 324072436, .int .u32 3348797215, .int .u32 904991772, .int .u32 648144872, .int .u32 3570033899, .int .u32 2329499855, .int .u32 2024987596, .int .u32 1809983544, .int .u32 2575936315, .int .u32 1296289744, .int .u32 3207089363, .int .u32 2893594407, .int .u32 1578318884, .int .u32 274646895, .int .u32 3795141740, .int .u32 4049975192, .int .u32 51262619, .int .u32 3619967088, .int .u32 632279923, .int .u32 922689671, .int .u32 3298075524, .int .u32 2592579488, .int .u32 1760304291, .int .u32 2075979607, .int .u32 2312596564, .int .u32 1562183871, .int .u32 2943781820, .int .u32 3156637768, .int .u32 1313733451, .int .u32 549293790, .int .u32 3537243613, .int .u32 3246849577, .int .u32 871202090, .int .u32 3878099393, .int .u32 357341890, .int .u32 102525238, .int .u32 4101499445, .int .u32 2858735121, .int .u32 1477399826, .int .u32 1264559846, .int .u32 3107202533, .int .u32 1845379342, .int .u32 2677391885, .int .u32 2361733625, .int .u32 2125378298, .int .u32 820201905, .int .u32 3263744690, .int .u32 3520608582, .int .u32 598981189, .int .u32 4151959214, .int .u32 85089709, .int .u32 373468761, .int .u32 3827903834, .int .u32 3124367742, .int .u32 1213305469, .int .u32 1526817161, .int .u32 2842354314, .int .u32 2107672161, .int .u32 2412447074, .int .u32 2627466902, .int .u32 1861252501, .int .u32 1098587580, .int .u32 3004210879, .int .u32 2688576843, .int .u32 1378610760, .int .u32 2262928035, .int .u32 1955203488, .int .u32 1742404180, .int .u32 2511436119, .int .u32 3416409459, .int .u32 969524848, .int .u32 714683780, .int .u32 3639785095, .int .u32 205050476, .int .u32 4266873199, .int .u32 3976438427, .int .u32 526918040, .int .u32 1361435347, .int .u32 2739821008, .int .u32 2954799652, .int .u32 1114974503, .int .u32 2529119692, .int .u32 1691668175, .int .u32 2005155131, .int .u32 2247081528, .int .u32 3690758684, .int .u32 697762079, .int .u32 986182379, .int .u32 3366744552, .int .u32 476452099, .int .u32 3993867776, .int .u32 4250756596, .int .u32 255256311, .int .u32 1640403810, .int .u32 2477592673, .int .u32 2164122517, .int .u32 1922457750, .int .u32 2791048317, .int .u32 1412925310, .int .u32 1197962378, .int .u32 3037525897, .int .u32 3944729517, .int .u32 427051182, .int .u32 170179418, .int .u32 4165941337, .int .u32 746937522, .int .u32 3740196785, .int .u32 3451792453, .int .u32 1070968646, .int .u32 1905808397, .int .u32 2213795598, .int .u32 2426610938, .int .u32 1657317369, .int .u32 3053634322, .int .u32 1147748369, .int .u32 1463399397, .int .u32 2773627110, .int .u32 4215344322, .int .u32 153784257, .int .u32 444234805, .int .u32 3893493558, .int .u32 1021025245, .int .u32 3467647198, .int .u32 3722505002, .int .u32 797665321, .int .u32 2197175160, .int .u32 1889384571, .int .u32 1674398607, .int .u32 2443626636, .int .u32 1164749927, .int .u32 3070701412, .int .u32 2757221520, .int .u32 1446797203, .int .u32 137323447, .int .u32 4198817972, .int .u32 3910406976, .int .u32 461344835, .int .u32 3484808360, .int .u32 1037989803, .int .u32 781091935, .int .u32 3705997148, .int .u32 2460548119, .int .u32 1623424788, .int .u32 1939049696, .int .u32 2180517859, .int .u32 1429367560, .int .u32 2807687179, .int .u32 3020495871, .int .u32 1180866812, .int .u32 410100952, .int .u32 3927582683, .int .u32 4182430767, .int .u32 186734380, .int .u32 3756733383, .int .u32 763408580, .int .u32 1053836080, .int .u32 3434856499, .int .u32 2722870694, .int .u32 1344288421, .int .u32 1131464017, .int .u32 2971354706, .int .u32 1708204729, .int .u32 2545590714, .int .u32 2229949006, .int .u32 1988219213, .int .u32 680717673, .int .u32 3673779818, .int .u32 3383336350, .int .u32 1002577565, .int .u32 4010310262, .int .u32 493091189, .int .u32 238226049, .int .u32 4233660802, .int .u32 2987750089, .int .u32 1082061258, .int .u32 1395524158, .int .u32 2705686845, .int .u32 1972364758, .int .u32 2279892693, .int .u32 2494862625, .int .u32 1725896226, .int .u32 952904198, .int .u32 3399985413, .int .u32 3656866545, .int .u32 731699698, .int .u32 4283874585, .int .u32 222117402, .int .u32 510512622, .int .u32 3959836397, .int .u32 3280807620, .int .u32 837199303, .int .u32 582374963, .int .u32 3504198960, .int .u32 68661723, .int .u32 4135334616, .int .u32 3844915500, .int .u32 390545967, .int .u32 1230274059, .int .u32 3141532936, .int .u32 2825850620, .int .u32 1510247935, .int .u32 2395924756, .int .u32 2091215383, .int .u32 1878366691, .int .u32 2644384480, .int .u32 3553878443, .int .u32 565732008, .int .u32 854102364, .int .u32 3229815391, .int .u32 340358836, .int .u32 3861050807, .int .u32 4117890627, .int .u32 119113024, .int .u32 1493875044, .int .u32 2875275879, .int .u32 3090270611, .int .u32 1247431312, .int .u32 2660249211, .int .u32 1828433272, .int .u32 2141937292, .int .u32 2378227087, .int .u32 3811616794, .int .u32 291187481, .int .u32 34330861, .int .u32 4032846830, .int .u32 615137029, .int .u32 3603020806, .int .u32 3314634738, .int .u32 939183345, .int .u32 1776939221, .int .u32 2609017814, .int .u32 2295496738, .int .u32 2058945313, .int .u32 2926798794, .int .u32 1545135305, .int .u32 1330124605, .int .u32 3173225534, .int .u32 4084100981, .int .u32 17165430, .int .u32 307568514, .int .u32 3762199681, .int .u32 888469610, .int .u32 3332340585, .int .u32 3587147933, .int .u32 665062302, .int .u32 2042050490, .int .u32 2346497209, .int .u32 2559330125, .int .u32 1793573966, .int .u32 3190661285, .int .u32 1279665062, .int .u32 1595330642, .int .u32 2910671697]⟩

theorem make_run : isV TBL (fcall (EE0 false) 300 3 19 [] Heap.empty) = true := by kernel_rfl

noncomputable def EE (pu : Bool) : Env0 := withHook (EE0 pu) 19 (hkConst TBL)

end Go.Proofs.YtfpocoongggehaaGreatDoor
