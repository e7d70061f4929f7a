/- The walk of CallerOnce: each Go function that it calls, as a plain function, and the proof that the call computes it. Printed by the program gen.py.
   Conditions: those that each theorem states ahead of its colon, and no other. -/
import Derived.Test.YteiinkhbgpldeaaGreatDoorWCallerOnce4
namespace Go.Proofs.YteiinkhbgpldeaaGreatDoor.Sx
open Go Go.Proofs
set_option maxRecDepth 100000
set_option linter.unusedVariables false
def catenarylaw26_CallerOnce_r10 (x1116 : Bool) : Option Bool :=
  some x1116
def catenarylaw26_CallerOnce_r13 (x1510 : Bool) : Option Bool :=
  some x1510
def catenarylaw26_CallerOnce_r14 (x1539 : Bool) : Option Bool :=
  some x1539
def catenarylaw26_CallerOnce_r15 (k : Nat) (x1150 : Int) (y1446 : M51 × Bool) (x5 : M27) (x1485 : Bool) : Option Bool :=
  if x1485 = true then some false
  else if (x1150 == 20) = true then (
    (if (y1446.1.f0 == 0) = true then (
        (catenaryref01_Same k y1446.1.f2 ([x5.f0])).bind fun y1517 =>
        if y1517 = true then (
          (catenarylaw26_awake k).bind fun y1520 =>
          some y1520)
        else some false)
      else some false : Option Bool).bind fun s1524 => catenarylaw26_CallerOnce_r13 s1524)
  else (if (y1446.1.f0 == (IntKind.i64.wrap (x5.f0))) = true then (
      if ((y1446.1.f2.length : Int) == 0) = true then (
        (catenarylaw26_awake k).bind fun y1545 =>
        some y1545)
      else some false)
    else some false : Option Bool).bind fun s1549 => catenarylaw26_CallerOnce_r14 s1549
def catenarylaw26_CallerOnce_r16 (k : Nat) (y950 : Int × Int × (List M44) × Int × (List (List Int)) × (List Int) × (List Int)) (y1130 : (List M48) × (List Int) × Int × Int × Int × Int × (List Int) × Int) (y1352 : (List M48) × Int × Int × Int × (List Int) × (List M44) × Int × Int × Int × Int × (List Int)) (x1150 : Int) (x6 : M27) (x5 : M27) (x1385 : Int) (x1386 : Int) (x1387 : List Int) : Option Bool :=
  (caller_Caller_Take_4 k y950.1 y1130.2.2.1 y1352.2.2.2.2.2.1 y1130.2.2.2.1 y1130.2.2.2.2.1 y1130.2.2.2.2.2.1 y1130.2.2.2.2.2.2.1 y1130.2.2.2.2.2.2.2 y1352.2.2.2.2.2.2.1 y1352.2.2.2.2.2.2.2.1 y1352.2.2.2.2.2.2.2.2.1 y1352.2.2.2.2.2.2.2.2.2.1 y1352.2.2.2.2.2.2.2.2.2.2 y1352.2.1 y1352.2.2.1 y1352.2.2.2.1 y1352.2.2.2.2.1 (M48.mk x1150 2 201 0 0 0 1 0 0 (IntKind.u64.wrap (x6.f1)) 0 x1385 x1386 (M41.mk 0 0 0 0) (M44.mk 0 0 ([]) false 0) ([]) ([]) x1387)).bind fun y1418 =>
  (caller_Caller_Reply_3 y1418.2.2.2.2.2.2.2.1 y1418.2.2.2.2.2.2.2.2.1 y1418.2.2.2.2.2.2.2.2.2.1 y1418.2.2.2.2.2.2.2.2.2.2).bind fun y1446 =>
  (if (!y1446.2) = true then some true
    else (caller_Caller_Busy_6 y1418.2.2.2.2.2.2.2.1 y1418.2.2.2.2.2.2.2.2.1 y1418.2.2.2.2.2.2.2.2.2.1 y1418.2.2.2.2.2.2.2.2.2.2).bind fun y1554 =>
    if y1554 = true then some true
    else if (y1446.1.f1 != (IntKind.u64.wrap (x6.f0))) = true then some true
    else (caller_Caller_Tick_6 k y950.1 y950.2.1 y1130.2.2.1 0 y1418.2.2.2.2.2.1 y1130.2.2.2.1 y1130.2.2.2.2.1 y1130.2.2.2.2.2.1 y1130.2.2.2.2.2.2.1 y1130.2.2.2.2.2.2.2 y1418.2.2.2.2.2.2.2.1 y1418.2.2.2.2.2.2.2.2.1 y1418.2.2.2.2.2.2.2.2.2.1 y1418.2.2.2.2.2.2.2.2.2.2).bind fun y1558 =>
    some ((y1558.1.length : Int) != 0) : Option Bool).bind fun s1567 => catenarylaw26_CallerOnce_r15 k x1150 y1446 x5 s1567
def catenarylaw26_CallerOnce_r17 (k : Nat) (y950 : Int × Int × (List M44) × Int × (List (List Int)) × (List Int) × (List Int)) (y1130 : (List M48) × (List Int) × Int × Int × Int × Int × (List Int) × Int) (x1150 : Int) (x6 : M27) (x1 : M26) (x5 : M27) (x1319 : Int) (x1320 : Int) (x1321 : List Int) : Option Bool :=
  (caller_Caller_Take_3 k y950.1 y1130.2.2.1 y950.2.2.1 y1130.2.2.2.1 y1130.2.2.2.2.1 y1130.2.2.2.2.2.1 y1130.2.2.2.2.2.2.1 y1130.2.2.2.2.2.2.2 y1130.2.1 0 0 0 y950.2.2.2.2.2.2 (M48.mk x1150 1 201 0 0 0 1 0 0 (IntKind.u64.wrap (x6.f0)) 0 x1319 x1320 (M41.mk 0 0 0 0) (M44.mk 0 0 ([]) false 0) ([]) ([]) x1321)).bind fun y1352 =>
  (if (x1150 == 20) = true then some (x1.f1, 0, [x5.f1])
    else some (0, IntKind.i64.wrap (x5.f1), []) : Option (Int × Int × (List Int))).bind fun s1578 => catenarylaw26_CallerOnce_r16 k y950 y1130 y1352 x1150 x6 x5 s1578.1 s1578.2.1 s1578.2.2
def catenarylaw26_CallerOnce_r18 (k : Nat) (x1 : M26) (x5 : M27) (y950 : Int × Int × (List M44) × Int × (List (List Int)) × (List Int) × (List Int)) (y1130 : (List M48) × (List Int) × Int × Int × Int × Int × (List Int) × Int) (x6 : M27) (x1150 : Int) : Option Bool :=
  (if (x1150 == 20) = true then some (x1.f1, 0, [x5.f0])
    else some (0, IntKind.i64.wrap (x5.f0), []) : Option (Int × Int × (List Int))).bind fun s1589 => catenarylaw26_CallerOnce_r17 k y950 y1130 x1150 x6 x1 x5 s1589.1 s1589.2.1 s1589.2.2
def catenarylaw26_CallerOnce (k : Nat) (x1 : M26) (x5 : M27) (x6 : M27) : Option Bool :=
  (catenaryref09_Begin k 1 2).bind fun y823 =>
  (caller_New k 1 1 y823.1).bind fun 
    | .inl y908 =>
      if (decide ((x1.f3.length : Int) > 2100)) = true then (
        (catenarylaw26_awake k).bind fun y916 =>
        some y916)
      else (caller_Caller_Begin).bind fun y927 =>
      (catenarylaw26_awake k).bind fun y946 =>
      some y946
    | .inr y950 =>
      if (decide ((x1.f3.length : Int) > 2100)) = true then (
        (catenarylaw26_awake k).bind fun y986 =>
        some y986)
      else (caller_Caller_Begin_4 k y950.1 0 y950.2.2.1 0 0 0 y950.2.2.2.2.2.1 0 x1).bind fun 
        | .inl y1084 =>
          if (y1084.2.1 != 0) = true then (
            ((caller_Caller_Num y1084.2.2.1).bind fun y1122 =>
              if (y1122 == 0) = true then (
                (catenarylaw26_awake k).bind fun y1125 =>
                some y1125)
              else some false : Option Bool).bind fun s1129 => catenarylaw26_CallerOnce_r10 s1129)
          else none
        | .inr y1130 =>
          (if (x1.f0 == 1) = true then some 20
            else some 18 : Option Int).bind fun s1594 => catenarylaw26_CallerOnce_r18 k x1 x5 y950 y1130 x6 s1594
theorem catenarylaw26_CallerOnce_s {k : Nat} {x1 : M26} {x5 : M27} {x6 : M27} {p2 : Option Addr} {c3 : Nat} {r : Bool} (hk : catenarylaw26_CallerOnce k x1 x5 x6 = some r) {g w : World} {F : Ch} {ih : IH} (h4 : RSl e5 ih [] p2 c3 x1.f3) (hG : Glob 0 gl0 162 ih) (hw : St g w [F] ih) :
    CallsR Tryz.prog 3 #[.agg #[vi64 x1.f0, vu32 x1.f1, vu64 x1.f2, .slice p2 x1.f3.length c3, vi64 x1.f4], .agg #[vu8 x5.f0, vu8 x5.f1], .agg #[vu8 x6.f0, vu8 x6.f1]] w fun v w' => ∃ (ih' : IH), v = .bool r ∧ St g w' [F] ih' ∧ Le ih ih' := by
  refine f_in (vs := [.agg #[vi64 x1.f0, vu32 x1.f1, vu64 x1.f2, .slice p2 x1.f3.length c3, vi64 x1.f4], .agg #[vu8 x5.f0, vu8 x5.f1], .agg #[vu8 x6.f0, vu8 x6.f1]]) Tryz.func3 rfl 140 rfl (by kernel_rfl) [(0, .agg #[vi64 x1.f0, vu32 x1.f1, vu64 x1.f2, .slice p2 x1.f3.length c3, vi64 x1.f4]), (1, .agg #[vu8 x5.f0, vu8 x5.f1]), (2, .agg #[vu8 x6.f0, vu8 x6.f1])] (by kernel_rfl) fun a Qf hQ hQn hs => ?_
  refine c_seq ?_
  refine c_region ?_
  refine s_new hs hw [vi64 x1.f0, vu32 x1.f1, vu64 x1.f2, .slice p2 x1.f3.length c3, vi64 x1.f4] 26 (fun b => (pt b 0)) (by kernel_rfl) (fun _ => by kernel_rfl) fun a w b808 hs hw => ?_
  refine s_new hs hw [vu8 x5.f0, vu8 x5.f1] 27 (fun b => (pt b 0)) (by kernel_rfl) (fun _ => by kernel_rfl) fun a w b810 hs hw => ?_
  refine s_new hs hw [vu8 x6.f0, vu8 x6.f1] 27 (fun b => (pt b 0)) (by kernel_rfl) (fun _ => by kernel_rfl) fun a w b812 hs hw => ?_
  refine pures hs 1 [3, 4, 5] [(3, (pt b808 0)), (4, (pt b810 0)), (5, (pt b812 0))] (by kernel_rfl) fun a hs => ?_
  refine s_end ?_
  refine c_seq ?_
  refine c_region ?_
  obtain ⟨y823, h824, hk⟩ := bindE hk
  refine s_call hs (by kernel_rfl) (by kernel_rfl) (catenaryref09_Begin_s h824 ((hw.pick [0, 1, 2, 3] (by kernel_rfl)).pack 0)) fun a w v hv hs => ?_
  obtain ⟨ih825, p827, c828, d830, rfl, hw, hle826, h829⟩ := hv
  replace hw := hw.unpack 1 rfl
  refine pures hs 5 [3, 4, 5, 7] [(3, (pt b808 0)), (4, (pt b810 0)), (5, (pt b812 0)), (7, .slice p827 y823.1.length c828)] (by kernel_rfl) fun a hs => ?_
  refine s_end ?_
  refine c_seq ?_
  refine c_region ?_
  refine pures hs 1 [3, 4, 5, 23] [(3, (pt b808 0)), (4, (pt b810 0)), (5, (pt b812 0)), (23, .slice p827 y823.1.length c828)] (by kernel_rfl) fun a hs => ?_
  obtain ⟨y906, h907, hk⟩ := bindE hk
  refine s_call hs (by kernel_rfl) (by kernel_rfl) (caller_New_s h907 h829.read (memF 0 rfl) ((hw.pick [0, 1, 2, 3, 4] (by kernel_rfl)).pack 0)) fun a w v hv hs => ?_
  rcases hv with ⟨y908, rfl, ⟨ih909, rfl, hw, hle910⟩⟩ | ⟨y950, rfl, ⟨ih951, b953, b955, p957, c958, d960, b962, b964, p966, c967, d969, p971, c972, d974, p976, c977, d979, rfl, hw, hle952, h959, h968, h973, h978⟩⟩
  · try dsimp only at hk
    replace hw := hw.unpack 0 rfl
    refine pures hs 5 [3, 4, 5, 9] [(3, (pt b808 0)), (4, (pt b810 0)), (5, (pt b812 0)), (9, .pointer none)] (by kernel_rfl) fun a hs => ?_
    refine s_end ?_
    refine c_seq ?_
    refine c_seq ?_
    refine c_region ?_
    refine pures hs 1 [3, 4, 5, 9, 27] [(3, (pt b808 0)), (4, (pt b810 0)), (5, (pt b812 0)), (9, .pointer none), (27, (pt b808 3))] (by kernel_rfl) fun a hs => ?_
    refine s_load hs (hw.at_ 3 rfl) 3 (by kernel_rfl) (by kernel_rfl) (v := .slice p2 x1.f3.length c3) (by kernel_rfl) fun a hs => ?_
    refine pures hs 2 [3, 4, 5, 9, 30] [(3, (pt b808 0)), (4, (pt b810 0)), (5, (pt b812 0)), (9, .pointer none), (30, .bool (decide ((x1.f3.length : Int) > 2100)))] (by kernel_rfl) fun a hs => ?_
    refine s_end ?_
    rcases ifbE hk with ⟨h911, hk⟩ | ⟨h911, hk⟩
    · refine c_cond1 hs (by kernel_rfl) (t := (decide ((x1.f3.length : Int) > 2100))) (by kernel_rfl) h911 ?_
      refine c_seq ?_
      refine c_region ?_
      obtain ⟨y916, h917, hk⟩ := bindE hk
      refine s_call hs (by kernel_rfl) (by kernel_rfl) (catenarylaw26_awake_s h917 (hG.mono (hle826.trans hle910)) ((hw.pick [4] (by kernel_rfl)).pack 0)) fun a w v hv hs => ?_
      obtain ⟨ih918, rfl, hw, hle919⟩ := hv
      replace hw := hw.unpack 0 rfl
      refine pures hs 1 [6] [(6, .bool y916)] (by kernel_rfl) fun a hs => ?_
      refine s_end ?_
      refine c_ret ?_
      obtain rfl := someE hk
      refine hQ _ _ (f_ret1 hs rfl (v := .bool y916) (by kernel_rfl) ⟨ih918, rfl, hw.pick [0] (by kernel_rfl), ((hle826.trans hle910).trans hle919)⟩)
    refine c_cond0 hs (by kernel_rfl) (t := (decide ((x1.f3.length : Int) > 2100))) (by kernel_rfl) h911 ?_
    refine c_skip ?_
    refine c_seq ?_
    refine c_seq ?_
    refine c_region ?_
    refine pures hs 1 [3, 4, 5, 9, 33] [(3, (pt b808 0)), (4, (pt b810 0)), (5, (pt b812 0)), (9, .pointer none), (33, .pointer none)] (by kernel_rfl) fun a hs => ?_
    refine s_load hs (hw.at_ 3 rfl) 0 (by kernel_rfl) (by kernel_rfl) (v := .agg #[vi64 x1.f0, vu32 x1.f1, vu64 x1.f2, .slice p2 x1.f3.length c3, vi64 x1.f4]) (by kernel_rfl) fun a hs => ?_
    obtain ⟨y927, h928, hk⟩ := bindE hk
    refine s_call hs (by kernel_rfl) (by kernel_rfl) (caller_Caller_Begin_s (x1 := x1) h928 (h4.mono (hle826.trans hle910)) ((hw.pick [1, 2, 3, 4] (by kernel_rfl)).pack 0)) fun a w v hv hs => ?_
    obtain ⟨p929, c930, d932, rfl, hw, h931⟩ := hv
    replace hw := hw.unpack 1 rfl
    refine pures hs 5 [3, 4, 5, 9, 12] [(3, (pt b808 0)), (4, (pt b810 0)), (5, (pt b812 0)), (9, .pointer none), (12, vi64 2)] (by kernel_rfl) fun a hs => ?_
    refine s_end ?_
    refine c_seq ?_
    refine c_region ?_
    refine pures hs 2 [3, 4, 5, 9, 39] [(3, (pt b808 0)), (4, (pt b810 0)), (5, (pt b812 0)), (9, .pointer none), (39, .bool true)] (by kernel_rfl) fun a hs => ?_
    refine s_end ?_
    refine c_condT hs (by kernel_rfl) (by kernel_rfl) ?_
    refine c_seq ?_
    refine c_region ?_
    refine pures hs 1 [9, 40] [(9, .pointer none), (40, .pointer none)] (by kernel_rfl) fun a hs => ?_
    have h943 : caller_Caller_Busy_5 = some () := rfl
    refine s_call hs (by kernel_rfl) (by kernel_rfl) (caller_Caller_Busy_5_s h943 ((hw.pick [4] (by kernel_rfl)).pack 0)) fun a w v hv hs => ?_
    obtain ⟨rfl, hw⟩ := hv
    replace hw := hw.unpack 0 rfl
    refine pures hs 3 [43, 44] [(43, .bool true), (44, .pointer none)] (by kernel_rfl) fun a hs => ?_
    have h945 : caller_Caller_Num_2 = some () := rfl
    refine s_call hs (by kernel_rfl) (by kernel_rfl) (caller_Caller_Num_2_s h945 ((hw.pick [0] (by kernel_rfl)).pack 0)) fun a w v hv hs => ?_
    obtain ⟨rfl, hw⟩ := hv
    replace hw := hw.unpack 0 rfl
    refine pures hs 3 [48] [(48, .bool true)] (by kernel_rfl) fun a hs => ?_
    obtain ⟨y946, h947, hk⟩ := bindE hk
    refine s_call hs (by kernel_rfl) (by kernel_rfl) (catenarylaw26_awake_s h947 (hG.mono (hle826.trans hle910)) ((hw.pick [0] (by kernel_rfl)).pack 0)) fun a w v hv hs => ?_
    obtain ⟨ih948, rfl, hw, hle949⟩ := hv
    replace hw := hw.unpack 0 rfl
    refine pures hs 2 [6] [(6, .bool y946)] (by kernel_rfl) fun a hs => ?_
    refine s_end ?_
    refine c_ret ?_
    obtain rfl := someE hk
    refine hQ _ _ (f_ret1 hs rfl (v := .bool y946) (by kernel_rfl) ⟨ih948, rfl, hw.pick [0] (by kernel_rfl), ((hle826.trans hle910).trans hle949)⟩)
  try dsimp only at hk
  replace hw := hw.unpack 8 rfl
  refine pures hs 5 [3, 4, 5, 9] [(3, (pt b808 0)), (4, (pt b810 0)), (5, (pt b812 0)), (9, (pt b953 0))] (by kernel_rfl) fun a hs => ?_
  refine s_end ?_
  refine c_seq ?_
  refine c_seq ?_
  refine c_region ?_
  refine pures hs 1 [3, 4, 5, 9, 27] [(3, (pt b808 0)), (4, (pt b810 0)), (5, (pt b812 0)), (9, (pt b953 0)), (27, (pt b808 3))] (by kernel_rfl) fun a hs => ?_
  refine s_load hs (hw.at_ 11 rfl) 3 (by kernel_rfl) (by kernel_rfl) (v := .slice p2 x1.f3.length c3) (by kernel_rfl) fun a hs => ?_
  refine pures hs 2 [3, 4, 5, 9, 30] [(3, (pt b808 0)), (4, (pt b810 0)), (5, (pt b812 0)), (9, (pt b953 0)), (30, .bool (decide ((x1.f3.length : Int) > 2100)))] (by kernel_rfl) fun a hs => ?_
  refine s_end ?_
  rcases ifbE hk with ⟨h981, hk⟩ | ⟨h981, hk⟩
  · refine c_cond1 hs (by kernel_rfl) (t := (decide ((x1.f3.length : Int) > 2100))) (by kernel_rfl) h981 ?_
    refine c_seq ?_
    refine c_region ?_
    obtain ⟨y986, h987, hk⟩ := bindE hk
    refine s_call hs (by kernel_rfl) (by kernel_rfl) (catenarylaw26_awake_s h987 (hG.mono (hle826.trans hle952)) ((hw.pick [12] (by kernel_rfl)).pack 0)) fun a w v hv hs => ?_
    obtain ⟨ih988, rfl, hw, hle989⟩ := hv
    replace hw := hw.unpack 0 rfl
    refine pures hs 1 [6] [(6, .bool y986)] (by kernel_rfl) fun a hs => ?_
    refine s_end ?_
    refine c_ret ?_
    obtain rfl := someE hk
    refine hQ _ _ (f_ret1 hs rfl (v := .bool y986) (by kernel_rfl) ⟨ih988, rfl, hw.pick [0] (by kernel_rfl), ((hle826.trans hle952).trans hle989)⟩)
  refine c_cond0 hs (by kernel_rfl) (t := (decide ((x1.f3.length : Int) > 2100))) (by kernel_rfl) h981 ?_
  refine c_skip ?_
  refine c_seq ?_
  refine c_seq ?_
  refine c_region ?_
  refine pures hs 1 [3, 4, 5, 9, 33] [(3, (pt b808 0)), (4, (pt b810 0)), (5, (pt b812 0)), (9, (pt b953 0)), (33, (pt b953 0))] (by kernel_rfl) fun a hs => ?_
  refine s_load hs (hw.at_ 11 rfl) 0 (by kernel_rfl) (by kernel_rfl) (v := .agg #[vi64 x1.f0, vu32 x1.f1, vu64 x1.f2, .slice p2 x1.f3.length c3, vi64 x1.f4]) (by kernel_rfl) fun a hs => ?_
  obtain ⟨ih1076, hle1077, hw, h1078⟩ := (hw.pick [6, 0, 1, 2, 3, 4, 5, 7, 8, 9, 10, 11, 12] (by kernel_rfl)).fz (h973.mono (Le.refl _))
  obtain ⟨ih1079, hle1080, hw, h1081⟩ := (hw.pick [6, 0, 1, 2, 3, 4, 5, 7, 8, 9, 10, 11] (by kernel_rfl)).fz (h978.mono hle1077)
  obtain ⟨y1082, h1083, hk⟩ := bindE hk
  refine s_call hs (by kernel_rfl) (by kernel_rfl) (caller_Caller_Begin_4_s (x4 := y950.2.1) (x6 := 0) (x15 := (pt b962 0)) (x25 := 0) (x26 := 0) (x27 := 0) (x28 := y950.2.2.2.2.2.2) h1083 (h959.mono (hle1077.trans hle1080)) rfl (h1078.mono hle1080) h1081 (h4.mono (((hle826.trans hle952).trans hle1077).trans hle1080)) (hG.mono (((hle826.trans hle952).trans hle1077).trans hle1080)) ((hw.pick [0, 1, 2, 3, 4, 5, 7, 8, 9, 10] (by kernel_rfl)).pack 3)) fun a w v hv hs => ?_
  rcases hv with ⟨y1084, rfl, ⟨ih1085, p1087, c1088, d1090, p1092, c1093, rfl, hw, hle1086, h1089, h1094⟩⟩ | ⟨y1130, rfl, ⟨ih1131, p1133, c1134, d1136, b1138, p1140, c1141, d1143, p1145, c1146, rfl, hw, hle1132, h1135, h1142, h1147⟩⟩
  · try dsimp only at hk
    replace hw := hw.unpack 4 rfl
    refine pures hs 5 [3, 4, 5, 9, 12] [(3, (pt b808 0)), (4, (pt b810 0)), (5, (pt b812 0)), (9, (pt b953 0)), (12, vi64 y1084.2.1)] (by kernel_rfl) fun a hs => ?_
    refine s_end ?_
    refine c_seq ?_
    refine c_region ?_
    refine pures hs 2 [3, 4, 5, 9, 39] [(3, (pt b808 0)), (4, (pt b810 0)), (5, (pt b812 0)), (9, (pt b953 0)), (39, .bool (y1084.2.1 != 0))] (by kernel_rfl) fun a hs => ?_
    refine s_end ?_
    rcases ifbE hk with ⟨h1095, hk⟩ | ⟨h1095, hk⟩
    · refine c_cond1 hs (by kernel_rfl) (t := (y1084.2.1 != 0)) (by kernel_rfl) h1095 ?_
      refine c_seq ?_
      obtain ⟨y1117, hx1118, hk⟩ := bindE hk
      obtain ⟨J1119, hJ1119⟩ : ∃ J : Act → World → Prop, ∀ a w, J a w ↔ (∃ (x1116 : Bool) (ih1114 : IH), catenarylaw26_CallerOnce_r10 x1116 = some r ∧ Sees a 140 [(6, .bool x1116)] ∧ St g w [F] ih1114 ∧ Le ih1085 ih1114) := ⟨_, fun _ _ => Iff.rfl⟩
      refine c_regJ J1119 ?_ ?_
      · refine pures hs 1 [9, 40] [(9, (pt b953 0)), (40, (pt b953 0))] (by kernel_rfl) fun a hs => ?_
        have h1121 : caller_Caller_Busy_3 = some () := rfl
        refine s_call hs (by kernel_rfl) (by kernel_rfl) (caller_Caller_Busy_3_s (x3 := y950.1) (x4 := y950.2.1) (x5 := y1084.2.2.1) (x6 := 0) (x9 := y950.2.2.1) (x15 := (pt b962 0)) (x17 := y1084.2.2.2.1) (x18 := y1084.2.2.2.2.1) (x19 := y1084.2.2.2.2.2.1) (x20 := y1084.2.2.2.2.2.2.1) (x24 := y1084.2.2.2.2.2.2.2) (x25 := 0) (x26 := 0) (x27 := 0) (x28 := y950.2.2.2.2.2.2) h1121 (h959.mono ((hle1077.trans hle1080).trans hle1086)) rfl h1094 (h1081.mono hle1086) ((hw.pick [1, 2, 3, 4, 5, 6, 10] (by kernel_rfl)).pack 3)) fun a w v hv hs => ?_
        obtain ⟨rfl, hw⟩ := hv
        replace hw := hw.unpack 3 rfl
        refine pures hs 3 [43, 44] [(43, .bool true), (44, (pt b953 0))] (by kernel_rfl) fun a hs => ?_
        obtain ⟨y1122, h1123, hx1118⟩ := bindE hx1118
        refine s_call hs (by kernel_rfl) (by kernel_rfl) (caller_Caller_Num_s (x3 := y950.1) (x4 := y950.2.1) (x6 := 0) (x9 := y950.2.2.1) (x15 := (pt b962 0)) (x17 := y1084.2.2.2.1) (x18 := y1084.2.2.2.2.1) (x19 := y1084.2.2.2.2.2.1) (x20 := y1084.2.2.2.2.2.2.1) (x24 := y1084.2.2.2.2.2.2.2) (x25 := (.pointer none)) (x27 := 0) (x28 := 0) (x29 := 0) (x30 := y950.2.2.2.2.2.2) h1123 (h959.mono ((hle1077.trans hle1080).trans hle1086)) rfl h1094 rfl (h1081.mono hle1086) ((hw.pick [0, 1, 2, 3, 4, 5, 6] (by kernel_rfl)).pack 3)) fun a w v hv hs => ?_
        obtain ⟨rfl, hw⟩ := hv
        replace hw := hw.unpack 3 rfl
        refine pures hs 3 [48] [(48, .bool (y1122 == 0))] (by kernel_rfl) fun a hs => ?_
        rcases ifbE hx1118 with ⟨h1124, hx1118⟩ | ⟨h1124, hx1118⟩
        · replace hs := hs.altB 48 true (by kernel_rfl) h1124
          obtain ⟨y1125, h1126, hx1118⟩ := bindE hx1118
          refine s_call hs (by kernel_rfl) (by kernel_rfl) (catenarylaw26_awake_s h1126 (hG.mono ((((hle826.trans hle952).trans hle1077).trans hle1080).trans hle1086)) ((hw.pick [6] (by kernel_rfl)).pack 0)) fun a w v hv hs => ?_
          obtain ⟨ih1127, rfl, hw, hle1128⟩ := hv
          replace hw := hw.unpack 0 rfl
          refine pures hs 2 [6] [(6, .bool y1125)] (by kernel_rfl) fun a hs => ?_
          refine s_end ?_
          obtain rfl := someE hx1118
          exact (hJ1119 _ _).2 ⟨y1125, ih1127, hk, hs.cast [6] (by kernel_rfl), hw.pick [0] (by kernel_rfl), hle1128⟩
        replace hs := hs.altB 48 false (by kernel_rfl) h1124
        refine pures hs 3 [6] [(6, .bool false)] (by kernel_rfl) fun a hs => ?_
        refine s_end ?_
        obtain rfl := someE hx1118
        exact (hJ1119 _ _).2 ⟨false, ih1085, hk, hs.cast [6] (by kernel_rfl), hw.pick [6] (by kernel_rfl), (Le.refl _)⟩
      intro a w hh
      obtain ⟨x1116, ih1114, hk, hs, hw, hle1115⟩ := (hJ1119 _ _).1 hh
      refine c_ret ?_
      obtain rfl := someE hk
      refine hQ _ _ (f_ret1 hs rfl (v := .bool x1116) (by kernel_rfl) ⟨ih1114, rfl, hw.pick [0] (by kernel_rfl), (((((hle826.trans hle952).trans hle1077).trans hle1080).trans hle1086).trans hle1115)⟩)
    refine c_cond0 hs (by kernel_rfl) (t := (y1084.2.1 != 0)) (by kernel_rfl) h1095 ?_
    cases hk
  try dsimp only at hk
  replace hw := hw.unpack 6 rfl
  refine pures hs 5 [3, 4, 5, 9, 12] [(3, (pt b808 0)), (4, (pt b810 0)), (5, (pt b812 0)), (9, (pt b953 0)), (12, vi64 0)] (by kernel_rfl) fun a hs => ?_
  refine s_end ?_
  refine c_seq ?_
  refine c_region ?_
  refine pures hs 2 [3, 4, 5, 9, 39] [(3, (pt b808 0)), (4, (pt b810 0)), (5, (pt b812 0)), (9, (pt b953 0)), (39, .bool false)] (by kernel_rfl) fun a hs => ?_
  refine s_end ?_
  refine c_condF hs (by kernel_rfl) (by kernel_rfl) ?_
  refine c_skip ?_
  refine c_seq ?_
  refine c_region ?_
  refine pures hs 1 [3, 4, 5, 9, 13] [(3, (pt b808 0)), (4, (pt b810 0)), (5, (pt b812 0)), (9, (pt b953 0)), (13, vi64 18)] (by kernel_rfl) fun a hs => ?_
  refine s_end ?_
  obtain ⟨y1590, hx1591, hk⟩ := bindE hk
  obtain ⟨J1592, hJ1592⟩ : ∃ J : Act → World → Prop, ∀ a w, J a w ↔ (∃ (x1150 : Int), catenarylaw26_CallerOnce_r18 k x1 x5 y950 y1130 x6 x1150 = some r ∧ Sees a 140 [(3, (pt b808 0)), (4, (pt b810 0)), (5, (pt b812 0)), (9, (pt b953 0)), (13, vi64 x1150)] ∧ St g w [bx b1138 [vu32 0, vi32 0, vu32 0, vu32 0, vi64 0, vu64 0, .slice p1140 y1130.2.1.length c1141] 126, bx b953 [vi64 y950.1, vi64 y950.2.1, vu64 y1130.2.2.1, vi64 0, (pt b955 0), vi64 y1130.2.2.2.1, vu32 y1130.2.2.2.2.1, vu64 y1130.2.2.2.2.2.1, .slice p1145 y1130.2.2.2.2.2.2.1.length c1146, vi64 y1130.2.2.2.2.2.2.2, (pt b1138 0), vu64 0, vi64 0, vu64 0, .slice p976 y950.2.2.2.2.2.2.length c977] 85, bx b955 [.slice p957 y950.2.2.1.length c958, (pt b962 0)] 113, bx b962 [vu32 0, vi32 0, vu32 0, .func (.func 49) #[] #[(pt b964 0)], vi32 0, .slice p966 y950.2.2.2.2.1.length c967] 151, bx b964 [vi64 y950.2.2.2.1] 3, bx b812 [vu8 x6.f0, vu8 x6.f1] 27, bx b810 [vu8 x5.f0, vu8 x5.f1] 27, bx b808 [vi64 x1.f0, vu32 x1.f1, vu64 x1.f2, .slice p2 x1.f3.length c3, vi64 x1.f4] 26, d1143, d960, d969, F] ih1131) := ⟨_, fun _ _ => Iff.rfl⟩
  refine c_seqJ J1592 ?_ ?_
  · refine c_seq ?_
    refine c_region ?_
    refine pures hs 1 [3, 4, 5, 9, 13, 51] [(3, (pt b808 0)), (4, (pt b810 0)), (5, (pt b812 0)), (9, (pt b953 0)), (13, vi64 18), (51, (pt b808 0))] (by kernel_rfl) fun a hs => ?_
    refine s_load hs (hw.at_ 11 rfl) 0 (by kernel_rfl) (by kernel_rfl) (v := vi64 x1.f0) (by kernel_rfl) fun a hs => ?_
    refine pures hs 1 [3, 4, 5, 9, 13, 53] [(3, (pt b808 0)), (4, (pt b810 0)), (5, (pt b812 0)), (9, (pt b953 0)), (13, vi64 18), (53, .bool (x1.f0 == 1))] (by kernel_rfl) fun a hs => ?_
    refine s_end ?_
    rcases ifbE hx1591 with ⟨h1593, hx1591⟩ | ⟨h1593, hx1591⟩
    · refine c_cond1 hs (by kernel_rfl) (t := (x1.f0 == 1)) (by kernel_rfl) h1593 ?_
      refine c_region ?_
      refine pures hs 1 [3, 4, 5, 9, 13] [(3, (pt b808 0)), (4, (pt b810 0)), (5, (pt b812 0)), (9, (pt b953 0)), (13, vi64 20)] (by kernel_rfl) fun a hs => ?_
      refine s_end ?_
      obtain rfl := someE hx1591
      exact (hJ1592 _ _).2 ⟨20, hk, hs.cast [3, 4, 5, 9, 13] (by kernel_rfl), hw.pick [1, 3, 4, 6, 7, 9, 10, 11, 2, 5, 8, 12] (by kernel_rfl)⟩
    refine c_cond0 hs (by kernel_rfl) (t := (x1.f0 == 1)) (by kernel_rfl) h1593 ?_
    refine c_skip ?_
    obtain rfl := someE hx1591
    exact (hJ1592 _ _).2 ⟨18, hk, hs.cast [3, 4, 5, 9, 13] (by kernel_rfl), hw.pick [1, 3, 4, 6, 7, 9, 10, 11, 2, 5, 8, 12] (by kernel_rfl)⟩
  intro a w hh
  obtain ⟨x1150, hk, hs, hw⟩ := (hJ1592 _ _).1 hh
  refine c_seq ?_
  refine c_seq ?_
  refine c_region ?_
  refine pures hs 1 [3, 4, 5, 9, 13, 14] [(3, (pt b808 0)), (4, (pt b810 0)), (5, (pt b812 0)), (9, (pt b953 0)), (13, vi64 x1150), (14, vi64 0)] (by kernel_rfl) fun a hs => ?_
  refine s_end ?_
  refine c_block ?_
  refine wpIn_loop_rounds 3 ?_
  refine c_unr ?_
  refine c_seq ?_
  refine c_seq ?_
  refine c_region ?_
  refine pures hs 2 [3, 4, 5, 9, 13, 14, 55] [(3, (pt b808 0)), (4, (pt b810 0)), (5, (pt b812 0)), (9, (pt b953 0)), (13, vi64 x1150), (14, vi64 0), (55, .bool true)] (by kernel_rfl) fun a hs => ?_
  refine s_end ?_
  refine c_condT hs (by kernel_rfl) (by kernel_rfl) ?_
  refine c_skip ?_
  refine c_seq ?_
  refine c_block ?_
  refine c_seq ?_
  refine c_region ?_
  refine pures hs 5 [3, 4, 5, 9, 13, 14, 58, 60, 62] [(3, (pt b808 0)), (4, (pt b810 0)), (5, (pt b812 0)), (9, (pt b953 0)), (13, vi64 x1150), (14, vi64 0), (58, vi64 x1150), (60, vi64 1), (62, (pt b812 0))] (by kernel_rfl) fun a hs => ?_
  refine s_load hs (hw.at_ 5 rfl) 0 (by kernel_rfl) (by kernel_rfl) (v := vu8 x6.f0) (by kernel_rfl) fun a hs => ?_
  refine pures hs 2 [3, 4, 5, 9, 13, 14, 65] [(3, (pt b808 0)), (4, (pt b810 0)), (5, (pt b812 0)), (9, (pt b953 0)), (13, vi64 x1150), (14, vi64 0), (65, .agg #[vi64 x1150, vi64 1, vi64 201, vi64 0, vu64 0, vu64 0, vu64 1, vu64 0, vu64 0, vu64 (IntKind.u64.wrap (x6.f0)), vi64 0, vu32 0, vi64 0, vi64 0, vi64 0, vu64 0, vi64 0, vi64 0, vu64 0, .slice none 0 0, .bool false, vi64 0, .slice none 0 0, .slice none 0 0, .slice none 0 0])] (by kernel_rfl) fun a hs => ?_
  refine s_new hs hw [vi64 0, vi64 0, vi64 0, vi64 0, vu64 0, vu64 0, vu64 0, vu64 0, vu64 0, vu64 0, vi64 0, vu32 0, vi64 0, vi64 0, vi64 0, vu64 0, vi64 0, vi64 0, vu64 0, .slice none 0 0, .bool false, vi64 0, .slice none 0 0, .slice none 0 0, .slice none 0 0] 48 (fun b => (pt b 0)) (by kernel_rfl) (fun _ => by kernel_rfl) fun a w b1307 hs hw => ?_
  refine s_store hs hw 0 rfl 0 (by kernel_rfl) (by kernel_rfl) (v := .agg #[vi64 x1150, vi64 1, vi64 201, vi64 0, vu64 0, vu64 0, vu64 1, vu64 0, vu64 0, vu64 (IntKind.u64.wrap (x6.f0)), vi64 0, vu32 0, vi64 0, vi64 0, vi64 0, vu64 0, vi64 0, vi64 0, vu64 0, .slice none 0 0, .bool false, vi64 0, .slice none 0 0, .slice none 0 0, .slice none 0 0]) (by kernel_rfl) (by kernel_rfl) (by kernel_rfl) (by kernel_rfl) fun a w hs hw => ?_
  refine s_end ?_
  obtain ⟨y1579, hx1580, hk⟩ := bindE hk
  obtain ⟨J1581, hJ1581⟩ : ∃ J : Act → World → Prop, ∀ a w, J a w ↔ (∃ (x1319 : Int) (x1320 : Int) (x1321 : List Int) (p1322 : Option Addr) (c1323 : Nat) (d1325 : Ch), catenarylaw26_CallerOnce_r17 k y950 y1130 x1150 x6 x1 x5 x1319 x1320 x1321 = some r ∧ Sees a 140 [(3, (pt b808 0)), (4, (pt b810 0)), (5, (pt b812 0)), (9, (pt b953 0)), (13, vi64 x1150), (14, vi64 0), (15, (pt b1307 0))] ∧ St g w [bx b1307 [vi64 x1150, vi64 1, vi64 201, vi64 0, vu64 0, vu64 0, vu64 1, vu64 0, vu64 0, vu64 (IntKind.u64.wrap (x6.f0)), vi64 0, vu32 x1319, vi64 x1320, vi64 0, vi64 0, vu64 0, vi64 0, vi64 0, vu64 0, .slice none 0 0, .bool false, vi64 0, .slice none 0 0, .slice none 0 0, .slice p1322 x1321.length c1323] 48, bx b1138 [vu32 0, vi32 0, vu32 0, vu32 0, vi64 0, vu64 0, .slice p1140 y1130.2.1.length c1141] 126, bx b953 [vi64 y950.1, vi64 y950.2.1, vu64 y1130.2.2.1, vi64 0, (pt b955 0), vi64 y1130.2.2.2.1, vu32 y1130.2.2.2.2.1, vu64 y1130.2.2.2.2.2.1, .slice p1145 y1130.2.2.2.2.2.2.1.length c1146, vi64 y1130.2.2.2.2.2.2.2, (pt b1138 0), vu64 0, vi64 0, vu64 0, .slice p976 y950.2.2.2.2.2.2.length c977] 85, bx b955 [.slice p957 y950.2.2.1.length c958, (pt b962 0)] 113, bx b962 [vu32 0, vi32 0, vu32 0, .func (.func 49) #[] #[(pt b964 0)], vi32 0, .slice p966 y950.2.2.2.2.1.length c967] 151, bx b964 [vi64 y950.2.2.2.1] 3, bx b812 [vu8 x6.f0, vu8 x6.f1] 27, bx b810 [vu8 x5.f0, vu8 x5.f1] 27, bx b808 [vi64 x1.f0, vu32 x1.f1, vu64 x1.f2, .slice p2 x1.f3.length c3, vi64 x1.f4] 26, d1325, d1143, d960, d969, F] ih1131 ∧ OSl e5 ih1131 p1322 c1323 x1321 d1325) := ⟨_, fun _ _ => Iff.rfl⟩
  refine c_seqJ J1581 ?_ ?_
  · refine c_seq ?_
    refine c_region ?_
    refine pures hs 2 [3, 4, 5, 9, 13, 14, 15, 67] [(3, (pt b808 0)), (4, (pt b810 0)), (5, (pt b812 0)), (9, (pt b953 0)), (13, vi64 x1150), (14, vi64 0), (15, (pt b1307 0)), (67, .bool (x1150 == 20))] (by kernel_rfl) fun a hs => ?_
    refine s_end ?_
    rcases ifbE hx1580 with ⟨h1582, hx1580⟩ | ⟨h1582, hx1580⟩
    · refine c_cond1 hs (by kernel_rfl) (t := (x1150 == 20)) (by kernel_rfl) h1582 ?_
      refine c_seq ?_
      refine c_region ?_
      refine pures hs 1 [3, 4, 5, 9, 13, 14, 15, 68] [(3, (pt b808 0)), (4, (pt b810 0)), (5, (pt b812 0)), (9, (pt b953 0)), (13, vi64 x1150), (14, vi64 0), (15, (pt b1307 0)), (68, (pt b808 1))] (by kernel_rfl) fun a hs => ?_
      refine s_load hs (hw.at_ 8 rfl) 1 (by kernel_rfl) (by kernel_rfl) (v := vu32 x1.f1) (by kernel_rfl) fun a hs => ?_
      refine pures hs 1 [3, 4, 5, 9, 13, 14, 15, 69, 70] [(3, (pt b808 0)), (4, (pt b810 0)), (5, (pt b812 0)), (9, (pt b953 0)), (13, vi64 x1150), (14, vi64 0), (15, (pt b1307 0)), (69, vu32 x1.f1), (70, (pt b1307 11))] (by kernel_rfl) fun a hs => ?_
      refine s_store hs hw 0 rfl 11 (by kernel_rfl) (by kernel_rfl) (v := vu32 x1.f1) (by kernel_rfl) (by kernel_rfl) (by kernel_rfl) (by kernel_rfl) fun a w hs hw => ?_
      refine s_end ?_
      refine c_region ?_
      refine pures hs 2 [3, 4, 5, 9, 13, 14, 15, 72] [(3, (pt b808 0)), (4, (pt b810 0)), (5, (pt b812 0)), (9, (pt b953 0)), (13, vi64 x1150), (14, vi64 0), (15, (pt b1307 0)), (72, (pt b810 0))] (by kernel_rfl) fun a hs => ?_
      refine s_load hs (hw.at_ 7 rfl) 0 (by kernel_rfl) (by kernel_rfl) (v := vu8 x5.f0) (by kernel_rfl) fun a hs => ?_
      refine s_new hs hw [vu8 x5.f0] 5 (fun b => .slice (some ⟨b, 0, none⟩) 1 1) (by kernel_rfl) (fun _ => by kernel_rfl) fun a w b1585 hs hw => ?_
      refine pures hs 1 [3, 4, 5, 9, 13, 14, 15, 74, 75] [(3, (pt b808 0)), (4, (pt b810 0)), (5, (pt b812 0)), (9, (pt b953 0)), (13, vi64 x1150), (14, vi64 0), (15, (pt b1307 0)), (74, .slice (some ⟨b1585, 0, none⟩) 1 1), (75, (pt b1307 24))] (by kernel_rfl) fun a hs => ?_
      refine s_store hs hw 1 rfl 24 (by kernel_rfl) (by kernel_rfl) (v := .slice (some ⟨b1585, 0, none⟩) 1 1) (by kernel_rfl) (by kernel_rfl) (by kernel_rfl) (by kernel_rfl) fun a w hs hw => ?_
      refine s_end ?_
      obtain rfl := someE hx1580
      exact (hJ1581 _ _).2 ⟨x1.f1, 0, ([x5.f0]), (some ⟨b1585, 0, none⟩), 1, (bx b1585 [vu8 x5.f0] 5), hk, hs.cast [3, 4, 5, 9, 13, 14, 15] (by kernel_rfl), hw.pick [1, 2, 3, 4, 5, 6, 7, 8, 9, 0, 10, 11, 12, 13] (by kernel_rfl), (OSl.of1 (E := e5) (z := x5.f0) rfl (by simp [maxLen]))⟩
    refine c_cond0 hs (by kernel_rfl) (t := (x1150 == 20)) (by kernel_rfl) h1582 ?_
    refine c_region ?_
    refine pures hs 2 [3, 4, 5, 9, 13, 14, 15, 77] [(3, (pt b808 0)), (4, (pt b810 0)), (5, (pt b812 0)), (9, (pt b953 0)), (13, vi64 x1150), (14, vi64 0), (15, (pt b1307 0)), (77, (pt b810 0))] (by kernel_rfl) fun a hs => ?_
    refine s_load hs (hw.at_ 7 rfl) 0 (by kernel_rfl) (by kernel_rfl) (v := vu8 x5.f0) (by kernel_rfl) fun a hs => ?_
    refine pures hs 2 [3, 4, 5, 9, 13, 14, 15, 79, 80] [(3, (pt b808 0)), (4, (pt b810 0)), (5, (pt b812 0)), (9, (pt b953 0)), (13, vi64 x1150), (14, vi64 0), (15, (pt b1307 0)), (79, vi64 (IntKind.i64.wrap (x5.f0))), (80, (pt b1307 12))] (by kernel_rfl) fun a hs => ?_
    refine s_store hs hw 0 rfl 12 (by kernel_rfl) (by kernel_rfl) (v := vi64 (IntKind.i64.wrap (x5.f0))) (by kernel_rfl) (by kernel_rfl) (by kernel_rfl) (by kernel_rfl) fun a w hs hw => ?_
    refine s_end ?_
    obtain rfl := someE hx1580
    replace hw := hw.nil
    exact (hJ1581 _ _).2 ⟨0, (IntKind.i64.wrap (x5.f0)), ([]), none, 0, ([]), hk, hs.cast [3, 4, 5, 9, 13, 14, 15] (by kernel_rfl), hw.pick [1, 2, 3, 4, 5, 6, 7, 8, 9, 0, 10, 11, 12, 13] (by kernel_rfl), (OSl.nil _ _)⟩
  intro a w hh
  obtain ⟨x1319, x1320, x1321, p1322, c1323, d1325, hk, hs, hw, h1324⟩ := (hJ1581 _ _).1 hh
  refine c_region ?_
  refine pures hs 1 [3, 4, 5, 9, 13, 14, 15, 81] [(3, (pt b808 0)), (4, (pt b810 0)), (5, (pt b812 0)), (9, (pt b953 0)), (13, vi64 x1150), (14, vi64 0), (15, (pt b1307 0)), (81, (pt b953 0))] (by kernel_rfl) fun a hs => ?_
  refine s_load hs (hw.at_ 0 rfl) 0 (by kernel_rfl) (by kernel_rfl) (v := .agg #[vi64 x1150, vi64 1, vi64 201, vi64 0, vu64 0, vu64 0, vu64 1, vu64 0, vu64 0, vu64 (IntKind.u64.wrap (x6.f0)), vi64 0, vu32 x1319, vi64 x1320, vi64 0, vi64 0, vu64 0, vi64 0, vi64 0, vu64 0, .slice none 0 0, .bool false, vi64 0, .slice none 0 0, .slice none 0 0, .slice p1322 x1321.length c1323]) (by kernel_rfl) fun a hs => ?_
  obtain ⟨ih1349, hle1350, hw, h1351⟩ := (hw.pick [9, 0, 1, 2, 3, 4, 5, 6, 7, 8, 10, 11, 12, 13] (by kernel_rfl)).fz (h1324.mono (Le.refl _))
  obtain ⟨y1352, h1353, hk⟩ := bindE hk
  refine s_call hs (by kernel_rfl) (by kernel_rfl) (caller_Caller_Take_3_s (x4 := y950.2.1) (x6 := 0) (x15 := (pt b962 0)) h1353 (h959.mono (((hle1077.trans hle1080).trans hle1132).trans hle1350)) rfl (h1147.mono hle1350) (h1142.mono hle1350) (h1081.mono (hle1132.trans hle1350)) (RSl.nil _ _ _) (RSl.nil _ _ _) (RSl.nil _ _ _) h1351 (hG.mono (((((hle826.trans hle952).trans hle1077).trans hle1080).trans hle1132).trans hle1350)) ((hw.pick [2, 3, 10, 1, 9, 4, 5, 6, 7, 8, 11, 12] (by kernel_rfl)).pack 5)) fun a w v hv hs => ?_
  obtain ⟨ih1354, p1356, c1357, d1359, p1361, c1362, p1364, c1365, d1367, p1368, c1369, rfl, hw, hle1355, h1358, h1363, h1366, h1370⟩ := hv
  replace hw := hw.unpack 5 rfl
  refine s_end ?_
  refine c_region ?_
  refine pures hs 3 [3, 4, 5, 9, 13, 14] [(3, (pt b808 0)), (4, (pt b810 0)), (5, (pt b812 0)), (9, (pt b953 0)), (13, vi64 x1150), (14, vi64 1)] (by kernel_rfl) fun a hs => ?_
  refine s_end ?_
  refine c_unr ?_
  refine c_seq ?_
  refine c_seq ?_
  refine c_region ?_
  refine pures hs 2 [3, 4, 5, 9, 13, 14, 55] [(3, (pt b808 0)), (4, (pt b810 0)), (5, (pt b812 0)), (9, (pt b953 0)), (13, vi64 x1150), (14, vi64 1), (55, .bool true)] (by kernel_rfl) fun a hs => ?_
  refine s_end ?_
  refine c_condT hs (by kernel_rfl) (by kernel_rfl) ?_
  refine c_skip ?_
  refine c_seq ?_
  refine c_block ?_
  refine c_seq ?_
  refine c_region ?_
  refine pures hs 5 [3, 4, 5, 9, 13, 14, 58, 60, 62] [(3, (pt b808 0)), (4, (pt b810 0)), (5, (pt b812 0)), (9, (pt b953 0)), (13, vi64 x1150), (14, vi64 1), (58, vi64 x1150), (60, vi64 2), (62, (pt b812 1))] (by kernel_rfl) fun a hs => ?_
  refine s_load hs (hw.at_ 7 rfl) 1 (by kernel_rfl) (by kernel_rfl) (v := vu8 x6.f1) (by kernel_rfl) fun a hs => ?_
  refine pures hs 2 [3, 4, 5, 9, 13, 14, 65] [(3, (pt b808 0)), (4, (pt b810 0)), (5, (pt b812 0)), (9, (pt b953 0)), (13, vi64 x1150), (14, vi64 1), (65, .agg #[vi64 x1150, vi64 2, vi64 201, vi64 0, vu64 0, vu64 0, vu64 1, vu64 0, vu64 0, vu64 (IntKind.u64.wrap (x6.f1)), vi64 0, vu32 0, vi64 0, vi64 0, vi64 0, vu64 0, vi64 0, vi64 0, vu64 0, .slice none 0 0, .bool false, vi64 0, .slice none 0 0, .slice none 0 0, .slice none 0 0])] (by kernel_rfl) fun a hs => ?_
  refine s_new hs hw [vi64 0, vi64 0, vi64 0, vi64 0, vu64 0, vu64 0, vu64 0, vu64 0, vu64 0, vu64 0, vi64 0, vu32 0, vi64 0, vi64 0, vi64 0, vu64 0, vi64 0, vi64 0, vu64 0, .slice none 0 0, .bool false, vi64 0, .slice none 0 0, .slice none 0 0, .slice none 0 0] 48 (fun b => (pt b 0)) (by kernel_rfl) (fun _ => by kernel_rfl) fun a w b1373 hs hw => ?_
  refine s_store hs hw 0 rfl 0 (by kernel_rfl) (by kernel_rfl) (v := .agg #[vi64 x1150, vi64 2, vi64 201, vi64 0, vu64 0, vu64 0, vu64 1, vu64 0, vu64 0, vu64 (IntKind.u64.wrap (x6.f1)), vi64 0, vu32 0, vi64 0, vi64 0, vi64 0, vu64 0, vi64 0, vi64 0, vu64 0, .slice none 0 0, .bool false, vi64 0, .slice none 0 0, .slice none 0 0, .slice none 0 0]) (by kernel_rfl) (by kernel_rfl) (by kernel_rfl) (by kernel_rfl) fun a w hs hw => ?_
  refine s_end ?_
  obtain ⟨y1568, hx1569, hk⟩ := bindE hk
  obtain ⟨J1570, hJ1570⟩ : ∃ J : Act → World → Prop, ∀ a w, J a w ↔ (∃ (x1385 : Int) (x1386 : Int) (x1387 : List Int) (p1388 : Option Addr) (c1389 : Nat) (d1391 : Ch), catenarylaw26_CallerOnce_r16 k y950 y1130 y1352 x1150 x6 x5 x1385 x1386 x1387 = some r ∧ Sees a 140 [(3, (pt b808 0)), (4, (pt b810 0)), (5, (pt b812 0)), (9, (pt b953 0)), (13, vi64 x1150), (14, vi64 1), (15, (pt b1373 0))] ∧ St g w [bx b1373 [vi64 x1150, vi64 2, vi64 201, vi64 0, vu64 0, vu64 0, vu64 1, vu64 0, vu64 0, vu64 (IntKind.u64.wrap (x6.f1)), vi64 0, vu32 x1385, vi64 x1386, vi64 0, vi64 0, vu64 0, vi64 0, vi64 0, vu64 0, .slice none 0 0, .bool false, vi64 0, .slice none 0 0, .slice none 0 0, .slice p1388 x1387.length c1389] 48, bx b953 [vi64 y950.1, vi64 y950.2.1, vu64 y1130.2.2.1, vi64 0, (pt b955 0), vi64 y1130.2.2.2.1, vu32 y1130.2.2.2.2.1, vu64 y1130.2.2.2.2.2.1, .slice p1145 y1130.2.2.2.2.2.2.1.length c1146, vi64 y1130.2.2.2.2.2.2.2, (pt b1138 0), vu64 y1352.2.1, vi64 y1352.2.2.1, vu64 y1352.2.2.2.1, .slice p1361 y1352.2.2.2.2.1.length c1362] 85, bx b955 [.slice p1364 y1352.2.2.2.2.2.1.length c1365, (pt b962 0)] 113, bx b1138 [vu32 y1352.2.2.2.2.2.2.1, vi32 0, vu32 0, vu32 y1352.2.2.2.2.2.2.2.1, vi64 y1352.2.2.2.2.2.2.2.2.1, vu64 y1352.2.2.2.2.2.2.2.2.2.1, .slice p1368 y1352.2.2.2.2.2.2.2.2.2.2.length c1369] 126, bx b962 [vu32 0, vi32 0, vu32 0, .func (.func 49) #[] #[(pt b964 0)], vi32 0, .slice p966 y950.2.2.2.2.1.length c967] 151, bx b964 [vi64 y950.2.2.2.1] 3, bx b812 [vu8 x6.f0, vu8 x6.f1] 27, bx b810 [vu8 x5.f0, vu8 x5.f1] 27, bx b808 [vi64 x1.f0, vu32 x1.f1, vu64 x1.f2, .slice p2 x1.f3.length c3, vi64 x1.f4] 26, d1391, d1367, d969, F] ih1354 ∧ OSl e5 ih1354 p1388 c1389 x1387 d1391) := ⟨_, fun _ _ => Iff.rfl⟩
  refine c_seqJ J1570 ?_ ?_
  · refine c_seq ?_
    refine c_region ?_
    refine pures hs 2 [3, 4, 5, 9, 13, 14, 15, 67] [(3, (pt b808 0)), (4, (pt b810 0)), (5, (pt b812 0)), (9, (pt b953 0)), (13, vi64 x1150), (14, vi64 1), (15, (pt b1373 0)), (67, .bool (x1150 == 20))] (by kernel_rfl) fun a hs => ?_
    refine s_end ?_
    rcases ifbE hx1569 with ⟨h1571, hx1569⟩ | ⟨h1571, hx1569⟩
    · refine c_cond1 hs (by kernel_rfl) (t := (x1150 == 20)) (by kernel_rfl) h1571 ?_
      refine c_seq ?_
      refine c_region ?_
      refine pures hs 1 [3, 4, 5, 9, 13, 14, 15, 68] [(3, (pt b808 0)), (4, (pt b810 0)), (5, (pt b812 0)), (9, (pt b953 0)), (13, vi64 x1150), (14, vi64 1), (15, (pt b1373 0)), (68, (pt b808 1))] (by kernel_rfl) fun a hs => ?_
      refine s_load hs (hw.at_ 10 rfl) 1 (by kernel_rfl) (by kernel_rfl) (v := vu32 x1.f1) (by kernel_rfl) fun a hs => ?_
      refine pures hs 1 [3, 4, 5, 9, 13, 14, 15, 69, 70] [(3, (pt b808 0)), (4, (pt b810 0)), (5, (pt b812 0)), (9, (pt b953 0)), (13, vi64 x1150), (14, vi64 1), (15, (pt b1373 0)), (69, vu32 x1.f1), (70, (pt b1373 11))] (by kernel_rfl) fun a hs => ?_
      refine s_store hs hw 0 rfl 11 (by kernel_rfl) (by kernel_rfl) (v := vu32 x1.f1) (by kernel_rfl) (by kernel_rfl) (by kernel_rfl) (by kernel_rfl) fun a w hs hw => ?_
      refine s_end ?_
      refine c_region ?_
      refine pures hs 2 [3, 4, 5, 9, 13, 14, 15, 72] [(3, (pt b808 0)), (4, (pt b810 0)), (5, (pt b812 0)), (9, (pt b953 0)), (13, vi64 x1150), (14, vi64 1), (15, (pt b1373 0)), (72, (pt b810 1))] (by kernel_rfl) fun a hs => ?_
      refine s_load hs (hw.at_ 9 rfl) 1 (by kernel_rfl) (by kernel_rfl) (v := vu8 x5.f1) (by kernel_rfl) fun a hs => ?_
      refine s_new hs hw [vu8 x5.f1] 5 (fun b => .slice (some ⟨b, 0, none⟩) 1 1) (by kernel_rfl) (fun _ => by kernel_rfl) fun a w b1574 hs hw => ?_
      refine pures hs 1 [3, 4, 5, 9, 13, 14, 15, 74, 75] [(3, (pt b808 0)), (4, (pt b810 0)), (5, (pt b812 0)), (9, (pt b953 0)), (13, vi64 x1150), (14, vi64 1), (15, (pt b1373 0)), (74, .slice (some ⟨b1574, 0, none⟩) 1 1), (75, (pt b1373 24))] (by kernel_rfl) fun a hs => ?_
      refine s_store hs hw 1 rfl 24 (by kernel_rfl) (by kernel_rfl) (v := .slice (some ⟨b1574, 0, none⟩) 1 1) (by kernel_rfl) (by kernel_rfl) (by kernel_rfl) (by kernel_rfl) fun a w hs hw => ?_
      refine s_end ?_
      obtain rfl := someE hx1569
      exact (hJ1570 _ _).2 ⟨x1.f1, 0, ([x5.f1]), (some ⟨b1574, 0, none⟩), 1, (bx b1574 [vu8 x5.f1] 5), hk, hs.cast [3, 4, 5, 9, 13, 14, 15] (by kernel_rfl), hw.pick [1, 3, 4, 6, 7, 8, 9, 10, 11, 0, 5, 12, 13] (by kernel_rfl), (OSl.of1 (E := e5) (z := x5.f1) rfl (by simp [maxLen]))⟩
    refine c_cond0 hs (by kernel_rfl) (t := (x1150 == 20)) (by kernel_rfl) h1571 ?_
    refine c_region ?_
    refine pures hs 2 [3, 4, 5, 9, 13, 14, 15, 77] [(3, (pt b808 0)), (4, (pt b810 0)), (5, (pt b812 0)), (9, (pt b953 0)), (13, vi64 x1150), (14, vi64 1), (15, (pt b1373 0)), (77, (pt b810 1))] (by kernel_rfl) fun a hs => ?_
    refine s_load hs (hw.at_ 9 rfl) 1 (by kernel_rfl) (by kernel_rfl) (v := vu8 x5.f1) (by kernel_rfl) fun a hs => ?_
    refine pures hs 2 [3, 4, 5, 9, 13, 14, 15, 79, 80] [(3, (pt b808 0)), (4, (pt b810 0)), (5, (pt b812 0)), (9, (pt b953 0)), (13, vi64 x1150), (14, vi64 1), (15, (pt b1373 0)), (79, vi64 (IntKind.i64.wrap (x5.f1))), (80, (pt b1373 12))] (by kernel_rfl) fun a hs => ?_
    refine s_store hs hw 0 rfl 12 (by kernel_rfl) (by kernel_rfl) (v := vi64 (IntKind.i64.wrap (x5.f1))) (by kernel_rfl) (by kernel_rfl) (by kernel_rfl) (by kernel_rfl) fun a w hs hw => ?_
    refine s_end ?_
    obtain rfl := someE hx1569
    replace hw := hw.nil
    exact (hJ1570 _ _).2 ⟨0, (IntKind.i64.wrap (x5.f1)), ([]), none, 0, ([]), hk, hs.cast [3, 4, 5, 9, 13, 14, 15] (by kernel_rfl), hw.pick [1, 3, 4, 6, 7, 8, 9, 10, 11, 0, 5, 12, 13] (by kernel_rfl), (OSl.nil _ _)⟩
  intro a w hh
  obtain ⟨x1385, x1386, x1387, p1388, c1389, d1391, hk, hs, hw, h1390⟩ := (hJ1570 _ _).1 hh
  refine c_region ?_
  refine pures hs 1 [3, 4, 5, 9, 13, 14, 15, 81] [(3, (pt b808 0)), (4, (pt b810 0)), (5, (pt b812 0)), (9, (pt b953 0)), (13, vi64 x1150), (14, vi64 1), (15, (pt b1373 0)), (81, (pt b953 0))] (by kernel_rfl) fun a hs => ?_
  refine s_load hs (hw.at_ 0 rfl) 0 (by kernel_rfl) (by kernel_rfl) (v := .agg #[vi64 x1150, vi64 2, vi64 201, vi64 0, vu64 0, vu64 0, vu64 1, vu64 0, vu64 0, vu64 (IntKind.u64.wrap (x6.f1)), vi64 0, vu32 x1385, vi64 x1386, vi64 0, vi64 0, vu64 0, vi64 0, vi64 0, vu64 0, .slice none 0 0, .bool false, vi64 0, .slice none 0 0, .slice none 0 0, .slice p1388 x1387.length c1389]) (by kernel_rfl) fun a hs => ?_
  obtain ⟨ih1415, hle1416, hw, h1417⟩ := (hw.pick [9, 0, 1, 2, 3, 4, 5, 6, 7, 8, 10, 11, 12] (by kernel_rfl)).fz (h1390.mono (Le.refl _))
  obtain ⟨y1418, h1419, hk⟩ := bindE hk
  refine s_call hs (by kernel_rfl) (by kernel_rfl) (caller_Caller_Take_4_s (x4 := y950.2.1) (x6 := 0) (x15 := (pt b962 0)) h1419 (h1366.mono hle1416) rfl (h1147.mono ((hle1350.trans hle1355).trans hle1416)) (h1370.mono hle1416) (h1363.mono hle1416) (RSl.nil _ _ _) (RSl.nil _ _ _) (RSl.nil _ _ _) h1417 (hG.mono (((((((hle826.trans hle952).trans hle1077).trans hle1080).trans hle1132).trans hle1350).trans hle1355).trans hle1416)) ((hw.pick [1, 2, 9, 3, 4, 5, 6, 7, 8, 10, 11] (by kernel_rfl)).pack 4)) fun a w v hv hs => ?_
  obtain ⟨ih1420, p1422, c1423, d1425, p1427, c1428, p1430, c1431, d1433, p1434, c1435, rfl, hw, hle1421, h1424, h1429, h1432, h1436⟩ := hv
  replace hw := hw.unpack 5 rfl
  refine s_end ?_
  refine c_region ?_
  refine pures hs 3 [3, 4, 5, 9, 13, 14] [(3, (pt b808 0)), (4, (pt b810 0)), (5, (pt b812 0)), (9, (pt b953 0)), (13, vi64 x1150), (14, vi64 2)] (by kernel_rfl) fun a hs => ?_
  refine s_end ?_
  refine c_unr ?_
  refine c_seq ?_
  refine c_seq ?_
  refine c_region ?_
  refine pures hs 2 [3, 4, 5, 9, 13, 14, 55] [(3, (pt b808 0)), (4, (pt b810 0)), (5, (pt b812 0)), (9, (pt b953 0)), (13, vi64 x1150), (14, vi64 2), (55, .bool false)] (by kernel_rfl) fun a hs => ?_
  refine s_end ?_
  refine c_condF hs (by kernel_rfl) (by kernel_rfl) ?_
  refine c_exit ?_
  refine c_seq ?_
  refine c_region ?_
  refine pures hs 1 [4, 5, 9, 13, 85] [(4, (pt b810 0)), (5, (pt b812 0)), (9, (pt b953 0)), (13, vi64 x1150), (85, (pt b953 0))] (by kernel_rfl) fun a hs => ?_
  obtain ⟨y1446, h1447, hk⟩ := bindE hk
  refine s_call hs (by kernel_rfl) (by kernel_rfl) (caller_Caller_Reply_3_s (x3 := y950.1) (x4 := y950.2.1) (x5 := y1130.2.2.1) (x6 := 0) (x9 := y1418.2.2.2.2.2.1) (x15 := (pt b962 0)) (x17 := y1130.2.2.2.1) (x18 := y1130.2.2.2.2.1) (x19 := y1130.2.2.2.2.2.1) (x20 := y1130.2.2.2.2.2.2.1) (x24 := y1130.2.2.2.2.2.2.2) (x27 := y1418.2.2.2.2.2.2.1) (x35 := y1418.2.1) (x36 := y1418.2.2.1) (x37 := y1418.2.2.2.1) (x38 := y1418.2.2.2.2.1) h1447 h1432 rfl (h1147.mono (((hle1350.trans hle1355).trans hle1416).trans hle1421)) h1436 h1429 ((hw.pick [1, 2, 3, 4, 5, 6, 7, 8, 10, 11] (by kernel_rfl)).pack 4)) fun a w v hv hs => ?_
  obtain ⟨ih1448, p1450, c1451, rfl, hw, hle1449, h1452⟩ := hv
  replace hw := hw.unpack 4 rfl
  refine pures hs 3 [4, 5, 9, 13, 87, 88] [(4, (pt b810 0)), (5, (pt b812 0)), (9, (pt b953 0)), (13, vi64 x1150), (87, .agg #[vi64 y1446.1.f0, vu64 y1446.1.f1, .slice p1450 y1446.1.f2.length c1451]), (88, .bool y1446.2)] (by kernel_rfl) fun a hs => ?_
  refine s_new hs hw [vi64 0, vu64 0, .slice none 0 0] 51 (fun b => (pt b 0)) (by kernel_rfl) (fun _ => by kernel_rfl) fun a w b1453 hs hw => ?_
  refine s_store hs hw 0 rfl 0 (by kernel_rfl) (by kernel_rfl) (v := .agg #[vi64 y1446.1.f0, vu64 y1446.1.f1, .slice p1450 y1446.1.f2.length c1451]) (by kernel_rfl) (by kernel_rfl) (by kernel_rfl) (by kernel_rfl) fun a w hs hw => ?_
  refine pures hs 1 [4, 5, 9, 13, 16, 17] [(4, (pt b810 0)), (5, (pt b812 0)), (9, (pt b953 0)), (13, vi64 x1150), (16, (pt b1453 0)), (17, .bool y1446.2)] (by kernel_rfl) fun a hs => ?_
  refine s_end ?_
  refine c_seq ?_
  refine c_seq ?_
  obtain ⟨y1550, hx1551, hk⟩ := bindE hk
  obtain ⟨J1552, hJ1552⟩ : ∃ J : Act → World → Prop, ∀ a w, J a w ↔ (∃ (x1485 : Bool) (ih1483 : IH), catenarylaw26_CallerOnce_r15 k x1150 y1446 x5 x1485 = some r ∧ Sees a 140 [(4, (pt b810 0)), (13, vi64 x1150), (16, (pt b1453 0)), (108, .bool x1485)] ∧ St g w [bx b1453 [vi64 y1446.1.f0, vu64 y1446.1.f1, .slice p1450 y1446.1.f2.length c1451] 51, bx b810 [vu8 x5.f0, vu8 x5.f1] 27, F] ih1483 ∧ Le ih1448 ih1483) := ⟨_, fun _ _ => Iff.rfl⟩
  refine c_regJ J1552 ?_ ?_
  · refine pures hs 3 [4, 5, 9, 13, 16, 91] [(4, (pt b810 0)), (5, (pt b812 0)), (9, (pt b953 0)), (13, vi64 x1150), (16, (pt b1453 0)), (91, .bool (!y1446.2))] (by kernel_rfl) fun a hs => ?_
    rcases ifbE hx1551 with ⟨h1553, hx1551⟩ | ⟨h1553, hx1551⟩
    · replace hs := hs.altB 91 true (by kernel_rfl) h1553
      refine pures hs 17 [4, 13, 16, 108] [(4, (pt b810 0)), (13, vi64 x1150), (16, (pt b1453 0)), (108, .bool true)] (by kernel_rfl) fun a hs => ?_
      refine s_end ?_
      obtain rfl := someE hx1551
      exact (hJ1552 _ _).2 ⟨true, ih1448, hk, hs.cast [4, 13, 16, 108] (by kernel_rfl), hw.pick [0, 8, 10] (by kernel_rfl), (Le.refl _)⟩
    replace hs := hs.altB 91 false (by kernel_rfl) h1553
    refine pures hs 1 [4, 5, 9, 13, 16, 91, 92] [(4, (pt b810 0)), (5, (pt b812 0)), (9, (pt b953 0)), (13, vi64 x1150), (16, (pt b1453 0)), (91, .bool false), (92, (pt b953 0))] (by kernel_rfl) fun a hs => ?_
    obtain ⟨y1554, h1555, hx1551⟩ := bindE hx1551
    refine s_call hs (by kernel_rfl) (by kernel_rfl) (caller_Caller_Busy_6_s (x3 := y950.1) (x4 := y950.2.1) (x5 := y1130.2.2.1) (x6 := 0) (x9 := y1418.2.2.2.2.2.1) (x15 := (pt b962 0)) (x17 := y1130.2.2.2.1) (x18 := y1130.2.2.2.2.1) (x19 := y1130.2.2.2.2.2.1) (x20 := y1130.2.2.2.2.2.2.1) (x24 := y1130.2.2.2.2.2.2.2) (x27 := y1418.2.2.2.2.2.2.1) (x35 := y1418.2.1) (x36 := y1418.2.2.1) (x37 := y1418.2.2.2.1) (x38 := y1418.2.2.2.2.1) h1555 (h1432.mono hle1449) rfl (h1147.mono ((((hle1350.trans hle1355).trans hle1416).trans hle1421).trans hle1449)) (h1436.mono hle1449) (h1429.mono hle1449) ((hw.pick [1, 2, 3, 4, 0, 5, 6, 7, 8, 9, 10] (by kernel_rfl)).pack 4)) fun a w v hv hs => ?_
    obtain ⟨rfl, hw⟩ := hv
    replace hw := hw.unpack 4 rfl
    refine pures hs 2 [4, 5, 9, 13, 16, 95] [(4, (pt b810 0)), (5, (pt b812 0)), (9, (pt b953 0)), (13, vi64 x1150), (16, (pt b1453 0)), (95, .bool y1554)] (by kernel_rfl) fun a hs => ?_
    rcases ifbE hx1551 with ⟨h1556, hx1551⟩ | ⟨h1556, hx1551⟩
    · replace hs := hs.altB 95 true (by kernel_rfl) h1556
      refine pures hs 13 [4, 13, 16, 108] [(4, (pt b810 0)), (13, vi64 x1150), (16, (pt b1453 0)), (108, .bool true)] (by kernel_rfl) fun a hs => ?_
      refine s_end ?_
      obtain rfl := someE hx1551
      exact (hJ1552 _ _).2 ⟨true, ih1448, hk, hs.cast [4, 13, 16, 108] (by kernel_rfl), hw.pick [4, 8, 10] (by kernel_rfl), (Le.refl _)⟩
    replace hs := hs.altB 95 false (by kernel_rfl) h1556
    refine pures hs 1 [4, 5, 9, 13, 16, 95, 96] [(4, (pt b810 0)), (5, (pt b812 0)), (9, (pt b953 0)), (13, vi64 x1150), (16, (pt b1453 0)), (95, .bool false), (96, (pt b1453 1))] (by kernel_rfl) fun a hs => ?_
    refine s_load hs (hw.at_ 4 rfl) 1 (by kernel_rfl) (by kernel_rfl) (v := vu64 y1446.1.f1) (by kernel_rfl) fun a hs => ?_
    refine pures hs 1 [4, 9, 13, 16, 95, 97, 98] [(4, (pt b810 0)), (9, (pt b953 0)), (13, vi64 x1150), (16, (pt b1453 0)), (95, .bool false), (97, vu64 y1446.1.f1), (98, (pt b812 0))] (by kernel_rfl) fun a hs => ?_
    refine s_load hs (hw.at_ 7 rfl) 0 (by kernel_rfl) (by kernel_rfl) (v := vu8 x6.f0) (by kernel_rfl) fun a hs => ?_
    refine pures hs 4 [4, 9, 13, 16, 103] [(4, (pt b810 0)), (9, (pt b953 0)), (13, vi64 x1150), (16, (pt b1453 0)), (103, .bool (y1446.1.f1 != (IntKind.u64.wrap (x6.f0))))] (by kernel_rfl) fun a hs => ?_
    rcases ifbE hx1551 with ⟨h1557, hx1551⟩ | ⟨h1557, hx1551⟩
    · replace hs := hs.altB 103 true (by kernel_rfl) h1557
      refine pures hs 5 [4, 13, 16, 108] [(4, (pt b810 0)), (13, vi64 x1150), (16, (pt b1453 0)), (108, .bool true)] (by kernel_rfl) fun a hs => ?_
      refine s_end ?_
      obtain rfl := someE hx1551
      exact (hJ1552 _ _).2 ⟨true, ih1448, hk, hs.cast [4, 13, 16, 108] (by kernel_rfl), hw.pick [4, 8, 10] (by kernel_rfl), (Le.refl _)⟩
    replace hs := hs.altB 103 false (by kernel_rfl) h1557
    refine pures hs 1 [4, 13, 16, 103, 104] [(4, (pt b810 0)), (13, vi64 x1150), (16, (pt b1453 0)), (103, .bool false), (104, (pt b953 0))] (by kernel_rfl) fun a hs => ?_
    obtain ⟨y1558, h1559, hx1551⟩ := bindE hx1551
    refine s_call hs (by kernel_rfl) (by kernel_rfl) (caller_Caller_Tick_6_s (x15 := (pt b962 0)) (x27 := y1418.2.2.2.2.2.2.1) (x35 := y1418.2.1) (x36 := y1418.2.2.1) (x37 := y1418.2.2.2.1) (x38 := y1418.2.2.2.2.1) h1559 (h1432.mono hle1449) rfl (h1147.mono ((((hle1350.trans hle1355).trans hle1416).trans hle1421).trans hle1449)) (h1436.mono hle1449) (h1429.mono hle1449) (hG.mono (((((((((hle826.trans hle952).trans hle1077).trans hle1080).trans hle1132).trans hle1350).trans hle1355).trans hle1416).trans hle1421).trans hle1449)) ((hw.pick [0, 1, 2, 3, 4, 5, 6, 8, 9, 10] (by kernel_rfl)).pack 4)) fun a w v hv hs => ?_
    obtain ⟨ih1560, p1562, c1563, d1565, rfl, hw, hle1561, h1564⟩ := hv
    replace hw := hw.unpack 5 rfl
    refine pures hs 3 [4, 13, 16, 108] [(4, (pt b810 0)), (13, vi64 x1150), (16, (pt b1453 0)), (108, .bool ((y1558.1.length : Int) != 0))] (by kernel_rfl) fun a hs => ?_
    refine s_end ?_
    obtain rfl := someE hx1551
    exact (hJ1552 _ _).2 ⟨((y1558.1.length : Int) != 0), ih1560, hk, hs.cast [4, 13, 16, 108] (by kernel_rfl), hw.pick [5, 8, 10] (by kernel_rfl), hle1561⟩
  intro a w hh
  obtain ⟨x1485, ih1483, hk, hs, hw, hle1484⟩ := (hJ1552 _ _).1 hh
  rcases ifbE hk with ⟨h1486, hk⟩ | ⟨h1486, hk⟩
  · refine c_cond1 hs (by kernel_rfl) (t := x1485) (by kernel_rfl) h1486 ?_
    refine c_seq ?_
    refine c_region ?_
    refine pures hs 1 [6] [(6, .bool false)] (by kernel_rfl) fun a hs => ?_
    refine s_end ?_
    refine c_ret ?_
    obtain rfl := someE hk
    refine hQ _ _ (f_ret1 hs rfl (v := .bool false) (by kernel_rfl) ⟨ih1483, rfl, hw.pick [2] (by kernel_rfl), ((((((((((hle826.trans hle952).trans hle1077).trans hle1080).trans hle1132).trans hle1350).trans hle1355).trans hle1416).trans hle1421).trans hle1449).trans hle1484)⟩)
  refine c_cond0 hs (by kernel_rfl) (t := x1485) (by kernel_rfl) h1486 ?_
  refine c_skip ?_
  refine c_seq ?_
  refine c_seq ?_
  refine c_region ?_
  refine pures hs 2 [4, 16, 110] [(4, (pt b810 0)), (16, (pt b1453 0)), (110, .bool (x1150 == 20))] (by kernel_rfl) fun a hs => ?_
  refine s_end ?_
  rcases ifbE hk with ⟨h1487, hk⟩ | ⟨h1487, hk⟩
  · refine c_cond1 hs (by kernel_rfl) (t := (x1150 == 20)) (by kernel_rfl) h1487 ?_
    refine c_seq ?_
    obtain ⟨y1511, hx1512, hk⟩ := bindE hk
    obtain ⟨J1513, hJ1513⟩ : ∃ J : Act → World → Prop, ∀ a w, J a w ↔ (∃ (x1510 : Bool) (ih1508 : IH), catenarylaw26_CallerOnce_r13 x1510 = some r ∧ Sees a 140 [(6, .bool x1510)] ∧ St g w [F] ih1508 ∧ Le ih1483 ih1508) := ⟨_, fun _ _ => Iff.rfl⟩
    refine c_regJ J1513 ?_ ?_
    · refine pures hs 1 [4, 16, 111] [(4, (pt b810 0)), (16, (pt b1453 0)), (111, (pt b1453 0))] (by kernel_rfl) fun a hs => ?_
      refine s_load hs (hw.at_ 0 rfl) 0 (by kernel_rfl) (by kernel_rfl) (v := vi64 y1446.1.f0) (by kernel_rfl) fun a hs => ?_
      refine pures hs 2 [4, 16, 114] [(4, (pt b810 0)), (16, (pt b1453 0)), (114, .bool (y1446.1.f0 == 0))] (by kernel_rfl) fun a hs => ?_
      rcases ifbE hx1512 with ⟨h1514, hx1512⟩ | ⟨h1514, hx1512⟩
      · replace hs := hs.altB 114 true (by kernel_rfl) h1514
        refine pures hs 1 [4, 114, 115] [(4, (pt b810 0)), (114, .bool true), (115, (pt b1453 2))] (by kernel_rfl) fun a hs => ?_
        refine s_load hs (hw.at_ 0 rfl) 2 (by kernel_rfl) (by kernel_rfl) (v := .slice p1450 y1446.1.f2.length c1451) (by kernel_rfl) fun a hs => ?_
        refine pures hs 1 [114, 116, 117] [(114, .bool true), (116, .slice p1450 y1446.1.f2.length c1451), (117, (pt b810 0))] (by kernel_rfl) fun a hs => ?_
        refine s_load hs (hw.at_ 1 rfl) 0 (by kernel_rfl) (by kernel_rfl) (v := vu8 x5.f0) (by kernel_rfl) fun a hs => ?_
        refine s_new hs hw [vu8 x5.f0] 5 (fun b => .slice (some ⟨b, 0, none⟩) 1 1) (by kernel_rfl) (fun _ => by kernel_rfl) fun a w b1515 hs hw => ?_
        obtain ⟨y1517, h1518, hx1512⟩ := bindE hx1512
        refine s_call hs (by kernel_rfl) (by kernel_rfl) (catenaryref01_Same_s h1518 (h1452.mono hle1484) (nilSub _) ((OSl.of1 (E := e5) (z := x5.f0) rfl (by simp [maxLen])).read) (memF 0 rfl) ((hw.pick [0, 3] (by kernel_rfl)).pack 0)) fun a w v hv hs => ?_
        obtain ⟨rfl, hw⟩ := hv
        replace hw := hw.unpack 0 rfl
        refine pures hs 2 [122] [(122, .bool y1517)] (by kernel_rfl) fun a hs => ?_
        rcases ifbE hx1512 with ⟨h1519, hx1512⟩ | ⟨h1519, hx1512⟩
        · replace hs := hs.altB 122 true (by kernel_rfl) h1519
          obtain ⟨y1520, h1521, hx1512⟩ := bindE hx1512
          refine s_call hs (by kernel_rfl) (by kernel_rfl) (catenarylaw26_awake_s h1521 (hG.mono ((((((((((hle826.trans hle952).trans hle1077).trans hle1080).trans hle1132).trans hle1350).trans hle1355).trans hle1416).trans hle1421).trans hle1449).trans hle1484)) ((hw.pick [1] (by kernel_rfl)).pack 0)) fun a w v hv hs => ?_
          obtain ⟨ih1522, rfl, hw, hle1523⟩ := hv
          replace hw := hw.unpack 0 rfl
          refine pures hs 2 [6] [(6, .bool y1520)] (by kernel_rfl) fun a hs => ?_
          refine s_end ?_
          obtain rfl := someE hx1512
          exact (hJ1513 _ _).2 ⟨y1520, ih1522, hk, hs.cast [6] (by kernel_rfl), hw.pick [0] (by kernel_rfl), hle1523⟩
        replace hs := hs.altB 122 false (by kernel_rfl) h1519
        refine pures hs 3 [6] [(6, .bool false)] (by kernel_rfl) fun a hs => ?_
        refine s_end ?_
        obtain rfl := someE hx1512
        exact (hJ1513 _ _).2 ⟨false, ih1483, hk, hs.cast [6] (by kernel_rfl), hw.pick [1] (by kernel_rfl), (Le.refl _)⟩
      replace hs := hs.altB 114 false (by kernel_rfl) h1514
      refine pures hs 11 [6] [(6, .bool false)] (by kernel_rfl) fun a hs => ?_
      refine s_end ?_
      obtain rfl := someE hx1512
      exact (hJ1513 _ _).2 ⟨false, ih1483, hk, hs.cast [6] (by kernel_rfl), hw.pick [2] (by kernel_rfl), (Le.refl _)⟩
    intro a w hh
    obtain ⟨x1510, ih1508, hk, hs, hw, hle1509⟩ := (hJ1513 _ _).1 hh
    refine c_ret ?_
    obtain rfl := someE hk
    refine hQ _ _ (f_ret1 hs rfl (v := .bool x1510) (by kernel_rfl) ⟨ih1508, rfl, hw.pick [0] (by kernel_rfl), (((((((((((hle826.trans hle952).trans hle1077).trans hle1080).trans hle1132).trans hle1350).trans hle1355).trans hle1416).trans hle1421).trans hle1449).trans hle1484).trans hle1509)⟩)
  refine c_cond0 hs (by kernel_rfl) (t := (x1150 == 20)) (by kernel_rfl) h1487 ?_
  refine c_skip ?_
  refine c_seq ?_
  obtain ⟨y1540, hx1541, hk⟩ := bindE hk
  obtain ⟨J1542, hJ1542⟩ : ∃ J : Act → World → Prop, ∀ a w, J a w ↔ (∃ (x1539 : Bool) (ih1537 : IH), catenarylaw26_CallerOnce_r14 x1539 = some r ∧ Sees a 140 [(6, .bool x1539)] ∧ St g w [F] ih1537 ∧ Le ih1483 ih1537) := ⟨_, fun _ _ => Iff.rfl⟩
  refine c_regJ J1542 ?_ ?_
  · refine pures hs 1 [4, 16, 125] [(4, (pt b810 0)), (16, (pt b1453 0)), (125, (pt b1453 0))] (by kernel_rfl) fun a hs => ?_
    refine s_load hs (hw.at_ 0 rfl) 0 (by kernel_rfl) (by kernel_rfl) (v := vi64 y1446.1.f0) (by kernel_rfl) fun a hs => ?_
    refine pures hs 1 [16, 126, 127] [(16, (pt b1453 0)), (126, vi64 y1446.1.f0), (127, (pt b810 0))] (by kernel_rfl) fun a hs => ?_
    refine s_load hs (hw.at_ 1 rfl) 0 (by kernel_rfl) (by kernel_rfl) (v := vu8 x5.f0) (by kernel_rfl) fun a hs => ?_
    refine pures hs 3 [16, 131] [(16, (pt b1453 0)), (131, .bool (y1446.1.f0 == (IntKind.i64.wrap (x5.f0))))] (by kernel_rfl) fun a hs => ?_
    rcases ifbE hx1541 with ⟨h1543, hx1541⟩ | ⟨h1543, hx1541⟩
    · replace hs := hs.altB 131 true (by kernel_rfl) h1543
      refine pures hs 1 [131, 132] [(131, .bool true), (132, (pt b1453 2))] (by kernel_rfl) fun a hs => ?_
      refine s_load hs (hw.at_ 0 rfl) 2 (by kernel_rfl) (by kernel_rfl) (v := .slice p1450 y1446.1.f2.length c1451) (by kernel_rfl) fun a hs => ?_
      refine pures hs 4 [137] [(137, .bool ((y1446.1.f2.length : Int) == 0))] (by kernel_rfl) fun a hs => ?_
      rcases ifbE hx1541 with ⟨h1544, hx1541⟩ | ⟨h1544, hx1541⟩
      · replace hs := hs.altB 137 true (by kernel_rfl) h1544
        obtain ⟨y1545, h1546, hx1541⟩ := bindE hx1541
        refine s_call hs (by kernel_rfl) (by kernel_rfl) (catenarylaw26_awake_s h1546 (hG.mono ((((((((((hle826.trans hle952).trans hle1077).trans hle1080).trans hle1132).trans hle1350).trans hle1355).trans hle1416).trans hle1421).trans hle1449).trans hle1484)) ((hw.pick [2] (by kernel_rfl)).pack 0)) fun a w v hv hs => ?_
        obtain ⟨ih1547, rfl, hw, hle1548⟩ := hv
        replace hw := hw.unpack 0 rfl
        refine pures hs 2 [6] [(6, .bool y1545)] (by kernel_rfl) fun a hs => ?_
        refine s_end ?_
        obtain rfl := someE hx1541
        exact (hJ1542 _ _).2 ⟨y1545, ih1547, hk, hs.cast [6] (by kernel_rfl), hw.pick [0] (by kernel_rfl), hle1548⟩
      replace hs := hs.altB 137 false (by kernel_rfl) h1544
      refine pures hs 3 [6] [(6, .bool false)] (by kernel_rfl) fun a hs => ?_
      refine s_end ?_
      obtain rfl := someE hx1541
      exact (hJ1542 _ _).2 ⟨false, ih1483, hk, hs.cast [6] (by kernel_rfl), hw.pick [2] (by kernel_rfl), (Le.refl _)⟩
    replace hs := hs.altB 131 false (by kernel_rfl) h1543
    refine pures hs 9 [6] [(6, .bool false)] (by kernel_rfl) fun a hs => ?_
    refine s_end ?_
    obtain rfl := someE hx1541
    exact (hJ1542 _ _).2 ⟨false, ih1483, hk, hs.cast [6] (by kernel_rfl), hw.pick [2] (by kernel_rfl), (Le.refl _)⟩
  intro a w hh
  obtain ⟨x1539, ih1537, hk, hs, hw, hle1538⟩ := (hJ1542 _ _).1 hh
  refine c_ret ?_
  obtain rfl := someE hk
  refine hQ _ _ (f_ret1 hs rfl (v := .bool x1539) (by kernel_rfl) ⟨ih1537, rfl, hw.pick [0] (by kernel_rfl), (((((((((((hle826.trans hle952).trans hle1077).trans hle1080).trans hle1132).trans hle1350).trans hle1355).trans hle1416).trans hle1421).trans hle1449).trans hle1484).trans hle1538)⟩)
end Go.Proofs.YteiinkhbgpldeaaGreatDoor.Sx
