/- The walk of WindowNil: each Go function that it calls, as a plain function, and the proof that the call computes it. Printed by the program gen.py.
   Conditions: those that each theorem states ahead of its colon, and no other. -/
import Derived.Test.YtfpllbnljlbepaaGreatDoorWWindowNil1
namespace Go.Proofs.YtfpllbnljlbepaaGreatDoor.Sx
open Go Go.Proofs
set_option maxRecDepth 100000
set_option linter.unusedVariables false
def catenarylaw20_WindowNil_r2 (x189 : Bool) : Option Bool :=
  some x189
def catenarylaw20_WindowNil (k : Nat) : Option Bool :=
  (window_Window_From).bind fun y126 =>
  ((window_Window_Reach).bind fun y195 =>
    if ((y195.length : Int) == 0) = true then (
      if ((y126.length : Int) == 0) = true then (
        (catenarylaw20_awake k).bind fun y216 =>
        some y216)
      else some false)
    else some false : Option Bool).bind fun s220 => catenarylaw20_WindowNil_r2 s220
theorem catenarylaw20_WindowNil_s {k : Nat} {x1 : M26} {x5 : Int} {x6 : Int} {p2 : Option Addr} {c3 : Nat} {r : Bool} (hk : catenarylaw20_WindowNil k = some r) {g w : World} {F : Ch} {ih : IH} (h4 : RSl e5 ih [] p2 c3 x1.f6) (hG : Glob 0 gl0 110 ih) (hw : St g w [F] ih) :
    CallsR Tryz.prog 7 #[.agg #[.int .u64 x1.f0, .int .i64 x1.f1, .int .u64 x1.f2, .int .i64 x1.f3, .int .u32 x1.f4, .int .u64 x1.f5, .slice p2 x1.f6.length c3], .int .u64 x5, .int .i64 x6] w fun v w' => ∃ (ih' : IH), v = .bool r ∧ St g w' [F] ih' ∧ Le ih ih' := by
  refine f_in (vs := [.agg #[.int .u64 x1.f0, .int .i64 x1.f1, .int .u64 x1.f2, .int .i64 x1.f3, .int .u32 x1.f4, .int .u64 x1.f5, .slice p2 x1.f6.length c3], .int .u64 x5, .int .i64 x6]) Tryz.func7 rfl 70 rfl (by kernel_rfl) [(0, .agg #[.int .u64 x1.f0, .int .i64 x1.f1, .int .u64 x1.f2, .int .i64 x1.f3, .int .u32 x1.f4, .int .u64 x1.f5, .slice p2 x1.f6.length c3]), (1, .int .u64 x5), (2, .int .i64 x6)] (by kernel_rfl) fun a Qf hQ hQn hs => ?_
  refine c_seq ?_
  refine c_region ?_
  refine s_new hs hw [.int .u64 x1.f0, .int .i64 x1.f1, .int .u64 x1.f2, .int .i64 x1.f3, .int .u32 x1.f4, .int .u64 x1.f5, .slice p2 x1.f6.length c3] 26 (fun b => .pointer (some ⟨b, 0, none⟩)) (by kernel_rfl) (fun _ => by kernel_rfl) fun a w b117 hs hw => ?_
  refine pures hs 1 [1, 2, 3] [(1, .int .u64 x5), (2, .int .i64 x6), (3, .pointer (some ⟨b117, 0, none⟩))] (by kernel_rfl) fun a hs => ?_
  refine s_end ?_
  refine c_seq ?_
  refine c_region ?_
  refine pures hs 1 [1, 2, 3, 7] [(1, .int .u64 x5), (2, .int .i64 x6), (3, .pointer (some ⟨b117, 0, none⟩)), (7, .pointer none)] (by kernel_rfl) fun a hs => ?_
  refine s_end ?_
  refine c_seq ?_
  refine c_region ?_
  refine pures hs 3 [1, 3, 7, 11, 12, 13] [(1, .int .u64 x5), (3, .pointer (some ⟨b117, 0, none⟩)), (7, .pointer none), (11, .pointer none), (12, .int .u64 x5), (13, .int .i64 x6)] (by kernel_rfl) fun a hs => ?_
  obtain ⟨y126, h127, hk⟩ := bindE hk
  refine s_call hs (by kernel_rfl) (by kernel_rfl) (window_Window_From_s (x1 := x5) (x2 := x6) h127 ((hw.pick [0, 1] (by kernel_rfl)).pack 0)) fun a w v hv hs => ?_
  obtain ⟨p128, c129, d131, rfl, hw, h130⟩ := hv
  replace hw := hw.unpack 1 rfl
  refine pures hs 5 [1, 3, 7, 8, 9] [(1, .int .u64 x5), (3, .pointer (some ⟨b117, 0, none⟩)), (7, .pointer none), (8, .slice p128 y126.length c129), (9, .bool false)] (by kernel_rfl) fun a hs => ?_
  refine s_end ?_
  refine c_seq ?_
  obtain ⟨y190, hx191, hk⟩ := bindE hk
  obtain ⟨J192, hJ192⟩ : ∃ J : Act → World → Prop, ∀ a w, J a w ↔ (∃ (x189 : Bool) (ih187 : IH), catenarylaw20_WindowNil_r2 x189 = some r ∧ Sees a 70 [(6, .bool x189)] ∧ St g w [F] ih187 ∧ Le ih ih187) := ⟨_, fun _ _ => Iff.rfl⟩
  refine c_regJ J192 ?_ ?_
  · refine pures hs 1 [1, 3, 7, 8, 9, 17] [(1, .int .u64 x5), (3, .pointer (some ⟨b117, 0, none⟩)), (7, .pointer none), (8, .slice p128 y126.length c129), (9, .bool false), (17, .pointer none)] (by kernel_rfl) fun a hs => ?_
    refine s_load hs (hw.at_ 1 rfl) 0 (by kernel_rfl) (by kernel_rfl) (v := .agg #[.int .u64 x1.f0, .int .i64 x1.f1, .int .u64 x1.f2, .int .i64 x1.f3, .int .u32 x1.f4, .int .u64 x1.f5, .slice p2 x1.f6.length c3]) (by kernel_rfl) fun a hs => ?_
    have h194 : window_Window_Add = some () := rfl
    refine s_call hs (by kernel_rfl) (by kernel_rfl) (window_Window_Add_s (x1 := x1) h194 h4 ((hw.pick [0, 2] (by kernel_rfl)).pack 0)) fun a w v hv hs => ?_
    obtain ⟨rfl, hw⟩ := hv
    replace hw := hw.unpack 0 rfl
    refine pures hs 4 [7, 8, 9, 21, 22, 23] [(7, .pointer none), (8, .slice p128 y126.length c129), (9, .bool false), (21, .bool true), (22, .pointer none), (23, .int .u64 x5)] (by kernel_rfl) fun a hs => ?_
    obtain ⟨y195, h196, hx191⟩ := bindE hx191
    refine s_call hs (by kernel_rfl) (by kernel_rfl) (window_Window_Reach_s (x1 := x5) h196 ((hw.pick [0, 1] (by kernel_rfl)).pack 0)) fun a w v hv hs => ?_
    obtain ⟨p197, c198, d200, rfl, hw, h199⟩ := hv
    replace hw := hw.unpack 1 rfl
    refine pures hs 4 [7, 8, 9, 28] [(7, .pointer none), (8, .slice p128 y126.length c129), (9, .bool false), (28, .bool ((y195.length : Int) == 0))] (by kernel_rfl) fun a hs => ?_
    rcases ifbE hx191 with ⟨h202, hx191⟩ | ⟨h202, hx191⟩
    · replace hs := hs.altB 28 true (by kernel_rfl) h202
      refine pures hs 5 [7, 9, 33] [(7, .pointer none), (9, .bool false), (33, .bool ((y126.length : Int) == 0))] (by kernel_rfl) fun a hs => ?_
      rcases ifbE hx191 with ⟨h203, hx191⟩ | ⟨h203, hx191⟩
      · replace hs := hs.altB 33 true (by kernel_rfl) h203
        refine pures hs 5 [7, 37, 38] [(7, .pointer none), (37, .bool true), (38, .pointer none)] (by kernel_rfl) fun a hs => ?_
        have h205 : window_Window_Low = some () := rfl
        refine s_call hs (by kernel_rfl) (by kernel_rfl) (window_Window_Low_s h205 ((hw.pick [2] (by kernel_rfl)).pack 0)) fun a w v hv hs => ?_
        obtain ⟨rfl, hw⟩ := hv
        replace hw := hw.unpack 0 rfl
        refine pures hs 4 [7, 42, 43] [(7, .pointer none), (42, .bool true), (43, .pointer none)] (by kernel_rfl) fun a hs => ?_
        have h207 : window_Window_End = some () := rfl
        refine s_call hs (by kernel_rfl) (by kernel_rfl) (window_Window_End_s h207 ((hw.pick [0] (by kernel_rfl)).pack 0)) fun a w v hv hs => ?_
        obtain ⟨rfl, hw⟩ := hv
        replace hw := hw.unpack 0 rfl
        refine pures hs 4 [7, 47, 48] [(7, .pointer none), (47, .bool true), (48, .pointer none)] (by kernel_rfl) fun a hs => ?_
        have h209 : window_Window_Done = some () := rfl
        refine s_call hs (by kernel_rfl) (by kernel_rfl) (window_Window_Done_s h209 ((hw.pick [0] (by kernel_rfl)).pack 0)) fun a w v hv hs => ?_
        obtain ⟨rfl, hw⟩ := hv
        replace hw := hw.unpack 0 rfl
        refine pures hs 4 [7, 52, 53] [(7, .pointer none), (52, .bool true), (53, .pointer none)] (by kernel_rfl) fun a hs => ?_
        have h211 : window_Window_Dirty = some () := rfl
        refine s_call hs (by kernel_rfl) (by kernel_rfl) (window_Window_Dirty_s h211 ((hw.pick [0] (by kernel_rfl)).pack 0)) fun a w v hv hs => ?_
        obtain ⟨rfl, hw⟩ := hv
        replace hw := hw.unpack 0 rfl
        refine pures hs 4 [7, 57, 58] [(7, .pointer none), (57, .bool true), (58, .pointer none)] (by kernel_rfl) fun a hs => ?_
        have h213 : window_Window_Room = some () := rfl
        refine s_call hs (by kernel_rfl) (by kernel_rfl) (window_Window_Room_s h213 ((hw.pick [0] (by kernel_rfl)).pack 0)) fun a w v hv hs => ?_
        obtain ⟨rfl, hw⟩ := hv
        replace hw := hw.unpack 0 rfl
        refine pures hs 4 [62, 63] [(62, .bool true), (63, .pointer none)] (by kernel_rfl) fun a hs => ?_
        have h215 : window_Window_Held = some () := rfl
        refine s_call hs (by kernel_rfl) (by kernel_rfl) (window_Window_Held_s h215 ((hw.pick [0] (by kernel_rfl)).pack 0)) fun a w v hv hs => ?_
        obtain ⟨rfl, hw⟩ := hv
        replace hw := hw.unpack 0 rfl
        refine pures hs 3 [67] [(67, .bool true)] (by kernel_rfl) fun a hs => ?_
        obtain ⟨y216, h217, hx191⟩ := bindE hx191
        refine s_call hs (by kernel_rfl) (by kernel_rfl) (catenarylaw20_awake_s h217 (hG.mono (Le.refl _)) ((hw.pick [0] (by kernel_rfl)).pack 0)) fun a w v hv hs => ?_
        obtain ⟨ih218, rfl, hw, hle219⟩ := hv
        replace hw := hw.unpack 0 rfl
        refine pures hs 2 [6] [(6, .bool y216)] (by kernel_rfl) fun a hs => ?_
        refine s_end ?_
        obtain rfl := someE hx191
        exact (hJ192 _ _).2 ⟨y216, ih218, hk, hs.cast [6] (by kernel_rfl), hw.pick [0] (by kernel_rfl), hle219⟩
      replace hs := hs.altB 33 false (by kernel_rfl) h203
      refine pures hs 37 [6] [(6, .bool false)] (by kernel_rfl) fun a hs => ?_
      refine s_end ?_
      obtain rfl := someE hx191
      exact (hJ192 _ _).2 ⟨false, ih, hk, hs.cast [6] (by kernel_rfl), hw.pick [2] (by kernel_rfl), (Le.refl _)⟩
    replace hs := hs.altB 28 false (by kernel_rfl) h202
    refine pures hs 42 [6] [(6, .bool false)] (by kernel_rfl) fun a hs => ?_
    refine s_end ?_
    obtain rfl := someE hx191
    exact (hJ192 _ _).2 ⟨false, ih, hk, hs.cast [6] (by kernel_rfl), hw.pick [2] (by kernel_rfl), (Le.refl _)⟩
  intro a w hh
  obtain ⟨x189, ih187, hk, hs, hw, hle188⟩ := (hJ192 _ _).1 hh
  refine c_ret ?_
  obtain rfl := someE hk
  refine hQ _ _ (f_ret1 hs rfl (v := .bool x189) (by kernel_rfl) ⟨ih187, rfl, hw.pick [0] (by kernel_rfl), hle188⟩)
end Go.Proofs.YtfpllbnljlbepaaGreatDoor.Sx
