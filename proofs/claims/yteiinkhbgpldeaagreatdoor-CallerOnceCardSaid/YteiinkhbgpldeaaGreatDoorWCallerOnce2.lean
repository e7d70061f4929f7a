/- The walk of CallerOnce: each Go function that it calls, as a plain function, and the proof that the call computes it. Printed by the program gen.py.
   Conditions: those that each theorem states ahead of its colon, and no other. -/
import Derived.Test.YteiinkhbgpldeaaGreatDoorWCallerOnce1
namespace Go.Proofs.YteiinkhbgpldeaaGreatDoor.Sx
open Go Go.Proofs
set_option maxRecDepth 100000
set_option linter.unusedVariables false
def letter_other (x1 : Int) : Option Nat :=
  if (x1 == 128) = true then some 0
  else if (x1 == 256) = true then some 1
  else if (x1 == 1024) = true then some 2
  else if (x1 == 2048) = true then some 3
  else if (x1 == 4096) = true then some 4
  else if (x1 == 8192) = true then some 5
  else some 6
theorem letter_other_s {x1 : Int} {r : Nat} (hk : letter_other x1 = some r) {g w : World} {F : Ch} {ih : IH} (hw : St g w [F] ih) :
    CallsR Tryz.prog 145 #[vi64 x1] w fun v w' => ∃ (ih' : IH) (u24 : Value) (u25 : Value) (u26 : Value), v = .agg #[u24, u25, u26] ∧ St g w' [F] ih' ∧ Le ih ih' ∧ e134t.enc ih' r [u24, u25, u26] := by
  refine f_in (vs := [vi64 x1]) Tryz.func145 rfl 23 rfl (by kernel_rfl) [(0, vi64 x1)] (by kernel_rfl) fun a Qf hQ hQn hs => ?_
  refine c_seq ?_
  refine c_region ?_
  refine s_new hs hw [.nilFunc, .nilFunc, .nilFunc] 134 (fun b => (pt b 0)) (by kernel_rfl) (fun _ => by kernel_rfl) fun a w b16 hs hw => ?_
  refine s_end ?_
  refine c_seq ?_
  refine c_region ?_
  refine pures hs 1 [2, 3] [(2, (pt b16 0)), (3, vi64 x1)] (by kernel_rfl) fun a hs => ?_
  refine s_end ?_
  refine c_block ?_
  refine c_seq ?_
  refine c_region ?_
  refine pures hs 2 [2, 3, 5] [(2, (pt b16 0)), (3, vi64 x1), (5, .bool (x1 == 128))] (by kernel_rfl) fun a hs => ?_
  refine s_end ?_
  rcases ifbE hk with ⟨h18, hk⟩ | ⟨h18, hk⟩
  · refine c_cond1 hs (by kernel_rfl) (t := (x1 == 128)) (by kernel_rfl) h18 ?_
    refine c_seq ?_
    refine c_region ?_
    refine pures hs 1 [2, 7] [(2, (pt b16 0)), (7, .agg #[.func (.func 159) #[] #[], .func (.func 160) #[] #[], .func (.func 161) #[] #[]])] (by kernel_rfl) fun a hs => ?_
    refine s_store hs hw 0 rfl 0 (by kernel_rfl) (by kernel_rfl) (v := .agg #[.func (.func 159) #[] #[], .func (.func 160) #[] #[], .func (.func 161) #[] #[]]) (by kernel_rfl) (by kernel_rfl) (by kernel_rfl) (by kernel_rfl) fun a w hs hw => ?_
    refine s_end ?_
    refine c_ret ?_
    obtain rfl := someE hk
    refine hQ _ _ (f_retC hs rfl (hw.at_ 0 rfl) (by kernel_rfl) (v := .agg #[.func (.func 159) #[] #[], .func (.func 160) #[] #[], .func (.func 161) #[] #[]]) (by kernel_rfl) ⟨ih, (.func (.func 159) #[] #[]), (.func (.func 160) #[] #[]), (.func (.func 161) #[] #[]), rfl, hw.pick [1] (by kernel_rfl), (Le.refl _), (e134t_in0)⟩)
  refine c_cond0 hs (by kernel_rfl) (t := (x1 == 128)) (by kernel_rfl) h18 ?_
  refine c_seq ?_
  refine c_region ?_
  refine pures hs 2 [2, 3, 8] [(2, (pt b16 0)), (3, vi64 x1), (8, .bool (x1 == 256))] (by kernel_rfl) fun a hs => ?_
  refine s_end ?_
  rcases ifbE hk with ⟨h19, hk⟩ | ⟨h19, hk⟩
  · refine c_cond1 hs (by kernel_rfl) (t := (x1 == 256)) (by kernel_rfl) h19 ?_
    refine c_seq ?_
    refine c_region ?_
    refine pures hs 1 [2, 10] [(2, (pt b16 0)), (10, .agg #[.func (.func 140) #[] #[], .func (.func 162) #[] #[], .func (.func 163) #[] #[]])] (by kernel_rfl) fun a hs => ?_
    refine s_store hs hw 0 rfl 0 (by kernel_rfl) (by kernel_rfl) (v := .agg #[.func (.func 140) #[] #[], .func (.func 162) #[] #[], .func (.func 163) #[] #[]]) (by kernel_rfl) (by kernel_rfl) (by kernel_rfl) (by kernel_rfl) fun a w hs hw => ?_
    refine s_end ?_
    refine c_ret ?_
    obtain rfl := someE hk
    refine hQ _ _ (f_retC hs rfl (hw.at_ 0 rfl) (by kernel_rfl) (v := .agg #[.func (.func 140) #[] #[], .func (.func 162) #[] #[], .func (.func 163) #[] #[]]) (by kernel_rfl) ⟨ih, (.func (.func 140) #[] #[]), (.func (.func 162) #[] #[]), (.func (.func 163) #[] #[]), rfl, hw.pick [1] (by kernel_rfl), (Le.refl _), (e134t_in1)⟩)
  refine c_cond0 hs (by kernel_rfl) (t := (x1 == 256)) (by kernel_rfl) h19 ?_
  refine c_seq ?_
  refine c_region ?_
  refine pures hs 2 [2, 3, 11] [(2, (pt b16 0)), (3, vi64 x1), (11, .bool (x1 == 1024))] (by kernel_rfl) fun a hs => ?_
  refine s_end ?_
  rcases ifbE hk with ⟨h20, hk⟩ | ⟨h20, hk⟩
  · refine c_cond1 hs (by kernel_rfl) (t := (x1 == 1024)) (by kernel_rfl) h20 ?_
    refine c_seq ?_
    refine c_region ?_
    refine pures hs 1 [2, 13] [(2, (pt b16 0)), (13, .agg #[.func (.func 164) #[] #[], .func (.func 166) #[] #[], .func (.func 168) #[] #[]])] (by kernel_rfl) fun a hs => ?_
    refine s_store hs hw 0 rfl 0 (by kernel_rfl) (by kernel_rfl) (v := .agg #[.func (.func 164) #[] #[], .func (.func 166) #[] #[], .func (.func 168) #[] #[]]) (by kernel_rfl) (by kernel_rfl) (by kernel_rfl) (by kernel_rfl) fun a w hs hw => ?_
    refine s_end ?_
    refine c_ret ?_
    obtain rfl := someE hk
    refine hQ _ _ (f_retC hs rfl (hw.at_ 0 rfl) (by kernel_rfl) (v := .agg #[.func (.func 164) #[] #[], .func (.func 166) #[] #[], .func (.func 168) #[] #[]]) (by kernel_rfl) ⟨ih, (.func (.func 164) #[] #[]), (.func (.func 166) #[] #[]), (.func (.func 168) #[] #[]), rfl, hw.pick [1] (by kernel_rfl), (Le.refl _), (e134t_in2)⟩)
  refine c_cond0 hs (by kernel_rfl) (t := (x1 == 1024)) (by kernel_rfl) h20 ?_
  refine c_seq ?_
  refine c_region ?_
  refine pures hs 2 [2, 3, 14] [(2, (pt b16 0)), (3, vi64 x1), (14, .bool (x1 == 2048))] (by kernel_rfl) fun a hs => ?_
  refine s_end ?_
  rcases ifbE hk with ⟨h21, hk⟩ | ⟨h21, hk⟩
  · refine c_cond1 hs (by kernel_rfl) (t := (x1 == 2048)) (by kernel_rfl) h21 ?_
    refine c_seq ?_
    refine c_region ?_
    refine pures hs 1 [2, 16] [(2, (pt b16 0)), (16, .agg #[.func (.func 169) #[] #[], .func (.func 170) #[] #[], .func (.func 172) #[] #[]])] (by kernel_rfl) fun a hs => ?_
    refine s_store hs hw 0 rfl 0 (by kernel_rfl) (by kernel_rfl) (v := .agg #[.func (.func 169) #[] #[], .func (.func 170) #[] #[], .func (.func 172) #[] #[]]) (by kernel_rfl) (by kernel_rfl) (by kernel_rfl) (by kernel_rfl) fun a w hs hw => ?_
    refine s_end ?_
    refine c_ret ?_
    obtain rfl := someE hk
    refine hQ _ _ (f_retC hs rfl (hw.at_ 0 rfl) (by kernel_rfl) (v := .agg #[.func (.func 169) #[] #[], .func (.func 170) #[] #[], .func (.func 172) #[] #[]]) (by kernel_rfl) ⟨ih, (.func (.func 169) #[] #[]), (.func (.func 170) #[] #[]), (.func (.func 172) #[] #[]), rfl, hw.pick [1] (by kernel_rfl), (Le.refl _), (e134t_in3)⟩)
  refine c_cond0 hs (by kernel_rfl) (t := (x1 == 2048)) (by kernel_rfl) h21 ?_
  refine c_seq ?_
  refine c_region ?_
  refine pures hs 2 [2, 3, 17] [(2, (pt b16 0)), (3, vi64 x1), (17, .bool (x1 == 4096))] (by kernel_rfl) fun a hs => ?_
  refine s_end ?_
  rcases ifbE hk with ⟨h22, hk⟩ | ⟨h22, hk⟩
  · refine c_cond1 hs (by kernel_rfl) (t := (x1 == 4096)) (by kernel_rfl) h22 ?_
    refine c_seq ?_
    refine c_region ?_
    refine pures hs 1 [2, 19] [(2, (pt b16 0)), (19, .agg #[.func (.func 173) #[] #[], .func (.func 175) #[] #[], .func (.func 176) #[] #[]])] (by kernel_rfl) fun a hs => ?_
    refine s_store hs hw 0 rfl 0 (by kernel_rfl) (by kernel_rfl) (v := .agg #[.func (.func 173) #[] #[], .func (.func 175) #[] #[], .func (.func 176) #[] #[]]) (by kernel_rfl) (by kernel_rfl) (by kernel_rfl) (by kernel_rfl) fun a w hs hw => ?_
    refine s_end ?_
    refine c_ret ?_
    obtain rfl := someE hk
    refine hQ _ _ (f_retC hs rfl (hw.at_ 0 rfl) (by kernel_rfl) (v := .agg #[.func (.func 173) #[] #[], .func (.func 175) #[] #[], .func (.func 176) #[] #[]]) (by kernel_rfl) ⟨ih, (.func (.func 173) #[] #[]), (.func (.func 175) #[] #[]), (.func (.func 176) #[] #[]), rfl, hw.pick [1] (by kernel_rfl), (Le.refl _), (e134t_in4)⟩)
  refine c_cond0 hs (by kernel_rfl) (t := (x1 == 4096)) (by kernel_rfl) h22 ?_
  refine c_seq ?_
  refine c_region ?_
  refine pures hs 2 [2, 20] [(2, (pt b16 0)), (20, .bool (x1 == 8192))] (by kernel_rfl) fun a hs => ?_
  refine s_end ?_
  rcases ifbE hk with ⟨h23, hk⟩ | ⟨h23, hk⟩
  · refine c_cond1 hs (by kernel_rfl) (t := (x1 == 8192)) (by kernel_rfl) h23 ?_
    refine c_seq ?_
    refine c_region ?_
    refine pures hs 1 [2, 22] [(2, (pt b16 0)), (22, .agg #[.func (.func 177) #[] #[], .func (.func 178) #[] #[], .func (.func 179) #[] #[]])] (by kernel_rfl) fun a hs => ?_
    refine s_store hs hw 0 rfl 0 (by kernel_rfl) (by kernel_rfl) (v := .agg #[.func (.func 177) #[] #[], .func (.func 178) #[] #[], .func (.func 179) #[] #[]]) (by kernel_rfl) (by kernel_rfl) (by kernel_rfl) (by kernel_rfl) fun a w hs hw => ?_
    refine s_end ?_
    refine c_ret ?_
    obtain rfl := someE hk
    refine hQ _ _ (f_retC hs rfl (hw.at_ 0 rfl) (by kernel_rfl) (v := .agg #[.func (.func 177) #[] #[], .func (.func 178) #[] #[], .func (.func 179) #[] #[]]) (by kernel_rfl) ⟨ih, (.func (.func 177) #[] #[]), (.func (.func 178) #[] #[]), (.func (.func 179) #[] #[]), rfl, hw.pick [1] (by kernel_rfl), (Le.refl _), (e134t_in5)⟩)
  refine c_cond0 hs (by kernel_rfl) (t := (x1 == 8192)) (by kernel_rfl) h23 ?_
  refine c_seq ?_
  refine c_region ?_
  refine pures hs 1 [2, 4] [(2, (pt b16 0)), (4, .agg #[.func (.func 180) #[] #[], .func (.func 182) #[] #[], .func (.func 184) #[] #[]])] (by kernel_rfl) fun a hs => ?_
  refine s_store hs hw 0 rfl 0 (by kernel_rfl) (by kernel_rfl) (v := .agg #[.func (.func 180) #[] #[], .func (.func 182) #[] #[], .func (.func 184) #[] #[]]) (by kernel_rfl) (by kernel_rfl) (by kernel_rfl) (by kernel_rfl) fun a w hs hw => ?_
  refine s_end ?_
  refine c_ret ?_
  obtain rfl := someE hk
  refine hQ _ _ (f_retC hs rfl (hw.at_ 0 rfl) (by kernel_rfl) (v := .agg #[.func (.func 180) #[] #[], .func (.func 182) #[] #[], .func (.func 184) #[] #[]]) (by kernel_rfl) ⟨ih, (.func (.func 180) #[] #[]), (.func (.func 182) #[] #[]), (.func (.func 184) #[] #[]), rfl, hw.pick [1] (by kernel_rfl), (Le.refl _), (e134t_in6)⟩)
def letter_of (x1 : Int) : Option Nat :=
  if (x1 == 1) = true then some 7
  else if (x1 == 32) = true then some 8
  else if (x1 == 2) = true then some 9
  else if (x1 == 4) = true then some 10
  else if (x1 == 8) = true then some 11
  else if (x1 == 16) = true then some 12
  else if (x1 == 64) = true then some 13
  else if (x1 == 512) = true then some 14
  else (letter_other x1).bind fun y226 =>
  some y226
theorem letter_of_s {x1 : Int} {r : Nat} (hk : letter_of x1 = some r) {g w : World} {F : Ch} {ih : IH} (hw : St g w [F] ih) :
    CallsR Tryz.prog 110 #[vi64 x1] w fun v w' => ∃ (ih' : IH) (u234 : Value) (u235 : Value) (u236 : Value), v = .agg #[u234, u235, u236] ∧ St g w' [F] ih' ∧ Le ih ih' ∧ e134t.enc ih' r [u234, u235, u236] := by
  refine f_in (vs := [vi64 x1]) Tryz.func110 rfl 30 rfl (by kernel_rfl) [(0, vi64 x1)] (by kernel_rfl) fun a Qf hQ hQn hs => ?_
  refine c_seq ?_
  refine c_region ?_
  refine s_new hs hw [.nilFunc, .nilFunc, .nilFunc] 134 (fun b => (pt b 0)) (by kernel_rfl) (fun _ => by kernel_rfl) fun a w b106 hs hw => ?_
  refine s_end ?_
  refine c_seq ?_
  refine c_region ?_
  refine pures hs 1 [0, 2, 3] [(0, vi64 x1), (2, (pt b106 0)), (3, vi64 x1)] (by kernel_rfl) fun a hs => ?_
  refine s_end ?_
  refine c_block ?_
  refine c_seq ?_
  refine c_region ?_
  refine pures hs 2 [0, 2, 3, 6] [(0, vi64 x1), (2, (pt b106 0)), (3, vi64 x1), (6, .bool (x1 == 1))] (by kernel_rfl) fun a hs => ?_
  refine s_end ?_
  rcases ifbE hk with ⟨h108, hk⟩ | ⟨h108, hk⟩
  · refine c_cond1 hs (by kernel_rfl) (t := (x1 == 1)) (by kernel_rfl) h108 ?_
    refine c_seq ?_
    refine c_region ?_
    have h116 : letter_small = some () := rfl
    refine s_call hs (by kernel_rfl) (by kernel_rfl) (letter_small_s h116 ((hw.pick [0, 1] (by kernel_rfl)).pack 0)) fun a w v hv hs => ?_
    obtain ⟨b117, b119, rfl, hw⟩ := hv
    replace hw := hw.unpack 2 rfl
    refine s_store hs hw 2 rfl 0 (by kernel_rfl) (by kernel_rfl) (v := .agg #[.func (.func 130) #[] #[], .func (.func 152) #[] #[(pt b117 0), (pt b119 0)], .func (.func 154) #[] #[(pt b119 0), (pt b117 0)]]) (by kernel_rfl) (by kernel_rfl) (by kernel_rfl) (by kernel_rfl) fun a w hs hw => ?_
    refine s_end ?_
    refine c_ret ?_
    obtain ⟨ih121, hle122, hw, h123⟩ := (hw.pick [0, 1, 2, 3] (by kernel_rfl)).fzB
    obtain ⟨ih124, hle125, hw, h126⟩ := (hw.pick [0, 1, 2] (by kernel_rfl)).fzB
    obtain rfl := someE hk
    refine hQ _ _ (f_retC hs rfl (hw.at_ 0 rfl) (by kernel_rfl) (v := .agg #[.func (.func 130) #[] #[], .func (.func 152) #[] #[(pt b117 0), (pt b119 0)], .func (.func 154) #[] #[(pt b119 0), (pt b117 0)]]) (by kernel_rfl) ⟨ih124, (.func (.func 130) #[] #[]), (.func (.func 152) #[] #[(pt b117 0), (pt b119 0)]), (.func (.func 154) #[] #[(pt b119 0), (pt b117 0)]), rfl, hw.pick [1] (by kernel_rfl), (hle122.trans hle125), (e134t_in7 (h123.mono hle125) h126)⟩)
  refine c_cond0 hs (by kernel_rfl) (t := (x1 == 1)) (by kernel_rfl) h108 ?_
  refine c_seq ?_
  refine c_region ?_
  refine pures hs 2 [0, 2, 3, 9] [(0, vi64 x1), (2, (pt b106 0)), (3, vi64 x1), (9, .bool (x1 == 32))] (by kernel_rfl) fun a hs => ?_
  refine s_end ?_
  rcases ifbE hk with ⟨h127, hk⟩ | ⟨h127, hk⟩
  · refine c_cond1 hs (by kernel_rfl) (t := (x1 == 32)) (by kernel_rfl) h127 ?_
    refine c_seq ?_
    refine c_region ?_
    have h135 : letter_small_2 = some () := rfl
    refine s_call hs (by kernel_rfl) (by kernel_rfl) (letter_small_2_s h135 ((hw.pick [0, 1] (by kernel_rfl)).pack 0)) fun a w v hv hs => ?_
    obtain ⟨b136, b138, rfl, hw⟩ := hv
    replace hw := hw.unpack 2 rfl
    refine s_store hs hw 2 rfl 0 (by kernel_rfl) (by kernel_rfl) (v := .agg #[.func (.func 132) #[] #[], .func (.func 152) #[] #[(pt b136 0), (pt b138 0)], .func (.func 154) #[] #[(pt b138 0), (pt b136 0)]]) (by kernel_rfl) (by kernel_rfl) (by kernel_rfl) (by kernel_rfl) fun a w hs hw => ?_
    refine s_end ?_
    refine c_ret ?_
    obtain ⟨ih140, hle141, hw, h142⟩ := (hw.pick [0, 1, 2, 3] (by kernel_rfl)).fzB
    obtain ⟨ih143, hle144, hw, h145⟩ := (hw.pick [0, 1, 2] (by kernel_rfl)).fzB
    obtain rfl := someE hk
    refine hQ _ _ (f_retC hs rfl (hw.at_ 0 rfl) (by kernel_rfl) (v := .agg #[.func (.func 132) #[] #[], .func (.func 152) #[] #[(pt b136 0), (pt b138 0)], .func (.func 154) #[] #[(pt b138 0), (pt b136 0)]]) (by kernel_rfl) ⟨ih143, (.func (.func 132) #[] #[]), (.func (.func 152) #[] #[(pt b136 0), (pt b138 0)]), (.func (.func 154) #[] #[(pt b138 0), (pt b136 0)]), rfl, hw.pick [1] (by kernel_rfl), (hle141.trans hle144), (e134t_in8 (h142.mono hle144) h145)⟩)
  refine c_cond0 hs (by kernel_rfl) (t := (x1 == 32)) (by kernel_rfl) h127 ?_
  refine c_seq ?_
  refine c_region ?_
  refine pures hs 2 [0, 2, 3, 12] [(0, vi64 x1), (2, (pt b106 0)), (3, vi64 x1), (12, .bool (x1 == 2))] (by kernel_rfl) fun a hs => ?_
  refine s_end ?_
  rcases ifbE hk with ⟨h146, hk⟩ | ⟨h146, hk⟩
  · refine c_cond1 hs (by kernel_rfl) (t := (x1 == 2)) (by kernel_rfl) h146 ?_
    refine c_seq ?_
    refine c_region ?_
    have h152 : letter_word = some () := rfl
    refine s_call hs (by kernel_rfl) (by kernel_rfl) (letter_word_s h152 ((hw.pick [0, 1] (by kernel_rfl)).pack 0)) fun a w v hv hs => ?_
    obtain ⟨b153, rfl, hw⟩ := hv
    replace hw := hw.unpack 1 rfl
    refine s_store hs hw 1 rfl 0 (by kernel_rfl) (by kernel_rfl) (v := .agg #[.func (.func 135) #[] #[], .func (.func 156) #[] #[(pt b153 0)], .func (.func 157) #[] #[(pt b153 0)]]) (by kernel_rfl) (by kernel_rfl) (by kernel_rfl) (by kernel_rfl) fun a w hs hw => ?_
    refine s_end ?_
    refine c_ret ?_
    obtain ⟨ih155, hle156, hw, h157⟩ := (hw.pick [0, 1, 2] (by kernel_rfl)).fzB
    obtain rfl := someE hk
    refine hQ _ _ (f_retC hs rfl (hw.at_ 0 rfl) (by kernel_rfl) (v := .agg #[.func (.func 135) #[] #[], .func (.func 156) #[] #[(pt b153 0)], .func (.func 157) #[] #[(pt b153 0)]]) (by kernel_rfl) ⟨ih155, (.func (.func 135) #[] #[]), (.func (.func 156) #[] #[(pt b153 0)]), (.func (.func 157) #[] #[(pt b153 0)]), rfl, hw.pick [1] (by kernel_rfl), hle156, (e134t_in9 h157)⟩)
  refine c_cond0 hs (by kernel_rfl) (t := (x1 == 2)) (by kernel_rfl) h146 ?_
  refine c_seq ?_
  refine c_region ?_
  refine pures hs 2 [0, 2, 3, 15] [(0, vi64 x1), (2, (pt b106 0)), (3, vi64 x1), (15, .bool (x1 == 4))] (by kernel_rfl) fun a hs => ?_
  refine s_end ?_
  rcases ifbE hk with ⟨h158, hk⟩ | ⟨h158, hk⟩
  · refine c_cond1 hs (by kernel_rfl) (t := (x1 == 4)) (by kernel_rfl) h158 ?_
    refine c_seq ?_
    refine c_region ?_
    have h164 : letter_word_2 = some () := rfl
    refine s_call hs (by kernel_rfl) (by kernel_rfl) (letter_word_2_s h164 ((hw.pick [0, 1] (by kernel_rfl)).pack 0)) fun a w v hv hs => ?_
    obtain ⟨b165, rfl, hw⟩ := hv
    replace hw := hw.unpack 1 rfl
    refine s_store hs hw 1 rfl 0 (by kernel_rfl) (by kernel_rfl) (v := .agg #[.func (.func 137) #[] #[], .func (.func 156) #[] #[(pt b165 0)], .func (.func 157) #[] #[(pt b165 0)]]) (by kernel_rfl) (by kernel_rfl) (by kernel_rfl) (by kernel_rfl) fun a w hs hw => ?_
    refine s_end ?_
    refine c_ret ?_
    obtain ⟨ih167, hle168, hw, h169⟩ := (hw.pick [0, 1, 2] (by kernel_rfl)).fzB
    obtain rfl := someE hk
    refine hQ _ _ (f_retC hs rfl (hw.at_ 0 rfl) (by kernel_rfl) (v := .agg #[.func (.func 137) #[] #[], .func (.func 156) #[] #[(pt b165 0)], .func (.func 157) #[] #[(pt b165 0)]]) (by kernel_rfl) ⟨ih167, (.func (.func 137) #[] #[]), (.func (.func 156) #[] #[(pt b165 0)]), (.func (.func 157) #[] #[(pt b165 0)]), rfl, hw.pick [1] (by kernel_rfl), hle168, (e134t_in10 h169)⟩)
  refine c_cond0 hs (by kernel_rfl) (t := (x1 == 4)) (by kernel_rfl) h158 ?_
  refine c_seq ?_
  refine c_region ?_
  refine pures hs 2 [0, 2, 3, 18] [(0, vi64 x1), (2, (pt b106 0)), (3, vi64 x1), (18, .bool (x1 == 8))] (by kernel_rfl) fun a hs => ?_
  refine s_end ?_
  rcases ifbE hk with ⟨h170, hk⟩ | ⟨h170, hk⟩
  · refine c_cond1 hs (by kernel_rfl) (t := (x1 == 8)) (by kernel_rfl) h170 ?_
    refine c_seq ?_
    refine c_region ?_
    have h176 : letter_word_3 = some () := rfl
    refine s_call hs (by kernel_rfl) (by kernel_rfl) (letter_word_3_s h176 ((hw.pick [0, 1] (by kernel_rfl)).pack 0)) fun a w v hv hs => ?_
    obtain ⟨b177, rfl, hw⟩ := hv
    replace hw := hw.unpack 1 rfl
    refine s_store hs hw 1 rfl 0 (by kernel_rfl) (by kernel_rfl) (v := .agg #[.func (.func 140) #[] #[], .func (.func 156) #[] #[(pt b177 0)], .func (.func 157) #[] #[(pt b177 0)]]) (by kernel_rfl) (by kernel_rfl) (by kernel_rfl) (by kernel_rfl) fun a w hs hw => ?_
    refine s_end ?_
    refine c_ret ?_
    obtain ⟨ih179, hle180, hw, h181⟩ := (hw.pick [0, 1, 2] (by kernel_rfl)).fzB
    obtain rfl := someE hk
    refine hQ _ _ (f_retC hs rfl (hw.at_ 0 rfl) (by kernel_rfl) (v := .agg #[.func (.func 140) #[] #[], .func (.func 156) #[] #[(pt b177 0)], .func (.func 157) #[] #[(pt b177 0)]]) (by kernel_rfl) ⟨ih179, (.func (.func 140) #[] #[]), (.func (.func 156) #[] #[(pt b177 0)]), (.func (.func 157) #[] #[(pt b177 0)]), rfl, hw.pick [1] (by kernel_rfl), hle180, (e134t_in11 h181)⟩)
  refine c_cond0 hs (by kernel_rfl) (t := (x1 == 8)) (by kernel_rfl) h170 ?_
  refine c_seq ?_
  refine c_region ?_
  refine pures hs 2 [0, 2, 3, 21] [(0, vi64 x1), (2, (pt b106 0)), (3, vi64 x1), (21, .bool (x1 == 16))] (by kernel_rfl) fun a hs => ?_
  refine s_end ?_
  rcases ifbE hk with ⟨h182, hk⟩ | ⟨h182, hk⟩
  · refine c_cond1 hs (by kernel_rfl) (t := (x1 == 16)) (by kernel_rfl) h182 ?_
    refine c_seq ?_
    refine c_region ?_
    have h188 : letter_word_4 = some () := rfl
    refine s_call hs (by kernel_rfl) (by kernel_rfl) (letter_word_4_s h188 ((hw.pick [0, 1] (by kernel_rfl)).pack 0)) fun a w v hv hs => ?_
    obtain ⟨b189, rfl, hw⟩ := hv
    replace hw := hw.unpack 1 rfl
    refine s_store hs hw 1 rfl 0 (by kernel_rfl) (by kernel_rfl) (v := .agg #[.func (.func 140) #[] #[], .func (.func 156) #[] #[(pt b189 0)], .func (.func 157) #[] #[(pt b189 0)]]) (by kernel_rfl) (by kernel_rfl) (by kernel_rfl) (by kernel_rfl) fun a w hs hw => ?_
    refine s_end ?_
    refine c_ret ?_
    obtain ⟨ih191, hle192, hw, h193⟩ := (hw.pick [0, 1, 2] (by kernel_rfl)).fzB
    obtain rfl := someE hk
    refine hQ _ _ (f_retC hs rfl (hw.at_ 0 rfl) (by kernel_rfl) (v := .agg #[.func (.func 140) #[] #[], .func (.func 156) #[] #[(pt b189 0)], .func (.func 157) #[] #[(pt b189 0)]]) (by kernel_rfl) ⟨ih191, (.func (.func 140) #[] #[]), (.func (.func 156) #[] #[(pt b189 0)]), (.func (.func 157) #[] #[(pt b189 0)]), rfl, hw.pick [1] (by kernel_rfl), hle192, (e134t_in12 h193)⟩)
  refine c_cond0 hs (by kernel_rfl) (t := (x1 == 16)) (by kernel_rfl) h182 ?_
  refine c_seq ?_
  refine c_region ?_
  refine pures hs 2 [0, 2, 3, 24] [(0, vi64 x1), (2, (pt b106 0)), (3, vi64 x1), (24, .bool (x1 == 64))] (by kernel_rfl) fun a hs => ?_
  refine s_end ?_
  rcases ifbE hk with ⟨h194, hk⟩ | ⟨h194, hk⟩
  · refine c_cond1 hs (by kernel_rfl) (t := (x1 == 64)) (by kernel_rfl) h194 ?_
    refine c_seq ?_
    refine c_region ?_
    have h200 : letter_word_5 = some () := rfl
    refine s_call hs (by kernel_rfl) (by kernel_rfl) (letter_word_5_s h200 ((hw.pick [0, 1] (by kernel_rfl)).pack 0)) fun a w v hv hs => ?_
    obtain ⟨b201, rfl, hw⟩ := hv
    replace hw := hw.unpack 1 rfl
    refine s_store hs hw 1 rfl 0 (by kernel_rfl) (by kernel_rfl) (v := .agg #[.func (.func 140) #[] #[], .func (.func 156) #[] #[(pt b201 0)], .func (.func 157) #[] #[(pt b201 0)]]) (by kernel_rfl) (by kernel_rfl) (by kernel_rfl) (by kernel_rfl) fun a w hs hw => ?_
    refine s_end ?_
    refine c_ret ?_
    obtain ⟨ih203, hle204, hw, h205⟩ := (hw.pick [0, 1, 2] (by kernel_rfl)).fzB
    obtain rfl := someE hk
    refine hQ _ _ (f_retC hs rfl (hw.at_ 0 rfl) (by kernel_rfl) (v := .agg #[.func (.func 140) #[] #[], .func (.func 156) #[] #[(pt b201 0)], .func (.func 157) #[] #[(pt b201 0)]]) (by kernel_rfl) ⟨ih203, (.func (.func 140) #[] #[]), (.func (.func 156) #[] #[(pt b201 0)]), (.func (.func 157) #[] #[(pt b201 0)]), rfl, hw.pick [1] (by kernel_rfl), hle204, (e134t_in13 h205)⟩)
  refine c_cond0 hs (by kernel_rfl) (t := (x1 == 64)) (by kernel_rfl) h194 ?_
  refine c_seq ?_
  refine c_region ?_
  refine pures hs 2 [0, 2, 27] [(0, vi64 x1), (2, (pt b106 0)), (27, .bool (x1 == 512))] (by kernel_rfl) fun a hs => ?_
  refine s_end ?_
  rcases ifbE hk with ⟨h206, hk⟩ | ⟨h206, hk⟩
  · refine c_cond1 hs (by kernel_rfl) (t := (x1 == 512)) (by kernel_rfl) h206 ?_
    refine c_seq ?_
    refine c_region ?_
    have h212 : letter_word_6 = some () := rfl
    refine s_call hs (by kernel_rfl) (by kernel_rfl) (letter_word_6_s h212 ((hw.pick [0, 1] (by kernel_rfl)).pack 0)) fun a w v hv hs => ?_
    obtain ⟨b213, rfl, hw⟩ := hv
    replace hw := hw.unpack 1 rfl
    refine s_store hs hw 1 rfl 0 (by kernel_rfl) (by kernel_rfl) (v := .agg #[.func (.func 140) #[] #[], .func (.func 156) #[] #[(pt b213 0)], .func (.func 157) #[] #[(pt b213 0)]]) (by kernel_rfl) (by kernel_rfl) (by kernel_rfl) (by kernel_rfl) fun a w hs hw => ?_
    refine s_end ?_
    refine c_ret ?_
    obtain ⟨ih215, hle216, hw, h217⟩ := (hw.pick [0, 1, 2] (by kernel_rfl)).fzB
    obtain rfl := someE hk
    refine hQ _ _ (f_retC hs rfl (hw.at_ 0 rfl) (by kernel_rfl) (v := .agg #[.func (.func 140) #[] #[], .func (.func 156) #[] #[(pt b213 0)], .func (.func 157) #[] #[(pt b213 0)]]) (by kernel_rfl) ⟨ih215, (.func (.func 140) #[] #[]), (.func (.func 156) #[] #[(pt b213 0)]), (.func (.func 157) #[] #[(pt b213 0)]), rfl, hw.pick [1] (by kernel_rfl), hle216, (e134t_in14 h217)⟩)
  refine c_cond0 hs (by kernel_rfl) (t := (x1 == 512)) (by kernel_rfl) h206 ?_
  refine c_seq ?_
  refine c_region ?_
  refine pures hs 1 [2, 4] [(2, (pt b106 0)), (4, vi64 x1)] (by kernel_rfl) fun a hs => ?_
  obtain ⟨y226, h227, hk⟩ := bindE hk
  refine s_call hs (by kernel_rfl) (by kernel_rfl) (letter_other_s h227 ((hw.pick [0, 1] (by kernel_rfl)).pack 0)) fun a w v hv hs => ?_
  obtain ⟨ih228, u230, u231, u232, rfl, hw, hle229, h233⟩ := hv
  replace hw := hw.unpack 0 rfl
  refine s_store hs hw 0 rfl 0 (by kernel_rfl) (by kernel_rfl) (v := .agg #[u230, u231, u232]) (by kernel_rfl) (by kernel_rfl) (by kernel_rfl) (e134t.one h233) fun a w hs hw => ?_
  refine s_end ?_
  refine c_ret ?_
  obtain rfl := someE hk
  refine hQ _ _ (f_retC hs rfl (hw.at_ 0 rfl) (by kernel_rfl) (v := .agg #[u230, u231, u232]) (by kernel_rfl) ⟨ih228, u230, u231, u232, rfl, hw.pick [1] (by kernel_rfl), hle229, (e134t.mono h233 (Le.refl _))⟩)
def letter_parts_r19 (x2506 : List Nat) : Option (List Nat) :=
  some x2506
def letter_parts_r20 (x1376 : M161) (x2432 : List Nat) : Option (List Nat) :=
  (if (x1376.f1.f5 != 0) = true then (
      (letter_of x1376.f1.f5).bind fun y2532 =>
      (app x2432 [y2532]).bind fun x2542 =>
      some x2542)
    else some x2432 : Option (List Nat)).bind fun s2548 => letter_parts_r19 s2548
def letter_parts_r21 (x1376 : M161) (x2358 : List Nat) : Option (List Nat) :=
  (if (x1376.f1.f4 != 0) = true then (
      (letter_of x1376.f1.f4).bind fun y2569 =>
      (app x2358 [y2569]).bind fun x2579 =>
      some x2579)
    else some x2358 : Option (List Nat)).bind fun s2585 => letter_parts_r20 x1376 s2585
def letter_parts_r22 (x1376 : M161) (x2284 : List Nat) : Option (List Nat) :=
  (if (x1376.f1.f3 != 0) = true then (
      (letter_of x1376.f1.f3).bind fun y2606 =>
      (app x2284 [y2606]).bind fun x2616 =>
      some x2616)
    else some x2284 : Option (List Nat)).bind fun s2622 => letter_parts_r21 x1376 s2622
def letter_parts_r23 (x1376 : M161) (x2210 : List Nat) : Option (List Nat) :=
  (if (x1376.f1.f2 != 0) = true then (
      (letter_of x1376.f1.f2).bind fun y2643 =>
      (app x2210 [y2643]).bind fun x2653 =>
      some x2653)
    else some x2210 : Option (List Nat)).bind fun s2659 => letter_parts_r22 x1376 s2659
def letter_parts_r24 (x1376 : M161) (x2136 : List Nat) : Option (List Nat) :=
  (if (x1376.f1.f1 != 0) = true then (
      (letter_of x1376.f1.f1).bind fun y2680 =>
      (app x2136 [y2680]).bind fun x2690 =>
      some x2690)
    else some x2136 : Option (List Nat)).bind fun s2696 => letter_parts_r23 x1376 s2696
def letter_parts (x1 : Int) : Option (List Nat) :=
  (ix gtab161 x1).bind fun x1376 =>
  (if (x1376.f1.f0 != 0) = true then (
      (letter_of x1376.f1.f0).bind fun y2719 =>
      some ([y2719]))
    else some ([]) : Option (List Nat)).bind fun s2739 => letter_parts_r24 x1376 s2739
theorem letter_parts_s {x1 : Int} {r : (List Nat)} (hk : letter_parts x1 = some r) {g w : World} {F : Ch} {ih : IH} (hG : Glob 0 gl0 162 ih) (hw : St g w [F] ih) :
    CallsR Tryz.prog 61 #[vi64 x1] w fun v w' => ∃ (ih' : IH) (p2740 : Option Addr) (c2741 : Nat) (d2743 : Ch), v = .slice p2740 r.length c2741 ∧ St g w' [d2743, F] ih' ∧ Le ih ih' ∧ OSl e134t ih' p2740 c2741 r d2743 := by
  refine f_in (vs := [vi64 x1]) Tryz.func61 rfl 22 rfl (by kernel_rfl) [(0, vi64 x1)] (by kernel_rfl) fun a Qf hQ hQn hs => ?_
  refine c_seq ?_
  refine c_region ?_
  refine pures hs 1 [0] [(0, vi64 x1)] (by kernel_rfl) fun a hs => ?_
  refine s_end ?_
  refine c_seq ?_
  refine c_region ?_
  refine pures hs 1 [0, 3] [(0, vi64 x1), (3, .slice none 0 0)] (by kernel_rfl) fun a hs => ?_
  refine s_end ?_
  refine c_seq ?_
  refine c_seq ?_
  refine c_region ?_
  refine pures hs 1 [3, 6] [(3, .slice none 0 0), (6, vi64 x1)] (by kernel_rfl) fun a hs => ?_
  obtain ⟨x1376, h1377, hk⟩ := bindE hk
  refine s_indexA hs (gtab161_row hG) (by kernel_rfl) (by kernel_rfl) (k := .i64) (by kernel_rfl) 161 (by kernel_rfl) (by kernel_rfl) h1377 fun a r1378 cs henc at1379 hs => ?_
  obtain rfl := henc
  refine pures hs 1 [3, 8] [(3, .slice none 0 0), (8, .pointer (some (r1378.add 1)))] (by kernel_rfl) fun a hs => ?_
  refine s_load hs (at1379 _ (hw.vwAll.nil.anti (Le.refl _))) 1 (by kernel_rfl) (by kernel_rfl) (v := .agg #[vi64 x1376.f1.f0, vi64 x1376.f1.f1, vi64 x1376.f1.f2, vi64 x1376.f1.f3, vi64 x1376.f1.f4, vi64 x1376.f1.f5]) (by kernel_rfl) fun a hs => ?_
  refine pures hs 1 [3, 9, 10] [(3, .slice none 0 0), (9, .agg #[vi64 x1376.f1.f0, vi64 x1376.f1.f1, vi64 x1376.f1.f2, vi64 x1376.f1.f3, vi64 x1376.f1.f4, vi64 x1376.f1.f5]), (10, vi64 0)] (by kernel_rfl) fun a hs => ?_
  refine s_end ?_
  refine c_block ?_
  refine wpIn_loop_rounds 7 ?_
  refine c_unr ?_
  refine c_seq ?_
  refine c_region ?_
  refine pures hs 1 [3, 9, 10, 11] [(3, .slice none 0 0), (9, .agg #[vi64 x1376.f1.f0, vi64 x1376.f1.f1, vi64 x1376.f1.f2, vi64 x1376.f1.f3, vi64 x1376.f1.f4, vi64 x1376.f1.f5]), (10, vi64 0), (11, .bool true)] (by kernel_rfl) fun a hs => ?_
  refine s_end ?_
  refine c_seq ?_
  refine c_condT hs (by kernel_rfl) (by kernel_rfl) ?_
  refine c_skip ?_
  obtain ⟨y2697, hx2698, hk⟩ := bindE hk
  obtain ⟨J2699, hJ2699⟩ : ∃ J : Act → World → Prop, ∀ a w, J a w ↔ (∃ (x2136 : List Nat) (p2137 : Option Addr) (c2138 : Nat) (d2140 : Ch) (ih2134 : IH), letter_parts_r24 x1376 x2136 = some r ∧ Sees a 22 [(9, .agg #[vi64 x1376.f1.f0, vi64 x1376.f1.f1, vi64 x1376.f1.f2, vi64 x1376.f1.f3, vi64 x1376.f1.f4, vi64 x1376.f1.f5]), (10, vi64 0), (3, .slice p2137 x2136.length c2138)] ∧ St g w [d2140, F] ih2134 ∧ Le ih ih2134 ∧ OSl e134t ih2134 p2137 c2138 x2136 d2140) := ⟨_, fun _ _ => Iff.rfl⟩
  refine c_seqJ J2699 ?_ ?_
  · refine c_block ?_
    refine c_seq ?_
    refine c_region ?_
    refine pures hs 2 [3, 9, 10, 5] [(3, .slice none 0 0), (9, .agg #[vi64 x1376.f1.f0, vi64 x1376.f1.f1, vi64 x1376.f1.f2, vi64 x1376.f1.f3, vi64 x1376.f1.f4, vi64 x1376.f1.f5]), (10, vi64 0), (5, vi64 x1376.f1.f0)] (by kernel_rfl) fun a hs => ?_
    refine s_end ?_
    refine c_seq ?_
    refine c_region ?_
    refine pures hs 2 [3, 9, 10, 5, 14] [(3, .slice none 0 0), (9, .agg #[vi64 x1376.f1.f0, vi64 x1376.f1.f1, vi64 x1376.f1.f2, vi64 x1376.f1.f3, vi64 x1376.f1.f4, vi64 x1376.f1.f5]), (10, vi64 0), (5, vi64 x1376.f1.f0), (14, .bool (x1376.f1.f0 != 0))] (by kernel_rfl) fun a hs => ?_
    refine s_end ?_
    rcases ifbE hx2698 with ⟨h2700, hx2698⟩ | ⟨h2700, hx2698⟩
    · refine c_cond1 hs (by kernel_rfl) (t := (x1376.f1.f0 != 0)) (by kernel_rfl) h2700 ?_
      refine c_region ?_
      refine pures hs 2 [9, 10, 15, 16] [(9, .agg #[vi64 x1376.f1.f0, vi64 x1376.f1.f1, vi64 x1376.f1.f2, vi64 x1376.f1.f3, vi64 x1376.f1.f4, vi64 x1376.f1.f5]), (10, vi64 0), (15, .slice none 0 0), (16, vi64 x1376.f1.f0)] (by kernel_rfl) fun a hs => ?_
      obtain ⟨y2719, h2720, hx2698⟩ := bindE hx2698
      refine s_call hs (by kernel_rfl) (by kernel_rfl) (letter_of_s h2720 ((hw.pick [0] (by kernel_rfl)).pack 0)) fun a w v hv hs => ?_
      obtain ⟨ih2721, u2723, u2724, u2725, rfl, hw, hle2722, h2726⟩ := hv
      replace hw := hw.unpack 0 rfl
      refine s_new hs hw [u2723, u2724, u2725] 134 (fun b => .slice (some ⟨b, 0, none⟩) 1 1) (by kernel_rfl) (fun _ => by kernel_rfl) fun a w b2727 hs hw => ?_
      replace hw := hw.nil
      have h2732 : app (α := Nat) ([]) [y2719] = some ([y2719]) := rfl
      refine s_app1 hs hw (E := e134t) appT129t 0 rfl (OSl.nil _ _) (by kernel_rfl) (by kernel_rfl) (c2 := 1) (by kernel_rfl) (hw.at_ 1 rfl) (z := y2719) (e134t.mono h2726 (Le.refl _)) h2732 fun a w p2733 c2734 d2735 h2736 hw hs => ?_
      refine pures hs 1 [9, 10, 3] [(9, .agg #[vi64 x1376.f1.f0, vi64 x1376.f1.f1, vi64 x1376.f1.f2, vi64 x1376.f1.f3, vi64 x1376.f1.f4, vi64 x1376.f1.f5]), (10, vi64 0), (3, .slice p2733 1 c2734)] (by kernel_rfl) fun a hs => ?_
      refine s_end ?_
      obtain rfl := someE hx2698
      exact (hJ2699 _ _).2 ⟨([y2719]), p2733, c2734, d2735, ih2721, hk, hs.cast [9, 10, 3] (by kernel_rfl), hw.pick [0, 2] (by kernel_rfl), hle2722, h2736⟩
    refine c_cond0 hs (by kernel_rfl) (t := (x1376.f1.f0 != 0)) (by kernel_rfl) h2700 ?_
    refine c_skip ?_
    obtain rfl := someE hx2698
    replace hw := hw.nil
    exact (hJ2699 _ _).2 ⟨([]), none, 0, ([]), ih, hk, hs.cast [9, 10, 3] (by kernel_rfl), hw.pick [0, 1] (by kernel_rfl), (Le.refl _), (OSl.nil _ _)⟩
  intro a w hh
  obtain ⟨x2136, p2137, c2138, d2140, ih2134, hk, hs, hw, hle2135, h2139⟩ := (hJ2699 _ _).1 hh
  refine c_region ?_
  refine pures hs 2 [9, 10, 3] [(9, .agg #[vi64 x1376.f1.f0, vi64 x1376.f1.f1, vi64 x1376.f1.f2, vi64 x1376.f1.f3, vi64 x1376.f1.f4, vi64 x1376.f1.f5]), (10, vi64 1), (3, .slice p2137 x2136.length c2138)] (by kernel_rfl) fun a hs => ?_
  refine s_end ?_
  refine c_unr ?_
  refine c_seq ?_
  refine c_region ?_
  refine pures hs 1 [9, 10, 3, 11] [(9, .agg #[vi64 x1376.f1.f0, vi64 x1376.f1.f1, vi64 x1376.f1.f2, vi64 x1376.f1.f3, vi64 x1376.f1.f4, vi64 x1376.f1.f5]), (10, vi64 1), (3, .slice p2137 x2136.length c2138), (11, .bool true)] (by kernel_rfl) fun a hs => ?_
  refine s_end ?_
  refine c_seq ?_
  refine c_condT hs (by kernel_rfl) (by kernel_rfl) ?_
  refine c_skip ?_
  obtain ⟨y2660, hx2661, hk⟩ := bindE hk
  obtain ⟨J2662, hJ2662⟩ : ∃ J : Act → World → Prop, ∀ a w, J a w ↔ (∃ (x2210 : List Nat) (p2211 : Option Addr) (c2212 : Nat) (d2214 : Ch) (ih2208 : IH), letter_parts_r23 x1376 x2210 = some r ∧ Sees a 22 [(9, .agg #[vi64 x1376.f1.f0, vi64 x1376.f1.f1, vi64 x1376.f1.f2, vi64 x1376.f1.f3, vi64 x1376.f1.f4, vi64 x1376.f1.f5]), (10, vi64 1), (3, .slice p2211 x2210.length c2212)] ∧ St g w [d2214, F] ih2208 ∧ Le ih2134 ih2208 ∧ OSl e134t ih2208 p2211 c2212 x2210 d2214) := ⟨_, fun _ _ => Iff.rfl⟩
  refine c_seqJ J2662 ?_ ?_
  · refine c_block ?_
    refine c_seq ?_
    refine c_region ?_
    refine pures hs 2 [9, 10, 3, 5] [(9, .agg #[vi64 x1376.f1.f0, vi64 x1376.f1.f1, vi64 x1376.f1.f2, vi64 x1376.f1.f3, vi64 x1376.f1.f4, vi64 x1376.f1.f5]), (10, vi64 1), (3, .slice p2137 x2136.length c2138), (5, vi64 x1376.f1.f1)] (by kernel_rfl) fun a hs => ?_
    refine s_end ?_
    refine c_seq ?_
    refine c_region ?_
    refine pures hs 2 [9, 10, 3, 5, 14] [(9, .agg #[vi64 x1376.f1.f0, vi64 x1376.f1.f1, vi64 x1376.f1.f2, vi64 x1376.f1.f3, vi64 x1376.f1.f4, vi64 x1376.f1.f5]), (10, vi64 1), (3, .slice p2137 x2136.length c2138), (5, vi64 x1376.f1.f1), (14, .bool (x1376.f1.f1 != 0))] (by kernel_rfl) fun a hs => ?_
    refine s_end ?_
    rcases ifbE hx2661 with ⟨h2663, hx2661⟩ | ⟨h2663, hx2661⟩
    · refine c_cond1 hs (by kernel_rfl) (t := (x1376.f1.f1 != 0)) (by kernel_rfl) h2663 ?_
      refine c_region ?_
      refine pures hs 2 [9, 10, 15, 16] [(9, .agg #[vi64 x1376.f1.f0, vi64 x1376.f1.f1, vi64 x1376.f1.f2, vi64 x1376.f1.f3, vi64 x1376.f1.f4, vi64 x1376.f1.f5]), (10, vi64 1), (15, .slice p2137 x2136.length c2138), (16, vi64 x1376.f1.f1)] (by kernel_rfl) fun a hs => ?_
      obtain ⟨y2680, h2681, hx2661⟩ := bindE hx2661
      refine s_call hs (by kernel_rfl) (by kernel_rfl) (letter_of_s h2681 ((hw.pick [0, 1] (by kernel_rfl)).pack 0)) fun a w v hv hs => ?_
      obtain ⟨ih2682, u2684, u2685, u2686, rfl, hw, hle2683, h2687⟩ := hv
      replace hw := hw.unpack 0 rfl
      refine s_new hs hw [u2684, u2685, u2686] 134 (fun b => .slice (some ⟨b, 0, none⟩) 1 1) (by kernel_rfl) (fun _ => by kernel_rfl) fun a w b2688 hs hw => ?_
      obtain ⟨x2690, h2691, hx2661⟩ := bindE hx2661
      refine s_app1 hs hw (E := e134t) appT129t 1 rfl (h2139.mono hle2683) (by kernel_rfl) (by kernel_rfl) (c2 := 1) (by kernel_rfl) (hw.at_ 0 rfl) (z := y2680) (e134t.mono h2687 (Le.refl _)) h2691 fun a w p2692 c2693 d2694 h2695 hw hs => ?_
      refine pures hs 1 [9, 10, 3] [(9, .agg #[vi64 x1376.f1.f0, vi64 x1376.f1.f1, vi64 x1376.f1.f2, vi64 x1376.f1.f3, vi64 x1376.f1.f4, vi64 x1376.f1.f5]), (10, vi64 1), (3, .slice p2692 x2690.length c2693)] (by kernel_rfl) fun a hs => ?_
      refine s_end ?_
      obtain rfl := someE hx2661
      exact (hJ2662 _ _).2 ⟨x2690, p2692, c2693, d2694, ih2682, hk, hs.cast [9, 10, 3] (by kernel_rfl), hw.pick [1, 2] (by kernel_rfl), hle2683, h2695⟩
    refine c_cond0 hs (by kernel_rfl) (t := (x1376.f1.f1 != 0)) (by kernel_rfl) h2663 ?_
    refine c_skip ?_
    obtain rfl := someE hx2661
    exact (hJ2662 _ _).2 ⟨x2136, p2137, c2138, d2140, ih2134, hk, hs.cast [9, 10, 3] (by kernel_rfl), hw.pick [0, 1] (by kernel_rfl), (Le.refl _), h2139⟩
  intro a w hh
  obtain ⟨x2210, p2211, c2212, d2214, ih2208, hk, hs, hw, hle2209, h2213⟩ := (hJ2662 _ _).1 hh
  refine c_region ?_
  refine pures hs 2 [9, 10, 3] [(9, .agg #[vi64 x1376.f1.f0, vi64 x1376.f1.f1, vi64 x1376.f1.f2, vi64 x1376.f1.f3, vi64 x1376.f1.f4, vi64 x1376.f1.f5]), (10, vi64 2), (3, .slice p2211 x2210.length c2212)] (by kernel_rfl) fun a hs => ?_
  refine s_end ?_
  refine c_unr ?_
  refine c_seq ?_
  refine c_region ?_
  refine pures hs 1 [9, 10, 3, 11] [(9, .agg #[vi64 x1376.f1.f0, vi64 x1376.f1.f1, vi64 x1376.f1.f2, vi64 x1376.f1.f3, vi64 x1376.f1.f4, vi64 x1376.f1.f5]), (10, vi64 2), (3, .slice p2211 x2210.length c2212), (11, .bool true)] (by kernel_rfl) fun a hs => ?_
  refine s_end ?_
  refine c_seq ?_
  refine c_condT hs (by kernel_rfl) (by kernel_rfl) ?_
  refine c_skip ?_
  obtain ⟨y2623, hx2624, hk⟩ := bindE hk
  obtain ⟨J2625, hJ2625⟩ : ∃ J : Act → World → Prop, ∀ a w, J a w ↔ (∃ (x2284 : List Nat) (p2285 : Option Addr) (c2286 : Nat) (d2288 : Ch) (ih2282 : IH), letter_parts_r22 x1376 x2284 = some r ∧ Sees a 22 [(9, .agg #[vi64 x1376.f1.f0, vi64 x1376.f1.f1, vi64 x1376.f1.f2, vi64 x1376.f1.f3, vi64 x1376.f1.f4, vi64 x1376.f1.f5]), (10, vi64 2), (3, .slice p2285 x2284.length c2286)] ∧ St g w [d2288, F] ih2282 ∧ Le ih2208 ih2282 ∧ OSl e134t ih2282 p2285 c2286 x2284 d2288) := ⟨_, fun _ _ => Iff.rfl⟩
  refine c_seqJ J2625 ?_ ?_
  · refine c_block ?_
    refine c_seq ?_
    refine c_region ?_
    refine pures hs 2 [9, 10, 3, 5] [(9, .agg #[vi64 x1376.f1.f0, vi64 x1376.f1.f1, vi64 x1376.f1.f2, vi64 x1376.f1.f3, vi64 x1376.f1.f4, vi64 x1376.f1.f5]), (10, vi64 2), (3, .slice p2211 x2210.length c2212), (5, vi64 x1376.f1.f2)] (by kernel_rfl) fun a hs => ?_
    refine s_end ?_
    refine c_seq ?_
    refine c_region ?_
    refine pures hs 2 [9, 10, 3, 5, 14] [(9, .agg #[vi64 x1376.f1.f0, vi64 x1376.f1.f1, vi64 x1376.f1.f2, vi64 x1376.f1.f3, vi64 x1376.f1.f4, vi64 x1376.f1.f5]), (10, vi64 2), (3, .slice p2211 x2210.length c2212), (5, vi64 x1376.f1.f2), (14, .bool (x1376.f1.f2 != 0))] (by kernel_rfl) fun a hs => ?_
    refine s_end ?_
    rcases ifbE hx2624 with ⟨h2626, hx2624⟩ | ⟨h2626, hx2624⟩
    · refine c_cond1 hs (by kernel_rfl) (t := (x1376.f1.f2 != 0)) (by kernel_rfl) h2626 ?_
      refine c_region ?_
      refine pures hs 2 [9, 10, 15, 16] [(9, .agg #[vi64 x1376.f1.f0, vi64 x1376.f1.f1, vi64 x1376.f1.f2, vi64 x1376.f1.f3, vi64 x1376.f1.f4, vi64 x1376.f1.f5]), (10, vi64 2), (15, .slice p2211 x2210.length c2212), (16, vi64 x1376.f1.f2)] (by kernel_rfl) fun a hs => ?_
      obtain ⟨y2643, h2644, hx2624⟩ := bindE hx2624
      refine s_call hs (by kernel_rfl) (by kernel_rfl) (letter_of_s h2644 ((hw.pick [0, 1] (by kernel_rfl)).pack 0)) fun a w v hv hs => ?_
      obtain ⟨ih2645, u2647, u2648, u2649, rfl, hw, hle2646, h2650⟩ := hv
      replace hw := hw.unpack 0 rfl
      refine s_new hs hw [u2647, u2648, u2649] 134 (fun b => .slice (some ⟨b, 0, none⟩) 1 1) (by kernel_rfl) (fun _ => by kernel_rfl) fun a w b2651 hs hw => ?_
      obtain ⟨x2653, h2654, hx2624⟩ := bindE hx2624
      refine s_app1 hs hw (E := e134t) appT129t 1 rfl (h2213.mono hle2646) (by kernel_rfl) (by kernel_rfl) (c2 := 1) (by kernel_rfl) (hw.at_ 0 rfl) (z := y2643) (e134t.mono h2650 (Le.refl _)) h2654 fun a w p2655 c2656 d2657 h2658 hw hs => ?_
      refine pures hs 1 [9, 10, 3] [(9, .agg #[vi64 x1376.f1.f0, vi64 x1376.f1.f1, vi64 x1376.f1.f2, vi64 x1376.f1.f3, vi64 x1376.f1.f4, vi64 x1376.f1.f5]), (10, vi64 2), (3, .slice p2655 x2653.length c2656)] (by kernel_rfl) fun a hs => ?_
      refine s_end ?_
      obtain rfl := someE hx2624
      exact (hJ2625 _ _).2 ⟨x2653, p2655, c2656, d2657, ih2645, hk, hs.cast [9, 10, 3] (by kernel_rfl), hw.pick [1, 2] (by kernel_rfl), hle2646, h2658⟩
    refine c_cond0 hs (by kernel_rfl) (t := (x1376.f1.f2 != 0)) (by kernel_rfl) h2626 ?_
    refine c_skip ?_
    obtain rfl := someE hx2624
    exact (hJ2625 _ _).2 ⟨x2210, p2211, c2212, d2214, ih2208, hk, hs.cast [9, 10, 3] (by kernel_rfl), hw.pick [0, 1] (by kernel_rfl), (Le.refl _), h2213⟩
  intro a w hh
  obtain ⟨x2284, p2285, c2286, d2288, ih2282, hk, hs, hw, hle2283, h2287⟩ := (hJ2625 _ _).1 hh
  refine c_region ?_
  refine pures hs 2 [9, 10, 3] [(9, .agg #[vi64 x1376.f1.f0, vi64 x1376.f1.f1, vi64 x1376.f1.f2, vi64 x1376.f1.f3, vi64 x1376.f1.f4, vi64 x1376.f1.f5]), (10, vi64 3), (3, .slice p2285 x2284.length c2286)] (by kernel_rfl) fun a hs => ?_
  refine s_end ?_
  refine c_unr ?_
  refine c_seq ?_
  refine c_region ?_
  refine pures hs 1 [9, 10, 3, 11] [(9, .agg #[vi64 x1376.f1.f0, vi64 x1376.f1.f1, vi64 x1376.f1.f2, vi64 x1376.f1.f3, vi64 x1376.f1.f4, vi64 x1376.f1.f5]), (10, vi64 3), (3, .slice p2285 x2284.length c2286), (11, .bool true)] (by kernel_rfl) fun a hs => ?_
  refine s_end ?_
  refine c_seq ?_
  refine c_condT hs (by kernel_rfl) (by kernel_rfl) ?_
  refine c_skip ?_
  obtain ⟨y2586, hx2587, hk⟩ := bindE hk
  obtain ⟨J2588, hJ2588⟩ : ∃ J : Act → World → Prop, ∀ a w, J a w ↔ (∃ (x2358 : List Nat) (p2359 : Option Addr) (c2360 : Nat) (d2362 : Ch) (ih2356 : IH), letter_parts_r21 x1376 x2358 = some r ∧ Sees a 22 [(9, .agg #[vi64 x1376.f1.f0, vi64 x1376.f1.f1, vi64 x1376.f1.f2, vi64 x1376.f1.f3, vi64 x1376.f1.f4, vi64 x1376.f1.f5]), (10, vi64 3), (3, .slice p2359 x2358.length c2360)] ∧ St g w [d2362, F] ih2356 ∧ Le ih2282 ih2356 ∧ OSl e134t ih2356 p2359 c2360 x2358 d2362) := ⟨_, fun _ _ => Iff.rfl⟩
  refine c_seqJ J2588 ?_ ?_
  · refine c_block ?_
    refine c_seq ?_
    refine c_region ?_
    refine pures hs 2 [9, 10, 3, 5] [(9, .agg #[vi64 x1376.f1.f0, vi64 x1376.f1.f1, vi64 x1376.f1.f2, vi64 x1376.f1.f3, vi64 x1376.f1.f4, vi64 x1376.f1.f5]), (10, vi64 3), (3, .slice p2285 x2284.length c2286), (5, vi64 x1376.f1.f3)] (by kernel_rfl) fun a hs => ?_
    refine s_end ?_
    refine c_seq ?_
    refine c_region ?_
    refine pures hs 2 [9, 10, 3, 5, 14] [(9, .agg #[vi64 x1376.f1.f0, vi64 x1376.f1.f1, vi64 x1376.f1.f2, vi64 x1376.f1.f3, vi64 x1376.f1.f4, vi64 x1376.f1.f5]), (10, vi64 3), (3, .slice p2285 x2284.length c2286), (5, vi64 x1376.f1.f3), (14, .bool (x1376.f1.f3 != 0))] (by kernel_rfl) fun a hs => ?_
    refine s_end ?_
    rcases ifbE hx2587 with ⟨h2589, hx2587⟩ | ⟨h2589, hx2587⟩
    · refine c_cond1 hs (by kernel_rfl) (t := (x1376.f1.f3 != 0)) (by kernel_rfl) h2589 ?_
      refine c_region ?_
      refine pures hs 2 [9, 10, 15, 16] [(9, .agg #[vi64 x1376.f1.f0, vi64 x1376.f1.f1, vi64 x1376.f1.f2, vi64 x1376.f1.f3, vi64 x1376.f1.f4, vi64 x1376.f1.f5]), (10, vi64 3), (15, .slice p2285 x2284.length c2286), (16, vi64 x1376.f1.f3)] (by kernel_rfl) fun a hs => ?_
      obtain ⟨y2606, h2607, hx2587⟩ := bindE hx2587
      refine s_call hs (by kernel_rfl) (by kernel_rfl) (letter_of_s h2607 ((hw.pick [0, 1] (by kernel_rfl)).pack 0)) fun a w v hv hs => ?_
      obtain ⟨ih2608, u2610, u2611, u2612, rfl, hw, hle2609, h2613⟩ := hv
      replace hw := hw.unpack 0 rfl
      refine s_new hs hw [u2610, u2611, u2612] 134 (fun b => .slice (some ⟨b, 0, none⟩) 1 1) (by kernel_rfl) (fun _ => by kernel_rfl) fun a w b2614 hs hw => ?_
      obtain ⟨x2616, h2617, hx2587⟩ := bindE hx2587
      refine s_app1 hs hw (E := e134t) appT129t 1 rfl (h2287.mono hle2609) (by kernel_rfl) (by kernel_rfl) (c2 := 1) (by kernel_rfl) (hw.at_ 0 rfl) (z := y2606) (e134t.mono h2613 (Le.refl _)) h2617 fun a w p2618 c2619 d2620 h2621 hw hs => ?_
      refine pures hs 1 [9, 10, 3] [(9, .agg #[vi64 x1376.f1.f0, vi64 x1376.f1.f1, vi64 x1376.f1.f2, vi64 x1376.f1.f3, vi64 x1376.f1.f4, vi64 x1376.f1.f5]), (10, vi64 3), (3, .slice p2618 x2616.length c2619)] (by kernel_rfl) fun a hs => ?_
      refine s_end ?_
      obtain rfl := someE hx2587
      exact (hJ2588 _ _).2 ⟨x2616, p2618, c2619, d2620, ih2608, hk, hs.cast [9, 10, 3] (by kernel_rfl), hw.pick [1, 2] (by kernel_rfl), hle2609, h2621⟩
    refine c_cond0 hs (by kernel_rfl) (t := (x1376.f1.f3 != 0)) (by kernel_rfl) h2589 ?_
    refine c_skip ?_
    obtain rfl := someE hx2587
    exact (hJ2588 _ _).2 ⟨x2284, p2285, c2286, d2288, ih2282, hk, hs.cast [9, 10, 3] (by kernel_rfl), hw.pick [0, 1] (by kernel_rfl), (Le.refl _), h2287⟩
  intro a w hh
  obtain ⟨x2358, p2359, c2360, d2362, ih2356, hk, hs, hw, hle2357, h2361⟩ := (hJ2588 _ _).1 hh
  refine c_region ?_
  refine pures hs 2 [9, 10, 3] [(9, .agg #[vi64 x1376.f1.f0, vi64 x1376.f1.f1, vi64 x1376.f1.f2, vi64 x1376.f1.f3, vi64 x1376.f1.f4, vi64 x1376.f1.f5]), (10, vi64 4), (3, .slice p2359 x2358.length c2360)] (by kernel_rfl) fun a hs => ?_
  refine s_end ?_
  refine c_unr ?_
  refine c_seq ?_
  refine c_region ?_
  refine pures hs 1 [9, 10, 3, 11] [(9, .agg #[vi64 x1376.f1.f0, vi64 x1376.f1.f1, vi64 x1376.f1.f2, vi64 x1376.f1.f3, vi64 x1376.f1.f4, vi64 x1376.f1.f5]), (10, vi64 4), (3, .slice p2359 x2358.length c2360), (11, .bool true)] (by kernel_rfl) fun a hs => ?_
  refine s_end ?_
  refine c_seq ?_
  refine c_condT hs (by kernel_rfl) (by kernel_rfl) ?_
  refine c_skip ?_
  obtain ⟨y2549, hx2550, hk⟩ := bindE hk
  obtain ⟨J2551, hJ2551⟩ : ∃ J : Act → World → Prop, ∀ a w, J a w ↔ (∃ (x2432 : List Nat) (p2433 : Option Addr) (c2434 : Nat) (d2436 : Ch) (ih2430 : IH), letter_parts_r20 x1376 x2432 = some r ∧ Sees a 22 [(9, .agg #[vi64 x1376.f1.f0, vi64 x1376.f1.f1, vi64 x1376.f1.f2, vi64 x1376.f1.f3, vi64 x1376.f1.f4, vi64 x1376.f1.f5]), (10, vi64 4), (3, .slice p2433 x2432.length c2434)] ∧ St g w [d2436, F] ih2430 ∧ Le ih2356 ih2430 ∧ OSl e134t ih2430 p2433 c2434 x2432 d2436) := ⟨_, fun _ _ => Iff.rfl⟩
  refine c_seqJ J2551 ?_ ?_
  · refine c_block ?_
    refine c_seq ?_
    refine c_region ?_
    refine pures hs 2 [9, 10, 3, 5] [(9, .agg #[vi64 x1376.f1.f0, vi64 x1376.f1.f1, vi64 x1376.f1.f2, vi64 x1376.f1.f3, vi64 x1376.f1.f4, vi64 x1376.f1.f5]), (10, vi64 4), (3, .slice p2359 x2358.length c2360), (5, vi64 x1376.f1.f4)] (by kernel_rfl) fun a hs => ?_
    refine s_end ?_
    refine c_seq ?_
    refine c_region ?_
    refine pures hs 2 [9, 10, 3, 5, 14] [(9, .agg #[vi64 x1376.f1.f0, vi64 x1376.f1.f1, vi64 x1376.f1.f2, vi64 x1376.f1.f3, vi64 x1376.f1.f4, vi64 x1376.f1.f5]), (10, vi64 4), (3, .slice p2359 x2358.length c2360), (5, vi64 x1376.f1.f4), (14, .bool (x1376.f1.f4 != 0))] (by kernel_rfl) fun a hs => ?_
    refine s_end ?_
    rcases ifbE hx2550 with ⟨h2552, hx2550⟩ | ⟨h2552, hx2550⟩
    · refine c_cond1 hs (by kernel_rfl) (t := (x1376.f1.f4 != 0)) (by kernel_rfl) h2552 ?_
      refine c_region ?_
      refine pures hs 2 [9, 10, 15, 16] [(9, .agg #[vi64 x1376.f1.f0, vi64 x1376.f1.f1, vi64 x1376.f1.f2, vi64 x1376.f1.f3, vi64 x1376.f1.f4, vi64 x1376.f1.f5]), (10, vi64 4), (15, .slice p2359 x2358.length c2360), (16, vi64 x1376.f1.f4)] (by kernel_rfl) fun a hs => ?_
      obtain ⟨y2569, h2570, hx2550⟩ := bindE hx2550
      refine s_call hs (by kernel_rfl) (by kernel_rfl) (letter_of_s h2570 ((hw.pick [0, 1] (by kernel_rfl)).pack 0)) fun a w v hv hs => ?_
      obtain ⟨ih2571, u2573, u2574, u2575, rfl, hw, hle2572, h2576⟩ := hv
      replace hw := hw.unpack 0 rfl
      refine s_new hs hw [u2573, u2574, u2575] 134 (fun b => .slice (some ⟨b, 0, none⟩) 1 1) (by kernel_rfl) (fun _ => by kernel_rfl) fun a w b2577 hs hw => ?_
      obtain ⟨x2579, h2580, hx2550⟩ := bindE hx2550
      refine s_app1 hs hw (E := e134t) appT129t 1 rfl (h2361.mono hle2572) (by kernel_rfl) (by kernel_rfl) (c2 := 1) (by kernel_rfl) (hw.at_ 0 rfl) (z := y2569) (e134t.mono h2576 (Le.refl _)) h2580 fun a w p2581 c2582 d2583 h2584 hw hs => ?_
      refine pures hs 1 [9, 10, 3] [(9, .agg #[vi64 x1376.f1.f0, vi64 x1376.f1.f1, vi64 x1376.f1.f2, vi64 x1376.f1.f3, vi64 x1376.f1.f4, vi64 x1376.f1.f5]), (10, vi64 4), (3, .slice p2581 x2579.length c2582)] (by kernel_rfl) fun a hs => ?_
      refine s_end ?_
      obtain rfl := someE hx2550
      exact (hJ2551 _ _).2 ⟨x2579, p2581, c2582, d2583, ih2571, hk, hs.cast [9, 10, 3] (by kernel_rfl), hw.pick [1, 2] (by kernel_rfl), hle2572, h2584⟩
    refine c_cond0 hs (by kernel_rfl) (t := (x1376.f1.f4 != 0)) (by kernel_rfl) h2552 ?_
    refine c_skip ?_
    obtain rfl := someE hx2550
    exact (hJ2551 _ _).2 ⟨x2358, p2359, c2360, d2362, ih2356, hk, hs.cast [9, 10, 3] (by kernel_rfl), hw.pick [0, 1] (by kernel_rfl), (Le.refl _), h2361⟩
  intro a w hh
  obtain ⟨x2432, p2433, c2434, d2436, ih2430, hk, hs, hw, hle2431, h2435⟩ := (hJ2551 _ _).1 hh
  refine c_region ?_
  refine pures hs 2 [9, 10, 3] [(9, .agg #[vi64 x1376.f1.f0, vi64 x1376.f1.f1, vi64 x1376.f1.f2, vi64 x1376.f1.f3, vi64 x1376.f1.f4, vi64 x1376.f1.f5]), (10, vi64 5), (3, .slice p2433 x2432.length c2434)] (by kernel_rfl) fun a hs => ?_
  refine s_end ?_
  refine c_unr ?_
  refine c_seq ?_
  refine c_region ?_
  refine pures hs 1 [9, 10, 3, 11] [(9, .agg #[vi64 x1376.f1.f0, vi64 x1376.f1.f1, vi64 x1376.f1.f2, vi64 x1376.f1.f3, vi64 x1376.f1.f4, vi64 x1376.f1.f5]), (10, vi64 5), (3, .slice p2433 x2432.length c2434), (11, .bool true)] (by kernel_rfl) fun a hs => ?_
  refine s_end ?_
  refine c_seq ?_
  refine c_condT hs (by kernel_rfl) (by kernel_rfl) ?_
  refine c_skip ?_
  obtain ⟨y2512, hx2513, hk⟩ := bindE hk
  obtain ⟨J2514, hJ2514⟩ : ∃ J : Act → World → Prop, ∀ a w, J a w ↔ (∃ (x2506 : List Nat) (p2507 : Option Addr) (c2508 : Nat) (d2510 : Ch) (ih2504 : IH), letter_parts_r19 x2506 = some r ∧ Sees a 22 [(9, .agg #[vi64 x1376.f1.f0, vi64 x1376.f1.f1, vi64 x1376.f1.f2, vi64 x1376.f1.f3, vi64 x1376.f1.f4, vi64 x1376.f1.f5]), (10, vi64 5), (3, .slice p2507 x2506.length c2508)] ∧ St g w [d2510, F] ih2504 ∧ Le ih2430 ih2504 ∧ OSl e134t ih2504 p2507 c2508 x2506 d2510) := ⟨_, fun _ _ => Iff.rfl⟩
  refine c_seqJ J2514 ?_ ?_
  · refine c_block ?_
    refine c_seq ?_
    refine c_region ?_
    refine pures hs 2 [9, 10, 3, 5] [(9, .agg #[vi64 x1376.f1.f0, vi64 x1376.f1.f1, vi64 x1376.f1.f2, vi64 x1376.f1.f3, vi64 x1376.f1.f4, vi64 x1376.f1.f5]), (10, vi64 5), (3, .slice p2433 x2432.length c2434), (5, vi64 x1376.f1.f5)] (by kernel_rfl) fun a hs => ?_
    refine s_end ?_
    refine c_seq ?_
    refine c_region ?_
    refine pures hs 2 [9, 10, 3, 5, 14] [(9, .agg #[vi64 x1376.f1.f0, vi64 x1376.f1.f1, vi64 x1376.f1.f2, vi64 x1376.f1.f3, vi64 x1376.f1.f4, vi64 x1376.f1.f5]), (10, vi64 5), (3, .slice p2433 x2432.length c2434), (5, vi64 x1376.f1.f5), (14, .bool (x1376.f1.f5 != 0))] (by kernel_rfl) fun a hs => ?_
    refine s_end ?_
    rcases ifbE hx2513 with ⟨h2515, hx2513⟩ | ⟨h2515, hx2513⟩
    · refine c_cond1 hs (by kernel_rfl) (t := (x1376.f1.f5 != 0)) (by kernel_rfl) h2515 ?_
      refine c_region ?_
      refine pures hs 2 [9, 10, 15, 16] [(9, .agg #[vi64 x1376.f1.f0, vi64 x1376.f1.f1, vi64 x1376.f1.f2, vi64 x1376.f1.f3, vi64 x1376.f1.f4, vi64 x1376.f1.f5]), (10, vi64 5), (15, .slice p2433 x2432.length c2434), (16, vi64 x1376.f1.f5)] (by kernel_rfl) fun a hs => ?_
      obtain ⟨y2532, h2533, hx2513⟩ := bindE hx2513
      refine s_call hs (by kernel_rfl) (by kernel_rfl) (letter_of_s h2533 ((hw.pick [0, 1] (by kernel_rfl)).pack 0)) fun a w v hv hs => ?_
      obtain ⟨ih2534, u2536, u2537, u2538, rfl, hw, hle2535, h2539⟩ := hv
      replace hw := hw.unpack 0 rfl
      refine s_new hs hw [u2536, u2537, u2538] 134 (fun b => .slice (some ⟨b, 0, none⟩) 1 1) (by kernel_rfl) (fun _ => by kernel_rfl) fun a w b2540 hs hw => ?_
      obtain ⟨x2542, h2543, hx2513⟩ := bindE hx2513
      refine s_app1 hs hw (E := e134t) appT129t 1 rfl (h2435.mono hle2535) (by kernel_rfl) (by kernel_rfl) (c2 := 1) (by kernel_rfl) (hw.at_ 0 rfl) (z := y2532) (e134t.mono h2539 (Le.refl _)) h2543 fun a w p2544 c2545 d2546 h2547 hw hs => ?_
      refine pures hs 1 [9, 10, 3] [(9, .agg #[vi64 x1376.f1.f0, vi64 x1376.f1.f1, vi64 x1376.f1.f2, vi64 x1376.f1.f3, vi64 x1376.f1.f4, vi64 x1376.f1.f5]), (10, vi64 5), (3, .slice p2544 x2542.length c2545)] (by kernel_rfl) fun a hs => ?_
      refine s_end ?_
      obtain rfl := someE hx2513
      exact (hJ2514 _ _).2 ⟨x2542, p2544, c2545, d2546, ih2534, hk, hs.cast [9, 10, 3] (by kernel_rfl), hw.pick [1, 2] (by kernel_rfl), hle2535, h2547⟩
    refine c_cond0 hs (by kernel_rfl) (t := (x1376.f1.f5 != 0)) (by kernel_rfl) h2515 ?_
    refine c_skip ?_
    obtain rfl := someE hx2513
    exact (hJ2514 _ _).2 ⟨x2432, p2433, c2434, d2436, ih2430, hk, hs.cast [9, 10, 3] (by kernel_rfl), hw.pick [0, 1] (by kernel_rfl), (Le.refl _), h2435⟩
  intro a w hh
  obtain ⟨x2506, p2507, c2508, d2510, ih2504, hk, hs, hw, hle2505, h2509⟩ := (hJ2514 _ _).1 hh
  refine c_region ?_
  refine pures hs 2 [9, 10, 3] [(9, .agg #[vi64 x1376.f1.f0, vi64 x1376.f1.f1, vi64 x1376.f1.f2, vi64 x1376.f1.f3, vi64 x1376.f1.f4, vi64 x1376.f1.f5]), (10, vi64 6), (3, .slice p2507 x2506.length c2508)] (by kernel_rfl) fun a hs => ?_
  refine s_end ?_
  refine c_unr ?_
  refine c_seq ?_
  refine c_region ?_
  refine pures hs 1 [9, 10, 3, 11] [(9, .agg #[vi64 x1376.f1.f0, vi64 x1376.f1.f1, vi64 x1376.f1.f2, vi64 x1376.f1.f3, vi64 x1376.f1.f4, vi64 x1376.f1.f5]), (10, vi64 6), (3, .slice p2507 x2506.length c2508), (11, .bool false)] (by kernel_rfl) fun a hs => ?_
  refine s_end ?_
  refine c_seq ?_
  refine c_condF hs (by kernel_rfl) (by kernel_rfl) ?_
  refine c_exit ?_
  refine c_seq ?_
  refine c_region ?_
  refine pures hs 2 [2] [(2, .slice p2507 x2506.length c2508)] (by kernel_rfl) fun a hs => ?_
  refine s_end ?_
  refine c_ret ?_
  obtain rfl := someE hk
  refine hQ _ _ (f_ret1 hs rfl (v := .slice p2507 x2506.length c2508) (by kernel_rfl) ⟨ih2504, p2507, c2508, d2510, rfl, hw.pick [0, 1] (by kernel_rfl), (((((hle2135.trans hle2209).trans hle2283).trans hle2357).trans hle2431).trans hle2505), h2509⟩)
def letter_other_1 (x1 : M48) : Option Bool :=
  some ((decide (x1.f12 ≥ 0)) && (decide (x1.f12 ≤ 255)))
theorem letter_other_1_s {x1 : M48} {p2 : Option Addr} {c3 : Nat} {p5 : Option Addr} {c6 : Nat} {p8 : Option Addr} {c9 : Nat} {p11 : Option Addr} {c12 : Nat} {r : Bool} (hk : letter_other_1 x1 = some r) {g w : World} {F : Ch} {ih : IH} (h4 : RSl e3 ih [] p2 c3 x1.f14.f2) (h7 : RSl e156 ih [] p5 c6 x1.f15) (h10 : RSl e96 ih [] p8 c9 x1.f16) (h13 : RSl e5 ih [] p11 c12 x1.f17) (hw : St g w [F] ih) :
    CallsR Tryz.prog 159 #[.agg #[vi64 x1.f0, vi64 x1.f1, vi64 x1.f2, vi64 x1.f3, vu64 x1.f4, vu64 x1.f5, vu64 x1.f6, vu64 x1.f7, vu64 x1.f8, vu64 x1.f9, vi64 x1.f10, vu32 x1.f11, vi64 x1.f12, vi64 x1.f13.f0, vi64 x1.f13.f1, vu64 x1.f13.f2, vi64 x1.f13.f3, vi64 x1.f14.f0, vu64 x1.f14.f1, .slice p2 x1.f14.f2.length c3, .bool x1.f14.f3, vi64 x1.f14.f4, .slice p5 x1.f15.length c6, .slice p8 x1.f16.length c9, .slice p11 x1.f17.length c12]] w fun v w' => v = .bool r ∧ St g w' [F] ih := by
  refine f_in (vs := [.agg #[vi64 x1.f0, vi64 x1.f1, vi64 x1.f2, vi64 x1.f3, vu64 x1.f4, vu64 x1.f5, vu64 x1.f6, vu64 x1.f7, vu64 x1.f8, vu64 x1.f9, vi64 x1.f10, vu32 x1.f11, vi64 x1.f12, vi64 x1.f13.f0, vi64 x1.f13.f1, vu64 x1.f13.f2, vi64 x1.f13.f3, vi64 x1.f14.f0, vu64 x1.f14.f1, .slice p2 x1.f14.f2.length c3, .bool x1.f14.f3, vi64 x1.f14.f4, .slice p5 x1.f15.length c6, .slice p8 x1.f16.length c9, .slice p11 x1.f17.length c12]]) Tryz.func159 rfl 11 rfl (by kernel_rfl) [(0, .agg #[vi64 x1.f0, vi64 x1.f1, vi64 x1.f2, vi64 x1.f3, vu64 x1.f4, vu64 x1.f5, vu64 x1.f6, vu64 x1.f7, vu64 x1.f8, vu64 x1.f9, vi64 x1.f10, vu32 x1.f11, vi64 x1.f12, vi64 x1.f13.f0, vi64 x1.f13.f1, vu64 x1.f13.f2, vi64 x1.f13.f3, vi64 x1.f14.f0, vu64 x1.f14.f1, .slice p2 x1.f14.f2.length c3, .bool x1.f14.f3, vi64 x1.f14.f4, .slice p5 x1.f15.length c6, .slice p8 x1.f16.length c9, .slice p11 x1.f17.length c12])] (by kernel_rfl) fun a Qf hQ hQn hs => ?_
  refine c_seq ?_
  refine c_region ?_
  refine s_new hs hw [vi64 x1.f0, vi64 x1.f1, vi64 x1.f2, vi64 x1.f3, vu64 x1.f4, vu64 x1.f5, vu64 x1.f6, vu64 x1.f7, vu64 x1.f8, vu64 x1.f9, vi64 x1.f10, vu32 x1.f11, vi64 x1.f12, vi64 x1.f13.f0, vi64 x1.f13.f1, vu64 x1.f13.f2, vi64 x1.f13.f3, vi64 x1.f14.f0, vu64 x1.f14.f1, .slice p2 x1.f14.f2.length c3, .bool x1.f14.f3, vi64 x1.f14.f4, .slice p5 x1.f15.length c6, .slice p8 x1.f16.length c9, .slice p11 x1.f17.length c12] 48 (fun b => (pt b 0)) (by kernel_rfl) (fun _ => by kernel_rfl) fun a w b27 hs hw => ?_
  refine pures hs 1 [1] [(1, (pt b27 0))] (by kernel_rfl) fun a hs => ?_
  refine s_end ?_
  refine c_seq ?_
  obtain ⟨J32, hJ32⟩ : ∃ J : Act → World → Prop, ∀ a w, J a w ↔ (Sees a 11 [(2, .bool ((decide (x1.f12 ≥ 0)) && (decide (x1.f12 ≤ 255))))] ∧ St g w [F] ih) := ⟨_, fun _ _ => Iff.rfl⟩
  refine c_regJ J32 ?_ ?_
  · refine pures hs 1 [1, 3] [(1, (pt b27 0)), (3, (pt b27 12))] (by kernel_rfl) fun a hs => ?_
    refine s_load hs (hw.at_ 0 rfl) 12 (by kernel_rfl) (by kernel_rfl) (v := vi64 x1.f12) (by kernel_rfl) fun a hs => ?_
    refine pures hs 2 [1, 6] [(1, (pt b27 0)), (6, .bool (decide (x1.f12 ≥ 0)))] (by kernel_rfl) fun a hs => ?_
    rcases boolE (decide (x1.f12 ≥ 0)) with h33 | h33
    · replace hs := hs.altB 6 true (by kernel_rfl) h33
      refine pures hs 1 [6, 7] [(6, .bool true), (7, (pt b27 12))] (by kernel_rfl) fun a hs => ?_
      refine s_load hs (hw.at_ 0 rfl) 12 (by kernel_rfl) (by kernel_rfl) (v := vi64 x1.f12) (by kernel_rfl) fun a hs => ?_
      refine pures hs 3 [2] [(2, .bool (decide (x1.f12 ≤ 255)))] (by kernel_rfl) fun a hs => ?_
      refine s_end ?_
      exact (hJ32 _ _).2 ⟨(hs.altB (b := (decide (x1.f12 ≤ 255))) 2 ((decide (x1.f12 ≥ 0)) && (decide (x1.f12 ≤ 255))) (by kernel_rfl) (by rw [h33] <;> rfl)).cast [2] (by kernel_rfl), hw.pick [1] (by kernel_rfl)⟩
    replace hs := hs.altB 6 false (by kernel_rfl) h33
    refine pures hs 5 [2] [(2, .bool false)] (by kernel_rfl) fun a hs => ?_
    refine s_end ?_
    exact (hJ32 _ _).2 ⟨(hs.altB (b := false) 2 ((decide (x1.f12 ≥ 0)) && (decide (x1.f12 ≤ 255))) (by kernel_rfl) (by rw [h33] <;> rfl)).cast [2] (by kernel_rfl), hw.pick [1] (by kernel_rfl)⟩
  intro a w hh
  obtain ⟨hs, hw⟩ := (hJ32 _ _).1 hh
  refine c_ret ?_
  obtain rfl := someE hk
  refine hQ _ _ (f_ret1 hs rfl (v := .bool ((decide (x1.f12 ≥ 0)) && (decide (x1.f12 ≤ 255)))) (by kernel_rfl) ⟨rfl, hw.pick [0] (by kernel_rfl)⟩)
def letter_any : Option Unit :=
  some ()
theorem letter_any_s {x1 : M48} {p2 : Option Addr} {c3 : Nat} {p5 : Option Addr} {c6 : Nat} {p8 : Option Addr} {c9 : Nat} {p11 : Option Addr} {c12 : Nat} {r : Unit} (hk : letter_any = some r) {g w : World} {F : Ch} {ih : IH} (h4 : RSl e3 ih [] p2 c3 x1.f14.f2) (h7 : RSl e156 ih [] p5 c6 x1.f15) (h10 : RSl e96 ih [] p8 c9 x1.f16) (h13 : RSl e5 ih [] p11 c12 x1.f17) (hw : St g w [F] ih) :
    CallsR Tryz.prog 140 #[.agg #[vi64 x1.f0, vi64 x1.f1, vi64 x1.f2, vi64 x1.f3, vu64 x1.f4, vu64 x1.f5, vu64 x1.f6, vu64 x1.f7, vu64 x1.f8, vu64 x1.f9, vi64 x1.f10, vu32 x1.f11, vi64 x1.f12, vi64 x1.f13.f0, vi64 x1.f13.f1, vu64 x1.f13.f2, vi64 x1.f13.f3, vi64 x1.f14.f0, vu64 x1.f14.f1, .slice p2 x1.f14.f2.length c3, .bool x1.f14.f3, vi64 x1.f14.f4, .slice p5 x1.f15.length c6, .slice p8 x1.f16.length c9, .slice p11 x1.f17.length c12]] w fun v w' => v = .bool true ∧ St g w' [F] ih := by
  refine f_in (vs := [.agg #[vi64 x1.f0, vi64 x1.f1, vi64 x1.f2, vi64 x1.f3, vu64 x1.f4, vu64 x1.f5, vu64 x1.f6, vu64 x1.f7, vu64 x1.f8, vu64 x1.f9, vi64 x1.f10, vu32 x1.f11, vi64 x1.f12, vi64 x1.f13.f0, vi64 x1.f13.f1, vu64 x1.f13.f2, vi64 x1.f13.f3, vi64 x1.f14.f0, vu64 x1.f14.f1, .slice p2 x1.f14.f2.length c3, .bool x1.f14.f3, vi64 x1.f14.f4, .slice p5 x1.f15.length c6, .slice p8 x1.f16.length c9, .slice p11 x1.f17.length c12]]) Tryz.func140 rfl 3 rfl (by kernel_rfl) [(0, .agg #[vi64 x1.f0, vi64 x1.f1, vi64 x1.f2, vi64 x1.f3, vu64 x1.f4, vu64 x1.f5, vu64 x1.f6, vu64 x1.f7, vu64 x1.f8, vu64 x1.f9, vi64 x1.f10, vu32 x1.f11, vi64 x1.f12, vi64 x1.f13.f0, vi64 x1.f13.f1, vu64 x1.f13.f2, vi64 x1.f13.f3, vi64 x1.f14.f0, vu64 x1.f14.f1, .slice p2 x1.f14.f2.length c3, .bool x1.f14.f3, vi64 x1.f14.f4, .slice p5 x1.f15.length c6, .slice p8 x1.f16.length c9, .slice p11 x1.f17.length c12])] (by kernel_rfl) fun a Qf hQ hQn hs => ?_
  refine c_seq ?_
  refine c_region ?_
  refine s_new hs hw [vi64 x1.f0, vi64 x1.f1, vi64 x1.f2, vi64 x1.f3, vu64 x1.f4, vu64 x1.f5, vu64 x1.f6, vu64 x1.f7, vu64 x1.f8, vu64 x1.f9, vi64 x1.f10, vu32 x1.f11, vi64 x1.f12, vi64 x1.f13.f0, vi64 x1.f13.f1, vu64 x1.f13.f2, vi64 x1.f13.f3, vi64 x1.f14.f0, vu64 x1.f14.f1, .slice p2 x1.f14.f2.length c3, .bool x1.f14.f3, vi64 x1.f14.f4, .slice p5 x1.f15.length c6, .slice p8 x1.f16.length c9, .slice p11 x1.f17.length c12] 48 (fun b => (pt b 0)) (by kernel_rfl) (fun _ => by kernel_rfl) fun a w b22 hs hw => ?_
  refine pures hs 1 [] [] (by kernel_rfl) fun a hs => ?_
  refine s_end ?_
  refine c_seq ?_
  refine c_region ?_
  refine pures hs 1 [2] [(2, .bool true)] (by kernel_rfl) fun a hs => ?_
  refine s_end ?_
  refine c_ret ?_
  obtain rfl := someE hk
  refine hQ _ _ (f_ret1 hs rfl (v := .bool true) (by kernel_rfl) ⟨rfl, hw.pick [1] (by kernel_rfl)⟩)
def cmds_Check (x1 : M41) : Option Int :=
  if ((decide (x1.f0 < 0)) || (decide (x1.f0 ≥ 5))) = true then some 1
  else if ((x1.f0 == 0) && (!((x1.f0 == 0) && ((x1.f1 == 0) && ((x1.f2 == 0) && ((x1.f3 == 0) && true)))))) = true then some 4
  else if (x1.f0 == 0) = true then some 0
  else if ((decide (x1.f1 < 0)) || ((decide (x1.f1 ≥ 4)) || ((decide (x1.f2 < 1)) || ((decide (x1.f3 < 1)) || (decide (x1.f3 > 24)))))) = true then some 4
  else some 0
theorem cmds_Check_s {x1 : M41} {r : Int} (hk : cmds_Check x1 = some r) {g w : World} {F : Ch} {ih : IH} (hw : St g w [F] ih) :
    CallsR Tryz.prog 165 #[.agg #[vi64 x1.f0, vi64 x1.f1, vu64 x1.f2, vi64 x1.f3]] w fun v w' => v = vi64 r ∧ St g w' [F] ih := by
  refine f_in (vs := [.agg #[vi64 x1.f0, vi64 x1.f1, vu64 x1.f2, vi64 x1.f3]]) Tryz.func165 rfl 49 rfl (by kernel_rfl) [(0, .agg #[vi64 x1.f0, vi64 x1.f1, vu64 x1.f2, vi64 x1.f3])] (by kernel_rfl) fun a Qf hQ hQn hs => ?_
  refine c_seq ?_
  refine c_region ?_
  refine s_new hs hw [vi64 x1.f0, vi64 x1.f1, vu64 x1.f2, vi64 x1.f3] 41 (fun b => (pt b 0)) (by kernel_rfl) (fun _ => by kernel_rfl) fun a w b38 hs hw => ?_
  refine pures hs 1 [1] [(1, (pt b38 0))] (by kernel_rfl) fun a hs => ?_
  refine s_end ?_
  refine c_seq ?_
  refine c_block ?_
  refine c_seq ?_
  obtain ⟨J43, hJ43⟩ : ∃ J : Act → World → Prop, ∀ a w, J a w ↔ (Sees a 49 [(1, (pt b38 0)), (3, .bool ((decide (x1.f0 < 0)) || (decide (x1.f0 ≥ 5))))] ∧ St g w [bx b38 [vi64 x1.f0, vi64 x1.f1, vu64 x1.f2, vi64 x1.f3] 41, F] ih) := ⟨_, fun _ _ => Iff.rfl⟩
  refine c_regJ J43 ?_ ?_
  · refine pures hs 1 [1, 4] [(1, (pt b38 0)), (4, (pt b38 0))] (by kernel_rfl) fun a hs => ?_
    refine s_load hs (hw.at_ 0 rfl) 0 (by kernel_rfl) (by kernel_rfl) (v := vi64 x1.f0) (by kernel_rfl) fun a hs => ?_
    refine pures hs 2 [1, 7] [(1, (pt b38 0)), (7, .bool (decide (x1.f0 < 0)))] (by kernel_rfl) fun a hs => ?_
    rcases boolE (decide (x1.f0 < 0)) with h44 | h44
    · replace hs := hs.altB 7 true (by kernel_rfl) h44
      refine pures hs 5 [1, 3] [(1, (pt b38 0)), (3, .bool true)] (by kernel_rfl) fun a hs => ?_
      refine s_end ?_
      exact (hJ43 _ _).2 ⟨(hs.altB (b := true) 3 ((decide (x1.f0 < 0)) || (decide (x1.f0 ≥ 5))) (by kernel_rfl) (by rw [h44] <;> rfl)).cast [1, 3] (by kernel_rfl), hw.pick [0, 1] (by kernel_rfl)⟩
    replace hs := hs.altB 7 false (by kernel_rfl) h44
    refine pures hs 1 [1, 7, 8] [(1, (pt b38 0)), (7, .bool false), (8, (pt b38 0))] (by kernel_rfl) fun a hs => ?_
    refine s_load hs (hw.at_ 0 rfl) 0 (by kernel_rfl) (by kernel_rfl) (v := vi64 x1.f0) (by kernel_rfl) fun a hs => ?_
    refine pures hs 3 [1, 3] [(1, (pt b38 0)), (3, .bool (decide (x1.f0 ≥ 5)))] (by kernel_rfl) fun a hs => ?_
    refine s_end ?_
    exact (hJ43 _ _).2 ⟨(hs.altB (b := (decide (x1.f0 ≥ 5))) 3 ((decide (x1.f0 < 0)) || (decide (x1.f0 ≥ 5))) (by kernel_rfl) (by rw [h44] <;> rfl)).cast [1, 3] (by kernel_rfl), hw.pick [0, 1] (by kernel_rfl)⟩
  intro a w hh
  obtain ⟨hs, hw⟩ := (hJ43 _ _).1 hh
  rcases ifbE hk with ⟨h45, hk⟩ | ⟨h45, hk⟩
  · refine c_cond1 hs (by kernel_rfl) (t := ((decide (x1.f0 < 0)) || (decide (x1.f0 ≥ 5)))) (by kernel_rfl) h45 ?_
    refine c_seq ?_
    refine c_region ?_
    refine pures hs 1 [2] [(2, vi64 1)] (by kernel_rfl) fun a hs => ?_
    refine s_end ?_
    refine c_ret ?_
    obtain rfl := someE hk
    refine hQ _ _ (f_ret1 hs rfl (v := vi64 1) (by kernel_rfl) ⟨rfl, hw.pick [1] (by kernel_rfl)⟩)
  refine c_cond0 hs (by kernel_rfl) (t := ((decide (x1.f0 < 0)) || (decide (x1.f0 ≥ 5)))) (by kernel_rfl) h45 ?_
  refine c_seq ?_
  obtain ⟨J49, hJ49⟩ : ∃ J : Act → World → Prop, ∀ a w, J a w ↔ (Sees a 49 [(1, (pt b38 0)), (12, .bool ((x1.f0 == 0) && (!((x1.f0 == 0) && ((x1.f1 == 0) && ((x1.f2 == 0) && ((x1.f3 == 0) && true)))))))] ∧ St g w [bx b38 [vi64 x1.f0, vi64 x1.f1, vu64 x1.f2, vi64 x1.f3] 41, F] ih) := ⟨_, fun _ _ => Iff.rfl⟩
  refine c_regJ J49 ?_ ?_
  · refine pures hs 1 [1, 13] [(1, (pt b38 0)), (13, (pt b38 0))] (by kernel_rfl) fun a hs => ?_
    refine s_load hs (hw.at_ 0 rfl) 0 (by kernel_rfl) (by kernel_rfl) (v := vi64 x1.f0) (by kernel_rfl) fun a hs => ?_
    refine pures hs 2 [1, 16] [(1, (pt b38 0)), (16, .bool (x1.f0 == 0))] (by kernel_rfl) fun a hs => ?_
    rcases boolE (x1.f0 == 0) with h50 | h50
    · replace hs := hs.altB 16 true (by kernel_rfl) h50
      refine s_load hs (hw.at_ 0 rfl) 0 (by kernel_rfl) (by kernel_rfl) (v := .agg #[vi64 x1.f0, vi64 x1.f1, vu64 x1.f2, vi64 x1.f3]) (by kernel_rfl) fun a hs => ?_
      refine pures hs 1 [1, 16, 17, 18] [(1, (pt b38 0)), (16, .bool true), (17, .agg #[vi64 x1.f0, vi64 x1.f1, vu64 x1.f2, vi64 x1.f3]), (18, .agg #[vi64 0, vi64 0, vu64 0, vi64 0])] (by kernel_rfl) fun a hs => ?_
      refine s_ne hs (c1 := [vi64 x1.f0, vi64 x1.f1, vu64 x1.f2, vi64 x1.f3]) (c2 := [vi64 0, vi64 0, vu64 0, vi64 0]) ((x1.f0 == 0) && ((x1.f1 == 0) && ((x1.f2 == 0) && ((x1.f3 == 0) && true)))) (by kernel_rfl) (by kernel_rfl) (by kernel_rfl) (by kernel_rfl) (by kernel_rfl) fun a hs => ?_
      refine pures hs 2 [1, 12] [(1, (pt b38 0)), (12, .bool (!((x1.f0 == 0) && ((x1.f1 == 0) && ((x1.f2 == 0) && ((x1.f3 == 0) && true))))))] (by kernel_rfl) fun a hs => ?_
      refine s_end ?_
      exact (hJ49 _ _).2 ⟨(hs.altB (b := (!((x1.f0 == 0) && ((x1.f1 == 0) && ((x1.f2 == 0) && ((x1.f3 == 0) && true)))))) 12 ((x1.f0 == 0) && (!((x1.f0 == 0) && ((x1.f1 == 0) && ((x1.f2 == 0) && ((x1.f3 == 0) && true)))))) (by kernel_rfl) (by rw [h50] <;> rfl)).cast [1, 12] (by kernel_rfl), hw.pick [0, 1] (by kernel_rfl)⟩
    replace hs := hs.altB 16 false (by kernel_rfl) h50
    refine pures hs 5 [1, 12] [(1, (pt b38 0)), (12, .bool false)] (by kernel_rfl) fun a hs => ?_
    refine s_end ?_
    exact (hJ49 _ _).2 ⟨(hs.altB (b := false) 12 ((x1.f0 == 0) && (!((x1.f0 == 0) && ((x1.f1 == 0) && ((x1.f2 == 0) && ((x1.f3 == 0) && true)))))) (by kernel_rfl) (by rw [h50] <;> rfl)).cast [1, 12] (by kernel_rfl), hw.pick [0, 1] (by kernel_rfl)⟩
  intro a w hh
  obtain ⟨hs, hw⟩ := (hJ49 _ _).1 hh
  rcases ifbE hk with ⟨h51, hk⟩ | ⟨h51, hk⟩
  · refine c_cond1 hs (by kernel_rfl) (t := ((x1.f0 == 0) && (!((x1.f0 == 0) && ((x1.f1 == 0) && ((x1.f2 == 0) && ((x1.f3 == 0) && true))))))) (by kernel_rfl) h51 ?_
    refine c_seq ?_
    refine c_region ?_
    refine pures hs 1 [2] [(2, vi64 4)] (by kernel_rfl) fun a hs => ?_
    refine s_end ?_
    refine c_ret ?_
    obtain rfl := someE hk
    refine hQ _ _ (f_ret1 hs rfl (v := vi64 4) (by kernel_rfl) ⟨rfl, hw.pick [1] (by kernel_rfl)⟩)
  refine c_cond0 hs (by kernel_rfl) (t := ((x1.f0 == 0) && (!((x1.f0 == 0) && ((x1.f1 == 0) && ((x1.f2 == 0) && ((x1.f3 == 0) && true))))))) (by kernel_rfl) h51 ?_
  refine c_seq ?_
  refine c_region ?_
  refine pures hs 1 [1, 22] [(1, (pt b38 0)), (22, (pt b38 0))] (by kernel_rfl) fun a hs => ?_
  refine s_load hs (hw.at_ 0 rfl) 0 (by kernel_rfl) (by kernel_rfl) (v := vi64 x1.f0) (by kernel_rfl) fun a hs => ?_
  refine pures hs 2 [1, 21] [(1, (pt b38 0)), (21, .bool (x1.f0 == 0))] (by kernel_rfl) fun a hs => ?_
  refine s_end ?_
  rcases ifbE hk with ⟨h52, hk⟩ | ⟨h52, hk⟩
  · refine c_cond1 hs (by kernel_rfl) (t := (x1.f0 == 0)) (by kernel_rfl) h52 ?_
    refine c_seq ?_
    refine c_region ?_
    refine pures hs 1 [2] [(2, vi64 0)] (by kernel_rfl) fun a hs => ?_
    refine s_end ?_
    refine c_ret ?_
    obtain rfl := someE hk
    refine hQ _ _ (f_ret1 hs rfl (v := vi64 0) (by kernel_rfl) ⟨rfl, hw.pick [1] (by kernel_rfl)⟩)
  refine c_cond0 hs (by kernel_rfl) (t := (x1.f0 == 0)) (by kernel_rfl) h52 ?_
  refine c_seq ?_
  obtain ⟨J62, hJ62⟩ : ∃ J : Act → World → Prop, ∀ a w, J a w ↔ (Sees a 49 [(25, .bool ((decide (x1.f1 < 0)) || ((decide (x1.f1 ≥ 4)) || ((decide (x1.f2 < 1)) || ((decide (x1.f3 < 1)) || (decide (x1.f3 > 24)))))))] ∧ St g w [F] ih) := ⟨_, fun _ _ => Iff.rfl⟩
  refine c_regJ J62 ?_ ?_
  · refine pures hs 1 [1, 26] [(1, (pt b38 0)), (26, (pt b38 1))] (by kernel_rfl) fun a hs => ?_
    refine s_load hs (hw.at_ 0 rfl) 1 (by kernel_rfl) (by kernel_rfl) (v := vi64 x1.f1) (by kernel_rfl) fun a hs => ?_
    refine pures hs 2 [1, 29] [(1, (pt b38 0)), (29, .bool (decide (x1.f1 < 0)))] (by kernel_rfl) fun a hs => ?_
    rcases boolE (decide (x1.f1 < 0)) with h63 | h63
    · replace hs := hs.altB 29 true (by kernel_rfl) h63
      refine pures hs 20 [25] [(25, .bool true)] (by kernel_rfl) fun a hs => ?_
      refine s_end ?_
      exact (hJ62 _ _).2 ⟨(hs.altB (b := true) 25 ((decide (x1.f1 < 0)) || ((decide (x1.f1 ≥ 4)) || ((decide (x1.f2 < 1)) || ((decide (x1.f3 < 1)) || (decide (x1.f3 > 24)))))) (by kernel_rfl) (by rw [h63] <;> rfl)).cast [25] (by kernel_rfl), hw.pick [1] (by kernel_rfl)⟩
    replace hs := hs.altB 29 false (by kernel_rfl) h63
    refine pures hs 1 [1, 29, 30] [(1, (pt b38 0)), (29, .bool false), (30, (pt b38 1))] (by kernel_rfl) fun a hs => ?_
    refine s_load hs (hw.at_ 0 rfl) 1 (by kernel_rfl) (by kernel_rfl) (v := vi64 x1.f1) (by kernel_rfl) fun a hs => ?_
    refine pures hs 3 [1, 34] [(1, (pt b38 0)), (34, .bool (decide (x1.f1 ≥ 4)))] (by kernel_rfl) fun a hs => ?_
    rcases boolE (decide (x1.f1 ≥ 4)) with h64 | h64
    · replace hs := hs.altB 34 true (by kernel_rfl) h64
      refine pures hs 15 [25] [(25, .bool true)] (by kernel_rfl) fun a hs => ?_
      refine s_end ?_
      exact (hJ62 _ _).2 ⟨(hs.altB (b := true) 25 ((decide (x1.f1 < 0)) || ((decide (x1.f1 ≥ 4)) || ((decide (x1.f2 < 1)) || ((decide (x1.f3 < 1)) || (decide (x1.f3 > 24)))))) (by kernel_rfl) (by rw [h63, h64] <;> rfl)).cast [25] (by kernel_rfl), hw.pick [1] (by kernel_rfl)⟩
    replace hs := hs.altB 34 false (by kernel_rfl) h64
    refine pures hs 1 [1, 34, 35] [(1, (pt b38 0)), (34, .bool false), (35, (pt b38 2))] (by kernel_rfl) fun a hs => ?_
    refine s_load hs (hw.at_ 0 rfl) 2 (by kernel_rfl) (by kernel_rfl) (v := vu64 x1.f2) (by kernel_rfl) fun a hs => ?_
    refine pures hs 3 [1, 39] [(1, (pt b38 0)), (39, .bool (decide (x1.f2 < 1)))] (by kernel_rfl) fun a hs => ?_
    rcases boolE (decide (x1.f2 < 1)) with h65 | h65
    · replace hs := hs.altB 39 true (by kernel_rfl) h65
      refine pures hs 10 [25] [(25, .bool true)] (by kernel_rfl) fun a hs => ?_
      refine s_end ?_
      exact (hJ62 _ _).2 ⟨(hs.altB (b := true) 25 ((decide (x1.f1 < 0)) || ((decide (x1.f1 ≥ 4)) || ((decide (x1.f2 < 1)) || ((decide (x1.f3 < 1)) || (decide (x1.f3 > 24)))))) (by kernel_rfl) (by rw [h63, h64, h65] <;> rfl)).cast [25] (by kernel_rfl), hw.pick [1] (by kernel_rfl)⟩
    replace hs := hs.altB 39 false (by kernel_rfl) h65
    refine pures hs 1 [1, 39, 40] [(1, (pt b38 0)), (39, .bool false), (40, (pt b38 3))] (by kernel_rfl) fun a hs => ?_
    refine s_load hs (hw.at_ 0 rfl) 3 (by kernel_rfl) (by kernel_rfl) (v := vi64 x1.f3) (by kernel_rfl) fun a hs => ?_
    refine pures hs 3 [1, 44] [(1, (pt b38 0)), (44, .bool (decide (x1.f3 < 1)))] (by kernel_rfl) fun a hs => ?_
    rcases boolE (decide (x1.f3 < 1)) with h66 | h66
    · replace hs := hs.altB 44 true (by kernel_rfl) h66
      refine pures hs 5 [25] [(25, .bool true)] (by kernel_rfl) fun a hs => ?_
      refine s_end ?_
      exact (hJ62 _ _).2 ⟨(hs.altB (b := true) 25 ((decide (x1.f1 < 0)) || ((decide (x1.f1 ≥ 4)) || ((decide (x1.f2 < 1)) || ((decide (x1.f3 < 1)) || (decide (x1.f3 > 24)))))) (by kernel_rfl) (by rw [h63, h64, h65, h66] <;> rfl)).cast [25] (by kernel_rfl), hw.pick [1] (by kernel_rfl)⟩
    replace hs := hs.altB 44 false (by kernel_rfl) h66
    refine pures hs 1 [44, 45] [(44, .bool false), (45, (pt b38 3))] (by kernel_rfl) fun a hs => ?_
    refine s_load hs (hw.at_ 0 rfl) 3 (by kernel_rfl) (by kernel_rfl) (v := vi64 x1.f3) (by kernel_rfl) fun a hs => ?_
    refine pures hs 3 [25] [(25, .bool (decide (x1.f3 > 24)))] (by kernel_rfl) fun a hs => ?_
    refine s_end ?_
    exact (hJ62 _ _).2 ⟨(hs.altB (b := (decide (x1.f3 > 24))) 25 ((decide (x1.f1 < 0)) || ((decide (x1.f1 ≥ 4)) || ((decide (x1.f2 < 1)) || ((decide (x1.f3 < 1)) || (decide (x1.f3 > 24)))))) (by kernel_rfl) (by rw [h63, h64, h65, h66] <;> rfl)).cast [25] (by kernel_rfl), hw.pick [1] (by kernel_rfl)⟩
  intro a w hh
  obtain ⟨hs, hw⟩ := (hJ62 _ _).1 hh
  rcases ifbE hk with ⟨h67, hk⟩ | ⟨h67, hk⟩
  · refine c_cond1 hs (by kernel_rfl) (t := ((decide (x1.f1 < 0)) || ((decide (x1.f1 ≥ 4)) || ((decide (x1.f2 < 1)) || ((decide (x1.f3 < 1)) || (decide (x1.f3 > 24))))))) (by kernel_rfl) h67 ?_
    refine c_seq ?_
    refine c_region ?_
    refine pures hs 1 [2] [(2, vi64 4)] (by kernel_rfl) fun a hs => ?_
    refine s_end ?_
    refine c_ret ?_
    obtain rfl := someE hk
    refine hQ _ _ (f_ret1 hs rfl (v := vi64 4) (by kernel_rfl) ⟨rfl, hw.pick [0] (by kernel_rfl)⟩)
  refine c_cond0 hs (by kernel_rfl) (t := ((decide (x1.f1 < 0)) || ((decide (x1.f1 ≥ 4)) || ((decide (x1.f2 < 1)) || ((decide (x1.f3 < 1)) || (decide (x1.f3 > 24))))))) (by kernel_rfl) h67 ?_
  refine c_skip ?_
  refine c_seq ?_
  refine c_region ?_
  refine pures hs 1 [2] [(2, vi64 0)] (by kernel_rfl) fun a hs => ?_
  refine s_end ?_
  refine c_ret ?_
  obtain rfl := someE hk
  refine hQ _ _ (f_ret1 hs rfl (v := vi64 0) (by kernel_rfl) ⟨rfl, hw.pick [0] (by kernel_rfl)⟩)
def letter_other_6 (x1 : M48) : Option Bool :=
  (cmds_Check x1.f13).bind fun y30 =>
  some (y30 == 0)
theorem letter_other_6_s {x1 : M48} {p2 : Option Addr} {c3 : Nat} {p5 : Option Addr} {c6 : Nat} {p8 : Option Addr} {c9 : Nat} {p11 : Option Addr} {c12 : Nat} {r : Bool} (hk : letter_other_6 x1 = some r) {g w : World} {F : Ch} {ih : IH} (h4 : RSl e3 ih [] p2 c3 x1.f14.f2) (h7 : RSl e156 ih [] p5 c6 x1.f15) (h10 : RSl e96 ih [] p8 c9 x1.f16) (h13 : RSl e5 ih [] p11 c12 x1.f17) (hw : St g w [F] ih) :
    CallsR Tryz.prog 164 #[.agg #[vi64 x1.f0, vi64 x1.f1, vi64 x1.f2, vi64 x1.f3, vu64 x1.f4, vu64 x1.f5, vu64 x1.f6, vu64 x1.f7, vu64 x1.f8, vu64 x1.f9, vi64 x1.f10, vu32 x1.f11, vi64 x1.f12, vi64 x1.f13.f0, vi64 x1.f13.f1, vu64 x1.f13.f2, vi64 x1.f13.f3, vi64 x1.f14.f0, vu64 x1.f14.f1, .slice p2 x1.f14.f2.length c3, .bool x1.f14.f3, vi64 x1.f14.f4, .slice p5 x1.f15.length c6, .slice p8 x1.f16.length c9, .slice p11 x1.f17.length c12]] w fun v w' => v = .bool r ∧ St g w' [F] ih := by
  refine f_in (vs := [.agg #[vi64 x1.f0, vi64 x1.f1, vi64 x1.f2, vi64 x1.f3, vu64 x1.f4, vu64 x1.f5, vu64 x1.f6, vu64 x1.f7, vu64 x1.f8, vu64 x1.f9, vi64 x1.f10, vu32 x1.f11, vi64 x1.f12, vi64 x1.f13.f0, vi64 x1.f13.f1, vu64 x1.f13.f2, vi64 x1.f13.f3, vi64 x1.f14.f0, vu64 x1.f14.f1, .slice p2 x1.f14.f2.length c3, .bool x1.f14.f3, vi64 x1.f14.f4, .slice p5 x1.f15.length c6, .slice p8 x1.f16.length c9, .slice p11 x1.f17.length c12]]) Tryz.func164 rfl 7 rfl (by kernel_rfl) [(0, .agg #[vi64 x1.f0, vi64 x1.f1, vi64 x1.f2, vi64 x1.f3, vu64 x1.f4, vu64 x1.f5, vu64 x1.f6, vu64 x1.f7, vu64 x1.f8, vu64 x1.f9, vi64 x1.f10, vu32 x1.f11, vi64 x1.f12, vi64 x1.f13.f0, vi64 x1.f13.f1, vu64 x1.f13.f2, vi64 x1.f13.f3, vi64 x1.f14.f0, vu64 x1.f14.f1, .slice p2 x1.f14.f2.length c3, .bool x1.f14.f3, vi64 x1.f14.f4, .slice p5 x1.f15.length c6, .slice p8 x1.f16.length c9, .slice p11 x1.f17.length c12])] (by kernel_rfl) fun a Qf hQ hQn hs => ?_
  refine c_seq ?_
  refine c_region ?_
  refine s_new hs hw [vi64 x1.f0, vi64 x1.f1, vi64 x1.f2, vi64 x1.f3, vu64 x1.f4, vu64 x1.f5, vu64 x1.f6, vu64 x1.f7, vu64 x1.f8, vu64 x1.f9, vi64 x1.f10, vu32 x1.f11, vi64 x1.f12, vi64 x1.f13.f0, vi64 x1.f13.f1, vu64 x1.f13.f2, vi64 x1.f13.f3, vi64 x1.f14.f0, vu64 x1.f14.f1, .slice p2 x1.f14.f2.length c3, .bool x1.f14.f3, vi64 x1.f14.f4, .slice p5 x1.f15.length c6, .slice p8 x1.f16.length c9, .slice p11 x1.f17.length c12] 48 (fun b => (pt b 0)) (by kernel_rfl) (fun _ => by kernel_rfl) fun a w b26 hs hw => ?_
  refine pures hs 1 [1] [(1, (pt b26 0))] (by kernel_rfl) fun a hs => ?_
  refine s_end ?_
  refine c_seq ?_
  refine c_region ?_
  refine pures hs 1 [3] [(3, (pt b26 13))] (by kernel_rfl) fun a hs => ?_
  refine s_load hs (hw.at_ 0 rfl) 13 (by kernel_rfl) (by kernel_rfl) (v := .agg #[vi64 x1.f13.f0, vi64 x1.f13.f1, vu64 x1.f13.f2, vi64 x1.f13.f3]) (by kernel_rfl) fun a hs => ?_
  obtain ⟨y30, h31, hk⟩ := bindE hk
  refine s_call hs (by kernel_rfl) (by kernel_rfl) (cmds_Check_s h31 ((hw.pick [1] (by kernel_rfl)).pack 0)) fun a w v hv hs => ?_
  obtain ⟨rfl, hw⟩ := hv
  replace hw := hw.unpack 0 rfl
  refine pures hs 2 [2] [(2, .bool (y30 == 0))] (by kernel_rfl) fun a hs => ?_
  refine s_end ?_
  refine c_ret ?_
  obtain rfl := someE hk
  refine hQ _ _ (f_ret1 hs rfl (v := .bool (y30 == 0)) (by kernel_rfl) ⟨rfl, hw.pick [0] (by kernel_rfl)⟩)
def letter_other_8 (k : Nat) (x1 : M48) : Option Bool :=
  (conf_Right k x1.f14).bind fun y30 =>
  some y30
theorem letter_other_8_s {k : Nat} {x1 : M48} {p2 : Option Addr} {c3 : Nat} {p5 : Option Addr} {c6 : Nat} {p8 : Option Addr} {c9 : Nat} {p11 : Option Addr} {c12 : Nat} {r : Bool} (hk : letter_other_8 k x1 = some r) {g w : World} {F : Ch} {ih : IH} (h4 : RSl e3 ih [] p2 c3 x1.f14.f2) (h7 : RSl e156 ih [] p5 c6 x1.f15) (h10 : RSl e96 ih [] p8 c9 x1.f16) (h13 : RSl e5 ih [] p11 c12 x1.f17) (hw : St g w [F] ih) :
    CallsR Tryz.prog 169 #[.agg #[vi64 x1.f0, vi64 x1.f1, vi64 x1.f2, vi64 x1.f3, vu64 x1.f4, vu64 x1.f5, vu64 x1.f6, vu64 x1.f7, vu64 x1.f8, vu64 x1.f9, vi64 x1.f10, vu32 x1.f11, vi64 x1.f12, vi64 x1.f13.f0, vi64 x1.f13.f1, vu64 x1.f13.f2, vi64 x1.f13.f3, vi64 x1.f14.f0, vu64 x1.f14.f1, .slice p2 x1.f14.f2.length c3, .bool x1.f14.f3, vi64 x1.f14.f4, .slice p5 x1.f15.length c6, .slice p8 x1.f16.length c9, .slice p11 x1.f17.length c12]] w fun v w' => v = .bool r ∧ St g w' [F] ih := by
  refine f_in (vs := [.agg #[vi64 x1.f0, vi64 x1.f1, vi64 x1.f2, vi64 x1.f3, vu64 x1.f4, vu64 x1.f5, vu64 x1.f6, vu64 x1.f7, vu64 x1.f8, vu64 x1.f9, vi64 x1.f10, vu32 x1.f11, vi64 x1.f12, vi64 x1.f13.f0, vi64 x1.f13.f1, vu64 x1.f13.f2, vi64 x1.f13.f3, vi64 x1.f14.f0, vu64 x1.f14.f1, .slice p2 x1.f14.f2.length c3, .bool x1.f14.f3, vi64 x1.f14.f4, .slice p5 x1.f15.length c6, .slice p8 x1.f16.length c9, .slice p11 x1.f17.length c12]]) Tryz.func169 rfl 6 rfl (by kernel_rfl) [(0, .agg #[vi64 x1.f0, vi64 x1.f1, vi64 x1.f2, vi64 x1.f3, vu64 x1.f4, vu64 x1.f5, vu64 x1.f6, vu64 x1.f7, vu64 x1.f8, vu64 x1.f9, vi64 x1.f10, vu32 x1.f11, vi64 x1.f12, vi64 x1.f13.f0, vi64 x1.f13.f1, vu64 x1.f13.f2, vi64 x1.f13.f3, vi64 x1.f14.f0, vu64 x1.f14.f1, .slice p2 x1.f14.f2.length c3, .bool x1.f14.f3, vi64 x1.f14.f4, .slice p5 x1.f15.length c6, .slice p8 x1.f16.length c9, .slice p11 x1.f17.length c12])] (by kernel_rfl) fun a Qf hQ hQn hs => ?_
  refine c_seq ?_
  refine c_region ?_
  refine s_new hs hw [vi64 x1.f0, vi64 x1.f1, vi64 x1.f2, vi64 x1.f3, vu64 x1.f4, vu64 x1.f5, vu64 x1.f6, vu64 x1.f7, vu64 x1.f8, vu64 x1.f9, vi64 x1.f10, vu32 x1.f11, vi64 x1.f12, vi64 x1.f13.f0, vi64 x1.f13.f1, vu64 x1.f13.f2, vi64 x1.f13.f3, vi64 x1.f14.f0, vu64 x1.f14.f1, .slice p2 x1.f14.f2.length c3, .bool x1.f14.f3, vi64 x1.f14.f4, .slice p5 x1.f15.length c6, .slice p8 x1.f16.length c9, .slice p11 x1.f17.length c12] 48 (fun b => (pt b 0)) (by kernel_rfl) (fun _ => by kernel_rfl) fun a w b26 hs hw => ?_
  refine pures hs 1 [1] [(1, (pt b26 0))] (by kernel_rfl) fun a hs => ?_
  refine s_end ?_
  refine c_seq ?_
  refine c_region ?_
  refine pures hs 1 [3] [(3, (pt b26 17))] (by kernel_rfl) fun a hs => ?_
  refine s_load hs (hw.at_ 0 rfl) 17 (by kernel_rfl) (by kernel_rfl) (v := .agg #[vi64 x1.f14.f0, vu64 x1.f14.f1, .slice p2 x1.f14.f2.length c3, .bool x1.f14.f3, vi64 x1.f14.f4]) (by kernel_rfl) fun a hs => ?_
  obtain ⟨y30, h31, hk⟩ := bindE hk
  refine s_call hs (by kernel_rfl) (by kernel_rfl) (conf_Right_s h31 h4 ((hw.pick [1] (by kernel_rfl)).pack 0)) fun a w v hv hs => ?_
  obtain ⟨rfl, hw⟩ := hv
  replace hw := hw.unpack 0 rfl
  refine pures hs 1 [2] [(2, .bool y30)] (by kernel_rfl) fun a hs => ?_
  refine s_end ?_
  refine c_ret ?_
  obtain rfl := someE hk
  refine hQ _ _ (f_ret1 hs rfl (v := .bool y30) (by kernel_rfl) ⟨rfl, hw.pick [0] (by kernel_rfl)⟩)
def ballot_master (x1 : Int) : Option Bool :=
  some ((decide (x1 ≥ 1)) && (decide (x1 ≤ 5)))
theorem ballot_master_s {x1 : Int} {r : Bool} (hk : ballot_master x1 = some r) {g w : World} {F : Ch} {ih : IH} (hw : St g w [F] ih) :
    CallsR Tryz.prog 158 #[vi64 x1] w fun v w' => v = .bool r ∧ St g w' [F] ih := by
  refine f_in (vs := [vi64 x1]) Tryz.func158 rfl 9 rfl (by kernel_rfl) [(0, vi64 x1)] (by kernel_rfl) fun a Qf hQ hQn hs => ?_
  refine c_seq ?_
  refine c_region ?_
  refine pures hs 1 [0] [(0, vi64 x1)] (by kernel_rfl) fun a hs => ?_
  refine s_end ?_
  refine c_seq ?_
  obtain ⟨J12, hJ12⟩ : ∃ J : Act → World → Prop, ∀ a w, J a w ↔ (Sees a 9 [(2, .bool ((decide (x1 ≥ 1)) && (decide (x1 ≤ 5))))] ∧ St g w [F] ih) := ⟨_, fun _ _ => Iff.rfl⟩
  refine c_regJ J12 ?_ ?_
  · refine pures hs 3 [0, 5] [(0, vi64 x1), (5, .bool (decide (x1 ≥ 1)))] (by kernel_rfl) fun a hs => ?_
    rcases boolE (decide (x1 ≥ 1)) with h13 | h13
    · replace hs := hs.altB 5 true (by kernel_rfl) h13
      refine pures hs 4 [2] [(2, .bool (decide (x1 ≤ 5)))] (by kernel_rfl) fun a hs => ?_
      refine s_end ?_
      exact (hJ12 _ _).2 ⟨(hs.altB (b := (decide (x1 ≤ 5))) 2 ((decide (x1 ≥ 1)) && (decide (x1 ≤ 5))) (by kernel_rfl) (by rw [h13] <;> rfl)).cast [2] (by kernel_rfl), hw.pick [0] (by kernel_rfl)⟩
    replace hs := hs.altB 5 false (by kernel_rfl) h13
    refine pures hs 4 [2] [(2, .bool false)] (by kernel_rfl) fun a hs => ?_
    refine s_end ?_
    exact (hJ12 _ _).2 ⟨(hs.altB (b := false) 2 ((decide (x1 ≥ 1)) && (decide (x1 ≤ 5))) (by kernel_rfl) (by rw [h13] <;> rfl)).cast [2] (by kernel_rfl), hw.pick [0] (by kernel_rfl)⟩
  intro a w hh
  obtain ⟨hs, hw⟩ := (hJ12 _ _).1 hh
  refine c_ret ?_
  obtain rfl := someE hk
  refine hQ _ _ (f_ret1 hs rfl (v := .bool ((decide (x1 ≥ 1)) && (decide (x1 ≤ 5)))) (by kernel_rfl) ⟨rfl, hw.pick [0] (by kernel_rfl)⟩)
def ballot_Is_r2 (x29 : Bool) : Option Bool :=
  some x29
def ballot_Is (x1 : Int) : Option Bool :=
  (if (decide ((IntKind.u64.wrap (x1.tdiv 8)) ≥ 1)) = true then (
      if (decide ((IntKind.u64.wrap (x1.tdiv 8)) < 1152921504606846976)) = true then (
        (ballot_master (IntKind.i64.wrap (x1.tmod 8))).bind fun y35 =>
        some y35)
      else some false)
    else some false : Option Bool).bind fun s37 => ballot_Is_r2 s37
theorem ballot_Is_s {x1 : Int} {r : Bool} (hk : ballot_Is x1 = some r) {g w : World} {F : Ch} {ih : IH} (hw : St g w [F] ih) :
    CallsR Tryz.prog 138 #[vu64 x1] w fun v w' => v = .bool r ∧ St g w' [F] ih := by
  refine f_in (vs := [vu64 x1]) Tryz.func138 rfl 17 rfl (by kernel_rfl) [(0, vu64 x1)] (by kernel_rfl) fun a Qf hQ hQn hs => ?_
  refine c_seq ?_
  refine c_region ?_
  refine pures hs 1 [0] [(0, vu64 x1)] (by kernel_rfl) fun a hs => ?_
  refine s_end ?_
  refine c_seq ?_
  obtain ⟨y30, hx31, hk⟩ := bindE hk
  obtain ⟨J32, hJ32⟩ : ∃ J : Act → World → Prop, ∀ a w, J a w ↔ (∃ (x29 : Bool), ballot_Is_r2 x29 = some r ∧ Sees a 17 [(2, .bool x29)] ∧ St g w [F] ih) := ⟨_, fun _ _ => Iff.rfl⟩
  refine c_regJ J32 ?_ ?_
  · refine pures hs 4 [0, 6] [(0, vu64 x1), (6, .bool (decide ((IntKind.u64.wrap (x1.tdiv 8)) ≥ 1)))] (by kernel_rfl) fun a hs => ?_
    rcases ifbE hx31 with ⟨h33, hx31⟩ | ⟨h33, hx31⟩
    · replace hs := hs.altB 6 true (by kernel_rfl) h33
      refine pures hs 5 [0, 11] [(0, vu64 x1), (11, .bool (decide ((IntKind.u64.wrap (x1.tdiv 8)) < 1152921504606846976)))] (by kernel_rfl) fun a hs => ?_
      rcases ifbE hx31 with ⟨h34, hx31⟩ | ⟨h34, hx31⟩
      · replace hs := hs.altB 11 true (by kernel_rfl) h34
        refine pures hs 3 [11, 14] [(11, .bool true), (14, vi64 (IntKind.i64.wrap (x1.tmod 8)))] (by kernel_rfl) fun a hs => ?_
        obtain ⟨y35, h36, hx31⟩ := bindE hx31
        refine s_call hs (by kernel_rfl) (by kernel_rfl) (ballot_master_s h36 ((hw.pick [0] (by kernel_rfl)).pack 0)) fun a w v hv hs => ?_
        obtain ⟨rfl, hw⟩ := hv
        replace hw := hw.unpack 0 rfl
        refine pures hs 2 [2] [(2, .bool y35)] (by kernel_rfl) fun a hs => ?_
        refine s_end ?_
        obtain rfl := someE hx31
        exact (hJ32 _ _).2 ⟨y35, hk, hs.cast [2] (by kernel_rfl), hw.pick [0] (by kernel_rfl)⟩
      replace hs := hs.altB 11 false (by kernel_rfl) h34
      refine pures hs 6 [2] [(2, .bool false)] (by kernel_rfl) fun a hs => ?_
      refine s_end ?_
      obtain rfl := someE hx31
      exact (hJ32 _ _).2 ⟨false, hk, hs.cast [2] (by kernel_rfl), hw.pick [0] (by kernel_rfl)⟩
    replace hs := hs.altB 6 false (by kernel_rfl) h33
    refine pures hs 11 [2] [(2, .bool false)] (by kernel_rfl) fun a hs => ?_
    refine s_end ?_
    obtain rfl := someE hx31
    exact (hJ32 _ _).2 ⟨false, hk, hs.cast [2] (by kernel_rfl), hw.pick [0] (by kernel_rfl)⟩
  intro a w hh
  obtain ⟨x29, hk, hs, hw⟩ := (hJ32 _ _).1 hh
  refine c_ret ?_
  obtain rfl := someE hk
  refine hQ _ _ (f_ret1 hs rfl (v := .bool x29) (by kernel_rfl) ⟨rfl, hw.pick [0] (by kernel_rfl)⟩)
def letter_votes_r12 (x1 : List M156) : Option Bool :=
  some (decide ((x1.length : Int) ≤ 512))
def letter_votes_r14 (rec_letter_votes_l13 : Int → Option (Sum Bool Unit)) (x477 : Int) (x606 : Bool) : Option (Sum Bool Unit) :=
  if x606 = true then some (.inl false)
  else rec_letter_votes_l13 (IntKind.i64.wrap (x477 + 1))
def letter_votes_l13 (x1 : List M156) : Nat → Int → Option (Sum Bool Unit)
  | 0, _ => none
  | j + 1, x477 =>
    if (decide (x477 < (x1.length : Int))) = true then (
      (ix x1 x477).bind fun x563 =>
      (if (decide (x563.f0 < 0)) = true then some true
        else if (decide (x563.f0 ≥ 512)) = true then some true
        else if (decide (x477 > 0)) = true then (
          (ix x1 (IntKind.i64.wrap (x477 - 1))).bind fun x614 =>
          if (decide (x563.f0 ≤ x614.f0)) = true then some true
          else (ballot_Is x563.f1).bind fun y619 =>
          if (!y619) = true then some true
          else (cmds_Check x563.f2).bind fun y622 =>
          some (y622 != 0))
        else (ballot_Is x563.f1).bind fun y624 =>
        if (!y624) = true then some true
        else (cmds_Check x563.f2).bind fun y627 =>
        some (y627 != 0) : Option Bool).bind fun s629 => letter_votes_r14 (letter_votes_l13 x1 j) x477 s629)
    else some (.inr ())
def letter_votes (k : Nat) (x1 : List M156) : Option Bool :=
  (letter_votes_l13 x1 k 0 : Option (Sum Bool Unit)).bind fun
    | .inl z => some z
    | .inr _ => letter_votes_r12 x1
theorem letter_votes_s {k : Nat} {x1 : List M156} {p2 : Option Addr} {c3 : Nat} {d5 : Ch} {r : Bool} (hk : letter_votes k x1 = some r) {g w : World} {F : Ch} {ih : IH} (h4 : RSl e156 ih d5 p2 c3 x1) (h6 : ∀ q ∈ d5, q ∈ F) (hw : St g w [F] ih) :
    CallsR Tryz.prog 174 #[.slice p2 x1.length c3] w fun v w' => v = .bool r ∧ St g w' [F] ih := by
  refine f_in (vs := [.slice p2 x1.length c3]) Tryz.func174 rfl 51 rfl (by kernel_rfl) [(0, .slice p2 x1.length c3)] (by kernel_rfl) fun a Qf hQ hQn hs => ?_
  refine c_seq ?_
  refine c_region ?_
  refine pures hs 1 [0] [(0, .slice p2 x1.length c3)] (by kernel_rfl) fun a hs => ?_
  refine s_end ?_
  refine c_seq ?_
  refine c_seq ?_
  refine c_region ?_
  refine pures hs 3 [0, 5, 6, 7] [(0, .slice p2 x1.length c3), (5, .slice p2 x1.length c3), (6, vi64 (x1.length : Int)), (7, vi64 0)] (by kernel_rfl) fun a hs => ?_
  refine s_end ?_
  refine c_block ?_
  obtain ⟨y552, hx553, hk⟩ := bindE hk
  obtain ⟨J554, hJ554⟩ : ∃ J : Act → World → Prop, ∀ a w, J a w ↔ (letter_votes_r12 x1 = some r ∧ Sees a 51 [(0, .slice p2 x1.length c3)] ∧ St g w [F] ih) := ⟨_, fun _ _ => Iff.rfl⟩
  obtain ⟨I555, hI555⟩ : ∃ J : Nat → Act → World → Prop, ∀ j a w, J j a w ↔ (∃ (x477 : Int), letter_votes_l13 x1 j x477 = some y552 ∧ Sees a 51 [(0, .slice p2 x1.length c3), (5, .slice p2 x1.length c3), (6, vi64 (x1.length : Int)), (7, vi64 x477)] ∧ St g w [F] ih) := ⟨_, fun _ _ _ => Iff.rfl⟩
  refine c_exitJ 0 J554 ?_ ?_
  · refine c_loop I555 k ((hI555 _ _ _).2 ⟨0, hx553, hs.cast [0, 5, 6, 7] (by kernel_rfl), hw.pick [0] (by kernel_rfl)⟩) (fun a w h0 => ?_) fun j a w hh => ?_
    · obtain ⟨_, h, _⟩ := (hI555 _ _ _).1 h0
      cases h
    obtain ⟨x477, hx553, hs, hw⟩ := (hI555 _ _ _).1 hh
    refine c_seq ?_
    refine c_region ?_
    refine pures hs 1 [0, 5, 6, 7, 8] [(0, .slice p2 x1.length c3), (5, .slice p2 x1.length c3), (6, vi64 (x1.length : Int)), (7, vi64 x477), (8, .bool (decide (x477 < (x1.length : Int))))] (by kernel_rfl) fun a hs => ?_
    refine s_end ?_
    refine c_seq ?_
    rcases ifbE hx553 with ⟨h556, hx553⟩ | ⟨h556, hx553⟩
    · refine c_cond1 hs (by kernel_rfl) (t := (decide (x477 < (x1.length : Int)))) (by kernel_rfl) h556 ?_
      refine c_skip ?_
      refine c_seq ?_
      refine c_block ?_
      refine c_seq ?_
      refine c_region ?_
      refine pures hs 1 [0, 5, 6, 7, 9] [(0, .slice p2 x1.length c3), (5, .slice p2 x1.length c3), (6, vi64 (x1.length : Int)), (7, vi64 x477), (9, vi64 x477)] (by kernel_rfl) fun a hs => ?_
      obtain ⟨x563, h564, hx553⟩ := bindE hx553
      refine s_index hs h4 (by kernel_rfl) (by kernel_rfl) (k := .i64) (by kernel_rfl) 156 (by kernel_rfl) (by kernel_rfl) h564 fun a r565 cs henc at566 hs => ?_
      obtain rfl := henc
      refine s_load hs (at566 _ (((hw.vw 0 rfl).sub h6).anti (Le.refl _))) 0 (by kernel_rfl) (by kernel_rfl) (v := .agg #[vi64 x563.f0, vu64 x563.f1, vi64 x563.f2.f0, vi64 x563.f2.f1, vu64 x563.f2.f2, vi64 x563.f2.f3]) (by kernel_rfl) fun a hs => ?_
      refine s_new hs hw [vi64 0, vu64 0, vi64 0, vi64 0, vu64 0, vi64 0] 156 (fun b => (pt b 0)) (by kernel_rfl) (fun _ => by kernel_rfl) fun a w b567 hs hw => ?_
      refine pures hs 1 [0, 5, 6, 7, 11, 4, 3] [(0, .slice p2 x1.length c3), (5, .slice p2 x1.length c3), (6, vi64 (x1.length : Int)), (7, vi64 x477), (11, .agg #[vi64 x563.f0, vu64 x563.f1, vi64 x563.f2.f0, vi64 x563.f2.f1, vu64 x563.f2.f2, vi64 x563.f2.f3]), (4, (pt b567 0)), (3, vi64 x477)] (by kernel_rfl) fun a hs => ?_
      refine s_store hs hw 0 rfl 0 (by kernel_rfl) (by kernel_rfl) (v := .agg #[vi64 x563.f0, vu64 x563.f1, vi64 x563.f2.f0, vi64 x563.f2.f1, vu64 x563.f2.f2, vi64 x563.f2.f3]) (by kernel_rfl) (by kernel_rfl) (by kernel_rfl) (by kernel_rfl) fun a w hs hw => ?_
      refine s_end ?_
      refine c_seq ?_
      obtain ⟨S569, hS569, kS569⟩ := mkSX (X := [([], bx b567 [vi64 x563.f0, vu64 x563.f1, vi64 x563.f2.f0, vi64 x563.f2.f1, vu64 x563.f2.f2, vi64 x563.f2.f3] 156), ([], F)]) (ih := ih) (K := []) rfl
      obtain ⟨y608, hx609, hx553⟩ := bindE hx553
      obtain ⟨J610, hJ610⟩ : ∃ J : Act → World → Prop, ∀ a w, J a w ↔ (∃ (x606 : Bool), letter_votes_r14 (letter_votes_l13 x1 j) x477 x606 = some y552 ∧ Sees a 51 [(0, .slice p2 x1.length c3), (5, .slice p2 x1.length c3), (6, vi64 (x1.length : Int)), (7, vi64 x477), (46, .bool x606)] ∧ St g w [F] ih) := ⟨_, fun _ _ => Iff.rfl⟩
      refine c_draw (by kernel_rfl) (N := 35) rfl S569 J610 ?_ ?_
      · have hw := hw.drew
        have hS : S569 (Array.replicate 35 false) _ := SX_now hS569 (hw.vws [0, 1]) (by kernel_rfl)
        refine d_pures (fuel := 34) kS569 hs hS [0] [0, 5, 6, 7, 4, 3, 12] [(0, .slice p2 x1.length c3), (5, .slice p2 x1.length c3), (6, vi64 (x1.length : Int)), (7, vi64 x477), (4, (pt b567 0)), (3, vi64 x477), (12, (pt b567 0))] (by kernel_rfl) fun a hs hS => ?_
        refine d_load (fuel := 33) kS569 hs hS 1 rfl (by kernel_rfl) (SX_box hS569 0 rfl (by kernel_rfl)) 0 (by kernel_rfl) (by kernel_rfl) (v := vi64 x563.f0) (by kernel_rfl) fun a hs hS => ?_
        refine d_pures (fuel := 31) kS569 hs hS [2, 3] [0, 5, 6, 7, 4, 3, 15] [(0, .slice p2 x1.length c3), (5, .slice p2 x1.length c3), (6, vi64 (x1.length : Int)), (7, vi64 x477), (4, (pt b567 0)), (3, vi64 x477), (15, .bool (decide (x563.f0 < 0)))] (by kernel_rfl) fun a hs hS => ?_
        rcases ifbE hx609 with ⟨h611, hx609⟩ | ⟨h611, hx609⟩
        · replace hs := hs.altB 15 true (by kernel_rfl) h611
          refine d_pures (fuel := 0) kS569 hs hS [4, 5, 6, 7, 8, 9, 10, 11, 12, 13, 14, 15, 16, 17, 18, 19, 20, 21, 22, 23, 24, 25, 26, 27, 28, 29, 30, 31, 32, 33, 34] [0, 5, 6, 7, 46] [(0, .slice p2 x1.length c3), (5, .slice p2 x1.length c3), (6, vi64 (x1.length : Int)), (7, vi64 x477), (46, .bool true)] (by kernel_rfl) fun a hs hS => ?_
          refine d_done (by kernel_rfl) ?_
          obtain rfl := someE hx609
          exact (hJ610 _ _).2 ⟨true, hx553, hs.cast [0, 5, 6, 7, 46] (by kernel_rfl), hw.pick [1] (by kernel_rfl)⟩
        replace hs := hs.altB 15 false (by kernel_rfl) h611
        refine d_pures (fuel := 30) kS569 hs hS [4] [0, 5, 6, 7, 4, 3, 15, 16] [(0, .slice p2 x1.length c3), (5, .slice p2 x1.length c3), (6, vi64 (x1.length : Int)), (7, vi64 x477), (4, (pt b567 0)), (3, vi64 x477), (15, .bool false), (16, (pt b567 0))] (by kernel_rfl) fun a hs hS => ?_
        refine d_load (fuel := 29) kS569 hs hS 5 rfl (by kernel_rfl) (SX_box hS569 0 rfl (by kernel_rfl)) 0 (by kernel_rfl) (by kernel_rfl) (v := vi64 x563.f0) (by kernel_rfl) fun a hs hS => ?_
        refine d_pures (fuel := 26) kS569 hs hS [6, 7, 8] [0, 5, 6, 7, 4, 3, 20] [(0, .slice p2 x1.length c3), (5, .slice p2 x1.length c3), (6, vi64 (x1.length : Int)), (7, vi64 x477), (4, (pt b567 0)), (3, vi64 x477), (20, .bool (decide (x563.f0 ≥ 512)))] (by kernel_rfl) fun a hs hS => ?_
        rcases ifbE hx609 with ⟨h612, hx609⟩ | ⟨h612, hx609⟩
        · replace hs := hs.altB 20 true (by kernel_rfl) h612
          refine d_pures (fuel := 0) kS569 hs hS [9, 10, 11, 12, 13, 14, 15, 16, 17, 18, 19, 20, 21, 22, 23, 24, 25, 26, 27, 28, 29, 30, 31, 32, 33, 34] [0, 5, 6, 7, 46] [(0, .slice p2 x1.length c3), (5, .slice p2 x1.length c3), (6, vi64 (x1.length : Int)), (7, vi64 x477), (46, .bool true)] (by kernel_rfl) fun a hs hS => ?_
          refine d_done (by kernel_rfl) ?_
          obtain rfl := someE hx609
          exact (hJ610 _ _).2 ⟨true, hx553, hs.cast [0, 5, 6, 7, 46] (by kernel_rfl), hw.pick [1] (by kernel_rfl)⟩
        replace hs := hs.altB 20 false (by kernel_rfl) h612
        refine d_pures (fuel := 23) kS569 hs hS [9, 10, 11] [0, 5, 6, 7, 4, 3, 20, 23] [(0, .slice p2 x1.length c3), (5, .slice p2 x1.length c3), (6, vi64 (x1.length : Int)), (7, vi64 x477), (4, (pt b567 0)), (3, vi64 x477), (20, .bool false), (23, .bool (decide (x477 > 0)))] (by kernel_rfl) fun a hs hS => ?_
        rcases ifbE hx609 with ⟨h613, hx609⟩ | ⟨h613, hx609⟩
        · replace hs := hs.altB 23 true (by kernel_rfl) h613
          refine d_pures (fuel := 22) kS569 hs hS [12] [0, 5, 6, 7, 4, 3, 20, 23, 24] [(0, .slice p2 x1.length c3), (5, .slice p2 x1.length c3), (6, vi64 (x1.length : Int)), (7, vi64 x477), (4, (pt b567 0)), (3, vi64 x477), (20, .bool false), (23, .bool true), (24, (pt b567 0))] (by kernel_rfl) fun a hs hS => ?_
          refine d_load (fuel := 21) kS569 hs hS 13 rfl (by kernel_rfl) (SX_box hS569 0 rfl (by kernel_rfl)) 0 (by kernel_rfl) (by kernel_rfl) (v := vi64 x563.f0) (by kernel_rfl) fun a hs hS => ?_
          refine d_pures (fuel := 18) kS569 hs hS [14, 15, 16] [0, 5, 6, 7, 4, 20, 23, 25, 26, 28] [(0, .slice p2 x1.length c3), (5, .slice p2 x1.length c3), (6, vi64 (x1.length : Int)), (7, vi64 x477), (4, (pt b567 0)), (20, .bool false), (23, .bool true), (25, vi64 x563.f0), (26, .slice p2 x1.length c3), (28, vi64 (IntKind.i64.wrap (x477 - 1)))] (by kernel_rfl) fun a hs hS => ?_
          obtain ⟨x614, h615, hx609⟩ := bindE hx609
          refine d_index (fuel := 17) kS569 hs hS 17 rfl (by kernel_rfl) h4 (by kernel_rfl) (by kernel_rfl) (k := .i64) (by kernel_rfl) 156 (by kernel_rfl) (by kernel_rfl) h615 fun a r616 cs henc at617 hs hS => ?_
          obtain rfl := henc
          refine d_pures (fuel := 16) kS569 hs hS [18] [0, 5, 6, 7, 4, 20, 23, 25, 30] [(0, .slice p2 x1.length c3), (5, .slice p2 x1.length c3), (6, vi64 (x1.length : Int)), (7, vi64 x477), (4, (pt b567 0)), (20, .bool false), (23, .bool true), (25, vi64 x563.f0), (30, .pointer (some r616))] (by kernel_rfl) fun a hs hS => ?_
          refine d_load (fuel := 15) kS569 hs hS 19 rfl (by kernel_rfl) (fun l w hu hS => at617 w (((SX_ch hS569 1 rfl (by kernel_rfl) l w hu hS).sub h6).anti (Le.refl _))) 0 (by kernel_rfl) (by kernel_rfl) (v := vi64 x614.f0) (by kernel_rfl) fun a hs hS => ?_
          refine d_pures (fuel := 11) kS569 hs hS [20, 21, 22, 23] [0, 5, 6, 7, 4, 35] [(0, .slice p2 x1.length c3), (5, .slice p2 x1.length c3), (6, vi64 (x1.length : Int)), (7, vi64 x477), (4, (pt b567 0)), (35, .bool (decide (x563.f0 ≤ x614.f0)))] (by kernel_rfl) fun a hs hS => ?_
          rcases ifbE hx609 with ⟨h618, hx609⟩ | ⟨h618, hx609⟩
          · replace hs := hs.altB 35 true (by kernel_rfl) h618
            refine d_pures (fuel := 0) kS569 hs hS [24, 25, 26, 27, 28, 29, 30, 31, 32, 33, 34] [0, 5, 6, 7, 46] [(0, .slice p2 x1.length c3), (5, .slice p2 x1.length c3), (6, vi64 (x1.length : Int)), (7, vi64 x477), (46, .bool true)] (by kernel_rfl) fun a hs hS => ?_
            refine d_done (by kernel_rfl) ?_
            obtain rfl := someE hx609
            exact (hJ610 _ _).2 ⟨true, hx553, hs.cast [0, 5, 6, 7, 46] (by kernel_rfl), hw.pick [1] (by kernel_rfl)⟩
          replace hs := hs.altB 35 false (by kernel_rfl) h618
          refine d_pures (fuel := 10) kS569 hs hS [24] [0, 5, 6, 7, 4, 35, 36] [(0, .slice p2 x1.length c3), (5, .slice p2 x1.length c3), (6, vi64 (x1.length : Int)), (7, vi64 x477), (4, (pt b567 0)), (35, .bool false), (36, (pt b567 1))] (by kernel_rfl) fun a hs hS => ?_
          refine d_load (fuel := 9) kS569 hs hS 25 rfl (by kernel_rfl) (SX_box hS569 0 rfl (by kernel_rfl)) 1 (by kernel_rfl) (by kernel_rfl) (v := vu64 x563.f1) (by kernel_rfl) fun a hs hS => ?_
          refine d_all (fuel := 8) (rs := [26]) (by kernel_rfl) (by simp) (all1 ?_)
          obtain ⟨y619, h620, hx609⟩ := bindE hx609
          refine o_call hs rfl (by kernel_rfl) (by kernel_rfl) (ballot_Is_s h620 ((hw.pick [0, 1] (by kernel_rfl)).pack 0)) fun a w v hv hs => ?_
          obtain ⟨rfl, hw⟩ := hv
          replace hw := hw.unpack 0 rfl
          refine dg_next (SX_now hS569 ((hw.vws [0, 1]).anti (Le.refl _)) (by kernel_rfl)) fun hS => ?_
          refine d_pures (fuel := 5) kS569 hs hS [27, 28, 29] [0, 5, 6, 7, 4, 41] [(0, .slice p2 x1.length c3), (5, .slice p2 x1.length c3), (6, vi64 (x1.length : Int)), (7, vi64 x477), (4, (pt b567 0)), (41, .bool (!y619))] (by kernel_rfl) fun a hs hS => ?_
          rcases ifbE hx609 with ⟨h621, hx609⟩ | ⟨h621, hx609⟩
          · replace hs := hs.altB 41 true (by kernel_rfl) h621
            refine d_pures (fuel := 0) kS569 hs hS [30, 31, 32, 33, 34] [0, 5, 6, 7, 46] [(0, .slice p2 x1.length c3), (5, .slice p2 x1.length c3), (6, vi64 (x1.length : Int)), (7, vi64 x477), (46, .bool true)] (by kernel_rfl) fun a hs hS => ?_
            refine d_done (by kernel_rfl) ?_
            obtain rfl := someE hx609
            exact (hJ610 _ _).2 ⟨true, hx553, hs.cast [0, 5, 6, 7, 46] (by kernel_rfl), hw.pick [1] (by kernel_rfl)⟩
          replace hs := hs.altB 41 false (by kernel_rfl) h621
          refine d_pures (fuel := 4) kS569 hs hS [30] [0, 5, 6, 7, 41, 42] [(0, .slice p2 x1.length c3), (5, .slice p2 x1.length c3), (6, vi64 (x1.length : Int)), (7, vi64 x477), (41, .bool false), (42, (pt b567 2))] (by kernel_rfl) fun a hs hS => ?_
          refine d_load (fuel := 3) kS569 hs hS 31 rfl (by kernel_rfl) (SX_box hS569 0 rfl (by kernel_rfl)) 2 (by kernel_rfl) (by kernel_rfl) (v := .agg #[vi64 x563.f2.f0, vi64 x563.f2.f1, vu64 x563.f2.f2, vi64 x563.f2.f3]) (by kernel_rfl) fun a hs hS => ?_
          refine d_all (fuel := 2) (rs := [32]) (by kernel_rfl) (by simp) (all1 ?_)
          obtain ⟨y622, h623, hx609⟩ := bindE hx609
          refine o_call hs rfl (by kernel_rfl) (by kernel_rfl) (cmds_Check_s h623 ((hw.pick [0, 1] (by kernel_rfl)).pack 0)) fun a w v hv hs => ?_
          obtain ⟨rfl, hw⟩ := hv
          replace hw := hw.unpack 0 rfl
          refine dg_next (SX_now hS569 ((hw.vws [0, 1]).anti (Le.refl _)) (by kernel_rfl)) fun hS => ?_
          refine d_pures (fuel := 0) kS569 hs hS [33, 34] [0, 5, 6, 7, 46] [(0, .slice p2 x1.length c3), (5, .slice p2 x1.length c3), (6, vi64 (x1.length : Int)), (7, vi64 x477), (46, .bool (y622 != 0))] (by kernel_rfl) fun a hs hS => ?_
          refine d_done (by kernel_rfl) ?_
          obtain rfl := someE hx609
          exact (hJ610 _ _).2 ⟨(y622 != 0), hx553, hs.cast [0, 5, 6, 7, 46] (by kernel_rfl), hw.pick [1] (by kernel_rfl)⟩
        replace hs := hs.altB 23 false (by kernel_rfl) h613
        refine d_pures (fuel := 10) kS569 hs hS [12, 13, 14, 15, 16, 17, 18, 19, 20, 21, 22, 23, 24] [0, 5, 6, 7, 4, 35, 36] [(0, .slice p2 x1.length c3), (5, .slice p2 x1.length c3), (6, vi64 (x1.length : Int)), (7, vi64 x477), (4, (pt b567 0)), (35, .bool false), (36, (pt b567 1))] (by kernel_rfl) fun a hs hS => ?_
        refine d_load (fuel := 9) kS569 hs hS 25 rfl (by kernel_rfl) (SX_box hS569 0 rfl (by kernel_rfl)) 1 (by kernel_rfl) (by kernel_rfl) (v := vu64 x563.f1) (by kernel_rfl) fun a hs hS => ?_
        refine d_all (fuel := 8) (rs := [26]) (by kernel_rfl) (by simp) (all1 ?_)
        obtain ⟨y624, h625, hx609⟩ := bindE hx609
        refine o_call hs rfl (by kernel_rfl) (by kernel_rfl) (ballot_Is_s h625 ((hw.pick [0, 1] (by kernel_rfl)).pack 0)) fun a w v hv hs => ?_
        obtain ⟨rfl, hw⟩ := hv
        replace hw := hw.unpack 0 rfl
        refine dg_next (SX_now hS569 ((hw.vws [0, 1]).anti (Le.refl _)) (by kernel_rfl)) fun hS => ?_
        refine d_pures (fuel := 5) kS569 hs hS [27, 28, 29] [0, 5, 6, 7, 4, 41] [(0, .slice p2 x1.length c3), (5, .slice p2 x1.length c3), (6, vi64 (x1.length : Int)), (7, vi64 x477), (4, (pt b567 0)), (41, .bool (!y624))] (by kernel_rfl) fun a hs hS => ?_
        rcases ifbE hx609 with ⟨h626, hx609⟩ | ⟨h626, hx609⟩
        · replace hs := hs.altB 41 true (by kernel_rfl) h626
          refine d_pures (fuel := 0) kS569 hs hS [30, 31, 32, 33, 34] [0, 5, 6, 7, 46] [(0, .slice p2 x1.length c3), (5, .slice p2 x1.length c3), (6, vi64 (x1.length : Int)), (7, vi64 x477), (46, .bool true)] (by kernel_rfl) fun a hs hS => ?_
          refine d_done (by kernel_rfl) ?_
          obtain rfl := someE hx609
          exact (hJ610 _ _).2 ⟨true, hx553, hs.cast [0, 5, 6, 7, 46] (by kernel_rfl), hw.pick [1] (by kernel_rfl)⟩
        replace hs := hs.altB 41 false (by kernel_rfl) h626
        refine d_pures (fuel := 4) kS569 hs hS [30] [0, 5, 6, 7, 41, 42] [(0, .slice p2 x1.length c3), (5, .slice p2 x1.length c3), (6, vi64 (x1.length : Int)), (7, vi64 x477), (41, .bool false), (42, (pt b567 2))] (by kernel_rfl) fun a hs hS => ?_
        refine d_load (fuel := 3) kS569 hs hS 31 rfl (by kernel_rfl) (SX_box hS569 0 rfl (by kernel_rfl)) 2 (by kernel_rfl) (by kernel_rfl) (v := .agg #[vi64 x563.f2.f0, vi64 x563.f2.f1, vu64 x563.f2.f2, vi64 x563.f2.f3]) (by kernel_rfl) fun a hs hS => ?_
        refine d_all (fuel := 2) (rs := [32]) (by kernel_rfl) (by simp) (all1 ?_)
        obtain ⟨y627, h628, hx609⟩ := bindE hx609
        refine o_call hs rfl (by kernel_rfl) (by kernel_rfl) (cmds_Check_s h628 ((hw.pick [0, 1] (by kernel_rfl)).pack 0)) fun a w v hv hs => ?_
        obtain ⟨rfl, hw⟩ := hv
        replace hw := hw.unpack 0 rfl
        refine dg_next (SX_now hS569 ((hw.vws [0, 1]).anti (Le.refl _)) (by kernel_rfl)) fun hS => ?_
        refine d_pures (fuel := 0) kS569 hs hS [33, 34] [0, 5, 6, 7, 46] [(0, .slice p2 x1.length c3), (5, .slice p2 x1.length c3), (6, vi64 (x1.length : Int)), (7, vi64 x477), (46, .bool (y627 != 0))] (by kernel_rfl) fun a hs hS => ?_
        refine d_done (by kernel_rfl) ?_
        obtain rfl := someE hx609
        exact (hJ610 _ _).2 ⟨(y627 != 0), hx553, hs.cast [0, 5, 6, 7, 46] (by kernel_rfl), hw.pick [1] (by kernel_rfl)⟩
      intro a w hh
      obtain ⟨x606, hx553, hs, hw⟩ := (hJ610 _ _).1 hh
      rcases ifbE hx553 with ⟨h607, hx553⟩ | ⟨h607, hx553⟩
      · refine c_cond1 hs (by kernel_rfl) (t := x606) (by kernel_rfl) h607 ?_
        refine c_seq ?_
        refine c_region ?_
        refine pures hs 1 [2] [(2, .bool false)] (by kernel_rfl) fun a hs => ?_
        refine s_end ?_
        refine c_ret ?_
        obtain rfl := someE hx553
        obtain rfl := someE hk
        refine hQ _ _ (f_ret1 hs rfl (v := .bool false) (by kernel_rfl) ⟨rfl, hw.pick [0] (by kernel_rfl)⟩)
      refine c_cond0 hs (by kernel_rfl) (t := x606) (by kernel_rfl) h607 ?_
      refine c_skip ?_
      refine c_region ?_
      refine pures hs 2 [0, 5, 6, 7] [(0, .slice p2 x1.length c3), (5, .slice p2 x1.length c3), (6, vi64 (x1.length : Int)), (7, vi64 (IntKind.i64.wrap (x477 + 1)))] (by kernel_rfl) fun a hs => ?_
      refine s_end ?_
      exact (hI555 _ _ _).2 ⟨(IntKind.i64.wrap (x477 + 1)), hx553, hs.cast [0, 5, 6, 7] (by kernel_rfl), hw.pick [0] (by kernel_rfl)⟩
    refine c_cond0 hs (by kernel_rfl) (t := (decide (x477 < (x1.length : Int)))) (by kernel_rfl) h556 ?_
    refine c_exit ?_
    obtain rfl := someE hx553
    exact (hJ554 _ _).2 ⟨hk, hs.cast [0] (by kernel_rfl), hw.pick [0] (by kernel_rfl)⟩
  intro a w hh
  obtain ⟨hk, hs, hw⟩ := (hJ554 _ _).1 hh
  refine c_seq ?_
  refine c_region ?_
  refine pures hs 4 [2] [(2, .bool (decide ((x1.length : Int) ≤ 512)))] (by kernel_rfl) fun a hs => ?_
  refine s_end ?_
  refine c_ret ?_
  obtain rfl := someE hk
  refine hQ _ _ (f_ret1 hs rfl (v := .bool (decide ((x1.length : Int) ≤ 512))) (by kernel_rfl) ⟨rfl, hw.pick [0] (by kernel_rfl)⟩)
def letter_other_10 (k : Nat) (x1 : M48) : Option Bool :=
  (letter_votes k x1.f15).bind fun y30 =>
  some y30
theorem letter_other_10_s {k : Nat} {x1 : M48} {p2 : Option Addr} {c3 : Nat} {p5 : Option Addr} {c6 : Nat} {p8 : Option Addr} {c9 : Nat} {p11 : Option Addr} {c12 : Nat} {r : Bool} (hk : letter_other_10 k x1 = some r) {g w : World} {F : Ch} {ih : IH} (h4 : RSl e3 ih [] p2 c3 x1.f14.f2) (h7 : RSl e156 ih [] p5 c6 x1.f15) (h10 : RSl e96 ih [] p8 c9 x1.f16) (h13 : RSl e5 ih [] p11 c12 x1.f17) (hw : St g w [F] ih) :
    CallsR Tryz.prog 173 #[.agg #[vi64 x1.f0, vi64 x1.f1, vi64 x1.f2, vi64 x1.f3, vu64 x1.f4, vu64 x1.f5, vu64 x1.f6, vu64 x1.f7, vu64 x1.f8, vu64 x1.f9, vi64 x1.f10, vu32 x1.f11, vi64 x1.f12, vi64 x1.f13.f0, vi64 x1.f13.f1, vu64 x1.f13.f2, vi64 x1.f13.f3, vi64 x1.f14.f0, vu64 x1.f14.f1, .slice p2 x1.f14.f2.length c3, .bool x1.f14.f3, vi64 x1.f14.f4, .slice p5 x1.f15.length c6, .slice p8 x1.f16.length c9, .slice p11 x1.f17.length c12]] w fun v w' => v = .bool r ∧ St g w' [F] ih := by
  refine f_in (vs := [.agg #[vi64 x1.f0, vi64 x1.f1, vi64 x1.f2, vi64 x1.f3, vu64 x1.f4, vu64 x1.f5, vu64 x1.f6, vu64 x1.f7, vu64 x1.f8, vu64 x1.f9, vi64 x1.f10, vu32 x1.f11, vi64 x1.f12, vi64 x1.f13.f0, vi64 x1.f13.f1, vu64 x1.f13.f2, vi64 x1.f13.f3, vi64 x1.f14.f0, vu64 x1.f14.f1, .slice p2 x1.f14.f2.length c3, .bool x1.f14.f3, vi64 x1.f14.f4, .slice p5 x1.f15.length c6, .slice p8 x1.f16.length c9, .slice p11 x1.f17.length c12]]) Tryz.func173 rfl 6 rfl (by kernel_rfl) [(0, .agg #[vi64 x1.f0, vi64 x1.f1, vi64 x1.f2, vi64 x1.f3, vu64 x1.f4, vu64 x1.f5, vu64 x1.f6, vu64 x1.f7, vu64 x1.f8, vu64 x1.f9, vi64 x1.f10, vu32 x1.f11, vi64 x1.f12, vi64 x1.f13.f0, vi64 x1.f13.f1, vu64 x1.f13.f2, vi64 x1.f13.f3, vi64 x1.f14.f0, vu64 x1.f14.f1, .slice p2 x1.f14.f2.length c3, .bool x1.f14.f3, vi64 x1.f14.f4, .slice p5 x1.f15.length c6, .slice p8 x1.f16.length c9, .slice p11 x1.f17.length c12])] (by kernel_rfl) fun a Qf hQ hQn hs => ?_
  refine c_seq ?_
  refine c_region ?_
  refine s_new hs hw [vi64 x1.f0, vi64 x1.f1, vi64 x1.f2, vi64 x1.f3, vu64 x1.f4, vu64 x1.f5, vu64 x1.f6, vu64 x1.f7, vu64 x1.f8, vu64 x1.f9, vi64 x1.f10, vu32 x1.f11, vi64 x1.f12, vi64 x1.f13.f0, vi64 x1.f13.f1, vu64 x1.f13.f2, vi64 x1.f13.f3, vi64 x1.f14.f0, vu64 x1.f14.f1, .slice p2 x1.f14.f2.length c3, .bool x1.f14.f3, vi64 x1.f14.f4, .slice p5 x1.f15.length c6, .slice p8 x1.f16.length c9, .slice p11 x1.f17.length c12] 48 (fun b => (pt b 0)) (by kernel_rfl) (fun _ => by kernel_rfl) fun a w b26 hs hw => ?_
  refine pures hs 1 [1] [(1, (pt b26 0))] (by kernel_rfl) fun a hs => ?_
  refine s_end ?_
  refine c_seq ?_
  refine c_region ?_
  refine pures hs 1 [3] [(3, (pt b26 22))] (by kernel_rfl) fun a hs => ?_
  refine s_load hs (hw.at_ 0 rfl) 22 (by kernel_rfl) (by kernel_rfl) (v := .slice p5 x1.f15.length c6) (by kernel_rfl) fun a hs => ?_
  obtain ⟨y30, h31, hk⟩ := bindE hk
  refine s_call hs (by kernel_rfl) (by kernel_rfl) (letter_votes_s h31 h7 (nilSub _) ((hw.pick [1] (by kernel_rfl)).pack 0)) fun a w v hv hs => ?_
  obtain ⟨rfl, hw⟩ := hv
  replace hw := hw.unpack 0 rfl
  refine pures hs 1 [2] [(2, .bool y30)] (by kernel_rfl) fun a hs => ?_
  refine s_end ?_
  refine c_ret ?_
  obtain rfl := someE hk
  refine hQ _ _ (f_ret1 hs rfl (v := .bool y30) (by kernel_rfl) ⟨rfl, hw.pick [0] (by kernel_rfl)⟩)
def letter_update (x1 : M96) (x5 : Bool) : Option Bool :=
  if ((!(x5 == (x1.f0 == 0))) || ((decide (x1.f1 < 1)) || ((decide (x1.f1 > 6)) || (decide (x1.f2 < 1))))) = true then some false
  else if (bif (x1.f3 == 2) then ((x1.f5 != 0) || ((x1.f3 != 2) && (x1.f3 != 3))) else ((x1.f3 != 2) && (x1.f3 != 3))) = true then some false
  else some (decide ((x1.f6.length : Int) ≤ 2048))
theorem letter_update_s {x1 : M96} {x5 : Bool} {p2 : Option Addr} {c3 : Nat} {r : Bool} (hk : letter_update x1 x5 = some r) {g w : World} {F : Ch} {ih : IH} (h4 : RSl e5 ih [] p2 c3 x1.f6) (hw : St g w [F] ih) :
    CallsR Tryz.prog 201 #[.agg #[vu64 x1.f0, vi64 x1.f1, vu64 x1.f2, vi64 x1.f3, vu32 x1.f4, vu64 x1.f5, .slice p2 x1.f6.length c3], .bool x5] w fun v w' => v = .bool r ∧ St g w' [F] ih := by
  refine f_in (vs := [.agg #[vu64 x1.f0, vi64 x1.f1, vu64 x1.f2, vi64 x1.f3, vu32 x1.f4, vu64 x1.f5, .slice p2 x1.f6.length c3], .bool x5]) Tryz.func201 rfl 49 rfl (by kernel_rfl) [(0, .agg #[vu64 x1.f0, vi64 x1.f1, vu64 x1.f2, vi64 x1.f3, vu32 x1.f4, vu64 x1.f5, .slice p2 x1.f6.length c3]), (1, .bool x5)] (by kernel_rfl) fun a Qf hQ hQn hs => ?_
  refine c_seq ?_
  refine c_region ?_
  refine s_new hs hw [vu64 x1.f0, vi64 x1.f1, vu64 x1.f2, vi64 x1.f3, vu32 x1.f4, vu64 x1.f5, .slice p2 x1.f6.length c3] 96 (fun b => (pt b 0)) (by kernel_rfl) (fun _ => by kernel_rfl) fun a w b41 hs hw => ?_
  refine pures hs 1 [1, 2] [(1, .bool x5), (2, (pt b41 0))] (by kernel_rfl) fun a hs => ?_
  refine s_end ?_
  refine c_seq ?_
  refine c_block ?_
  refine c_seq ?_
  obtain ⟨J50, hJ50⟩ : ∃ J : Act → World → Prop, ∀ a w, J a w ↔ (Sees a 49 [(2, (pt b41 0)), (5, .bool ((!(x5 == (x1.f0 == 0))) || ((decide (x1.f1 < 1)) || ((decide (x1.f1 > 6)) || (decide (x1.f2 < 1))))))] ∧ St g w [bx b41 [vu64 x1.f0, vi64 x1.f1, vu64 x1.f2, vi64 x1.f3, vu32 x1.f4, vu64 x1.f5, .slice p2 x1.f6.length c3] 96, F] ih) := ⟨_, fun _ _ => Iff.rfl⟩
  refine c_regJ J50 ?_ ?_
  · refine pures hs 2 [2, 6, 7] [(2, (pt b41 0)), (6, .bool x5), (7, (pt b41 0))] (by kernel_rfl) fun a hs => ?_
    refine s_load hs (hw.at_ 0 rfl) 0 (by kernel_rfl) (by kernel_rfl) (v := vu64 x1.f0) (by kernel_rfl) fun a hs => ?_
    refine pures hs 3 [2, 11] [(2, (pt b41 0)), (11, .bool (!(x5 == (x1.f0 == 0))))] (by kernel_rfl) fun a hs => ?_
    rcases boolE (!(x5 == (x1.f0 == 0))) with h51 | h51
    · replace hs := hs.altB 11 true (by kernel_rfl) h51
      refine pures hs 15 [2, 5] [(2, (pt b41 0)), (5, .bool true)] (by kernel_rfl) fun a hs => ?_
      refine s_end ?_
      exact (hJ50 _ _).2 ⟨(hs.altB (b := true) 5 ((!(x5 == (x1.f0 == 0))) || ((decide (x1.f1 < 1)) || ((decide (x1.f1 > 6)) || (decide (x1.f2 < 1))))) (by kernel_rfl) (by rw [h51] <;> rfl)).cast [2, 5] (by kernel_rfl), hw.pick [0, 1] (by kernel_rfl)⟩
    replace hs := hs.altB 11 false (by kernel_rfl) h51
    refine pures hs 1 [2, 11, 12] [(2, (pt b41 0)), (11, .bool false), (12, (pt b41 1))] (by kernel_rfl) fun a hs => ?_
    refine s_load hs (hw.at_ 0 rfl) 1 (by kernel_rfl) (by kernel_rfl) (v := vi64 x1.f1) (by kernel_rfl) fun a hs => ?_
    refine pures hs 3 [2, 16] [(2, (pt b41 0)), (16, .bool (decide (x1.f1 < 1)))] (by kernel_rfl) fun a hs => ?_
    rcases boolE (decide (x1.f1 < 1)) with h52 | h52
    · replace hs := hs.altB 16 true (by kernel_rfl) h52
      refine pures hs 10 [2, 5] [(2, (pt b41 0)), (5, .bool true)] (by kernel_rfl) fun a hs => ?_
      refine s_end ?_
      exact (hJ50 _ _).2 ⟨(hs.altB (b := true) 5 ((!(x5 == (x1.f0 == 0))) || ((decide (x1.f1 < 1)) || ((decide (x1.f1 > 6)) || (decide (x1.f2 < 1))))) (by kernel_rfl) (by rw [h51, h52] <;> rfl)).cast [2, 5] (by kernel_rfl), hw.pick [0, 1] (by kernel_rfl)⟩
    replace hs := hs.altB 16 false (by kernel_rfl) h52
    refine pures hs 1 [2, 16, 17] [(2, (pt b41 0)), (16, .bool false), (17, (pt b41 1))] (by kernel_rfl) fun a hs => ?_
    refine s_load hs (hw.at_ 0 rfl) 1 (by kernel_rfl) (by kernel_rfl) (v := vi64 x1.f1) (by kernel_rfl) fun a hs => ?_
    refine pures hs 3 [2, 21] [(2, (pt b41 0)), (21, .bool (decide (x1.f1 > 6)))] (by kernel_rfl) fun a hs => ?_
    rcases boolE (decide (x1.f1 > 6)) with h53 | h53
    · replace hs := hs.altB 21 true (by kernel_rfl) h53
      refine pures hs 5 [2, 5] [(2, (pt b41 0)), (5, .bool true)] (by kernel_rfl) fun a hs => ?_
      refine s_end ?_
      exact (hJ50 _ _).2 ⟨(hs.altB (b := true) 5 ((!(x5 == (x1.f0 == 0))) || ((decide (x1.f1 < 1)) || ((decide (x1.f1 > 6)) || (decide (x1.f2 < 1))))) (by kernel_rfl) (by rw [h51, h52, h53] <;> rfl)).cast [2, 5] (by kernel_rfl), hw.pick [0, 1] (by kernel_rfl)⟩
    replace hs := hs.altB 21 false (by kernel_rfl) h53
    refine pures hs 1 [2, 21, 22] [(2, (pt b41 0)), (21, .bool false), (22, (pt b41 2))] (by kernel_rfl) fun a hs => ?_
    refine s_load hs (hw.at_ 0 rfl) 2 (by kernel_rfl) (by kernel_rfl) (v := vu64 x1.f2) (by kernel_rfl) fun a hs => ?_
    refine pures hs 3 [2, 5] [(2, (pt b41 0)), (5, .bool (decide (x1.f2 < 1)))] (by kernel_rfl) fun a hs => ?_
    refine s_end ?_
    exact (hJ50 _ _).2 ⟨(hs.altB (b := (decide (x1.f2 < 1))) 5 ((!(x5 == (x1.f0 == 0))) || ((decide (x1.f1 < 1)) || ((decide (x1.f1 > 6)) || (decide (x1.f2 < 1))))) (by kernel_rfl) (by rw [h51, h52, h53] <;> rfl)).cast [2, 5] (by kernel_rfl), hw.pick [0, 1] (by kernel_rfl)⟩
  intro a w hh
  obtain ⟨hs, hw⟩ := (hJ50 _ _).1 hh
  rcases ifbE hk with ⟨h54, hk⟩ | ⟨h54, hk⟩
  · refine c_cond1 hs (by kernel_rfl) (t := ((!(x5 == (x1.f0 == 0))) || ((decide (x1.f1 < 1)) || ((decide (x1.f1 > 6)) || (decide (x1.f2 < 1)))))) (by kernel_rfl) h54 ?_
    refine c_seq ?_
    refine c_region ?_
    refine pures hs 1 [4] [(4, .bool false)] (by kernel_rfl) fun a hs => ?_
    refine s_end ?_
    refine c_ret ?_
    obtain rfl := someE hk
    refine hQ _ _ (f_ret1 hs rfl (v := .bool false) (by kernel_rfl) ⟨rfl, hw.pick [1] (by kernel_rfl)⟩)
  refine c_cond0 hs (by kernel_rfl) (t := ((!(x5 == (x1.f0 == 0))) || ((decide (x1.f1 < 1)) || ((decide (x1.f1 > 6)) || (decide (x1.f2 < 1)))))) (by kernel_rfl) h54 ?_
  refine c_seq ?_
  obtain ⟨J64, hJ64⟩ : ∃ J : Act → World → Prop, ∀ a w, J a w ↔ (Sees a 49 [(2, (pt b41 0)), (26, .bool (bif (x1.f3 == 2) then ((x1.f5 != 0) || ((x1.f3 != 2) && (x1.f3 != 3))) else ((x1.f3 != 2) && (x1.f3 != 3))))] ∧ St g w [bx b41 [vu64 x1.f0, vi64 x1.f1, vu64 x1.f2, vi64 x1.f3, vu32 x1.f4, vu64 x1.f5, .slice p2 x1.f6.length c3] 96, F] ih) := ⟨_, fun _ _ => Iff.rfl⟩
  refine c_regJ J64 ?_ ?_
  · refine pures hs 1 [2, 27] [(2, (pt b41 0)), (27, (pt b41 3))] (by kernel_rfl) fun a hs => ?_
    refine s_load hs (hw.at_ 0 rfl) 3 (by kernel_rfl) (by kernel_rfl) (v := vi64 x1.f3) (by kernel_rfl) fun a hs => ?_
    refine pures hs 2 [2, 30] [(2, (pt b41 0)), (30, .bool (x1.f3 == 2))] (by kernel_rfl) fun a hs => ?_
    rcases boolE (x1.f3 == 2) with h65 | h65
    · replace hs := hs.altB 30 true (by kernel_rfl) h65
      refine pures hs 1 [2, 30, 31] [(2, (pt b41 0)), (30, .bool true), (31, (pt b41 5))] (by kernel_rfl) fun a hs => ?_
      refine s_load hs (hw.at_ 0 rfl) 5 (by kernel_rfl) (by kernel_rfl) (v := vu64 x1.f5) (by kernel_rfl) fun a hs => ?_
      refine pures hs 3 [2, 35] [(2, (pt b41 0)), (35, .bool (x1.f5 != 0))] (by kernel_rfl) fun a hs => ?_
      rcases boolE (x1.f5 != 0) with h66 | h66
      · replace hs := hs.altB 35 true (by kernel_rfl) h66
        refine pures hs 10 [2, 26] [(2, (pt b41 0)), (26, .bool true)] (by kernel_rfl) fun a hs => ?_
        refine s_end ?_
        exact (hJ64 _ _).2 ⟨(hs.altB (b := true) 26 (bif (x1.f3 == 2) then ((x1.f5 != 0) || ((x1.f3 != 2) && (x1.f3 != 3))) else ((x1.f3 != 2) && (x1.f3 != 3))) (by kernel_rfl) (by rw [h65, h66] <;> rfl)).cast [2, 26] (by kernel_rfl), hw.pick [0, 1] (by kernel_rfl)⟩
      replace hs := hs.altB 35 false (by kernel_rfl) h66
      refine pures hs 1 [2, 35, 36] [(2, (pt b41 0)), (35, .bool false), (36, (pt b41 3))] (by kernel_rfl) fun a hs => ?_
      refine s_load hs (hw.at_ 0 rfl) 3 (by kernel_rfl) (by kernel_rfl) (v := vi64 x1.f3) (by kernel_rfl) fun a hs => ?_
      refine pures hs 2 [2, 35, 39] [(2, (pt b41 0)), (35, .bool false), (39, .bool (x1.f3 != 2))] (by kernel_rfl) fun a hs => ?_
      rcases boolE (x1.f3 != 2) with h67 | h67
      · replace hs := hs.altB 39 true (by kernel_rfl) h67
        refine pures hs 1 [2, 35, 39, 40] [(2, (pt b41 0)), (35, .bool false), (39, .bool true), (40, (pt b41 3))] (by kernel_rfl) fun a hs => ?_
        refine s_load hs (hw.at_ 0 rfl) 3 (by kernel_rfl) (by kernel_rfl) (v := vi64 x1.f3) (by kernel_rfl) fun a hs => ?_
        refine pures hs 4 [2, 26] [(2, (pt b41 0)), (26, .bool (x1.f3 != 3))] (by kernel_rfl) fun a hs => ?_
        refine s_end ?_
        exact (hJ64 _ _).2 ⟨(hs.altB (b := (x1.f3 != 3)) 26 (bif (x1.f3 == 2) then ((x1.f5 != 0) || ((x1.f3 != 2) && (x1.f3 != 3))) else ((x1.f3 != 2) && (x1.f3 != 3))) (by kernel_rfl) (by rw [h65, h66, h67] <;> rfl)).cast [2, 26] (by kernel_rfl), hw.pick [0, 1] (by kernel_rfl)⟩
      replace hs := hs.altB 39 false (by kernel_rfl) h67
      refine pures hs 6 [2, 26] [(2, (pt b41 0)), (26, .bool false)] (by kernel_rfl) fun a hs => ?_
      refine s_end ?_
      exact (hJ64 _ _).2 ⟨(hs.altB (b := false) 26 (bif (x1.f3 == 2) then ((x1.f5 != 0) || ((x1.f3 != 2) && (x1.f3 != 3))) else ((x1.f3 != 2) && (x1.f3 != 3))) (by kernel_rfl) (by rw [h65, h66, h67] <;> rfl)).cast [2, 26] (by kernel_rfl), hw.pick [0, 1] (by kernel_rfl)⟩
    replace hs := hs.altB 30 false (by kernel_rfl) h65
    refine pures hs 6 [2, 35, 36] [(2, (pt b41 0)), (35, .bool false), (36, (pt b41 3))] (by kernel_rfl) fun a hs => ?_
    refine s_load hs (hw.at_ 0 rfl) 3 (by kernel_rfl) (by kernel_rfl) (v := vi64 x1.f3) (by kernel_rfl) fun a hs => ?_
    refine pures hs 2 [2, 35, 39] [(2, (pt b41 0)), (35, .bool false), (39, .bool (x1.f3 != 2))] (by kernel_rfl) fun a hs => ?_
    rcases boolE (x1.f3 != 2) with h68 | h68
    · replace hs := hs.altB 39 true (by kernel_rfl) h68
      refine pures hs 1 [2, 35, 39, 40] [(2, (pt b41 0)), (35, .bool false), (39, .bool true), (40, (pt b41 3))] (by kernel_rfl) fun a hs => ?_
      refine s_load hs (hw.at_ 0 rfl) 3 (by kernel_rfl) (by kernel_rfl) (v := vi64 x1.f3) (by kernel_rfl) fun a hs => ?_
      refine pures hs 4 [2, 26] [(2, (pt b41 0)), (26, .bool (x1.f3 != 3))] (by kernel_rfl) fun a hs => ?_
      refine s_end ?_
      exact (hJ64 _ _).2 ⟨(hs.altB (b := (x1.f3 != 3)) 26 (bif (x1.f3 == 2) then ((x1.f5 != 0) || ((x1.f3 != 2) && (x1.f3 != 3))) else ((x1.f3 != 2) && (x1.f3 != 3))) (by kernel_rfl) (by rw [h65, h68] <;> rfl)).cast [2, 26] (by kernel_rfl), hw.pick [0, 1] (by kernel_rfl)⟩
    replace hs := hs.altB 39 false (by kernel_rfl) h68
    refine pures hs 6 [2, 26] [(2, (pt b41 0)), (26, .bool false)] (by kernel_rfl) fun a hs => ?_
    refine s_end ?_
    exact (hJ64 _ _).2 ⟨(hs.altB (b := false) 26 (bif (x1.f3 == 2) then ((x1.f5 != 0) || ((x1.f3 != 2) && (x1.f3 != 3))) else ((x1.f3 != 2) && (x1.f3 != 3))) (by kernel_rfl) (by rw [h65, h68] <;> rfl)).cast [2, 26] (by kernel_rfl), hw.pick [0, 1] (by kernel_rfl)⟩
  intro a w hh
  obtain ⟨hs, hw⟩ := (hJ64 _ _).1 hh
  rcases ifbE hk with ⟨h69, hk⟩ | ⟨h69, hk⟩
  · refine c_cond1 hs (by kernel_rfl) (t := (bif (x1.f3 == 2) then ((x1.f5 != 0) || ((x1.f3 != 2) && (x1.f3 != 3))) else ((x1.f3 != 2) && (x1.f3 != 3)))) (by kernel_rfl) h69 ?_
    refine c_seq ?_
    refine c_region ?_
    refine pures hs 1 [4] [(4, .bool false)] (by kernel_rfl) fun a hs => ?_
    refine s_end ?_
    refine c_ret ?_
    obtain rfl := someE hk
    refine hQ _ _ (f_ret1 hs rfl (v := .bool false) (by kernel_rfl) ⟨rfl, hw.pick [1] (by kernel_rfl)⟩)
  refine c_cond0 hs (by kernel_rfl) (t := (bif (x1.f3 == 2) then ((x1.f5 != 0) || ((x1.f3 != 2) && (x1.f3 != 3))) else ((x1.f3 != 2) && (x1.f3 != 3)))) (by kernel_rfl) h69 ?_
  refine c_skip ?_
  refine c_seq ?_
  refine c_region ?_
  refine pures hs 1 [45] [(45, (pt b41 6))] (by kernel_rfl) fun a hs => ?_
  refine s_load hs (hw.at_ 0 rfl) 6 (by kernel_rfl) (by kernel_rfl) (v := .slice p2 x1.f6.length c3) (by kernel_rfl) fun a hs => ?_
  refine pures hs 3 [4] [(4, .bool (decide ((x1.f6.length : Int) ≤ 2048)))] (by kernel_rfl) fun a hs => ?_
  refine s_end ?_
  refine c_ret ?_
  obtain rfl := someE hk
  refine hQ _ _ (f_ret1 hs rfl (v := .bool (decide ((x1.f6.length : Int) ≤ 2048))) (by kernel_rfl) ⟨rfl, hw.pick [1] (by kernel_rfl)⟩)
def letter_updates_1 (x1 : M96) (x7 : Bool) : Option Bool :=
  (letter_update x1 x7).bind fun y24 =>
  some (!y24)
theorem letter_updates_1_s {x1 : M96} {x7 : Bool} {p2 : Option Addr} {c3 : Nat} {b6 : Nat} {r : Bool} (hk : letter_updates_1 x1 x7 = some r) {g w : World} {F : Ch} {ih : IH} (h4 : RSl e5 ih [] p2 c3 x1.f6) (hw : St g w [bx b6 [.bool x7] 4, F] ih) :
    CallsR Tryz.prog 200 #[.agg #[vu64 x1.f0, vi64 x1.f1, vu64 x1.f2, vi64 x1.f3, vu32 x1.f4, vu64 x1.f5, .slice p2 x1.f6.length c3], (pt b6 0)] w fun v w' => v = .bool r ∧ St g w' [bx b6 [.bool x7] 4, F] ih := by
  refine f_in (vs := [.agg #[vu64 x1.f0, vi64 x1.f1, vu64 x1.f2, vi64 x1.f3, vu32 x1.f4, vu64 x1.f5, .slice p2 x1.f6.length c3], (pt b6 0)]) Tryz.func200 rfl 8 rfl (by kernel_rfl) [(0, .agg #[vu64 x1.f0, vi64 x1.f1, vu64 x1.f2, vi64 x1.f3, vu32 x1.f4, vu64 x1.f5, .slice p2 x1.f6.length c3]), (1, (pt b6 0))] (by kernel_rfl) fun a Qf hQ hQn hs => ?_
  refine c_seq ?_
  refine c_region ?_
  refine s_new hs hw [vu64 x1.f0, vi64 x1.f1, vu64 x1.f2, vi64 x1.f3, vu32 x1.f4, vu64 x1.f5, .slice p2 x1.f6.length c3] 96 (fun b => (pt b 0)) (by kernel_rfl) (fun _ => by kernel_rfl) fun a w b20 hs hw => ?_
  refine pures hs 1 [1, 2] [(1, (pt b6 0)), (2, (pt b20 0))] (by kernel_rfl) fun a hs => ?_
  refine s_end ?_
  refine c_seq ?_
  refine c_region ?_
  refine s_load hs (hw.at_ 0 rfl) 0 (by kernel_rfl) (by kernel_rfl) (v := .agg #[vu64 x1.f0, vi64 x1.f1, vu64 x1.f2, vi64 x1.f3, vu32 x1.f4, vu64 x1.f5, .slice p2 x1.f6.length c3]) (by kernel_rfl) fun a hs => ?_
  refine s_load hs (hw.at_ 1 rfl) 0 (by kernel_rfl) (by kernel_rfl) (v := .bool x7) (by kernel_rfl) fun a hs => ?_
  obtain ⟨y24, h25, hk⟩ := bindE hk
  refine s_call hs (by kernel_rfl) (by kernel_rfl) (letter_update_s h25 h4 ((hw.pick [1, 2] (by kernel_rfl)).pack 0)) fun a w v hv hs => ?_
  obtain ⟨rfl, hw⟩ := hv
  replace hw := hw.unpack 0 rfl
  refine pures hs 2 [3] [(3, .bool (!y24))] (by kernel_rfl) fun a hs => ?_
  refine s_end ?_
  refine c_ret ?_
  obtain rfl := someE hk
  refine hQ _ _ (f_ret1 hs rfl (v := .bool (!y24)) (by kernel_rfl) ⟨rfl, hw.pick [0, 1] (by kernel_rfl)⟩)
def slices_IndexFunc_api_Update_api_Update_r3 : Option Int :=
  some (-1)
def slices_IndexFunc_api_Update_api_Update_l4 (x1 : List M96) (x9 : Bool) : Nat → Int → Option (Sum Int Unit)
  | 0, _ => none
  | j + 1, x140 =>
    if (decide (x140 < (x1.length : Int))) = true then (
      (ix x1 x140).bind fun x175 =>
      (letter_updates_1 x175 x9).bind fun y182 =>
      if y182 = true then some (.inl x140)
      else slices_IndexFunc_api_Update_api_Update_l4 x1 x9 j (IntKind.i64.wrap (x140 + 1)))
    else some (.inr ())
def slices_IndexFunc_api_Update_api_Update (k : Nat) (x1 : List M96) (x9 : Bool) : Option Int :=
  (slices_IndexFunc_api_Update_api_Update_l4 x1 x9 k 0 : Option (Sum Int Unit)).bind fun
    | .inl z => some z
    | .inr _ => slices_IndexFunc_api_Update_api_Update_r3
theorem slices_IndexFunc_api_Update_api_Update_s {k : Nat} {x1 : List M96} {x9 : Bool} {p2 : Option Addr} {c3 : Nat} {d5 : Ch} {b8 : Nat} {r : Int} (hk : slices_IndexFunc_api_Update_api_Update k x1 x9 = some r) {g w : World} {F : Ch} {ih : IH} (h4 : RSl e96 ih d5 p2 c3 x1) (h6 : ∀ q ∈ d5, q ∈ F) (hw : St g w [bx b8 [.bool x9] 4, F] ih) :
    CallsR Tryz.prog 214 #[.slice p2 x1.length c3, .func (.func 200) #[] #[(pt b8 0)]] w fun v w' => v = vi64 r ∧ St g w' [bx b8 [.bool x9] 4, F] ih := by
  refine f_in (vs := [.slice p2 x1.length c3, .func (.func 200) #[] #[(pt b8 0)]]) Tryz.func214 rfl 19 rfl (by kernel_rfl) [(0, .slice p2 x1.length c3), (1, .func (.func 200) #[] #[(pt b8 0)])] (by kernel_rfl) fun a Qf hQ hQn hs => ?_
  refine c_seq ?_
  refine c_region ?_
  refine pures hs 1 [0, 1] [(0, .slice p2 x1.length c3), (1, .func (.func 200) #[] #[(pt b8 0)])] (by kernel_rfl) fun a hs => ?_
  refine s_end ?_
  refine c_seq ?_
  refine c_seq ?_
  refine c_region ?_
  refine pures hs 3 [0, 1, 7, 8] [(0, .slice p2 x1.length c3), (1, .func (.func 200) #[] #[(pt b8 0)]), (7, vi64 (x1.length : Int)), (8, vi64 0)] (by kernel_rfl) fun a hs => ?_
  refine s_end ?_
  refine c_block ?_
  obtain ⟨y161, hx162, hk⟩ := bindE hk
  obtain ⟨J163, hJ163⟩ : ∃ J : Act → World → Prop, ∀ a w, J a w ↔ (slices_IndexFunc_api_Update_api_Update_r3 = some r ∧ Sees a 19 [] ∧ St g w [bx b8 [.bool x9] 4, F] ih) := ⟨_, fun _ _ => Iff.rfl⟩
  obtain ⟨I164, hI164⟩ : ∃ J : Nat → Act → World → Prop, ∀ j a w, J j a w ↔ (∃ (x140 : Int), slices_IndexFunc_api_Update_api_Update_l4 x1 x9 j x140 = some y161 ∧ Sees a 19 [(0, .slice p2 x1.length c3), (1, .func (.func 200) #[] #[(pt b8 0)]), (7, vi64 (x1.length : Int)), (8, vi64 x140)] ∧ St g w [bx b8 [.bool x9] 4, F] ih) := ⟨_, fun _ _ _ => Iff.rfl⟩
  refine c_exitJ 0 J163 ?_ ?_
  · refine c_loop I164 k ((hI164 _ _ _).2 ⟨0, hx162, hs.cast [0, 1, 7, 8] (by kernel_rfl), hw.pick [0, 1] (by kernel_rfl)⟩) (fun a w h0 => ?_) fun j a w hh => ?_
    · obtain ⟨_, h, _⟩ := (hI164 _ _ _).1 h0
      cases h
    obtain ⟨x140, hx162, hs, hw⟩ := (hI164 _ _ _).1 hh
    refine c_seq ?_
    refine c_region ?_
    refine pures hs 1 [0, 1, 7, 8, 9] [(0, .slice p2 x1.length c3), (1, .func (.func 200) #[] #[(pt b8 0)]), (7, vi64 (x1.length : Int)), (8, vi64 x140), (9, .bool (decide (x140 < (x1.length : Int))))] (by kernel_rfl) fun a hs => ?_
    refine s_end ?_
    refine c_seq ?_
    rcases ifbE hx162 with ⟨h165, hx162⟩ | ⟨h165, hx162⟩
    · refine c_cond1 hs (by kernel_rfl) (t := (decide (x140 < (x1.length : Int)))) (by kernel_rfl) h165 ?_
      refine c_skip ?_
      refine c_seq ?_
      refine c_block ?_
      refine c_seq ?_
      refine c_region ?_
      refine pures hs 2 [0, 1, 7, 8, 5] [(0, .slice p2 x1.length c3), (1, .func (.func 200) #[] #[(pt b8 0)]), (7, vi64 (x1.length : Int)), (8, vi64 x140), (5, vi64 x140)] (by kernel_rfl) fun a hs => ?_
      refine s_end ?_
      refine c_seq ?_
      refine c_region ?_
      refine pures hs 3 [0, 1, 7, 8, 5, 11, 12, 13] [(0, .slice p2 x1.length c3), (1, .func (.func 200) #[] #[(pt b8 0)]), (7, vi64 (x1.length : Int)), (8, vi64 x140), (5, vi64 x140), (11, .func (.func 200) #[] #[(pt b8 0)]), (12, .slice p2 x1.length c3), (13, vi64 x140)] (by kernel_rfl) fun a hs => ?_
      obtain ⟨x175, h176, hx162⟩ := bindE hx162
      refine s_index hs h4 (by kernel_rfl) (by kernel_rfl) (k := .i64) (by kernel_rfl) 96 (by kernel_rfl) (by kernel_rfl) h176 fun a r177 cs henc at178 hs => ?_
      obtain ⟨p179, c180, rfl, h181⟩ := henc
      refine s_load hs (at178 _ (((hw.vw 1 rfl).sub h6).anti (Le.refl _))) 0 (by kernel_rfl) (by kernel_rfl) (v := .agg #[vu64 x175.f0, vi64 x175.f1, vu64 x175.f2, vi64 x175.f3, vu32 x175.f4, vu64 x175.f5, .slice p179 x175.f6.length c180]) (by kernel_rfl) fun a hs => ?_
      obtain ⟨y182, h183, hx162⟩ := bindE hx162
      refine s_call hs (by kernel_rfl) (by kernel_rfl) (letter_updates_1_s h183 h181 ((hw.pick [0, 1] (by kernel_rfl)).pack 1)) fun a w v hv hs => ?_
      obtain ⟨rfl, hw⟩ := hv
      replace hw := hw.unpack 1 rfl
      refine s_end ?_
      rcases ifbE hx162 with ⟨h184, hx162⟩ | ⟨h184, hx162⟩
      · refine c_cond1 hs (by kernel_rfl) (t := y182) (by kernel_rfl) h184 ?_
        refine c_seq ?_
        refine c_region ?_
        refine pures hs 2 [4] [(4, vi64 x140)] (by kernel_rfl) fun a hs => ?_
        refine s_end ?_
        refine c_ret ?_
        obtain rfl := someE hx162
        obtain rfl := someE hk
        refine hQ _ _ (f_ret1 hs rfl (v := vi64 x140) (by kernel_rfl) ⟨rfl, hw.pick [0, 1] (by kernel_rfl)⟩)
      refine c_cond0 hs (by kernel_rfl) (t := y182) (by kernel_rfl) h184 ?_
      refine c_skip ?_
      refine c_region ?_
      refine pures hs 2 [0, 1, 7, 8] [(0, .slice p2 x1.length c3), (1, .func (.func 200) #[] #[(pt b8 0)]), (7, vi64 (x1.length : Int)), (8, vi64 (IntKind.i64.wrap (x140 + 1)))] (by kernel_rfl) fun a hs => ?_
      refine s_end ?_
      exact (hI164 _ _ _).2 ⟨(IntKind.i64.wrap (x140 + 1)), hx162, hs.cast [0, 1, 7, 8] (by kernel_rfl), hw.pick [0, 1] (by kernel_rfl)⟩
    refine c_cond0 hs (by kernel_rfl) (t := (decide (x140 < (x1.length : Int)))) (by kernel_rfl) h165 ?_
    refine c_exit ?_
    obtain rfl := someE hx162
    exact (hJ163 _ _).2 ⟨hk, hs.cast [] (by kernel_rfl), hw.pick [0, 1] (by kernel_rfl)⟩
  intro a w hh
  obtain ⟨hk, hs, hw⟩ := (hJ163 _ _).1 hh
  refine c_seq ?_
  refine c_region ?_
  refine pures hs 1 [4] [(4, vi64 (-1))] (by kernel_rfl) fun a hs => ?_
  refine s_end ?_
  refine c_ret ?_
  obtain rfl := someE hk
  refine hQ _ _ (f_ret1 hs rfl (v := vi64 (-1)) (by kernel_rfl) ⟨rfl, hw.pick [0, 1] (by kernel_rfl)⟩)
def slices_ContainsFunc_api_Update_api_Update (k : Nat) (x1 : List M96) (x9 : Bool) : Option Bool :=
  (slices_IndexFunc_api_Update_api_Update k x1 x9).bind fun y18 =>
  some (decide (y18 ≥ 0))
theorem slices_ContainsFunc_api_Update_api_Update_s {k : Nat} {x1 : List M96} {x9 : Bool} {p2 : Option Addr} {c3 : Nat} {d5 : Ch} {b8 : Nat} {r : Bool} (hk : slices_ContainsFunc_api_Update_api_Update k x1 x9 = some r) {g w : World} {F : Ch} {ih : IH} (h4 : RSl e96 ih d5 p2 c3 x1) (h6 : ∀ q ∈ d5, q ∈ F) (hw : St g w [bx b8 [.bool x9] 4, F] ih) :
    CallsR Tryz.prog 199 #[.slice p2 x1.length c3, .func (.func 200) #[] #[(pt b8 0)]] w fun v w' => v = .bool r ∧ St g w' [bx b8 [.bool x9] 4, F] ih := by
  refine f_in (vs := [.slice p2 x1.length c3, .func (.func 200) #[] #[(pt b8 0)]]) Tryz.func199 rfl 9 rfl (by kernel_rfl) [(0, .slice p2 x1.length c3), (1, .func (.func 200) #[] #[(pt b8 0)])] (by kernel_rfl) fun a Qf hQ hQn hs => ?_
  refine c_seq ?_
  refine c_region ?_
  refine pures hs 1 [0, 1] [(0, .slice p2 x1.length c3), (1, .func (.func 200) #[] #[(pt b8 0)])] (by kernel_rfl) fun a hs => ?_
  refine s_end ?_
  refine c_seq ?_
  refine c_region ?_
  refine pures hs 2 [5, 6] [(5, .slice p2 x1.length c3), (6, .func (.func 200) #[] #[(pt b8 0)])] (by kernel_rfl) fun a hs => ?_
  obtain ⟨y18, h19, hk⟩ := bindE hk
  refine s_call hs (by kernel_rfl) (by kernel_rfl) (slices_IndexFunc_api_Update_api_Update_s h19 h4 (fun q hq => memF 0 rfl q (h6 q hq)) ((hw.pick [0, 1] (by kernel_rfl)).pack 1)) fun a w v hv hs => ?_
  obtain ⟨rfl, hw⟩ := hv
  replace hw := hw.unpack 1 rfl
  refine pures hs 2 [4] [(4, .bool (decide (y18 ≥ 0)))] (by kernel_rfl) fun a hs => ?_
  refine s_end ?_
  refine c_ret ?_
  obtain rfl := someE hk
  refine hQ _ _ (f_ret1 hs rfl (v := .bool (decide (y18 ≥ 0))) (by kernel_rfl) ⟨rfl, hw.pick [0, 1] (by kernel_rfl)⟩)
def letter_updates (k : Nat) (x1 : M48) : Option Bool :=
  if (bif (x1.f0 == 17) then (((x1.f16.length : Int) != 1) || (decide ((x1.f16.length : Int) > 4))) else (decide ((x1.f16.length : Int) > 4))) = true then some false
  else (slices_ContainsFunc_api_Update_api_Update k x1.f16 (x1.f0 == 17)).bind fun y56 =>
  some (!y56)
theorem letter_updates_s {k : Nat} {x1 : M48} {p2 : Option Addr} {c3 : Nat} {p5 : Option Addr} {c6 : Nat} {p8 : Option Addr} {c9 : Nat} {p11 : Option Addr} {c12 : Nat} {r : Bool} (hk : letter_updates k x1 = some r) {g w : World} {F : Ch} {ih : IH} (h4 : RSl e3 ih [] p2 c3 x1.f14.f2) (h7 : RSl e156 ih [] p5 c6 x1.f15) (h10 : RSl e96 ih [] p8 c9 x1.f16) (h13 : RSl e5 ih [] p11 c12 x1.f17) (hw : St g w [F] ih) :
    CallsR Tryz.prog 177 #[.agg #[vi64 x1.f0, vi64 x1.f1, vi64 x1.f2, vi64 x1.f3, vu64 x1.f4, vu64 x1.f5, vu64 x1.f6, vu64 x1.f7, vu64 x1.f8, vu64 x1.f9, vi64 x1.f10, vu32 x1.f11, vi64 x1.f12, vi64 x1.f13.f0, vi64 x1.f13.f1, vu64 x1.f13.f2, vi64 x1.f13.f3, vi64 x1.f14.f0, vu64 x1.f14.f1, .slice p2 x1.f14.f2.length c3, .bool x1.f14.f3, vi64 x1.f14.f4, .slice p5 x1.f15.length c6, .slice p8 x1.f16.length c9, .slice p11 x1.f17.length c12]] w fun v w' => v = .bool r ∧ St g w' [F] ih := by
  refine f_in (vs := [.agg #[vi64 x1.f0, vi64 x1.f1, vi64 x1.f2, vi64 x1.f3, vu64 x1.f4, vu64 x1.f5, vu64 x1.f6, vu64 x1.f7, vu64 x1.f8, vu64 x1.f9, vi64 x1.f10, vu32 x1.f11, vi64 x1.f12, vi64 x1.f13.f0, vi64 x1.f13.f1, vu64 x1.f13.f2, vi64 x1.f13.f3, vi64 x1.f14.f0, vu64 x1.f14.f1, .slice p2 x1.f14.f2.length c3, .bool x1.f14.f3, vi64 x1.f14.f4, .slice p5 x1.f15.length c6, .slice p8 x1.f16.length c9, .slice p11 x1.f17.length c12]]) Tryz.func177 rfl 25 rfl (by kernel_rfl) [(0, .agg #[vi64 x1.f0, vi64 x1.f1, vi64 x1.f2, vi64 x1.f3, vu64 x1.f4, vu64 x1.f5, vu64 x1.f6, vu64 x1.f7, vu64 x1.f8, vu64 x1.f9, vi64 x1.f10, vu32 x1.f11, vi64 x1.f12, vi64 x1.f13.f0, vi64 x1.f13.f1, vu64 x1.f13.f2, vi64 x1.f13.f3, vi64 x1.f14.f0, vu64 x1.f14.f1, .slice p2 x1.f14.f2.length c3, .bool x1.f14.f3, vi64 x1.f14.f4, .slice p5 x1.f15.length c6, .slice p8 x1.f16.length c9, .slice p11 x1.f17.length c12])] (by kernel_rfl) fun a Qf hQ hQn hs => ?_
  refine c_seq ?_
  refine c_region ?_
  refine s_new hs hw [vi64 x1.f0, vi64 x1.f1, vi64 x1.f2, vi64 x1.f3, vu64 x1.f4, vu64 x1.f5, vu64 x1.f6, vu64 x1.f7, vu64 x1.f8, vu64 x1.f9, vi64 x1.f10, vu32 x1.f11, vi64 x1.f12, vi64 x1.f13.f0, vi64 x1.f13.f1, vu64 x1.f13.f2, vi64 x1.f13.f3, vi64 x1.f14.f0, vu64 x1.f14.f1, .slice p2 x1.f14.f2.length c3, .bool x1.f14.f3, vi64 x1.f14.f4, .slice p5 x1.f15.length c6, .slice p8 x1.f16.length c9, .slice p11 x1.f17.length c12] 48 (fun b => (pt b 0)) (by kernel_rfl) (fun _ => by kernel_rfl) fun a w b39 hs hw => ?_
  refine pures hs 1 [1] [(1, (pt b39 0))] (by kernel_rfl) fun a hs => ?_
  refine s_end ?_
  refine c_seq ?_
  refine c_region ?_
  refine pures hs 1 [1, 4] [(1, (pt b39 0)), (4, (pt b39 0))] (by kernel_rfl) fun a hs => ?_
  refine s_load hs (hw.at_ 0 rfl) 0 (by kernel_rfl) (by kernel_rfl) (v := vi64 x1.f0) (by kernel_rfl) fun a hs => ?_
  refine pures hs 1 [1, 6] [(1, (pt b39 0)), (6, .bool (x1.f0 == 17))] (by kernel_rfl) fun a hs => ?_
  refine s_new hs hw [.bool false] 4 (fun b => (pt b 0)) (by kernel_rfl) (fun _ => by kernel_rfl) fun a w b43 hs hw => ?_
  refine s_store hs hw 0 rfl 0 (by kernel_rfl) (by kernel_rfl) (v := .bool (x1.f0 == 17)) (by kernel_rfl) (by kernel_rfl) (by kernel_rfl) (by kernel_rfl) fun a w hs hw => ?_
  refine s_end ?_
  refine c_seq ?_
  refine c_seq ?_
  obtain ⟨J50, hJ50⟩ : ∃ J : Act → World → Prop, ∀ a w, J a w ↔ (Sees a 25 [(1, (pt b39 0)), (3, (pt b43 0)), (19, .bool (bif (x1.f0 == 17) then (((x1.f16.length : Int) != 1) || (decide ((x1.f16.length : Int) > 4))) else (decide ((x1.f16.length : Int) > 4))))] ∧ St g w [bx b43 [.bool (x1.f0 == 17)] 4, bx b39 [vi64 x1.f0, vi64 x1.f1, vi64 x1.f2, vi64 x1.f3, vu64 x1.f4, vu64 x1.f5, vu64 x1.f6, vu64 x1.f7, vu64 x1.f8, vu64 x1.f9, vi64 x1.f10, vu32 x1.f11, vi64 x1.f12, vi64 x1.f13.f0, vi64 x1.f13.f1, vu64 x1.f13.f2, vi64 x1.f13.f3, vi64 x1.f14.f0, vu64 x1.f14.f1, .slice p2 x1.f14.f2.length c3, .bool x1.f14.f3, vi64 x1.f14.f4, .slice p5 x1.f15.length c6, .slice p8 x1.f16.length c9, .slice p11 x1.f17.length c12] 48, F] ih) := ⟨_, fun _ _ => Iff.rfl⟩
  refine c_regJ J50 ?_ ?_
  · refine s_load hs (hw.at_ 0 rfl) 0 (by kernel_rfl) (by kernel_rfl) (v := .bool (x1.f0 == 17)) (by kernel_rfl) fun a hs => ?_
    refine pures hs 1 [1, 3, 8] [(1, (pt b39 0)), (3, (pt b43 0)), (8, .bool (x1.f0 == 17))] (by kernel_rfl) fun a hs => ?_
    rcases boolE (x1.f0 == 17) with h51 | h51
    · replace hs := hs.altB 8 true (by kernel_rfl) h51
      refine pures hs 1 [1, 3, 8, 9] [(1, (pt b39 0)), (3, (pt b43 0)), (8, .bool true), (9, (pt b39 23))] (by kernel_rfl) fun a hs => ?_
      refine s_load hs (hw.at_ 1 rfl) 23 (by kernel_rfl) (by kernel_rfl) (v := .slice p8 x1.f16.length c9) (by kernel_rfl) fun a hs => ?_
      refine pures hs 4 [1, 3, 14] [(1, (pt b39 0)), (3, (pt b43 0)), (14, .bool ((x1.f16.length : Int) != 1))] (by kernel_rfl) fun a hs => ?_
      rcases boolE ((x1.f16.length : Int) != 1) with h52 | h52
      · replace hs := hs.altB 14 true (by kernel_rfl) h52
        refine pures hs 5 [1, 3, 19] [(1, (pt b39 0)), (3, (pt b43 0)), (19, .bool true)] (by kernel_rfl) fun a hs => ?_
        refine s_end ?_
        exact (hJ50 _ _).2 ⟨(hs.altB (b := true) 19 (bif (x1.f0 == 17) then (((x1.f16.length : Int) != 1) || (decide ((x1.f16.length : Int) > 4))) else (decide ((x1.f16.length : Int) > 4))) (by kernel_rfl) (by rw [h51, h52] <;> rfl)).cast [1, 3, 19] (by kernel_rfl), hw.pick [0, 1, 2] (by kernel_rfl)⟩
      replace hs := hs.altB 14 false (by kernel_rfl) h52
      refine pures hs 1 [1, 3, 14, 15] [(1, (pt b39 0)), (3, (pt b43 0)), (14, .bool false), (15, (pt b39 23))] (by kernel_rfl) fun a hs => ?_
      refine s_load hs (hw.at_ 1 rfl) 23 (by kernel_rfl) (by kernel_rfl) (v := .slice p8 x1.f16.length c9) (by kernel_rfl) fun a hs => ?_
      refine pures hs 3 [1, 3, 19] [(1, (pt b39 0)), (3, (pt b43 0)), (19, .bool (decide ((x1.f16.length : Int) > 4)))] (by kernel_rfl) fun a hs => ?_
      refine s_end ?_
      exact (hJ50 _ _).2 ⟨(hs.altB (b := (decide ((x1.f16.length : Int) > 4))) 19 (bif (x1.f0 == 17) then (((x1.f16.length : Int) != 1) || (decide ((x1.f16.length : Int) > 4))) else (decide ((x1.f16.length : Int) > 4))) (by kernel_rfl) (by rw [h51, h52] <;> rfl)).cast [1, 3, 19] (by kernel_rfl), hw.pick [0, 1, 2] (by kernel_rfl)⟩
    replace hs := hs.altB 8 false (by kernel_rfl) h51
    refine pures hs 7 [1, 3, 14, 15] [(1, (pt b39 0)), (3, (pt b43 0)), (14, .bool false), (15, (pt b39 23))] (by kernel_rfl) fun a hs => ?_
    refine s_load hs (hw.at_ 1 rfl) 23 (by kernel_rfl) (by kernel_rfl) (v := .slice p8 x1.f16.length c9) (by kernel_rfl) fun a hs => ?_
    refine pures hs 3 [1, 3, 19] [(1, (pt b39 0)), (3, (pt b43 0)), (19, .bool (decide ((x1.f16.length : Int) > 4)))] (by kernel_rfl) fun a hs => ?_
    refine s_end ?_
    exact (hJ50 _ _).2 ⟨(hs.altB (b := (decide ((x1.f16.length : Int) > 4))) 19 (bif (x1.f0 == 17) then (((x1.f16.length : Int) != 1) || (decide ((x1.f16.length : Int) > 4))) else (decide ((x1.f16.length : Int) > 4))) (by kernel_rfl) (by rw [h51] <;> rfl)).cast [1, 3, 19] (by kernel_rfl), hw.pick [0, 1, 2] (by kernel_rfl)⟩
  intro a w hh
  obtain ⟨hs, hw⟩ := (hJ50 _ _).1 hh
  rcases ifbE hk with ⟨h53, hk⟩ | ⟨h53, hk⟩
  · refine c_cond1 hs (by kernel_rfl) (t := (bif (x1.f0 == 17) then (((x1.f16.length : Int) != 1) || (decide ((x1.f16.length : Int) > 4))) else (decide ((x1.f16.length : Int) > 4)))) (by kernel_rfl) h53 ?_
    refine c_seq ?_
    refine c_region ?_
    refine pures hs 1 [2] [(2, .bool false)] (by kernel_rfl) fun a hs => ?_
    refine s_end ?_
    refine c_ret ?_
    obtain rfl := someE hk
    refine hQ _ _ (f_ret1 hs rfl (v := .bool false) (by kernel_rfl) ⟨rfl, hw.pick [2] (by kernel_rfl)⟩)
  refine c_cond0 hs (by kernel_rfl) (t := (bif (x1.f0 == 17) then (((x1.f16.length : Int) != 1) || (decide ((x1.f16.length : Int) > 4))) else (decide ((x1.f16.length : Int) > 4)))) (by kernel_rfl) h53 ?_
  refine c_skip ?_
  refine c_seq ?_
  refine c_region ?_
  refine pures hs 1 [3, 20] [(3, (pt b43 0)), (20, (pt b39 23))] (by kernel_rfl) fun a hs => ?_
  refine s_load hs (hw.at_ 1 rfl) 23 (by kernel_rfl) (by kernel_rfl) (v := .slice p8 x1.f16.length c9) (by kernel_rfl) fun a hs => ?_
  refine pures hs 1 [21, 22] [(21, .slice p8 x1.f16.length c9), (22, .func (.func 200) #[] #[(pt b43 0)])] (by kernel_rfl) fun a hs => ?_
  obtain ⟨y56, h57, hk⟩ := bindE hk
  refine s_call hs (by kernel_rfl) (by kernel_rfl) (slices_ContainsFunc_api_Update_api_Update_s h57 h10 (nilSub _) ((hw.pick [0, 2] (by kernel_rfl)).pack 1)) fun a w v hv hs => ?_
  obtain ⟨rfl, hw⟩ := hv
  replace hw := hw.unpack 1 rfl
  refine pures hs 2 [2] [(2, .bool (!y56))] (by kernel_rfl) fun a hs => ?_
  refine s_end ?_
  refine c_ret ?_
  obtain rfl := someE hk
  refine hQ _ _ (f_ret1 hs rfl (v := .bool (!y56)) (by kernel_rfl) ⟨rfl, hw.pick [1] (by kernel_rfl)⟩)
def letter_room (x1 : M48) : Option Int :=
  if (x1.f0 == 14) = true then some 1024
  else some 2048
theorem letter_room_s {x1 : M48} {p2 : Option Addr} {c3 : Nat} {p5 : Option Addr} {c6 : Nat} {p8 : Option Addr} {c9 : Nat} {p11 : Option Addr} {c12 : Nat} {r : Int} (hk : letter_room x1 = some r) {g w : World} {F : Ch} {ih : IH} (h4 : RSl e3 ih [] p2 c3 x1.f14.f2) (h7 : RSl e156 ih [] p5 c6 x1.f15) (h10 : RSl e96 ih [] p8 c9 x1.f16) (h13 : RSl e5 ih [] p11 c12 x1.f17) (hw : St g w [F] ih) :
    CallsR Tryz.prog 181 #[.agg #[vi64 x1.f0, vi64 x1.f1, vi64 x1.f2, vi64 x1.f3, vu64 x1.f4, vu64 x1.f5, vu64 x1.f6, vu64 x1.f7, vu64 x1.f8, vu64 x1.f9, vi64 x1.f10, vu32 x1.f11, vi64 x1.f12, vi64 x1.f13.f0, vi64 x1.f13.f1, vu64 x1.f13.f2, vi64 x1.f13.f3, vi64 x1.f14.f0, vu64 x1.f14.f1, .slice p2 x1.f14.f2.length c3, .bool x1.f14.f3, vi64 x1.f14.f4, .slice p5 x1.f15.length c6, .slice p8 x1.f16.length c9, .slice p11 x1.f17.length c12]] w fun v w' => v = vi64 r ∧ St g w' [F] ih := by
  refine f_in (vs := [.agg #[vi64 x1.f0, vi64 x1.f1, vi64 x1.f2, vi64 x1.f3, vu64 x1.f4, vu64 x1.f5, vu64 x1.f6, vu64 x1.f7, vu64 x1.f8, vu64 x1.f9, vi64 x1.f10, vu32 x1.f11, vi64 x1.f12, vi64 x1.f13.f0, vi64 x1.f13.f1, vu64 x1.f13.f2, vi64 x1.f13.f3, vi64 x1.f14.f0, vu64 x1.f14.f1, .slice p2 x1.f14.f2.length c3, .bool x1.f14.f3, vi64 x1.f14.f4, .slice p5 x1.f15.length c6, .slice p8 x1.f16.length c9, .slice p11 x1.f17.length c12]]) Tryz.func181 rfl 6 rfl (by kernel_rfl) [(0, .agg #[vi64 x1.f0, vi64 x1.f1, vi64 x1.f2, vi64 x1.f3, vu64 x1.f4, vu64 x1.f5, vu64 x1.f6, vu64 x1.f7, vu64 x1.f8, vu64 x1.f9, vi64 x1.f10, vu32 x1.f11, vi64 x1.f12, vi64 x1.f13.f0, vi64 x1.f13.f1, vu64 x1.f13.f2, vi64 x1.f13.f3, vi64 x1.f14.f0, vu64 x1.f14.f1, .slice p2 x1.f14.f2.length c3, .bool x1.f14.f3, vi64 x1.f14.f4, .slice p5 x1.f15.length c6, .slice p8 x1.f16.length c9, .slice p11 x1.f17.length c12])] (by kernel_rfl) fun a Qf hQ hQn hs => ?_
  refine c_seq ?_
  refine c_region ?_
  refine s_new hs hw [vi64 x1.f0, vi64 x1.f1, vi64 x1.f2, vi64 x1.f3, vu64 x1.f4, vu64 x1.f5, vu64 x1.f6, vu64 x1.f7, vu64 x1.f8, vu64 x1.f9, vi64 x1.f10, vu32 x1.f11, vi64 x1.f12, vi64 x1.f13.f0, vi64 x1.f13.f1, vu64 x1.f13.f2, vi64 x1.f13.f3, vi64 x1.f14.f0, vu64 x1.f14.f1, .slice p2 x1.f14.f2.length c3, .bool x1.f14.f3, vi64 x1.f14.f4, .slice p5 x1.f15.length c6, .slice p8 x1.f16.length c9, .slice p11 x1.f17.length c12] 48 (fun b => (pt b 0)) (by kernel_rfl) (fun _ => by kernel_rfl) fun a w b23 hs hw => ?_
  refine pures hs 1 [1] [(1, (pt b23 0))] (by kernel_rfl) fun a hs => ?_
  refine s_end ?_
  refine c_seq ?_
  refine c_seq ?_
  refine c_region ?_
  refine pures hs 1 [3] [(3, (pt b23 0))] (by kernel_rfl) fun a hs => ?_
  refine s_load hs (hw.at_ 0 rfl) 0 (by kernel_rfl) (by kernel_rfl) (v := vi64 x1.f0) (by kernel_rfl) fun a hs => ?_
  refine pures hs 1 [5] [(5, .bool (x1.f0 == 14))] (by kernel_rfl) fun a hs => ?_
  refine s_end ?_
  rcases ifbE hk with ⟨h25, hk⟩ | ⟨h25, hk⟩
  · refine c_cond1 hs (by kernel_rfl) (t := (x1.f0 == 14)) (by kernel_rfl) h25 ?_
    refine c_seq ?_
    refine c_region ?_
    refine pures hs 1 [2] [(2, vi64 1024)] (by kernel_rfl) fun a hs => ?_
    refine s_end ?_
    refine c_ret ?_
    obtain rfl := someE hk
    refine hQ _ _ (f_ret1 hs rfl (v := vi64 1024) (by kernel_rfl) ⟨rfl, hw.pick [1] (by kernel_rfl)⟩)
  refine c_cond0 hs (by kernel_rfl) (t := (x1.f0 == 14)) (by kernel_rfl) h25 ?_
  refine c_skip ?_
  refine c_seq ?_
  refine c_region ?_
  refine pures hs 1 [2] [(2, vi64 2048)] (by kernel_rfl) fun a hs => ?_
  refine s_end ?_
  refine c_ret ?_
  obtain rfl := someE hk
  refine hQ _ _ (f_ret1 hs rfl (v := vi64 2048) (by kernel_rfl) ⟨rfl, hw.pick [1] (by kernel_rfl)⟩)
def letter_other_11_r2 (x41 : Bool) : Option Bool :=
  some x41
def letter_other_11 (x1 : M48) : Option Bool :=
  ((letter_room x1).bind fun y45 =>
    some (decide ((x1.f17.length : Int) ≤ y45)) : Option Bool).bind fun s47 => letter_other_11_r2 s47
theorem letter_other_11_s {x1 : M48} {p2 : Option Addr} {c3 : Nat} {p5 : Option Addr} {c6 : Nat} {p8 : Option Addr} {c9 : Nat} {p11 : Option Addr} {c12 : Nat} {r : Bool} (hk : letter_other_11 x1 = some r) {g w : World} {F : Ch} {ih : IH} (h4 : RSl e3 ih [] p2 c3 x1.f14.f2) (h7 : RSl e156 ih [] p5 c6 x1.f15) (h10 : RSl e96 ih [] p8 c9 x1.f16) (h13 : RSl e5 ih [] p11 c12 x1.f17) (hw : St g w [F] ih) :
    CallsR Tryz.prog 180 #[.agg #[vi64 x1.f0, vi64 x1.f1, vi64 x1.f2, vi64 x1.f3, vu64 x1.f4, vu64 x1.f5, vu64 x1.f6, vu64 x1.f7, vu64 x1.f8, vu64 x1.f9, vi64 x1.f10, vu32 x1.f11, vi64 x1.f12, vi64 x1.f13.f0, vi64 x1.f13.f1, vu64 x1.f13.f2, vi64 x1.f13.f3, vi64 x1.f14.f0, vu64 x1.f14.f1, .slice p2 x1.f14.f2.length c3, .bool x1.f14.f3, vi64 x1.f14.f4, .slice p5 x1.f15.length c6, .slice p8 x1.f16.length c9, .slice p11 x1.f17.length c12]] w fun v w' => v = .bool r ∧ St g w' [F] ih := by
  refine f_in (vs := [.agg #[vi64 x1.f0, vi64 x1.f1, vi64 x1.f2, vi64 x1.f3, vu64 x1.f4, vu64 x1.f5, vu64 x1.f6, vu64 x1.f7, vu64 x1.f8, vu64 x1.f9, vi64 x1.f10, vu32 x1.f11, vi64 x1.f12, vi64 x1.f13.f0, vi64 x1.f13.f1, vu64 x1.f13.f2, vi64 x1.f13.f3, vi64 x1.f14.f0, vu64 x1.f14.f1, .slice p2 x1.f14.f2.length c3, .bool x1.f14.f3, vi64 x1.f14.f4, .slice p5 x1.f15.length c6, .slice p8 x1.f16.length c9, .slice p11 x1.f17.length c12]]) Tryz.func180 rfl 9 rfl (by kernel_rfl) [(0, .agg #[vi64 x1.f0, vi64 x1.f1, vi64 x1.f2, vi64 x1.f3, vu64 x1.f4, vu64 x1.f5, vu64 x1.f6, vu64 x1.f7, vu64 x1.f8, vu64 x1.f9, vi64 x1.f10, vu32 x1.f11, vi64 x1.f12, vi64 x1.f13.f0, vi64 x1.f13.f1, vu64 x1.f13.f2, vi64 x1.f13.f3, vi64 x1.f14.f0, vu64 x1.f14.f1, .slice p2 x1.f14.f2.length c3, .bool x1.f14.f3, vi64 x1.f14.f4, .slice p5 x1.f15.length c6, .slice p8 x1.f16.length c9, .slice p11 x1.f17.length c12])] (by kernel_rfl) fun a Qf hQ hQn hs => ?_
  refine c_seq ?_
  refine c_region ?_
  refine s_new hs hw [vi64 x1.f0, vi64 x1.f1, vi64 x1.f2, vi64 x1.f3, vu64 x1.f4, vu64 x1.f5, vu64 x1.f6, vu64 x1.f7, vu64 x1.f8, vu64 x1.f9, vi64 x1.f10, vu32 x1.f11, vi64 x1.f12, vi64 x1.f13.f0, vi64 x1.f13.f1, vu64 x1.f13.f2, vi64 x1.f13.f3, vi64 x1.f14.f0, vu64 x1.f14.f1, .slice p2 x1.f14.f2.length c3, .bool x1.f14.f3, vi64 x1.f14.f4, .slice p5 x1.f15.length c6, .slice p8 x1.f16.length c9, .slice p11 x1.f17.length c12] 48 (fun b => (pt b 0)) (by kernel_rfl) (fun _ => by kernel_rfl) fun a w b34 hs hw => ?_
  refine pures hs 1 [1] [(1, (pt b34 0))] (by kernel_rfl) fun a hs => ?_
  refine s_end ?_
  refine c_seq ?_
  obtain ⟨S36, hS36, kS36⟩ := mkSX (X := [([], bx b34 [vi64 x1.f0, vi64 x1.f1, vi64 x1.f2, vi64 x1.f3, vu64 x1.f4, vu64 x1.f5, vu64 x1.f6, vu64 x1.f7, vu64 x1.f8, vu64 x1.f9, vi64 x1.f10, vu32 x1.f11, vi64 x1.f12, vi64 x1.f13.f0, vi64 x1.f13.f1, vu64 x1.f13.f2, vi64 x1.f13.f3, vi64 x1.f14.f0, vu64 x1.f14.f1, .slice p2 x1.f14.f2.length c3, .bool x1.f14.f3, vi64 x1.f14.f4, .slice p5 x1.f15.length c6, .slice p8 x1.f16.length c9, .slice p11 x1.f17.length c12] 48), ([], F)]) (ih := ih) (K := []) rfl
  obtain ⟨y42, hx43, hk⟩ := bindE hk
  obtain ⟨J44, hJ44⟩ : ∃ J : Act → World → Prop, ∀ a w, J a w ↔ (∃ (x41 : Bool), letter_other_11_r2 x41 = some r ∧ Sees a 9 [(2, .bool x41)] ∧ St g w [F] ih) := ⟨_, fun _ _ => Iff.rfl⟩
  refine c_draw (by kernel_rfl) (N := 7) rfl S36 J44 ?_ ?_
  · have hw := hw.drew
    have hS : S36 (Array.replicate 7 false) _ := SX_now hS36 (hw.vws [0, 1]) (by kernel_rfl)
    refine d_pures (fuel := 6) kS36 hs hS [0] [1, 3] [(1, (pt b34 0)), (3, (pt b34 24))] (by kernel_rfl) fun a hs hS => ?_
    refine d_load (fuel := 5) kS36 hs hS 1 rfl (by kernel_rfl) (SX_box hS36 0 rfl (by kernel_rfl)) 24 (by kernel_rfl) (by kernel_rfl) (v := .slice p11 x1.f17.length c12) (by kernel_rfl) fun a hs hS => ?_
    refine d_pures (fuel := 4) kS36 hs hS [2] [1, 5] [(1, (pt b34 0)), (5, vi64 (x1.f17.length : Int))] (by kernel_rfl) fun a hs hS => ?_
    refine d_load (fuel := 3) kS36 hs hS 3 rfl (by kernel_rfl) (SX_box hS36 0 rfl (by kernel_rfl)) 0 (by kernel_rfl) (by kernel_rfl) (v := .agg #[vi64 x1.f0, vi64 x1.f1, vi64 x1.f2, vi64 x1.f3, vu64 x1.f4, vu64 x1.f5, vu64 x1.f6, vu64 x1.f7, vu64 x1.f8, vu64 x1.f9, vi64 x1.f10, vu32 x1.f11, vi64 x1.f12, vi64 x1.f13.f0, vi64 x1.f13.f1, vu64 x1.f13.f2, vi64 x1.f13.f3, vi64 x1.f14.f0, vu64 x1.f14.f1, .slice p2 x1.f14.f2.length c3, .bool x1.f14.f3, vi64 x1.f14.f4, .slice p5 x1.f15.length c6, .slice p8 x1.f16.length c9, .slice p11 x1.f17.length c12]) (by kernel_rfl) fun a hs hS => ?_
    refine d_all (fuel := 2) (rs := [4]) (by kernel_rfl) (by simp) (all1 ?_)
    obtain ⟨y45, h46, hx43⟩ := bindE hx43
    refine o_call hs rfl (by kernel_rfl) (by kernel_rfl) (letter_room_s h46 h4 h7 h10 h13 ((hw.pick [0, 1] (by kernel_rfl)).pack 0)) fun a w v hv hs => ?_
    obtain ⟨rfl, hw⟩ := hv
    replace hw := hw.unpack 0 rfl
    refine dg_next (SX_now hS36 ((hw.vws [0, 1]).anti (Le.refl _)) (by kernel_rfl)) fun hS => ?_
    refine d_pures (fuel := 0) kS36 hs hS [5, 6] [2] [(2, .bool (decide ((x1.f17.length : Int) ≤ y45)))] (by kernel_rfl) fun a hs hS => ?_
    refine d_done (by kernel_rfl) ?_
    obtain rfl := someE hx43
    exact (hJ44 _ _).2 ⟨(decide ((x1.f17.length : Int) ≤ y45)), hk, hs.cast [2] (by kernel_rfl), hw.pick [1] (by kernel_rfl)⟩
  intro a w hh
  obtain ⟨x41, hk, hs, hw⟩ := (hJ44 _ _).1 hh
  refine c_ret ?_
  obtain rfl := someE hk
  refine hQ _ _ (f_ret1 hs rfl (v := .bool x41) (by kernel_rfl) ⟨rfl, hw.pick [0] (by kernel_rfl)⟩)
def letter_of_1 (x1 : M48) : Option Bool :=
  some ((decide (x1.f3 ≥ 0)) && (decide (x1.f3 < 4)))
theorem letter_of_1_s {x1 : M48} {p2 : Option Addr} {c3 : Nat} {p5 : Option Addr} {c6 : Nat} {p8 : Option Addr} {c9 : Nat} {p11 : Option Addr} {c12 : Nat} {r : Bool} (hk : letter_of_1 x1 = some r) {g w : World} {F : Ch} {ih : IH} (h4 : RSl e3 ih [] p2 c3 x1.f14.f2) (h7 : RSl e156 ih [] p5 c6 x1.f15) (h10 : RSl e96 ih [] p8 c9 x1.f16) (h13 : RSl e5 ih [] p11 c12 x1.f17) (hw : St g w [F] ih) :
    CallsR Tryz.prog 130 #[.agg #[vi64 x1.f0, vi64 x1.f1, vi64 x1.f2, vi64 x1.f3, vu64 x1.f4, vu64 x1.f5, vu64 x1.f6, vu64 x1.f7, vu64 x1.f8, vu64 x1.f9, vi64 x1.f10, vu32 x1.f11, vi64 x1.f12, vi64 x1.f13.f0, vi64 x1.f13.f1, vu64 x1.f13.f2, vi64 x1.f13.f3, vi64 x1.f14.f0, vu64 x1.f14.f1, .slice p2 x1.f14.f2.length c3, .bool x1.f14.f3, vi64 x1.f14.f4, .slice p5 x1.f15.length c6, .slice p8 x1.f16.length c9, .slice p11 x1.f17.length c12]] w fun v w' => v = .bool r ∧ St g w' [F] ih := by
  refine f_in (vs := [.agg #[vi64 x1.f0, vi64 x1.f1, vi64 x1.f2, vi64 x1.f3, vu64 x1.f4, vu64 x1.f5, vu64 x1.f6, vu64 x1.f7, vu64 x1.f8, vu64 x1.f9, vi64 x1.f10, vu32 x1.f11, vi64 x1.f12, vi64 x1.f13.f0, vi64 x1.f13.f1, vu64 x1.f13.f2, vi64 x1.f13.f3, vi64 x1.f14.f0, vu64 x1.f14.f1, .slice p2 x1.f14.f2.length c3, .bool x1.f14.f3, vi64 x1.f14.f4, .slice p5 x1.f15.length c6, .slice p8 x1.f16.length c9, .slice p11 x1.f17.length c12]]) Tryz.func130 rfl 11 rfl (by kernel_rfl) [(0, .agg #[vi64 x1.f0, vi64 x1.f1, vi64 x1.f2, vi64 x1.f3, vu64 x1.f4, vu64 x1.f5, vu64 x1.f6, vu64 x1.f7, vu64 x1.f8, vu64 x1.f9, vi64 x1.f10, vu32 x1.f11, vi64 x1.f12, vi64 x1.f13.f0, vi64 x1.f13.f1, vu64 x1.f13.f2, vi64 x1.f13.f3, vi64 x1.f14.f0, vu64 x1.f14.f1, .slice p2 x1.f14.f2.length c3, .bool x1.f14.f3, vi64 x1.f14.f4, .slice p5 x1.f15.length c6, .slice p8 x1.f16.length c9, .slice p11 x1.f17.length c12])] (by kernel_rfl) fun a Qf hQ hQn hs => ?_
  refine c_seq ?_
  refine c_region ?_
  refine s_new hs hw [vi64 x1.f0, vi64 x1.f1, vi64 x1.f2, vi64 x1.f3, vu64 x1.f4, vu64 x1.f5, vu64 x1.f6, vu64 x1.f7, vu64 x1.f8, vu64 x1.f9, vi64 x1.f10, vu32 x1.f11, vi64 x1.f12, vi64 x1.f13.f0, vi64 x1.f13.f1, vu64 x1.f13.f2, vi64 x1.f13.f3, vi64 x1.f14.f0, vu64 x1.f14.f1, .slice p2 x1.f14.f2.length c3, .bool x1.f14.f3, vi64 x1.f14.f4, .slice p5 x1.f15.length c6, .slice p8 x1.f16.length c9, .slice p11 x1.f17.length c12] 48 (fun b => (pt b 0)) (by kernel_rfl) (fun _ => by kernel_rfl) fun a w b27 hs hw => ?_
  refine pures hs 1 [1] [(1, (pt b27 0))] (by kernel_rfl) fun a hs => ?_
  refine s_end ?_
  refine c_seq ?_
  obtain ⟨J32, hJ32⟩ : ∃ J : Act → World → Prop, ∀ a w, J a w ↔ (Sees a 11 [(2, .bool ((decide (x1.f3 ≥ 0)) && (decide (x1.f3 < 4))))] ∧ St g w [F] ih) := ⟨_, fun _ _ => Iff.rfl⟩
  refine c_regJ J32 ?_ ?_
  · refine pures hs 1 [1, 3] [(1, (pt b27 0)), (3, (pt b27 3))] (by kernel_rfl) fun a hs => ?_
    refine s_load hs (hw.at_ 0 rfl) 3 (by kernel_rfl) (by kernel_rfl) (v := vi64 x1.f3) (by kernel_rfl) fun a hs => ?_
    refine pures hs 2 [1, 6] [(1, (pt b27 0)), (6, .bool (decide (x1.f3 ≥ 0)))] (by kernel_rfl) fun a hs => ?_
    rcases boolE (decide (x1.f3 ≥ 0)) with h33 | h33
    · replace hs := hs.altB 6 true (by kernel_rfl) h33
      refine pures hs 1 [6, 7] [(6, .bool true), (7, (pt b27 3))] (by kernel_rfl) fun a hs => ?_
      refine s_load hs (hw.at_ 0 rfl) 3 (by kernel_rfl) (by kernel_rfl) (v := vi64 x1.f3) (by kernel_rfl) fun a hs => ?_
      refine pures hs 3 [2] [(2, .bool (decide (x1.f3 < 4)))] (by kernel_rfl) fun a hs => ?_
      refine s_end ?_
      exact (hJ32 _ _).2 ⟨(hs.altB (b := (decide (x1.f3 < 4))) 2 ((decide (x1.f3 ≥ 0)) && (decide (x1.f3 < 4))) (by kernel_rfl) (by rw [h33] <;> rfl)).cast [2] (by kernel_rfl), hw.pick [1] (by kernel_rfl)⟩
    replace hs := hs.altB 6 false (by kernel_rfl) h33
    refine pures hs 5 [2] [(2, .bool false)] (by kernel_rfl) fun a hs => ?_
    refine s_end ?_
    exact (hJ32 _ _).2 ⟨(hs.altB (b := false) 2 ((decide (x1.f3 ≥ 0)) && (decide (x1.f3 < 4))) (by kernel_rfl) (by rw [h33] <;> rfl)).cast [2] (by kernel_rfl), hw.pick [1] (by kernel_rfl)⟩
  intro a w hh
  obtain ⟨hs, hw⟩ := (hJ32 _ _).1 hh
  refine c_ret ?_
  obtain rfl := someE hk
  refine hQ _ _ (f_ret1 hs rfl (v := .bool ((decide (x1.f3 ≥ 0)) && (decide (x1.f3 < 4)))) (by kernel_rfl) ⟨rfl, hw.pick [0] (by kernel_rfl)⟩)
def letter_of_3 (x1 : M48) : Option Bool :=
  some ((decide (x1.f10 ≥ 0)) && (decide (x1.f10 ≤ 512)))
theorem letter_of_3_s {x1 : M48} {p2 : Option Addr} {c3 : Nat} {p5 : Option Addr} {c6 : Nat} {p8 : Option Addr} {c9 : Nat} {p11 : Option Addr} {c12 : Nat} {r : Bool} (hk : letter_of_3 x1 = some r) {g w : World} {F : Ch} {ih : IH} (h4 : RSl e3 ih [] p2 c3 x1.f14.f2) (h7 : RSl e156 ih [] p5 c6 x1.f15) (h10 : RSl e96 ih [] p8 c9 x1.f16) (h13 : RSl e5 ih [] p11 c12 x1.f17) (hw : St g w [F] ih) :
    CallsR Tryz.prog 132 #[.agg #[vi64 x1.f0, vi64 x1.f1, vi64 x1.f2, vi64 x1.f3, vu64 x1.f4, vu64 x1.f5, vu64 x1.f6, vu64 x1.f7, vu64 x1.f8, vu64 x1.f9, vi64 x1.f10, vu32 x1.f11, vi64 x1.f12, vi64 x1.f13.f0, vi64 x1.f13.f1, vu64 x1.f13.f2, vi64 x1.f13.f3, vi64 x1.f14.f0, vu64 x1.f14.f1, .slice p2 x1.f14.f2.length c3, .bool x1.f14.f3, vi64 x1.f14.f4, .slice p5 x1.f15.length c6, .slice p8 x1.f16.length c9, .slice p11 x1.f17.length c12]] w fun v w' => v = .bool r ∧ St g w' [F] ih := by
  refine f_in (vs := [.agg #[vi64 x1.f0, vi64 x1.f1, vi64 x1.f2, vi64 x1.f3, vu64 x1.f4, vu64 x1.f5, vu64 x1.f6, vu64 x1.f7, vu64 x1.f8, vu64 x1.f9, vi64 x1.f10, vu32 x1.f11, vi64 x1.f12, vi64 x1.f13.f0, vi64 x1.f13.f1, vu64 x1.f13.f2, vi64 x1.f13.f3, vi64 x1.f14.f0, vu64 x1.f14.f1, .slice p2 x1.f14.f2.length c3, .bool x1.f14.f3, vi64 x1.f14.f4, .slice p5 x1.f15.length c6, .slice p8 x1.f16.length c9, .slice p11 x1.f17.length c12]]) Tryz.func132 rfl 11 rfl (by kernel_rfl) [(0, .agg #[vi64 x1.f0, vi64 x1.f1, vi64 x1.f2, vi64 x1.f3, vu64 x1.f4, vu64 x1.f5, vu64 x1.f6, vu64 x1.f7, vu64 x1.f8, vu64 x1.f9, vi64 x1.f10, vu32 x1.f11, vi64 x1.f12, vi64 x1.f13.f0, vi64 x1.f13.f1, vu64 x1.f13.f2, vi64 x1.f13.f3, vi64 x1.f14.f0, vu64 x1.f14.f1, .slice p2 x1.f14.f2.length c3, .bool x1.f14.f3, vi64 x1.f14.f4, .slice p5 x1.f15.length c6, .slice p8 x1.f16.length c9, .slice p11 x1.f17.length c12])] (by kernel_rfl) fun a Qf hQ hQn hs => ?_
  refine c_seq ?_
  refine c_region ?_
  refine s_new hs hw [vi64 x1.f0, vi64 x1.f1, vi64 x1.f2, vi64 x1.f3, vu64 x1.f4, vu64 x1.f5, vu64 x1.f6, vu64 x1.f7, vu64 x1.f8, vu64 x1.f9, vi64 x1.f10, vu32 x1.f11, vi64 x1.f12, vi64 x1.f13.f0, vi64 x1.f13.f1, vu64 x1.f13.f2, vi64 x1.f13.f3, vi64 x1.f14.f0, vu64 x1.f14.f1, .slice p2 x1.f14.f2.length c3, .bool x1.f14.f3, vi64 x1.f14.f4, .slice p5 x1.f15.length c6, .slice p8 x1.f16.length c9, .slice p11 x1.f17.length c12] 48 (fun b => (pt b 0)) (by kernel_rfl) (fun _ => by kernel_rfl) fun a w b27 hs hw => ?_
  refine pures hs 1 [1] [(1, (pt b27 0))] (by kernel_rfl) fun a hs => ?_
  refine s_end ?_
  refine c_seq ?_
  obtain ⟨J32, hJ32⟩ : ∃ J : Act → World → Prop, ∀ a w, J a w ↔ (Sees a 11 [(2, .bool ((decide (x1.f10 ≥ 0)) && (decide (x1.f10 ≤ 512))))] ∧ St g w [F] ih) := ⟨_, fun _ _ => Iff.rfl⟩
  refine c_regJ J32 ?_ ?_
  · refine pures hs 1 [1, 3] [(1, (pt b27 0)), (3, (pt b27 10))] (by kernel_rfl) fun a hs => ?_
    refine s_load hs (hw.at_ 0 rfl) 10 (by kernel_rfl) (by kernel_rfl) (v := vi64 x1.f10) (by kernel_rfl) fun a hs => ?_
    refine pures hs 2 [1, 6] [(1, (pt b27 0)), (6, .bool (decide (x1.f10 ≥ 0)))] (by kernel_rfl) fun a hs => ?_
    rcases boolE (decide (x1.f10 ≥ 0)) with h33 | h33
    · replace hs := hs.altB 6 true (by kernel_rfl) h33
      refine pures hs 1 [6, 7] [(6, .bool true), (7, (pt b27 10))] (by kernel_rfl) fun a hs => ?_
      refine s_load hs (hw.at_ 0 rfl) 10 (by kernel_rfl) (by kernel_rfl) (v := vi64 x1.f10) (by kernel_rfl) fun a hs => ?_
      refine pures hs 3 [2] [(2, .bool (decide (x1.f10 ≤ 512)))] (by kernel_rfl) fun a hs => ?_
      refine s_end ?_
      exact (hJ32 _ _).2 ⟨(hs.altB (b := (decide (x1.f10 ≤ 512))) 2 ((decide (x1.f10 ≥ 0)) && (decide (x1.f10 ≤ 512))) (by kernel_rfl) (by rw [h33] <;> rfl)).cast [2] (by kernel_rfl), hw.pick [1] (by kernel_rfl)⟩
    replace hs := hs.altB 6 false (by kernel_rfl) h33
    refine pures hs 5 [2] [(2, .bool false)] (by kernel_rfl) fun a hs => ?_
    refine s_end ?_
    exact (hJ32 _ _).2 ⟨(hs.altB (b := false) 2 ((decide (x1.f10 ≥ 0)) && (decide (x1.f10 ≤ 512))) (by kernel_rfl) (by rw [h33] <;> rfl)).cast [2] (by kernel_rfl), hw.pick [1] (by kernel_rfl)⟩
  intro a w hh
  obtain ⟨hs, hw⟩ := (hJ32 _ _).1 hh
  refine c_ret ?_
  obtain rfl := someE hk
  refine hQ _ _ (f_ret1 hs rfl (v := .bool ((decide (x1.f10 ≥ 0)) && (decide (x1.f10 ≤ 512)))) (by kernel_rfl) ⟨rfl, hw.pick [0] (by kernel_rfl)⟩)
def letter_of_5 (x1 : M48) : Option Bool :=
  some (decide (x1.f4 ≥ 1))
theorem letter_of_5_s {x1 : M48} {p2 : Option Addr} {c3 : Nat} {p5 : Option Addr} {c6 : Nat} {p8 : Option Addr} {c9 : Nat} {p11 : Option Addr} {c12 : Nat} {r : Bool} (hk : letter_of_5 x1 = some r) {g w : World} {F : Ch} {ih : IH} (h4 : RSl e3 ih [] p2 c3 x1.f14.f2) (h7 : RSl e156 ih [] p5 c6 x1.f15) (h10 : RSl e96 ih [] p8 c9 x1.f16) (h13 : RSl e5 ih [] p11 c12 x1.f17) (hw : St g w [F] ih) :
    CallsR Tryz.prog 135 #[.agg #[vi64 x1.f0, vi64 x1.f1, vi64 x1.f2, vi64 x1.f3, vu64 x1.f4, vu64 x1.f5, vu64 x1.f6, vu64 x1.f7, vu64 x1.f8, vu64 x1.f9, vi64 x1.f10, vu32 x1.f11, vi64 x1.f12, vi64 x1.f13.f0, vi64 x1.f13.f1, vu64 x1.f13.f2, vi64 x1.f13.f3, vi64 x1.f14.f0, vu64 x1.f14.f1, .slice p2 x1.f14.f2.length c3, .bool x1.f14.f3, vi64 x1.f14.f4, .slice p5 x1.f15.length c6, .slice p8 x1.f16.length c9, .slice p11 x1.f17.length c12]] w fun v w' => v = .bool r ∧ St g w' [F] ih := by
  refine f_in (vs := [.agg #[vi64 x1.f0, vi64 x1.f1, vi64 x1.f2, vi64 x1.f3, vu64 x1.f4, vu64 x1.f5, vu64 x1.f6, vu64 x1.f7, vu64 x1.f8, vu64 x1.f9, vi64 x1.f10, vu32 x1.f11, vi64 x1.f12, vi64 x1.f13.f0, vi64 x1.f13.f1, vu64 x1.f13.f2, vi64 x1.f13.f3, vi64 x1.f14.f0, vu64 x1.f14.f1, .slice p2 x1.f14.f2.length c3, .bool x1.f14.f3, vi64 x1.f14.f4, .slice p5 x1.f15.length c6, .slice p8 x1.f16.length c9, .slice p11 x1.f17.length c12]]) Tryz.func135 rfl 6 rfl (by kernel_rfl) [(0, .agg #[vi64 x1.f0, vi64 x1.f1, vi64 x1.f2, vi64 x1.f3, vu64 x1.f4, vu64 x1.f5, vu64 x1.f6, vu64 x1.f7, vu64 x1.f8, vu64 x1.f9, vi64 x1.f10, vu32 x1.f11, vi64 x1.f12, vi64 x1.f13.f0, vi64 x1.f13.f1, vu64 x1.f13.f2, vi64 x1.f13.f3, vi64 x1.f14.f0, vu64 x1.f14.f1, .slice p2 x1.f14.f2.length c3, .bool x1.f14.f3, vi64 x1.f14.f4, .slice p5 x1.f15.length c6, .slice p8 x1.f16.length c9, .slice p11 x1.f17.length c12])] (by kernel_rfl) fun a Qf hQ hQn hs => ?_
  refine c_seq ?_
  refine c_region ?_
  refine s_new hs hw [vi64 x1.f0, vi64 x1.f1, vi64 x1.f2, vi64 x1.f3, vu64 x1.f4, vu64 x1.f5, vu64 x1.f6, vu64 x1.f7, vu64 x1.f8, vu64 x1.f9, vi64 x1.f10, vu32 x1.f11, vi64 x1.f12, vi64 x1.f13.f0, vi64 x1.f13.f1, vu64 x1.f13.f2, vi64 x1.f13.f3, vi64 x1.f14.f0, vu64 x1.f14.f1, .slice p2 x1.f14.f2.length c3, .bool x1.f14.f3, vi64 x1.f14.f4, .slice p5 x1.f15.length c6, .slice p8 x1.f16.length c9, .slice p11 x1.f17.length c12] 48 (fun b => (pt b 0)) (by kernel_rfl) (fun _ => by kernel_rfl) fun a w b22 hs hw => ?_
  refine pures hs 1 [1] [(1, (pt b22 0))] (by kernel_rfl) fun a hs => ?_
  refine s_end ?_
  refine c_seq ?_
  refine c_region ?_
  refine pures hs 1 [3] [(3, (pt b22 4))] (by kernel_rfl) fun a hs => ?_
  refine s_load hs (hw.at_ 0 rfl) 4 (by kernel_rfl) (by kernel_rfl) (v := vu64 x1.f4) (by kernel_rfl) fun a hs => ?_
  refine pures hs 2 [2] [(2, .bool (decide (x1.f4 ≥ 1)))] (by kernel_rfl) fun a hs => ?_
  refine s_end ?_
  refine c_ret ?_
  obtain rfl := someE hk
  refine hQ _ _ (f_ret1 hs rfl (v := .bool (decide (x1.f4 ≥ 1))) (by kernel_rfl) ⟨rfl, hw.pick [1] (by kernel_rfl)⟩)
def letter_of_7 (x1 : M48) : Option Bool :=
  (ballot_Is x1.f5).bind fun y30 =>
  some y30
theorem letter_of_7_s {x1 : M48} {p2 : Option Addr} {c3 : Nat} {p5 : Option Addr} {c6 : Nat} {p8 : Option Addr} {c9 : Nat} {p11 : Option Addr} {c12 : Nat} {r : Bool} (hk : letter_of_7 x1 = some r) {g w : World} {F : Ch} {ih : IH} (h4 : RSl e3 ih [] p2 c3 x1.f14.f2) (h7 : RSl e156 ih [] p5 c6 x1.f15) (h10 : RSl e96 ih [] p8 c9 x1.f16) (h13 : RSl e5 ih [] p11 c12 x1.f17) (hw : St g w [F] ih) :
    CallsR Tryz.prog 137 #[.agg #[vi64 x1.f0, vi64 x1.f1, vi64 x1.f2, vi64 x1.f3, vu64 x1.f4, vu64 x1.f5, vu64 x1.f6, vu64 x1.f7, vu64 x1.f8, vu64 x1.f9, vi64 x1.f10, vu32 x1.f11, vi64 x1.f12, vi64 x1.f13.f0, vi64 x1.f13.f1, vu64 x1.f13.f2, vi64 x1.f13.f3, vi64 x1.f14.f0, vu64 x1.f14.f1, .slice p2 x1.f14.f2.length c3, .bool x1.f14.f3, vi64 x1.f14.f4, .slice p5 x1.f15.length c6, .slice p8 x1.f16.length c9, .slice p11 x1.f17.length c12]] w fun v w' => v = .bool r ∧ St g w' [F] ih := by
  refine f_in (vs := [.agg #[vi64 x1.f0, vi64 x1.f1, vi64 x1.f2, vi64 x1.f3, vu64 x1.f4, vu64 x1.f5, vu64 x1.f6, vu64 x1.f7, vu64 x1.f8, vu64 x1.f9, vi64 x1.f10, vu32 x1.f11, vi64 x1.f12, vi64 x1.f13.f0, vi64 x1.f13.f1, vu64 x1.f13.f2, vi64 x1.f13.f3, vi64 x1.f14.f0, vu64 x1.f14.f1, .slice p2 x1.f14.f2.length c3, .bool x1.f14.f3, vi64 x1.f14.f4, .slice p5 x1.f15.length c6, .slice p8 x1.f16.length c9, .slice p11 x1.f17.length c12]]) Tryz.func137 rfl 6 rfl (by kernel_rfl) [(0, .agg #[vi64 x1.f0, vi64 x1.f1, vi64 x1.f2, vi64 x1.f3, vu64 x1.f4, vu64 x1.f5, vu64 x1.f6, vu64 x1.f7, vu64 x1.f8, vu64 x1.f9, vi64 x1.f10, vu32 x1.f11, vi64 x1.f12, vi64 x1.f13.f0, vi64 x1.f13.f1, vu64 x1.f13.f2, vi64 x1.f13.f3, vi64 x1.f14.f0, vu64 x1.f14.f1, .slice p2 x1.f14.f2.length c3, .bool x1.f14.f3, vi64 x1.f14.f4, .slice p5 x1.f15.length c6, .slice p8 x1.f16.length c9, .slice p11 x1.f17.length c12])] (by kernel_rfl) fun a Qf hQ hQn hs => ?_
  refine c_seq ?_
  refine c_region ?_
  refine s_new hs hw [vi64 x1.f0, vi64 x1.f1, vi64 x1.f2, vi64 x1.f3, vu64 x1.f4, vu64 x1.f5, vu64 x1.f6, vu64 x1.f7, vu64 x1.f8, vu64 x1.f9, vi64 x1.f10, vu32 x1.f11, vi64 x1.f12, vi64 x1.f13.f0, vi64 x1.f13.f1, vu64 x1.f13.f2, vi64 x1.f13.f3, vi64 x1.f14.f0, vu64 x1.f14.f1, .slice p2 x1.f14.f2.length c3, .bool x1.f14.f3, vi64 x1.f14.f4, .slice p5 x1.f15.length c6, .slice p8 x1.f16.length c9, .slice p11 x1.f17.length c12] 48 (fun b => (pt b 0)) (by kernel_rfl) (fun _ => by kernel_rfl) fun a w b26 hs hw => ?_
  refine pures hs 1 [1] [(1, (pt b26 0))] (by kernel_rfl) fun a hs => ?_
  refine s_end ?_
  refine c_seq ?_
  refine c_region ?_
  refine pures hs 1 [3] [(3, (pt b26 5))] (by kernel_rfl) fun a hs => ?_
  refine s_load hs (hw.at_ 0 rfl) 5 (by kernel_rfl) (by kernel_rfl) (v := vu64 x1.f5) (by kernel_rfl) fun a hs => ?_
  obtain ⟨y30, h31, hk⟩ := bindE hk
  refine s_call hs (by kernel_rfl) (by kernel_rfl) (ballot_Is_s h31 ((hw.pick [1] (by kernel_rfl)).pack 0)) fun a w v hv hs => ?_
  obtain ⟨rfl, hw⟩ := hv
  replace hw := hw.unpack 0 rfl
  refine pures hs 1 [2] [(2, .bool y30)] (by kernel_rfl) fun a hs => ?_
  refine s_end ?_
  refine c_ret ?_
  obtain rfl := someE hk
  refine hQ _ _ (f_ret1 hs rfl (v := .bool y30) (by kernel_rfl) ⟨rfl, hw.pick [0] (by kernel_rfl)⟩)
def letter_Check_r13 : Option Int :=
  some 0
def letter_Check_r15 (rec_letter_Check_l14 : Int → Option (Sum Int Unit)) (x2230 : Int) (x2662 : Bool) : Option (Sum Int Unit) :=
  if x2662 = true then some (.inl 4)
  else rec_letter_Check_l14 (IntKind.i64.wrap (x2230 + 1))
def letter_Check_l14 (k : Nat) (y1458 : (List Nat)) (x1 : M48) : Nat → Int → Option (Sum Int Unit)
  | 0, _ => none
  | j + 1, x2230 =>
    if (decide (x2230 < (y1458.length : Int))) = true then (
      (ix y1458 x2230).bind fun x2501 =>
      ((match x2501 with
          | 0 => (
              (letter_other_1 x1).bind fun y2668 =>
              some (!y2668))
          | 1 => some false
          | 2 => (
              (letter_other_6 x1).bind fun y2674 =>
              some (!y2674))
          | 3 => (
              (letter_other_8 k x1).bind fun y2677 =>
              some (!y2677))
          | 4 => (
              (letter_other_10 k x1).bind fun y2680 =>
              some (!y2680))
          | 5 => (
              (letter_updates k x1).bind fun y2683 =>
              some (!y2683))
          | 6 => (
              (letter_other_11 x1).bind fun y2686 =>
              some (!y2686))
          | 7 => (
              (letter_of_1 x1).bind fun y2695 =>
              some (!y2695))
          | 8 => (
              (letter_of_3 x1).bind fun y2704 =>
              some (!y2704))
          | 9 => (
              (letter_of_5 x1).bind fun y2710 =>
              some (!y2710))
          | 10 => (
              (letter_of_7 x1).bind fun y2716 =>
              some (!y2716))
          | 11 => some false
          | 12 => some false
          | 13 => some false
          | 14 => some false
          | _ => none) : Option Bool).bind fun s2742 => letter_Check_r15 (letter_Check_l14 k y1458 x1 j) x2230 s2742)
    else some (.inr ())
def letter_Check_r16 (k : Nat) (x1 : M48) (x1447 : Bool) : Option Int :=
  if x1447 = true then some 4
  else (letter_parts x1.f0).bind fun y1458 =>
  (letter_Check_l14 k y1458 x1 k 0 : Option (Sum Int Unit)).bind fun
    | .inl z => some z
    | .inr _ => letter_Check_r13
def letter_Check (k : Nat) (x1 : M48) : Option Int :=
  (letter_known x1.f0).bind fun y1399 =>
  if (!y1399) = true then some 1
  else ((letter_Address x1.f1).bind fun y2747 =>
    if (!y2747) = true then some true
    else (letter_Address x1.f2).bind fun y2750 =>
    if (!y2750) = true then some true
    else (letter_bare x1).bind fun y2753 =>
    (letter_Same k x1 y2753).bind fun y2767 =>
    some (!y2767) : Option Bool).bind fun s2769 => letter_Check_r16 k x1 s2769
theorem letter_Check_s {k : Nat} {x1 : M48} {p2 : Option Addr} {c3 : Nat} {p5 : Option Addr} {c6 : Nat} {p8 : Option Addr} {c9 : Nat} {p11 : Option Addr} {c12 : Nat} {r : Int} (hk : letter_Check k x1 = some r) {g w : World} {F : Ch} {ih : IH} (h4 : RSl e3 ih [] p2 c3 x1.f14.f2) (h7 : RSl e156 ih [] p5 c6 x1.f15) (h10 : RSl e96 ih [] p8 c9 x1.f16) (h13 : RSl e5 ih [] p11 c12 x1.f17) (hG : Glob 0 gl0 162 ih) (hw : St g w [F] ih) :
    CallsR Tryz.prog 33 #[.agg #[vi64 x1.f0, vi64 x1.f1, vi64 x1.f2, vi64 x1.f3, vu64 x1.f4, vu64 x1.f5, vu64 x1.f6, vu64 x1.f7, vu64 x1.f8, vu64 x1.f9, vi64 x1.f10, vu32 x1.f11, vi64 x1.f12, vi64 x1.f13.f0, vi64 x1.f13.f1, vu64 x1.f13.f2, vi64 x1.f13.f3, vi64 x1.f14.f0, vu64 x1.f14.f1, .slice p2 x1.f14.f2.length c3, .bool x1.f14.f3, vi64 x1.f14.f4, .slice p5 x1.f15.length c6, .slice p8 x1.f16.length c9, .slice p11 x1.f17.length c12]] w fun v w' => ∃ (ih' : IH), v = vi64 r ∧ St g w' [F] ih' ∧ Le ih ih' := by
  refine f_in (vs := [.agg #[vi64 x1.f0, vi64 x1.f1, vi64 x1.f2, vi64 x1.f3, vu64 x1.f4, vu64 x1.f5, vu64 x1.f6, vu64 x1.f7, vu64 x1.f8, vu64 x1.f9, vi64 x1.f10, vu32 x1.f11, vi64 x1.f12, vi64 x1.f13.f0, vi64 x1.f13.f1, vu64 x1.f13.f2, vi64 x1.f13.f3, vi64 x1.f14.f0, vu64 x1.f14.f1, .slice p2 x1.f14.f2.length c3, .bool x1.f14.f3, vi64 x1.f14.f4, .slice p5 x1.f15.length c6, .slice p8 x1.f16.length c9, .slice p11 x1.f17.length c12]]) Tryz.func33 rfl 40 rfl (by kernel_rfl) [(0, .agg #[vi64 x1.f0, vi64 x1.f1, vi64 x1.f2, vi64 x1.f3, vu64 x1.f4, vu64 x1.f5, vu64 x1.f6, vu64 x1.f7, vu64 x1.f8, vu64 x1.f9, vi64 x1.f10, vu32 x1.f11, vi64 x1.f12, vi64 x1.f13.f0, vi64 x1.f13.f1, vu64 x1.f13.f2, vi64 x1.f13.f3, vi64 x1.f14.f0, vu64 x1.f14.f1, .slice p2 x1.f14.f2.length c3, .bool x1.f14.f3, vi64 x1.f14.f4, .slice p5 x1.f15.length c6, .slice p8 x1.f16.length c9, .slice p11 x1.f17.length c12])] (by kernel_rfl) fun a Qf hQ hQn hs => ?_
  refine c_seq ?_
  refine c_region ?_
  refine s_new hs hw [vi64 x1.f0, vi64 x1.f1, vi64 x1.f2, vi64 x1.f3, vu64 x1.f4, vu64 x1.f5, vu64 x1.f6, vu64 x1.f7, vu64 x1.f8, vu64 x1.f9, vi64 x1.f10, vu32 x1.f11, vi64 x1.f12, vi64 x1.f13.f0, vi64 x1.f13.f1, vu64 x1.f13.f2, vi64 x1.f13.f3, vi64 x1.f14.f0, vu64 x1.f14.f1, .slice p2 x1.f14.f2.length c3, .bool x1.f14.f3, vi64 x1.f14.f4, .slice p5 x1.f15.length c6, .slice p8 x1.f16.length c9, .slice p11 x1.f17.length c12] 48 (fun b => (pt b 0)) (by kernel_rfl) (fun _ => by kernel_rfl) fun a w b1395 hs hw => ?_
  refine pures hs 1 [1] [(1, (pt b1395 0))] (by kernel_rfl) fun a hs => ?_
  refine s_end ?_
  refine c_seq ?_
  refine c_seq ?_
  refine c_region ?_
  refine pures hs 1 [1, 5] [(1, (pt b1395 0)), (5, (pt b1395 0))] (by kernel_rfl) fun a hs => ?_
  refine s_load hs (hw.at_ 0 rfl) 0 (by kernel_rfl) (by kernel_rfl) (v := vi64 x1.f0) (by kernel_rfl) fun a hs => ?_
  obtain ⟨y1399, h1400, hk⟩ := bindE hk
  refine s_call hs (by kernel_rfl) (by kernel_rfl) (letter_known_s h1400 ((hw.pick [0, 1] (by kernel_rfl)).pack 0)) fun a w v hv hs => ?_
  obtain ⟨rfl, hw⟩ := hv
  replace hw := hw.unpack 0 rfl
  refine pures hs 1 [1, 8] [(1, (pt b1395 0)), (8, .bool (!y1399))] (by kernel_rfl) fun a hs => ?_
  refine s_end ?_
  rcases ifbE hk with ⟨h1401, hk⟩ | ⟨h1401, hk⟩
  · refine c_cond1 hs (by kernel_rfl) (t := (!y1399)) (by kernel_rfl) h1401 ?_
    refine c_seq ?_
    refine c_region ?_
    refine pures hs 1 [2] [(2, vi64 1)] (by kernel_rfl) fun a hs => ?_
    refine s_end ?_
    refine c_ret ?_
    obtain rfl := someE hk
    refine hQ _ _ (f_ret1 hs rfl (v := vi64 1) (by kernel_rfl) ⟨ih, rfl, hw.pick [1] (by kernel_rfl), (Le.refl _)⟩)
  refine c_cond0 hs (by kernel_rfl) (t := (!y1399)) (by kernel_rfl) h1401 ?_
  refine c_skip ?_
  refine c_seq ?_
  refine c_seq ?_
  obtain ⟨S1402, hS1402, kS1402⟩ := mkSX (X := [([], bx b1395 [vi64 x1.f0, vi64 x1.f1, vi64 x1.f2, vi64 x1.f3, vu64 x1.f4, vu64 x1.f5, vu64 x1.f6, vu64 x1.f7, vu64 x1.f8, vu64 x1.f9, vi64 x1.f10, vu32 x1.f11, vi64 x1.f12, vi64 x1.f13.f0, vi64 x1.f13.f1, vu64 x1.f13.f2, vi64 x1.f13.f3, vi64 x1.f14.f0, vu64 x1.f14.f1, .slice p2 x1.f14.f2.length c3, .bool x1.f14.f3, vi64 x1.f14.f4, .slice p5 x1.f15.length c6, .slice p8 x1.f16.length c9, .slice p11 x1.f17.length c12] 48), ([], F)]) (ih := ih) (K := []) rfl
  obtain ⟨y2744, hx2745, hk⟩ := bindE hk
  obtain ⟨J2746, hJ2746⟩ : ∃ J : Act → World → Prop, ∀ a w, J a w ↔ (∃ (x1447 : Bool), letter_Check_r16 k x1 x1447 = some r ∧ Sees a 40 [(1, (pt b1395 0)), (25, .bool x1447)] ∧ St g w [bx b1395 [vi64 x1.f0, vi64 x1.f1, vi64 x1.f2, vi64 x1.f3, vu64 x1.f4, vu64 x1.f5, vu64 x1.f6, vu64 x1.f7, vu64 x1.f8, vu64 x1.f9, vi64 x1.f10, vu32 x1.f11, vi64 x1.f12, vi64 x1.f13.f0, vi64 x1.f13.f1, vu64 x1.f13.f2, vi64 x1.f13.f3, vi64 x1.f14.f0, vu64 x1.f14.f1, .slice p2 x1.f14.f2.length c3, .bool x1.f14.f3, vi64 x1.f14.f4, .slice p5 x1.f15.length c6, .slice p8 x1.f16.length c9, .slice p11 x1.f17.length c12] 48, F] ih) := ⟨_, fun _ _ => Iff.rfl⟩
  refine c_draw (by kernel_rfl) (N := 17) rfl S1402 J2746 ?_ ?_
  · have hw := hw.drew
    have hS : S1402 (Array.replicate 17 false) _ := SX_now hS1402 (hw.vws [0, 1]) (by kernel_rfl)
    refine d_pures (fuel := 16) kS1402 hs hS [0] [1, 9] [(1, (pt b1395 0)), (9, (pt b1395 1))] (by kernel_rfl) fun a hs hS => ?_
    refine d_load (fuel := 15) kS1402 hs hS 1 rfl (by kernel_rfl) (SX_box hS1402 0 rfl (by kernel_rfl)) 1 (by kernel_rfl) (by kernel_rfl) (v := vi64 x1.f1) (by kernel_rfl) fun a hs hS => ?_
    refine d_all (fuel := 14) (rs := [2]) (by kernel_rfl) (by simp) (all1 ?_)
    obtain ⟨y2747, h2748, hx2745⟩ := bindE hx2745
    refine o_call hs rfl (by kernel_rfl) (by kernel_rfl) (letter_Address_s h2748 ((hw.pick [0, 1] (by kernel_rfl)).pack 0)) fun a w v hv hs => ?_
    obtain ⟨rfl, hw⟩ := hv
    replace hw := hw.unpack 0 rfl
    refine dg_next (SX_now hS1402 ((hw.vws [0, 1]).anti (Le.refl _)) (by kernel_rfl)) fun hS => ?_
    refine d_pures (fuel := 12) kS1402 hs hS [3, 4] [1, 13] [(1, (pt b1395 0)), (13, .bool (!y2747))] (by kernel_rfl) fun a hs hS => ?_
    rcases ifbE hx2745 with ⟨h2749, hx2745⟩ | ⟨h2749, hx2745⟩
    · replace hs := hs.altB 13 true (by kernel_rfl) h2749
      refine d_pures (fuel := 0) kS1402 hs hS [5, 6, 7, 8, 9, 10, 11, 12, 13, 14, 15, 16] [1, 25] [(1, (pt b1395 0)), (25, .bool true)] (by kernel_rfl) fun a hs hS => ?_
      refine d_done (by kernel_rfl) ?_
      obtain rfl := someE hx2745
      exact (hJ2746 _ _).2 ⟨true, hk, hs.cast [1, 25] (by kernel_rfl), hw.pick [0, 1] (by kernel_rfl)⟩
    replace hs := hs.altB 13 false (by kernel_rfl) h2749
    refine d_pures (fuel := 11) kS1402 hs hS [5] [1, 13, 14] [(1, (pt b1395 0)), (13, .bool false), (14, (pt b1395 2))] (by kernel_rfl) fun a hs hS => ?_
    refine d_load (fuel := 10) kS1402 hs hS 6 rfl (by kernel_rfl) (SX_box hS1402 0 rfl (by kernel_rfl)) 2 (by kernel_rfl) (by kernel_rfl) (v := vi64 x1.f2) (by kernel_rfl) fun a hs hS => ?_
    refine d_all (fuel := 9) (rs := [7]) (by kernel_rfl) (by simp) (all1 ?_)
    obtain ⟨y2750, h2751, hx2745⟩ := bindE hx2745
    refine o_call hs rfl (by kernel_rfl) (by kernel_rfl) (letter_Address_s h2751 ((hw.pick [0, 1] (by kernel_rfl)).pack 0)) fun a w v hv hs => ?_
    obtain ⟨rfl, hw⟩ := hv
    replace hw := hw.unpack 0 rfl
    refine dg_next (SX_now hS1402 ((hw.vws [0, 1]).anti (Le.refl _)) (by kernel_rfl)) fun hS => ?_
    refine d_pures (fuel := 6) kS1402 hs hS [8, 9, 10] [1, 19] [(1, (pt b1395 0)), (19, .bool (!y2750))] (by kernel_rfl) fun a hs hS => ?_
    rcases ifbE hx2745 with ⟨h2752, hx2745⟩ | ⟨h2752, hx2745⟩
    · replace hs := hs.altB 19 true (by kernel_rfl) h2752
      refine d_pures (fuel := 0) kS1402 hs hS [11, 12, 13, 14, 15, 16] [1, 25] [(1, (pt b1395 0)), (25, .bool true)] (by kernel_rfl) fun a hs hS => ?_
      refine d_done (by kernel_rfl) ?_
      obtain rfl := someE hx2745
      exact (hJ2746 _ _).2 ⟨true, hk, hs.cast [1, 25] (by kernel_rfl), hw.pick [0, 1] (by kernel_rfl)⟩
    replace hs := hs.altB 19 false (by kernel_rfl) h2752
    refine d_load (fuel := 5) kS1402 hs hS 11 rfl (by kernel_rfl) (SX_box hS1402 0 rfl (by kernel_rfl)) 0 (by kernel_rfl) (by kernel_rfl) (v := .agg #[vi64 x1.f0, vi64 x1.f1, vi64 x1.f2, vi64 x1.f3, vu64 x1.f4, vu64 x1.f5, vu64 x1.f6, vu64 x1.f7, vu64 x1.f8, vu64 x1.f9, vi64 x1.f10, vu32 x1.f11, vi64 x1.f12, vi64 x1.f13.f0, vi64 x1.f13.f1, vu64 x1.f13.f2, vi64 x1.f13.f3, vi64 x1.f14.f0, vu64 x1.f14.f1, .slice p2 x1.f14.f2.length c3, .bool x1.f14.f3, vi64 x1.f14.f4, .slice p5 x1.f15.length c6, .slice p8 x1.f16.length c9, .slice p11 x1.f17.length c12]) (by kernel_rfl) fun a hs hS => ?_
    refine d_load (fuel := 4) kS1402 hs hS 12 rfl (by kernel_rfl) (SX_box hS1402 0 rfl (by kernel_rfl)) 0 (by kernel_rfl) (by kernel_rfl) (v := .agg #[vi64 x1.f0, vi64 x1.f1, vi64 x1.f2, vi64 x1.f3, vu64 x1.f4, vu64 x1.f5, vu64 x1.f6, vu64 x1.f7, vu64 x1.f8, vu64 x1.f9, vi64 x1.f10, vu32 x1.f11, vi64 x1.f12, vi64 x1.f13.f0, vi64 x1.f13.f1, vu64 x1.f13.f2, vi64 x1.f13.f3, vi64 x1.f14.f0, vu64 x1.f14.f1, .slice p2 x1.f14.f2.length c3, .bool x1.f14.f3, vi64 x1.f14.f4, .slice p5 x1.f15.length c6, .slice p8 x1.f16.length c9, .slice p11 x1.f17.length c12]) (by kernel_rfl) fun a hs hS => ?_
    refine d_all (fuel := 3) (rs := [13]) (by kernel_rfl) (by simp) (all1 ?_)
    obtain ⟨y2753, h2754, hx2745⟩ := bindE hx2745
    refine o_call hs rfl (by kernel_rfl) (by kernel_rfl) (letter_bare_s h2754 h4 h7 h10 h13 (hG.mono (Le.refl _)) ((hw.pick [0, 1] (by kernel_rfl)).pack 0)) fun a w v hv hs => ?_
    obtain ⟨p2755, c2756, p2758, c2759, p2761, c2762, p2764, c2765, rfl, hw, h2757, h2760, h2763, h2766⟩ := hv
    replace hw := hw.unpack 0 rfl
    refine dg_next (SX_now hS1402 ((hw.vws [0, 1]).anti (Le.refl _)) (by kernel_rfl)) fun hS => ?_
    refine d_all (fuel := 2) (rs := [14]) (by kernel_rfl) (by simp) (all1 ?_)
    obtain ⟨y2767, h2768, hx2745⟩ := bindE hx2745
    refine o_call hs rfl (by kernel_rfl) (by kernel_rfl) (letter_Same_s h2768 h4 h7 h10 h13 h2757 h2760 h2763 h2766 ((hw.pick [0, 1] (by kernel_rfl)).pack 0)) fun a w v hv hs => ?_
    obtain ⟨rfl, hw⟩ := hv
    replace hw := hw.unpack 0 rfl
    refine dg_next (SX_now hS1402 ((hw.vws [0, 1]).anti (Le.refl _)) (by kernel_rfl)) fun hS => ?_
    refine d_pures (fuel := 0) kS1402 hs hS [15, 16] [1, 25] [(1, (pt b1395 0)), (25, .bool (!y2767))] (by kernel_rfl) fun a hs hS => ?_
    refine d_done (by kernel_rfl) ?_
    obtain rfl := someE hx2745
    exact (hJ2746 _ _).2 ⟨(!y2767), hk, hs.cast [1, 25] (by kernel_rfl), hw.pick [0, 1] (by kernel_rfl)⟩
  intro a w hh
  obtain ⟨x1447, hk, hs, hw⟩ := (hJ2746 _ _).1 hh
  rcases ifbE hk with ⟨h1448, hk⟩ | ⟨h1448, hk⟩
  · refine c_cond1 hs (by kernel_rfl) (t := x1447) (by kernel_rfl) h1448 ?_
    refine c_seq ?_
    refine c_region ?_
    refine pures hs 1 [2] [(2, vi64 4)] (by kernel_rfl) fun a hs => ?_
    refine s_end ?_
    refine c_ret ?_
    obtain rfl := someE hk
    refine hQ _ _ (f_ret1 hs rfl (v := vi64 4) (by kernel_rfl) ⟨ih, rfl, hw.pick [1] (by kernel_rfl), (Le.refl _)⟩)
  refine c_cond0 hs (by kernel_rfl) (t := x1447) (by kernel_rfl) h1448 ?_
  refine c_skip ?_
  refine c_seq ?_
  refine c_seq ?_
  refine c_region ?_
  refine pures hs 1 [1, 26] [(1, (pt b1395 0)), (26, (pt b1395 0))] (by kernel_rfl) fun a hs => ?_
  refine s_load hs (hw.at_ 0 rfl) 0 (by kernel_rfl) (by kernel_rfl) (v := vi64 x1.f0) (by kernel_rfl) fun a hs => ?_
  obtain ⟨y1458, h1459, hk⟩ := bindE hk
  refine s_call hs (by kernel_rfl) (by kernel_rfl) (letter_parts_s h1459 (hG.mono (Le.refl _)) ((hw.pick [0, 1] (by kernel_rfl)).pack 0)) fun a w v hv hs => ?_
  obtain ⟨ih1460, p1462, c1463, d1465, rfl, hw, hle1461, h1464⟩ := hv
  replace hw := hw.unpack 1 rfl
  refine pures hs 2 [1, 28, 29, 30] [(1, (pt b1395 0)), (28, .slice p1462 y1458.length c1463), (29, vi64 (y1458.length : Int)), (30, vi64 0)] (by kernel_rfl) fun a hs => ?_
  refine s_end ?_
  refine c_block ?_
  obtain ⟨y2485, hx2486, hk⟩ := bindE hk
  obtain ⟨J2487, hJ2487⟩ : ∃ J : Act → World → Prop, ∀ a w, J a w ↔ (letter_Check_r13 = some r ∧ Sees a 40 [] ∧ St g w [F] ih1460) := ⟨_, fun _ _ => Iff.rfl⟩
  obtain ⟨I2488, hI2488⟩ : ∃ J : Nat → Act → World → Prop, ∀ j a w, J j a w ↔ (∃ (x2230 : Int), letter_Check_l14 k y1458 x1 j x2230 = some y2485 ∧ Sees a 40 [(1, (pt b1395 0)), (28, .slice p1462 y1458.length c1463), (29, vi64 (y1458.length : Int)), (30, vi64 x2230)] ∧ St g w [bx b1395 [vi64 x1.f0, vi64 x1.f1, vi64 x1.f2, vi64 x1.f3, vu64 x1.f4, vu64 x1.f5, vu64 x1.f6, vu64 x1.f7, vu64 x1.f8, vu64 x1.f9, vi64 x1.f10, vu32 x1.f11, vi64 x1.f12, vi64 x1.f13.f0, vi64 x1.f13.f1, vu64 x1.f13.f2, vi64 x1.f13.f3, vi64 x1.f14.f0, vu64 x1.f14.f1, .slice p2 x1.f14.f2.length c3, .bool x1.f14.f3, vi64 x1.f14.f4, .slice p5 x1.f15.length c6, .slice p8 x1.f16.length c9, .slice p11 x1.f17.length c12] 48, d1465, F] ih1460) := ⟨_, fun _ _ _ => Iff.rfl⟩
  refine c_exitJ 0 J2487 ?_ ?_
  · refine c_loop I2488 k ((hI2488 _ _ _).2 ⟨0, hx2486, hs.cast [1, 28, 29, 30] (by kernel_rfl), hw.pick [1, 0, 2] (by kernel_rfl)⟩) (fun a w h0 => ?_) fun j a w hh => ?_
    · obtain ⟨_, h, _⟩ := (hI2488 _ _ _).1 h0
      cases h
    obtain ⟨x2230, hx2486, hs, hw⟩ := (hI2488 _ _ _).1 hh
    refine c_seq ?_
    refine c_region ?_
    refine pures hs 1 [1, 28, 29, 30, 31] [(1, (pt b1395 0)), (28, .slice p1462 y1458.length c1463), (29, vi64 (y1458.length : Int)), (30, vi64 x2230), (31, .bool (decide (x2230 < (y1458.length : Int))))] (by kernel_rfl) fun a hs => ?_
    refine s_end ?_
    refine c_seq ?_
    rcases ifbE hx2486 with ⟨h2489, hx2486⟩ | ⟨h2489, hx2486⟩
    · refine c_cond1 hs (by kernel_rfl) (t := (decide (x2230 < (y1458.length : Int)))) (by kernel_rfl) h2489 ?_
      refine c_skip ?_
      refine c_seq ?_
      refine c_block ?_
      refine c_seq ?_
      refine c_region ?_
      obtain ⟨x2501, h2502, hx2486⟩ := bindE hx2486
      refine s_indexO hs h1464 (by kernel_rfl) (by kernel_rfl) (k := .i64) (by kernel_rfl) 134 (by kernel_rfl) (by kernel_rfl) h2502 fun a r2503 cs henc at2504 h2509 hs => ?_
      obtain ⟨u2505, u2506, u2507, rfl⟩ := e134t_open henc
      have h2508 := henc
      refine s_load hs (at2504 _ ((hw.vw 1 rfl).anti (Le.refl _))) 0 (by kernel_rfl) (by kernel_rfl) (v := .agg #[u2505, u2506, u2507]) (by kernel_rfl) fun a hs => ?_
      refine s_new hs hw [.nilFunc, .nilFunc, .nilFunc] 134 (fun b => (pt b 0)) (by kernel_rfl) (fun _ => by kernel_rfl) fun a w b2510 hs hw => ?_
      refine s_store hs hw 0 rfl 0 (by kernel_rfl) (by kernel_rfl) (v := .agg #[u2505, u2506, u2507]) (by kernel_rfl) (by kernel_rfl) (by kernel_rfl) (e134t.one h2508) fun a w hs hw => ?_
      refine s_end ?_
      refine c_seq ?_
      obtain ⟨y2664, hx2665, hx2486⟩ := bindE hx2486
      obtain ⟨J2666, hJ2666⟩ : ∃ J : Act → World → Prop, ∀ a w, J a w ↔ (∃ (x2662 : Bool), letter_Check_r15 (letter_Check_l14 k y1458 x1 j) x2230 x2662 = some y2485 ∧ Sees a 40 [(1, (pt b1395 0)), (28, .slice p1462 y1458.length c1463), (29, vi64 (y1458.length : Int)), (30, vi64 x2230), (38, .bool x2662)] ∧ St g w [bx b1395 [vi64 x1.f0, vi64 x1.f1, vi64 x1.f2, vi64 x1.f3, vu64 x1.f4, vu64 x1.f5, vu64 x1.f6, vu64 x1.f7, vu64 x1.f8, vu64 x1.f9, vi64 x1.f10, vu32 x1.f11, vi64 x1.f12, vi64 x1.f13.f0, vi64 x1.f13.f1, vu64 x1.f13.f2, vi64 x1.f13.f3, vi64 x1.f14.f0, vu64 x1.f14.f1, .slice p2 x1.f14.f2.length c3, .bool x1.f14.f3, vi64 x1.f14.f4, .slice p5 x1.f15.length c6, .slice p8 x1.f16.length c9, .slice p11 x1.f17.length c12] 48, d1465, F] ih1460) := ⟨_, fun _ _ => Iff.rfl⟩
      refine c_regJ J2666 ?_ ?_
      · refine pures hs 1 [1, 28, 29, 30, 34] [(1, (pt b1395 0)), (28, .slice p1462 y1458.length c1463), (29, vi64 (y1458.length : Int)), (30, vi64 x2230), (34, (pt b2510 0))] (by kernel_rfl) fun a hs => ?_
        refine s_load hs (hw.at_ 0 rfl) 0 (by kernel_rfl) (by kernel_rfl) (v := u2505) (by kernel_rfl) fun a hs => ?_
        refine s_load hs (hw.at_ 1 rfl) 0 (by kernel_rfl) (by kernel_rfl) (v := .agg #[vi64 x1.f0, vi64 x1.f1, vi64 x1.f2, vi64 x1.f3, vu64 x1.f4, vu64 x1.f5, vu64 x1.f6, vu64 x1.f7, vu64 x1.f8, vu64 x1.f9, vi64 x1.f10, vu32 x1.f11, vi64 x1.f12, vi64 x1.f13.f0, vi64 x1.f13.f1, vu64 x1.f13.f2, vi64 x1.f13.f3, vi64 x1.f14.f0, vu64 x1.f14.f1, .slice p2 x1.f14.f2.length c3, .bool x1.f14.f3, vi64 x1.f14.f4, .slice p5 x1.f15.length c6, .slice p8 x1.f16.length c9, .slice p11 x1.f17.length c12]) (by kernel_rfl) fun a hs => ?_
        have hsQ := hs
        have hwQ := hw
        have hkQ := hk
        have hx2486Q := hx2486
        have hx2665Q := hx2665
        rcases h2508 with ⟨rfl, h2667⟩ | ⟨rfl, h2670⟩ | ⟨rfl, h2673⟩ | ⟨rfl, h2676⟩ | ⟨rfl, h2679⟩ | ⟨rfl, h2682⟩ | ⟨rfl, h2685⟩ | ⟨rfl, b2688, b2689, h2692, h2690, h2691⟩ | ⟨rfl, b2697, b2698, h2701, h2699, h2700⟩ | ⟨rfl, b2706, h2708, h2707⟩ | ⟨rfl, b2712, h2714, h2713⟩ | ⟨rfl, b2718, h2720, h2719⟩ | ⟨rfl, b2724, h2726, h2725⟩ | ⟨rfl, b2730, h2732, h2731⟩ | ⟨rfl, b2736, h2738, h2737⟩
        · cases h2667
          have hs := hsQ
          have hw := hwQ
          have hk := hkQ
          have hx2486 := hx2486Q
          have hx2665 := hx2665Q
          try dsimp only at hx2665
          obtain ⟨y2668, h2669, hx2665⟩ := bindE hx2665
          refine s_call hs (by kernel_rfl) (by kernel_rfl) (letter_other_1_s h2669 (h4.mono hle1461) (h7.mono hle1461) (h10.mono hle1461) (h13.mono hle1461) ((hw.pick [1, 2, 3] (by kernel_rfl)).pack 0)) fun a w v hv hs => ?_
          obtain ⟨rfl, hw⟩ := hv
          replace hw := hw.unpack 0 rfl
          refine pures hs 1 [1, 28, 29, 30, 38] [(1, (pt b1395 0)), (28, .slice p1462 y1458.length c1463), (29, vi64 (y1458.length : Int)), (30, vi64 x2230), (38, .bool (!y2668))] (by kernel_rfl) fun a hs => ?_
          refine s_end ?_
          obtain rfl := someE hx2665
          exact (hJ2666 _ _).2 ⟨(!y2668), hx2486, hs.cast [1, 28, 29, 30, 38] (by kernel_rfl), hw.pick [0, 1, 2] (by kernel_rfl)⟩
        · cases h2670
          have hs := hsQ
          have hw := hwQ
          have hk := hkQ
          have hx2486 := hx2486Q
          have hx2665 := hx2665Q
          try dsimp only at hx2665
          have h2672 : letter_any = some () := rfl
          refine s_call hs (by kernel_rfl) (by kernel_rfl) (letter_any_s (x1 := x1) h2672 (h4.mono hle1461) (h7.mono hle1461) (h10.mono hle1461) (h13.mono hle1461) ((hw.pick [1, 2, 3] (by kernel_rfl)).pack 0)) fun a w v hv hs => ?_
          obtain ⟨rfl, hw⟩ := hv
          replace hw := hw.unpack 0 rfl
          refine pures hs 1 [1, 28, 29, 30, 38] [(1, (pt b1395 0)), (28, .slice p1462 y1458.length c1463), (29, vi64 (y1458.length : Int)), (30, vi64 x2230), (38, .bool false)] (by kernel_rfl) fun a hs => ?_
          refine s_end ?_
          obtain rfl := someE hx2665
          exact (hJ2666 _ _).2 ⟨false, hx2486, hs.cast [1, 28, 29, 30, 38] (by kernel_rfl), hw.pick [0, 1, 2] (by kernel_rfl)⟩
        · cases h2673
          have hs := hsQ
          have hw := hwQ
          have hk := hkQ
          have hx2486 := hx2486Q
          have hx2665 := hx2665Q
          try dsimp only at hx2665
          obtain ⟨y2674, h2675, hx2665⟩ := bindE hx2665
          refine s_call hs (by kernel_rfl) (by kernel_rfl) (letter_other_6_s h2675 (h4.mono hle1461) (h7.mono hle1461) (h10.mono hle1461) (h13.mono hle1461) ((hw.pick [1, 2, 3] (by kernel_rfl)).pack 0)) fun a w v hv hs => ?_
          obtain ⟨rfl, hw⟩ := hv
          replace hw := hw.unpack 0 rfl
          refine pures hs 1 [1, 28, 29, 30, 38] [(1, (pt b1395 0)), (28, .slice p1462 y1458.length c1463), (29, vi64 (y1458.length : Int)), (30, vi64 x2230), (38, .bool (!y2674))] (by kernel_rfl) fun a hs => ?_
          refine s_end ?_
          obtain rfl := someE hx2665
          exact (hJ2666 _ _).2 ⟨(!y2674), hx2486, hs.cast [1, 28, 29, 30, 38] (by kernel_rfl), hw.pick [0, 1, 2] (by kernel_rfl)⟩
        · cases h2676
          have hs := hsQ
          have hw := hwQ
          have hk := hkQ
          have hx2486 := hx2486Q
          have hx2665 := hx2665Q
          try dsimp only at hx2665
          obtain ⟨y2677, h2678, hx2665⟩ := bindE hx2665
          refine s_call hs (by kernel_rfl) (by kernel_rfl) (letter_other_8_s h2678 (h4.mono hle1461) (h7.mono hle1461) (h10.mono hle1461) (h13.mono hle1461) ((hw.pick [1, 2, 3] (by kernel_rfl)).pack 0)) fun a w v hv hs => ?_
          obtain ⟨rfl, hw⟩ := hv
          replace hw := hw.unpack 0 rfl
          refine pures hs 1 [1, 28, 29, 30, 38] [(1, (pt b1395 0)), (28, .slice p1462 y1458.length c1463), (29, vi64 (y1458.length : Int)), (30, vi64 x2230), (38, .bool (!y2677))] (by kernel_rfl) fun a hs => ?_
          refine s_end ?_
          obtain rfl := someE hx2665
          exact (hJ2666 _ _).2 ⟨(!y2677), hx2486, hs.cast [1, 28, 29, 30, 38] (by kernel_rfl), hw.pick [0, 1, 2] (by kernel_rfl)⟩
        · cases h2679
          have hs := hsQ
          have hw := hwQ
          have hk := hkQ
          have hx2486 := hx2486Q
          have hx2665 := hx2665Q
          try dsimp only at hx2665
          obtain ⟨y2680, h2681, hx2665⟩ := bindE hx2665
          refine s_call hs (by kernel_rfl) (by kernel_rfl) (letter_other_10_s h2681 (h4.mono hle1461) (h7.mono hle1461) (h10.mono hle1461) (h13.mono hle1461) ((hw.pick [1, 2, 3] (by kernel_rfl)).pack 0)) fun a w v hv hs => ?_
          obtain ⟨rfl, hw⟩ := hv
          replace hw := hw.unpack 0 rfl
          refine pures hs 1 [1, 28, 29, 30, 38] [(1, (pt b1395 0)), (28, .slice p1462 y1458.length c1463), (29, vi64 (y1458.length : Int)), (30, vi64 x2230), (38, .bool (!y2680))] (by kernel_rfl) fun a hs => ?_
          refine s_end ?_
          obtain rfl := someE hx2665
          exact (hJ2666 _ _).2 ⟨(!y2680), hx2486, hs.cast [1, 28, 29, 30, 38] (by kernel_rfl), hw.pick [0, 1, 2] (by kernel_rfl)⟩
        · cases h2682
          have hs := hsQ
          have hw := hwQ
          have hk := hkQ
          have hx2486 := hx2486Q
          have hx2665 := hx2665Q
          try dsimp only at hx2665
          obtain ⟨y2683, h2684, hx2665⟩ := bindE hx2665
          refine s_call hs (by kernel_rfl) (by kernel_rfl) (letter_updates_s h2684 (h4.mono hle1461) (h7.mono hle1461) (h10.mono hle1461) (h13.mono hle1461) ((hw.pick [1, 2, 3] (by kernel_rfl)).pack 0)) fun a w v hv hs => ?_
          obtain ⟨rfl, hw⟩ := hv
          replace hw := hw.unpack 0 rfl
          refine pures hs 1 [1, 28, 29, 30, 38] [(1, (pt b1395 0)), (28, .slice p1462 y1458.length c1463), (29, vi64 (y1458.length : Int)), (30, vi64 x2230), (38, .bool (!y2683))] (by kernel_rfl) fun a hs => ?_
          refine s_end ?_
          obtain rfl := someE hx2665
          exact (hJ2666 _ _).2 ⟨(!y2683), hx2486, hs.cast [1, 28, 29, 30, 38] (by kernel_rfl), hw.pick [0, 1, 2] (by kernel_rfl)⟩
        · cases h2685
          have hs := hsQ
          have hw := hwQ
          have hk := hkQ
          have hx2486 := hx2486Q
          have hx2665 := hx2665Q
          try dsimp only at hx2665
          obtain ⟨y2686, h2687, hx2665⟩ := bindE hx2665
          refine s_call hs (by kernel_rfl) (by kernel_rfl) (letter_other_11_s h2687 (h4.mono hle1461) (h7.mono hle1461) (h10.mono hle1461) (h13.mono hle1461) ((hw.pick [1, 2, 3] (by kernel_rfl)).pack 0)) fun a w v hv hs => ?_
          obtain ⟨rfl, hw⟩ := hv
          replace hw := hw.unpack 0 rfl
          refine pures hs 1 [1, 28, 29, 30, 38] [(1, (pt b1395 0)), (28, .slice p1462 y1458.length c1463), (29, vi64 (y1458.length : Int)), (30, vi64 x2230), (38, .bool (!y2686))] (by kernel_rfl) fun a hs => ?_
          refine s_end ?_
          obtain rfl := someE hx2665
          exact (hJ2666 _ _).2 ⟨(!y2686), hx2486, hs.cast [1, 28, 29, 30, 38] (by kernel_rfl), hw.pick [0, 1, 2] (by kernel_rfl)⟩
        · cases h2692
          have hs := hsQ
          have hw := hwQ
          have hk := hkQ
          have hx2486 := hx2486Q
          have hx2665 := hx2665Q
          try dsimp only at hx2665
          obtain ⟨y2695, h2696, hx2665⟩ := bindE hx2665
          refine s_call hs (by kernel_rfl) (by kernel_rfl) (letter_of_1_s h2696 (h4.mono hle1461) (h7.mono hle1461) (h10.mono hle1461) (h13.mono hle1461) ((hw.pick [1, 2, 3] (by kernel_rfl)).pack 0)) fun a w v hv hs => ?_
          obtain ⟨rfl, hw⟩ := hv
          replace hw := hw.unpack 0 rfl
          refine pures hs 1 [1, 28, 29, 30, 38] [(1, (pt b1395 0)), (28, .slice p1462 y1458.length c1463), (29, vi64 (y1458.length : Int)), (30, vi64 x2230), (38, .bool (!y2695))] (by kernel_rfl) fun a hs => ?_
          refine s_end ?_
          obtain rfl := someE hx2665
          exact (hJ2666 _ _).2 ⟨(!y2695), hx2486, hs.cast [1, 28, 29, 30, 38] (by kernel_rfl), hw.pick [0, 1, 2] (by kernel_rfl)⟩
        · cases h2701
          have hs := hsQ
          have hw := hwQ
          have hk := hkQ
          have hx2486 := hx2486Q
          have hx2665 := hx2665Q
          try dsimp only at hx2665
          obtain ⟨y2704, h2705, hx2665⟩ := bindE hx2665
          refine s_call hs (by kernel_rfl) (by kernel_rfl) (letter_of_3_s h2705 (h4.mono hle1461) (h7.mono hle1461) (h10.mono hle1461) (h13.mono hle1461) ((hw.pick [1, 2, 3] (by kernel_rfl)).pack 0)) fun a w v hv hs => ?_
          obtain ⟨rfl, hw⟩ := hv
          replace hw := hw.unpack 0 rfl
          refine pures hs 1 [1, 28, 29, 30, 38] [(1, (pt b1395 0)), (28, .slice p1462 y1458.length c1463), (29, vi64 (y1458.length : Int)), (30, vi64 x2230), (38, .bool (!y2704))] (by kernel_rfl) fun a hs => ?_
          refine s_end ?_
          obtain rfl := someE hx2665
          exact (hJ2666 _ _).2 ⟨(!y2704), hx2486, hs.cast [1, 28, 29, 30, 38] (by kernel_rfl), hw.pick [0, 1, 2] (by kernel_rfl)⟩
        · cases h2708
          have hs := hsQ
          have hw := hwQ
          have hk := hkQ
          have hx2486 := hx2486Q
          have hx2665 := hx2665Q
          try dsimp only at hx2665
          obtain ⟨y2710, h2711, hx2665⟩ := bindE hx2665
          refine s_call hs (by kernel_rfl) (by kernel_rfl) (letter_of_5_s h2711 (h4.mono hle1461) (h7.mono hle1461) (h10.mono hle1461) (h13.mono hle1461) ((hw.pick [1, 2, 3] (by kernel_rfl)).pack 0)) fun a w v hv hs => ?_
          obtain ⟨rfl, hw⟩ := hv
          replace hw := hw.unpack 0 rfl
          refine pures hs 1 [1, 28, 29, 30, 38] [(1, (pt b1395 0)), (28, .slice p1462 y1458.length c1463), (29, vi64 (y1458.length : Int)), (30, vi64 x2230), (38, .bool (!y2710))] (by kernel_rfl) fun a hs => ?_
          refine s_end ?_
          obtain rfl := someE hx2665
          exact (hJ2666 _ _).2 ⟨(!y2710), hx2486, hs.cast [1, 28, 29, 30, 38] (by kernel_rfl), hw.pick [0, 1, 2] (by kernel_rfl)⟩
        · cases h2714
          have hs := hsQ
          have hw := hwQ
          have hk := hkQ
          have hx2486 := hx2486Q
          have hx2665 := hx2665Q
          try dsimp only at hx2665
          obtain ⟨y2716, h2717, hx2665⟩ := bindE hx2665
          refine s_call hs (by kernel_rfl) (by kernel_rfl) (letter_of_7_s h2717 (h4.mono hle1461) (h7.mono hle1461) (h10.mono hle1461) (h13.mono hle1461) ((hw.pick [1, 2, 3] (by kernel_rfl)).pack 0)) fun a w v hv hs => ?_
          obtain ⟨rfl, hw⟩ := hv
          replace hw := hw.unpack 0 rfl
          refine pures hs 1 [1, 28, 29, 30, 38] [(1, (pt b1395 0)), (28, .slice p1462 y1458.length c1463), (29, vi64 (y1458.length : Int)), (30, vi64 x2230), (38, .bool (!y2716))] (by kernel_rfl) fun a hs => ?_
          refine s_end ?_
          obtain rfl := someE hx2665
          exact (hJ2666 _ _).2 ⟨(!y2716), hx2486, hs.cast [1, 28, 29, 30, 38] (by kernel_rfl), hw.pick [0, 1, 2] (by kernel_rfl)⟩
        · cases h2720
          have hs := hsQ
          have hw := hwQ
          have hk := hkQ
          have hx2486 := hx2486Q
          have hx2665 := hx2665Q
          try dsimp only at hx2665
          have h2723 : letter_any = some () := rfl
          refine s_call hs (by kernel_rfl) (by kernel_rfl) (letter_any_s (x1 := x1) h2723 (h4.mono hle1461) (h7.mono hle1461) (h10.mono hle1461) (h13.mono hle1461) ((hw.pick [1, 2, 3] (by kernel_rfl)).pack 0)) fun a w v hv hs => ?_
          obtain ⟨rfl, hw⟩ := hv
          replace hw := hw.unpack 0 rfl
          refine pures hs 1 [1, 28, 29, 30, 38] [(1, (pt b1395 0)), (28, .slice p1462 y1458.length c1463), (29, vi64 (y1458.length : Int)), (30, vi64 x2230), (38, .bool false)] (by kernel_rfl) fun a hs => ?_
          refine s_end ?_
          obtain rfl := someE hx2665
          exact (hJ2666 _ _).2 ⟨false, hx2486, hs.cast [1, 28, 29, 30, 38] (by kernel_rfl), hw.pick [0, 1, 2] (by kernel_rfl)⟩
        · cases h2726
          have hs := hsQ
          have hw := hwQ
          have hk := hkQ
          have hx2486 := hx2486Q
          have hx2665 := hx2665Q
          try dsimp only at hx2665
          have h2729 : letter_any = some () := rfl
          refine s_call hs (by kernel_rfl) (by kernel_rfl) (letter_any_s (x1 := x1) h2729 (h4.mono hle1461) (h7.mono hle1461) (h10.mono hle1461) (h13.mono hle1461) ((hw.pick [1, 2, 3] (by kernel_rfl)).pack 0)) fun a w v hv hs => ?_
          obtain ⟨rfl, hw⟩ := hv
          replace hw := hw.unpack 0 rfl
          refine pures hs 1 [1, 28, 29, 30, 38] [(1, (pt b1395 0)), (28, .slice p1462 y1458.length c1463), (29, vi64 (y1458.length : Int)), (30, vi64 x2230), (38, .bool false)] (by kernel_rfl) fun a hs => ?_
          refine s_end ?_
          obtain rfl := someE hx2665
          exact (hJ2666 _ _).2 ⟨false, hx2486, hs.cast [1, 28, 29, 30, 38] (by kernel_rfl), hw.pick [0, 1, 2] (by kernel_rfl)⟩
        · cases h2732
          have hs := hsQ
          have hw := hwQ
          have hk := hkQ
          have hx2486 := hx2486Q
          have hx2665 := hx2665Q
          try dsimp only at hx2665
          have h2735 : letter_any = some () := rfl
          refine s_call hs (by kernel_rfl) (by kernel_rfl) (letter_any_s (x1 := x1) h2735 (h4.mono hle1461) (h7.mono hle1461) (h10.mono hle1461) (h13.mono hle1461) ((hw.pick [1, 2, 3] (by kernel_rfl)).pack 0)) fun a w v hv hs => ?_
          obtain ⟨rfl, hw⟩ := hv
          replace hw := hw.unpack 0 rfl
          refine pures hs 1 [1, 28, 29, 30, 38] [(1, (pt b1395 0)), (28, .slice p1462 y1458.length c1463), (29, vi64 (y1458.length : Int)), (30, vi64 x2230), (38, .bool false)] (by kernel_rfl) fun a hs => ?_
          refine s_end ?_
          obtain rfl := someE hx2665
          exact (hJ2666 _ _).2 ⟨false, hx2486, hs.cast [1, 28, 29, 30, 38] (by kernel_rfl), hw.pick [0, 1, 2] (by kernel_rfl)⟩
        cases h2738
        have hs := hsQ
        have hw := hwQ
        have hk := hkQ
        have hx2486 := hx2486Q
        have hx2665 := hx2665Q
        try dsimp only at hx2665
        have h2741 : letter_any = some () := rfl
        refine s_call hs (by kernel_rfl) (by kernel_rfl) (letter_any_s (x1 := x1) h2741 (h4.mono hle1461) (h7.mono hle1461) (h10.mono hle1461) (h13.mono hle1461) ((hw.pick [1, 2, 3] (by kernel_rfl)).pack 0)) fun a w v hv hs => ?_
        obtain ⟨rfl, hw⟩ := hv
        replace hw := hw.unpack 0 rfl
        refine pures hs 1 [1, 28, 29, 30, 38] [(1, (pt b1395 0)), (28, .slice p1462 y1458.length c1463), (29, vi64 (y1458.length : Int)), (30, vi64 x2230), (38, .bool false)] (by kernel_rfl) fun a hs => ?_
        refine s_end ?_
        obtain rfl := someE hx2665
        exact (hJ2666 _ _).2 ⟨false, hx2486, hs.cast [1, 28, 29, 30, 38] (by kernel_rfl), hw.pick [0, 1, 2] (by kernel_rfl)⟩
      intro a w hh
      obtain ⟨x2662, hx2486, hs, hw⟩ := (hJ2666 _ _).1 hh
      rcases ifbE hx2486 with ⟨h2663, hx2486⟩ | ⟨h2663, hx2486⟩
      · refine c_cond1 hs (by kernel_rfl) (t := x2662) (by kernel_rfl) h2663 ?_
        refine c_seq ?_
        refine c_region ?_
        refine pures hs 1 [2] [(2, vi64 4)] (by kernel_rfl) fun a hs => ?_
        refine s_end ?_
        refine c_ret ?_
        obtain rfl := someE hx2486
        obtain rfl := someE hk
        refine hQ _ _ (f_ret1 hs rfl (v := vi64 4) (by kernel_rfl) ⟨ih1460, rfl, hw.pick [2] (by kernel_rfl), hle1461⟩)
      refine c_cond0 hs (by kernel_rfl) (t := x2662) (by kernel_rfl) h2663 ?_
      refine c_skip ?_
      refine c_region ?_
      refine pures hs 2 [1, 28, 29, 30] [(1, (pt b1395 0)), (28, .slice p1462 y1458.length c1463), (29, vi64 (y1458.length : Int)), (30, vi64 (IntKind.i64.wrap (x2230 + 1)))] (by kernel_rfl) fun a hs => ?_
      refine s_end ?_
      exact (hI2488 _ _ _).2 ⟨(IntKind.i64.wrap (x2230 + 1)), hx2486, hs.cast [1, 28, 29, 30] (by kernel_rfl), hw.pick [0, 1, 2] (by kernel_rfl)⟩
    refine c_cond0 hs (by kernel_rfl) (t := (decide (x2230 < (y1458.length : Int)))) (by kernel_rfl) h2489 ?_
    refine c_exit ?_
    obtain rfl := someE hx2486
    exact (hJ2487 _ _).2 ⟨hk, hs.cast [] (by kernel_rfl), hw.pick [2] (by kernel_rfl)⟩
  intro a w hh
  obtain ⟨hk, hs, hw⟩ := (hJ2487 _ _).1 hh
  refine c_seq ?_
  refine c_region ?_
  refine pures hs 1 [2] [(2, vi64 0)] (by kernel_rfl) fun a hs => ?_
  refine s_end ?_
  refine c_ret ?_
  obtain rfl := someE hk
  refine hQ _ _ (f_ret1 hs rfl (v := vi64 0) (by kernel_rfl) ⟨ih1460, rfl, hw.pick [0] (by kernel_rfl), hle1461⟩)
def update_check (k : Nat) (x1 : M96) (x5 : Int) : Option Int :=
  (update_writes x1.f3).bind fun y42 =>
  if (!y42) = true then some 1
  else if (decide ((x1.f6.length : Int) > 2048)) = true then some 6
  else (letter_Check k (M48.mk x5 1 1 0 1 0 0 0 0 0 0 0 0 (M41.mk 0 0 0 0) (M44.mk 0 0 ([]) false 0) ([]) ([x1]) ([]))).bind fun y60 =>
  some y60
theorem update_check_s {k : Nat} {x1 : M96} {x5 : Int} {p2 : Option Addr} {c3 : Nat} {r : Int} (hk : update_check k x1 x5 = some r) {g w : World} {F : Ch} {ih : IH} (h4 : RSl e5 ih [] p2 c3 x1.f6) (hG : Glob 0 gl0 162 ih) (hw : St g w [F] ih) :
    CallsR Tryz.prog 127 #[.agg #[vu64 x1.f0, vi64 x1.f1, vu64 x1.f2, vi64 x1.f3, vu32 x1.f4, vu64 x1.f5, .slice p2 x1.f6.length c3], vi64 x5] w fun v w' => ∃ (ih' : IH), v = vi64 r ∧ St g w' [F] ih' ∧ Le ih ih' := by
  refine f_in (vs := [.agg #[vu64 x1.f0, vi64 x1.f1, vu64 x1.f2, vi64 x1.f3, vu32 x1.f4, vu64 x1.f5, .slice p2 x1.f6.length c3], vi64 x5]) Tryz.func127 rfl 20 rfl (by kernel_rfl) [(0, .agg #[vu64 x1.f0, vi64 x1.f1, vu64 x1.f2, vi64 x1.f3, vu32 x1.f4, vu64 x1.f5, .slice p2 x1.f6.length c3]), (1, vi64 x5)] (by kernel_rfl) fun a Qf hQ hQn hs => ?_
  refine c_seq ?_
  refine c_region ?_
  refine s_new hs hw [vu64 x1.f0, vi64 x1.f1, vu64 x1.f2, vi64 x1.f3, vu32 x1.f4, vu64 x1.f5, .slice p2 x1.f6.length c3] 96 (fun b => (pt b 0)) (by kernel_rfl) (fun _ => by kernel_rfl) fun a w b38 hs hw => ?_
  refine pures hs 1 [1, 2] [(1, vi64 x5), (2, (pt b38 0))] (by kernel_rfl) fun a hs => ?_
  refine s_end ?_
  refine c_seq ?_
  refine c_block ?_
  refine c_seq ?_
  refine c_region ?_
  refine pures hs 1 [1, 2, 6] [(1, vi64 x5), (2, (pt b38 0)), (6, (pt b38 3))] (by kernel_rfl) fun a hs => ?_
  refine s_load hs (hw.at_ 0 rfl) 3 (by kernel_rfl) (by kernel_rfl) (v := vi64 x1.f3) (by kernel_rfl) fun a hs => ?_
  obtain ⟨y42, h43, hk⟩ := bindE hk
  refine s_call hs (by kernel_rfl) (by kernel_rfl) (update_writes_s h43 ((hw.pick [0, 1] (by kernel_rfl)).pack 0)) fun a w v hv hs => ?_
  obtain ⟨rfl, hw⟩ := hv
  replace hw := hw.unpack 0 rfl
  refine pures hs 2 [1, 2, 5] [(1, vi64 x5), (2, (pt b38 0)), (5, .bool (!y42))] (by kernel_rfl) fun a hs => ?_
  refine s_end ?_
  rcases ifbE hk with ⟨h44, hk⟩ | ⟨h44, hk⟩
  · refine c_cond1 hs (by kernel_rfl) (t := (!y42)) (by kernel_rfl) h44 ?_
    refine c_seq ?_
    refine c_region ?_
    refine pures hs 1 [4] [(4, vi64 1)] (by kernel_rfl) fun a hs => ?_
    refine s_end ?_
    refine c_ret ?_
    obtain rfl := someE hk
    refine hQ _ _ (f_ret1 hs rfl (v := vi64 1) (by kernel_rfl) ⟨ih, rfl, hw.pick [1] (by kernel_rfl), (Le.refl _)⟩)
  refine c_cond0 hs (by kernel_rfl) (t := (!y42)) (by kernel_rfl) h44 ?_
  refine c_seq ?_
  refine c_region ?_
  refine pures hs 1 [1, 2, 11] [(1, vi64 x5), (2, (pt b38 0)), (11, (pt b38 6))] (by kernel_rfl) fun a hs => ?_
  refine s_load hs (hw.at_ 0 rfl) 6 (by kernel_rfl) (by kernel_rfl) (v := .slice p2 x1.f6.length c3) (by kernel_rfl) fun a hs => ?_
  refine pures hs 3 [1, 2, 10] [(1, vi64 x5), (2, (pt b38 0)), (10, .bool (decide ((x1.f6.length : Int) > 2048)))] (by kernel_rfl) fun a hs => ?_
  refine s_end ?_
  rcases ifbE hk with ⟨h45, hk⟩ | ⟨h45, hk⟩
  · refine c_cond1 hs (by kernel_rfl) (t := (decide ((x1.f6.length : Int) > 2048))) (by kernel_rfl) h45 ?_
    refine c_seq ?_
    refine c_region ?_
    refine pures hs 1 [4] [(4, vi64 6)] (by kernel_rfl) fun a hs => ?_
    refine s_end ?_
    refine c_ret ?_
    obtain rfl := someE hk
    refine hQ _ _ (f_ret1 hs rfl (v := vi64 6) (by kernel_rfl) ⟨ih, rfl, hw.pick [1] (by kernel_rfl), (Le.refl _)⟩)
  refine c_cond0 hs (by kernel_rfl) (t := (decide ((x1.f6.length : Int) > 2048))) (by kernel_rfl) h45 ?_
  refine c_skip ?_
  refine c_seq ?_
  refine c_region ?_
  refine pures hs 1 [2, 15] [(2, (pt b38 0)), (15, vi64 x5)] (by kernel_rfl) fun a hs => ?_
  refine s_load hs (hw.at_ 0 rfl) 0 (by kernel_rfl) (by kernel_rfl) (v := .agg #[vu64 x1.f0, vi64 x1.f1, vu64 x1.f2, vi64 x1.f3, vu32 x1.f4, vu64 x1.f5, .slice p2 x1.f6.length c3]) (by kernel_rfl) fun a hs => ?_
  refine s_new hs hw [vu64 x1.f0, vi64 x1.f1, vu64 x1.f2, vi64 x1.f3, vu32 x1.f4, vu64 x1.f5, .slice p2 x1.f6.length c3] 96 (fun b => .slice (some ⟨b, 0, none⟩) 1 1) (by kernel_rfl) (fun _ => by kernel_rfl) fun a w b55 hs hw => ?_
  obtain ⟨ih57, hle58, hw, h59⟩ := (hw.pick [0, 1, 2] (by kernel_rfl)).fz ((OSl.of1 (E := e96) (z := x1) ⟨p2, c3, rfl, h4⟩ (by simp [maxLen])).mono (Le.refl _))
  refine pures hs 1 [18] [(18, .agg #[vi64 x5, vi64 1, vi64 1, vi64 0, vu64 1, vu64 0, vu64 0, vu64 0, vu64 0, vu64 0, vi64 0, vu32 0, vi64 0, vi64 0, vi64 0, vu64 0, vi64 0, vi64 0, vu64 0, .slice none 0 0, .bool false, vi64 0, .slice none 0 0, .slice (some ⟨b55, 0, none⟩) ([x1]).length 1, .slice none 0 0])] (by kernel_rfl) fun a hs => ?_
  obtain ⟨y60, h61, hk⟩ := bindE hk
  refine s_call hs (by kernel_rfl) (by kernel_rfl) (letter_Check_s h61 (RSl.nil _ _ _) (RSl.nil _ _ _) h59 (RSl.nil _ _ _) (hG.mono hle58) ((hw.pick [1] (by kernel_rfl)).pack 0)) fun a w v hv hs => ?_
  obtain ⟨ih62, rfl, hw, hle63⟩ := hv
  replace hw := hw.unpack 0 rfl
  refine pures hs 1 [4] [(4, vi64 y60)] (by kernel_rfl) fun a hs => ?_
  refine s_end ?_
  refine c_ret ?_
  obtain rfl := someE hk
  refine hQ _ _ (f_ret1 hs rfl (v := vi64 y60) (by kernel_rfl) ⟨ih62, rfl, hw.pick [0] (by kernel_rfl), (hle58.trans hle63)⟩)
def update_Asked (k : Nat) (x1 : M96) : Option Int :=
  (update_check k x1 17).bind fun y27 =>
  some y27
theorem update_Asked_s {k : Nat} {x1 : M96} {p2 : Option Addr} {c3 : Nat} {r : Int} (hk : update_Asked k x1 = some r) {g w : World} {F : Ch} {ih : IH} (h4 : RSl e5 ih [] p2 c3 x1.f6) (hG : Glob 0 gl0 162 ih) (hw : St g w [F] ih) :
    CallsR Tryz.prog 84 #[.agg #[vu64 x1.f0, vi64 x1.f1, vu64 x1.f2, vi64 x1.f3, vu32 x1.f4, vu64 x1.f5, .slice p2 x1.f6.length c3]] w fun v w' => ∃ (ih' : IH), v = vi64 r ∧ St g w' [F] ih' ∧ Le ih ih' := by
  refine f_in (vs := [.agg #[vu64 x1.f0, vi64 x1.f1, vu64 x1.f2, vi64 x1.f3, vu32 x1.f4, vu64 x1.f5, .slice p2 x1.f6.length c3]]) Tryz.func84 rfl 5 rfl (by kernel_rfl) [(0, .agg #[vu64 x1.f0, vi64 x1.f1, vu64 x1.f2, vi64 x1.f3, vu32 x1.f4, vu64 x1.f5, .slice p2 x1.f6.length c3])] (by kernel_rfl) fun a Qf hQ hQn hs => ?_
  refine c_seq ?_
  refine c_region ?_
  refine s_new hs hw [vu64 x1.f0, vi64 x1.f1, vu64 x1.f2, vi64 x1.f3, vu32 x1.f4, vu64 x1.f5, .slice p2 x1.f6.length c3] 96 (fun b => (pt b 0)) (by kernel_rfl) (fun _ => by kernel_rfl) fun a w b21 hs hw => ?_
  refine pures hs 1 [1] [(1, (pt b21 0))] (by kernel_rfl) fun a hs => ?_
  refine s_end ?_
  refine c_seq ?_
  refine c_region ?_
  refine s_load hs (hw.at_ 0 rfl) 0 (by kernel_rfl) (by kernel_rfl) (v := .agg #[vu64 x1.f0, vi64 x1.f1, vu64 x1.f2, vi64 x1.f3, vu32 x1.f4, vu64 x1.f5, .slice p2 x1.f6.length c3]) (by kernel_rfl) fun a hs => ?_
  obtain ⟨y27, h28, hk⟩ := bindE hk
  refine s_call hs (by kernel_rfl) (by kernel_rfl) (update_check_s h28 h4 (hG.mono (Le.refl _)) ((hw.pick [1] (by kernel_rfl)).pack 0)) fun a w v hv hs => ?_
  obtain ⟨ih29, rfl, hw, hle30⟩ := hv
  replace hw := hw.unpack 0 rfl
  refine pures hs 1 [2] [(2, vi64 y27)] (by kernel_rfl) fun a hs => ?_
  refine s_end ?_
  refine c_ret ?_
  obtain rfl := someE hk
  refine hQ _ _ (f_ret1 hs rfl (v := vi64 y27) (by kernel_rfl) ⟨ih29, rfl, hw.pick [0] (by kernel_rfl), hle30⟩)
def update_Request_r2 (k : Nat) (x5 : Int) (x6 : Int) (x1 : M26) (x172 : List Int) : Option (M96 × Int) :=
  (update_Asked k (M96.mk 0 x5 x6 x1.f0 x1.f1 x1.f2 x172)).bind fun y180 =>
  if (y180 != 0) = true then some ((M96.mk 0 0 0 0 0 0 ([])), y180)
  else some ((M96.mk 0 x5 x6 x1.f0 x1.f1 x1.f2 x172), 0)
def update_Request (k : Nat) (x1 : M26) (x5 : Int) (x6 : Int) : Option (M96 × Int) :=
  ((bytes_Clone x1.f3).bind fun y188 =>
    some y188 : Option (List Int)).bind fun s212 => update_Request_r2 k x5 x6 x1 s212
theorem update_Request_s {k : Nat} {x1 : M26} {x5 : Int} {x6 : Int} {p2 : Option Addr} {c3 : Nat} {r : M96 × Int} (hk : update_Request k x1 x5 x6 = some r) {g w : World} {F : Ch} {ih : IH} (h4 : RSl e5 ih [] p2 c3 x1.f3) (hG : Glob 0 gl0 162 ih) (hw : St g w [F] ih) :
    CallsR Tryz.prog 53 #[.agg #[vi64 x1.f0, vu32 x1.f1, vu64 x1.f2, .slice p2 x1.f3.length c3, vi64 x1.f4], vi64 x5, vu64 x6] w fun v w' => ∃ (ih' : IH) (p213 : Option Addr) (c214 : Nat), v = .tuple #[.agg #[vu64 r.1.f0, vi64 r.1.f1, vu64 r.1.f2, vi64 r.1.f3, vu32 r.1.f4, vu64 r.1.f5, .slice p213 r.1.f6.length c214], vi64 r.2] ∧ St g w' [F] ih' ∧ Le ih ih' ∧ RSl e5 ih' [] p213 c214 r.1.f6 := by
  refine f_in (vs := [.agg #[vi64 x1.f0, vu32 x1.f1, vu64 x1.f2, .slice p2 x1.f3.length c3, vi64 x1.f4], vi64 x5, vu64 x6]) Tryz.func53 rfl 29 rfl (by kernel_rfl) [(0, .agg #[vi64 x1.f0, vu32 x1.f1, vu64 x1.f2, .slice p2 x1.f3.length c3, vi64 x1.f4]), (1, vi64 x5), (2, vu64 x6)] (by kernel_rfl) fun a Qf hQ hQn hs => ?_
  refine c_seq ?_
  refine c_region ?_
  refine s_new hs hw [vi64 x1.f0, vu32 x1.f1, vu64 x1.f2, .slice p2 x1.f3.length c3, vi64 x1.f4] 26 (fun b => (pt b 0)) (by kernel_rfl) (fun _ => by kernel_rfl) fun a w b115 hs hw => ?_
  refine s_new hs hw [vu64 0, vi64 0, vu64 0, vi64 0, vu32 0, vu64 0, .slice none 0 0] 96 (fun b => (pt b 0)) (by kernel_rfl) (fun _ => by kernel_rfl) fun a w b117 hs hw => ?_
  refine pures hs 1 [1, 2, 3, 6] [(1, vi64 x5), (2, vu64 x6), (3, (pt b115 0)), (6, (pt b117 0))] (by kernel_rfl) fun a hs => ?_
  refine s_end ?_
  refine c_seq ?_
  obtain ⟨S119, hS119, kS119⟩ := mkSX (X := [([], bx b117 [vu64 0, vi64 0, vu64 0, vi64 0, vu32 0, vu64 0, .slice none 0 0] 96), ([], bx b115 [vi64 x1.f0, vu32 x1.f1, vu64 x1.f2, .slice p2 x1.f3.length c3, vi64 x1.f4] 26), ([], F)]) (ih := ih) (K := []) rfl
  obtain ⟨y185, hx186, hk⟩ := bindE hk
  obtain ⟨J187, hJ187⟩ : ∃ J : Act → World → Prop, ∀ a w, J a w ↔ (∃ (x172 : List Int) (b170 : Nat) (p173 : Option Addr) (c174 : Nat) (ih168 : IH), update_Request_r2 k x5 x6 x1 x172 = some r ∧ Sees a 29 [(6, (pt b117 0)), (8, (pt b170 0))] ∧ St g w [bx b117 [vu64 0, vi64 0, vu64 0, vi64 0, vu32 0, vu64 0, .slice none 0 0] 96, bx b170 [vu64 0, vi64 x5, vu64 x6, vi64 x1.f0, vu32 x1.f1, vu64 x1.f2, .slice p173 x172.length c174] 96, F] ih168 ∧ Le ih ih168 ∧ RSl e5 ih168 [] p173 c174 x172) := ⟨_, fun _ _ => Iff.rfl⟩
  refine c_draw (by kernel_rfl) (N := 14) rfl S119 J187 ?_ ?_
  · have hw := hw.drew
    have hS : S119 (Array.replicate 14 false) _ := SX_now hS119 (hw.vws [0, 1, 2]) (by kernel_rfl)
    refine d_pures (fuel := 11) kS119 hs hS [0, 1, 2] [3, 6, 10, 11, 12] [(3, (pt b115 0)), (6, (pt b117 0)), (10, vi64 x5), (11, vu64 x6), (12, (pt b115 0))] (by kernel_rfl) fun a hs hS => ?_
    refine d_load (fuel := 10) kS119 hs hS 3 rfl (by kernel_rfl) (SX_box hS119 1 rfl (by kernel_rfl)) 0 (by kernel_rfl) (by kernel_rfl) (v := vi64 x1.f0) (by kernel_rfl) fun a hs hS => ?_
    refine d_pures (fuel := 9) kS119 hs hS [4] [3, 6, 10, 11, 13, 14] [(3, (pt b115 0)), (6, (pt b117 0)), (10, vi64 x5), (11, vu64 x6), (13, vi64 x1.f0), (14, (pt b115 1))] (by kernel_rfl) fun a hs hS => ?_
    refine d_load (fuel := 8) kS119 hs hS 5 rfl (by kernel_rfl) (SX_box hS119 1 rfl (by kernel_rfl)) 1 (by kernel_rfl) (by kernel_rfl) (v := vu32 x1.f1) (by kernel_rfl) fun a hs hS => ?_
    refine d_pures (fuel := 7) kS119 hs hS [6] [3, 6, 10, 11, 13, 15, 16] [(3, (pt b115 0)), (6, (pt b117 0)), (10, vi64 x5), (11, vu64 x6), (13, vi64 x1.f0), (15, vu32 x1.f1), (16, (pt b115 2))] (by kernel_rfl) fun a hs hS => ?_
    refine d_load (fuel := 6) kS119 hs hS 7 rfl (by kernel_rfl) (SX_box hS119 1 rfl (by kernel_rfl)) 2 (by kernel_rfl) (by kernel_rfl) (v := vu64 x1.f2) (by kernel_rfl) fun a hs hS => ?_
    refine d_pures (fuel := 5) kS119 hs hS [8] [6, 10, 11, 13, 15, 17, 18] [(6, (pt b117 0)), (10, vi64 x5), (11, vu64 x6), (13, vi64 x1.f0), (15, vu32 x1.f1), (17, vu64 x1.f2), (18, (pt b115 3))] (by kernel_rfl) fun a hs hS => ?_
    refine d_load (fuel := 4) kS119 hs hS 9 rfl (by kernel_rfl) (SX_box hS119 1 rfl (by kernel_rfl)) 3 (by kernel_rfl) (by kernel_rfl) (v := .slice p2 x1.f3.length c3) (by kernel_rfl) fun a hs hS => ?_
    refine d_all (fuel := 3) (rs := [10, 12]) (by kernel_rfl) (by simp) (all2 ?_ (all1 ?_))
    · obtain ⟨y188, h189, hx186⟩ := bindE hx186
      refine o_call hs rfl (by kernel_rfl) (by kernel_rfl) (bytes_Clone_s h189 h4 (nilSub _) ((hw.pick [0, 1, 2] (by kernel_rfl)).pack 0)) fun a w v hv hs => ?_
      obtain ⟨p190, c191, d193, rfl, hw, h192⟩ := hv
      replace hw := hw.unpack 1 rfl
      refine dg_next (SX_now hS119 ((hw.vws [1, 2, 3]).anti (Le.refl _)) (by kernel_rfl)) fun hS => ?_
      obtain ⟨ih195, hle196, hw, h197⟩ := (hw.pick [0, 1, 2, 3] (by kernel_rfl)).fz (h192.mono (Le.refl _))
      refine d_pures (fuel := 2) kS119 hs hS [11] [6, 21] [(6, (pt b117 0)), (21, .agg #[vu64 0, vi64 x5, vu64 x6, vi64 x1.f0, vu32 x1.f1, vu64 x1.f2, .slice p190 y188.length c191])] (by kernel_rfl) fun a hs hS => ?_
      refine d_all (fuel := 1) (rs := [12]) (by kernel_rfl) (by simp) (all1 ?_)
      refine o_new hs rfl hw [vu64 0, vi64 0, vu64 0, vi64 0, vu32 0, vu64 0, .slice none 0 0] 96 (fun b => (pt b 0)) (by kernel_rfl) (fun _ => by kernel_rfl) fun a w b198 hs hw => ?_
      refine dg_next (SX_now hS119 ((hw.vws [1, 2, 3]).anti hle196) (by kernel_rfl)) fun hS => ?_
      refine d_all (fuel := 0) (rs := [13]) (by kernel_rfl) (by simp) (all1 ?_)
      refine o_store hs hw rfl 0 rfl 0 (by kernel_rfl) (by kernel_rfl) (v := .agg #[vu64 0, vi64 x5, vu64 x6, vi64 x1.f0, vu32 x1.f1, vu64 x1.f2, .slice p190 y188.length c191]) (by kernel_rfl) (by kernel_rfl) (by kernel_rfl) (by kernel_rfl) fun a w hs hw => ?_
      refine dg_next (SX_now hS119 ((hw.vws [1, 2, 3]).anti hle196) (by kernel_rfl)) fun hS => ?_
      refine d_done (by kernel_rfl) ?_
      obtain rfl := someE hx186
      exact (hJ187 _ _).2 ⟨y188, b198, p190, c191, ih195, hk, hs.cast [6, 8] (by kernel_rfl), hw.pick [1, 0, 3] (by kernel_rfl), hle196, h197⟩
    refine o_new hs rfl hw [vu64 0, vi64 0, vu64 0, vi64 0, vu32 0, vu64 0, .slice none 0 0] 96 (fun b => (pt b 0)) (by kernel_rfl) (fun _ => by kernel_rfl) fun a w b200 hs hw => ?_
    refine dg_next (SX_now hS119 ((hw.vws [1, 2, 3]).anti (Le.refl _)) (by kernel_rfl)) fun hS => ?_
    refine d_all (fuel := 2) (rs := [10]) (by kernel_rfl) (by simp) (all1 ?_)
    obtain ⟨y202, h203, hx186⟩ := bindE hx186
    refine o_call hs rfl (by kernel_rfl) (by kernel_rfl) (bytes_Clone_s h203 h4 (nilSub _) ((hw.pick [0, 1, 2, 3] (by kernel_rfl)).pack 0)) fun a w v hv hs => ?_
    obtain ⟨p204, c205, d207, rfl, hw, h206⟩ := hv
    replace hw := hw.unpack 1 rfl
    refine dg_next (SX_now hS119 ((hw.vws [2, 3, 4]).anti (Le.refl _)) (by kernel_rfl)) fun hS => ?_
    obtain ⟨ih209, hle210, hw, h211⟩ := (hw.pick [0, 1, 2, 3, 4] (by kernel_rfl)).fz (h206.mono (Le.refl _))
    refine d_pures (fuel := 1) kS119 hs hS [11] [6, 8, 21] [(6, (pt b117 0)), (8, (pt b200 0)), (21, .agg #[vu64 0, vi64 x5, vu64 x6, vi64 x1.f0, vu32 x1.f1, vu64 x1.f2, .slice p204 y202.length c205])] (by kernel_rfl) fun a hs hS => ?_
    refine d_all (fuel := 0) (rs := [13]) (by kernel_rfl) (by simp) (all1 ?_)
    refine o_store hs hw rfl 0 rfl 0 (by kernel_rfl) (by kernel_rfl) (v := .agg #[vu64 0, vi64 x5, vu64 x6, vi64 x1.f0, vu32 x1.f1, vu64 x1.f2, .slice p204 y202.length c205]) (by kernel_rfl) (by kernel_rfl) (by kernel_rfl) (by kernel_rfl) fun a w hs hw => ?_
    refine dg_next (SX_now hS119 ((hw.vws [1, 2, 3]).anti hle210) (by kernel_rfl)) fun hS => ?_
    refine d_done (by kernel_rfl) ?_
    obtain rfl := someE hx186
    exact (hJ187 _ _).2 ⟨y202, b200, p204, c205, ih209, hk, hs.cast [6, 8] (by kernel_rfl), hw.pick [1, 0, 3] (by kernel_rfl), hle210, h211⟩
  intro a w hh
  obtain ⟨x172, b170, p173, c174, ih168, hk, hs, hw, hle169, h175⟩ := (hJ187 _ _).1 hh
  refine c_seq ?_
  refine c_seq ?_
  refine c_region ?_
  refine s_load hs (hw.at_ 1 rfl) 0 (by kernel_rfl) (by kernel_rfl) (v := .agg #[vu64 0, vi64 x5, vu64 x6, vi64 x1.f0, vu32 x1.f1, vu64 x1.f2, .slice p173 x172.length c174]) (by kernel_rfl) fun a hs => ?_
  obtain ⟨y180, h181, hk⟩ := bindE hk
  refine s_call hs (by kernel_rfl) (by kernel_rfl) (update_Asked_s h181 h175 (hG.mono hle169) ((hw.pick [0, 1, 2] (by kernel_rfl)).pack 0)) fun a w v hv hs => ?_
  obtain ⟨ih182, rfl, hw, hle183⟩ := hv
  replace hw := hw.unpack 0 rfl
  refine pures hs 1 [6, 8, 9] [(6, (pt b117 0)), (8, (pt b170 0)), (9, vi64 y180)] (by kernel_rfl) fun a hs => ?_
  refine s_end ?_
  refine c_seq ?_
  refine c_region ?_
  refine pures hs 2 [6, 8, 9, 25] [(6, (pt b117 0)), (8, (pt b170 0)), (9, vi64 y180), (25, .bool (y180 != 0))] (by kernel_rfl) fun a hs => ?_
  refine s_end ?_
  rcases ifbE hk with ⟨h184, hk⟩ | ⟨h184, hk⟩
  · refine c_cond1 hs (by kernel_rfl) (t := (y180 != 0)) (by kernel_rfl) h184 ?_
    refine c_seq ?_
    refine c_region ?_
    refine pures hs 2 [6, 26, 27] [(6, (pt b117 0)), (26, .agg #[vu64 0, vi64 0, vu64 0, vi64 0, vu32 0, vu64 0, .slice none 0 0]), (27, vi64 y180)] (by kernel_rfl) fun a hs => ?_
    refine s_store hs hw 0 rfl 0 (by kernel_rfl) (by kernel_rfl) (v := .agg #[vu64 0, vi64 0, vu64 0, vi64 0, vu32 0, vu64 0, .slice none 0 0]) (by kernel_rfl) (by kernel_rfl) (by kernel_rfl) (by kernel_rfl) fun a w hs hw => ?_
    refine pures hs 1 [6, 7] [(6, (pt b117 0)), (7, vi64 y180)] (by kernel_rfl) fun a hs => ?_
    refine s_end ?_
    refine c_ret ?_
    obtain rfl := someE hk
    refine hQ _ _ (f_retG hs (l := [.cell 6 96, .tmp 7]) (vs := [.agg #[vu64 0, vi64 0, vu64 0, vi64 0, vu32 0, vu64 0, .slice none 0 0], vi64 y180]) rfl (⟨res_cell hs (hw.at_ 0 rfl) (by kernel_rfl) (v := .agg #[vu64 0, vi64 0, vu64 0, vi64 0, vu32 0, vu64 0, .slice none 0 0]) (by kernel_rfl), ⟨res_tmp hs (v := vi64 y180) (by kernel_rfl), trivial⟩⟩) (by kernel_rfl) ⟨ih182, none, 0, rfl, hw.pick [2] (by kernel_rfl), (hle169.trans hle183), (RSl.nil _ _ _)⟩)
  refine c_cond0 hs (by kernel_rfl) (t := (y180 != 0)) (by kernel_rfl) h184 ?_
  refine c_skip ?_
  refine c_seq ?_
  refine c_region ?_
  refine s_load hs (hw.at_ 1 rfl) 0 (by kernel_rfl) (by kernel_rfl) (v := .agg #[vu64 0, vi64 x5, vu64 x6, vi64 x1.f0, vu32 x1.f1, vu64 x1.f2, .slice p173 x172.length c174]) (by kernel_rfl) fun a hs => ?_
  refine s_store hs hw 0 rfl 0 (by kernel_rfl) (by kernel_rfl) (v := .agg #[vu64 0, vi64 x5, vu64 x6, vi64 x1.f0, vu32 x1.f1, vu64 x1.f2, .slice p173 x172.length c174]) (by kernel_rfl) (by kernel_rfl) (by kernel_rfl) (by kernel_rfl) fun a w hs hw => ?_
  refine pures hs 1 [6, 7] [(6, (pt b117 0)), (7, vi64 0)] (by kernel_rfl) fun a hs => ?_
  refine s_end ?_
  refine c_ret ?_
  obtain rfl := someE hk
  refine hQ _ _ (f_retG hs (l := [.cell 6 96, .tmp 7]) (vs := [.agg #[vu64 0, vi64 x5, vu64 x6, vi64 x1.f0, vu32 x1.f1, vu64 x1.f2, .slice p173 x172.length c174], vi64 0]) rfl (⟨res_cell hs (hw.at_ 0 rfl) (by kernel_rfl) (v := .agg #[vu64 0, vi64 x5, vu64 x6, vi64 x1.f0, vu32 x1.f1, vu64 x1.f2, .slice p173 x172.length c174]) (by kernel_rfl), ⟨res_tmp hs (v := vi64 0) (by kernel_rfl), trivial⟩⟩) (by kernel_rfl) ⟨ih182, p173, c174, rfl, hw.pick [2] (by kernel_rfl), (hle169.trans hle183), (h175.mono hle183)⟩)
def caller_Caller_check_r3 (x174 : Int) : Option Int :=
  some x174
def caller_Caller_check_r4 (k : Nat) (x34 : M26) (x3 : Int) (x5 : Int) (x133 : Bool) : Option Int :=
  if x133 = true then (
    ((update_Request k x34 x3 (IntKind.u64.wrap (x5 + 1))).bind fun y178 =>
      some y178.2 : Option Int).bind fun s196 => caller_Caller_check_r3 s196)
  else some 1
def caller_Caller_check (k : Nat) (x3 : Int) (x5 : Int) (x34 : M26) : Option Int :=
  if (x34.f0 == 1) = true then (
    if ((x34.f2 != 0) || (decide ((x34.f3.length : Int) > 0))) = true then some 4
    else some 0)
  else (if (x34.f0 == 2) = true then some (x34.f0 == 2)
    else some (x34.f0 == 3) : Option Bool).bind fun s201 => caller_Caller_check_r4 k x34 x3 x5 s201
theorem caller_Caller_check_s {k : Nat} {x3 : Int} {x4 : Int} {x5 : Int} {x6 : Int} {x9 : List M44} {x15 : Value} {x17 : Int} {x18 : Int} {x19 : Int} {x20 : List Int} {x24 : Int} {x25 : Value} {x27 : Int} {x28 : Int} {x29 : Int} {x30 : List Int} {x34 : M26} {b2 : Nat} {b8 : Nat} {p10 : Option Addr} {c11 : Nat} {d13 : Ch} {p21 : Option Addr} {c22 : Nat} {p31 : Option Addr} {c32 : Nat} {p35 : Option Addr} {c36 : Nat} {r : Int} (hk : caller_Caller_check k x3 x5 x34 = some r) {g w : World} {F : Ch} {ih : IH} (h12 : OSl e44 ih p10 c11 x9 d13) (h16 : x15.oneCell' = true) (h23 : RSl e5 ih [] p21 c22 x20) (h26 : x25.oneCell' = true) (h33 : RSl e5 ih [] p31 c32 x30) (h37 : RSl e5 ih [] p35 c36 x34.f3) (hG : Glob 0 gl0 162 ih) (hw : St g w [bx b2 [vi64 x3, vi64 x4, vu64 x5, vi64 x6, (pt b8 0), vi64 x17, vu32 x18, vu64 x19, .slice p21 x20.length c22, vi64 x24, x25, vu64 x27, vi64 x28, vu64 x29, .slice p31 x30.length c32] 85, bx b8 [.slice p10 x9.length c11, x15] 113, d13, F] ih) :
    CallsR Tryz.prog 28 #[(pt b2 0), .agg #[vi64 x34.f0, vu32 x34.f1, vu64 x34.f2, .slice p35 x34.f3.length c36, vi64 x34.f4]] w fun v w' => ∃ (ih' : IH), v = vi64 r ∧ St g w' [bx b2 [vi64 x3, vi64 x4, vu64 x5, vi64 x6, (pt b8 0), vi64 x17, vu32 x18, vu64 x19, .slice p21 x20.length c22, vi64 x24, x25, vu64 x27, vi64 x28, vu64 x29, .slice p31 x30.length c32] 85, bx b8 [.slice p10 x9.length c11, x15] 113, d13, F] ih' ∧ Le ih ih' := by
  refine f_in (vs := [(pt b2 0), .agg #[vi64 x34.f0, vu32 x34.f1, vu64 x34.f2, .slice p35 x34.f3.length c36, vi64 x34.f4]]) Tryz.func28 rfl 38 rfl (by kernel_rfl) [(0, (pt b2 0)), (1, .agg #[vi64 x34.f0, vu32 x34.f1, vu64 x34.f2, .slice p35 x34.f3.length c36, vi64 x34.f4])] (by kernel_rfl) fun a Qf hQ hQn hs => ?_
  refine c_seq ?_
  refine c_region ?_
  refine s_new hs hw [vi64 x34.f0, vu32 x34.f1, vu64 x34.f2, .slice p35 x34.f3.length c36, vi64 x34.f4] 26 (fun b => (pt b 0)) (by kernel_rfl) (fun _ => by kernel_rfl) fun a w b123 hs hw => ?_
  refine pures hs 1 [0, 3] [(0, (pt b2 0)), (3, (pt b123 0))] (by kernel_rfl) fun a hs => ?_
  refine s_end ?_
  refine c_seq ?_
  refine c_region ?_
  refine pures hs 1 [0, 3, 7] [(0, (pt b2 0)), (3, (pt b123 0)), (7, (pt b123 0))] (by kernel_rfl) fun a hs => ?_
  refine s_load hs (hw.at_ 0 rfl) 0 (by kernel_rfl) (by kernel_rfl) (v := vi64 x34.f0) (by kernel_rfl) fun a hs => ?_
  refine s_end ?_
  refine c_block ?_
  refine c_seq ?_
  refine c_region ?_
  refine pures hs 2 [0, 3, 8, 9] [(0, (pt b2 0)), (3, (pt b123 0)), (8, vi64 x34.f0), (9, .bool (x34.f0 == 1))] (by kernel_rfl) fun a hs => ?_
  refine s_end ?_
  rcases ifbE hk with ⟨h125, hk⟩ | ⟨h125, hk⟩
  · refine c_cond1 hs (by kernel_rfl) (t := (x34.f0 == 1)) (by kernel_rfl) h125 ?_
    refine c_seq ?_
    refine c_seq ?_
    obtain ⟨J129, hJ129⟩ : ∃ J : Act → World → Prop, ∀ a w, J a w ↔ (Sees a 38 [(19, .bool ((x34.f2 != 0) || (decide ((x34.f3.length : Int) > 0))))] ∧ St g w [bx b2 [vi64 x3, vi64 x4, vu64 x5, vi64 x6, (pt b8 0), vi64 x17, vu32 x18, vu64 x19, .slice p21 x20.length c22, vi64 x24, x25, vu64 x27, vi64 x28, vu64 x29, .slice p31 x30.length c32] 85, bx b8 [.slice p10 x9.length c11, x15] 113, d13, F] ih) := ⟨_, fun _ _ => Iff.rfl⟩
    refine c_regJ J129 ?_ ?_
    · refine pures hs 1 [3, 11] [(3, (pt b123 0)), (11, (pt b123 2))] (by kernel_rfl) fun a hs => ?_
      refine s_load hs (hw.at_ 0 rfl) 2 (by kernel_rfl) (by kernel_rfl) (v := vu64 x34.f2) (by kernel_rfl) fun a hs => ?_
      refine pures hs 2 [3, 14] [(3, (pt b123 0)), (14, .bool (x34.f2 != 0))] (by kernel_rfl) fun a hs => ?_
      rcases boolE (x34.f2 != 0) with h130 | h130
      · replace hs := hs.altB 14 true (by kernel_rfl) h130
        refine pures hs 5 [19] [(19, .bool true)] (by kernel_rfl) fun a hs => ?_
        refine s_end ?_
        exact (hJ129 _ _).2 ⟨(hs.altB (b := true) 19 ((x34.f2 != 0) || (decide ((x34.f3.length : Int) > 0))) (by kernel_rfl) (by rw [h130] <;> rfl)).cast [19] (by kernel_rfl), hw.pick [1, 2, 3, 4] (by kernel_rfl)⟩
      replace hs := hs.altB 14 false (by kernel_rfl) h130
      refine pures hs 1 [14, 15] [(14, .bool false), (15, (pt b123 3))] (by kernel_rfl) fun a hs => ?_
      refine s_load hs (hw.at_ 0 rfl) 3 (by kernel_rfl) (by kernel_rfl) (v := .slice p35 x34.f3.length c36) (by kernel_rfl) fun a hs => ?_
      refine pures hs 3 [19] [(19, .bool (decide ((x34.f3.length : Int) > 0)))] (by kernel_rfl) fun a hs => ?_
      refine s_end ?_
      exact (hJ129 _ _).2 ⟨(hs.altB (b := (decide ((x34.f3.length : Int) > 0))) 19 ((x34.f2 != 0) || (decide ((x34.f3.length : Int) > 0))) (by kernel_rfl) (by rw [h130] <;> rfl)).cast [19] (by kernel_rfl), hw.pick [1, 2, 3, 4] (by kernel_rfl)⟩
    intro a w hh
    obtain ⟨hs, hw⟩ := (hJ129 _ _).1 hh
    rcases ifbE hk with ⟨h131, hk⟩ | ⟨h131, hk⟩
    · refine c_cond1 hs (by kernel_rfl) (t := ((x34.f2 != 0) || (decide ((x34.f3.length : Int) > 0)))) (by kernel_rfl) h131 ?_
      refine c_seq ?_
      refine c_region ?_
      refine pures hs 1 [4] [(4, vi64 4)] (by kernel_rfl) fun a hs => ?_
      refine s_end ?_
      refine c_ret ?_
      obtain rfl := someE hk
      refine hQ _ _ (f_ret1 hs rfl (v := vi64 4) (by kernel_rfl) ⟨ih, rfl, hw.pick [0, 1, 2, 3] (by kernel_rfl), (Le.refl _)⟩)
    refine c_cond0 hs (by kernel_rfl) (t := ((x34.f2 != 0) || (decide ((x34.f3.length : Int) > 0)))) (by kernel_rfl) h131 ?_
    refine c_skip ?_
    refine c_seq ?_
    refine c_region ?_
    refine pures hs 1 [4] [(4, vi64 0)] (by kernel_rfl) fun a hs => ?_
    refine s_end ?_
    refine c_ret ?_
    obtain rfl := someE hk
    refine hQ _ _ (f_ret1 hs rfl (v := vi64 0) (by kernel_rfl) ⟨ih, rfl, hw.pick [0, 1, 2, 3] (by kernel_rfl), (Le.refl _)⟩)
  refine c_cond0 hs (by kernel_rfl) (t := (x34.f0 == 1)) (by kernel_rfl) h125 ?_
  obtain ⟨y197, hx198, hk⟩ := bindE hk
  obtain ⟨J199, hJ199⟩ : ∃ J : Act → World → Prop, ∀ a w, J a w ↔ (∃ (x133 : Bool), caller_Caller_check_r4 k x34 x3 x5 x133 = some r ∧ Sees a 38 [(0, (pt b2 0)), (3, (pt b123 0)), (20, .bool x133)] ∧ St g w [bx b123 [vi64 x34.f0, vu32 x34.f1, vu64 x34.f2, .slice p35 x34.f3.length c36, vi64 x34.f4] 26, bx b2 [vi64 x3, vi64 x4, vu64 x5, vi64 x6, (pt b8 0), vi64 x17, vu32 x18, vu64 x19, .slice p21 x20.length c22, vi64 x24, x25, vu64 x27, vi64 x28, vu64 x29, .slice p31 x30.length c32] 85, bx b8 [.slice p10 x9.length c11, x15] 113, d13, F] ih) := ⟨_, fun _ _ => Iff.rfl⟩
  refine c_seqJ J199 ?_ ?_
  · refine c_seq ?_
    refine c_region ?_
    refine pures hs 2 [0, 3, 8, 20] [(0, (pt b2 0)), (3, (pt b123 0)), (8, vi64 x34.f0), (20, .bool (x34.f0 == 2))] (by kernel_rfl) fun a hs => ?_
    refine s_end ?_
    rcases ifbE hx198 with ⟨h200, hx198⟩ | ⟨h200, hx198⟩
    · refine c_cond1 hs (by kernel_rfl) (t := (x34.f0 == 2)) (by kernel_rfl) h200 ?_
      refine c_skip ?_
      obtain rfl := someE hx198
      exact (hJ199 _ _).2 ⟨(x34.f0 == 2), hk, hs.cast [0, 3, 20] (by kernel_rfl), hw.pick [0, 1, 2, 3, 4] (by kernel_rfl)⟩
    refine c_cond0 hs (by kernel_rfl) (t := (x34.f0 == 2)) (by kernel_rfl) h200 ?_
    refine c_region ?_
    refine pures hs 2 [0, 3, 20] [(0, (pt b2 0)), (3, (pt b123 0)), (20, .bool (x34.f0 == 3))] (by kernel_rfl) fun a hs => ?_
    refine s_end ?_
    obtain rfl := someE hx198
    exact (hJ199 _ _).2 ⟨(x34.f0 == 3), hk, hs.cast [0, 3, 20] (by kernel_rfl), hw.pick [0, 1, 2, 3, 4] (by kernel_rfl)⟩
  intro a w hh
  obtain ⟨x133, hk, hs, hw⟩ := (hJ199 _ _).1 hh
  rcases ifbE hk with ⟨h134, hk⟩ | ⟨h134, hk⟩
  · refine c_cond1 hs (by kernel_rfl) (t := x133) (by kernel_rfl) h134 ?_
    refine c_seq ?_
    obtain ⟨S135, hS135, kS135⟩ := mkSX (X := [([], bx b123 [vi64 x34.f0, vu32 x34.f1, vu64 x34.f2, .slice p35 x34.f3.length c36, vi64 x34.f4] 26), ([], bx b2 [vi64 x3, vi64 x4, vu64 x5, vi64 x6, (pt b8 0), vi64 x17, vu32 x18, vu64 x19, .slice p21 x20.length c22, vi64 x24, x25, vu64 x27, vi64 x28, vu64 x29, .slice p31 x30.length c32] 85), ([], bx b8 [.slice p10 x9.length c11, x15] 113), ([], d13), ([], F)]) (ih := ih) (K := []) rfl
    obtain ⟨y175, hx176, hk⟩ := bindE hk
    obtain ⟨J177, hJ177⟩ : ∃ J : Act → World → Prop, ∀ a w, J a w ↔ (∃ (x174 : Int) (ih172 : IH), caller_Caller_check_r3 x174 = some r ∧ Sees a 38 [(6, vi64 x174)] ∧ St g w [bx b2 [vi64 x3, vi64 x4, vu64 x5, vi64 x6, (pt b8 0), vi64 x17, vu32 x18, vu64 x19, .slice p21 x20.length c22, vi64 x24, x25, vu64 x27, vi64 x28, vu64 x29, .slice p31 x30.length c32] 85, bx b8 [.slice p10 x9.length c11, x15] 113, d13, F] ih172 ∧ Le ih ih172) := ⟨_, fun _ _ => Iff.rfl⟩
    refine c_draw (by kernel_rfl) (N := 17) rfl S135 J177 ?_ ?_
    · have hw := hw.drew
      have hS : S135 (Array.replicate 17 false) _ := SX_now hS135 (hw.vws [0, 1, 2, 3, 4]) (by kernel_rfl)
      refine d_load (fuel := 16) kS135 hs hS 0 rfl (by kernel_rfl) (SX_box hS135 0 rfl (by kernel_rfl)) 0 (by kernel_rfl) (by kernel_rfl) (v := .agg #[vi64 x34.f0, vu32 x34.f1, vu64 x34.f2, .slice p35 x34.f3.length c36, vi64 x34.f4]) (by kernel_rfl) fun a hs hS => ?_
      refine d_pures (fuel := 13) kS135 hs hS [1, 2, 3] [0, 24, 27] [(0, (pt b2 0)), (24, .agg #[vi64 x34.f0, vu32 x34.f1, vu64 x34.f2, .slice p35 x34.f3.length c36, vi64 x34.f4]), (27, (pt b2 0))] (by kernel_rfl) fun a hs hS => ?_
      refine d_load (fuel := 12) kS135 hs hS 4 rfl (by kernel_rfl) (SX_box hS135 1 rfl (by kernel_rfl)) 0 (by kernel_rfl) (by kernel_rfl) (v := vi64 x3) (by kernel_rfl) fun a hs hS => ?_
      refine d_pures (fuel := 9) kS135 hs hS [5, 6, 7] [24, 28, 31] [(24, .agg #[vi64 x34.f0, vu32 x34.f1, vu64 x34.f2, .slice p35 x34.f3.length c36, vi64 x34.f4]), (28, vi64 x3), (31, (pt b2 2))] (by kernel_rfl) fun a hs hS => ?_
      refine d_load (fuel := 8) kS135 hs hS 8 rfl (by kernel_rfl) (SX_box hS135 1 rfl (by kernel_rfl)) 2 (by kernel_rfl) (by kernel_rfl) (v := vu64 x5) (by kernel_rfl) fun a hs hS => ?_
      refine d_pures (fuel := 7) kS135 hs hS [9] [24, 28, 33] [(24, .agg #[vi64 x34.f0, vu32 x34.f1, vu64 x34.f2, .slice p35 x34.f3.length c36, vi64 x34.f4]), (28, vi64 x3), (33, vu64 (IntKind.u64.wrap (x5 + 1)))] (by kernel_rfl) fun a hs hS => ?_
      refine d_all (fuel := 6) (rs := [10, 14]) (by kernel_rfl) (by simp) (all2 ?_ (all1 ?_))
      · obtain ⟨y178, h179, hx176⟩ := bindE hx176
        refine o_call hs rfl (by kernel_rfl) (by kernel_rfl) (update_Request_s h179 h37 (hG.mono (Le.refl _)) ((hw.pick [0, 1, 2, 3, 4] (by kernel_rfl)).pack 0)) fun a w v hv hs => ?_
        obtain ⟨ih180, p182, c183, rfl, hw, hle181, h184⟩ := hv
        replace hw := hw.unpack 0 rfl
        refine dg_next (SX_now hS135 ((hw.vws [0, 1, 2, 3, 4]).anti hle181) (by kernel_rfl)) fun hS => ?_
        refine d_pures (fuel := 3) kS135 hs hS [11, 12, 13] [35, 36] [(35, .agg #[vu64 y178.1.f0, vi64 y178.1.f1, vu64 y178.1.f2, vi64 y178.1.f3, vu32 y178.1.f4, vu64 y178.1.f5, .slice p182 y178.1.f6.length c183]), (36, vi64 y178.2)] (by kernel_rfl) fun a hs hS => ?_
        refine d_all (fuel := 2) (rs := [14]) (by kernel_rfl) (by simp) (all1 ?_)
        refine o_new hs rfl hw [vu64 0, vi64 0, vu64 0, vi64 0, vu32 0, vu64 0, .slice none 0 0] 96 (fun b => (pt b 0)) (by kernel_rfl) (fun _ => by kernel_rfl) fun a w b185 hs hw => ?_
        refine dg_next (SX_now hS135 ((hw.vws [1, 2, 3, 4, 5]).anti hle181) (by kernel_rfl)) fun hS => ?_
        refine d_all (fuel := 1) (rs := [15]) (by kernel_rfl) (by simp) (all1 ?_)
        refine o_store hs hw rfl 0 rfl 0 (by kernel_rfl) (by kernel_rfl) (v := .agg #[vu64 y178.1.f0, vi64 y178.1.f1, vu64 y178.1.f2, vi64 y178.1.f3, vu32 y178.1.f4, vu64 y178.1.f5, .slice p182 y178.1.f6.length c183]) (by kernel_rfl) (by kernel_rfl) (by kernel_rfl) (by kernel_rfl) fun a w hs hw => ?_
        refine dg_next (SX_now hS135 ((hw.vws [1, 2, 3, 4, 5]).anti hle181) (by kernel_rfl)) fun hS => ?_
        refine d_pures (fuel := 0) kS135 hs hS [16] [6] [(6, vi64 y178.2)] (by kernel_rfl) fun a hs hS => ?_
        refine d_done (by kernel_rfl) ?_
        obtain rfl := someE hx176
        exact (hJ177 _ _).2 ⟨y178.2, ih180, hk, hs.cast [6] (by kernel_rfl), hw.pick [2, 3, 4, 5] (by kernel_rfl), hle181⟩
      refine o_new hs rfl hw [vu64 0, vi64 0, vu64 0, vi64 0, vu32 0, vu64 0, .slice none 0 0] 96 (fun b => (pt b 0)) (by kernel_rfl) (fun _ => by kernel_rfl) fun a w b187 hs hw => ?_
      refine dg_next (SX_now hS135 ((hw.vws [1, 2, 3, 4, 5]).anti (Le.refl _)) (by kernel_rfl)) fun hS => ?_
      refine d_all (fuel := 5) (rs := [10]) (by kernel_rfl) (by simp) (all1 ?_)
      obtain ⟨y189, h190, hx176⟩ := bindE hx176
      refine o_call hs rfl (by kernel_rfl) (by kernel_rfl) (update_Request_s h190 h37 (hG.mono (Le.refl _)) ((hw.pick [0, 1, 2, 3, 4, 5] (by kernel_rfl)).pack 0)) fun a w v hv hs => ?_
      obtain ⟨ih191, p193, c194, rfl, hw, hle192, h195⟩ := hv
      replace hw := hw.unpack 0 rfl
      refine dg_next (SX_now hS135 ((hw.vws [1, 2, 3, 4, 5]).anti hle192) (by kernel_rfl)) fun hS => ?_
      refine d_pures (fuel := 2) kS135 hs hS [11, 12, 13] [5, 35, 36] [(5, (pt b187 0)), (35, .agg #[vu64 y189.1.f0, vi64 y189.1.f1, vu64 y189.1.f2, vi64 y189.1.f3, vu32 y189.1.f4, vu64 y189.1.f5, .slice p193 y189.1.f6.length c194]), (36, vi64 y189.2)] (by kernel_rfl) fun a hs hS => ?_
      refine d_all (fuel := 1) (rs := [15]) (by kernel_rfl) (by simp) (all1 ?_)
      refine o_store hs hw rfl 0 rfl 0 (by kernel_rfl) (by kernel_rfl) (v := .agg #[vu64 y189.1.f0, vi64 y189.1.f1, vu64 y189.1.f2, vi64 y189.1.f3, vu32 y189.1.f4, vu64 y189.1.f5, .slice p193 y189.1.f6.length c194]) (by kernel_rfl) (by kernel_rfl) (by kernel_rfl) (by kernel_rfl) fun a w hs hw => ?_
      refine dg_next (SX_now hS135 ((hw.vws [1, 2, 3, 4, 5]).anti hle192) (by kernel_rfl)) fun hS => ?_
      refine d_pures (fuel := 0) kS135 hs hS [16] [6] [(6, vi64 y189.2)] (by kernel_rfl) fun a hs hS => ?_
      refine d_done (by kernel_rfl) ?_
      obtain rfl := someE hx176
      exact (hJ177 _ _).2 ⟨y189.2, ih191, hk, hs.cast [6] (by kernel_rfl), hw.pick [2, 3, 4, 5] (by kernel_rfl), hle192⟩
    intro a w hh
    obtain ⟨x174, ih172, hk, hs, hw, hle173⟩ := (hJ177 _ _).1 hh
    refine c_seq ?_
    refine c_region ?_
    refine pures hs 2 [4] [(4, vi64 x174)] (by kernel_rfl) fun a hs => ?_
    refine s_end ?_
    refine c_ret ?_
    obtain rfl := someE hk
    refine hQ _ _ (f_ret1 hs rfl (v := vi64 x174) (by kernel_rfl) ⟨ih172, rfl, hw.pick [0, 1, 2, 3] (by kernel_rfl), hle173⟩)
  refine c_cond0 hs (by kernel_rfl) (t := x133) (by kernel_rfl) h134 ?_
  refine c_seq ?_
  refine c_region ?_
  refine pures hs 1 [4] [(4, vi64 1)] (by kernel_rfl) fun a hs => ?_
  refine s_end ?_
  refine c_ret ?_
  obtain rfl := someE hk
  refine hQ _ _ (f_ret1 hs rfl (v := vi64 1) (by kernel_rfl) ⟨ih, rfl, hw.pick [1, 2, 3, 4] (by kernel_rfl), (Le.refl _)⟩)
def latch_New_api_Reply : Option (List Int) :=
  some ([])
theorem latch_New_api_Reply_s {r : (List Int)} (hk : latch_New_api_Reply = some r) {g w : World} {F : Ch} {ih : IH} (hw : St g w [F] ih) :
    CallsR Tryz.prog 30 #[] w fun v w' => ∃ (b13 : Nat) (p15 : Option Addr) (c16 : Nat) (d18 : Ch), v = (pt b13 0) ∧ St g w' [bx b13 [vu32 0, vi32 0, vu32 0, vu32 0, vi64 0, vu64 0, .slice p15 r.length c16] 126, d18, F] ih ∧ OSl e5 ih p15 c16 r d18 := by
  refine f_in (vs := []) Tryz.func30 rfl 3 rfl (by kernel_rfl) [] (by kernel_rfl) fun a Qf hQ hQn hs => ?_
  refine c_seq ?_
  refine c_region ?_
  refine pures hs 1 [] [] (by kernel_rfl) fun a hs => ?_
  refine s_end ?_
  refine c_seq ?_
  refine c_region ?_
  refine pures hs 1 [1] [(1, .agg #[vu32 0, vi32 0, vu32 0, vu32 0, vi64 0, vu64 0, .slice none 0 0])] (by kernel_rfl) fun a hs => ?_
  refine s_new hs hw [vu32 0, vi32 0, vu32 0, vu32 0, vi64 0, vu64 0, .slice none 0 0] 126 (fun b => (pt b 0)) (by kernel_rfl) (fun _ => by kernel_rfl) fun a w b9 hs hw => ?_
  refine pures hs 1 [0] [(0, (pt b9 0))] (by kernel_rfl) fun a hs => ?_
  refine s_end ?_
  refine c_ret ?_
  replace hw := hw.nil
  obtain rfl := someE hk
  refine hQ _ _ (f_ret1 hs rfl (v := (pt b9 0)) (by kernel_rfl) ⟨b9, none, 0, ([]), rfl, hw.pick [1, 0, 2] (by kernel_rfl), (OSl.nil _ _)⟩)
def atlas_Atlas_Confs (k : Nat) (x3 : List M44) : Option (List M44) :=
  (conf_Copy k x3).bind fun y40 =>
  some y40
theorem atlas_Atlas_Confs_s {k : Nat} {x3 : List M44} {x9 : Value} {b2 : Nat} {p4 : Option Addr} {c5 : Nat} {d7 : Ch} {r : (List M44)} (hk : atlas_Atlas_Confs k x3 = some r) {g w : World} {F : Ch} {ih : IH} (h6 : OSl e44 ih p4 c5 x3 d7) (h10 : x9.oneCell' = true) (hw : St g w [bx b2 [.slice p4 x3.length c5, x9] 113, d7, F] ih) :
    CallsR Tryz.prog 47 #[(pt b2 0)] w fun v w' => ∃ (ih' : IH) (p49 : Option Addr) (c50 : Nat) (d52 : Ch), v = .slice p49 r.length c50 ∧ St g w' [d52, bx b2 [.slice p4 x3.length c5, x9] 113, d7, F] ih' ∧ Le ih ih' ∧ OSl e44 ih' p49 c50 r d52 := by
  refine f_in (vs := [(pt b2 0)]) Tryz.func47 rfl 10 rfl (by kernel_rfl) [(0, (pt b2 0))] (by kernel_rfl) fun a Qf hQ hQn hs => ?_
  refine c_seq ?_
  refine c_region ?_
  refine pures hs 1 [0] [(0, (pt b2 0))] (by kernel_rfl) fun a hs => ?_
  refine s_end ?_
  refine c_seq ?_
  refine c_seq ?_
  refine c_region ?_
  refine pures hs 2 [0, 4] [(0, (pt b2 0)), (4, .bool false)] (by kernel_rfl) fun a hs => ?_
  refine s_end ?_
  refine c_condF hs (by kernel_rfl) (by kernel_rfl) ?_
  refine c_skip ?_
  refine c_seq ?_
  refine c_region ?_
  refine pures hs 3 [7] [(7, (pt b2 0))] (by kernel_rfl) fun a hs => ?_
  refine s_load hs (hw.at_ 0 rfl) 0 (by kernel_rfl) (by kernel_rfl) (v := .slice p4 x3.length c5) (by kernel_rfl) fun a hs => ?_
  obtain ⟨y40, h41, hk⟩ := bindE hk
  refine s_call hs (by kernel_rfl) (by kernel_rfl) (conf_Copy_s h41 h6.read (memF 1 rfl) ((hw.pick [0, 1, 2] (by kernel_rfl)).pack 0)) fun a w v hv hs => ?_
  obtain ⟨ih42, p44, c45, d47, rfl, hw, hle43, h46⟩ := hv
  replace hw := hw.unpack 1 rfl
  refine pures hs 1 [2] [(2, .slice p44 y40.length c45)] (by kernel_rfl) fun a hs => ?_
  refine s_end ?_
  refine c_ret ?_
  obtain rfl := someE hk
  refine hQ _ _ (f_ret1 hs rfl (v := .slice p44 y40.length c45) (by kernel_rfl) ⟨ih42, p44, c45, d47, rfl, hw.pick [0, 1, 2, 3] (by kernel_rfl), hle43, h46⟩)
end Go.Proofs.YteiinkhbgpldeaaGreatDoor.Sx
