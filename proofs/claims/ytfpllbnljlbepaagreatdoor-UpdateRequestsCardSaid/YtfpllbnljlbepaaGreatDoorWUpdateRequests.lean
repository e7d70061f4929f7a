/- The walk of UpdateRequests: each Go function that it calls, as a plain function, and the proof that the call computes it. Printed by the program gen.py.
   Conditions: those that each theorem states ahead of its colon, and no other. -/
import Derived.Test.YtfpllbnljlbepaaGreatDoorWUpdateRequests0
namespace Go.Proofs.YtfpllbnljlbepaaGreatDoor.Sx
open Go Go.Proofs
set_option maxRecDepth 100000
set_option linter.unusedVariables false
def letter_Check_r2 (k : Nat) (x1 : List M26) (x258 : Bool) : Option Int :=
  if x258 = true then some 4
  else (letter_updates k x1).bind fun y429 =>
  if (!y429) = true then some 4
  else some 0
def letter_Check (k : Nat) (x1 : List M26) : Option Int :=
  ((letter_bare x1).bind fun y439 =>
    (letter_Same k x1 y439.1 y439.2.1 y439.2.2).bind fun y444 =>
    some (!y444) : Option Bool).bind fun s446 => letter_Check_r2 k x1 s446
theorem letter_Check_s {k : Nat} {x1 : List M26} {p2 : Option Addr} {c3 : Nat} {r : Int} (hk : letter_Check k x1 = some r) {g w : World} {F : Ch} {ih : IH} (h4 : RSl e26 ih [] p2 c3 x1) (hG : Glob 0 gl0 110 ih) (hw : St g w [F] ih) :
    CallsR Tryz.prog 51 #[.agg #[.int .i64 17, .int .i64 1, .int .i64 1, .int .i64 0, .int .u64 1, .int .u64 0, .int .u64 0, .int .u64 0, .int .u64 0, .int .u64 0, .int .i64 0, .int .u32 0, .int .i64 0, .int .i64 0, .int .i64 0, .int .u64 0, .int .i64 0, .int .i64 0, .int .u64 0, .slice none 0 0, .bool false, .int .i64 0, .slice none 0 0, .slice p2 x1.length c3, .slice none 0 0]] w fun v w' => v = .int .i64 r ∧ St g w' [F] ih := by
  refine f_in (vs := [.agg #[.int .i64 17, .int .i64 1, .int .i64 1, .int .i64 0, .int .u64 1, .int .u64 0, .int .u64 0, .int .u64 0, .int .u64 0, .int .u64 0, .int .i64 0, .int .u32 0, .int .i64 0, .int .i64 0, .int .i64 0, .int .u64 0, .int .i64 0, .int .i64 0, .int .u64 0, .slice none 0 0, .bool false, .int .i64 0, .slice none 0 0, .slice p2 x1.length c3, .slice none 0 0]]) Tryz.func51 rfl 40 rfl (by kernel_rfl) [(0, .agg #[.int .i64 17, .int .i64 1, .int .i64 1, .int .i64 0, .int .u64 1, .int .u64 0, .int .u64 0, .int .u64 0, .int .u64 0, .int .u64 0, .int .i64 0, .int .u32 0, .int .i64 0, .int .i64 0, .int .i64 0, .int .u64 0, .int .i64 0, .int .i64 0, .int .u64 0, .slice none 0 0, .bool false, .int .i64 0, .slice none 0 0, .slice p2 x1.length c3, .slice none 0 0])] (by kernel_rfl) fun a Qf hQ hQn hs => ?_
  refine c_seq ?_
  refine c_region ?_
  refine s_new hs hw [.int .i64 17, .int .i64 1, .int .i64 1, .int .i64 0, .int .u64 1, .int .u64 0, .int .u64 0, .int .u64 0, .int .u64 0, .int .u64 0, .int .i64 0, .int .u32 0, .int .i64 0, .int .i64 0, .int .i64 0, .int .u64 0, .int .i64 0, .int .i64 0, .int .u64 0, .slice none 0 0, .bool false, .int .i64 0, .slice none 0 0, .slice p2 x1.length c3, .slice none 0 0] 90 (fun b => .pointer (some ⟨b, 0, none⟩)) (by kernel_rfl) (fun _ => by kernel_rfl) fun a w b229 hs hw => ?_
  refine pures hs 1 [1] [(1, .pointer (some ⟨b229, 0, none⟩))] (by kernel_rfl) fun a hs => ?_
  refine s_end ?_
  refine c_seq ?_
  refine c_seq ?_
  refine c_region ?_
  refine pures hs 1 [1, 5] [(1, .pointer (some ⟨b229, 0, none⟩)), (5, .pointer (some ⟨b229, 0, none⟩))] (by kernel_rfl) fun a hs => ?_
  refine s_load hs (hw.at_ 0 rfl) 0 (by kernel_rfl) (by kernel_rfl) (v := .int .i64 17) (by kernel_rfl) fun a hs => ?_
  have h234 : letter_known = some () := rfl
  refine s_call hs (by kernel_rfl) (by kernel_rfl) (letter_known_s h234 ((hw.pick [0, 1] (by kernel_rfl)).pack 0)) fun a w v hv hs => ?_
  obtain ⟨rfl, hw⟩ := hv
  replace hw := hw.unpack 0 rfl
  refine pures hs 1 [1, 8] [(1, .pointer (some ⟨b229, 0, none⟩)), (8, .bool false)] (by kernel_rfl) fun a hs => ?_
  refine s_end ?_
  refine c_condF hs (by kernel_rfl) (by kernel_rfl) ?_
  refine c_skip ?_
  refine c_seq ?_
  refine c_seq ?_
  obtain ⟨S235, hS235, kS235⟩ := mkSX (X := [([], bx b229 [.int .i64 17, .int .i64 1, .int .i64 1, .int .i64 0, .int .u64 1, .int .u64 0, .int .u64 0, .int .u64 0, .int .u64 0, .int .u64 0, .int .i64 0, .int .u32 0, .int .i64 0, .int .i64 0, .int .i64 0, .int .u64 0, .int .i64 0, .int .i64 0, .int .u64 0, .slice none 0 0, .bool false, .int .i64 0, .slice none 0 0, .slice p2 x1.length c3, .slice none 0 0] 90), ([], F)]) (ih := ih) (K := []) rfl
  obtain ⟨y432, hx433, hk⟩ := bindE hk
  obtain ⟨J434, hJ434⟩ : ∃ J : Act → World → Prop, ∀ a w, J a w ↔ (∃ (x258 : Bool), letter_Check_r2 k x1 x258 = some r ∧ Sees a 40 [(1, .pointer (some ⟨b229, 0, none⟩)), (25, .bool x258)] ∧ St g w [bx b229 [.int .i64 17, .int .i64 1, .int .i64 1, .int .i64 0, .int .u64 1, .int .u64 0, .int .u64 0, .int .u64 0, .int .u64 0, .int .u64 0, .int .i64 0, .int .u32 0, .int .i64 0, .int .i64 0, .int .i64 0, .int .u64 0, .int .i64 0, .int .i64 0, .int .u64 0, .slice none 0 0, .bool false, .int .i64 0, .slice none 0 0, .slice p2 x1.length c3, .slice none 0 0] 90, F] ih) := ⟨_, fun _ _ => Iff.rfl⟩
  refine c_draw (by kernel_rfl) (N := 17) rfl S235 J434 ?_ ?_
  · have hw := hw.drew
    have hS : S235 (Array.replicate 17 false) _ := SX_now hS235 (hw.vws [0, 1]) (by kernel_rfl)
    refine d_pures (fuel := 16) kS235 hs hS [0] [1, 9] [(1, .pointer (some ⟨b229, 0, none⟩)), (9, .pointer (some ⟨b229, 1, none⟩))] (by kernel_rfl) fun a hs hS => ?_
    refine d_load (fuel := 15) kS235 hs hS 1 rfl (by kernel_rfl) (SX_box hS235 0 rfl (by kernel_rfl)) 1 (by kernel_rfl) (by kernel_rfl) (v := .int .i64 1) (by kernel_rfl) fun a hs hS => ?_
    refine d_all (fuel := 14) (rs := [2]) (by kernel_rfl) (by simp) (all1 ?_)
    have h436 : letter_Address = some () := rfl
    refine o_call hs rfl (by kernel_rfl) (by kernel_rfl) (letter_Address_s h436 ((hw.pick [0, 1] (by kernel_rfl)).pack 0)) fun a w v hv hs => ?_
    obtain ⟨rfl, hw⟩ := hv
    replace hw := hw.unpack 0 rfl
    refine dg_next (SX_now hS235 ((hw.vws [0, 1]).anti (Le.refl _)) (by kernel_rfl)) fun hS => ?_
    refine d_pures (fuel := 11) kS235 hs hS [3, 4, 5] [1, 9, 10, 11, 12, 13, 14] [(1, .pointer (some ⟨b229, 0, none⟩)), (9, .pointer (some ⟨b229, 1, none⟩)), (10, .int .i64 1), (11, .bool true), (12, .bool false), (13, .bool false), (14, .pointer (some ⟨b229, 2, none⟩))] (by kernel_rfl) fun a hs hS => ?_
    refine d_load (fuel := 10) kS235 hs hS 6 rfl (by kernel_rfl) (SX_box hS235 0 rfl (by kernel_rfl)) 2 (by kernel_rfl) (by kernel_rfl) (v := .int .i64 1) (by kernel_rfl) fun a hs hS => ?_
    refine d_all (fuel := 9) (rs := [7]) (by kernel_rfl) (by simp) (all1 ?_)
    have h438 : letter_Address = some () := rfl
    refine o_call hs rfl (by kernel_rfl) (by kernel_rfl) (letter_Address_s h438 ((hw.pick [0, 1] (by kernel_rfl)).pack 0)) fun a w v hv hs => ?_
    obtain ⟨rfl, hw⟩ := hv
    replace hw := hw.unpack 0 rfl
    refine dg_next (SX_now hS235 ((hw.vws [0, 1]).anti (Le.refl _)) (by kernel_rfl)) fun hS => ?_
    refine d_pures (fuel := 6) kS235 hs hS [8, 9, 10] [1, 9, 10, 11, 12, 13, 14, 15, 16, 17, 18, 19] [(1, .pointer (some ⟨b229, 0, none⟩)), (9, .pointer (some ⟨b229, 1, none⟩)), (10, .int .i64 1), (11, .bool true), (12, .bool false), (13, .bool false), (14, .pointer (some ⟨b229, 2, none⟩)), (15, .int .i64 1), (16, .bool true), (17, .bool false), (18, .bool false), (19, .bool false)] (by kernel_rfl) fun a hs hS => ?_
    refine d_load (fuel := 5) kS235 hs hS 11 rfl (by kernel_rfl) (SX_box hS235 0 rfl (by kernel_rfl)) 0 (by kernel_rfl) (by kernel_rfl) (v := .agg #[.int .i64 17, .int .i64 1, .int .i64 1, .int .i64 0, .int .u64 1, .int .u64 0, .int .u64 0, .int .u64 0, .int .u64 0, .int .u64 0, .int .i64 0, .int .u32 0, .int .i64 0, .int .i64 0, .int .i64 0, .int .u64 0, .int .i64 0, .int .i64 0, .int .u64 0, .slice none 0 0, .bool false, .int .i64 0, .slice none 0 0, .slice p2 x1.length c3, .slice none 0 0]) (by kernel_rfl) fun a hs hS => ?_
    refine d_load (fuel := 4) kS235 hs hS 12 rfl (by kernel_rfl) (SX_box hS235 0 rfl (by kernel_rfl)) 0 (by kernel_rfl) (by kernel_rfl) (v := .agg #[.int .i64 17, .int .i64 1, .int .i64 1, .int .i64 0, .int .u64 1, .int .u64 0, .int .u64 0, .int .u64 0, .int .u64 0, .int .u64 0, .int .i64 0, .int .u32 0, .int .i64 0, .int .i64 0, .int .i64 0, .int .u64 0, .int .i64 0, .int .i64 0, .int .u64 0, .slice none 0 0, .bool false, .int .i64 0, .slice none 0 0, .slice p2 x1.length c3, .slice none 0 0]) (by kernel_rfl) fun a hs hS => ?_
    refine d_all (fuel := 3) (rs := [13]) (by kernel_rfl) (by simp) (all1 ?_)
    obtain ⟨y439, h440, hx433⟩ := bindE hx433
    refine o_call hs rfl (by kernel_rfl) (by kernel_rfl) (letter_bare_s h440 h4 (hG.mono (Le.refl _)) ((hw.pick [0, 1] (by kernel_rfl)).pack 0)) fun a w v hv hs => ?_
    obtain ⟨p441, c442, rfl, hw, h443⟩ := hv
    replace hw := hw.unpack 0 rfl
    refine dg_next (SX_now hS235 ((hw.vws [0, 1]).anti (Le.refl _)) (by kernel_rfl)) fun hS => ?_
    refine d_all (fuel := 2) (rs := [14]) (by kernel_rfl) (by simp) (all1 ?_)
    obtain ⟨y444, h445, hx433⟩ := bindE hx433
    refine o_call hs rfl (by kernel_rfl) (by kernel_rfl) (letter_Same_s h445 h4 h443 ((hw.pick [0, 1] (by kernel_rfl)).pack 0)) fun a w v hv hs => ?_
    obtain ⟨rfl, hw⟩ := hv
    replace hw := hw.unpack 0 rfl
    refine dg_next (SX_now hS235 ((hw.vws [0, 1]).anti (Le.refl _)) (by kernel_rfl)) fun hS => ?_
    refine d_pures (fuel := 0) kS235 hs hS [15, 16] [1, 9, 10, 11, 12, 13, 14, 15, 16, 17, 18, 19, 20, 21, 22, 23, 24, 25] [(1, .pointer (some ⟨b229, 0, none⟩)), (9, .pointer (some ⟨b229, 1, none⟩)), (10, .int .i64 1), (11, .bool true), (12, .bool false), (13, .bool false), (14, .pointer (some ⟨b229, 2, none⟩)), (15, .int .i64 1), (16, .bool true), (17, .bool false), (18, .bool false), (19, .bool false), (20, .agg #[.int .i64 17, .int .i64 1, .int .i64 1, .int .i64 0, .int .u64 1, .int .u64 0, .int .u64 0, .int .u64 0, .int .u64 0, .int .u64 0, .int .i64 0, .int .u32 0, .int .i64 0, .int .i64 0, .int .i64 0, .int .u64 0, .int .i64 0, .int .i64 0, .int .u64 0, .slice none 0 0, .bool false, .int .i64 0, .slice none 0 0, .slice p2 x1.length c3, .slice none 0 0]), (21, .agg #[.int .i64 17, .int .i64 1, .int .i64 1, .int .i64 0, .int .u64 1, .int .u64 0, .int .u64 0, .int .u64 0, .int .u64 0, .int .u64 0, .int .i64 0, .int .u32 0, .int .i64 0, .int .i64 0, .int .i64 0, .int .u64 0, .int .i64 0, .int .i64 0, .int .u64 0, .slice none 0 0, .bool false, .int .i64 0, .slice none 0 0, .slice p2 x1.length c3, .slice none 0 0]), (22, .agg #[.int .i64 17, .int .i64 1, .int .i64 1, .int .i64 y439.1, .int .u64 y439.2.1, .int .u64 0, .int .u64 0, .int .u64 0, .int .u64 0, .int .u64 0, .int .i64 0, .int .u32 0, .int .i64 0, .int .i64 0, .int .i64 0, .int .u64 0, .int .i64 0, .int .i64 0, .int .u64 0, .slice none 0 0, .bool false, .int .i64 0, .slice none 0 0, .slice p441 y439.2.2.length c442, .slice none 0 0]), (23, .bool y444), (24, .bool (!y444)), (25, .bool (!y444))] (by kernel_rfl) fun a hs hS => ?_
    refine d_done (by kernel_rfl) ?_
    obtain rfl := someE hx433
    exact (hJ434 _ _).2 ⟨(!y444), hk, hs.cast [1, 25] (by kernel_rfl), hw.pick [0, 1] (by kernel_rfl)⟩
  intro a w hh
  obtain ⟨x258, hk, hs, hw⟩ := (hJ434 _ _).1 hh
  rcases ifbE hk with ⟨h259, hk⟩ | ⟨h259, hk⟩
  · refine c_cond1 hs (by kernel_rfl) (t := x258) (by kernel_rfl) h259 ?_
    refine c_seq ?_
    refine c_region ?_
    refine pures hs 1 [2] [(2, .int .i64 4)] (by kernel_rfl) fun a hs => ?_
    refine s_end ?_
    refine c_ret ?_
    obtain rfl := someE hk
    refine hQ _ _ (f_ret1 hs rfl (v := .int .i64 4) (by kernel_rfl) ⟨rfl, hw.pick [1] (by kernel_rfl)⟩)
  refine c_cond0 hs (by kernel_rfl) (t := x258) (by kernel_rfl) h259 ?_
  refine c_skip ?_
  refine c_seq ?_
  refine c_seq ?_
  refine c_region ?_
  refine pures hs 1 [1, 26] [(1, .pointer (some ⟨b229, 0, none⟩)), (26, .pointer (some ⟨b229, 0, none⟩))] (by kernel_rfl) fun a hs => ?_
  refine s_load hs (hw.at_ 0 rfl) 0 (by kernel_rfl) (by kernel_rfl) (v := .int .i64 17) (by kernel_rfl) fun a hs => ?_
  have h274 : letter_parts = some () := rfl
  refine s_call hs (by kernel_rfl) (by kernel_rfl) (letter_parts_s h274 (hG.mono (Le.refl _)) ((hw.pick [0, 1] (by kernel_rfl)).pack 0)) fun a w v hv hs => ?_
  obtain ⟨p275, c276, d278, b280, b282, b284, rfl, hw, h277⟩ := hv
  replace hw := hw.unpack 4 rfl
  refine pures hs 2 [1, 28, 29, 30] [(1, .pointer (some ⟨b229, 0, none⟩)), (28, .slice p275 3 c276), (29, .int .i64 3), (30, .int .i64 0)] (by kernel_rfl) fun a hs => ?_
  refine s_end ?_
  refine c_block ?_
  refine wpIn_loop_rounds 4 ?_
  refine c_unr ?_
  refine c_seq ?_
  refine c_region ?_
  refine pures hs 1 [1, 28, 29, 30, 31] [(1, .pointer (some ⟨b229, 0, none⟩)), (28, .slice p275 3 c276), (29, .int .i64 3), (30, .int .i64 0), (31, .bool true)] (by kernel_rfl) fun a hs => ?_
  refine s_end ?_
  refine c_seq ?_
  refine c_condT hs (by kernel_rfl) (by kernel_rfl) ?_
  refine c_skip ?_
  refine c_seq ?_
  refine c_block ?_
  refine c_seq ?_
  refine c_region ?_
  have h370 : ix ([(M101.mk (.func (.func 86) #[] #[]) (.func (.func 102) #[] #[.pointer (some ⟨b280, 0, none⟩), .pointer (some ⟨b282, 0, none⟩)]) (.func (.func 104) #[] #[.pointer (some ⟨b282, 0, none⟩), .pointer (some ⟨b280, 0, none⟩)])), (M101.mk (.func (.func 91) #[] #[]) (.func (.func 106) #[] #[.pointer (some ⟨b284, 0, none⟩)]) (.func (.func 107) #[] #[.pointer (some ⟨b284, 0, none⟩)])), (M101.mk (.func (.func 128) #[] #[]) (.func (.func 129) #[] #[]) (.func (.func 130) #[] #[]))]) 0 = some (M101.mk (.func (.func 86) #[] #[]) (.func (.func 102) #[] #[.pointer (some ⟨b280, 0, none⟩), .pointer (some ⟨b282, 0, none⟩)]) (.func (.func 104) #[] #[.pointer (some ⟨b282, 0, none⟩), .pointer (some ⟨b280, 0, none⟩)])) := rfl
  refine s_indexO hs h277 (by kernel_rfl) (by kernel_rfl) (k := .i64) (by kernel_rfl) 101 (by kernel_rfl) (by kernel_rfl) h370 fun a r371 cs henc at372 h376 hs => ?_
  obtain ⟨rfl, h373, h374, h375⟩ := henc
  refine s_load hs (at372 _ ((hw.vw 0 rfl).anti (Le.refl _))) 0 (by kernel_rfl) (by kernel_rfl) (v := .agg #[.func (.func 86) #[] #[], .func (.func 102) #[] #[.pointer (some ⟨b280, 0, none⟩), .pointer (some ⟨b282, 0, none⟩)], .func (.func 104) #[] #[.pointer (some ⟨b282, 0, none⟩), .pointer (some ⟨b280, 0, none⟩)]]) (by kernel_rfl) fun a hs => ?_
  refine s_new hs hw [.nilFunc, .nilFunc, .nilFunc] 101 (fun b => .pointer (some ⟨b, 0, none⟩)) (by kernel_rfl) (fun _ => by kernel_rfl) fun a w b377 hs hw => ?_
  refine s_store hs hw 0 rfl 0 (by kernel_rfl) (by kernel_rfl) (v := .agg #[.func (.func 86) #[] #[], .func (.func 102) #[] #[.pointer (some ⟨b280, 0, none⟩), .pointer (some ⟨b282, 0, none⟩)], .func (.func 104) #[] #[.pointer (some ⟨b282, 0, none⟩), .pointer (some ⟨b280, 0, none⟩)]]) (by kernel_rfl) (by kernel_rfl) (by kernel_rfl) (by kernel_rfl) fun a w hs hw => ?_
  refine s_end ?_
  refine c_seq ?_
  refine c_region ?_
  refine pures hs 1 [1, 28, 29, 30, 34] [(1, .pointer (some ⟨b229, 0, none⟩)), (28, .slice p275 3 c276), (29, .int .i64 3), (30, .int .i64 0), (34, .pointer (some ⟨b377, 0, none⟩))] (by kernel_rfl) fun a hs => ?_
  refine s_load hs (hw.at_ 0 rfl) 0 (by kernel_rfl) (by kernel_rfl) (v := .func (.func 86) #[] #[]) (by kernel_rfl) fun a hs => ?_
  refine s_load hs (hw.at_ 5 rfl) 0 (by kernel_rfl) (by kernel_rfl) (v := .agg #[.int .i64 17, .int .i64 1, .int .i64 1, .int .i64 0, .int .u64 1, .int .u64 0, .int .u64 0, .int .u64 0, .int .u64 0, .int .u64 0, .int .i64 0, .int .u32 0, .int .i64 0, .int .i64 0, .int .i64 0, .int .u64 0, .int .i64 0, .int .i64 0, .int .u64 0, .slice none 0 0, .bool false, .int .i64 0, .slice none 0 0, .slice p2 x1.length c3, .slice none 0 0]) (by kernel_rfl) fun a hs => ?_
  have h382 : letter_of_1 = some () := rfl
  refine s_call hs (by kernel_rfl) (by kernel_rfl) (letter_of_1_s h382 h4 ((hw.pick [1, 2, 3, 4, 5, 6] (by kernel_rfl)).pack 0)) fun a w v hv hs => ?_
  obtain ⟨rfl, hw⟩ := hv
  replace hw := hw.unpack 0 rfl
  refine pures hs 1 [1, 28, 29, 30, 38] [(1, .pointer (some ⟨b229, 0, none⟩)), (28, .slice p275 3 c276), (29, .int .i64 3), (30, .int .i64 0), (38, .bool false)] (by kernel_rfl) fun a hs => ?_
  refine s_end ?_
  refine c_condF hs (by kernel_rfl) (by kernel_rfl) ?_
  refine c_skip ?_
  refine c_region ?_
  refine pures hs 2 [1, 28, 29, 30] [(1, .pointer (some ⟨b229, 0, none⟩)), (28, .slice p275 3 c276), (29, .int .i64 3), (30, .int .i64 1)] (by kernel_rfl) fun a hs => ?_
  refine s_end ?_
  refine c_unr ?_
  refine c_seq ?_
  refine c_region ?_
  refine pures hs 1 [1, 28, 29, 30, 31] [(1, .pointer (some ⟨b229, 0, none⟩)), (28, .slice p275 3 c276), (29, .int .i64 3), (30, .int .i64 1), (31, .bool true)] (by kernel_rfl) fun a hs => ?_
  refine s_end ?_
  refine c_seq ?_
  refine c_condT hs (by kernel_rfl) (by kernel_rfl) ?_
  refine c_skip ?_
  refine c_seq ?_
  refine c_block ?_
  refine c_seq ?_
  refine c_region ?_
  have h394 : ix ([(M101.mk (.func (.func 86) #[] #[]) (.func (.func 102) #[] #[.pointer (some ⟨b280, 0, none⟩), .pointer (some ⟨b282, 0, none⟩)]) (.func (.func 104) #[] #[.pointer (some ⟨b282, 0, none⟩), .pointer (some ⟨b280, 0, none⟩)])), (M101.mk (.func (.func 91) #[] #[]) (.func (.func 106) #[] #[.pointer (some ⟨b284, 0, none⟩)]) (.func (.func 107) #[] #[.pointer (some ⟨b284, 0, none⟩)])), (M101.mk (.func (.func 128) #[] #[]) (.func (.func 129) #[] #[]) (.func (.func 130) #[] #[]))]) 1 = some (M101.mk (.func (.func 91) #[] #[]) (.func (.func 106) #[] #[.pointer (some ⟨b284, 0, none⟩)]) (.func (.func 107) #[] #[.pointer (some ⟨b284, 0, none⟩)])) := rfl
  refine s_indexO hs h277 (by kernel_rfl) (by kernel_rfl) (k := .i64) (by kernel_rfl) 101 (by kernel_rfl) (by kernel_rfl) h394 fun a r395 cs henc at396 h400 hs => ?_
  obtain ⟨rfl, h397, h398, h399⟩ := henc
  refine s_load hs (at396 _ ((hw.vw 0 rfl).anti (Le.refl _))) 0 (by kernel_rfl) (by kernel_rfl) (v := .agg #[.func (.func 91) #[] #[], .func (.func 106) #[] #[.pointer (some ⟨b284, 0, none⟩)], .func (.func 107) #[] #[.pointer (some ⟨b284, 0, none⟩)]]) (by kernel_rfl) fun a hs => ?_
  refine s_new hs hw [.nilFunc, .nilFunc, .nilFunc] 101 (fun b => .pointer (some ⟨b, 0, none⟩)) (by kernel_rfl) (fun _ => by kernel_rfl) fun a w b401 hs hw => ?_
  refine s_store hs hw 0 rfl 0 (by kernel_rfl) (by kernel_rfl) (v := .agg #[.func (.func 91) #[] #[], .func (.func 106) #[] #[.pointer (some ⟨b284, 0, none⟩)], .func (.func 107) #[] #[.pointer (some ⟨b284, 0, none⟩)]]) (by kernel_rfl) (by kernel_rfl) (by kernel_rfl) (by kernel_rfl) fun a w hs hw => ?_
  refine s_end ?_
  refine c_seq ?_
  refine c_region ?_
  refine pures hs 1 [1, 28, 29, 30, 34] [(1, .pointer (some ⟨b229, 0, none⟩)), (28, .slice p275 3 c276), (29, .int .i64 3), (30, .int .i64 1), (34, .pointer (some ⟨b401, 0, none⟩))] (by kernel_rfl) fun a hs => ?_
  refine s_load hs (hw.at_ 0 rfl) 0 (by kernel_rfl) (by kernel_rfl) (v := .func (.func 91) #[] #[]) (by kernel_rfl) fun a hs => ?_
  refine s_load hs (hw.at_ 5 rfl) 0 (by kernel_rfl) (by kernel_rfl) (v := .agg #[.int .i64 17, .int .i64 1, .int .i64 1, .int .i64 0, .int .u64 1, .int .u64 0, .int .u64 0, .int .u64 0, .int .u64 0, .int .u64 0, .int .i64 0, .int .u32 0, .int .i64 0, .int .i64 0, .int .i64 0, .int .u64 0, .int .i64 0, .int .i64 0, .int .u64 0, .slice none 0 0, .bool false, .int .i64 0, .slice none 0 0, .slice p2 x1.length c3, .slice none 0 0]) (by kernel_rfl) fun a hs => ?_
  have h406 : letter_of_5 = some () := rfl
  refine s_call hs (by kernel_rfl) (by kernel_rfl) (letter_of_5_s h406 h4 ((hw.pick [1, 2, 3, 4, 5, 6] (by kernel_rfl)).pack 0)) fun a w v hv hs => ?_
  obtain ⟨rfl, hw⟩ := hv
  replace hw := hw.unpack 0 rfl
  refine pures hs 1 [1, 28, 29, 30, 38] [(1, .pointer (some ⟨b229, 0, none⟩)), (28, .slice p275 3 c276), (29, .int .i64 3), (30, .int .i64 1), (38, .bool false)] (by kernel_rfl) fun a hs => ?_
  refine s_end ?_
  refine c_condF hs (by kernel_rfl) (by kernel_rfl) ?_
  refine c_skip ?_
  refine c_region ?_
  refine pures hs 2 [1, 28, 29, 30] [(1, .pointer (some ⟨b229, 0, none⟩)), (28, .slice p275 3 c276), (29, .int .i64 3), (30, .int .i64 2)] (by kernel_rfl) fun a hs => ?_
  refine s_end ?_
  refine c_unr ?_
  refine c_seq ?_
  refine c_region ?_
  refine pures hs 1 [1, 28, 29, 30, 31] [(1, .pointer (some ⟨b229, 0, none⟩)), (28, .slice p275 3 c276), (29, .int .i64 3), (30, .int .i64 2), (31, .bool true)] (by kernel_rfl) fun a hs => ?_
  refine s_end ?_
  refine c_seq ?_
  refine c_condT hs (by kernel_rfl) (by kernel_rfl) ?_
  refine c_skip ?_
  refine c_seq ?_
  refine c_block ?_
  refine c_seq ?_
  refine c_region ?_
  have h418 : ix ([(M101.mk (.func (.func 86) #[] #[]) (.func (.func 102) #[] #[.pointer (some ⟨b280, 0, none⟩), .pointer (some ⟨b282, 0, none⟩)]) (.func (.func 104) #[] #[.pointer (some ⟨b282, 0, none⟩), .pointer (some ⟨b280, 0, none⟩)])), (M101.mk (.func (.func 91) #[] #[]) (.func (.func 106) #[] #[.pointer (some ⟨b284, 0, none⟩)]) (.func (.func 107) #[] #[.pointer (some ⟨b284, 0, none⟩)])), (M101.mk (.func (.func 128) #[] #[]) (.func (.func 129) #[] #[]) (.func (.func 130) #[] #[]))]) 2 = some (M101.mk (.func (.func 128) #[] #[]) (.func (.func 129) #[] #[]) (.func (.func 130) #[] #[])) := rfl
  refine s_indexO hs h277 (by kernel_rfl) (by kernel_rfl) (k := .i64) (by kernel_rfl) 101 (by kernel_rfl) (by kernel_rfl) h418 fun a r419 cs henc at420 h424 hs => ?_
  obtain ⟨rfl, h421, h422, h423⟩ := henc
  refine s_load hs (at420 _ ((hw.vw 0 rfl).anti (Le.refl _))) 0 (by kernel_rfl) (by kernel_rfl) (v := .agg #[.func (.func 128) #[] #[], .func (.func 129) #[] #[], .func (.func 130) #[] #[]]) (by kernel_rfl) fun a hs => ?_
  refine s_new hs hw [.nilFunc, .nilFunc, .nilFunc] 101 (fun b => .pointer (some ⟨b, 0, none⟩)) (by kernel_rfl) (fun _ => by kernel_rfl) fun a w b425 hs hw => ?_
  refine s_store hs hw 0 rfl 0 (by kernel_rfl) (by kernel_rfl) (v := .agg #[.func (.func 128) #[] #[], .func (.func 129) #[] #[], .func (.func 130) #[] #[]]) (by kernel_rfl) (by kernel_rfl) (by kernel_rfl) (by kernel_rfl) fun a w hs hw => ?_
  refine s_end ?_
  refine c_seq ?_
  refine c_region ?_
  refine pures hs 1 [1, 28, 29, 30, 34] [(1, .pointer (some ⟨b229, 0, none⟩)), (28, .slice p275 3 c276), (29, .int .i64 3), (30, .int .i64 2), (34, .pointer (some ⟨b425, 0, none⟩))] (by kernel_rfl) fun a hs => ?_
  refine s_load hs (hw.at_ 0 rfl) 0 (by kernel_rfl) (by kernel_rfl) (v := .func (.func 128) #[] #[]) (by kernel_rfl) fun a hs => ?_
  refine s_load hs (hw.at_ 5 rfl) 0 (by kernel_rfl) (by kernel_rfl) (v := .agg #[.int .i64 17, .int .i64 1, .int .i64 1, .int .i64 0, .int .u64 1, .int .u64 0, .int .u64 0, .int .u64 0, .int .u64 0, .int .u64 0, .int .i64 0, .int .u32 0, .int .i64 0, .int .i64 0, .int .i64 0, .int .u64 0, .int .i64 0, .int .i64 0, .int .u64 0, .slice none 0 0, .bool false, .int .i64 0, .slice none 0 0, .slice p2 x1.length c3, .slice none 0 0]) (by kernel_rfl) fun a hs => ?_
  obtain ⟨y429, h430, hk⟩ := bindE hk
  refine s_call hs (by kernel_rfl) (by kernel_rfl) (letter_updates_s h430 h4 ((hw.pick [1, 2, 3, 4, 5, 6] (by kernel_rfl)).pack 0)) fun a w v hv hs => ?_
  obtain ⟨rfl, hw⟩ := hv
  replace hw := hw.unpack 0 rfl
  refine pures hs 1 [1, 28, 29, 30, 38] [(1, .pointer (some ⟨b229, 0, none⟩)), (28, .slice p275 3 c276), (29, .int .i64 3), (30, .int .i64 2), (38, .bool (!y429))] (by kernel_rfl) fun a hs => ?_
  refine s_end ?_
  rcases ifbE hk with ⟨h431, hk⟩ | ⟨h431, hk⟩
  · refine c_cond1 hs (by kernel_rfl) (t := (!y429)) (by kernel_rfl) h431 ?_
    refine c_seq ?_
    refine c_region ?_
    refine pures hs 1 [2] [(2, .int .i64 4)] (by kernel_rfl) fun a hs => ?_
    refine s_end ?_
    refine c_ret ?_
    obtain rfl := someE hk
    refine hQ _ _ (f_ret1 hs rfl (v := .int .i64 4) (by kernel_rfl) ⟨rfl, hw.pick [5] (by kernel_rfl)⟩)
  refine c_cond0 hs (by kernel_rfl) (t := (!y429)) (by kernel_rfl) h431 ?_
  refine c_skip ?_
  refine c_region ?_
  refine pures hs 2 [1, 28, 29, 30] [(1, .pointer (some ⟨b229, 0, none⟩)), (28, .slice p275 3 c276), (29, .int .i64 3), (30, .int .i64 3)] (by kernel_rfl) fun a hs => ?_
  refine s_end ?_
  refine c_unr ?_
  refine c_seq ?_
  refine c_region ?_
  refine pures hs 1 [1, 28, 29, 30, 31] [(1, .pointer (some ⟨b229, 0, none⟩)), (28, .slice p275 3 c276), (29, .int .i64 3), (30, .int .i64 3), (31, .bool false)] (by kernel_rfl) fun a hs => ?_
  refine s_end ?_
  refine c_seq ?_
  refine c_condF hs (by kernel_rfl) (by kernel_rfl) ?_
  refine c_exit ?_
  refine c_seq ?_
  refine c_region ?_
  refine pures hs 1 [2] [(2, .int .i64 0)] (by kernel_rfl) fun a hs => ?_
  refine s_end ?_
  refine c_ret ?_
  obtain rfl := someE hk
  refine hQ _ _ (f_ret1 hs rfl (v := .int .i64 0) (by kernel_rfl) ⟨rfl, hw.pick [5] (by kernel_rfl)⟩)
def update_check (k : Nat) (x1 : M26) : Option Int :=
  (update_writes_2 x1.f3).bind fun y37 =>
  if (!y37) = true then some 1
  else if (decide ((x1.f6.length : Int) > 2048)) = true then some 6
  else (letter_Check k ([x1])).bind fun y53 =>
  some y53
theorem update_check_s {k : Nat} {x1 : M26} {p2 : Option Addr} {c3 : Nat} {r : Int} (hk : update_check k x1 = some r) {g w : World} {F : Ch} {ih : IH} (h4 : RSl e5 ih [] p2 c3 x1.f6) (hG : Glob 0 gl0 110 ih) (hw : St g w [F] ih) :
    CallsR Tryz.prog 43 #[.agg #[.int .u64 x1.f0, .int .i64 x1.f1, .int .u64 x1.f2, .int .i64 x1.f3, .int .u32 x1.f4, .int .u64 x1.f5, .slice p2 x1.f6.length c3], .int .i64 17] w fun v w' => ∃ (ih' : IH), v = .int .i64 r ∧ St g w' [F] ih' ∧ Le ih ih' := by
  refine f_in (vs := [.agg #[.int .u64 x1.f0, .int .i64 x1.f1, .int .u64 x1.f2, .int .i64 x1.f3, .int .u32 x1.f4, .int .u64 x1.f5, .slice p2 x1.f6.length c3], .int .i64 17]) Tryz.func43 rfl 20 rfl (by kernel_rfl) [(0, .agg #[.int .u64 x1.f0, .int .i64 x1.f1, .int .u64 x1.f2, .int .i64 x1.f3, .int .u32 x1.f4, .int .u64 x1.f5, .slice p2 x1.f6.length c3]), (1, .int .i64 17)] (by kernel_rfl) fun a Qf hQ hQn hs => ?_
  refine c_seq ?_
  refine c_region ?_
  refine s_new hs hw [.int .u64 x1.f0, .int .i64 x1.f1, .int .u64 x1.f2, .int .i64 x1.f3, .int .u32 x1.f4, .int .u64 x1.f5, .slice p2 x1.f6.length c3] 26 (fun b => .pointer (some ⟨b, 0, none⟩)) (by kernel_rfl) (fun _ => by kernel_rfl) fun a w b33 hs hw => ?_
  refine pures hs 1 [1, 2] [(1, .int .i64 17), (2, .pointer (some ⟨b33, 0, none⟩))] (by kernel_rfl) fun a hs => ?_
  refine s_end ?_
  refine c_seq ?_
  refine c_block ?_
  refine c_seq ?_
  refine c_region ?_
  refine pures hs 1 [1, 2, 6] [(1, .int .i64 17), (2, .pointer (some ⟨b33, 0, none⟩)), (6, .pointer (some ⟨b33, 3, none⟩))] (by kernel_rfl) fun a hs => ?_
  refine s_load hs (hw.at_ 0 rfl) 3 (by kernel_rfl) (by kernel_rfl) (v := .int .i64 x1.f3) (by kernel_rfl) fun a hs => ?_
  obtain ⟨y37, h38, hk⟩ := bindE hk
  refine s_call hs (by kernel_rfl) (by kernel_rfl) (update_writes_2_s h38 ((hw.pick [0, 1] (by kernel_rfl)).pack 0)) fun a w v hv hs => ?_
  obtain ⟨rfl, hw⟩ := hv
  replace hw := hw.unpack 0 rfl
  refine pures hs 2 [1, 2, 5] [(1, .int .i64 17), (2, .pointer (some ⟨b33, 0, none⟩)), (5, .bool (!y37))] (by kernel_rfl) fun a hs => ?_
  refine s_end ?_
  rcases ifbE hk with ⟨h39, hk⟩ | ⟨h39, hk⟩
  · refine c_cond1 hs (by kernel_rfl) (t := (!y37)) (by kernel_rfl) h39 ?_
    refine c_seq ?_
    refine c_region ?_
    refine pures hs 1 [4] [(4, .int .i64 1)] (by kernel_rfl) fun a hs => ?_
    refine s_end ?_
    refine c_ret ?_
    obtain rfl := someE hk
    refine hQ _ _ (f_ret1 hs rfl (v := .int .i64 1) (by kernel_rfl) ⟨ih, rfl, hw.pick [1] (by kernel_rfl), (Le.refl _)⟩)
  refine c_cond0 hs (by kernel_rfl) (t := (!y37)) (by kernel_rfl) h39 ?_
  refine c_seq ?_
  refine c_region ?_
  refine pures hs 1 [1, 2, 11] [(1, .int .i64 17), (2, .pointer (some ⟨b33, 0, none⟩)), (11, .pointer (some ⟨b33, 6, none⟩))] (by kernel_rfl) fun a hs => ?_
  refine s_load hs (hw.at_ 0 rfl) 6 (by kernel_rfl) (by kernel_rfl) (v := .slice p2 x1.f6.length c3) (by kernel_rfl) fun a hs => ?_
  refine pures hs 3 [1, 2, 10] [(1, .int .i64 17), (2, .pointer (some ⟨b33, 0, none⟩)), (10, .bool (decide ((x1.f6.length : Int) > 2048)))] (by kernel_rfl) fun a hs => ?_
  refine s_end ?_
  rcases ifbE hk with ⟨h40, hk⟩ | ⟨h40, hk⟩
  · refine c_cond1 hs (by kernel_rfl) (t := (decide ((x1.f6.length : Int) > 2048))) (by kernel_rfl) h40 ?_
    refine c_seq ?_
    refine c_region ?_
    refine pures hs 1 [4] [(4, .int .i64 6)] (by kernel_rfl) fun a hs => ?_
    refine s_end ?_
    refine c_ret ?_
    obtain rfl := someE hk
    refine hQ _ _ (f_ret1 hs rfl (v := .int .i64 6) (by kernel_rfl) ⟨ih, rfl, hw.pick [1] (by kernel_rfl), (Le.refl _)⟩)
  refine c_cond0 hs (by kernel_rfl) (t := (decide ((x1.f6.length : Int) > 2048))) (by kernel_rfl) h40 ?_
  refine c_skip ?_
  refine c_seq ?_
  refine c_region ?_
  refine pures hs 1 [2, 15] [(2, .pointer (some ⟨b33, 0, none⟩)), (15, .int .i64 17)] (by kernel_rfl) fun a hs => ?_
  refine s_load hs (hw.at_ 0 rfl) 0 (by kernel_rfl) (by kernel_rfl) (v := .agg #[.int .u64 x1.f0, .int .i64 x1.f1, .int .u64 x1.f2, .int .i64 x1.f3, .int .u32 x1.f4, .int .u64 x1.f5, .slice p2 x1.f6.length c3]) (by kernel_rfl) fun a hs => ?_
  refine s_new hs hw [.int .u64 x1.f0, .int .i64 x1.f1, .int .u64 x1.f2, .int .i64 x1.f3, .int .u32 x1.f4, .int .u64 x1.f5, .slice p2 x1.f6.length c3] 26 (fun b => .slice (some ⟨b, 0, none⟩) 1 1) (by kernel_rfl) (fun _ => by kernel_rfl) fun a w b48 hs hw => ?_
  obtain ⟨ih50, hle51, hw, h52⟩ := (hw.pick [0, 1, 2] (by kernel_rfl)).fz ((OSl.of1 (E := e26) (z := x1) ⟨p2, c3, rfl, h4⟩ (by simp [maxLen])).mono (Le.refl _))
  refine pures hs 1 [18] [(18, .agg #[.int .i64 17, .int .i64 1, .int .i64 1, .int .i64 0, .int .u64 1, .int .u64 0, .int .u64 0, .int .u64 0, .int .u64 0, .int .u64 0, .int .i64 0, .int .u32 0, .int .i64 0, .int .i64 0, .int .i64 0, .int .u64 0, .int .i64 0, .int .i64 0, .int .u64 0, .slice none 0 0, .bool false, .int .i64 0, .slice none 0 0, .slice (some ⟨b48, 0, none⟩) 1 1, .slice none 0 0])] (by kernel_rfl) fun a hs => ?_
  obtain ⟨y53, h54, hk⟩ := bindE hk
  refine s_call hs (by kernel_rfl) (by kernel_rfl) (letter_Check_s h54 h52 (hG.mono hle51) ((hw.pick [1] (by kernel_rfl)).pack 0)) fun a w v hv hs => ?_
  obtain ⟨rfl, hw⟩ := hv
  replace hw := hw.unpack 0 rfl
  refine pures hs 1 [4] [(4, .int .i64 y53)] (by kernel_rfl) fun a hs => ?_
  refine s_end ?_
  refine c_ret ?_
  obtain rfl := someE hk
  refine hQ _ _ (f_ret1 hs rfl (v := .int .i64 y53) (by kernel_rfl) ⟨ih50, rfl, hw.pick [0] (by kernel_rfl), hle51⟩)
def update_Asked (k : Nat) (x1 : M26) : Option Int :=
  (update_check k x1).bind fun y27 =>
  some y27
theorem update_Asked_s {k : Nat} {x1 : M26} {p2 : Option Addr} {c3 : Nat} {r : Int} (hk : update_Asked k x1 = some r) {g w : World} {F : Ch} {ih : IH} (h4 : RSl e5 ih [] p2 c3 x1.f6) (hG : Glob 0 gl0 110 ih) (hw : St g w [F] ih) :
    CallsR Tryz.prog 15 #[.agg #[.int .u64 x1.f0, .int .i64 x1.f1, .int .u64 x1.f2, .int .i64 x1.f3, .int .u32 x1.f4, .int .u64 x1.f5, .slice p2 x1.f6.length c3]] w fun v w' => ∃ (ih' : IH), v = .int .i64 r ∧ St g w' [F] ih' ∧ Le ih ih' := by
  refine f_in (vs := [.agg #[.int .u64 x1.f0, .int .i64 x1.f1, .int .u64 x1.f2, .int .i64 x1.f3, .int .u32 x1.f4, .int .u64 x1.f5, .slice p2 x1.f6.length c3]]) Tryz.func15 rfl 5 rfl (by kernel_rfl) [(0, .agg #[.int .u64 x1.f0, .int .i64 x1.f1, .int .u64 x1.f2, .int .i64 x1.f3, .int .u32 x1.f4, .int .u64 x1.f5, .slice p2 x1.f6.length c3])] (by kernel_rfl) fun a Qf hQ hQn hs => ?_
  refine c_seq ?_
  refine c_region ?_
  refine s_new hs hw [.int .u64 x1.f0, .int .i64 x1.f1, .int .u64 x1.f2, .int .i64 x1.f3, .int .u32 x1.f4, .int .u64 x1.f5, .slice p2 x1.f6.length c3] 26 (fun b => .pointer (some ⟨b, 0, none⟩)) (by kernel_rfl) (fun _ => by kernel_rfl) fun a w b21 hs hw => ?_
  refine pures hs 1 [1] [(1, .pointer (some ⟨b21, 0, none⟩))] (by kernel_rfl) fun a hs => ?_
  refine s_end ?_
  refine c_seq ?_
  refine c_region ?_
  refine s_load hs (hw.at_ 0 rfl) 0 (by kernel_rfl) (by kernel_rfl) (v := .agg #[.int .u64 x1.f0, .int .i64 x1.f1, .int .u64 x1.f2, .int .i64 x1.f3, .int .u32 x1.f4, .int .u64 x1.f5, .slice p2 x1.f6.length c3]) (by kernel_rfl) fun a hs => ?_
  obtain ⟨y27, h28, hk⟩ := bindE hk
  refine s_call hs (by kernel_rfl) (by kernel_rfl) (update_check_s h28 h4 (hG.mono (Le.refl _)) ((hw.pick [1] (by kernel_rfl)).pack 0)) fun a w v hv hs => ?_
  obtain ⟨ih29, rfl, hw, hle30⟩ := hv
  replace hw := hw.unpack 0 rfl
  refine pures hs 1 [2] [(2, .int .i64 y27)] (by kernel_rfl) fun a hs => ?_
  refine s_end ?_
  refine c_ret ?_
  obtain rfl := someE hk
  refine hQ _ _ (f_ret1 hs rfl (v := .int .i64 y27) (by kernel_rfl) ⟨ih29, rfl, hw.pick [0] (by kernel_rfl), hle30⟩)
def update_Request_r2 (k : Nat) (x5 : Int) (x6 : Int) (x1 : M42) (x172 : List Int) : Option (Int × Int × Int × Int × Int × (List Int) × Int) :=
  (update_Asked k (M26.mk 0 x5 x6 x1.f0 x1.f1 x1.f2 x172)).bind fun y180 =>
  if (y180 != 0) = true then some (0, 0, 0, 0, 0, [], y180)
  else some (x5, x6, x1.f0, x1.f1, x1.f2, x172, 0)
def update_Request (k : Nat) (x1 : M42) (x5 : Int) (x6 : Int) : Option (Int × Int × Int × Int × Int × (List Int) × Int) :=
  ((bytes_Clone x1.f3).bind fun y188 =>
    some y188 : Option (List Int)).bind fun s212 => update_Request_r2 k x5 x6 x1 s212
theorem update_Request_s {k : Nat} {x1 : M42} {x5 : Int} {x6 : Int} {p2 : Option Addr} {c3 : Nat} {r : Int × Int × Int × Int × Int × (List Int) × Int} (hk : update_Request k x1 x5 x6 = some r) {g w : World} {F : Ch} {ih : IH} (h4 : RSl e5 ih [] p2 c3 x1.f3) (hG : Glob 0 gl0 110 ih) (hw : St g w [F] ih) :
    CallsR Tryz.prog 19 #[.agg #[.int .i64 x1.f0, .int .u32 x1.f1, .int .u64 x1.f2, .slice p2 x1.f3.length c3, .int .i64 x1.f4], .int .i64 x5, .int .u64 x6] w fun v w' => ∃ (ih' : IH) (p213 : Option Addr) (c214 : Nat), v = .tuple #[.agg #[.int .u64 0, .int .i64 r.1, .int .u64 r.2.1, .int .i64 r.2.2.1, .int .u32 r.2.2.2.1, .int .u64 r.2.2.2.2.1, .slice p213 r.2.2.2.2.2.1.length c214], .int .i64 r.2.2.2.2.2.2] ∧ St g w' [F] ih' ∧ Le ih ih' ∧ RSl e5 ih' [] p213 c214 r.2.2.2.2.2.1 := by
  refine f_in (vs := [.agg #[.int .i64 x1.f0, .int .u32 x1.f1, .int .u64 x1.f2, .slice p2 x1.f3.length c3, .int .i64 x1.f4], .int .i64 x5, .int .u64 x6]) Tryz.func19 rfl 29 rfl (by kernel_rfl) [(0, .agg #[.int .i64 x1.f0, .int .u32 x1.f1, .int .u64 x1.f2, .slice p2 x1.f3.length c3, .int .i64 x1.f4]), (1, .int .i64 x5), (2, .int .u64 x6)] (by kernel_rfl) fun a Qf hQ hQn hs => ?_
  refine c_seq ?_
  refine c_region ?_
  refine s_new hs hw [.int .i64 x1.f0, .int .u32 x1.f1, .int .u64 x1.f2, .slice p2 x1.f3.length c3, .int .i64 x1.f4] 42 (fun b => .pointer (some ⟨b, 0, none⟩)) (by kernel_rfl) (fun _ => by kernel_rfl) fun a w b115 hs hw => ?_
  refine s_new hs hw [.int .u64 0, .int .i64 0, .int .u64 0, .int .i64 0, .int .u32 0, .int .u64 0, .slice none 0 0] 26 (fun b => .pointer (some ⟨b, 0, none⟩)) (by kernel_rfl) (fun _ => by kernel_rfl) fun a w b117 hs hw => ?_
  refine pures hs 1 [1, 2, 3, 6] [(1, .int .i64 x5), (2, .int .u64 x6), (3, .pointer (some ⟨b115, 0, none⟩)), (6, .pointer (some ⟨b117, 0, none⟩))] (by kernel_rfl) fun a hs => ?_
  refine s_end ?_
  refine c_seq ?_
  obtain ⟨S119, hS119, kS119⟩ := mkSX (X := [([], bx b117 [.int .u64 0, .int .i64 0, .int .u64 0, .int .i64 0, .int .u32 0, .int .u64 0, .slice none 0 0] 26), ([], bx b115 [.int .i64 x1.f0, .int .u32 x1.f1, .int .u64 x1.f2, .slice p2 x1.f3.length c3, .int .i64 x1.f4] 42), ([], F)]) (ih := ih) (K := []) rfl
  obtain ⟨y185, hx186, hk⟩ := bindE hk
  obtain ⟨J187, hJ187⟩ : ∃ J : Act → World → Prop, ∀ a w, J a w ↔ (∃ (x172 : List Int) (b170 : Nat) (p173 : Option Addr) (c174 : Nat) (ih168 : IH), update_Request_r2 k x5 x6 x1 x172 = some r ∧ Sees a 29 [(6, .pointer (some ⟨b117, 0, none⟩)), (8, .pointer (some ⟨b170, 0, none⟩))] ∧ St g w [bx b117 [.int .u64 0, .int .i64 0, .int .u64 0, .int .i64 0, .int .u32 0, .int .u64 0, .slice none 0 0] 26, bx b170 [.int .u64 0, .int .i64 x5, .int .u64 x6, .int .i64 x1.f0, .int .u32 x1.f1, .int .u64 x1.f2, .slice p173 x172.length c174] 26, F] ih168 ∧ Le ih ih168 ∧ RSl e5 ih168 [] p173 c174 x172) := ⟨_, fun _ _ => Iff.rfl⟩
  refine c_draw (by kernel_rfl) (N := 14) rfl S119 J187 ?_ ?_
  · have hw := hw.drew
    have hS : S119 (Array.replicate 14 false) _ := SX_now hS119 (hw.vws [0, 1, 2]) (by kernel_rfl)
    refine d_pures (fuel := 11) kS119 hs hS [0, 1, 2] [1, 2, 3, 6, 10, 11, 12] [(1, .int .i64 x5), (2, .int .u64 x6), (3, .pointer (some ⟨b115, 0, none⟩)), (6, .pointer (some ⟨b117, 0, none⟩)), (10, .int .i64 x5), (11, .int .u64 x6), (12, .pointer (some ⟨b115, 0, none⟩))] (by kernel_rfl) fun a hs hS => ?_
    refine d_load (fuel := 10) kS119 hs hS 3 rfl (by kernel_rfl) (SX_box hS119 1 rfl (by kernel_rfl)) 0 (by kernel_rfl) (by kernel_rfl) (v := .int .i64 x1.f0) (by kernel_rfl) fun a hs hS => ?_
    refine d_pures (fuel := 9) kS119 hs hS [4] [1, 2, 3, 6, 10, 11, 12, 13, 14] [(1, .int .i64 x5), (2, .int .u64 x6), (3, .pointer (some ⟨b115, 0, none⟩)), (6, .pointer (some ⟨b117, 0, none⟩)), (10, .int .i64 x5), (11, .int .u64 x6), (12, .pointer (some ⟨b115, 0, none⟩)), (13, .int .i64 x1.f0), (14, .pointer (some ⟨b115, 1, none⟩))] (by kernel_rfl) fun a hs hS => ?_
    refine d_load (fuel := 8) kS119 hs hS 5 rfl (by kernel_rfl) (SX_box hS119 1 rfl (by kernel_rfl)) 1 (by kernel_rfl) (by kernel_rfl) (v := .int .u32 x1.f1) (by kernel_rfl) fun a hs hS => ?_
    refine d_pures (fuel := 7) kS119 hs hS [6] [1, 2, 3, 6, 10, 11, 12, 13, 14, 15, 16] [(1, .int .i64 x5), (2, .int .u64 x6), (3, .pointer (some ⟨b115, 0, none⟩)), (6, .pointer (some ⟨b117, 0, none⟩)), (10, .int .i64 x5), (11, .int .u64 x6), (12, .pointer (some ⟨b115, 0, none⟩)), (13, .int .i64 x1.f0), (14, .pointer (some ⟨b115, 1, none⟩)), (15, .int .u32 x1.f1), (16, .pointer (some ⟨b115, 2, none⟩))] (by kernel_rfl) fun a hs hS => ?_
    refine d_load (fuel := 6) kS119 hs hS 7 rfl (by kernel_rfl) (SX_box hS119 1 rfl (by kernel_rfl)) 2 (by kernel_rfl) (by kernel_rfl) (v := .int .u64 x1.f2) (by kernel_rfl) fun a hs hS => ?_
    refine d_pures (fuel := 5) kS119 hs hS [8] [1, 2, 3, 6, 10, 11, 12, 13, 14, 15, 16, 17, 18] [(1, .int .i64 x5), (2, .int .u64 x6), (3, .pointer (some ⟨b115, 0, none⟩)), (6, .pointer (some ⟨b117, 0, none⟩)), (10, .int .i64 x5), (11, .int .u64 x6), (12, .pointer (some ⟨b115, 0, none⟩)), (13, .int .i64 x1.f0), (14, .pointer (some ⟨b115, 1, none⟩)), (15, .int .u32 x1.f1), (16, .pointer (some ⟨b115, 2, none⟩)), (17, .int .u64 x1.f2), (18, .pointer (some ⟨b115, 3, none⟩))] (by kernel_rfl) fun a hs hS => ?_
    refine d_load (fuel := 4) kS119 hs hS 9 rfl (by kernel_rfl) (SX_box hS119 1 rfl (by kernel_rfl)) 3 (by kernel_rfl) (by kernel_rfl) (v := .slice p2 x1.f3.length c3) (by kernel_rfl) fun a hs hS => ?_
    refine d_all (fuel := 3) (rs := [10, 12]) (by kernel_rfl) (by simp) (all2 ?_ (all1 ?_))
    · obtain ⟨y188, h189, hx186⟩ := bindE hx186
      refine o_call hs rfl (by kernel_rfl) (by kernel_rfl) (bytes_Clone_s h189 h4 (nilSub _) ((hw.pick [0, 1, 2] (by kernel_rfl)).pack 0)) fun a w v hv hs => ?_
      obtain ⟨p190, c191, d193, rfl, hw, h192⟩ := hv
      replace hw := hw.unpack 1 rfl
      refine dg_next (SX_now hS119 ((hw.vws [1, 2, 3]).anti (Le.refl _)) (by kernel_rfl)) fun hS => ?_
      obtain ⟨ih195, hle196, hw, h197⟩ := (hw.pick [0, 1, 2, 3] (by kernel_rfl)).fz (h192.mono (Le.refl _))
      refine d_pures (fuel := 2) kS119 hs hS [11] [1, 2, 3, 6, 10, 11, 12, 13, 14, 15, 16, 17, 18, 19, 20, 21] [(1, .int .i64 x5), (2, .int .u64 x6), (3, .pointer (some ⟨b115, 0, none⟩)), (6, .pointer (some ⟨b117, 0, none⟩)), (10, .int .i64 x5), (11, .int .u64 x6), (12, .pointer (some ⟨b115, 0, none⟩)), (13, .int .i64 x1.f0), (14, .pointer (some ⟨b115, 1, none⟩)), (15, .int .u32 x1.f1), (16, .pointer (some ⟨b115, 2, none⟩)), (17, .int .u64 x1.f2), (18, .pointer (some ⟨b115, 3, none⟩)), (19, .slice p2 x1.f3.length c3), (20, .slice p190 y188.length c191), (21, .agg #[.int .u64 0, .int .i64 x5, .int .u64 x6, .int .i64 x1.f0, .int .u32 x1.f1, .int .u64 x1.f2, .slice p190 y188.length c191])] (by kernel_rfl) fun a hs hS => ?_
      refine d_all (fuel := 1) (rs := [12]) (by kernel_rfl) (by simp) (all1 ?_)
      refine o_new hs rfl hw [.int .u64 0, .int .i64 0, .int .u64 0, .int .i64 0, .int .u32 0, .int .u64 0, .slice none 0 0] 26 (fun b => .pointer (some ⟨b, 0, none⟩)) (by kernel_rfl) (fun _ => by kernel_rfl) fun a w b198 hs hw => ?_
      refine dg_next (SX_now hS119 ((hw.vws [1, 2, 3]).anti hle196) (by kernel_rfl)) fun hS => ?_
      refine d_all (fuel := 0) (rs := [13]) (by kernel_rfl) (by simp) (all1 ?_)
      refine o_store hs hw rfl 0 rfl 0 (by kernel_rfl) (by kernel_rfl) (v := .agg #[.int .u64 0, .int .i64 x5, .int .u64 x6, .int .i64 x1.f0, .int .u32 x1.f1, .int .u64 x1.f2, .slice p190 y188.length c191]) (by kernel_rfl) (by kernel_rfl) (by kernel_rfl) (by kernel_rfl) fun a w hs hw => ?_
      refine dg_next (SX_now hS119 ((hw.vws [1, 2, 3]).anti hle196) (by kernel_rfl)) fun hS => ?_
      refine d_done (by kernel_rfl) ?_
      obtain rfl := someE hx186
      exact (hJ187 _ _).2 ⟨y188, b198, p190, c191, ih195, hk, hs.cast [6, 8] (by kernel_rfl), hw.pick [1, 0, 3] (by kernel_rfl), hle196, h197⟩
    refine o_new hs rfl hw [.int .u64 0, .int .i64 0, .int .u64 0, .int .i64 0, .int .u32 0, .int .u64 0, .slice none 0 0] 26 (fun b => .pointer (some ⟨b, 0, none⟩)) (by kernel_rfl) (fun _ => by kernel_rfl) fun a w b200 hs hw => ?_
    refine dg_next (SX_now hS119 ((hw.vws [1, 2, 3]).anti (Le.refl _)) (by kernel_rfl)) fun hS => ?_
    refine d_all (fuel := 2) (rs := [10]) (by kernel_rfl) (by simp) (all1 ?_)
    obtain ⟨y202, h203, hx186⟩ := bindE hx186
    refine o_call hs rfl (by kernel_rfl) (by kernel_rfl) (bytes_Clone_s h203 h4 (nilSub _) ((hw.pick [0, 1, 2, 3] (by kernel_rfl)).pack 0)) fun a w v hv hs => ?_
    obtain ⟨p204, c205, d207, rfl, hw, h206⟩ := hv
    replace hw := hw.unpack 1 rfl
    refine dg_next (SX_now hS119 ((hw.vws [2, 3, 4]).anti (Le.refl _)) (by kernel_rfl)) fun hS => ?_
    obtain ⟨ih209, hle210, hw, h211⟩ := (hw.pick [0, 1, 2, 3, 4] (by kernel_rfl)).fz (h206.mono (Le.refl _))
    refine d_pures (fuel := 1) kS119 hs hS [11] [1, 2, 3, 6, 10, 11, 12, 13, 14, 15, 16, 17, 18, 19, 8, 20, 21] [(1, .int .i64 x5), (2, .int .u64 x6), (3, .pointer (some ⟨b115, 0, none⟩)), (6, .pointer (some ⟨b117, 0, none⟩)), (10, .int .i64 x5), (11, .int .u64 x6), (12, .pointer (some ⟨b115, 0, none⟩)), (13, .int .i64 x1.f0), (14, .pointer (some ⟨b115, 1, none⟩)), (15, .int .u32 x1.f1), (16, .pointer (some ⟨b115, 2, none⟩)), (17, .int .u64 x1.f2), (18, .pointer (some ⟨b115, 3, none⟩)), (19, .slice p2 x1.f3.length c3), (8, .pointer (some ⟨b200, 0, none⟩)), (20, .slice p204 y202.length c205), (21, .agg #[.int .u64 0, .int .i64 x5, .int .u64 x6, .int .i64 x1.f0, .int .u32 x1.f1, .int .u64 x1.f2, .slice p204 y202.length c205])] (by kernel_rfl) fun a hs hS => ?_
    refine d_all (fuel := 0) (rs := [13]) (by kernel_rfl) (by simp) (all1 ?_)
    refine o_store hs hw rfl 0 rfl 0 (by kernel_rfl) (by kernel_rfl) (v := .agg #[.int .u64 0, .int .i64 x5, .int .u64 x6, .int .i64 x1.f0, .int .u32 x1.f1, .int .u64 x1.f2, .slice p204 y202.length c205]) (by kernel_rfl) (by kernel_rfl) (by kernel_rfl) (by kernel_rfl) fun a w hs hw => ?_
    refine dg_next (SX_now hS119 ((hw.vws [1, 2, 3]).anti hle210) (by kernel_rfl)) fun hS => ?_
    refine d_done (by kernel_rfl) ?_
    obtain rfl := someE hx186
    exact (hJ187 _ _).2 ⟨y202, b200, p204, c205, ih209, hk, hs.cast [6, 8] (by kernel_rfl), hw.pick [1, 0, 3] (by kernel_rfl), hle210, h211⟩
  intro a w hh
  obtain ⟨x172, b170, p173, c174, ih168, hk, hs, hw, hle169, h175⟩ := (hJ187 _ _).1 hh
  refine c_seq ?_
  refine c_seq ?_
  refine c_region ?_
  refine s_load hs (hw.at_ 1 rfl) 0 (by kernel_rfl) (by kernel_rfl) (v := .agg #[.int .u64 0, .int .i64 x5, .int .u64 x6, .int .i64 x1.f0, .int .u32 x1.f1, .int .u64 x1.f2, .slice p173 x172.length c174]) (by kernel_rfl) fun a hs => ?_
  obtain ⟨y180, h181, hk⟩ := bindE hk
  refine s_call hs (by kernel_rfl) (by kernel_rfl) (update_Asked_s h181 h175 (hG.mono hle169) ((hw.pick [0, 1, 2] (by kernel_rfl)).pack 0)) fun a w v hv hs => ?_
  obtain ⟨ih182, rfl, hw, hle183⟩ := hv
  replace hw := hw.unpack 0 rfl
  refine pures hs 1 [6, 8, 9] [(6, .pointer (some ⟨b117, 0, none⟩)), (8, .pointer (some ⟨b170, 0, none⟩)), (9, .int .i64 y180)] (by kernel_rfl) fun a hs => ?_
  refine s_end ?_
  refine c_seq ?_
  refine c_region ?_
  refine pures hs 2 [6, 8, 9, 25] [(6, .pointer (some ⟨b117, 0, none⟩)), (8, .pointer (some ⟨b170, 0, none⟩)), (9, .int .i64 y180), (25, .bool (y180 != 0))] (by kernel_rfl) fun a hs => ?_
  refine s_end ?_
  rcases ifbE hk with ⟨h184, hk⟩ | ⟨h184, hk⟩
  · refine c_cond1 hs (by kernel_rfl) (t := (y180 != 0)) (by kernel_rfl) h184 ?_
    refine c_seq ?_
    refine c_region ?_
    refine pures hs 2 [6, 26, 27] [(6, .pointer (some ⟨b117, 0, none⟩)), (26, .agg #[.int .u64 0, .int .i64 0, .int .u64 0, .int .i64 0, .int .u32 0, .int .u64 0, .slice none 0 0]), (27, .int .i64 y180)] (by kernel_rfl) fun a hs => ?_
    refine s_store hs hw 0 rfl 0 (by kernel_rfl) (by kernel_rfl) (v := .agg #[.int .u64 0, .int .i64 0, .int .u64 0, .int .i64 0, .int .u32 0, .int .u64 0, .slice none 0 0]) (by kernel_rfl) (by kernel_rfl) (by kernel_rfl) (by kernel_rfl) fun a w hs hw => ?_
    refine pures hs 1 [6, 7] [(6, .pointer (some ⟨b117, 0, none⟩)), (7, .int .i64 y180)] (by kernel_rfl) fun a hs => ?_
    refine s_end ?_
    refine c_ret ?_
    obtain rfl := someE hk
    refine hQ _ _ (f_retG hs (l := [.cell 6 26, .tmp 7]) (vs := [.agg #[.int .u64 0, .int .i64 0, .int .u64 0, .int .i64 0, .int .u32 0, .int .u64 0, .slice none 0 0], .int .i64 y180]) rfl (⟨res_cell hs (hw.at_ 0 rfl) (by kernel_rfl) (v := .agg #[.int .u64 0, .int .i64 0, .int .u64 0, .int .i64 0, .int .u32 0, .int .u64 0, .slice none 0 0]) (by kernel_rfl), ⟨res_tmp hs (v := .int .i64 y180) (by kernel_rfl), trivial⟩⟩) (by kernel_rfl) ⟨ih182, none, 0, rfl, hw.pick [2] (by kernel_rfl), (hle169.trans hle183), (RSl.nil _ _ _)⟩)
  refine c_cond0 hs (by kernel_rfl) (t := (y180 != 0)) (by kernel_rfl) h184 ?_
  refine c_skip ?_
  refine c_seq ?_
  refine c_region ?_
  refine s_load hs (hw.at_ 1 rfl) 0 (by kernel_rfl) (by kernel_rfl) (v := .agg #[.int .u64 0, .int .i64 x5, .int .u64 x6, .int .i64 x1.f0, .int .u32 x1.f1, .int .u64 x1.f2, .slice p173 x172.length c174]) (by kernel_rfl) fun a hs => ?_
  refine s_store hs hw 0 rfl 0 (by kernel_rfl) (by kernel_rfl) (v := .agg #[.int .u64 0, .int .i64 x5, .int .u64 x6, .int .i64 x1.f0, .int .u32 x1.f1, .int .u64 x1.f2, .slice p173 x172.length c174]) (by kernel_rfl) (by kernel_rfl) (by kernel_rfl) (by kernel_rfl) fun a w hs hw => ?_
  refine pures hs 1 [6, 7] [(6, .pointer (some ⟨b117, 0, none⟩)), (7, .int .i64 0)] (by kernel_rfl) fun a hs => ?_
  refine s_end ?_
  refine c_ret ?_
  obtain rfl := someE hk
  refine hQ _ _ (f_retG hs (l := [.cell 6 26, .tmp 7]) (vs := [.agg #[.int .u64 0, .int .i64 x5, .int .u64 x6, .int .i64 x1.f0, .int .u32 x1.f1, .int .u64 x1.f2, .slice p173 x172.length c174], .int .i64 0]) rfl (⟨res_cell hs (hw.at_ 0 rfl) (by kernel_rfl) (v := .agg #[.int .u64 0, .int .i64 x5, .int .u64 x6, .int .i64 x1.f0, .int .u32 x1.f1, .int .u64 x1.f2, .slice p173 x172.length c174]) (by kernel_rfl), ⟨res_tmp hs (v := .int .i64 0) (by kernel_rfl), trivial⟩⟩) (by kernel_rfl) ⟨ih182, p173, c174, rfl, hw.pick [2] (by kernel_rfl), (hle169.trans hle183), (h175.mono hle183)⟩)
def catenaryref17_check (x1 : M26) : Option Int :=
  if ((x1.f3 != 2) && (x1.f3 != 3)) = true then some 1
  else if (decide ((x1.f6.length : Int) > 2048)) = true then some 6
  else if ((!((decide (x1.f0 > 0)) == false)) || ((decide (x1.f1 < 1)) || ((decide (x1.f1 > 6)) || ((x1.f2 == 0) || ((x1.f3 == 2) && (decide (x1.f5 > 0))))))) = true then some 4
  else some 0
theorem catenaryref17_check_s {x1 : M26} {p2 : Option Addr} {c3 : Nat} {r : Int} (hk : catenaryref17_check x1 = some r) {g w : World} {F : Ch} {ih : IH} (h4 : RSl e5 ih [] p2 c3 x1.f6) (hw : St g w [F] ih) :
    CallsR Tryz.prog 44 #[.agg #[.int .u64 x1.f0, .int .i64 x1.f1, .int .u64 x1.f2, .int .i64 x1.f3, .int .u32 x1.f4, .int .u64 x1.f5, .slice p2 x1.f6.length c3], .bool false] w fun v w' => v = .int .i64 r ∧ St g w' [F] ih := by
  refine f_in (vs := [.agg #[.int .u64 x1.f0, .int .i64 x1.f1, .int .u64 x1.f2, .int .i64 x1.f3, .int .u32 x1.f4, .int .u64 x1.f5, .slice p2 x1.f6.length c3], .bool false]) Tryz.func44 rfl 47 rfl (by kernel_rfl) [(0, .agg #[.int .u64 x1.f0, .int .i64 x1.f1, .int .u64 x1.f2, .int .i64 x1.f3, .int .u32 x1.f4, .int .u64 x1.f5, .slice p2 x1.f6.length c3]), (1, .bool false)] (by kernel_rfl) fun a Qf hQ hQn hs => ?_
  refine c_seq ?_
  refine c_region ?_
  refine s_new hs hw [.int .u64 x1.f0, .int .i64 x1.f1, .int .u64 x1.f2, .int .i64 x1.f3, .int .u32 x1.f4, .int .u64 x1.f5, .slice p2 x1.f6.length c3] 26 (fun b => .pointer (some ⟨b, 0, none⟩)) (by kernel_rfl) (fun _ => by kernel_rfl) fun a w b38 hs hw => ?_
  refine pures hs 1 [1, 2] [(1, .bool false), (2, .pointer (some ⟨b38, 0, none⟩))] (by kernel_rfl) fun a hs => ?_
  refine s_end ?_
  refine c_seq ?_
  refine c_seq ?_
  obtain ⟨J43, hJ43⟩ : ∃ J : Act → World → Prop, ∀ a w, J a w ↔ (Sees a 47 [(1, .bool false), (2, .pointer (some ⟨b38, 0, none⟩)), (12, .bool ((x1.f3 != 2) && (x1.f3 != 3)))] ∧ St g w [bx b38 [.int .u64 x1.f0, .int .i64 x1.f1, .int .u64 x1.f2, .int .i64 x1.f3, .int .u32 x1.f4, .int .u64 x1.f5, .slice p2 x1.f6.length c3] 26, F] ih) := ⟨_, fun _ _ => Iff.rfl⟩
  refine c_regJ J43 ?_ ?_
  · refine pures hs 1 [1, 2, 5] [(1, .bool false), (2, .pointer (some ⟨b38, 0, none⟩)), (5, .pointer (some ⟨b38, 3, none⟩))] (by kernel_rfl) fun a hs => ?_
    refine s_load hs (hw.at_ 0 rfl) 3 (by kernel_rfl) (by kernel_rfl) (v := .int .i64 x1.f3) (by kernel_rfl) fun a hs => ?_
    refine pures hs 2 [1, 2, 8] [(1, .bool false), (2, .pointer (some ⟨b38, 0, none⟩)), (8, .bool (x1.f3 != 2))] (by kernel_rfl) fun a hs => ?_
    rcases boolE (x1.f3 != 2) with h44 | h44
    · replace hs := hs.altB 8 true (by kernel_rfl) h44
      refine pures hs 1 [1, 2, 8, 9] [(1, .bool false), (2, .pointer (some ⟨b38, 0, none⟩)), (8, .bool true), (9, .pointer (some ⟨b38, 3, none⟩))] (by kernel_rfl) fun a hs => ?_
      refine s_load hs (hw.at_ 0 rfl) 3 (by kernel_rfl) (by kernel_rfl) (v := .int .i64 x1.f3) (by kernel_rfl) fun a hs => ?_
      refine pures hs 2 [1, 2, 12] [(1, .bool false), (2, .pointer (some ⟨b38, 0, none⟩)), (12, .bool (x1.f3 != 3))] (by kernel_rfl) fun a hs => ?_
      refine s_end ?_
      exact (hJ43 _ _).2 ⟨(hs.altB 12 ((x1.f3 != 2) && (x1.f3 != 3)) (by kernel_rfl) (by rw [h44] <;> rfl)).cast [1, 2, 12] (by kernel_rfl), hw.pick [0, 1] (by kernel_rfl)⟩
    replace hs := hs.altB 8 false (by kernel_rfl) h44
    refine pures hs 4 [1, 2, 12] [(1, .bool false), (2, .pointer (some ⟨b38, 0, none⟩)), (12, .bool false)] (by kernel_rfl) fun a hs => ?_
    refine s_end ?_
    exact (hJ43 _ _).2 ⟨(hs.altB 12 ((x1.f3 != 2) && (x1.f3 != 3)) (by kernel_rfl) (by rw [h44] <;> rfl)).cast [1, 2, 12] (by kernel_rfl), hw.pick [0, 1] (by kernel_rfl)⟩
  intro a w hh
  obtain ⟨hs, hw⟩ := (hJ43 _ _).1 hh
  rcases ifbE hk with ⟨h45, hk⟩ | ⟨h45, hk⟩
  · refine c_cond1 hs (by kernel_rfl) (t := ((x1.f3 != 2) && (x1.f3 != 3))) (by kernel_rfl) h45 ?_
    refine c_seq ?_
    refine c_region ?_
    refine pures hs 1 [4] [(4, .int .i64 1)] (by kernel_rfl) fun a hs => ?_
    refine s_end ?_
    refine c_ret ?_
    obtain rfl := someE hk
    refine hQ _ _ (f_ret1 hs rfl (v := .int .i64 1) (by kernel_rfl) ⟨rfl, hw.pick [1] (by kernel_rfl)⟩)
  refine c_cond0 hs (by kernel_rfl) (t := ((x1.f3 != 2) && (x1.f3 != 3))) (by kernel_rfl) h45 ?_
  refine c_skip ?_
  refine c_seq ?_
  refine c_seq ?_
  refine c_region ?_
  refine pures hs 1 [1, 2, 13] [(1, .bool false), (2, .pointer (some ⟨b38, 0, none⟩)), (13, .pointer (some ⟨b38, 6, none⟩))] (by kernel_rfl) fun a hs => ?_
  refine s_load hs (hw.at_ 0 rfl) 6 (by kernel_rfl) (by kernel_rfl) (v := .slice p2 x1.f6.length c3) (by kernel_rfl) fun a hs => ?_
  refine pures hs 2 [1, 2, 16] [(1, .bool false), (2, .pointer (some ⟨b38, 0, none⟩)), (16, .bool (decide ((x1.f6.length : Int) > 2048)))] (by kernel_rfl) fun a hs => ?_
  refine s_end ?_
  rcases ifbE hk with ⟨h46, hk⟩ | ⟨h46, hk⟩
  · refine c_cond1 hs (by kernel_rfl) (t := (decide ((x1.f6.length : Int) > 2048))) (by kernel_rfl) h46 ?_
    refine c_seq ?_
    refine c_region ?_
    refine pures hs 1 [4] [(4, .int .i64 6)] (by kernel_rfl) fun a hs => ?_
    refine s_end ?_
    refine c_ret ?_
    obtain rfl := someE hk
    refine hQ _ _ (f_ret1 hs rfl (v := .int .i64 6) (by kernel_rfl) ⟨rfl, hw.pick [1] (by kernel_rfl)⟩)
  refine c_cond0 hs (by kernel_rfl) (t := (decide ((x1.f6.length : Int) > 2048))) (by kernel_rfl) h46 ?_
  refine c_skip ?_
  refine c_seq ?_
  refine c_seq ?_
  obtain ⟨J58, hJ58⟩ : ∃ J : Act → World → Prop, ∀ a w, J a w ↔ (Sees a 47 [(46, .bool ((!((decide (x1.f0 > 0)) == false)) || ((decide (x1.f1 < 1)) || ((decide (x1.f1 > 6)) || ((x1.f2 == 0) || ((x1.f3 == 2) && (decide (x1.f5 > 0))))))))] ∧ St g w [F] ih) := ⟨_, fun _ _ => Iff.rfl⟩
  refine c_regJ J58 ?_ ?_
  · refine pures hs 1 [1, 2, 17] [(1, .bool false), (2, .pointer (some ⟨b38, 0, none⟩)), (17, .pointer (some ⟨b38, 0, none⟩))] (by kernel_rfl) fun a hs => ?_
    refine s_load hs (hw.at_ 0 rfl) 0 (by kernel_rfl) (by kernel_rfl) (v := .int .u64 x1.f0) (by kernel_rfl) fun a hs => ?_
    refine pures hs 4 [2, 22] [(2, .pointer (some ⟨b38, 0, none⟩)), (22, .bool (!((decide (x1.f0 > 0)) == false)))] (by kernel_rfl) fun a hs => ?_
    rcases boolE (!((decide (x1.f0 > 0)) == false)) with h59 | h59
    · replace hs := hs.altB 22 true (by kernel_rfl) h59
      refine pures hs 24 [46] [(46, .bool true)] (by kernel_rfl) fun a hs => ?_
      refine s_end ?_
      exact (hJ58 _ _).2 ⟨(hs.altB 46 ((!((decide (x1.f0 > 0)) == false)) || ((decide (x1.f1 < 1)) || ((decide (x1.f1 > 6)) || ((x1.f2 == 0) || ((x1.f3 == 2) && (decide (x1.f5 > 0))))))) (by kernel_rfl) (by rw [h59] <;> rfl)).cast [46] (by kernel_rfl), hw.pick [1] (by kernel_rfl)⟩
    replace hs := hs.altB 22 false (by kernel_rfl) h59
    refine pures hs 1 [2, 22, 23] [(2, .pointer (some ⟨b38, 0, none⟩)), (22, .bool false), (23, .pointer (some ⟨b38, 1, none⟩))] (by kernel_rfl) fun a hs => ?_
    refine s_load hs (hw.at_ 0 rfl) 1 (by kernel_rfl) (by kernel_rfl) (v := .int .i64 x1.f1) (by kernel_rfl) fun a hs => ?_
    refine pures hs 3 [2, 27] [(2, .pointer (some ⟨b38, 0, none⟩)), (27, .bool (decide (x1.f1 < 1)))] (by kernel_rfl) fun a hs => ?_
    rcases boolE (decide (x1.f1 < 1)) with h60 | h60
    · replace hs := hs.altB 27 true (by kernel_rfl) h60
      refine pures hs 19 [46] [(46, .bool true)] (by kernel_rfl) fun a hs => ?_
      refine s_end ?_
      exact (hJ58 _ _).2 ⟨(hs.altB 46 ((!((decide (x1.f0 > 0)) == false)) || ((decide (x1.f1 < 1)) || ((decide (x1.f1 > 6)) || ((x1.f2 == 0) || ((x1.f3 == 2) && (decide (x1.f5 > 0))))))) (by kernel_rfl) (by rw [h59, h60] <;> rfl)).cast [46] (by kernel_rfl), hw.pick [1] (by kernel_rfl)⟩
    replace hs := hs.altB 27 false (by kernel_rfl) h60
    refine pures hs 1 [2, 27, 28] [(2, .pointer (some ⟨b38, 0, none⟩)), (27, .bool false), (28, .pointer (some ⟨b38, 1, none⟩))] (by kernel_rfl) fun a hs => ?_
    refine s_load hs (hw.at_ 0 rfl) 1 (by kernel_rfl) (by kernel_rfl) (v := .int .i64 x1.f1) (by kernel_rfl) fun a hs => ?_
    refine pures hs 3 [2, 32] [(2, .pointer (some ⟨b38, 0, none⟩)), (32, .bool (decide (x1.f1 > 6)))] (by kernel_rfl) fun a hs => ?_
    rcases boolE (decide (x1.f1 > 6)) with h61 | h61
    · replace hs := hs.altB 32 true (by kernel_rfl) h61
      refine pures hs 14 [46] [(46, .bool true)] (by kernel_rfl) fun a hs => ?_
      refine s_end ?_
      exact (hJ58 _ _).2 ⟨(hs.altB 46 ((!((decide (x1.f0 > 0)) == false)) || ((decide (x1.f1 < 1)) || ((decide (x1.f1 > 6)) || ((x1.f2 == 0) || ((x1.f3 == 2) && (decide (x1.f5 > 0))))))) (by kernel_rfl) (by rw [h59, h60, h61] <;> rfl)).cast [46] (by kernel_rfl), hw.pick [1] (by kernel_rfl)⟩
    replace hs := hs.altB 32 false (by kernel_rfl) h61
    refine pures hs 1 [2, 32, 33] [(2, .pointer (some ⟨b38, 0, none⟩)), (32, .bool false), (33, .pointer (some ⟨b38, 2, none⟩))] (by kernel_rfl) fun a hs => ?_
    refine s_load hs (hw.at_ 0 rfl) 2 (by kernel_rfl) (by kernel_rfl) (v := .int .u64 x1.f2) (by kernel_rfl) fun a hs => ?_
    refine pures hs 3 [2, 37] [(2, .pointer (some ⟨b38, 0, none⟩)), (37, .bool (x1.f2 == 0))] (by kernel_rfl) fun a hs => ?_
    rcases boolE (x1.f2 == 0) with h62 | h62
    · replace hs := hs.altB 37 true (by kernel_rfl) h62
      refine pures hs 9 [46] [(46, .bool true)] (by kernel_rfl) fun a hs => ?_
      refine s_end ?_
      exact (hJ58 _ _).2 ⟨(hs.altB 46 ((!((decide (x1.f0 > 0)) == false)) || ((decide (x1.f1 < 1)) || ((decide (x1.f1 > 6)) || ((x1.f2 == 0) || ((x1.f3 == 2) && (decide (x1.f5 > 0))))))) (by kernel_rfl) (by rw [h59, h60, h61, h62] <;> rfl)).cast [46] (by kernel_rfl), hw.pick [1] (by kernel_rfl)⟩
    replace hs := hs.altB 37 false (by kernel_rfl) h62
    refine pures hs 1 [2, 37, 38] [(2, .pointer (some ⟨b38, 0, none⟩)), (37, .bool false), (38, .pointer (some ⟨b38, 3, none⟩))] (by kernel_rfl) fun a hs => ?_
    refine s_load hs (hw.at_ 0 rfl) 3 (by kernel_rfl) (by kernel_rfl) (v := .int .i64 x1.f3) (by kernel_rfl) fun a hs => ?_
    refine pures hs 2 [2, 37, 41] [(2, .pointer (some ⟨b38, 0, none⟩)), (37, .bool false), (41, .bool (x1.f3 == 2))] (by kernel_rfl) fun a hs => ?_
    rcases boolE (x1.f3 == 2) with h63 | h63
    · replace hs := hs.altB 41 true (by kernel_rfl) h63
      refine pures hs 1 [37, 41, 42] [(37, .bool false), (41, .bool true), (42, .pointer (some ⟨b38, 5, none⟩))] (by kernel_rfl) fun a hs => ?_
      refine s_load hs (hw.at_ 0 rfl) 5 (by kernel_rfl) (by kernel_rfl) (v := .int .u64 x1.f5) (by kernel_rfl) fun a hs => ?_
      refine pures hs 3 [46] [(46, .bool (decide (x1.f5 > 0)))] (by kernel_rfl) fun a hs => ?_
      refine s_end ?_
      exact (hJ58 _ _).2 ⟨(hs.altB 46 ((!((decide (x1.f0 > 0)) == false)) || ((decide (x1.f1 < 1)) || ((decide (x1.f1 > 6)) || ((x1.f2 == 0) || ((x1.f3 == 2) && (decide (x1.f5 > 0))))))) (by kernel_rfl) (by rw [h59, h60, h61, h62, h63] <;> rfl)).cast [46] (by kernel_rfl), hw.pick [1] (by kernel_rfl)⟩
    replace hs := hs.altB 41 false (by kernel_rfl) h63
    refine pures hs 5 [46] [(46, .bool false)] (by kernel_rfl) fun a hs => ?_
    refine s_end ?_
    exact (hJ58 _ _).2 ⟨(hs.altB 46 ((!((decide (x1.f0 > 0)) == false)) || ((decide (x1.f1 < 1)) || ((decide (x1.f1 > 6)) || ((x1.f2 == 0) || ((x1.f3 == 2) && (decide (x1.f5 > 0))))))) (by kernel_rfl) (by rw [h59, h60, h61, h62, h63] <;> rfl)).cast [46] (by kernel_rfl), hw.pick [1] (by kernel_rfl)⟩
  intro a w hh
  obtain ⟨hs, hw⟩ := (hJ58 _ _).1 hh
  rcases ifbE hk with ⟨h64, hk⟩ | ⟨h64, hk⟩
  · refine c_cond1 hs (by kernel_rfl) (t := ((!((decide (x1.f0 > 0)) == false)) || ((decide (x1.f1 < 1)) || ((decide (x1.f1 > 6)) || ((x1.f2 == 0) || ((x1.f3 == 2) && (decide (x1.f5 > 0)))))))) (by kernel_rfl) h64 ?_
    refine c_seq ?_
    refine c_region ?_
    refine pures hs 1 [4] [(4, .int .i64 4)] (by kernel_rfl) fun a hs => ?_
    refine s_end ?_
    refine c_ret ?_
    obtain rfl := someE hk
    refine hQ _ _ (f_ret1 hs rfl (v := .int .i64 4) (by kernel_rfl) ⟨rfl, hw.pick [0] (by kernel_rfl)⟩)
  refine c_cond0 hs (by kernel_rfl) (t := ((!((decide (x1.f0 > 0)) == false)) || ((decide (x1.f1 < 1)) || ((decide (x1.f1 > 6)) || ((x1.f2 == 0) || ((x1.f3 == 2) && (decide (x1.f5 > 0)))))))) (by kernel_rfl) h64 ?_
  refine c_skip ?_
  refine c_seq ?_
  refine c_region ?_
  refine pures hs 1 [4] [(4, .int .i64 0)] (by kernel_rfl) fun a hs => ?_
  refine s_end ?_
  refine c_ret ?_
  obtain rfl := someE hk
  refine hQ _ _ (f_ret1 hs rfl (v := .int .i64 0) (by kernel_rfl) ⟨rfl, hw.pick [0] (by kernel_rfl)⟩)
def catenaryref17_Asked (x1 : M26) : Option Int :=
  (catenaryref17_check x1).bind fun y21 =>
  some y21
theorem catenaryref17_Asked_s {x1 : M26} {p2 : Option Addr} {c3 : Nat} {r : Int} (hk : catenaryref17_Asked x1 = some r) {g w : World} {F : Ch} {ih : IH} (h4 : RSl e5 ih [] p2 c3 x1.f6) (hw : St g w [F] ih) :
    CallsR Tryz.prog 16 #[.agg #[.int .u64 x1.f0, .int .i64 x1.f1, .int .u64 x1.f2, .int .i64 x1.f3, .int .u32 x1.f4, .int .u64 x1.f5, .slice p2 x1.f6.length c3]] w fun v w' => v = .int .i64 r ∧ St g w' [F] ih := by
  refine f_in (vs := [.agg #[.int .u64 x1.f0, .int .i64 x1.f1, .int .u64 x1.f2, .int .i64 x1.f3, .int .u32 x1.f4, .int .u64 x1.f5, .slice p2 x1.f6.length c3]]) Tryz.func16 rfl 5 rfl (by kernel_rfl) [(0, .agg #[.int .u64 x1.f0, .int .i64 x1.f1, .int .u64 x1.f2, .int .i64 x1.f3, .int .u32 x1.f4, .int .u64 x1.f5, .slice p2 x1.f6.length c3])] (by kernel_rfl) fun a Qf hQ hQn hs => ?_
  refine c_seq ?_
  refine c_region ?_
  refine s_new hs hw [.int .u64 x1.f0, .int .i64 x1.f1, .int .u64 x1.f2, .int .i64 x1.f3, .int .u32 x1.f4, .int .u64 x1.f5, .slice p2 x1.f6.length c3] 26 (fun b => .pointer (some ⟨b, 0, none⟩)) (by kernel_rfl) (fun _ => by kernel_rfl) fun a w b17 hs hw => ?_
  refine pures hs 1 [1] [(1, .pointer (some ⟨b17, 0, none⟩))] (by kernel_rfl) fun a hs => ?_
  refine s_end ?_
  refine c_seq ?_
  refine c_region ?_
  refine s_load hs (hw.at_ 0 rfl) 0 (by kernel_rfl) (by kernel_rfl) (v := .agg #[.int .u64 x1.f0, .int .i64 x1.f1, .int .u64 x1.f2, .int .i64 x1.f3, .int .u32 x1.f4, .int .u64 x1.f5, .slice p2 x1.f6.length c3]) (by kernel_rfl) fun a hs => ?_
  obtain ⟨y21, h22, hk⟩ := bindE hk
  refine s_call hs (by kernel_rfl) (by kernel_rfl) (catenaryref17_check_s h22 h4 ((hw.pick [1] (by kernel_rfl)).pack 0)) fun a w v hv hs => ?_
  obtain ⟨rfl, hw⟩ := hv
  replace hw := hw.unpack 0 rfl
  refine pures hs 1 [2] [(2, .int .i64 y21)] (by kernel_rfl) fun a hs => ?_
  refine s_end ?_
  refine c_ret ?_
  obtain rfl := someE hk
  refine hQ _ _ (f_ret1 hs rfl (v := .int .i64 y21) (by kernel_rfl) ⟨rfl, hw.pick [0] (by kernel_rfl)⟩)
def catenaryref17_Request (x1 : M42) (x5 : Int) (x6 : Int) : Option (Int × Int × Int × Int × Int × (List Int) × Int) :=
  (catenaryref17_Asked (M26.mk 0 x5 x6 x1.f0 x1.f1 x1.f2 x1.f3)).bind fun y40 =>
  if (y40 != 0) = true then some (0, 0, 0, 0, 0, [], y40)
  else some (x5, x6, x1.f0, x1.f1, x1.f2, x1.f3, 0)
theorem catenaryref17_Request_s {x1 : M42} {x5 : Int} {x6 : Int} {p2 : Option Addr} {c3 : Nat} {r : Int × Int × Int × Int × Int × (List Int) × Int} (hk : catenaryref17_Request x1 x5 x6 = some r) {g w : World} {F : Ch} {ih : IH} (h4 : RSl e5 ih [] p2 c3 x1.f3) (hw : St g w [F] ih) :
    CallsR Tryz.prog 20 #[.agg #[.int .i64 x1.f0, .int .u32 x1.f1, .int .u64 x1.f2, .slice p2 x1.f3.length c3, .int .i64 x1.f4], .int .i64 x5, .int .u64 x6] w fun v w' => ∃ (p43 : Option Addr) (c44 : Nat), v = .tuple #[.agg #[.int .u64 0, .int .i64 r.1, .int .u64 r.2.1, .int .i64 r.2.2.1, .int .u32 r.2.2.2.1, .int .u64 r.2.2.2.2.1, .slice p43 r.2.2.2.2.2.1.length c44], .int .i64 r.2.2.2.2.2.2] ∧ St g w' [F] ih ∧ RSl e5 ih [] p43 c44 r.2.2.2.2.2.1 := by
  refine f_in (vs := [.agg #[.int .i64 x1.f0, .int .u32 x1.f1, .int .u64 x1.f2, .slice p2 x1.f3.length c3, .int .i64 x1.f4], .int .i64 x5, .int .u64 x6]) Tryz.func20 rfl 28 rfl (by kernel_rfl) [(0, .agg #[.int .i64 x1.f0, .int .u32 x1.f1, .int .u64 x1.f2, .slice p2 x1.f3.length c3, .int .i64 x1.f4]), (1, .int .i64 x5), (2, .int .u64 x6)] (by kernel_rfl) fun a Qf hQ hQn hs => ?_
  refine c_seq ?_
  refine c_region ?_
  refine s_new hs hw [.int .i64 x1.f0, .int .u32 x1.f1, .int .u64 x1.f2, .slice p2 x1.f3.length c3, .int .i64 x1.f4] 42 (fun b => .pointer (some ⟨b, 0, none⟩)) (by kernel_rfl) (fun _ => by kernel_rfl) fun a w b30 hs hw => ?_
  refine s_new hs hw [.int .u64 0, .int .i64 0, .int .u64 0, .int .i64 0, .int .u32 0, .int .u64 0, .slice none 0 0] 26 (fun b => .pointer (some ⟨b, 0, none⟩)) (by kernel_rfl) (fun _ => by kernel_rfl) fun a w b32 hs hw => ?_
  refine pures hs 1 [1, 2, 3, 6] [(1, .int .i64 x5), (2, .int .u64 x6), (3, .pointer (some ⟨b30, 0, none⟩)), (6, .pointer (some ⟨b32, 0, none⟩))] (by kernel_rfl) fun a hs => ?_
  refine s_end ?_
  refine c_seq ?_
  refine c_region ?_
  refine pures hs 3 [3, 6, 10, 11, 12] [(3, .pointer (some ⟨b30, 0, none⟩)), (6, .pointer (some ⟨b32, 0, none⟩)), (10, .int .i64 x5), (11, .int .u64 x6), (12, .pointer (some ⟨b30, 0, none⟩))] (by kernel_rfl) fun a hs => ?_
  refine s_load hs (hw.at_ 1 rfl) 0 (by kernel_rfl) (by kernel_rfl) (v := .int .i64 x1.f0) (by kernel_rfl) fun a hs => ?_
  refine pures hs 1 [3, 6, 10, 11, 13, 14] [(3, .pointer (some ⟨b30, 0, none⟩)), (6, .pointer (some ⟨b32, 0, none⟩)), (10, .int .i64 x5), (11, .int .u64 x6), (13, .int .i64 x1.f0), (14, .pointer (some ⟨b30, 1, none⟩))] (by kernel_rfl) fun a hs => ?_
  refine s_load hs (hw.at_ 1 rfl) 1 (by kernel_rfl) (by kernel_rfl) (v := .int .u32 x1.f1) (by kernel_rfl) fun a hs => ?_
  refine pures hs 1 [3, 6, 10, 11, 13, 15, 16] [(3, .pointer (some ⟨b30, 0, none⟩)), (6, .pointer (some ⟨b32, 0, none⟩)), (10, .int .i64 x5), (11, .int .u64 x6), (13, .int .i64 x1.f0), (15, .int .u32 x1.f1), (16, .pointer (some ⟨b30, 2, none⟩))] (by kernel_rfl) fun a hs => ?_
  refine s_load hs (hw.at_ 1 rfl) 2 (by kernel_rfl) (by kernel_rfl) (v := .int .u64 x1.f2) (by kernel_rfl) fun a hs => ?_
  refine pures hs 1 [6, 10, 11, 13, 15, 17, 18] [(6, .pointer (some ⟨b32, 0, none⟩)), (10, .int .i64 x5), (11, .int .u64 x6), (13, .int .i64 x1.f0), (15, .int .u32 x1.f1), (17, .int .u64 x1.f2), (18, .pointer (some ⟨b30, 3, none⟩))] (by kernel_rfl) fun a hs => ?_
  refine s_load hs (hw.at_ 1 rfl) 3 (by kernel_rfl) (by kernel_rfl) (v := .slice p2 x1.f3.length c3) (by kernel_rfl) fun a hs => ?_
  refine pures hs 1 [6, 20] [(6, .pointer (some ⟨b32, 0, none⟩)), (20, .agg #[.int .u64 0, .int .i64 x5, .int .u64 x6, .int .i64 x1.f0, .int .u32 x1.f1, .int .u64 x1.f2, .slice p2 x1.f3.length c3])] (by kernel_rfl) fun a hs => ?_
  refine s_new hs hw [.int .u64 0, .int .i64 0, .int .u64 0, .int .i64 0, .int .u32 0, .int .u64 0, .slice none 0 0] 26 (fun b => .pointer (some ⟨b, 0, none⟩)) (by kernel_rfl) (fun _ => by kernel_rfl) fun a w b36 hs hw => ?_
  refine s_store hs hw 0 rfl 0 (by kernel_rfl) (by kernel_rfl) (v := .agg #[.int .u64 0, .int .i64 x5, .int .u64 x6, .int .i64 x1.f0, .int .u32 x1.f1, .int .u64 x1.f2, .slice p2 x1.f3.length c3]) (by kernel_rfl) (by kernel_rfl) (by kernel_rfl) (by kernel_rfl) fun a w hs hw => ?_
  refine s_end ?_
  refine c_seq ?_
  refine c_seq ?_
  refine c_region ?_
  refine s_load hs (hw.at_ 0 rfl) 0 (by kernel_rfl) (by kernel_rfl) (v := .agg #[.int .u64 0, .int .i64 x5, .int .u64 x6, .int .i64 x1.f0, .int .u32 x1.f1, .int .u64 x1.f2, .slice p2 x1.f3.length c3]) (by kernel_rfl) fun a hs => ?_
  obtain ⟨y40, h41, hk⟩ := bindE hk
  refine s_call hs (by kernel_rfl) (by kernel_rfl) (catenaryref17_Asked_s h41 h4 ((hw.pick [0, 1, 3] (by kernel_rfl)).pack 0)) fun a w v hv hs => ?_
  obtain ⟨rfl, hw⟩ := hv
  replace hw := hw.unpack 0 rfl
  refine pures hs 1 [6, 8, 9] [(6, .pointer (some ⟨b32, 0, none⟩)), (8, .pointer (some ⟨b36, 0, none⟩)), (9, .int .i64 y40)] (by kernel_rfl) fun a hs => ?_
  refine s_end ?_
  refine c_seq ?_
  refine c_region ?_
  refine pures hs 2 [6, 8, 9, 24] [(6, .pointer (some ⟨b32, 0, none⟩)), (8, .pointer (some ⟨b36, 0, none⟩)), (9, .int .i64 y40), (24, .bool (y40 != 0))] (by kernel_rfl) fun a hs => ?_
  refine s_end ?_
  rcases ifbE hk with ⟨h42, hk⟩ | ⟨h42, hk⟩
  · refine c_cond1 hs (by kernel_rfl) (t := (y40 != 0)) (by kernel_rfl) h42 ?_
    refine c_seq ?_
    refine c_region ?_
    refine pures hs 2 [6, 25, 26] [(6, .pointer (some ⟨b32, 0, none⟩)), (25, .agg #[.int .u64 0, .int .i64 0, .int .u64 0, .int .i64 0, .int .u32 0, .int .u64 0, .slice none 0 0]), (26, .int .i64 y40)] (by kernel_rfl) fun a hs => ?_
    refine s_store hs hw 1 rfl 0 (by kernel_rfl) (by kernel_rfl) (v := .agg #[.int .u64 0, .int .i64 0, .int .u64 0, .int .i64 0, .int .u32 0, .int .u64 0, .slice none 0 0]) (by kernel_rfl) (by kernel_rfl) (by kernel_rfl) (by kernel_rfl) fun a w hs hw => ?_
    refine pures hs 1 [6, 7] [(6, .pointer (some ⟨b32, 0, none⟩)), (7, .int .i64 y40)] (by kernel_rfl) fun a hs => ?_
    refine s_end ?_
    refine c_ret ?_
    obtain rfl := someE hk
    refine hQ _ _ (f_retG hs (l := [.cell 6 26, .tmp 7]) (vs := [.agg #[.int .u64 0, .int .i64 0, .int .u64 0, .int .i64 0, .int .u32 0, .int .u64 0, .slice none 0 0], .int .i64 y40]) rfl (⟨res_cell hs (hw.at_ 1 rfl) (by kernel_rfl) (v := .agg #[.int .u64 0, .int .i64 0, .int .u64 0, .int .i64 0, .int .u32 0, .int .u64 0, .slice none 0 0]) (by kernel_rfl), ⟨res_tmp hs (v := .int .i64 y40) (by kernel_rfl), trivial⟩⟩) (by kernel_rfl) ⟨none, 0, rfl, hw.pick [2] (by kernel_rfl), (RSl.nil _ _ _)⟩)
  refine c_cond0 hs (by kernel_rfl) (t := (y40 != 0)) (by kernel_rfl) h42 ?_
  refine c_skip ?_
  refine c_seq ?_
  refine c_region ?_
  refine s_load hs (hw.at_ 0 rfl) 0 (by kernel_rfl) (by kernel_rfl) (v := .agg #[.int .u64 0, .int .i64 x5, .int .u64 x6, .int .i64 x1.f0, .int .u32 x1.f1, .int .u64 x1.f2, .slice p2 x1.f3.length c3]) (by kernel_rfl) fun a hs => ?_
  refine s_store hs hw 1 rfl 0 (by kernel_rfl) (by kernel_rfl) (v := .agg #[.int .u64 0, .int .i64 x5, .int .u64 x6, .int .i64 x1.f0, .int .u32 x1.f1, .int .u64 x1.f2, .slice p2 x1.f3.length c3]) (by kernel_rfl) (by kernel_rfl) (by kernel_rfl) (by kernel_rfl) fun a w hs hw => ?_
  refine pures hs 1 [6, 7] [(6, .pointer (some ⟨b32, 0, none⟩)), (7, .int .i64 0)] (by kernel_rfl) fun a hs => ?_
  refine s_end ?_
  refine c_ret ?_
  obtain rfl := someE hk
  refine hQ _ _ (f_retG hs (l := [.cell 6 26, .tmp 7]) (vs := [.agg #[.int .u64 0, .int .i64 x5, .int .u64 x6, .int .i64 x1.f0, .int .u32 x1.f1, .int .u64 x1.f2, .slice p2 x1.f3.length c3], .int .i64 0]) rfl (⟨res_cell hs (hw.at_ 1 rfl) (by kernel_rfl) (v := .agg #[.int .u64 0, .int .i64 x5, .int .u64 x6, .int .i64 x1.f0, .int .u32 x1.f1, .int .u64 x1.f2, .slice p2 x1.f3.length c3]) (by kernel_rfl), ⟨res_tmp hs (v := .int .i64 0) (by kernel_rfl), trivial⟩⟩) (by kernel_rfl) ⟨p2, c3, rfl, hw.pick [2] (by kernel_rfl), h4⟩)
def catenaryref01_Same_r12 : Option Bool :=
  some true
def catenaryref01_Same_r14 (rec_catenaryref01_Same_l13 : Int → Option (Sum Bool Unit)) (x281 : Int) (x336 : Bool) : Option (Sum Bool Unit) :=
  if x336 = true then some (.inl false)
  else rec_catenaryref01_Same_l13 (IntKind.i64.wrap (x281 + 1))
def catenaryref01_Same_l13 (x1 : List Int) (x7 : List Int) : Nat → Int → Option (Sum Bool Unit)
  | 0, _ => none
  | j + 1, x281 =>
    if (decide (x281 < (x1.length : Int))) = true then (
      ((ix x1 x281).bind fun x341 =>
        (ix x7 x281).bind fun x345 =>
        some (x341 != x345) : Option Bool).bind fun s349 => catenaryref01_Same_r14 (catenaryref01_Same_l13 x1 x7 j) x281 s349)
    else some (.inr ())
def catenaryref01_Same (k : Nat) (x1 : List Int) (x7 : List Int) : Option Bool :=
  if ((x1.length : Int) != (x7.length : Int)) = true then some false
  else (catenaryref01_Same_l13 x1 x7 k 0 : Option (Sum Bool Unit)).bind fun
    | .inl z => some z
    | .inr _ => catenaryref01_Same_r12
theorem catenaryref01_Same_s {k : Nat} {x1 : List Int} {x7 : List Int} {p2 : Option Addr} {c3 : Nat} {d5 : Ch} {p8 : Option Addr} {c9 : Nat} {d11 : Ch} {r : Bool} (hk : catenaryref01_Same k x1 x7 = some r) {g w : World} {F : Ch} {ih : IH} (h4 : RSl e5 ih d5 p2 c3 x1) (h6 : ∀ q ∈ d5, q ∈ F) (h10 : RSl e5 ih d11 p8 c9 x7) (h12 : ∀ q ∈ d11, q ∈ F) (hw : St g w [F] ih) :
    CallsR Tryz.prog 45 #[.slice p2 x1.length c3, .slice p8 x7.length c9] w fun v w' => v = .bool r ∧ St g w' [F] ih := by
  refine f_in (vs := [.slice p2 x1.length c3, .slice p8 x7.length c9]) Tryz.func45 rfl 26 rfl (by kernel_rfl) [(0, .slice p2 x1.length c3), (1, .slice p8 x7.length c9)] (by kernel_rfl) fun a Qf hQ hQn hs => ?_
  refine c_seq ?_
  refine c_region ?_
  refine pures hs 1 [0, 1] [(0, .slice p2 x1.length c3), (1, .slice p8 x7.length c9)] (by kernel_rfl) fun a hs => ?_
  refine s_end ?_
  refine c_seq ?_
  refine c_seq ?_
  refine c_region ?_
  refine pures hs 5 [0, 1, 10] [(0, .slice p2 x1.length c3), (1, .slice p8 x7.length c9), (10, .bool ((x1.length : Int) != (x7.length : Int)))] (by kernel_rfl) fun a hs => ?_
  refine s_end ?_
  rcases ifbE hk with ⟨h183, hk⟩ | ⟨h183, hk⟩
  · refine c_cond1 hs (by kernel_rfl) (t := ((x1.length : Int) != (x7.length : Int))) (by kernel_rfl) h183 ?_
    refine c_seq ?_
    refine c_region ?_
    refine pures hs 1 [4] [(4, .bool false)] (by kernel_rfl) fun a hs => ?_
    refine s_end ?_
    refine c_ret ?_
    obtain rfl := someE hk
    refine hQ _ _ (f_ret1 hs rfl (v := .bool false) (by kernel_rfl) ⟨rfl, hw.pick [0] (by kernel_rfl)⟩)
  refine c_cond0 hs (by kernel_rfl) (t := ((x1.length : Int) != (x7.length : Int))) (by kernel_rfl) h183 ?_
  refine c_skip ?_
  refine c_seq ?_
  refine c_seq ?_
  refine c_region ?_
  refine pures hs 1 [0, 1, 5] [(0, .slice p2 x1.length c3), (1, .slice p8 x7.length c9), (5, .int .i64 0)] (by kernel_rfl) fun a hs => ?_
  refine s_end ?_
  refine c_block ?_
  obtain ⟨y314, hx315, hk⟩ := bindE hk
  obtain ⟨J316, hJ316⟩ : ∃ J : Act → World → Prop, ∀ a w, J a w ↔ (catenaryref01_Same_r12 = some r ∧ Sees a 26 [] ∧ St g w [F] ih) := ⟨_, fun _ _ => Iff.rfl⟩
  obtain ⟨I317, hI317⟩ : ∃ J : Nat → Act → World → Prop, ∀ j a w, J j a w ↔ (∃ (x281 : Int), catenaryref01_Same_l13 x1 x7 j x281 = some y314 ∧ Sees a 26 [(0, .slice p2 x1.length c3), (1, .slice p8 x7.length c9), (5, .int .i64 x281)] ∧ St g w [F] ih) := ⟨_, fun _ _ _ => Iff.rfl⟩
  refine c_exitJ 0 J316 ?_ ?_
  · refine c_loop I317 k ((hI317 _ _ _).2 ⟨0, hx315, hs.cast [0, 1, 5] (by kernel_rfl), hw.pick [0] (by kernel_rfl)⟩) (fun a w h0 => ?_) fun j a w hh => ?_
    · obtain ⟨_, h, _⟩ := (hI317 _ _ _).1 h0
      cases h
    obtain ⟨x281, hx315, hs, hw⟩ := (hI317 _ _ _).1 hh
    refine c_seq ?_
    refine c_seq ?_
    refine c_region ?_
    refine pures hs 4 [0, 1, 5, 14] [(0, .slice p2 x1.length c3), (1, .slice p8 x7.length c9), (5, .int .i64 x281), (14, .bool (decide (x281 < (x1.length : Int))))] (by kernel_rfl) fun a hs => ?_
    refine s_end ?_
    rcases ifbE hx315 with ⟨h318, hx315⟩ | ⟨h318, hx315⟩
    · refine c_cond1 hs (by kernel_rfl) (t := (decide (x281 < (x1.length : Int)))) (by kernel_rfl) h318 ?_
      refine c_skip ?_
      refine c_seq ?_
      refine c_block ?_
      refine c_seq ?_
      obtain ⟨S319, hS319, kS319⟩ := mkSX (X := [([], F)]) (ih := ih) (K := []) rfl
      obtain ⟨y338, hx339, hx315⟩ := bindE hx315
      obtain ⟨J340, hJ340⟩ : ∃ J : Act → World → Prop, ∀ a w, J a w ↔ (∃ (x336 : Bool), catenaryref01_Same_r14 (catenaryref01_Same_l13 x1 x7 j) x281 x336 = some y314 ∧ Sees a 26 [(0, .slice p2 x1.length c3), (1, .slice p8 x7.length c9), (5, .int .i64 x281), (25, .bool x336)] ∧ St g w [F] ih) := ⟨_, fun _ _ => Iff.rfl⟩
      refine c_draw (by kernel_rfl) (N := 9) rfl S319 J340 ?_ ?_
      · have hw := hw.drew
        have hS : S319 (Array.replicate 9 false) _ := SX_now hS319 (hw.vws [0]) (by kernel_rfl)
        refine d_pures (fuel := 7) kS319 hs hS [0, 1] [0, 1, 5, 17, 18] [(0, .slice p2 x1.length c3), (1, .slice p8 x7.length c9), (5, .int .i64 x281), (17, .slice p2 x1.length c3), (18, .int .i64 x281)] (by kernel_rfl) fun a hs hS => ?_
        obtain ⟨x341, h342, hx339⟩ := bindE hx339
        refine d_index (fuel := 6) kS319 hs hS 2 rfl (by kernel_rfl) h4 (by kernel_rfl) (by kernel_rfl) (k := .i64) (by kernel_rfl) 5 (by kernel_rfl) (by kernel_rfl) h342 fun a r343 cs henc at344 hs hS => ?_
        obtain rfl := henc
        refine d_load (fuel := 5) kS319 hs hS 3 rfl (by kernel_rfl) (fun l w hu hS => at344 w (((SX_ch hS319 0 rfl (by kernel_rfl) l w hu hS).sub h6).anti (Le.refl _))) 0 (by kernel_rfl) (by kernel_rfl) (v := .int .u8 x341) (by kernel_rfl) fun a hs hS => ?_
        refine d_pures (fuel := 3) kS319 hs hS [4, 5] [0, 1, 5, 17, 18, 19, 20, 21, 22] [(0, .slice p2 x1.length c3), (1, .slice p8 x7.length c9), (5, .int .i64 x281), (17, .slice p2 x1.length c3), (18, .int .i64 x281), (19, .pointer (some r343)), (20, .int .u8 x341), (21, .slice p8 x7.length c9), (22, .int .i64 x281)] (by kernel_rfl) fun a hs hS => ?_
        obtain ⟨x345, h346, hx339⟩ := bindE hx339
        refine d_index (fuel := 2) kS319 hs hS 6 rfl (by kernel_rfl) h10 (by kernel_rfl) (by kernel_rfl) (k := .i64) (by kernel_rfl) 5 (by kernel_rfl) (by kernel_rfl) h346 fun a r347 cs henc at348 hs hS => ?_
        obtain rfl := henc
        refine d_load (fuel := 1) kS319 hs hS 7 rfl (by kernel_rfl) (fun l w hu hS => at348 w (((SX_ch hS319 0 rfl (by kernel_rfl) l w hu hS).sub h12).anti (Le.refl _))) 0 (by kernel_rfl) (by kernel_rfl) (v := .int .u8 x345) (by kernel_rfl) fun a hs hS => ?_
        refine d_pures (fuel := 0) kS319 hs hS [8] [0, 1, 5, 17, 18, 19, 20, 21, 22, 23, 24, 25] [(0, .slice p2 x1.length c3), (1, .slice p8 x7.length c9), (5, .int .i64 x281), (17, .slice p2 x1.length c3), (18, .int .i64 x281), (19, .pointer (some r343)), (20, .int .u8 x341), (21, .slice p8 x7.length c9), (22, .int .i64 x281), (23, .pointer (some r347)), (24, .int .u8 x345), (25, .bool (x341 != x345))] (by kernel_rfl) fun a hs hS => ?_
        refine d_done (by kernel_rfl) ?_
        obtain rfl := someE hx339
        exact (hJ340 _ _).2 ⟨(x341 != x345), hx315, hs.cast [0, 1, 5, 25] (by kernel_rfl), hw.pick [0] (by kernel_rfl)⟩
      intro a w hh
      obtain ⟨x336, hx315, hs, hw⟩ := (hJ340 _ _).1 hh
      rcases ifbE hx315 with ⟨h337, hx315⟩ | ⟨h337, hx315⟩
      · refine c_cond1 hs (by kernel_rfl) (t := x336) (by kernel_rfl) h337 ?_
        refine c_seq ?_
        refine c_region ?_
        refine pures hs 1 [4] [(4, .bool false)] (by kernel_rfl) fun a hs => ?_
        refine s_end ?_
        refine c_ret ?_
        obtain rfl := someE hx315
        obtain rfl := someE hk
        refine hQ _ _ (f_ret1 hs rfl (v := .bool false) (by kernel_rfl) ⟨rfl, hw.pick [0] (by kernel_rfl)⟩)
      refine c_cond0 hs (by kernel_rfl) (t := x336) (by kernel_rfl) h337 ?_
      refine c_skip ?_
      refine c_region ?_
      refine pures hs 3 [0, 1, 5] [(0, .slice p2 x1.length c3), (1, .slice p8 x7.length c9), (5, .int .i64 (IntKind.i64.wrap (x281 + 1)))] (by kernel_rfl) fun a hs => ?_
      refine s_end ?_
      exact (hI317 _ _ _).2 ⟨(IntKind.i64.wrap (x281 + 1)), hx315, hs.cast [0, 1, 5] (by kernel_rfl), hw.pick [0] (by kernel_rfl)⟩
    refine c_cond0 hs (by kernel_rfl) (t := (decide (x281 < (x1.length : Int)))) (by kernel_rfl) h318 ?_
    refine c_exit ?_
    obtain rfl := someE hx315
    exact (hJ316 _ _).2 ⟨hk, hs.cast [] (by kernel_rfl), hw.pick [0] (by kernel_rfl)⟩
  intro a w hh
  obtain ⟨hk, hs, hw⟩ := (hJ316 _ _).1 hh
  refine c_seq ?_
  refine c_region ?_
  refine pures hs 1 [4] [(4, .bool true)] (by kernel_rfl) fun a hs => ?_
  refine s_end ?_
  refine c_ret ?_
  obtain rfl := someE hk
  refine hQ _ _ (f_ret1 hs rfl (v := .bool true) (by kernel_rfl) ⟨rfl, hw.pick [0] (by kernel_rfl)⟩)
def catenaryref10_SameUpdate_r2 (x72 : Bool) : Option Bool :=
  some x72
def catenaryref10_SameUpdate (k : Nat) (x1 : M26) (x5 : M26) : Option Bool :=
  (if (x1.f0 == x5.f0) = true then (
      if (x1.f1 == x5.f1) = true then (
        if (x1.f2 == x5.f2) = true then (
          if (x1.f3 == x5.f3) = true then (
            if (x1.f4 == x5.f4) = true then (
              if (x1.f5 == x5.f5) = true then (
                (catenaryref01_Same k x1.f6 x5.f6).bind fun y82 =>
                some y82)
              else some false)
            else some false)
          else some false)
        else some false)
      else some false)
    else some false : Option Bool).bind fun s84 => catenaryref10_SameUpdate_r2 s84
theorem catenaryref10_SameUpdate_s {k : Nat} {x1 : M26} {x5 : M26} {p2 : Option Addr} {c3 : Nat} {p6 : Option Addr} {c7 : Nat} {r : Bool} (hk : catenaryref10_SameUpdate k x1 x5 = some r) {g w : World} {F : Ch} {ih : IH} (h4 : RSl e5 ih [] p2 c3 x1.f6) (h8 : RSl e5 ih [] p6 c7 x5.f6) (hw : St g w [F] ih) :
    CallsR Tryz.prog 21 #[.agg #[.int .u64 x1.f0, .int .i64 x1.f1, .int .u64 x1.f2, .int .i64 x1.f3, .int .u32 x1.f4, .int .u64 x1.f5, .slice p2 x1.f6.length c3], .agg #[.int .u64 x5.f0, .int .i64 x5.f1, .int .u64 x5.f2, .int .i64 x5.f3, .int .u32 x5.f4, .int .u64 x5.f5, .slice p6 x5.f6.length c7]] w fun v w' => v = .bool r ∧ St g w' [F] ih := by
  refine f_in (vs := [.agg #[.int .u64 x1.f0, .int .i64 x1.f1, .int .u64 x1.f2, .int .i64 x1.f3, .int .u32 x1.f4, .int .u64 x1.f5, .slice p2 x1.f6.length c3], .agg #[.int .u64 x5.f0, .int .i64 x5.f1, .int .u64 x5.f2, .int .i64 x5.f3, .int .u32 x5.f4, .int .u64 x5.f5, .slice p6 x5.f6.length c7]]) Tryz.func21 rfl 52 rfl (by kernel_rfl) [(0, .agg #[.int .u64 x1.f0, .int .i64 x1.f1, .int .u64 x1.f2, .int .i64 x1.f3, .int .u32 x1.f4, .int .u64 x1.f5, .slice p2 x1.f6.length c3]), (1, .agg #[.int .u64 x5.f0, .int .i64 x5.f1, .int .u64 x5.f2, .int .i64 x5.f3, .int .u32 x5.f4, .int .u64 x5.f5, .slice p6 x5.f6.length c7])] (by kernel_rfl) fun a Qf hQ hQn hs => ?_
  refine c_seq ?_
  refine c_region ?_
  refine s_new hs hw [.int .u64 x1.f0, .int .i64 x1.f1, .int .u64 x1.f2, .int .i64 x1.f3, .int .u32 x1.f4, .int .u64 x1.f5, .slice p2 x1.f6.length c3] 26 (fun b => .pointer (some ⟨b, 0, none⟩)) (by kernel_rfl) (fun _ => by kernel_rfl) fun a w b52 hs hw => ?_
  refine s_new hs hw [.int .u64 x5.f0, .int .i64 x5.f1, .int .u64 x5.f2, .int .i64 x5.f3, .int .u32 x5.f4, .int .u64 x5.f5, .slice p6 x5.f6.length c7] 26 (fun b => .pointer (some ⟨b, 0, none⟩)) (by kernel_rfl) (fun _ => by kernel_rfl) fun a w b54 hs hw => ?_
  refine pures hs 1 [2, 3] [(2, .pointer (some ⟨b52, 0, none⟩)), (3, .pointer (some ⟨b54, 0, none⟩))] (by kernel_rfl) fun a hs => ?_
  refine s_end ?_
  refine c_seq ?_
  obtain ⟨y73, hx74, hk⟩ := bindE hk
  obtain ⟨J75, hJ75⟩ : ∃ J : Act → World → Prop, ∀ a w, J a w ↔ (∃ (x72 : Bool), catenaryref10_SameUpdate_r2 x72 = some r ∧ Sees a 52 [(4, .bool x72)] ∧ St g w [F] ih) := ⟨_, fun _ _ => Iff.rfl⟩
  refine c_regJ J75 ?_ ?_
  · refine pures hs 1 [2, 3, 5] [(2, .pointer (some ⟨b52, 0, none⟩)), (3, .pointer (some ⟨b54, 0, none⟩)), (5, .pointer (some ⟨b52, 0, none⟩))] (by kernel_rfl) fun a hs => ?_
    refine s_load hs (hw.at_ 1 rfl) 0 (by kernel_rfl) (by kernel_rfl) (v := .int .u64 x1.f0) (by kernel_rfl) fun a hs => ?_
    refine pures hs 1 [2, 3, 6, 7] [(2, .pointer (some ⟨b52, 0, none⟩)), (3, .pointer (some ⟨b54, 0, none⟩)), (6, .int .u64 x1.f0), (7, .pointer (some ⟨b54, 0, none⟩))] (by kernel_rfl) fun a hs => ?_
    refine s_load hs (hw.at_ 0 rfl) 0 (by kernel_rfl) (by kernel_rfl) (v := .int .u64 x5.f0) (by kernel_rfl) fun a hs => ?_
    refine pures hs 2 [2, 3, 10] [(2, .pointer (some ⟨b52, 0, none⟩)), (3, .pointer (some ⟨b54, 0, none⟩)), (10, .bool (x1.f0 == x5.f0))] (by kernel_rfl) fun a hs => ?_
    rcases ifbE hx74 with ⟨h76, hx74⟩ | ⟨h76, hx74⟩
    · replace hs := hs.altB 10 true (by kernel_rfl) h76
      refine pures hs 1 [2, 3, 10, 11] [(2, .pointer (some ⟨b52, 0, none⟩)), (3, .pointer (some ⟨b54, 0, none⟩)), (10, .bool true), (11, .pointer (some ⟨b52, 1, none⟩))] (by kernel_rfl) fun a hs => ?_
      refine s_load hs (hw.at_ 1 rfl) 1 (by kernel_rfl) (by kernel_rfl) (v := .int .i64 x1.f1) (by kernel_rfl) fun a hs => ?_
      refine pures hs 1 [2, 3, 10, 12, 13] [(2, .pointer (some ⟨b52, 0, none⟩)), (3, .pointer (some ⟨b54, 0, none⟩)), (10, .bool true), (12, .int .i64 x1.f1), (13, .pointer (some ⟨b54, 1, none⟩))] (by kernel_rfl) fun a hs => ?_
      refine s_load hs (hw.at_ 0 rfl) 1 (by kernel_rfl) (by kernel_rfl) (v := .int .i64 x5.f1) (by kernel_rfl) fun a hs => ?_
      refine pures hs 3 [2, 3, 17] [(2, .pointer (some ⟨b52, 0, none⟩)), (3, .pointer (some ⟨b54, 0, none⟩)), (17, .bool (x1.f1 == x5.f1))] (by kernel_rfl) fun a hs => ?_
      rcases ifbE hx74 with ⟨h77, hx74⟩ | ⟨h77, hx74⟩
      · replace hs := hs.altB 17 true (by kernel_rfl) h77
        refine pures hs 1 [2, 3, 17, 18] [(2, .pointer (some ⟨b52, 0, none⟩)), (3, .pointer (some ⟨b54, 0, none⟩)), (17, .bool true), (18, .pointer (some ⟨b52, 2, none⟩))] (by kernel_rfl) fun a hs => ?_
        refine s_load hs (hw.at_ 1 rfl) 2 (by kernel_rfl) (by kernel_rfl) (v := .int .u64 x1.f2) (by kernel_rfl) fun a hs => ?_
        refine pures hs 1 [2, 3, 17, 19, 20] [(2, .pointer (some ⟨b52, 0, none⟩)), (3, .pointer (some ⟨b54, 0, none⟩)), (17, .bool true), (19, .int .u64 x1.f2), (20, .pointer (some ⟨b54, 2, none⟩))] (by kernel_rfl) fun a hs => ?_
        refine s_load hs (hw.at_ 0 rfl) 2 (by kernel_rfl) (by kernel_rfl) (v := .int .u64 x5.f2) (by kernel_rfl) fun a hs => ?_
        refine pures hs 3 [2, 3, 24] [(2, .pointer (some ⟨b52, 0, none⟩)), (3, .pointer (some ⟨b54, 0, none⟩)), (24, .bool (x1.f2 == x5.f2))] (by kernel_rfl) fun a hs => ?_
        rcases ifbE hx74 with ⟨h78, hx74⟩ | ⟨h78, hx74⟩
        · replace hs := hs.altB 24 true (by kernel_rfl) h78
          refine pures hs 1 [2, 3, 24, 25] [(2, .pointer (some ⟨b52, 0, none⟩)), (3, .pointer (some ⟨b54, 0, none⟩)), (24, .bool true), (25, .pointer (some ⟨b52, 3, none⟩))] (by kernel_rfl) fun a hs => ?_
          refine s_load hs (hw.at_ 1 rfl) 3 (by kernel_rfl) (by kernel_rfl) (v := .int .i64 x1.f3) (by kernel_rfl) fun a hs => ?_
          refine pures hs 1 [2, 3, 24, 26, 27] [(2, .pointer (some ⟨b52, 0, none⟩)), (3, .pointer (some ⟨b54, 0, none⟩)), (24, .bool true), (26, .int .i64 x1.f3), (27, .pointer (some ⟨b54, 3, none⟩))] (by kernel_rfl) fun a hs => ?_
          refine s_load hs (hw.at_ 0 rfl) 3 (by kernel_rfl) (by kernel_rfl) (v := .int .i64 x5.f3) (by kernel_rfl) fun a hs => ?_
          refine pures hs 3 [2, 3, 31] [(2, .pointer (some ⟨b52, 0, none⟩)), (3, .pointer (some ⟨b54, 0, none⟩)), (31, .bool (x1.f3 == x5.f3))] (by kernel_rfl) fun a hs => ?_
          rcases ifbE hx74 with ⟨h79, hx74⟩ | ⟨h79, hx74⟩
          · replace hs := hs.altB 31 true (by kernel_rfl) h79
            refine pures hs 1 [2, 3, 31, 32] [(2, .pointer (some ⟨b52, 0, none⟩)), (3, .pointer (some ⟨b54, 0, none⟩)), (31, .bool true), (32, .pointer (some ⟨b52, 4, none⟩))] (by kernel_rfl) fun a hs => ?_
            refine s_load hs (hw.at_ 1 rfl) 4 (by kernel_rfl) (by kernel_rfl) (v := .int .u32 x1.f4) (by kernel_rfl) fun a hs => ?_
            refine pures hs 1 [2, 3, 31, 33, 34] [(2, .pointer (some ⟨b52, 0, none⟩)), (3, .pointer (some ⟨b54, 0, none⟩)), (31, .bool true), (33, .int .u32 x1.f4), (34, .pointer (some ⟨b54, 4, none⟩))] (by kernel_rfl) fun a hs => ?_
            refine s_load hs (hw.at_ 0 rfl) 4 (by kernel_rfl) (by kernel_rfl) (v := .int .u32 x5.f4) (by kernel_rfl) fun a hs => ?_
            refine pures hs 3 [2, 3, 38] [(2, .pointer (some ⟨b52, 0, none⟩)), (3, .pointer (some ⟨b54, 0, none⟩)), (38, .bool (x1.f4 == x5.f4))] (by kernel_rfl) fun a hs => ?_
            rcases ifbE hx74 with ⟨h80, hx74⟩ | ⟨h80, hx74⟩
            · replace hs := hs.altB 38 true (by kernel_rfl) h80
              refine pures hs 1 [2, 3, 38, 39] [(2, .pointer (some ⟨b52, 0, none⟩)), (3, .pointer (some ⟨b54, 0, none⟩)), (38, .bool true), (39, .pointer (some ⟨b52, 5, none⟩))] (by kernel_rfl) fun a hs => ?_
              refine s_load hs (hw.at_ 1 rfl) 5 (by kernel_rfl) (by kernel_rfl) (v := .int .u64 x1.f5) (by kernel_rfl) fun a hs => ?_
              refine pures hs 1 [2, 3, 38, 40, 41] [(2, .pointer (some ⟨b52, 0, none⟩)), (3, .pointer (some ⟨b54, 0, none⟩)), (38, .bool true), (40, .int .u64 x1.f5), (41, .pointer (some ⟨b54, 5, none⟩))] (by kernel_rfl) fun a hs => ?_
              refine s_load hs (hw.at_ 0 rfl) 5 (by kernel_rfl) (by kernel_rfl) (v := .int .u64 x5.f5) (by kernel_rfl) fun a hs => ?_
              refine pures hs 3 [2, 3, 45] [(2, .pointer (some ⟨b52, 0, none⟩)), (3, .pointer (some ⟨b54, 0, none⟩)), (45, .bool (x1.f5 == x5.f5))] (by kernel_rfl) fun a hs => ?_
              rcases ifbE hx74 with ⟨h81, hx74⟩ | ⟨h81, hx74⟩
              · replace hs := hs.altB 45 true (by kernel_rfl) h81
                refine pures hs 1 [3, 45, 46] [(3, .pointer (some ⟨b54, 0, none⟩)), (45, .bool true), (46, .pointer (some ⟨b52, 6, none⟩))] (by kernel_rfl) fun a hs => ?_
                refine s_load hs (hw.at_ 1 rfl) 6 (by kernel_rfl) (by kernel_rfl) (v := .slice p2 x1.f6.length c3) (by kernel_rfl) fun a hs => ?_
                refine pures hs 1 [45, 47, 48] [(45, .bool true), (47, .slice p2 x1.f6.length c3), (48, .pointer (some ⟨b54, 6, none⟩))] (by kernel_rfl) fun a hs => ?_
                refine s_load hs (hw.at_ 0 rfl) 6 (by kernel_rfl) (by kernel_rfl) (v := .slice p6 x5.f6.length c7) (by kernel_rfl) fun a hs => ?_
                obtain ⟨y82, h83, hx74⟩ := bindE hx74
                refine s_call hs (by kernel_rfl) (by kernel_rfl) (catenaryref01_Same_s h83 h4 (nilSub _) h8 (nilSub _) ((hw.pick [2] (by kernel_rfl)).pack 0)) fun a w v hv hs => ?_
                obtain ⟨rfl, hw⟩ := hv
                replace hw := hw.unpack 0 rfl
                refine pures hs 2 [4] [(4, .bool y82)] (by kernel_rfl) fun a hs => ?_
                refine s_end ?_
                obtain rfl := someE hx74
                exact (hJ75 _ _).2 ⟨y82, hk, hs.cast [4] (by kernel_rfl), hw.pick [0] (by kernel_rfl)⟩
              replace hs := hs.altB 45 false (by kernel_rfl) h81
              refine pures hs 7 [4] [(4, .bool false)] (by kernel_rfl) fun a hs => ?_
              refine s_end ?_
              obtain rfl := someE hx74
              exact (hJ75 _ _).2 ⟨false, hk, hs.cast [4] (by kernel_rfl), hw.pick [2] (by kernel_rfl)⟩
            replace hs := hs.altB 38 false (by kernel_rfl) h80
            refine pures hs 14 [4] [(4, .bool false)] (by kernel_rfl) fun a hs => ?_
            refine s_end ?_
            obtain rfl := someE hx74
            exact (hJ75 _ _).2 ⟨false, hk, hs.cast [4] (by kernel_rfl), hw.pick [2] (by kernel_rfl)⟩
          replace hs := hs.altB 31 false (by kernel_rfl) h79
          refine pures hs 21 [4] [(4, .bool false)] (by kernel_rfl) fun a hs => ?_
          refine s_end ?_
          obtain rfl := someE hx74
          exact (hJ75 _ _).2 ⟨false, hk, hs.cast [4] (by kernel_rfl), hw.pick [2] (by kernel_rfl)⟩
        replace hs := hs.altB 24 false (by kernel_rfl) h78
        refine pures hs 28 [4] [(4, .bool false)] (by kernel_rfl) fun a hs => ?_
        refine s_end ?_
        obtain rfl := someE hx74
        exact (hJ75 _ _).2 ⟨false, hk, hs.cast [4] (by kernel_rfl), hw.pick [2] (by kernel_rfl)⟩
      replace hs := hs.altB 17 false (by kernel_rfl) h77
      refine pures hs 35 [4] [(4, .bool false)] (by kernel_rfl) fun a hs => ?_
      refine s_end ?_
      obtain rfl := someE hx74
      exact (hJ75 _ _).2 ⟨false, hk, hs.cast [4] (by kernel_rfl), hw.pick [2] (by kernel_rfl)⟩
    replace hs := hs.altB 10 false (by kernel_rfl) h76
    refine pures hs 42 [4] [(4, .bool false)] (by kernel_rfl) fun a hs => ?_
    refine s_end ?_
    obtain rfl := someE hx74
    exact (hJ75 _ _).2 ⟨false, hk, hs.cast [4] (by kernel_rfl), hw.pick [2] (by kernel_rfl)⟩
  intro a w hh
  obtain ⟨x72, hk, hs, hw⟩ := (hJ75 _ _).1 hh
  refine c_ret ?_
  obtain rfl := someE hk
  refine hQ _ _ (f_ret1 hs rfl (v := .bool x72) (by kernel_rfl) ⟨rfl, hw.pick [0] (by kernel_rfl)⟩)
def catenarylaw17_UpdateRequests_r2 (x170 : Bool) : Option Bool :=
  some x170
def catenarylaw17_UpdateRequests (k : Nat) (x1 : M42) (x5 : Int) (x6 : Int) : Option Bool :=
  if (decide ((x1.f3.length : Int) > 2100)) = true then some true
  else (update_Request k x1 x5 x6).bind fun y117 =>
  (catenaryref17_Request x1 x5 x6).bind fun y133 =>
  ((catenaryref10_SameUpdate k (M26.mk 0 y117.1 y117.2.1 y117.2.2.1 y117.2.2.2.1 y117.2.2.2.2.1 y117.2.2.2.2.2.1) (M26.mk 0 y133.1 y133.2.1 y133.2.2.1 y133.2.2.2.1 y133.2.2.2.2.1 y133.2.2.2.2.2.1)).bind fun y174 =>
    if y174 = true then (
      if (y117.2.2.2.2.2.2 == y133.2.2.2.2.2.2) = true then (
        if (y117.2.2.2.2.2.2 != 0) = true then some true
        else (update_Asked k (M26.mk 0 y117.1 y117.2.1 y117.2.2.1 y117.2.2.2.1 y117.2.2.2.2.1 y117.2.2.2.2.2.1)).bind fun y181 =>
        if (y181 == 0) = true then some true
        else some false)
      else some false)
    else some false : Option Bool).bind fun s188 => catenarylaw17_UpdateRequests_r2 s188
theorem catenarylaw17_UpdateRequests_s {k : Nat} {x1 : M42} {x5 : Int} {x6 : Int} {p2 : Option Addr} {c3 : Nat} {r : Bool} (hk : catenarylaw17_UpdateRequests k x1 x5 x6 = some r) {g w : World} {F : Ch} {ih : IH} (h4 : RSl e5 ih [] p2 c3 x1.f3) (hG : Glob 0 gl0 110 ih) (hw : St g w [F] ih) :
    CallsR Tryz.prog 4 #[.agg #[.int .i64 x1.f0, .int .u32 x1.f1, .int .u64 x1.f2, .slice p2 x1.f3.length c3, .int .i64 x1.f4], .int .i64 x5, .int .u64 x6] w fun v w' => ∃ (ih' : IH), v = .bool r ∧ St g w' [F] ih' ∧ Le ih ih' := by
  refine f_in (vs := [.agg #[.int .i64 x1.f0, .int .u32 x1.f1, .int .u64 x1.f2, .slice p2 x1.f3.length c3, .int .i64 x1.f4], .int .i64 x5, .int .u64 x6]) Tryz.func4 rfl 50 rfl (by kernel_rfl) [(0, .agg #[.int .i64 x1.f0, .int .u32 x1.f1, .int .u64 x1.f2, .slice p2 x1.f3.length c3, .int .i64 x1.f4]), (1, .int .i64 x5), (2, .int .u64 x6)] (by kernel_rfl) fun a Qf hQ hQn hs => ?_
  refine c_seq ?_
  refine c_region ?_
  refine s_new hs hw [.int .i64 x1.f0, .int .u32 x1.f1, .int .u64 x1.f2, .slice p2 x1.f3.length c3, .int .i64 x1.f4] 42 (fun b => .pointer (some ⟨b, 0, none⟩)) (by kernel_rfl) (fun _ => by kernel_rfl) fun a w b101 hs hw => ?_
  refine pures hs 1 [1, 2, 3] [(1, .int .i64 x5), (2, .int .u64 x6), (3, .pointer (some ⟨b101, 0, none⟩))] (by kernel_rfl) fun a hs => ?_
  refine s_end ?_
  refine c_seq ?_
  refine c_seq ?_
  refine c_region ?_
  refine pures hs 1 [1, 2, 3, 11] [(1, .int .i64 x5), (2, .int .u64 x6), (3, .pointer (some ⟨b101, 0, none⟩)), (11, .pointer (some ⟨b101, 3, none⟩))] (by kernel_rfl) fun a hs => ?_
  refine s_load hs (hw.at_ 0 rfl) 3 (by kernel_rfl) (by kernel_rfl) (v := .slice p2 x1.f3.length c3) (by kernel_rfl) fun a hs => ?_
  refine pures hs 2 [1, 2, 3, 14] [(1, .int .i64 x5), (2, .int .u64 x6), (3, .pointer (some ⟨b101, 0, none⟩)), (14, .bool (decide ((x1.f3.length : Int) > 2100)))] (by kernel_rfl) fun a hs => ?_
  refine s_end ?_
  rcases ifbE hk with ⟨h103, hk⟩ | ⟨h103, hk⟩
  · refine c_cond1 hs (by kernel_rfl) (t := (decide ((x1.f3.length : Int) > 2100))) (by kernel_rfl) h103 ?_
    refine c_seq ?_
    refine c_region ?_
    have h107 : catenarylaw17_awake = some () := rfl
    refine s_call hs (by kernel_rfl) (by kernel_rfl) (catenarylaw17_awake_s h107 ((hw.pick [1] (by kernel_rfl)).pack 0)) fun a w v hv hs => ?_
    obtain ⟨rfl, hw⟩ := hv
    replace hw := hw.unpack 0 rfl
    refine pures hs 1 [6] [(6, .bool true)] (by kernel_rfl) fun a hs => ?_
    refine s_end ?_
    refine c_ret ?_
    obtain rfl := someE hk
    refine hQ _ _ (f_ret1 hs rfl (v := .bool true) (by kernel_rfl) ⟨ih, rfl, hw.pick [0] (by kernel_rfl), (Le.refl _)⟩)
  refine c_cond0 hs (by kernel_rfl) (t := (decide ((x1.f3.length : Int) > 2100))) (by kernel_rfl) h103 ?_
  refine c_skip ?_
  refine c_seq ?_
  refine c_region ?_
  refine s_load hs (hw.at_ 0 rfl) 0 (by kernel_rfl) (by kernel_rfl) (v := .agg #[.int .i64 x1.f0, .int .u32 x1.f1, .int .u64 x1.f2, .slice p2 x1.f3.length c3, .int .i64 x1.f4]) (by kernel_rfl) fun a hs => ?_
  refine pures hs 2 [1, 2, 3, 17, 18, 19] [(1, .int .i64 x5), (2, .int .u64 x6), (3, .pointer (some ⟨b101, 0, none⟩)), (17, .agg #[.int .i64 x1.f0, .int .u32 x1.f1, .int .u64 x1.f2, .slice p2 x1.f3.length c3, .int .i64 x1.f4]), (18, .int .i64 x5), (19, .int .u64 x6)] (by kernel_rfl) fun a hs => ?_
  obtain ⟨y117, h118, hk⟩ := bindE hk
  refine s_call hs (by kernel_rfl) (by kernel_rfl) (update_Request_s h118 h4 (hG.mono (Le.refl _)) ((hw.pick [0, 1] (by kernel_rfl)).pack 0)) fun a w v hv hs => ?_
  obtain ⟨ih119, p121, c122, rfl, hw, hle120, h123⟩ := hv
  replace hw := hw.unpack 0 rfl
  refine pures hs 3 [1, 2, 3, 21, 22] [(1, .int .i64 x5), (2, .int .u64 x6), (3, .pointer (some ⟨b101, 0, none⟩)), (21, .agg #[.int .u64 0, .int .i64 y117.1, .int .u64 y117.2.1, .int .i64 y117.2.2.1, .int .u32 y117.2.2.2.1, .int .u64 y117.2.2.2.2.1, .slice p121 y117.2.2.2.2.2.1.length c122]), (22, .int .i64 y117.2.2.2.2.2.2)] (by kernel_rfl) fun a hs => ?_
  refine s_new hs hw [.int .u64 0, .int .i64 0, .int .u64 0, .int .i64 0, .int .u32 0, .int .u64 0, .slice none 0 0] 26 (fun b => .pointer (some ⟨b, 0, none⟩)) (by kernel_rfl) (fun _ => by kernel_rfl) fun a w b124 hs hw => ?_
  refine s_store hs hw 0 rfl 0 (by kernel_rfl) (by kernel_rfl) (v := .agg #[.int .u64 0, .int .i64 y117.1, .int .u64 y117.2.1, .int .i64 y117.2.2.1, .int .u32 y117.2.2.2.1, .int .u64 y117.2.2.2.2.1, .slice p121 y117.2.2.2.2.2.1.length c122]) (by kernel_rfl) (by kernel_rfl) (by kernel_rfl) (by kernel_rfl) fun a w hs hw => ?_
  refine pures hs 1 [1, 2, 3, 7, 8] [(1, .int .i64 x5), (2, .int .u64 x6), (3, .pointer (some ⟨b101, 0, none⟩)), (7, .pointer (some ⟨b124, 0, none⟩)), (8, .int .i64 y117.2.2.2.2.2.2)] (by kernel_rfl) fun a hs => ?_
  refine s_end ?_
  refine c_seq ?_
  refine c_region ?_
  refine s_load hs (hw.at_ 1 rfl) 0 (by kernel_rfl) (by kernel_rfl) (v := .agg #[.int .i64 x1.f0, .int .u32 x1.f1, .int .u64 x1.f2, .slice p2 x1.f3.length c3, .int .i64 x1.f4]) (by kernel_rfl) fun a hs => ?_
  refine pures hs 2 [7, 8, 24, 25, 26] [(7, .pointer (some ⟨b124, 0, none⟩)), (8, .int .i64 y117.2.2.2.2.2.2), (24, .agg #[.int .i64 x1.f0, .int .u32 x1.f1, .int .u64 x1.f2, .slice p2 x1.f3.length c3, .int .i64 x1.f4]), (25, .int .i64 x5), (26, .int .u64 x6)] (by kernel_rfl) fun a hs => ?_
  obtain ⟨y133, h134, hk⟩ := bindE hk
  refine s_call hs (by kernel_rfl) (by kernel_rfl) (catenaryref17_Request_s h134 (h4.mono hle120) ((hw.pick [0, 2] (by kernel_rfl)).pack 0)) fun a w v hv hs => ?_
  obtain ⟨p135, c136, rfl, hw, h137⟩ := hv
  replace hw := hw.unpack 0 rfl
  refine pures hs 3 [7, 8, 28, 29] [(7, .pointer (some ⟨b124, 0, none⟩)), (8, .int .i64 y117.2.2.2.2.2.2), (28, .agg #[.int .u64 0, .int .i64 y133.1, .int .u64 y133.2.1, .int .i64 y133.2.2.1, .int .u32 y133.2.2.2.1, .int .u64 y133.2.2.2.2.1, .slice p135 y133.2.2.2.2.2.1.length c136]), (29, .int .i64 y133.2.2.2.2.2.2)] (by kernel_rfl) fun a hs => ?_
  refine s_new hs hw [.int .u64 0, .int .i64 0, .int .u64 0, .int .i64 0, .int .u32 0, .int .u64 0, .slice none 0 0] 26 (fun b => .pointer (some ⟨b, 0, none⟩)) (by kernel_rfl) (fun _ => by kernel_rfl) fun a w b138 hs hw => ?_
  refine s_store hs hw 0 rfl 0 (by kernel_rfl) (by kernel_rfl) (v := .agg #[.int .u64 0, .int .i64 y133.1, .int .u64 y133.2.1, .int .i64 y133.2.2.1, .int .u32 y133.2.2.2.1, .int .u64 y133.2.2.2.2.1, .slice p135 y133.2.2.2.2.2.1.length c136]) (by kernel_rfl) (by kernel_rfl) (by kernel_rfl) (by kernel_rfl) fun a w hs hw => ?_
  refine pures hs 1 [7, 8, 9, 10] [(7, .pointer (some ⟨b124, 0, none⟩)), (8, .int .i64 y117.2.2.2.2.2.2), (9, .pointer (some ⟨b138, 0, none⟩)), (10, .int .i64 y133.2.2.2.2.2.2)] (by kernel_rfl) fun a hs => ?_
  refine s_end ?_
  refine c_seq ?_
  obtain ⟨y171, hx172, hk⟩ := bindE hk
  obtain ⟨J173, hJ173⟩ : ∃ J : Act → World → Prop, ∀ a w, J a w ↔ (∃ (x170 : Bool) (ih168 : IH), catenarylaw17_UpdateRequests_r2 x170 = some r ∧ Sees a 50 [(6, .bool x170)] ∧ St g w [F] ih168 ∧ Le ih119 ih168) := ⟨_, fun _ _ => Iff.rfl⟩
  refine c_regJ J173 ?_ ?_
  · refine s_load hs (hw.at_ 1 rfl) 0 (by kernel_rfl) (by kernel_rfl) (v := .agg #[.int .u64 0, .int .i64 y117.1, .int .u64 y117.2.1, .int .i64 y117.2.2.1, .int .u32 y117.2.2.2.1, .int .u64 y117.2.2.2.2.1, .slice p121 y117.2.2.2.2.2.1.length c122]) (by kernel_rfl) fun a hs => ?_
    refine s_load hs (hw.at_ 0 rfl) 0 (by kernel_rfl) (by kernel_rfl) (v := .agg #[.int .u64 0, .int .i64 y133.1, .int .u64 y133.2.1, .int .i64 y133.2.2.1, .int .u32 y133.2.2.2.1, .int .u64 y133.2.2.2.2.1, .slice p135 y133.2.2.2.2.2.1.length c136]) (by kernel_rfl) fun a hs => ?_
    obtain ⟨y174, h175, hx172⟩ := bindE hx172
    refine s_call hs (by kernel_rfl) (by kernel_rfl) (catenaryref10_SameUpdate_s h175 h123 h137 ((hw.pick [1, 2] (by kernel_rfl)).pack 0)) fun a w v hv hs => ?_
    obtain ⟨rfl, hw⟩ := hv
    replace hw := hw.unpack 0 rfl
    refine pures hs 1 [7, 8, 10, 33] [(7, .pointer (some ⟨b124, 0, none⟩)), (8, .int .i64 y117.2.2.2.2.2.2), (10, .int .i64 y133.2.2.2.2.2.2), (33, .bool y174)] (by kernel_rfl) fun a hs => ?_
    rcases ifbE hx172 with ⟨h176, hx172⟩ | ⟨h176, hx172⟩
    · replace hs := hs.altB 33 true (by kernel_rfl) h176
      refine pures hs 5 [7, 8, 38] [(7, .pointer (some ⟨b124, 0, none⟩)), (8, .int .i64 y117.2.2.2.2.2.2), (38, .bool (y117.2.2.2.2.2.2 == y133.2.2.2.2.2.2))] (by kernel_rfl) fun a hs => ?_
      rcases ifbE hx172 with ⟨h177, hx172⟩ | ⟨h177, hx172⟩
      · replace hs := hs.altB 38 true (by kernel_rfl) h177
        refine pures hs 3 [7, 38, 41] [(7, .pointer (some ⟨b124, 0, none⟩)), (38, .bool true), (41, .bool (y117.2.2.2.2.2.2 != 0))] (by kernel_rfl) fun a hs => ?_
        rcases ifbE hx172 with ⟨h178, hx172⟩ | ⟨h178, hx172⟩
        · replace hs := hs.altB 41 true (by kernel_rfl) h178
          refine pures hs 6 [47] [(47, .bool true)] (by kernel_rfl) fun a hs => ?_
          have h180 : catenarylaw17_awake = some () := rfl
          refine s_call hs (by kernel_rfl) (by kernel_rfl) (catenarylaw17_awake_s h180 ((hw.pick [1] (by kernel_rfl)).pack 0)) fun a w v hv hs => ?_
          obtain ⟨rfl, hw⟩ := hv
          replace hw := hw.unpack 0 rfl
          refine pures hs 2 [6] [(6, .bool true)] (by kernel_rfl) fun a hs => ?_
          refine s_end ?_
          obtain rfl := someE hx172
          exact (hJ173 _ _).2 ⟨true, ih119, hk, hs.cast [6] (by kernel_rfl), hw.pick [0] (by kernel_rfl), (Le.refl _)⟩
        replace hs := hs.altB 41 false (by kernel_rfl) h178
        refine s_load hs (hw.at_ 0 rfl) 0 (by kernel_rfl) (by kernel_rfl) (v := .agg #[.int .u64 0, .int .i64 y117.1, .int .u64 y117.2.1, .int .i64 y117.2.2.1, .int .u32 y117.2.2.2.1, .int .u64 y117.2.2.2.2.1, .slice p121 y117.2.2.2.2.2.1.length c122]) (by kernel_rfl) fun a hs => ?_
        obtain ⟨y181, h182, hx172⟩ := bindE hx172
        refine s_call hs (by kernel_rfl) (by kernel_rfl) (update_Asked_s h182 h123 (hG.mono hle120) ((hw.pick [1] (by kernel_rfl)).pack 0)) fun a w v hv hs => ?_
        obtain ⟨ih183, rfl, hw, hle184⟩ := hv
        replace hw := hw.unpack 0 rfl
        refine pures hs 4 [47] [(47, .bool (y181 == 0))] (by kernel_rfl) fun a hs => ?_
        rcases ifbE hx172 with ⟨h185, hx172⟩ | ⟨h185, hx172⟩
        · replace hs := hs.altB 47 true (by kernel_rfl) h185
          have h187 : catenarylaw17_awake = some () := rfl
          refine s_call hs (by kernel_rfl) (by kernel_rfl) (catenarylaw17_awake_s h187 ((hw.pick [0] (by kernel_rfl)).pack 0)) fun a w v hv hs => ?_
          obtain ⟨rfl, hw⟩ := hv
          replace hw := hw.unpack 0 rfl
          refine pures hs 2 [6] [(6, .bool true)] (by kernel_rfl) fun a hs => ?_
          refine s_end ?_
          obtain rfl := someE hx172
          exact (hJ173 _ _).2 ⟨true, ih183, hk, hs.cast [6] (by kernel_rfl), hw.pick [0] (by kernel_rfl), hle184⟩
        replace hs := hs.altB 47 false (by kernel_rfl) h185
        refine pures hs 3 [6] [(6, .bool false)] (by kernel_rfl) fun a hs => ?_
        refine s_end ?_
        obtain rfl := someE hx172
        exact (hJ173 _ _).2 ⟨false, ih183, hk, hs.cast [6] (by kernel_rfl), hw.pick [0] (by kernel_rfl), hle184⟩
      replace hs := hs.altB 38 false (by kernel_rfl) h177
      refine pures hs 12 [6] [(6, .bool false)] (by kernel_rfl) fun a hs => ?_
      refine s_end ?_
      obtain rfl := someE hx172
      exact (hJ173 _ _).2 ⟨false, ih119, hk, hs.cast [6] (by kernel_rfl), hw.pick [1] (by kernel_rfl), (Le.refl _)⟩
    replace hs := hs.altB 33 false (by kernel_rfl) h176
    refine pures hs 17 [6] [(6, .bool false)] (by kernel_rfl) fun a hs => ?_
    refine s_end ?_
    obtain rfl := someE hx172
    exact (hJ173 _ _).2 ⟨false, ih119, hk, hs.cast [6] (by kernel_rfl), hw.pick [1] (by kernel_rfl), (Le.refl _)⟩
  intro a w hh
  obtain ⟨x170, ih168, hk, hs, hw, hle169⟩ := (hJ173 _ _).1 hh
  refine c_ret ?_
  obtain rfl := someE hk
  refine hQ _ _ (f_ret1 hs rfl (v := .bool x170) (by kernel_rfl) ⟨ih168, rfl, hw.pick [0] (by kernel_rfl), (hle120.trans hle169)⟩)
end Go.Proofs.YtfpllbnljlbepaaGreatDoor.Sx
