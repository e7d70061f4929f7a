/- The walk of UpdateChecks: each Go function that it calls, as a plain function, and the proof that the call computes it. Printed by the program gen.py.
   Conditions: those that each theorem states ahead of its colon, and no other. -/
import Derived.Test.YtfpllbnljlbepaaGreatDoorWUpdateChecks0
namespace Go.Proofs.YtfpllbnljlbepaaGreatDoor.Sx
open Go Go.Proofs
set_option maxRecDepth 100000
set_option linter.unusedVariables false
def letter_parts : Option Unit :=
  some ()
theorem letter_parts_s {r : Unit} (hk : letter_parts = some r) {g w : World} {F : Ch} {ih : IH} (hG : Glob 0 gl0 110 ih) (hw : St g w [F] ih) :
    CallsR Tryz.prog 59 #[.int .i64 12] w fun v w' => ∃ (p995 : Option Addr) (c996 : Nat) (d998 : Ch) (b1000 : Nat) (b1002 : Nat) (b1004 : Nat) (b1006 : Nat) (b1008 : Nat), v = .slice p995 5 c996 ∧ St g w' [d998, bx b1000 [.func (.func 87) #[] #[]] 118, bx b1002 [.int .i64 1] 3, bx b1004 [.func (.func 92) #[] #[]] 121, bx b1006 [.func (.func 97) #[] #[]] 121, bx b1008 [.func (.func 98) #[] #[]] 121, F] ih ∧ OSl e101 ih p995 c996 [(M101.mk (.func (.func 86) #[] #[]) (.func (.func 102) #[] #[.pointer (some ⟨b1000, 0, none⟩), .pointer (some ⟨b1002, 0, none⟩)]) (.func (.func 104) #[] #[.pointer (some ⟨b1002, 0, none⟩), .pointer (some ⟨b1000, 0, none⟩)])), (M101.mk (.func (.func 91) #[] #[]) (.func (.func 106) #[] #[.pointer (some ⟨b1004, 0, none⟩)]) (.func (.func 107) #[] #[.pointer (some ⟨b1004, 0, none⟩)])), (M101.mk (.func (.func 96) #[] #[]) (.func (.func 106) #[] #[.pointer (some ⟨b1006, 0, none⟩)]) (.func (.func 107) #[] #[.pointer (some ⟨b1006, 0, none⟩)])), (M101.mk (.func (.func 96) #[] #[]) (.func (.func 106) #[] #[.pointer (some ⟨b1008, 0, none⟩)]) (.func (.func 107) #[] #[.pointer (some ⟨b1008, 0, none⟩)])), (M101.mk (.func (.func 128) #[] #[]) (.func (.func 129) #[] #[]) (.func (.func 130) #[] #[]))] d998 := by
  refine f_in (vs := [.int .i64 12]) Tryz.func59 rfl 22 rfl (by kernel_rfl) [(0, .int .i64 12)] (by kernel_rfl) fun a Qf hQ hQn hs => ?_
  refine c_seq ?_
  refine c_region ?_
  refine pures hs 1 [0] [(0, .int .i64 12)] (by kernel_rfl) fun a hs => ?_
  refine s_end ?_
  refine c_seq ?_
  refine c_region ?_
  refine pures hs 1 [0, 3] [(0, .int .i64 12), (3, .slice none 0 0)] (by kernel_rfl) fun a hs => ?_
  refine s_end ?_
  refine c_seq ?_
  refine c_seq ?_
  refine c_region ?_
  refine pures hs 3 [3, 8] [(3, .slice none 0 0), (8, .pointer (some ⟨0, 85, none⟩))] (by kernel_rfl) fun a hs => ?_
  refine s_load hs (hw.atG (hG.mono (Le.refl _))) 85 (by kernel_rfl) (by kernel_rfl) (v := .agg #[.int .i64 1, .int .i64 2, .int .i64 8, .int .i64 16, .int .i64 8192, .int .i64 0]) (by kernel_rfl) fun a hs => ?_
  refine pures hs 1 [3, 9, 10] [(3, .slice none 0 0), (9, .agg #[.int .i64 1, .int .i64 2, .int .i64 8, .int .i64 16, .int .i64 8192, .int .i64 0]), (10, .int .i64 0)] (by kernel_rfl) fun a hs => ?_
  refine s_end ?_
  refine c_block ?_
  refine wpIn_loop_rounds 7 ?_
  refine c_unr ?_
  refine c_seq ?_
  refine c_region ?_
  refine pures hs 1 [3, 9, 10, 11] [(3, .slice none 0 0), (9, .agg #[.int .i64 1, .int .i64 2, .int .i64 8, .int .i64 16, .int .i64 8192, .int .i64 0]), (10, .int .i64 0), (11, .bool true)] (by kernel_rfl) fun a hs => ?_
  refine s_end ?_
  refine c_seq ?_
  refine c_condT hs (by kernel_rfl) (by kernel_rfl) ?_
  refine c_skip ?_
  refine c_seq ?_
  refine c_block ?_
  refine c_seq ?_
  refine c_region ?_
  refine pures hs 2 [3, 9, 10, 5] [(3, .slice none 0 0), (9, .agg #[.int .i64 1, .int .i64 2, .int .i64 8, .int .i64 16, .int .i64 8192, .int .i64 0]), (10, .int .i64 0), (5, .int .i64 1)] (by kernel_rfl) fun a hs => ?_
  refine s_end ?_
  refine c_seq ?_
  refine c_region ?_
  refine pures hs 2 [3, 9, 10, 5, 14] [(3, .slice none 0 0), (9, .agg #[.int .i64 1, .int .i64 2, .int .i64 8, .int .i64 16, .int .i64 8192, .int .i64 0]), (10, .int .i64 0), (5, .int .i64 1), (14, .bool true)] (by kernel_rfl) fun a hs => ?_
  refine s_end ?_
  refine c_condT hs (by kernel_rfl) (by kernel_rfl) ?_
  refine c_region ?_
  refine pures hs 2 [9, 10, 15, 16] [(9, .agg #[.int .i64 1, .int .i64 2, .int .i64 8, .int .i64 16, .int .i64 8192, .int .i64 0]), (10, .int .i64 0), (15, .slice none 0 0), (16, .int .i64 1)] (by kernel_rfl) fun a hs => ?_
  have h796 : letter_of = some () := rfl
  refine s_call hs (by kernel_rfl) (by kernel_rfl) (letter_of_s h796 ((hw.pick [0] (by kernel_rfl)).pack 0)) fun a w v hv hs => ?_
  obtain ⟨b797, b799, rfl, hw⟩ := hv
  replace hw := hw.unpack 2 rfl
  refine s_new hs hw [.func (.func 86) #[] #[], .func (.func 102) #[] #[.pointer (some ⟨b797, 0, none⟩), .pointer (some ⟨b799, 0, none⟩)], .func (.func 104) #[] #[.pointer (some ⟨b799, 0, none⟩), .pointer (some ⟨b797, 0, none⟩)]] 101 (fun b => .slice (some ⟨b, 0, none⟩) 1 1) (by kernel_rfl) (fun _ => by kernel_rfl) fun a w b801 hs hw => ?_
  replace hw := hw.nil
  have h806 : app ([]) [(M101.mk (.func (.func 86) #[] #[]) (.func (.func 102) #[] #[.pointer (some ⟨b797, 0, none⟩), .pointer (some ⟨b799, 0, none⟩)]) (.func (.func 104) #[] #[.pointer (some ⟨b799, 0, none⟩), .pointer (some ⟨b797, 0, none⟩)]))] = some ([(M101.mk (.func (.func 86) #[] #[]) (.func (.func 102) #[] #[.pointer (some ⟨b797, 0, none⟩), .pointer (some ⟨b799, 0, none⟩)]) (.func (.func 104) #[] #[.pointer (some ⟨b799, 0, none⟩), .pointer (some ⟨b797, 0, none⟩)]))]) := rfl
  refine s_app1 hs hw (E := e101) appT95 0 rfl (OSl.nil _ _) (by kernel_rfl) (by kernel_rfl) (c2 := 1) (by kernel_rfl) (hw.at_ 1 rfl) (z := (M101.mk (.func (.func 86) #[] #[]) (.func (.func 102) #[] #[.pointer (some ⟨b797, 0, none⟩), .pointer (some ⟨b799, 0, none⟩)]) (.func (.func 104) #[] #[.pointer (some ⟨b799, 0, none⟩), .pointer (some ⟨b797, 0, none⟩)]))) ⟨rfl, rfl, rfl, rfl⟩ h806 fun a w p807 c808 d809 h810 hw hs => ?_
  refine pures hs 1 [9, 10, 3] [(9, .agg #[.int .i64 1, .int .i64 2, .int .i64 8, .int .i64 16, .int .i64 8192, .int .i64 0]), (10, .int .i64 0), (3, .slice p807 1 c808)] (by kernel_rfl) fun a hs => ?_
  refine s_end ?_
  refine c_region ?_
  refine pures hs 2 [9, 10, 3] [(9, .agg #[.int .i64 1, .int .i64 2, .int .i64 8, .int .i64 16, .int .i64 8192, .int .i64 0]), (10, .int .i64 1), (3, .slice p807 1 c808)] (by kernel_rfl) fun a hs => ?_
  refine s_end ?_
  refine c_unr ?_
  refine c_seq ?_
  refine c_region ?_
  refine pures hs 1 [9, 10, 3, 11] [(9, .agg #[.int .i64 1, .int .i64 2, .int .i64 8, .int .i64 16, .int .i64 8192, .int .i64 0]), (10, .int .i64 1), (3, .slice p807 1 c808), (11, .bool true)] (by kernel_rfl) fun a hs => ?_
  refine s_end ?_
  refine c_seq ?_
  refine c_condT hs (by kernel_rfl) (by kernel_rfl) ?_
  refine c_skip ?_
  refine c_seq ?_
  refine c_block ?_
  refine c_seq ?_
  refine c_region ?_
  refine pures hs 2 [9, 10, 3, 5] [(9, .agg #[.int .i64 1, .int .i64 2, .int .i64 8, .int .i64 16, .int .i64 8192, .int .i64 0]), (10, .int .i64 1), (3, .slice p807 1 c808), (5, .int .i64 2)] (by kernel_rfl) fun a hs => ?_
  refine s_end ?_
  refine c_seq ?_
  refine c_region ?_
  refine pures hs 2 [9, 10, 3, 5, 14] [(9, .agg #[.int .i64 1, .int .i64 2, .int .i64 8, .int .i64 16, .int .i64 8192, .int .i64 0]), (10, .int .i64 1), (3, .slice p807 1 c808), (5, .int .i64 2), (14, .bool true)] (by kernel_rfl) fun a hs => ?_
  refine s_end ?_
  refine c_condT hs (by kernel_rfl) (by kernel_rfl) ?_
  refine c_region ?_
  refine pures hs 2 [9, 10, 15, 16] [(9, .agg #[.int .i64 1, .int .i64 2, .int .i64 8, .int .i64 16, .int .i64 8192, .int .i64 0]), (10, .int .i64 1), (15, .slice p807 1 c808), (16, .int .i64 2)] (by kernel_rfl) fun a hs => ?_
  have h848 : letter_of_2 = some () := rfl
  refine s_call hs (by kernel_rfl) (by kernel_rfl) (letter_of_2_s h848 ((hw.pick [0, 2, 3, 4] (by kernel_rfl)).pack 0)) fun a w v hv hs => ?_
  obtain ⟨b849, rfl, hw⟩ := hv
  replace hw := hw.unpack 1 rfl
  refine s_new hs hw [.func (.func 91) #[] #[], .func (.func 106) #[] #[.pointer (some ⟨b849, 0, none⟩)], .func (.func 107) #[] #[.pointer (some ⟨b849, 0, none⟩)]] 101 (fun b => .slice (some ⟨b, 0, none⟩) 1 1) (by kernel_rfl) (fun _ => by kernel_rfl) fun a w b851 hs hw => ?_
  have h854 : app ([(M101.mk (.func (.func 86) #[] #[]) (.func (.func 102) #[] #[.pointer (some ⟨b797, 0, none⟩), .pointer (some ⟨b799, 0, none⟩)]) (.func (.func 104) #[] #[.pointer (some ⟨b799, 0, none⟩), .pointer (some ⟨b797, 0, none⟩)]))]) [(M101.mk (.func (.func 91) #[] #[]) (.func (.func 106) #[] #[.pointer (some ⟨b849, 0, none⟩)]) (.func (.func 107) #[] #[.pointer (some ⟨b849, 0, none⟩)]))] = some ([(M101.mk (.func (.func 86) #[] #[]) (.func (.func 102) #[] #[.pointer (some ⟨b797, 0, none⟩), .pointer (some ⟨b799, 0, none⟩)]) (.func (.func 104) #[] #[.pointer (some ⟨b799, 0, none⟩), .pointer (some ⟨b797, 0, none⟩)])), (M101.mk (.func (.func 91) #[] #[]) (.func (.func 106) #[] #[.pointer (some ⟨b849, 0, none⟩)]) (.func (.func 107) #[] #[.pointer (some ⟨b849, 0, none⟩)]))]) := rfl
  refine s_app1 hs hw (E := e101) appT95 2 rfl h810 (by kernel_rfl) (by kernel_rfl) (c2 := 1) (by kernel_rfl) (hw.at_ 0 rfl) (z := (M101.mk (.func (.func 91) #[] #[]) (.func (.func 106) #[] #[.pointer (some ⟨b849, 0, none⟩)]) (.func (.func 107) #[] #[.pointer (some ⟨b849, 0, none⟩)]))) ⟨rfl, rfl, rfl, rfl⟩ h854 fun a w p855 c856 d857 h858 hw hs => ?_
  refine pures hs 1 [9, 10, 3] [(9, .agg #[.int .i64 1, .int .i64 2, .int .i64 8, .int .i64 16, .int .i64 8192, .int .i64 0]), (10, .int .i64 1), (3, .slice p855 2 c856)] (by kernel_rfl) fun a hs => ?_
  refine s_end ?_
  refine c_region ?_
  refine pures hs 2 [9, 10, 3] [(9, .agg #[.int .i64 1, .int .i64 2, .int .i64 8, .int .i64 16, .int .i64 8192, .int .i64 0]), (10, .int .i64 2), (3, .slice p855 2 c856)] (by kernel_rfl) fun a hs => ?_
  refine s_end ?_
  refine c_unr ?_
  refine c_seq ?_
  refine c_region ?_
  refine pures hs 1 [9, 10, 3, 11] [(9, .agg #[.int .i64 1, .int .i64 2, .int .i64 8, .int .i64 16, .int .i64 8192, .int .i64 0]), (10, .int .i64 2), (3, .slice p855 2 c856), (11, .bool true)] (by kernel_rfl) fun a hs => ?_
  refine s_end ?_
  refine c_seq ?_
  refine c_condT hs (by kernel_rfl) (by kernel_rfl) ?_
  refine c_skip ?_
  refine c_seq ?_
  refine c_block ?_
  refine c_seq ?_
  refine c_region ?_
  refine pures hs 2 [9, 10, 3, 5] [(9, .agg #[.int .i64 1, .int .i64 2, .int .i64 8, .int .i64 16, .int .i64 8192, .int .i64 0]), (10, .int .i64 2), (3, .slice p855 2 c856), (5, .int .i64 8)] (by kernel_rfl) fun a hs => ?_
  refine s_end ?_
  refine c_seq ?_
  refine c_region ?_
  refine pures hs 2 [9, 10, 3, 5, 14] [(9, .agg #[.int .i64 1, .int .i64 2, .int .i64 8, .int .i64 16, .int .i64 8192, .int .i64 0]), (10, .int .i64 2), (3, .slice p855 2 c856), (5, .int .i64 8), (14, .bool true)] (by kernel_rfl) fun a hs => ?_
  refine s_end ?_
  refine c_condT hs (by kernel_rfl) (by kernel_rfl) ?_
  refine c_region ?_
  refine pures hs 2 [9, 10, 15, 16] [(9, .agg #[.int .i64 1, .int .i64 2, .int .i64 8, .int .i64 16, .int .i64 8192, .int .i64 0]), (10, .int .i64 2), (15, .slice p855 2 c856), (16, .int .i64 8)] (by kernel_rfl) fun a hs => ?_
  have h896 : letter_of_3 = some () := rfl
  refine s_call hs (by kernel_rfl) (by kernel_rfl) (letter_of_3_s h896 ((hw.pick [1, 2, 3, 4, 5] (by kernel_rfl)).pack 0)) fun a w v hv hs => ?_
  obtain ⟨b897, rfl, hw⟩ := hv
  replace hw := hw.unpack 1 rfl
  refine s_new hs hw [.func (.func 96) #[] #[], .func (.func 106) #[] #[.pointer (some ⟨b897, 0, none⟩)], .func (.func 107) #[] #[.pointer (some ⟨b897, 0, none⟩)]] 101 (fun b => .slice (some ⟨b, 0, none⟩) 1 1) (by kernel_rfl) (fun _ => by kernel_rfl) fun a w b899 hs hw => ?_
  have h902 : app ([(M101.mk (.func (.func 86) #[] #[]) (.func (.func 102) #[] #[.pointer (some ⟨b797, 0, none⟩), .pointer (some ⟨b799, 0, none⟩)]) (.func (.func 104) #[] #[.pointer (some ⟨b799, 0, none⟩), .pointer (some ⟨b797, 0, none⟩)])), (M101.mk (.func (.func 91) #[] #[]) (.func (.func 106) #[] #[.pointer (some ⟨b849, 0, none⟩)]) (.func (.func 107) #[] #[.pointer (some ⟨b849, 0, none⟩)]))]) [(M101.mk (.func (.func 96) #[] #[]) (.func (.func 106) #[] #[.pointer (some ⟨b897, 0, none⟩)]) (.func (.func 107) #[] #[.pointer (some ⟨b897, 0, none⟩)]))] = some ([(M101.mk (.func (.func 86) #[] #[]) (.func (.func 102) #[] #[.pointer (some ⟨b797, 0, none⟩), .pointer (some ⟨b799, 0, none⟩)]) (.func (.func 104) #[] #[.pointer (some ⟨b799, 0, none⟩), .pointer (some ⟨b797, 0, none⟩)])), (M101.mk (.func (.func 91) #[] #[]) (.func (.func 106) #[] #[.pointer (some ⟨b849, 0, none⟩)]) (.func (.func 107) #[] #[.pointer (some ⟨b849, 0, none⟩)])), (M101.mk (.func (.func 96) #[] #[]) (.func (.func 106) #[] #[.pointer (some ⟨b897, 0, none⟩)]) (.func (.func 107) #[] #[.pointer (some ⟨b897, 0, none⟩)]))]) := rfl
  refine s_app1 hs hw (E := e101) appT95 3 rfl h858 (by kernel_rfl) (by kernel_rfl) (c2 := 1) (by kernel_rfl) (hw.at_ 0 rfl) (z := (M101.mk (.func (.func 96) #[] #[]) (.func (.func 106) #[] #[.pointer (some ⟨b897, 0, none⟩)]) (.func (.func 107) #[] #[.pointer (some ⟨b897, 0, none⟩)]))) ⟨rfl, rfl, rfl, rfl⟩ h902 fun a w p903 c904 d905 h906 hw hs => ?_
  refine pures hs 1 [9, 10, 3] [(9, .agg #[.int .i64 1, .int .i64 2, .int .i64 8, .int .i64 16, .int .i64 8192, .int .i64 0]), (10, .int .i64 2), (3, .slice p903 3 c904)] (by kernel_rfl) fun a hs => ?_
  refine s_end ?_
  refine c_region ?_
  refine pures hs 2 [9, 10, 3] [(9, .agg #[.int .i64 1, .int .i64 2, .int .i64 8, .int .i64 16, .int .i64 8192, .int .i64 0]), (10, .int .i64 3), (3, .slice p903 3 c904)] (by kernel_rfl) fun a hs => ?_
  refine s_end ?_
  refine c_unr ?_
  refine c_seq ?_
  refine c_region ?_
  refine pures hs 1 [9, 10, 3, 11] [(9, .agg #[.int .i64 1, .int .i64 2, .int .i64 8, .int .i64 16, .int .i64 8192, .int .i64 0]), (10, .int .i64 3), (3, .slice p903 3 c904), (11, .bool true)] (by kernel_rfl) fun a hs => ?_
  refine s_end ?_
  refine c_seq ?_
  refine c_condT hs (by kernel_rfl) (by kernel_rfl) ?_
  refine c_skip ?_
  refine c_seq ?_
  refine c_block ?_
  refine c_seq ?_
  refine c_region ?_
  refine pures hs 2 [9, 10, 3, 5] [(9, .agg #[.int .i64 1, .int .i64 2, .int .i64 8, .int .i64 16, .int .i64 8192, .int .i64 0]), (10, .int .i64 3), (3, .slice p903 3 c904), (5, .int .i64 16)] (by kernel_rfl) fun a hs => ?_
  refine s_end ?_
  refine c_seq ?_
  refine c_region ?_
  refine pures hs 2 [9, 10, 3, 5, 14] [(9, .agg #[.int .i64 1, .int .i64 2, .int .i64 8, .int .i64 16, .int .i64 8192, .int .i64 0]), (10, .int .i64 3), (3, .slice p903 3 c904), (5, .int .i64 16), (14, .bool true)] (by kernel_rfl) fun a hs => ?_
  refine s_end ?_
  refine c_condT hs (by kernel_rfl) (by kernel_rfl) ?_
  refine c_region ?_
  refine pures hs 2 [9, 10, 15, 16] [(9, .agg #[.int .i64 1, .int .i64 2, .int .i64 8, .int .i64 16, .int .i64 8192, .int .i64 0]), (10, .int .i64 3), (15, .slice p903 3 c904), (16, .int .i64 16)] (by kernel_rfl) fun a hs => ?_
  have h944 : letter_of_4 = some () := rfl
  refine s_call hs (by kernel_rfl) (by kernel_rfl) (letter_of_4_s h944 ((hw.pick [1, 2, 3, 4, 5, 6] (by kernel_rfl)).pack 0)) fun a w v hv hs => ?_
  obtain ⟨b945, rfl, hw⟩ := hv
  replace hw := hw.unpack 1 rfl
  refine s_new hs hw [.func (.func 96) #[] #[], .func (.func 106) #[] #[.pointer (some ⟨b945, 0, none⟩)], .func (.func 107) #[] #[.pointer (some ⟨b945, 0, none⟩)]] 101 (fun b => .slice (some ⟨b, 0, none⟩) 1 1) (by kernel_rfl) (fun _ => by kernel_rfl) fun a w b947 hs hw => ?_
  have h950 : app ([(M101.mk (.func (.func 86) #[] #[]) (.func (.func 102) #[] #[.pointer (some ⟨b797, 0, none⟩), .pointer (some ⟨b799, 0, none⟩)]) (.func (.func 104) #[] #[.pointer (some ⟨b799, 0, none⟩), .pointer (some ⟨b797, 0, none⟩)])), (M101.mk (.func (.func 91) #[] #[]) (.func (.func 106) #[] #[.pointer (some ⟨b849, 0, none⟩)]) (.func (.func 107) #[] #[.pointer (some ⟨b849, 0, none⟩)])), (M101.mk (.func (.func 96) #[] #[]) (.func (.func 106) #[] #[.pointer (some ⟨b897, 0, none⟩)]) (.func (.func 107) #[] #[.pointer (some ⟨b897, 0, none⟩)]))]) [(M101.mk (.func (.func 96) #[] #[]) (.func (.func 106) #[] #[.pointer (some ⟨b945, 0, none⟩)]) (.func (.func 107) #[] #[.pointer (some ⟨b945, 0, none⟩)]))] = some ([(M101.mk (.func (.func 86) #[] #[]) (.func (.func 102) #[] #[.pointer (some ⟨b797, 0, none⟩), .pointer (some ⟨b799, 0, none⟩)]) (.func (.func 104) #[] #[.pointer (some ⟨b799, 0, none⟩), .pointer (some ⟨b797, 0, none⟩)])), (M101.mk (.func (.func 91) #[] #[]) (.func (.func 106) #[] #[.pointer (some ⟨b849, 0, none⟩)]) (.func (.func 107) #[] #[.pointer (some ⟨b849, 0, none⟩)])), (M101.mk (.func (.func 96) #[] #[]) (.func (.func 106) #[] #[.pointer (some ⟨b897, 0, none⟩)]) (.func (.func 107) #[] #[.pointer (some ⟨b897, 0, none⟩)])), (M101.mk (.func (.func 96) #[] #[]) (.func (.func 106) #[] #[.pointer (some ⟨b945, 0, none⟩)]) (.func (.func 107) #[] #[.pointer (some ⟨b945, 0, none⟩)]))]) := rfl
  refine s_app1 hs hw (E := e101) appT95 4 rfl h906 (by kernel_rfl) (by kernel_rfl) (c2 := 1) (by kernel_rfl) (hw.at_ 0 rfl) (z := (M101.mk (.func (.func 96) #[] #[]) (.func (.func 106) #[] #[.pointer (some ⟨b945, 0, none⟩)]) (.func (.func 107) #[] #[.pointer (some ⟨b945, 0, none⟩)]))) ⟨rfl, rfl, rfl, rfl⟩ h950 fun a w p951 c952 d953 h954 hw hs => ?_
  refine pures hs 1 [9, 10, 3] [(9, .agg #[.int .i64 1, .int .i64 2, .int .i64 8, .int .i64 16, .int .i64 8192, .int .i64 0]), (10, .int .i64 3), (3, .slice p951 4 c952)] (by kernel_rfl) fun a hs => ?_
  refine s_end ?_
  refine c_region ?_
  refine pures hs 2 [9, 10, 3] [(9, .agg #[.int .i64 1, .int .i64 2, .int .i64 8, .int .i64 16, .int .i64 8192, .int .i64 0]), (10, .int .i64 4), (3, .slice p951 4 c952)] (by kernel_rfl) fun a hs => ?_
  refine s_end ?_
  refine c_unr ?_
  refine c_seq ?_
  refine c_region ?_
  refine pures hs 1 [9, 10, 3, 11] [(9, .agg #[.int .i64 1, .int .i64 2, .int .i64 8, .int .i64 16, .int .i64 8192, .int .i64 0]), (10, .int .i64 4), (3, .slice p951 4 c952), (11, .bool true)] (by kernel_rfl) fun a hs => ?_
  refine s_end ?_
  refine c_seq ?_
  refine c_condT hs (by kernel_rfl) (by kernel_rfl) ?_
  refine c_skip ?_
  refine c_seq ?_
  refine c_block ?_
  refine c_seq ?_
  refine c_region ?_
  refine pures hs 2 [9, 10, 3, 5] [(9, .agg #[.int .i64 1, .int .i64 2, .int .i64 8, .int .i64 16, .int .i64 8192, .int .i64 0]), (10, .int .i64 4), (3, .slice p951 4 c952), (5, .int .i64 8192)] (by kernel_rfl) fun a hs => ?_
  refine s_end ?_
  refine c_seq ?_
  refine c_region ?_
  refine pures hs 2 [9, 10, 3, 5, 14] [(9, .agg #[.int .i64 1, .int .i64 2, .int .i64 8, .int .i64 16, .int .i64 8192, .int .i64 0]), (10, .int .i64 4), (3, .slice p951 4 c952), (5, .int .i64 8192), (14, .bool true)] (by kernel_rfl) fun a hs => ?_
  refine s_end ?_
  refine c_condT hs (by kernel_rfl) (by kernel_rfl) ?_
  refine c_region ?_
  refine pures hs 2 [9, 10, 15, 16] [(9, .agg #[.int .i64 1, .int .i64 2, .int .i64 8, .int .i64 16, .int .i64 8192, .int .i64 0]), (10, .int .i64 4), (15, .slice p951 4 c952), (16, .int .i64 8192)] (by kernel_rfl) fun a hs => ?_
  have h986 : letter_of_5 = some () := rfl
  refine s_call hs (by kernel_rfl) (by kernel_rfl) (letter_of_5_s h986 ((hw.pick [1, 2, 3, 4, 5, 6, 7] (by kernel_rfl)).pack 0)) fun a w v hv hs => ?_
  obtain ⟨rfl, hw⟩ := hv
  replace hw := hw.unpack 0 rfl
  refine s_new hs hw [.func (.func 128) #[] #[], .func (.func 129) #[] #[], .func (.func 130) #[] #[]] 101 (fun b => .slice (some ⟨b, 0, none⟩) 1 1) (by kernel_rfl) (fun _ => by kernel_rfl) fun a w b987 hs hw => ?_
  have h990 : app ([(M101.mk (.func (.func 86) #[] #[]) (.func (.func 102) #[] #[.pointer (some ⟨b797, 0, none⟩), .pointer (some ⟨b799, 0, none⟩)]) (.func (.func 104) #[] #[.pointer (some ⟨b799, 0, none⟩), .pointer (some ⟨b797, 0, none⟩)])), (M101.mk (.func (.func 91) #[] #[]) (.func (.func 106) #[] #[.pointer (some ⟨b849, 0, none⟩)]) (.func (.func 107) #[] #[.pointer (some ⟨b849, 0, none⟩)])), (M101.mk (.func (.func 96) #[] #[]) (.func (.func 106) #[] #[.pointer (some ⟨b897, 0, none⟩)]) (.func (.func 107) #[] #[.pointer (some ⟨b897, 0, none⟩)])), (M101.mk (.func (.func 96) #[] #[]) (.func (.func 106) #[] #[.pointer (some ⟨b945, 0, none⟩)]) (.func (.func 107) #[] #[.pointer (some ⟨b945, 0, none⟩)]))]) [(M101.mk (.func (.func 128) #[] #[]) (.func (.func 129) #[] #[]) (.func (.func 130) #[] #[]))] = some ([(M101.mk (.func (.func 86) #[] #[]) (.func (.func 102) #[] #[.pointer (some ⟨b797, 0, none⟩), .pointer (some ⟨b799, 0, none⟩)]) (.func (.func 104) #[] #[.pointer (some ⟨b799, 0, none⟩), .pointer (some ⟨b797, 0, none⟩)])), (M101.mk (.func (.func 91) #[] #[]) (.func (.func 106) #[] #[.pointer (some ⟨b849, 0, none⟩)]) (.func (.func 107) #[] #[.pointer (some ⟨b849, 0, none⟩)])), (M101.mk (.func (.func 96) #[] #[]) (.func (.func 106) #[] #[.pointer (some ⟨b897, 0, none⟩)]) (.func (.func 107) #[] #[.pointer (some ⟨b897, 0, none⟩)])), (M101.mk (.func (.func 96) #[] #[]) (.func (.func 106) #[] #[.pointer (some ⟨b945, 0, none⟩)]) (.func (.func 107) #[] #[.pointer (some ⟨b945, 0, none⟩)])), (M101.mk (.func (.func 128) #[] #[]) (.func (.func 129) #[] #[]) (.func (.func 130) #[] #[]))]) := rfl
  refine s_app1 hs hw (E := e101) appT95 4 rfl h954 (by kernel_rfl) (by kernel_rfl) (c2 := 1) (by kernel_rfl) (hw.at_ 0 rfl) (z := (M101.mk (.func (.func 128) #[] #[]) (.func (.func 129) #[] #[]) (.func (.func 130) #[] #[]))) ⟨rfl, rfl, rfl, rfl⟩ h990 fun a w p991 c992 d993 h994 hw hs => ?_
  refine pures hs 1 [9, 10, 3] [(9, .agg #[.int .i64 1, .int .i64 2, .int .i64 8, .int .i64 16, .int .i64 8192, .int .i64 0]), (10, .int .i64 4), (3, .slice p991 5 c992)] (by kernel_rfl) fun a hs => ?_
  refine s_end ?_
  refine c_region ?_
  refine pures hs 2 [9, 10, 3] [(9, .agg #[.int .i64 1, .int .i64 2, .int .i64 8, .int .i64 16, .int .i64 8192, .int .i64 0]), (10, .int .i64 5), (3, .slice p991 5 c992)] (by kernel_rfl) fun a hs => ?_
  refine s_end ?_
  refine c_unr ?_
  refine c_seq ?_
  refine c_region ?_
  refine pures hs 1 [9, 10, 3, 11] [(9, .agg #[.int .i64 1, .int .i64 2, .int .i64 8, .int .i64 16, .int .i64 8192, .int .i64 0]), (10, .int .i64 5), (3, .slice p991 5 c992), (11, .bool true)] (by kernel_rfl) fun a hs => ?_
  refine s_end ?_
  refine c_seq ?_
  refine c_condT hs (by kernel_rfl) (by kernel_rfl) ?_
  refine c_skip ?_
  refine c_seq ?_
  refine c_block ?_
  refine c_seq ?_
  refine c_region ?_
  refine pures hs 2 [9, 10, 3, 5] [(9, .agg #[.int .i64 1, .int .i64 2, .int .i64 8, .int .i64 16, .int .i64 8192, .int .i64 0]), (10, .int .i64 5), (3, .slice p991 5 c992), (5, .int .i64 0)] (by kernel_rfl) fun a hs => ?_
  refine s_end ?_
  refine c_seq ?_
  refine c_region ?_
  refine pures hs 2 [9, 10, 3, 5, 14] [(9, .agg #[.int .i64 1, .int .i64 2, .int .i64 8, .int .i64 16, .int .i64 8192, .int .i64 0]), (10, .int .i64 5), (3, .slice p991 5 c992), (5, .int .i64 0), (14, .bool false)] (by kernel_rfl) fun a hs => ?_
  refine s_end ?_
  refine c_condF hs (by kernel_rfl) (by kernel_rfl) ?_
  refine c_skip ?_
  refine c_region ?_
  refine pures hs 2 [9, 10, 3] [(9, .agg #[.int .i64 1, .int .i64 2, .int .i64 8, .int .i64 16, .int .i64 8192, .int .i64 0]), (10, .int .i64 6), (3, .slice p991 5 c992)] (by kernel_rfl) fun a hs => ?_
  refine s_end ?_
  refine c_unr ?_
  refine c_seq ?_
  refine c_region ?_
  refine pures hs 1 [9, 10, 3, 11] [(9, .agg #[.int .i64 1, .int .i64 2, .int .i64 8, .int .i64 16, .int .i64 8192, .int .i64 0]), (10, .int .i64 6), (3, .slice p991 5 c992), (11, .bool false)] (by kernel_rfl) fun a hs => ?_
  refine s_end ?_
  refine c_seq ?_
  refine c_condF hs (by kernel_rfl) (by kernel_rfl) ?_
  refine c_exit ?_
  refine c_seq ?_
  refine c_region ?_
  refine pures hs 2 [2] [(2, .slice p991 5 c992)] (by kernel_rfl) fun a hs => ?_
  refine s_end ?_
  refine c_ret ?_
  obtain rfl := someE hk
  refine hQ _ _ (f_ret1 hs rfl (v := .slice p991 5 c992) (by kernel_rfl) ⟨p991, c992, d993, b797, b799, b849, b897, b945, rfl, hw.pick [4, 5, 6, 3, 2, 1, 7] (by kernel_rfl), h994⟩)
def letter_of_1 : Option Unit :=
  some ()
theorem letter_of_1_s {x1 : List M26} {p2 : Option Addr} {c3 : Nat} {r : Unit} (hk : letter_of_1 = some r) {g w : World} {F : Ch} {ih : IH} (h4 : RSl e26 ih [] p2 c3 x1) (hw : St g w [F] ih) :
    CallsR Tryz.prog 86 #[.agg #[.int .i64 12, .int .i64 1, .int .i64 1, .int .i64 0, .int .u64 1, .int .u64 0, .int .u64 0, .int .u64 0, .int .u64 0, .int .u64 0, .int .i64 0, .int .u32 0, .int .i64 0, .int .i64 0, .int .i64 0, .int .u64 0, .int .i64 0, .int .i64 0, .int .u64 0, .slice none 0 0, .bool false, .int .i64 0, .slice none 0 0, .slice p2 x1.length c3, .slice none 0 0]] w fun v w' => v = .bool true ∧ St g w' [F] ih := by
  refine f_in (vs := [.agg #[.int .i64 12, .int .i64 1, .int .i64 1, .int .i64 0, .int .u64 1, .int .u64 0, .int .u64 0, .int .u64 0, .int .u64 0, .int .u64 0, .int .i64 0, .int .u32 0, .int .i64 0, .int .i64 0, .int .i64 0, .int .u64 0, .int .i64 0, .int .i64 0, .int .u64 0, .slice none 0 0, .bool false, .int .i64 0, .slice none 0 0, .slice p2 x1.length c3, .slice none 0 0]]) Tryz.func86 rfl 11 rfl (by kernel_rfl) [(0, .agg #[.int .i64 12, .int .i64 1, .int .i64 1, .int .i64 0, .int .u64 1, .int .u64 0, .int .u64 0, .int .u64 0, .int .u64 0, .int .u64 0, .int .i64 0, .int .u32 0, .int .i64 0, .int .i64 0, .int .i64 0, .int .u64 0, .int .i64 0, .int .i64 0, .int .u64 0, .slice none 0 0, .bool false, .int .i64 0, .slice none 0 0, .slice p2 x1.length c3, .slice none 0 0])] (by kernel_rfl) fun a Qf hQ hQn hs => ?_
  refine c_seq ?_
  refine c_region ?_
  refine s_new hs hw [.int .i64 12, .int .i64 1, .int .i64 1, .int .i64 0, .int .u64 1, .int .u64 0, .int .u64 0, .int .u64 0, .int .u64 0, .int .u64 0, .int .i64 0, .int .u32 0, .int .i64 0, .int .i64 0, .int .i64 0, .int .u64 0, .int .i64 0, .int .i64 0, .int .u64 0, .slice none 0 0, .bool false, .int .i64 0, .slice none 0 0, .slice p2 x1.length c3, .slice none 0 0] 90 (fun b => .pointer (some ⟨b, 0, none⟩)) (by kernel_rfl) (fun _ => by kernel_rfl) fun a w b13 hs hw => ?_
  refine pures hs 1 [1] [(1, .pointer (some ⟨b13, 0, none⟩))] (by kernel_rfl) fun a hs => ?_
  refine s_end ?_
  refine c_seq ?_
  refine c_region ?_
  refine pures hs 1 [1, 3] [(1, .pointer (some ⟨b13, 0, none⟩)), (3, .pointer (some ⟨b13, 3, none⟩))] (by kernel_rfl) fun a hs => ?_
  refine s_load hs (hw.at_ 0 rfl) 3 (by kernel_rfl) (by kernel_rfl) (v := .int .i64 0) (by kernel_rfl) fun a hs => ?_
  refine pures hs 3 [6, 7] [(6, .bool true), (7, .pointer (some ⟨b13, 3, none⟩))] (by kernel_rfl) fun a hs => ?_
  refine s_load hs (hw.at_ 0 rfl) 3 (by kernel_rfl) (by kernel_rfl) (v := .int .i64 0) (by kernel_rfl) fun a hs => ?_
  refine pures hs 3 [2] [(2, .bool true)] (by kernel_rfl) fun a hs => ?_
  refine s_end ?_
  refine c_ret ?_
  obtain rfl := someE hk
  refine hQ _ _ (f_ret1 hs rfl (v := .bool true) (by kernel_rfl) ⟨rfl, hw.pick [1] (by kernel_rfl)⟩)
def letter_of_5_2 : Option Unit :=
  some ()
theorem letter_of_5_2_s {x1 : List M26} {p2 : Option Addr} {c3 : Nat} {r : Unit} (hk : letter_of_5_2 = some r) {g w : World} {F : Ch} {ih : IH} (h4 : RSl e26 ih [] p2 c3 x1) (hw : St g w [F] ih) :
    CallsR Tryz.prog 91 #[.agg #[.int .i64 12, .int .i64 1, .int .i64 1, .int .i64 0, .int .u64 1, .int .u64 0, .int .u64 0, .int .u64 0, .int .u64 0, .int .u64 0, .int .i64 0, .int .u32 0, .int .i64 0, .int .i64 0, .int .i64 0, .int .u64 0, .int .i64 0, .int .i64 0, .int .u64 0, .slice none 0 0, .bool false, .int .i64 0, .slice none 0 0, .slice p2 x1.length c3, .slice none 0 0]] w fun v w' => v = .bool true ∧ St g w' [F] ih := by
  refine f_in (vs := [.agg #[.int .i64 12, .int .i64 1, .int .i64 1, .int .i64 0, .int .u64 1, .int .u64 0, .int .u64 0, .int .u64 0, .int .u64 0, .int .u64 0, .int .i64 0, .int .u32 0, .int .i64 0, .int .i64 0, .int .i64 0, .int .u64 0, .int .i64 0, .int .i64 0, .int .u64 0, .slice none 0 0, .bool false, .int .i64 0, .slice none 0 0, .slice p2 x1.length c3, .slice none 0 0]]) Tryz.func91 rfl 6 rfl (by kernel_rfl) [(0, .agg #[.int .i64 12, .int .i64 1, .int .i64 1, .int .i64 0, .int .u64 1, .int .u64 0, .int .u64 0, .int .u64 0, .int .u64 0, .int .u64 0, .int .i64 0, .int .u32 0, .int .i64 0, .int .i64 0, .int .i64 0, .int .u64 0, .int .i64 0, .int .i64 0, .int .u64 0, .slice none 0 0, .bool false, .int .i64 0, .slice none 0 0, .slice p2 x1.length c3, .slice none 0 0])] (by kernel_rfl) fun a Qf hQ hQn hs => ?_
  refine c_seq ?_
  refine c_region ?_
  refine s_new hs hw [.int .i64 12, .int .i64 1, .int .i64 1, .int .i64 0, .int .u64 1, .int .u64 0, .int .u64 0, .int .u64 0, .int .u64 0, .int .u64 0, .int .i64 0, .int .u32 0, .int .i64 0, .int .i64 0, .int .i64 0, .int .u64 0, .int .i64 0, .int .i64 0, .int .u64 0, .slice none 0 0, .bool false, .int .i64 0, .slice none 0 0, .slice p2 x1.length c3, .slice none 0 0] 90 (fun b => .pointer (some ⟨b, 0, none⟩)) (by kernel_rfl) (fun _ => by kernel_rfl) fun a w b13 hs hw => ?_
  refine pures hs 1 [1] [(1, .pointer (some ⟨b13, 0, none⟩))] (by kernel_rfl) fun a hs => ?_
  refine s_end ?_
  refine c_seq ?_
  refine c_region ?_
  refine pures hs 1 [3] [(3, .pointer (some ⟨b13, 4, none⟩))] (by kernel_rfl) fun a hs => ?_
  refine s_load hs (hw.at_ 0 rfl) 4 (by kernel_rfl) (by kernel_rfl) (v := .int .u64 1) (by kernel_rfl) fun a hs => ?_
  refine pures hs 2 [2] [(2, .bool true)] (by kernel_rfl) fun a hs => ?_
  refine s_end ?_
  refine c_ret ?_
  obtain rfl := someE hk
  refine hQ _ _ (f_ret1 hs rfl (v := .bool true) (by kernel_rfl) ⟨rfl, hw.pick [1] (by kernel_rfl)⟩)
def letter_any : Option Unit :=
  some ()
theorem letter_any_s {x1 : List M26} {p2 : Option Addr} {c3 : Nat} {r : Unit} (hk : letter_any = some r) {g w : World} {F : Ch} {ih : IH} (h4 : RSl e26 ih [] p2 c3 x1) (hw : St g w [F] ih) :
    CallsR Tryz.prog 96 #[.agg #[.int .i64 12, .int .i64 1, .int .i64 1, .int .i64 0, .int .u64 1, .int .u64 0, .int .u64 0, .int .u64 0, .int .u64 0, .int .u64 0, .int .i64 0, .int .u32 0, .int .i64 0, .int .i64 0, .int .i64 0, .int .u64 0, .int .i64 0, .int .i64 0, .int .u64 0, .slice none 0 0, .bool false, .int .i64 0, .slice none 0 0, .slice p2 x1.length c3, .slice none 0 0]] w fun v w' => v = .bool true ∧ St g w' [F] ih := by
  refine f_in (vs := [.agg #[.int .i64 12, .int .i64 1, .int .i64 1, .int .i64 0, .int .u64 1, .int .u64 0, .int .u64 0, .int .u64 0, .int .u64 0, .int .u64 0, .int .i64 0, .int .u32 0, .int .i64 0, .int .i64 0, .int .i64 0, .int .u64 0, .int .i64 0, .int .i64 0, .int .u64 0, .slice none 0 0, .bool false, .int .i64 0, .slice none 0 0, .slice p2 x1.length c3, .slice none 0 0]]) Tryz.func96 rfl 3 rfl (by kernel_rfl) [(0, .agg #[.int .i64 12, .int .i64 1, .int .i64 1, .int .i64 0, .int .u64 1, .int .u64 0, .int .u64 0, .int .u64 0, .int .u64 0, .int .u64 0, .int .i64 0, .int .u32 0, .int .i64 0, .int .i64 0, .int .i64 0, .int .u64 0, .int .i64 0, .int .i64 0, .int .u64 0, .slice none 0 0, .bool false, .int .i64 0, .slice none 0 0, .slice p2 x1.length c3, .slice none 0 0])] (by kernel_rfl) fun a Qf hQ hQn hs => ?_
  refine c_seq ?_
  refine c_region ?_
  refine s_new hs hw [.int .i64 12, .int .i64 1, .int .i64 1, .int .i64 0, .int .u64 1, .int .u64 0, .int .u64 0, .int .u64 0, .int .u64 0, .int .u64 0, .int .i64 0, .int .u32 0, .int .i64 0, .int .i64 0, .int .i64 0, .int .u64 0, .int .i64 0, .int .i64 0, .int .u64 0, .slice none 0 0, .bool false, .int .i64 0, .slice none 0 0, .slice p2 x1.length c3, .slice none 0 0] 90 (fun b => .pointer (some ⟨b, 0, none⟩)) (by kernel_rfl) (fun _ => by kernel_rfl) fun a w b13 hs hw => ?_
  refine pures hs 1 [] [] (by kernel_rfl) fun a hs => ?_
  refine s_end ?_
  refine c_seq ?_
  refine c_region ?_
  refine pures hs 1 [2] [(2, .bool true)] (by kernel_rfl) fun a hs => ?_
  refine s_end ?_
  refine c_ret ?_
  obtain rfl := someE hk
  refine hQ _ _ (f_ret1 hs rfl (v := .bool true) (by kernel_rfl) ⟨rfl, hw.pick [1] (by kernel_rfl)⟩)
def letter_update (x1 : M26) : Option Bool :=
  if ((!(false == (x1.f0 == 0))) || ((decide (x1.f1 < 1)) || ((decide (x1.f1 > 6)) || (decide (x1.f2 < 1))))) = true then some false
  else if (bif (x1.f3 == 2) then ((x1.f5 != 0) || ((x1.f3 != 2) && (x1.f3 != 3))) else ((x1.f3 != 2) && (x1.f3 != 3))) = true then some false
  else some (decide ((x1.f6.length : Int) ≤ 2048))
theorem letter_update_s {x1 : M26} {p2 : Option Addr} {c3 : Nat} {r : Bool} (hk : letter_update x1 = some r) {g w : World} {F : Ch} {ih : IH} (h4 : RSl e5 ih [] p2 c3 x1.f6) (hw : St g w [F] ih) :
    CallsR Tryz.prog 151 #[.agg #[.int .u64 x1.f0, .int .i64 x1.f1, .int .u64 x1.f2, .int .i64 x1.f3, .int .u32 x1.f4, .int .u64 x1.f5, .slice p2 x1.f6.length c3], .bool false] w fun v w' => v = .bool r ∧ St g w' [F] ih := by
  refine f_in (vs := [.agg #[.int .u64 x1.f0, .int .i64 x1.f1, .int .u64 x1.f2, .int .i64 x1.f3, .int .u32 x1.f4, .int .u64 x1.f5, .slice p2 x1.f6.length c3], .bool false]) Tryz.func151 rfl 49 rfl (by kernel_rfl) [(0, .agg #[.int .u64 x1.f0, .int .i64 x1.f1, .int .u64 x1.f2, .int .i64 x1.f3, .int .u32 x1.f4, .int .u64 x1.f5, .slice p2 x1.f6.length c3]), (1, .bool false)] (by kernel_rfl) fun a Qf hQ hQn hs => ?_
  refine c_seq ?_
  refine c_region ?_
  refine s_new hs hw [.int .u64 x1.f0, .int .i64 x1.f1, .int .u64 x1.f2, .int .i64 x1.f3, .int .u32 x1.f4, .int .u64 x1.f5, .slice p2 x1.f6.length c3] 26 (fun b => .pointer (some ⟨b, 0, none⟩)) (by kernel_rfl) (fun _ => by kernel_rfl) fun a w b40 hs hw => ?_
  refine pures hs 1 [1, 2] [(1, .bool false), (2, .pointer (some ⟨b40, 0, none⟩))] (by kernel_rfl) fun a hs => ?_
  refine s_end ?_
  refine c_seq ?_
  refine c_block ?_
  refine c_seq ?_
  obtain ⟨J49, hJ49⟩ : ∃ J : Act → World → Prop, ∀ a w, J a w ↔ (Sees a 49 [(2, .pointer (some ⟨b40, 0, none⟩)), (5, .bool ((!(false == (x1.f0 == 0))) || ((decide (x1.f1 < 1)) || ((decide (x1.f1 > 6)) || (decide (x1.f2 < 1))))))] ∧ St g w [bx b40 [.int .u64 x1.f0, .int .i64 x1.f1, .int .u64 x1.f2, .int .i64 x1.f3, .int .u32 x1.f4, .int .u64 x1.f5, .slice p2 x1.f6.length c3] 26, F] ih) := ⟨_, fun _ _ => Iff.rfl⟩
  refine c_regJ J49 ?_ ?_
  · refine pures hs 2 [2, 6, 7] [(2, .pointer (some ⟨b40, 0, none⟩)), (6, .bool false), (7, .pointer (some ⟨b40, 0, none⟩))] (by kernel_rfl) fun a hs => ?_
    refine s_load hs (hw.at_ 0 rfl) 0 (by kernel_rfl) (by kernel_rfl) (v := .int .u64 x1.f0) (by kernel_rfl) fun a hs => ?_
    refine pures hs 3 [2, 11] [(2, .pointer (some ⟨b40, 0, none⟩)), (11, .bool (!(false == (x1.f0 == 0))))] (by kernel_rfl) fun a hs => ?_
    rcases boolE (!(false == (x1.f0 == 0))) with h50 | h50
    · replace hs := hs.altB 11 true (by kernel_rfl) h50
      refine pures hs 15 [2, 5] [(2, .pointer (some ⟨b40, 0, none⟩)), (5, .bool true)] (by kernel_rfl) fun a hs => ?_
      refine s_end ?_
      exact (hJ49 _ _).2 ⟨(hs.altB 5 ((!(false == (x1.f0 == 0))) || ((decide (x1.f1 < 1)) || ((decide (x1.f1 > 6)) || (decide (x1.f2 < 1))))) (by kernel_rfl) (by rw [h50] <;> rfl)).cast [2, 5] (by kernel_rfl), hw.pick [0, 1] (by kernel_rfl)⟩
    replace hs := hs.altB 11 false (by kernel_rfl) h50
    refine pures hs 1 [2, 11, 12] [(2, .pointer (some ⟨b40, 0, none⟩)), (11, .bool false), (12, .pointer (some ⟨b40, 1, none⟩))] (by kernel_rfl) fun a hs => ?_
    refine s_load hs (hw.at_ 0 rfl) 1 (by kernel_rfl) (by kernel_rfl) (v := .int .i64 x1.f1) (by kernel_rfl) fun a hs => ?_
    refine pures hs 3 [2, 16] [(2, .pointer (some ⟨b40, 0, none⟩)), (16, .bool (decide (x1.f1 < 1)))] (by kernel_rfl) fun a hs => ?_
    rcases boolE (decide (x1.f1 < 1)) with h51 | h51
    · replace hs := hs.altB 16 true (by kernel_rfl) h51
      refine pures hs 10 [2, 5] [(2, .pointer (some ⟨b40, 0, none⟩)), (5, .bool true)] (by kernel_rfl) fun a hs => ?_
      refine s_end ?_
      exact (hJ49 _ _).2 ⟨(hs.altB 5 ((!(false == (x1.f0 == 0))) || ((decide (x1.f1 < 1)) || ((decide (x1.f1 > 6)) || (decide (x1.f2 < 1))))) (by kernel_rfl) (by rw [h50, h51] <;> rfl)).cast [2, 5] (by kernel_rfl), hw.pick [0, 1] (by kernel_rfl)⟩
    replace hs := hs.altB 16 false (by kernel_rfl) h51
    refine pures hs 1 [2, 16, 17] [(2, .pointer (some ⟨b40, 0, none⟩)), (16, .bool false), (17, .pointer (some ⟨b40, 1, none⟩))] (by kernel_rfl) fun a hs => ?_
    refine s_load hs (hw.at_ 0 rfl) 1 (by kernel_rfl) (by kernel_rfl) (v := .int .i64 x1.f1) (by kernel_rfl) fun a hs => ?_
    refine pures hs 3 [2, 21] [(2, .pointer (some ⟨b40, 0, none⟩)), (21, .bool (decide (x1.f1 > 6)))] (by kernel_rfl) fun a hs => ?_
    rcases boolE (decide (x1.f1 > 6)) with h52 | h52
    · replace hs := hs.altB 21 true (by kernel_rfl) h52
      refine pures hs 5 [2, 5] [(2, .pointer (some ⟨b40, 0, none⟩)), (5, .bool true)] (by kernel_rfl) fun a hs => ?_
      refine s_end ?_
      exact (hJ49 _ _).2 ⟨(hs.altB 5 ((!(false == (x1.f0 == 0))) || ((decide (x1.f1 < 1)) || ((decide (x1.f1 > 6)) || (decide (x1.f2 < 1))))) (by kernel_rfl) (by rw [h50, h51, h52] <;> rfl)).cast [2, 5] (by kernel_rfl), hw.pick [0, 1] (by kernel_rfl)⟩
    replace hs := hs.altB 21 false (by kernel_rfl) h52
    refine pures hs 1 [2, 21, 22] [(2, .pointer (some ⟨b40, 0, none⟩)), (21, .bool false), (22, .pointer (some ⟨b40, 2, none⟩))] (by kernel_rfl) fun a hs => ?_
    refine s_load hs (hw.at_ 0 rfl) 2 (by kernel_rfl) (by kernel_rfl) (v := .int .u64 x1.f2) (by kernel_rfl) fun a hs => ?_
    refine pures hs 3 [2, 5] [(2, .pointer (some ⟨b40, 0, none⟩)), (5, .bool (decide (x1.f2 < 1)))] (by kernel_rfl) fun a hs => ?_
    refine s_end ?_
    exact (hJ49 _ _).2 ⟨(hs.altB 5 ((!(false == (x1.f0 == 0))) || ((decide (x1.f1 < 1)) || ((decide (x1.f1 > 6)) || (decide (x1.f2 < 1))))) (by kernel_rfl) (by rw [h50, h51, h52] <;> rfl)).cast [2, 5] (by kernel_rfl), hw.pick [0, 1] (by kernel_rfl)⟩
  intro a w hh
  obtain ⟨hs, hw⟩ := (hJ49 _ _).1 hh
  rcases ifbE hk with ⟨h53, hk⟩ | ⟨h53, hk⟩
  · refine c_cond1 hs (by kernel_rfl) (t := ((!(false == (x1.f0 == 0))) || ((decide (x1.f1 < 1)) || ((decide (x1.f1 > 6)) || (decide (x1.f2 < 1)))))) (by kernel_rfl) h53 ?_
    refine c_seq ?_
    refine c_region ?_
    refine pures hs 1 [4] [(4, .bool false)] (by kernel_rfl) fun a hs => ?_
    refine s_end ?_
    refine c_ret ?_
    obtain rfl := someE hk
    refine hQ _ _ (f_ret1 hs rfl (v := .bool false) (by kernel_rfl) ⟨rfl, hw.pick [1] (by kernel_rfl)⟩)
  refine c_cond0 hs (by kernel_rfl) (t := ((!(false == (x1.f0 == 0))) || ((decide (x1.f1 < 1)) || ((decide (x1.f1 > 6)) || (decide (x1.f2 < 1)))))) (by kernel_rfl) h53 ?_
  refine c_seq ?_
  obtain ⟨J63, hJ63⟩ : ∃ J : Act → World → Prop, ∀ a w, J a w ↔ (Sees a 49 [(2, .pointer (some ⟨b40, 0, none⟩)), (26, .bool (bif (x1.f3 == 2) then ((x1.f5 != 0) || ((x1.f3 != 2) && (x1.f3 != 3))) else ((x1.f3 != 2) && (x1.f3 != 3))))] ∧ St g w [bx b40 [.int .u64 x1.f0, .int .i64 x1.f1, .int .u64 x1.f2, .int .i64 x1.f3, .int .u32 x1.f4, .int .u64 x1.f5, .slice p2 x1.f6.length c3] 26, F] ih) := ⟨_, fun _ _ => Iff.rfl⟩
  refine c_regJ J63 ?_ ?_
  · refine pures hs 1 [2, 27] [(2, .pointer (some ⟨b40, 0, none⟩)), (27, .pointer (some ⟨b40, 3, none⟩))] (by kernel_rfl) fun a hs => ?_
    refine s_load hs (hw.at_ 0 rfl) 3 (by kernel_rfl) (by kernel_rfl) (v := .int .i64 x1.f3) (by kernel_rfl) fun a hs => ?_
    refine pures hs 2 [2, 30] [(2, .pointer (some ⟨b40, 0, none⟩)), (30, .bool (x1.f3 == 2))] (by kernel_rfl) fun a hs => ?_
    rcases boolE (x1.f3 == 2) with h64 | h64
    · replace hs := hs.altB 30 true (by kernel_rfl) h64
      refine pures hs 1 [2, 30, 31] [(2, .pointer (some ⟨b40, 0, none⟩)), (30, .bool true), (31, .pointer (some ⟨b40, 5, none⟩))] (by kernel_rfl) fun a hs => ?_
      refine s_load hs (hw.at_ 0 rfl) 5 (by kernel_rfl) (by kernel_rfl) (v := .int .u64 x1.f5) (by kernel_rfl) fun a hs => ?_
      refine pures hs 3 [2, 35] [(2, .pointer (some ⟨b40, 0, none⟩)), (35, .bool (x1.f5 != 0))] (by kernel_rfl) fun a hs => ?_
      rcases boolE (x1.f5 != 0) with h65 | h65
      · replace hs := hs.altB 35 true (by kernel_rfl) h65
        refine pures hs 10 [2, 26] [(2, .pointer (some ⟨b40, 0, none⟩)), (26, .bool true)] (by kernel_rfl) fun a hs => ?_
        refine s_end ?_
        exact (hJ63 _ _).2 ⟨(hs.altB 26 (bif (x1.f3 == 2) then ((x1.f5 != 0) || ((x1.f3 != 2) && (x1.f3 != 3))) else ((x1.f3 != 2) && (x1.f3 != 3))) (by kernel_rfl) (by rw [h64, h65] <;> rfl)).cast [2, 26] (by kernel_rfl), hw.pick [0, 1] (by kernel_rfl)⟩
      replace hs := hs.altB 35 false (by kernel_rfl) h65
      refine pures hs 1 [2, 35, 36] [(2, .pointer (some ⟨b40, 0, none⟩)), (35, .bool false), (36, .pointer (some ⟨b40, 3, none⟩))] (by kernel_rfl) fun a hs => ?_
      refine s_load hs (hw.at_ 0 rfl) 3 (by kernel_rfl) (by kernel_rfl) (v := .int .i64 x1.f3) (by kernel_rfl) fun a hs => ?_
      refine pures hs 2 [2, 35, 39] [(2, .pointer (some ⟨b40, 0, none⟩)), (35, .bool false), (39, .bool (x1.f3 != 2))] (by kernel_rfl) fun a hs => ?_
      rcases boolE (x1.f3 != 2) with h66 | h66
      · replace hs := hs.altB 39 true (by kernel_rfl) h66
        refine pures hs 1 [2, 35, 39, 40] [(2, .pointer (some ⟨b40, 0, none⟩)), (35, .bool false), (39, .bool true), (40, .pointer (some ⟨b40, 3, none⟩))] (by kernel_rfl) fun a hs => ?_
        refine s_load hs (hw.at_ 0 rfl) 3 (by kernel_rfl) (by kernel_rfl) (v := .int .i64 x1.f3) (by kernel_rfl) fun a hs => ?_
        refine pures hs 4 [2, 26] [(2, .pointer (some ⟨b40, 0, none⟩)), (26, .bool (x1.f3 != 3))] (by kernel_rfl) fun a hs => ?_
        refine s_end ?_
        exact (hJ63 _ _).2 ⟨(hs.altB 26 (bif (x1.f3 == 2) then ((x1.f5 != 0) || ((x1.f3 != 2) && (x1.f3 != 3))) else ((x1.f3 != 2) && (x1.f3 != 3))) (by kernel_rfl) (by rw [h64, h65, h66] <;> rfl)).cast [2, 26] (by kernel_rfl), hw.pick [0, 1] (by kernel_rfl)⟩
      replace hs := hs.altB 39 false (by kernel_rfl) h66
      refine pures hs 6 [2, 26] [(2, .pointer (some ⟨b40, 0, none⟩)), (26, .bool false)] (by kernel_rfl) fun a hs => ?_
      refine s_end ?_
      exact (hJ63 _ _).2 ⟨(hs.altB 26 (bif (x1.f3 == 2) then ((x1.f5 != 0) || ((x1.f3 != 2) && (x1.f3 != 3))) else ((x1.f3 != 2) && (x1.f3 != 3))) (by kernel_rfl) (by rw [h64, h65, h66] <;> rfl)).cast [2, 26] (by kernel_rfl), hw.pick [0, 1] (by kernel_rfl)⟩
    replace hs := hs.altB 30 false (by kernel_rfl) h64
    refine pures hs 6 [2, 35, 36] [(2, .pointer (some ⟨b40, 0, none⟩)), (35, .bool false), (36, .pointer (some ⟨b40, 3, none⟩))] (by kernel_rfl) fun a hs => ?_
    refine s_load hs (hw.at_ 0 rfl) 3 (by kernel_rfl) (by kernel_rfl) (v := .int .i64 x1.f3) (by kernel_rfl) fun a hs => ?_
    refine pures hs 2 [2, 35, 39] [(2, .pointer (some ⟨b40, 0, none⟩)), (35, .bool false), (39, .bool (x1.f3 != 2))] (by kernel_rfl) fun a hs => ?_
    rcases boolE (x1.f3 != 2) with h67 | h67
    · replace hs := hs.altB 39 true (by kernel_rfl) h67
      refine pures hs 1 [2, 35, 39, 40] [(2, .pointer (some ⟨b40, 0, none⟩)), (35, .bool false), (39, .bool true), (40, .pointer (some ⟨b40, 3, none⟩))] (by kernel_rfl) fun a hs => ?_
      refine s_load hs (hw.at_ 0 rfl) 3 (by kernel_rfl) (by kernel_rfl) (v := .int .i64 x1.f3) (by kernel_rfl) fun a hs => ?_
      refine pures hs 4 [2, 26] [(2, .pointer (some ⟨b40, 0, none⟩)), (26, .bool (x1.f3 != 3))] (by kernel_rfl) fun a hs => ?_
      refine s_end ?_
      exact (hJ63 _ _).2 ⟨(hs.altB 26 (bif (x1.f3 == 2) then ((x1.f5 != 0) || ((x1.f3 != 2) && (x1.f3 != 3))) else ((x1.f3 != 2) && (x1.f3 != 3))) (by kernel_rfl) (by rw [h64, h67] <;> rfl)).cast [2, 26] (by kernel_rfl), hw.pick [0, 1] (by kernel_rfl)⟩
    replace hs := hs.altB 39 false (by kernel_rfl) h67
    refine pures hs 6 [2, 26] [(2, .pointer (some ⟨b40, 0, none⟩)), (26, .bool false)] (by kernel_rfl) fun a hs => ?_
    refine s_end ?_
    exact (hJ63 _ _).2 ⟨(hs.altB 26 (bif (x1.f3 == 2) then ((x1.f5 != 0) || ((x1.f3 != 2) && (x1.f3 != 3))) else ((x1.f3 != 2) && (x1.f3 != 3))) (by kernel_rfl) (by rw [h64, h67] <;> rfl)).cast [2, 26] (by kernel_rfl), hw.pick [0, 1] (by kernel_rfl)⟩
  intro a w hh
  obtain ⟨hs, hw⟩ := (hJ63 _ _).1 hh
  rcases ifbE hk with ⟨h68, hk⟩ | ⟨h68, hk⟩
  · refine c_cond1 hs (by kernel_rfl) (t := (bif (x1.f3 == 2) then ((x1.f5 != 0) || ((x1.f3 != 2) && (x1.f3 != 3))) else ((x1.f3 != 2) && (x1.f3 != 3)))) (by kernel_rfl) h68 ?_
    refine c_seq ?_
    refine c_region ?_
    refine pures hs 1 [4] [(4, .bool false)] (by kernel_rfl) fun a hs => ?_
    refine s_end ?_
    refine c_ret ?_
    obtain rfl := someE hk
    refine hQ _ _ (f_ret1 hs rfl (v := .bool false) (by kernel_rfl) ⟨rfl, hw.pick [1] (by kernel_rfl)⟩)
  refine c_cond0 hs (by kernel_rfl) (t := (bif (x1.f3 == 2) then ((x1.f5 != 0) || ((x1.f3 != 2) && (x1.f3 != 3))) else ((x1.f3 != 2) && (x1.f3 != 3)))) (by kernel_rfl) h68 ?_
  refine c_skip ?_
  refine c_seq ?_
  refine c_region ?_
  refine pures hs 1 [45] [(45, .pointer (some ⟨b40, 6, none⟩))] (by kernel_rfl) fun a hs => ?_
  refine s_load hs (hw.at_ 0 rfl) 6 (by kernel_rfl) (by kernel_rfl) (v := .slice p2 x1.f6.length c3) (by kernel_rfl) fun a hs => ?_
  refine pures hs 3 [4] [(4, .bool (decide ((x1.f6.length : Int) ≤ 2048)))] (by kernel_rfl) fun a hs => ?_
  refine s_end ?_
  refine c_ret ?_
  obtain rfl := someE hk
  refine hQ _ _ (f_ret1 hs rfl (v := .bool (decide ((x1.f6.length : Int) ≤ 2048))) (by kernel_rfl) ⟨rfl, hw.pick [1] (by kernel_rfl)⟩)
def letter_updates_1 (x1 : M26) : Option Bool :=
  (letter_update x1).bind fun y23 =>
  some (!y23)
theorem letter_updates_1_s {x1 : M26} {p2 : Option Addr} {c3 : Nat} {b6 : Nat} {r : Bool} (hk : letter_updates_1 x1 = some r) {g w : World} {F : Ch} {ih : IH} (h4 : RSl e5 ih [] p2 c3 x1.f6) (hw : St g w [bx b6 [.bool false] 4, F] ih) :
    CallsR Tryz.prog 150 #[.agg #[.int .u64 x1.f0, .int .i64 x1.f1, .int .u64 x1.f2, .int .i64 x1.f3, .int .u32 x1.f4, .int .u64 x1.f5, .slice p2 x1.f6.length c3], .pointer (some ⟨b6, 0, none⟩)] w fun v w' => v = .bool r ∧ St g w' [bx b6 [.bool false] 4, F] ih := by
  refine f_in (vs := [.agg #[.int .u64 x1.f0, .int .i64 x1.f1, .int .u64 x1.f2, .int .i64 x1.f3, .int .u32 x1.f4, .int .u64 x1.f5, .slice p2 x1.f6.length c3], .pointer (some ⟨b6, 0, none⟩)]) Tryz.func150 rfl 8 rfl (by kernel_rfl) [(0, .agg #[.int .u64 x1.f0, .int .i64 x1.f1, .int .u64 x1.f2, .int .i64 x1.f3, .int .u32 x1.f4, .int .u64 x1.f5, .slice p2 x1.f6.length c3]), (1, .pointer (some ⟨b6, 0, none⟩))] (by kernel_rfl) fun a Qf hQ hQn hs => ?_
  refine c_seq ?_
  refine c_region ?_
  refine s_new hs hw [.int .u64 x1.f0, .int .i64 x1.f1, .int .u64 x1.f2, .int .i64 x1.f3, .int .u32 x1.f4, .int .u64 x1.f5, .slice p2 x1.f6.length c3] 26 (fun b => .pointer (some ⟨b, 0, none⟩)) (by kernel_rfl) (fun _ => by kernel_rfl) fun a w b19 hs hw => ?_
  refine pures hs 1 [1, 2] [(1, .pointer (some ⟨b6, 0, none⟩)), (2, .pointer (some ⟨b19, 0, none⟩))] (by kernel_rfl) fun a hs => ?_
  refine s_end ?_
  refine c_seq ?_
  refine c_region ?_
  refine s_load hs (hw.at_ 0 rfl) 0 (by kernel_rfl) (by kernel_rfl) (v := .agg #[.int .u64 x1.f0, .int .i64 x1.f1, .int .u64 x1.f2, .int .i64 x1.f3, .int .u32 x1.f4, .int .u64 x1.f5, .slice p2 x1.f6.length c3]) (by kernel_rfl) fun a hs => ?_
  refine s_load hs (hw.at_ 1 rfl) 0 (by kernel_rfl) (by kernel_rfl) (v := .bool false) (by kernel_rfl) fun a hs => ?_
  obtain ⟨y23, h24, hk⟩ := bindE hk
  refine s_call hs (by kernel_rfl) (by kernel_rfl) (letter_update_s h24 h4 ((hw.pick [1, 2] (by kernel_rfl)).pack 0)) fun a w v hv hs => ?_
  obtain ⟨rfl, hw⟩ := hv
  replace hw := hw.unpack 0 rfl
  refine pures hs 2 [3] [(3, .bool (!y23))] (by kernel_rfl) fun a hs => ?_
  refine s_end ?_
  refine c_ret ?_
  obtain rfl := someE hk
  refine hQ _ _ (f_ret1 hs rfl (v := .bool (!y23)) (by kernel_rfl) ⟨rfl, hw.pick [0, 1] (by kernel_rfl)⟩)
def slices_IndexFunc_api_Update_api_Update_r3 : Option Int :=
  some (-1)
def slices_IndexFunc_api_Update_api_Update_l4 (x1 : List M26) : Nat → Int → Option (Sum Int Unit)
  | 0, _ => none
  | j + 1, x179 =>
    if (decide (x179 < (x1.length : Int))) = true then (
      (ix x1 x179).bind fun x214 =>
      (letter_updates_1 x214).bind fun y221 =>
      if y221 = true then some (.inl x179)
      else slices_IndexFunc_api_Update_api_Update_l4 x1 j (IntKind.i64.wrap (x179 + 1)))
    else some (.inr ())
def slices_IndexFunc_api_Update_api_Update (k : Nat) (x1 : List M26) : Option Int :=
  (slices_IndexFunc_api_Update_api_Update_l4 x1 k 0 : Option (Sum Int Unit)).bind fun
    | .inl z => some z
    | .inr _ => slices_IndexFunc_api_Update_api_Update_r3
theorem slices_IndexFunc_api_Update_api_Update_s {k : Nat} {x1 : List M26} {p2 : Option Addr} {c3 : Nat} {d5 : Ch} {b8 : Nat} {r : Int} (hk : slices_IndexFunc_api_Update_api_Update k x1 = some r) {g w : World} {F : Ch} {ih : IH} (h4 : RSl e26 ih d5 p2 c3 x1) (h6 : ∀ q ∈ d5, q ∈ F) (hw : St g w [bx b8 [.bool false] 4, F] ih) :
    CallsR Tryz.prog 165 #[.slice p2 x1.length c3, .func (.func 150) #[] #[.pointer (some ⟨b8, 0, none⟩)]] w fun v w' => v = .int .i64 r ∧ St g w' [bx b8 [.bool false] 4, F] ih := by
  refine f_in (vs := [.slice p2 x1.length c3, .func (.func 150) #[] #[.pointer (some ⟨b8, 0, none⟩)]]) Tryz.func165 rfl 19 rfl (by kernel_rfl) [(0, .slice p2 x1.length c3), (1, .func (.func 150) #[] #[.pointer (some ⟨b8, 0, none⟩)])] (by kernel_rfl) fun a Qf hQ hQn hs => ?_
  refine c_seq ?_
  refine c_region ?_
  refine pures hs 1 [0, 1] [(0, .slice p2 x1.length c3), (1, .func (.func 150) #[] #[.pointer (some ⟨b8, 0, none⟩)])] (by kernel_rfl) fun a hs => ?_
  refine s_end ?_
  refine c_seq ?_
  refine c_seq ?_
  refine c_region ?_
  refine pures hs 3 [0, 1, 7, 8] [(0, .slice p2 x1.length c3), (1, .func (.func 150) #[] #[.pointer (some ⟨b8, 0, none⟩)]), (7, .int .i64 (x1.length : Int)), (8, .int .i64 0)] (by kernel_rfl) fun a hs => ?_
  refine s_end ?_
  refine c_block ?_
  obtain ⟨y200, hx201, hk⟩ := bindE hk
  obtain ⟨J202, hJ202⟩ : ∃ J : Act → World → Prop, ∀ a w, J a w ↔ (slices_IndexFunc_api_Update_api_Update_r3 = some r ∧ Sees a 19 [] ∧ St g w [bx b8 [.bool false] 4, F] ih) := ⟨_, fun _ _ => Iff.rfl⟩
  obtain ⟨I203, hI203⟩ : ∃ J : Nat → Act → World → Prop, ∀ j a w, J j a w ↔ (∃ (x179 : Int), slices_IndexFunc_api_Update_api_Update_l4 x1 j x179 = some y200 ∧ Sees a 19 [(0, .slice p2 x1.length c3), (1, .func (.func 150) #[] #[.pointer (some ⟨b8, 0, none⟩)]), (7, .int .i64 (x1.length : Int)), (8, .int .i64 x179)] ∧ St g w [bx b8 [.bool false] 4, F] ih) := ⟨_, fun _ _ _ => Iff.rfl⟩
  refine c_exitJ 0 J202 ?_ ?_
  · refine c_loop I203 k ((hI203 _ _ _).2 ⟨0, hx201, hs.cast [0, 1, 7, 8] (by kernel_rfl), hw.pick [0, 1] (by kernel_rfl)⟩) (fun a w h0 => ?_) fun j a w hh => ?_
    · obtain ⟨_, h, _⟩ := (hI203 _ _ _).1 h0
      cases h
    obtain ⟨x179, hx201, hs, hw⟩ := (hI203 _ _ _).1 hh
    refine c_seq ?_
    refine c_region ?_
    refine pures hs 1 [0, 1, 7, 8, 9] [(0, .slice p2 x1.length c3), (1, .func (.func 150) #[] #[.pointer (some ⟨b8, 0, none⟩)]), (7, .int .i64 (x1.length : Int)), (8, .int .i64 x179), (9, .bool (decide (x179 < (x1.length : Int))))] (by kernel_rfl) fun a hs => ?_
    refine s_end ?_
    refine c_seq ?_
    rcases ifbE hx201 with ⟨h204, hx201⟩ | ⟨h204, hx201⟩
    · refine c_cond1 hs (by kernel_rfl) (t := (decide (x179 < (x1.length : Int)))) (by kernel_rfl) h204 ?_
      refine c_skip ?_
      refine c_seq ?_
      refine c_block ?_
      refine c_seq ?_
      refine c_region ?_
      refine pures hs 2 [0, 1, 7, 8, 5] [(0, .slice p2 x1.length c3), (1, .func (.func 150) #[] #[.pointer (some ⟨b8, 0, none⟩)]), (7, .int .i64 (x1.length : Int)), (8, .int .i64 x179), (5, .int .i64 x179)] (by kernel_rfl) fun a hs => ?_
      refine s_end ?_
      refine c_seq ?_
      refine c_region ?_
      refine pures hs 3 [0, 1, 7, 8, 5, 11, 12, 13] [(0, .slice p2 x1.length c3), (1, .func (.func 150) #[] #[.pointer (some ⟨b8, 0, none⟩)]), (7, .int .i64 (x1.length : Int)), (8, .int .i64 x179), (5, .int .i64 x179), (11, .func (.func 150) #[] #[.pointer (some ⟨b8, 0, none⟩)]), (12, .slice p2 x1.length c3), (13, .int .i64 x179)] (by kernel_rfl) fun a hs => ?_
      obtain ⟨x214, h215, hx201⟩ := bindE hx201
      refine s_index hs h4 (by kernel_rfl) (by kernel_rfl) (k := .i64) (by kernel_rfl) 26 (by kernel_rfl) (by kernel_rfl) h215 fun a r216 cs henc at217 hs => ?_
      obtain ⟨p218, c219, rfl, h220⟩ := henc
      refine s_load hs (at217 _ (((hw.vw 1 rfl).sub h6).anti (Le.refl _))) 0 (by kernel_rfl) (by kernel_rfl) (v := .agg #[.int .u64 x214.f0, .int .i64 x214.f1, .int .u64 x214.f2, .int .i64 x214.f3, .int .u32 x214.f4, .int .u64 x214.f5, .slice p218 x214.f6.length c219]) (by kernel_rfl) fun a hs => ?_
      obtain ⟨y221, h222, hx201⟩ := bindE hx201
      refine s_call hs (by kernel_rfl) (by kernel_rfl) (letter_updates_1_s h222 h220 ((hw.pick [0, 1] (by kernel_rfl)).pack 1)) fun a w v hv hs => ?_
      obtain ⟨rfl, hw⟩ := hv
      replace hw := hw.unpack 1 rfl
      refine s_end ?_
      rcases ifbE hx201 with ⟨h223, hx201⟩ | ⟨h223, hx201⟩
      · refine c_cond1 hs (by kernel_rfl) (t := y221) (by kernel_rfl) h223 ?_
        refine c_seq ?_
        refine c_region ?_
        refine pures hs 2 [4] [(4, .int .i64 x179)] (by kernel_rfl) fun a hs => ?_
        refine s_end ?_
        refine c_ret ?_
        obtain rfl := someE hx201
        obtain rfl := someE hk
        refine hQ _ _ (f_ret1 hs rfl (v := .int .i64 x179) (by kernel_rfl) ⟨rfl, hw.pick [0, 1] (by kernel_rfl)⟩)
      refine c_cond0 hs (by kernel_rfl) (t := y221) (by kernel_rfl) h223 ?_
      refine c_skip ?_
      refine c_region ?_
      refine pures hs 2 [0, 1, 7, 8] [(0, .slice p2 x1.length c3), (1, .func (.func 150) #[] #[.pointer (some ⟨b8, 0, none⟩)]), (7, .int .i64 (x1.length : Int)), (8, .int .i64 (IntKind.i64.wrap (x179 + 1)))] (by kernel_rfl) fun a hs => ?_
      refine s_end ?_
      exact (hI203 _ _ _).2 ⟨(IntKind.i64.wrap (x179 + 1)), hx201, hs.cast [0, 1, 7, 8] (by kernel_rfl), hw.pick [0, 1] (by kernel_rfl)⟩
    refine c_cond0 hs (by kernel_rfl) (t := (decide (x179 < (x1.length : Int)))) (by kernel_rfl) h204 ?_
    refine c_exit ?_
    obtain rfl := someE hx201
    exact (hJ202 _ _).2 ⟨hk, hs.cast [] (by kernel_rfl), hw.pick [0, 1] (by kernel_rfl)⟩
  intro a w hh
  obtain ⟨hk, hs, hw⟩ := (hJ202 _ _).1 hh
  refine c_seq ?_
  refine c_region ?_
  refine pures hs 1 [4] [(4, .int .i64 (-1))] (by kernel_rfl) fun a hs => ?_
  refine s_end ?_
  refine c_ret ?_
  obtain rfl := someE hk
  refine hQ _ _ (f_ret1 hs rfl (v := .int .i64 (-1)) (by kernel_rfl) ⟨rfl, hw.pick [0, 1] (by kernel_rfl)⟩)
def slices_ContainsFunc_api_Update_api_Update (k : Nat) (x1 : List M26) : Option Bool :=
  (slices_IndexFunc_api_Update_api_Update k x1).bind fun y17 =>
  some (decide (y17 ≥ 0))
theorem slices_ContainsFunc_api_Update_api_Update_s {k : Nat} {x1 : List M26} {p2 : Option Addr} {c3 : Nat} {d5 : Ch} {b8 : Nat} {r : Bool} (hk : slices_ContainsFunc_api_Update_api_Update k x1 = some r) {g w : World} {F : Ch} {ih : IH} (h4 : RSl e26 ih d5 p2 c3 x1) (h6 : ∀ q ∈ d5, q ∈ F) (hw : St g w [bx b8 [.bool false] 4, F] ih) :
    CallsR Tryz.prog 149 #[.slice p2 x1.length c3, .func (.func 150) #[] #[.pointer (some ⟨b8, 0, none⟩)]] w fun v w' => v = .bool r ∧ St g w' [bx b8 [.bool false] 4, F] ih := by
  refine f_in (vs := [.slice p2 x1.length c3, .func (.func 150) #[] #[.pointer (some ⟨b8, 0, none⟩)]]) Tryz.func149 rfl 9 rfl (by kernel_rfl) [(0, .slice p2 x1.length c3), (1, .func (.func 150) #[] #[.pointer (some ⟨b8, 0, none⟩)])] (by kernel_rfl) fun a Qf hQ hQn hs => ?_
  refine c_seq ?_
  refine c_region ?_
  refine pures hs 1 [0, 1] [(0, .slice p2 x1.length c3), (1, .func (.func 150) #[] #[.pointer (some ⟨b8, 0, none⟩)])] (by kernel_rfl) fun a hs => ?_
  refine s_end ?_
  refine c_seq ?_
  refine c_region ?_
  refine pures hs 2 [5, 6] [(5, .slice p2 x1.length c3), (6, .func (.func 150) #[] #[.pointer (some ⟨b8, 0, none⟩)])] (by kernel_rfl) fun a hs => ?_
  obtain ⟨y17, h18, hk⟩ := bindE hk
  refine s_call hs (by kernel_rfl) (by kernel_rfl) (slices_IndexFunc_api_Update_api_Update_s h18 h4 (fun q hq => memF 0 rfl q (h6 q hq)) ((hw.pick [0, 1] (by kernel_rfl)).pack 1)) fun a w v hv hs => ?_
  obtain ⟨rfl, hw⟩ := hv
  replace hw := hw.unpack 1 rfl
  refine pures hs 2 [4] [(4, .bool (decide (y17 ≥ 0)))] (by kernel_rfl) fun a hs => ?_
  refine s_end ?_
  refine c_ret ?_
  obtain rfl := someE hk
  refine hQ _ _ (f_ret1 hs rfl (v := .bool (decide (y17 ≥ 0))) (by kernel_rfl) ⟨rfl, hw.pick [0, 1] (by kernel_rfl)⟩)
def letter_updates (k : Nat) (x1 : List M26) : Option Bool :=
  if (decide ((x1.length : Int) > 4)) = true then some false
  else (slices_ContainsFunc_api_Update_api_Update k x1).bind fun y31 =>
  some (!y31)
theorem letter_updates_s {k : Nat} {x1 : List M26} {p2 : Option Addr} {c3 : Nat} {r : Bool} (hk : letter_updates k x1 = some r) {g w : World} {F : Ch} {ih : IH} (h4 : RSl e26 ih [] p2 c3 x1) (hw : St g w [F] ih) :
    CallsR Tryz.prog 128 #[.agg #[.int .i64 12, .int .i64 1, .int .i64 1, .int .i64 0, .int .u64 1, .int .u64 0, .int .u64 0, .int .u64 0, .int .u64 0, .int .u64 0, .int .i64 0, .int .u32 0, .int .i64 0, .int .i64 0, .int .i64 0, .int .u64 0, .int .i64 0, .int .i64 0, .int .u64 0, .slice none 0 0, .bool false, .int .i64 0, .slice none 0 0, .slice p2 x1.length c3, .slice none 0 0]] w fun v w' => v = .bool r ∧ St g w' [F] ih := by
  refine f_in (vs := [.agg #[.int .i64 12, .int .i64 1, .int .i64 1, .int .i64 0, .int .u64 1, .int .u64 0, .int .u64 0, .int .u64 0, .int .u64 0, .int .u64 0, .int .i64 0, .int .u32 0, .int .i64 0, .int .i64 0, .int .i64 0, .int .u64 0, .int .i64 0, .int .i64 0, .int .u64 0, .slice none 0 0, .bool false, .int .i64 0, .slice none 0 0, .slice p2 x1.length c3, .slice none 0 0]]) Tryz.func128 rfl 25 rfl (by kernel_rfl) [(0, .agg #[.int .i64 12, .int .i64 1, .int .i64 1, .int .i64 0, .int .u64 1, .int .u64 0, .int .u64 0, .int .u64 0, .int .u64 0, .int .u64 0, .int .i64 0, .int .u32 0, .int .i64 0, .int .i64 0, .int .i64 0, .int .u64 0, .int .i64 0, .int .i64 0, .int .u64 0, .slice none 0 0, .bool false, .int .i64 0, .slice none 0 0, .slice p2 x1.length c3, .slice none 0 0])] (by kernel_rfl) fun a Qf hQ hQn hs => ?_
  refine c_seq ?_
  refine c_region ?_
  refine s_new hs hw [.int .i64 12, .int .i64 1, .int .i64 1, .int .i64 0, .int .u64 1, .int .u64 0, .int .u64 0, .int .u64 0, .int .u64 0, .int .u64 0, .int .i64 0, .int .u32 0, .int .i64 0, .int .i64 0, .int .i64 0, .int .u64 0, .int .i64 0, .int .i64 0, .int .u64 0, .slice none 0 0, .bool false, .int .i64 0, .slice none 0 0, .slice p2 x1.length c3, .slice none 0 0] 90 (fun b => .pointer (some ⟨b, 0, none⟩)) (by kernel_rfl) (fun _ => by kernel_rfl) fun a w b22 hs hw => ?_
  refine pures hs 1 [1] [(1, .pointer (some ⟨b22, 0, none⟩))] (by kernel_rfl) fun a hs => ?_
  refine s_end ?_
  refine c_seq ?_
  refine c_region ?_
  refine pures hs 1 [1, 4] [(1, .pointer (some ⟨b22, 0, none⟩)), (4, .pointer (some ⟨b22, 0, none⟩))] (by kernel_rfl) fun a hs => ?_
  refine s_load hs (hw.at_ 0 rfl) 0 (by kernel_rfl) (by kernel_rfl) (v := .int .i64 12) (by kernel_rfl) fun a hs => ?_
  refine pures hs 1 [1, 6] [(1, .pointer (some ⟨b22, 0, none⟩)), (6, .bool false)] (by kernel_rfl) fun a hs => ?_
  refine s_new hs hw [.bool false] 4 (fun b => .pointer (some ⟨b, 0, none⟩)) (by kernel_rfl) (fun _ => by kernel_rfl) fun a w b26 hs hw => ?_
  refine s_store hs hw 0 rfl 0 (by kernel_rfl) (by kernel_rfl) (v := .bool false) (by kernel_rfl) (by kernel_rfl) (by kernel_rfl) (by kernel_rfl) fun a w hs hw => ?_
  refine s_end ?_
  refine c_seq ?_
  refine c_seq ?_
  refine c_region ?_
  refine s_load hs (hw.at_ 0 rfl) 0 (by kernel_rfl) (by kernel_rfl) (v := .bool false) (by kernel_rfl) fun a hs => ?_
  refine pures hs 8 [1, 3, 14, 15] [(1, .pointer (some ⟨b22, 0, none⟩)), (3, .pointer (some ⟨b26, 0, none⟩)), (14, .bool false), (15, .pointer (some ⟨b22, 23, none⟩))] (by kernel_rfl) fun a hs => ?_
  refine s_load hs (hw.at_ 1 rfl) 23 (by kernel_rfl) (by kernel_rfl) (v := .slice p2 x1.length c3) (by kernel_rfl) fun a hs => ?_
  refine pures hs 3 [1, 3, 19] [(1, .pointer (some ⟨b22, 0, none⟩)), (3, .pointer (some ⟨b26, 0, none⟩)), (19, .bool (decide ((x1.length : Int) > 4)))] (by kernel_rfl) fun a hs => ?_
  refine s_end ?_
  rcases ifbE hk with ⟨h28, hk⟩ | ⟨h28, hk⟩
  · refine c_cond1 hs (by kernel_rfl) (t := (decide ((x1.length : Int) > 4))) (by kernel_rfl) h28 ?_
    refine c_seq ?_
    refine c_region ?_
    refine pures hs 1 [2] [(2, .bool false)] (by kernel_rfl) fun a hs => ?_
    refine s_end ?_
    refine c_ret ?_
    obtain rfl := someE hk
    refine hQ _ _ (f_ret1 hs rfl (v := .bool false) (by kernel_rfl) ⟨rfl, hw.pick [2] (by kernel_rfl)⟩)
  refine c_cond0 hs (by kernel_rfl) (t := (decide ((x1.length : Int) > 4))) (by kernel_rfl) h28 ?_
  refine c_skip ?_
  refine c_seq ?_
  refine c_region ?_
  refine pures hs 1 [3, 20] [(3, .pointer (some ⟨b26, 0, none⟩)), (20, .pointer (some ⟨b22, 23, none⟩))] (by kernel_rfl) fun a hs => ?_
  refine s_load hs (hw.at_ 1 rfl) 23 (by kernel_rfl) (by kernel_rfl) (v := .slice p2 x1.length c3) (by kernel_rfl) fun a hs => ?_
  refine pures hs 1 [21, 22] [(21, .slice p2 x1.length c3), (22, .func (.func 150) #[] #[.pointer (some ⟨b26, 0, none⟩)])] (by kernel_rfl) fun a hs => ?_
  obtain ⟨y31, h32, hk⟩ := bindE hk
  refine s_call hs (by kernel_rfl) (by kernel_rfl) (slices_ContainsFunc_api_Update_api_Update_s h32 h4 (nilSub _) ((hw.pick [0, 2] (by kernel_rfl)).pack 1)) fun a w v hv hs => ?_
  obtain ⟨rfl, hw⟩ := hv
  replace hw := hw.unpack 1 rfl
  refine pures hs 2 [2] [(2, .bool (!y31))] (by kernel_rfl) fun a hs => ?_
  refine s_end ?_
  refine c_ret ?_
  obtain rfl := someE hk
  refine hQ _ _ (f_ret1 hs rfl (v := .bool (!y31)) (by kernel_rfl) ⟨rfl, hw.pick [1] (by kernel_rfl)⟩)
def letter_Check_r2 (k : Nat) (x1 : List M26) (x362 : Bool) : Option Int :=
  if x362 = true then some 4
  else (letter_updates k x1).bind fun y637 =>
  if (!y637) = true then some 4
  else some 0
def letter_Check (k : Nat) (x1 : List M26) : Option Int :=
  ((letter_bare x1).bind fun y647 =>
    (letter_Same k x1 y647.1 y647.2.1 y647.2.2.1 y647.2.2.2.1 y647.2.2.2.2).bind fun y652 =>
    some (!y652) : Option Bool).bind fun s654 => letter_Check_r2 k x1 s654
theorem letter_Check_s {k : Nat} {x1 : List M26} {p2 : Option Addr} {c3 : Nat} {r : Int} (hk : letter_Check k x1 = some r) {g w : World} {F : Ch} {ih : IH} (h4 : RSl e26 ih [] p2 c3 x1) (hG : Glob 0 gl0 110 ih) (hw : St g w [F] ih) :
    CallsR Tryz.prog 51 #[.agg #[.int .i64 12, .int .i64 1, .int .i64 1, .int .i64 0, .int .u64 1, .int .u64 0, .int .u64 0, .int .u64 0, .int .u64 0, .int .u64 0, .int .i64 0, .int .u32 0, .int .i64 0, .int .i64 0, .int .i64 0, .int .u64 0, .int .i64 0, .int .i64 0, .int .u64 0, .slice none 0 0, .bool false, .int .i64 0, .slice none 0 0, .slice p2 x1.length c3, .slice none 0 0]] w fun v w' => v = .int .i64 r ∧ St g w' [F] ih := by
  refine f_in (vs := [.agg #[.int .i64 12, .int .i64 1, .int .i64 1, .int .i64 0, .int .u64 1, .int .u64 0, .int .u64 0, .int .u64 0, .int .u64 0, .int .u64 0, .int .i64 0, .int .u32 0, .int .i64 0, .int .i64 0, .int .i64 0, .int .u64 0, .int .i64 0, .int .i64 0, .int .u64 0, .slice none 0 0, .bool false, .int .i64 0, .slice none 0 0, .slice p2 x1.length c3, .slice none 0 0]]) Tryz.func51 rfl 40 rfl (by kernel_rfl) [(0, .agg #[.int .i64 12, .int .i64 1, .int .i64 1, .int .i64 0, .int .u64 1, .int .u64 0, .int .u64 0, .int .u64 0, .int .u64 0, .int .u64 0, .int .i64 0, .int .u32 0, .int .i64 0, .int .i64 0, .int .i64 0, .int .u64 0, .int .i64 0, .int .i64 0, .int .u64 0, .slice none 0 0, .bool false, .int .i64 0, .slice none 0 0, .slice p2 x1.length c3, .slice none 0 0])] (by kernel_rfl) fun a Qf hQ hQn hs => ?_
  refine c_seq ?_
  refine c_region ?_
  refine s_new hs hw [.int .i64 12, .int .i64 1, .int .i64 1, .int .i64 0, .int .u64 1, .int .u64 0, .int .u64 0, .int .u64 0, .int .u64 0, .int .u64 0, .int .i64 0, .int .u32 0, .int .i64 0, .int .i64 0, .int .i64 0, .int .u64 0, .int .i64 0, .int .i64 0, .int .u64 0, .slice none 0 0, .bool false, .int .i64 0, .slice none 0 0, .slice p2 x1.length c3, .slice none 0 0] 90 (fun b => .pointer (some ⟨b, 0, none⟩)) (by kernel_rfl) (fun _ => by kernel_rfl) fun a w b333 hs hw => ?_
  refine pures hs 1 [1] [(1, .pointer (some ⟨b333, 0, none⟩))] (by kernel_rfl) fun a hs => ?_
  refine s_end ?_
  refine c_seq ?_
  refine c_seq ?_
  refine c_region ?_
  refine pures hs 1 [1, 5] [(1, .pointer (some ⟨b333, 0, none⟩)), (5, .pointer (some ⟨b333, 0, none⟩))] (by kernel_rfl) fun a hs => ?_
  refine s_load hs (hw.at_ 0 rfl) 0 (by kernel_rfl) (by kernel_rfl) (v := .int .i64 12) (by kernel_rfl) fun a hs => ?_
  have h338 : letter_known = some () := rfl
  refine s_call hs (by kernel_rfl) (by kernel_rfl) (letter_known_s h338 ((hw.pick [0, 1] (by kernel_rfl)).pack 0)) fun a w v hv hs => ?_
  obtain ⟨rfl, hw⟩ := hv
  replace hw := hw.unpack 0 rfl
  refine pures hs 1 [1, 8] [(1, .pointer (some ⟨b333, 0, none⟩)), (8, .bool false)] (by kernel_rfl) fun a hs => ?_
  refine s_end ?_
  refine c_condF hs (by kernel_rfl) (by kernel_rfl) ?_
  refine c_skip ?_
  refine c_seq ?_
  refine c_seq ?_
  obtain ⟨S339, hS339, kS339⟩ := mkSX (X := [([], bx b333 [.int .i64 12, .int .i64 1, .int .i64 1, .int .i64 0, .int .u64 1, .int .u64 0, .int .u64 0, .int .u64 0, .int .u64 0, .int .u64 0, .int .i64 0, .int .u32 0, .int .i64 0, .int .i64 0, .int .i64 0, .int .u64 0, .int .i64 0, .int .i64 0, .int .u64 0, .slice none 0 0, .bool false, .int .i64 0, .slice none 0 0, .slice p2 x1.length c3, .slice none 0 0] 90), ([], F)]) (ih := ih) (K := []) rfl
  obtain ⟨y640, hx641, hk⟩ := bindE hk
  obtain ⟨J642, hJ642⟩ : ∃ J : Act → World → Prop, ∀ a w, J a w ↔ (∃ (x362 : Bool), letter_Check_r2 k x1 x362 = some r ∧ Sees a 40 [(1, .pointer (some ⟨b333, 0, none⟩)), (25, .bool x362)] ∧ St g w [bx b333 [.int .i64 12, .int .i64 1, .int .i64 1, .int .i64 0, .int .u64 1, .int .u64 0, .int .u64 0, .int .u64 0, .int .u64 0, .int .u64 0, .int .i64 0, .int .u32 0, .int .i64 0, .int .i64 0, .int .i64 0, .int .u64 0, .int .i64 0, .int .i64 0, .int .u64 0, .slice none 0 0, .bool false, .int .i64 0, .slice none 0 0, .slice p2 x1.length c3, .slice none 0 0] 90, F] ih) := ⟨_, fun _ _ => Iff.rfl⟩
  refine c_draw (by kernel_rfl) (N := 17) rfl S339 J642 ?_ ?_
  · have hw := hw.drew
    have hS : S339 (Array.replicate 17 false) _ := SX_now hS339 (hw.vws [0, 1]) (by kernel_rfl)
    refine d_pures (fuel := 16) kS339 hs hS [0] [1, 9] [(1, .pointer (some ⟨b333, 0, none⟩)), (9, .pointer (some ⟨b333, 1, none⟩))] (by kernel_rfl) fun a hs hS => ?_
    refine d_load (fuel := 15) kS339 hs hS 1 rfl (by kernel_rfl) (SX_box hS339 0 rfl (by kernel_rfl)) 1 (by kernel_rfl) (by kernel_rfl) (v := .int .i64 1) (by kernel_rfl) fun a hs hS => ?_
    refine d_all (fuel := 14) (rs := [2]) (by kernel_rfl) (by simp) (all1 ?_)
    have h644 : letter_Address = some () := rfl
    refine o_call hs rfl (by kernel_rfl) (by kernel_rfl) (letter_Address_s h644 ((hw.pick [0, 1] (by kernel_rfl)).pack 0)) fun a w v hv hs => ?_
    obtain ⟨rfl, hw⟩ := hv
    replace hw := hw.unpack 0 rfl
    refine dg_next (SX_now hS339 ((hw.vws [0, 1]).anti (Le.refl _)) (by kernel_rfl)) fun hS => ?_
    refine d_pures (fuel := 11) kS339 hs hS [3, 4, 5] [1, 9, 10, 11, 12, 13, 14] [(1, .pointer (some ⟨b333, 0, none⟩)), (9, .pointer (some ⟨b333, 1, none⟩)), (10, .int .i64 1), (11, .bool true), (12, .bool false), (13, .bool false), (14, .pointer (some ⟨b333, 2, none⟩))] (by kernel_rfl) fun a hs hS => ?_
    refine d_load (fuel := 10) kS339 hs hS 6 rfl (by kernel_rfl) (SX_box hS339 0 rfl (by kernel_rfl)) 2 (by kernel_rfl) (by kernel_rfl) (v := .int .i64 1) (by kernel_rfl) fun a hs hS => ?_
    refine d_all (fuel := 9) (rs := [7]) (by kernel_rfl) (by simp) (all1 ?_)
    have h646 : letter_Address = some () := rfl
    refine o_call hs rfl (by kernel_rfl) (by kernel_rfl) (letter_Address_s h646 ((hw.pick [0, 1] (by kernel_rfl)).pack 0)) fun a w v hv hs => ?_
    obtain ⟨rfl, hw⟩ := hv
    replace hw := hw.unpack 0 rfl
    refine dg_next (SX_now hS339 ((hw.vws [0, 1]).anti (Le.refl _)) (by kernel_rfl)) fun hS => ?_
    refine d_pures (fuel := 6) kS339 hs hS [8, 9, 10] [1, 9, 10, 11, 12, 13, 14, 15, 16, 17, 18, 19] [(1, .pointer (some ⟨b333, 0, none⟩)), (9, .pointer (some ⟨b333, 1, none⟩)), (10, .int .i64 1), (11, .bool true), (12, .bool false), (13, .bool false), (14, .pointer (some ⟨b333, 2, none⟩)), (15, .int .i64 1), (16, .bool true), (17, .bool false), (18, .bool false), (19, .bool false)] (by kernel_rfl) fun a hs hS => ?_
    refine d_load (fuel := 5) kS339 hs hS 11 rfl (by kernel_rfl) (SX_box hS339 0 rfl (by kernel_rfl)) 0 (by kernel_rfl) (by kernel_rfl) (v := .agg #[.int .i64 12, .int .i64 1, .int .i64 1, .int .i64 0, .int .u64 1, .int .u64 0, .int .u64 0, .int .u64 0, .int .u64 0, .int .u64 0, .int .i64 0, .int .u32 0, .int .i64 0, .int .i64 0, .int .i64 0, .int .u64 0, .int .i64 0, .int .i64 0, .int .u64 0, .slice none 0 0, .bool false, .int .i64 0, .slice none 0 0, .slice p2 x1.length c3, .slice none 0 0]) (by kernel_rfl) fun a hs hS => ?_
    refine d_load (fuel := 4) kS339 hs hS 12 rfl (by kernel_rfl) (SX_box hS339 0 rfl (by kernel_rfl)) 0 (by kernel_rfl) (by kernel_rfl) (v := .agg #[.int .i64 12, .int .i64 1, .int .i64 1, .int .i64 0, .int .u64 1, .int .u64 0, .int .u64 0, .int .u64 0, .int .u64 0, .int .u64 0, .int .i64 0, .int .u32 0, .int .i64 0, .int .i64 0, .int .i64 0, .int .u64 0, .int .i64 0, .int .i64 0, .int .u64 0, .slice none 0 0, .bool false, .int .i64 0, .slice none 0 0, .slice p2 x1.length c3, .slice none 0 0]) (by kernel_rfl) fun a hs hS => ?_
    refine d_all (fuel := 3) (rs := [13]) (by kernel_rfl) (by simp) (all1 ?_)
    obtain ⟨y647, h648, hx641⟩ := bindE hx641
    refine o_call hs rfl (by kernel_rfl) (by kernel_rfl) (letter_bare_s h648 h4 (hG.mono (Le.refl _)) ((hw.pick [0, 1] (by kernel_rfl)).pack 0)) fun a w v hv hs => ?_
    obtain ⟨p649, c650, rfl, hw, h651⟩ := hv
    replace hw := hw.unpack 0 rfl
    refine dg_next (SX_now hS339 ((hw.vws [0, 1]).anti (Le.refl _)) (by kernel_rfl)) fun hS => ?_
    refine d_all (fuel := 2) (rs := [14]) (by kernel_rfl) (by simp) (all1 ?_)
    obtain ⟨y652, h653, hx641⟩ := bindE hx641
    refine o_call hs rfl (by kernel_rfl) (by kernel_rfl) (letter_Same_s h653 h4 h651 ((hw.pick [0, 1] (by kernel_rfl)).pack 0)) fun a w v hv hs => ?_
    obtain ⟨rfl, hw⟩ := hv
    replace hw := hw.unpack 0 rfl
    refine dg_next (SX_now hS339 ((hw.vws [0, 1]).anti (Le.refl _)) (by kernel_rfl)) fun hS => ?_
    refine d_pures (fuel := 0) kS339 hs hS [15, 16] [1, 9, 10, 11, 12, 13, 14, 15, 16, 17, 18, 19, 20, 21, 22, 23, 24, 25] [(1, .pointer (some ⟨b333, 0, none⟩)), (9, .pointer (some ⟨b333, 1, none⟩)), (10, .int .i64 1), (11, .bool true), (12, .bool false), (13, .bool false), (14, .pointer (some ⟨b333, 2, none⟩)), (15, .int .i64 1), (16, .bool true), (17, .bool false), (18, .bool false), (19, .bool false), (20, .agg #[.int .i64 12, .int .i64 1, .int .i64 1, .int .i64 0, .int .u64 1, .int .u64 0, .int .u64 0, .int .u64 0, .int .u64 0, .int .u64 0, .int .i64 0, .int .u32 0, .int .i64 0, .int .i64 0, .int .i64 0, .int .u64 0, .int .i64 0, .int .i64 0, .int .u64 0, .slice none 0 0, .bool false, .int .i64 0, .slice none 0 0, .slice p2 x1.length c3, .slice none 0 0]), (21, .agg #[.int .i64 12, .int .i64 1, .int .i64 1, .int .i64 0, .int .u64 1, .int .u64 0, .int .u64 0, .int .u64 0, .int .u64 0, .int .u64 0, .int .i64 0, .int .u32 0, .int .i64 0, .int .i64 0, .int .i64 0, .int .u64 0, .int .i64 0, .int .i64 0, .int .u64 0, .slice none 0 0, .bool false, .int .i64 0, .slice none 0 0, .slice p2 x1.length c3, .slice none 0 0]), (22, .agg #[.int .i64 12, .int .i64 1, .int .i64 1, .int .i64 y647.1, .int .u64 y647.2.1, .int .u64 0, .int .u64 0, .int .u64 y647.2.2.1, .int .u64 y647.2.2.2.1, .int .u64 0, .int .i64 0, .int .u32 0, .int .i64 0, .int .i64 0, .int .i64 0, .int .u64 0, .int .i64 0, .int .i64 0, .int .u64 0, .slice none 0 0, .bool false, .int .i64 0, .slice none 0 0, .slice p649 y647.2.2.2.2.length c650, .slice none 0 0]), (23, .bool y652), (24, .bool (!y652)), (25, .bool (!y652))] (by kernel_rfl) fun a hs hS => ?_
    refine d_done (by kernel_rfl) ?_
    obtain rfl := someE hx641
    exact (hJ642 _ _).2 ⟨(!y652), hk, hs.cast [1, 25] (by kernel_rfl), hw.pick [0, 1] (by kernel_rfl)⟩
  intro a w hh
  obtain ⟨x362, hk, hs, hw⟩ := (hJ642 _ _).1 hh
  rcases ifbE hk with ⟨h363, hk⟩ | ⟨h363, hk⟩
  · refine c_cond1 hs (by kernel_rfl) (t := x362) (by kernel_rfl) h363 ?_
    refine c_seq ?_
    refine c_region ?_
    refine pures hs 1 [2] [(2, .int .i64 4)] (by kernel_rfl) fun a hs => ?_
    refine s_end ?_
    refine c_ret ?_
    obtain rfl := someE hk
    refine hQ _ _ (f_ret1 hs rfl (v := .int .i64 4) (by kernel_rfl) ⟨rfl, hw.pick [1] (by kernel_rfl)⟩)
  refine c_cond0 hs (by kernel_rfl) (t := x362) (by kernel_rfl) h363 ?_
  refine c_skip ?_
  refine c_seq ?_
  refine c_seq ?_
  refine c_region ?_
  refine pures hs 1 [1, 26] [(1, .pointer (some ⟨b333, 0, none⟩)), (26, .pointer (some ⟨b333, 0, none⟩))] (by kernel_rfl) fun a hs => ?_
  refine s_load hs (hw.at_ 0 rfl) 0 (by kernel_rfl) (by kernel_rfl) (v := .int .i64 12) (by kernel_rfl) fun a hs => ?_
  have h382 : letter_parts = some () := rfl
  refine s_call hs (by kernel_rfl) (by kernel_rfl) (letter_parts_s h382 (hG.mono (Le.refl _)) ((hw.pick [0, 1] (by kernel_rfl)).pack 0)) fun a w v hv hs => ?_
  obtain ⟨p383, c384, d386, b388, b390, b392, b394, b396, rfl, hw, h385⟩ := hv
  replace hw := hw.unpack 6 rfl
  refine pures hs 2 [1, 28, 29, 30] [(1, .pointer (some ⟨b333, 0, none⟩)), (28, .slice p383 5 c384), (29, .int .i64 5), (30, .int .i64 0)] (by kernel_rfl) fun a hs => ?_
  refine s_end ?_
  refine c_block ?_
  refine wpIn_loop_rounds 6 ?_
  refine c_unr ?_
  refine c_seq ?_
  refine c_region ?_
  refine pures hs 1 [1, 28, 29, 30, 31] [(1, .pointer (some ⟨b333, 0, none⟩)), (28, .slice p383 5 c384), (29, .int .i64 5), (30, .int .i64 0), (31, .bool true)] (by kernel_rfl) fun a hs => ?_
  refine s_end ?_
  refine c_seq ?_
  refine c_condT hs (by kernel_rfl) (by kernel_rfl) ?_
  refine c_skip ?_
  refine c_seq ?_
  refine c_block ?_
  refine c_seq ?_
  refine c_region ?_
  have h530 : ix ([(M101.mk (.func (.func 86) #[] #[]) (.func (.func 102) #[] #[.pointer (some ⟨b388, 0, none⟩), .pointer (some ⟨b390, 0, none⟩)]) (.func (.func 104) #[] #[.pointer (some ⟨b390, 0, none⟩), .pointer (some ⟨b388, 0, none⟩)])), (M101.mk (.func (.func 91) #[] #[]) (.func (.func 106) #[] #[.pointer (some ⟨b392, 0, none⟩)]) (.func (.func 107) #[] #[.pointer (some ⟨b392, 0, none⟩)])), (M101.mk (.func (.func 96) #[] #[]) (.func (.func 106) #[] #[.pointer (some ⟨b394, 0, none⟩)]) (.func (.func 107) #[] #[.pointer (some ⟨b394, 0, none⟩)])), (M101.mk (.func (.func 96) #[] #[]) (.func (.func 106) #[] #[.pointer (some ⟨b396, 0, none⟩)]) (.func (.func 107) #[] #[.pointer (some ⟨b396, 0, none⟩)])), (M101.mk (.func (.func 128) #[] #[]) (.func (.func 129) #[] #[]) (.func (.func 130) #[] #[]))]) 0 = some (M101.mk (.func (.func 86) #[] #[]) (.func (.func 102) #[] #[.pointer (some ⟨b388, 0, none⟩), .pointer (some ⟨b390, 0, none⟩)]) (.func (.func 104) #[] #[.pointer (some ⟨b390, 0, none⟩), .pointer (some ⟨b388, 0, none⟩)])) := rfl
  refine s_indexO hs h385 (by kernel_rfl) (by kernel_rfl) (k := .i64) (by kernel_rfl) 101 (by kernel_rfl) (by kernel_rfl) h530 fun a r531 cs henc at532 h536 hs => ?_
  obtain ⟨rfl, h533, h534, h535⟩ := henc
  refine s_load hs (at532 _ ((hw.vw 0 rfl).anti (Le.refl _))) 0 (by kernel_rfl) (by kernel_rfl) (v := .agg #[.func (.func 86) #[] #[], .func (.func 102) #[] #[.pointer (some ⟨b388, 0, none⟩), .pointer (some ⟨b390, 0, none⟩)], .func (.func 104) #[] #[.pointer (some ⟨b390, 0, none⟩), .pointer (some ⟨b388, 0, none⟩)]]) (by kernel_rfl) fun a hs => ?_
  refine s_new hs hw [.nilFunc, .nilFunc, .nilFunc] 101 (fun b => .pointer (some ⟨b, 0, none⟩)) (by kernel_rfl) (fun _ => by kernel_rfl) fun a w b537 hs hw => ?_
  refine s_store hs hw 0 rfl 0 (by kernel_rfl) (by kernel_rfl) (v := .agg #[.func (.func 86) #[] #[], .func (.func 102) #[] #[.pointer (some ⟨b388, 0, none⟩), .pointer (some ⟨b390, 0, none⟩)], .func (.func 104) #[] #[.pointer (some ⟨b390, 0, none⟩), .pointer (some ⟨b388, 0, none⟩)]]) (by kernel_rfl) (by kernel_rfl) (by kernel_rfl) (by kernel_rfl) fun a w hs hw => ?_
  refine s_end ?_
  refine c_seq ?_
  refine c_region ?_
  refine pures hs 1 [1, 28, 29, 30, 34] [(1, .pointer (some ⟨b333, 0, none⟩)), (28, .slice p383 5 c384), (29, .int .i64 5), (30, .int .i64 0), (34, .pointer (some ⟨b537, 0, none⟩))] (by kernel_rfl) fun a hs => ?_
  refine s_load hs (hw.at_ 0 rfl) 0 (by kernel_rfl) (by kernel_rfl) (v := .func (.func 86) #[] #[]) (by kernel_rfl) fun a hs => ?_
  refine s_load hs (hw.at_ 7 rfl) 0 (by kernel_rfl) (by kernel_rfl) (v := .agg #[.int .i64 12, .int .i64 1, .int .i64 1, .int .i64 0, .int .u64 1, .int .u64 0, .int .u64 0, .int .u64 0, .int .u64 0, .int .u64 0, .int .i64 0, .int .u32 0, .int .i64 0, .int .i64 0, .int .i64 0, .int .u64 0, .int .i64 0, .int .i64 0, .int .u64 0, .slice none 0 0, .bool false, .int .i64 0, .slice none 0 0, .slice p2 x1.length c3, .slice none 0 0]) (by kernel_rfl) fun a hs => ?_
  have h542 : letter_of_1 = some () := rfl
  refine s_call hs (by kernel_rfl) (by kernel_rfl) (letter_of_1_s h542 h4 ((hw.pick [1, 2, 3, 4, 5, 6, 7, 8] (by kernel_rfl)).pack 0)) fun a w v hv hs => ?_
  obtain ⟨rfl, hw⟩ := hv
  replace hw := hw.unpack 0 rfl
  refine pures hs 1 [1, 28, 29, 30, 38] [(1, .pointer (some ⟨b333, 0, none⟩)), (28, .slice p383 5 c384), (29, .int .i64 5), (30, .int .i64 0), (38, .bool false)] (by kernel_rfl) fun a hs => ?_
  refine s_end ?_
  refine c_condF hs (by kernel_rfl) (by kernel_rfl) ?_
  refine c_skip ?_
  refine c_region ?_
  refine pures hs 2 [1, 28, 29, 30] [(1, .pointer (some ⟨b333, 0, none⟩)), (28, .slice p383 5 c384), (29, .int .i64 5), (30, .int .i64 1)] (by kernel_rfl) fun a hs => ?_
  refine s_end ?_
  refine c_unr ?_
  refine c_seq ?_
  refine c_region ?_
  refine pures hs 1 [1, 28, 29, 30, 31] [(1, .pointer (some ⟨b333, 0, none⟩)), (28, .slice p383 5 c384), (29, .int .i64 5), (30, .int .i64 1), (31, .bool true)] (by kernel_rfl) fun a hs => ?_
  refine s_end ?_
  refine c_seq ?_
  refine c_condT hs (by kernel_rfl) (by kernel_rfl) ?_
  refine c_skip ?_
  refine c_seq ?_
  refine c_block ?_
  refine c_seq ?_
  refine c_region ?_
  have h554 : ix ([(M101.mk (.func (.func 86) #[] #[]) (.func (.func 102) #[] #[.pointer (some ⟨b388, 0, none⟩), .pointer (some ⟨b390, 0, none⟩)]) (.func (.func 104) #[] #[.pointer (some ⟨b390, 0, none⟩), .pointer (some ⟨b388, 0, none⟩)])), (M101.mk (.func (.func 91) #[] #[]) (.func (.func 106) #[] #[.pointer (some ⟨b392, 0, none⟩)]) (.func (.func 107) #[] #[.pointer (some ⟨b392, 0, none⟩)])), (M101.mk (.func (.func 96) #[] #[]) (.func (.func 106) #[] #[.pointer (some ⟨b394, 0, none⟩)]) (.func (.func 107) #[] #[.pointer (some ⟨b394, 0, none⟩)])), (M101.mk (.func (.func 96) #[] #[]) (.func (.func 106) #[] #[.pointer (some ⟨b396, 0, none⟩)]) (.func (.func 107) #[] #[.pointer (some ⟨b396, 0, none⟩)])), (M101.mk (.func (.func 128) #[] #[]) (.func (.func 129) #[] #[]) (.func (.func 130) #[] #[]))]) 1 = some (M101.mk (.func (.func 91) #[] #[]) (.func (.func 106) #[] #[.pointer (some ⟨b392, 0, none⟩)]) (.func (.func 107) #[] #[.pointer (some ⟨b392, 0, none⟩)])) := rfl
  refine s_indexO hs h385 (by kernel_rfl) (by kernel_rfl) (k := .i64) (by kernel_rfl) 101 (by kernel_rfl) (by kernel_rfl) h554 fun a r555 cs henc at556 h560 hs => ?_
  obtain ⟨rfl, h557, h558, h559⟩ := henc
  refine s_load hs (at556 _ ((hw.vw 0 rfl).anti (Le.refl _))) 0 (by kernel_rfl) (by kernel_rfl) (v := .agg #[.func (.func 91) #[] #[], .func (.func 106) #[] #[.pointer (some ⟨b392, 0, none⟩)], .func (.func 107) #[] #[.pointer (some ⟨b392, 0, none⟩)]]) (by kernel_rfl) fun a hs => ?_
  refine s_new hs hw [.nilFunc, .nilFunc, .nilFunc] 101 (fun b => .pointer (some ⟨b, 0, none⟩)) (by kernel_rfl) (fun _ => by kernel_rfl) fun a w b561 hs hw => ?_
  refine s_store hs hw 0 rfl 0 (by kernel_rfl) (by kernel_rfl) (v := .agg #[.func (.func 91) #[] #[], .func (.func 106) #[] #[.pointer (some ⟨b392, 0, none⟩)], .func (.func 107) #[] #[.pointer (some ⟨b392, 0, none⟩)]]) (by kernel_rfl) (by kernel_rfl) (by kernel_rfl) (by kernel_rfl) fun a w hs hw => ?_
  refine s_end ?_
  refine c_seq ?_
  refine c_region ?_
  refine pures hs 1 [1, 28, 29, 30, 34] [(1, .pointer (some ⟨b333, 0, none⟩)), (28, .slice p383 5 c384), (29, .int .i64 5), (30, .int .i64 1), (34, .pointer (some ⟨b561, 0, none⟩))] (by kernel_rfl) fun a hs => ?_
  refine s_load hs (hw.at_ 0 rfl) 0 (by kernel_rfl) (by kernel_rfl) (v := .func (.func 91) #[] #[]) (by kernel_rfl) fun a hs => ?_
  refine s_load hs (hw.at_ 7 rfl) 0 (by kernel_rfl) (by kernel_rfl) (v := .agg #[.int .i64 12, .int .i64 1, .int .i64 1, .int .i64 0, .int .u64 1, .int .u64 0, .int .u64 0, .int .u64 0, .int .u64 0, .int .u64 0, .int .i64 0, .int .u32 0, .int .i64 0, .int .i64 0, .int .i64 0, .int .u64 0, .int .i64 0, .int .i64 0, .int .u64 0, .slice none 0 0, .bool false, .int .i64 0, .slice none 0 0, .slice p2 x1.length c3, .slice none 0 0]) (by kernel_rfl) fun a hs => ?_
  have h566 : letter_of_5_2 = some () := rfl
  refine s_call hs (by kernel_rfl) (by kernel_rfl) (letter_of_5_2_s h566 h4 ((hw.pick [1, 2, 3, 4, 5, 6, 7, 8] (by kernel_rfl)).pack 0)) fun a w v hv hs => ?_
  obtain ⟨rfl, hw⟩ := hv
  replace hw := hw.unpack 0 rfl
  refine pures hs 1 [1, 28, 29, 30, 38] [(1, .pointer (some ⟨b333, 0, none⟩)), (28, .slice p383 5 c384), (29, .int .i64 5), (30, .int .i64 1), (38, .bool false)] (by kernel_rfl) fun a hs => ?_
  refine s_end ?_
  refine c_condF hs (by kernel_rfl) (by kernel_rfl) ?_
  refine c_skip ?_
  refine c_region ?_
  refine pures hs 2 [1, 28, 29, 30] [(1, .pointer (some ⟨b333, 0, none⟩)), (28, .slice p383 5 c384), (29, .int .i64 5), (30, .int .i64 2)] (by kernel_rfl) fun a hs => ?_
  refine s_end ?_
  refine c_unr ?_
  refine c_seq ?_
  refine c_region ?_
  refine pures hs 1 [1, 28, 29, 30, 31] [(1, .pointer (some ⟨b333, 0, none⟩)), (28, .slice p383 5 c384), (29, .int .i64 5), (30, .int .i64 2), (31, .bool true)] (by kernel_rfl) fun a hs => ?_
  refine s_end ?_
  refine c_seq ?_
  refine c_condT hs (by kernel_rfl) (by kernel_rfl) ?_
  refine c_skip ?_
  refine c_seq ?_
  refine c_block ?_
  refine c_seq ?_
  refine c_region ?_
  have h578 : ix ([(M101.mk (.func (.func 86) #[] #[]) (.func (.func 102) #[] #[.pointer (some ⟨b388, 0, none⟩), .pointer (some ⟨b390, 0, none⟩)]) (.func (.func 104) #[] #[.pointer (some ⟨b390, 0, none⟩), .pointer (some ⟨b388, 0, none⟩)])), (M101.mk (.func (.func 91) #[] #[]) (.func (.func 106) #[] #[.pointer (some ⟨b392, 0, none⟩)]) (.func (.func 107) #[] #[.pointer (some ⟨b392, 0, none⟩)])), (M101.mk (.func (.func 96) #[] #[]) (.func (.func 106) #[] #[.pointer (some ⟨b394, 0, none⟩)]) (.func (.func 107) #[] #[.pointer (some ⟨b394, 0, none⟩)])), (M101.mk (.func (.func 96) #[] #[]) (.func (.func 106) #[] #[.pointer (some ⟨b396, 0, none⟩)]) (.func (.func 107) #[] #[.pointer (some ⟨b396, 0, none⟩)])), (M101.mk (.func (.func 128) #[] #[]) (.func (.func 129) #[] #[]) (.func (.func 130) #[] #[]))]) 2 = some (M101.mk (.func (.func 96) #[] #[]) (.func (.func 106) #[] #[.pointer (some ⟨b394, 0, none⟩)]) (.func (.func 107) #[] #[.pointer (some ⟨b394, 0, none⟩)])) := rfl
  refine s_indexO hs h385 (by kernel_rfl) (by kernel_rfl) (k := .i64) (by kernel_rfl) 101 (by kernel_rfl) (by kernel_rfl) h578 fun a r579 cs henc at580 h584 hs => ?_
  obtain ⟨rfl, h581, h582, h583⟩ := henc
  refine s_load hs (at580 _ ((hw.vw 0 rfl).anti (Le.refl _))) 0 (by kernel_rfl) (by kernel_rfl) (v := .agg #[.func (.func 96) #[] #[], .func (.func 106) #[] #[.pointer (some ⟨b394, 0, none⟩)], .func (.func 107) #[] #[.pointer (some ⟨b394, 0, none⟩)]]) (by kernel_rfl) fun a hs => ?_
  refine s_new hs hw [.nilFunc, .nilFunc, .nilFunc] 101 (fun b => .pointer (some ⟨b, 0, none⟩)) (by kernel_rfl) (fun _ => by kernel_rfl) fun a w b585 hs hw => ?_
  refine s_store hs hw 0 rfl 0 (by kernel_rfl) (by kernel_rfl) (v := .agg #[.func (.func 96) #[] #[], .func (.func 106) #[] #[.pointer (some ⟨b394, 0, none⟩)], .func (.func 107) #[] #[.pointer (some ⟨b394, 0, none⟩)]]) (by kernel_rfl) (by kernel_rfl) (by kernel_rfl) (by kernel_rfl) fun a w hs hw => ?_
  refine s_end ?_
  refine c_seq ?_
  refine c_region ?_
  refine pures hs 1 [1, 28, 29, 30, 34] [(1, .pointer (some ⟨b333, 0, none⟩)), (28, .slice p383 5 c384), (29, .int .i64 5), (30, .int .i64 2), (34, .pointer (some ⟨b585, 0, none⟩))] (by kernel_rfl) fun a hs => ?_
  refine s_load hs (hw.at_ 0 rfl) 0 (by kernel_rfl) (by kernel_rfl) (v := .func (.func 96) #[] #[]) (by kernel_rfl) fun a hs => ?_
  refine s_load hs (hw.at_ 7 rfl) 0 (by kernel_rfl) (by kernel_rfl) (v := .agg #[.int .i64 12, .int .i64 1, .int .i64 1, .int .i64 0, .int .u64 1, .int .u64 0, .int .u64 0, .int .u64 0, .int .u64 0, .int .u64 0, .int .i64 0, .int .u32 0, .int .i64 0, .int .i64 0, .int .i64 0, .int .u64 0, .int .i64 0, .int .i64 0, .int .u64 0, .slice none 0 0, .bool false, .int .i64 0, .slice none 0 0, .slice p2 x1.length c3, .slice none 0 0]) (by kernel_rfl) fun a hs => ?_
  have h590 : letter_any = some () := rfl
  refine s_call hs (by kernel_rfl) (by kernel_rfl) (letter_any_s h590 h4 ((hw.pick [1, 2, 3, 4, 5, 6, 7, 8] (by kernel_rfl)).pack 0)) fun a w v hv hs => ?_
  obtain ⟨rfl, hw⟩ := hv
  replace hw := hw.unpack 0 rfl
  refine pures hs 1 [1, 28, 29, 30, 38] [(1, .pointer (some ⟨b333, 0, none⟩)), (28, .slice p383 5 c384), (29, .int .i64 5), (30, .int .i64 2), (38, .bool false)] (by kernel_rfl) fun a hs => ?_
  refine s_end ?_
  refine c_condF hs (by kernel_rfl) (by kernel_rfl) ?_
  refine c_skip ?_
  refine c_region ?_
  refine pures hs 2 [1, 28, 29, 30] [(1, .pointer (some ⟨b333, 0, none⟩)), (28, .slice p383 5 c384), (29, .int .i64 5), (30, .int .i64 3)] (by kernel_rfl) fun a hs => ?_
  refine s_end ?_
  refine c_unr ?_
  refine c_seq ?_
  refine c_region ?_
  refine pures hs 1 [1, 28, 29, 30, 31] [(1, .pointer (some ⟨b333, 0, none⟩)), (28, .slice p383 5 c384), (29, .int .i64 5), (30, .int .i64 3), (31, .bool true)] (by kernel_rfl) fun a hs => ?_
  refine s_end ?_
  refine c_seq ?_
  refine c_condT hs (by kernel_rfl) (by kernel_rfl) ?_
  refine c_skip ?_
  refine c_seq ?_
  refine c_block ?_
  refine c_seq ?_
  refine c_region ?_
  have h602 : ix ([(M101.mk (.func (.func 86) #[] #[]) (.func (.func 102) #[] #[.pointer (some ⟨b388, 0, none⟩), .pointer (some ⟨b390, 0, none⟩)]) (.func (.func 104) #[] #[.pointer (some ⟨b390, 0, none⟩), .pointer (some ⟨b388, 0, none⟩)])), (M101.mk (.func (.func 91) #[] #[]) (.func (.func 106) #[] #[.pointer (some ⟨b392, 0, none⟩)]) (.func (.func 107) #[] #[.pointer (some ⟨b392, 0, none⟩)])), (M101.mk (.func (.func 96) #[] #[]) (.func (.func 106) #[] #[.pointer (some ⟨b394, 0, none⟩)]) (.func (.func 107) #[] #[.pointer (some ⟨b394, 0, none⟩)])), (M101.mk (.func (.func 96) #[] #[]) (.func (.func 106) #[] #[.pointer (some ⟨b396, 0, none⟩)]) (.func (.func 107) #[] #[.pointer (some ⟨b396, 0, none⟩)])), (M101.mk (.func (.func 128) #[] #[]) (.func (.func 129) #[] #[]) (.func (.func 130) #[] #[]))]) 3 = some (M101.mk (.func (.func 96) #[] #[]) (.func (.func 106) #[] #[.pointer (some ⟨b396, 0, none⟩)]) (.func (.func 107) #[] #[.pointer (some ⟨b396, 0, none⟩)])) := rfl
  refine s_indexO hs h385 (by kernel_rfl) (by kernel_rfl) (k := .i64) (by kernel_rfl) 101 (by kernel_rfl) (by kernel_rfl) h602 fun a r603 cs henc at604 h608 hs => ?_
  obtain ⟨rfl, h605, h606, h607⟩ := henc
  refine s_load hs (at604 _ ((hw.vw 0 rfl).anti (Le.refl _))) 0 (by kernel_rfl) (by kernel_rfl) (v := .agg #[.func (.func 96) #[] #[], .func (.func 106) #[] #[.pointer (some ⟨b396, 0, none⟩)], .func (.func 107) #[] #[.pointer (some ⟨b396, 0, none⟩)]]) (by kernel_rfl) fun a hs => ?_
  refine s_new hs hw [.nilFunc, .nilFunc, .nilFunc] 101 (fun b => .pointer (some ⟨b, 0, none⟩)) (by kernel_rfl) (fun _ => by kernel_rfl) fun a w b609 hs hw => ?_
  refine s_store hs hw 0 rfl 0 (by kernel_rfl) (by kernel_rfl) (v := .agg #[.func (.func 96) #[] #[], .func (.func 106) #[] #[.pointer (some ⟨b396, 0, none⟩)], .func (.func 107) #[] #[.pointer (some ⟨b396, 0, none⟩)]]) (by kernel_rfl) (by kernel_rfl) (by kernel_rfl) (by kernel_rfl) fun a w hs hw => ?_
  refine s_end ?_
  refine c_seq ?_
  refine c_region ?_
  refine pures hs 1 [1, 28, 29, 30, 34] [(1, .pointer (some ⟨b333, 0, none⟩)), (28, .slice p383 5 c384), (29, .int .i64 5), (30, .int .i64 3), (34, .pointer (some ⟨b609, 0, none⟩))] (by kernel_rfl) fun a hs => ?_
  refine s_load hs (hw.at_ 0 rfl) 0 (by kernel_rfl) (by kernel_rfl) (v := .func (.func 96) #[] #[]) (by kernel_rfl) fun a hs => ?_
  refine s_load hs (hw.at_ 7 rfl) 0 (by kernel_rfl) (by kernel_rfl) (v := .agg #[.int .i64 12, .int .i64 1, .int .i64 1, .int .i64 0, .int .u64 1, .int .u64 0, .int .u64 0, .int .u64 0, .int .u64 0, .int .u64 0, .int .i64 0, .int .u32 0, .int .i64 0, .int .i64 0, .int .i64 0, .int .u64 0, .int .i64 0, .int .i64 0, .int .u64 0, .slice none 0 0, .bool false, .int .i64 0, .slice none 0 0, .slice p2 x1.length c3, .slice none 0 0]) (by kernel_rfl) fun a hs => ?_
  have h614 : letter_any = some () := rfl
  refine s_call hs (by kernel_rfl) (by kernel_rfl) (letter_any_s h614 h4 ((hw.pick [1, 2, 3, 4, 5, 6, 7, 8] (by kernel_rfl)).pack 0)) fun a w v hv hs => ?_
  obtain ⟨rfl, hw⟩ := hv
  replace hw := hw.unpack 0 rfl
  refine pures hs 1 [1, 28, 29, 30, 38] [(1, .pointer (some ⟨b333, 0, none⟩)), (28, .slice p383 5 c384), (29, .int .i64 5), (30, .int .i64 3), (38, .bool false)] (by kernel_rfl) fun a hs => ?_
  refine s_end ?_
  refine c_condF hs (by kernel_rfl) (by kernel_rfl) ?_
  refine c_skip ?_
  refine c_region ?_
  refine pures hs 2 [1, 28, 29, 30] [(1, .pointer (some ⟨b333, 0, none⟩)), (28, .slice p383 5 c384), (29, .int .i64 5), (30, .int .i64 4)] (by kernel_rfl) fun a hs => ?_
  refine s_end ?_
  refine c_unr ?_
  refine c_seq ?_
  refine c_region ?_
  refine pures hs 1 [1, 28, 29, 30, 31] [(1, .pointer (some ⟨b333, 0, none⟩)), (28, .slice p383 5 c384), (29, .int .i64 5), (30, .int .i64 4), (31, .bool true)] (by kernel_rfl) fun a hs => ?_
  refine s_end ?_
  refine c_seq ?_
  refine c_condT hs (by kernel_rfl) (by kernel_rfl) ?_
  refine c_skip ?_
  refine c_seq ?_
  refine c_block ?_
  refine c_seq ?_
  refine c_region ?_
  have h626 : ix ([(M101.mk (.func (.func 86) #[] #[]) (.func (.func 102) #[] #[.pointer (some ⟨b388, 0, none⟩), .pointer (some ⟨b390, 0, none⟩)]) (.func (.func 104) #[] #[.pointer (some ⟨b390, 0, none⟩), .pointer (some ⟨b388, 0, none⟩)])), (M101.mk (.func (.func 91) #[] #[]) (.func (.func 106) #[] #[.pointer (some ⟨b392, 0, none⟩)]) (.func (.func 107) #[] #[.pointer (some ⟨b392, 0, none⟩)])), (M101.mk (.func (.func 96) #[] #[]) (.func (.func 106) #[] #[.pointer (some ⟨b394, 0, none⟩)]) (.func (.func 107) #[] #[.pointer (some ⟨b394, 0, none⟩)])), (M101.mk (.func (.func 96) #[] #[]) (.func (.func 106) #[] #[.pointer (some ⟨b396, 0, none⟩)]) (.func (.func 107) #[] #[.pointer (some ⟨b396, 0, none⟩)])), (M101.mk (.func (.func 128) #[] #[]) (.func (.func 129) #[] #[]) (.func (.func 130) #[] #[]))]) 4 = some (M101.mk (.func (.func 128) #[] #[]) (.func (.func 129) #[] #[]) (.func (.func 130) #[] #[])) := rfl
  refine s_indexO hs h385 (by kernel_rfl) (by kernel_rfl) (k := .i64) (by kernel_rfl) 101 (by kernel_rfl) (by kernel_rfl) h626 fun a r627 cs henc at628 h632 hs => ?_
  obtain ⟨rfl, h629, h630, h631⟩ := henc
  refine s_load hs (at628 _ ((hw.vw 0 rfl).anti (Le.refl _))) 0 (by kernel_rfl) (by kernel_rfl) (v := .agg #[.func (.func 128) #[] #[], .func (.func 129) #[] #[], .func (.func 130) #[] #[]]) (by kernel_rfl) fun a hs => ?_
  refine s_new hs hw [.nilFunc, .nilFunc, .nilFunc] 101 (fun b => .pointer (some ⟨b, 0, none⟩)) (by kernel_rfl) (fun _ => by kernel_rfl) fun a w b633 hs hw => ?_
  refine s_store hs hw 0 rfl 0 (by kernel_rfl) (by kernel_rfl) (v := .agg #[.func (.func 128) #[] #[], .func (.func 129) #[] #[], .func (.func 130) #[] #[]]) (by kernel_rfl) (by kernel_rfl) (by kernel_rfl) (by kernel_rfl) fun a w hs hw => ?_
  refine s_end ?_
  refine c_seq ?_
  refine c_region ?_
  refine pures hs 1 [1, 28, 29, 30, 34] [(1, .pointer (some ⟨b333, 0, none⟩)), (28, .slice p383 5 c384), (29, .int .i64 5), (30, .int .i64 4), (34, .pointer (some ⟨b633, 0, none⟩))] (by kernel_rfl) fun a hs => ?_
  refine s_load hs (hw.at_ 0 rfl) 0 (by kernel_rfl) (by kernel_rfl) (v := .func (.func 128) #[] #[]) (by kernel_rfl) fun a hs => ?_
  refine s_load hs (hw.at_ 7 rfl) 0 (by kernel_rfl) (by kernel_rfl) (v := .agg #[.int .i64 12, .int .i64 1, .int .i64 1, .int .i64 0, .int .u64 1, .int .u64 0, .int .u64 0, .int .u64 0, .int .u64 0, .int .u64 0, .int .i64 0, .int .u32 0, .int .i64 0, .int .i64 0, .int .i64 0, .int .u64 0, .int .i64 0, .int .i64 0, .int .u64 0, .slice none 0 0, .bool false, .int .i64 0, .slice none 0 0, .slice p2 x1.length c3, .slice none 0 0]) (by kernel_rfl) fun a hs => ?_
  obtain ⟨y637, h638, hk⟩ := bindE hk
  refine s_call hs (by kernel_rfl) (by kernel_rfl) (letter_updates_s h638 h4 ((hw.pick [1, 2, 3, 4, 5, 6, 7, 8] (by kernel_rfl)).pack 0)) fun a w v hv hs => ?_
  obtain ⟨rfl, hw⟩ := hv
  replace hw := hw.unpack 0 rfl
  refine pures hs 1 [1, 28, 29, 30, 38] [(1, .pointer (some ⟨b333, 0, none⟩)), (28, .slice p383 5 c384), (29, .int .i64 5), (30, .int .i64 4), (38, .bool (!y637))] (by kernel_rfl) fun a hs => ?_
  refine s_end ?_
  rcases ifbE hk with ⟨h639, hk⟩ | ⟨h639, hk⟩
  · refine c_cond1 hs (by kernel_rfl) (t := (!y637)) (by kernel_rfl) h639 ?_
    refine c_seq ?_
    refine c_region ?_
    refine pures hs 1 [2] [(2, .int .i64 4)] (by kernel_rfl) fun a hs => ?_
    refine s_end ?_
    refine c_ret ?_
    obtain rfl := someE hk
    refine hQ _ _ (f_ret1 hs rfl (v := .int .i64 4) (by kernel_rfl) ⟨rfl, hw.pick [7] (by kernel_rfl)⟩)
  refine c_cond0 hs (by kernel_rfl) (t := (!y637)) (by kernel_rfl) h639 ?_
  refine c_skip ?_
  refine c_region ?_
  refine pures hs 2 [1, 28, 29, 30] [(1, .pointer (some ⟨b333, 0, none⟩)), (28, .slice p383 5 c384), (29, .int .i64 5), (30, .int .i64 5)] (by kernel_rfl) fun a hs => ?_
  refine s_end ?_
  refine c_unr ?_
  refine c_seq ?_
  refine c_region ?_
  refine pures hs 1 [1, 28, 29, 30, 31] [(1, .pointer (some ⟨b333, 0, none⟩)), (28, .slice p383 5 c384), (29, .int .i64 5), (30, .int .i64 5), (31, .bool false)] (by kernel_rfl) fun a hs => ?_
  refine s_end ?_
  refine c_seq ?_
  refine c_condF hs (by kernel_rfl) (by kernel_rfl) ?_
  refine c_exit ?_
  refine c_seq ?_
  refine c_region ?_
  refine pures hs 1 [2] [(2, .int .i64 0)] (by kernel_rfl) fun a hs => ?_
  refine s_end ?_
  refine c_ret ?_
  obtain rfl := someE hk
  refine hQ _ _ (f_ret1 hs rfl (v := .int .i64 0) (by kernel_rfl) ⟨rfl, hw.pick [7] (by kernel_rfl)⟩)
def update_check (k : Nat) (x1 : M26) : Option Int :=
  (update_writes_2 x1.f3).bind fun y37 =>
  if (!y37) = true then some 1
  else if (decide ((x1.f6.length : Int) > 2048)) = true then some 6
  else (letter_Check k ([x1])).bind fun y53 =>
  some y53
theorem update_check_s {k : Nat} {x1 : M26} {p2 : Option Addr} {c3 : Nat} {r : Int} (hk : update_check k x1 = some r) {g w : World} {F : Ch} {ih : IH} (h4 : RSl e5 ih [] p2 c3 x1.f6) (hG : Glob 0 gl0 110 ih) (hw : St g w [F] ih) :
    CallsR Tryz.prog 43 #[.agg #[.int .u64 x1.f0, .int .i64 x1.f1, .int .u64 x1.f2, .int .i64 x1.f3, .int .u32 x1.f4, .int .u64 x1.f5, .slice p2 x1.f6.length c3], .int .i64 12] w fun v w' => ∃ (ih' : IH), v = .int .i64 r ∧ St g w' [F] ih' ∧ Le ih ih' := by
  refine f_in (vs := [.agg #[.int .u64 x1.f0, .int .i64 x1.f1, .int .u64 x1.f2, .int .i64 x1.f3, .int .u32 x1.f4, .int .u64 x1.f5, .slice p2 x1.f6.length c3], .int .i64 12]) Tryz.func43 rfl 20 rfl (by kernel_rfl) [(0, .agg #[.int .u64 x1.f0, .int .i64 x1.f1, .int .u64 x1.f2, .int .i64 x1.f3, .int .u32 x1.f4, .int .u64 x1.f5, .slice p2 x1.f6.length c3]), (1, .int .i64 12)] (by kernel_rfl) fun a Qf hQ hQn hs => ?_
  refine c_seq ?_
  refine c_region ?_
  refine s_new hs hw [.int .u64 x1.f0, .int .i64 x1.f1, .int .u64 x1.f2, .int .i64 x1.f3, .int .u32 x1.f4, .int .u64 x1.f5, .slice p2 x1.f6.length c3] 26 (fun b => .pointer (some ⟨b, 0, none⟩)) (by kernel_rfl) (fun _ => by kernel_rfl) fun a w b33 hs hw => ?_
  refine pures hs 1 [1, 2] [(1, .int .i64 12), (2, .pointer (some ⟨b33, 0, none⟩))] (by kernel_rfl) fun a hs => ?_
  refine s_end ?_
  refine c_seq ?_
  refine c_block ?_
  refine c_seq ?_
  refine c_region ?_
  refine pures hs 1 [1, 2, 6] [(1, .int .i64 12), (2, .pointer (some ⟨b33, 0, none⟩)), (6, .pointer (some ⟨b33, 3, none⟩))] (by kernel_rfl) fun a hs => ?_
  refine s_load hs (hw.at_ 0 rfl) 3 (by kernel_rfl) (by kernel_rfl) (v := .int .i64 x1.f3) (by kernel_rfl) fun a hs => ?_
  obtain ⟨y37, h38, hk⟩ := bindE hk
  refine s_call hs (by kernel_rfl) (by kernel_rfl) (update_writes_2_s h38 ((hw.pick [0, 1] (by kernel_rfl)).pack 0)) fun a w v hv hs => ?_
  obtain ⟨rfl, hw⟩ := hv
  replace hw := hw.unpack 0 rfl
  refine pures hs 2 [1, 2, 5] [(1, .int .i64 12), (2, .pointer (some ⟨b33, 0, none⟩)), (5, .bool (!y37))] (by kernel_rfl) fun a hs => ?_
  refine s_end ?_
  rcases ifbE hk with ⟨h39, hk⟩ | ⟨h39, hk⟩
  · refine c_cond1 hs (by kernel_rfl) (t := (!y37)) (by kernel_rfl) h39 ?_
    refine c_seq ?_
    refine c_region ?_
    refine pures hs 1 [4] [(4, .int .i64 1)] (by kernel_rfl) fun a hs => ?_
    refine s_end ?_
    refine c_ret ?_
    obtain rfl := someE hk
    refine hQ _ _ (f_ret1 hs rfl (v := .int .i64 1) (by kernel_rfl) ⟨ih, rfl, hw.pick [1] (by kernel_rfl), (Le.refl _)⟩)
  refine c_cond0 hs (by kernel_rfl) (t := (!y37)) (by kernel_rfl) h39 ?_
  refine c_seq ?_
  refine c_region ?_
  refine pures hs 1 [1, 2, 11] [(1, .int .i64 12), (2, .pointer (some ⟨b33, 0, none⟩)), (11, .pointer (some ⟨b33, 6, none⟩))] (by kernel_rfl) fun a hs => ?_
  refine s_load hs (hw.at_ 0 rfl) 6 (by kernel_rfl) (by kernel_rfl) (v := .slice p2 x1.f6.length c3) (by kernel_rfl) fun a hs => ?_
  refine pures hs 3 [1, 2, 10] [(1, .int .i64 12), (2, .pointer (some ⟨b33, 0, none⟩)), (10, .bool (decide ((x1.f6.length : Int) > 2048)))] (by kernel_rfl) fun a hs => ?_
  refine s_end ?_
  rcases ifbE hk with ⟨h40, hk⟩ | ⟨h40, hk⟩
  · refine c_cond1 hs (by kernel_rfl) (t := (decide ((x1.f6.length : Int) > 2048))) (by kernel_rfl) h40 ?_
    refine c_seq ?_
    refine c_region ?_
    refine pures hs 1 [4] [(4, .int .i64 6)] (by kernel_rfl) fun a hs => ?_
    refine s_end ?_
    refine c_ret ?_
    obtain rfl := someE hk
    refine hQ _ _ (f_ret1 hs rfl (v := .int .i64 6) (by kernel_rfl) ⟨ih, rfl, hw.pick [1] (by kernel_rfl), (Le.refl _)⟩)
  refine c_cond0 hs (by kernel_rfl) (t := (decide ((x1.f6.length : Int) > 2048))) (by kernel_rfl) h40 ?_
  refine c_skip ?_
  refine c_seq ?_
  refine c_region ?_
  refine pures hs 1 [2, 15] [(2, .pointer (some ⟨b33, 0, none⟩)), (15, .int .i64 12)] (by kernel_rfl) fun a hs => ?_
  refine s_load hs (hw.at_ 0 rfl) 0 (by kernel_rfl) (by kernel_rfl) (v := .agg #[.int .u64 x1.f0, .int .i64 x1.f1, .int .u64 x1.f2, .int .i64 x1.f3, .int .u32 x1.f4, .int .u64 x1.f5, .slice p2 x1.f6.length c3]) (by kernel_rfl) fun a hs => ?_
  refine s_new hs hw [.int .u64 x1.f0, .int .i64 x1.f1, .int .u64 x1.f2, .int .i64 x1.f3, .int .u32 x1.f4, .int .u64 x1.f5, .slice p2 x1.f6.length c3] 26 (fun b => .slice (some ⟨b, 0, none⟩) 1 1) (by kernel_rfl) (fun _ => by kernel_rfl) fun a w b48 hs hw => ?_
  obtain ⟨ih50, hle51, hw, h52⟩ := (hw.pick [0, 1, 2] (by kernel_rfl)).fz ((OSl.of1 (E := e26) (z := x1) ⟨p2, c3, rfl, h4⟩ (by simp [maxLen])).mono (Le.refl _))
  refine pures hs 1 [18] [(18, .agg #[.int .i64 12, .int .i64 1, .int .i64 1, .int .i64 0, .int .u64 1, .int .u64 0, .int .u64 0, .int .u64 0, .int .u64 0, .int .u64 0, .int .i64 0, .int .u32 0, .int .i64 0, .int .i64 0, .int .i64 0, .int .u64 0, .int .i64 0, .int .i64 0, .int .u64 0, .slice none 0 0, .bool false, .int .i64 0, .slice none 0 0, .slice (some ⟨b48, 0, none⟩) 1 1, .slice none 0 0])] (by kernel_rfl) fun a hs => ?_
  obtain ⟨y53, h54, hk⟩ := bindE hk
  refine s_call hs (by kernel_rfl) (by kernel_rfl) (letter_Check_s h54 h52 (hG.mono hle51) ((hw.pick [1] (by kernel_rfl)).pack 0)) fun a w v hv hs => ?_
  obtain ⟨rfl, hw⟩ := hv
  replace hw := hw.unpack 0 rfl
  refine pures hs 1 [4] [(4, .int .i64 y53)] (by kernel_rfl) fun a hs => ?_
  refine s_end ?_
  refine c_ret ?_
  obtain rfl := someE hk
  refine hQ _ _ (f_ret1 hs rfl (v := .int .i64 y53) (by kernel_rfl) ⟨ih50, rfl, hw.pick [0] (by kernel_rfl), hle51⟩)
def update_Check (k : Nat) (x1 : M26) : Option Int :=
  (update_check k x1).bind fun y27 =>
  some y27
theorem update_Check_s {k : Nat} {x1 : M26} {p2 : Option Addr} {c3 : Nat} {r : Int} (hk : update_Check k x1 = some r) {g w : World} {F : Ch} {ih : IH} (h4 : RSl e5 ih [] p2 c3 x1.f6) (hG : Glob 0 gl0 110 ih) (hw : St g w [F] ih) :
    CallsR Tryz.prog 13 #[.agg #[.int .u64 x1.f0, .int .i64 x1.f1, .int .u64 x1.f2, .int .i64 x1.f3, .int .u32 x1.f4, .int .u64 x1.f5, .slice p2 x1.f6.length c3]] w fun v w' => ∃ (ih' : IH), v = .int .i64 r ∧ St g w' [F] ih' ∧ Le ih ih' := by
  refine f_in (vs := [.agg #[.int .u64 x1.f0, .int .i64 x1.f1, .int .u64 x1.f2, .int .i64 x1.f3, .int .u32 x1.f4, .int .u64 x1.f5, .slice p2 x1.f6.length c3]]) Tryz.func13 rfl 5 rfl (by kernel_rfl) [(0, .agg #[.int .u64 x1.f0, .int .i64 x1.f1, .int .u64 x1.f2, .int .i64 x1.f3, .int .u32 x1.f4, .int .u64 x1.f5, .slice p2 x1.f6.length c3])] (by kernel_rfl) fun a Qf hQ hQn hs => ?_
  refine c_seq ?_
  refine c_region ?_
  refine s_new hs hw [.int .u64 x1.f0, .int .i64 x1.f1, .int .u64 x1.f2, .int .i64 x1.f3, .int .u32 x1.f4, .int .u64 x1.f5, .slice p2 x1.f6.length c3] 26 (fun b => .pointer (some ⟨b, 0, none⟩)) (by kernel_rfl) (fun _ => by kernel_rfl) fun a w b21 hs hw => ?_
  refine pures hs 1 [1] [(1, .pointer (some ⟨b21, 0, none⟩))] (by kernel_rfl) fun a hs => ?_
  refine s_end ?_
  refine c_seq ?_
  refine c_region ?_
  refine s_load hs (hw.at_ 0 rfl) 0 (by kernel_rfl) (by kernel_rfl) (v := .agg #[.int .u64 x1.f0, .int .i64 x1.f1, .int .u64 x1.f2, .int .i64 x1.f3, .int .u32 x1.f4, .int .u64 x1.f5, .slice p2 x1.f6.length c3]) (by kernel_rfl) fun a hs => ?_
  obtain ⟨y27, h28, hk⟩ := bindE hk
  refine s_call hs (by kernel_rfl) (by kernel_rfl) (update_check_s h28 h4 (hG.mono (Le.refl _)) ((hw.pick [1] (by kernel_rfl)).pack 0)) fun a w v hv hs => ?_
  obtain ⟨ih29, rfl, hw, hle30⟩ := hv
  replace hw := hw.unpack 0 rfl
  refine pures hs 1 [2] [(2, .int .i64 y27)] (by kernel_rfl) fun a hs => ?_
  refine s_end ?_
  refine c_ret ?_
  obtain rfl := someE hk
  refine hQ _ _ (f_ret1 hs rfl (v := .int .i64 y27) (by kernel_rfl) ⟨ih29, rfl, hw.pick [0] (by kernel_rfl), hle30⟩)
def catenaryref17_check (x1 : M26) : Option Int :=
  if ((x1.f3 != 2) && (x1.f3 != 3)) = true then some 1
  else if (decide ((x1.f6.length : Int) > 2048)) = true then some 6
  else if ((!((decide (x1.f0 > 0)) == true)) || ((decide (x1.f1 < 1)) || ((decide (x1.f1 > 6)) || ((x1.f2 == 0) || ((x1.f3 == 2) && (decide (x1.f5 > 0))))))) = true then some 4
  else some 0
theorem catenaryref17_check_s {x1 : M26} {p2 : Option Addr} {c3 : Nat} {r : Int} (hk : catenaryref17_check x1 = some r) {g w : World} {F : Ch} {ih : IH} (h4 : RSl e5 ih [] p2 c3 x1.f6) (hw : St g w [F] ih) :
    CallsR Tryz.prog 44 #[.agg #[.int .u64 x1.f0, .int .i64 x1.f1, .int .u64 x1.f2, .int .i64 x1.f3, .int .u32 x1.f4, .int .u64 x1.f5, .slice p2 x1.f6.length c3], .bool true] w fun v w' => v = .int .i64 r ∧ St g w' [F] ih := by
  refine f_in (vs := [.agg #[.int .u64 x1.f0, .int .i64 x1.f1, .int .u64 x1.f2, .int .i64 x1.f3, .int .u32 x1.f4, .int .u64 x1.f5, .slice p2 x1.f6.length c3], .bool true]) Tryz.func44 rfl 47 rfl (by kernel_rfl) [(0, .agg #[.int .u64 x1.f0, .int .i64 x1.f1, .int .u64 x1.f2, .int .i64 x1.f3, .int .u32 x1.f4, .int .u64 x1.f5, .slice p2 x1.f6.length c3]), (1, .bool true)] (by kernel_rfl) fun a Qf hQ hQn hs => ?_
  refine c_seq ?_
  refine c_region ?_
  refine s_new hs hw [.int .u64 x1.f0, .int .i64 x1.f1, .int .u64 x1.f2, .int .i64 x1.f3, .int .u32 x1.f4, .int .u64 x1.f5, .slice p2 x1.f6.length c3] 26 (fun b => .pointer (some ⟨b, 0, none⟩)) (by kernel_rfl) (fun _ => by kernel_rfl) fun a w b38 hs hw => ?_
  refine pures hs 1 [1, 2] [(1, .bool true), (2, .pointer (some ⟨b38, 0, none⟩))] (by kernel_rfl) fun a hs => ?_
  refine s_end ?_
  refine c_seq ?_
  refine c_seq ?_
  obtain ⟨J43, hJ43⟩ : ∃ J : Act → World → Prop, ∀ a w, J a w ↔ (Sees a 47 [(1, .bool true), (2, .pointer (some ⟨b38, 0, none⟩)), (12, .bool ((x1.f3 != 2) && (x1.f3 != 3)))] ∧ St g w [bx b38 [.int .u64 x1.f0, .int .i64 x1.f1, .int .u64 x1.f2, .int .i64 x1.f3, .int .u32 x1.f4, .int .u64 x1.f5, .slice p2 x1.f6.length c3] 26, F] ih) := ⟨_, fun _ _ => Iff.rfl⟩
  refine c_regJ J43 ?_ ?_
  · refine pures hs 1 [1, 2, 5] [(1, .bool true), (2, .pointer (some ⟨b38, 0, none⟩)), (5, .pointer (some ⟨b38, 3, none⟩))] (by kernel_rfl) fun a hs => ?_
    refine s_load hs (hw.at_ 0 rfl) 3 (by kernel_rfl) (by kernel_rfl) (v := .int .i64 x1.f3) (by kernel_rfl) fun a hs => ?_
    refine pures hs 2 [1, 2, 8] [(1, .bool true), (2, .pointer (some ⟨b38, 0, none⟩)), (8, .bool (x1.f3 != 2))] (by kernel_rfl) fun a hs => ?_
    rcases boolE (x1.f3 != 2) with h44 | h44
    · replace hs := hs.altB 8 true (by kernel_rfl) h44
      refine pures hs 1 [1, 2, 8, 9] [(1, .bool true), (2, .pointer (some ⟨b38, 0, none⟩)), (8, .bool true), (9, .pointer (some ⟨b38, 3, none⟩))] (by kernel_rfl) fun a hs => ?_
      refine s_load hs (hw.at_ 0 rfl) 3 (by kernel_rfl) (by kernel_rfl) (v := .int .i64 x1.f3) (by kernel_rfl) fun a hs => ?_
      refine pures hs 2 [1, 2, 12] [(1, .bool true), (2, .pointer (some ⟨b38, 0, none⟩)), (12, .bool (x1.f3 != 3))] (by kernel_rfl) fun a hs => ?_
      refine s_end ?_
      exact (hJ43 _ _).2 ⟨(hs.altB 12 ((x1.f3 != 2) && (x1.f3 != 3)) (by kernel_rfl) (by rw [h44] <;> rfl)).cast [1, 2, 12] (by kernel_rfl), hw.pick [0, 1] (by kernel_rfl)⟩
    replace hs := hs.altB 8 false (by kernel_rfl) h44
    refine pures hs 4 [1, 2, 12] [(1, .bool true), (2, .pointer (some ⟨b38, 0, none⟩)), (12, .bool false)] (by kernel_rfl) fun a hs => ?_
    refine s_end ?_
    exact (hJ43 _ _).2 ⟨(hs.altB 12 ((x1.f3 != 2) && (x1.f3 != 3)) (by kernel_rfl) (by rw [h44] <;> rfl)).cast [1, 2, 12] (by kernel_rfl), hw.pick [0, 1] (by kernel_rfl)⟩
  intro a w hh
  obtain ⟨hs, hw⟩ := (hJ43 _ _).1 hh
  rcases ifbE hk with ⟨h45, hk⟩ | ⟨h45, hk⟩
  · refine c_cond1 hs (by kernel_rfl) (t := ((x1.f3 != 2) && (x1.f3 != 3))) (by kernel_rfl) h45 ?_
    refine c_seq ?_
    refine c_region ?_
    refine pures hs 1 [4] [(4, .int .i64 1)] (by kernel_rfl) fun a hs => ?_
    refine s_end ?_
    refine c_ret ?_
    obtain rfl := someE hk
    refine hQ _ _ (f_ret1 hs rfl (v := .int .i64 1) (by kernel_rfl) ⟨rfl, hw.pick [1] (by kernel_rfl)⟩)
  refine c_cond0 hs (by kernel_rfl) (t := ((x1.f3 != 2) && (x1.f3 != 3))) (by kernel_rfl) h45 ?_
  refine c_skip ?_
  refine c_seq ?_
  refine c_seq ?_
  refine c_region ?_
  refine pures hs 1 [1, 2, 13] [(1, .bool true), (2, .pointer (some ⟨b38, 0, none⟩)), (13, .pointer (some ⟨b38, 6, none⟩))] (by kernel_rfl) fun a hs => ?_
  refine s_load hs (hw.at_ 0 rfl) 6 (by kernel_rfl) (by kernel_rfl) (v := .slice p2 x1.f6.length c3) (by kernel_rfl) fun a hs => ?_
  refine pures hs 2 [1, 2, 16] [(1, .bool true), (2, .pointer (some ⟨b38, 0, none⟩)), (16, .bool (decide ((x1.f6.length : Int) > 2048)))] (by kernel_rfl) fun a hs => ?_
  refine s_end ?_
  rcases ifbE hk with ⟨h46, hk⟩ | ⟨h46, hk⟩
  · refine c_cond1 hs (by kernel_rfl) (t := (decide ((x1.f6.length : Int) > 2048))) (by kernel_rfl) h46 ?_
    refine c_seq ?_
    refine c_region ?_
    refine pures hs 1 [4] [(4, .int .i64 6)] (by kernel_rfl) fun a hs => ?_
    refine s_end ?_
    refine c_ret ?_
    obtain rfl := someE hk
    refine hQ _ _ (f_ret1 hs rfl (v := .int .i64 6) (by kernel_rfl) ⟨rfl, hw.pick [1] (by kernel_rfl)⟩)
  refine c_cond0 hs (by kernel_rfl) (t := (decide ((x1.f6.length : Int) > 2048))) (by kernel_rfl) h46 ?_
  refine c_skip ?_
  refine c_seq ?_
  refine c_seq ?_
  obtain ⟨J58, hJ58⟩ : ∃ J : Act → World → Prop, ∀ a w, J a w ↔ (Sees a 47 [(46, .bool ((!((decide (x1.f0 > 0)) == true)) || ((decide (x1.f1 < 1)) || ((decide (x1.f1 > 6)) || ((x1.f2 == 0) || ((x1.f3 == 2) && (decide (x1.f5 > 0))))))))] ∧ St g w [F] ih) := ⟨_, fun _ _ => Iff.rfl⟩
  refine c_regJ J58 ?_ ?_
  · refine pures hs 1 [1, 2, 17] [(1, .bool true), (2, .pointer (some ⟨b38, 0, none⟩)), (17, .pointer (some ⟨b38, 0, none⟩))] (by kernel_rfl) fun a hs => ?_
    refine s_load hs (hw.at_ 0 rfl) 0 (by kernel_rfl) (by kernel_rfl) (v := .int .u64 x1.f0) (by kernel_rfl) fun a hs => ?_
    refine pures hs 4 [2, 22] [(2, .pointer (some ⟨b38, 0, none⟩)), (22, .bool (!((decide (x1.f0 > 0)) == true)))] (by kernel_rfl) fun a hs => ?_
    rcases boolE (!((decide (x1.f0 > 0)) == true)) with h59 | h59
    · replace hs := hs.altB 22 true (by kernel_rfl) h59
      refine pures hs 24 [46] [(46, .bool true)] (by kernel_rfl) fun a hs => ?_
      refine s_end ?_
      exact (hJ58 _ _).2 ⟨(hs.altB 46 ((!((decide (x1.f0 > 0)) == true)) || ((decide (x1.f1 < 1)) || ((decide (x1.f1 > 6)) || ((x1.f2 == 0) || ((x1.f3 == 2) && (decide (x1.f5 > 0))))))) (by kernel_rfl) (by rw [h59] <;> rfl)).cast [46] (by kernel_rfl), hw.pick [1] (by kernel_rfl)⟩
    replace hs := hs.altB 22 false (by kernel_rfl) h59
    refine pures hs 1 [2, 22, 23] [(2, .pointer (some ⟨b38, 0, none⟩)), (22, .bool false), (23, .pointer (some ⟨b38, 1, none⟩))] (by kernel_rfl) fun a hs => ?_
    refine s_load hs (hw.at_ 0 rfl) 1 (by kernel_rfl) (by kernel_rfl) (v := .int .i64 x1.f1) (by kernel_rfl) fun a hs => ?_
    refine pures hs 3 [2, 27] [(2, .pointer (some ⟨b38, 0, none⟩)), (27, .bool (decide (x1.f1 < 1)))] (by kernel_rfl) fun a hs => ?_
    rcases boolE (decide (x1.f1 < 1)) with h60 | h60
    · replace hs := hs.altB 27 true (by kernel_rfl) h60
      refine pures hs 19 [46] [(46, .bool true)] (by kernel_rfl) fun a hs => ?_
      refine s_end ?_
      exact (hJ58 _ _).2 ⟨(hs.altB 46 ((!((decide (x1.f0 > 0)) == true)) || ((decide (x1.f1 < 1)) || ((decide (x1.f1 > 6)) || ((x1.f2 == 0) || ((x1.f3 == 2) && (decide (x1.f5 > 0))))))) (by kernel_rfl) (by rw [h59, h60] <;> rfl)).cast [46] (by kernel_rfl), hw.pick [1] (by kernel_rfl)⟩
    replace hs := hs.altB 27 false (by kernel_rfl) h60
    refine pures hs 1 [2, 27, 28] [(2, .pointer (some ⟨b38, 0, none⟩)), (27, .bool false), (28, .pointer (some ⟨b38, 1, none⟩))] (by kernel_rfl) fun a hs => ?_
    refine s_load hs (hw.at_ 0 rfl) 1 (by kernel_rfl) (by kernel_rfl) (v := .int .i64 x1.f1) (by kernel_rfl) fun a hs => ?_
    refine pures hs 3 [2, 32] [(2, .pointer (some ⟨b38, 0, none⟩)), (32, .bool (decide (x1.f1 > 6)))] (by kernel_rfl) fun a hs => ?_
    rcases boolE (decide (x1.f1 > 6)) with h61 | h61
    · replace hs := hs.altB 32 true (by kernel_rfl) h61
      refine pures hs 14 [46] [(46, .bool true)] (by kernel_rfl) fun a hs => ?_
      refine s_end ?_
      exact (hJ58 _ _).2 ⟨(hs.altB 46 ((!((decide (x1.f0 > 0)) == true)) || ((decide (x1.f1 < 1)) || ((decide (x1.f1 > 6)) || ((x1.f2 == 0) || ((x1.f3 == 2) && (decide (x1.f5 > 0))))))) (by kernel_rfl) (by rw [h59, h60, h61] <;> rfl)).cast [46] (by kernel_rfl), hw.pick [1] (by kernel_rfl)⟩
    replace hs := hs.altB 32 false (by kernel_rfl) h61
    refine pures hs 1 [2, 32, 33] [(2, .pointer (some ⟨b38, 0, none⟩)), (32, .bool false), (33, .pointer (some ⟨b38, 2, none⟩))] (by kernel_rfl) fun a hs => ?_
    refine s_load hs (hw.at_ 0 rfl) 2 (by kernel_rfl) (by kernel_rfl) (v := .int .u64 x1.f2) (by kernel_rfl) fun a hs => ?_
    refine pures hs 3 [2, 37] [(2, .pointer (some ⟨b38, 0, none⟩)), (37, .bool (x1.f2 == 0))] (by kernel_rfl) fun a hs => ?_
    rcases boolE (x1.f2 == 0) with h62 | h62
    · replace hs := hs.altB 37 true (by kernel_rfl) h62
      refine pures hs 9 [46] [(46, .bool true)] (by kernel_rfl) fun a hs => ?_
      refine s_end ?_
      exact (hJ58 _ _).2 ⟨(hs.altB 46 ((!((decide (x1.f0 > 0)) == true)) || ((decide (x1.f1 < 1)) || ((decide (x1.f1 > 6)) || ((x1.f2 == 0) || ((x1.f3 == 2) && (decide (x1.f5 > 0))))))) (by kernel_rfl) (by rw [h59, h60, h61, h62] <;> rfl)).cast [46] (by kernel_rfl), hw.pick [1] (by kernel_rfl)⟩
    replace hs := hs.altB 37 false (by kernel_rfl) h62
    refine pures hs 1 [2, 37, 38] [(2, .pointer (some ⟨b38, 0, none⟩)), (37, .bool false), (38, .pointer (some ⟨b38, 3, none⟩))] (by kernel_rfl) fun a hs => ?_
    refine s_load hs (hw.at_ 0 rfl) 3 (by kernel_rfl) (by kernel_rfl) (v := .int .i64 x1.f3) (by kernel_rfl) fun a hs => ?_
    refine pures hs 2 [2, 37, 41] [(2, .pointer (some ⟨b38, 0, none⟩)), (37, .bool false), (41, .bool (x1.f3 == 2))] (by kernel_rfl) fun a hs => ?_
    rcases boolE (x1.f3 == 2) with h63 | h63
    · replace hs := hs.altB 41 true (by kernel_rfl) h63
      refine pures hs 1 [37, 41, 42] [(37, .bool false), (41, .bool true), (42, .pointer (some ⟨b38, 5, none⟩))] (by kernel_rfl) fun a hs => ?_
      refine s_load hs (hw.at_ 0 rfl) 5 (by kernel_rfl) (by kernel_rfl) (v := .int .u64 x1.f5) (by kernel_rfl) fun a hs => ?_
      refine pures hs 3 [46] [(46, .bool (decide (x1.f5 > 0)))] (by kernel_rfl) fun a hs => ?_
      refine s_end ?_
      exact (hJ58 _ _).2 ⟨(hs.altB 46 ((!((decide (x1.f0 > 0)) == true)) || ((decide (x1.f1 < 1)) || ((decide (x1.f1 > 6)) || ((x1.f2 == 0) || ((x1.f3 == 2) && (decide (x1.f5 > 0))))))) (by kernel_rfl) (by rw [h59, h60, h61, h62, h63] <;> rfl)).cast [46] (by kernel_rfl), hw.pick [1] (by kernel_rfl)⟩
    replace hs := hs.altB 41 false (by kernel_rfl) h63
    refine pures hs 5 [46] [(46, .bool false)] (by kernel_rfl) fun a hs => ?_
    refine s_end ?_
    exact (hJ58 _ _).2 ⟨(hs.altB 46 ((!((decide (x1.f0 > 0)) == true)) || ((decide (x1.f1 < 1)) || ((decide (x1.f1 > 6)) || ((x1.f2 == 0) || ((x1.f3 == 2) && (decide (x1.f5 > 0))))))) (by kernel_rfl) (by rw [h59, h60, h61, h62, h63] <;> rfl)).cast [46] (by kernel_rfl), hw.pick [1] (by kernel_rfl)⟩
  intro a w hh
  obtain ⟨hs, hw⟩ := (hJ58 _ _).1 hh
  rcases ifbE hk with ⟨h64, hk⟩ | ⟨h64, hk⟩
  · refine c_cond1 hs (by kernel_rfl) (t := ((!((decide (x1.f0 > 0)) == true)) || ((decide (x1.f1 < 1)) || ((decide (x1.f1 > 6)) || ((x1.f2 == 0) || ((x1.f3 == 2) && (decide (x1.f5 > 0)))))))) (by kernel_rfl) h64 ?_
    refine c_seq ?_
    refine c_region ?_
    refine pures hs 1 [4] [(4, .int .i64 4)] (by kernel_rfl) fun a hs => ?_
    refine s_end ?_
    refine c_ret ?_
    obtain rfl := someE hk
    refine hQ _ _ (f_ret1 hs rfl (v := .int .i64 4) (by kernel_rfl) ⟨rfl, hw.pick [0] (by kernel_rfl)⟩)
  refine c_cond0 hs (by kernel_rfl) (t := ((!((decide (x1.f0 > 0)) == true)) || ((decide (x1.f1 < 1)) || ((decide (x1.f1 > 6)) || ((x1.f2 == 0) || ((x1.f3 == 2) && (decide (x1.f5 > 0)))))))) (by kernel_rfl) h64 ?_
  refine c_skip ?_
  refine c_seq ?_
  refine c_region ?_
  refine pures hs 1 [4] [(4, .int .i64 0)] (by kernel_rfl) fun a hs => ?_
  refine s_end ?_
  refine c_ret ?_
  obtain rfl := someE hk
  refine hQ _ _ (f_ret1 hs rfl (v := .int .i64 0) (by kernel_rfl) ⟨rfl, hw.pick [0] (by kernel_rfl)⟩)
def catenaryref17_Check (x1 : M26) : Option Int :=
  (catenaryref17_check x1).bind fun y21 =>
  some y21
theorem catenaryref17_Check_s {x1 : M26} {p2 : Option Addr} {c3 : Nat} {r : Int} (hk : catenaryref17_Check x1 = some r) {g w : World} {F : Ch} {ih : IH} (h4 : RSl e5 ih [] p2 c3 x1.f6) (hw : St g w [F] ih) :
    CallsR Tryz.prog 14 #[.agg #[.int .u64 x1.f0, .int .i64 x1.f1, .int .u64 x1.f2, .int .i64 x1.f3, .int .u32 x1.f4, .int .u64 x1.f5, .slice p2 x1.f6.length c3]] w fun v w' => v = .int .i64 r ∧ St g w' [F] ih := by
  refine f_in (vs := [.agg #[.int .u64 x1.f0, .int .i64 x1.f1, .int .u64 x1.f2, .int .i64 x1.f3, .int .u32 x1.f4, .int .u64 x1.f5, .slice p2 x1.f6.length c3]]) Tryz.func14 rfl 5 rfl (by kernel_rfl) [(0, .agg #[.int .u64 x1.f0, .int .i64 x1.f1, .int .u64 x1.f2, .int .i64 x1.f3, .int .u32 x1.f4, .int .u64 x1.f5, .slice p2 x1.f6.length c3])] (by kernel_rfl) fun a Qf hQ hQn hs => ?_
  refine c_seq ?_
  refine c_region ?_
  refine s_new hs hw [.int .u64 x1.f0, .int .i64 x1.f1, .int .u64 x1.f2, .int .i64 x1.f3, .int .u32 x1.f4, .int .u64 x1.f5, .slice p2 x1.f6.length c3] 26 (fun b => .pointer (some ⟨b, 0, none⟩)) (by kernel_rfl) (fun _ => by kernel_rfl) fun a w b17 hs hw => ?_
  refine pures hs 1 [1] [(1, .pointer (some ⟨b17, 0, none⟩))] (by kernel_rfl) fun a hs => ?_
  refine s_end ?_
  refine c_seq ?_
  refine c_region ?_
  refine s_load hs (hw.at_ 0 rfl) 0 (by kernel_rfl) (by kernel_rfl) (v := .agg #[.int .u64 x1.f0, .int .i64 x1.f1, .int .u64 x1.f2, .int .i64 x1.f3, .int .u32 x1.f4, .int .u64 x1.f5, .slice p2 x1.f6.length c3]) (by kernel_rfl) fun a hs => ?_
  obtain ⟨y21, h22, hk⟩ := bindE hk
  refine s_call hs (by kernel_rfl) (by kernel_rfl) (catenaryref17_check_s h22 h4 ((hw.pick [1] (by kernel_rfl)).pack 0)) fun a w v hv hs => ?_
  obtain ⟨rfl, hw⟩ := hv
  replace hw := hw.unpack 0 rfl
  refine pures hs 1 [2] [(2, .int .i64 y21)] (by kernel_rfl) fun a hs => ?_
  refine s_end ?_
  refine c_ret ?_
  obtain rfl := someE hk
  refine hQ _ _ (f_ret1 hs rfl (v := .int .i64 y21) (by kernel_rfl) ⟨rfl, hw.pick [0] (by kernel_rfl)⟩)
def letter_known_2 : Option Unit :=
  some ()
theorem letter_known_2_s {r : Unit} (hk : letter_known_2 = some r) {g w : World} {F : Ch} {ih : IH} (hw : St g w [F] ih) :
    CallsR Tryz.prog 55 #[.int .i64 17] w fun v w' => v = .bool true ∧ St g w' [F] ih := by
  refine f_in (vs := [.int .i64 17]) Tryz.func55 rfl 9 rfl (by kernel_rfl) [(0, .int .i64 17)] (by kernel_rfl) fun a Qf hQ hQn hs => ?_
  refine c_seq ?_
  refine c_region ?_
  refine pures hs 1 [0] [(0, .int .i64 17)] (by kernel_rfl) fun a hs => ?_
  refine s_end ?_
  refine c_seq ?_
  refine c_region ?_
  refine pures hs 7 [2] [(2, .bool true)] (by kernel_rfl) fun a hs => ?_
  refine s_end ?_
  refine c_ret ?_
  obtain rfl := someE hk
  refine hQ _ _ (f_ret1 hs rfl (v := .bool true) (by kernel_rfl) ⟨rfl, hw.pick [0] (by kernel_rfl)⟩)
def letter_bare_3 (x1 : List M26) : Option (Int × Int × (List M26)) :=
  (letter_bare_1 0).bind fun y521 =>
  (letter_bare_2 1).bind fun y537 =>
  (letter_bare_14 x1).bind fun y650 =>
  some (y521, y537, y650)
theorem letter_bare_3_s {x1 : List M26} {p2 : Option Addr} {c3 : Nat} {r : Int × Int × (List M26)} (hk : letter_bare_3 x1 = some r) {g w : World} {F : Ch} {ih : IH} (h4 : RSl e26 ih [] p2 c3 x1) (hG : Glob 0 gl0 110 ih) (hw : St g w [F] ih) :
    CallsR Tryz.prog 58 #[.agg #[.int .i64 17, .int .i64 1, .int .i64 1, .int .i64 0, .int .u64 1, .int .u64 0, .int .u64 0, .int .u64 0, .int .u64 0, .int .u64 0, .int .i64 0, .int .u32 0, .int .i64 0, .int .i64 0, .int .i64 0, .int .u64 0, .int .i64 0, .int .i64 0, .int .u64 0, .slice none 0 0, .bool false, .int .i64 0, .slice none 0 0, .slice p2 x1.length c3, .slice none 0 0]] w fun v w' => ∃ (p663 : Option Addr) (c664 : Nat), v = .agg #[.int .i64 17, .int .i64 1, .int .i64 1, .int .i64 r.1, .int .u64 r.2.1, .int .u64 0, .int .u64 0, .int .u64 0, .int .u64 0, .int .u64 0, .int .i64 0, .int .u32 0, .int .i64 0, .int .i64 0, .int .i64 0, .int .u64 0, .int .i64 0, .int .i64 0, .int .u64 0, .slice none 0 0, .bool false, .int .i64 0, .slice none 0 0, .slice p663 r.2.2.length c664, .slice none 0 0] ∧ St g w' [F] ih ∧ RSl e26 ih [] p663 c664 r.2.2 := by
  refine f_in (vs := [.agg #[.int .i64 17, .int .i64 1, .int .i64 1, .int .i64 0, .int .u64 1, .int .u64 0, .int .u64 0, .int .u64 0, .int .u64 0, .int .u64 0, .int .i64 0, .int .u32 0, .int .i64 0, .int .i64 0, .int .i64 0, .int .u64 0, .int .i64 0, .int .i64 0, .int .u64 0, .slice none 0 0, .bool false, .int .i64 0, .slice none 0 0, .slice p2 x1.length c3, .slice none 0 0]]) Tryz.func58 rfl 74 rfl (by kernel_rfl) [(0, .agg #[.int .i64 17, .int .i64 1, .int .i64 1, .int .i64 0, .int .u64 1, .int .u64 0, .int .u64 0, .int .u64 0, .int .u64 0, .int .u64 0, .int .i64 0, .int .u32 0, .int .i64 0, .int .i64 0, .int .i64 0, .int .u64 0, .int .i64 0, .int .i64 0, .int .u64 0, .slice none 0 0, .bool false, .int .i64 0, .slice none 0 0, .slice p2 x1.length c3, .slice none 0 0])] (by kernel_rfl) fun a Qf hQ hQn hs => ?_
  refine c_seq ?_
  refine c_region ?_
  refine s_new hs hw [.int .i64 17, .int .i64 1, .int .i64 1, .int .i64 0, .int .u64 1, .int .u64 0, .int .u64 0, .int .u64 0, .int .u64 0, .int .u64 0, .int .i64 0, .int .u32 0, .int .i64 0, .int .i64 0, .int .i64 0, .int .u64 0, .int .i64 0, .int .i64 0, .int .u64 0, .slice none 0 0, .bool false, .int .i64 0, .slice none 0 0, .slice p2 x1.length c3, .slice none 0 0] 90 (fun b => .pointer (some ⟨b, 0, none⟩)) (by kernel_rfl) (fun _ => by kernel_rfl) fun a w b339 hs hw => ?_
  refine s_new hs hw [.int .i64 0, .int .i64 0, .int .i64 0, .int .i64 0, .int .u64 0, .int .u64 0, .int .u64 0, .int .u64 0, .int .u64 0, .int .u64 0, .int .i64 0, .int .u32 0, .int .i64 0, .int .i64 0, .int .i64 0, .int .u64 0, .int .i64 0, .int .i64 0, .int .u64 0, .slice none 0 0, .bool false, .int .i64 0, .slice none 0 0, .slice none 0 0, .slice none 0 0] 90 (fun b => .pointer (some ⟨b, 0, none⟩)) (by kernel_rfl) (fun _ => by kernel_rfl) fun a w b341 hs hw => ?_
  refine s_end ?_
  refine c_seq ?_
  refine c_region ?_
  refine pures hs 1 [1, 2, 3] [(1, .pointer (some ⟨b339, 0, none⟩)), (2, .pointer (some ⟨b341, 0, none⟩)), (3, .int .i64 0)] (by kernel_rfl) fun a hs => ?_
  refine s_end ?_
  refine c_seq ?_
  refine c_seq ?_
  refine c_region ?_
  refine pures hs 1 [1, 2, 3, 9] [(1, .pointer (some ⟨b339, 0, none⟩)), (2, .pointer (some ⟨b341, 0, none⟩)), (3, .int .i64 0), (9, .pointer (some ⟨b339, 0, none⟩))] (by kernel_rfl) fun a hs => ?_
  refine s_load hs (hw.at_ 1 rfl) 0 (by kernel_rfl) (by kernel_rfl) (v := .int .i64 17) (by kernel_rfl) fun a hs => ?_
  refine pures hs 2 [1, 2, 3, 12] [(1, .pointer (some ⟨b339, 0, none⟩)), (2, .pointer (some ⟨b341, 0, none⟩)), (3, .int .i64 0), (12, .pointer (some ⟨0, 120, none⟩))] (by kernel_rfl) fun a hs => ?_
  refine s_load hs (hw.atG (hG.mono (Le.refl _))) 120 (by kernel_rfl) (by kernel_rfl) (v := .agg #[.int .i64 1, .int .i64 2, .int .i64 8192, .int .i64 0, .int .i64 0, .int .i64 0]) (by kernel_rfl) fun a hs => ?_
  refine pures hs 1 [1, 2, 3, 13, 14] [(1, .pointer (some ⟨b339, 0, none⟩)), (2, .pointer (some ⟨b341, 0, none⟩)), (3, .int .i64 0), (13, .agg #[.int .i64 1, .int .i64 2, .int .i64 8192, .int .i64 0, .int .i64 0, .int .i64 0]), (14, .int .i64 0)] (by kernel_rfl) fun a hs => ?_
  refine s_end ?_
  refine c_block ?_
  refine wpIn_loop_rounds 7 ?_
  refine c_unr ?_
  refine c_seq ?_
  refine c_region ?_
  refine pures hs 1 [1, 2, 3, 13, 14, 15] [(1, .pointer (some ⟨b339, 0, none⟩)), (2, .pointer (some ⟨b341, 0, none⟩)), (3, .int .i64 0), (13, .agg #[.int .i64 1, .int .i64 2, .int .i64 8192, .int .i64 0, .int .i64 0, .int .i64 0]), (14, .int .i64 0), (15, .bool true)] (by kernel_rfl) fun a hs => ?_
  refine s_end ?_
  refine c_seq ?_
  refine c_condT hs (by kernel_rfl) (by kernel_rfl) ?_
  refine c_skip ?_
  refine c_seq ?_
  refine c_block ?_
  refine c_seq ?_
  refine c_region ?_
  refine pures hs 2 [1, 2, 3, 13, 14, 5] [(1, .pointer (some ⟨b339, 0, none⟩)), (2, .pointer (some ⟨b341, 0, none⟩)), (3, .int .i64 0), (13, .agg #[.int .i64 1, .int .i64 2, .int .i64 8192, .int .i64 0, .int .i64 0, .int .i64 0]), (14, .int .i64 0), (5, .int .i64 1)] (by kernel_rfl) fun a hs => ?_
  refine s_end ?_
  refine c_region ?_
  refine pures hs 4 [1, 2, 3, 13, 14] [(1, .pointer (some ⟨b339, 0, none⟩)), (2, .pointer (some ⟨b341, 0, none⟩)), (3, .int .i64 1), (13, .agg #[.int .i64 1, .int .i64 2, .int .i64 8192, .int .i64 0, .int .i64 0, .int .i64 0]), (14, .int .i64 0)] (by kernel_rfl) fun a hs => ?_
  refine s_end ?_
  refine c_region ?_
  refine pures hs 2 [1, 2, 3, 13, 14] [(1, .pointer (some ⟨b339, 0, none⟩)), (2, .pointer (some ⟨b341, 0, none⟩)), (3, .int .i64 1), (13, .agg #[.int .i64 1, .int .i64 2, .int .i64 8192, .int .i64 0, .int .i64 0, .int .i64 0]), (14, .int .i64 1)] (by kernel_rfl) fun a hs => ?_
  refine s_end ?_
  refine c_unr ?_
  refine c_seq ?_
  refine c_region ?_
  refine pures hs 1 [1, 2, 3, 13, 14, 15] [(1, .pointer (some ⟨b339, 0, none⟩)), (2, .pointer (some ⟨b341, 0, none⟩)), (3, .int .i64 1), (13, .agg #[.int .i64 1, .int .i64 2, .int .i64 8192, .int .i64 0, .int .i64 0, .int .i64 0]), (14, .int .i64 1), (15, .bool true)] (by kernel_rfl) fun a hs => ?_
  refine s_end ?_
  refine c_seq ?_
  refine c_condT hs (by kernel_rfl) (by kernel_rfl) ?_
  refine c_skip ?_
  refine c_seq ?_
  refine c_block ?_
  refine c_seq ?_
  refine c_region ?_
  refine pures hs 2 [1, 2, 3, 13, 14, 5] [(1, .pointer (some ⟨b339, 0, none⟩)), (2, .pointer (some ⟨b341, 0, none⟩)), (3, .int .i64 1), (13, .agg #[.int .i64 1, .int .i64 2, .int .i64 8192, .int .i64 0, .int .i64 0, .int .i64 0]), (14, .int .i64 1), (5, .int .i64 2)] (by kernel_rfl) fun a hs => ?_
  refine s_end ?_
  refine c_region ?_
  refine pures hs 4 [1, 2, 3, 13, 14] [(1, .pointer (some ⟨b339, 0, none⟩)), (2, .pointer (some ⟨b341, 0, none⟩)), (3, .int .i64 3), (13, .agg #[.int .i64 1, .int .i64 2, .int .i64 8192, .int .i64 0, .int .i64 0, .int .i64 0]), (14, .int .i64 1)] (by kernel_rfl) fun a hs => ?_
  refine s_end ?_
  refine c_region ?_
  refine pures hs 2 [1, 2, 3, 13, 14] [(1, .pointer (some ⟨b339, 0, none⟩)), (2, .pointer (some ⟨b341, 0, none⟩)), (3, .int .i64 3), (13, .agg #[.int .i64 1, .int .i64 2, .int .i64 8192, .int .i64 0, .int .i64 0, .int .i64 0]), (14, .int .i64 2)] (by kernel_rfl) fun a hs => ?_
  refine s_end ?_
  refine c_unr ?_
  refine c_seq ?_
  refine c_region ?_
  refine pures hs 1 [1, 2, 3, 13, 14, 15] [(1, .pointer (some ⟨b339, 0, none⟩)), (2, .pointer (some ⟨b341, 0, none⟩)), (3, .int .i64 3), (13, .agg #[.int .i64 1, .int .i64 2, .int .i64 8192, .int .i64 0, .int .i64 0, .int .i64 0]), (14, .int .i64 2), (15, .bool true)] (by kernel_rfl) fun a hs => ?_
  refine s_end ?_
  refine c_seq ?_
  refine c_condT hs (by kernel_rfl) (by kernel_rfl) ?_
  refine c_skip ?_
  refine c_seq ?_
  refine c_block ?_
  refine c_seq ?_
  refine c_region ?_
  refine pures hs 2 [1, 2, 3, 13, 14, 5] [(1, .pointer (some ⟨b339, 0, none⟩)), (2, .pointer (some ⟨b341, 0, none⟩)), (3, .int .i64 3), (13, .agg #[.int .i64 1, .int .i64 2, .int .i64 8192, .int .i64 0, .int .i64 0, .int .i64 0]), (14, .int .i64 2), (5, .int .i64 8192)] (by kernel_rfl) fun a hs => ?_
  refine s_end ?_
  refine c_region ?_
  refine pures hs 4 [1, 2, 3, 13, 14] [(1, .pointer (some ⟨b339, 0, none⟩)), (2, .pointer (some ⟨b341, 0, none⟩)), (3, .int .i64 8195), (13, .agg #[.int .i64 1, .int .i64 2, .int .i64 8192, .int .i64 0, .int .i64 0, .int .i64 0]), (14, .int .i64 2)] (by kernel_rfl) fun a hs => ?_
  refine s_end ?_
  refine c_region ?_
  refine pures hs 2 [1, 2, 3, 13, 14] [(1, .pointer (some ⟨b339, 0, none⟩)), (2, .pointer (some ⟨b341, 0, none⟩)), (3, .int .i64 8195), (13, .agg #[.int .i64 1, .int .i64 2, .int .i64 8192, .int .i64 0, .int .i64 0, .int .i64 0]), (14, .int .i64 3)] (by kernel_rfl) fun a hs => ?_
  refine s_end ?_
  refine c_unr ?_
  refine c_seq ?_
  refine c_region ?_
  refine pures hs 1 [1, 2, 3, 13, 14, 15] [(1, .pointer (some ⟨b339, 0, none⟩)), (2, .pointer (some ⟨b341, 0, none⟩)), (3, .int .i64 8195), (13, .agg #[.int .i64 1, .int .i64 2, .int .i64 8192, .int .i64 0, .int .i64 0, .int .i64 0]), (14, .int .i64 3), (15, .bool true)] (by kernel_rfl) fun a hs => ?_
  refine s_end ?_
  refine c_seq ?_
  refine c_condT hs (by kernel_rfl) (by kernel_rfl) ?_
  refine c_skip ?_
  refine c_seq ?_
  refine c_block ?_
  refine c_seq ?_
  refine c_region ?_
  refine pures hs 2 [1, 2, 3, 13, 14, 5] [(1, .pointer (some ⟨b339, 0, none⟩)), (2, .pointer (some ⟨b341, 0, none⟩)), (3, .int .i64 8195), (13, .agg #[.int .i64 1, .int .i64 2, .int .i64 8192, .int .i64 0, .int .i64 0, .int .i64 0]), (14, .int .i64 3), (5, .int .i64 0)] (by kernel_rfl) fun a hs => ?_
  refine s_end ?_
  refine c_region ?_
  refine pures hs 4 [1, 2, 3, 13, 14] [(1, .pointer (some ⟨b339, 0, none⟩)), (2, .pointer (some ⟨b341, 0, none⟩)), (3, .int .i64 8195), (13, .agg #[.int .i64 1, .int .i64 2, .int .i64 8192, .int .i64 0, .int .i64 0, .int .i64 0]), (14, .int .i64 3)] (by kernel_rfl) fun a hs => ?_
  refine s_end ?_
  refine c_region ?_
  refine pures hs 2 [1, 2, 3, 13, 14] [(1, .pointer (some ⟨b339, 0, none⟩)), (2, .pointer (some ⟨b341, 0, none⟩)), (3, .int .i64 8195), (13, .agg #[.int .i64 1, .int .i64 2, .int .i64 8192, .int .i64 0, .int .i64 0, .int .i64 0]), (14, .int .i64 4)] (by kernel_rfl) fun a hs => ?_
  refine s_end ?_
  refine c_unr ?_
  refine c_seq ?_
  refine c_region ?_
  refine pures hs 1 [1, 2, 3, 13, 14, 15] [(1, .pointer (some ⟨b339, 0, none⟩)), (2, .pointer (some ⟨b341, 0, none⟩)), (3, .int .i64 8195), (13, .agg #[.int .i64 1, .int .i64 2, .int .i64 8192, .int .i64 0, .int .i64 0, .int .i64 0]), (14, .int .i64 4), (15, .bool true)] (by kernel_rfl) fun a hs => ?_
  refine s_end ?_
  refine c_seq ?_
  refine c_condT hs (by kernel_rfl) (by kernel_rfl) ?_
  refine c_skip ?_
  refine c_seq ?_
  refine c_block ?_
  refine c_seq ?_
  refine c_region ?_
  refine pures hs 2 [1, 2, 3, 13, 14, 5] [(1, .pointer (some ⟨b339, 0, none⟩)), (2, .pointer (some ⟨b341, 0, none⟩)), (3, .int .i64 8195), (13, .agg #[.int .i64 1, .int .i64 2, .int .i64 8192, .int .i64 0, .int .i64 0, .int .i64 0]), (14, .int .i64 4), (5, .int .i64 0)] (by kernel_rfl) fun a hs => ?_
  refine s_end ?_
  refine c_region ?_
  refine pures hs 4 [1, 2, 3, 13, 14] [(1, .pointer (some ⟨b339, 0, none⟩)), (2, .pointer (some ⟨b341, 0, none⟩)), (3, .int .i64 8195), (13, .agg #[.int .i64 1, .int .i64 2, .int .i64 8192, .int .i64 0, .int .i64 0, .int .i64 0]), (14, .int .i64 4)] (by kernel_rfl) fun a hs => ?_
  refine s_end ?_
  refine c_region ?_
  refine pures hs 2 [1, 2, 3, 13, 14] [(1, .pointer (some ⟨b339, 0, none⟩)), (2, .pointer (some ⟨b341, 0, none⟩)), (3, .int .i64 8195), (13, .agg #[.int .i64 1, .int .i64 2, .int .i64 8192, .int .i64 0, .int .i64 0, .int .i64 0]), (14, .int .i64 5)] (by kernel_rfl) fun a hs => ?_
  refine s_end ?_
  refine c_unr ?_
  refine c_seq ?_
  refine c_region ?_
  refine pures hs 1 [1, 2, 3, 13, 14, 15] [(1, .pointer (some ⟨b339, 0, none⟩)), (2, .pointer (some ⟨b341, 0, none⟩)), (3, .int .i64 8195), (13, .agg #[.int .i64 1, .int .i64 2, .int .i64 8192, .int .i64 0, .int .i64 0, .int .i64 0]), (14, .int .i64 5), (15, .bool true)] (by kernel_rfl) fun a hs => ?_
  refine s_end ?_
  refine c_seq ?_
  refine c_condT hs (by kernel_rfl) (by kernel_rfl) ?_
  refine c_skip ?_
  refine c_seq ?_
  refine c_block ?_
  refine c_seq ?_
  refine c_region ?_
  refine pures hs 2 [1, 2, 3, 13, 14, 5] [(1, .pointer (some ⟨b339, 0, none⟩)), (2, .pointer (some ⟨b341, 0, none⟩)), (3, .int .i64 8195), (13, .agg #[.int .i64 1, .int .i64 2, .int .i64 8192, .int .i64 0, .int .i64 0, .int .i64 0]), (14, .int .i64 5), (5, .int .i64 0)] (by kernel_rfl) fun a hs => ?_
  refine s_end ?_
  refine c_region ?_
  refine pures hs 4 [1, 2, 3, 13, 14] [(1, .pointer (some ⟨b339, 0, none⟩)), (2, .pointer (some ⟨b341, 0, none⟩)), (3, .int .i64 8195), (13, .agg #[.int .i64 1, .int .i64 2, .int .i64 8192, .int .i64 0, .int .i64 0, .int .i64 0]), (14, .int .i64 5)] (by kernel_rfl) fun a hs => ?_
  refine s_end ?_
  refine c_region ?_
  refine pures hs 2 [1, 2, 3, 13, 14] [(1, .pointer (some ⟨b339, 0, none⟩)), (2, .pointer (some ⟨b341, 0, none⟩)), (3, .int .i64 8195), (13, .agg #[.int .i64 1, .int .i64 2, .int .i64 8192, .int .i64 0, .int .i64 0, .int .i64 0]), (14, .int .i64 6)] (by kernel_rfl) fun a hs => ?_
  refine s_end ?_
  refine c_unr ?_
  refine c_seq ?_
  refine c_region ?_
  refine pures hs 1 [1, 2, 3, 13, 14, 15] [(1, .pointer (some ⟨b339, 0, none⟩)), (2, .pointer (some ⟨b341, 0, none⟩)), (3, .int .i64 8195), (13, .agg #[.int .i64 1, .int .i64 2, .int .i64 8192, .int .i64 0, .int .i64 0, .int .i64 0]), (14, .int .i64 6), (15, .bool false)] (by kernel_rfl) fun a hs => ?_
  refine s_end ?_
  refine c_seq ?_
  refine c_condF hs (by kernel_rfl) (by kernel_rfl) ?_
  refine c_exit ?_
  refine c_seq ?_
  refine c_region ?_
  refine pures hs 1 [1, 2, 3, 21] [(1, .pointer (some ⟨b339, 0, none⟩)), (2, .pointer (some ⟨b341, 0, none⟩)), (3, .int .i64 8195), (21, .pointer (some ⟨b339, 0, none⟩))] (by kernel_rfl) fun a hs => ?_
  refine s_load hs (hw.at_ 1 rfl) 0 (by kernel_rfl) (by kernel_rfl) (v := .int .i64 17) (by kernel_rfl) fun a hs => ?_
  refine pures hs 1 [1, 2, 3, 22, 23] [(1, .pointer (some ⟨b339, 0, none⟩)), (2, .pointer (some ⟨b341, 0, none⟩)), (3, .int .i64 8195), (22, .int .i64 17), (23, .pointer (some ⟨b339, 1, none⟩))] (by kernel_rfl) fun a hs => ?_
  refine s_load hs (hw.at_ 1 rfl) 1 (by kernel_rfl) (by kernel_rfl) (v := .int .i64 1) (by kernel_rfl) fun a hs => ?_
  refine pures hs 1 [1, 2, 3, 22, 24, 25] [(1, .pointer (some ⟨b339, 0, none⟩)), (2, .pointer (some ⟨b341, 0, none⟩)), (3, .int .i64 8195), (22, .int .i64 17), (24, .int .i64 1), (25, .pointer (some ⟨b339, 2, none⟩))] (by kernel_rfl) fun a hs => ?_
  refine s_load hs (hw.at_ 1 rfl) 2 (by kernel_rfl) (by kernel_rfl) (v := .int .i64 1) (by kernel_rfl) fun a hs => ?_
  refine pures hs 1 [1, 2, 3, 27] [(1, .pointer (some ⟨b339, 0, none⟩)), (2, .pointer (some ⟨b341, 0, none⟩)), (3, .int .i64 8195), (27, .agg #[.int .i64 17, .int .i64 1, .int .i64 1, .int .i64 0, .int .u64 0, .int .u64 0, .int .u64 0, .int .u64 0, .int .u64 0, .int .u64 0, .int .i64 0, .int .u32 0, .int .i64 0, .int .i64 0, .int .i64 0, .int .u64 0, .int .i64 0, .int .i64 0, .int .u64 0, .slice none 0 0, .bool false, .int .i64 0, .slice none 0 0, .slice none 0 0, .slice none 0 0])] (by kernel_rfl) fun a hs => ?_
  refine s_new hs hw [.int .i64 0, .int .i64 0, .int .i64 0, .int .i64 0, .int .u64 0, .int .u64 0, .int .u64 0, .int .u64 0, .int .u64 0, .int .u64 0, .int .i64 0, .int .u32 0, .int .i64 0, .int .i64 0, .int .i64 0, .int .u64 0, .int .i64 0, .int .i64 0, .int .u64 0, .slice none 0 0, .bool false, .int .i64 0, .slice none 0 0, .slice none 0 0, .slice none 0 0] 90 (fun b => .pointer (some ⟨b, 0, none⟩)) (by kernel_rfl) (fun _ => by kernel_rfl) fun a w b345 hs hw => ?_
  refine s_store hs hw 0 rfl 0 (by kernel_rfl) (by kernel_rfl) (v := .agg #[.int .i64 17, .int .i64 1, .int .i64 1, .int .i64 0, .int .u64 0, .int .u64 0, .int .u64 0, .int .u64 0, .int .u64 0, .int .u64 0, .int .i64 0, .int .u32 0, .int .i64 0, .int .i64 0, .int .i64 0, .int .u64 0, .int .i64 0, .int .i64 0, .int .u64 0, .slice none 0 0, .bool false, .int .i64 0, .slice none 0 0, .slice none 0 0, .slice none 0 0]) (by kernel_rfl) (by kernel_rfl) (by kernel_rfl) (by kernel_rfl) fun a w hs hw => ?_
  refine s_end ?_
  refine c_seq ?_
  refine c_seq ?_
  refine c_region ?_
  refine pures hs 30 [2, 3, 6, 29, 31, 33, 35, 37, 39, 41, 43, 45, 47, 49, 51, 53, 55, 57] [(2, .pointer (some ⟨b341, 0, none⟩)), (3, .int .i64 8195), (6, .pointer (some ⟨b345, 0, none⟩)), (29, .agg #[.int .i64 1, .func (.func 68) #[] #[.pointer (some ⟨b339, 0, none⟩), .pointer (some ⟨b345, 0, none⟩)]]), (31, .agg #[.int .i64 2, .func (.func 69) #[] #[.pointer (some ⟨b339, 0, none⟩), .pointer (some ⟨b345, 0, none⟩)]]), (33, .agg #[.int .i64 4, .func (.func 70) #[] #[.pointer (some ⟨b339, 0, none⟩), .pointer (some ⟨b345, 0, none⟩)]]), (35, .agg #[.int .i64 8, .func (.func 71) #[] #[.pointer (some ⟨b339, 0, none⟩), .pointer (some ⟨b345, 0, none⟩)]]), (37, .agg #[.int .i64 16, .func (.func 72) #[] #[.pointer (some ⟨b339, 0, none⟩), .pointer (some ⟨b345, 0, none⟩)]]), (39, .agg #[.int .i64 32, .func (.func 73) #[] #[.pointer (some ⟨b339, 0, none⟩), .pointer (some ⟨b345, 0, none⟩)]]), (41, .agg #[.int .i64 64, .func (.func 74) #[] #[.pointer (some ⟨b339, 0, none⟩), .pointer (some ⟨b345, 0, none⟩)]]), (43, .agg #[.int .i64 128, .func (.func 75) #[] #[.pointer (some ⟨b339, 0, none⟩), .pointer (some ⟨b345, 0, none⟩)]]), (45, .agg #[.int .i64 256, .func (.func 76) #[] #[.pointer (some ⟨b339, 0, none⟩), .pointer (some ⟨b345, 0, none⟩)]]), (47, .agg #[.int .i64 512, .func (.func 77) #[] #[.pointer (some ⟨b339, 0, none⟩), .pointer (some ⟨b345, 0, none⟩)]]), (49, .agg #[.int .i64 1024, .func (.func 78) #[] #[.pointer (some ⟨b339, 0, none⟩), .pointer (some ⟨b345, 0, none⟩)]]), (51, .agg #[.int .i64 2048, .func (.func 79) #[] #[.pointer (some ⟨b339, 0, none⟩), .pointer (some ⟨b345, 0, none⟩)]]), (53, .agg #[.int .i64 4096, .func (.func 80) #[] #[.pointer (some ⟨b339, 0, none⟩), .pointer (some ⟨b345, 0, none⟩)]]), (55, .agg #[.int .i64 8192, .func (.func 81) #[] #[.pointer (some ⟨b339, 0, none⟩), .pointer (some ⟨b345, 0, none⟩)]]), (57, .agg #[.int .i64 16384, .func (.func 82) #[] #[.pointer (some ⟨b339, 0, none⟩), .pointer (some ⟨b345, 0, none⟩)]])] (by kernel_rfl) fun a hs => ?_
  refine s_new hs hw [.int .i64 1, .func (.func 68) #[] #[.pointer (some ⟨b339, 0, none⟩), .pointer (some ⟨b345, 0, none⟩)], .int .i64 2, .func (.func 69) #[] #[.pointer (some ⟨b339, 0, none⟩), .pointer (some ⟨b345, 0, none⟩)], .int .i64 4, .func (.func 70) #[] #[.pointer (some ⟨b339, 0, none⟩), .pointer (some ⟨b345, 0, none⟩)], .int .i64 8, .func (.func 71) #[] #[.pointer (some ⟨b339, 0, none⟩), .pointer (some ⟨b345, 0, none⟩)], .int .i64 16, .func (.func 72) #[] #[.pointer (some ⟨b339, 0, none⟩), .pointer (some ⟨b345, 0, none⟩)], .int .i64 32, .func (.func 73) #[] #[.pointer (some ⟨b339, 0, none⟩), .pointer (some ⟨b345, 0, none⟩)], .int .i64 64, .func (.func 74) #[] #[.pointer (some ⟨b339, 0, none⟩), .pointer (some ⟨b345, 0, none⟩)], .int .i64 128, .func (.func 75) #[] #[.pointer (some ⟨b339, 0, none⟩), .pointer (some ⟨b345, 0, none⟩)], .int .i64 256, .func (.func 76) #[] #[.pointer (some ⟨b339, 0, none⟩), .pointer (some ⟨b345, 0, none⟩)], .int .i64 512, .func (.func 77) #[] #[.pointer (some ⟨b339, 0, none⟩), .pointer (some ⟨b345, 0, none⟩)], .int .i64 1024, .func (.func 78) #[] #[.pointer (some ⟨b339, 0, none⟩), .pointer (some ⟨b345, 0, none⟩)], .int .i64 2048, .func (.func 79) #[] #[.pointer (some ⟨b339, 0, none⟩), .pointer (some ⟨b345, 0, none⟩)], .int .i64 4096, .func (.func 80) #[] #[.pointer (some ⟨b339, 0, none⟩), .pointer (some ⟨b345, 0, none⟩)], .int .i64 8192, .func (.func 81) #[] #[.pointer (some ⟨b339, 0, none⟩), .pointer (some ⟨b345, 0, none⟩)], .int .i64 16384, .func (.func 82) #[] #[.pointer (some ⟨b339, 0, none⟩), .pointer (some ⟨b345, 0, none⟩)]] 111 (fun b => .slice (some ⟨b, 0, none⟩) 15 15) (by kernel_rfl) (fun _ => by kernel_rfl) fun a w b349 hs hw => ?_
  refine pures hs 2 [2, 3, 6, 58, 59, 60] [(2, .pointer (some ⟨b341, 0, none⟩)), (3, .int .i64 8195), (6, .pointer (some ⟨b345, 0, none⟩)), (58, .slice (some ⟨b349, 0, none⟩) 15 15), (59, .int .i64 15), (60, .int .i64 0)] (by kernel_rfl) fun a hs => ?_
  refine s_end ?_
  refine c_block ?_
  refine wpIn_loop_rounds 16 ?_
  refine c_unr ?_
  refine c_seq ?_
  refine c_region ?_
  refine pures hs 1 [2, 3, 6, 58, 59, 60, 61] [(2, .pointer (some ⟨b341, 0, none⟩)), (3, .int .i64 8195), (6, .pointer (some ⟨b345, 0, none⟩)), (58, .slice (some ⟨b349, 0, none⟩) 15 15), (59, .int .i64 15), (60, .int .i64 0), (61, .bool true)] (by kernel_rfl) fun a hs => ?_
  refine s_end ?_
  refine c_seq ?_
  refine c_condT hs (by kernel_rfl) (by kernel_rfl) ?_
  refine c_skip ?_
  refine c_seq ?_
  refine c_block ?_
  refine c_seq ?_
  refine c_region ?_
  refine pures hs 1 [2, 3, 6, 58, 59, 60, 62] [(2, .pointer (some ⟨b341, 0, none⟩)), (3, .int .i64 8195), (6, .pointer (some ⟨b345, 0, none⟩)), (58, .slice (some ⟨b349, 0, none⟩) 15 15), (59, .int .i64 15), (60, .int .i64 0), (62, .pointer (some ⟨b349, 0, none⟩))] (by kernel_rfl) fun a hs => ?_
  refine s_load hs (hw.at_ 0 rfl) 0 (by kernel_rfl) (by kernel_rfl) (v := .agg #[.int .i64 1, .func (.func 68) #[] #[.pointer (some ⟨b339, 0, none⟩), .pointer (some ⟨b345, 0, none⟩)]]) (by kernel_rfl) fun a hs => ?_
  refine s_new hs hw [.int .i64 0, .nilFunc] 111 (fun b => .pointer (some ⟨b, 0, none⟩)) (by kernel_rfl) (fun _ => by kernel_rfl) fun a w b517 hs hw => ?_
  refine s_store hs hw 0 rfl 0 (by kernel_rfl) (by kernel_rfl) (v := .agg #[.int .i64 1, .func (.func 68) #[] #[.pointer (some ⟨b339, 0, none⟩), .pointer (some ⟨b345, 0, none⟩)]]) (by kernel_rfl) (by kernel_rfl) (by kernel_rfl) (by kernel_rfl) fun a w hs hw => ?_
  refine s_end ?_
  refine c_seq ?_
  refine c_region ?_
  refine pures hs 2 [2, 3, 6, 58, 59, 60, 8, 64, 65] [(2, .pointer (some ⟨b341, 0, none⟩)), (3, .int .i64 8195), (6, .pointer (some ⟨b345, 0, none⟩)), (58, .slice (some ⟨b349, 0, none⟩) 15 15), (59, .int .i64 15), (60, .int .i64 0), (8, .pointer (some ⟨b517, 0, none⟩)), (64, .int .i64 8195), (65, .pointer (some ⟨b517, 0, none⟩))] (by kernel_rfl) fun a hs => ?_
  refine s_load hs (hw.at_ 0 rfl) 0 (by kernel_rfl) (by kernel_rfl) (v := .int .i64 1) (by kernel_rfl) fun a hs => ?_
  refine pures hs 2 [2, 3, 6, 58, 59, 60, 8, 68] [(2, .pointer (some ⟨b341, 0, none⟩)), (3, .int .i64 8195), (6, .pointer (some ⟨b345, 0, none⟩)), (58, .slice (some ⟨b349, 0, none⟩) 15 15), (59, .int .i64 15), (60, .int .i64 0), (8, .pointer (some ⟨b517, 0, none⟩)), (68, .bool true)] (by kernel_rfl) fun a hs => ?_
  refine s_end ?_
  refine c_condT hs (by kernel_rfl) (by kernel_rfl) ?_
  refine c_region ?_
  refine pures hs 1 [2, 3, 6, 58, 59, 60, 69] [(2, .pointer (some ⟨b341, 0, none⟩)), (3, .int .i64 8195), (6, .pointer (some ⟨b345, 0, none⟩)), (58, .slice (some ⟨b349, 0, none⟩) 15 15), (59, .int .i64 15), (60, .int .i64 0), (69, .pointer (some ⟨b517, 1, none⟩))] (by kernel_rfl) fun a hs => ?_
  refine s_load hs (hw.at_ 0 rfl) 1 (by kernel_rfl) (by kernel_rfl) (v := .func (.func 68) #[] #[.pointer (some ⟨b339, 0, none⟩), .pointer (some ⟨b345, 0, none⟩)]) (by kernel_rfl) fun a hs => ?_
  obtain ⟨y521, h522, hk⟩ := bindE hk
  refine s_call hs (by kernel_rfl) (by kernel_rfl) (letter_bare_1_s h522 (RSl.nil _ _ _) (RSl.nil _ _ _) h4 (RSl.nil _ _ _) (RSl.nil _ _ _) (RSl.nil _ _ _) (RSl.nil _ _ _) (RSl.nil _ _ _) ((hw.pick [4, 2, 1, 3, 5] (by kernel_rfl)).pack 2)) fun a w v hv hs => ?_
  obtain ⟨rfl, hw⟩ := hv
  replace hw := hw.unpack 2 rfl
  refine s_end ?_
  refine c_region ?_
  refine pures hs 2 [2, 3, 6, 58, 59, 60] [(2, .pointer (some ⟨b341, 0, none⟩)), (3, .int .i64 8195), (6, .pointer (some ⟨b345, 0, none⟩)), (58, .slice (some ⟨b349, 0, none⟩) 15 15), (59, .int .i64 15), (60, .int .i64 1)] (by kernel_rfl) fun a hs => ?_
  refine s_end ?_
  refine c_unr ?_
  refine c_seq ?_
  refine c_region ?_
  refine pures hs 1 [2, 3, 6, 58, 59, 60, 61] [(2, .pointer (some ⟨b341, 0, none⟩)), (3, .int .i64 8195), (6, .pointer (some ⟨b345, 0, none⟩)), (58, .slice (some ⟨b349, 0, none⟩) 15 15), (59, .int .i64 15), (60, .int .i64 1), (61, .bool true)] (by kernel_rfl) fun a hs => ?_
  refine s_end ?_
  refine c_seq ?_
  refine c_condT hs (by kernel_rfl) (by kernel_rfl) ?_
  refine c_skip ?_
  refine c_seq ?_
  refine c_block ?_
  refine c_seq ?_
  refine c_region ?_
  refine pures hs 1 [2, 3, 6, 58, 59, 60, 62] [(2, .pointer (some ⟨b341, 0, none⟩)), (3, .int .i64 8195), (6, .pointer (some ⟨b345, 0, none⟩)), (58, .slice (some ⟨b349, 0, none⟩) 15 15), (59, .int .i64 15), (60, .int .i64 1), (62, .pointer (some ⟨b349, 2, none⟩))] (by kernel_rfl) fun a hs => ?_
  refine s_load hs (hw.at_ 2 rfl) 2 (by kernel_rfl) (by kernel_rfl) (v := .agg #[.int .i64 2, .func (.func 69) #[] #[.pointer (some ⟨b339, 0, none⟩), .pointer (some ⟨b345, 0, none⟩)]]) (by kernel_rfl) fun a hs => ?_
  refine s_new hs hw [.int .i64 0, .nilFunc] 111 (fun b => .pointer (some ⟨b, 0, none⟩)) (by kernel_rfl) (fun _ => by kernel_rfl) fun a w b533 hs hw => ?_
  refine s_store hs hw 0 rfl 0 (by kernel_rfl) (by kernel_rfl) (v := .agg #[.int .i64 2, .func (.func 69) #[] #[.pointer (some ⟨b339, 0, none⟩), .pointer (some ⟨b345, 0, none⟩)]]) (by kernel_rfl) (by kernel_rfl) (by kernel_rfl) (by kernel_rfl) fun a w hs hw => ?_
  refine s_end ?_
  refine c_seq ?_
  refine c_region ?_
  refine pures hs 2 [2, 3, 6, 58, 59, 60, 8, 64, 65] [(2, .pointer (some ⟨b341, 0, none⟩)), (3, .int .i64 8195), (6, .pointer (some ⟨b345, 0, none⟩)), (58, .slice (some ⟨b349, 0, none⟩) 15 15), (59, .int .i64 15), (60, .int .i64 1), (8, .pointer (some ⟨b533, 0, none⟩)), (64, .int .i64 8195), (65, .pointer (some ⟨b533, 0, none⟩))] (by kernel_rfl) fun a hs => ?_
  refine s_load hs (hw.at_ 0 rfl) 0 (by kernel_rfl) (by kernel_rfl) (v := .int .i64 2) (by kernel_rfl) fun a hs => ?_
  refine pures hs 2 [2, 3, 6, 58, 59, 60, 8, 68] [(2, .pointer (some ⟨b341, 0, none⟩)), (3, .int .i64 8195), (6, .pointer (some ⟨b345, 0, none⟩)), (58, .slice (some ⟨b349, 0, none⟩) 15 15), (59, .int .i64 15), (60, .int .i64 1), (8, .pointer (some ⟨b533, 0, none⟩)), (68, .bool true)] (by kernel_rfl) fun a hs => ?_
  refine s_end ?_
  refine c_condT hs (by kernel_rfl) (by kernel_rfl) ?_
  refine c_region ?_
  refine pures hs 1 [2, 3, 6, 58, 59, 60, 69] [(2, .pointer (some ⟨b341, 0, none⟩)), (3, .int .i64 8195), (6, .pointer (some ⟨b345, 0, none⟩)), (58, .slice (some ⟨b349, 0, none⟩) 15 15), (59, .int .i64 15), (60, .int .i64 1), (69, .pointer (some ⟨b533, 1, none⟩))] (by kernel_rfl) fun a hs => ?_
  refine s_load hs (hw.at_ 0 rfl) 1 (by kernel_rfl) (by kernel_rfl) (v := .func (.func 69) #[] #[.pointer (some ⟨b339, 0, none⟩), .pointer (some ⟨b345, 0, none⟩)]) (by kernel_rfl) fun a hs => ?_
  obtain ⟨y537, h538, hk⟩ := bindE hk
  refine s_call hs (by kernel_rfl) (by kernel_rfl) (letter_bare_2_s h538 (RSl.nil _ _ _) (RSl.nil _ _ _) h4 (RSl.nil _ _ _) (RSl.nil _ _ _) (RSl.nil _ _ _) (RSl.nil _ _ _) (RSl.nil _ _ _) ((hw.pick [1, 2, 3, 4, 5] (by kernel_rfl)).pack 2)) fun a w v hv hs => ?_
  obtain ⟨rfl, hw⟩ := hv
  replace hw := hw.unpack 2 rfl
  refine s_end ?_
  refine c_region ?_
  refine pures hs 2 [2, 3, 6, 58, 59, 60] [(2, .pointer (some ⟨b341, 0, none⟩)), (3, .int .i64 8195), (6, .pointer (some ⟨b345, 0, none⟩)), (58, .slice (some ⟨b349, 0, none⟩) 15 15), (59, .int .i64 15), (60, .int .i64 2)] (by kernel_rfl) fun a hs => ?_
  refine s_end ?_
  refine c_unr ?_
  refine c_seq ?_
  refine c_region ?_
  refine pures hs 1 [2, 3, 6, 58, 59, 60, 61] [(2, .pointer (some ⟨b341, 0, none⟩)), (3, .int .i64 8195), (6, .pointer (some ⟨b345, 0, none⟩)), (58, .slice (some ⟨b349, 0, none⟩) 15 15), (59, .int .i64 15), (60, .int .i64 2), (61, .bool true)] (by kernel_rfl) fun a hs => ?_
  refine s_end ?_
  refine c_seq ?_
  refine c_condT hs (by kernel_rfl) (by kernel_rfl) ?_
  refine c_skip ?_
  refine c_seq ?_
  refine c_block ?_
  refine c_seq ?_
  refine c_region ?_
  refine pures hs 1 [2, 3, 6, 58, 59, 60, 62] [(2, .pointer (some ⟨b341, 0, none⟩)), (3, .int .i64 8195), (6, .pointer (some ⟨b345, 0, none⟩)), (58, .slice (some ⟨b349, 0, none⟩) 15 15), (59, .int .i64 15), (60, .int .i64 2), (62, .pointer (some ⟨b349, 4, none⟩))] (by kernel_rfl) fun a hs => ?_
  refine s_load hs (hw.at_ 2 rfl) 4 (by kernel_rfl) (by kernel_rfl) (v := .agg #[.int .i64 4, .func (.func 70) #[] #[.pointer (some ⟨b339, 0, none⟩), .pointer (some ⟨b345, 0, none⟩)]]) (by kernel_rfl) fun a hs => ?_
  refine s_new hs hw [.int .i64 0, .nilFunc] 111 (fun b => .pointer (some ⟨b, 0, none⟩)) (by kernel_rfl) (fun _ => by kernel_rfl) fun a w b545 hs hw => ?_
  refine s_store hs hw 0 rfl 0 (by kernel_rfl) (by kernel_rfl) (v := .agg #[.int .i64 4, .func (.func 70) #[] #[.pointer (some ⟨b339, 0, none⟩), .pointer (some ⟨b345, 0, none⟩)]]) (by kernel_rfl) (by kernel_rfl) (by kernel_rfl) (by kernel_rfl) fun a w hs hw => ?_
  refine s_end ?_
  refine c_seq ?_
  refine c_region ?_
  refine pures hs 2 [2, 3, 6, 58, 59, 60, 8, 64, 65] [(2, .pointer (some ⟨b341, 0, none⟩)), (3, .int .i64 8195), (6, .pointer (some ⟨b345, 0, none⟩)), (58, .slice (some ⟨b349, 0, none⟩) 15 15), (59, .int .i64 15), (60, .int .i64 2), (8, .pointer (some ⟨b545, 0, none⟩)), (64, .int .i64 8195), (65, .pointer (some ⟨b545, 0, none⟩))] (by kernel_rfl) fun a hs => ?_
  refine s_load hs (hw.at_ 0 rfl) 0 (by kernel_rfl) (by kernel_rfl) (v := .int .i64 4) (by kernel_rfl) fun a hs => ?_
  refine pures hs 2 [2, 3, 6, 58, 59, 60, 8, 68] [(2, .pointer (some ⟨b341, 0, none⟩)), (3, .int .i64 8195), (6, .pointer (some ⟨b345, 0, none⟩)), (58, .slice (some ⟨b349, 0, none⟩) 15 15), (59, .int .i64 15), (60, .int .i64 2), (8, .pointer (some ⟨b545, 0, none⟩)), (68, .bool false)] (by kernel_rfl) fun a hs => ?_
  refine s_end ?_
  refine c_condF hs (by kernel_rfl) (by kernel_rfl) ?_
  refine c_skip ?_
  refine c_region ?_
  refine pures hs 2 [2, 3, 6, 58, 59, 60] [(2, .pointer (some ⟨b341, 0, none⟩)), (3, .int .i64 8195), (6, .pointer (some ⟨b345, 0, none⟩)), (58, .slice (some ⟨b349, 0, none⟩) 15 15), (59, .int .i64 15), (60, .int .i64 3)] (by kernel_rfl) fun a hs => ?_
  refine s_end ?_
  refine c_unr ?_
  refine c_seq ?_
  refine c_region ?_
  refine pures hs 1 [2, 3, 6, 58, 59, 60, 61] [(2, .pointer (some ⟨b341, 0, none⟩)), (3, .int .i64 8195), (6, .pointer (some ⟨b345, 0, none⟩)), (58, .slice (some ⟨b349, 0, none⟩) 15 15), (59, .int .i64 15), (60, .int .i64 3), (61, .bool true)] (by kernel_rfl) fun a hs => ?_
  refine s_end ?_
  refine c_seq ?_
  refine c_condT hs (by kernel_rfl) (by kernel_rfl) ?_
  refine c_skip ?_
  refine c_seq ?_
  refine c_block ?_
  refine c_seq ?_
  refine c_region ?_
  refine pures hs 1 [2, 3, 6, 58, 59, 60, 62] [(2, .pointer (some ⟨b341, 0, none⟩)), (3, .int .i64 8195), (6, .pointer (some ⟨b345, 0, none⟩)), (58, .slice (some ⟨b349, 0, none⟩) 15 15), (59, .int .i64 15), (60, .int .i64 3), (62, .pointer (some ⟨b349, 6, none⟩))] (by kernel_rfl) fun a hs => ?_
  refine s_load hs (hw.at_ 3 rfl) 6 (by kernel_rfl) (by kernel_rfl) (v := .agg #[.int .i64 8, .func (.func 71) #[] #[.pointer (some ⟨b339, 0, none⟩), .pointer (some ⟨b345, 0, none⟩)]]) (by kernel_rfl) fun a hs => ?_
  refine s_new hs hw [.int .i64 0, .nilFunc] 111 (fun b => .pointer (some ⟨b, 0, none⟩)) (by kernel_rfl) (fun _ => by kernel_rfl) fun a w b553 hs hw => ?_
  refine s_store hs hw 0 rfl 0 (by kernel_rfl) (by kernel_rfl) (v := .agg #[.int .i64 8, .func (.func 71) #[] #[.pointer (some ⟨b339, 0, none⟩), .pointer (some ⟨b345, 0, none⟩)]]) (by kernel_rfl) (by kernel_rfl) (by kernel_rfl) (by kernel_rfl) fun a w hs hw => ?_
  refine s_end ?_
  refine c_seq ?_
  refine c_region ?_
  refine pures hs 2 [2, 3, 6, 58, 59, 60, 8, 64, 65] [(2, .pointer (some ⟨b341, 0, none⟩)), (3, .int .i64 8195), (6, .pointer (some ⟨b345, 0, none⟩)), (58, .slice (some ⟨b349, 0, none⟩) 15 15), (59, .int .i64 15), (60, .int .i64 3), (8, .pointer (some ⟨b553, 0, none⟩)), (64, .int .i64 8195), (65, .pointer (some ⟨b553, 0, none⟩))] (by kernel_rfl) fun a hs => ?_
  refine s_load hs (hw.at_ 0 rfl) 0 (by kernel_rfl) (by kernel_rfl) (v := .int .i64 8) (by kernel_rfl) fun a hs => ?_
  refine pures hs 2 [2, 3, 6, 58, 59, 60, 8, 68] [(2, .pointer (some ⟨b341, 0, none⟩)), (3, .int .i64 8195), (6, .pointer (some ⟨b345, 0, none⟩)), (58, .slice (some ⟨b349, 0, none⟩) 15 15), (59, .int .i64 15), (60, .int .i64 3), (8, .pointer (some ⟨b553, 0, none⟩)), (68, .bool false)] (by kernel_rfl) fun a hs => ?_
  refine s_end ?_
  refine c_condF hs (by kernel_rfl) (by kernel_rfl) ?_
  refine c_skip ?_
  refine c_region ?_
  refine pures hs 2 [2, 3, 6, 58, 59, 60] [(2, .pointer (some ⟨b341, 0, none⟩)), (3, .int .i64 8195), (6, .pointer (some ⟨b345, 0, none⟩)), (58, .slice (some ⟨b349, 0, none⟩) 15 15), (59, .int .i64 15), (60, .int .i64 4)] (by kernel_rfl) fun a hs => ?_
  refine s_end ?_
  refine c_unr ?_
  refine c_seq ?_
  refine c_region ?_
  refine pures hs 1 [2, 3, 6, 58, 59, 60, 61] [(2, .pointer (some ⟨b341, 0, none⟩)), (3, .int .i64 8195), (6, .pointer (some ⟨b345, 0, none⟩)), (58, .slice (some ⟨b349, 0, none⟩) 15 15), (59, .int .i64 15), (60, .int .i64 4), (61, .bool true)] (by kernel_rfl) fun a hs => ?_
  refine s_end ?_
  refine c_seq ?_
  refine c_condT hs (by kernel_rfl) (by kernel_rfl) ?_
  refine c_skip ?_
  refine c_seq ?_
  refine c_block ?_
  refine c_seq ?_
  refine c_region ?_
  refine pures hs 1 [2, 3, 6, 58, 59, 60, 62] [(2, .pointer (some ⟨b341, 0, none⟩)), (3, .int .i64 8195), (6, .pointer (some ⟨b345, 0, none⟩)), (58, .slice (some ⟨b349, 0, none⟩) 15 15), (59, .int .i64 15), (60, .int .i64 4), (62, .pointer (some ⟨b349, 8, none⟩))] (by kernel_rfl) fun a hs => ?_
  refine s_load hs (hw.at_ 4 rfl) 8 (by kernel_rfl) (by kernel_rfl) (v := .agg #[.int .i64 16, .func (.func 72) #[] #[.pointer (some ⟨b339, 0, none⟩), .pointer (some ⟨b345, 0, none⟩)]]) (by kernel_rfl) fun a hs => ?_
  refine s_new hs hw [.int .i64 0, .nilFunc] 111 (fun b => .pointer (some ⟨b, 0, none⟩)) (by kernel_rfl) (fun _ => by kernel_rfl) fun a w b561 hs hw => ?_
  refine s_store hs hw 0 rfl 0 (by kernel_rfl) (by kernel_rfl) (v := .agg #[.int .i64 16, .func (.func 72) #[] #[.pointer (some ⟨b339, 0, none⟩), .pointer (some ⟨b345, 0, none⟩)]]) (by kernel_rfl) (by kernel_rfl) (by kernel_rfl) (by kernel_rfl) fun a w hs hw => ?_
  refine s_end ?_
  refine c_seq ?_
  refine c_region ?_
  refine pures hs 2 [2, 3, 6, 58, 59, 60, 8, 64, 65] [(2, .pointer (some ⟨b341, 0, none⟩)), (3, .int .i64 8195), (6, .pointer (some ⟨b345, 0, none⟩)), (58, .slice (some ⟨b349, 0, none⟩) 15 15), (59, .int .i64 15), (60, .int .i64 4), (8, .pointer (some ⟨b561, 0, none⟩)), (64, .int .i64 8195), (65, .pointer (some ⟨b561, 0, none⟩))] (by kernel_rfl) fun a hs => ?_
  refine s_load hs (hw.at_ 0 rfl) 0 (by kernel_rfl) (by kernel_rfl) (v := .int .i64 16) (by kernel_rfl) fun a hs => ?_
  refine pures hs 2 [2, 3, 6, 58, 59, 60, 8, 68] [(2, .pointer (some ⟨b341, 0, none⟩)), (3, .int .i64 8195), (6, .pointer (some ⟨b345, 0, none⟩)), (58, .slice (some ⟨b349, 0, none⟩) 15 15), (59, .int .i64 15), (60, .int .i64 4), (8, .pointer (some ⟨b561, 0, none⟩)), (68, .bool false)] (by kernel_rfl) fun a hs => ?_
  refine s_end ?_
  refine c_condF hs (by kernel_rfl) (by kernel_rfl) ?_
  refine c_skip ?_
  refine c_region ?_
  refine pures hs 2 [2, 3, 6, 58, 59, 60] [(2, .pointer (some ⟨b341, 0, none⟩)), (3, .int .i64 8195), (6, .pointer (some ⟨b345, 0, none⟩)), (58, .slice (some ⟨b349, 0, none⟩) 15 15), (59, .int .i64 15), (60, .int .i64 5)] (by kernel_rfl) fun a hs => ?_
  refine s_end ?_
  refine c_unr ?_
  refine c_seq ?_
  refine c_region ?_
  refine pures hs 1 [2, 3, 6, 58, 59, 60, 61] [(2, .pointer (some ⟨b341, 0, none⟩)), (3, .int .i64 8195), (6, .pointer (some ⟨b345, 0, none⟩)), (58, .slice (some ⟨b349, 0, none⟩) 15 15), (59, .int .i64 15), (60, .int .i64 5), (61, .bool true)] (by kernel_rfl) fun a hs => ?_
  refine s_end ?_
  refine c_seq ?_
  refine c_condT hs (by kernel_rfl) (by kernel_rfl) ?_
  refine c_skip ?_
  refine c_seq ?_
  refine c_block ?_
  refine c_seq ?_
  refine c_region ?_
  refine pures hs 1 [2, 3, 6, 58, 59, 60, 62] [(2, .pointer (some ⟨b341, 0, none⟩)), (3, .int .i64 8195), (6, .pointer (some ⟨b345, 0, none⟩)), (58, .slice (some ⟨b349, 0, none⟩) 15 15), (59, .int .i64 15), (60, .int .i64 5), (62, .pointer (some ⟨b349, 10, none⟩))] (by kernel_rfl) fun a hs => ?_
  refine s_load hs (hw.at_ 5 rfl) 10 (by kernel_rfl) (by kernel_rfl) (v := .agg #[.int .i64 32, .func (.func 73) #[] #[.pointer (some ⟨b339, 0, none⟩), .pointer (some ⟨b345, 0, none⟩)]]) (by kernel_rfl) fun a hs => ?_
  refine s_new hs hw [.int .i64 0, .nilFunc] 111 (fun b => .pointer (some ⟨b, 0, none⟩)) (by kernel_rfl) (fun _ => by kernel_rfl) fun a w b569 hs hw => ?_
  refine s_store hs hw 0 rfl 0 (by kernel_rfl) (by kernel_rfl) (v := .agg #[.int .i64 32, .func (.func 73) #[] #[.pointer (some ⟨b339, 0, none⟩), .pointer (some ⟨b345, 0, none⟩)]]) (by kernel_rfl) (by kernel_rfl) (by kernel_rfl) (by kernel_rfl) fun a w hs hw => ?_
  refine s_end ?_
  refine c_seq ?_
  refine c_region ?_
  refine pures hs 2 [2, 3, 6, 58, 59, 60, 8, 64, 65] [(2, .pointer (some ⟨b341, 0, none⟩)), (3, .int .i64 8195), (6, .pointer (some ⟨b345, 0, none⟩)), (58, .slice (some ⟨b349, 0, none⟩) 15 15), (59, .int .i64 15), (60, .int .i64 5), (8, .pointer (some ⟨b569, 0, none⟩)), (64, .int .i64 8195), (65, .pointer (some ⟨b569, 0, none⟩))] (by kernel_rfl) fun a hs => ?_
  refine s_load hs (hw.at_ 0 rfl) 0 (by kernel_rfl) (by kernel_rfl) (v := .int .i64 32) (by kernel_rfl) fun a hs => ?_
  refine pures hs 2 [2, 3, 6, 58, 59, 60, 8, 68] [(2, .pointer (some ⟨b341, 0, none⟩)), (3, .int .i64 8195), (6, .pointer (some ⟨b345, 0, none⟩)), (58, .slice (some ⟨b349, 0, none⟩) 15 15), (59, .int .i64 15), (60, .int .i64 5), (8, .pointer (some ⟨b569, 0, none⟩)), (68, .bool false)] (by kernel_rfl) fun a hs => ?_
  refine s_end ?_
  refine c_condF hs (by kernel_rfl) (by kernel_rfl) ?_
  refine c_skip ?_
  refine c_region ?_
  refine pures hs 2 [2, 3, 6, 58, 59, 60] [(2, .pointer (some ⟨b341, 0, none⟩)), (3, .int .i64 8195), (6, .pointer (some ⟨b345, 0, none⟩)), (58, .slice (some ⟨b349, 0, none⟩) 15 15), (59, .int .i64 15), (60, .int .i64 6)] (by kernel_rfl) fun a hs => ?_
  refine s_end ?_
  refine c_unr ?_
  refine c_seq ?_
  refine c_region ?_
  refine pures hs 1 [2, 3, 6, 58, 59, 60, 61] [(2, .pointer (some ⟨b341, 0, none⟩)), (3, .int .i64 8195), (6, .pointer (some ⟨b345, 0, none⟩)), (58, .slice (some ⟨b349, 0, none⟩) 15 15), (59, .int .i64 15), (60, .int .i64 6), (61, .bool true)] (by kernel_rfl) fun a hs => ?_
  refine s_end ?_
  refine c_seq ?_
  refine c_condT hs (by kernel_rfl) (by kernel_rfl) ?_
  refine c_skip ?_
  refine c_seq ?_
  refine c_block ?_
  refine c_seq ?_
  refine c_region ?_
  refine pures hs 1 [2, 3, 6, 58, 59, 60, 62] [(2, .pointer (some ⟨b341, 0, none⟩)), (3, .int .i64 8195), (6, .pointer (some ⟨b345, 0, none⟩)), (58, .slice (some ⟨b349, 0, none⟩) 15 15), (59, .int .i64 15), (60, .int .i64 6), (62, .pointer (some ⟨b349, 12, none⟩))] (by kernel_rfl) fun a hs => ?_
  refine s_load hs (hw.at_ 6 rfl) 12 (by kernel_rfl) (by kernel_rfl) (v := .agg #[.int .i64 64, .func (.func 74) #[] #[.pointer (some ⟨b339, 0, none⟩), .pointer (some ⟨b345, 0, none⟩)]]) (by kernel_rfl) fun a hs => ?_
  refine s_new hs hw [.int .i64 0, .nilFunc] 111 (fun b => .pointer (some ⟨b, 0, none⟩)) (by kernel_rfl) (fun _ => by kernel_rfl) fun a w b577 hs hw => ?_
  refine s_store hs hw 0 rfl 0 (by kernel_rfl) (by kernel_rfl) (v := .agg #[.int .i64 64, .func (.func 74) #[] #[.pointer (some ⟨b339, 0, none⟩), .pointer (some ⟨b345, 0, none⟩)]]) (by kernel_rfl) (by kernel_rfl) (by kernel_rfl) (by kernel_rfl) fun a w hs hw => ?_
  refine s_end ?_
  refine c_seq ?_
  refine c_region ?_
  refine pures hs 2 [2, 3, 6, 58, 59, 60, 8, 64, 65] [(2, .pointer (some ⟨b341, 0, none⟩)), (3, .int .i64 8195), (6, .pointer (some ⟨b345, 0, none⟩)), (58, .slice (some ⟨b349, 0, none⟩) 15 15), (59, .int .i64 15), (60, .int .i64 6), (8, .pointer (some ⟨b577, 0, none⟩)), (64, .int .i64 8195), (65, .pointer (some ⟨b577, 0, none⟩))] (by kernel_rfl) fun a hs => ?_
  refine s_load hs (hw.at_ 0 rfl) 0 (by kernel_rfl) (by kernel_rfl) (v := .int .i64 64) (by kernel_rfl) fun a hs => ?_
  refine pures hs 2 [2, 3, 6, 58, 59, 60, 8, 68] [(2, .pointer (some ⟨b341, 0, none⟩)), (3, .int .i64 8195), (6, .pointer (some ⟨b345, 0, none⟩)), (58, .slice (some ⟨b349, 0, none⟩) 15 15), (59, .int .i64 15), (60, .int .i64 6), (8, .pointer (some ⟨b577, 0, none⟩)), (68, .bool false)] (by kernel_rfl) fun a hs => ?_
  refine s_end ?_
  refine c_condF hs (by kernel_rfl) (by kernel_rfl) ?_
  refine c_skip ?_
  refine c_region ?_
  refine pures hs 2 [2, 3, 6, 58, 59, 60] [(2, .pointer (some ⟨b341, 0, none⟩)), (3, .int .i64 8195), (6, .pointer (some ⟨b345, 0, none⟩)), (58, .slice (some ⟨b349, 0, none⟩) 15 15), (59, .int .i64 15), (60, .int .i64 7)] (by kernel_rfl) fun a hs => ?_
  refine s_end ?_
  refine c_unr ?_
  refine c_seq ?_
  refine c_region ?_
  refine pures hs 1 [2, 3, 6, 58, 59, 60, 61] [(2, .pointer (some ⟨b341, 0, none⟩)), (3, .int .i64 8195), (6, .pointer (some ⟨b345, 0, none⟩)), (58, .slice (some ⟨b349, 0, none⟩) 15 15), (59, .int .i64 15), (60, .int .i64 7), (61, .bool true)] (by kernel_rfl) fun a hs => ?_
  refine s_end ?_
  refine c_seq ?_
  refine c_condT hs (by kernel_rfl) (by kernel_rfl) ?_
  refine c_skip ?_
  refine c_seq ?_
  refine c_block ?_
  refine c_seq ?_
  refine c_region ?_
  refine pures hs 1 [2, 3, 6, 58, 59, 60, 62] [(2, .pointer (some ⟨b341, 0, none⟩)), (3, .int .i64 8195), (6, .pointer (some ⟨b345, 0, none⟩)), (58, .slice (some ⟨b349, 0, none⟩) 15 15), (59, .int .i64 15), (60, .int .i64 7), (62, .pointer (some ⟨b349, 14, none⟩))] (by kernel_rfl) fun a hs => ?_
  refine s_load hs (hw.at_ 7 rfl) 14 (by kernel_rfl) (by kernel_rfl) (v := .agg #[.int .i64 128, .func (.func 75) #[] #[.pointer (some ⟨b339, 0, none⟩), .pointer (some ⟨b345, 0, none⟩)]]) (by kernel_rfl) fun a hs => ?_
  refine s_new hs hw [.int .i64 0, .nilFunc] 111 (fun b => .pointer (some ⟨b, 0, none⟩)) (by kernel_rfl) (fun _ => by kernel_rfl) fun a w b585 hs hw => ?_
  refine s_store hs hw 0 rfl 0 (by kernel_rfl) (by kernel_rfl) (v := .agg #[.int .i64 128, .func (.func 75) #[] #[.pointer (some ⟨b339, 0, none⟩), .pointer (some ⟨b345, 0, none⟩)]]) (by kernel_rfl) (by kernel_rfl) (by kernel_rfl) (by kernel_rfl) fun a w hs hw => ?_
  refine s_end ?_
  refine c_seq ?_
  refine c_region ?_
  refine pures hs 2 [2, 3, 6, 58, 59, 60, 8, 64, 65] [(2, .pointer (some ⟨b341, 0, none⟩)), (3, .int .i64 8195), (6, .pointer (some ⟨b345, 0, none⟩)), (58, .slice (some ⟨b349, 0, none⟩) 15 15), (59, .int .i64 15), (60, .int .i64 7), (8, .pointer (some ⟨b585, 0, none⟩)), (64, .int .i64 8195), (65, .pointer (some ⟨b585, 0, none⟩))] (by kernel_rfl) fun a hs => ?_
  refine s_load hs (hw.at_ 0 rfl) 0 (by kernel_rfl) (by kernel_rfl) (v := .int .i64 128) (by kernel_rfl) fun a hs => ?_
  refine pures hs 2 [2, 3, 6, 58, 59, 60, 8, 68] [(2, .pointer (some ⟨b341, 0, none⟩)), (3, .int .i64 8195), (6, .pointer (some ⟨b345, 0, none⟩)), (58, .slice (some ⟨b349, 0, none⟩) 15 15), (59, .int .i64 15), (60, .int .i64 7), (8, .pointer (some ⟨b585, 0, none⟩)), (68, .bool false)] (by kernel_rfl) fun a hs => ?_
  refine s_end ?_
  refine c_condF hs (by kernel_rfl) (by kernel_rfl) ?_
  refine c_skip ?_
  refine c_region ?_
  refine pures hs 2 [2, 3, 6, 58, 59, 60] [(2, .pointer (some ⟨b341, 0, none⟩)), (3, .int .i64 8195), (6, .pointer (some ⟨b345, 0, none⟩)), (58, .slice (some ⟨b349, 0, none⟩) 15 15), (59, .int .i64 15), (60, .int .i64 8)] (by kernel_rfl) fun a hs => ?_
  refine s_end ?_
  refine c_unr ?_
  refine c_seq ?_
  refine c_region ?_
  refine pures hs 1 [2, 3, 6, 58, 59, 60, 61] [(2, .pointer (some ⟨b341, 0, none⟩)), (3, .int .i64 8195), (6, .pointer (some ⟨b345, 0, none⟩)), (58, .slice (some ⟨b349, 0, none⟩) 15 15), (59, .int .i64 15), (60, .int .i64 8), (61, .bool true)] (by kernel_rfl) fun a hs => ?_
  refine s_end ?_
  refine c_seq ?_
  refine c_condT hs (by kernel_rfl) (by kernel_rfl) ?_
  refine c_skip ?_
  refine c_seq ?_
  refine c_block ?_
  refine c_seq ?_
  refine c_region ?_
  refine pures hs 1 [2, 3, 6, 58, 59, 60, 62] [(2, .pointer (some ⟨b341, 0, none⟩)), (3, .int .i64 8195), (6, .pointer (some ⟨b345, 0, none⟩)), (58, .slice (some ⟨b349, 0, none⟩) 15 15), (59, .int .i64 15), (60, .int .i64 8), (62, .pointer (some ⟨b349, 16, none⟩))] (by kernel_rfl) fun a hs => ?_
  refine s_load hs (hw.at_ 8 rfl) 16 (by kernel_rfl) (by kernel_rfl) (v := .agg #[.int .i64 256, .func (.func 76) #[] #[.pointer (some ⟨b339, 0, none⟩), .pointer (some ⟨b345, 0, none⟩)]]) (by kernel_rfl) fun a hs => ?_
  refine s_new hs hw [.int .i64 0, .nilFunc] 111 (fun b => .pointer (some ⟨b, 0, none⟩)) (by kernel_rfl) (fun _ => by kernel_rfl) fun a w b593 hs hw => ?_
  refine s_store hs hw 0 rfl 0 (by kernel_rfl) (by kernel_rfl) (v := .agg #[.int .i64 256, .func (.func 76) #[] #[.pointer (some ⟨b339, 0, none⟩), .pointer (some ⟨b345, 0, none⟩)]]) (by kernel_rfl) (by kernel_rfl) (by kernel_rfl) (by kernel_rfl) fun a w hs hw => ?_
  refine s_end ?_
  refine c_seq ?_
  refine c_region ?_
  refine pures hs 2 [2, 3, 6, 58, 59, 60, 8, 64, 65] [(2, .pointer (some ⟨b341, 0, none⟩)), (3, .int .i64 8195), (6, .pointer (some ⟨b345, 0, none⟩)), (58, .slice (some ⟨b349, 0, none⟩) 15 15), (59, .int .i64 15), (60, .int .i64 8), (8, .pointer (some ⟨b593, 0, none⟩)), (64, .int .i64 8195), (65, .pointer (some ⟨b593, 0, none⟩))] (by kernel_rfl) fun a hs => ?_
  refine s_load hs (hw.at_ 0 rfl) 0 (by kernel_rfl) (by kernel_rfl) (v := .int .i64 256) (by kernel_rfl) fun a hs => ?_
  refine pures hs 2 [2, 3, 6, 58, 59, 60, 8, 68] [(2, .pointer (some ⟨b341, 0, none⟩)), (3, .int .i64 8195), (6, .pointer (some ⟨b345, 0, none⟩)), (58, .slice (some ⟨b349, 0, none⟩) 15 15), (59, .int .i64 15), (60, .int .i64 8), (8, .pointer (some ⟨b593, 0, none⟩)), (68, .bool false)] (by kernel_rfl) fun a hs => ?_
  refine s_end ?_
  refine c_condF hs (by kernel_rfl) (by kernel_rfl) ?_
  refine c_skip ?_
  refine c_region ?_
  refine pures hs 2 [2, 3, 6, 58, 59, 60] [(2, .pointer (some ⟨b341, 0, none⟩)), (3, .int .i64 8195), (6, .pointer (some ⟨b345, 0, none⟩)), (58, .slice (some ⟨b349, 0, none⟩) 15 15), (59, .int .i64 15), (60, .int .i64 9)] (by kernel_rfl) fun a hs => ?_
  refine s_end ?_
  refine c_unr ?_
  refine c_seq ?_
  refine c_region ?_
  refine pures hs 1 [2, 3, 6, 58, 59, 60, 61] [(2, .pointer (some ⟨b341, 0, none⟩)), (3, .int .i64 8195), (6, .pointer (some ⟨b345, 0, none⟩)), (58, .slice (some ⟨b349, 0, none⟩) 15 15), (59, .int .i64 15), (60, .int .i64 9), (61, .bool true)] (by kernel_rfl) fun a hs => ?_
  refine s_end ?_
  refine c_seq ?_
  refine c_condT hs (by kernel_rfl) (by kernel_rfl) ?_
  refine c_skip ?_
  refine c_seq ?_
  refine c_block ?_
  refine c_seq ?_
  refine c_region ?_
  refine pures hs 1 [2, 3, 6, 58, 59, 60, 62] [(2, .pointer (some ⟨b341, 0, none⟩)), (3, .int .i64 8195), (6, .pointer (some ⟨b345, 0, none⟩)), (58, .slice (some ⟨b349, 0, none⟩) 15 15), (59, .int .i64 15), (60, .int .i64 9), (62, .pointer (some ⟨b349, 18, none⟩))] (by kernel_rfl) fun a hs => ?_
  refine s_load hs (hw.at_ 9 rfl) 18 (by kernel_rfl) (by kernel_rfl) (v := .agg #[.int .i64 512, .func (.func 77) #[] #[.pointer (some ⟨b339, 0, none⟩), .pointer (some ⟨b345, 0, none⟩)]]) (by kernel_rfl) fun a hs => ?_
  refine s_new hs hw [.int .i64 0, .nilFunc] 111 (fun b => .pointer (some ⟨b, 0, none⟩)) (by kernel_rfl) (fun _ => by kernel_rfl) fun a w b601 hs hw => ?_
  refine s_store hs hw 0 rfl 0 (by kernel_rfl) (by kernel_rfl) (v := .agg #[.int .i64 512, .func (.func 77) #[] #[.pointer (some ⟨b339, 0, none⟩), .pointer (some ⟨b345, 0, none⟩)]]) (by kernel_rfl) (by kernel_rfl) (by kernel_rfl) (by kernel_rfl) fun a w hs hw => ?_
  refine s_end ?_
  refine c_seq ?_
  refine c_region ?_
  refine pures hs 2 [2, 3, 6, 58, 59, 60, 8, 64, 65] [(2, .pointer (some ⟨b341, 0, none⟩)), (3, .int .i64 8195), (6, .pointer (some ⟨b345, 0, none⟩)), (58, .slice (some ⟨b349, 0, none⟩) 15 15), (59, .int .i64 15), (60, .int .i64 9), (8, .pointer (some ⟨b601, 0, none⟩)), (64, .int .i64 8195), (65, .pointer (some ⟨b601, 0, none⟩))] (by kernel_rfl) fun a hs => ?_
  refine s_load hs (hw.at_ 0 rfl) 0 (by kernel_rfl) (by kernel_rfl) (v := .int .i64 512) (by kernel_rfl) fun a hs => ?_
  refine pures hs 2 [2, 3, 6, 58, 59, 60, 8, 68] [(2, .pointer (some ⟨b341, 0, none⟩)), (3, .int .i64 8195), (6, .pointer (some ⟨b345, 0, none⟩)), (58, .slice (some ⟨b349, 0, none⟩) 15 15), (59, .int .i64 15), (60, .int .i64 9), (8, .pointer (some ⟨b601, 0, none⟩)), (68, .bool false)] (by kernel_rfl) fun a hs => ?_
  refine s_end ?_
  refine c_condF hs (by kernel_rfl) (by kernel_rfl) ?_
  refine c_skip ?_
  refine c_region ?_
  refine pures hs 2 [2, 3, 6, 58, 59, 60] [(2, .pointer (some ⟨b341, 0, none⟩)), (3, .int .i64 8195), (6, .pointer (some ⟨b345, 0, none⟩)), (58, .slice (some ⟨b349, 0, none⟩) 15 15), (59, .int .i64 15), (60, .int .i64 10)] (by kernel_rfl) fun a hs => ?_
  refine s_end ?_
  refine c_unr ?_
  refine c_seq ?_
  refine c_region ?_
  refine pures hs 1 [2, 3, 6, 58, 59, 60, 61] [(2, .pointer (some ⟨b341, 0, none⟩)), (3, .int .i64 8195), (6, .pointer (some ⟨b345, 0, none⟩)), (58, .slice (some ⟨b349, 0, none⟩) 15 15), (59, .int .i64 15), (60, .int .i64 10), (61, .bool true)] (by kernel_rfl) fun a hs => ?_
  refine s_end ?_
  refine c_seq ?_
  refine c_condT hs (by kernel_rfl) (by kernel_rfl) ?_
  refine c_skip ?_
  refine c_seq ?_
  refine c_block ?_
  refine c_seq ?_
  refine c_region ?_
  refine pures hs 1 [2, 3, 6, 58, 59, 60, 62] [(2, .pointer (some ⟨b341, 0, none⟩)), (3, .int .i64 8195), (6, .pointer (some ⟨b345, 0, none⟩)), (58, .slice (some ⟨b349, 0, none⟩) 15 15), (59, .int .i64 15), (60, .int .i64 10), (62, .pointer (some ⟨b349, 20, none⟩))] (by kernel_rfl) fun a hs => ?_
  refine s_load hs (hw.at_ 10 rfl) 20 (by kernel_rfl) (by kernel_rfl) (v := .agg #[.int .i64 1024, .func (.func 78) #[] #[.pointer (some ⟨b339, 0, none⟩), .pointer (some ⟨b345, 0, none⟩)]]) (by kernel_rfl) fun a hs => ?_
  refine s_new hs hw [.int .i64 0, .nilFunc] 111 (fun b => .pointer (some ⟨b, 0, none⟩)) (by kernel_rfl) (fun _ => by kernel_rfl) fun a w b609 hs hw => ?_
  refine s_store hs hw 0 rfl 0 (by kernel_rfl) (by kernel_rfl) (v := .agg #[.int .i64 1024, .func (.func 78) #[] #[.pointer (some ⟨b339, 0, none⟩), .pointer (some ⟨b345, 0, none⟩)]]) (by kernel_rfl) (by kernel_rfl) (by kernel_rfl) (by kernel_rfl) fun a w hs hw => ?_
  refine s_end ?_
  refine c_seq ?_
  refine c_region ?_
  refine pures hs 2 [2, 3, 6, 58, 59, 60, 8, 64, 65] [(2, .pointer (some ⟨b341, 0, none⟩)), (3, .int .i64 8195), (6, .pointer (some ⟨b345, 0, none⟩)), (58, .slice (some ⟨b349, 0, none⟩) 15 15), (59, .int .i64 15), (60, .int .i64 10), (8, .pointer (some ⟨b609, 0, none⟩)), (64, .int .i64 8195), (65, .pointer (some ⟨b609, 0, none⟩))] (by kernel_rfl) fun a hs => ?_
  refine s_load hs (hw.at_ 0 rfl) 0 (by kernel_rfl) (by kernel_rfl) (v := .int .i64 1024) (by kernel_rfl) fun a hs => ?_
  refine pures hs 2 [2, 3, 6, 58, 59, 60, 8, 68] [(2, .pointer (some ⟨b341, 0, none⟩)), (3, .int .i64 8195), (6, .pointer (some ⟨b345, 0, none⟩)), (58, .slice (some ⟨b349, 0, none⟩) 15 15), (59, .int .i64 15), (60, .int .i64 10), (8, .pointer (some ⟨b609, 0, none⟩)), (68, .bool false)] (by kernel_rfl) fun a hs => ?_
  refine s_end ?_
  refine c_condF hs (by kernel_rfl) (by kernel_rfl) ?_
  refine c_skip ?_
  refine c_region ?_
  refine pures hs 2 [2, 3, 6, 58, 59, 60] [(2, .pointer (some ⟨b341, 0, none⟩)), (3, .int .i64 8195), (6, .pointer (some ⟨b345, 0, none⟩)), (58, .slice (some ⟨b349, 0, none⟩) 15 15), (59, .int .i64 15), (60, .int .i64 11)] (by kernel_rfl) fun a hs => ?_
  refine s_end ?_
  refine c_unr ?_
  refine c_seq ?_
  refine c_region ?_
  refine pures hs 1 [2, 3, 6, 58, 59, 60, 61] [(2, .pointer (some ⟨b341, 0, none⟩)), (3, .int .i64 8195), (6, .pointer (some ⟨b345, 0, none⟩)), (58, .slice (some ⟨b349, 0, none⟩) 15 15), (59, .int .i64 15), (60, .int .i64 11), (61, .bool true)] (by kernel_rfl) fun a hs => ?_
  refine s_end ?_
  refine c_seq ?_
  refine c_condT hs (by kernel_rfl) (by kernel_rfl) ?_
  refine c_skip ?_
  refine c_seq ?_
  refine c_block ?_
  refine c_seq ?_
  refine c_region ?_
  refine pures hs 1 [2, 3, 6, 58, 59, 60, 62] [(2, .pointer (some ⟨b341, 0, none⟩)), (3, .int .i64 8195), (6, .pointer (some ⟨b345, 0, none⟩)), (58, .slice (some ⟨b349, 0, none⟩) 15 15), (59, .int .i64 15), (60, .int .i64 11), (62, .pointer (some ⟨b349, 22, none⟩))] (by kernel_rfl) fun a hs => ?_
  refine s_load hs (hw.at_ 11 rfl) 22 (by kernel_rfl) (by kernel_rfl) (v := .agg #[.int .i64 2048, .func (.func 79) #[] #[.pointer (some ⟨b339, 0, none⟩), .pointer (some ⟨b345, 0, none⟩)]]) (by kernel_rfl) fun a hs => ?_
  refine s_new hs hw [.int .i64 0, .nilFunc] 111 (fun b => .pointer (some ⟨b, 0, none⟩)) (by kernel_rfl) (fun _ => by kernel_rfl) fun a w b617 hs hw => ?_
  refine s_store hs hw 0 rfl 0 (by kernel_rfl) (by kernel_rfl) (v := .agg #[.int .i64 2048, .func (.func 79) #[] #[.pointer (some ⟨b339, 0, none⟩), .pointer (some ⟨b345, 0, none⟩)]]) (by kernel_rfl) (by kernel_rfl) (by kernel_rfl) (by kernel_rfl) fun a w hs hw => ?_
  refine s_end ?_
  refine c_seq ?_
  refine c_region ?_
  refine pures hs 2 [2, 3, 6, 58, 59, 60, 8, 64, 65] [(2, .pointer (some ⟨b341, 0, none⟩)), (3, .int .i64 8195), (6, .pointer (some ⟨b345, 0, none⟩)), (58, .slice (some ⟨b349, 0, none⟩) 15 15), (59, .int .i64 15), (60, .int .i64 11), (8, .pointer (some ⟨b617, 0, none⟩)), (64, .int .i64 8195), (65, .pointer (some ⟨b617, 0, none⟩))] (by kernel_rfl) fun a hs => ?_
  refine s_load hs (hw.at_ 0 rfl) 0 (by kernel_rfl) (by kernel_rfl) (v := .int .i64 2048) (by kernel_rfl) fun a hs => ?_
  refine pures hs 2 [2, 3, 6, 58, 59, 60, 8, 68] [(2, .pointer (some ⟨b341, 0, none⟩)), (3, .int .i64 8195), (6, .pointer (some ⟨b345, 0, none⟩)), (58, .slice (some ⟨b349, 0, none⟩) 15 15), (59, .int .i64 15), (60, .int .i64 11), (8, .pointer (some ⟨b617, 0, none⟩)), (68, .bool false)] (by kernel_rfl) fun a hs => ?_
  refine s_end ?_
  refine c_condF hs (by kernel_rfl) (by kernel_rfl) ?_
  refine c_skip ?_
  refine c_region ?_
  refine pures hs 2 [2, 3, 6, 58, 59, 60] [(2, .pointer (some ⟨b341, 0, none⟩)), (3, .int .i64 8195), (6, .pointer (some ⟨b345, 0, none⟩)), (58, .slice (some ⟨b349, 0, none⟩) 15 15), (59, .int .i64 15), (60, .int .i64 12)] (by kernel_rfl) fun a hs => ?_
  refine s_end ?_
  refine c_unr ?_
  refine c_seq ?_
  refine c_region ?_
  refine pures hs 1 [2, 3, 6, 58, 59, 60, 61] [(2, .pointer (some ⟨b341, 0, none⟩)), (3, .int .i64 8195), (6, .pointer (some ⟨b345, 0, none⟩)), (58, .slice (some ⟨b349, 0, none⟩) 15 15), (59, .int .i64 15), (60, .int .i64 12), (61, .bool true)] (by kernel_rfl) fun a hs => ?_
  refine s_end ?_
  refine c_seq ?_
  refine c_condT hs (by kernel_rfl) (by kernel_rfl) ?_
  refine c_skip ?_
  refine c_seq ?_
  refine c_block ?_
  refine c_seq ?_
  refine c_region ?_
  refine pures hs 1 [2, 3, 6, 58, 59, 60, 62] [(2, .pointer (some ⟨b341, 0, none⟩)), (3, .int .i64 8195), (6, .pointer (some ⟨b345, 0, none⟩)), (58, .slice (some ⟨b349, 0, none⟩) 15 15), (59, .int .i64 15), (60, .int .i64 12), (62, .pointer (some ⟨b349, 24, none⟩))] (by kernel_rfl) fun a hs => ?_
  refine s_load hs (hw.at_ 12 rfl) 24 (by kernel_rfl) (by kernel_rfl) (v := .agg #[.int .i64 4096, .func (.func 80) #[] #[.pointer (some ⟨b339, 0, none⟩), .pointer (some ⟨b345, 0, none⟩)]]) (by kernel_rfl) fun a hs => ?_
  refine s_new hs hw [.int .i64 0, .nilFunc] 111 (fun b => .pointer (some ⟨b, 0, none⟩)) (by kernel_rfl) (fun _ => by kernel_rfl) fun a w b625 hs hw => ?_
  refine s_store hs hw 0 rfl 0 (by kernel_rfl) (by kernel_rfl) (v := .agg #[.int .i64 4096, .func (.func 80) #[] #[.pointer (some ⟨b339, 0, none⟩), .pointer (some ⟨b345, 0, none⟩)]]) (by kernel_rfl) (by kernel_rfl) (by kernel_rfl) (by kernel_rfl) fun a w hs hw => ?_
  refine s_end ?_
  refine c_seq ?_
  refine c_region ?_
  refine pures hs 2 [2, 3, 6, 58, 59, 60, 8, 64, 65] [(2, .pointer (some ⟨b341, 0, none⟩)), (3, .int .i64 8195), (6, .pointer (some ⟨b345, 0, none⟩)), (58, .slice (some ⟨b349, 0, none⟩) 15 15), (59, .int .i64 15), (60, .int .i64 12), (8, .pointer (some ⟨b625, 0, none⟩)), (64, .int .i64 8195), (65, .pointer (some ⟨b625, 0, none⟩))] (by kernel_rfl) fun a hs => ?_
  refine s_load hs (hw.at_ 0 rfl) 0 (by kernel_rfl) (by kernel_rfl) (v := .int .i64 4096) (by kernel_rfl) fun a hs => ?_
  refine pures hs 2 [2, 3, 6, 58, 59, 60, 8, 68] [(2, .pointer (some ⟨b341, 0, none⟩)), (3, .int .i64 8195), (6, .pointer (some ⟨b345, 0, none⟩)), (58, .slice (some ⟨b349, 0, none⟩) 15 15), (59, .int .i64 15), (60, .int .i64 12), (8, .pointer (some ⟨b625, 0, none⟩)), (68, .bool false)] (by kernel_rfl) fun a hs => ?_
  refine s_end ?_
  refine c_condF hs (by kernel_rfl) (by kernel_rfl) ?_
  refine c_skip ?_
  refine c_region ?_
  refine pures hs 2 [2, 3, 6, 58, 59, 60] [(2, .pointer (some ⟨b341, 0, none⟩)), (3, .int .i64 8195), (6, .pointer (some ⟨b345, 0, none⟩)), (58, .slice (some ⟨b349, 0, none⟩) 15 15), (59, .int .i64 15), (60, .int .i64 13)] (by kernel_rfl) fun a hs => ?_
  refine s_end ?_
  refine c_unr ?_
  refine c_seq ?_
  refine c_region ?_
  refine pures hs 1 [2, 3, 6, 58, 59, 60, 61] [(2, .pointer (some ⟨b341, 0, none⟩)), (3, .int .i64 8195), (6, .pointer (some ⟨b345, 0, none⟩)), (58, .slice (some ⟨b349, 0, none⟩) 15 15), (59, .int .i64 15), (60, .int .i64 13), (61, .bool true)] (by kernel_rfl) fun a hs => ?_
  refine s_end ?_
  refine c_seq ?_
  refine c_condT hs (by kernel_rfl) (by kernel_rfl) ?_
  refine c_skip ?_
  refine c_seq ?_
  refine c_block ?_
  refine c_seq ?_
  refine c_region ?_
  refine pures hs 1 [2, 3, 6, 58, 59, 60, 62] [(2, .pointer (some ⟨b341, 0, none⟩)), (3, .int .i64 8195), (6, .pointer (some ⟨b345, 0, none⟩)), (58, .slice (some ⟨b349, 0, none⟩) 15 15), (59, .int .i64 15), (60, .int .i64 13), (62, .pointer (some ⟨b349, 26, none⟩))] (by kernel_rfl) fun a hs => ?_
  refine s_load hs (hw.at_ 13 rfl) 26 (by kernel_rfl) (by kernel_rfl) (v := .agg #[.int .i64 8192, .func (.func 81) #[] #[.pointer (some ⟨b339, 0, none⟩), .pointer (some ⟨b345, 0, none⟩)]]) (by kernel_rfl) fun a hs => ?_
  refine s_new hs hw [.int .i64 0, .nilFunc] 111 (fun b => .pointer (some ⟨b, 0, none⟩)) (by kernel_rfl) (fun _ => by kernel_rfl) fun a w b643 hs hw => ?_
  refine s_store hs hw 0 rfl 0 (by kernel_rfl) (by kernel_rfl) (v := .agg #[.int .i64 8192, .func (.func 81) #[] #[.pointer (some ⟨b339, 0, none⟩), .pointer (some ⟨b345, 0, none⟩)]]) (by kernel_rfl) (by kernel_rfl) (by kernel_rfl) (by kernel_rfl) fun a w hs hw => ?_
  refine s_end ?_
  refine c_seq ?_
  refine c_region ?_
  refine pures hs 2 [2, 3, 6, 58, 59, 60, 8, 64, 65] [(2, .pointer (some ⟨b341, 0, none⟩)), (3, .int .i64 8195), (6, .pointer (some ⟨b345, 0, none⟩)), (58, .slice (some ⟨b349, 0, none⟩) 15 15), (59, .int .i64 15), (60, .int .i64 13), (8, .pointer (some ⟨b643, 0, none⟩)), (64, .int .i64 8195), (65, .pointer (some ⟨b643, 0, none⟩))] (by kernel_rfl) fun a hs => ?_
  refine s_load hs (hw.at_ 0 rfl) 0 (by kernel_rfl) (by kernel_rfl) (v := .int .i64 8192) (by kernel_rfl) fun a hs => ?_
  refine pures hs 2 [2, 3, 6, 58, 59, 60, 8, 68] [(2, .pointer (some ⟨b341, 0, none⟩)), (3, .int .i64 8195), (6, .pointer (some ⟨b345, 0, none⟩)), (58, .slice (some ⟨b349, 0, none⟩) 15 15), (59, .int .i64 15), (60, .int .i64 13), (8, .pointer (some ⟨b643, 0, none⟩)), (68, .bool true)] (by kernel_rfl) fun a hs => ?_
  refine s_end ?_
  refine c_condT hs (by kernel_rfl) (by kernel_rfl) ?_
  refine c_region ?_
  refine pures hs 1 [2, 3, 6, 58, 59, 60, 69] [(2, .pointer (some ⟨b341, 0, none⟩)), (3, .int .i64 8195), (6, .pointer (some ⟨b345, 0, none⟩)), (58, .slice (some ⟨b349, 0, none⟩) 15 15), (59, .int .i64 15), (60, .int .i64 13), (69, .pointer (some ⟨b643, 1, none⟩))] (by kernel_rfl) fun a hs => ?_
  refine s_load hs (hw.at_ 0 rfl) 1 (by kernel_rfl) (by kernel_rfl) (v := .func (.func 81) #[] #[.pointer (some ⟨b339, 0, none⟩), .pointer (some ⟨b345, 0, none⟩)]) (by kernel_rfl) fun a hs => ?_
  obtain ⟨y650, h651, hk⟩ := bindE hk
  refine s_call hs (by kernel_rfl) (by kernel_rfl) (letter_bare_14_s h651 (RSl.nil _ _ _) (RSl.nil _ _ _) h4 (RSl.nil _ _ _) (RSl.nil _ _ _) (RSl.nil _ _ _) (RSl.nil _ _ _) (RSl.nil _ _ _) ((hw.pick [12, 13, 14, 15, 16] (by kernel_rfl)).pack 2)) fun a w v hv hs => ?_
  obtain ⟨p652, c653, rfl, hw, h654⟩ := hv
  replace hw := hw.unpack 2 rfl
  refine s_end ?_
  refine c_region ?_
  refine pures hs 2 [2, 3, 6, 58, 59, 60] [(2, .pointer (some ⟨b341, 0, none⟩)), (3, .int .i64 8195), (6, .pointer (some ⟨b345, 0, none⟩)), (58, .slice (some ⟨b349, 0, none⟩) 15 15), (59, .int .i64 15), (60, .int .i64 14)] (by kernel_rfl) fun a hs => ?_
  refine s_end ?_
  refine c_unr ?_
  refine c_seq ?_
  refine c_region ?_
  refine pures hs 1 [2, 3, 6, 58, 59, 60, 61] [(2, .pointer (some ⟨b341, 0, none⟩)), (3, .int .i64 8195), (6, .pointer (some ⟨b345, 0, none⟩)), (58, .slice (some ⟨b349, 0, none⟩) 15 15), (59, .int .i64 15), (60, .int .i64 14), (61, .bool true)] (by kernel_rfl) fun a hs => ?_
  refine s_end ?_
  refine c_seq ?_
  refine c_condT hs (by kernel_rfl) (by kernel_rfl) ?_
  refine c_skip ?_
  refine c_seq ?_
  refine c_block ?_
  refine c_seq ?_
  refine c_region ?_
  refine pures hs 1 [2, 3, 6, 58, 59, 60, 62] [(2, .pointer (some ⟨b341, 0, none⟩)), (3, .int .i64 8195), (6, .pointer (some ⟨b345, 0, none⟩)), (58, .slice (some ⟨b349, 0, none⟩) 15 15), (59, .int .i64 15), (60, .int .i64 14), (62, .pointer (some ⟨b349, 28, none⟩))] (by kernel_rfl) fun a hs => ?_
  refine s_load hs (hw.at_ 2 rfl) 28 (by kernel_rfl) (by kernel_rfl) (v := .agg #[.int .i64 16384, .func (.func 82) #[] #[.pointer (some ⟨b339, 0, none⟩), .pointer (some ⟨b345, 0, none⟩)]]) (by kernel_rfl) fun a hs => ?_
  refine s_new hs hw [.int .i64 0, .nilFunc] 111 (fun b => .pointer (some ⟨b, 0, none⟩)) (by kernel_rfl) (fun _ => by kernel_rfl) fun a w b661 hs hw => ?_
  refine s_store hs hw 0 rfl 0 (by kernel_rfl) (by kernel_rfl) (v := .agg #[.int .i64 16384, .func (.func 82) #[] #[.pointer (some ⟨b339, 0, none⟩), .pointer (some ⟨b345, 0, none⟩)]]) (by kernel_rfl) (by kernel_rfl) (by kernel_rfl) (by kernel_rfl) fun a w hs hw => ?_
  refine s_end ?_
  refine c_seq ?_
  refine c_region ?_
  refine pures hs 2 [2, 3, 6, 58, 59, 60, 8, 64, 65] [(2, .pointer (some ⟨b341, 0, none⟩)), (3, .int .i64 8195), (6, .pointer (some ⟨b345, 0, none⟩)), (58, .slice (some ⟨b349, 0, none⟩) 15 15), (59, .int .i64 15), (60, .int .i64 14), (8, .pointer (some ⟨b661, 0, none⟩)), (64, .int .i64 8195), (65, .pointer (some ⟨b661, 0, none⟩))] (by kernel_rfl) fun a hs => ?_
  refine s_load hs (hw.at_ 0 rfl) 0 (by kernel_rfl) (by kernel_rfl) (v := .int .i64 16384) (by kernel_rfl) fun a hs => ?_
  refine pures hs 2 [2, 3, 6, 58, 59, 60, 8, 68] [(2, .pointer (some ⟨b341, 0, none⟩)), (3, .int .i64 8195), (6, .pointer (some ⟨b345, 0, none⟩)), (58, .slice (some ⟨b349, 0, none⟩) 15 15), (59, .int .i64 15), (60, .int .i64 14), (8, .pointer (some ⟨b661, 0, none⟩)), (68, .bool false)] (by kernel_rfl) fun a hs => ?_
  refine s_end ?_
  refine c_condF hs (by kernel_rfl) (by kernel_rfl) ?_
  refine c_skip ?_
  refine c_region ?_
  refine pures hs 2 [2, 3, 6, 58, 59, 60] [(2, .pointer (some ⟨b341, 0, none⟩)), (3, .int .i64 8195), (6, .pointer (some ⟨b345, 0, none⟩)), (58, .slice (some ⟨b349, 0, none⟩) 15 15), (59, .int .i64 15), (60, .int .i64 15)] (by kernel_rfl) fun a hs => ?_
  refine s_end ?_
  refine c_unr ?_
  refine c_seq ?_
  refine c_region ?_
  refine pures hs 1 [2, 3, 6, 58, 59, 60, 61] [(2, .pointer (some ⟨b341, 0, none⟩)), (3, .int .i64 8195), (6, .pointer (some ⟨b345, 0, none⟩)), (58, .slice (some ⟨b349, 0, none⟩) 15 15), (59, .int .i64 15), (60, .int .i64 15), (61, .bool false)] (by kernel_rfl) fun a hs => ?_
  refine s_end ?_
  refine c_seq ?_
  refine c_condF hs (by kernel_rfl) (by kernel_rfl) ?_
  refine c_exit ?_
  refine c_seq ?_
  refine c_region ?_
  refine s_load hs (hw.at_ 2 rfl) 0 (by kernel_rfl) (by kernel_rfl) (v := .agg #[.int .i64 17, .int .i64 1, .int .i64 1, .int .i64 y521, .int .u64 y537, .int .u64 0, .int .u64 0, .int .u64 0, .int .u64 0, .int .u64 0, .int .i64 0, .int .u32 0, .int .i64 0, .int .i64 0, .int .i64 0, .int .u64 0, .int .i64 0, .int .i64 0, .int .u64 0, .slice none 0 0, .bool false, .int .i64 0, .slice none 0 0, .slice p652 y650.length c653, .slice none 0 0]) (by kernel_rfl) fun a hs => ?_
  refine s_store hs hw 4 rfl 0 (by kernel_rfl) (by kernel_rfl) (v := .agg #[.int .i64 17, .int .i64 1, .int .i64 1, .int .i64 y521, .int .u64 y537, .int .u64 0, .int .u64 0, .int .u64 0, .int .u64 0, .int .u64 0, .int .i64 0, .int .u32 0, .int .i64 0, .int .i64 0, .int .i64 0, .int .u64 0, .int .i64 0, .int .i64 0, .int .u64 0, .slice none 0 0, .bool false, .int .i64 0, .slice none 0 0, .slice p652 y650.length c653, .slice none 0 0]) (by kernel_rfl) (by kernel_rfl) (by kernel_rfl) (by kernel_rfl) fun a w hs hw => ?_
  refine s_end ?_
  refine c_ret ?_
  obtain rfl := someE hk
  refine hQ _ _ (f_retC hs rfl (hw.at_ 4 rfl) (by kernel_rfl) (v := .agg #[.int .i64 17, .int .i64 1, .int .i64 1, .int .i64 y521, .int .u64 y537, .int .u64 0, .int .u64 0, .int .u64 0, .int .u64 0, .int .u64 0, .int .i64 0, .int .u32 0, .int .i64 0, .int .i64 0, .int .i64 0, .int .u64 0, .int .i64 0, .int .i64 0, .int .u64 0, .slice none 0 0, .bool false, .int .i64 0, .slice none 0 0, .slice p652 y650.length c653, .slice none 0 0]) (by kernel_rfl) ⟨p652, c653, rfl, hw.pick [5] (by kernel_rfl), h654⟩)
def letter_Same_2_r2 (x117 : Bool) : Option Bool :=
  some x117
def letter_Same_2 (k : Nat) (x1 : List M26) (x5 : Int) (x6 : Int) (x7 : List M26) : Option Bool :=
  if ((0 != x5) || false) = true then some false
  else if ((1 != x6) || false) = true then some false
  else if ((!((0 == 0) && ((0 == 0) && ((0 == 0) && ((0 == 0) && true))))) || false) = true then some false
  else ((slices_EqualFunc_api_Update_api_Update_api_Update_api_Update k x1 x7).bind fun y123 =>
    if y123 = true then (
      (bytes_Equal_2).bind fun y126 =>
      some y126)
    else some false : Option Bool).bind fun s128 => letter_Same_2_r2 s128
theorem letter_Same_2_s {k : Nat} {x1 : List M26} {x5 : Int} {x6 : Int} {x7 : List M26} {p2 : Option Addr} {c3 : Nat} {p8 : Option Addr} {c9 : Nat} {r : Bool} (hk : letter_Same_2 k x1 x5 x6 x7 = some r) {g w : World} {F : Ch} {ih : IH} (h4 : RSl e26 ih [] p2 c3 x1) (h10 : RSl e26 ih [] p8 c9 x7) (hw : St g w [F] ih) :
    CallsR Tryz.prog 57 #[.agg #[.int .i64 17, .int .i64 1, .int .i64 1, .int .i64 0, .int .u64 1, .int .u64 0, .int .u64 0, .int .u64 0, .int .u64 0, .int .u64 0, .int .i64 0, .int .u32 0, .int .i64 0, .int .i64 0, .int .i64 0, .int .u64 0, .int .i64 0, .int .i64 0, .int .u64 0, .slice none 0 0, .bool false, .int .i64 0, .slice none 0 0, .slice p2 x1.length c3, .slice none 0 0], .agg #[.int .i64 17, .int .i64 1, .int .i64 1, .int .i64 x5, .int .u64 x6, .int .u64 0, .int .u64 0, .int .u64 0, .int .u64 0, .int .u64 0, .int .i64 0, .int .u32 0, .int .i64 0, .int .i64 0, .int .i64 0, .int .u64 0, .int .i64 0, .int .i64 0, .int .u64 0, .slice none 0 0, .bool false, .int .i64 0, .slice none 0 0, .slice p8 x7.length c9, .slice none 0 0]] w fun v w' => v = .bool r ∧ St g w' [F] ih := by
  refine f_in (vs := [.agg #[.int .i64 17, .int .i64 1, .int .i64 1, .int .i64 0, .int .u64 1, .int .u64 0, .int .u64 0, .int .u64 0, .int .u64 0, .int .u64 0, .int .i64 0, .int .u32 0, .int .i64 0, .int .i64 0, .int .i64 0, .int .u64 0, .int .i64 0, .int .i64 0, .int .u64 0, .slice none 0 0, .bool false, .int .i64 0, .slice none 0 0, .slice p2 x1.length c3, .slice none 0 0], .agg #[.int .i64 17, .int .i64 1, .int .i64 1, .int .i64 x5, .int .u64 x6, .int .u64 0, .int .u64 0, .int .u64 0, .int .u64 0, .int .u64 0, .int .i64 0, .int .u32 0, .int .i64 0, .int .i64 0, .int .i64 0, .int .u64 0, .int .i64 0, .int .i64 0, .int .u64 0, .slice none 0 0, .bool false, .int .i64 0, .slice none 0 0, .slice p8 x7.length c9, .slice none 0 0]]) Tryz.func57 rfl 127 rfl (by kernel_rfl) [(0, .agg #[.int .i64 17, .int .i64 1, .int .i64 1, .int .i64 0, .int .u64 1, .int .u64 0, .int .u64 0, .int .u64 0, .int .u64 0, .int .u64 0, .int .i64 0, .int .u32 0, .int .i64 0, .int .i64 0, .int .i64 0, .int .u64 0, .int .i64 0, .int .i64 0, .int .u64 0, .slice none 0 0, .bool false, .int .i64 0, .slice none 0 0, .slice p2 x1.length c3, .slice none 0 0]), (1, .agg #[.int .i64 17, .int .i64 1, .int .i64 1, .int .i64 x5, .int .u64 x6, .int .u64 0, .int .u64 0, .int .u64 0, .int .u64 0, .int .u64 0, .int .i64 0, .int .u32 0, .int .i64 0, .int .i64 0, .int .i64 0, .int .u64 0, .int .i64 0, .int .i64 0, .int .u64 0, .slice none 0 0, .bool false, .int .i64 0, .slice none 0 0, .slice p8 x7.length c9, .slice none 0 0])] (by kernel_rfl) fun a Qf hQ hQn hs => ?_
  refine c_seq ?_
  refine c_region ?_
  refine s_new hs hw [.int .i64 17, .int .i64 1, .int .i64 1, .int .i64 0, .int .u64 1, .int .u64 0, .int .u64 0, .int .u64 0, .int .u64 0, .int .u64 0, .int .i64 0, .int .u32 0, .int .i64 0, .int .i64 0, .int .i64 0, .int .u64 0, .int .i64 0, .int .i64 0, .int .u64 0, .slice none 0 0, .bool false, .int .i64 0, .slice none 0 0, .slice p2 x1.length c3, .slice none 0 0] 90 (fun b => .pointer (some ⟨b, 0, none⟩)) (by kernel_rfl) (fun _ => by kernel_rfl) fun a w b75 hs hw => ?_
  refine s_new hs hw [.int .i64 17, .int .i64 1, .int .i64 1, .int .i64 x5, .int .u64 x6, .int .u64 0, .int .u64 0, .int .u64 0, .int .u64 0, .int .u64 0, .int .i64 0, .int .u32 0, .int .i64 0, .int .i64 0, .int .i64 0, .int .u64 0, .int .i64 0, .int .i64 0, .int .u64 0, .slice none 0 0, .bool false, .int .i64 0, .slice none 0 0, .slice p8 x7.length c9, .slice none 0 0] 90 (fun b => .pointer (some ⟨b, 0, none⟩)) (by kernel_rfl) (fun _ => by kernel_rfl) fun a w b77 hs hw => ?_
  refine pures hs 1 [2, 3] [(2, .pointer (some ⟨b75, 0, none⟩)), (3, .pointer (some ⟨b77, 0, none⟩))] (by kernel_rfl) fun a hs => ?_
  refine s_end ?_
  refine c_seq ?_
  refine c_block ?_
  refine c_seq ?_
  obtain ⟨J82, hJ82⟩ : ∃ J : Act → World → Prop, ∀ a w, J a w ↔ (Sees a 127 [(2, .pointer (some ⟨b75, 0, none⟩)), (3, .pointer (some ⟨b77, 0, none⟩)), (5, .bool ((0 != x5) || false))] ∧ St g w [bx b77 [.int .i64 17, .int .i64 1, .int .i64 1, .int .i64 x5, .int .u64 x6, .int .u64 0, .int .u64 0, .int .u64 0, .int .u64 0, .int .u64 0, .int .i64 0, .int .u32 0, .int .i64 0, .int .i64 0, .int .i64 0, .int .u64 0, .int .i64 0, .int .i64 0, .int .u64 0, .slice none 0 0, .bool false, .int .i64 0, .slice none 0 0, .slice p8 x7.length c9, .slice none 0 0] 90, bx b75 [.int .i64 17, .int .i64 1, .int .i64 1, .int .i64 0, .int .u64 1, .int .u64 0, .int .u64 0, .int .u64 0, .int .u64 0, .int .u64 0, .int .i64 0, .int .u32 0, .int .i64 0, .int .i64 0, .int .i64 0, .int .u64 0, .int .i64 0, .int .i64 0, .int .u64 0, .slice none 0 0, .bool false, .int .i64 0, .slice none 0 0, .slice p2 x1.length c3, .slice none 0 0] 90, F] ih) := ⟨_, fun _ _ => Iff.rfl⟩
  refine c_regJ J82 ?_ ?_
  · refine pures hs 1 [2, 3, 6] [(2, .pointer (some ⟨b75, 0, none⟩)), (3, .pointer (some ⟨b77, 0, none⟩)), (6, .pointer (some ⟨b75, 0, none⟩))] (by kernel_rfl) fun a hs => ?_
    refine s_load hs (hw.at_ 1 rfl) 0 (by kernel_rfl) (by kernel_rfl) (v := .int .i64 17) (by kernel_rfl) fun a hs => ?_
    refine pures hs 1 [2, 3, 7, 8] [(2, .pointer (some ⟨b75, 0, none⟩)), (3, .pointer (some ⟨b77, 0, none⟩)), (7, .int .i64 17), (8, .pointer (some ⟨b77, 0, none⟩))] (by kernel_rfl) fun a hs => ?_
    refine s_load hs (hw.at_ 0 rfl) 0 (by kernel_rfl) (by kernel_rfl) (v := .int .i64 17) (by kernel_rfl) fun a hs => ?_
    refine pures hs 3 [2, 3, 11, 12] [(2, .pointer (some ⟨b75, 0, none⟩)), (3, .pointer (some ⟨b77, 0, none⟩)), (11, .bool false), (12, .pointer (some ⟨b75, 1, none⟩))] (by kernel_rfl) fun a hs => ?_
    refine s_load hs (hw.at_ 1 rfl) 1 (by kernel_rfl) (by kernel_rfl) (v := .int .i64 1) (by kernel_rfl) fun a hs => ?_
    refine pures hs 1 [2, 3, 11, 13, 14] [(2, .pointer (some ⟨b75, 0, none⟩)), (3, .pointer (some ⟨b77, 0, none⟩)), (11, .bool false), (13, .int .i64 1), (14, .pointer (some ⟨b77, 1, none⟩))] (by kernel_rfl) fun a hs => ?_
    refine s_load hs (hw.at_ 0 rfl) 1 (by kernel_rfl) (by kernel_rfl) (v := .int .i64 1) (by kernel_rfl) fun a hs => ?_
    refine pures hs 4 [2, 3, 18, 19] [(2, .pointer (some ⟨b75, 0, none⟩)), (3, .pointer (some ⟨b77, 0, none⟩)), (18, .bool false), (19, .pointer (some ⟨b75, 2, none⟩))] (by kernel_rfl) fun a hs => ?_
    refine s_load hs (hw.at_ 1 rfl) 2 (by kernel_rfl) (by kernel_rfl) (v := .int .i64 1) (by kernel_rfl) fun a hs => ?_
    refine pures hs 1 [2, 3, 18, 20, 21] [(2, .pointer (some ⟨b75, 0, none⟩)), (3, .pointer (some ⟨b77, 0, none⟩)), (18, .bool false), (20, .int .i64 1), (21, .pointer (some ⟨b77, 2, none⟩))] (by kernel_rfl) fun a hs => ?_
    refine s_load hs (hw.at_ 0 rfl) 2 (by kernel_rfl) (by kernel_rfl) (v := .int .i64 1) (by kernel_rfl) fun a hs => ?_
    refine pures hs 4 [2, 3, 25, 26] [(2, .pointer (some ⟨b75, 0, none⟩)), (3, .pointer (some ⟨b77, 0, none⟩)), (25, .bool false), (26, .pointer (some ⟨b75, 3, none⟩))] (by kernel_rfl) fun a hs => ?_
    refine s_load hs (hw.at_ 1 rfl) 3 (by kernel_rfl) (by kernel_rfl) (v := .int .i64 0) (by kernel_rfl) fun a hs => ?_
    refine pures hs 1 [2, 3, 25, 27, 28] [(2, .pointer (some ⟨b75, 0, none⟩)), (3, .pointer (some ⟨b77, 0, none⟩)), (25, .bool false), (27, .int .i64 0), (28, .pointer (some ⟨b77, 3, none⟩))] (by kernel_rfl) fun a hs => ?_
    refine s_load hs (hw.at_ 0 rfl) 3 (by kernel_rfl) (by kernel_rfl) (v := .int .i64 x5) (by kernel_rfl) fun a hs => ?_
    refine pures hs 3 [2, 3, 32] [(2, .pointer (some ⟨b75, 0, none⟩)), (3, .pointer (some ⟨b77, 0, none⟩)), (32, .bool (0 != x5))] (by kernel_rfl) fun a hs => ?_
    rcases boolE (0 != x5) with h83 | h83
    · replace hs := hs.altB 32 true (by kernel_rfl) h83
      refine pures hs 21 [2, 3, 5] [(2, .pointer (some ⟨b75, 0, none⟩)), (3, .pointer (some ⟨b77, 0, none⟩)), (5, .bool true)] (by kernel_rfl) fun a hs => ?_
      refine s_end ?_
      exact (hJ82 _ _).2 ⟨(hs.altB 5 ((0 != x5) || false) (by kernel_rfl) (by rw [h83] <;> rfl)).cast [2, 3, 5] (by kernel_rfl), hw.pick [0, 1, 2] (by kernel_rfl)⟩
    replace hs := hs.altB 32 false (by kernel_rfl) h83
    refine pures hs 1 [2, 3, 32, 33] [(2, .pointer (some ⟨b75, 0, none⟩)), (3, .pointer (some ⟨b77, 0, none⟩)), (32, .bool false), (33, .pointer (some ⟨b75, 10, none⟩))] (by kernel_rfl) fun a hs => ?_
    refine s_load hs (hw.at_ 1 rfl) 10 (by kernel_rfl) (by kernel_rfl) (v := .int .i64 0) (by kernel_rfl) fun a hs => ?_
    refine pures hs 1 [2, 3, 32, 34, 35] [(2, .pointer (some ⟨b75, 0, none⟩)), (3, .pointer (some ⟨b77, 0, none⟩)), (32, .bool false), (34, .int .i64 0), (35, .pointer (some ⟨b77, 10, none⟩))] (by kernel_rfl) fun a hs => ?_
    refine s_load hs (hw.at_ 0 rfl) 10 (by kernel_rfl) (by kernel_rfl) (v := .int .i64 0) (by kernel_rfl) fun a hs => ?_
    refine pures hs 4 [2, 3, 39, 40] [(2, .pointer (some ⟨b75, 0, none⟩)), (3, .pointer (some ⟨b77, 0, none⟩)), (39, .bool false), (40, .pointer (some ⟨b75, 11, none⟩))] (by kernel_rfl) fun a hs => ?_
    refine s_load hs (hw.at_ 1 rfl) 11 (by kernel_rfl) (by kernel_rfl) (v := .int .u32 0) (by kernel_rfl) fun a hs => ?_
    refine pures hs 1 [2, 3, 39, 41, 42] [(2, .pointer (some ⟨b75, 0, none⟩)), (3, .pointer (some ⟨b77, 0, none⟩)), (39, .bool false), (41, .int .u32 0), (42, .pointer (some ⟨b77, 11, none⟩))] (by kernel_rfl) fun a hs => ?_
    refine s_load hs (hw.at_ 0 rfl) 11 (by kernel_rfl) (by kernel_rfl) (v := .int .u32 0) (by kernel_rfl) fun a hs => ?_
    refine pures hs 4 [2, 3, 46, 47] [(2, .pointer (some ⟨b75, 0, none⟩)), (3, .pointer (some ⟨b77, 0, none⟩)), (46, .bool false), (47, .pointer (some ⟨b75, 12, none⟩))] (by kernel_rfl) fun a hs => ?_
    refine s_load hs (hw.at_ 1 rfl) 12 (by kernel_rfl) (by kernel_rfl) (v := .int .i64 0) (by kernel_rfl) fun a hs => ?_
    refine pures hs 1 [2, 3, 46, 48, 49] [(2, .pointer (some ⟨b75, 0, none⟩)), (3, .pointer (some ⟨b77, 0, none⟩)), (46, .bool false), (48, .int .i64 0), (49, .pointer (some ⟨b77, 12, none⟩))] (by kernel_rfl) fun a hs => ?_
    refine s_load hs (hw.at_ 0 rfl) 12 (by kernel_rfl) (by kernel_rfl) (v := .int .i64 0) (by kernel_rfl) fun a hs => ?_
    refine pures hs 3 [2, 3, 5] [(2, .pointer (some ⟨b75, 0, none⟩)), (3, .pointer (some ⟨b77, 0, none⟩)), (5, .bool false)] (by kernel_rfl) fun a hs => ?_
    refine s_end ?_
    exact (hJ82 _ _).2 ⟨(hs.altB 5 ((0 != x5) || false) (by kernel_rfl) (by rw [h83] <;> rfl)).cast [2, 3, 5] (by kernel_rfl), hw.pick [0, 1, 2] (by kernel_rfl)⟩
  intro a w hh
  obtain ⟨hs, hw⟩ := (hJ82 _ _).1 hh
  rcases ifbE hk with ⟨h84, hk⟩ | ⟨h84, hk⟩
  · refine c_cond1 hs (by kernel_rfl) (t := ((0 != x5) || false)) (by kernel_rfl) h84 ?_
    refine c_seq ?_
    refine c_region ?_
    refine pures hs 1 [4] [(4, .bool false)] (by kernel_rfl) fun a hs => ?_
    refine s_end ?_
    refine c_ret ?_
    obtain rfl := someE hk
    refine hQ _ _ (f_ret1 hs rfl (v := .bool false) (by kernel_rfl) ⟨rfl, hw.pick [2] (by kernel_rfl)⟩)
  refine c_cond0 hs (by kernel_rfl) (t := ((0 != x5) || false)) (by kernel_rfl) h84 ?_
  refine c_seq ?_
  obtain ⟨J88, hJ88⟩ : ∃ J : Act → World → Prop, ∀ a w, J a w ↔ (Sees a 127 [(2, .pointer (some ⟨b75, 0, none⟩)), (3, .pointer (some ⟨b77, 0, none⟩)), (53, .bool ((1 != x6) || false))] ∧ St g w [bx b77 [.int .i64 17, .int .i64 1, .int .i64 1, .int .i64 x5, .int .u64 x6, .int .u64 0, .int .u64 0, .int .u64 0, .int .u64 0, .int .u64 0, .int .i64 0, .int .u32 0, .int .i64 0, .int .i64 0, .int .i64 0, .int .u64 0, .int .i64 0, .int .i64 0, .int .u64 0, .slice none 0 0, .bool false, .int .i64 0, .slice none 0 0, .slice p8 x7.length c9, .slice none 0 0] 90, bx b75 [.int .i64 17, .int .i64 1, .int .i64 1, .int .i64 0, .int .u64 1, .int .u64 0, .int .u64 0, .int .u64 0, .int .u64 0, .int .u64 0, .int .i64 0, .int .u32 0, .int .i64 0, .int .i64 0, .int .i64 0, .int .u64 0, .int .i64 0, .int .i64 0, .int .u64 0, .slice none 0 0, .bool false, .int .i64 0, .slice none 0 0, .slice p2 x1.length c3, .slice none 0 0] 90, F] ih) := ⟨_, fun _ _ => Iff.rfl⟩
  refine c_regJ J88 ?_ ?_
  · refine pures hs 1 [2, 3, 54] [(2, .pointer (some ⟨b75, 0, none⟩)), (3, .pointer (some ⟨b77, 0, none⟩)), (54, .pointer (some ⟨b75, 4, none⟩))] (by kernel_rfl) fun a hs => ?_
    refine s_load hs (hw.at_ 1 rfl) 4 (by kernel_rfl) (by kernel_rfl) (v := .int .u64 1) (by kernel_rfl) fun a hs => ?_
    refine pures hs 1 [2, 3, 55, 56] [(2, .pointer (some ⟨b75, 0, none⟩)), (3, .pointer (some ⟨b77, 0, none⟩)), (55, .int .u64 1), (56, .pointer (some ⟨b77, 4, none⟩))] (by kernel_rfl) fun a hs => ?_
    refine s_load hs (hw.at_ 0 rfl) 4 (by kernel_rfl) (by kernel_rfl) (v := .int .u64 x6) (by kernel_rfl) fun a hs => ?_
    refine pures hs 2 [2, 3, 59] [(2, .pointer (some ⟨b75, 0, none⟩)), (3, .pointer (some ⟨b77, 0, none⟩)), (59, .bool (1 != x6))] (by kernel_rfl) fun a hs => ?_
    rcases boolE (1 != x6) with h89 | h89
    · replace hs := hs.altB 59 true (by kernel_rfl) h89
      refine pures hs 35 [2, 3, 53] [(2, .pointer (some ⟨b75, 0, none⟩)), (3, .pointer (some ⟨b77, 0, none⟩)), (53, .bool true)] (by kernel_rfl) fun a hs => ?_
      refine s_end ?_
      exact (hJ88 _ _).2 ⟨(hs.altB 53 ((1 != x6) || false) (by kernel_rfl) (by rw [h89] <;> rfl)).cast [2, 3, 53] (by kernel_rfl), hw.pick [0, 1, 2] (by kernel_rfl)⟩
    replace hs := hs.altB 59 false (by kernel_rfl) h89
    refine pures hs 1 [2, 3, 59, 60] [(2, .pointer (some ⟨b75, 0, none⟩)), (3, .pointer (some ⟨b77, 0, none⟩)), (59, .bool false), (60, .pointer (some ⟨b75, 5, none⟩))] (by kernel_rfl) fun a hs => ?_
    refine s_load hs (hw.at_ 1 rfl) 5 (by kernel_rfl) (by kernel_rfl) (v := .int .u64 0) (by kernel_rfl) fun a hs => ?_
    refine pures hs 1 [2, 3, 59, 61, 62] [(2, .pointer (some ⟨b75, 0, none⟩)), (3, .pointer (some ⟨b77, 0, none⟩)), (59, .bool false), (61, .int .u64 0), (62, .pointer (some ⟨b77, 5, none⟩))] (by kernel_rfl) fun a hs => ?_
    refine s_load hs (hw.at_ 0 rfl) 5 (by kernel_rfl) (by kernel_rfl) (v := .int .u64 0) (by kernel_rfl) fun a hs => ?_
    refine pures hs 4 [2, 3, 66, 67] [(2, .pointer (some ⟨b75, 0, none⟩)), (3, .pointer (some ⟨b77, 0, none⟩)), (66, .bool false), (67, .pointer (some ⟨b75, 6, none⟩))] (by kernel_rfl) fun a hs => ?_
    refine s_load hs (hw.at_ 1 rfl) 6 (by kernel_rfl) (by kernel_rfl) (v := .int .u64 0) (by kernel_rfl) fun a hs => ?_
    refine pures hs 1 [2, 3, 66, 68, 69] [(2, .pointer (some ⟨b75, 0, none⟩)), (3, .pointer (some ⟨b77, 0, none⟩)), (66, .bool false), (68, .int .u64 0), (69, .pointer (some ⟨b77, 6, none⟩))] (by kernel_rfl) fun a hs => ?_
    refine s_load hs (hw.at_ 0 rfl) 6 (by kernel_rfl) (by kernel_rfl) (v := .int .u64 0) (by kernel_rfl) fun a hs => ?_
    refine pures hs 4 [2, 3, 73, 74] [(2, .pointer (some ⟨b75, 0, none⟩)), (3, .pointer (some ⟨b77, 0, none⟩)), (73, .bool false), (74, .pointer (some ⟨b75, 7, none⟩))] (by kernel_rfl) fun a hs => ?_
    refine s_load hs (hw.at_ 1 rfl) 7 (by kernel_rfl) (by kernel_rfl) (v := .int .u64 0) (by kernel_rfl) fun a hs => ?_
    refine pures hs 1 [2, 3, 73, 75, 76] [(2, .pointer (some ⟨b75, 0, none⟩)), (3, .pointer (some ⟨b77, 0, none⟩)), (73, .bool false), (75, .int .u64 0), (76, .pointer (some ⟨b77, 7, none⟩))] (by kernel_rfl) fun a hs => ?_
    refine s_load hs (hw.at_ 0 rfl) 7 (by kernel_rfl) (by kernel_rfl) (v := .int .u64 0) (by kernel_rfl) fun a hs => ?_
    refine pures hs 4 [2, 3, 80, 81] [(2, .pointer (some ⟨b75, 0, none⟩)), (3, .pointer (some ⟨b77, 0, none⟩)), (80, .bool false), (81, .pointer (some ⟨b75, 8, none⟩))] (by kernel_rfl) fun a hs => ?_
    refine s_load hs (hw.at_ 1 rfl) 8 (by kernel_rfl) (by kernel_rfl) (v := .int .u64 0) (by kernel_rfl) fun a hs => ?_
    refine pures hs 1 [2, 3, 80, 82, 83] [(2, .pointer (some ⟨b75, 0, none⟩)), (3, .pointer (some ⟨b77, 0, none⟩)), (80, .bool false), (82, .int .u64 0), (83, .pointer (some ⟨b77, 8, none⟩))] (by kernel_rfl) fun a hs => ?_
    refine s_load hs (hw.at_ 0 rfl) 8 (by kernel_rfl) (by kernel_rfl) (v := .int .u64 0) (by kernel_rfl) fun a hs => ?_
    refine pures hs 4 [2, 3, 87, 88] [(2, .pointer (some ⟨b75, 0, none⟩)), (3, .pointer (some ⟨b77, 0, none⟩)), (87, .bool false), (88, .pointer (some ⟨b75, 9, none⟩))] (by kernel_rfl) fun a hs => ?_
    refine s_load hs (hw.at_ 1 rfl) 9 (by kernel_rfl) (by kernel_rfl) (v := .int .u64 0) (by kernel_rfl) fun a hs => ?_
    refine pures hs 1 [2, 3, 87, 89, 90] [(2, .pointer (some ⟨b75, 0, none⟩)), (3, .pointer (some ⟨b77, 0, none⟩)), (87, .bool false), (89, .int .u64 0), (90, .pointer (some ⟨b77, 9, none⟩))] (by kernel_rfl) fun a hs => ?_
    refine s_load hs (hw.at_ 0 rfl) 9 (by kernel_rfl) (by kernel_rfl) (v := .int .u64 0) (by kernel_rfl) fun a hs => ?_
    refine pures hs 3 [2, 3, 53] [(2, .pointer (some ⟨b75, 0, none⟩)), (3, .pointer (some ⟨b77, 0, none⟩)), (53, .bool false)] (by kernel_rfl) fun a hs => ?_
    refine s_end ?_
    exact (hJ88 _ _).2 ⟨(hs.altB 53 ((1 != x6) || false) (by kernel_rfl) (by rw [h89] <;> rfl)).cast [2, 3, 53] (by kernel_rfl), hw.pick [0, 1, 2] (by kernel_rfl)⟩
  intro a w hh
  obtain ⟨hs, hw⟩ := (hJ88 _ _).1 hh
  rcases ifbE hk with ⟨h90, hk⟩ | ⟨h90, hk⟩
  · refine c_cond1 hs (by kernel_rfl) (t := ((1 != x6) || false)) (by kernel_rfl) h90 ?_
    refine c_seq ?_
    refine c_region ?_
    refine pures hs 1 [4] [(4, .bool false)] (by kernel_rfl) fun a hs => ?_
    refine s_end ?_
    refine c_ret ?_
    obtain rfl := someE hk
    refine hQ _ _ (f_ret1 hs rfl (v := .bool false) (by kernel_rfl) ⟨rfl, hw.pick [2] (by kernel_rfl)⟩)
  refine c_cond0 hs (by kernel_rfl) (t := ((1 != x6) || false)) (by kernel_rfl) h90 ?_
  refine c_seq ?_
  obtain ⟨J98, hJ98⟩ : ∃ J : Act → World → Prop, ∀ a w, J a w ↔ (Sees a 127 [(2, .pointer (some ⟨b75, 0, none⟩)), (3, .pointer (some ⟨b77, 0, none⟩)), (94, .bool ((!((0 == 0) && ((0 == 0) && ((0 == 0) && ((0 == 0) && true))))) || false))] ∧ St g w [bx b77 [.int .i64 17, .int .i64 1, .int .i64 1, .int .i64 x5, .int .u64 x6, .int .u64 0, .int .u64 0, .int .u64 0, .int .u64 0, .int .u64 0, .int .i64 0, .int .u32 0, .int .i64 0, .int .i64 0, .int .i64 0, .int .u64 0, .int .i64 0, .int .i64 0, .int .u64 0, .slice none 0 0, .bool false, .int .i64 0, .slice none 0 0, .slice p8 x7.length c9, .slice none 0 0] 90, bx b75 [.int .i64 17, .int .i64 1, .int .i64 1, .int .i64 0, .int .u64 1, .int .u64 0, .int .u64 0, .int .u64 0, .int .u64 0, .int .u64 0, .int .i64 0, .int .u32 0, .int .i64 0, .int .i64 0, .int .i64 0, .int .u64 0, .int .i64 0, .int .i64 0, .int .u64 0, .slice none 0 0, .bool false, .int .i64 0, .slice none 0 0, .slice p2 x1.length c3, .slice none 0 0] 90, F] ih) := ⟨_, fun _ _ => Iff.rfl⟩
  refine c_regJ J98 ?_ ?_
  · refine pures hs 1 [2, 3, 95] [(2, .pointer (some ⟨b75, 0, none⟩)), (3, .pointer (some ⟨b77, 0, none⟩)), (95, .pointer (some ⟨b75, 13, none⟩))] (by kernel_rfl) fun a hs => ?_
    refine s_load hs (hw.at_ 1 rfl) 13 (by kernel_rfl) (by kernel_rfl) (v := .agg #[.int .i64 0, .int .i64 0, .int .u64 0, .int .i64 0]) (by kernel_rfl) fun a hs => ?_
    refine pures hs 1 [2, 3, 96, 97] [(2, .pointer (some ⟨b75, 0, none⟩)), (3, .pointer (some ⟨b77, 0, none⟩)), (96, .agg #[.int .i64 0, .int .i64 0, .int .u64 0, .int .i64 0]), (97, .pointer (some ⟨b77, 13, none⟩))] (by kernel_rfl) fun a hs => ?_
    refine s_load hs (hw.at_ 0 rfl) 13 (by kernel_rfl) (by kernel_rfl) (v := .agg #[.int .i64 0, .int .i64 0, .int .u64 0, .int .i64 0]) (by kernel_rfl) fun a hs => ?_
    refine s_ne hs (c1 := [.int .i64 0, .int .i64 0, .int .u64 0, .int .i64 0]) (c2 := [.int .i64 0, .int .i64 0, .int .u64 0, .int .i64 0]) ((0 == 0) && ((0 == 0) && ((0 == 0) && ((0 == 0) && true)))) (by kernel_rfl) (by kernel_rfl) (by kernel_rfl) (by kernel_rfl) (by kernel_rfl) fun a hs => ?_
    refine pures hs 1 [2, 3, 100] [(2, .pointer (some ⟨b75, 0, none⟩)), (3, .pointer (some ⟨b77, 0, none⟩)), (100, .bool (!((0 == 0) && ((0 == 0) && ((0 == 0) && ((0 == 0) && true))))))] (by kernel_rfl) fun a hs => ?_
    rcases boolE (!((0 == 0) && ((0 == 0) && ((0 == 0) && ((0 == 0) && true))))) with h99 | h99
    · replace hs := hs.altB 100 true (by kernel_rfl) h99
      refine pures hs 8 [2, 3, 94] [(2, .pointer (some ⟨b75, 0, none⟩)), (3, .pointer (some ⟨b77, 0, none⟩)), (94, .bool true)] (by kernel_rfl) fun a hs => ?_
      refine s_end ?_
      exact (hJ98 _ _).2 ⟨(hs.altB 94 ((!((0 == 0) && ((0 == 0) && ((0 == 0) && ((0 == 0) && true))))) || false) (by kernel_rfl) (by rw [h99] <;> rfl)).cast [2, 3, 94] (by kernel_rfl), hw.pick [0, 1, 2] (by kernel_rfl)⟩
    replace hs := hs.altB 100 false (by kernel_rfl) h99
    refine pures hs 1 [2, 3, 100, 101] [(2, .pointer (some ⟨b75, 0, none⟩)), (3, .pointer (some ⟨b77, 0, none⟩)), (100, .bool false), (101, .pointer (some ⟨b75, 17, none⟩))] (by kernel_rfl) fun a hs => ?_
    refine s_load hs (hw.at_ 1 rfl) 17 (by kernel_rfl) (by kernel_rfl) (v := .agg #[.int .i64 0, .int .u64 0, .slice none 0 0, .bool false, .int .i64 0]) (by kernel_rfl) fun a hs => ?_
    refine pures hs 1 [2, 3, 100, 102, 103] [(2, .pointer (some ⟨b75, 0, none⟩)), (3, .pointer (some ⟨b77, 0, none⟩)), (100, .bool false), (102, .agg #[.int .i64 0, .int .u64 0, .slice none 0 0, .bool false, .int .i64 0]), (103, .pointer (some ⟨b77, 17, none⟩))] (by kernel_rfl) fun a hs => ?_
    refine s_load hs (hw.at_ 0 rfl) 17 (by kernel_rfl) (by kernel_rfl) (v := .agg #[.int .i64 0, .int .u64 0, .slice none 0 0, .bool false, .int .i64 0]) (by kernel_rfl) fun a hs => ?_
    have h101 : conf_Same = some () := rfl
    refine s_call hs (by kernel_rfl) (by kernel_rfl) (conf_Same_s h101 ((hw.pick [0, 1, 2] (by kernel_rfl)).pack 0)) fun a w v hv hs => ?_
    obtain ⟨rfl, hw⟩ := hv
    replace hw := hw.unpack 0 rfl
    refine pures hs 3 [2, 3, 94] [(2, .pointer (some ⟨b75, 0, none⟩)), (3, .pointer (some ⟨b77, 0, none⟩)), (94, .bool false)] (by kernel_rfl) fun a hs => ?_
    refine s_end ?_
    exact (hJ98 _ _).2 ⟨(hs.altB 94 ((!((0 == 0) && ((0 == 0) && ((0 == 0) && ((0 == 0) && true))))) || false) (by kernel_rfl) (by rw [h99] <;> rfl)).cast [2, 3, 94] (by kernel_rfl), hw.pick [0, 1, 2] (by kernel_rfl)⟩
  intro a w hh
  obtain ⟨hs, hw⟩ := (hJ98 _ _).1 hh
  rcases ifbE hk with ⟨h102, hk⟩ | ⟨h102, hk⟩
  · refine c_cond1 hs (by kernel_rfl) (t := ((!((0 == 0) && ((0 == 0) && ((0 == 0) && ((0 == 0) && true))))) || false)) (by kernel_rfl) h102 ?_
    refine c_seq ?_
    refine c_region ?_
    refine pures hs 1 [4] [(4, .bool false)] (by kernel_rfl) fun a hs => ?_
    refine s_end ?_
    refine c_ret ?_
    obtain rfl := someE hk
    refine hQ _ _ (f_ret1 hs rfl (v := .bool false) (by kernel_rfl) ⟨rfl, hw.pick [2] (by kernel_rfl)⟩)
  refine c_cond0 hs (by kernel_rfl) (t := ((!((0 == 0) && ((0 == 0) && ((0 == 0) && ((0 == 0) && true))))) || false)) (by kernel_rfl) h102 ?_
  refine c_skip ?_
  refine c_seq ?_
  obtain ⟨y118, hx119, hk⟩ := bindE hk
  obtain ⟨J120, hJ120⟩ : ∃ J : Act → World → Prop, ∀ a w, J a w ↔ (∃ (x117 : Bool), letter_Same_2_r2 x117 = some r ∧ Sees a 127 [(4, .bool x117)] ∧ St g w [F] ih) := ⟨_, fun _ _ => Iff.rfl⟩
  refine c_regJ J120 ?_ ?_
  · refine pures hs 1 [2, 3, 108] [(2, .pointer (some ⟨b75, 0, none⟩)), (3, .pointer (some ⟨b77, 0, none⟩)), (108, .pointer (some ⟨b75, 22, none⟩))] (by kernel_rfl) fun a hs => ?_
    refine s_load hs (hw.at_ 1 rfl) 22 (by kernel_rfl) (by kernel_rfl) (v := .slice none 0 0) (by kernel_rfl) fun a hs => ?_
    refine pures hs 1 [2, 3, 109, 110] [(2, .pointer (some ⟨b75, 0, none⟩)), (3, .pointer (some ⟨b77, 0, none⟩)), (109, .slice none 0 0), (110, .pointer (some ⟨b77, 22, none⟩))] (by kernel_rfl) fun a hs => ?_
    refine s_load hs (hw.at_ 0 rfl) 22 (by kernel_rfl) (by kernel_rfl) (v := .slice none 0 0) (by kernel_rfl) fun a hs => ?_
    have h122 : slices_Equal_api_Vote_api_Vote = some () := rfl
    refine s_call hs (by kernel_rfl) (by kernel_rfl) (slices_Equal_api_Vote_api_Vote_s h122 ((hw.pick [0, 1, 2] (by kernel_rfl)).pack 0)) fun a w v hv hs => ?_
    obtain ⟨rfl, hw⟩ := hv
    replace hw := hw.unpack 0 rfl
    refine pures hs 2 [2, 3, 113, 114] [(2, .pointer (some ⟨b75, 0, none⟩)), (3, .pointer (some ⟨b77, 0, none⟩)), (113, .bool true), (114, .pointer (some ⟨b75, 23, none⟩))] (by kernel_rfl) fun a hs => ?_
    refine s_load hs (hw.at_ 1 rfl) 23 (by kernel_rfl) (by kernel_rfl) (v := .slice p2 x1.length c3) (by kernel_rfl) fun a hs => ?_
    refine pures hs 1 [2, 3, 113, 115, 116] [(2, .pointer (some ⟨b75, 0, none⟩)), (3, .pointer (some ⟨b77, 0, none⟩)), (113, .bool true), (115, .slice p2 x1.length c3), (116, .pointer (some ⟨b77, 23, none⟩))] (by kernel_rfl) fun a hs => ?_
    refine s_load hs (hw.at_ 0 rfl) 23 (by kernel_rfl) (by kernel_rfl) (v := .slice p8 x7.length c9) (by kernel_rfl) fun a hs => ?_
    obtain ⟨y123, h124, hx119⟩ := bindE hx119
    refine s_call hs (by kernel_rfl) (by kernel_rfl) (slices_EqualFunc_api_Update_api_Update_api_Update_api_Update_s h124 h4 (nilSub _) h10 (nilSub _) ((hw.pick [0, 1, 2] (by kernel_rfl)).pack 0)) fun a w v hv hs => ?_
    obtain ⟨rfl, hw⟩ := hv
    replace hw := hw.unpack 0 rfl
    refine pures hs 2 [2, 3, 120] [(2, .pointer (some ⟨b75, 0, none⟩)), (3, .pointer (some ⟨b77, 0, none⟩)), (120, .bool y123)] (by kernel_rfl) fun a hs => ?_
    rcases ifbE hx119 with ⟨h125, hx119⟩ | ⟨h125, hx119⟩
    · replace hs := hs.altB 120 true (by kernel_rfl) h125
      refine pures hs 1 [3, 120, 121] [(3, .pointer (some ⟨b77, 0, none⟩)), (120, .bool true), (121, .pointer (some ⟨b75, 24, none⟩))] (by kernel_rfl) fun a hs => ?_
      refine s_load hs (hw.at_ 1 rfl) 24 (by kernel_rfl) (by kernel_rfl) (v := .slice none 0 0) (by kernel_rfl) fun a hs => ?_
      refine pures hs 1 [120, 122, 123] [(120, .bool true), (122, .slice none 0 0), (123, .pointer (some ⟨b77, 24, none⟩))] (by kernel_rfl) fun a hs => ?_
      refine s_load hs (hw.at_ 0 rfl) 24 (by kernel_rfl) (by kernel_rfl) (v := .slice none 0 0) (by kernel_rfl) fun a hs => ?_
      obtain ⟨y126, h127, hx119⟩ := bindE hx119
      refine s_call hs (by kernel_rfl) (by kernel_rfl) (bytes_Equal_2_s h127 ((hw.pick [2] (by kernel_rfl)).pack 0)) fun a w v hv hs => ?_
      obtain ⟨rfl, hw⟩ := hv
      replace hw := hw.unpack 0 rfl
      refine pures hs 2 [4] [(4, .bool y126)] (by kernel_rfl) fun a hs => ?_
      refine s_end ?_
      obtain rfl := someE hx119
      exact (hJ120 _ _).2 ⟨y126, hk, hs.cast [4] (by kernel_rfl), hw.pick [0] (by kernel_rfl)⟩
    replace hs := hs.altB 120 false (by kernel_rfl) h125
    refine pures hs 7 [4] [(4, .bool false)] (by kernel_rfl) fun a hs => ?_
    refine s_end ?_
    obtain rfl := someE hx119
    exact (hJ120 _ _).2 ⟨false, hk, hs.cast [4] (by kernel_rfl), hw.pick [2] (by kernel_rfl)⟩
  intro a w hh
  obtain ⟨x117, hk, hs, hw⟩ := (hJ120 _ _).1 hh
  refine c_ret ?_
  obtain rfl := someE hk
  refine hQ _ _ (f_ret1 hs rfl (v := .bool x117) (by kernel_rfl) ⟨rfl, hw.pick [0] (by kernel_rfl)⟩)
def letter_parts_2 : Option Unit :=
  some ()
theorem letter_parts_2_s {r : Unit} (hk : letter_parts_2 = some r) {g w : World} {F : Ch} {ih : IH} (hG : Glob 0 gl0 110 ih) (hw : St g w [F] ih) :
    CallsR Tryz.prog 59 #[.int .i64 17] w fun v w' => ∃ (p611 : Option Addr) (c612 : Nat) (d614 : Ch) (b616 : Nat) (b618 : Nat) (b620 : Nat), v = .slice p611 3 c612 ∧ St g w' [d614, bx b616 [.func (.func 87) #[] #[]] 118, bx b618 [.int .i64 1] 3, bx b620 [.func (.func 92) #[] #[]] 121, F] ih ∧ OSl e101 ih p611 c612 [(M101.mk (.func (.func 86) #[] #[]) (.func (.func 102) #[] #[.pointer (some ⟨b616, 0, none⟩), .pointer (some ⟨b618, 0, none⟩)]) (.func (.func 104) #[] #[.pointer (some ⟨b618, 0, none⟩), .pointer (some ⟨b616, 0, none⟩)])), (M101.mk (.func (.func 91) #[] #[]) (.func (.func 106) #[] #[.pointer (some ⟨b620, 0, none⟩)]) (.func (.func 107) #[] #[.pointer (some ⟨b620, 0, none⟩)])), (M101.mk (.func (.func 128) #[] #[]) (.func (.func 129) #[] #[]) (.func (.func 130) #[] #[]))] d614 := by
  refine f_in (vs := [.int .i64 17]) Tryz.func59 rfl 22 rfl (by kernel_rfl) [(0, .int .i64 17)] (by kernel_rfl) fun a Qf hQ hQn hs => ?_
  refine c_seq ?_
  refine c_region ?_
  refine pures hs 1 [0] [(0, .int .i64 17)] (by kernel_rfl) fun a hs => ?_
  refine s_end ?_
  refine c_seq ?_
  refine c_region ?_
  refine pures hs 1 [0, 3] [(0, .int .i64 17), (3, .slice none 0 0)] (by kernel_rfl) fun a hs => ?_
  refine s_end ?_
  refine c_seq ?_
  refine c_seq ?_
  refine c_region ?_
  refine pures hs 3 [3, 8] [(3, .slice none 0 0), (8, .pointer (some ⟨0, 120, none⟩))] (by kernel_rfl) fun a hs => ?_
  refine s_load hs (hw.atG (hG.mono (Le.refl _))) 120 (by kernel_rfl) (by kernel_rfl) (v := .agg #[.int .i64 1, .int .i64 2, .int .i64 8192, .int .i64 0, .int .i64 0, .int .i64 0]) (by kernel_rfl) fun a hs => ?_
  refine pures hs 1 [3, 9, 10] [(3, .slice none 0 0), (9, .agg #[.int .i64 1, .int .i64 2, .int .i64 8192, .int .i64 0, .int .i64 0, .int .i64 0]), (10, .int .i64 0)] (by kernel_rfl) fun a hs => ?_
  refine s_end ?_
  refine c_block ?_
  refine wpIn_loop_rounds 7 ?_
  refine c_unr ?_
  refine c_seq ?_
  refine c_region ?_
  refine pures hs 1 [3, 9, 10, 11] [(3, .slice none 0 0), (9, .agg #[.int .i64 1, .int .i64 2, .int .i64 8192, .int .i64 0, .int .i64 0, .int .i64 0]), (10, .int .i64 0), (11, .bool true)] (by kernel_rfl) fun a hs => ?_
  refine s_end ?_
  refine c_seq ?_
  refine c_condT hs (by kernel_rfl) (by kernel_rfl) ?_
  refine c_skip ?_
  refine c_seq ?_
  refine c_block ?_
  refine c_seq ?_
  refine c_region ?_
  refine pures hs 2 [3, 9, 10, 5] [(3, .slice none 0 0), (9, .agg #[.int .i64 1, .int .i64 2, .int .i64 8192, .int .i64 0, .int .i64 0, .int .i64 0]), (10, .int .i64 0), (5, .int .i64 1)] (by kernel_rfl) fun a hs => ?_
  refine s_end ?_
  refine c_seq ?_
  refine c_region ?_
  refine pures hs 2 [3, 9, 10, 5, 14] [(3, .slice none 0 0), (9, .agg #[.int .i64 1, .int .i64 2, .int .i64 8192, .int .i64 0, .int .i64 0, .int .i64 0]), (10, .int .i64 0), (5, .int .i64 1), (14, .bool true)] (by kernel_rfl) fun a hs => ?_
  refine s_end ?_
  refine c_condT hs (by kernel_rfl) (by kernel_rfl) ?_
  refine c_region ?_
  refine pures hs 2 [9, 10, 15, 16] [(9, .agg #[.int .i64 1, .int .i64 2, .int .i64 8192, .int .i64 0, .int .i64 0, .int .i64 0]), (10, .int .i64 0), (15, .slice none 0 0), (16, .int .i64 1)] (by kernel_rfl) fun a hs => ?_
  have h508 : letter_of = some () := rfl
  refine s_call hs (by kernel_rfl) (by kernel_rfl) (letter_of_s h508 ((hw.pick [0] (by kernel_rfl)).pack 0)) fun a w v hv hs => ?_
  obtain ⟨b509, b511, rfl, hw⟩ := hv
  replace hw := hw.unpack 2 rfl
  refine s_new hs hw [.func (.func 86) #[] #[], .func (.func 102) #[] #[.pointer (some ⟨b509, 0, none⟩), .pointer (some ⟨b511, 0, none⟩)], .func (.func 104) #[] #[.pointer (some ⟨b511, 0, none⟩), .pointer (some ⟨b509, 0, none⟩)]] 101 (fun b => .slice (some ⟨b, 0, none⟩) 1 1) (by kernel_rfl) (fun _ => by kernel_rfl) fun a w b513 hs hw => ?_
  replace hw := hw.nil
  have h518 : app ([]) [(M101.mk (.func (.func 86) #[] #[]) (.func (.func 102) #[] #[.pointer (some ⟨b509, 0, none⟩), .pointer (some ⟨b511, 0, none⟩)]) (.func (.func 104) #[] #[.pointer (some ⟨b511, 0, none⟩), .pointer (some ⟨b509, 0, none⟩)]))] = some ([(M101.mk (.func (.func 86) #[] #[]) (.func (.func 102) #[] #[.pointer (some ⟨b509, 0, none⟩), .pointer (some ⟨b511, 0, none⟩)]) (.func (.func 104) #[] #[.pointer (some ⟨b511, 0, none⟩), .pointer (some ⟨b509, 0, none⟩)]))]) := rfl
  refine s_app1 hs hw (E := e101) appT95 0 rfl (OSl.nil _ _) (by kernel_rfl) (by kernel_rfl) (c2 := 1) (by kernel_rfl) (hw.at_ 1 rfl) (z := (M101.mk (.func (.func 86) #[] #[]) (.func (.func 102) #[] #[.pointer (some ⟨b509, 0, none⟩), .pointer (some ⟨b511, 0, none⟩)]) (.func (.func 104) #[] #[.pointer (some ⟨b511, 0, none⟩), .pointer (some ⟨b509, 0, none⟩)]))) ⟨rfl, rfl, rfl, rfl⟩ h518 fun a w p519 c520 d521 h522 hw hs => ?_
  refine pures hs 1 [9, 10, 3] [(9, .agg #[.int .i64 1, .int .i64 2, .int .i64 8192, .int .i64 0, .int .i64 0, .int .i64 0]), (10, .int .i64 0), (3, .slice p519 1 c520)] (by kernel_rfl) fun a hs => ?_
  refine s_end ?_
  refine c_region ?_
  refine pures hs 2 [9, 10, 3] [(9, .agg #[.int .i64 1, .int .i64 2, .int .i64 8192, .int .i64 0, .int .i64 0, .int .i64 0]), (10, .int .i64 1), (3, .slice p519 1 c520)] (by kernel_rfl) fun a hs => ?_
  refine s_end ?_
  refine c_unr ?_
  refine c_seq ?_
  refine c_region ?_
  refine pures hs 1 [9, 10, 3, 11] [(9, .agg #[.int .i64 1, .int .i64 2, .int .i64 8192, .int .i64 0, .int .i64 0, .int .i64 0]), (10, .int .i64 1), (3, .slice p519 1 c520), (11, .bool true)] (by kernel_rfl) fun a hs => ?_
  refine s_end ?_
  refine c_seq ?_
  refine c_condT hs (by kernel_rfl) (by kernel_rfl) ?_
  refine c_skip ?_
  refine c_seq ?_
  refine c_block ?_
  refine c_seq ?_
  refine c_region ?_
  refine pures hs 2 [9, 10, 3, 5] [(9, .agg #[.int .i64 1, .int .i64 2, .int .i64 8192, .int .i64 0, .int .i64 0, .int .i64 0]), (10, .int .i64 1), (3, .slice p519 1 c520), (5, .int .i64 2)] (by kernel_rfl) fun a hs => ?_
  refine s_end ?_
  refine c_seq ?_
  refine c_region ?_
  refine pures hs 2 [9, 10, 3, 5, 14] [(9, .agg #[.int .i64 1, .int .i64 2, .int .i64 8192, .int .i64 0, .int .i64 0, .int .i64 0]), (10, .int .i64 1), (3, .slice p519 1 c520), (5, .int .i64 2), (14, .bool true)] (by kernel_rfl) fun a hs => ?_
  refine s_end ?_
  refine c_condT hs (by kernel_rfl) (by kernel_rfl) ?_
  refine c_region ?_
  refine pures hs 2 [9, 10, 15, 16] [(9, .agg #[.int .i64 1, .int .i64 2, .int .i64 8192, .int .i64 0, .int .i64 0, .int .i64 0]), (10, .int .i64 1), (15, .slice p519 1 c520), (16, .int .i64 2)] (by kernel_rfl) fun a hs => ?_
  have h560 : letter_of_2 = some () := rfl
  refine s_call hs (by kernel_rfl) (by kernel_rfl) (letter_of_2_s h560 ((hw.pick [0, 2, 3, 4] (by kernel_rfl)).pack 0)) fun a w v hv hs => ?_
  obtain ⟨b561, rfl, hw⟩ := hv
  replace hw := hw.unpack 1 rfl
  refine s_new hs hw [.func (.func 91) #[] #[], .func (.func 106) #[] #[.pointer (some ⟨b561, 0, none⟩)], .func (.func 107) #[] #[.pointer (some ⟨b561, 0, none⟩)]] 101 (fun b => .slice (some ⟨b, 0, none⟩) 1 1) (by kernel_rfl) (fun _ => by kernel_rfl) fun a w b563 hs hw => ?_
  have h566 : app ([(M101.mk (.func (.func 86) #[] #[]) (.func (.func 102) #[] #[.pointer (some ⟨b509, 0, none⟩), .pointer (some ⟨b511, 0, none⟩)]) (.func (.func 104) #[] #[.pointer (some ⟨b511, 0, none⟩), .pointer (some ⟨b509, 0, none⟩)]))]) [(M101.mk (.func (.func 91) #[] #[]) (.func (.func 106) #[] #[.pointer (some ⟨b561, 0, none⟩)]) (.func (.func 107) #[] #[.pointer (some ⟨b561, 0, none⟩)]))] = some ([(M101.mk (.func (.func 86) #[] #[]) (.func (.func 102) #[] #[.pointer (some ⟨b509, 0, none⟩), .pointer (some ⟨b511, 0, none⟩)]) (.func (.func 104) #[] #[.pointer (some ⟨b511, 0, none⟩), .pointer (some ⟨b509, 0, none⟩)])), (M101.mk (.func (.func 91) #[] #[]) (.func (.func 106) #[] #[.pointer (some ⟨b561, 0, none⟩)]) (.func (.func 107) #[] #[.pointer (some ⟨b561, 0, none⟩)]))]) := rfl
  refine s_app1 hs hw (E := e101) appT95 2 rfl h522 (by kernel_rfl) (by kernel_rfl) (c2 := 1) (by kernel_rfl) (hw.at_ 0 rfl) (z := (M101.mk (.func (.func 91) #[] #[]) (.func (.func 106) #[] #[.pointer (some ⟨b561, 0, none⟩)]) (.func (.func 107) #[] #[.pointer (some ⟨b561, 0, none⟩)]))) ⟨rfl, rfl, rfl, rfl⟩ h566 fun a w p567 c568 d569 h570 hw hs => ?_
  refine pures hs 1 [9, 10, 3] [(9, .agg #[.int .i64 1, .int .i64 2, .int .i64 8192, .int .i64 0, .int .i64 0, .int .i64 0]), (10, .int .i64 1), (3, .slice p567 2 c568)] (by kernel_rfl) fun a hs => ?_
  refine s_end ?_
  refine c_region ?_
  refine pures hs 2 [9, 10, 3] [(9, .agg #[.int .i64 1, .int .i64 2, .int .i64 8192, .int .i64 0, .int .i64 0, .int .i64 0]), (10, .int .i64 2), (3, .slice p567 2 c568)] (by kernel_rfl) fun a hs => ?_
  refine s_end ?_
  refine c_unr ?_
  refine c_seq ?_
  refine c_region ?_
  refine pures hs 1 [9, 10, 3, 11] [(9, .agg #[.int .i64 1, .int .i64 2, .int .i64 8192, .int .i64 0, .int .i64 0, .int .i64 0]), (10, .int .i64 2), (3, .slice p567 2 c568), (11, .bool true)] (by kernel_rfl) fun a hs => ?_
  refine s_end ?_
  refine c_seq ?_
  refine c_condT hs (by kernel_rfl) (by kernel_rfl) ?_
  refine c_skip ?_
  refine c_seq ?_
  refine c_block ?_
  refine c_seq ?_
  refine c_region ?_
  refine pures hs 2 [9, 10, 3, 5] [(9, .agg #[.int .i64 1, .int .i64 2, .int .i64 8192, .int .i64 0, .int .i64 0, .int .i64 0]), (10, .int .i64 2), (3, .slice p567 2 c568), (5, .int .i64 8192)] (by kernel_rfl) fun a hs => ?_
  refine s_end ?_
  refine c_seq ?_
  refine c_region ?_
  refine pures hs 2 [9, 10, 3, 5, 14] [(9, .agg #[.int .i64 1, .int .i64 2, .int .i64 8192, .int .i64 0, .int .i64 0, .int .i64 0]), (10, .int .i64 2), (3, .slice p567 2 c568), (5, .int .i64 8192), (14, .bool true)] (by kernel_rfl) fun a hs => ?_
  refine s_end ?_
  refine c_condT hs (by kernel_rfl) (by kernel_rfl) ?_
  refine c_region ?_
  refine pures hs 2 [9, 10, 15, 16] [(9, .agg #[.int .i64 1, .int .i64 2, .int .i64 8192, .int .i64 0, .int .i64 0, .int .i64 0]), (10, .int .i64 2), (15, .slice p567 2 c568), (16, .int .i64 8192)] (by kernel_rfl) fun a hs => ?_
  have h602 : letter_of_5 = some () := rfl
  refine s_call hs (by kernel_rfl) (by kernel_rfl) (letter_of_5_s h602 ((hw.pick [1, 2, 3, 4, 5] (by kernel_rfl)).pack 0)) fun a w v hv hs => ?_
  obtain ⟨rfl, hw⟩ := hv
  replace hw := hw.unpack 0 rfl
  refine s_new hs hw [.func (.func 128) #[] #[], .func (.func 129) #[] #[], .func (.func 130) #[] #[]] 101 (fun b => .slice (some ⟨b, 0, none⟩) 1 1) (by kernel_rfl) (fun _ => by kernel_rfl) fun a w b603 hs hw => ?_
  have h606 : app ([(M101.mk (.func (.func 86) #[] #[]) (.func (.func 102) #[] #[.pointer (some ⟨b509, 0, none⟩), .pointer (some ⟨b511, 0, none⟩)]) (.func (.func 104) #[] #[.pointer (some ⟨b511, 0, none⟩), .pointer (some ⟨b509, 0, none⟩)])), (M101.mk (.func (.func 91) #[] #[]) (.func (.func 106) #[] #[.pointer (some ⟨b561, 0, none⟩)]) (.func (.func 107) #[] #[.pointer (some ⟨b561, 0, none⟩)]))]) [(M101.mk (.func (.func 128) #[] #[]) (.func (.func 129) #[] #[]) (.func (.func 130) #[] #[]))] = some ([(M101.mk (.func (.func 86) #[] #[]) (.func (.func 102) #[] #[.pointer (some ⟨b509, 0, none⟩), .pointer (some ⟨b511, 0, none⟩)]) (.func (.func 104) #[] #[.pointer (some ⟨b511, 0, none⟩), .pointer (some ⟨b509, 0, none⟩)])), (M101.mk (.func (.func 91) #[] #[]) (.func (.func 106) #[] #[.pointer (some ⟨b561, 0, none⟩)]) (.func (.func 107) #[] #[.pointer (some ⟨b561, 0, none⟩)])), (M101.mk (.func (.func 128) #[] #[]) (.func (.func 129) #[] #[]) (.func (.func 130) #[] #[]))]) := rfl
  refine s_app1 hs hw (E := e101) appT95 2 rfl h570 (by kernel_rfl) (by kernel_rfl) (c2 := 1) (by kernel_rfl) (hw.at_ 0 rfl) (z := (M101.mk (.func (.func 128) #[] #[]) (.func (.func 129) #[] #[]) (.func (.func 130) #[] #[]))) ⟨rfl, rfl, rfl, rfl⟩ h606 fun a w p607 c608 d609 h610 hw hs => ?_
  refine pures hs 1 [9, 10, 3] [(9, .agg #[.int .i64 1, .int .i64 2, .int .i64 8192, .int .i64 0, .int .i64 0, .int .i64 0]), (10, .int .i64 2), (3, .slice p607 3 c608)] (by kernel_rfl) fun a hs => ?_
  refine s_end ?_
  refine c_region ?_
  refine pures hs 2 [9, 10, 3] [(9, .agg #[.int .i64 1, .int .i64 2, .int .i64 8192, .int .i64 0, .int .i64 0, .int .i64 0]), (10, .int .i64 3), (3, .slice p607 3 c608)] (by kernel_rfl) fun a hs => ?_
  refine s_end ?_
  refine c_unr ?_
  refine c_seq ?_
  refine c_region ?_
  refine pures hs 1 [9, 10, 3, 11] [(9, .agg #[.int .i64 1, .int .i64 2, .int .i64 8192, .int .i64 0, .int .i64 0, .int .i64 0]), (10, .int .i64 3), (3, .slice p607 3 c608), (11, .bool true)] (by kernel_rfl) fun a hs => ?_
  refine s_end ?_
  refine c_seq ?_
  refine c_condT hs (by kernel_rfl) (by kernel_rfl) ?_
  refine c_skip ?_
  refine c_seq ?_
  refine c_block ?_
  refine c_seq ?_
  refine c_region ?_
  refine pures hs 2 [9, 10, 3, 5] [(9, .agg #[.int .i64 1, .int .i64 2, .int .i64 8192, .int .i64 0, .int .i64 0, .int .i64 0]), (10, .int .i64 3), (3, .slice p607 3 c608), (5, .int .i64 0)] (by kernel_rfl) fun a hs => ?_
  refine s_end ?_
  refine c_seq ?_
  refine c_region ?_
  refine pures hs 2 [9, 10, 3, 5, 14] [(9, .agg #[.int .i64 1, .int .i64 2, .int .i64 8192, .int .i64 0, .int .i64 0, .int .i64 0]), (10, .int .i64 3), (3, .slice p607 3 c608), (5, .int .i64 0), (14, .bool false)] (by kernel_rfl) fun a hs => ?_
  refine s_end ?_
  refine c_condF hs (by kernel_rfl) (by kernel_rfl) ?_
  refine c_skip ?_
  refine c_region ?_
  refine pures hs 2 [9, 10, 3] [(9, .agg #[.int .i64 1, .int .i64 2, .int .i64 8192, .int .i64 0, .int .i64 0, .int .i64 0]), (10, .int .i64 4), (3, .slice p607 3 c608)] (by kernel_rfl) fun a hs => ?_
  refine s_end ?_
  refine c_unr ?_
  refine c_seq ?_
  refine c_region ?_
  refine pures hs 1 [9, 10, 3, 11] [(9, .agg #[.int .i64 1, .int .i64 2, .int .i64 8192, .int .i64 0, .int .i64 0, .int .i64 0]), (10, .int .i64 4), (3, .slice p607 3 c608), (11, .bool true)] (by kernel_rfl) fun a hs => ?_
  refine s_end ?_
  refine c_seq ?_
  refine c_condT hs (by kernel_rfl) (by kernel_rfl) ?_
  refine c_skip ?_
  refine c_seq ?_
  refine c_block ?_
  refine c_seq ?_
  refine c_region ?_
  refine pures hs 2 [9, 10, 3, 5] [(9, .agg #[.int .i64 1, .int .i64 2, .int .i64 8192, .int .i64 0, .int .i64 0, .int .i64 0]), (10, .int .i64 4), (3, .slice p607 3 c608), (5, .int .i64 0)] (by kernel_rfl) fun a hs => ?_
  refine s_end ?_
  refine c_seq ?_
  refine c_region ?_
  refine pures hs 2 [9, 10, 3, 5, 14] [(9, .agg #[.int .i64 1, .int .i64 2, .int .i64 8192, .int .i64 0, .int .i64 0, .int .i64 0]), (10, .int .i64 4), (3, .slice p607 3 c608), (5, .int .i64 0), (14, .bool false)] (by kernel_rfl) fun a hs => ?_
  refine s_end ?_
  refine c_condF hs (by kernel_rfl) (by kernel_rfl) ?_
  refine c_skip ?_
  refine c_region ?_
  refine pures hs 2 [9, 10, 3] [(9, .agg #[.int .i64 1, .int .i64 2, .int .i64 8192, .int .i64 0, .int .i64 0, .int .i64 0]), (10, .int .i64 5), (3, .slice p607 3 c608)] (by kernel_rfl) fun a hs => ?_
  refine s_end ?_
  refine c_unr ?_
  refine c_seq ?_
  refine c_region ?_
  refine pures hs 1 [9, 10, 3, 11] [(9, .agg #[.int .i64 1, .int .i64 2, .int .i64 8192, .int .i64 0, .int .i64 0, .int .i64 0]), (10, .int .i64 5), (3, .slice p607 3 c608), (11, .bool true)] (by kernel_rfl) fun a hs => ?_
  refine s_end ?_
  refine c_seq ?_
  refine c_condT hs (by kernel_rfl) (by kernel_rfl) ?_
  refine c_skip ?_
  refine c_seq ?_
  refine c_block ?_
  refine c_seq ?_
  refine c_region ?_
  refine pures hs 2 [9, 10, 3, 5] [(9, .agg #[.int .i64 1, .int .i64 2, .int .i64 8192, .int .i64 0, .int .i64 0, .int .i64 0]), (10, .int .i64 5), (3, .slice p607 3 c608), (5, .int .i64 0)] (by kernel_rfl) fun a hs => ?_
  refine s_end ?_
  refine c_seq ?_
  refine c_region ?_
  refine pures hs 2 [9, 10, 3, 5, 14] [(9, .agg #[.int .i64 1, .int .i64 2, .int .i64 8192, .int .i64 0, .int .i64 0, .int .i64 0]), (10, .int .i64 5), (3, .slice p607 3 c608), (5, .int .i64 0), (14, .bool false)] (by kernel_rfl) fun a hs => ?_
  refine s_end ?_
  refine c_condF hs (by kernel_rfl) (by kernel_rfl) ?_
  refine c_skip ?_
  refine c_region ?_
  refine pures hs 2 [9, 10, 3] [(9, .agg #[.int .i64 1, .int .i64 2, .int .i64 8192, .int .i64 0, .int .i64 0, .int .i64 0]), (10, .int .i64 6), (3, .slice p607 3 c608)] (by kernel_rfl) fun a hs => ?_
  refine s_end ?_
  refine c_unr ?_
  refine c_seq ?_
  refine c_region ?_
  refine pures hs 1 [9, 10, 3, 11] [(9, .agg #[.int .i64 1, .int .i64 2, .int .i64 8192, .int .i64 0, .int .i64 0, .int .i64 0]), (10, .int .i64 6), (3, .slice p607 3 c608), (11, .bool false)] (by kernel_rfl) fun a hs => ?_
  refine s_end ?_
  refine c_seq ?_
  refine c_condF hs (by kernel_rfl) (by kernel_rfl) ?_
  refine c_exit ?_
  refine c_seq ?_
  refine c_region ?_
  refine pures hs 2 [2] [(2, .slice p607 3 c608)] (by kernel_rfl) fun a hs => ?_
  refine s_end ?_
  refine c_ret ?_
  obtain rfl := someE hk
  refine hQ _ _ (f_ret1 hs rfl (v := .slice p607 3 c608) (by kernel_rfl) ⟨p607, c608, d609, b509, b511, b561, rfl, hw.pick [2, 3, 4, 1, 5] (by kernel_rfl), h610⟩)
def letter_of_1_2 : Option Unit :=
  some ()
theorem letter_of_1_2_s {x1 : List M26} {p2 : Option Addr} {c3 : Nat} {r : Unit} (hk : letter_of_1_2 = some r) {g w : World} {F : Ch} {ih : IH} (h4 : RSl e26 ih [] p2 c3 x1) (hw : St g w [F] ih) :
    CallsR Tryz.prog 86 #[.agg #[.int .i64 17, .int .i64 1, .int .i64 1, .int .i64 0, .int .u64 1, .int .u64 0, .int .u64 0, .int .u64 0, .int .u64 0, .int .u64 0, .int .i64 0, .int .u32 0, .int .i64 0, .int .i64 0, .int .i64 0, .int .u64 0, .int .i64 0, .int .i64 0, .int .u64 0, .slice none 0 0, .bool false, .int .i64 0, .slice none 0 0, .slice p2 x1.length c3, .slice none 0 0]] w fun v w' => v = .bool true ∧ St g w' [F] ih := by
  refine f_in (vs := [.agg #[.int .i64 17, .int .i64 1, .int .i64 1, .int .i64 0, .int .u64 1, .int .u64 0, .int .u64 0, .int .u64 0, .int .u64 0, .int .u64 0, .int .i64 0, .int .u32 0, .int .i64 0, .int .i64 0, .int .i64 0, .int .u64 0, .int .i64 0, .int .i64 0, .int .u64 0, .slice none 0 0, .bool false, .int .i64 0, .slice none 0 0, .slice p2 x1.length c3, .slice none 0 0]]) Tryz.func86 rfl 11 rfl (by kernel_rfl) [(0, .agg #[.int .i64 17, .int .i64 1, .int .i64 1, .int .i64 0, .int .u64 1, .int .u64 0, .int .u64 0, .int .u64 0, .int .u64 0, .int .u64 0, .int .i64 0, .int .u32 0, .int .i64 0, .int .i64 0, .int .i64 0, .int .u64 0, .int .i64 0, .int .i64 0, .int .u64 0, .slice none 0 0, .bool false, .int .i64 0, .slice none 0 0, .slice p2 x1.length c3, .slice none 0 0])] (by kernel_rfl) fun a Qf hQ hQn hs => ?_
  refine c_seq ?_
  refine c_region ?_
  refine s_new hs hw [.int .i64 17, .int .i64 1, .int .i64 1, .int .i64 0, .int .u64 1, .int .u64 0, .int .u64 0, .int .u64 0, .int .u64 0, .int .u64 0, .int .i64 0, .int .u32 0, .int .i64 0, .int .i64 0, .int .i64 0, .int .u64 0, .int .i64 0, .int .i64 0, .int .u64 0, .slice none 0 0, .bool false, .int .i64 0, .slice none 0 0, .slice p2 x1.length c3, .slice none 0 0] 90 (fun b => .pointer (some ⟨b, 0, none⟩)) (by kernel_rfl) (fun _ => by kernel_rfl) fun a w b13 hs hw => ?_
  refine pures hs 1 [1] [(1, .pointer (some ⟨b13, 0, none⟩))] (by kernel_rfl) fun a hs => ?_
  refine s_end ?_
  refine c_seq ?_
  refine c_region ?_
  refine pures hs 1 [1, 3] [(1, .pointer (some ⟨b13, 0, none⟩)), (3, .pointer (some ⟨b13, 3, none⟩))] (by kernel_rfl) fun a hs => ?_
  refine s_load hs (hw.at_ 0 rfl) 3 (by kernel_rfl) (by kernel_rfl) (v := .int .i64 0) (by kernel_rfl) fun a hs => ?_
  refine pures hs 3 [6, 7] [(6, .bool true), (7, .pointer (some ⟨b13, 3, none⟩))] (by kernel_rfl) fun a hs => ?_
  refine s_load hs (hw.at_ 0 rfl) 3 (by kernel_rfl) (by kernel_rfl) (v := .int .i64 0) (by kernel_rfl) fun a hs => ?_
  refine pures hs 3 [2] [(2, .bool true)] (by kernel_rfl) fun a hs => ?_
  refine s_end ?_
  refine c_ret ?_
  obtain rfl := someE hk
  refine hQ _ _ (f_ret1 hs rfl (v := .bool true) (by kernel_rfl) ⟨rfl, hw.pick [1] (by kernel_rfl)⟩)
def letter_of_5_3 : Option Unit :=
  some ()
theorem letter_of_5_3_s {x1 : List M26} {p2 : Option Addr} {c3 : Nat} {r : Unit} (hk : letter_of_5_3 = some r) {g w : World} {F : Ch} {ih : IH} (h4 : RSl e26 ih [] p2 c3 x1) (hw : St g w [F] ih) :
    CallsR Tryz.prog 91 #[.agg #[.int .i64 17, .int .i64 1, .int .i64 1, .int .i64 0, .int .u64 1, .int .u64 0, .int .u64 0, .int .u64 0, .int .u64 0, .int .u64 0, .int .i64 0, .int .u32 0, .int .i64 0, .int .i64 0, .int .i64 0, .int .u64 0, .int .i64 0, .int .i64 0, .int .u64 0, .slice none 0 0, .bool false, .int .i64 0, .slice none 0 0, .slice p2 x1.length c3, .slice none 0 0]] w fun v w' => v = .bool true ∧ St g w' [F] ih := by
  refine f_in (vs := [.agg #[.int .i64 17, .int .i64 1, .int .i64 1, .int .i64 0, .int .u64 1, .int .u64 0, .int .u64 0, .int .u64 0, .int .u64 0, .int .u64 0, .int .i64 0, .int .u32 0, .int .i64 0, .int .i64 0, .int .i64 0, .int .u64 0, .int .i64 0, .int .i64 0, .int .u64 0, .slice none 0 0, .bool false, .int .i64 0, .slice none 0 0, .slice p2 x1.length c3, .slice none 0 0]]) Tryz.func91 rfl 6 rfl (by kernel_rfl) [(0, .agg #[.int .i64 17, .int .i64 1, .int .i64 1, .int .i64 0, .int .u64 1, .int .u64 0, .int .u64 0, .int .u64 0, .int .u64 0, .int .u64 0, .int .i64 0, .int .u32 0, .int .i64 0, .int .i64 0, .int .i64 0, .int .u64 0, .int .i64 0, .int .i64 0, .int .u64 0, .slice none 0 0, .bool false, .int .i64 0, .slice none 0 0, .slice p2 x1.length c3, .slice none 0 0])] (by kernel_rfl) fun a Qf hQ hQn hs => ?_
  refine c_seq ?_
  refine c_region ?_
  refine s_new hs hw [.int .i64 17, .int .i64 1, .int .i64 1, .int .i64 0, .int .u64 1, .int .u64 0, .int .u64 0, .int .u64 0, .int .u64 0, .int .u64 0, .int .i64 0, .int .u32 0, .int .i64 0, .int .i64 0, .int .i64 0, .int .u64 0, .int .i64 0, .int .i64 0, .int .u64 0, .slice none 0 0, .bool false, .int .i64 0, .slice none 0 0, .slice p2 x1.length c3, .slice none 0 0] 90 (fun b => .pointer (some ⟨b, 0, none⟩)) (by kernel_rfl) (fun _ => by kernel_rfl) fun a w b13 hs hw => ?_
  refine pures hs 1 [1] [(1, .pointer (some ⟨b13, 0, none⟩))] (by kernel_rfl) fun a hs => ?_
  refine s_end ?_
  refine c_seq ?_
  refine c_region ?_
  refine pures hs 1 [3] [(3, .pointer (some ⟨b13, 4, none⟩))] (by kernel_rfl) fun a hs => ?_
  refine s_load hs (hw.at_ 0 rfl) 4 (by kernel_rfl) (by kernel_rfl) (v := .int .u64 1) (by kernel_rfl) fun a hs => ?_
  refine pures hs 2 [2] [(2, .bool true)] (by kernel_rfl) fun a hs => ?_
  refine s_end ?_
  refine c_ret ?_
  obtain rfl := someE hk
  refine hQ _ _ (f_ret1 hs rfl (v := .bool true) (by kernel_rfl) ⟨rfl, hw.pick [1] (by kernel_rfl)⟩)
end Go.Proofs.YtfpllbnljlbepaaGreatDoor.Sx
