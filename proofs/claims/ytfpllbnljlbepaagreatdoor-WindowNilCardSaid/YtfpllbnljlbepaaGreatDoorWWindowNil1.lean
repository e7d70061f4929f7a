/- The walk of WindowNil: each Go function that it calls, as a plain function, and the proof that the call computes it. Printed by the program gen.py.
   Conditions: those that each theorem states ahead of its colon, and no other. -/
import Derived.Test.YtfpllbnljlbepaaGreatDoorWWindowNil0
namespace Go.Proofs.YtfpllbnljlbepaaGreatDoor.Sx
open Go Go.Proofs
set_option maxRecDepth 100000
set_option linter.unusedVariables false
def letter_of_5_2 : Option Unit :=
  some ()
theorem letter_of_5_2_s {x1 : List M26} {p2 : Option Addr} {c3 : Nat} {r : Unit} (hk : letter_of_5_2 = some r) {g w : World} {F : Ch} {ih : IH} (h4 : RSl e26 ih [] p2 c3 x1) (hw : St g w [F] ih) :
    CallsR Tryz.prog 91 #[.agg #[.int .i64 12, .int .i64 1, .int .i64 1, .int .i64 0, .int .u64 1, .int .u64 0, .int .u64 0, .int .u64 0, .int .u64 0, .int .u64 0, .int .i64 0, .int .u32 0, .int .i64 0, .int .i64 0, .int .i64 0, .int .u64 0, .int .i64 0, .int .i64 0, .int .u64 0, .slice none 0 0, .bool false, .int .i64 0, .slice none 0 0, .slice p2 x1.length c3, .slice none 0 0]] w fun v w' => v = .bool true ∧ St g w' [F] ih := by
  refine f_in (vs := [.agg #[.int .i64 12, .int .i64 1, .int .i64 1, .int .i64 0, .int .u64 1, .int .u64 0, .int .u64 0, .int .u64 0, .int .u64 0, .int .u64 0, .int .i64 0, .int .u32 0, .int .i64 0, .int .i64 0, .int .i64 0, .int .u64 0, .int .i64 0, .int .i64 0, .int .u64 0, .slice none 0 0, .bool false, .int .i64 0, .slice none 0 0, .slice p2 x1.length c3, .slice none 0 0]]) Tryz.func91 rfl 6 rfl (by kernel_rfl) [(0, .agg #[.int .i64 12, .int .i64 1, .int .i64 1, .int .i64 0, .int .u64 1, .int .u64 0, .int .u64 0, .int .u64 0, .int .u64 0, .int .u64 0, .int .i64 0, .int .u32 0, .int .i64 0, .int .i64 0, .int .i64 0, .int .u64 0, .int .i64 0, .int .i64 0, .int .u64 0, .slice none 0 0, .bool false, .int .i64 0, .slice none 0 0, .slice p2 x1.length c3, .slice none 0 0])] (by kernel_rfl) fun a Qf hQ hQn hs => ?_
  refine c_seq ?_
  refine c_region ?_
  refine s_new hs hw [.int .i64 12, .int .i64 1, .int .i64 1, .int .i64 0, .int .u64 1, .int .u64 0, .int .u64 0, .int .u64 0, .int .u64 0, .int .u64 0, .int .i64 0, .int .u32 0, .int .i64 0, .int .i64 0, .int .i64 0, .int .u64 0, .int .i64 0, .int .i64 0, .int .u64 0, .slice none 0 0, .bool false, .int .i64 0, .slice none 0 0, .slice p2 x1.length c3, .slice none 0 0] 90 (fun b => .pointer (some ⟨b, 0, none⟩)) (by kernel_rfl) (fun _ => by kernel_rfl) fun a w b13 hs hw => ?_
  refine pures hs 1 [1] [(1, .pointer (some ⟨b13, 0, none⟩))] (by kernel_rfl) fun a hs => ?_
  refine s_end ?_
  refine c_seq ?_
  refine c_region ?_
  refine pures hs 1 [3] [(3, .pointer (some ⟨b13, 4, none⟩))] (by kernel_rfl) fun a hs => ?_
  refine s_load hs (hw.at_ 0 rfl) 4 (by kernel_rfl) (by kernel_rfl) (v := .int .u64 1) (by kernel_rfl) fun a hs => ?_
  refine pures hs 2 [2] [(2, .bool true)] (by kernel_rfl) fun a hs => ?_
  refine s_end ?_
  refine c_ret ?_
  obtain rfl := someE hk
  refine hQ _ _ (f_ret1 hs rfl (v := .bool true) (by kernel_rfl) ⟨rfl, hw.pick [1] (by kernel_rfl)⟩)
def letter_any : Option Unit :=
  some ()
theorem letter_any_s {x1 : List M26} {p2 : Option Addr} {c3 : Nat} {r : Unit} (hk : letter_any = some r) {g w : World} {F : Ch} {ih : IH} (h4 : RSl e26 ih [] p2 c3 x1) (hw : St g w [F] ih) :
    CallsR Tryz.prog 96 #[.agg #[.int .i64 12, .int .i64 1, .int .i64 1, .int .i64 0, .int .u64 1, .int .u64 0, .int .u64 0, .int .u64 0, .int .u64 0, .int .u64 0, .int .i64 0, .int .u32 0, .int .i64 0, .int .i64 0, .int .i64 0, .int .u64 0, .int .i64 0, .int .i64 0, .int .u64 0, .slice none 0 0, .bool false, .int .i64 0, .slice none 0 0, .slice p2 x1.length c3, .slice none 0 0]] w fun v w' => v = .bool true ∧ St g w' [F] ih := by
  refine f_in (vs := [.agg #[.int .i64 12, .int .i64 1, .int .i64 1, .int .i64 0, .int .u64 1, .int .u64 0, .int .u64 0, .int .u64 0, .int .u64 0, .int .u64 0, .int .i64 0, .int .u32 0, .int .i64 0, .int .i64 0, .int .i64 0, .int .u64 0, .int .i64 0, .int .i64 0, .int .u64 0, .slice none 0 0, .bool false, .int .i64 0, .slice none 0 0, .slice p2 x1.length c3, .slice none 0 0]]) Tryz.func96 rfl 3 rfl (by kernel_rfl) [(0, .agg #[.int .i64 12, .int .i64 1, .int .i64 1, .int .i64 0, .int .u64 1, .int .u64 0, .int .u64 0, .int .u64 0, .int .u64 0, .int .u64 0, .int .i64 0, .int .u32 0, .int .i64 0, .int .i64 0, .int .i64 0, .int .u64 0, .int .i64 0, .int .i64 0, .int .u64 0, .slice none 0 0, .bool false, .int .i64 0, .slice none 0 0, .slice p2 x1.length c3, .slice none 0 0])] (by kernel_rfl) fun a Qf hQ hQn hs => ?_
  refine c_seq ?_
  refine c_region ?_
  refine s_new hs hw [.int .i64 12, .int .i64 1, .int .i64 1, .int .i64 0, .int .u64 1, .int .u64 0, .int .u64 0, .int .u64 0, .int .u64 0, .int .u64 0, .int .i64 0, .int .u32 0, .int .i64 0, .int .i64 0, .int .i64 0, .int .u64 0, .int .i64 0, .int .i64 0, .int .u64 0, .slice none 0 0, .bool false, .int .i64 0, .slice none 0 0, .slice p2 x1.length c3, .slice none 0 0] 90 (fun b => .pointer (some ⟨b, 0, none⟩)) (by kernel_rfl) (fun _ => by kernel_rfl) fun a w b13 hs hw => ?_
  refine pures hs 1 [] [] (by kernel_rfl) fun a hs => ?_
  refine s_end ?_
  refine c_seq ?_
  refine c_region ?_
  refine pures hs 1 [2] [(2, .bool true)] (by kernel_rfl) fun a hs => ?_
  refine s_end ?_
  refine c_ret ?_
  obtain rfl := someE hk
  refine hQ _ _ (f_ret1 hs rfl (v := .bool true) (by kernel_rfl) ⟨rfl, hw.pick [1] (by kernel_rfl)⟩)
def letter_update (x1 : M26) : Option Bool :=
  if ((!(false == (x1.f0 == 0))) || ((decide (x1.f1 < 1)) || ((decide (x1.f1 > 6)) || (decide (x1.f2 < 1))))) = true then some false
  else if (bif (x1.f3 == 2) then ((x1.f5 != 0) || ((x1.f3 != 2) && (x1.f3 != 3))) else ((x1.f3 != 2) && (x1.f3 != 3))) = true then some false
  else some (decide ((x1.f6.length : Int) ≤ 2048))
theorem letter_update_s {x1 : M26} {p2 : Option Addr} {c3 : Nat} {r : Bool} (hk : letter_update x1 = some r) {g w : World} {F : Ch} {ih : IH} (h4 : RSl e5 ih [] p2 c3 x1.f6) (hw : St g w [F] ih) :
    CallsR Tryz.prog 151 #[.agg #[.int .u64 x1.f0, .int .i64 x1.f1, .int .u64 x1.f2, .int .i64 x1.f3, .int .u32 x1.f4, .int .u64 x1.f5, .slice p2 x1.f6.length c3], .bool false] w fun v w' => v = .bool r ∧ St g w' [F] ih := by
  refine f_in (vs := [.agg #[.int .u64 x1.f0, .int .i64 x1.f1, .int .u64 x1.f2, .int .i64 x1.f3, .int .u32 x1.f4, .int .u64 x1.f5, .slice p2 x1.f6.length c3], .bool false]) Tryz.func151 rfl 49 rfl (by kernel_rfl) [(0, .agg #[.int .u64 x1.f0, .int .i64 x1.f1, .int .u64 x1.f2, .int .i64 x1.f3, .int .u32 x1.f4, .int .u64 x1.f5, .slice p2 x1.f6.length c3]), (1, .bool false)] (by kernel_rfl) fun a Qf hQ hQn hs => ?_
  refine c_seq ?_
  refine c_region ?_
  refine s_new hs hw [.int .u64 x1.f0, .int .i64 x1.f1, .int .u64 x1.f2, .int .i64 x1.f3, .int .u32 x1.f4, .int .u64 x1.f5, .slice p2 x1.f6.length c3] 26 (fun b => .pointer (some ⟨b, 0, none⟩)) (by kernel_rfl) (fun _ => by kernel_rfl) fun a w b40 hs hw => ?_
  refine pures hs 1 [1, 2] [(1, .bool false), (2, .pointer (some ⟨b40, 0, none⟩))] (by kernel_rfl) fun a hs => ?_
  refine s_end ?_
  refine c_seq ?_
  refine c_block ?_
  refine c_seq ?_
  obtain ⟨J49, hJ49⟩ : ∃ J : Act → World → Prop, ∀ a w, J a w ↔ (Sees a 49 [(2, .pointer (some ⟨b40, 0, none⟩)), (5, .bool ((!(false == (x1.f0 == 0))) || ((decide (x1.f1 < 1)) || ((decide (x1.f1 > 6)) || (decide (x1.f2 < 1))))))] ∧ St g w [bx b40 [.int .u64 x1.f0, .int .i64 x1.f1, .int .u64 x1.f2, .int .i64 x1.f3, .int .u32 x1.f4, .int .u64 x1.f5, .slice p2 x1.f6.length c3] 26, F] ih) := ⟨_, fun _ _ => Iff.rfl⟩
  refine c_regJ J49 ?_ ?_
  · refine pures hs 2 [2, 6, 7] [(2, .pointer (some ⟨b40, 0, none⟩)), (6, .bool false), (7, .pointer (some ⟨b40, 0, none⟩))] (by kernel_rfl) fun a hs => ?_
    refine s_load hs (hw.at_ 0 rfl) 0 (by kernel_rfl) (by kernel_rfl) (v := .int .u64 x1.f0) (by kernel_rfl) fun a hs => ?_
    refine pures hs 3 [2, 11] [(2, .pointer (some ⟨b40, 0, none⟩)), (11, .bool (!(false == (x1.f0 == 0))))] (by kernel_rfl) fun a hs => ?_
    rcases boolE (!(false == (x1.f0 == 0))) with h50 | h50
    · replace hs := hs.altB 11 true (by kernel_rfl) h50
      refine pures hs 15 [2, 5] [(2, .pointer (some ⟨b40, 0, none⟩)), (5, .bool true)] (by kernel_rfl) fun a hs => ?_
      refine s_end ?_
      exact (hJ49 _ _).2 ⟨(hs.altB 5 ((!(false == (x1.f0 == 0))) || ((decide (x1.f1 < 1)) || ((decide (x1.f1 > 6)) || (decide (x1.f2 < 1))))) (by kernel_rfl) (by rw [h50] <;> rfl)).cast [2, 5] (by kernel_rfl), hw.pick [0, 1] (by kernel_rfl)⟩
    replace hs := hs.altB 11 false (by kernel_rfl) h50
    refine pures hs 1 [2, 11, 12] [(2, .pointer (some ⟨b40, 0, none⟩)), (11, .bool false), (12, .pointer (some ⟨b40, 1, none⟩))] (by kernel_rfl) fun a hs => ?_
    refine s_load hs (hw.at_ 0 rfl) 1 (by kernel_rfl) (by kernel_rfl) (v := .int .i64 x1.f1) (by kernel_rfl) fun a hs => ?_
    refine pures hs 3 [2, 16] [(2, .pointer (some ⟨b40, 0, none⟩)), (16, .bool (decide (x1.f1 < 1)))] (by kernel_rfl) fun a hs => ?_
    rcases boolE (decide (x1.f1 < 1)) with h51 | h51
    · replace hs := hs.altB 16 true (by kernel_rfl) h51
      refine pures hs 10 [2, 5] [(2, .pointer (some ⟨b40, 0, none⟩)), (5, .bool true)] (by kernel_rfl) fun a hs => ?_
      refine s_end ?_
      exact (hJ49 _ _).2 ⟨(hs.altB 5 ((!(false == (x1.f0 == 0))) || ((decide (x1.f1 < 1)) || ((decide (x1.f1 > 6)) || (decide (x1.f2 < 1))))) (by kernel_rfl) (by rw [h50, h51] <;> rfl)).cast [2, 5] (by kernel_rfl), hw.pick [0, 1] (by kernel_rfl)⟩
    replace hs := hs.altB 16 false (by kernel_rfl) h51
    refine pures hs 1 [2, 16, 17] [(2, .pointer (some ⟨b40, 0, none⟩)), (16, .bool false), (17, .pointer (some ⟨b40, 1, none⟩))] (by kernel_rfl) fun a hs => ?_
    refine s_load hs (hw.at_ 0 rfl) 1 (by kernel_rfl) (by kernel_rfl) (v := .int .i64 x1.f1) (by kernel_rfl) fun a hs => ?_
    refine pures hs 3 [2, 21] [(2, .pointer (some ⟨b40, 0, none⟩)), (21, .bool (decide (x1.f1 > 6)))] (by kernel_rfl) fun a hs => ?_
    rcases boolE (decide (x1.f1 > 6)) with h52 | h52
    · replace hs := hs.altB 21 true (by kernel_rfl) h52
      refine pures hs 5 [2, 5] [(2, .pointer (some ⟨b40, 0, none⟩)), (5, .bool true)] (by kernel_rfl) fun a hs => ?_
      refine s_end ?_
      exact (hJ49 _ _).2 ⟨(hs.altB 5 ((!(false == (x1.f0 == 0))) || ((decide (x1.f1 < 1)) || ((decide (x1.f1 > 6)) || (decide (x1.f2 < 1))))) (by kernel_rfl) (by rw [h50, h51, h52] <;> rfl)).cast [2, 5] (by kernel_rfl), hw.pick [0, 1] (by kernel_rfl)⟩
    replace hs := hs.altB 21 false (by kernel_rfl) h52
    refine pures hs 1 [2, 21, 22] [(2, .pointer (some ⟨b40, 0, none⟩)), (21, .bool false), (22, .pointer (some ⟨b40, 2, none⟩))] (by kernel_rfl) fun a hs => ?_
    refine s_load hs (hw.at_ 0 rfl) 2 (by kernel_rfl) (by kernel_rfl) (v := .int .u64 x1.f2) (by kernel_rfl) fun a hs => ?_
    refine pures hs 3 [2, 5] [(2, .pointer (some ⟨b40, 0, none⟩)), (5, .bool (decide (x1.f2 < 1)))] (by kernel_rfl) fun a hs => ?_
    refine s_end ?_
    exact (hJ49 _ _).2 ⟨(hs.altB 5 ((!(false == (x1.f0 == 0))) || ((decide (x1.f1 < 1)) || ((decide (x1.f1 > 6)) || (decide (x1.f2 < 1))))) (by kernel_rfl) (by rw [h50, h51, h52] <;> rfl)).cast [2, 5] (by kernel_rfl), hw.pick [0, 1] (by kernel_rfl)⟩
  intro a w hh
  obtain ⟨hs, hw⟩ := (hJ49 _ _).1 hh
  rcases ifbE hk with ⟨h53, hk⟩ | ⟨h53, hk⟩
  · refine c_cond1 hs (by kernel_rfl) (t := ((!(false == (x1.f0 == 0))) || ((decide (x1.f1 < 1)) || ((decide (x1.f1 > 6)) || (decide (x1.f2 < 1)))))) (by kernel_rfl) h53 ?_
    refine c_seq ?_
    refine c_region ?_
    refine pures hs 1 [4] [(4, .bool false)] (by kernel_rfl) fun a hs => ?_
    refine s_end ?_
    refine c_ret ?_
    obtain rfl := someE hk
    refine hQ _ _ (f_ret1 hs rfl (v := .bool false) (by kernel_rfl) ⟨rfl, hw.pick [1] (by kernel_rfl)⟩)
  refine c_cond0 hs (by kernel_rfl) (t := ((!(false == (x1.f0 == 0))) || ((decide (x1.f1 < 1)) || ((decide (x1.f1 > 6)) || (decide (x1.f2 < 1)))))) (by kernel_rfl) h53 ?_
  refine c_seq ?_
  obtain ⟨J63, hJ63⟩ : ∃ J : Act → World → Prop, ∀ a w, J a w ↔ (Sees a 49 [(2, .pointer (some ⟨b40, 0, none⟩)), (26, .bool (bif (x1.f3 == 2) then ((x1.f5 != 0) || ((x1.f3 != 2) && (x1.f3 != 3))) else ((x1.f3 != 2) && (x1.f3 != 3))))] ∧ St g w [bx b40 [.int .u64 x1.f0, .int .i64 x1.f1, .int .u64 x1.f2, .int .i64 x1.f3, .int .u32 x1.f4, .int .u64 x1.f5, .slice p2 x1.f6.length c3] 26, F] ih) := ⟨_, fun _ _ => Iff.rfl⟩
  refine c_regJ J63 ?_ ?_
  · refine pures hs 1 [2, 27] [(2, .pointer (some ⟨b40, 0, none⟩)), (27, .pointer (some ⟨b40, 3, none⟩))] (by kernel_rfl) fun a hs => ?_
    refine s_load hs (hw.at_ 0 rfl) 3 (by kernel_rfl) (by kernel_rfl) (v := .int .i64 x1.f3) (by kernel_rfl) fun a hs => ?_
    refine pures hs 2 [2, 30] [(2, .pointer (some ⟨b40, 0, none⟩)), (30, .bool (x1.f3 == 2))] (by kernel_rfl) fun a hs => ?_
    rcases boolE (x1.f3 == 2) with h64 | h64
    · replace hs := hs.altB 30 true (by kernel_rfl) h64
      refine pures hs 1 [2, 30, 31] [(2, .pointer (some ⟨b40, 0, none⟩)), (30, .bool true), (31, .pointer (some ⟨b40, 5, none⟩))] (by kernel_rfl) fun a hs => ?_
      refine s_load hs (hw.at_ 0 rfl) 5 (by kernel_rfl) (by kernel_rfl) (v := .int .u64 x1.f5) (by kernel_rfl) fun a hs => ?_
      refine pures hs 3 [2, 35] [(2, .pointer (some ⟨b40, 0, none⟩)), (35, .bool (x1.f5 != 0))] (by kernel_rfl) fun a hs => ?_
      rcases boolE (x1.f5 != 0) with h65 | h65
      · replace hs := hs.altB 35 true (by kernel_rfl) h65
        refine pures hs 10 [2, 26] [(2, .pointer (some ⟨b40, 0, none⟩)), (26, .bool true)] (by kernel_rfl) fun a hs => ?_
        refine s_end ?_
        exact (hJ63 _ _).2 ⟨(hs.altB 26 (bif (x1.f3 == 2) then ((x1.f5 != 0) || ((x1.f3 != 2) && (x1.f3 != 3))) else ((x1.f3 != 2) && (x1.f3 != 3))) (by kernel_rfl) (by rw [h64, h65] <;> rfl)).cast [2, 26] (by kernel_rfl), hw.pick [0, 1] (by kernel_rfl)⟩
      replace hs := hs.altB 35 false (by kernel_rfl) h65
      refine pures hs 1 [2, 35, 36] [(2, .pointer (some ⟨b40, 0, none⟩)), (35, .bool false), (36, .pointer (some ⟨b40, 3, none⟩))] (by kernel_rfl) fun a hs => ?_
      refine s_load hs (hw.at_ 0 rfl) 3 (by kernel_rfl) (by kernel_rfl) (v := .int .i64 x1.f3) (by kernel_rfl) fun a hs => ?_
      refine pures hs 2 [2, 35, 39] [(2, .pointer (some ⟨b40, 0, none⟩)), (35, .bool false), (39, .bool (x1.f3 != 2))] (by kernel_rfl) fun a hs => ?_
      rcases boolE (x1.f3 != 2) with h66 | h66
      · replace hs := hs.altB 39 true (by kernel_rfl) h66
        refine pures hs 1 [2, 35, 39, 40] [(2, .pointer (some ⟨b40, 0, none⟩)), (35, .bool false), (39, .bool true), (40, .pointer (some ⟨b40, 3, none⟩))] (by kernel_rfl) fun a hs => ?_
        refine s_load hs (hw.at_ 0 rfl) 3 (by kernel_rfl) (by kernel_rfl) (v := .int .i64 x1.f3) (by kernel_rfl) fun a hs => ?_
        refine pures hs 4 [2, 26] [(2, .pointer (some ⟨b40, 0, none⟩)), (26, .bool (x1.f3 != 3))] (by kernel_rfl) fun a hs => ?_
        refine s_end ?_
        exact (hJ63 _ _).2 ⟨(hs.altB 26 (bif (x1.f3 == 2) then ((x1.f5 != 0) || ((x1.f3 != 2) && (x1.f3 != 3))) else ((x1.f3 != 2) && (x1.f3 != 3))) (by kernel_rfl) (by rw [h64, h65, h66] <;> rfl)).cast [2, 26] (by kernel_rfl), hw.pick [0, 1] (by kernel_rfl)⟩
      replace hs := hs.altB 39 false (by kernel_rfl) h66
      refine pures hs 6 [2, 26] [(2, .pointer (some ⟨b40, 0, none⟩)), (26, .bool false)] (by kernel_rfl) fun a hs => ?_
      refine s_end ?_
      exact (hJ63 _ _).2 ⟨(hs.altB 26 (bif (x1.f3 == 2) then ((x1.f5 != 0) || ((x1.f3 != 2) && (x1.f3 != 3))) else ((x1.f3 != 2) && (x1.f3 != 3))) (by kernel_rfl) (by rw [h64, h65, h66] <;> rfl)).cast [2, 26] (by kernel_rfl), hw.pick [0, 1] (by kernel_rfl)⟩
    replace hs := hs.altB 30 false (by kernel_rfl) h64
    refine pures hs 6 [2, 35, 36] [(2, .pointer (some ⟨b40, 0, none⟩)), (35, .bool false), (36, .pointer (some ⟨b40, 3, none⟩))] (by kernel_rfl) fun a hs => ?_
    refine s_load hs (hw.at_ 0 rfl) 3 (by kernel_rfl) (by kernel_rfl) (v := .int .i64 x1.f3) (by kernel_rfl) fun a hs => ?_
    refine pures hs 2 [2, 35, 39] [(2, .pointer (some ⟨b40, 0, none⟩)), (35, .bool false), (39, .bool (x1.f3 != 2))] (by kernel_rfl) fun a hs => ?_
    rcases boolE (x1.f3 != 2) with h67 | h67
    · replace hs := hs.altB 39 true (by kernel_rfl) h67
      refine pures hs 1 [2, 35, 39, 40] [(2, .pointer (some ⟨b40, 0, none⟩)), (35, .bool false), (39, .bool true), (40, .pointer (some ⟨b40, 3, none⟩))] (by kernel_rfl) fun a hs => ?_
      refine s_load hs (hw.at_ 0 rfl) 3 (by kernel_rfl) (by kernel_rfl) (v := .int .i64 x1.f3) (by kernel_rfl) fun a hs => ?_
      refine pures hs 4 [2, 26] [(2, .pointer (some ⟨b40, 0, none⟩)), (26, .bool (x1.f3 != 3))] (by kernel_rfl) fun a hs => ?_
      refine s_end ?_
      exact (hJ63 _ _).2 ⟨(hs.altB 26 (bif (x1.f3 == 2) then ((x1.f5 != 0) || ((x1.f3 != 2) && (x1.f3 != 3))) else ((x1.f3 != 2) && (x1.f3 != 3))) (by kernel_rfl) (by rw [h64, h67] <;> rfl)).cast [2, 26] (by kernel_rfl), hw.pick [0, 1] (by kernel_rfl)⟩
    replace hs := hs.altB 39 false (by kernel_rfl) h67
    refine pures hs 6 [2, 26] [(2, .pointer (some ⟨b40, 0, none⟩)), (26, .bool false)] (by kernel_rfl) fun a hs => ?_
    refine s_end ?_
    exact (hJ63 _ _).2 ⟨(hs.altB 26 (bif (x1.f3 == 2) then ((x1.f5 != 0) || ((x1.f3 != 2) && (x1.f3 != 3))) else ((x1.f3 != 2) && (x1.f3 != 3))) (by kernel_rfl) (by rw [h64, h67] <;> rfl)).cast [2, 26] (by kernel_rfl), hw.pick [0, 1] (by kernel_rfl)⟩
  intro a w hh
  obtain ⟨hs, hw⟩ := (hJ63 _ _).1 hh
  rcases ifbE hk with ⟨h68, hk⟩ | ⟨h68, hk⟩
  · refine c_cond1 hs (by kernel_rfl) (t := (bif (x1.f3 == 2) then ((x1.f5 != 0) || ((x1.f3 != 2) && (x1.f3 != 3))) else ((x1.f3 != 2) && (x1.f3 != 3)))) (by kernel_rfl) h68 ?_
    refine c_seq ?_
    refine c_region ?_
    refine pures hs 1 [4] [(4, .bool false)] (by kernel_rfl) fun a hs => ?_
    refine s_end ?_
    refine c_ret ?_
    obtain rfl := someE hk
    refine hQ _ _ (f_ret1 hs rfl (v := .bool false) (by kernel_rfl) ⟨rfl, hw.pick [1] (by kernel_rfl)⟩)
  refine c_cond0 hs (by kernel_rfl) (t := (bif (x1.f3 == 2) then ((x1.f5 != 0) || ((x1.f3 != 2) && (x1.f3 != 3))) else ((x1.f3 != 2) && (x1.f3 != 3)))) (by kernel_rfl) h68 ?_
  refine c_skip ?_
  refine c_seq ?_
  refine c_region ?_
  refine pures hs 1 [45] [(45, .pointer (some ⟨b40, 6, none⟩))] (by kernel_rfl) fun a hs => ?_
  refine s_load hs (hw.at_ 0 rfl) 6 (by kernel_rfl) (by kernel_rfl) (v := .slice p2 x1.f6.length c3) (by kernel_rfl) fun a hs => ?_
  refine pures hs 3 [4] [(4, .bool (decide ((x1.f6.length : Int) ≤ 2048)))] (by kernel_rfl) fun a hs => ?_
  refine s_end ?_
  refine c_ret ?_
  obtain rfl := someE hk
  refine hQ _ _ (f_ret1 hs rfl (v := .bool (decide ((x1.f6.length : Int) ≤ 2048))) (by kernel_rfl) ⟨rfl, hw.pick [1] (by kernel_rfl)⟩)
def letter_updates_1 (x1 : M26) : Option Bool :=
  (letter_update x1).bind fun y23 =>
  some (!y23)
theorem letter_updates_1_s {x1 : M26} {p2 : Option Addr} {c3 : Nat} {b6 : Nat} {r : Bool} (hk : letter_updates_1 x1 = some r) {g w : World} {F : Ch} {ih : IH} (h4 : RSl e5 ih [] p2 c3 x1.f6) (hw : St g w [bx b6 [.bool false] 4, F] ih) :
    CallsR Tryz.prog 150 #[.agg #[.int .u64 x1.f0, .int .i64 x1.f1, .int .u64 x1.f2, .int .i64 x1.f3, .int .u32 x1.f4, .int .u64 x1.f5, .slice p2 x1.f6.length c3], .pointer (some ⟨b6, 0, none⟩)] w fun v w' => v = .bool r ∧ St g w' [bx b6 [.bool false] 4, F] ih := by
  refine f_in (vs := [.agg #[.int .u64 x1.f0, .int .i64 x1.f1, .int .u64 x1.f2, .int .i64 x1.f3, .int .u32 x1.f4, .int .u64 x1.f5, .slice p2 x1.f6.length c3], .pointer (some ⟨b6, 0, none⟩)]) Tryz.func150 rfl 8 rfl (by kernel_rfl) [(0, .agg #[.int .u64 x1.f0, .int .i64 x1.f1, .int .u64 x1.f2, .int .i64 x1.f3, .int .u32 x1.f4, .int .u64 x1.f5, .slice p2 x1.f6.length c3]), (1, .pointer (some ⟨b6, 0, none⟩))] (by kernel_rfl) fun a Qf hQ hQn hs => ?_
  refine c_seq ?_
  refine c_region ?_
  refine s_new hs hw [.int .u64 x1.f0, .int .i64 x1.f1, .int .u64 x1.f2, .int .i64 x1.f3, .int .u32 x1.f4, .int .u64 x1.f5, .slice p2 x1.f6.length c3] 26 (fun b => .pointer (some ⟨b, 0, none⟩)) (by kernel_rfl) (fun _ => by kernel_rfl) fun a w b19 hs hw => ?_
  refine pures hs 1 [1, 2] [(1, .pointer (some ⟨b6, 0, none⟩)), (2, .pointer (some ⟨b19, 0, none⟩))] (by kernel_rfl) fun a hs => ?_
  refine s_end ?_
  refine c_seq ?_
  refine c_region ?_
  refine s_load hs (hw.at_ 0 rfl) 0 (by kernel_rfl) (by kernel_rfl) (v := .agg #[.int .u64 x1.f0, .int .i64 x1.f1, .int .u64 x1.f2, .int .i64 x1.f3, .int .u32 x1.f4, .int .u64 x1.f5, .slice p2 x1.f6.length c3]) (by kernel_rfl) fun a hs => ?_
  refine s_load hs (hw.at_ 1 rfl) 0 (by kernel_rfl) (by kernel_rfl) (v := .bool false) (by kernel_rfl) fun a hs => ?_
  obtain ⟨y23, h24, hk⟩ := bindE hk
  refine s_call hs (by kernel_rfl) (by kernel_rfl) (letter_update_s h24 h4 ((hw.pick [1, 2] (by kernel_rfl)).pack 0)) fun a w v hv hs => ?_
  obtain ⟨rfl, hw⟩ := hv
  replace hw := hw.unpack 0 rfl
  refine pures hs 2 [3] [(3, .bool (!y23))] (by kernel_rfl) fun a hs => ?_
  refine s_end ?_
  refine c_ret ?_
  obtain rfl := someE hk
  refine hQ _ _ (f_ret1 hs rfl (v := .bool (!y23)) (by kernel_rfl) ⟨rfl, hw.pick [0, 1] (by kernel_rfl)⟩)
def slices_IndexFunc_api_Update_api_Update_r3 : Option Int :=
  some (-1)
def slices_IndexFunc_api_Update_api_Update_l4 (x1 : List M26) : Nat → Int → Option (Sum Int Unit)
  | 0, _ => none
  | j + 1, x179 =>
    if (decide (x179 < (x1.length : Int))) = true then (
      (ix x1 x179).bind fun x214 =>
      (letter_updates_1 x214).bind fun y221 =>
      if y221 = true then some (.inl x179)
      else slices_IndexFunc_api_Update_api_Update_l4 x1 j (IntKind.i64.wrap (x179 + 1)))
    else some (.inr ())
def slices_IndexFunc_api_Update_api_Update (k : Nat) (x1 : List M26) : Option Int :=
  (slices_IndexFunc_api_Update_api_Update_l4 x1 k 0 : Option (Sum Int Unit)).bind fun
    | .inl z => some z
    | .inr _ => slices_IndexFunc_api_Update_api_Update_r3
theorem slices_IndexFunc_api_Update_api_Update_s {k : Nat} {x1 : List M26} {p2 : Option Addr} {c3 : Nat} {d5 : Ch} {b8 : Nat} {r : Int} (hk : slices_IndexFunc_api_Update_api_Update k x1 = some r) {g w : World} {F : Ch} {ih : IH} (h4 : RSl e26 ih d5 p2 c3 x1) (h6 : ∀ q ∈ d5, q ∈ F) (hw : St g w [bx b8 [.bool false] 4, F] ih) :
    CallsR Tryz.prog 165 #[.slice p2 x1.length c3, .func (.func 150) #[] #[.pointer (some ⟨b8, 0, none⟩)]] w fun v w' => v = .int .i64 r ∧ St g w' [bx b8 [.bool false] 4, F] ih := by
  refine f_in (vs := [.slice p2 x1.length c3, .func (.func 150) #[] #[.pointer (some ⟨b8, 0, none⟩)]]) Tryz.func165 rfl 19 rfl (by kernel_rfl) [(0, .slice p2 x1.length c3), (1, .func (.func 150) #[] #[.pointer (some ⟨b8, 0, none⟩)])] (by kernel_rfl) fun a Qf hQ hQn hs => ?_
  refine c_seq ?_
  refine c_region ?_
  refine pures hs 1 [0, 1] [(0, .slice p2 x1.length c3), (1, .func (.func 150) #[] #[.pointer (some ⟨b8, 0, none⟩)])] (by kernel_rfl) fun a hs => ?_
  refine s_end ?_
  refine c_seq ?_
  refine c_seq ?_
  refine c_region ?_
  refine pures hs 3 [0, 1, 7, 8] [(0, .slice p2 x1.length c3), (1, .func (.func 150) #[] #[.pointer (some ⟨b8, 0, none⟩)]), (7, .int .i64 (x1.length : Int)), (8, .int .i64 0)] (by kernel_rfl) fun a hs => ?_
  refine s_end ?_
  refine c_block ?_
  obtain ⟨y200, hx201, hk⟩ := bindE hk
  obtain ⟨J202, hJ202⟩ : ∃ J : Act → World → Prop, ∀ a w, J a w ↔ (slices_IndexFunc_api_Update_api_Update_r3 = some r ∧ Sees a 19 [] ∧ St g w [bx b8 [.bool false] 4, F] ih) := ⟨_, fun _ _ => Iff.rfl⟩
  obtain ⟨I203, hI203⟩ : ∃ J : Nat → Act → World → Prop, ∀ j a w, J j a w ↔ (∃ (x179 : Int), slices_IndexFunc_api_Update_api_Update_l4 x1 j x179 = some y200 ∧ Sees a 19 [(0, .slice p2 x1.length c3), (1, .func (.func 150) #[] #[.pointer (some ⟨b8, 0, none⟩)]), (7, .int .i64 (x1.length : Int)), (8, .int .i64 x179)] ∧ St g w [bx b8 [.bool false] 4, F] ih) := ⟨_, fun _ _ _ => Iff.rfl⟩
  refine c_exitJ 0 J202 ?_ ?_
  · refine c_loop I203 k ((hI203 _ _ _).2 ⟨0, hx201, hs.cast [0, 1, 7, 8] (by kernel_rfl), hw.pick [0, 1] (by kernel_rfl)⟩) (fun a w h0 => ?_) fun j a w hh => ?_
    · obtain ⟨_, h, _⟩ := (hI203 _ _ _).1 h0
      cases h
    obtain ⟨x179, hx201, hs, hw⟩ := (hI203 _ _ _).1 hh
    refine c_seq ?_
    refine c_region ?_
    refine pures hs 1 [0, 1, 7, 8, 9] [(0, .slice p2 x1.length c3), (1, .func (.func 150) #[] #[.pointer (some ⟨b8, 0, none⟩)]), (7, .int .i64 (x1.length : Int)), (8, .int .i64 x179), (9, .bool (decide (x179 < (x1.length : Int))))] (by kernel_rfl) fun a hs => ?_
    refine s_end ?_
    refine c_seq ?_
    rcases ifbE hx201 with ⟨h204, hx201⟩ | ⟨h204, hx201⟩
    · refine c_cond1 hs (by kernel_rfl) (t := (decide (x179 < (x1.length : Int)))) (by kernel_rfl) h204 ?_
      refine c_skip ?_
      refine c_seq ?_
      refine c_block ?_
      refine c_seq ?_
      refine c_region ?_
      refine pures hs 2 [0, 1, 7, 8, 5] [(0, .slice p2 x1.length c3), (1, .func (.func 150) #[] #[.pointer (some ⟨b8, 0, none⟩)]), (7, .int .i64 (x1.length : Int)), (8, .int .i64 x179), (5, .int .i64 x179)] (by kernel_rfl) fun a hs => ?_
      refine s_end ?_
      refine c_seq ?_
      refine c_region ?_
      refine pures hs 3 [0, 1, 7, 8, 5, 11, 12, 13] [(0, .slice p2 x1.length c3), (1, .func (.func 150) #[] #[.pointer (some ⟨b8, 0, none⟩)]), (7, .int .i64 (x1.length : Int)), (8, .int .i64 x179), (5, .int .i64 x179), (11, .func (.func 150) #[] #[.pointer (some ⟨b8, 0, none⟩)]), (12, .slice p2 x1.length c3), (13, .int .i64 x179)] (by kernel_rfl) fun a hs => ?_
      obtain ⟨x214, h215, hx201⟩ := bindE hx201
      refine s_index hs h4 (by kernel_rfl) (by kernel_rfl) (k := .i64) (by kernel_rfl) 26 (by kernel_rfl) (by kernel_rfl) h215 fun a r216 cs henc at217 hs => ?_
      obtain ⟨p218, c219, rfl, h220⟩ := henc
      refine s_load hs (at217 _ (((hw.vw 1 rfl).sub h6).anti (Le.refl _))) 0 (by kernel_rfl) (by kernel_rfl) (v := .agg #[.int .u64 x214.f0, .int .i64 x214.f1, .int .u64 x214.f2, .int .i64 x214.f3, .int .u32 x214.f4, .int .u64 x214.f5, .slice p218 x214.f6.length c219]) (by kernel_rfl) fun a hs => ?_
      obtain ⟨y221, h222, hx201⟩ := bindE hx201
      refine s_call hs (by kernel_rfl) (by kernel_rfl) (letter_updates_1_s h222 h220 ((hw.pick [0, 1] (by kernel_rfl)).pack 1)) fun a w v hv hs => ?_
      obtain ⟨rfl, hw⟩ := hv
      replace hw := hw.unpack 1 rfl
      refine s_end ?_
      rcases ifbE hx201 with ⟨h223, hx201⟩ | ⟨h223, hx201⟩
      · refine c_cond1 hs (by kernel_rfl) (t := y221) (by kernel_rfl) h223 ?_
        refine c_seq ?_
        refine c_region ?_
        refine pures hs 2 [4] [(4, .int .i64 x179)] (by kernel_rfl) fun a hs => ?_
        refine s_end ?_
        refine c_ret ?_
        obtain rfl := someE hx201
        obtain rfl := someE hk
        refine hQ _ _ (f_ret1 hs rfl (v := .int .i64 x179) (by kernel_rfl) ⟨rfl, hw.pick [0, 1] (by kernel_rfl)⟩)
      refine c_cond0 hs (by kernel_rfl) (t := y221) (by kernel_rfl) h223 ?_
      refine c_skip ?_
      refine c_region ?_
      refine pures hs 2 [0, 1, 7, 8] [(0, .slice p2 x1.length c3), (1, .func (.func 150) #[] #[.pointer (some ⟨b8, 0, none⟩)]), (7, .int .i64 (x1.length : Int)), (8, .int .i64 (IntKind.i64.wrap (x179 + 1)))] (by kernel_rfl) fun a hs => ?_
      refine s_end ?_
      exact (hI203 _ _ _).2 ⟨(IntKind.i64.wrap (x179 + 1)), hx201, hs.cast [0, 1, 7, 8] (by kernel_rfl), hw.pick [0, 1] (by kernel_rfl)⟩
    refine c_cond0 hs (by kernel_rfl) (t := (decide (x179 < (x1.length : Int)))) (by kernel_rfl) h204 ?_
    refine c_exit ?_
    obtain rfl := someE hx201
    exact (hJ202 _ _).2 ⟨hk, hs.cast [] (by kernel_rfl), hw.pick [0, 1] (by kernel_rfl)⟩
  intro a w hh
  obtain ⟨hk, hs, hw⟩ := (hJ202 _ _).1 hh
  refine c_seq ?_
  refine c_region ?_
  refine pures hs 1 [4] [(4, .int .i64 (-1))] (by kernel_rfl) fun a hs => ?_
  refine s_end ?_
  refine c_ret ?_
  obtain rfl := someE hk
  refine hQ _ _ (f_ret1 hs rfl (v := .int .i64 (-1)) (by kernel_rfl) ⟨rfl, hw.pick [0, 1] (by kernel_rfl)⟩)
def slices_ContainsFunc_api_Update_api_Update (k : Nat) (x1 : List M26) : Option Bool :=
  (slices_IndexFunc_api_Update_api_Update k x1).bind fun y17 =>
  some (decide (y17 ≥ 0))
theorem slices_ContainsFunc_api_Update_api_Update_s {k : Nat} {x1 : List M26} {p2 : Option Addr} {c3 : Nat} {d5 : Ch} {b8 : Nat} {r : Bool} (hk : slices_ContainsFunc_api_Update_api_Update k x1 = some r) {g w : World} {F : Ch} {ih : IH} (h4 : RSl e26 ih d5 p2 c3 x1) (h6 : ∀ q ∈ d5, q ∈ F) (hw : St g w [bx b8 [.bool false] 4, F] ih) :
    CallsR Tryz.prog 149 #[.slice p2 x1.length c3, .func (.func 150) #[] #[.pointer (some ⟨b8, 0, none⟩)]] w fun v w' => v = .bool r ∧ St g w' [bx b8 [.bool false] 4, F] ih := by
  refine f_in (vs := [.slice p2 x1.length c3, .func (.func 150) #[] #[.pointer (some ⟨b8, 0, none⟩)]]) Tryz.func149 rfl 9 rfl (by kernel_rfl) [(0, .slice p2 x1.length c3), (1, .func (.func 150) #[] #[.pointer (some ⟨b8, 0, none⟩)])] (by kernel_rfl) fun a Qf hQ hQn hs => ?_
  refine c_seq ?_
  refine c_region ?_
  refine pures hs 1 [0, 1] [(0, .slice p2 x1.length c3), (1, .func (.func 150) #[] #[.pointer (some ⟨b8, 0, none⟩)])] (by kernel_rfl) fun a hs => ?_
  refine s_end ?_
  refine c_seq ?_
  refine c_region ?_
  refine pures hs 2 [5, 6] [(5, .slice p2 x1.length c3), (6, .func (.func 150) #[] #[.pointer (some ⟨b8, 0, none⟩)])] (by kernel_rfl) fun a hs => ?_
  obtain ⟨y17, h18, hk⟩ := bindE hk
  refine s_call hs (by kernel_rfl) (by kernel_rfl) (slices_IndexFunc_api_Update_api_Update_s h18 h4 (fun q hq => memF 0 rfl q (h6 q hq)) ((hw.pick [0, 1] (by kernel_rfl)).pack 1)) fun a w v hv hs => ?_
  obtain ⟨rfl, hw⟩ := hv
  replace hw := hw.unpack 1 rfl
  refine pures hs 2 [4] [(4, .bool (decide (y17 ≥ 0)))] (by kernel_rfl) fun a hs => ?_
  refine s_end ?_
  refine c_ret ?_
  obtain rfl := someE hk
  refine hQ _ _ (f_ret1 hs rfl (v := .bool (decide (y17 ≥ 0))) (by kernel_rfl) ⟨rfl, hw.pick [0, 1] (by kernel_rfl)⟩)
def letter_updates (k : Nat) (x1 : List M26) : Option Bool :=
  if (decide ((x1.length : Int) > 4)) = true then some false
  else (slices_ContainsFunc_api_Update_api_Update k x1).bind fun y31 =>
  some (!y31)
theorem letter_updates_s {k : Nat} {x1 : List M26} {p2 : Option Addr} {c3 : Nat} {r : Bool} (hk : letter_updates k x1 = some r) {g w : World} {F : Ch} {ih : IH} (h4 : RSl e26 ih [] p2 c3 x1) (hw : St g w [F] ih) :
    CallsR Tryz.prog 128 #[.agg #[.int .i64 12, .int .i64 1, .int .i64 1, .int .i64 0, .int .u64 1, .int .u64 0, .int .u64 0, .int .u64 0, .int .u64 0, .int .u64 0, .int .i64 0, .int .u32 0, .int .i64 0, .int .i64 0, .int .i64 0, .int .u64 0, .int .i64 0, .int .i64 0, .int .u64 0, .slice none 0 0, .bool false, .int .i64 0, .slice none 0 0, .slice p2 x1.length c3, .slice none 0 0]] w fun v w' => v = .bool r ∧ St g w' [F] ih := by
  refine f_in (vs := [.agg #[.int .i64 12, .int .i64 1, .int .i64 1, .int .i64 0, .int .u64 1, .int .u64 0, .int .u64 0, .int .u64 0, .int .u64 0, .int .u64 0, .int .i64 0, .int .u32 0, .int .i64 0, .int .i64 0, .int .i64 0, .int .u64 0, .int .i64 0, .int .i64 0, .int .u64 0, .slice none 0 0, .bool false, .int .i64 0, .slice none 0 0, .slice p2 x1.length c3, .slice none 0 0]]) Tryz.func128 rfl 25 rfl (by kernel_rfl) [(0, .agg #[.int .i64 12, .int .i64 1, .int .i64 1, .int .i64 0, .int .u64 1, .int .u64 0, .int .u64 0, .int .u64 0, .int .u64 0, .int .u64 0, .int .i64 0, .int .u32 0, .int .i64 0, .int .i64 0, .int .i64 0, .int .u64 0, .int .i64 0, .int .i64 0, .int .u64 0, .slice none 0 0, .bool false, .int .i64 0, .slice none 0 0, .slice p2 x1.length c3, .slice none 0 0])] (by kernel_rfl) fun a Qf hQ hQn hs => ?_
  refine c_seq ?_
  refine c_region ?_
  refine s_new hs hw [.int .i64 12, .int .i64 1, .int .i64 1, .int .i64 0, .int .u64 1, .int .u64 0, .int .u64 0, .int .u64 0, .int .u64 0, .int .u64 0, .int .i64 0, .int .u32 0, .int .i64 0, .int .i64 0, .int .i64 0, .int .u64 0, .int .i64 0, .int .i64 0, .int .u64 0, .slice none 0 0, .bool false, .int .i64 0, .slice none 0 0, .slice p2 x1.length c3, .slice none 0 0] 90 (fun b => .pointer (some ⟨b, 0, none⟩)) (by kernel_rfl) (fun _ => by kernel_rfl) fun a w b22 hs hw => ?_
  refine pures hs 1 [1] [(1, .pointer (some ⟨b22, 0, none⟩))] (by kernel_rfl) fun a hs => ?_
  refine s_end ?_
  refine c_seq ?_
  refine c_region ?_
  refine pures hs 1 [1, 4] [(1, .pointer (some ⟨b22, 0, none⟩)), (4, .pointer (some ⟨b22, 0, none⟩))] (by kernel_rfl) fun a hs => ?_
  refine s_load hs (hw.at_ 0 rfl) 0 (by kernel_rfl) (by kernel_rfl) (v := .int .i64 12) (by kernel_rfl) fun a hs => ?_
  refine pures hs 1 [1, 6] [(1, .pointer (some ⟨b22, 0, none⟩)), (6, .bool false)] (by kernel_rfl) fun a hs => ?_
  refine s_new hs hw [.bool false] 4 (fun b => .pointer (some ⟨b, 0, none⟩)) (by kernel_rfl) (fun _ => by kernel_rfl) fun a w b26 hs hw => ?_
  refine s_store hs hw 0 rfl 0 (by kernel_rfl) (by kernel_rfl) (v := .bool false) (by kernel_rfl) (by kernel_rfl) (by kernel_rfl) (by kernel_rfl) fun a w hs hw => ?_
  refine s_end ?_
  refine c_seq ?_
  refine c_seq ?_
  refine c_region ?_
  refine s_load hs (hw.at_ 0 rfl) 0 (by kernel_rfl) (by kernel_rfl) (v := .bool false) (by kernel_rfl) fun a hs => ?_
  refine pures hs 8 [1, 3, 14, 15] [(1, .pointer (some ⟨b22, 0, none⟩)), (3, .pointer (some ⟨b26, 0, none⟩)), (14, .bool false), (15, .pointer (some ⟨b22, 23, none⟩))] (by kernel_rfl) fun a hs => ?_
  refine s_load hs (hw.at_ 1 rfl) 23 (by kernel_rfl) (by kernel_rfl) (v := .slice p2 x1.length c3) (by kernel_rfl) fun a hs => ?_
  refine pures hs 3 [1, 3, 19] [(1, .pointer (some ⟨b22, 0, none⟩)), (3, .pointer (some ⟨b26, 0, none⟩)), (19, .bool (decide ((x1.length : Int) > 4)))] (by kernel_rfl) fun a hs => ?_
  refine s_end ?_
  rcases ifbE hk with ⟨h28, hk⟩ | ⟨h28, hk⟩
  · refine c_cond1 hs (by kernel_rfl) (t := (decide ((x1.length : Int) > 4))) (by kernel_rfl) h28 ?_
    refine c_seq ?_
    refine c_region ?_
    refine pures hs 1 [2] [(2, .bool false)] (by kernel_rfl) fun a hs => ?_
    refine s_end ?_
    refine c_ret ?_
    obtain rfl := someE hk
    refine hQ _ _ (f_ret1 hs rfl (v := .bool false) (by kernel_rfl) ⟨rfl, hw.pick [2] (by kernel_rfl)⟩)
  refine c_cond0 hs (by kernel_rfl) (t := (decide ((x1.length : Int) > 4))) (by kernel_rfl) h28 ?_
  refine c_skip ?_
  refine c_seq ?_
  refine c_region ?_
  refine pures hs 1 [3, 20] [(3, .pointer (some ⟨b26, 0, none⟩)), (20, .pointer (some ⟨b22, 23, none⟩))] (by kernel_rfl) fun a hs => ?_
  refine s_load hs (hw.at_ 1 rfl) 23 (by kernel_rfl) (by kernel_rfl) (v := .slice p2 x1.length c3) (by kernel_rfl) fun a hs => ?_
  refine pures hs 1 [21, 22] [(21, .slice p2 x1.length c3), (22, .func (.func 150) #[] #[.pointer (some ⟨b26, 0, none⟩)])] (by kernel_rfl) fun a hs => ?_
  obtain ⟨y31, h32, hk⟩ := bindE hk
  refine s_call hs (by kernel_rfl) (by kernel_rfl) (slices_ContainsFunc_api_Update_api_Update_s h32 h4 (nilSub _) ((hw.pick [0, 2] (by kernel_rfl)).pack 1)) fun a w v hv hs => ?_
  obtain ⟨rfl, hw⟩ := hv
  replace hw := hw.unpack 1 rfl
  refine pures hs 2 [2] [(2, .bool (!y31))] (by kernel_rfl) fun a hs => ?_
  refine s_end ?_
  refine c_ret ?_
  obtain rfl := someE hk
  refine hQ _ _ (f_ret1 hs rfl (v := .bool (!y31)) (by kernel_rfl) ⟨rfl, hw.pick [1] (by kernel_rfl)⟩)
def letter_Check_r2 (k : Nat) (x1 : List M26) (x362 : Bool) : Option Int :=
  if x362 = true then some 4
  else (letter_updates k x1).bind fun y637 =>
  if (!y637) = true then some 4
  else some 0
def letter_Check (k : Nat) (x1 : List M26) : Option Int :=
  ((letter_bare x1).bind fun y647 =>
    (letter_Same k x1 y647.1 y647.2.1 y647.2.2.1 y647.2.2.2.1 y647.2.2.2.2).bind fun y652 =>
    some (!y652) : Option Bool).bind fun s654 => letter_Check_r2 k x1 s654
theorem letter_Check_s {k : Nat} {x1 : List M26} {p2 : Option Addr} {c3 : Nat} {r : Int} (hk : letter_Check k x1 = some r) {g w : World} {F : Ch} {ih : IH} (h4 : RSl e26 ih [] p2 c3 x1) (hG : Glob 0 gl0 110 ih) (hw : St g w [F] ih) :
    CallsR Tryz.prog 51 #[.agg #[.int .i64 12, .int .i64 1, .int .i64 1, .int .i64 0, .int .u64 1, .int .u64 0, .int .u64 0, .int .u64 0, .int .u64 0, .int .u64 0, .int .i64 0, .int .u32 0, .int .i64 0, .int .i64 0, .int .i64 0, .int .u64 0, .int .i64 0, .int .i64 0, .int .u64 0, .slice none 0 0, .bool false, .int .i64 0, .slice none 0 0, .slice p2 x1.length c3, .slice none 0 0]] w fun v w' => v = .int .i64 r ∧ St g w' [F] ih := by
  refine f_in (vs := [.agg #[.int .i64 12, .int .i64 1, .int .i64 1, .int .i64 0, .int .u64 1, .int .u64 0, .int .u64 0, .int .u64 0, .int .u64 0, .int .u64 0, .int .i64 0, .int .u32 0, .int .i64 0, .int .i64 0, .int .i64 0, .int .u64 0, .int .i64 0, .int .i64 0, .int .u64 0, .slice none 0 0, .bool false, .int .i64 0, .slice none 0 0, .slice p2 x1.length c3, .slice none 0 0]]) Tryz.func51 rfl 40 rfl (by kernel_rfl) [(0, .agg #[.int .i64 12, .int .i64 1, .int .i64 1, .int .i64 0, .int .u64 1, .int .u64 0, .int .u64 0, .int .u64 0, .int .u64 0, .int .u64 0, .int .i64 0, .int .u32 0, .int .i64 0, .int .i64 0, .int .i64 0, .int .u64 0, .int .i64 0, .int .i64 0, .int .u64 0, .slice none 0 0, .bool false, .int .i64 0, .slice none 0 0, .slice p2 x1.length c3, .slice none 0 0])] (by kernel_rfl) fun a Qf hQ hQn hs => ?_
  refine c_seq ?_
  refine c_region ?_
  refine s_new hs hw [.int .i64 12, .int .i64 1, .int .i64 1, .int .i64 0, .int .u64 1, .int .u64 0, .int .u64 0, .int .u64 0, .int .u64 0, .int .u64 0, .int .i64 0, .int .u32 0, .int .i64 0, .int .i64 0, .int .i64 0, .int .u64 0, .int .i64 0, .int .i64 0, .int .u64 0, .slice none 0 0, .bool false, .int .i64 0, .slice none 0 0, .slice p2 x1.length c3, .slice none 0 0] 90 (fun b => .pointer (some ⟨b, 0, none⟩)) (by kernel_rfl) (fun _ => by kernel_rfl) fun a w b333 hs hw => ?_
  refine pures hs 1 [1] [(1, .pointer (some ⟨b333, 0, none⟩))] (by kernel_rfl) fun a hs => ?_
  refine s_end ?_
  refine c_seq ?_
  refine c_seq ?_
  refine c_region ?_
  refine pures hs 1 [1, 5] [(1, .pointer (some ⟨b333, 0, none⟩)), (5, .pointer (some ⟨b333, 0, none⟩))] (by kernel_rfl) fun a hs => ?_
  refine s_load hs (hw.at_ 0 rfl) 0 (by kernel_rfl) (by kernel_rfl) (v := .int .i64 12) (by kernel_rfl) fun a hs => ?_
  have h338 : letter_known = some () := rfl
  refine s_call hs (by kernel_rfl) (by kernel_rfl) (letter_known_s h338 ((hw.pick [0, 1] (by kernel_rfl)).pack 0)) fun a w v hv hs => ?_
  obtain ⟨rfl, hw⟩ := hv
  replace hw := hw.unpack 0 rfl
  refine pures hs 1 [1, 8] [(1, .pointer (some ⟨b333, 0, none⟩)), (8, .bool false)] (by kernel_rfl) fun a hs => ?_
  refine s_end ?_
  refine c_condF hs (by kernel_rfl) (by kernel_rfl) ?_
  refine c_skip ?_
  refine c_seq ?_
  refine c_seq ?_
  obtain ⟨S339, hS339, kS339⟩ := mkSX (X := [([], bx b333 [.int .i64 12, .int .i64 1, .int .i64 1, .int .i64 0, .int .u64 1, .int .u64 0, .int .u64 0, .int .u64 0, .int .u64 0, .int .u64 0, .int .i64 0, .int .u32 0, .int .i64 0, .int .i64 0, .int .i64 0, .int .u64 0, .int .i64 0, .int .i64 0, .int .u64 0, .slice none 0 0, .bool false, .int .i64 0, .slice none 0 0, .slice p2 x1.length c3, .slice none 0 0] 90), ([], F)]) (ih := ih) (K := []) rfl
  obtain ⟨y640, hx641, hk⟩ := bindE hk
  obtain ⟨J642, hJ642⟩ : ∃ J : Act → World → Prop, ∀ a w, J a w ↔ (∃ (x362 : Bool), letter_Check_r2 k x1 x362 = some r ∧ Sees a 40 [(1, .pointer (some ⟨b333, 0, none⟩)), (25, .bool x362)] ∧ St g w [bx b333 [.int .i64 12, .int .i64 1, .int .i64 1, .int .i64 0, .int .u64 1, .int .u64 0, .int .u64 0, .int .u64 0, .int .u64 0, .int .u64 0, .int .i64 0, .int .u32 0, .int .i64 0, .int .i64 0, .int .i64 0, .int .u64 0, .int .i64 0, .int .i64 0, .int .u64 0, .slice none 0 0, .bool false, .int .i64 0, .slice none 0 0, .slice p2 x1.length c3, .slice none 0 0] 90, F] ih) := ⟨_, fun _ _ => Iff.rfl⟩
  refine c_draw (by kernel_rfl) (N := 17) rfl S339 J642 ?_ ?_
  · have hw := hw.drew
    have hS : S339 (Array.replicate 17 false) _ := SX_now hS339 (hw.vws [0, 1]) (by kernel_rfl)
    refine d_pures (fuel := 16) kS339 hs hS [0] [1, 9] [(1, .pointer (some ⟨b333, 0, none⟩)), (9, .pointer (some ⟨b333, 1, none⟩))] (by kernel_rfl) fun a hs hS => ?_
    refine d_load (fuel := 15) kS339 hs hS 1 rfl (by kernel_rfl) (SX_box hS339 0 rfl (by kernel_rfl)) 1 (by kernel_rfl) (by kernel_rfl) (v := .int .i64 1) (by kernel_rfl) fun a hs hS => ?_
    refine d_all (fuel := 14) (rs := [2]) (by kernel_rfl) (by simp) (all1 ?_)
    have h644 : letter_Address = some () := rfl
    refine o_call hs rfl (by kernel_rfl) (by kernel_rfl) (letter_Address_s h644 ((hw.pick [0, 1] (by kernel_rfl)).pack 0)) fun a w v hv hs => ?_
    obtain ⟨rfl, hw⟩ := hv
    replace hw := hw.unpack 0 rfl
    refine dg_next (SX_now hS339 ((hw.vws [0, 1]).anti (Le.refl _)) (by kernel_rfl)) fun hS => ?_
    refine d_pures (fuel := 11) kS339 hs hS [3, 4, 5] [1, 9, 10, 11, 12, 13, 14] [(1, .pointer (some ⟨b333, 0, none⟩)), (9, .pointer (some ⟨b333, 1, none⟩)), (10, .int .i64 1), (11, .bool true), (12, .bool false), (13, .bool false), (14, .pointer (some ⟨b333, 2, none⟩))] (by kernel_rfl) fun a hs hS => ?_
    refine d_load (fuel := 10) kS339 hs hS 6 rfl (by kernel_rfl) (SX_box hS339 0 rfl (by kernel_rfl)) 2 (by kernel_rfl) (by kernel_rfl) (v := .int .i64 1) (by kernel_rfl) fun a hs hS => ?_
    refine d_all (fuel := 9) (rs := [7]) (by kernel_rfl) (by simp) (all1 ?_)
    have h646 : letter_Address = some () := rfl
    refine o_call hs rfl (by kernel_rfl) (by kernel_rfl) (letter_Address_s h646 ((hw.pick [0, 1] (by kernel_rfl)).pack 0)) fun a w v hv hs => ?_
    obtain ⟨rfl, hw⟩ := hv
    replace hw := hw.unpack 0 rfl
    refine dg_next (SX_now hS339 ((hw.vws [0, 1]).anti (Le.refl _)) (by kernel_rfl)) fun hS => ?_
    refine d_pures (fuel := 6) kS339 hs hS [8, 9, 10] [1, 9, 10, 11, 12, 13, 14, 15, 16, 17, 18, 19] [(1, .pointer (some ⟨b333, 0, none⟩)), (9, .pointer (some ⟨b333, 1, none⟩)), (10, .int .i64 1), (11, .bool true), (12, .bool false), (13, .bool false), (14, .pointer (some ⟨b333, 2, none⟩)), (15, .int .i64 1), (16, .bool true), (17, .bool false), (18, .bool false), (19, .bool false)] (by kernel_rfl) fun a hs hS => ?_
    refine d_load (fuel := 5) kS339 hs hS 11 rfl (by kernel_rfl) (SX_box hS339 0 rfl (by kernel_rfl)) 0 (by kernel_rfl) (by kernel_rfl) (v := .agg #[.int .i64 12, .int .i64 1, .int .i64 1, .int .i64 0, .int .u64 1, .int .u64 0, .int .u64 0, .int .u64 0, .int .u64 0, .int .u64 0, .int .i64 0, .int .u32 0, .int .i64 0, .int .i64 0, .int .i64 0, .int .u64 0, .int .i64 0, .int .i64 0, .int .u64 0, .slice none 0 0, .bool false, .int .i64 0, .slice none 0 0, .slice p2 x1.length c3, .slice none 0 0]) (by kernel_rfl) fun a hs hS => ?_
    refine d_load (fuel := 4) kS339 hs hS 12 rfl (by kernel_rfl) (SX_box hS339 0 rfl (by kernel_rfl)) 0 (by kernel_rfl) (by kernel_rfl) (v := .agg #[.int .i64 12, .int .i64 1, .int .i64 1, .int .i64 0, .int .u64 1, .int .u64 0, .int .u64 0, .int .u64 0, .int .u64 0, .int .u64 0, .int .i64 0, .int .u32 0, .int .i64 0, .int .i64 0, .int .i64 0, .int .u64 0, .int .i64 0, .int .i64 0, .int .u64 0, .slice none 0 0, .bool false, .int .i64 0, .slice none 0 0, .slice p2 x1.length c3, .slice none 0 0]) (by kernel_rfl) fun a hs hS => ?_
    refine d_all (fuel := 3) (rs := [13]) (by kernel_rfl) (by simp) (all1 ?_)
    obtain ⟨y647, h648, hx641⟩ := bindE hx641
    refine o_call hs rfl (by kernel_rfl) (by kernel_rfl) (letter_bare_s h648 h4 (hG.mono (Le.refl _)) ((hw.pick [0, 1] (by kernel_rfl)).pack 0)) fun a w v hv hs => ?_
    obtain ⟨p649, c650, rfl, hw, h651⟩ := hv
    replace hw := hw.unpack 0 rfl
    refine dg_next (SX_now hS339 ((hw.vws [0, 1]).anti (Le.refl _)) (by kernel_rfl)) fun hS => ?_
    refine d_all (fuel := 2) (rs := [14]) (by kernel_rfl) (by simp) (all1 ?_)
    obtain ⟨y652, h653, hx641⟩ := bindE hx641
    refine o_call hs rfl (by kernel_rfl) (by kernel_rfl) (letter_Same_s h653 h4 h651 ((hw.pick [0, 1] (by kernel_rfl)).pack 0)) fun a w v hv hs => ?_
    obtain ⟨rfl, hw⟩ := hv
    replace hw := hw.unpack 0 rfl
    refine dg_next (SX_now hS339 ((hw.vws [0, 1]).anti (Le.refl _)) (by kernel_rfl)) fun hS => ?_
    refine d_pures (fuel := 0) kS339 hs hS [15, 16] [1, 9, 10, 11, 12, 13, 14, 15, 16, 17, 18, 19, 20, 21, 22, 23, 24, 25] [(1, .pointer (some ⟨b333, 0, none⟩)), (9, .pointer (some ⟨b333, 1, none⟩)), (10, .int .i64 1), (11, .bool true), (12, .bool false), (13, .bool false), (14, .pointer (some ⟨b333, 2, none⟩)), (15, .int .i64 1), (16, .bool true), (17, .bool false), (18, .bool false), (19, .bool false), (20, .agg #[.int .i64 12, .int .i64 1, .int .i64 1, .int .i64 0, .int .u64 1, .int .u64 0, .int .u64 0, .int .u64 0, .int .u64 0, .int .u64 0, .int .i64 0, .int .u32 0, .int .i64 0, .int .i64 0, .int .i64 0, .int .u64 0, .int .i64 0, .int .i64 0, .int .u64 0, .slice none 0 0, .bool false, .int .i64 0, .slice none 0 0, .slice p2 x1.length c3, .slice none 0 0]), (21, .agg #[.int .i64 12, .int .i64 1, .int .i64 1, .int .i64 0, .int .u64 1, .int .u64 0, .int .u64 0, .int .u64 0, .int .u64 0, .int .u64 0, .int .i64 0, .int .u32 0, .int .i64 0, .int .i64 0, .int .i64 0, .int .u64 0, .int .i64 0, .int .i64 0, .int .u64 0, .slice none 0 0, .bool false, .int .i64 0, .slice none 0 0, .slice p2 x1.length c3, .slice none 0 0]), (22, .agg #[.int .i64 12, .int .i64 1, .int .i64 1, .int .i64 y647.1, .int .u64 y647.2.1, .int .u64 0, .int .u64 0, .int .u64 y647.2.2.1, .int .u64 y647.2.2.2.1, .int .u64 0, .int .i64 0, .int .u32 0, .int .i64 0, .int .i64 0, .int .i64 0, .int .u64 0, .int .i64 0, .int .i64 0, .int .u64 0, .slice none 0 0, .bool false, .int .i64 0, .slice none 0 0, .slice p649 y647.2.2.2.2.length c650, .slice none 0 0]), (23, .bool y652), (24, .bool (!y652)), (25, .bool (!y652))] (by kernel_rfl) fun a hs hS => ?_
    refine d_done (by kernel_rfl) ?_
    obtain rfl := someE hx641
    exact (hJ642 _ _).2 ⟨(!y652), hk, hs.cast [1, 25] (by kernel_rfl), hw.pick [0, 1] (by kernel_rfl)⟩
  intro a w hh
  obtain ⟨x362, hk, hs, hw⟩ := (hJ642 _ _).1 hh
  rcases ifbE hk with ⟨h363, hk⟩ | ⟨h363, hk⟩
  · refine c_cond1 hs (by kernel_rfl) (t := x362) (by kernel_rfl) h363 ?_
    refine c_seq ?_
    refine c_region ?_
    refine pures hs 1 [2] [(2, .int .i64 4)] (by kernel_rfl) fun a hs => ?_
    refine s_end ?_
    refine c_ret ?_
    obtain rfl := someE hk
    refine hQ _ _ (f_ret1 hs rfl (v := .int .i64 4) (by kernel_rfl) ⟨rfl, hw.pick [1] (by kernel_rfl)⟩)
  refine c_cond0 hs (by kernel_rfl) (t := x362) (by kernel_rfl) h363 ?_
  refine c_skip ?_
  refine c_seq ?_
  refine c_seq ?_
  refine c_region ?_
  refine pures hs 1 [1, 26] [(1, .pointer (some ⟨b333, 0, none⟩)), (26, .pointer (some ⟨b333, 0, none⟩))] (by kernel_rfl) fun a hs => ?_
  refine s_load hs (hw.at_ 0 rfl) 0 (by kernel_rfl) (by kernel_rfl) (v := .int .i64 12) (by kernel_rfl) fun a hs => ?_
  have h382 : letter_parts = some () := rfl
  refine s_call hs (by kernel_rfl) (by kernel_rfl) (letter_parts_s h382 (hG.mono (Le.refl _)) ((hw.pick [0, 1] (by kernel_rfl)).pack 0)) fun a w v hv hs => ?_
  obtain ⟨p383, c384, d386, b388, b390, b392, b394, b396, rfl, hw, h385⟩ := hv
  replace hw := hw.unpack 6 rfl
  refine pures hs 2 [1, 28, 29, 30] [(1, .pointer (some ⟨b333, 0, none⟩)), (28, .slice p383 5 c384), (29, .int .i64 5), (30, .int .i64 0)] (by kernel_rfl) fun a hs => ?_
  refine s_end ?_
  refine c_block ?_
  refine wpIn_loop_rounds 6 ?_
  refine c_unr ?_
  refine c_seq ?_
  refine c_region ?_
  refine pures hs 1 [1, 28, 29, 30, 31] [(1, .pointer (some ⟨b333, 0, none⟩)), (28, .slice p383 5 c384), (29, .int .i64 5), (30, .int .i64 0), (31, .bool true)] (by kernel_rfl) fun a hs => ?_
  refine s_end ?_
  refine c_seq ?_
  refine c_condT hs (by kernel_rfl) (by kernel_rfl) ?_
  refine c_skip ?_
  refine c_seq ?_
  refine c_block ?_
  refine c_seq ?_
  refine c_region ?_
  have h530 : ix ([(M101.mk (.func (.func 86) #[] #[]) (.func (.func 102) #[] #[.pointer (some ⟨b388, 0, none⟩), .pointer (some ⟨b390, 0, none⟩)]) (.func (.func 104) #[] #[.pointer (some ⟨b390, 0, none⟩), .pointer (some ⟨b388, 0, none⟩)])), (M101.mk (.func (.func 91) #[] #[]) (.func (.func 106) #[] #[.pointer (some ⟨b392, 0, none⟩)]) (.func (.func 107) #[] #[.pointer (some ⟨b392, 0, none⟩)])), (M101.mk (.func (.func 96) #[] #[]) (.func (.func 106) #[] #[.pointer (some ⟨b394, 0, none⟩)]) (.func (.func 107) #[] #[.pointer (some ⟨b394, 0, none⟩)])), (M101.mk (.func (.func 96) #[] #[]) (.func (.func 106) #[] #[.pointer (some ⟨b396, 0, none⟩)]) (.func (.func 107) #[] #[.pointer (some ⟨b396, 0, none⟩)])), (M101.mk (.func (.func 128) #[] #[]) (.func (.func 129) #[] #[]) (.func (.func 130) #[] #[]))]) 0 = some (M101.mk (.func (.func 86) #[] #[]) (.func (.func 102) #[] #[.pointer (some ⟨b388, 0, none⟩), .pointer (some ⟨b390, 0, none⟩)]) (.func (.func 104) #[] #[.pointer (some ⟨b390, 0, none⟩), .pointer (some ⟨b388, 0, none⟩)])) := rfl
  refine s_indexO hs h385 (by kernel_rfl) (by kernel_rfl) (k := .i64) (by kernel_rfl) 101 (by kernel_rfl) (by kernel_rfl) h530 fun a r531 cs henc at532 h536 hs => ?_
  obtain ⟨rfl, h533, h534, h535⟩ := henc
  refine s_load hs (at532 _ ((hw.vw 0 rfl).anti (Le.refl _))) 0 (by kernel_rfl) (by kernel_rfl) (v := .agg #[.func (.func 86) #[] #[], .func (.func 102) #[] #[.pointer (some ⟨b388, 0, none⟩), .pointer (some ⟨b390, 0, none⟩)], .func (.func 104) #[] #[.pointer (some ⟨b390, 0, none⟩), .pointer (some ⟨b388, 0, none⟩)]]) (by kernel_rfl) fun a hs => ?_
  refine s_new hs hw [.nilFunc, .nilFunc, .nilFunc] 101 (fun b => .pointer (some ⟨b, 0, none⟩)) (by kernel_rfl) (fun _ => by kernel_rfl) fun a w b537 hs hw => ?_
  refine s_store hs hw 0 rfl 0 (by kernel_rfl) (by kernel_rfl) (v := .agg #[.func (.func 86) #[] #[], .func (.func 102) #[] #[.pointer (some ⟨b388, 0, none⟩), .pointer (some ⟨b390, 0, none⟩)], .func (.func 104) #[] #[.pointer (some ⟨b390, 0, none⟩), .pointer (some ⟨b388, 0, none⟩)]]) (by kernel_rfl) (by kernel_rfl) (by kernel_rfl) (by kernel_rfl) fun a w hs hw => ?_
  refine s_end ?_
  refine c_seq ?_
  refine c_region ?_
  refine pures hs 1 [1, 28, 29, 30, 34] [(1, .pointer (some ⟨b333, 0, none⟩)), (28, .slice p383 5 c384), (29, .int .i64 5), (30, .int .i64 0), (34, .pointer (some ⟨b537, 0, none⟩))] (by kernel_rfl) fun a hs => ?_
  refine s_load hs (hw.at_ 0 rfl) 0 (by kernel_rfl) (by kernel_rfl) (v := .func (.func 86) #[] #[]) (by kernel_rfl) fun a hs => ?_
  refine s_load hs (hw.at_ 7 rfl) 0 (by kernel_rfl) (by kernel_rfl) (v := .agg #[.int .i64 12, .int .i64 1, .int .i64 1, .int .i64 0, .int .u64 1, .int .u64 0, .int .u64 0, .int .u64 0, .int .u64 0, .int .u64 0, .int .i64 0, .int .u32 0, .int .i64 0, .int .i64 0, .int .i64 0, .int .u64 0, .int .i64 0, .int .i64 0, .int .u64 0, .slice none 0 0, .bool false, .int .i64 0, .slice none 0 0, .slice p2 x1.length c3, .slice none 0 0]) (by kernel_rfl) fun a hs => ?_
  have h542 : letter_of_1 = some () := rfl
  refine s_call hs (by kernel_rfl) (by kernel_rfl) (letter_of_1_s (x1 := x1) h542 h4 ((hw.pick [1, 2, 3, 4, 5, 6, 7, 8] (by kernel_rfl)).pack 0)) fun a w v hv hs => ?_
  obtain ⟨rfl, hw⟩ := hv
  replace hw := hw.unpack 0 rfl
  refine pures hs 1 [1, 28, 29, 30, 38] [(1, .pointer (some ⟨b333, 0, none⟩)), (28, .slice p383 5 c384), (29, .int .i64 5), (30, .int .i64 0), (38, .bool false)] (by kernel_rfl) fun a hs => ?_
  refine s_end ?_
  refine c_condF hs (by kernel_rfl) (by kernel_rfl) ?_
  refine c_skip ?_
  refine c_region ?_
  refine pures hs 2 [1, 28, 29, 30] [(1, .pointer (some ⟨b333, 0, none⟩)), (28, .slice p383 5 c384), (29, .int .i64 5), (30, .int .i64 1)] (by kernel_rfl) fun a hs => ?_
  refine s_end ?_
  refine c_unr ?_
  refine c_seq ?_
  refine c_region ?_
  refine pures hs 1 [1, 28, 29, 30, 31] [(1, .pointer (some ⟨b333, 0, none⟩)), (28, .slice p383 5 c384), (29, .int .i64 5), (30, .int .i64 1), (31, .bool true)] (by kernel_rfl) fun a hs => ?_
  refine s_end ?_
  refine c_seq ?_
  refine c_condT hs (by kernel_rfl) (by kernel_rfl) ?_
  refine c_skip ?_
  refine c_seq ?_
  refine c_block ?_
  refine c_seq ?_
  refine c_region ?_
  have h554 : ix ([(M101.mk (.func (.func 86) #[] #[]) (.func (.func 102) #[] #[.pointer (some ⟨b388, 0, none⟩), .pointer (some ⟨b390, 0, none⟩)]) (.func (.func 104) #[] #[.pointer (some ⟨b390, 0, none⟩), .pointer (some ⟨b388, 0, none⟩)])), (M101.mk (.func (.func 91) #[] #[]) (.func (.func 106) #[] #[.pointer (some ⟨b392, 0, none⟩)]) (.func (.func 107) #[] #[.pointer (some ⟨b392, 0, none⟩)])), (M101.mk (.func (.func 96) #[] #[]) (.func (.func 106) #[] #[.pointer (some ⟨b394, 0, none⟩)]) (.func (.func 107) #[] #[.pointer (some ⟨b394, 0, none⟩)])), (M101.mk (.func (.func 96) #[] #[]) (.func (.func 106) #[] #[.pointer (some ⟨b396, 0, none⟩)]) (.func (.func 107) #[] #[.pointer (some ⟨b396, 0, none⟩)])), (M101.mk (.func (.func 128) #[] #[]) (.func (.func 129) #[] #[]) (.func (.func 130) #[] #[]))]) 1 = some (M101.mk (.func (.func 91) #[] #[]) (.func (.func 106) #[] #[.pointer (some ⟨b392, 0, none⟩)]) (.func (.func 107) #[] #[.pointer (some ⟨b392, 0, none⟩)])) := rfl
  refine s_indexO hs h385 (by kernel_rfl) (by kernel_rfl) (k := .i64) (by kernel_rfl) 101 (by kernel_rfl) (by kernel_rfl) h554 fun a r555 cs henc at556 h560 hs => ?_
  obtain ⟨rfl, h557, h558, h559⟩ := henc
  refine s_load hs (at556 _ ((hw.vw 0 rfl).anti (Le.refl _))) 0 (by kernel_rfl) (by kernel_rfl) (v := .agg #[.func (.func 91) #[] #[], .func (.func 106) #[] #[.pointer (some ⟨b392, 0, none⟩)], .func (.func 107) #[] #[.pointer (some ⟨b392, 0, none⟩)]]) (by kernel_rfl) fun a hs => ?_
  refine s_new hs hw [.nilFunc, .nilFunc, .nilFunc] 101 (fun b => .pointer (some ⟨b, 0, none⟩)) (by kernel_rfl) (fun _ => by kernel_rfl) fun a w b561 hs hw => ?_
  refine s_store hs hw 0 rfl 0 (by kernel_rfl) (by kernel_rfl) (v := .agg #[.func (.func 91) #[] #[], .func (.func 106) #[] #[.pointer (some ⟨b392, 0, none⟩)], .func (.func 107) #[] #[.pointer (some ⟨b392, 0, none⟩)]]) (by kernel_rfl) (by kernel_rfl) (by kernel_rfl) (by kernel_rfl) fun a w hs hw => ?_
  refine s_end ?_
  refine c_seq ?_
  refine c_region ?_
  refine pures hs 1 [1, 28, 29, 30, 34] [(1, .pointer (some ⟨b333, 0, none⟩)), (28, .slice p383 5 c384), (29, .int .i64 5), (30, .int .i64 1), (34, .pointer (some ⟨b561, 0, none⟩))] (by kernel_rfl) fun a hs => ?_
  refine s_load hs (hw.at_ 0 rfl) 0 (by kernel_rfl) (by kernel_rfl) (v := .func (.func 91) #[] #[]) (by kernel_rfl) fun a hs => ?_
  refine s_load hs (hw.at_ 7 rfl) 0 (by kernel_rfl) (by kernel_rfl) (v := .agg #[.int .i64 12, .int .i64 1, .int .i64 1, .int .i64 0, .int .u64 1, .int .u64 0, .int .u64 0, .int .u64 0, .int .u64 0, .int .u64 0, .int .i64 0, .int .u32 0, .int .i64 0, .int .i64 0, .int .i64 0, .int .u64 0, .int .i64 0, .int .i64 0, .int .u64 0, .slice none 0 0, .bool false, .int .i64 0, .slice none 0 0, .slice p2 x1.length c3, .slice none 0 0]) (by kernel_rfl) fun a hs => ?_
  have h566 : letter_of_5_2 = some () := rfl
  refine s_call hs (by kernel_rfl) (by kernel_rfl) (letter_of_5_2_s (x1 := x1) h566 h4 ((hw.pick [1, 2, 3, 4, 5, 6, 7, 8] (by kernel_rfl)).pack 0)) fun a w v hv hs => ?_
  obtain ⟨rfl, hw⟩ := hv
  replace hw := hw.unpack 0 rfl
  refine pures hs 1 [1, 28, 29, 30, 38] [(1, .pointer (some ⟨b333, 0, none⟩)), (28, .slice p383 5 c384), (29, .int .i64 5), (30, .int .i64 1), (38, .bool false)] (by kernel_rfl) fun a hs => ?_
  refine s_end ?_
  refine c_condF hs (by kernel_rfl) (by kernel_rfl) ?_
  refine c_skip ?_
  refine c_region ?_
  refine pures hs 2 [1, 28, 29, 30] [(1, .pointer (some ⟨b333, 0, none⟩)), (28, .slice p383 5 c384), (29, .int .i64 5), (30, .int .i64 2)] (by kernel_rfl) fun a hs => ?_
  refine s_end ?_
  refine c_unr ?_
  refine c_seq ?_
  refine c_region ?_
  refine pures hs 1 [1, 28, 29, 30, 31] [(1, .pointer (some ⟨b333, 0, none⟩)), (28, .slice p383 5 c384), (29, .int .i64 5), (30, .int .i64 2), (31, .bool true)] (by kernel_rfl) fun a hs => ?_
  refine s_end ?_
  refine c_seq ?_
  refine c_condT hs (by kernel_rfl) (by kernel_rfl) ?_
  refine c_skip ?_
  refine c_seq ?_
  refine c_block ?_
  refine c_seq ?_
  refine c_region ?_
  have h578 : ix ([(M101.mk (.func (.func 86) #[] #[]) (.func (.func 102) #[] #[.pointer (some ⟨b388, 0, none⟩), .pointer (some ⟨b390, 0, none⟩)]) (.func (.func 104) #[] #[.pointer (some ⟨b390, 0, none⟩), .pointer (some ⟨b388, 0, none⟩)])), (M101.mk (.func (.func 91) #[] #[]) (.func (.func 106) #[] #[.pointer (some ⟨b392, 0, none⟩)]) (.func (.func 107) #[] #[.pointer (some ⟨b392, 0, none⟩)])), (M101.mk (.func (.func 96) #[] #[]) (.func (.func 106) #[] #[.pointer (some ⟨b394, 0, none⟩)]) (.func (.func 107) #[] #[.pointer (some ⟨b394, 0, none⟩)])), (M101.mk (.func (.func 96) #[] #[]) (.func (.func 106) #[] #[.pointer (some ⟨b396, 0, none⟩)]) (.func (.func 107) #[] #[.pointer (some ⟨b396, 0, none⟩)])), (M101.mk (.func (.func 128) #[] #[]) (.func (.func 129) #[] #[]) (.func (.func 130) #[] #[]))]) 2 = some (M101.mk (.func (.func 96) #[] #[]) (.func (.func 106) #[] #[.pointer (some ⟨b394, 0, none⟩)]) (.func (.func 107) #[] #[.pointer (some ⟨b394, 0, none⟩)])) := rfl
  refine s_indexO hs h385 (by kernel_rfl) (by kernel_rfl) (k := .i64) (by kernel_rfl) 101 (by kernel_rfl) (by kernel_rfl) h578 fun a r579 cs henc at580 h584 hs => ?_
  obtain ⟨rfl, h581, h582, h583⟩ := henc
  refine s_load hs (at580 _ ((hw.vw 0 rfl).anti (Le.refl _))) 0 (by kernel_rfl) (by kernel_rfl) (v := .agg #[.func (.func 96) #[] #[], .func (.func 106) #[] #[.pointer (some ⟨b394, 0, none⟩)], .func (.func 107) #[] #[.pointer (some ⟨b394, 0, none⟩)]]) (by kernel_rfl) fun a hs => ?_
  refine s_new hs hw [.nilFunc, .nilFunc, .nilFunc] 101 (fun b => .pointer (some ⟨b, 0, none⟩)) (by kernel_rfl) (fun _ => by kernel_rfl) fun a w b585 hs hw => ?_
  refine s_store hs hw 0 rfl 0 (by kernel_rfl) (by kernel_rfl) (v := .agg #[.func (.func 96) #[] #[], .func (.func 106) #[] #[.pointer (some ⟨b394, 0, none⟩)], .func (.func 107) #[] #[.pointer (some ⟨b394, 0, none⟩)]]) (by kernel_rfl) (by kernel_rfl) (by kernel_rfl) (by kernel_rfl) fun a w hs hw => ?_
  refine s_end ?_
  refine c_seq ?_
  refine c_region ?_
  refine pures hs 1 [1, 28, 29, 30, 34] [(1, .pointer (some ⟨b333, 0, none⟩)), (28, .slice p383 5 c384), (29, .int .i64 5), (30, .int .i64 2), (34, .pointer (some ⟨b585, 0, none⟩))] (by kernel_rfl) fun a hs => ?_
  refine s_load hs (hw.at_ 0 rfl) 0 (by kernel_rfl) (by kernel_rfl) (v := .func (.func 96) #[] #[]) (by kernel_rfl) fun a hs => ?_
  refine s_load hs (hw.at_ 7 rfl) 0 (by kernel_rfl) (by kernel_rfl) (v := .agg #[.int .i64 12, .int .i64 1, .int .i64 1, .int .i64 0, .int .u64 1, .int .u64 0, .int .u64 0, .int .u64 0, .int .u64 0, .int .u64 0, .int .i64 0, .int .u32 0, .int .i64 0, .int .i64 0, .int .i64 0, .int .u64 0, .int .i64 0, .int .i64 0, .int .u64 0, .slice none 0 0, .bool false, .int .i64 0, .slice none 0 0, .slice p2 x1.length c3, .slice none 0 0]) (by kernel_rfl) fun a hs => ?_
  have h590 : letter_any = some () := rfl
  refine s_call hs (by kernel_rfl) (by kernel_rfl) (letter_any_s (x1 := x1) h590 h4 ((hw.pick [1, 2, 3, 4, 5, 6, 7, 8] (by kernel_rfl)).pack 0)) fun a w v hv hs => ?_
  obtain ⟨rfl, hw⟩ := hv
  replace hw := hw.unpack 0 rfl
  refine pures hs 1 [1, 28, 29, 30, 38] [(1, .pointer (some ⟨b333, 0, none⟩)), (28, .slice p383 5 c384), (29, .int .i64 5), (30, .int .i64 2), (38, .bool false)] (by kernel_rfl) fun a hs => ?_
  refine s_end ?_
  refine c_condF hs (by kernel_rfl) (by kernel_rfl) ?_
  refine c_skip ?_
  refine c_region ?_
  refine pures hs 2 [1, 28, 29, 30] [(1, .pointer (some ⟨b333, 0, none⟩)), (28, .slice p383 5 c384), (29, .int .i64 5), (30, .int .i64 3)] (by kernel_rfl) fun a hs => ?_
  refine s_end ?_
  refine c_unr ?_
  refine c_seq ?_
  refine c_region ?_
  refine pures hs 1 [1, 28, 29, 30, 31] [(1, .pointer (some ⟨b333, 0, none⟩)), (28, .slice p383 5 c384), (29, .int .i64 5), (30, .int .i64 3), (31, .bool true)] (by kernel_rfl) fun a hs => ?_
  refine s_end ?_
  refine c_seq ?_
  refine c_condT hs (by kernel_rfl) (by kernel_rfl) ?_
  refine c_skip ?_
  refine c_seq ?_
  refine c_block ?_
  refine c_seq ?_
  refine c_region ?_
  have h602 : ix ([(M101.mk (.func (.func 86) #[] #[]) (.func (.func 102) #[] #[.pointer (some ⟨b388, 0, none⟩), .pointer (some ⟨b390, 0, none⟩)]) (.func (.func 104) #[] #[.pointer (some ⟨b390, 0, none⟩), .pointer (some ⟨b388, 0, none⟩)])), (M101.mk (.func (.func 91) #[] #[]) (.func (.func 106) #[] #[.pointer (some ⟨b392, 0, none⟩)]) (.func (.func 107) #[] #[.pointer (some ⟨b392, 0, none⟩)])), (M101.mk (.func (.func 96) #[] #[]) (.func (.func 106) #[] #[.pointer (some ⟨b394, 0, none⟩)]) (.func (.func 107) #[] #[.pointer (some ⟨b394, 0, none⟩)])), (M101.mk (.func (.func 96) #[] #[]) (.func (.func 106) #[] #[.pointer (some ⟨b396, 0, none⟩)]) (.func (.func 107) #[] #[.pointer (some ⟨b396, 0, none⟩)])), (M101.mk (.func (.func 128) #[] #[]) (.func (.func 129) #[] #[]) (.func (.func 130) #[] #[]))]) 3 = some (M101.mk (.func (.func 96) #[] #[]) (.func (.func 106) #[] #[.pointer (some ⟨b396, 0, none⟩)]) (.func (.func 107) #[] #[.pointer (some ⟨b396, 0, none⟩)])) := rfl
  refine s_indexO hs h385 (by kernel_rfl) (by kernel_rfl) (k := .i64) (by kernel_rfl) 101 (by kernel_rfl) (by kernel_rfl) h602 fun a r603 cs henc at604 h608 hs => ?_
  obtain ⟨rfl, h605, h606, h607⟩ := henc
  refine s_load hs (at604 _ ((hw.vw 0 rfl).anti (Le.refl _))) 0 (by kernel_rfl) (by kernel_rfl) (v := .agg #[.func (.func 96) #[] #[], .func (.func 106) #[] #[.pointer (some ⟨b396, 0, none⟩)], .func (.func 107) #[] #[.pointer (some ⟨b396, 0, none⟩)]]) (by kernel_rfl) fun a hs => ?_
  refine s_new hs hw [.nilFunc, .nilFunc, .nilFunc] 101 (fun b => .pointer (some ⟨b, 0, none⟩)) (by kernel_rfl) (fun _ => by kernel_rfl) fun a w b609 hs hw => ?_
  refine s_store hs hw 0 rfl 0 (by kernel_rfl) (by kernel_rfl) (v := .agg #[.func (.func 96) #[] #[], .func (.func 106) #[] #[.pointer (some ⟨b396, 0, none⟩)], .func (.func 107) #[] #[.pointer (some ⟨b396, 0, none⟩)]]) (by kernel_rfl) (by kernel_rfl) (by kernel_rfl) (by kernel_rfl) fun a w hs hw => ?_
  refine s_end ?_
  refine c_seq ?_
  refine c_region ?_
  refine pures hs 1 [1, 28, 29, 30, 34] [(1, .pointer (some ⟨b333, 0, none⟩)), (28, .slice p383 5 c384), (29, .int .i64 5), (30, .int .i64 3), (34, .pointer (some ⟨b609, 0, none⟩))] (by kernel_rfl) fun a hs => ?_
  refine s_load hs (hw.at_ 0 rfl) 0 (by kernel_rfl) (by kernel_rfl) (v := .func (.func 96) #[] #[]) (by kernel_rfl) fun a hs => ?_
  refine s_load hs (hw.at_ 7 rfl) 0 (by kernel_rfl) (by kernel_rfl) (v := .agg #[.int .i64 12, .int .i64 1, .int .i64 1, .int .i64 0, .int .u64 1, .int .u64 0, .int .u64 0, .int .u64 0, .int .u64 0, .int .u64 0, .int .i64 0, .int .u32 0, .int .i64 0, .int .i64 0, .int .i64 0, .int .u64 0, .int .i64 0, .int .i64 0, .int .u64 0, .slice none 0 0, .bool false, .int .i64 0, .slice none 0 0, .slice p2 x1.length c3, .slice none 0 0]) (by kernel_rfl) fun a hs => ?_
  have h614 : letter_any = some () := rfl
  refine s_call hs (by kernel_rfl) (by kernel_rfl) (letter_any_s (x1 := x1) h614 h4 ((hw.pick [1, 2, 3, 4, 5, 6, 7, 8] (by kernel_rfl)).pack 0)) fun a w v hv hs => ?_
  obtain ⟨rfl, hw⟩ := hv
  replace hw := hw.unpack 0 rfl
  refine pures hs 1 [1, 28, 29, 30, 38] [(1, .pointer (some ⟨b333, 0, none⟩)), (28, .slice p383 5 c384), (29, .int .i64 5), (30, .int .i64 3), (38, .bool false)] (by kernel_rfl) fun a hs => ?_
  refine s_end ?_
  refine c_condF hs (by kernel_rfl) (by kernel_rfl) ?_
  refine c_skip ?_
  refine c_region ?_
  refine pures hs 2 [1, 28, 29, 30] [(1, .pointer (some ⟨b333, 0, none⟩)), (28, .slice p383 5 c384), (29, .int .i64 5), (30, .int .i64 4)] (by kernel_rfl) fun a hs => ?_
  refine s_end ?_
  refine c_unr ?_
  refine c_seq ?_
  refine c_region ?_
  refine pures hs 1 [1, 28, 29, 30, 31] [(1, .pointer (some ⟨b333, 0, none⟩)), (28, .slice p383 5 c384), (29, .int .i64 5), (30, .int .i64 4), (31, .bool true)] (by kernel_rfl) fun a hs => ?_
  refine s_end ?_
  refine c_seq ?_
  refine c_condT hs (by kernel_rfl) (by kernel_rfl) ?_
  refine c_skip ?_
  refine c_seq ?_
  refine c_block ?_
  refine c_seq ?_
  refine c_region ?_
  have h626 : ix ([(M101.mk (.func (.func 86) #[] #[]) (.func (.func 102) #[] #[.pointer (some ⟨b388, 0, none⟩), .pointer (some ⟨b390, 0, none⟩)]) (.func (.func 104) #[] #[.pointer (some ⟨b390, 0, none⟩), .pointer (some ⟨b388, 0, none⟩)])), (M101.mk (.func (.func 91) #[] #[]) (.func (.func 106) #[] #[.pointer (some ⟨b392, 0, none⟩)]) (.func (.func 107) #[] #[.pointer (some ⟨b392, 0, none⟩)])), (M101.mk (.func (.func 96) #[] #[]) (.func (.func 106) #[] #[.pointer (some ⟨b394, 0, none⟩)]) (.func (.func 107) #[] #[.pointer (some ⟨b394, 0, none⟩)])), (M101.mk (.func (.func 96) #[] #[]) (.func (.func 106) #[] #[.pointer (some ⟨b396, 0, none⟩)]) (.func (.func 107) #[] #[.pointer (some ⟨b396, 0, none⟩)])), (M101.mk (.func (.func 128) #[] #[]) (.func (.func 129) #[] #[]) (.func (.func 130) #[] #[]))]) 4 = some (M101.mk (.func (.func 128) #[] #[]) (.func (.func 129) #[] #[]) (.func (.func 130) #[] #[])) := rfl
  refine s_indexO hs h385 (by kernel_rfl) (by kernel_rfl) (k := .i64) (by kernel_rfl) 101 (by kernel_rfl) (by kernel_rfl) h626 fun a r627 cs henc at628 h632 hs => ?_
  obtain ⟨rfl, h629, h630, h631⟩ := henc
  refine s_load hs (at628 _ ((hw.vw 0 rfl).anti (Le.refl _))) 0 (by kernel_rfl) (by kernel_rfl) (v := .agg #[.func (.func 128) #[] #[], .func (.func 129) #[] #[], .func (.func 130) #[] #[]]) (by kernel_rfl) fun a hs => ?_
  refine s_new hs hw [.nilFunc, .nilFunc, .nilFunc] 101 (fun b => .pointer (some ⟨b, 0, none⟩)) (by kernel_rfl) (fun _ => by kernel_rfl) fun a w b633 hs hw => ?_
  refine s_store hs hw 0 rfl 0 (by kernel_rfl) (by kernel_rfl) (v := .agg #[.func (.func 128) #[] #[], .func (.func 129) #[] #[], .func (.func 130) #[] #[]]) (by kernel_rfl) (by kernel_rfl) (by kernel_rfl) (by kernel_rfl) fun a w hs hw => ?_
  refine s_end ?_
  refine c_seq ?_
  refine c_region ?_
  refine pures hs 1 [1, 28, 29, 30, 34] [(1, .pointer (some ⟨b333, 0, none⟩)), (28, .slice p383 5 c384), (29, .int .i64 5), (30, .int .i64 4), (34, .pointer (some ⟨b633, 0, none⟩))] (by kernel_rfl) fun a hs => ?_
  refine s_load hs (hw.at_ 0 rfl) 0 (by kernel_rfl) (by kernel_rfl) (v := .func (.func 128) #[] #[]) (by kernel_rfl) fun a hs => ?_
  refine s_load hs (hw.at_ 7 rfl) 0 (by kernel_rfl) (by kernel_rfl) (v := .agg #[.int .i64 12, .int .i64 1, .int .i64 1, .int .i64 0, .int .u64 1, .int .u64 0, .int .u64 0, .int .u64 0, .int .u64 0, .int .u64 0, .int .i64 0, .int .u32 0, .int .i64 0, .int .i64 0, .int .i64 0, .int .u64 0, .int .i64 0, .int .i64 0, .int .u64 0, .slice none 0 0, .bool false, .int .i64 0, .slice none 0 0, .slice p2 x1.length c3, .slice none 0 0]) (by kernel_rfl) fun a hs => ?_
  obtain ⟨y637, h638, hk⟩ := bindE hk
  refine s_call hs (by kernel_rfl) (by kernel_rfl) (letter_updates_s h638 h4 ((hw.pick [1, 2, 3, 4, 5, 6, 7, 8] (by kernel_rfl)).pack 0)) fun a w v hv hs => ?_
  obtain ⟨rfl, hw⟩ := hv
  replace hw := hw.unpack 0 rfl
  refine pures hs 1 [1, 28, 29, 30, 38] [(1, .pointer (some ⟨b333, 0, none⟩)), (28, .slice p383 5 c384), (29, .int .i64 5), (30, .int .i64 4), (38, .bool (!y637))] (by kernel_rfl) fun a hs => ?_
  refine s_end ?_
  rcases ifbE hk with ⟨h639, hk⟩ | ⟨h639, hk⟩
  · refine c_cond1 hs (by kernel_rfl) (t := (!y637)) (by kernel_rfl) h639 ?_
    refine c_seq ?_
    refine c_region ?_
    refine pures hs 1 [2] [(2, .int .i64 4)] (by kernel_rfl) fun a hs => ?_
    refine s_end ?_
    refine c_ret ?_
    obtain rfl := someE hk
    refine hQ _ _ (f_ret1 hs rfl (v := .int .i64 4) (by kernel_rfl) ⟨rfl, hw.pick [7] (by kernel_rfl)⟩)
  refine c_cond0 hs (by kernel_rfl) (t := (!y637)) (by kernel_rfl) h639 ?_
  refine c_skip ?_
  refine c_region ?_
  refine pures hs 2 [1, 28, 29, 30] [(1, .pointer (some ⟨b333, 0, none⟩)), (28, .slice p383 5 c384), (29, .int .i64 5), (30, .int .i64 5)] (by kernel_rfl) fun a hs => ?_
  refine s_end ?_
  refine c_unr ?_
  refine c_seq ?_
  refine c_region ?_
  refine pures hs 1 [1, 28, 29, 30, 31] [(1, .pointer (some ⟨b333, 0, none⟩)), (28, .slice p383 5 c384), (29, .int .i64 5), (30, .int .i64 5), (31, .bool false)] (by kernel_rfl) fun a hs => ?_
  refine s_end ?_
  refine c_seq ?_
  refine c_condF hs (by kernel_rfl) (by kernel_rfl) ?_
  refine c_exit ?_
  refine c_seq ?_
  refine c_region ?_
  refine pures hs 1 [2] [(2, .int .i64 0)] (by kernel_rfl) fun a hs => ?_
  refine s_end ?_
  refine c_ret ?_
  obtain rfl := someE hk
  refine hQ _ _ (f_ret1 hs rfl (v := .int .i64 0) (by kernel_rfl) ⟨rfl, hw.pick [7] (by kernel_rfl)⟩)
def update_check (k : Nat) : Option Int :=
  (letter_Check k ([(M26.mk 6 1 1 2 0 0 ([]))])).bind fun y45 =>
  some y45
theorem update_check_s {k : Nat} {r : Int} (hk : update_check k = some r) {g w : World} {F : Ch} {ih : IH} (hG : Glob 0 gl0 110 ih) (hw : St g w [F] ih) :
    CallsR Tryz.prog 43 #[.agg #[.int .u64 6, .int .i64 1, .int .u64 1, .int .i64 2, .int .u32 0, .int .u64 0, .slice none 0 0], .int .i64 12] w fun v w' => ∃ (ih' : IH), v = .int .i64 r ∧ St g w' [F] ih' ∧ Le ih ih' := by
  refine f_in (vs := [.agg #[.int .u64 6, .int .i64 1, .int .u64 1, .int .i64 2, .int .u32 0, .int .u64 0, .slice none 0 0], .int .i64 12]) Tryz.func43 rfl 20 rfl (by kernel_rfl) [(0, .agg #[.int .u64 6, .int .i64 1, .int .u64 1, .int .i64 2, .int .u32 0, .int .u64 0, .slice none 0 0]), (1, .int .i64 12)] (by kernel_rfl) fun a Qf hQ hQn hs => ?_
  refine c_seq ?_
  refine c_region ?_
  refine s_new hs hw [.int .u64 6, .int .i64 1, .int .u64 1, .int .i64 2, .int .u32 0, .int .u64 0, .slice none 0 0] 26 (fun b => .pointer (some ⟨b, 0, none⟩)) (by kernel_rfl) (fun _ => by kernel_rfl) fun a w b27 hs hw => ?_
  refine pures hs 1 [1, 2] [(1, .int .i64 12), (2, .pointer (some ⟨b27, 0, none⟩))] (by kernel_rfl) fun a hs => ?_
  refine s_end ?_
  refine c_seq ?_
  refine c_block ?_
  refine c_seq ?_
  refine c_region ?_
  refine pures hs 1 [1, 2, 6] [(1, .int .i64 12), (2, .pointer (some ⟨b27, 0, none⟩)), (6, .pointer (some ⟨b27, 3, none⟩))] (by kernel_rfl) fun a hs => ?_
  refine s_load hs (hw.at_ 0 rfl) 3 (by kernel_rfl) (by kernel_rfl) (v := .int .i64 2) (by kernel_rfl) fun a hs => ?_
  have h32 : update_writes = some () := rfl
  refine s_call hs (by kernel_rfl) (by kernel_rfl) (update_writes_s h32 ((hw.pick [0, 1] (by kernel_rfl)).pack 0)) fun a w v hv hs => ?_
  obtain ⟨rfl, hw⟩ := hv
  replace hw := hw.unpack 0 rfl
  refine pures hs 2 [1, 2, 5] [(1, .int .i64 12), (2, .pointer (some ⟨b27, 0, none⟩)), (5, .bool false)] (by kernel_rfl) fun a hs => ?_
  refine s_end ?_
  refine c_condF hs (by kernel_rfl) (by kernel_rfl) ?_
  refine c_seq ?_
  refine c_region ?_
  refine pures hs 1 [1, 2, 11] [(1, .int .i64 12), (2, .pointer (some ⟨b27, 0, none⟩)), (11, .pointer (some ⟨b27, 6, none⟩))] (by kernel_rfl) fun a hs => ?_
  refine s_load hs (hw.at_ 0 rfl) 6 (by kernel_rfl) (by kernel_rfl) (v := .slice none 0 0) (by kernel_rfl) fun a hs => ?_
  refine pures hs 3 [1, 2, 10] [(1, .int .i64 12), (2, .pointer (some ⟨b27, 0, none⟩)), (10, .bool false)] (by kernel_rfl) fun a hs => ?_
  refine s_end ?_
  refine c_condF hs (by kernel_rfl) (by kernel_rfl) ?_
  refine c_skip ?_
  refine c_seq ?_
  refine c_region ?_
  refine pures hs 1 [2, 15] [(2, .pointer (some ⟨b27, 0, none⟩)), (15, .int .i64 12)] (by kernel_rfl) fun a hs => ?_
  refine s_load hs (hw.at_ 0 rfl) 0 (by kernel_rfl) (by kernel_rfl) (v := .agg #[.int .u64 6, .int .i64 1, .int .u64 1, .int .i64 2, .int .u32 0, .int .u64 0, .slice none 0 0]) (by kernel_rfl) fun a hs => ?_
  refine s_new hs hw [.int .u64 6, .int .i64 1, .int .u64 1, .int .i64 2, .int .u32 0, .int .u64 0, .slice none 0 0] 26 (fun b => .slice (some ⟨b, 0, none⟩) 1 1) (by kernel_rfl) (fun _ => by kernel_rfl) fun a w b40 hs hw => ?_
  obtain ⟨ih42, hle43, hw, h44⟩ := (hw.pick [0, 1, 2] (by kernel_rfl)).fz ((OSl.of1 (E := e26) (z := (M26.mk 6 1 1 2 0 0 ([]))) ⟨none, 0, rfl, (RSl.nil _ _ _)⟩ (by simp [maxLen])).mono (Le.refl _))
  refine pures hs 1 [18] [(18, .agg #[.int .i64 12, .int .i64 1, .int .i64 1, .int .i64 0, .int .u64 1, .int .u64 0, .int .u64 0, .int .u64 0, .int .u64 0, .int .u64 0, .int .i64 0, .int .u32 0, .int .i64 0, .int .i64 0, .int .i64 0, .int .u64 0, .int .i64 0, .int .i64 0, .int .u64 0, .slice none 0 0, .bool false, .int .i64 0, .slice none 0 0, .slice (some ⟨b40, 0, none⟩) 1 1, .slice none 0 0])] (by kernel_rfl) fun a hs => ?_
  obtain ⟨y45, h46, hk⟩ := bindE hk
  refine s_call hs (by kernel_rfl) (by kernel_rfl) (letter_Check_s h46 h44 (hG.mono hle43) ((hw.pick [1] (by kernel_rfl)).pack 0)) fun a w v hv hs => ?_
  obtain ⟨rfl, hw⟩ := hv
  replace hw := hw.unpack 0 rfl
  refine pures hs 1 [4] [(4, .int .i64 y45)] (by kernel_rfl) fun a hs => ?_
  refine s_end ?_
  refine c_ret ?_
  obtain rfl := someE hk
  refine hQ _ _ (f_ret1 hs rfl (v := .int .i64 y45) (by kernel_rfl) ⟨ih42, rfl, hw.pick [0] (by kernel_rfl), hle43⟩)
def update_Check (k : Nat) : Option Int :=
  (update_check k).bind fun y23 =>
  some y23
theorem update_Check_s {k : Nat} {r : Int} (hk : update_Check k = some r) {g w : World} {F : Ch} {ih : IH} (hG : Glob 0 gl0 110 ih) (hw : St g w [F] ih) :
    CallsR Tryz.prog 13 #[.agg #[.int .u64 6, .int .i64 1, .int .u64 1, .int .i64 2, .int .u32 0, .int .u64 0, .slice none 0 0]] w fun v w' => ∃ (ih' : IH), v = .int .i64 r ∧ St g w' [F] ih' ∧ Le ih ih' := by
  refine f_in (vs := [.agg #[.int .u64 6, .int .i64 1, .int .u64 1, .int .i64 2, .int .u32 0, .int .u64 0, .slice none 0 0]]) Tryz.func13 rfl 5 rfl (by kernel_rfl) [(0, .agg #[.int .u64 6, .int .i64 1, .int .u64 1, .int .i64 2, .int .u32 0, .int .u64 0, .slice none 0 0])] (by kernel_rfl) fun a Qf hQ hQn hs => ?_
  refine c_seq ?_
  refine c_region ?_
  refine s_new hs hw [.int .u64 6, .int .i64 1, .int .u64 1, .int .i64 2, .int .u32 0, .int .u64 0, .slice none 0 0] 26 (fun b => .pointer (some ⟨b, 0, none⟩)) (by kernel_rfl) (fun _ => by kernel_rfl) fun a w b17 hs hw => ?_
  refine pures hs 1 [1] [(1, .pointer (some ⟨b17, 0, none⟩))] (by kernel_rfl) fun a hs => ?_
  refine s_end ?_
  refine c_seq ?_
  refine c_region ?_
  refine s_load hs (hw.at_ 0 rfl) 0 (by kernel_rfl) (by kernel_rfl) (v := .agg #[.int .u64 6, .int .i64 1, .int .u64 1, .int .i64 2, .int .u32 0, .int .u64 0, .slice none 0 0]) (by kernel_rfl) fun a hs => ?_
  obtain ⟨y23, h24, hk⟩ := bindE hk
  refine s_call hs (by kernel_rfl) (by kernel_rfl) (update_check_s h24 (hG.mono (Le.refl _)) ((hw.pick [1] (by kernel_rfl)).pack 0)) fun a w v hv hs => ?_
  obtain ⟨ih25, rfl, hw, hle26⟩ := hv
  replace hw := hw.unpack 0 rfl
  refine pures hs 1 [2] [(2, .int .i64 y23)] (by kernel_rfl) fun a hs => ?_
  refine s_end ?_
  refine c_ret ?_
  obtain rfl := someE hk
  refine hQ _ _ (f_ret1 hs rfl (v := .int .i64 y23) (by kernel_rfl) ⟨ih25, rfl, hw.pick [0] (by kernel_rfl), hle26⟩)
def window_Window_End_2_r2 (x3 : List M26) : Option Int :=
  some (IntKind.u64.wrap (5 + (IntKind.u64.wrap ((x3.length : Int)))))
def window_Window_End_2 (x3 : List M26) : Option Int :=
  window_Window_End_2_r2 x3
theorem window_Window_End_2_s {x3 : List M26} {b2 : Nat} {p4 : Option Addr} {c5 : Nat} {d7 : Ch} {r : Int} (hk : window_Window_End_2 x3 = some r) {g w : World} {F : Ch} {ih : IH} (h6 : OSl e26 ih p4 c5 x3 d7) (hw : St g w [bx b2 [.int .u64 5, .int .u64 5, .slice p4 x3.length c5] 78, d7, F] ih) :
    CallsR Tryz.prog 25 #[.pointer (some ⟨b2, 0, none⟩)] w fun v w' => v = .int .u64 r ∧ St g w' [bx b2 [.int .u64 5, .int .u64 5, .slice p4 x3.length c5] 78, d7, F] ih := by
  refine f_in (vs := [.pointer (some ⟨b2, 0, none⟩)]) Tryz.func25 rfl 16 rfl (by kernel_rfl) [(0, .pointer (some ⟨b2, 0, none⟩))] (by kernel_rfl) fun a Qf hQ hQn hs => ?_
  refine c_seq ?_
  refine c_region ?_
  refine pures hs 1 [0] [(0, .pointer (some ⟨b2, 0, none⟩))] (by kernel_rfl) fun a hs => ?_
  refine s_end ?_
  refine c_seq ?_
  refine c_seq ?_
  refine c_region ?_
  refine pures hs 2 [0, 4] [(0, .pointer (some ⟨b2, 0, none⟩)), (4, .bool false)] (by kernel_rfl) fun a hs => ?_
  refine s_end ?_
  refine c_condF hs (by kernel_rfl) (by kernel_rfl) ?_
  refine c_skip ?_
  refine c_seq ?_
  obtain ⟨S15, hS15, kS15⟩ := mkSX (X := [([], bx b2 [.int .u64 5, .int .u64 5, .slice p4 x3.length c5] 78), ([], d7), ([], F)]) (ih := ih) (K := []) rfl
  obtain ⟨y16, hx17⟩ : ∃ y, (some () : Option Unit) = some y := ⟨_, rfl⟩
  obtain ⟨J18, hJ18⟩ : ∃ J : Act → World → Prop, ∀ a w, J a w ↔ (window_Window_End_2_r2 x3 = some r ∧ Sees a 16 [(2, .int .u64 (IntKind.u64.wrap (5 + (IntKind.u64.wrap ((x3.length : Int))))))] ∧ St g w [bx b2 [.int .u64 5, .int .u64 5, .slice p4 x3.length c5] 78, d7, F] ih) := ⟨_, fun _ _ => Iff.rfl⟩
  refine c_draw (by kernel_rfl) (N := 12) rfl S15 J18 ?_ ?_
  · have hw := hw.drew
    have hS : S15 (Array.replicate 12 false) _ := SX_now hS15 (hw.vws [0, 1, 2]) (by kernel_rfl)
    refine d_pures (fuel := 9) kS15 hs hS [0, 1, 2] [0, 5, 6, 7] [(0, .pointer (some ⟨b2, 0, none⟩)), (5, .pointer (some ⟨b2, 0, none⟩)), (6, .pointer (some ⟨b2, 0, none⟩)), (7, .pointer (some ⟨b2, 0, none⟩))] (by kernel_rfl) fun a hs hS => ?_
    refine d_load (fuel := 8) kS15 hs hS 3 rfl (by kernel_rfl) (SX_box hS15 0 rfl (by kernel_rfl)) 0 (by kernel_rfl) (by kernel_rfl) (v := .int .u64 5) (by kernel_rfl) fun a hs hS => ?_
    refine d_pures (fuel := 5) kS15 hs hS [4, 5, 6] [0, 5, 6, 7, 8, 9, 10, 11] [(0, .pointer (some ⟨b2, 0, none⟩)), (5, .pointer (some ⟨b2, 0, none⟩)), (6, .pointer (some ⟨b2, 0, none⟩)), (7, .pointer (some ⟨b2, 0, none⟩)), (8, .int .u64 5), (9, .pointer (some ⟨b2, 0, none⟩)), (10, .pointer (some ⟨b2, 0, none⟩)), (11, .pointer (some ⟨b2, 2, none⟩))] (by kernel_rfl) fun a hs hS => ?_
    refine d_load (fuel := 4) kS15 hs hS 7 rfl (by kernel_rfl) (SX_box hS15 0 rfl (by kernel_rfl)) 2 (by kernel_rfl) (by kernel_rfl) (v := .slice p4 x3.length c5) (by kernel_rfl) fun a hs hS => ?_
    refine d_pures (fuel := 0) kS15 hs hS [8, 9, 10, 11] [0, 5, 6, 7, 8, 9, 10, 11, 12, 13, 14, 15, 2] [(0, .pointer (some ⟨b2, 0, none⟩)), (5, .pointer (some ⟨b2, 0, none⟩)), (6, .pointer (some ⟨b2, 0, none⟩)), (7, .pointer (some ⟨b2, 0, none⟩)), (8, .int .u64 5), (9, .pointer (some ⟨b2, 0, none⟩)), (10, .pointer (some ⟨b2, 0, none⟩)), (11, .pointer (some ⟨b2, 2, none⟩)), (12, .slice p4 x3.length c5), (13, .int .i64 (x3.length : Int)), (14, .int .u64 (IntKind.u64.wrap ((x3.length : Int)))), (15, .int .u64 (IntKind.u64.wrap (5 + (IntKind.u64.wrap ((x3.length : Int)))))), (2, .int .u64 (IntKind.u64.wrap (5 + (IntKind.u64.wrap ((x3.length : Int))))))] (by kernel_rfl) fun a hs hS => ?_
    refine d_done (by kernel_rfl) ?_
    obtain rfl := someE hx17
    exact (hJ18 _ _).2 ⟨hk, hs.cast [2] (by kernel_rfl), hw.pick [0, 1, 2] (by kernel_rfl)⟩
  intro a w hh
  obtain ⟨hk, hs, hw⟩ := (hJ18 _ _).1 hh
  refine c_ret ?_
  obtain rfl := someE hk
  refine hQ _ _ (f_ret1 hs rfl (v := .int .u64 (IntKind.u64.wrap (5 + (IntKind.u64.wrap ((x3.length : Int)))))) (by kernel_rfl) ⟨rfl, hw.pick [0, 1, 2] (by kernel_rfl)⟩)
def update_Copy_1 : Option Unit :=
  some ()
theorem update_Copy_1_s {x1 : M26} {p2 : Option Addr} {c3 : Nat} {r : Unit} (hk : update_Copy_1 = some r) {g w : World} {F : Ch} {ih : IH} (h4 : RSl e5 ih [] p2 c3 x1.f6) (hw : St g w [F] ih) :
    CallsR Tryz.prog 53 #[.agg #[.int .u64 x1.f0, .int .i64 x1.f1, .int .u64 x1.f2, .int .i64 x1.f3, .int .u32 x1.f4, .int .u64 x1.f5, .slice p2 x1.f6.length c3]] w fun v w' => v = .bool true ∧ St g w' [F] ih := by
  refine f_in (vs := [.agg #[.int .u64 x1.f0, .int .i64 x1.f1, .int .u64 x1.f2, .int .i64 x1.f3, .int .u32 x1.f4, .int .u64 x1.f5, .slice p2 x1.f6.length c3]]) Tryz.func53 rfl 3 rfl (by kernel_rfl) [(0, .agg #[.int .u64 x1.f0, .int .i64 x1.f1, .int .u64 x1.f2, .int .i64 x1.f3, .int .u32 x1.f4, .int .u64 x1.f5, .slice p2 x1.f6.length c3])] (by kernel_rfl) fun a Qf hQ hQn hs => ?_
  refine c_seq ?_
  refine c_region ?_
  refine s_new hs hw [.int .u64 x1.f0, .int .i64 x1.f1, .int .u64 x1.f2, .int .i64 x1.f3, .int .u32 x1.f4, .int .u64 x1.f5, .slice p2 x1.f6.length c3] 26 (fun b => .pointer (some ⟨b, 0, none⟩)) (by kernel_rfl) (fun _ => by kernel_rfl) fun a w b13 hs hw => ?_
  refine pures hs 1 [] [] (by kernel_rfl) fun a hs => ?_
  refine s_end ?_
  refine c_seq ?_
  refine c_region ?_
  refine pures hs 1 [2] [(2, .bool true)] (by kernel_rfl) fun a hs => ?_
  refine s_end ?_
  refine c_ret ?_
  obtain rfl := someE hk
  refine hQ _ _ (f_ret1 hs rfl (v := .bool true) (by kernel_rfl) ⟨rfl, hw.pick [1] (by kernel_rfl)⟩)
def bytes_Clone (x1 : List Int) : Option (List Int) :=
  (app [] x1).bind fun x => some x
theorem bytes_Clone_s {x1 : List Int} {p2 : Option Addr} {c3 : Nat} {d5 : Ch} {r : List Int} (hk : bytes_Clone x1 = some r) {g w : World} {F : Ch} {ih : IH} (h4 : RSl e5 ih d5 p2 c3 x1) (h6 : ∀ q ∈ d5, q ∈ F) (hw : St g w [F] ih) :
    CallsR Tryz.prog 42 #[.slice p2 x1.length c3] w fun v w' => ∃ (p : Option Addr) (c : Nat) (d : Ch), v = .slice p r.length c ∧ St g w' [d, F] ih ∧ OSl e5 ih p c r d := by
  rcases p2 with _ | q
  · obtain ⟨_, rfl, rfl⟩ := h4
    replace hk : some [] = some r := hk
    refine f_in (vs := [.slice none 0 0]) Tryz.func42 rfl 8 rfl (by kernel_rfl) [(0, .slice none 0 0)] (by kernel_rfl) fun a Qf hQ hQn hs => ?_
    refine c_seq ?_
    refine c_region ?_
    refine pures hs 1 [0] [(0, .slice none 0 0)] (by kernel_rfl) fun a hs => ?_
    refine s_end ?_
    refine c_seq ?_
    refine c_seq ?_
    refine c_region ?_
    refine pures hs 2 [0, 4] [(0, .slice none 0 0), (4, .bool true)] (by kernel_rfl) fun a hs => ?_
    refine s_end ?_
    refine c_condT hs (by kernel_rfl) (by kernel_rfl) ?_
    refine c_seq ?_
    refine c_region ?_
    refine pures hs 1 [2] [(2, .slice none 0 0)] (by kernel_rfl) fun a hs => ?_
    refine s_end ?_
    refine c_ret ?_
    replace hw := hw.nil
    obtain rfl := someE hk
    refine hQ _ _ (f_ret1 hs rfl (v := .slice none 0 0) (by kernel_rfl) ⟨none, 0, ([]), rfl, hw.pick [0, 1] (by kernel_rfl), (OSl.nil _ _)⟩)
  refine f_in (vs := [.slice (some q) x1.length c3]) Tryz.func42 rfl 8 rfl (by kernel_rfl) [(0, .slice (some q) x1.length c3)] (by kernel_rfl) fun a Qf hQ hQn hs => ?_
  refine c_seq ?_
  refine c_region ?_
  refine pures hs 1 [0] [(0, .slice (some q) x1.length c3)] (by kernel_rfl) fun a hs => ?_
  refine s_end ?_
  refine c_seq ?_
  refine c_seq ?_
  refine c_region ?_
  refine pures hs 2 [0, 4] [(0, .slice (some q) x1.length c3), (4, .bool false)] (by kernel_rfl) fun a hs => ?_
  refine s_end ?_
  refine c_condF hs (by kernel_rfl) (by kernel_rfl) ?_
  refine c_skip ?_
  refine c_seq ?_
  refine c_region ?_
  refine s_new hs hw [] 5 (fun b => .slice (some ⟨b, 0, none⟩) 0 0) (by kernel_rfl) (fun _ => by kernel_rfl) fun a w b18 hs hw => ?_
  refine pures hs 1 [5, 6] [(5, .slice (some ⟨b18, 0, none⟩) 0 0), (6, .slice (some q) x1.length c3)] (by kernel_rfl) fun a hs => ?_
  obtain ⟨x20, h21, hk⟩ := bindE hk
  refine s_appS hs hw (E := e5) appT24 0 rfl OSl.of0 (by kernel_rfl) (by kernel_rfl) (h4.mono (Le.refl _)) (((hw.vw 1 rfl).sub h6).anti (Le.refl _)) (by kernel_rfl) h21 fun a w p22 c23 d24 h25 hw hs => ?_
  refine pures hs 1 [2] [(2, .slice p22 x20.length c23)] (by kernel_rfl) fun a hs => ?_
  refine s_end ?_
  refine c_ret ?_
  obtain rfl := someE hk
  refine hQ _ _ (f_ret1 hs rfl (v := .slice p22 x20.length c23) (by kernel_rfl) ⟨p22, c23, d24, rfl, hw.pick [0, 1] (by kernel_rfl), h25⟩)
def update_pick_r3 (x1147 : List M26) : Option (List M26) :=
  some x1147
def update_pick_l4 (x1 : List M26) : Nat → (List M26) → Int → Option (List M26)
  | 0, _, _ => none
  | j + 1, x1021, x1027 =>
    if (decide (x1027 < (x1.length : Int))) = true then (
      (ix x1 x1027).bind fun x1225 =>
      (bytes_Clone x1225.f6).bind fun y1245 =>
      (app x1021 [(M26.mk x1225.f0 x1225.f1 x1225.f2 x1225.f3 x1225.f4 x1225.f5 y1245)]).bind fun x1268 =>
      update_pick_l4 x1 j x1268 (IntKind.i64.wrap (x1027 + 1)))
    else some x1021
def update_pick (k : Nat) (x1 : List M26) : Option (List M26) :=
  (update_pick_l4 x1 k ([]) 0 : Option (List M26)).bind fun s1276 => update_pick_r3 s1276
theorem update_pick_s {k : Nat} {x1 : List M26} {p2 : Option Addr} {c3 : Nat} {d5 : Ch} {r : (List M26)} (hk : update_pick k x1 = some r) {g w : World} {F : Ch} {ih : IH} (h4 : RSl e26 ih d5 p2 c3 x1) (h6 : ∀ q ∈ d5, q ∈ F) (hw : St g w [F] ih) :
    CallsR Tryz.prog 52 #[.slice p2 x1.length c3, .func (.func 53) #[] #[]] w fun v w' => ∃ (ih' : IH) (p1277 : Option Addr) (c1278 : Nat) (d1280 : Ch), v = .slice p1277 r.length c1278 ∧ St g w' [d1280, F] ih' ∧ Le ih ih' ∧ OSl e26 ih' p1277 c1278 r d1280 := by
  refine f_in (vs := [.slice p2 x1.length c3, .func (.func 53) #[] #[]]) Tryz.func52 rfl 27 rfl (by kernel_rfl) [(0, .slice p2 x1.length c3), (1, .func (.func 53) #[] #[])] (by kernel_rfl) fun a Qf hQ hQn hs => ?_
  refine c_seq ?_
  refine c_region ?_
  refine pures hs 1 [0, 1] [(0, .slice p2 x1.length c3), (1, .func (.func 53) #[] #[])] (by kernel_rfl) fun a hs => ?_
  refine s_end ?_
  refine c_seq ?_
  refine c_region ?_
  refine pures hs 1 [0, 1, 5] [(0, .slice p2 x1.length c3), (1, .func (.func 53) #[] #[]), (5, .slice none 0 0)] (by kernel_rfl) fun a hs => ?_
  refine s_end ?_
  refine c_seq ?_
  refine c_seq ?_
  refine c_region ?_
  refine pures hs 3 [1, 5, 8, 9, 10] [(1, .func (.func 53) #[] #[]), (5, .slice none 0 0), (8, .slice p2 x1.length c3), (9, .int .i64 (x1.length : Int)), (10, .int .i64 0)] (by kernel_rfl) fun a hs => ?_
  refine s_end ?_
  refine c_block ?_
  obtain ⟨y1153, hx1154, hk⟩ := bindE hk
  replace hw := hw.nil
  obtain ⟨J1155, hJ1155⟩ : ∃ J : Act → World → Prop, ∀ a w, J a w ↔ (∃ (x1147 : List M26) (p1148 : Option Addr) (c1149 : Nat) (d1151 : Ch) (ih1145 : IH), update_pick_r3 x1147 = some r ∧ Sees a 27 [(5, .slice p1148 x1147.length c1149)] ∧ St g w [d1151, F] ih1145 ∧ Le ih ih1145 ∧ OSl e26 ih1145 p1148 c1149 x1147 d1151) := ⟨_, fun _ _ => Iff.rfl⟩
  obtain ⟨I1156, hI1156⟩ : ∃ J : Nat → Act → World → Prop, ∀ j a w, J j a w ↔ (∃ (x1021 : List M26) (x1027 : Int) (p1022 : Option Addr) (c1023 : Nat) (d1025 : Ch) (ih1019 : IH), update_pick_l4 x1 j x1021 x1027 = some y1153 ∧ Sees a 27 [(1, .func (.func 53) #[] #[]), (5, .slice p1022 x1021.length c1023), (8, .slice p2 x1.length c3), (9, .int .i64 (x1.length : Int)), (10, .int .i64 x1027)] ∧ St g w [d1025, F] ih1019 ∧ Le ih ih1019 ∧ OSl e26 ih1019 p1022 c1023 x1021 d1025) := ⟨_, fun _ _ _ => Iff.rfl⟩
  refine c_exitJ 0 J1155 ?_ ?_
  · refine c_loop I1156 k ((hI1156 _ _ _).2 ⟨([]), 0, none, 0, ([]), ih, hx1154, hs.cast [1, 5, 8, 9, 10] (by kernel_rfl), hw.pick [0, 1] (by kernel_rfl), (Le.refl _), (OSl.nil _ _)⟩) (fun a w h0 => ?_) fun j a w hh => ?_
    · obtain ⟨_, _, _, _, _, _, h, _⟩ := (hI1156 _ _ _).1 h0
      cases h
    obtain ⟨x1021, x1027, p1022, c1023, d1025, ih1019, hx1154, hs, hw, hle1020, h1024⟩ := (hI1156 _ _ _).1 hh
    refine c_seq ?_
    refine c_region ?_
    refine pures hs 1 [1, 5, 8, 9, 10, 11] [(1, .func (.func 53) #[] #[]), (5, .slice p1022 x1021.length c1023), (8, .slice p2 x1.length c3), (9, .int .i64 (x1.length : Int)), (10, .int .i64 x1027), (11, .bool (decide (x1027 < (x1.length : Int))))] (by kernel_rfl) fun a hs => ?_
    refine s_end ?_
    refine c_seq ?_
    rcases ifbE hx1154 with ⟨h1157, hx1154⟩ | ⟨h1157, hx1154⟩
    · refine c_cond1 hs (by kernel_rfl) (t := (decide (x1027 < (x1.length : Int)))) (by kernel_rfl) h1157 ?_
      refine c_skip ?_
      refine c_seq ?_
      refine c_block ?_
      refine c_seq ?_
      refine c_region ?_
      obtain ⟨x1225, h1226, hx1154⟩ := bindE hx1154
      refine s_index hs h4 (by kernel_rfl) (by kernel_rfl) (k := .i64) (by kernel_rfl) 26 (by kernel_rfl) (by kernel_rfl) h1226 fun a r1227 cs henc at1228 hs => ?_
      obtain ⟨p1229, c1230, rfl, h1231⟩ := henc
      refine s_load hs (at1228 _ (((hw.vw 1 rfl).sub h6).anti hle1020)) 0 (by kernel_rfl) (by kernel_rfl) (v := .agg #[.int .u64 x1225.f0, .int .i64 x1225.f1, .int .u64 x1225.f2, .int .i64 x1225.f3, .int .u32 x1225.f4, .int .u64 x1225.f5, .slice p1229 x1225.f6.length c1230]) (by kernel_rfl) fun a hs => ?_
      refine s_new hs hw [.int .u64 0, .int .i64 0, .int .u64 0, .int .i64 0, .int .u32 0, .int .u64 0, .slice none 0 0] 26 (fun b => .pointer (some ⟨b, 0, none⟩)) (by kernel_rfl) (fun _ => by kernel_rfl) fun a w b1232 hs hw => ?_
      refine s_store hs hw 0 rfl 0 (by kernel_rfl) (by kernel_rfl) (v := .agg #[.int .u64 x1225.f0, .int .i64 x1225.f1, .int .u64 x1225.f2, .int .i64 x1225.f3, .int .u32 x1225.f4, .int .u64 x1225.f5, .slice p1229 x1225.f6.length c1230]) (by kernel_rfl) (by kernel_rfl) (by kernel_rfl) (by kernel_rfl) fun a w hs hw => ?_
      refine s_end ?_
      refine c_seq ?_
      refine c_region ?_
      refine pures hs 1 [1, 5, 8, 9, 10, 7, 14] [(1, .func (.func 53) #[] #[]), (5, .slice p1022 x1021.length c1023), (8, .slice p2 x1.length c3), (9, .int .i64 (x1.length : Int)), (10, .int .i64 x1027), (7, .pointer (some ⟨b1232, 0, none⟩)), (14, .func (.func 53) #[] #[])] (by kernel_rfl) fun a hs => ?_
      refine s_load hs (hw.at_ 0 rfl) 0 (by kernel_rfl) (by kernel_rfl) (v := .agg #[.int .u64 x1225.f0, .int .i64 x1225.f1, .int .u64 x1225.f2, .int .i64 x1225.f3, .int .u32 x1225.f4, .int .u64 x1225.f5, .slice p1229 x1225.f6.length c1230]) (by kernel_rfl) fun a hs => ?_
      have h1237 : update_Copy_1 = some () := rfl
      refine s_call hs (by kernel_rfl) (by kernel_rfl) (update_Copy_1_s (x1 := x1225) h1237 (h1231.mono hle1020) ((hw.pick [0, 1, 2] (by kernel_rfl)).pack 0)) fun a w v hv hs => ?_
      obtain ⟨rfl, hw⟩ := hv
      replace hw := hw.unpack 0 rfl
      refine s_end ?_
      refine c_condT hs (by kernel_rfl) (by kernel_rfl) ?_
      refine c_seq ?_
      refine c_region ?_
      refine pures hs 1 [1, 5, 8, 9, 10, 7, 17] [(1, .func (.func 53) #[] #[]), (5, .slice p1022 x1021.length c1023), (8, .slice p2 x1.length c3), (9, .int .i64 (x1.length : Int)), (10, .int .i64 x1027), (7, .pointer (some ⟨b1232, 0, none⟩)), (17, .pointer (some ⟨b1232, 6, none⟩))] (by kernel_rfl) fun a hs => ?_
      refine s_load hs (hw.at_ 0 rfl) 6 (by kernel_rfl) (by kernel_rfl) (v := .slice p1229 x1225.f6.length c1230) (by kernel_rfl) fun a hs => ?_
      obtain ⟨y1245, h1246, hx1154⟩ := bindE hx1154
      refine s_call hs (by kernel_rfl) (by kernel_rfl) (bytes_Clone_s h1246 (h1231.mono hle1020) (nilSub _) ((hw.pick [0, 1, 2] (by kernel_rfl)).pack 0)) fun a w v hv hs => ?_
      obtain ⟨p1247, c1248, d1250, rfl, hw, h1249⟩ := hv
      replace hw := hw.unpack 1 rfl
      refine pures hs 1 [1, 5, 8, 9, 10, 7, 19, 20] [(1, .func (.func 53) #[] #[]), (5, .slice p1022 x1021.length c1023), (8, .slice p2 x1.length c3), (9, .int .i64 (x1.length : Int)), (10, .int .i64 x1027), (7, .pointer (some ⟨b1232, 0, none⟩)), (19, .slice p1247 y1245.length c1248), (20, .pointer (some ⟨b1232, 6, none⟩))] (by kernel_rfl) fun a hs => ?_
      refine s_store hs hw 1 rfl 6 (by kernel_rfl) (by kernel_rfl) (v := .slice p1247 y1245.length c1248) (by kernel_rfl) (by kernel_rfl) (by kernel_rfl) (by kernel_rfl) fun a w hs hw => ?_
      refine s_end ?_
      refine c_region ?_
      refine pures hs 1 [1, 8, 9, 10, 7, 21] [(1, .func (.func 53) #[] #[]), (8, .slice p2 x1.length c3), (9, .int .i64 (x1.length : Int)), (10, .int .i64 x1027), (7, .pointer (some ⟨b1232, 0, none⟩)), (21, .slice p1022 x1021.length c1023)] (by kernel_rfl) fun a hs => ?_
      refine s_load hs (hw.at_ 1 rfl) 0 (by kernel_rfl) (by kernel_rfl) (v := .agg #[.int .u64 x1225.f0, .int .i64 x1225.f1, .int .u64 x1225.f2, .int .i64 x1225.f3, .int .u32 x1225.f4, .int .u64 x1225.f5, .slice p1247 y1245.length c1248]) (by kernel_rfl) fun a hs => ?_
      obtain ⟨ih1263, hle1264, hw, h1265⟩ := (hw.pick [0, 1, 2, 3] (by kernel_rfl)).fz (h1249.mono (Le.refl _))
      refine s_new hs hw [.int .u64 x1225.f0, .int .i64 x1225.f1, .int .u64 x1225.f2, .int .i64 x1225.f3, .int .u32 x1225.f4, .int .u64 x1225.f5, .slice p1247 y1245.length c1248] 26 (fun b => .slice (some ⟨b, 0, none⟩) 1 1) (by kernel_rfl) (fun _ => by kernel_rfl) fun a w b1266 hs hw => ?_
      obtain ⟨x1268, h1269, hx1154⟩ := bindE hx1154
      refine s_app1 hs hw (E := e26) appT28 2 rfl (h1024.mono hle1264) (by kernel_rfl) (by kernel_rfl) (c2 := 1) (by kernel_rfl) (hw.at_ 0 rfl) (z := (M26.mk x1225.f0 x1225.f1 x1225.f2 x1225.f3 x1225.f4 x1225.f5 y1245)) ⟨p1247, c1248, rfl, h1265⟩ h1269 fun a w p1270 c1271 d1272 h1273 hw hs => ?_
      refine pures hs 1 [1, 8, 9, 10, 5] [(1, .func (.func 53) #[] #[]), (8, .slice p2 x1.length c3), (9, .int .i64 (x1.length : Int)), (10, .int .i64 x1027), (5, .slice p1270 x1268.length c1271)] (by kernel_rfl) fun a hs => ?_
      refine s_end ?_
      refine c_region ?_
      refine pures hs 2 [1, 8, 9, 10, 5] [(1, .func (.func 53) #[] #[]), (8, .slice p2 x1.length c3), (9, .int .i64 (x1.length : Int)), (10, .int .i64 (IntKind.i64.wrap (x1027 + 1))), (5, .slice p1270 x1268.length c1271)] (by kernel_rfl) fun a hs => ?_
      refine s_end ?_
      exact (hI1156 _ _ _).2 ⟨x1268, (IntKind.i64.wrap (x1027 + 1)), p1270, c1271, d1272, ih1263, hx1154, hs.cast [1, 5, 8, 9, 10] (by kernel_rfl), hw.pick [2, 3] (by kernel_rfl), (hle1020.trans hle1264), h1273⟩
    refine c_cond0 hs (by kernel_rfl) (t := (decide (x1027 < (x1.length : Int)))) (by kernel_rfl) h1157 ?_
    refine c_exit ?_
    obtain rfl := someE hx1154
    exact (hJ1155 _ _).2 ⟨x1021, p1022, c1023, d1025, ih1019, hk, hs.cast [5] (by kernel_rfl), hw.pick [0, 1] (by kernel_rfl), hle1020, h1024⟩
  intro a w hh
  obtain ⟨x1147, p1148, c1149, d1151, ih1145, hk, hs, hw, hle1146, h1150⟩ := (hJ1155 _ _).1 hh
  refine c_seq ?_
  refine c_region ?_
  refine pures hs 2 [4] [(4, .slice p1148 x1147.length c1149)] (by kernel_rfl) fun a hs => ?_
  refine s_end ?_
  refine c_ret ?_
  obtain rfl := someE hk
  refine hQ _ _ (f_ret1 hs rfl (v := .slice p1148 x1147.length c1149) (by kernel_rfl) ⟨ih1145, p1148, c1149, d1151, rfl, hw.pick [0, 1] (by kernel_rfl), hle1146, h1150⟩)
def update_Copy (k : Nat) (x1 : List M26) : Option (List M26) :=
  (update_pick k x1).bind fun y36 =>
  some y36
theorem update_Copy_s {k : Nat} {x1 : List M26} {p2 : Option Addr} {c3 : Nat} {d5 : Ch} {r : (List M26)} (hk : update_Copy k x1 = some r) {g w : World} {F : Ch} {ih : IH} (h4 : RSl e26 ih d5 p2 c3 x1) (h6 : ∀ q ∈ d5, q ∈ F) (hw : St g w [F] ih) :
    CallsR Tryz.prog 46 #[.slice p2 x1.length c3] w fun v w' => ∃ (ih' : IH) (p45 : Option Addr) (c46 : Nat) (d48 : Ch), v = .slice p45 r.length c46 ∧ St g w' [d48, F] ih' ∧ Le ih ih' ∧ OSl e26 ih' p45 c46 r d48 := by
  refine f_in (vs := [.slice p2 x1.length c3]) Tryz.func46 rfl 5 rfl (by kernel_rfl) [(0, .slice p2 x1.length c3)] (by kernel_rfl) fun a Qf hQ hQn hs => ?_
  refine c_seq ?_
  refine c_region ?_
  refine pures hs 1 [0] [(0, .slice p2 x1.length c3)] (by kernel_rfl) fun a hs => ?_
  refine s_end ?_
  refine c_seq ?_
  refine c_region ?_
  refine pures hs 1 [3] [(3, .slice p2 x1.length c3)] (by kernel_rfl) fun a hs => ?_
  obtain ⟨y36, h37, hk⟩ := bindE hk
  refine s_call hs (by kernel_rfl) (by kernel_rfl) (update_pick_s h37 h4 (fun q hq => memF 0 rfl q (h6 q hq)) ((hw.pick [0] (by kernel_rfl)).pack 0)) fun a w v hv hs => ?_
  obtain ⟨ih38, p40, c41, d43, rfl, hw, hle39, h42⟩ := hv
  replace hw := hw.unpack 1 rfl
  refine pures hs 1 [2] [(2, .slice p40 y36.length c41)] (by kernel_rfl) fun a hs => ?_
  refine s_end ?_
  refine c_ret ?_
  obtain rfl := someE hk
  refine hQ _ _ (f_ret1 hs rfl (v := .slice p40 y36.length c41) (by kernel_rfl) ⟨ih38, p40, c41, d43, rfl, hw.pick [0, 1] (by kernel_rfl), hle39, h42⟩)
def window_Window_trim_r3 (y72 : Int) (x103 : List M26) : Option (Int × (List M26)) :=
  some ((if (if (IntKind.u64.wrap (y72 - 32)) < 5 then (IntKind.u64.wrap (y72 - 32)) else 5) > 5 then (if (IntKind.u64.wrap (y72 - 32)) < 5 then (IntKind.u64.wrap (y72 - 32)) else 5) else 5), x103)
def window_Window_trim_r4 (x3 : List M26) (y72 : Int) : Option (Int × (List M26)) :=
  ((sl x3 (IntKind.i64.wrap (IntKind.u64.wrap ((if (if (IntKind.u64.wrap (y72 - 32)) < 5 then (IntKind.u64.wrap (y72 - 32)) else 5) > 5 then (if (IntKind.u64.wrap (y72 - 32)) < 5 then (IntKind.u64.wrap (y72 - 32)) else 5) else 5) - 5))) (x3.length : Int)).bind fun x112 =>
    (app ([]) x112).bind fun x119 =>
    some x119 : Option (List M26)).bind fun s125 => window_Window_trim_r3 y72 s125
def window_Window_trim (x3 : List M26) : Option (Int × (List M26)) :=
  (window_Window_End_2 x3).bind fun y72 =>
  if (decide (y72 < 32)) = true then some (5, x3)
  else window_Window_trim_r4 x3 y72
theorem window_Window_trim_s {x3 : List M26} {b2 : Nat} {p4 : Option Addr} {c5 : Nat} {d7 : Ch} {r : Int × (List M26)} (hk : window_Window_trim x3 = some r) {g w : World} {F : Ch} {ih : IH} (h6 : OSl e26 ih p4 c5 x3 d7) (hw : St g w [bx b2 [.int .u64 5, .int .u64 5, .slice p4 x3.length c5] 78, d7, F] ih) :
    CallsR Tryz.prog 47 #[.pointer (some ⟨b2, 0, none⟩)] w fun v w' => ∃ (p129 : Option Addr) (c130 : Nat) (d131 : Ch), v = .tuple #[] ∧ St g w' [bx b2 [.int .u64 r.1, .int .u64 5, .slice p129 r.2.length c130] 78, d131, F] ih ∧ OSl e26 ih p129 c130 r.2 d131 := by
  refine f_in (vs := [.pointer (some ⟨b2, 0, none⟩)]) Tryz.func47 rfl 52 rfl (by kernel_rfl) [(0, .pointer (some ⟨b2, 0, none⟩))] (by kernel_rfl) fun a Qf hQ hQn hs => ?_
  refine c_seq ?_
  refine c_region ?_
  refine pures hs 1 [0, 5] [(0, .pointer (some ⟨b2, 0, none⟩)), (5, .pointer (some ⟨b2, 0, none⟩))] (by kernel_rfl) fun a hs => ?_
  obtain ⟨y72, h73, hk⟩ := bindE hk
  refine s_call hs (by kernel_rfl) (by kernel_rfl) (window_Window_End_2_s h73 h6 ((hw.pick [0, 1, 2] (by kernel_rfl)).pack 2)) fun a w v hv hs => ?_
  obtain ⟨rfl, hw⟩ := hv
  replace hw := hw.unpack 2 rfl
  refine pures hs 1 [0, 2] [(0, .pointer (some ⟨b2, 0, none⟩)), (2, .int .u64 y72)] (by kernel_rfl) fun a hs => ?_
  refine s_end ?_
  refine c_seq ?_
  refine c_seq ?_
  refine c_region ?_
  refine pures hs 2 [0, 2, 8] [(0, .pointer (some ⟨b2, 0, none⟩)), (2, .int .u64 y72), (8, .bool (decide (y72 < 32)))] (by kernel_rfl) fun a hs => ?_
  refine s_end ?_
  rcases ifbE hk with ⟨h74, hk⟩ | ⟨h74, hk⟩
  · refine c_cond1 hs (by kernel_rfl) (t := (decide (y72 < 32))) (by kernel_rfl) h74 ?_
    refine c_ret ?_
    obtain rfl := someE hk
    refine hQ _ _ (f_retN hs [] rfl [] (by kernel_rfl) (by kernel_rfl) ⟨p4, c5, d7, rfl, hw.pick [0, 1, 2] (by kernel_rfl), h6⟩)
  refine c_cond0 hs (by kernel_rfl) (t := (decide (y72 < 32))) (by kernel_rfl) h74 ?_
  refine c_skip ?_
  refine c_seq ?_
  obtain ⟨S75, hS75, kS75⟩ := mkSX (X := [([], bx b2 [.int .u64 5, .int .u64 5, .slice p4 x3.length c5] 78), ([], d7), ([], F)]) (ih := ih) (K := []) rfl
  obtain ⟨y126, hx127⟩ : ∃ y, (some () : Option Unit) = some y := ⟨_, rfl⟩
  obtain ⟨J128, hJ128⟩ : ∃ J : Act → World → Prop, ∀ a w, J a w ↔ (window_Window_trim_r4 x3 y72 = some r ∧ Sees a 52 [(0, .pointer (some ⟨b2, 0, none⟩)), (3, .int .u64 (if (if (IntKind.u64.wrap (y72 - 32)) < 5 then (IntKind.u64.wrap (y72 - 32)) else 5) > 5 then (if (IntKind.u64.wrap (y72 - 32)) < 5 then (IntKind.u64.wrap (y72 - 32)) else 5) else 5))] ∧ St g w [bx b2 [.int .u64 5, .int .u64 5, .slice p4 x3.length c5] 78, d7, F] ih) := ⟨_, fun _ _ => Iff.rfl⟩
  refine c_draw (by kernel_rfl) (N := 13) rfl S75 J128 ?_ ?_
  · have hw := hw.drew
    have hS : S75 (Array.replicate 13 false) _ := SX_now hS75 (hw.vws [0, 1, 2]) (by kernel_rfl)
    refine d_pures (fuel := 10) kS75 hs hS [0, 1, 2] [0, 2, 9, 10, 11] [(0, .pointer (some ⟨b2, 0, none⟩)), (2, .int .u64 y72), (9, .pointer (some ⟨b2, 0, none⟩)), (10, .pointer (some ⟨b2, 0, none⟩)), (11, .pointer (some ⟨b2, 0, none⟩))] (by kernel_rfl) fun a hs hS => ?_
    refine d_load (fuel := 9) kS75 hs hS 3 rfl (by kernel_rfl) (SX_box hS75 0 rfl (by kernel_rfl)) 0 (by kernel_rfl) (by kernel_rfl) (v := .int .u64 5) (by kernel_rfl) fun a hs hS => ?_
    refine d_pures (fuel := 6) kS75 hs hS [4, 5, 6] [0, 2, 9, 10, 11, 12, 13, 14, 15] [(0, .pointer (some ⟨b2, 0, none⟩)), (2, .int .u64 y72), (9, .pointer (some ⟨b2, 0, none⟩)), (10, .pointer (some ⟨b2, 0, none⟩)), (11, .pointer (some ⟨b2, 0, none⟩)), (12, .int .u64 5), (13, .pointer (some ⟨b2, 0, none⟩)), (14, .pointer (some ⟨b2, 0, none⟩)), (15, .pointer (some ⟨b2, 1, none⟩))] (by kernel_rfl) fun a hs hS => ?_
    refine d_load (fuel := 5) kS75 hs hS 7 rfl (by kernel_rfl) (SX_box hS75 0 rfl (by kernel_rfl)) 1 (by kernel_rfl) (by kernel_rfl) (v := .int .u64 5) (by kernel_rfl) fun a hs hS => ?_
    refine d_pures (fuel := 0) kS75 hs hS [8, 9, 10, 11, 12] [0, 2, 9, 10, 11, 12, 13, 14, 15, 16, 17, 18, 19, 20, 3] [(0, .pointer (some ⟨b2, 0, none⟩)), (2, .int .u64 y72), (9, .pointer (some ⟨b2, 0, none⟩)), (10, .pointer (some ⟨b2, 0, none⟩)), (11, .pointer (some ⟨b2, 0, none⟩)), (12, .int .u64 5), (13, .pointer (some ⟨b2, 0, none⟩)), (14, .pointer (some ⟨b2, 0, none⟩)), (15, .pointer (some ⟨b2, 1, none⟩)), (16, .int .u64 5), (17, .int .u64 y72), (18, .int .u64 (IntKind.u64.wrap (y72 - 32))), (19, .int .u64 (if (IntKind.u64.wrap (y72 - 32)) < 5 then (IntKind.u64.wrap (y72 - 32)) else 5)), (20, .int .u64 (if (if (IntKind.u64.wrap (y72 - 32)) < 5 then (IntKind.u64.wrap (y72 - 32)) else 5) > 5 then (if (IntKind.u64.wrap (y72 - 32)) < 5 then (IntKind.u64.wrap (y72 - 32)) else 5) else 5)), (3, .int .u64 (if (if (IntKind.u64.wrap (y72 - 32)) < 5 then (IntKind.u64.wrap (y72 - 32)) else 5) > 5 then (if (IntKind.u64.wrap (y72 - 32)) < 5 then (IntKind.u64.wrap (y72 - 32)) else 5) else 5))] (by kernel_rfl) fun a hs hS => ?_
    refine d_done (by kernel_rfl) ?_
    obtain rfl := someE hx127
    exact (hJ128 _ _).2 ⟨hk, hs.cast [0, 3] (by kernel_rfl), hw.pick [0, 1, 2] (by kernel_rfl)⟩
  intro a w hh
  obtain ⟨hk, hs, hw⟩ := (hJ128 _ _).1 hh
  refine c_seq ?_
  refine c_region ?_
  refine pures hs 4 [0, 3, 21, 24] [(0, .pointer (some ⟨b2, 0, none⟩)), (3, .int .u64 (if (if (IntKind.u64.wrap (y72 - 32)) < 5 then (IntKind.u64.wrap (y72 - 32)) else 5) > 5 then (if (IntKind.u64.wrap (y72 - 32)) < 5 then (IntKind.u64.wrap (y72 - 32)) else 5) else 5)), (21, .int .u64 (if (if (IntKind.u64.wrap (y72 - 32)) < 5 then (IntKind.u64.wrap (y72 - 32)) else 5) > 5 then (if (IntKind.u64.wrap (y72 - 32)) < 5 then (IntKind.u64.wrap (y72 - 32)) else 5) else 5)), (24, .pointer (some ⟨b2, 0, none⟩))] (by kernel_rfl) fun a hs => ?_
  refine s_load hs (hw.at_ 0 rfl) 0 (by kernel_rfl) (by kernel_rfl) (v := .int .u64 5) (by kernel_rfl) fun a hs => ?_
  refine pures hs 3 [0, 3, 4] [(0, .pointer (some ⟨b2, 0, none⟩)), (3, .int .u64 (if (if (IntKind.u64.wrap (y72 - 32)) < 5 then (IntKind.u64.wrap (y72 - 32)) else 5) > 5 then (if (IntKind.u64.wrap (y72 - 32)) < 5 then (IntKind.u64.wrap (y72 - 32)) else 5) else 5)), (4, .int .i64 (IntKind.i64.wrap (IntKind.u64.wrap ((if (if (IntKind.u64.wrap (y72 - 32)) < 5 then (IntKind.u64.wrap (y72 - 32)) else 5) > 5 then (if (IntKind.u64.wrap (y72 - 32)) < 5 then (IntKind.u64.wrap (y72 - 32)) else 5) else 5) - 5))))] (by kernel_rfl) fun a hs => ?_
  refine s_end ?_
  refine c_seq ?_
  obtain ⟨S76, hS76, kS76⟩ := mkSX (X := [([20], bx b2 [.int .u64 5, .int .u64 5, .slice p4 x3.length c5] 78), ([], d7), ([], F)]) (ih := ih) (K := [20]) rfl
  obtain ⟨y109, hx110, hk⟩ := bindE hk
  obtain ⟨J111, hJ111⟩ : ∃ J : Act → World → Prop, ∀ a w, J a w ↔ (∃ (x103 : List M26) (p104 : Option Addr) (c105 : Nat) (d107 : Ch), window_Window_trim_r3 y72 x103 = some r ∧ Sees a 52 [(0, .pointer (some ⟨b2, 0, none⟩)), (3, .int .u64 (if (if (IntKind.u64.wrap (y72 - 32)) < 5 then (IntKind.u64.wrap (y72 - 32)) else 5) > 5 then (if (IntKind.u64.wrap (y72 - 32)) < 5 then (IntKind.u64.wrap (y72 - 32)) else 5) else 5))] ∧ St g w [bx b2 [.int .u64 5, .int .u64 5, .slice p104 x103.length c105] 78, d107, F] ih ∧ OSl e26 ih p104 c105 x103 d107) := ⟨_, fun _ _ => Iff.rfl⟩
  refine c_draw (by kernel_rfl) (N := 21) rfl S76 J111 ?_ ?_
  · have hw := hw.drew
    have hS : S76 (Array.replicate 21 false) _ := SX_now hS76 (hw.vws [0, 1, 2]) (by kernel_rfl)
    refine d_pures (fuel := 17) kS76 hs hS [0, 1, 2, 3] [0, 3, 4, 28, 29, 30, 31] [(0, .pointer (some ⟨b2, 0, none⟩)), (3, .int .u64 (if (if (IntKind.u64.wrap (y72 - 32)) < 5 then (IntKind.u64.wrap (y72 - 32)) else 5) > 5 then (if (IntKind.u64.wrap (y72 - 32)) < 5 then (IntKind.u64.wrap (y72 - 32)) else 5) else 5)), (4, .int .i64 (IntKind.i64.wrap (IntKind.u64.wrap ((if (if (IntKind.u64.wrap (y72 - 32)) < 5 then (IntKind.u64.wrap (y72 - 32)) else 5) > 5 then (if (IntKind.u64.wrap (y72 - 32)) < 5 then (IntKind.u64.wrap (y72 - 32)) else 5) else 5) - 5)))), (28, .pointer (some ⟨b2, 0, none⟩)), (29, .pointer (some ⟨b2, 0, none⟩)), (30, .pointer (some ⟨b2, 0, none⟩)), (31, .pointer (some ⟨b2, 2, none⟩))] (by kernel_rfl) fun a hs hS => ?_
    refine d_load (fuel := 16) kS76 hs hS 4 rfl (by kernel_rfl) (SX_box hS76 0 rfl (by kernel_rfl)) 2 (by kernel_rfl) (by kernel_rfl) (v := .slice p4 x3.length c5) (by kernel_rfl) fun a hs hS => ?_
    refine d_pures (fuel := 12) kS76 hs hS [5, 6, 7, 8] [0, 3, 4, 28, 29, 30, 31, 32, 33, 34, 35, 36] [(0, .pointer (some ⟨b2, 0, none⟩)), (3, .int .u64 (if (if (IntKind.u64.wrap (y72 - 32)) < 5 then (IntKind.u64.wrap (y72 - 32)) else 5) > 5 then (if (IntKind.u64.wrap (y72 - 32)) < 5 then (IntKind.u64.wrap (y72 - 32)) else 5) else 5)), (4, .int .i64 (IntKind.i64.wrap (IntKind.u64.wrap ((if (if (IntKind.u64.wrap (y72 - 32)) < 5 then (IntKind.u64.wrap (y72 - 32)) else 5) > 5 then (if (IntKind.u64.wrap (y72 - 32)) < 5 then (IntKind.u64.wrap (y72 - 32)) else 5) else 5) - 5)))), (28, .pointer (some ⟨b2, 0, none⟩)), (29, .pointer (some ⟨b2, 0, none⟩)), (30, .pointer (some ⟨b2, 0, none⟩)), (31, .pointer (some ⟨b2, 2, none⟩)), (32, .slice p4 x3.length c5), (33, .int .i64 (IntKind.i64.wrap (IntKind.u64.wrap ((if (if (IntKind.u64.wrap (y72 - 32)) < 5 then (IntKind.u64.wrap (y72 - 32)) else 5) > 5 then (if (IntKind.u64.wrap (y72 - 32)) < 5 then (IntKind.u64.wrap (y72 - 32)) else 5) else 5) - 5)))), (34, .pointer (some ⟨b2, 0, none⟩)), (35, .pointer (some ⟨b2, 0, none⟩)), (36, .pointer (some ⟨b2, 2, none⟩))] (by kernel_rfl) fun a hs hS => ?_
    refine d_load (fuel := 11) kS76 hs hS 9 rfl (by kernel_rfl) (SX_box hS76 0 rfl (by kernel_rfl)) 2 (by kernel_rfl) (by kernel_rfl) (v := .slice p4 x3.length c5) (by kernel_rfl) fun a hs hS => ?_
    refine d_pures (fuel := 7) kS76 hs hS [10, 11, 12, 13] [0, 3, 4, 28, 29, 30, 31, 32, 33, 34, 35, 36, 37, 38, 39, 40, 41] [(0, .pointer (some ⟨b2, 0, none⟩)), (3, .int .u64 (if (if (IntKind.u64.wrap (y72 - 32)) < 5 then (IntKind.u64.wrap (y72 - 32)) else 5) > 5 then (if (IntKind.u64.wrap (y72 - 32)) < 5 then (IntKind.u64.wrap (y72 - 32)) else 5) else 5)), (4, .int .i64 (IntKind.i64.wrap (IntKind.u64.wrap ((if (if (IntKind.u64.wrap (y72 - 32)) < 5 then (IntKind.u64.wrap (y72 - 32)) else 5) > 5 then (if (IntKind.u64.wrap (y72 - 32)) < 5 then (IntKind.u64.wrap (y72 - 32)) else 5) else 5) - 5)))), (28, .pointer (some ⟨b2, 0, none⟩)), (29, .pointer (some ⟨b2, 0, none⟩)), (30, .pointer (some ⟨b2, 0, none⟩)), (31, .pointer (some ⟨b2, 2, none⟩)), (32, .slice p4 x3.length c5), (33, .int .i64 (IntKind.i64.wrap (IntKind.u64.wrap ((if (if (IntKind.u64.wrap (y72 - 32)) < 5 then (IntKind.u64.wrap (y72 - 32)) else 5) > 5 then (if (IntKind.u64.wrap (y72 - 32)) < 5 then (IntKind.u64.wrap (y72 - 32)) else 5) else 5) - 5)))), (34, .pointer (some ⟨b2, 0, none⟩)), (35, .pointer (some ⟨b2, 0, none⟩)), (36, .pointer (some ⟨b2, 2, none⟩)), (37, .slice p4 x3.length c5), (38, .int .i64 (x3.length : Int)), (39, .pointer (some ⟨b2, 0, none⟩)), (40, .pointer (some ⟨b2, 0, none⟩)), (41, .pointer (some ⟨b2, 2, none⟩))] (by kernel_rfl) fun a hs hS => ?_
    refine d_load (fuel := 6) kS76 hs hS 14 rfl (by kernel_rfl) (SX_box hS76 0 rfl (by kernel_rfl)) 2 (by kernel_rfl) (by kernel_rfl) (v := .slice p4 x3.length c5) (by kernel_rfl) fun a hs hS => ?_
    refine d_pures (fuel := 5) kS76 hs hS [15] [0, 3, 4, 28, 29, 30, 31, 32, 33, 34, 35, 36, 37, 38, 39, 40, 41, 42, 43] [(0, .pointer (some ⟨b2, 0, none⟩)), (3, .int .u64 (if (if (IntKind.u64.wrap (y72 - 32)) < 5 then (IntKind.u64.wrap (y72 - 32)) else 5) > 5 then (if (IntKind.u64.wrap (y72 - 32)) < 5 then (IntKind.u64.wrap (y72 - 32)) else 5) else 5)), (4, .int .i64 (IntKind.i64.wrap (IntKind.u64.wrap ((if (if (IntKind.u64.wrap (y72 - 32)) < 5 then (IntKind.u64.wrap (y72 - 32)) else 5) > 5 then (if (IntKind.u64.wrap (y72 - 32)) < 5 then (IntKind.u64.wrap (y72 - 32)) else 5) else 5) - 5)))), (28, .pointer (some ⟨b2, 0, none⟩)), (29, .pointer (some ⟨b2, 0, none⟩)), (30, .pointer (some ⟨b2, 0, none⟩)), (31, .pointer (some ⟨b2, 2, none⟩)), (32, .slice p4 x3.length c5), (33, .int .i64 (IntKind.i64.wrap (IntKind.u64.wrap ((if (if (IntKind.u64.wrap (y72 - 32)) < 5 then (IntKind.u64.wrap (y72 - 32)) else 5) > 5 then (if (IntKind.u64.wrap (y72 - 32)) < 5 then (IntKind.u64.wrap (y72 - 32)) else 5) else 5) - 5)))), (34, .pointer (some ⟨b2, 0, none⟩)), (35, .pointer (some ⟨b2, 0, none⟩)), (36, .pointer (some ⟨b2, 2, none⟩)), (37, .slice p4 x3.length c5), (38, .int .i64 (x3.length : Int)), (39, .pointer (some ⟨b2, 0, none⟩)), (40, .pointer (some ⟨b2, 0, none⟩)), (41, .pointer (some ⟨b2, 2, none⟩)), (42, .slice p4 x3.length c5), (43, .int .i64 (x3.length : Int))] (by kernel_rfl) fun a hs hS => ?_
    obtain ⟨x112, h113, hx110⟩ := bindE hx110
    refine d_slice (fuel := 4) kS76 hs hS 16 rfl (by kernel_rfl) h6.read (by kernel_rfl) (by kernel_rfl) 26 (by kernel_rfl) (by kernel_rfl) (by kernel_rfl) (by kernel_rfl) (by kernel_rfl) h113 (.inr ⟨_, rfl, Int.le_refl _, (slE h113).2.2.1⟩) fun a p114 c115 h116 hs hS => ?_
    refine d_all (fuel := 3) (rs := [17]) (by kernel_rfl) (by simp) (all1 ?_)
    replace hw := hw.nil
    obtain ⟨x119, h120, hx110⟩ := bindE hx110
    refine o_appS hs rfl hw (E := e26) appT28 0 rfl (OSl.nil _ _) (by kernel_rfl) (by kernel_rfl) (h116.mono (Le.refl _)) ((hw.vw 2 rfl).anti (Le.refl _)) (by kernel_rfl) h120 fun a w p121 c122 d123 h124 hw hs => ?_
    refine dg_next (SX_now hS76 ((hw.vws [1, 2, 3]).anti (Le.refl _)) (by kernel_rfl)) fun hS => ?_
    refine d_pures (fuel := 1) kS76 hs hS [18, 19] [0, 3, 4, 28, 29, 30, 31, 32, 33, 34, 35, 36, 37, 38, 39, 40, 41, 42, 43, 44, 45, 46, 47] [(0, .pointer (some ⟨b2, 0, none⟩)), (3, .int .u64 (if (if (IntKind.u64.wrap (y72 - 32)) < 5 then (IntKind.u64.wrap (y72 - 32)) else 5) > 5 then (if (IntKind.u64.wrap (y72 - 32)) < 5 then (IntKind.u64.wrap (y72 - 32)) else 5) else 5)), (4, .int .i64 (IntKind.i64.wrap (IntKind.u64.wrap ((if (if (IntKind.u64.wrap (y72 - 32)) < 5 then (IntKind.u64.wrap (y72 - 32)) else 5) > 5 then (if (IntKind.u64.wrap (y72 - 32)) < 5 then (IntKind.u64.wrap (y72 - 32)) else 5) else 5) - 5)))), (28, .pointer (some ⟨b2, 0, none⟩)), (29, .pointer (some ⟨b2, 0, none⟩)), (30, .pointer (some ⟨b2, 0, none⟩)), (31, .pointer (some ⟨b2, 2, none⟩)), (32, .slice p4 x3.length c5), (33, .int .i64 (IntKind.i64.wrap (IntKind.u64.wrap ((if (if (IntKind.u64.wrap (y72 - 32)) < 5 then (IntKind.u64.wrap (y72 - 32)) else 5) > 5 then (if (IntKind.u64.wrap (y72 - 32)) < 5 then (IntKind.u64.wrap (y72 - 32)) else 5) else 5) - 5)))), (34, .pointer (some ⟨b2, 0, none⟩)), (35, .pointer (some ⟨b2, 0, none⟩)), (36, .pointer (some ⟨b2, 2, none⟩)), (37, .slice p4 x3.length c5), (38, .int .i64 (x3.length : Int)), (39, .pointer (some ⟨b2, 0, none⟩)), (40, .pointer (some ⟨b2, 0, none⟩)), (41, .pointer (some ⟨b2, 2, none⟩)), (42, .slice p4 x3.length c5), (43, .int .i64 (x3.length : Int)), (44, .slice p114 x112.length c115), (45, .slice p121 x119.length c122), (46, .pointer (some ⟨b2, 0, none⟩)), (47, .pointer (some ⟨b2, 2, none⟩))] (by kernel_rfl) fun a hs hS => ?_
    refine d_all (fuel := 0) (rs := [20]) (by kernel_rfl) (by simp) (all1 ?_)
    refine o_store hs hw rfl 1 rfl 2 (by kernel_rfl) (by kernel_rfl) (v := .slice p121 x119.length c122) (by kernel_rfl) (by kernel_rfl) (by kernel_rfl) (by kernel_rfl) fun a w hs hw => ?_
    refine dg_next (SX_now hS76 ((hw.vws [2, 3]).anti (Le.refl _)) (by kernel_rfl)) fun hS => ?_
    refine d_done (by kernel_rfl) ?_
    obtain rfl := someE hx110
    exact (hJ111 _ _).2 ⟨x119, p121, c122, d123, hk, hs.cast [0, 3] (by kernel_rfl), hw.pick [1, 0, 3] (by kernel_rfl), h124⟩
  intro a w hh
  obtain ⟨x103, p104, c105, d107, hk, hs, hw, h106⟩ := (hJ111 _ _).1 hh
  refine c_region ?_
  refine pures hs 4 [49, 51] [(49, .int .u64 (if (if (IntKind.u64.wrap (y72 - 32)) < 5 then (IntKind.u64.wrap (y72 - 32)) else 5) > 5 then (if (IntKind.u64.wrap (y72 - 32)) < 5 then (IntKind.u64.wrap (y72 - 32)) else 5) else 5)), (51, .pointer (some ⟨b2, 0, none⟩))] (by kernel_rfl) fun a hs => ?_
  refine s_store hs hw 0 rfl 0 (by kernel_rfl) (by kernel_rfl) (v := .int .u64 (if (if (IntKind.u64.wrap (y72 - 32)) < 5 then (IntKind.u64.wrap (y72 - 32)) else 5) > 5 then (if (IntKind.u64.wrap (y72 - 32)) < 5 then (IntKind.u64.wrap (y72 - 32)) else 5) else 5)) (by kernel_rfl) (by kernel_rfl) (by kernel_rfl) (by kernel_rfl) fun a w hs hw => ?_
  refine s_end ?_
  obtain rfl := someE hk
  refine hQn _ _ (f_retN hs [] rfl [] (by kernel_rfl) (by kernel_rfl) ⟨p104, c105, d107, rfl, hw.pick [0, 1, 2] (by kernel_rfl), h106⟩)
def window_Window_Add_2_r3 (x170 : List M26) : Option (Int × Int × (List M26)) :=
  (window_Window_trim x170).bind fun y182 =>
  some (0, y182.1, y182.2)
def window_Window_Add_2_r4 (k : Nat) (x3 : List M26) (x131 : Bool) : Option (Int × Int × (List M26)) :=
  if x131 = true then some (12, 5, x3)
  else ((update_Copy k ([(M26.mk 6 1 1 2 0 0 ([]))])).bind fun y193 =>
    (app x3 y193).bind fun x202 =>
    some x202 : Option (List M26)).bind fun s208 => window_Window_Add_2_r3 s208
def window_Window_Add_2 (k : Nat) (x3 : List M26) : Option (Int × Int × (List M26)) :=
  (update_Check k).bind fun y121 =>
  if (y121 != 0) = true then some (y121, 5, x3)
  else ((window_Window_End_2 x3).bind fun y212 =>
    some (5 != y212) : Option Bool).bind fun s214 => window_Window_Add_2_r4 k x3 s214
theorem window_Window_Add_2_s {k : Nat} {x3 : List M26} {b2 : Nat} {p4 : Option Addr} {c5 : Nat} {d7 : Ch} {r : Int × Int × (List M26)} (hk : window_Window_Add_2 k x3 = some r) {g w : World} {F : Ch} {ih : IH} (h6 : OSl e26 ih p4 c5 x3 d7) (hG : Glob 0 gl0 110 ih) (hw : St g w [bx b2 [.int .u64 5, .int .u64 5, .slice p4 x3.length c5] 78, d7, F] ih) :
    CallsR Tryz.prog 23 #[.pointer (some ⟨b2, 0, none⟩), .agg #[.int .u64 6, .int .i64 1, .int .u64 1, .int .i64 2, .int .u32 0, .int .u64 0, .slice none 0 0]] w fun v w' => ∃ (ih' : IH) (p215 : Option Addr) (c216 : Nat) (d217 : Ch), v = .int .i64 r.1 ∧ St g w' [bx b2 [.int .u64 r.2.1, .int .u64 5, .slice p215 r.2.2.length c216] 78, d217, F] ih' ∧ Le ih ih' ∧ OSl e26 ih' p215 c216 r.2.2 d217 := by
  refine f_in (vs := [.pointer (some ⟨b2, 0, none⟩), .agg #[.int .u64 6, .int .i64 1, .int .u64 1, .int .i64 2, .int .u32 0, .int .u64 0, .slice none 0 0]]) Tryz.func23 rfl 32 rfl (by kernel_rfl) [(0, .pointer (some ⟨b2, 0, none⟩)), (1, .agg #[.int .u64 6, .int .i64 1, .int .u64 1, .int .i64 2, .int .u32 0, .int .u64 0, .slice none 0 0])] (by kernel_rfl) fun a Qf hQ hQn hs => ?_
  refine c_seq ?_
  refine c_region ?_
  refine s_new hs hw [.int .u64 6, .int .i64 1, .int .u64 1, .int .i64 2, .int .u32 0, .int .u64 0, .slice none 0 0] 26 (fun b => .pointer (some ⟨b, 0, none⟩)) (by kernel_rfl) (fun _ => by kernel_rfl) fun a w b115 hs hw => ?_
  refine pures hs 1 [0, 3] [(0, .pointer (some ⟨b2, 0, none⟩)), (3, .pointer (some ⟨b115, 0, none⟩))] (by kernel_rfl) fun a hs => ?_
  refine s_end ?_
  refine c_seq ?_
  refine c_seq ?_
  refine c_region ?_
  refine pures hs 2 [0, 3, 7] [(0, .pointer (some ⟨b2, 0, none⟩)), (3, .pointer (some ⟨b115, 0, none⟩)), (7, .bool false)] (by kernel_rfl) fun a hs => ?_
  refine s_end ?_
  refine c_condF hs (by kernel_rfl) (by kernel_rfl) ?_
  refine c_skip ?_
  refine c_seq ?_
  refine c_seq ?_
  refine c_region ?_
  refine s_load hs (hw.at_ 0 rfl) 0 (by kernel_rfl) (by kernel_rfl) (v := .agg #[.int .u64 6, .int .i64 1, .int .u64 1, .int .i64 2, .int .u32 0, .int .u64 0, .slice none 0 0]) (by kernel_rfl) fun a hs => ?_
  obtain ⟨y121, h122, hk⟩ := bindE hk
  refine s_call hs (by kernel_rfl) (by kernel_rfl) (update_Check_s h122 (hG.mono (Le.refl _)) ((hw.pick [0, 1, 2, 3] (by kernel_rfl)).pack 0)) fun a w v hv hs => ?_
  obtain ⟨ih123, rfl, hw, hle124⟩ := hv
  replace hw := hw.unpack 0 rfl
  refine pures hs 1 [0, 3, 5] [(0, .pointer (some ⟨b2, 0, none⟩)), (3, .pointer (some ⟨b115, 0, none⟩)), (5, .int .i64 y121)] (by kernel_rfl) fun a hs => ?_
  refine s_end ?_
  refine c_seq ?_
  refine c_region ?_
  refine pures hs 2 [0, 3, 5, 11] [(0, .pointer (some ⟨b2, 0, none⟩)), (3, .pointer (some ⟨b115, 0, none⟩)), (5, .int .i64 y121), (11, .bool (y121 != 0))] (by kernel_rfl) fun a hs => ?_
  refine s_end ?_
  rcases ifbE hk with ⟨h125, hk⟩ | ⟨h125, hk⟩
  · refine c_cond1 hs (by kernel_rfl) (t := (y121 != 0)) (by kernel_rfl) h125 ?_
    refine c_seq ?_
    refine c_region ?_
    refine pures hs 2 [4] [(4, .int .i64 y121)] (by kernel_rfl) fun a hs => ?_
    refine s_end ?_
    refine c_ret ?_
    obtain rfl := someE hk
    refine hQ _ _ (f_ret1 hs rfl (v := .int .i64 y121) (by kernel_rfl) ⟨ih123, p4, c5, d7, rfl, hw.pick [1, 2, 3] (by kernel_rfl), hle124, (h6.mono hle124)⟩)
  refine c_cond0 hs (by kernel_rfl) (t := (y121 != 0)) (by kernel_rfl) h125 ?_
  refine c_skip ?_
  refine c_seq ?_
  refine c_seq ?_
  obtain ⟨S126, hS126, kS126⟩ := mkSX (X := [([], bx b115 [.int .u64 6, .int .i64 1, .int .u64 1, .int .i64 2, .int .u32 0, .int .u64 0, .slice none 0 0] 26), ([], bx b2 [.int .u64 5, .int .u64 5, .slice p4 x3.length c5] 78), ([], d7), ([], F)]) (ih := ih123) (K := []) rfl
  obtain ⟨y209, hx210, hk⟩ := bindE hk
  obtain ⟨J211, hJ211⟩ : ∃ J : Act → World → Prop, ∀ a w, J a w ↔ (∃ (x131 : Bool), window_Window_Add_2_r4 k x3 x131 = some r ∧ Sees a 32 [(0, .pointer (some ⟨b2, 0, none⟩)), (3, .pointer (some ⟨b115, 0, none⟩)), (18, .bool x131)] ∧ St g w [bx b115 [.int .u64 6, .int .i64 1, .int .u64 1, .int .i64 2, .int .u32 0, .int .u64 0, .slice none 0 0] 26, bx b2 [.int .u64 5, .int .u64 5, .slice p4 x3.length c5] 78, d7, F] ih123) := ⟨_, fun _ _ => Iff.rfl⟩
  refine c_draw (by kernel_rfl) (N := 6) rfl S126 J211 ?_ ?_
  · have hw := hw.drew
    have hS : S126 (Array.replicate 6 false) _ := SX_now hS126 (hw.vws [0, 1, 2, 3]) (by kernel_rfl)
    refine d_pures (fuel := 5) kS126 hs hS [0] [0, 3, 13] [(0, .pointer (some ⟨b2, 0, none⟩)), (3, .pointer (some ⟨b115, 0, none⟩)), (13, .pointer (some ⟨b115, 0, none⟩))] (by kernel_rfl) fun a hs hS => ?_
    refine d_load (fuel := 4) kS126 hs hS 1 rfl (by kernel_rfl) (SX_box hS126 0 rfl (by kernel_rfl)) 0 (by kernel_rfl) (by kernel_rfl) (v := .int .u64 6) (by kernel_rfl) fun a hs hS => ?_
    refine d_pures (fuel := 2) kS126 hs hS [2, 3] [0, 3, 13, 14, 15, 16] [(0, .pointer (some ⟨b2, 0, none⟩)), (3, .pointer (some ⟨b115, 0, none⟩)), (13, .pointer (some ⟨b115, 0, none⟩)), (14, .int .u64 6), (15, .int .u64 5), (16, .pointer (some ⟨b2, 0, none⟩))] (by kernel_rfl) fun a hs hS => ?_
    refine d_all (fuel := 1) (rs := [4]) (by kernel_rfl) (by simp) (all1 ?_)
    obtain ⟨y212, h213, hx210⟩ := bindE hx210
    refine o_call hs rfl (by kernel_rfl) (by kernel_rfl) (window_Window_End_2_s h213 (h6.mono hle124) ((hw.pick [1, 2, 0, 3] (by kernel_rfl)).pack 2)) fun a w v hv hs => ?_
    obtain ⟨rfl, hw⟩ := hv
    replace hw := hw.unpack 2 rfl
    refine dg_next (SX_now hS126 ((hw.vws [2, 0, 1, 3]).anti (Le.refl _)) (by kernel_rfl)) fun hS => ?_
    refine d_pures (fuel := 0) kS126 hs hS [5] [0, 3, 13, 14, 15, 16, 17, 18] [(0, .pointer (some ⟨b2, 0, none⟩)), (3, .pointer (some ⟨b115, 0, none⟩)), (13, .pointer (some ⟨b115, 0, none⟩)), (14, .int .u64 6), (15, .int .u64 5), (16, .pointer (some ⟨b2, 0, none⟩)), (17, .int .u64 y212), (18, .bool (5 != y212))] (by kernel_rfl) fun a hs hS => ?_
    refine d_done (by kernel_rfl) ?_
    obtain rfl := someE hx210
    exact (hJ211 _ _).2 ⟨(5 != y212), hk, hs.cast [0, 3, 18] (by kernel_rfl), hw.pick [2, 0, 1, 3] (by kernel_rfl)⟩
  intro a w hh
  obtain ⟨x131, hk, hs, hw⟩ := (hJ211 _ _).1 hh
  rcases ifbE hk with ⟨h132, hk⟩ | ⟨h132, hk⟩
  · refine c_cond1 hs (by kernel_rfl) (t := x131) (by kernel_rfl) h132 ?_
    refine c_seq ?_
    refine c_region ?_
    refine pures hs 1 [4] [(4, .int .i64 12)] (by kernel_rfl) fun a hs => ?_
    refine s_end ?_
    refine c_ret ?_
    obtain rfl := someE hk
    refine hQ _ _ (f_ret1 hs rfl (v := .int .i64 12) (by kernel_rfl) ⟨ih123, p4, c5, d7, rfl, hw.pick [1, 2, 3] (by kernel_rfl), hle124, (h6.mono hle124)⟩)
  refine c_cond0 hs (by kernel_rfl) (t := x131) (by kernel_rfl) h132 ?_
  refine c_skip ?_
  refine c_seq ?_
  obtain ⟨S133, hS133, kS133⟩ := mkSX (X := [([], bx b115 [.int .u64 6, .int .i64 1, .int .u64 1, .int .i64 2, .int .u32 0, .int .u64 0, .slice none 0 0] 26), ([8, 11], bx b2 [.int .u64 5, .int .u64 5, .slice p4 x3.length c5] 78), ([8], d7), ([], F)]) (ih := ih123) (K := [8, 11, 8]) rfl
  obtain ⟨y188, hx189, hk⟩ := bindE hk
  obtain ⟨J190, hJ190⟩ : ∃ J : Act → World → Prop, ∀ a w, J a w ↔ (∃ (x170 : List M26) (p171 : Option Addr) (c172 : Nat) (d174 : Ch) (ih168 : IH), window_Window_Add_2_r3 x170 = some r ∧ Sees a 32 [(0, .pointer (some ⟨b2, 0, none⟩))] ∧ St g w [bx b2 [.int .u64 5, .int .u64 5, .slice p171 x170.length c172] 78, d174, F] ih168 ∧ Le ih123 ih168 ∧ OSl e26 ih168 p171 c172 x170 d174) := ⟨_, fun _ _ => Iff.rfl⟩
  refine c_draw (by kernel_rfl) (N := 12) rfl S133 J190 ?_ ?_
  · have hw := hw.drew
    have hS : S133 (Array.replicate 12 false) _ := SX_now hS133 (hw.vws [0, 1, 2, 3]) (by kernel_rfl)
    refine d_pures (fuel := 8) kS133 hs hS [0, 1, 2, 3] [0, 3, 19, 20, 21, 22] [(0, .pointer (some ⟨b2, 0, none⟩)), (3, .pointer (some ⟨b115, 0, none⟩)), (19, .pointer (some ⟨b2, 0, none⟩)), (20, .pointer (some ⟨b2, 0, none⟩)), (21, .pointer (some ⟨b2, 0, none⟩)), (22, .pointer (some ⟨b2, 2, none⟩))] (by kernel_rfl) fun a hs hS => ?_
    refine d_load (fuel := 7) kS133 hs hS 4 rfl (by kernel_rfl) (SX_box hS133 1 rfl (by kernel_rfl)) 2 (by kernel_rfl) (by kernel_rfl) (v := .slice p4 x3.length c5) (by kernel_rfl) fun a hs hS => ?_
    refine d_load (fuel := 6) kS133 hs hS 5 rfl (by kernel_rfl) (SX_box hS133 0 rfl (by kernel_rfl)) 0 (by kernel_rfl) (by kernel_rfl) (v := .agg #[.int .u64 6, .int .i64 1, .int .u64 1, .int .i64 2, .int .u32 0, .int .u64 0, .slice none 0 0]) (by kernel_rfl) fun a hs hS => ?_
    refine d_all (fuel := 5) (rs := [6]) (by kernel_rfl) (by simp) (all1 ?_)
    refine o_new hs rfl hw [.int .u64 6, .int .i64 1, .int .u64 1, .int .i64 2, .int .u32 0, .int .u64 0, .slice none 0 0] 26 (fun b => .slice (some ⟨b, 0, none⟩) 1 1) (by kernel_rfl) (fun _ => by kernel_rfl) fun a w b191 hs hw => ?_
    refine dg_next (SX_now hS133 ((hw.vws [1, 2, 3, 4]).anti (Le.refl _)) (by kernel_rfl)) fun hS => ?_
    refine d_all (fuel := 4) (rs := [7]) (by kernel_rfl) (by simp) (all1 ?_)
    obtain ⟨y193, h194, hx189⟩ := bindE hx189
    refine o_call hs rfl (by kernel_rfl) (by kernel_rfl) (update_Copy_s h194 ((OSl.of1 (E := e26) (z := (M26.mk 6 1 1 2 0 0 ([]))) ⟨none, 0, rfl, (RSl.nil _ _ _)⟩ (by simp [maxLen])).read) (memF 0 rfl) ((hw.pick [0, 1, 2, 3, 4] (by kernel_rfl)).pack 0)) fun a w v hv hs => ?_
    obtain ⟨ih195, p197, c198, d200, rfl, hw, hle196, h199⟩ := hv
    replace hw := hw.unpack 1 rfl
    refine dg_next (SX_now hS133 ((hw.vws [2, 3, 4, 5]).anti hle196) (by kernel_rfl)) fun hS => ?_
    refine d_all (fuel := 3) (rs := [8]) (by kernel_rfl) (by simp) (all1 ?_)
    obtain ⟨x202, h203, hx189⟩ := bindE hx189
    refine o_appS hs rfl hw (E := e26) appT28 4 rfl (h6.mono (hle124.trans hle196)) (by kernel_rfl) (by kernel_rfl) (h199.read.mono (Le.refl _)) ((hw.vw 0 rfl).anti (Le.refl _)) (by kernel_rfl) h203 fun a w p204 c205 d206 h207 hw hs => ?_
    refine dg_next (SX_now hS133 ((hw.vws [2, 5]).anti hle196) (by kernel_rfl)) fun hS => ?_
    refine d_pures (fuel := 1) kS133 hs hS [9, 10] [0, 3, 19, 20, 21, 22, 24, 25, 26, 27, 28, 29] [(0, .pointer (some ⟨b2, 0, none⟩)), (3, .pointer (some ⟨b115, 0, none⟩)), (19, .pointer (some ⟨b2, 0, none⟩)), (20, .pointer (some ⟨b2, 0, none⟩)), (21, .pointer (some ⟨b2, 0, none⟩)), (22, .pointer (some ⟨b2, 2, none⟩)), (24, .agg #[.int .u64 6, .int .i64 1, .int .u64 1, .int .i64 2, .int .u32 0, .int .u64 0, .slice none 0 0]), (25, .slice (some ⟨b191, 0, none⟩) 1 1), (26, .slice p197 y193.length c198), (27, .slice p204 x202.length c205), (28, .pointer (some ⟨b2, 0, none⟩)), (29, .pointer (some ⟨b2, 2, none⟩))] (by kernel_rfl) fun a hs hS => ?_
    refine d_all (fuel := 0) (rs := [11]) (by kernel_rfl) (by simp) (all1 ?_)
    refine o_store hs hw rfl 3 rfl 2 (by kernel_rfl) (by kernel_rfl) (v := .slice p204 x202.length c205) (by kernel_rfl) (by kernel_rfl) (by kernel_rfl) (by kernel_rfl) fun a w hs hw => ?_
    refine dg_next (SX_now hS133 ((hw.vws [2, 5]).anti hle196) (by kernel_rfl)) fun hS => ?_
    refine d_done (by kernel_rfl) ?_
    obtain rfl := someE hx189
    exact (hJ190 _ _).2 ⟨x202, p204, c205, d206, ih195, hk, hs.cast [0] (by kernel_rfl), hw.pick [3, 4, 5] (by kernel_rfl), hle196, h207⟩
  intro a w hh
  obtain ⟨x170, p171, c172, d174, ih168, hk, hs, hw, hle169, h173⟩ := (hJ190 _ _).1 hh
  refine c_seq ?_
  refine c_region ?_
  refine pures hs 1 [30] [(30, .pointer (some ⟨b2, 0, none⟩))] (by kernel_rfl) fun a hs => ?_
  obtain ⟨y182, h183, hk⟩ := bindE hk
  refine s_call hs (by kernel_rfl) (by kernel_rfl) (window_Window_trim_s h183 h173 ((hw.pick [0, 1, 2] (by kernel_rfl)).pack 2)) fun a w v hv hs => ?_
  obtain ⟨p184, c185, d187, rfl, hw, h186⟩ := hv
  replace hw := hw.unpack 2 rfl
  refine s_end ?_
  refine c_seq ?_
  refine c_region ?_
  refine pures hs 1 [4] [(4, .int .i64 0)] (by kernel_rfl) fun a hs => ?_
  refine s_end ?_
  refine c_ret ?_
  obtain rfl := someE hk
  refine hQ _ _ (f_ret1 hs rfl (v := .int .i64 0) (by kernel_rfl) ⟨ih168, p184, c185, d187, rfl, hw.pick [0, 1, 2] (by kernel_rfl), (hle124.trans hle169), h186⟩)
def catenarylaw20_one_2 : Option Unit :=
  some ()
theorem catenarylaw20_one_2_s {r : Unit} (hk : catenarylaw20_one_2 = some r) {g w : World} {F : Ch} {ih : IH} (hw : St g w [F] ih) :
    CallsR Tryz.prog 24 #[.int .u64 7] w fun v w' => v = .agg #[.int .u64 7, .int .i64 1, .int .u64 1, .int .i64 2, .int .u32 0, .int .u64 0, .slice none 0 0] ∧ St g w' [F] ih := by
  refine f_in (vs := [.int .u64 7]) Tryz.func24 rfl 5 rfl (by kernel_rfl) [(0, .int .u64 7)] (by kernel_rfl) fun a Qf hQ hQn hs => ?_
  refine c_seq ?_
  refine c_region ?_
  refine s_new hs hw [.int .u64 0, .int .i64 0, .int .u64 0, .int .i64 0, .int .u32 0, .int .u64 0, .slice none 0 0] 26 (fun b => .pointer (some ⟨b, 0, none⟩)) (by kernel_rfl) (fun _ => by kernel_rfl) fun a w b9 hs hw => ?_
  refine s_end ?_
  refine c_seq ?_
  refine c_region ?_
  refine pures hs 2 [2, 4] [(2, .pointer (some ⟨b9, 0, none⟩)), (4, .agg #[.int .u64 7, .int .i64 1, .int .u64 1, .int .i64 2, .int .u32 0, .int .u64 0, .slice none 0 0])] (by kernel_rfl) fun a hs => ?_
  refine s_store hs hw 0 rfl 0 (by kernel_rfl) (by kernel_rfl) (v := .agg #[.int .u64 7, .int .i64 1, .int .u64 1, .int .i64 2, .int .u32 0, .int .u64 0, .slice none 0 0]) (by kernel_rfl) (by kernel_rfl) (by kernel_rfl) (by kernel_rfl) fun a w hs hw => ?_
  refine s_end ?_
  refine c_ret ?_
  obtain rfl := someE hk
  refine hQ _ _ (f_retC hs rfl (hw.at_ 0 rfl) (by kernel_rfl) (v := .agg #[.int .u64 7, .int .i64 1, .int .u64 1, .int .i64 2, .int .u32 0, .int .u64 0, .slice none 0 0]) (by kernel_rfl) ⟨rfl, hw.pick [1] (by kernel_rfl)⟩)
def update_check_2 (k : Nat) : Option Int :=
  (letter_Check k ([(M26.mk 7 1 1 2 0 0 ([]))])).bind fun y45 =>
  some y45
theorem update_check_2_s {k : Nat} {r : Int} (hk : update_check_2 k = some r) {g w : World} {F : Ch} {ih : IH} (hG : Glob 0 gl0 110 ih) (hw : St g w [F] ih) :
    CallsR Tryz.prog 43 #[.agg #[.int .u64 7, .int .i64 1, .int .u64 1, .int .i64 2, .int .u32 0, .int .u64 0, .slice none 0 0], .int .i64 12] w fun v w' => ∃ (ih' : IH), v = .int .i64 r ∧ St g w' [F] ih' ∧ Le ih ih' := by
  refine f_in (vs := [.agg #[.int .u64 7, .int .i64 1, .int .u64 1, .int .i64 2, .int .u32 0, .int .u64 0, .slice none 0 0], .int .i64 12]) Tryz.func43 rfl 20 rfl (by kernel_rfl) [(0, .agg #[.int .u64 7, .int .i64 1, .int .u64 1, .int .i64 2, .int .u32 0, .int .u64 0, .slice none 0 0]), (1, .int .i64 12)] (by kernel_rfl) fun a Qf hQ hQn hs => ?_
  refine c_seq ?_
  refine c_region ?_
  refine s_new hs hw [.int .u64 7, .int .i64 1, .int .u64 1, .int .i64 2, .int .u32 0, .int .u64 0, .slice none 0 0] 26 (fun b => .pointer (some ⟨b, 0, none⟩)) (by kernel_rfl) (fun _ => by kernel_rfl) fun a w b27 hs hw => ?_
  refine pures hs 1 [1, 2] [(1, .int .i64 12), (2, .pointer (some ⟨b27, 0, none⟩))] (by kernel_rfl) fun a hs => ?_
  refine s_end ?_
  refine c_seq ?_
  refine c_block ?_
  refine c_seq ?_
  refine c_region ?_
  refine pures hs 1 [1, 2, 6] [(1, .int .i64 12), (2, .pointer (some ⟨b27, 0, none⟩)), (6, .pointer (some ⟨b27, 3, none⟩))] (by kernel_rfl) fun a hs => ?_
  refine s_load hs (hw.at_ 0 rfl) 3 (by kernel_rfl) (by kernel_rfl) (v := .int .i64 2) (by kernel_rfl) fun a hs => ?_
  have h32 : update_writes = some () := rfl
  refine s_call hs (by kernel_rfl) (by kernel_rfl) (update_writes_s h32 ((hw.pick [0, 1] (by kernel_rfl)).pack 0)) fun a w v hv hs => ?_
  obtain ⟨rfl, hw⟩ := hv
  replace hw := hw.unpack 0 rfl
  refine pures hs 2 [1, 2, 5] [(1, .int .i64 12), (2, .pointer (some ⟨b27, 0, none⟩)), (5, .bool false)] (by kernel_rfl) fun a hs => ?_
  refine s_end ?_
  refine c_condF hs (by kernel_rfl) (by kernel_rfl) ?_
  refine c_seq ?_
  refine c_region ?_
  refine pures hs 1 [1, 2, 11] [(1, .int .i64 12), (2, .pointer (some ⟨b27, 0, none⟩)), (11, .pointer (some ⟨b27, 6, none⟩))] (by kernel_rfl) fun a hs => ?_
  refine s_load hs (hw.at_ 0 rfl) 6 (by kernel_rfl) (by kernel_rfl) (v := .slice none 0 0) (by kernel_rfl) fun a hs => ?_
  refine pures hs 3 [1, 2, 10] [(1, .int .i64 12), (2, .pointer (some ⟨b27, 0, none⟩)), (10, .bool false)] (by kernel_rfl) fun a hs => ?_
  refine s_end ?_
  refine c_condF hs (by kernel_rfl) (by kernel_rfl) ?_
  refine c_skip ?_
  refine c_seq ?_
  refine c_region ?_
  refine pures hs 1 [2, 15] [(2, .pointer (some ⟨b27, 0, none⟩)), (15, .int .i64 12)] (by kernel_rfl) fun a hs => ?_
  refine s_load hs (hw.at_ 0 rfl) 0 (by kernel_rfl) (by kernel_rfl) (v := .agg #[.int .u64 7, .int .i64 1, .int .u64 1, .int .i64 2, .int .u32 0, .int .u64 0, .slice none 0 0]) (by kernel_rfl) fun a hs => ?_
  refine s_new hs hw [.int .u64 7, .int .i64 1, .int .u64 1, .int .i64 2, .int .u32 0, .int .u64 0, .slice none 0 0] 26 (fun b => .slice (some ⟨b, 0, none⟩) 1 1) (by kernel_rfl) (fun _ => by kernel_rfl) fun a w b40 hs hw => ?_
  obtain ⟨ih42, hle43, hw, h44⟩ := (hw.pick [0, 1, 2] (by kernel_rfl)).fz ((OSl.of1 (E := e26) (z := (M26.mk 7 1 1 2 0 0 ([]))) ⟨none, 0, rfl, (RSl.nil _ _ _)⟩ (by simp [maxLen])).mono (Le.refl _))
  refine pures hs 1 [18] [(18, .agg #[.int .i64 12, .int .i64 1, .int .i64 1, .int .i64 0, .int .u64 1, .int .u64 0, .int .u64 0, .int .u64 0, .int .u64 0, .int .u64 0, .int .i64 0, .int .u32 0, .int .i64 0, .int .i64 0, .int .i64 0, .int .u64 0, .int .i64 0, .int .i64 0, .int .u64 0, .slice none 0 0, .bool false, .int .i64 0, .slice none 0 0, .slice (some ⟨b40, 0, none⟩) 1 1, .slice none 0 0])] (by kernel_rfl) fun a hs => ?_
  obtain ⟨y45, h46, hk⟩ := bindE hk
  refine s_call hs (by kernel_rfl) (by kernel_rfl) (letter_Check_s h46 h44 (hG.mono hle43) ((hw.pick [1] (by kernel_rfl)).pack 0)) fun a w v hv hs => ?_
  obtain ⟨rfl, hw⟩ := hv
  replace hw := hw.unpack 0 rfl
  refine pures hs 1 [4] [(4, .int .i64 y45)] (by kernel_rfl) fun a hs => ?_
  refine s_end ?_
  refine c_ret ?_
  obtain rfl := someE hk
  refine hQ _ _ (f_ret1 hs rfl (v := .int .i64 y45) (by kernel_rfl) ⟨ih42, rfl, hw.pick [0] (by kernel_rfl), hle43⟩)
def update_Check_2 (k : Nat) : Option Int :=
  (update_check_2 k).bind fun y23 =>
  some y23
theorem update_Check_2_s {k : Nat} {r : Int} (hk : update_Check_2 k = some r) {g w : World} {F : Ch} {ih : IH} (hG : Glob 0 gl0 110 ih) (hw : St g w [F] ih) :
    CallsR Tryz.prog 13 #[.agg #[.int .u64 7, .int .i64 1, .int .u64 1, .int .i64 2, .int .u32 0, .int .u64 0, .slice none 0 0]] w fun v w' => ∃ (ih' : IH), v = .int .i64 r ∧ St g w' [F] ih' ∧ Le ih ih' := by
  refine f_in (vs := [.agg #[.int .u64 7, .int .i64 1, .int .u64 1, .int .i64 2, .int .u32 0, .int .u64 0, .slice none 0 0]]) Tryz.func13 rfl 5 rfl (by kernel_rfl) [(0, .agg #[.int .u64 7, .int .i64 1, .int .u64 1, .int .i64 2, .int .u32 0, .int .u64 0, .slice none 0 0])] (by kernel_rfl) fun a Qf hQ hQn hs => ?_
  refine c_seq ?_
  refine c_region ?_
  refine s_new hs hw [.int .u64 7, .int .i64 1, .int .u64 1, .int .i64 2, .int .u32 0, .int .u64 0, .slice none 0 0] 26 (fun b => .pointer (some ⟨b, 0, none⟩)) (by kernel_rfl) (fun _ => by kernel_rfl) fun a w b17 hs hw => ?_
  refine pures hs 1 [1] [(1, .pointer (some ⟨b17, 0, none⟩))] (by kernel_rfl) fun a hs => ?_
  refine s_end ?_
  refine c_seq ?_
  refine c_region ?_
  refine s_load hs (hw.at_ 0 rfl) 0 (by kernel_rfl) (by kernel_rfl) (v := .agg #[.int .u64 7, .int .i64 1, .int .u64 1, .int .i64 2, .int .u32 0, .int .u64 0, .slice none 0 0]) (by kernel_rfl) fun a hs => ?_
  obtain ⟨y23, h24, hk⟩ := bindE hk
  refine s_call hs (by kernel_rfl) (by kernel_rfl) (update_check_2_s h24 (hG.mono (Le.refl _)) ((hw.pick [1] (by kernel_rfl)).pack 0)) fun a w v hv hs => ?_
  obtain ⟨ih25, rfl, hw, hle26⟩ := hv
  replace hw := hw.unpack 0 rfl
  refine pures hs 1 [2] [(2, .int .i64 y23)] (by kernel_rfl) fun a hs => ?_
  refine s_end ?_
  refine c_ret ?_
  obtain rfl := someE hk
  refine hQ _ _ (f_ret1 hs rfl (v := .int .i64 y23) (by kernel_rfl) ⟨ih25, rfl, hw.pick [0] (by kernel_rfl), hle26⟩)
def window_Window_End_3_r2 (x3 : Int) (x4 : List M26) : Option Int :=
  some (IntKind.u64.wrap (x3 + (IntKind.u64.wrap ((x4.length : Int)))))
def window_Window_End_3 (x3 : Int) (x4 : List M26) : Option Int :=
  window_Window_End_3_r2 x3 x4
theorem window_Window_End_3_s {x3 : Int} {x4 : List M26} {b2 : Nat} {p5 : Option Addr} {c6 : Nat} {d8 : Ch} {r : Int} (hk : window_Window_End_3 x3 x4 = some r) {g w : World} {F : Ch} {ih : IH} (h7 : OSl e26 ih p5 c6 x4 d8) (hw : St g w [bx b2 [.int .u64 x3, .int .u64 5, .slice p5 x4.length c6] 78, d8, F] ih) :
    CallsR Tryz.prog 25 #[.pointer (some ⟨b2, 0, none⟩)] w fun v w' => v = .int .u64 r ∧ St g w' [bx b2 [.int .u64 x3, .int .u64 5, .slice p5 x4.length c6] 78, d8, F] ih := by
  refine f_in (vs := [.pointer (some ⟨b2, 0, none⟩)]) Tryz.func25 rfl 16 rfl (by kernel_rfl) [(0, .pointer (some ⟨b2, 0, none⟩))] (by kernel_rfl) fun a Qf hQ hQn hs => ?_
  refine c_seq ?_
  refine c_region ?_
  refine pures hs 1 [0] [(0, .pointer (some ⟨b2, 0, none⟩))] (by kernel_rfl) fun a hs => ?_
  refine s_end ?_
  refine c_seq ?_
  refine c_seq ?_
  refine c_region ?_
  refine pures hs 2 [0, 4] [(0, .pointer (some ⟨b2, 0, none⟩)), (4, .bool false)] (by kernel_rfl) fun a hs => ?_
  refine s_end ?_
  refine c_condF hs (by kernel_rfl) (by kernel_rfl) ?_
  refine c_skip ?_
  refine c_seq ?_
  obtain ⟨S16, hS16, kS16⟩ := mkSX (X := [([], bx b2 [.int .u64 x3, .int .u64 5, .slice p5 x4.length c6] 78), ([], d8), ([], F)]) (ih := ih) (K := []) rfl
  obtain ⟨y17, hx18⟩ : ∃ y, (some () : Option Unit) = some y := ⟨_, rfl⟩
  obtain ⟨J19, hJ19⟩ : ∃ J : Act → World → Prop, ∀ a w, J a w ↔ (window_Window_End_3_r2 x3 x4 = some r ∧ Sees a 16 [(2, .int .u64 (IntKind.u64.wrap (x3 + (IntKind.u64.wrap ((x4.length : Int))))))] ∧ St g w [bx b2 [.int .u64 x3, .int .u64 5, .slice p5 x4.length c6] 78, d8, F] ih) := ⟨_, fun _ _ => Iff.rfl⟩
  refine c_draw (by kernel_rfl) (N := 12) rfl S16 J19 ?_ ?_
  · have hw := hw.drew
    have hS : S16 (Array.replicate 12 false) _ := SX_now hS16 (hw.vws [0, 1, 2]) (by kernel_rfl)
    refine d_pures (fuel := 9) kS16 hs hS [0, 1, 2] [0, 5, 6, 7] [(0, .pointer (some ⟨b2, 0, none⟩)), (5, .pointer (some ⟨b2, 0, none⟩)), (6, .pointer (some ⟨b2, 0, none⟩)), (7, .pointer (some ⟨b2, 0, none⟩))] (by kernel_rfl) fun a hs hS => ?_
    refine d_load (fuel := 8) kS16 hs hS 3 rfl (by kernel_rfl) (SX_box hS16 0 rfl (by kernel_rfl)) 0 (by kernel_rfl) (by kernel_rfl) (v := .int .u64 x3) (by kernel_rfl) fun a hs hS => ?_
    refine d_pures (fuel := 5) kS16 hs hS [4, 5, 6] [0, 5, 6, 7, 8, 9, 10, 11] [(0, .pointer (some ⟨b2, 0, none⟩)), (5, .pointer (some ⟨b2, 0, none⟩)), (6, .pointer (some ⟨b2, 0, none⟩)), (7, .pointer (some ⟨b2, 0, none⟩)), (8, .int .u64 x3), (9, .pointer (some ⟨b2, 0, none⟩)), (10, .pointer (some ⟨b2, 0, none⟩)), (11, .pointer (some ⟨b2, 2, none⟩))] (by kernel_rfl) fun a hs hS => ?_
    refine d_load (fuel := 4) kS16 hs hS 7 rfl (by kernel_rfl) (SX_box hS16 0 rfl (by kernel_rfl)) 2 (by kernel_rfl) (by kernel_rfl) (v := .slice p5 x4.length c6) (by kernel_rfl) fun a hs hS => ?_
    refine d_pures (fuel := 0) kS16 hs hS [8, 9, 10, 11] [0, 5, 6, 7, 8, 9, 10, 11, 12, 13, 14, 15, 2] [(0, .pointer (some ⟨b2, 0, none⟩)), (5, .pointer (some ⟨b2, 0, none⟩)), (6, .pointer (some ⟨b2, 0, none⟩)), (7, .pointer (some ⟨b2, 0, none⟩)), (8, .int .u64 x3), (9, .pointer (some ⟨b2, 0, none⟩)), (10, .pointer (some ⟨b2, 0, none⟩)), (11, .pointer (some ⟨b2, 2, none⟩)), (12, .slice p5 x4.length c6), (13, .int .i64 (x4.length : Int)), (14, .int .u64 (IntKind.u64.wrap ((x4.length : Int)))), (15, .int .u64 (IntKind.u64.wrap (x3 + (IntKind.u64.wrap ((x4.length : Int)))))), (2, .int .u64 (IntKind.u64.wrap (x3 + (IntKind.u64.wrap ((x4.length : Int))))))] (by kernel_rfl) fun a hs hS => ?_
    refine d_done (by kernel_rfl) ?_
    obtain rfl := someE hx18
    exact (hJ19 _ _).2 ⟨hk, hs.cast [2] (by kernel_rfl), hw.pick [0, 1, 2] (by kernel_rfl)⟩
  intro a w hh
  obtain ⟨hk, hs, hw⟩ := (hJ19 _ _).1 hh
  refine c_ret ?_
  obtain rfl := someE hk
  refine hQ _ _ (f_ret1 hs rfl (v := .int .u64 (IntKind.u64.wrap (x3 + (IntKind.u64.wrap ((x4.length : Int)))))) (by kernel_rfl) ⟨rfl, hw.pick [0, 1, 2] (by kernel_rfl)⟩)
def window_Window_trim_2_r3 (y73 : Int) (x3 : Int) (x104 : List M26) : Option (Int × (List M26)) :=
  some ((if (if (IntKind.u64.wrap (y73 - 32)) < 5 then (IntKind.u64.wrap (y73 - 32)) else 5) > x3 then (if (IntKind.u64.wrap (y73 - 32)) < 5 then (IntKind.u64.wrap (y73 - 32)) else 5) else x3), x104)
def window_Window_trim_2_r4 (x4 : List M26) (y73 : Int) (x3 : Int) : Option (Int × (List M26)) :=
  ((sl x4 (IntKind.i64.wrap (IntKind.u64.wrap ((if (if (IntKind.u64.wrap (y73 - 32)) < 5 then (IntKind.u64.wrap (y73 - 32)) else 5) > x3 then (if (IntKind.u64.wrap (y73 - 32)) < 5 then (IntKind.u64.wrap (y73 - 32)) else 5) else x3) - x3))) (x4.length : Int)).bind fun x113 =>
    (app ([]) x113).bind fun x120 =>
    some x120 : Option (List M26)).bind fun s126 => window_Window_trim_2_r3 y73 x3 s126
def window_Window_trim_2 (x3 : Int) (x4 : List M26) : Option (Int × (List M26)) :=
  (window_Window_End_3 x3 x4).bind fun y73 =>
  if (decide (y73 < 32)) = true then some (x3, x4)
  else window_Window_trim_2_r4 x4 y73 x3
theorem window_Window_trim_2_s {x3 : Int} {x4 : List M26} {b2 : Nat} {p5 : Option Addr} {c6 : Nat} {d8 : Ch} {r : Int × (List M26)} (hk : window_Window_trim_2 x3 x4 = some r) {g w : World} {F : Ch} {ih : IH} (h7 : OSl e26 ih p5 c6 x4 d8) (hw : St g w [bx b2 [.int .u64 x3, .int .u64 5, .slice p5 x4.length c6] 78, d8, F] ih) :
    CallsR Tryz.prog 47 #[.pointer (some ⟨b2, 0, none⟩)] w fun v w' => ∃ (p130 : Option Addr) (c131 : Nat) (d132 : Ch), v = .tuple #[] ∧ St g w' [bx b2 [.int .u64 r.1, .int .u64 5, .slice p130 r.2.length c131] 78, d132, F] ih ∧ OSl e26 ih p130 c131 r.2 d132 := by
  refine f_in (vs := [.pointer (some ⟨b2, 0, none⟩)]) Tryz.func47 rfl 52 rfl (by kernel_rfl) [(0, .pointer (some ⟨b2, 0, none⟩))] (by kernel_rfl) fun a Qf hQ hQn hs => ?_
  refine c_seq ?_
  refine c_region ?_
  refine pures hs 1 [0, 5] [(0, .pointer (some ⟨b2, 0, none⟩)), (5, .pointer (some ⟨b2, 0, none⟩))] (by kernel_rfl) fun a hs => ?_
  obtain ⟨y73, h74, hk⟩ := bindE hk
  refine s_call hs (by kernel_rfl) (by kernel_rfl) (window_Window_End_3_s h74 h7 ((hw.pick [0, 1, 2] (by kernel_rfl)).pack 2)) fun a w v hv hs => ?_
  obtain ⟨rfl, hw⟩ := hv
  replace hw := hw.unpack 2 rfl
  refine pures hs 1 [0, 2] [(0, .pointer (some ⟨b2, 0, none⟩)), (2, .int .u64 y73)] (by kernel_rfl) fun a hs => ?_
  refine s_end ?_
  refine c_seq ?_
  refine c_seq ?_
  refine c_region ?_
  refine pures hs 2 [0, 2, 8] [(0, .pointer (some ⟨b2, 0, none⟩)), (2, .int .u64 y73), (8, .bool (decide (y73 < 32)))] (by kernel_rfl) fun a hs => ?_
  refine s_end ?_
  rcases ifbE hk with ⟨h75, hk⟩ | ⟨h75, hk⟩
  · refine c_cond1 hs (by kernel_rfl) (t := (decide (y73 < 32))) (by kernel_rfl) h75 ?_
    refine c_ret ?_
    obtain rfl := someE hk
    refine hQ _ _ (f_retN hs [] rfl [] (by kernel_rfl) (by kernel_rfl) ⟨p5, c6, d8, rfl, hw.pick [0, 1, 2] (by kernel_rfl), h7⟩)
  refine c_cond0 hs (by kernel_rfl) (t := (decide (y73 < 32))) (by kernel_rfl) h75 ?_
  refine c_skip ?_
  refine c_seq ?_
  obtain ⟨S76, hS76, kS76⟩ := mkSX (X := [([], bx b2 [.int .u64 x3, .int .u64 5, .slice p5 x4.length c6] 78), ([], d8), ([], F)]) (ih := ih) (K := []) rfl
  obtain ⟨y127, hx128⟩ : ∃ y, (some () : Option Unit) = some y := ⟨_, rfl⟩
  obtain ⟨J129, hJ129⟩ : ∃ J : Act → World → Prop, ∀ a w, J a w ↔ (window_Window_trim_2_r4 x4 y73 x3 = some r ∧ Sees a 52 [(0, .pointer (some ⟨b2, 0, none⟩)), (3, .int .u64 (if (if (IntKind.u64.wrap (y73 - 32)) < 5 then (IntKind.u64.wrap (y73 - 32)) else 5) > x3 then (if (IntKind.u64.wrap (y73 - 32)) < 5 then (IntKind.u64.wrap (y73 - 32)) else 5) else x3))] ∧ St g w [bx b2 [.int .u64 x3, .int .u64 5, .slice p5 x4.length c6] 78, d8, F] ih) := ⟨_, fun _ _ => Iff.rfl⟩
  refine c_draw (by kernel_rfl) (N := 13) rfl S76 J129 ?_ ?_
  · have hw := hw.drew
    have hS : S76 (Array.replicate 13 false) _ := SX_now hS76 (hw.vws [0, 1, 2]) (by kernel_rfl)
    refine d_pures (fuel := 10) kS76 hs hS [0, 1, 2] [0, 2, 9, 10, 11] [(0, .pointer (some ⟨b2, 0, none⟩)), (2, .int .u64 y73), (9, .pointer (some ⟨b2, 0, none⟩)), (10, .pointer (some ⟨b2, 0, none⟩)), (11, .pointer (some ⟨b2, 0, none⟩))] (by kernel_rfl) fun a hs hS => ?_
    refine d_load (fuel := 9) kS76 hs hS 3 rfl (by kernel_rfl) (SX_box hS76 0 rfl (by kernel_rfl)) 0 (by kernel_rfl) (by kernel_rfl) (v := .int .u64 x3) (by kernel_rfl) fun a hs hS => ?_
    refine d_pures (fuel := 6) kS76 hs hS [4, 5, 6] [0, 2, 9, 10, 11, 12, 13, 14, 15] [(0, .pointer (some ⟨b2, 0, none⟩)), (2, .int .u64 y73), (9, .pointer (some ⟨b2, 0, none⟩)), (10, .pointer (some ⟨b2, 0, none⟩)), (11, .pointer (some ⟨b2, 0, none⟩)), (12, .int .u64 x3), (13, .pointer (some ⟨b2, 0, none⟩)), (14, .pointer (some ⟨b2, 0, none⟩)), (15, .pointer (some ⟨b2, 1, none⟩))] (by kernel_rfl) fun a hs hS => ?_
    refine d_load (fuel := 5) kS76 hs hS 7 rfl (by kernel_rfl) (SX_box hS76 0 rfl (by kernel_rfl)) 1 (by kernel_rfl) (by kernel_rfl) (v := .int .u64 5) (by kernel_rfl) fun a hs hS => ?_
    refine d_pures (fuel := 0) kS76 hs hS [8, 9, 10, 11, 12] [0, 2, 9, 10, 11, 12, 13, 14, 15, 16, 17, 18, 19, 20, 3] [(0, .pointer (some ⟨b2, 0, none⟩)), (2, .int .u64 y73), (9, .pointer (some ⟨b2, 0, none⟩)), (10, .pointer (some ⟨b2, 0, none⟩)), (11, .pointer (some ⟨b2, 0, none⟩)), (12, .int .u64 x3), (13, .pointer (some ⟨b2, 0, none⟩)), (14, .pointer (some ⟨b2, 0, none⟩)), (15, .pointer (some ⟨b2, 1, none⟩)), (16, .int .u64 5), (17, .int .u64 y73), (18, .int .u64 (IntKind.u64.wrap (y73 - 32))), (19, .int .u64 (if (IntKind.u64.wrap (y73 - 32)) < 5 then (IntKind.u64.wrap (y73 - 32)) else 5)), (20, .int .u64 (if (if (IntKind.u64.wrap (y73 - 32)) < 5 then (IntKind.u64.wrap (y73 - 32)) else 5) > x3 then (if (IntKind.u64.wrap (y73 - 32)) < 5 then (IntKind.u64.wrap (y73 - 32)) else 5) else x3)), (3, .int .u64 (if (if (IntKind.u64.wrap (y73 - 32)) < 5 then (IntKind.u64.wrap (y73 - 32)) else 5) > x3 then (if (IntKind.u64.wrap (y73 - 32)) < 5 then (IntKind.u64.wrap (y73 - 32)) else 5) else x3))] (by kernel_rfl) fun a hs hS => ?_
    refine d_done (by kernel_rfl) ?_
    obtain rfl := someE hx128
    exact (hJ129 _ _).2 ⟨hk, hs.cast [0, 3] (by kernel_rfl), hw.pick [0, 1, 2] (by kernel_rfl)⟩
  intro a w hh
  obtain ⟨hk, hs, hw⟩ := (hJ129 _ _).1 hh
  refine c_seq ?_
  refine c_region ?_
  refine pures hs 4 [0, 3, 21, 24] [(0, .pointer (some ⟨b2, 0, none⟩)), (3, .int .u64 (if (if (IntKind.u64.wrap (y73 - 32)) < 5 then (IntKind.u64.wrap (y73 - 32)) else 5) > x3 then (if (IntKind.u64.wrap (y73 - 32)) < 5 then (IntKind.u64.wrap (y73 - 32)) else 5) else x3)), (21, .int .u64 (if (if (IntKind.u64.wrap (y73 - 32)) < 5 then (IntKind.u64.wrap (y73 - 32)) else 5) > x3 then (if (IntKind.u64.wrap (y73 - 32)) < 5 then (IntKind.u64.wrap (y73 - 32)) else 5) else x3)), (24, .pointer (some ⟨b2, 0, none⟩))] (by kernel_rfl) fun a hs => ?_
  refine s_load hs (hw.at_ 0 rfl) 0 (by kernel_rfl) (by kernel_rfl) (v := .int .u64 x3) (by kernel_rfl) fun a hs => ?_
  refine pures hs 3 [0, 3, 4] [(0, .pointer (some ⟨b2, 0, none⟩)), (3, .int .u64 (if (if (IntKind.u64.wrap (y73 - 32)) < 5 then (IntKind.u64.wrap (y73 - 32)) else 5) > x3 then (if (IntKind.u64.wrap (y73 - 32)) < 5 then (IntKind.u64.wrap (y73 - 32)) else 5) else x3)), (4, .int .i64 (IntKind.i64.wrap (IntKind.u64.wrap ((if (if (IntKind.u64.wrap (y73 - 32)) < 5 then (IntKind.u64.wrap (y73 - 32)) else 5) > x3 then (if (IntKind.u64.wrap (y73 - 32)) < 5 then (IntKind.u64.wrap (y73 - 32)) else 5) else x3) - x3))))] (by kernel_rfl) fun a hs => ?_
  refine s_end ?_
  refine c_seq ?_
  obtain ⟨S77, hS77, kS77⟩ := mkSX (X := [([20], bx b2 [.int .u64 x3, .int .u64 5, .slice p5 x4.length c6] 78), ([], d8), ([], F)]) (ih := ih) (K := [20]) rfl
  obtain ⟨y110, hx111, hk⟩ := bindE hk
  obtain ⟨J112, hJ112⟩ : ∃ J : Act → World → Prop, ∀ a w, J a w ↔ (∃ (x104 : List M26) (p105 : Option Addr) (c106 : Nat) (d108 : Ch), window_Window_trim_2_r3 y73 x3 x104 = some r ∧ Sees a 52 [(0, .pointer (some ⟨b2, 0, none⟩)), (3, .int .u64 (if (if (IntKind.u64.wrap (y73 - 32)) < 5 then (IntKind.u64.wrap (y73 - 32)) else 5) > x3 then (if (IntKind.u64.wrap (y73 - 32)) < 5 then (IntKind.u64.wrap (y73 - 32)) else 5) else x3))] ∧ St g w [bx b2 [.int .u64 x3, .int .u64 5, .slice p105 x104.length c106] 78, d108, F] ih ∧ OSl e26 ih p105 c106 x104 d108) := ⟨_, fun _ _ => Iff.rfl⟩
  refine c_draw (by kernel_rfl) (N := 21) rfl S77 J112 ?_ ?_
  · have hw := hw.drew
    have hS : S77 (Array.replicate 21 false) _ := SX_now hS77 (hw.vws [0, 1, 2]) (by kernel_rfl)
    refine d_pures (fuel := 17) kS77 hs hS [0, 1, 2, 3] [0, 3, 4, 28, 29, 30, 31] [(0, .pointer (some ⟨b2, 0, none⟩)), (3, .int .u64 (if (if (IntKind.u64.wrap (y73 - 32)) < 5 then (IntKind.u64.wrap (y73 - 32)) else 5) > x3 then (if (IntKind.u64.wrap (y73 - 32)) < 5 then (IntKind.u64.wrap (y73 - 32)) else 5) else x3)), (4, .int .i64 (IntKind.i64.wrap (IntKind.u64.wrap ((if (if (IntKind.u64.wrap (y73 - 32)) < 5 then (IntKind.u64.wrap (y73 - 32)) else 5) > x3 then (if (IntKind.u64.wrap (y73 - 32)) < 5 then (IntKind.u64.wrap (y73 - 32)) else 5) else x3) - x3)))), (28, .pointer (some ⟨b2, 0, none⟩)), (29, .pointer (some ⟨b2, 0, none⟩)), (30, .pointer (some ⟨b2, 0, none⟩)), (31, .pointer (some ⟨b2, 2, none⟩))] (by kernel_rfl) fun a hs hS => ?_
    refine d_load (fuel := 16) kS77 hs hS 4 rfl (by kernel_rfl) (SX_box hS77 0 rfl (by kernel_rfl)) 2 (by kernel_rfl) (by kernel_rfl) (v := .slice p5 x4.length c6) (by kernel_rfl) fun a hs hS => ?_
    refine d_pures (fuel := 12) kS77 hs hS [5, 6, 7, 8] [0, 3, 4, 28, 29, 30, 31, 32, 33, 34, 35, 36] [(0, .pointer (some ⟨b2, 0, none⟩)), (3, .int .u64 (if (if (IntKind.u64.wrap (y73 - 32)) < 5 then (IntKind.u64.wrap (y73 - 32)) else 5) > x3 then (if (IntKind.u64.wrap (y73 - 32)) < 5 then (IntKind.u64.wrap (y73 - 32)) else 5) else x3)), (4, .int .i64 (IntKind.i64.wrap (IntKind.u64.wrap ((if (if (IntKind.u64.wrap (y73 - 32)) < 5 then (IntKind.u64.wrap (y73 - 32)) else 5) > x3 then (if (IntKind.u64.wrap (y73 - 32)) < 5 then (IntKind.u64.wrap (y73 - 32)) else 5) else x3) - x3)))), (28, .pointer (some ⟨b2, 0, none⟩)), (29, .pointer (some ⟨b2, 0, none⟩)), (30, .pointer (some ⟨b2, 0, none⟩)), (31, .pointer (some ⟨b2, 2, none⟩)), (32, .slice p5 x4.length c6), (33, .int .i64 (IntKind.i64.wrap (IntKind.u64.wrap ((if (if (IntKind.u64.wrap (y73 - 32)) < 5 then (IntKind.u64.wrap (y73 - 32)) else 5) > x3 then (if (IntKind.u64.wrap (y73 - 32)) < 5 then (IntKind.u64.wrap (y73 - 32)) else 5) else x3) - x3)))), (34, .pointer (some ⟨b2, 0, none⟩)), (35, .pointer (some ⟨b2, 0, none⟩)), (36, .pointer (some ⟨b2, 2, none⟩))] (by kernel_rfl) fun a hs hS => ?_
    refine d_load (fuel := 11) kS77 hs hS 9 rfl (by kernel_rfl) (SX_box hS77 0 rfl (by kernel_rfl)) 2 (by kernel_rfl) (by kernel_rfl) (v := .slice p5 x4.length c6) (by kernel_rfl) fun a hs hS => ?_
    refine d_pures (fuel := 7) kS77 hs hS [10, 11, 12, 13] [0, 3, 4, 28, 29, 30, 31, 32, 33, 34, 35, 36, 37, 38, 39, 40, 41] [(0, .pointer (some ⟨b2, 0, none⟩)), (3, .int .u64 (if (if (IntKind.u64.wrap (y73 - 32)) < 5 then (IntKind.u64.wrap (y73 - 32)) else 5) > x3 then (if (IntKind.u64.wrap (y73 - 32)) < 5 then (IntKind.u64.wrap (y73 - 32)) else 5) else x3)), (4, .int .i64 (IntKind.i64.wrap (IntKind.u64.wrap ((if (if (IntKind.u64.wrap (y73 - 32)) < 5 then (IntKind.u64.wrap (y73 - 32)) else 5) > x3 then (if (IntKind.u64.wrap (y73 - 32)) < 5 then (IntKind.u64.wrap (y73 - 32)) else 5) else x3) - x3)))), (28, .pointer (some ⟨b2, 0, none⟩)), (29, .pointer (some ⟨b2, 0, none⟩)), (30, .pointer (some ⟨b2, 0, none⟩)), (31, .pointer (some ⟨b2, 2, none⟩)), (32, .slice p5 x4.length c6), (33, .int .i64 (IntKind.i64.wrap (IntKind.u64.wrap ((if (if (IntKind.u64.wrap (y73 - 32)) < 5 then (IntKind.u64.wrap (y73 - 32)) else 5) > x3 then (if (IntKind.u64.wrap (y73 - 32)) < 5 then (IntKind.u64.wrap (y73 - 32)) else 5) else x3) - x3)))), (34, .pointer (some ⟨b2, 0, none⟩)), (35, .pointer (some ⟨b2, 0, none⟩)), (36, .pointer (some ⟨b2, 2, none⟩)), (37, .slice p5 x4.length c6), (38, .int .i64 (x4.length : Int)), (39, .pointer (some ⟨b2, 0, none⟩)), (40, .pointer (some ⟨b2, 0, none⟩)), (41, .pointer (some ⟨b2, 2, none⟩))] (by kernel_rfl) fun a hs hS => ?_
    refine d_load (fuel := 6) kS77 hs hS 14 rfl (by kernel_rfl) (SX_box hS77 0 rfl (by kernel_rfl)) 2 (by kernel_rfl) (by kernel_rfl) (v := .slice p5 x4.length c6) (by kernel_rfl) fun a hs hS => ?_
    refine d_pures (fuel := 5) kS77 hs hS [15] [0, 3, 4, 28, 29, 30, 31, 32, 33, 34, 35, 36, 37, 38, 39, 40, 41, 42, 43] [(0, .pointer (some ⟨b2, 0, none⟩)), (3, .int .u64 (if (if (IntKind.u64.wrap (y73 - 32)) < 5 then (IntKind.u64.wrap (y73 - 32)) else 5) > x3 then (if (IntKind.u64.wrap (y73 - 32)) < 5 then (IntKind.u64.wrap (y73 - 32)) else 5) else x3)), (4, .int .i64 (IntKind.i64.wrap (IntKind.u64.wrap ((if (if (IntKind.u64.wrap (y73 - 32)) < 5 then (IntKind.u64.wrap (y73 - 32)) else 5) > x3 then (if (IntKind.u64.wrap (y73 - 32)) < 5 then (IntKind.u64.wrap (y73 - 32)) else 5) else x3) - x3)))), (28, .pointer (some ⟨b2, 0, none⟩)), (29, .pointer (some ⟨b2, 0, none⟩)), (30, .pointer (some ⟨b2, 0, none⟩)), (31, .pointer (some ⟨b2, 2, none⟩)), (32, .slice p5 x4.length c6), (33, .int .i64 (IntKind.i64.wrap (IntKind.u64.wrap ((if (if (IntKind.u64.wrap (y73 - 32)) < 5 then (IntKind.u64.wrap (y73 - 32)) else 5) > x3 then (if (IntKind.u64.wrap (y73 - 32)) < 5 then (IntKind.u64.wrap (y73 - 32)) else 5) else x3) - x3)))), (34, .pointer (some ⟨b2, 0, none⟩)), (35, .pointer (some ⟨b2, 0, none⟩)), (36, .pointer (some ⟨b2, 2, none⟩)), (37, .slice p5 x4.length c6), (38, .int .i64 (x4.length : Int)), (39, .pointer (some ⟨b2, 0, none⟩)), (40, .pointer (some ⟨b2, 0, none⟩)), (41, .pointer (some ⟨b2, 2, none⟩)), (42, .slice p5 x4.length c6), (43, .int .i64 (x4.length : Int))] (by kernel_rfl) fun a hs hS => ?_
    obtain ⟨x113, h114, hx111⟩ := bindE hx111
    refine d_slice (fuel := 4) kS77 hs hS 16 rfl (by kernel_rfl) h7.read (by kernel_rfl) (by kernel_rfl) 26 (by kernel_rfl) (by kernel_rfl) (by kernel_rfl) (by kernel_rfl) (by kernel_rfl) h114 (.inr ⟨_, rfl, Int.le_refl _, (slE h114).2.2.1⟩) fun a p115 c116 h117 hs hS => ?_
    refine d_all (fuel := 3) (rs := [17]) (by kernel_rfl) (by simp) (all1 ?_)
    replace hw := hw.nil
    obtain ⟨x120, h121, hx111⟩ := bindE hx111
    refine o_appS hs rfl hw (E := e26) appT28 0 rfl (OSl.nil _ _) (by kernel_rfl) (by kernel_rfl) (h117.mono (Le.refl _)) ((hw.vw 2 rfl).anti (Le.refl _)) (by kernel_rfl) h121 fun a w p122 c123 d124 h125 hw hs => ?_
    refine dg_next (SX_now hS77 ((hw.vws [1, 2, 3]).anti (Le.refl _)) (by kernel_rfl)) fun hS => ?_
    refine d_pures (fuel := 1) kS77 hs hS [18, 19] [0, 3, 4, 28, 29, 30, 31, 32, 33, 34, 35, 36, 37, 38, 39, 40, 41, 42, 43, 44, 45, 46, 47] [(0, .pointer (some ⟨b2, 0, none⟩)), (3, .int .u64 (if (if (IntKind.u64.wrap (y73 - 32)) < 5 then (IntKind.u64.wrap (y73 - 32)) else 5) > x3 then (if (IntKind.u64.wrap (y73 - 32)) < 5 then (IntKind.u64.wrap (y73 - 32)) else 5) else x3)), (4, .int .i64 (IntKind.i64.wrap (IntKind.u64.wrap ((if (if (IntKind.u64.wrap (y73 - 32)) < 5 then (IntKind.u64.wrap (y73 - 32)) else 5) > x3 then (if (IntKind.u64.wrap (y73 - 32)) < 5 then (IntKind.u64.wrap (y73 - 32)) else 5) else x3) - x3)))), (28, .pointer (some ⟨b2, 0, none⟩)), (29, .pointer (some ⟨b2, 0, none⟩)), (30, .pointer (some ⟨b2, 0, none⟩)), (31, .pointer (some ⟨b2, 2, none⟩)), (32, .slice p5 x4.length c6), (33, .int .i64 (IntKind.i64.wrap (IntKind.u64.wrap ((if (if (IntKind.u64.wrap (y73 - 32)) < 5 then (IntKind.u64.wrap (y73 - 32)) else 5) > x3 then (if (IntKind.u64.wrap (y73 - 32)) < 5 then (IntKind.u64.wrap (y73 - 32)) else 5) else x3) - x3)))), (34, .pointer (some ⟨b2, 0, none⟩)), (35, .pointer (some ⟨b2, 0, none⟩)), (36, .pointer (some ⟨b2, 2, none⟩)), (37, .slice p5 x4.length c6), (38, .int .i64 (x4.length : Int)), (39, .pointer (some ⟨b2, 0, none⟩)), (40, .pointer (some ⟨b2, 0, none⟩)), (41, .pointer (some ⟨b2, 2, none⟩)), (42, .slice p5 x4.length c6), (43, .int .i64 (x4.length : Int)), (44, .slice p115 x113.length c116), (45, .slice p122 x120.length c123), (46, .pointer (some ⟨b2, 0, none⟩)), (47, .pointer (some ⟨b2, 2, none⟩))] (by kernel_rfl) fun a hs hS => ?_
    refine d_all (fuel := 0) (rs := [20]) (by kernel_rfl) (by simp) (all1 ?_)
    refine o_store hs hw rfl 1 rfl 2 (by kernel_rfl) (by kernel_rfl) (v := .slice p122 x120.length c123) (by kernel_rfl) (by kernel_rfl) (by kernel_rfl) (by kernel_rfl) fun a w hs hw => ?_
    refine dg_next (SX_now hS77 ((hw.vws [2, 3]).anti (Le.refl _)) (by kernel_rfl)) fun hS => ?_
    refine d_done (by kernel_rfl) ?_
    obtain rfl := someE hx111
    exact (hJ112 _ _).2 ⟨x120, p122, c123, d124, hk, hs.cast [0, 3] (by kernel_rfl), hw.pick [1, 0, 3] (by kernel_rfl), h125⟩
  intro a w hh
  obtain ⟨x104, p105, c106, d108, hk, hs, hw, h107⟩ := (hJ112 _ _).1 hh
  refine c_region ?_
  refine pures hs 4 [49, 51] [(49, .int .u64 (if (if (IntKind.u64.wrap (y73 - 32)) < 5 then (IntKind.u64.wrap (y73 - 32)) else 5) > x3 then (if (IntKind.u64.wrap (y73 - 32)) < 5 then (IntKind.u64.wrap (y73 - 32)) else 5) else x3)), (51, .pointer (some ⟨b2, 0, none⟩))] (by kernel_rfl) fun a hs => ?_
  refine s_store hs hw 0 rfl 0 (by kernel_rfl) (by kernel_rfl) (v := .int .u64 (if (if (IntKind.u64.wrap (y73 - 32)) < 5 then (IntKind.u64.wrap (y73 - 32)) else 5) > x3 then (if (IntKind.u64.wrap (y73 - 32)) < 5 then (IntKind.u64.wrap (y73 - 32)) else 5) else x3)) (by kernel_rfl) (by kernel_rfl) (by kernel_rfl) (by kernel_rfl) fun a w hs hw => ?_
  refine s_end ?_
  obtain rfl := someE hk
  refine hQn _ _ (f_retN hs [] rfl [] (by kernel_rfl) (by kernel_rfl) ⟨p105, c106, d108, rfl, hw.pick [0, 1, 2] (by kernel_rfl), h107⟩)
def window_Window_Add_3_r3 (x3 : Int) (x171 : List M26) : Option (Int × Int × (List M26)) :=
  (window_Window_trim_2 x3 x171).bind fun y183 =>
  some (0, y183.1, y183.2)
def window_Window_Add_3_r4 (k : Nat) (x3 : Int) (x4 : List M26) (x132 : Bool) : Option (Int × Int × (List M26)) :=
  if x132 = true then some (12, x3, x4)
  else ((update_Copy k ([(M26.mk 7 1 1 2 0 0 ([]))])).bind fun y194 =>
    (app x4 y194).bind fun x203 =>
    some x203 : Option (List M26)).bind fun s209 => window_Window_Add_3_r3 x3 s209
def window_Window_Add_3 (k : Nat) (x3 : Int) (x4 : List M26) : Option (Int × Int × (List M26)) :=
  (update_Check_2 k).bind fun y122 =>
  if (y122 != 0) = true then some (y122, x3, x4)
  else ((window_Window_End_3 x3 x4).bind fun y213 =>
    some (6 != y213) : Option Bool).bind fun s215 => window_Window_Add_3_r4 k x3 x4 s215
theorem window_Window_Add_3_s {k : Nat} {x3 : Int} {x4 : List M26} {b2 : Nat} {p5 : Option Addr} {c6 : Nat} {d8 : Ch} {r : Int × Int × (List M26)} (hk : window_Window_Add_3 k x3 x4 = some r) {g w : World} {F : Ch} {ih : IH} (h7 : OSl e26 ih p5 c6 x4 d8) (hG : Glob 0 gl0 110 ih) (hw : St g w [bx b2 [.int .u64 x3, .int .u64 5, .slice p5 x4.length c6] 78, d8, F] ih) :
    CallsR Tryz.prog 23 #[.pointer (some ⟨b2, 0, none⟩), .agg #[.int .u64 7, .int .i64 1, .int .u64 1, .int .i64 2, .int .u32 0, .int .u64 0, .slice none 0 0]] w fun v w' => ∃ (ih' : IH) (p216 : Option Addr) (c217 : Nat) (d218 : Ch), v = .int .i64 r.1 ∧ St g w' [bx b2 [.int .u64 r.2.1, .int .u64 5, .slice p216 r.2.2.length c217] 78, d218, F] ih' ∧ Le ih ih' ∧ OSl e26 ih' p216 c217 r.2.2 d218 := by
  refine f_in (vs := [.pointer (some ⟨b2, 0, none⟩), .agg #[.int .u64 7, .int .i64 1, .int .u64 1, .int .i64 2, .int .u32 0, .int .u64 0, .slice none 0 0]]) Tryz.func23 rfl 32 rfl (by kernel_rfl) [(0, .pointer (some ⟨b2, 0, none⟩)), (1, .agg #[.int .u64 7, .int .i64 1, .int .u64 1, .int .i64 2, .int .u32 0, .int .u64 0, .slice none 0 0])] (by kernel_rfl) fun a Qf hQ hQn hs => ?_
  refine c_seq ?_
  refine c_region ?_
  refine s_new hs hw [.int .u64 7, .int .i64 1, .int .u64 1, .int .i64 2, .int .u32 0, .int .u64 0, .slice none 0 0] 26 (fun b => .pointer (some ⟨b, 0, none⟩)) (by kernel_rfl) (fun _ => by kernel_rfl) fun a w b116 hs hw => ?_
  refine pures hs 1 [0, 3] [(0, .pointer (some ⟨b2, 0, none⟩)), (3, .pointer (some ⟨b116, 0, none⟩))] (by kernel_rfl) fun a hs => ?_
  refine s_end ?_
  refine c_seq ?_
  refine c_seq ?_
  refine c_region ?_
  refine pures hs 2 [0, 3, 7] [(0, .pointer (some ⟨b2, 0, none⟩)), (3, .pointer (some ⟨b116, 0, none⟩)), (7, .bool false)] (by kernel_rfl) fun a hs => ?_
  refine s_end ?_
  refine c_condF hs (by kernel_rfl) (by kernel_rfl) ?_
  refine c_skip ?_
  refine c_seq ?_
  refine c_seq ?_
  refine c_region ?_
  refine s_load hs (hw.at_ 0 rfl) 0 (by kernel_rfl) (by kernel_rfl) (v := .agg #[.int .u64 7, .int .i64 1, .int .u64 1, .int .i64 2, .int .u32 0, .int .u64 0, .slice none 0 0]) (by kernel_rfl) fun a hs => ?_
  obtain ⟨y122, h123, hk⟩ := bindE hk
  refine s_call hs (by kernel_rfl) (by kernel_rfl) (update_Check_2_s h123 (hG.mono (Le.refl _)) ((hw.pick [0, 1, 2, 3] (by kernel_rfl)).pack 0)) fun a w v hv hs => ?_
  obtain ⟨ih124, rfl, hw, hle125⟩ := hv
  replace hw := hw.unpack 0 rfl
  refine pures hs 1 [0, 3, 5] [(0, .pointer (some ⟨b2, 0, none⟩)), (3, .pointer (some ⟨b116, 0, none⟩)), (5, .int .i64 y122)] (by kernel_rfl) fun a hs => ?_
  refine s_end ?_
  refine c_seq ?_
  refine c_region ?_
  refine pures hs 2 [0, 3, 5, 11] [(0, .pointer (some ⟨b2, 0, none⟩)), (3, .pointer (some ⟨b116, 0, none⟩)), (5, .int .i64 y122), (11, .bool (y122 != 0))] (by kernel_rfl) fun a hs => ?_
  refine s_end ?_
  rcases ifbE hk with ⟨h126, hk⟩ | ⟨h126, hk⟩
  · refine c_cond1 hs (by kernel_rfl) (t := (y122 != 0)) (by kernel_rfl) h126 ?_
    refine c_seq ?_
    refine c_region ?_
    refine pures hs 2 [4] [(4, .int .i64 y122)] (by kernel_rfl) fun a hs => ?_
    refine s_end ?_
    refine c_ret ?_
    obtain rfl := someE hk
    refine hQ _ _ (f_ret1 hs rfl (v := .int .i64 y122) (by kernel_rfl) ⟨ih124, p5, c6, d8, rfl, hw.pick [1, 2, 3] (by kernel_rfl), hle125, (h7.mono hle125)⟩)
  refine c_cond0 hs (by kernel_rfl) (t := (y122 != 0)) (by kernel_rfl) h126 ?_
  refine c_skip ?_
  refine c_seq ?_
  refine c_seq ?_
  obtain ⟨S127, hS127, kS127⟩ := mkSX (X := [([], bx b116 [.int .u64 7, .int .i64 1, .int .u64 1, .int .i64 2, .int .u32 0, .int .u64 0, .slice none 0 0] 26), ([], bx b2 [.int .u64 x3, .int .u64 5, .slice p5 x4.length c6] 78), ([], d8), ([], F)]) (ih := ih124) (K := []) rfl
  obtain ⟨y210, hx211, hk⟩ := bindE hk
  obtain ⟨J212, hJ212⟩ : ∃ J : Act → World → Prop, ∀ a w, J a w ↔ (∃ (x132 : Bool), window_Window_Add_3_r4 k x3 x4 x132 = some r ∧ Sees a 32 [(0, .pointer (some ⟨b2, 0, none⟩)), (3, .pointer (some ⟨b116, 0, none⟩)), (18, .bool x132)] ∧ St g w [bx b116 [.int .u64 7, .int .i64 1, .int .u64 1, .int .i64 2, .int .u32 0, .int .u64 0, .slice none 0 0] 26, bx b2 [.int .u64 x3, .int .u64 5, .slice p5 x4.length c6] 78, d8, F] ih124) := ⟨_, fun _ _ => Iff.rfl⟩
  refine c_draw (by kernel_rfl) (N := 6) rfl S127 J212 ?_ ?_
  · have hw := hw.drew
    have hS : S127 (Array.replicate 6 false) _ := SX_now hS127 (hw.vws [0, 1, 2, 3]) (by kernel_rfl)
    refine d_pures (fuel := 5) kS127 hs hS [0] [0, 3, 13] [(0, .pointer (some ⟨b2, 0, none⟩)), (3, .pointer (some ⟨b116, 0, none⟩)), (13, .pointer (some ⟨b116, 0, none⟩))] (by kernel_rfl) fun a hs hS => ?_
    refine d_load (fuel := 4) kS127 hs hS 1 rfl (by kernel_rfl) (SX_box hS127 0 rfl (by kernel_rfl)) 0 (by kernel_rfl) (by kernel_rfl) (v := .int .u64 7) (by kernel_rfl) fun a hs hS => ?_
    refine d_pures (fuel := 2) kS127 hs hS [2, 3] [0, 3, 13, 14, 15, 16] [(0, .pointer (some ⟨b2, 0, none⟩)), (3, .pointer (some ⟨b116, 0, none⟩)), (13, .pointer (some ⟨b116, 0, none⟩)), (14, .int .u64 7), (15, .int .u64 6), (16, .pointer (some ⟨b2, 0, none⟩))] (by kernel_rfl) fun a hs hS => ?_
    refine d_all (fuel := 1) (rs := [4]) (by kernel_rfl) (by simp) (all1 ?_)
    obtain ⟨y213, h214, hx211⟩ := bindE hx211
    refine o_call hs rfl (by kernel_rfl) (by kernel_rfl) (window_Window_End_3_s h214 (h7.mono hle125) ((hw.pick [1, 2, 0, 3] (by kernel_rfl)).pack 2)) fun a w v hv hs => ?_
    obtain ⟨rfl, hw⟩ := hv
    replace hw := hw.unpack 2 rfl
    refine dg_next (SX_now hS127 ((hw.vws [2, 0, 1, 3]).anti (Le.refl _)) (by kernel_rfl)) fun hS => ?_
    refine d_pures (fuel := 0) kS127 hs hS [5] [0, 3, 13, 14, 15, 16, 17, 18] [(0, .pointer (some ⟨b2, 0, none⟩)), (3, .pointer (some ⟨b116, 0, none⟩)), (13, .pointer (some ⟨b116, 0, none⟩)), (14, .int .u64 7), (15, .int .u64 6), (16, .pointer (some ⟨b2, 0, none⟩)), (17, .int .u64 y213), (18, .bool (6 != y213))] (by kernel_rfl) fun a hs hS => ?_
    refine d_done (by kernel_rfl) ?_
    obtain rfl := someE hx211
    exact (hJ212 _ _).2 ⟨(6 != y213), hk, hs.cast [0, 3, 18] (by kernel_rfl), hw.pick [2, 0, 1, 3] (by kernel_rfl)⟩
  intro a w hh
  obtain ⟨x132, hk, hs, hw⟩ := (hJ212 _ _).1 hh
  rcases ifbE hk with ⟨h133, hk⟩ | ⟨h133, hk⟩
  · refine c_cond1 hs (by kernel_rfl) (t := x132) (by kernel_rfl) h133 ?_
    refine c_seq ?_
    refine c_region ?_
    refine pures hs 1 [4] [(4, .int .i64 12)] (by kernel_rfl) fun a hs => ?_
    refine s_end ?_
    refine c_ret ?_
    obtain rfl := someE hk
    refine hQ _ _ (f_ret1 hs rfl (v := .int .i64 12) (by kernel_rfl) ⟨ih124, p5, c6, d8, rfl, hw.pick [1, 2, 3] (by kernel_rfl), hle125, (h7.mono hle125)⟩)
  refine c_cond0 hs (by kernel_rfl) (t := x132) (by kernel_rfl) h133 ?_
  refine c_skip ?_
  refine c_seq ?_
  obtain ⟨S134, hS134, kS134⟩ := mkSX (X := [([], bx b116 [.int .u64 7, .int .i64 1, .int .u64 1, .int .i64 2, .int .u32 0, .int .u64 0, .slice none 0 0] 26), ([8, 11], bx b2 [.int .u64 x3, .int .u64 5, .slice p5 x4.length c6] 78), ([8], d8), ([], F)]) (ih := ih124) (K := [8, 11, 8]) rfl
  obtain ⟨y189, hx190, hk⟩ := bindE hk
  obtain ⟨J191, hJ191⟩ : ∃ J : Act → World → Prop, ∀ a w, J a w ↔ (∃ (x171 : List M26) (p172 : Option Addr) (c173 : Nat) (d175 : Ch) (ih169 : IH), window_Window_Add_3_r3 x3 x171 = some r ∧ Sees a 32 [(0, .pointer (some ⟨b2, 0, none⟩))] ∧ St g w [bx b2 [.int .u64 x3, .int .u64 5, .slice p172 x171.length c173] 78, d175, F] ih169 ∧ Le ih124 ih169 ∧ OSl e26 ih169 p172 c173 x171 d175) := ⟨_, fun _ _ => Iff.rfl⟩
  refine c_draw (by kernel_rfl) (N := 12) rfl S134 J191 ?_ ?_
  · have hw := hw.drew
    have hS : S134 (Array.replicate 12 false) _ := SX_now hS134 (hw.vws [0, 1, 2, 3]) (by kernel_rfl)
    refine d_pures (fuel := 8) kS134 hs hS [0, 1, 2, 3] [0, 3, 19, 20, 21, 22] [(0, .pointer (some ⟨b2, 0, none⟩)), (3, .pointer (some ⟨b116, 0, none⟩)), (19, .pointer (some ⟨b2, 0, none⟩)), (20, .pointer (some ⟨b2, 0, none⟩)), (21, .pointer (some ⟨b2, 0, none⟩)), (22, .pointer (some ⟨b2, 2, none⟩))] (by kernel_rfl) fun a hs hS => ?_
    refine d_load (fuel := 7) kS134 hs hS 4 rfl (by kernel_rfl) (SX_box hS134 1 rfl (by kernel_rfl)) 2 (by kernel_rfl) (by kernel_rfl) (v := .slice p5 x4.length c6) (by kernel_rfl) fun a hs hS => ?_
    refine d_load (fuel := 6) kS134 hs hS 5 rfl (by kernel_rfl) (SX_box hS134 0 rfl (by kernel_rfl)) 0 (by kernel_rfl) (by kernel_rfl) (v := .agg #[.int .u64 7, .int .i64 1, .int .u64 1, .int .i64 2, .int .u32 0, .int .u64 0, .slice none 0 0]) (by kernel_rfl) fun a hs hS => ?_
    refine d_all (fuel := 5) (rs := [6]) (by kernel_rfl) (by simp) (all1 ?_)
    refine o_new hs rfl hw [.int .u64 7, .int .i64 1, .int .u64 1, .int .i64 2, .int .u32 0, .int .u64 0, .slice none 0 0] 26 (fun b => .slice (some ⟨b, 0, none⟩) 1 1) (by kernel_rfl) (fun _ => by kernel_rfl) fun a w b192 hs hw => ?_
    refine dg_next (SX_now hS134 ((hw.vws [1, 2, 3, 4]).anti (Le.refl _)) (by kernel_rfl)) fun hS => ?_
    refine d_all (fuel := 4) (rs := [7]) (by kernel_rfl) (by simp) (all1 ?_)
    obtain ⟨y194, h195, hx190⟩ := bindE hx190
    refine o_call hs rfl (by kernel_rfl) (by kernel_rfl) (update_Copy_s h195 ((OSl.of1 (E := e26) (z := (M26.mk 7 1 1 2 0 0 ([]))) ⟨none, 0, rfl, (RSl.nil _ _ _)⟩ (by simp [maxLen])).read) (memF 0 rfl) ((hw.pick [0, 1, 2, 3, 4] (by kernel_rfl)).pack 0)) fun a w v hv hs => ?_
    obtain ⟨ih196, p198, c199, d201, rfl, hw, hle197, h200⟩ := hv
    replace hw := hw.unpack 1 rfl
    refine dg_next (SX_now hS134 ((hw.vws [2, 3, 4, 5]).anti hle197) (by kernel_rfl)) fun hS => ?_
    refine d_all (fuel := 3) (rs := [8]) (by kernel_rfl) (by simp) (all1 ?_)
    obtain ⟨x203, h204, hx190⟩ := bindE hx190
    refine o_appS hs rfl hw (E := e26) appT28 4 rfl (h7.mono (hle125.trans hle197)) (by kernel_rfl) (by kernel_rfl) (h200.read.mono (Le.refl _)) ((hw.vw 0 rfl).anti (Le.refl _)) (by kernel_rfl) h204 fun a w p205 c206 d207 h208 hw hs => ?_
    refine dg_next (SX_now hS134 ((hw.vws [2, 5]).anti hle197) (by kernel_rfl)) fun hS => ?_
    refine d_pures (fuel := 1) kS134 hs hS [9, 10] [0, 3, 19, 20, 21, 22, 24, 25, 26, 27, 28, 29] [(0, .pointer (some ⟨b2, 0, none⟩)), (3, .pointer (some ⟨b116, 0, none⟩)), (19, .pointer (some ⟨b2, 0, none⟩)), (20, .pointer (some ⟨b2, 0, none⟩)), (21, .pointer (some ⟨b2, 0, none⟩)), (22, .pointer (some ⟨b2, 2, none⟩)), (24, .agg #[.int .u64 7, .int .i64 1, .int .u64 1, .int .i64 2, .int .u32 0, .int .u64 0, .slice none 0 0]), (25, .slice (some ⟨b192, 0, none⟩) 1 1), (26, .slice p198 y194.length c199), (27, .slice p205 x203.length c206), (28, .pointer (some ⟨b2, 0, none⟩)), (29, .pointer (some ⟨b2, 2, none⟩))] (by kernel_rfl) fun a hs hS => ?_
    refine d_all (fuel := 0) (rs := [11]) (by kernel_rfl) (by simp) (all1 ?_)
    refine o_store hs hw rfl 3 rfl 2 (by kernel_rfl) (by kernel_rfl) (v := .slice p205 x203.length c206) (by kernel_rfl) (by kernel_rfl) (by kernel_rfl) (by kernel_rfl) fun a w hs hw => ?_
    refine dg_next (SX_now hS134 ((hw.vws [2, 5]).anti hle197) (by kernel_rfl)) fun hS => ?_
    refine d_done (by kernel_rfl) ?_
    obtain rfl := someE hx190
    exact (hJ191 _ _).2 ⟨x203, p205, c206, d207, ih196, hk, hs.cast [0] (by kernel_rfl), hw.pick [3, 4, 5] (by kernel_rfl), hle197, h208⟩
  intro a w hh
  obtain ⟨x171, p172, c173, d175, ih169, hk, hs, hw, hle170, h174⟩ := (hJ191 _ _).1 hh
  refine c_seq ?_
  refine c_region ?_
  refine pures hs 1 [30] [(30, .pointer (some ⟨b2, 0, none⟩))] (by kernel_rfl) fun a hs => ?_
  obtain ⟨y183, h184, hk⟩ := bindE hk
  refine s_call hs (by kernel_rfl) (by kernel_rfl) (window_Window_trim_2_s h184 h174 ((hw.pick [0, 1, 2] (by kernel_rfl)).pack 2)) fun a w v hv hs => ?_
  obtain ⟨p185, c186, d188, rfl, hw, h187⟩ := hv
  replace hw := hw.unpack 2 rfl
  refine s_end ?_
  refine c_seq ?_
  refine c_region ?_
  refine pures hs 1 [4] [(4, .int .i64 0)] (by kernel_rfl) fun a hs => ?_
  refine s_end ?_
  refine c_ret ?_
  obtain rfl := someE hk
  refine hQ _ _ (f_ret1 hs rfl (v := .int .i64 0) (by kernel_rfl) ⟨ih169, p185, c186, d188, rfl, hw.pick [0, 1, 2] (by kernel_rfl), (hle125.trans hle170), h187⟩)
def update_Batch_1 (x1 : M26) (x9 : Int) : Option (Bool × Int) :=
  if ((decide (x1.f0 ≤ 5)) || (decide (x9 < 1))) = true then some (false, x9)
  else some (true, IntKind.i64.wrap (x9 - 1))
theorem update_Batch_1_s {x1 : M26} {x9 : Int} {p2 : Option Addr} {c3 : Nat} {b6 : Nat} {b8 : Nat} {r : Bool × Int} (hk : update_Batch_1 x1 x9 = some r) {g w : World} {F : Ch} {ih : IH} (h4 : RSl e5 ih [] p2 c3 x1.f6) (hw : St g w [bx b6 [.int .u64 5] 22, bx b8 [.int .i64 x9] 3, F] ih) :
    CallsR Tryz.prog 54 #[.agg #[.int .u64 x1.f0, .int .i64 x1.f1, .int .u64 x1.f2, .int .i64 x1.f3, .int .u32 x1.f4, .int .u64 x1.f5, .slice p2 x1.f6.length c3], .pointer (some ⟨b6, 0, none⟩), .pointer (some ⟨b8, 0, none⟩)] w fun v w' => v = .bool r.1 ∧ St g w' [bx b6 [.int .u64 5] 22, bx b8 [.int .i64 r.2] 3, F] ih := by
  refine f_in (vs := [.agg #[.int .u64 x1.f0, .int .i64 x1.f1, .int .u64 x1.f2, .int .i64 x1.f3, .int .u32 x1.f4, .int .u64 x1.f5, .slice p2 x1.f6.length c3], .pointer (some ⟨b6, 0, none⟩), .pointer (some ⟨b8, 0, none⟩)]) Tryz.func54 rfl 15 rfl (by kernel_rfl) [(0, .agg #[.int .u64 x1.f0, .int .i64 x1.f1, .int .u64 x1.f2, .int .i64 x1.f3, .int .u32 x1.f4, .int .u64 x1.f5, .slice p2 x1.f6.length c3]), (1, .pointer (some ⟨b6, 0, none⟩)), (2, .pointer (some ⟨b8, 0, none⟩))] (by kernel_rfl) fun a Qf hQ hQn hs => ?_
  refine c_seq ?_
  refine c_region ?_
  refine s_new hs hw [.int .u64 x1.f0, .int .i64 x1.f1, .int .u64 x1.f2, .int .i64 x1.f3, .int .u32 x1.f4, .int .u64 x1.f5, .slice p2 x1.f6.length c3] 26 (fun b => .pointer (some ⟨b, 0, none⟩)) (by kernel_rfl) (fun _ => by kernel_rfl) fun a w b24 hs hw => ?_
  refine pures hs 1 [1, 2, 3] [(1, .pointer (some ⟨b6, 0, none⟩)), (2, .pointer (some ⟨b8, 0, none⟩)), (3, .pointer (some ⟨b24, 0, none⟩))] (by kernel_rfl) fun a hs => ?_
  refine s_end ?_
  refine c_seq ?_
  refine c_seq ?_
  obtain ⟨J29, hJ29⟩ : ∃ J : Act → World → Prop, ∀ a w, J a w ↔ (Sees a 15 [(2, .pointer (some ⟨b8, 0, none⟩)), (12, .bool ((decide (x1.f0 ≤ 5)) || (decide (x9 < 1))))] ∧ St g w [bx b6 [.int .u64 5] 22, bx b8 [.int .i64 x9] 3, F] ih) := ⟨_, fun _ _ => Iff.rfl⟩
  refine c_regJ J29 ?_ ?_
  · refine pures hs 1 [1, 2, 5] [(1, .pointer (some ⟨b6, 0, none⟩)), (2, .pointer (some ⟨b8, 0, none⟩)), (5, .pointer (some ⟨b24, 0, none⟩))] (by kernel_rfl) fun a hs => ?_
    refine s_load hs (hw.at_ 0 rfl) 0 (by kernel_rfl) (by kernel_rfl) (v := .int .u64 x1.f0) (by kernel_rfl) fun a hs => ?_
    refine s_load hs (hw.at_ 1 rfl) 0 (by kernel_rfl) (by kernel_rfl) (v := .int .u64 5) (by kernel_rfl) fun a hs => ?_
    refine pures hs 2 [2, 9] [(2, .pointer (some ⟨b8, 0, none⟩)), (9, .bool (decide (x1.f0 ≤ 5)))] (by kernel_rfl) fun a hs => ?_
    rcases boolE (decide (x1.f0 ≤ 5)) with h30 | h30
    · replace hs := hs.altB 9 true (by kernel_rfl) h30
      refine pures hs 3 [2, 12] [(2, .pointer (some ⟨b8, 0, none⟩)), (12, .bool true)] (by kernel_rfl) fun a hs => ?_
      refine s_end ?_
      exact (hJ29 _ _).2 ⟨(hs.altB 12 ((decide (x1.f0 ≤ 5)) || (decide (x9 < 1))) (by kernel_rfl) (by rw [h30] <;> rfl)).cast [2, 12] (by kernel_rfl), hw.pick [1, 2, 3] (by kernel_rfl)⟩
    replace hs := hs.altB 9 false (by kernel_rfl) h30
    refine s_load hs (hw.at_ 2 rfl) 0 (by kernel_rfl) (by kernel_rfl) (v := .int .i64 x9) (by kernel_rfl) fun a hs => ?_
    refine pures hs 2 [2, 12] [(2, .pointer (some ⟨b8, 0, none⟩)), (12, .bool (decide (x9 < 1)))] (by kernel_rfl) fun a hs => ?_
    refine s_end ?_
    exact (hJ29 _ _).2 ⟨(hs.altB 12 ((decide (x1.f0 ≤ 5)) || (decide (x9 < 1))) (by kernel_rfl) (by rw [h30] <;> rfl)).cast [2, 12] (by kernel_rfl), hw.pick [1, 2, 3] (by kernel_rfl)⟩
  intro a w hh
  obtain ⟨hs, hw⟩ := (hJ29 _ _).1 hh
  rcases ifbE hk with ⟨h31, hk⟩ | ⟨h31, hk⟩
  · refine c_cond1 hs (by kernel_rfl) (t := ((decide (x1.f0 ≤ 5)) || (decide (x9 < 1)))) (by kernel_rfl) h31 ?_
    refine c_seq ?_
    refine c_region ?_
    refine pures hs 1 [4] [(4, .bool false)] (by kernel_rfl) fun a hs => ?_
    refine s_end ?_
    refine c_ret ?_
    obtain rfl := someE hk
    refine hQ _ _ (f_ret1 hs rfl (v := .bool false) (by kernel_rfl) ⟨rfl, hw.pick [0, 1, 2] (by kernel_rfl)⟩)
  refine c_cond0 hs (by kernel_rfl) (t := ((decide (x1.f0 ≤ 5)) || (decide (x9 < 1)))) (by kernel_rfl) h31 ?_
  refine c_skip ?_
  refine c_seq ?_
  refine c_region ?_
  refine s_load hs (hw.at_ 1 rfl) 0 (by kernel_rfl) (by kernel_rfl) (v := .int .i64 x9) (by kernel_rfl) fun a hs => ?_
  refine pures hs 1 [2, 14] [(2, .pointer (some ⟨b8, 0, none⟩)), (14, .int .i64 (IntKind.i64.wrap (x9 - 1)))] (by kernel_rfl) fun a hs => ?_
  refine s_store hs hw 1 rfl 0 (by kernel_rfl) (by kernel_rfl) (v := .int .i64 (IntKind.i64.wrap (x9 - 1))) (by kernel_rfl) (by kernel_rfl) (by kernel_rfl) (by kernel_rfl) fun a w hs hw => ?_
  refine s_end ?_
  refine c_seq ?_
  refine c_region ?_
  refine pures hs 1 [4] [(4, .bool true)] (by kernel_rfl) fun a hs => ?_
  refine s_end ?_
  refine c_ret ?_
  obtain rfl := someE hk
  refine hQ _ _ (f_ret1 hs rfl (v := .bool true) (by kernel_rfl) ⟨rfl, hw.pick [0, 1, 2] (by kernel_rfl)⟩)
def update_pick_2_r12 (x1847 : List M26) (x1853 : Int) : Option ((List M26) × Int) :=
  some (x1847, x1853)
def update_pick_2_r14 (rec_update_pick_2_l13 : (List M26) → Int → Int → Option ((List M26) × Int)) (x1652 : Int) (x1979 : List M26) (x1985 : Int) : Option ((List M26) × Int) :=
  rec_update_pick_2_l13 x1979 (IntKind.i64.wrap (x1652 + 1)) x1985
def update_pick_2_l13 (x1 : List M26) : Nat → (List M26) → Int → Int → Option ((List M26) × Int)
  | 0, _, _, _ => none
  | j + 1, x1646, x1652, x1653 =>
    if (decide (x1652 < (x1.length : Int))) = true then (
      ((ix x1 x1652).bind fun x1998 =>
        (update_Batch_1 x1998 x1653).bind fun y2009 =>
        if y2009.1 = true then (
          (bytes_Clone x1998.f6).bind fun y2019 =>
          (app x1646 [(M26.mk x1998.f0 x1998.f1 x1998.f2 x1998.f3 x1998.f4 x1998.f5 y2019)]).bind fun x2042 =>
          some (x2042, y2009.2))
        else some (x1646, y2009.2) : Option ((List M26) × Int)).bind fun s2048 => update_pick_2_r14 (update_pick_2_l13 x1 j) x1652 s2048.1 s2048.2)
    else some (x1646, x1653)
def update_pick_2 (k : Nat) (x1 : List M26) (x11 : Int) : Option ((List M26) × Int) :=
  (update_pick_2_l13 x1 k ([]) 0 x11 : Option ((List M26) × Int)).bind fun s2051 => update_pick_2_r12 s2051.1 s2051.2
theorem update_pick_2_s {k : Nat} {x1 : List M26} {x11 : Int} {p2 : Option Addr} {c3 : Nat} {d5 : Ch} {b8 : Nat} {b10 : Nat} {r : (List M26) × Int} (hk : update_pick_2 k x1 x11 = some r) {g w : World} {F : Ch} {ih : IH} (h4 : RSl e26 ih d5 p2 c3 x1) (h6 : ∀ q ∈ d5, q ∈ F) (hw : St g w [bx b8 [.int .u64 5] 22, bx b10 [.int .i64 x11] 3, F] ih) :
    CallsR Tryz.prog 52 #[.slice p2 x1.length c3, .func (.func 54) #[] #[.pointer (some ⟨b8, 0, none⟩), .pointer (some ⟨b10, 0, none⟩)]] w fun v w' => ∃ (ih' : IH) (p2052 : Option Addr) (c2053 : Nat) (d2055 : Ch), v = .slice p2052 r.1.length c2053 ∧ St g w' [d2055, bx b8 [.int .u64 5] 22, bx b10 [.int .i64 r.2] 3, F] ih' ∧ Le ih ih' ∧ OSl e26 ih' p2052 c2053 r.1 d2055 := by
  refine f_in (vs := [.slice p2 x1.length c3, .func (.func 54) #[] #[.pointer (some ⟨b8, 0, none⟩), .pointer (some ⟨b10, 0, none⟩)]]) Tryz.func52 rfl 27 rfl (by kernel_rfl) [(0, .slice p2 x1.length c3), (1, .func (.func 54) #[] #[.pointer (some ⟨b8, 0, none⟩), .pointer (some ⟨b10, 0, none⟩)])] (by kernel_rfl) fun a Qf hQ hQn hs => ?_
  refine c_seq ?_
  refine c_region ?_
  refine pures hs 1 [0, 1] [(0, .slice p2 x1.length c3), (1, .func (.func 54) #[] #[.pointer (some ⟨b8, 0, none⟩), .pointer (some ⟨b10, 0, none⟩)])] (by kernel_rfl) fun a hs => ?_
  refine s_end ?_
  refine c_seq ?_
  refine c_region ?_
  refine pures hs 1 [0, 1, 5] [(0, .slice p2 x1.length c3), (1, .func (.func 54) #[] #[.pointer (some ⟨b8, 0, none⟩), .pointer (some ⟨b10, 0, none⟩)]), (5, .slice none 0 0)] (by kernel_rfl) fun a hs => ?_
  refine s_end ?_
  refine c_seq ?_
  refine c_seq ?_
  refine c_region ?_
  refine pures hs 3 [1, 5, 8, 9, 10] [(1, .func (.func 54) #[] #[.pointer (some ⟨b8, 0, none⟩), .pointer (some ⟨b10, 0, none⟩)]), (5, .slice none 0 0), (8, .slice p2 x1.length c3), (9, .int .i64 (x1.length : Int)), (10, .int .i64 0)] (by kernel_rfl) fun a hs => ?_
  refine s_end ?_
  refine c_block ?_
  obtain ⟨y1854, hx1855, hk⟩ := bindE hk
  replace hw := hw.nil
  obtain ⟨J1856, hJ1856⟩ : ∃ J : Act → World → Prop, ∀ a w, J a w ↔ (∃ (x1847 : List M26) (x1853 : Int) (p1848 : Option Addr) (c1849 : Nat) (d1851 : Ch) (ih1845 : IH), update_pick_2_r12 x1847 x1853 = some r ∧ Sees a 27 [(5, .slice p1848 x1847.length c1849)] ∧ St g w [bx b8 [.int .u64 5] 22, bx b10 [.int .i64 x1853] 3, d1851, F] ih1845 ∧ Le ih ih1845 ∧ OSl e26 ih1845 p1848 c1849 x1847 d1851) := ⟨_, fun _ _ => Iff.rfl⟩
  obtain ⟨I1857, hI1857⟩ : ∃ J : Nat → Act → World → Prop, ∀ j a w, J j a w ↔ (∃ (x1646 : List M26) (x1652 : Int) (x1653 : Int) (p1647 : Option Addr) (c1648 : Nat) (d1650 : Ch) (ih1644 : IH), update_pick_2_l13 x1 j x1646 x1652 x1653 = some y1854 ∧ Sees a 27 [(1, .func (.func 54) #[] #[.pointer (some ⟨b8, 0, none⟩), .pointer (some ⟨b10, 0, none⟩)]), (5, .slice p1647 x1646.length c1648), (8, .slice p2 x1.length c3), (9, .int .i64 (x1.length : Int)), (10, .int .i64 x1652)] ∧ St g w [bx b8 [.int .u64 5] 22, bx b10 [.int .i64 x1653] 3, d1650, F] ih1644 ∧ Le ih ih1644 ∧ OSl e26 ih1644 p1647 c1648 x1646 d1650) := ⟨_, fun _ _ _ => Iff.rfl⟩
  refine c_exitJ 0 J1856 ?_ ?_
  · refine c_loop I1857 k ((hI1857 _ _ _).2 ⟨([]), 0, x11, none, 0, ([]), ih, hx1855, hs.cast [1, 5, 8, 9, 10] (by kernel_rfl), hw.pick [1, 2, 0, 3] (by kernel_rfl), (Le.refl _), (OSl.nil _ _)⟩) (fun a w h0 => ?_) fun j a w hh => ?_
    · obtain ⟨_, _, _, _, _, _, _, h, _⟩ := (hI1857 _ _ _).1 h0
      cases h
    obtain ⟨x1646, x1652, x1653, p1647, c1648, d1650, ih1644, hx1855, hs, hw, hle1645, h1649⟩ := (hI1857 _ _ _).1 hh
    refine c_seq ?_
    refine c_region ?_
    refine pures hs 1 [1, 5, 8, 9, 10, 11] [(1, .func (.func 54) #[] #[.pointer (some ⟨b8, 0, none⟩), .pointer (some ⟨b10, 0, none⟩)]), (5, .slice p1647 x1646.length c1648), (8, .slice p2 x1.length c3), (9, .int .i64 (x1.length : Int)), (10, .int .i64 x1652), (11, .bool (decide (x1652 < (x1.length : Int))))] (by kernel_rfl) fun a hs => ?_
    refine s_end ?_
    refine c_seq ?_
    rcases ifbE hx1855 with ⟨h1858, hx1855⟩ | ⟨h1858, hx1855⟩
    · refine c_cond1 hs (by kernel_rfl) (t := (decide (x1652 < (x1.length : Int)))) (by kernel_rfl) h1858 ?_
      refine c_skip ?_
      obtain ⟨y1986, hx1987, hx1855⟩ := bindE hx1855
      obtain ⟨J1988, hJ1988⟩ : ∃ J : Act → World → Prop, ∀ a w, J a w ↔ (∃ (x1979 : List M26) (x1985 : Int) (p1980 : Option Addr) (c1981 : Nat) (d1983 : Ch) (ih1977 : IH), update_pick_2_r14 (update_pick_2_l13 x1 j) x1652 x1979 x1985 = some y1854 ∧ Sees a 27 [(1, .func (.func 54) #[] #[.pointer (some ⟨b8, 0, none⟩), .pointer (some ⟨b10, 0, none⟩)]), (8, .slice p2 x1.length c3), (9, .int .i64 (x1.length : Int)), (10, .int .i64 x1652), (5, .slice p1980 x1979.length c1981)] ∧ St g w [bx b8 [.int .u64 5] 22, bx b10 [.int .i64 x1985] 3, d1983, F] ih1977 ∧ Le ih1644 ih1977 ∧ OSl e26 ih1977 p1980 c1981 x1979 d1983) := ⟨_, fun _ _ => Iff.rfl⟩
      refine c_seqJ J1988 ?_ ?_
      · refine c_block ?_
        refine c_seq ?_
        refine c_region ?_
        obtain ⟨x1998, h1999, hx1987⟩ := bindE hx1987
        refine s_index hs h4 (by kernel_rfl) (by kernel_rfl) (k := .i64) (by kernel_rfl) 26 (by kernel_rfl) (by kernel_rfl) h1999 fun a r2000 cs henc at2001 hs => ?_
        obtain ⟨p2002, c2003, rfl, h2004⟩ := henc
        refine s_load hs (at2001 _ (((hw.vw 3 rfl).sub h6).anti hle1645)) 0 (by kernel_rfl) (by kernel_rfl) (v := .agg #[.int .u64 x1998.f0, .int .i64 x1998.f1, .int .u64 x1998.f2, .int .i64 x1998.f3, .int .u32 x1998.f4, .int .u64 x1998.f5, .slice p2002 x1998.f6.length c2003]) (by kernel_rfl) fun a hs => ?_
        refine s_new hs hw [.int .u64 0, .int .i64 0, .int .u64 0, .int .i64 0, .int .u32 0, .int .u64 0, .slice none 0 0] 26 (fun b => .pointer (some ⟨b, 0, none⟩)) (by kernel_rfl) (fun _ => by kernel_rfl) fun a w b2005 hs hw => ?_
        refine s_store hs hw 0 rfl 0 (by kernel_rfl) (by kernel_rfl) (v := .agg #[.int .u64 x1998.f0, .int .i64 x1998.f1, .int .u64 x1998.f2, .int .i64 x1998.f3, .int .u32 x1998.f4, .int .u64 x1998.f5, .slice p2002 x1998.f6.length c2003]) (by kernel_rfl) (by kernel_rfl) (by kernel_rfl) (by kernel_rfl) fun a w hs hw => ?_
        refine s_end ?_
        refine c_seq ?_
        refine c_region ?_
        refine pures hs 1 [1, 5, 8, 9, 10, 7, 14] [(1, .func (.func 54) #[] #[.pointer (some ⟨b8, 0, none⟩), .pointer (some ⟨b10, 0, none⟩)]), (5, .slice p1647 x1646.length c1648), (8, .slice p2 x1.length c3), (9, .int .i64 (x1.length : Int)), (10, .int .i64 x1652), (7, .pointer (some ⟨b2005, 0, none⟩)), (14, .func (.func 54) #[] #[.pointer (some ⟨b8, 0, none⟩), .pointer (some ⟨b10, 0, none⟩)])] (by kernel_rfl) fun a hs => ?_
        refine s_load hs (hw.at_ 0 rfl) 0 (by kernel_rfl) (by kernel_rfl) (v := .agg #[.int .u64 x1998.f0, .int .i64 x1998.f1, .int .u64 x1998.f2, .int .i64 x1998.f3, .int .u32 x1998.f4, .int .u64 x1998.f5, .slice p2002 x1998.f6.length c2003]) (by kernel_rfl) fun a hs => ?_
        obtain ⟨y2009, h2010, hx1987⟩ := bindE hx1987
        refine s_call hs (by kernel_rfl) (by kernel_rfl) (update_Batch_1_s h2010 (h2004.mono hle1645) ((hw.pick [1, 2, 0, 3, 4] (by kernel_rfl)).pack 2)) fun a w v hv hs => ?_
        obtain ⟨rfl, hw⟩ := hv
        replace hw := hw.unpack 2 rfl
        refine s_end ?_
        rcases ifbE hx1987 with ⟨h2011, hx1987⟩ | ⟨h2011, hx1987⟩
        · refine c_cond1 hs (by kernel_rfl) (t := y2009.1) (by kernel_rfl) h2011 ?_
          refine c_seq ?_
          refine c_region ?_
          refine pures hs 1 [1, 5, 8, 9, 10, 7, 17] [(1, .func (.func 54) #[] #[.pointer (some ⟨b8, 0, none⟩), .pointer (some ⟨b10, 0, none⟩)]), (5, .slice p1647 x1646.length c1648), (8, .slice p2 x1.length c3), (9, .int .i64 (x1.length : Int)), (10, .int .i64 x1652), (7, .pointer (some ⟨b2005, 0, none⟩)), (17, .pointer (some ⟨b2005, 6, none⟩))] (by kernel_rfl) fun a hs => ?_
          refine s_load hs (hw.at_ 2 rfl) 6 (by kernel_rfl) (by kernel_rfl) (v := .slice p2002 x1998.f6.length c2003) (by kernel_rfl) fun a hs => ?_
          obtain ⟨y2019, h2020, hx1987⟩ := bindE hx1987
          refine s_call hs (by kernel_rfl) (by kernel_rfl) (bytes_Clone_s h2020 (h2004.mono hle1645) (nilSub _) ((hw.pick [0, 1, 2, 3, 4] (by kernel_rfl)).pack 0)) fun a w v hv hs => ?_
          obtain ⟨p2021, c2022, d2024, rfl, hw, h2023⟩ := hv
          replace hw := hw.unpack 1 rfl
          refine pures hs 1 [1, 5, 8, 9, 10, 7, 19, 20] [(1, .func (.func 54) #[] #[.pointer (some ⟨b8, 0, none⟩), .pointer (some ⟨b10, 0, none⟩)]), (5, .slice p1647 x1646.length c1648), (8, .slice p2 x1.length c3), (9, .int .i64 (x1.length : Int)), (10, .int .i64 x1652), (7, .pointer (some ⟨b2005, 0, none⟩)), (19, .slice p2021 y2019.length c2022), (20, .pointer (some ⟨b2005, 6, none⟩))] (by kernel_rfl) fun a hs => ?_
          refine s_store hs hw 3 rfl 6 (by kernel_rfl) (by kernel_rfl) (v := .slice p2021 y2019.length c2022) (by kernel_rfl) (by kernel_rfl) (by kernel_rfl) (by kernel_rfl) fun a w hs hw => ?_
          refine s_end ?_
          refine c_region ?_
          refine pures hs 1 [1, 8, 9, 10, 7, 21] [(1, .func (.func 54) #[] #[.pointer (some ⟨b8, 0, none⟩), .pointer (some ⟨b10, 0, none⟩)]), (8, .slice p2 x1.length c3), (9, .int .i64 (x1.length : Int)), (10, .int .i64 x1652), (7, .pointer (some ⟨b2005, 0, none⟩)), (21, .slice p1647 x1646.length c1648)] (by kernel_rfl) fun a hs => ?_
          refine s_load hs (hw.at_ 3 rfl) 0 (by kernel_rfl) (by kernel_rfl) (v := .agg #[.int .u64 x1998.f0, .int .i64 x1998.f1, .int .u64 x1998.f2, .int .i64 x1998.f3, .int .u32 x1998.f4, .int .u64 x1998.f5, .slice p2021 y2019.length c2022]) (by kernel_rfl) fun a hs => ?_
          obtain ⟨ih2037, hle2038, hw, h2039⟩ := (hw.pick [0, 1, 2, 3, 4, 5] (by kernel_rfl)).fz (h2023.mono (Le.refl _))
          refine s_new hs hw [.int .u64 x1998.f0, .int .i64 x1998.f1, .int .u64 x1998.f2, .int .i64 x1998.f3, .int .u32 x1998.f4, .int .u64 x1998.f5, .slice p2021 y2019.length c2022] 26 (fun b => .slice (some ⟨b, 0, none⟩) 1 1) (by kernel_rfl) (fun _ => by kernel_rfl) fun a w b2040 hs hw => ?_
          obtain ⟨x2042, h2043, hx1987⟩ := bindE hx1987
          refine s_app1 hs hw (E := e26) appT28 4 rfl (h1649.mono hle2038) (by kernel_rfl) (by kernel_rfl) (c2 := 1) (by kernel_rfl) (hw.at_ 0 rfl) (z := (M26.mk x1998.f0 x1998.f1 x1998.f2 x1998.f3 x1998.f4 x1998.f5 y2019)) ⟨p2021, c2022, rfl, h2039⟩ h2043 fun a w p2044 c2045 d2046 h2047 hw hs => ?_
          refine pures hs 1 [1, 8, 9, 10, 5] [(1, .func (.func 54) #[] #[.pointer (some ⟨b8, 0, none⟩), .pointer (some ⟨b10, 0, none⟩)]), (8, .slice p2 x1.length c3), (9, .int .i64 (x1.length : Int)), (10, .int .i64 x1652), (5, .slice p2044 x2042.length c2045)] (by kernel_rfl) fun a hs => ?_
          refine s_end ?_
          obtain rfl := someE hx1987
          exact (hJ1988 _ _).2 ⟨x2042, y2009.2, p2044, c2045, d2046, ih2037, hx1855, hs.cast [1, 8, 9, 10, 5] (by kernel_rfl), hw.pick [1, 2, 4, 5] (by kernel_rfl), hle2038, h2047⟩
        refine c_cond0 hs (by kernel_rfl) (t := y2009.1) (by kernel_rfl) h2011 ?_
        refine c_skip ?_
        obtain rfl := someE hx1987
        exact (hJ1988 _ _).2 ⟨x1646, y2009.2, p1647, c1648, d1650, ih1644, hx1855, hs.cast [1, 8, 9, 10, 5] (by kernel_rfl), hw.pick [0, 1, 3, 4] (by kernel_rfl), (Le.refl _), h1649⟩
      intro a w hh
      obtain ⟨x1979, x1985, p1980, c1981, d1983, ih1977, hx1855, hs, hw, hle1978, h1982⟩ := (hJ1988 _ _).1 hh
      refine c_region ?_
      refine pures hs 2 [1, 8, 9, 10, 5] [(1, .func (.func 54) #[] #[.pointer (some ⟨b8, 0, none⟩), .pointer (some ⟨b10, 0, none⟩)]), (8, .slice p2 x1.length c3), (9, .int .i64 (x1.length : Int)), (10, .int .i64 (IntKind.i64.wrap (x1652 + 1))), (5, .slice p1980 x1979.length c1981)] (by kernel_rfl) fun a hs => ?_
      refine s_end ?_
      exact (hI1857 _ _ _).2 ⟨x1979, (IntKind.i64.wrap (x1652 + 1)), x1985, p1980, c1981, d1983, ih1977, hx1855, hs.cast [1, 5, 8, 9, 10] (by kernel_rfl), hw.pick [0, 1, 2, 3] (by kernel_rfl), (hle1645.trans hle1978), h1982⟩
    refine c_cond0 hs (by kernel_rfl) (t := (decide (x1652 < (x1.length : Int)))) (by kernel_rfl) h1858 ?_
    refine c_exit ?_
    obtain rfl := someE hx1855
    exact (hJ1856 _ _).2 ⟨x1646, x1653, p1647, c1648, d1650, ih1644, hk, hs.cast [5] (by kernel_rfl), hw.pick [0, 1, 2, 3] (by kernel_rfl), hle1645, h1649⟩
  intro a w hh
  obtain ⟨x1847, x1853, p1848, c1849, d1851, ih1845, hk, hs, hw, hle1846, h1850⟩ := (hJ1856 _ _).1 hh
  refine c_seq ?_
  refine c_region ?_
  refine pures hs 2 [4] [(4, .slice p1848 x1847.length c1849)] (by kernel_rfl) fun a hs => ?_
  refine s_end ?_
  refine c_ret ?_
  obtain rfl := someE hk
  refine hQ _ _ (f_ret1 hs rfl (v := .slice p1848 x1847.length c1849) (by kernel_rfl) ⟨ih1845, p1848, c1849, d1851, rfl, hw.pick [2, 0, 1, 3] (by kernel_rfl), hle1846, h1850⟩)
def update_Batch (k : Nat) (x1 : List M26) (x7 : Int) : Option (List M26) :=
  (update_pick_2 k x1 x7).bind fun y53 =>
  some y53.1
theorem update_Batch_s {k : Nat} {x1 : List M26} {x7 : Int} {p2 : Option Addr} {c3 : Nat} {d5 : Ch} {r : (List M26)} (hk : update_Batch k x1 x7 = some r) {g w : World} {F : Ch} {ih : IH} (h4 : RSl e26 ih d5 p2 c3 x1) (h6 : ∀ q ∈ d5, q ∈ F) (hw : St g w [F] ih) :
    CallsR Tryz.prog 48 #[.slice p2 x1.length c3, .int .u64 5, .int .i64 x7] w fun v w' => ∃ (ih' : IH) (p62 : Option Addr) (c63 : Nat) (d65 : Ch), v = .slice p62 r.length c63 ∧ St g w' [d65, F] ih' ∧ Le ih ih' ∧ OSl e26 ih' p62 c63 r d65 := by
  refine f_in (vs := [.slice p2 x1.length c3, .int .u64 5, .int .i64 x7]) Tryz.func48 rfl 12 rfl (by kernel_rfl) [(0, .slice p2 x1.length c3), (1, .int .u64 5), (2, .int .i64 x7)] (by kernel_rfl) fun a Qf hQ hQn hs => ?_
  refine c_seq ?_
  refine c_region ?_
  refine s_new hs hw [.int .u64 5] 22 (fun b => .pointer (some ⟨b, 0, none⟩)) (by kernel_rfl) (fun _ => by kernel_rfl) fun a w b38 hs hw => ?_
  refine pures hs 1 [0, 2, 4] [(0, .slice p2 x1.length c3), (2, .int .i64 x7), (4, .pointer (some ⟨b38, 0, none⟩))] (by kernel_rfl) fun a hs => ?_
  refine s_end ?_
  refine c_seq ?_
  refine c_region ?_
  refine pures hs 1 [0, 4, 8] [(0, .slice p2 x1.length c3), (4, .pointer (some ⟨b38, 0, none⟩)), (8, .int .i64 x7)] (by kernel_rfl) fun a hs => ?_
  refine s_new hs hw [.int .i64 0] 3 (fun b => .pointer (some ⟨b, 0, none⟩)) (by kernel_rfl) (fun _ => by kernel_rfl) fun a w b42 hs hw => ?_
  refine s_store hs hw 0 rfl 0 (by kernel_rfl) (by kernel_rfl) (v := .int .i64 x7) (by kernel_rfl) (by kernel_rfl) (by kernel_rfl) (by kernel_rfl) fun a w hs hw => ?_
  refine s_end ?_
  refine c_seq ?_
  refine c_region ?_
  refine pures hs 2 [9, 10] [(9, .slice p2 x1.length c3), (10, .func (.func 54) #[] #[.pointer (some ⟨b38, 0, none⟩), .pointer (some ⟨b42, 0, none⟩)])] (by kernel_rfl) fun a hs => ?_
  obtain ⟨y53, h54, hk⟩ := bindE hk
  refine s_call hs (by kernel_rfl) (by kernel_rfl) (update_pick_2_s h54 h4 (fun q hq => memF 0 rfl q (h6 q hq)) ((hw.pick [1, 0, 2] (by kernel_rfl)).pack 2)) fun a w v hv hs => ?_
  obtain ⟨ih55, p57, c58, d60, rfl, hw, hle56, h59⟩ := hv
  replace hw := hw.unpack 3 rfl
  refine pures hs 1 [6] [(6, .slice p57 y53.1.length c58)] (by kernel_rfl) fun a hs => ?_
  refine s_end ?_
  refine c_ret ?_
  obtain rfl := someE hk
  refine hQ _ _ (f_ret1 hs rfl (v := .slice p57 y53.1.length c58) (by kernel_rfl) ⟨ih55, p57, c58, d60, rfl, hw.pick [0, 3] (by kernel_rfl), hle56, h59⟩)
def window_Window_End_4_r2 (x3 : Int) (x5 : List M26) : Option Int :=
  some (IntKind.u64.wrap (x3 + (IntKind.u64.wrap ((x5.length : Int)))))
def window_Window_End_4 (x3 : Int) (x5 : List M26) : Option Int :=
  window_Window_End_4_r2 x3 x5
theorem window_Window_End_4_s {x3 : Int} {x4 : Int} {x5 : List M26} {b2 : Nat} {p6 : Option Addr} {c7 : Nat} {d9 : Ch} {r : Int} (hk : window_Window_End_4 x3 x5 = some r) {g w : World} {F : Ch} {ih : IH} (h8 : OSl e26 ih p6 c7 x5 d9) (hw : St g w [bx b2 [.int .u64 x3, .int .u64 x4, .slice p6 x5.length c7] 78, d9, F] ih) :
    CallsR Tryz.prog 25 #[.pointer (some ⟨b2, 0, none⟩)] w fun v w' => v = .int .u64 r ∧ St g w' [bx b2 [.int .u64 x3, .int .u64 x4, .slice p6 x5.length c7] 78, d9, F] ih := by
  refine f_in (vs := [.pointer (some ⟨b2, 0, none⟩)]) Tryz.func25 rfl 16 rfl (by kernel_rfl) [(0, .pointer (some ⟨b2, 0, none⟩))] (by kernel_rfl) fun a Qf hQ hQn hs => ?_
  refine c_seq ?_
  refine c_region ?_
  refine pures hs 1 [0] [(0, .pointer (some ⟨b2, 0, none⟩))] (by kernel_rfl) fun a hs => ?_
  refine s_end ?_
  refine c_seq ?_
  refine c_seq ?_
  refine c_region ?_
  refine pures hs 2 [0, 4] [(0, .pointer (some ⟨b2, 0, none⟩)), (4, .bool false)] (by kernel_rfl) fun a hs => ?_
  refine s_end ?_
  refine c_condF hs (by kernel_rfl) (by kernel_rfl) ?_
  refine c_skip ?_
  refine c_seq ?_
  obtain ⟨S17, hS17, kS17⟩ := mkSX (X := [([], bx b2 [.int .u64 x3, .int .u64 x4, .slice p6 x5.length c7] 78), ([], d9), ([], F)]) (ih := ih) (K := []) rfl
  obtain ⟨y18, hx19⟩ : ∃ y, (some () : Option Unit) = some y := ⟨_, rfl⟩
  obtain ⟨J20, hJ20⟩ : ∃ J : Act → World → Prop, ∀ a w, J a w ↔ (window_Window_End_4_r2 x3 x5 = some r ∧ Sees a 16 [(2, .int .u64 (IntKind.u64.wrap (x3 + (IntKind.u64.wrap ((x5.length : Int))))))] ∧ St g w [bx b2 [.int .u64 x3, .int .u64 x4, .slice p6 x5.length c7] 78, d9, F] ih) := ⟨_, fun _ _ => Iff.rfl⟩
  refine c_draw (by kernel_rfl) (N := 12) rfl S17 J20 ?_ ?_
  · have hw := hw.drew
    have hS : S17 (Array.replicate 12 false) _ := SX_now hS17 (hw.vws [0, 1, 2]) (by kernel_rfl)
    refine d_pures (fuel := 9) kS17 hs hS [0, 1, 2] [0, 5, 6, 7] [(0, .pointer (some ⟨b2, 0, none⟩)), (5, .pointer (some ⟨b2, 0, none⟩)), (6, .pointer (some ⟨b2, 0, none⟩)), (7, .pointer (some ⟨b2, 0, none⟩))] (by kernel_rfl) fun a hs hS => ?_
    refine d_load (fuel := 8) kS17 hs hS 3 rfl (by kernel_rfl) (SX_box hS17 0 rfl (by kernel_rfl)) 0 (by kernel_rfl) (by kernel_rfl) (v := .int .u64 x3) (by kernel_rfl) fun a hs hS => ?_
    refine d_pures (fuel := 5) kS17 hs hS [4, 5, 6] [0, 5, 6, 7, 8, 9, 10, 11] [(0, .pointer (some ⟨b2, 0, none⟩)), (5, .pointer (some ⟨b2, 0, none⟩)), (6, .pointer (some ⟨b2, 0, none⟩)), (7, .pointer (some ⟨b2, 0, none⟩)), (8, .int .u64 x3), (9, .pointer (some ⟨b2, 0, none⟩)), (10, .pointer (some ⟨b2, 0, none⟩)), (11, .pointer (some ⟨b2, 2, none⟩))] (by kernel_rfl) fun a hs hS => ?_
    refine d_load (fuel := 4) kS17 hs hS 7 rfl (by kernel_rfl) (SX_box hS17 0 rfl (by kernel_rfl)) 2 (by kernel_rfl) (by kernel_rfl) (v := .slice p6 x5.length c7) (by kernel_rfl) fun a hs hS => ?_
    refine d_pures (fuel := 0) kS17 hs hS [8, 9, 10, 11] [0, 5, 6, 7, 8, 9, 10, 11, 12, 13, 14, 15, 2] [(0, .pointer (some ⟨b2, 0, none⟩)), (5, .pointer (some ⟨b2, 0, none⟩)), (6, .pointer (some ⟨b2, 0, none⟩)), (7, .pointer (some ⟨b2, 0, none⟩)), (8, .int .u64 x3), (9, .pointer (some ⟨b2, 0, none⟩)), (10, .pointer (some ⟨b2, 0, none⟩)), (11, .pointer (some ⟨b2, 2, none⟩)), (12, .slice p6 x5.length c7), (13, .int .i64 (x5.length : Int)), (14, .int .u64 (IntKind.u64.wrap ((x5.length : Int)))), (15, .int .u64 (IntKind.u64.wrap (x3 + (IntKind.u64.wrap ((x5.length : Int)))))), (2, .int .u64 (IntKind.u64.wrap (x3 + (IntKind.u64.wrap ((x5.length : Int))))))] (by kernel_rfl) fun a hs hS => ?_
    refine d_done (by kernel_rfl) ?_
    obtain rfl := someE hx19
    exact (hJ20 _ _).2 ⟨hk, hs.cast [2] (by kernel_rfl), hw.pick [0, 1, 2] (by kernel_rfl)⟩
  intro a w hh
  obtain ⟨hk, hs, hw⟩ := (hJ20 _ _).1 hh
  refine c_ret ?_
  obtain rfl := someE hk
  refine hQ _ _ (f_ret1 hs rfl (v := .int .u64 (IntKind.u64.wrap (x3 + (IntKind.u64.wrap ((x5.length : Int)))))) (by kernel_rfl) ⟨rfl, hw.pick [0, 1, 2] (by kernel_rfl)⟩)
def window_Window_trim_3_r3 (y74 : Int) (x4 : Int) (x3 : Int) (x105 : List M26) : Option (Int × (List M26)) :=
  some ((if (if (IntKind.u64.wrap (y74 - 32)) < x4 then (IntKind.u64.wrap (y74 - 32)) else x4) > x3 then (if (IntKind.u64.wrap (y74 - 32)) < x4 then (IntKind.u64.wrap (y74 - 32)) else x4) else x3), x105)
def window_Window_trim_3_r4 (x5 : List M26) (y74 : Int) (x4 : Int) (x3 : Int) : Option (Int × (List M26)) :=
  ((sl x5 (IntKind.i64.wrap (IntKind.u64.wrap ((if (if (IntKind.u64.wrap (y74 - 32)) < x4 then (IntKind.u64.wrap (y74 - 32)) else x4) > x3 then (if (IntKind.u64.wrap (y74 - 32)) < x4 then (IntKind.u64.wrap (y74 - 32)) else x4) else x3) - x3))) (x5.length : Int)).bind fun x114 =>
    (app ([]) x114).bind fun x121 =>
    some x121 : Option (List M26)).bind fun s127 => window_Window_trim_3_r3 y74 x4 x3 s127
def window_Window_trim_3 (x3 : Int) (x4 : Int) (x5 : List M26) : Option (Int × (List M26)) :=
  (window_Window_End_4 x3 x5).bind fun y74 =>
  if (decide (y74 < 32)) = true then some (x3, x5)
  else window_Window_trim_3_r4 x5 y74 x4 x3
theorem window_Window_trim_3_s {x3 : Int} {x4 : Int} {x5 : List M26} {b2 : Nat} {p6 : Option Addr} {c7 : Nat} {d9 : Ch} {r : Int × (List M26)} (hk : window_Window_trim_3 x3 x4 x5 = some r) {g w : World} {F : Ch} {ih : IH} (h8 : OSl e26 ih p6 c7 x5 d9) (hw : St g w [bx b2 [.int .u64 x3, .int .u64 x4, .slice p6 x5.length c7] 78, d9, F] ih) :
    CallsR Tryz.prog 47 #[.pointer (some ⟨b2, 0, none⟩)] w fun v w' => ∃ (p131 : Option Addr) (c132 : Nat) (d133 : Ch), v = .tuple #[] ∧ St g w' [bx b2 [.int .u64 r.1, .int .u64 x4, .slice p131 r.2.length c132] 78, d133, F] ih ∧ OSl e26 ih p131 c132 r.2 d133 := by
  refine f_in (vs := [.pointer (some ⟨b2, 0, none⟩)]) Tryz.func47 rfl 52 rfl (by kernel_rfl) [(0, .pointer (some ⟨b2, 0, none⟩))] (by kernel_rfl) fun a Qf hQ hQn hs => ?_
  refine c_seq ?_
  refine c_region ?_
  refine pures hs 1 [0, 5] [(0, .pointer (some ⟨b2, 0, none⟩)), (5, .pointer (some ⟨b2, 0, none⟩))] (by kernel_rfl) fun a hs => ?_
  obtain ⟨y74, h75, hk⟩ := bindE hk
  refine s_call hs (by kernel_rfl) (by kernel_rfl) (window_Window_End_4_s (x4 := x4) h75 h8 ((hw.pick [0, 1, 2] (by kernel_rfl)).pack 2)) fun a w v hv hs => ?_
  obtain ⟨rfl, hw⟩ := hv
  replace hw := hw.unpack 2 rfl
  refine pures hs 1 [0, 2] [(0, .pointer (some ⟨b2, 0, none⟩)), (2, .int .u64 y74)] (by kernel_rfl) fun a hs => ?_
  refine s_end ?_
  refine c_seq ?_
  refine c_seq ?_
  refine c_region ?_
  refine pures hs 2 [0, 2, 8] [(0, .pointer (some ⟨b2, 0, none⟩)), (2, .int .u64 y74), (8, .bool (decide (y74 < 32)))] (by kernel_rfl) fun a hs => ?_
  refine s_end ?_
  rcases ifbE hk with ⟨h76, hk⟩ | ⟨h76, hk⟩
  · refine c_cond1 hs (by kernel_rfl) (t := (decide (y74 < 32))) (by kernel_rfl) h76 ?_
    refine c_ret ?_
    obtain rfl := someE hk
    refine hQ _ _ (f_retN hs [] rfl [] (by kernel_rfl) (by kernel_rfl) ⟨p6, c7, d9, rfl, hw.pick [0, 1, 2] (by kernel_rfl), h8⟩)
  refine c_cond0 hs (by kernel_rfl) (t := (decide (y74 < 32))) (by kernel_rfl) h76 ?_
  refine c_skip ?_
  refine c_seq ?_
  obtain ⟨S77, hS77, kS77⟩ := mkSX (X := [([], bx b2 [.int .u64 x3, .int .u64 x4, .slice p6 x5.length c7] 78), ([], d9), ([], F)]) (ih := ih) (K := []) rfl
  obtain ⟨y128, hx129⟩ : ∃ y, (some () : Option Unit) = some y := ⟨_, rfl⟩
  obtain ⟨J130, hJ130⟩ : ∃ J : Act → World → Prop, ∀ a w, J a w ↔ (window_Window_trim_3_r4 x5 y74 x4 x3 = some r ∧ Sees a 52 [(0, .pointer (some ⟨b2, 0, none⟩)), (3, .int .u64 (if (if (IntKind.u64.wrap (y74 - 32)) < x4 then (IntKind.u64.wrap (y74 - 32)) else x4) > x3 then (if (IntKind.u64.wrap (y74 - 32)) < x4 then (IntKind.u64.wrap (y74 - 32)) else x4) else x3))] ∧ St g w [bx b2 [.int .u64 x3, .int .u64 x4, .slice p6 x5.length c7] 78, d9, F] ih) := ⟨_, fun _ _ => Iff.rfl⟩
  refine c_draw (by kernel_rfl) (N := 13) rfl S77 J130 ?_ ?_
  · have hw := hw.drew
    have hS : S77 (Array.replicate 13 false) _ := SX_now hS77 (hw.vws [0, 1, 2]) (by kernel_rfl)
    refine d_pures (fuel := 10) kS77 hs hS [0, 1, 2] [0, 2, 9, 10, 11] [(0, .pointer (some ⟨b2, 0, none⟩)), (2, .int .u64 y74), (9, .pointer (some ⟨b2, 0, none⟩)), (10, .pointer (some ⟨b2, 0, none⟩)), (11, .pointer (some ⟨b2, 0, none⟩))] (by kernel_rfl) fun a hs hS => ?_
    refine d_load (fuel := 9) kS77 hs hS 3 rfl (by kernel_rfl) (SX_box hS77 0 rfl (by kernel_rfl)) 0 (by kernel_rfl) (by kernel_rfl) (v := .int .u64 x3) (by kernel_rfl) fun a hs hS => ?_
    refine d_pures (fuel := 6) kS77 hs hS [4, 5, 6] [0, 2, 9, 10, 11, 12, 13, 14, 15] [(0, .pointer (some ⟨b2, 0, none⟩)), (2, .int .u64 y74), (9, .pointer (some ⟨b2, 0, none⟩)), (10, .pointer (some ⟨b2, 0, none⟩)), (11, .pointer (some ⟨b2, 0, none⟩)), (12, .int .u64 x3), (13, .pointer (some ⟨b2, 0, none⟩)), (14, .pointer (some ⟨b2, 0, none⟩)), (15, .pointer (some ⟨b2, 1, none⟩))] (by kernel_rfl) fun a hs hS => ?_
    refine d_load (fuel := 5) kS77 hs hS 7 rfl (by kernel_rfl) (SX_box hS77 0 rfl (by kernel_rfl)) 1 (by kernel_rfl) (by kernel_rfl) (v := .int .u64 x4) (by kernel_rfl) fun a hs hS => ?_
    refine d_pures (fuel := 0) kS77 hs hS [8, 9, 10, 11, 12] [0, 2, 9, 10, 11, 12, 13, 14, 15, 16, 17, 18, 19, 20, 3] [(0, .pointer (some ⟨b2, 0, none⟩)), (2, .int .u64 y74), (9, .pointer (some ⟨b2, 0, none⟩)), (10, .pointer (some ⟨b2, 0, none⟩)), (11, .pointer (some ⟨b2, 0, none⟩)), (12, .int .u64 x3), (13, .pointer (some ⟨b2, 0, none⟩)), (14, .pointer (some ⟨b2, 0, none⟩)), (15, .pointer (some ⟨b2, 1, none⟩)), (16, .int .u64 x4), (17, .int .u64 y74), (18, .int .u64 (IntKind.u64.wrap (y74 - 32))), (19, .int .u64 (if (IntKind.u64.wrap (y74 - 32)) < x4 then (IntKind.u64.wrap (y74 - 32)) else x4)), (20, .int .u64 (if (if (IntKind.u64.wrap (y74 - 32)) < x4 then (IntKind.u64.wrap (y74 - 32)) else x4) > x3 then (if (IntKind.u64.wrap (y74 - 32)) < x4 then (IntKind.u64.wrap (y74 - 32)) else x4) else x3)), (3, .int .u64 (if (if (IntKind.u64.wrap (y74 - 32)) < x4 then (IntKind.u64.wrap (y74 - 32)) else x4) > x3 then (if (IntKind.u64.wrap (y74 - 32)) < x4 then (IntKind.u64.wrap (y74 - 32)) else x4) else x3))] (by kernel_rfl) fun a hs hS => ?_
    refine d_done (by kernel_rfl) ?_
    obtain rfl := someE hx129
    exact (hJ130 _ _).2 ⟨hk, hs.cast [0, 3] (by kernel_rfl), hw.pick [0, 1, 2] (by kernel_rfl)⟩
  intro a w hh
  obtain ⟨hk, hs, hw⟩ := (hJ130 _ _).1 hh
  refine c_seq ?_
  refine c_region ?_
  refine pures hs 4 [0, 3, 21, 24] [(0, .pointer (some ⟨b2, 0, none⟩)), (3, .int .u64 (if (if (IntKind.u64.wrap (y74 - 32)) < x4 then (IntKind.u64.wrap (y74 - 32)) else x4) > x3 then (if (IntKind.u64.wrap (y74 - 32)) < x4 then (IntKind.u64.wrap (y74 - 32)) else x4) else x3)), (21, .int .u64 (if (if (IntKind.u64.wrap (y74 - 32)) < x4 then (IntKind.u64.wrap (y74 - 32)) else x4) > x3 then (if (IntKind.u64.wrap (y74 - 32)) < x4 then (IntKind.u64.wrap (y74 - 32)) else x4) else x3)), (24, .pointer (some ⟨b2, 0, none⟩))] (by kernel_rfl) fun a hs => ?_
  refine s_load hs (hw.at_ 0 rfl) 0 (by kernel_rfl) (by kernel_rfl) (v := .int .u64 x3) (by kernel_rfl) fun a hs => ?_
  refine pures hs 3 [0, 3, 4] [(0, .pointer (some ⟨b2, 0, none⟩)), (3, .int .u64 (if (if (IntKind.u64.wrap (y74 - 32)) < x4 then (IntKind.u64.wrap (y74 - 32)) else x4) > x3 then (if (IntKind.u64.wrap (y74 - 32)) < x4 then (IntKind.u64.wrap (y74 - 32)) else x4) else x3)), (4, .int .i64 (IntKind.i64.wrap (IntKind.u64.wrap ((if (if (IntKind.u64.wrap (y74 - 32)) < x4 then (IntKind.u64.wrap (y74 - 32)) else x4) > x3 then (if (IntKind.u64.wrap (y74 - 32)) < x4 then (IntKind.u64.wrap (y74 - 32)) else x4) else x3) - x3))))] (by kernel_rfl) fun a hs => ?_
  refine s_end ?_
  refine c_seq ?_
  obtain ⟨S78, hS78, kS78⟩ := mkSX (X := [([20], bx b2 [.int .u64 x3, .int .u64 x4, .slice p6 x5.length c7] 78), ([], d9), ([], F)]) (ih := ih) (K := [20]) rfl
  obtain ⟨y111, hx112, hk⟩ := bindE hk
  obtain ⟨J113, hJ113⟩ : ∃ J : Act → World → Prop, ∀ a w, J a w ↔ (∃ (x105 : List M26) (p106 : Option Addr) (c107 : Nat) (d109 : Ch), window_Window_trim_3_r3 y74 x4 x3 x105 = some r ∧ Sees a 52 [(0, .pointer (some ⟨b2, 0, none⟩)), (3, .int .u64 (if (if (IntKind.u64.wrap (y74 - 32)) < x4 then (IntKind.u64.wrap (y74 - 32)) else x4) > x3 then (if (IntKind.u64.wrap (y74 - 32)) < x4 then (IntKind.u64.wrap (y74 - 32)) else x4) else x3))] ∧ St g w [bx b2 [.int .u64 x3, .int .u64 x4, .slice p106 x105.length c107] 78, d109, F] ih ∧ OSl e26 ih p106 c107 x105 d109) := ⟨_, fun _ _ => Iff.rfl⟩
  refine c_draw (by kernel_rfl) (N := 21) rfl S78 J113 ?_ ?_
  · have hw := hw.drew
    have hS : S78 (Array.replicate 21 false) _ := SX_now hS78 (hw.vws [0, 1, 2]) (by kernel_rfl)
    refine d_pures (fuel := 17) kS78 hs hS [0, 1, 2, 3] [0, 3, 4, 28, 29, 30, 31] [(0, .pointer (some ⟨b2, 0, none⟩)), (3, .int .u64 (if (if (IntKind.u64.wrap (y74 - 32)) < x4 then (IntKind.u64.wrap (y74 - 32)) else x4) > x3 then (if (IntKind.u64.wrap (y74 - 32)) < x4 then (IntKind.u64.wrap (y74 - 32)) else x4) else x3)), (4, .int .i64 (IntKind.i64.wrap (IntKind.u64.wrap ((if (if (IntKind.u64.wrap (y74 - 32)) < x4 then (IntKind.u64.wrap (y74 - 32)) else x4) > x3 then (if (IntKind.u64.wrap (y74 - 32)) < x4 then (IntKind.u64.wrap (y74 - 32)) else x4) else x3) - x3)))), (28, .pointer (some ⟨b2, 0, none⟩)), (29, .pointer (some ⟨b2, 0, none⟩)), (30, .pointer (some ⟨b2, 0, none⟩)), (31, .pointer (some ⟨b2, 2, none⟩))] (by kernel_rfl) fun a hs hS => ?_
    refine d_load (fuel := 16) kS78 hs hS 4 rfl (by kernel_rfl) (SX_box hS78 0 rfl (by kernel_rfl)) 2 (by kernel_rfl) (by kernel_rfl) (v := .slice p6 x5.length c7) (by kernel_rfl) fun a hs hS => ?_
    refine d_pures (fuel := 12) kS78 hs hS [5, 6, 7, 8] [0, 3, 4, 28, 29, 30, 31, 32, 33, 34, 35, 36] [(0, .pointer (some ⟨b2, 0, none⟩)), (3, .int .u64 (if (if (IntKind.u64.wrap (y74 - 32)) < x4 then (IntKind.u64.wrap (y74 - 32)) else x4) > x3 then (if (IntKind.u64.wrap (y74 - 32)) < x4 then (IntKind.u64.wrap (y74 - 32)) else x4) else x3)), (4, .int .i64 (IntKind.i64.wrap (IntKind.u64.wrap ((if (if (IntKind.u64.wrap (y74 - 32)) < x4 then (IntKind.u64.wrap (y74 - 32)) else x4) > x3 then (if (IntKind.u64.wrap (y74 - 32)) < x4 then (IntKind.u64.wrap (y74 - 32)) else x4) else x3) - x3)))), (28, .pointer (some ⟨b2, 0, none⟩)), (29, .pointer (some ⟨b2, 0, none⟩)), (30, .pointer (some ⟨b2, 0, none⟩)), (31, .pointer (some ⟨b2, 2, none⟩)), (32, .slice p6 x5.length c7), (33, .int .i64 (IntKind.i64.wrap (IntKind.u64.wrap ((if (if (IntKind.u64.wrap (y74 - 32)) < x4 then (IntKind.u64.wrap (y74 - 32)) else x4) > x3 then (if (IntKind.u64.wrap (y74 - 32)) < x4 then (IntKind.u64.wrap (y74 - 32)) else x4) else x3) - x3)))), (34, .pointer (some ⟨b2, 0, none⟩)), (35, .pointer (some ⟨b2, 0, none⟩)), (36, .pointer (some ⟨b2, 2, none⟩))] (by kernel_rfl) fun a hs hS => ?_
    refine d_load (fuel := 11) kS78 hs hS 9 rfl (by kernel_rfl) (SX_box hS78 0 rfl (by kernel_rfl)) 2 (by kernel_rfl) (by kernel_rfl) (v := .slice p6 x5.length c7) (by kernel_rfl) fun a hs hS => ?_
    refine d_pures (fuel := 7) kS78 hs hS [10, 11, 12, 13] [0, 3, 4, 28, 29, 30, 31, 32, 33, 34, 35, 36, 37, 38, 39, 40, 41] [(0, .pointer (some ⟨b2, 0, none⟩)), (3, .int .u64 (if (if (IntKind.u64.wrap (y74 - 32)) < x4 then (IntKind.u64.wrap (y74 - 32)) else x4) > x3 then (if (IntKind.u64.wrap (y74 - 32)) < x4 then (IntKind.u64.wrap (y74 - 32)) else x4) else x3)), (4, .int .i64 (IntKind.i64.wrap (IntKind.u64.wrap ((if (if (IntKind.u64.wrap (y74 - 32)) < x4 then (IntKind.u64.wrap (y74 - 32)) else x4) > x3 then (if (IntKind.u64.wrap (y74 - 32)) < x4 then (IntKind.u64.wrap (y74 - 32)) else x4) else x3) - x3)))), (28, .pointer (some ⟨b2, 0, none⟩)), (29, .pointer (some ⟨b2, 0, none⟩)), (30, .pointer (some ⟨b2, 0, none⟩)), (31, .pointer (some ⟨b2, 2, none⟩)), (32, .slice p6 x5.length c7), (33, .int .i64 (IntKind.i64.wrap (IntKind.u64.wrap ((if (if (IntKind.u64.wrap (y74 - 32)) < x4 then (IntKind.u64.wrap (y74 - 32)) else x4) > x3 then (if (IntKind.u64.wrap (y74 - 32)) < x4 then (IntKind.u64.wrap (y74 - 32)) else x4) else x3) - x3)))), (34, .pointer (some ⟨b2, 0, none⟩)), (35, .pointer (some ⟨b2, 0, none⟩)), (36, .pointer (some ⟨b2, 2, none⟩)), (37, .slice p6 x5.length c7), (38, .int .i64 (x5.length : Int)), (39, .pointer (some ⟨b2, 0, none⟩)), (40, .pointer (some ⟨b2, 0, none⟩)), (41, .pointer (some ⟨b2, 2, none⟩))] (by kernel_rfl) fun a hs hS => ?_
    refine d_load (fuel := 6) kS78 hs hS 14 rfl (by kernel_rfl) (SX_box hS78 0 rfl (by kernel_rfl)) 2 (by kernel_rfl) (by kernel_rfl) (v := .slice p6 x5.length c7) (by kernel_rfl) fun a hs hS => ?_
    refine d_pures (fuel := 5) kS78 hs hS [15] [0, 3, 4, 28, 29, 30, 31, 32, 33, 34, 35, 36, 37, 38, 39, 40, 41, 42, 43] [(0, .pointer (some ⟨b2, 0, none⟩)), (3, .int .u64 (if (if (IntKind.u64.wrap (y74 - 32)) < x4 then (IntKind.u64.wrap (y74 - 32)) else x4) > x3 then (if (IntKind.u64.wrap (y74 - 32)) < x4 then (IntKind.u64.wrap (y74 - 32)) else x4) else x3)), (4, .int .i64 (IntKind.i64.wrap (IntKind.u64.wrap ((if (if (IntKind.u64.wrap (y74 - 32)) < x4 then (IntKind.u64.wrap (y74 - 32)) else x4) > x3 then (if (IntKind.u64.wrap (y74 - 32)) < x4 then (IntKind.u64.wrap (y74 - 32)) else x4) else x3) - x3)))), (28, .pointer (some ⟨b2, 0, none⟩)), (29, .pointer (some ⟨b2, 0, none⟩)), (30, .pointer (some ⟨b2, 0, none⟩)), (31, .pointer (some ⟨b2, 2, none⟩)), (32, .slice p6 x5.length c7), (33, .int .i64 (IntKind.i64.wrap (IntKind.u64.wrap ((if (if (IntKind.u64.wrap (y74 - 32)) < x4 then (IntKind.u64.wrap (y74 - 32)) else x4) > x3 then (if (IntKind.u64.wrap (y74 - 32)) < x4 then (IntKind.u64.wrap (y74 - 32)) else x4) else x3) - x3)))), (34, .pointer (some ⟨b2, 0, none⟩)), (35, .pointer (some ⟨b2, 0, none⟩)), (36, .pointer (some ⟨b2, 2, none⟩)), (37, .slice p6 x5.length c7), (38, .int .i64 (x5.length : Int)), (39, .pointer (some ⟨b2, 0, none⟩)), (40, .pointer (some ⟨b2, 0, none⟩)), (41, .pointer (some ⟨b2, 2, none⟩)), (42, .slice p6 x5.length c7), (43, .int .i64 (x5.length : Int))] (by kernel_rfl) fun a hs hS => ?_
    obtain ⟨x114, h115, hx112⟩ := bindE hx112
    refine d_slice (fuel := 4) kS78 hs hS 16 rfl (by kernel_rfl) h8.read (by kernel_rfl) (by kernel_rfl) 26 (by kernel_rfl) (by kernel_rfl) (by kernel_rfl) (by kernel_rfl) (by kernel_rfl) h115 (.inr ⟨_, rfl, Int.le_refl _, (slE h115).2.2.1⟩) fun a p116 c117 h118 hs hS => ?_
    refine d_all (fuel := 3) (rs := [17]) (by kernel_rfl) (by simp) (all1 ?_)
    replace hw := hw.nil
    obtain ⟨x121, h122, hx112⟩ := bindE hx112
    refine o_appS hs rfl hw (E := e26) appT28 0 rfl (OSl.nil _ _) (by kernel_rfl) (by kernel_rfl) (h118.mono (Le.refl _)) ((hw.vw 2 rfl).anti (Le.refl _)) (by kernel_rfl) h122 fun a w p123 c124 d125 h126 hw hs => ?_
    refine dg_next (SX_now hS78 ((hw.vws [1, 2, 3]).anti (Le.refl _)) (by kernel_rfl)) fun hS => ?_
    refine d_pures (fuel := 1) kS78 hs hS [18, 19] [0, 3, 4, 28, 29, 30, 31, 32, 33, 34, 35, 36, 37, 38, 39, 40, 41, 42, 43, 44, 45, 46, 47] [(0, .pointer (some ⟨b2, 0, none⟩)), (3, .int .u64 (if (if (IntKind.u64.wrap (y74 - 32)) < x4 then (IntKind.u64.wrap (y74 - 32)) else x4) > x3 then (if (IntKind.u64.wrap (y74 - 32)) < x4 then (IntKind.u64.wrap (y74 - 32)) else x4) else x3)), (4, .int .i64 (IntKind.i64.wrap (IntKind.u64.wrap ((if (if (IntKind.u64.wrap (y74 - 32)) < x4 then (IntKind.u64.wrap (y74 - 32)) else x4) > x3 then (if (IntKind.u64.wrap (y74 - 32)) < x4 then (IntKind.u64.wrap (y74 - 32)) else x4) else x3) - x3)))), (28, .pointer (some ⟨b2, 0, none⟩)), (29, .pointer (some ⟨b2, 0, none⟩)), (30, .pointer (some ⟨b2, 0, none⟩)), (31, .pointer (some ⟨b2, 2, none⟩)), (32, .slice p6 x5.length c7), (33, .int .i64 (IntKind.i64.wrap (IntKind.u64.wrap ((if (if (IntKind.u64.wrap (y74 - 32)) < x4 then (IntKind.u64.wrap (y74 - 32)) else x4) > x3 then (if (IntKind.u64.wrap (y74 - 32)) < x4 then (IntKind.u64.wrap (y74 - 32)) else x4) else x3) - x3)))), (34, .pointer (some ⟨b2, 0, none⟩)), (35, .pointer (some ⟨b2, 0, none⟩)), (36, .pointer (some ⟨b2, 2, none⟩)), (37, .slice p6 x5.length c7), (38, .int .i64 (x5.length : Int)), (39, .pointer (some ⟨b2, 0, none⟩)), (40, .pointer (some ⟨b2, 0, none⟩)), (41, .pointer (some ⟨b2, 2, none⟩)), (42, .slice p6 x5.length c7), (43, .int .i64 (x5.length : Int)), (44, .slice p116 x114.length c117), (45, .slice p123 x121.length c124), (46, .pointer (some ⟨b2, 0, none⟩)), (47, .pointer (some ⟨b2, 2, none⟩))] (by kernel_rfl) fun a hs hS => ?_
    refine d_all (fuel := 0) (rs := [20]) (by kernel_rfl) (by simp) (all1 ?_)
    refine o_store hs hw rfl 1 rfl 2 (by kernel_rfl) (by kernel_rfl) (v := .slice p123 x121.length c124) (by kernel_rfl) (by kernel_rfl) (by kernel_rfl) (by kernel_rfl) fun a w hs hw => ?_
    refine dg_next (SX_now hS78 ((hw.vws [2, 3]).anti (Le.refl _)) (by kernel_rfl)) fun hS => ?_
    refine d_done (by kernel_rfl) ?_
    obtain rfl := someE hx112
    exact (hJ113 _ _).2 ⟨x121, p123, c124, d125, hk, hs.cast [0, 3] (by kernel_rfl), hw.pick [1, 0, 3] (by kernel_rfl), h126⟩
  intro a w hh
  obtain ⟨x105, p106, c107, d109, hk, hs, hw, h108⟩ := (hJ113 _ _).1 hh
  refine c_region ?_
  refine pures hs 4 [49, 51] [(49, .int .u64 (if (if (IntKind.u64.wrap (y74 - 32)) < x4 then (IntKind.u64.wrap (y74 - 32)) else x4) > x3 then (if (IntKind.u64.wrap (y74 - 32)) < x4 then (IntKind.u64.wrap (y74 - 32)) else x4) else x3)), (51, .pointer (some ⟨b2, 0, none⟩))] (by kernel_rfl) fun a hs => ?_
  refine s_store hs hw 0 rfl 0 (by kernel_rfl) (by kernel_rfl) (v := .int .u64 (if (if (IntKind.u64.wrap (y74 - 32)) < x4 then (IntKind.u64.wrap (y74 - 32)) else x4) > x3 then (if (IntKind.u64.wrap (y74 - 32)) < x4 then (IntKind.u64.wrap (y74 - 32)) else x4) else x3)) (by kernel_rfl) (by kernel_rfl) (by kernel_rfl) (by kernel_rfl) fun a w hs hw => ?_
  refine s_end ?_
  obtain rfl := someE hk
  refine hQn _ _ (f_retN hs [] rfl [] (by kernel_rfl) (by kernel_rfl) ⟨p106, c107, d109, rfl, hw.pick [0, 1, 2] (by kernel_rfl), h108⟩)
def window_Window_Reach_2_r2 (x3 : Int) (y70 : Int) (x4 : List M26) (x93 : List M26) : Option ((List M26) × Int × Int × (List M26)) :=
  (window_Window_trim_3 x3 (if (if y70 < 6 then y70 else 6) > 5 then (if y70 < 6 then y70 else 6) else 5) x4).bind fun y105 =>
  some (x93, y105.1, (if (if y70 < 6 then y70 else 6) > 5 then (if y70 < 6 then y70 else 6) else 5), y105.2)
def window_Window_Reach_2 (k : Nat) (x3 : Int) (x4 : List M26) : Option ((List M26) × Int × Int × (List M26)) :=
  (window_Window_End_3 x3 x4).bind fun y70 =>
  ((update_Batch k x4 (IntKind.i64.wrap (IntKind.u64.wrap ((if (if y70 < 6 then y70 else 6) > 5 then (if y70 < 6 then y70 else 6) else 5) - 5)))).bind fun y114 =>
    some y114 : Option (List M26)).bind fun s123 => window_Window_Reach_2_r2 x3 y70 x4 s123
theorem window_Window_Reach_2_s {k : Nat} {x3 : Int} {x4 : List M26} {b2 : Nat} {p5 : Option Addr} {c6 : Nat} {d8 : Ch} {r : (List M26) × Int × Int × (List M26)} (hk : window_Window_Reach_2 k x3 x4 = some r) {g w : World} {F : Ch} {ih : IH} (h7 : OSl e26 ih p5 c6 x4 d8) (hw : St g w [bx b2 [.int .u64 x3, .int .u64 5, .slice p5 x4.length c6] 78, d8, F] ih) :
    CallsR Tryz.prog 26 #[.pointer (some ⟨b2, 0, none⟩), .int .u64 6] w fun v w' => ∃ (ih' : IH) (p124 : Option Addr) (c125 : Nat) (d127 : Ch) (p129 : Option Addr) (c130 : Nat) (d131 : Ch), v = .slice p124 r.1.length c125 ∧ St g w' [d127, bx b2 [.int .u64 r.2.1, .int .u64 r.2.2.1, .slice p129 r.2.2.2.length c130] 78, d131, F] ih' ∧ Le ih ih' ∧ OSl e26 ih' p124 c125 r.1 d127 ∧ OSl e26 ih' p129 c130 r.2.2.2 d131 := by
  refine f_in (vs := [.pointer (some ⟨b2, 0, none⟩), .int .u64 6]) Tryz.func26 rfl 38 rfl (by kernel_rfl) [(0, .pointer (some ⟨b2, 0, none⟩)), (1, .int .u64 6)] (by kernel_rfl) fun a Qf hQ hQn hs => ?_
  refine c_seq ?_
  refine c_region ?_
  refine pures hs 1 [0, 1] [(0, .pointer (some ⟨b2, 0, none⟩)), (1, .int .u64 6)] (by kernel_rfl) fun a hs => ?_
  refine s_end ?_
  refine c_seq ?_
  refine c_seq ?_
  refine c_region ?_
  refine pures hs 2 [0, 1, 8] [(0, .pointer (some ⟨b2, 0, none⟩)), (1, .int .u64 6), (8, .bool false)] (by kernel_rfl) fun a hs => ?_
  refine s_end ?_
  refine c_condF hs (by kernel_rfl) (by kernel_rfl) ?_
  refine c_skip ?_
  refine c_seq ?_
  refine c_region ?_
  refine pures hs 3 [0, 1, 11] [(0, .pointer (some ⟨b2, 0, none⟩)), (1, .int .u64 6), (11, .pointer (some ⟨b2, 1, none⟩))] (by kernel_rfl) fun a hs => ?_
  refine s_load hs (hw.at_ 0 rfl) 1 (by kernel_rfl) (by kernel_rfl) (v := .int .u64 5) (by kernel_rfl) fun a hs => ?_
  refine pures hs 1 [0, 1, 5] [(0, .pointer (some ⟨b2, 0, none⟩)), (1, .int .u64 6), (5, .int .u64 5)] (by kernel_rfl) fun a hs => ?_
  refine s_end ?_
  refine c_seq ?_
  refine c_region ?_
  refine pures hs 4 [0, 5, 13, 14, 15, 16] [(0, .pointer (some ⟨b2, 0, none⟩)), (5, .int .u64 5), (13, .pointer (some ⟨b2, 0, none⟩)), (14, .int .u64 5), (15, .int .u64 6), (16, .pointer (some ⟨b2, 0, none⟩))] (by kernel_rfl) fun a hs => ?_
  obtain ⟨y70, h71, hk⟩ := bindE hk
  refine s_call hs (by kernel_rfl) (by kernel_rfl) (window_Window_End_3_s h71 h7 ((hw.pick [0, 1, 2] (by kernel_rfl)).pack 2)) fun a w v hv hs => ?_
  obtain ⟨rfl, hw⟩ := hv
  replace hw := hw.unpack 2 rfl
  refine pures hs 4 [0, 5, 19, 21] [(0, .pointer (some ⟨b2, 0, none⟩)), (5, .int .u64 5), (19, .int .u64 (if (if y70 < 6 then y70 else 6) > 5 then (if y70 < 6 then y70 else 6) else 5)), (21, .pointer (some ⟨b2, 1, none⟩))] (by kernel_rfl) fun a hs => ?_
  refine s_store hs hw 0 rfl 1 (by kernel_rfl) (by kernel_rfl) (v := .int .u64 (if (if y70 < 6 then y70 else 6) > 5 then (if y70 < 6 then y70 else 6) else 5)) (by kernel_rfl) (by kernel_rfl) (by kernel_rfl) (by kernel_rfl) fun a w hs hw => ?_
  refine s_end ?_
  refine c_seq ?_
  obtain ⟨S72, hS72, kS72⟩ := mkSX (X := [([], bx b2 [.int .u64 x3, .int .u64 (if (if y70 < 6 then y70 else 6) > 5 then (if y70 < 6 then y70 else 6) else 5), .slice p5 x4.length c6] 78), ([], d8), ([], F)]) (ih := ih) (K := []) rfl
  obtain ⟨y111, hx112, hk⟩ := bindE hk
  obtain ⟨J113, hJ113⟩ : ∃ J : Act → World → Prop, ∀ a w, J a w ↔ (∃ (x93 : List M26) (p94 : Option Addr) (c95 : Nat) (d97 : Ch) (ih91 : IH), window_Window_Reach_2_r2 x3 y70 x4 x93 = some r ∧ Sees a 38 [(0, .pointer (some ⟨b2, 0, none⟩)), (6, .slice p94 x93.length c95)] ∧ St g w [bx b2 [.int .u64 x3, .int .u64 (if (if y70 < 6 then y70 else 6) > 5 then (if y70 < 6 then y70 else 6) else 5), .slice p5 x4.length c6] 78, d97, d8, F] ih91 ∧ Le ih ih91 ∧ OSl e26 ih91 p94 c95 x93 d97) := ⟨_, fun _ _ => Iff.rfl⟩
  refine c_draw (by kernel_rfl) (N := 14) rfl S72 J113 ?_ ?_
  · have hw := hw.drew
    have hS : S72 (Array.replicate 14 false) _ := SX_now hS72 (hw.vws [0, 1, 2]) (by kernel_rfl)
    refine d_pures (fuel := 11) kS72 hs hS [0, 1, 2] [0, 5, 22, 23, 24] [(0, .pointer (some ⟨b2, 0, none⟩)), (5, .int .u64 5), (22, .pointer (some ⟨b2, 0, none⟩)), (23, .pointer (some ⟨b2, 0, none⟩)), (24, .pointer (some ⟨b2, 2, none⟩))] (by kernel_rfl) fun a hs hS => ?_
    refine d_load (fuel := 10) kS72 hs hS 3 rfl (by kernel_rfl) (SX_box hS72 0 rfl (by kernel_rfl)) 2 (by kernel_rfl) (by kernel_rfl) (v := .slice p5 x4.length c6) (by kernel_rfl) fun a hs hS => ?_
    refine d_pures (fuel := 6) kS72 hs hS [4, 5, 6, 7] [0, 5, 22, 23, 24, 25, 26, 27, 28, 29] [(0, .pointer (some ⟨b2, 0, none⟩)), (5, .int .u64 5), (22, .pointer (some ⟨b2, 0, none⟩)), (23, .pointer (some ⟨b2, 0, none⟩)), (24, .pointer (some ⟨b2, 2, none⟩)), (25, .slice p5 x4.length c6), (26, .int .u64 5), (27, .pointer (some ⟨b2, 0, none⟩)), (28, .pointer (some ⟨b2, 0, none⟩)), (29, .pointer (some ⟨b2, 1, none⟩))] (by kernel_rfl) fun a hs hS => ?_
    refine d_load (fuel := 5) kS72 hs hS 8 rfl (by kernel_rfl) (SX_box hS72 0 rfl (by kernel_rfl)) 1 (by kernel_rfl) (by kernel_rfl) (v := .int .u64 (if (if y70 < 6 then y70 else 6) > 5 then (if y70 < 6 then y70 else 6) else 5)) (by kernel_rfl) fun a hs hS => ?_
    refine d_pures (fuel := 2) kS72 hs hS [9, 10, 11] [0, 5, 22, 23, 24, 25, 26, 27, 28, 29, 30, 31, 32, 33] [(0, .pointer (some ⟨b2, 0, none⟩)), (5, .int .u64 5), (22, .pointer (some ⟨b2, 0, none⟩)), (23, .pointer (some ⟨b2, 0, none⟩)), (24, .pointer (some ⟨b2, 2, none⟩)), (25, .slice p5 x4.length c6), (26, .int .u64 5), (27, .pointer (some ⟨b2, 0, none⟩)), (28, .pointer (some ⟨b2, 0, none⟩)), (29, .pointer (some ⟨b2, 1, none⟩)), (30, .int .u64 (if (if y70 < 6 then y70 else 6) > 5 then (if y70 < 6 then y70 else 6) else 5)), (31, .int .u64 5), (32, .int .u64 (IntKind.u64.wrap ((if (if y70 < 6 then y70 else 6) > 5 then (if y70 < 6 then y70 else 6) else 5) - 5))), (33, .int .i64 (IntKind.i64.wrap (IntKind.u64.wrap ((if (if y70 < 6 then y70 else 6) > 5 then (if y70 < 6 then y70 else 6) else 5) - 5))))] (by kernel_rfl) fun a hs hS => ?_
    refine d_all (fuel := 1) (rs := [12]) (by kernel_rfl) (by simp) (all1 ?_)
    obtain ⟨y114, h115, hx112⟩ := bindE hx112
    refine o_call hs rfl (by kernel_rfl) (by kernel_rfl) (update_Batch_s h115 h7.read (memF 1 rfl) ((hw.pick [0, 1, 2] (by kernel_rfl)).pack 0)) fun a w v hv hs => ?_
    obtain ⟨ih116, p118, c119, d121, rfl, hw, hle117, h120⟩ := hv
    replace hw := hw.unpack 1 rfl
    refine dg_next (SX_now hS72 ((hw.vws [1, 2, 3]).anti hle117) (by kernel_rfl)) fun hS => ?_
    refine d_pures (fuel := 0) kS72 hs hS [13] [0, 5, 22, 23, 24, 25, 26, 27, 28, 29, 30, 31, 32, 33, 34, 6] [(0, .pointer (some ⟨b2, 0, none⟩)), (5, .int .u64 5), (22, .pointer (some ⟨b2, 0, none⟩)), (23, .pointer (some ⟨b2, 0, none⟩)), (24, .pointer (some ⟨b2, 2, none⟩)), (25, .slice p5 x4.length c6), (26, .int .u64 5), (27, .pointer (some ⟨b2, 0, none⟩)), (28, .pointer (some ⟨b2, 0, none⟩)), (29, .pointer (some ⟨b2, 1, none⟩)), (30, .int .u64 (if (if y70 < 6 then y70 else 6) > 5 then (if y70 < 6 then y70 else 6) else 5)), (31, .int .u64 5), (32, .int .u64 (IntKind.u64.wrap ((if (if y70 < 6 then y70 else 6) > 5 then (if y70 < 6 then y70 else 6) else 5) - 5))), (33, .int .i64 (IntKind.i64.wrap (IntKind.u64.wrap ((if (if y70 < 6 then y70 else 6) > 5 then (if y70 < 6 then y70 else 6) else 5) - 5)))), (34, .slice p118 y114.length c119), (6, .slice p118 y114.length c119)] (by kernel_rfl) fun a hs hS => ?_
    refine d_done (by kernel_rfl) ?_
    obtain rfl := someE hx112
    exact (hJ113 _ _).2 ⟨y114, p118, c119, d121, ih116, hk, hs.cast [0, 6] (by kernel_rfl), hw.pick [1, 0, 2, 3] (by kernel_rfl), hle117, h120⟩
  intro a w hh
  obtain ⟨x93, p94, c95, d97, ih91, hk, hs, hw, hle92, h96⟩ := (hJ113 _ _).1 hh
  refine c_seq ?_
  refine c_region ?_
  refine pures hs 1 [6, 35] [(6, .slice p94 x93.length c95), (35, .pointer (some ⟨b2, 0, none⟩))] (by kernel_rfl) fun a hs => ?_
  obtain ⟨y105, h106, hk⟩ := bindE hk
  refine s_call hs (by kernel_rfl) (by kernel_rfl) (window_Window_trim_3_s h106 (h7.mono hle92) ((hw.pick [0, 2, 1, 3] (by kernel_rfl)).pack 2)) fun a w v hv hs => ?_
  obtain ⟨p107, c108, d110, rfl, hw, h109⟩ := hv
  replace hw := hw.unpack 2 rfl
  refine s_end ?_
  refine c_seq ?_
  refine c_region ?_
  refine pures hs 2 [4] [(4, .slice p94 x93.length c95)] (by kernel_rfl) fun a hs => ?_
  refine s_end ?_
  refine c_ret ?_
  obtain rfl := someE hk
  refine hQ _ _ (f_ret1 hs rfl (v := .slice p94 x93.length c95) (by kernel_rfl) ⟨ih91, p94, c95, d97, p107, c108, d110, rfl, hw.pick [2, 0, 1, 3] (by kernel_rfl), hle92, h96, h109⟩)
def window_Window_Done_2 (x4 : Int) : Option Int :=
  some x4
theorem window_Window_Done_2_s {x3 : Int} {x4 : Int} {x5 : List M26} {b2 : Nat} {p6 : Option Addr} {c7 : Nat} {d9 : Ch} {r : Int} (hk : window_Window_Done_2 x4 = some r) {g w : World} {F : Ch} {ih : IH} (h8 : OSl e26 ih p6 c7 x5 d9) (hw : St g w [bx b2 [.int .u64 x3, .int .u64 x4, .slice p6 x5.length c7] 78, d9, F] ih) :
    CallsR Tryz.prog 27 #[.pointer (some ⟨b2, 0, none⟩)] w fun v w' => v = .int .u64 r ∧ St g w' [bx b2 [.int .u64 x3, .int .u64 x4, .slice p6 x5.length c7] 78, d9, F] ih := by
  refine f_in (vs := [.pointer (some ⟨b2, 0, none⟩)]) Tryz.func27 rfl 9 rfl (by kernel_rfl) [(0, .pointer (some ⟨b2, 0, none⟩))] (by kernel_rfl) fun a Qf hQ hQn hs => ?_
  refine c_seq ?_
  refine c_region ?_
  refine pures hs 1 [0] [(0, .pointer (some ⟨b2, 0, none⟩))] (by kernel_rfl) fun a hs => ?_
  refine s_end ?_
  refine c_seq ?_
  refine c_seq ?_
  refine c_region ?_
  refine pures hs 2 [0, 4] [(0, .pointer (some ⟨b2, 0, none⟩)), (4, .bool false)] (by kernel_rfl) fun a hs => ?_
  refine s_end ?_
  refine c_condF hs (by kernel_rfl) (by kernel_rfl) ?_
  refine c_skip ?_
  refine c_seq ?_
  refine c_region ?_
  refine pures hs 3 [7] [(7, .pointer (some ⟨b2, 1, none⟩))] (by kernel_rfl) fun a hs => ?_
  refine s_load hs (hw.at_ 0 rfl) 1 (by kernel_rfl) (by kernel_rfl) (v := .int .u64 x4) (by kernel_rfl) fun a hs => ?_
  refine pures hs 1 [2] [(2, .int .u64 x4)] (by kernel_rfl) fun a hs => ?_
  refine s_end ?_
  refine c_ret ?_
  obtain rfl := someE hk
  refine hQ _ _ (f_ret1 hs rfl (v := .int .u64 x4) (by kernel_rfl) ⟨rfl, hw.pick [0, 1, 2] (by kernel_rfl)⟩)
def window_Window_Dirty_2 (x3 : Int) (x4 : Int) (x5 : List M26) : Option Int :=
  (window_Window_End_4 x3 x5).bind fun y25 =>
  (window_Window_Done_2 x4).bind fun y27 =>
  some (IntKind.i64.wrap (IntKind.u64.wrap (y25 - y27)))
theorem window_Window_Dirty_2_s {x3 : Int} {x4 : Int} {x5 : List M26} {b2 : Nat} {p6 : Option Addr} {c7 : Nat} {d9 : Ch} {r : Int} (hk : window_Window_Dirty_2 x3 x4 x5 = some r) {g w : World} {F : Ch} {ih : IH} (h8 : OSl e26 ih p6 c7 x5 d9) (hw : St g w [bx b2 [.int .u64 x3, .int .u64 x4, .slice p6 x5.length c7] 78, d9, F] ih) :
    CallsR Tryz.prog 29 #[.pointer (some ⟨b2, 0, none⟩)] w fun v w' => v = .int .i64 r ∧ St g w' [bx b2 [.int .u64 x3, .int .u64 x4, .slice p6 x5.length c7] 78, d9, F] ih := by
  refine f_in (vs := [.pointer (some ⟨b2, 0, none⟩)]) Tryz.func29 rfl 9 rfl (by kernel_rfl) [(0, .pointer (some ⟨b2, 0, none⟩))] (by kernel_rfl) fun a Qf hQ hQn hs => ?_
  refine c_seq ?_
  refine c_region ?_
  refine pures hs 1 [0] [(0, .pointer (some ⟨b2, 0, none⟩))] (by kernel_rfl) fun a hs => ?_
  refine s_end ?_
  refine c_seq ?_
  refine c_region ?_
  refine pures hs 1 [0, 3] [(0, .pointer (some ⟨b2, 0, none⟩)), (3, .pointer (some ⟨b2, 0, none⟩))] (by kernel_rfl) fun a hs => ?_
  obtain ⟨y25, h26, hk⟩ := bindE hk
  refine s_call hs (by kernel_rfl) (by kernel_rfl) (window_Window_End_4_s (x4 := x4) h26 h8 ((hw.pick [0, 1, 2] (by kernel_rfl)).pack 2)) fun a w v hv hs => ?_
  obtain ⟨rfl, hw⟩ := hv
  replace hw := hw.unpack 2 rfl
  refine pures hs 1 [4, 5] [(4, .int .u64 y25), (5, .pointer (some ⟨b2, 0, none⟩))] (by kernel_rfl) fun a hs => ?_
  obtain ⟨y27, h28, hk⟩ := bindE hk
  refine s_call hs (by kernel_rfl) (by kernel_rfl) (window_Window_Done_2_s (x3 := x3) (x5 := x5) h28 h8 ((hw.pick [0, 1, 2] (by kernel_rfl)).pack 2)) fun a w v hv hs => ?_
  obtain ⟨rfl, hw⟩ := hv
  replace hw := hw.unpack 2 rfl
  refine pures hs 3 [2] [(2, .int .i64 (IntKind.i64.wrap (IntKind.u64.wrap (y25 - y27))))] (by kernel_rfl) fun a hs => ?_
  refine s_end ?_
  refine c_ret ?_
  obtain rfl := someE hk
  refine hQ _ _ (f_ret1 hs rfl (v := .int .i64 (IntKind.i64.wrap (IntKind.u64.wrap (y25 - y27)))) (by kernel_rfl) ⟨rfl, hw.pick [0, 1, 2] (by kernel_rfl)⟩)
def catenarylaw20_awake_r2 (x246 : Bool) : Option Bool :=
  some x246
def catenarylaw20_awake (k : Nat) : Option Bool :=
  (window_New).bind fun y143 =>
  (window_Window_Add_2 k y143).bind fun y174 =>
  (window_Window_Add_3 k y174.2.1 y174.2.2).bind fun y184 =>
  (window_Window_Reach_2 k y184.2.1 y184.2.2).bind fun y205 =>
  (if (y174.1 == 0) = true then (
      if (y184.1 == 0) = true then (
        if ((y205.1.length : Int) == 1) = true then (
          (ix y205.1 0).bind fun x253 =>
          if (x253.f0 == 6) = true then (
            (window_Window_Dirty_2 y205.2.1 y205.2.2.1 y205.2.2.2).bind fun y262 =>
            some (y262 == 1))
          else some false)
        else some false)
      else some false)
    else some false : Option Bool).bind fun s264 => catenarylaw20_awake_r2 s264
theorem catenarylaw20_awake_s {k : Nat} {r : Bool} (hk : catenarylaw20_awake k = some r) {g w : World} {F : Ch} {ih : IH} (hG : Glob 0 gl0 110 ih) (hw : St g w [F] ih) :
    CallsR Tryz.prog 31 #[] w fun v w' => ∃ (ih' : IH), v = .bool r ∧ St g w' [F] ih' ∧ Le ih ih' := by
  refine f_in (vs := []) Tryz.func31 rfl 37 rfl (by kernel_rfl) [] (by kernel_rfl) fun a Qf hQ hQn hs => ?_
  refine c_seq ?_
  refine c_region ?_
  refine pures hs 1 [] [] (by kernel_rfl) fun a hs => ?_
  refine s_end ?_
  refine c_seq ?_
  refine c_region ?_
  obtain ⟨y143, h144, hk⟩ := bindE hk
  refine s_call hs (by kernel_rfl) (by kernel_rfl) (window_New_s h144 ((hw.pick [0] (by kernel_rfl)).pack 0)) fun a w v hv hs => ?_
  obtain ⟨b145, p147, c148, d150, rfl, hw, h149⟩ := hv
  replace hw := hw.unpack 2 rfl
  refine pures hs 1 [1] [(1, .pointer (some ⟨b145, 0, none⟩))] (by kernel_rfl) fun a hs => ?_
  refine s_end ?_
  refine c_seq ?_
  refine c_region ?_
  refine pures hs 1 [1, 6] [(1, .pointer (some ⟨b145, 0, none⟩)), (6, .pointer (some ⟨b145, 0, none⟩))] (by kernel_rfl) fun a hs => ?_
  have h173 : catenarylaw20_one = some () := rfl
  refine s_call hs (by kernel_rfl) (by kernel_rfl) (catenarylaw20_one_s h173 ((hw.pick [0, 1, 2] (by kernel_rfl)).pack 0)) fun a w v hv hs => ?_
  obtain ⟨rfl, hw⟩ := hv
  replace hw := hw.unpack 0 rfl
  obtain ⟨y174, h175, hk⟩ := bindE hk
  refine s_call hs (by kernel_rfl) (by kernel_rfl) (window_Window_Add_2_s h175 h149 (hG.mono (Le.refl _)) ((hw.pick [0, 1, 2] (by kernel_rfl)).pack 2)) fun a w v hv hs => ?_
  obtain ⟨ih176, p178, c179, d181, rfl, hw, hle177, h180⟩ := hv
  replace hw := hw.unpack 2 rfl
  refine pures hs 1 [1, 8, 9] [(1, .pointer (some ⟨b145, 0, none⟩)), (8, .int .i64 y174.1), (9, .pointer (some ⟨b145, 0, none⟩))] (by kernel_rfl) fun a hs => ?_
  have h183 : catenarylaw20_one_2 = some () := rfl
  refine s_call hs (by kernel_rfl) (by kernel_rfl) (catenarylaw20_one_2_s h183 ((hw.pick [0, 1, 2] (by kernel_rfl)).pack 0)) fun a w v hv hs => ?_
  obtain ⟨rfl, hw⟩ := hv
  replace hw := hw.unpack 0 rfl
  obtain ⟨y184, h185, hk⟩ := bindE hk
  refine s_call hs (by kernel_rfl) (by kernel_rfl) (window_Window_Add_3_s h185 h180 (hG.mono hle177) ((hw.pick [0, 1, 2] (by kernel_rfl)).pack 2)) fun a w v hv hs => ?_
  obtain ⟨ih186, p188, c189, d191, rfl, hw, hle187, h190⟩ := hv
  replace hw := hw.unpack 2 rfl
  refine pures hs 2 [1, 2, 3] [(1, .pointer (some ⟨b145, 0, none⟩)), (2, .int .i64 y174.1), (3, .int .i64 y184.1)] (by kernel_rfl) fun a hs => ?_
  refine s_end ?_
  refine c_seq ?_
  refine c_region ?_
  refine pures hs 1 [1, 2, 3, 12] [(1, .pointer (some ⟨b145, 0, none⟩)), (2, .int .i64 y174.1), (3, .int .i64 y184.1), (12, .pointer (some ⟨b145, 0, none⟩))] (by kernel_rfl) fun a hs => ?_
  obtain ⟨y205, h206, hk⟩ := bindE hk
  refine s_call hs (by kernel_rfl) (by kernel_rfl) (window_Window_Reach_2_s h206 h190 ((hw.pick [0, 1, 2] (by kernel_rfl)).pack 2)) fun a w v hv hs => ?_
  obtain ⟨ih207, p209, c210, d212, p214, c215, d217, rfl, hw, hle208, h211, h216⟩ := hv
  replace hw := hw.unpack 3 rfl
  refine pures hs 1 [1, 2, 3, 4] [(1, .pointer (some ⟨b145, 0, none⟩)), (2, .int .i64 y174.1), (3, .int .i64 y184.1), (4, .slice p209 y205.1.length c210)] (by kernel_rfl) fun a hs => ?_
  refine s_end ?_
  refine c_seq ?_
  obtain ⟨y247, hx248, hk⟩ := bindE hk
  obtain ⟨J249, hJ249⟩ : ∃ J : Act → World → Prop, ∀ a w, J a w ↔ (∃ (x246 : Bool), catenarylaw20_awake_r2 x246 = some r ∧ Sees a 37 [(0, .bool x246)] ∧ St g w [F] ih207) := ⟨_, fun _ _ => Iff.rfl⟩
  refine c_regJ J249 ?_ ?_
  · refine pures hs 3 [1, 3, 4, 16] [(1, .pointer (some ⟨b145, 0, none⟩)), (3, .int .i64 y184.1), (4, .slice p209 y205.1.length c210), (16, .bool (y174.1 == 0))] (by kernel_rfl) fun a hs => ?_
    rcases ifbE hx248 with ⟨h250, hx248⟩ | ⟨h250, hx248⟩
    · replace hs := hs.altB 16 true (by kernel_rfl) h250
      refine pures hs 4 [1, 4, 20] [(1, .pointer (some ⟨b145, 0, none⟩)), (4, .slice p209 y205.1.length c210), (20, .bool (y184.1 == 0))] (by kernel_rfl) fun a hs => ?_
      rcases ifbE hx248 with ⟨h251, hx248⟩ | ⟨h251, hx248⟩
      · replace hs := hs.altB 20 true (by kernel_rfl) h251
        refine pures hs 5 [1, 4, 25] [(1, .pointer (some ⟨b145, 0, none⟩)), (4, .slice p209 y205.1.length c210), (25, .bool ((y205.1.length : Int) == 1))] (by kernel_rfl) fun a hs => ?_
        rcases ifbE hx248 with ⟨h252, hx248⟩ | ⟨h252, hx248⟩
        · replace hs := hs.altB 25 true (by kernel_rfl) h252
          refine pures hs 1 [1, 25, 26] [(1, .pointer (some ⟨b145, 0, none⟩)), (25, .bool true), (26, .slice p209 y205.1.length c210)] (by kernel_rfl) fun a hs => ?_
          obtain ⟨x253, h254, hx248⟩ := bindE hx248
          refine s_indexO hs h211 (by kernel_rfl) (by kernel_rfl) (k := .i64) (by kernel_rfl) 26 (by kernel_rfl) (by kernel_rfl) h254 fun a r255 cs henc at256 h260 hs => ?_
          obtain ⟨p257, c258, rfl, h259⟩ := henc
          refine pures hs 1 [1, 25, 28] [(1, .pointer (some ⟨b145, 0, none⟩)), (25, .bool true), (28, .pointer (some r255))] (by kernel_rfl) fun a hs => ?_
          refine s_load hs (at256 _ ((hw.vw 0 rfl).anti (Le.refl _))) 0 (by kernel_rfl) (by kernel_rfl) (v := .int .u64 x253.f0) (by kernel_rfl) fun a hs => ?_
          refine pures hs 3 [1, 32] [(1, .pointer (some ⟨b145, 0, none⟩)), (32, .bool (x253.f0 == 6))] (by kernel_rfl) fun a hs => ?_
          rcases ifbE hx248 with ⟨h261, hx248⟩ | ⟨h261, hx248⟩
          · replace hs := hs.altB 32 true (by kernel_rfl) h261
            refine pures hs 1 [32, 33] [(32, .bool true), (33, .pointer (some ⟨b145, 0, none⟩))] (by kernel_rfl) fun a hs => ?_
            obtain ⟨y262, h263, hx248⟩ := bindE hx248
            refine s_call hs (by kernel_rfl) (by kernel_rfl) (window_Window_Dirty_2_s h263 h216 ((hw.pick [1, 2, 3] (by kernel_rfl)).pack 2)) fun a w v hv hs => ?_
            obtain ⟨rfl, hw⟩ := hv
            replace hw := hw.unpack 2 rfl
            refine pures hs 3 [0] [(0, .bool (y262 == 1))] (by kernel_rfl) fun a hs => ?_
            refine s_end ?_
            obtain rfl := someE hx248
            exact (hJ249 _ _).2 ⟨(y262 == 1), hk, hs.cast [0] (by kernel_rfl), hw.pick [2] (by kernel_rfl)⟩
          replace hs := hs.altB 32 false (by kernel_rfl) h261
          refine pures hs 5 [0] [(0, .bool false)] (by kernel_rfl) fun a hs => ?_
          refine s_end ?_
          obtain rfl := someE hx248
          exact (hJ249 _ _).2 ⟨false, hk, hs.cast [0] (by kernel_rfl), hw.pick [3] (by kernel_rfl)⟩
        replace hs := hs.altB 25 false (by kernel_rfl) h252
        refine pures hs 12 [0] [(0, .bool false)] (by kernel_rfl) fun a hs => ?_
        refine s_end ?_
        obtain rfl := someE hx248
        exact (hJ249 _ _).2 ⟨false, hk, hs.cast [0] (by kernel_rfl), hw.pick [3] (by kernel_rfl)⟩
      replace hs := hs.altB 20 false (by kernel_rfl) h251
      refine pures hs 17 [0] [(0, .bool false)] (by kernel_rfl) fun a hs => ?_
      refine s_end ?_
      obtain rfl := someE hx248
      exact (hJ249 _ _).2 ⟨false, hk, hs.cast [0] (by kernel_rfl), hw.pick [3] (by kernel_rfl)⟩
    replace hs := hs.altB 16 false (by kernel_rfl) h250
    refine pures hs 21 [0] [(0, .bool false)] (by kernel_rfl) fun a hs => ?_
    refine s_end ?_
    obtain rfl := someE hx248
    exact (hJ249 _ _).2 ⟨false, hk, hs.cast [0] (by kernel_rfl), hw.pick [3] (by kernel_rfl)⟩
  intro a w hh
  obtain ⟨x246, hk, hs, hw⟩ := (hJ249 _ _).1 hh
  refine c_ret ?_
  obtain rfl := someE hk
  refine hQ _ _ (f_ret1 hs rfl (v := .bool x246) (by kernel_rfl) ⟨ih207, rfl, hw.pick [0] (by kernel_rfl), ((hle177.trans hle187).trans hle208)⟩)
end Go.Proofs.YtfpllbnljlbepaaGreatDoor.Sx
