/- The walk of UpdateChecks: each Go function that it calls, as a plain function, and the proof that the call computes it. Printed by the program gen.py.
   Conditions: those that each theorem states ahead of its colon, and no other. -/
import Derived.Test.YtfpllbnljlbepaaGreatDoorWUpdateChecks1
namespace Go.Proofs.YtfpllbnljlbepaaGreatDoor.Sx
open Go Go.Proofs
set_option maxRecDepth 100000
set_option linter.unusedVariables false
def letter_update_2 (x1 : M26) : Option Bool :=
  if ((!(true == (x1.f0 == 0))) || ((decide (x1.f1 < 1)) || ((decide (x1.f1 > 6)) || (decide (x1.f2 < 1))))) = true then some false
  else if (bif (x1.f3 == 2) then ((x1.f5 != 0) || ((x1.f3 != 2) && (x1.f3 != 3))) else ((x1.f3 != 2) && (x1.f3 != 3))) = true then some false
  else some (decide ((x1.f6.length : Int) ≤ 2048))
theorem letter_update_2_s {x1 : M26} {p2 : Option Addr} {c3 : Nat} {r : Bool} (hk : letter_update_2 x1 = some r) {g w : World} {F : Ch} {ih : IH} (h4 : RSl e5 ih [] p2 c3 x1.f6) (hw : St g w [F] ih) :
    CallsR Tryz.prog 151 #[.agg #[.int .u64 x1.f0, .int .i64 x1.f1, .int .u64 x1.f2, .int .i64 x1.f3, .int .u32 x1.f4, .int .u64 x1.f5, .slice p2 x1.f6.length c3], .bool true] w fun v w' => v = .bool r ∧ St g w' [F] ih := by
  refine f_in (vs := [.agg #[.int .u64 x1.f0, .int .i64 x1.f1, .int .u64 x1.f2, .int .i64 x1.f3, .int .u32 x1.f4, .int .u64 x1.f5, .slice p2 x1.f6.length c3], .bool true]) Tryz.func151 rfl 49 rfl (by kernel_rfl) [(0, .agg #[.int .u64 x1.f0, .int .i64 x1.f1, .int .u64 x1.f2, .int .i64 x1.f3, .int .u32 x1.f4, .int .u64 x1.f5, .slice p2 x1.f6.length c3]), (1, .bool true)] (by kernel_rfl) fun a Qf hQ hQn hs => ?_
  refine c_seq ?_
  refine c_region ?_
  refine s_new hs hw [.int .u64 x1.f0, .int .i64 x1.f1, .int .u64 x1.f2, .int .i64 x1.f3, .int .u32 x1.f4, .int .u64 x1.f5, .slice p2 x1.f6.length c3] 26 (fun b => .pointer (some ⟨b, 0, none⟩)) (by kernel_rfl) (fun _ => by kernel_rfl) fun a w b40 hs hw => ?_
  refine pures hs 1 [1, 2] [(1, .bool true), (2, .pointer (some ⟨b40, 0, none⟩))] (by kernel_rfl) fun a hs => ?_
  refine s_end ?_
  refine c_seq ?_
  refine c_block ?_
  refine c_seq ?_
  obtain ⟨J49, hJ49⟩ : ∃ J : Act → World → Prop, ∀ a w, J a w ↔ (Sees a 49 [(2, .pointer (some ⟨b40, 0, none⟩)), (5, .bool ((!(true == (x1.f0 == 0))) || ((decide (x1.f1 < 1)) || ((decide (x1.f1 > 6)) || (decide (x1.f2 < 1))))))] ∧ St g w [bx b40 [.int .u64 x1.f0, .int .i64 x1.f1, .int .u64 x1.f2, .int .i64 x1.f3, .int .u32 x1.f4, .int .u64 x1.f5, .slice p2 x1.f6.length c3] 26, F] ih) := ⟨_, fun _ _ => Iff.rfl⟩
  refine c_regJ J49 ?_ ?_
  · refine pures hs 2 [2, 6, 7] [(2, .pointer (some ⟨b40, 0, none⟩)), (6, .bool true), (7, .pointer (some ⟨b40, 0, none⟩))] (by kernel_rfl) fun a hs => ?_
    refine s_load hs (hw.at_ 0 rfl) 0 (by kernel_rfl) (by kernel_rfl) (v := .int .u64 x1.f0) (by kernel_rfl) fun a hs => ?_
    refine pures hs 3 [2, 11] [(2, .pointer (some ⟨b40, 0, none⟩)), (11, .bool (!(true == (x1.f0 == 0))))] (by kernel_rfl) fun a hs => ?_
    rcases boolE (!(true == (x1.f0 == 0))) with h50 | h50
    · replace hs := hs.altB 11 true (by kernel_rfl) h50
      refine pures hs 15 [2, 5] [(2, .pointer (some ⟨b40, 0, none⟩)), (5, .bool true)] (by kernel_rfl) fun a hs => ?_
      refine s_end ?_
      exact (hJ49 _ _).2 ⟨(hs.altB 5 ((!(true == (x1.f0 == 0))) || ((decide (x1.f1 < 1)) || ((decide (x1.f1 > 6)) || (decide (x1.f2 < 1))))) (by kernel_rfl) (by rw [h50] <;> rfl)).cast [2, 5] (by kernel_rfl), hw.pick [0, 1] (by kernel_rfl)⟩
    replace hs := hs.altB 11 false (by kernel_rfl) h50
    refine pures hs 1 [2, 11, 12] [(2, .pointer (some ⟨b40, 0, none⟩)), (11, .bool false), (12, .pointer (some ⟨b40, 1, none⟩))] (by kernel_rfl) fun a hs => ?_
    refine s_load hs (hw.at_ 0 rfl) 1 (by kernel_rfl) (by kernel_rfl) (v := .int .i64 x1.f1) (by kernel_rfl) fun a hs => ?_
    refine pures hs 3 [2, 16] [(2, .pointer (some ⟨b40, 0, none⟩)), (16, .bool (decide (x1.f1 < 1)))] (by kernel_rfl) fun a hs => ?_
    rcases boolE (decide (x1.f1 < 1)) with h51 | h51
    · replace hs := hs.altB 16 true (by kernel_rfl) h51
      refine pures hs 10 [2, 5] [(2, .pointer (some ⟨b40, 0, none⟩)), (5, .bool true)] (by kernel_rfl) fun a hs => ?_
      refine s_end ?_
      exact (hJ49 _ _).2 ⟨(hs.altB 5 ((!(true == (x1.f0 == 0))) || ((decide (x1.f1 < 1)) || ((decide (x1.f1 > 6)) || (decide (x1.f2 < 1))))) (by kernel_rfl) (by rw [h50, h51] <;> rfl)).cast [2, 5] (by kernel_rfl), hw.pick [0, 1] (by kernel_rfl)⟩
    replace hs := hs.altB 16 false (by kernel_rfl) h51
    refine pures hs 1 [2, 16, 17] [(2, .pointer (some ⟨b40, 0, none⟩)), (16, .bool false), (17, .pointer (some ⟨b40, 1, none⟩))] (by kernel_rfl) fun a hs => ?_
    refine s_load hs (hw.at_ 0 rfl) 1 (by kernel_rfl) (by kernel_rfl) (v := .int .i64 x1.f1) (by kernel_rfl) fun a hs => ?_
    refine pures hs 3 [2, 21] [(2, .pointer (some ⟨b40, 0, none⟩)), (21, .bool (decide (x1.f1 > 6)))] (by kernel_rfl) fun a hs => ?_
    rcases boolE (decide (x1.f1 > 6)) with h52 | h52
    · replace hs := hs.altB 21 true (by kernel_rfl) h52
      refine pures hs 5 [2, 5] [(2, .pointer (some ⟨b40, 0, none⟩)), (5, .bool true)] (by kernel_rfl) fun a hs => ?_
      refine s_end ?_
      exact (hJ49 _ _).2 ⟨(hs.altB 5 ((!(true == (x1.f0 == 0))) || ((decide (x1.f1 < 1)) || ((decide (x1.f1 > 6)) || (decide (x1.f2 < 1))))) (by kernel_rfl) (by rw [h50, h51, h52] <;> rfl)).cast [2, 5] (by kernel_rfl), hw.pick [0, 1] (by kernel_rfl)⟩
    replace hs := hs.altB 21 false (by kernel_rfl) h52
    refine pures hs 1 [2, 21, 22] [(2, .pointer (some ⟨b40, 0, none⟩)), (21, .bool false), (22, .pointer (some ⟨b40, 2, none⟩))] (by kernel_rfl) fun a hs => ?_
    refine s_load hs (hw.at_ 0 rfl) 2 (by kernel_rfl) (by kernel_rfl) (v := .int .u64 x1.f2) (by kernel_rfl) fun a hs => ?_
    refine pures hs 3 [2, 5] [(2, .pointer (some ⟨b40, 0, none⟩)), (5, .bool (decide (x1.f2 < 1)))] (by kernel_rfl) fun a hs => ?_
    refine s_end ?_
    exact (hJ49 _ _).2 ⟨(hs.altB 5 ((!(true == (x1.f0 == 0))) || ((decide (x1.f1 < 1)) || ((decide (x1.f1 > 6)) || (decide (x1.f2 < 1))))) (by kernel_rfl) (by rw [h50, h51, h52] <;> rfl)).cast [2, 5] (by kernel_rfl), hw.pick [0, 1] (by kernel_rfl)⟩
  intro a w hh
  obtain ⟨hs, hw⟩ := (hJ49 _ _).1 hh
  rcases ifbE hk with ⟨h53, hk⟩ | ⟨h53, hk⟩
  · refine c_cond1 hs (by kernel_rfl) (t := ((!(true == (x1.f0 == 0))) || ((decide (x1.f1 < 1)) || ((decide (x1.f1 > 6)) || (decide (x1.f2 < 1)))))) (by kernel_rfl) h53 ?_
    refine c_seq ?_
    refine c_region ?_
    refine pures hs 1 [4] [(4, .bool false)] (by kernel_rfl) fun a hs => ?_
    refine s_end ?_
    refine c_ret ?_
    obtain rfl := someE hk
    refine hQ _ _ (f_ret1 hs rfl (v := .bool false) (by kernel_rfl) ⟨rfl, hw.pick [1] (by kernel_rfl)⟩)
  refine c_cond0 hs (by kernel_rfl) (t := ((!(true == (x1.f0 == 0))) || ((decide (x1.f1 < 1)) || ((decide (x1.f1 > 6)) || (decide (x1.f2 < 1)))))) (by kernel_rfl) h53 ?_
  refine c_seq ?_
  obtain ⟨J63, hJ63⟩ : ∃ J : Act → World → Prop, ∀ a w, J a w ↔ (Sees a 49 [(2, .pointer (some ⟨b40, 0, none⟩)), (26, .bool (bif (x1.f3 == 2) then ((x1.f5 != 0) || ((x1.f3 != 2) && (x1.f3 != 3))) else ((x1.f3 != 2) && (x1.f3 != 3))))] ∧ St g w [bx b40 [.int .u64 x1.f0, .int .i64 x1.f1, .int .u64 x1.f2, .int .i64 x1.f3, .int .u32 x1.f4, .int .u64 x1.f5, .slice p2 x1.f6.length c3] 26, F] ih) := ⟨_, fun _ _ => Iff.rfl⟩
  refine c_regJ J63 ?_ ?_
  · refine pures hs 1 [2, 27] [(2, .pointer (some ⟨b40, 0, none⟩)), (27, .pointer (some ⟨b40, 3, none⟩))] (by kernel_rfl) fun a hs => ?_
    refine s_load hs (hw.at_ 0 rfl) 3 (by kernel_rfl) (by kernel_rfl) (v := .int .i64 x1.f3) (by kernel_rfl) fun a hs => ?_
    refine pures hs 2 [2, 30] [(2, .pointer (some ⟨b40, 0, none⟩)), (30, .bool (x1.f3 == 2))] (by kernel_rfl) fun a hs => ?_
    rcases boolE (x1.f3 == 2) with h64 | h64
    · replace hs := hs.altB 30 true (by kernel_rfl) h64
      refine pures hs 1 [2, 30, 31] [(2, .pointer (some ⟨b40, 0, none⟩)), (30, .bool true), (31, .pointer (some ⟨b40, 5, none⟩))] (by kernel_rfl) fun a hs => ?_
      refine s_load hs (hw.at_ 0 rfl) 5 (by kernel_rfl) (by kernel_rfl) (v := .int .u64 x1.f5) (by kernel_rfl) fun a hs => ?_
      refine pures hs 3 [2, 35] [(2, .pointer (some ⟨b40, 0, none⟩)), (35, .bool (x1.f5 != 0))] (by kernel_rfl) fun a hs => ?_
      rcases boolE (x1.f5 != 0) with h65 | h65
      · replace hs := hs.altB 35 true (by kernel_rfl) h65
        refine pures hs 10 [2, 26] [(2, .pointer (some ⟨b40, 0, none⟩)), (26, .bool true)] (by kernel_rfl) fun a hs => ?_
        refine s_end ?_
        exact (hJ63 _ _).2 ⟨(hs.altB 26 (bif (x1.f3 == 2) then ((x1.f5 != 0) || ((x1.f3 != 2) && (x1.f3 != 3))) else ((x1.f3 != 2) && (x1.f3 != 3))) (by kernel_rfl) (by rw [h64, h65] <;> rfl)).cast [2, 26] (by kernel_rfl), hw.pick [0, 1] (by kernel_rfl)⟩
      replace hs := hs.altB 35 false (by kernel_rfl) h65
      refine pures hs 1 [2, 35, 36] [(2, .pointer (some ⟨b40, 0, none⟩)), (35, .bool false), (36, .pointer (some ⟨b40, 3, none⟩))] (by kernel_rfl) fun a hs => ?_
      refine s_load hs (hw.at_ 0 rfl) 3 (by kernel_rfl) (by kernel_rfl) (v := .int .i64 x1.f3) (by kernel_rfl) fun a hs => ?_
      refine pures hs 2 [2, 35, 39] [(2, .pointer (some ⟨b40, 0, none⟩)), (35, .bool false), (39, .bool (x1.f3 != 2))] (by kernel_rfl) fun a hs => ?_
      rcases boolE (x1.f3 != 2) with h66 | h66
      · replace hs := hs.altB 39 true (by kernel_rfl) h66
        refine pures hs 1 [2, 35, 39, 40] [(2, .pointer (some ⟨b40, 0, none⟩)), (35, .bool false), (39, .bool true), (40, .pointer (some ⟨b40, 3, none⟩))] (by kernel_rfl) fun a hs => ?_
        refine s_load hs (hw.at_ 0 rfl) 3 (by kernel_rfl) (by kernel_rfl) (v := .int .i64 x1.f3) (by kernel_rfl) fun a hs => ?_
        refine pures hs 4 [2, 26] [(2, .pointer (some ⟨b40, 0, none⟩)), (26, .bool (x1.f3 != 3))] (by kernel_rfl) fun a hs => ?_
        refine s_end ?_
        exact (hJ63 _ _).2 ⟨(hs.altB 26 (bif (x1.f3 == 2) then ((x1.f5 != 0) || ((x1.f3 != 2) && (x1.f3 != 3))) else ((x1.f3 != 2) && (x1.f3 != 3))) (by kernel_rfl) (by rw [h64, h65, h66] <;> rfl)).cast [2, 26] (by kernel_rfl), hw.pick [0, 1] (by kernel_rfl)⟩
      replace hs := hs.altB 39 false (by kernel_rfl) h66
      refine pures hs 6 [2, 26] [(2, .pointer (some ⟨b40, 0, none⟩)), (26, .bool false)] (by kernel_rfl) fun a hs => ?_
      refine s_end ?_
      exact (hJ63 _ _).2 ⟨(hs.altB 26 (bif (x1.f3 == 2) then ((x1.f5 != 0) || ((x1.f3 != 2) && (x1.f3 != 3))) else ((x1.f3 != 2) && (x1.f3 != 3))) (by kernel_rfl) (by rw [h64, h65, h66] <;> rfl)).cast [2, 26] (by kernel_rfl), hw.pick [0, 1] (by kernel_rfl)⟩
    replace hs := hs.altB 30 false (by kernel_rfl) h64
    refine pures hs 6 [2, 35, 36] [(2, .pointer (some ⟨b40, 0, none⟩)), (35, .bool false), (36, .pointer (some ⟨b40, 3, none⟩))] (by kernel_rfl) fun a hs => ?_
    refine s_load hs (hw.at_ 0 rfl) 3 (by kernel_rfl) (by kernel_rfl) (v := .int .i64 x1.f3) (by kernel_rfl) fun a hs => ?_
    refine pures hs 2 [2, 35, 39] [(2, .pointer (some ⟨b40, 0, none⟩)), (35, .bool false), (39, .bool (x1.f3 != 2))] (by kernel_rfl) fun a hs => ?_
    rcases boolE (x1.f3 != 2) with h67 | h67
    · replace hs := hs.altB 39 true (by kernel_rfl) h67
      refine pures hs 1 [2, 35, 39, 40] [(2, .pointer (some ⟨b40, 0, none⟩)), (35, .bool false), (39, .bool true), (40, .pointer (some ⟨b40, 3, none⟩))] (by kernel_rfl) fun a hs => ?_
      refine s_load hs (hw.at_ 0 rfl) 3 (by kernel_rfl) (by kernel_rfl) (v := .int .i64 x1.f3) (by kernel_rfl) fun a hs => ?_
      refine pures hs 4 [2, 26] [(2, .pointer (some ⟨b40, 0, none⟩)), (26, .bool (x1.f3 != 3))] (by kernel_rfl) fun a hs => ?_
      refine s_end ?_
      exact (hJ63 _ _).2 ⟨(hs.altB 26 (bif (x1.f3 == 2) then ((x1.f5 != 0) || ((x1.f3 != 2) && (x1.f3 != 3))) else ((x1.f3 != 2) && (x1.f3 != 3))) (by kernel_rfl) (by rw [h64, h67] <;> rfl)).cast [2, 26] (by kernel_rfl), hw.pick [0, 1] (by kernel_rfl)⟩
    replace hs := hs.altB 39 false (by kernel_rfl) h67
    refine pures hs 6 [2, 26] [(2, .pointer (some ⟨b40, 0, none⟩)), (26, .bool false)] (by kernel_rfl) fun a hs => ?_
    refine s_end ?_
    exact (hJ63 _ _).2 ⟨(hs.altB 26 (bif (x1.f3 == 2) then ((x1.f5 != 0) || ((x1.f3 != 2) && (x1.f3 != 3))) else ((x1.f3 != 2) && (x1.f3 != 3))) (by kernel_rfl) (by rw [h64, h67] <;> rfl)).cast [2, 26] (by kernel_rfl), hw.pick [0, 1] (by kernel_rfl)⟩
  intro a w hh
  obtain ⟨hs, hw⟩ := (hJ63 _ _).1 hh
  rcases ifbE hk with ⟨h68, hk⟩ | ⟨h68, hk⟩
  · refine c_cond1 hs (by kernel_rfl) (t := (bif (x1.f3 == 2) then ((x1.f5 != 0) || ((x1.f3 != 2) && (x1.f3 != 3))) else ((x1.f3 != 2) && (x1.f3 != 3)))) (by kernel_rfl) h68 ?_
    refine c_seq ?_
    refine c_region ?_
    refine pures hs 1 [4] [(4, .bool false)] (by kernel_rfl) fun a hs => ?_
    refine s_end ?_
    refine c_ret ?_
    obtain rfl := someE hk
    refine hQ _ _ (f_ret1 hs rfl (v := .bool false) (by kernel_rfl) ⟨rfl, hw.pick [1] (by kernel_rfl)⟩)
  refine c_cond0 hs (by kernel_rfl) (t := (bif (x1.f3 == 2) then ((x1.f5 != 0) || ((x1.f3 != 2) && (x1.f3 != 3))) else ((x1.f3 != 2) && (x1.f3 != 3)))) (by kernel_rfl) h68 ?_
  refine c_skip ?_
  refine c_seq ?_
  refine c_region ?_
  refine pures hs 1 [45] [(45, .pointer (some ⟨b40, 6, none⟩))] (by kernel_rfl) fun a hs => ?_
  refine s_load hs (hw.at_ 0 rfl) 6 (by kernel_rfl) (by kernel_rfl) (v := .slice p2 x1.f6.length c3) (by kernel_rfl) fun a hs => ?_
  refine pures hs 3 [4] [(4, .bool (decide ((x1.f6.length : Int) ≤ 2048)))] (by kernel_rfl) fun a hs => ?_
  refine s_end ?_
  refine c_ret ?_
  obtain rfl := someE hk
  refine hQ _ _ (f_ret1 hs rfl (v := .bool (decide ((x1.f6.length : Int) ≤ 2048))) (by kernel_rfl) ⟨rfl, hw.pick [1] (by kernel_rfl)⟩)
def letter_updates_1_2 (x1 : M26) : Option Bool :=
  (letter_update_2 x1).bind fun y23 =>
  some (!y23)
theorem letter_updates_1_2_s {x1 : M26} {p2 : Option Addr} {c3 : Nat} {b6 : Nat} {r : Bool} (hk : letter_updates_1_2 x1 = some r) {g w : World} {F : Ch} {ih : IH} (h4 : RSl e5 ih [] p2 c3 x1.f6) (hw : St g w [bx b6 [.bool true] 4, F] ih) :
    CallsR Tryz.prog 150 #[.agg #[.int .u64 x1.f0, .int .i64 x1.f1, .int .u64 x1.f2, .int .i64 x1.f3, .int .u32 x1.f4, .int .u64 x1.f5, .slice p2 x1.f6.length c3], .pointer (some ⟨b6, 0, none⟩)] w fun v w' => v = .bool r ∧ St g w' [bx b6 [.bool true] 4, F] ih := by
  refine f_in (vs := [.agg #[.int .u64 x1.f0, .int .i64 x1.f1, .int .u64 x1.f2, .int .i64 x1.f3, .int .u32 x1.f4, .int .u64 x1.f5, .slice p2 x1.f6.length c3], .pointer (some ⟨b6, 0, none⟩)]) Tryz.func150 rfl 8 rfl (by kernel_rfl) [(0, .agg #[.int .u64 x1.f0, .int .i64 x1.f1, .int .u64 x1.f2, .int .i64 x1.f3, .int .u32 x1.f4, .int .u64 x1.f5, .slice p2 x1.f6.length c3]), (1, .pointer (some ⟨b6, 0, none⟩))] (by kernel_rfl) fun a Qf hQ hQn hs => ?_
  refine c_seq ?_
  refine c_region ?_
  refine s_new hs hw [.int .u64 x1.f0, .int .i64 x1.f1, .int .u64 x1.f2, .int .i64 x1.f3, .int .u32 x1.f4, .int .u64 x1.f5, .slice p2 x1.f6.length c3] 26 (fun b => .pointer (some ⟨b, 0, none⟩)) (by kernel_rfl) (fun _ => by kernel_rfl) fun a w b19 hs hw => ?_
  refine pures hs 1 [1, 2] [(1, .pointer (some ⟨b6, 0, none⟩)), (2, .pointer (some ⟨b19, 0, none⟩))] (by kernel_rfl) fun a hs => ?_
  refine s_end ?_
  refine c_seq ?_
  refine c_region ?_
  refine s_load hs (hw.at_ 0 rfl) 0 (by kernel_rfl) (by kernel_rfl) (v := .agg #[.int .u64 x1.f0, .int .i64 x1.f1, .int .u64 x1.f2, .int .i64 x1.f3, .int .u32 x1.f4, .int .u64 x1.f5, .slice p2 x1.f6.length c3]) (by kernel_rfl) fun a hs => ?_
  refine s_load hs (hw.at_ 1 rfl) 0 (by kernel_rfl) (by kernel_rfl) (v := .bool true) (by kernel_rfl) fun a hs => ?_
  obtain ⟨y23, h24, hk⟩ := bindE hk
  refine s_call hs (by kernel_rfl) (by kernel_rfl) (letter_update_2_s h24 h4 ((hw.pick [1, 2] (by kernel_rfl)).pack 0)) fun a w v hv hs => ?_
  obtain ⟨rfl, hw⟩ := hv
  replace hw := hw.unpack 0 rfl
  refine pures hs 2 [3] [(3, .bool (!y23))] (by kernel_rfl) fun a hs => ?_
  refine s_end ?_
  refine c_ret ?_
  obtain rfl := someE hk
  refine hQ _ _ (f_ret1 hs rfl (v := .bool (!y23)) (by kernel_rfl) ⟨rfl, hw.pick [0, 1] (by kernel_rfl)⟩)
def slices_IndexFunc_api_Update_api_Update_2_r3 : Option Int :=
  some (-1)
def slices_IndexFunc_api_Update_api_Update_2_l4 (x1 : List M26) : Nat → Int → Option (Sum Int Unit)
  | 0, _ => none
  | j + 1, x179 =>
    if (decide (x179 < (x1.length : Int))) = true then (
      (ix x1 x179).bind fun x214 =>
      (letter_updates_1_2 x214).bind fun y221 =>
      if y221 = true then some (.inl x179)
      else slices_IndexFunc_api_Update_api_Update_2_l4 x1 j (IntKind.i64.wrap (x179 + 1)))
    else some (.inr ())
def slices_IndexFunc_api_Update_api_Update_2 (k : Nat) (x1 : List M26) : Option Int :=
  (slices_IndexFunc_api_Update_api_Update_2_l4 x1 k 0 : Option (Sum Int Unit)).bind fun
    | .inl z => some z
    | .inr _ => slices_IndexFunc_api_Update_api_Update_2_r3
theorem slices_IndexFunc_api_Update_api_Update_2_s {k : Nat} {x1 : List M26} {p2 : Option Addr} {c3 : Nat} {d5 : Ch} {b8 : Nat} {r : Int} (hk : slices_IndexFunc_api_Update_api_Update_2 k x1 = some r) {g w : World} {F : Ch} {ih : IH} (h4 : RSl e26 ih d5 p2 c3 x1) (h6 : ∀ q ∈ d5, q ∈ F) (hw : St g w [bx b8 [.bool true] 4, F] ih) :
    CallsR Tryz.prog 165 #[.slice p2 x1.length c3, .func (.func 150) #[] #[.pointer (some ⟨b8, 0, none⟩)]] w fun v w' => v = .int .i64 r ∧ St g w' [bx b8 [.bool true] 4, F] ih := by
  refine f_in (vs := [.slice p2 x1.length c3, .func (.func 150) #[] #[.pointer (some ⟨b8, 0, none⟩)]]) Tryz.func165 rfl 19 rfl (by kernel_rfl) [(0, .slice p2 x1.length c3), (1, .func (.func 150) #[] #[.pointer (some ⟨b8, 0, none⟩)])] (by kernel_rfl) fun a Qf hQ hQn hs => ?_
  refine c_seq ?_
  refine c_region ?_
  refine pures hs 1 [0, 1] [(0, .slice p2 x1.length c3), (1, .func (.func 150) #[] #[.pointer (some ⟨b8, 0, none⟩)])] (by kernel_rfl) fun a hs => ?_
  refine s_end ?_
  refine c_seq ?_
  refine c_seq ?_
  refine c_region ?_
  refine pures hs 3 [0, 1, 7, 8] [(0, .slice p2 x1.length c3), (1, .func (.func 150) #[] #[.pointer (some ⟨b8, 0, none⟩)]), (7, .int .i64 (x1.length : Int)), (8, .int .i64 0)] (by kernel_rfl) fun a hs => ?_
  refine s_end ?_
  refine c_block ?_
  obtain ⟨y200, hx201, hk⟩ := bindE hk
  obtain ⟨J202, hJ202⟩ : ∃ J : Act → World → Prop, ∀ a w, J a w ↔ (slices_IndexFunc_api_Update_api_Update_2_r3 = some r ∧ Sees a 19 [] ∧ St g w [bx b8 [.bool true] 4, F] ih) := ⟨_, fun _ _ => Iff.rfl⟩
  obtain ⟨I203, hI203⟩ : ∃ J : Nat → Act → World → Prop, ∀ j a w, J j a w ↔ (∃ (x179 : Int), slices_IndexFunc_api_Update_api_Update_2_l4 x1 j x179 = some y200 ∧ Sees a 19 [(0, .slice p2 x1.length c3), (1, .func (.func 150) #[] #[.pointer (some ⟨b8, 0, none⟩)]), (7, .int .i64 (x1.length : Int)), (8, .int .i64 x179)] ∧ St g w [bx b8 [.bool true] 4, F] ih) := ⟨_, fun _ _ _ => Iff.rfl⟩
  refine c_exitJ 0 J202 ?_ ?_
  · refine c_loop I203 k ((hI203 _ _ _).2 ⟨0, hx201, hs.cast [0, 1, 7, 8] (by kernel_rfl), hw.pick [0, 1] (by kernel_rfl)⟩) (fun a w h0 => ?_) fun j a w hh => ?_
    · obtain ⟨_, h, _⟩ := (hI203 _ _ _).1 h0
      cases h
    obtain ⟨x179, hx201, hs, hw⟩ := (hI203 _ _ _).1 hh
    refine c_seq ?_
    refine c_region ?_
    refine pures hs 1 [0, 1, 7, 8, 9] [(0, .slice p2 x1.length c3), (1, .func (.func 150) #[] #[.pointer (some ⟨b8, 0, none⟩)]), (7, .int .i64 (x1.length : Int)), (8, .int .i64 x179), (9, .bool (decide (x179 < (x1.length : Int))))] (by kernel_rfl) fun a hs => ?_
    refine s_end ?_
    refine c_seq ?_
    rcases ifbE hx201 with ⟨h204, hx201⟩ | ⟨h204, hx201⟩
    · refine c_cond1 hs (by kernel_rfl) (t := (decide (x179 < (x1.length : Int)))) (by kernel_rfl) h204 ?_
      refine c_skip ?_
      refine c_seq ?_
      refine c_block ?_
      refine c_seq ?_
      refine c_region ?_
      refine pures hs 2 [0, 1, 7, 8, 5] [(0, .slice p2 x1.length c3), (1, .func (.func 150) #[] #[.pointer (some ⟨b8, 0, none⟩)]), (7, .int .i64 (x1.length : Int)), (8, .int .i64 x179), (5, .int .i64 x179)] (by kernel_rfl) fun a hs => ?_
      refine s_end ?_
      refine c_seq ?_
      refine c_region ?_
      refine pures hs 3 [0, 1, 7, 8, 5, 11, 12, 13] [(0, .slice p2 x1.length c3), (1, .func (.func 150) #[] #[.pointer (some ⟨b8, 0, none⟩)]), (7, .int .i64 (x1.length : Int)), (8, .int .i64 x179), (5, .int .i64 x179), (11, .func (.func 150) #[] #[.pointer (some ⟨b8, 0, none⟩)]), (12, .slice p2 x1.length c3), (13, .int .i64 x179)] (by kernel_rfl) fun a hs => ?_
      obtain ⟨x214, h215, hx201⟩ := bindE hx201
      refine s_index hs h4 (by kernel_rfl) (by kernel_rfl) (k := .i64) (by kernel_rfl) 26 (by kernel_rfl) (by kernel_rfl) h215 fun a r216 cs henc at217 hs => ?_
      obtain ⟨p218, c219, rfl, h220⟩ := henc
      refine s_load hs (at217 _ (((hw.vw 1 rfl).sub h6).anti (Le.refl _))) 0 (by kernel_rfl) (by kernel_rfl) (v := .agg #[.int .u64 x214.f0, .int .i64 x214.f1, .int .u64 x214.f2, .int .i64 x214.f3, .int .u32 x214.f4, .int .u64 x214.f5, .slice p218 x214.f6.length c219]) (by kernel_rfl) fun a hs => ?_
      obtain ⟨y221, h222, hx201⟩ := bindE hx201
      refine s_call hs (by kernel_rfl) (by kernel_rfl) (letter_updates_1_2_s h222 h220 ((hw.pick [0, 1] (by kernel_rfl)).pack 1)) fun a w v hv hs => ?_
      obtain ⟨rfl, hw⟩ := hv
      replace hw := hw.unpack 1 rfl
      refine s_end ?_
      rcases ifbE hx201 with ⟨h223, hx201⟩ | ⟨h223, hx201⟩
      · refine c_cond1 hs (by kernel_rfl) (t := y221) (by kernel_rfl) h223 ?_
        refine c_seq ?_
        refine c_region ?_
        refine pures hs 2 [4] [(4, .int .i64 x179)] (by kernel_rfl) fun a hs => ?_
        refine s_end ?_
        refine c_ret ?_
        obtain rfl := someE hx201
        obtain rfl := someE hk
        refine hQ _ _ (f_ret1 hs rfl (v := .int .i64 x179) (by kernel_rfl) ⟨rfl, hw.pick [0, 1] (by kernel_rfl)⟩)
      refine c_cond0 hs (by kernel_rfl) (t := y221) (by kernel_rfl) h223 ?_
      refine c_skip ?_
      refine c_region ?_
      refine pures hs 2 [0, 1, 7, 8] [(0, .slice p2 x1.length c3), (1, .func (.func 150) #[] #[.pointer (some ⟨b8, 0, none⟩)]), (7, .int .i64 (x1.length : Int)), (8, .int .i64 (IntKind.i64.wrap (x179 + 1)))] (by kernel_rfl) fun a hs => ?_
      refine s_end ?_
      exact (hI203 _ _ _).2 ⟨(IntKind.i64.wrap (x179 + 1)), hx201, hs.cast [0, 1, 7, 8] (by kernel_rfl), hw.pick [0, 1] (by kernel_rfl)⟩
    refine c_cond0 hs (by kernel_rfl) (t := (decide (x179 < (x1.length : Int)))) (by kernel_rfl) h204 ?_
    refine c_exit ?_
    obtain rfl := someE hx201
    exact (hJ202 _ _).2 ⟨hk, hs.cast [] (by kernel_rfl), hw.pick [0, 1] (by kernel_rfl)⟩
  intro a w hh
  obtain ⟨hk, hs, hw⟩ := (hJ202 _ _).1 hh
  refine c_seq ?_
  refine c_region ?_
  refine pures hs 1 [4] [(4, .int .i64 (-1))] (by kernel_rfl) fun a hs => ?_
  refine s_end ?_
  refine c_ret ?_
  obtain rfl := someE hk
  refine hQ _ _ (f_ret1 hs rfl (v := .int .i64 (-1)) (by kernel_rfl) ⟨rfl, hw.pick [0, 1] (by kernel_rfl)⟩)
def slices_ContainsFunc_api_Update_api_Update_2 (k : Nat) (x1 : List M26) : Option Bool :=
  (slices_IndexFunc_api_Update_api_Update_2 k x1).bind fun y17 =>
  some (decide (y17 ≥ 0))
theorem slices_ContainsFunc_api_Update_api_Update_2_s {k : Nat} {x1 : List M26} {p2 : Option Addr} {c3 : Nat} {d5 : Ch} {b8 : Nat} {r : Bool} (hk : slices_ContainsFunc_api_Update_api_Update_2 k x1 = some r) {g w : World} {F : Ch} {ih : IH} (h4 : RSl e26 ih d5 p2 c3 x1) (h6 : ∀ q ∈ d5, q ∈ F) (hw : St g w [bx b8 [.bool true] 4, F] ih) :
    CallsR Tryz.prog 149 #[.slice p2 x1.length c3, .func (.func 150) #[] #[.pointer (some ⟨b8, 0, none⟩)]] w fun v w' => v = .bool r ∧ St g w' [bx b8 [.bool true] 4, F] ih := by
  refine f_in (vs := [.slice p2 x1.length c3, .func (.func 150) #[] #[.pointer (some ⟨b8, 0, none⟩)]]) Tryz.func149 rfl 9 rfl (by kernel_rfl) [(0, .slice p2 x1.length c3), (1, .func (.func 150) #[] #[.pointer (some ⟨b8, 0, none⟩)])] (by kernel_rfl) fun a Qf hQ hQn hs => ?_
  refine c_seq ?_
  refine c_region ?_
  refine pures hs 1 [0, 1] [(0, .slice p2 x1.length c3), (1, .func (.func 150) #[] #[.pointer (some ⟨b8, 0, none⟩)])] (by kernel_rfl) fun a hs => ?_
  refine s_end ?_
  refine c_seq ?_
  refine c_region ?_
  refine pures hs 2 [5, 6] [(5, .slice p2 x1.length c3), (6, .func (.func 150) #[] #[.pointer (some ⟨b8, 0, none⟩)])] (by kernel_rfl) fun a hs => ?_
  obtain ⟨y17, h18, hk⟩ := bindE hk
  refine s_call hs (by kernel_rfl) (by kernel_rfl) (slices_IndexFunc_api_Update_api_Update_2_s h18 h4 (fun q hq => memF 0 rfl q (h6 q hq)) ((hw.pick [0, 1] (by kernel_rfl)).pack 1)) fun a w v hv hs => ?_
  obtain ⟨rfl, hw⟩ := hv
  replace hw := hw.unpack 1 rfl
  refine pures hs 2 [4] [(4, .bool (decide (y17 ≥ 0)))] (by kernel_rfl) fun a hs => ?_
  refine s_end ?_
  refine c_ret ?_
  obtain rfl := someE hk
  refine hQ _ _ (f_ret1 hs rfl (v := .bool (decide (y17 ≥ 0))) (by kernel_rfl) ⟨rfl, hw.pick [0, 1] (by kernel_rfl)⟩)
def letter_updates_2 (k : Nat) (x1 : List M26) : Option Bool :=
  if (((x1.length : Int) != 1) || (decide ((x1.length : Int) > 4))) = true then some false
  else (slices_ContainsFunc_api_Update_api_Update_2 k x1).bind fun y41 =>
  some (!y41)
theorem letter_updates_2_s {k : Nat} {x1 : List M26} {p2 : Option Addr} {c3 : Nat} {r : Bool} (hk : letter_updates_2 k x1 = some r) {g w : World} {F : Ch} {ih : IH} (h4 : RSl e26 ih [] p2 c3 x1) (hw : St g w [F] ih) :
    CallsR Tryz.prog 128 #[.agg #[.int .i64 17, .int .i64 1, .int .i64 1, .int .i64 0, .int .u64 1, .int .u64 0, .int .u64 0, .int .u64 0, .int .u64 0, .int .u64 0, .int .i64 0, .int .u32 0, .int .i64 0, .int .i64 0, .int .i64 0, .int .u64 0, .int .i64 0, .int .i64 0, .int .u64 0, .slice none 0 0, .bool false, .int .i64 0, .slice none 0 0, .slice p2 x1.length c3, .slice none 0 0]] w fun v w' => v = .bool r ∧ St g w' [F] ih := by
  refine f_in (vs := [.agg #[.int .i64 17, .int .i64 1, .int .i64 1, .int .i64 0, .int .u64 1, .int .u64 0, .int .u64 0, .int .u64 0, .int .u64 0, .int .u64 0, .int .i64 0, .int .u32 0, .int .i64 0, .int .i64 0, .int .i64 0, .int .u64 0, .int .i64 0, .int .i64 0, .int .u64 0, .slice none 0 0, .bool false, .int .i64 0, .slice none 0 0, .slice p2 x1.length c3, .slice none 0 0]]) Tryz.func128 rfl 25 rfl (by kernel_rfl) [(0, .agg #[.int .i64 17, .int .i64 1, .int .i64 1, .int .i64 0, .int .u64 1, .int .u64 0, .int .u64 0, .int .u64 0, .int .u64 0, .int .u64 0, .int .i64 0, .int .u32 0, .int .i64 0, .int .i64 0, .int .i64 0, .int .u64 0, .int .i64 0, .int .i64 0, .int .u64 0, .slice none 0 0, .bool false, .int .i64 0, .slice none 0 0, .slice p2 x1.length c3, .slice none 0 0])] (by kernel_rfl) fun a Qf hQ hQn hs => ?_
  refine c_seq ?_
  refine c_region ?_
  refine s_new hs hw [.int .i64 17, .int .i64 1, .int .i64 1, .int .i64 0, .int .u64 1, .int .u64 0, .int .u64 0, .int .u64 0, .int .u64 0, .int .u64 0, .int .i64 0, .int .u32 0, .int .i64 0, .int .i64 0, .int .i64 0, .int .u64 0, .int .i64 0, .int .i64 0, .int .u64 0, .slice none 0 0, .bool false, .int .i64 0, .slice none 0 0, .slice p2 x1.length c3, .slice none 0 0] 90 (fun b => .pointer (some ⟨b, 0, none⟩)) (by kernel_rfl) (fun _ => by kernel_rfl) fun a w b27 hs hw => ?_
  refine pures hs 1 [1] [(1, .pointer (some ⟨b27, 0, none⟩))] (by kernel_rfl) fun a hs => ?_
  refine s_end ?_
  refine c_seq ?_
  refine c_region ?_
  refine pures hs 1 [1, 4] [(1, .pointer (some ⟨b27, 0, none⟩)), (4, .pointer (some ⟨b27, 0, none⟩))] (by kernel_rfl) fun a hs => ?_
  refine s_load hs (hw.at_ 0 rfl) 0 (by kernel_rfl) (by kernel_rfl) (v := .int .i64 17) (by kernel_rfl) fun a hs => ?_
  refine pures hs 1 [1, 6] [(1, .pointer (some ⟨b27, 0, none⟩)), (6, .bool true)] (by kernel_rfl) fun a hs => ?_
  refine s_new hs hw [.bool false] 4 (fun b => .pointer (some ⟨b, 0, none⟩)) (by kernel_rfl) (fun _ => by kernel_rfl) fun a w b31 hs hw => ?_
  refine s_store hs hw 0 rfl 0 (by kernel_rfl) (by kernel_rfl) (v := .bool true) (by kernel_rfl) (by kernel_rfl) (by kernel_rfl) (by kernel_rfl) fun a w hs hw => ?_
  refine s_end ?_
  refine c_seq ?_
  refine c_seq ?_
  obtain ⟨J36, hJ36⟩ : ∃ J : Act → World → Prop, ∀ a w, J a w ↔ (Sees a 25 [(1, .pointer (some ⟨b27, 0, none⟩)), (3, .pointer (some ⟨b31, 0, none⟩)), (19, .bool (((x1.length : Int) != 1) || (decide ((x1.length : Int) > 4))))] ∧ St g w [bx b31 [.bool true] 4, bx b27 [.int .i64 17, .int .i64 1, .int .i64 1, .int .i64 0, .int .u64 1, .int .u64 0, .int .u64 0, .int .u64 0, .int .u64 0, .int .u64 0, .int .i64 0, .int .u32 0, .int .i64 0, .int .i64 0, .int .i64 0, .int .u64 0, .int .i64 0, .int .i64 0, .int .u64 0, .slice none 0 0, .bool false, .int .i64 0, .slice none 0 0, .slice p2 x1.length c3, .slice none 0 0] 90, F] ih) := ⟨_, fun _ _ => Iff.rfl⟩
  refine c_regJ J36 ?_ ?_
  · refine s_load hs (hw.at_ 0 rfl) 0 (by kernel_rfl) (by kernel_rfl) (v := .bool true) (by kernel_rfl) fun a hs => ?_
    refine pures hs 2 [1, 3, 8, 9] [(1, .pointer (some ⟨b27, 0, none⟩)), (3, .pointer (some ⟨b31, 0, none⟩)), (8, .bool true), (9, .pointer (some ⟨b27, 23, none⟩))] (by kernel_rfl) fun a hs => ?_
    refine s_load hs (hw.at_ 1 rfl) 23 (by kernel_rfl) (by kernel_rfl) (v := .slice p2 x1.length c3) (by kernel_rfl) fun a hs => ?_
    refine pures hs 4 [1, 3, 14] [(1, .pointer (some ⟨b27, 0, none⟩)), (3, .pointer (some ⟨b31, 0, none⟩)), (14, .bool ((x1.length : Int) != 1))] (by kernel_rfl) fun a hs => ?_
    rcases boolE ((x1.length : Int) != 1) with h37 | h37
    · replace hs := hs.altB 14 true (by kernel_rfl) h37
      refine pures hs 5 [1, 3, 19] [(1, .pointer (some ⟨b27, 0, none⟩)), (3, .pointer (some ⟨b31, 0, none⟩)), (19, .bool true)] (by kernel_rfl) fun a hs => ?_
      refine s_end ?_
      exact (hJ36 _ _).2 ⟨(hs.altB 19 (((x1.length : Int) != 1) || (decide ((x1.length : Int) > 4))) (by kernel_rfl) (by rw [h37] <;> rfl)).cast [1, 3, 19] (by kernel_rfl), hw.pick [0, 1, 2] (by kernel_rfl)⟩
    replace hs := hs.altB 14 false (by kernel_rfl) h37
    refine pures hs 1 [1, 3, 14, 15] [(1, .pointer (some ⟨b27, 0, none⟩)), (3, .pointer (some ⟨b31, 0, none⟩)), (14, .bool false), (15, .pointer (some ⟨b27, 23, none⟩))] (by kernel_rfl) fun a hs => ?_
    refine s_load hs (hw.at_ 1 rfl) 23 (by kernel_rfl) (by kernel_rfl) (v := .slice p2 x1.length c3) (by kernel_rfl) fun a hs => ?_
    refine pures hs 3 [1, 3, 19] [(1, .pointer (some ⟨b27, 0, none⟩)), (3, .pointer (some ⟨b31, 0, none⟩)), (19, .bool (decide ((x1.length : Int) > 4)))] (by kernel_rfl) fun a hs => ?_
    refine s_end ?_
    exact (hJ36 _ _).2 ⟨(hs.altB 19 (((x1.length : Int) != 1) || (decide ((x1.length : Int) > 4))) (by kernel_rfl) (by rw [h37] <;> rfl)).cast [1, 3, 19] (by kernel_rfl), hw.pick [0, 1, 2] (by kernel_rfl)⟩
  intro a w hh
  obtain ⟨hs, hw⟩ := (hJ36 _ _).1 hh
  rcases ifbE hk with ⟨h38, hk⟩ | ⟨h38, hk⟩
  · refine c_cond1 hs (by kernel_rfl) (t := (((x1.length : Int) != 1) || (decide ((x1.length : Int) > 4)))) (by kernel_rfl) h38 ?_
    refine c_seq ?_
    refine c_region ?_
    refine pures hs 1 [2] [(2, .bool false)] (by kernel_rfl) fun a hs => ?_
    refine s_end ?_
    refine c_ret ?_
    obtain rfl := someE hk
    refine hQ _ _ (f_ret1 hs rfl (v := .bool false) (by kernel_rfl) ⟨rfl, hw.pick [2] (by kernel_rfl)⟩)
  refine c_cond0 hs (by kernel_rfl) (t := (((x1.length : Int) != 1) || (decide ((x1.length : Int) > 4)))) (by kernel_rfl) h38 ?_
  refine c_skip ?_
  refine c_seq ?_
  refine c_region ?_
  refine pures hs 1 [3, 20] [(3, .pointer (some ⟨b31, 0, none⟩)), (20, .pointer (some ⟨b27, 23, none⟩))] (by kernel_rfl) fun a hs => ?_
  refine s_load hs (hw.at_ 1 rfl) 23 (by kernel_rfl) (by kernel_rfl) (v := .slice p2 x1.length c3) (by kernel_rfl) fun a hs => ?_
  refine pures hs 1 [21, 22] [(21, .slice p2 x1.length c3), (22, .func (.func 150) #[] #[.pointer (some ⟨b31, 0, none⟩)])] (by kernel_rfl) fun a hs => ?_
  obtain ⟨y41, h42, hk⟩ := bindE hk
  refine s_call hs (by kernel_rfl) (by kernel_rfl) (slices_ContainsFunc_api_Update_api_Update_2_s h42 h4 (nilSub _) ((hw.pick [0, 2] (by kernel_rfl)).pack 1)) fun a w v hv hs => ?_
  obtain ⟨rfl, hw⟩ := hv
  replace hw := hw.unpack 1 rfl
  refine pures hs 2 [2] [(2, .bool (!y41))] (by kernel_rfl) fun a hs => ?_
  refine s_end ?_
  refine c_ret ?_
  obtain rfl := someE hk
  refine hQ _ _ (f_ret1 hs rfl (v := .bool (!y41)) (by kernel_rfl) ⟨rfl, hw.pick [1] (by kernel_rfl)⟩)
def letter_Check_2_r2 (k : Nat) (x1 : List M26) (x258 : Bool) : Option Int :=
  if x258 = true then some 4
  else (letter_updates_2 k x1).bind fun y429 =>
  if (!y429) = true then some 4
  else some 0
def letter_Check_2 (k : Nat) (x1 : List M26) : Option Int :=
  ((letter_bare_3 x1).bind fun y439 =>
    (letter_Same_2 k x1 y439.1 y439.2.1 y439.2.2).bind fun y444 =>
    some (!y444) : Option Bool).bind fun s446 => letter_Check_2_r2 k x1 s446
theorem letter_Check_2_s {k : Nat} {x1 : List M26} {p2 : Option Addr} {c3 : Nat} {r : Int} (hk : letter_Check_2 k x1 = some r) {g w : World} {F : Ch} {ih : IH} (h4 : RSl e26 ih [] p2 c3 x1) (hG : Glob 0 gl0 110 ih) (hw : St g w [F] ih) :
    CallsR Tryz.prog 51 #[.agg #[.int .i64 17, .int .i64 1, .int .i64 1, .int .i64 0, .int .u64 1, .int .u64 0, .int .u64 0, .int .u64 0, .int .u64 0, .int .u64 0, .int .i64 0, .int .u32 0, .int .i64 0, .int .i64 0, .int .i64 0, .int .u64 0, .int .i64 0, .int .i64 0, .int .u64 0, .slice none 0 0, .bool false, .int .i64 0, .slice none 0 0, .slice p2 x1.length c3, .slice none 0 0]] w fun v w' => v = .int .i64 r ∧ St g w' [F] ih := by
  refine f_in (vs := [.agg #[.int .i64 17, .int .i64 1, .int .i64 1, .int .i64 0, .int .u64 1, .int .u64 0, .int .u64 0, .int .u64 0, .int .u64 0, .int .u64 0, .int .i64 0, .int .u32 0, .int .i64 0, .int .i64 0, .int .i64 0, .int .u64 0, .int .i64 0, .int .i64 0, .int .u64 0, .slice none 0 0, .bool false, .int .i64 0, .slice none 0 0, .slice p2 x1.length c3, .slice none 0 0]]) Tryz.func51 rfl 40 rfl (by kernel_rfl) [(0, .agg #[.int .i64 17, .int .i64 1, .int .i64 1, .int .i64 0, .int .u64 1, .int .u64 0, .int .u64 0, .int .u64 0, .int .u64 0, .int .u64 0, .int .i64 0, .int .u32 0, .int .i64 0, .int .i64 0, .int .i64 0, .int .u64 0, .int .i64 0, .int .i64 0, .int .u64 0, .slice none 0 0, .bool false, .int .i64 0, .slice none 0 0, .slice p2 x1.length c3, .slice none 0 0])] (by kernel_rfl) fun a Qf hQ hQn hs => ?_
  refine c_seq ?_
  refine c_region ?_
  refine s_new hs hw [.int .i64 17, .int .i64 1, .int .i64 1, .int .i64 0, .int .u64 1, .int .u64 0, .int .u64 0, .int .u64 0, .int .u64 0, .int .u64 0, .int .i64 0, .int .u32 0, .int .i64 0, .int .i64 0, .int .i64 0, .int .u64 0, .int .i64 0, .int .i64 0, .int .u64 0, .slice none 0 0, .bool false, .int .i64 0, .slice none 0 0, .slice p2 x1.length c3, .slice none 0 0] 90 (fun b => .pointer (some ⟨b, 0, none⟩)) (by kernel_rfl) (fun _ => by kernel_rfl) fun a w b229 hs hw => ?_
  refine pures hs 1 [1] [(1, .pointer (some ⟨b229, 0, none⟩))] (by kernel_rfl) fun a hs => ?_
  refine s_end ?_
  refine c_seq ?_
  refine c_seq ?_
  refine c_region ?_
  refine pures hs 1 [1, 5] [(1, .pointer (some ⟨b229, 0, none⟩)), (5, .pointer (some ⟨b229, 0, none⟩))] (by kernel_rfl) fun a hs => ?_
  refine s_load hs (hw.at_ 0 rfl) 0 (by kernel_rfl) (by kernel_rfl) (v := .int .i64 17) (by kernel_rfl) fun a hs => ?_
  have h234 : letter_known_2 = some () := rfl
  refine s_call hs (by kernel_rfl) (by kernel_rfl) (letter_known_2_s h234 ((hw.pick [0, 1] (by kernel_rfl)).pack 0)) fun a w v hv hs => ?_
  obtain ⟨rfl, hw⟩ := hv
  replace hw := hw.unpack 0 rfl
  refine pures hs 1 [1, 8] [(1, .pointer (some ⟨b229, 0, none⟩)), (8, .bool false)] (by kernel_rfl) fun a hs => ?_
  refine s_end ?_
  refine c_condF hs (by kernel_rfl) (by kernel_rfl) ?_
  refine c_skip ?_
  refine c_seq ?_
  refine c_seq ?_
  obtain ⟨S235, hS235, kS235⟩ := mkSX (X := [([], bx b229 [.int .i64 17, .int .i64 1, .int .i64 1, .int .i64 0, .int .u64 1, .int .u64 0, .int .u64 0, .int .u64 0, .int .u64 0, .int .u64 0, .int .i64 0, .int .u32 0, .int .i64 0, .int .i64 0, .int .i64 0, .int .u64 0, .int .i64 0, .int .i64 0, .int .u64 0, .slice none 0 0, .bool false, .int .i64 0, .slice none 0 0, .slice p2 x1.length c3, .slice none 0 0] 90), ([], F)]) (ih := ih) (K := []) rfl
  obtain ⟨y432, hx433, hk⟩ := bindE hk
  obtain ⟨J434, hJ434⟩ : ∃ J : Act → World → Prop, ∀ a w, J a w ↔ (∃ (x258 : Bool), letter_Check_2_r2 k x1 x258 = some r ∧ Sees a 40 [(1, .pointer (some ⟨b229, 0, none⟩)), (25, .bool x258)] ∧ St g w [bx b229 [.int .i64 17, .int .i64 1, .int .i64 1, .int .i64 0, .int .u64 1, .int .u64 0, .int .u64 0, .int .u64 0, .int .u64 0, .int .u64 0, .int .i64 0, .int .u32 0, .int .i64 0, .int .i64 0, .int .i64 0, .int .u64 0, .int .i64 0, .int .i64 0, .int .u64 0, .slice none 0 0, .bool false, .int .i64 0, .slice none 0 0, .slice p2 x1.length c3, .slice none 0 0] 90, F] ih) := ⟨_, fun _ _ => Iff.rfl⟩
  refine c_draw (by kernel_rfl) (N := 17) rfl S235 J434 ?_ ?_
  · have hw := hw.drew
    have hS : S235 (Array.replicate 17 false) _ := SX_now hS235 (hw.vws [0, 1]) (by kernel_rfl)
    refine d_pures (fuel := 16) kS235 hs hS [0] [1, 9] [(1, .pointer (some ⟨b229, 0, none⟩)), (9, .pointer (some ⟨b229, 1, none⟩))] (by kernel_rfl) fun a hs hS => ?_
    refine d_load (fuel := 15) kS235 hs hS 1 rfl (by kernel_rfl) (SX_box hS235 0 rfl (by kernel_rfl)) 1 (by kernel_rfl) (by kernel_rfl) (v := .int .i64 1) (by kernel_rfl) fun a hs hS => ?_
    refine d_all (fuel := 14) (rs := [2]) (by kernel_rfl) (by simp) (all1 ?_)
    have h436 : letter_Address = some () := rfl
    refine o_call hs rfl (by kernel_rfl) (by kernel_rfl) (letter_Address_s h436 ((hw.pick [0, 1] (by kernel_rfl)).pack 0)) fun a w v hv hs => ?_
    obtain ⟨rfl, hw⟩ := hv
    replace hw := hw.unpack 0 rfl
    refine dg_next (SX_now hS235 ((hw.vws [0, 1]).anti (Le.refl _)) (by kernel_rfl)) fun hS => ?_
    refine d_pures (fuel := 11) kS235 hs hS [3, 4, 5] [1, 9, 10, 11, 12, 13, 14] [(1, .pointer (some ⟨b229, 0, none⟩)), (9, .pointer (some ⟨b229, 1, none⟩)), (10, .int .i64 1), (11, .bool true), (12, .bool false), (13, .bool false), (14, .pointer (some ⟨b229, 2, none⟩))] (by kernel_rfl) fun a hs hS => ?_
    refine d_load (fuel := 10) kS235 hs hS 6 rfl (by kernel_rfl) (SX_box hS235 0 rfl (by kernel_rfl)) 2 (by kernel_rfl) (by kernel_rfl) (v := .int .i64 1) (by kernel_rfl) fun a hs hS => ?_
    refine d_all (fuel := 9) (rs := [7]) (by kernel_rfl) (by simp) (all1 ?_)
    have h438 : letter_Address = some () := rfl
    refine o_call hs rfl (by kernel_rfl) (by kernel_rfl) (letter_Address_s h438 ((hw.pick [0, 1] (by kernel_rfl)).pack 0)) fun a w v hv hs => ?_
    obtain ⟨rfl, hw⟩ := hv
    replace hw := hw.unpack 0 rfl
    refine dg_next (SX_now hS235 ((hw.vws [0, 1]).anti (Le.refl _)) (by kernel_rfl)) fun hS => ?_
    refine d_pures (fuel := 6) kS235 hs hS [8, 9, 10] [1, 9, 10, 11, 12, 13, 14, 15, 16, 17, 18, 19] [(1, .pointer (some ⟨b229, 0, none⟩)), (9, .pointer (some ⟨b229, 1, none⟩)), (10, .int .i64 1), (11, .bool true), (12, .bool false), (13, .bool false), (14, .pointer (some ⟨b229, 2, none⟩)), (15, .int .i64 1), (16, .bool true), (17, .bool false), (18, .bool false), (19, .bool false)] (by kernel_rfl) fun a hs hS => ?_
    refine d_load (fuel := 5) kS235 hs hS 11 rfl (by kernel_rfl) (SX_box hS235 0 rfl (by kernel_rfl)) 0 (by kernel_rfl) (by kernel_rfl) (v := .agg #[.int .i64 17, .int .i64 1, .int .i64 1, .int .i64 0, .int .u64 1, .int .u64 0, .int .u64 0, .int .u64 0, .int .u64 0, .int .u64 0, .int .i64 0, .int .u32 0, .int .i64 0, .int .i64 0, .int .i64 0, .int .u64 0, .int .i64 0, .int .i64 0, .int .u64 0, .slice none 0 0, .bool false, .int .i64 0, .slice none 0 0, .slice p2 x1.length c3, .slice none 0 0]) (by kernel_rfl) fun a hs hS => ?_
    refine d_load (fuel := 4) kS235 hs hS 12 rfl (by kernel_rfl) (SX_box hS235 0 rfl (by kernel_rfl)) 0 (by kernel_rfl) (by kernel_rfl) (v := .agg #[.int .i64 17, .int .i64 1, .int .i64 1, .int .i64 0, .int .u64 1, .int .u64 0, .int .u64 0, .int .u64 0, .int .u64 0, .int .u64 0, .int .i64 0, .int .u32 0, .int .i64 0, .int .i64 0, .int .i64 0, .int .u64 0, .int .i64 0, .int .i64 0, .int .u64 0, .slice none 0 0, .bool false, .int .i64 0, .slice none 0 0, .slice p2 x1.length c3, .slice none 0 0]) (by kernel_rfl) fun a hs hS => ?_
    refine d_all (fuel := 3) (rs := [13]) (by kernel_rfl) (by simp) (all1 ?_)
    obtain ⟨y439, h440, hx433⟩ := bindE hx433
    refine o_call hs rfl (by kernel_rfl) (by kernel_rfl) (letter_bare_3_s h440 h4 (hG.mono (Le.refl _)) ((hw.pick [0, 1] (by kernel_rfl)).pack 0)) fun a w v hv hs => ?_
    obtain ⟨p441, c442, rfl, hw, h443⟩ := hv
    replace hw := hw.unpack 0 rfl
    refine dg_next (SX_now hS235 ((hw.vws [0, 1]).anti (Le.refl _)) (by kernel_rfl)) fun hS => ?_
    refine d_all (fuel := 2) (rs := [14]) (by kernel_rfl) (by simp) (all1 ?_)
    obtain ⟨y444, h445, hx433⟩ := bindE hx433
    refine o_call hs rfl (by kernel_rfl) (by kernel_rfl) (letter_Same_2_s h445 h4 h443 ((hw.pick [0, 1] (by kernel_rfl)).pack 0)) fun a w v hv hs => ?_
    obtain ⟨rfl, hw⟩ := hv
    replace hw := hw.unpack 0 rfl
    refine dg_next (SX_now hS235 ((hw.vws [0, 1]).anti (Le.refl _)) (by kernel_rfl)) fun hS => ?_
    refine d_pures (fuel := 0) kS235 hs hS [15, 16] [1, 9, 10, 11, 12, 13, 14, 15, 16, 17, 18, 19, 20, 21, 22, 23, 24, 25] [(1, .pointer (some ⟨b229, 0, none⟩)), (9, .pointer (some ⟨b229, 1, none⟩)), (10, .int .i64 1), (11, .bool true), (12, .bool false), (13, .bool false), (14, .pointer (some ⟨b229, 2, none⟩)), (15, .int .i64 1), (16, .bool true), (17, .bool false), (18, .bool false), (19, .bool false), (20, .agg #[.int .i64 17, .int .i64 1, .int .i64 1, .int .i64 0, .int .u64 1, .int .u64 0, .int .u64 0, .int .u64 0, .int .u64 0, .int .u64 0, .int .i64 0, .int .u32 0, .int .i64 0, .int .i64 0, .int .i64 0, .int .u64 0, .int .i64 0, .int .i64 0, .int .u64 0, .slice none 0 0, .bool false, .int .i64 0, .slice none 0 0, .slice p2 x1.length c3, .slice none 0 0]), (21, .agg #[.int .i64 17, .int .i64 1, .int .i64 1, .int .i64 0, .int .u64 1, .int .u64 0, .int .u64 0, .int .u64 0, .int .u64 0, .int .u64 0, .int .i64 0, .int .u32 0, .int .i64 0, .int .i64 0, .int .i64 0, .int .u64 0, .int .i64 0, .int .i64 0, .int .u64 0, .slice none 0 0, .bool false, .int .i64 0, .slice none 0 0, .slice p2 x1.length c3, .slice none 0 0]), (22, .agg #[.int .i64 17, .int .i64 1, .int .i64 1, .int .i64 y439.1, .int .u64 y439.2.1, .int .u64 0, .int .u64 0, .int .u64 0, .int .u64 0, .int .u64 0, .int .i64 0, .int .u32 0, .int .i64 0, .int .i64 0, .int .i64 0, .int .u64 0, .int .i64 0, .int .i64 0, .int .u64 0, .slice none 0 0, .bool false, .int .i64 0, .slice none 0 0, .slice p441 y439.2.2.length c442, .slice none 0 0]), (23, .bool y444), (24, .bool (!y444)), (25, .bool (!y444))] (by kernel_rfl) fun a hs hS => ?_
    refine d_done (by kernel_rfl) ?_
    obtain rfl := someE hx433
    exact (hJ434 _ _).2 ⟨(!y444), hk, hs.cast [1, 25] (by kernel_rfl), hw.pick [0, 1] (by kernel_rfl)⟩
  intro a w hh
  obtain ⟨x258, hk, hs, hw⟩ := (hJ434 _ _).1 hh
  rcases ifbE hk with ⟨h259, hk⟩ | ⟨h259, hk⟩
  · refine c_cond1 hs (by kernel_rfl) (t := x258) (by kernel_rfl) h259 ?_
    refine c_seq ?_
    refine c_region ?_
    refine pures hs 1 [2] [(2, .int .i64 4)] (by kernel_rfl) fun a hs => ?_
    refine s_end ?_
    refine c_ret ?_
    obtain rfl := someE hk
    refine hQ _ _ (f_ret1 hs rfl (v := .int .i64 4) (by kernel_rfl) ⟨rfl, hw.pick [1] (by kernel_rfl)⟩)
  refine c_cond0 hs (by kernel_rfl) (t := x258) (by kernel_rfl) h259 ?_
  refine c_skip ?_
  refine c_seq ?_
  refine c_seq ?_
  refine c_region ?_
  refine pures hs 1 [1, 26] [(1, .pointer (some ⟨b229, 0, none⟩)), (26, .pointer (some ⟨b229, 0, none⟩))] (by kernel_rfl) fun a hs => ?_
  refine s_load hs (hw.at_ 0 rfl) 0 (by kernel_rfl) (by kernel_rfl) (v := .int .i64 17) (by kernel_rfl) fun a hs => ?_
  have h274 : letter_parts_2 = some () := rfl
  refine s_call hs (by kernel_rfl) (by kernel_rfl) (letter_parts_2_s h274 (hG.mono (Le.refl _)) ((hw.pick [0, 1] (by kernel_rfl)).pack 0)) fun a w v hv hs => ?_
  obtain ⟨p275, c276, d278, b280, b282, b284, rfl, hw, h277⟩ := hv
  replace hw := hw.unpack 4 rfl
  refine pures hs 2 [1, 28, 29, 30] [(1, .pointer (some ⟨b229, 0, none⟩)), (28, .slice p275 3 c276), (29, .int .i64 3), (30, .int .i64 0)] (by kernel_rfl) fun a hs => ?_
  refine s_end ?_
  refine c_block ?_
  refine wpIn_loop_rounds 4 ?_
  refine c_unr ?_
  refine c_seq ?_
  refine c_region ?_
  refine pures hs 1 [1, 28, 29, 30, 31] [(1, .pointer (some ⟨b229, 0, none⟩)), (28, .slice p275 3 c276), (29, .int .i64 3), (30, .int .i64 0), (31, .bool true)] (by kernel_rfl) fun a hs => ?_
  refine s_end ?_
  refine c_seq ?_
  refine c_condT hs (by kernel_rfl) (by kernel_rfl) ?_
  refine c_skip ?_
  refine c_seq ?_
  refine c_block ?_
  refine c_seq ?_
  refine c_region ?_
  have h370 : ix ([(M101.mk (.func (.func 86) #[] #[]) (.func (.func 102) #[] #[.pointer (some ⟨b280, 0, none⟩), .pointer (some ⟨b282, 0, none⟩)]) (.func (.func 104) #[] #[.pointer (some ⟨b282, 0, none⟩), .pointer (some ⟨b280, 0, none⟩)])), (M101.mk (.func (.func 91) #[] #[]) (.func (.func 106) #[] #[.pointer (some ⟨b284, 0, none⟩)]) (.func (.func 107) #[] #[.pointer (some ⟨b284, 0, none⟩)])), (M101.mk (.func (.func 128) #[] #[]) (.func (.func 129) #[] #[]) (.func (.func 130) #[] #[]))]) 0 = some (M101.mk (.func (.func 86) #[] #[]) (.func (.func 102) #[] #[.pointer (some ⟨b280, 0, none⟩), .pointer (some ⟨b282, 0, none⟩)]) (.func (.func 104) #[] #[.pointer (some ⟨b282, 0, none⟩), .pointer (some ⟨b280, 0, none⟩)])) := rfl
  refine s_indexO hs h277 (by kernel_rfl) (by kernel_rfl) (k := .i64) (by kernel_rfl) 101 (by kernel_rfl) (by kernel_rfl) h370 fun a r371 cs henc at372 h376 hs => ?_
  obtain ⟨rfl, h373, h374, h375⟩ := henc
  refine s_load hs (at372 _ ((hw.vw 0 rfl).anti (Le.refl _))) 0 (by kernel_rfl) (by kernel_rfl) (v := .agg #[.func (.func 86) #[] #[], .func (.func 102) #[] #[.pointer (some ⟨b280, 0, none⟩), .pointer (some ⟨b282, 0, none⟩)], .func (.func 104) #[] #[.pointer (some ⟨b282, 0, none⟩), .pointer (some ⟨b280, 0, none⟩)]]) (by kernel_rfl) fun a hs => ?_
  refine s_new hs hw [.nilFunc, .nilFunc, .nilFunc] 101 (fun b => .pointer (some ⟨b, 0, none⟩)) (by kernel_rfl) (fun _ => by kernel_rfl) fun a w b377 hs hw => ?_
  refine s_store hs hw 0 rfl 0 (by kernel_rfl) (by kernel_rfl) (v := .agg #[.func (.func 86) #[] #[], .func (.func 102) #[] #[.pointer (some ⟨b280, 0, none⟩), .pointer (some ⟨b282, 0, none⟩)], .func (.func 104) #[] #[.pointer (some ⟨b282, 0, none⟩), .pointer (some ⟨b280, 0, none⟩)]]) (by kernel_rfl) (by kernel_rfl) (by kernel_rfl) (by kernel_rfl) fun a w hs hw => ?_
  refine s_end ?_
  refine c_seq ?_
  refine c_region ?_
  refine pures hs 1 [1, 28, 29, 30, 34] [(1, .pointer (some ⟨b229, 0, none⟩)), (28, .slice p275 3 c276), (29, .int .i64 3), (30, .int .i64 0), (34, .pointer (some ⟨b377, 0, none⟩))] (by kernel_rfl) fun a hs => ?_
  refine s_load hs (hw.at_ 0 rfl) 0 (by kernel_rfl) (by kernel_rfl) (v := .func (.func 86) #[] #[]) (by kernel_rfl) fun a hs => ?_
  refine s_load hs (hw.at_ 5 rfl) 0 (by kernel_rfl) (by kernel_rfl) (v := .agg #[.int .i64 17, .int .i64 1, .int .i64 1, .int .i64 0, .int .u64 1, .int .u64 0, .int .u64 0, .int .u64 0, .int .u64 0, .int .u64 0, .int .i64 0, .int .u32 0, .int .i64 0, .int .i64 0, .int .i64 0, .int .u64 0, .int .i64 0, .int .i64 0, .int .u64 0, .slice none 0 0, .bool false, .int .i64 0, .slice none 0 0, .slice p2 x1.length c3, .slice none 0 0]) (by kernel_rfl) fun a hs => ?_
  have h382 : letter_of_1_2 = some () := rfl
  refine s_call hs (by kernel_rfl) (by kernel_rfl) (letter_of_1_2_s h382 h4 ((hw.pick [1, 2, 3, 4, 5, 6] (by kernel_rfl)).pack 0)) fun a w v hv hs => ?_
  obtain ⟨rfl, hw⟩ := hv
  replace hw := hw.unpack 0 rfl
  refine pures hs 1 [1, 28, 29, 30, 38] [(1, .pointer (some ⟨b229, 0, none⟩)), (28, .slice p275 3 c276), (29, .int .i64 3), (30, .int .i64 0), (38, .bool false)] (by kernel_rfl) fun a hs => ?_
  refine s_end ?_
  refine c_condF hs (by kernel_rfl) (by kernel_rfl) ?_
  refine c_skip ?_
  refine c_region ?_
  refine pures hs 2 [1, 28, 29, 30] [(1, .pointer (some ⟨b229, 0, none⟩)), (28, .slice p275 3 c276), (29, .int .i64 3), (30, .int .i64 1)] (by kernel_rfl) fun a hs => ?_
  refine s_end ?_
  refine c_unr ?_
  refine c_seq ?_
  refine c_region ?_
  refine pures hs 1 [1, 28, 29, 30, 31] [(1, .pointer (some ⟨b229, 0, none⟩)), (28, .slice p275 3 c276), (29, .int .i64 3), (30, .int .i64 1), (31, .bool true)] (by kernel_rfl) fun a hs => ?_
  refine s_end ?_
  refine c_seq ?_
  refine c_condT hs (by kernel_rfl) (by kernel_rfl) ?_
  refine c_skip ?_
  refine c_seq ?_
  refine c_block ?_
  refine c_seq ?_
  refine c_region ?_
  have h394 : ix ([(M101.mk (.func (.func 86) #[] #[]) (.func (.func 102) #[] #[.pointer (some ⟨b280, 0, none⟩), .pointer (some ⟨b282, 0, none⟩)]) (.func (.func 104) #[] #[.pointer (some ⟨b282, 0, none⟩), .pointer (some ⟨b280, 0, none⟩)])), (M101.mk (.func (.func 91) #[] #[]) (.func (.func 106) #[] #[.pointer (some ⟨b284, 0, none⟩)]) (.func (.func 107) #[] #[.pointer (some ⟨b284, 0, none⟩)])), (M101.mk (.func (.func 128) #[] #[]) (.func (.func 129) #[] #[]) (.func (.func 130) #[] #[]))]) 1 = some (M101.mk (.func (.func 91) #[] #[]) (.func (.func 106) #[] #[.pointer (some ⟨b284, 0, none⟩)]) (.func (.func 107) #[] #[.pointer (some ⟨b284, 0, none⟩)])) := rfl
  refine s_indexO hs h277 (by kernel_rfl) (by kernel_rfl) (k := .i64) (by kernel_rfl) 101 (by kernel_rfl) (by kernel_rfl) h394 fun a r395 cs henc at396 h400 hs => ?_
  obtain ⟨rfl, h397, h398, h399⟩ := henc
  refine s_load hs (at396 _ ((hw.vw 0 rfl).anti (Le.refl _))) 0 (by kernel_rfl) (by kernel_rfl) (v := .agg #[.func (.func 91) #[] #[], .func (.func 106) #[] #[.pointer (some ⟨b284, 0, none⟩)], .func (.func 107) #[] #[.pointer (some ⟨b284, 0, none⟩)]]) (by kernel_rfl) fun a hs => ?_
  refine s_new hs hw [.nilFunc, .nilFunc, .nilFunc] 101 (fun b => .pointer (some ⟨b, 0, none⟩)) (by kernel_rfl) (fun _ => by kernel_rfl) fun a w b401 hs hw => ?_
  refine s_store hs hw 0 rfl 0 (by kernel_rfl) (by kernel_rfl) (v := .agg #[.func (.func 91) #[] #[], .func (.func 106) #[] #[.pointer (some ⟨b284, 0, none⟩)], .func (.func 107) #[] #[.pointer (some ⟨b284, 0, none⟩)]]) (by kernel_rfl) (by kernel_rfl) (by kernel_rfl) (by kernel_rfl) fun a w hs hw => ?_
  refine s_end ?_
  refine c_seq ?_
  refine c_region ?_
  refine pures hs 1 [1, 28, 29, 30, 34] [(1, .pointer (some ⟨b229, 0, none⟩)), (28, .slice p275 3 c276), (29, .int .i64 3), (30, .int .i64 1), (34, .pointer (some ⟨b401, 0, none⟩))] (by kernel_rfl) fun a hs => ?_
  refine s_load hs (hw.at_ 0 rfl) 0 (by kernel_rfl) (by kernel_rfl) (v := .func (.func 91) #[] #[]) (by kernel_rfl) fun a hs => ?_
  refine s_load hs (hw.at_ 5 rfl) 0 (by kernel_rfl) (by kernel_rfl) (v := .agg #[.int .i64 17, .int .i64 1, .int .i64 1, .int .i64 0, .int .u64 1, .int .u64 0, .int .u64 0, .int .u64 0, .int .u64 0, .int .u64 0, .int .i64 0, .int .u32 0, .int .i64 0, .int .i64 0, .int .i64 0, .int .u64 0, .int .i64 0, .int .i64 0, .int .u64 0, .slice none 0 0, .bool false, .int .i64 0, .slice none 0 0, .slice p2 x1.length c3, .slice none 0 0]) (by kernel_rfl) fun a hs => ?_
  have h406 : letter_of_5_3 = some () := rfl
  refine s_call hs (by kernel_rfl) (by kernel_rfl) (letter_of_5_3_s h406 h4 ((hw.pick [1, 2, 3, 4, 5, 6] (by kernel_rfl)).pack 0)) fun a w v hv hs => ?_
  obtain ⟨rfl, hw⟩ := hv
  replace hw := hw.unpack 0 rfl
  refine pures hs 1 [1, 28, 29, 30, 38] [(1, .pointer (some ⟨b229, 0, none⟩)), (28, .slice p275 3 c276), (29, .int .i64 3), (30, .int .i64 1), (38, .bool false)] (by kernel_rfl) fun a hs => ?_
  refine s_end ?_
  refine c_condF hs (by kernel_rfl) (by kernel_rfl) ?_
  refine c_skip ?_
  refine c_region ?_
  refine pures hs 2 [1, 28, 29, 30] [(1, .pointer (some ⟨b229, 0, none⟩)), (28, .slice p275 3 c276), (29, .int .i64 3), (30, .int .i64 2)] (by kernel_rfl) fun a hs => ?_
  refine s_end ?_
  refine c_unr ?_
  refine c_seq ?_
  refine c_region ?_
  refine pures hs 1 [1, 28, 29, 30, 31] [(1, .pointer (some ⟨b229, 0, none⟩)), (28, .slice p275 3 c276), (29, .int .i64 3), (30, .int .i64 2), (31, .bool true)] (by kernel_rfl) fun a hs => ?_
  refine s_end ?_
  refine c_seq ?_
  refine c_condT hs (by kernel_rfl) (by kernel_rfl) ?_
  refine c_skip ?_
  refine c_seq ?_
  refine c_block ?_
  refine c_seq ?_
  refine c_region ?_
  have h418 : ix ([(M101.mk (.func (.func 86) #[] #[]) (.func (.func 102) #[] #[.pointer (some ⟨b280, 0, none⟩), .pointer (some ⟨b282, 0, none⟩)]) (.func (.func 104) #[] #[.pointer (some ⟨b282, 0, none⟩), .pointer (some ⟨b280, 0, none⟩)])), (M101.mk (.func (.func 91) #[] #[]) (.func (.func 106) #[] #[.pointer (some ⟨b284, 0, none⟩)]) (.func (.func 107) #[] #[.pointer (some ⟨b284, 0, none⟩)])), (M101.mk (.func (.func 128) #[] #[]) (.func (.func 129) #[] #[]) (.func (.func 130) #[] #[]))]) 2 = some (M101.mk (.func (.func 128) #[] #[]) (.func (.func 129) #[] #[]) (.func (.func 130) #[] #[])) := rfl
  refine s_indexO hs h277 (by kernel_rfl) (by kernel_rfl) (k := .i64) (by kernel_rfl) 101 (by kernel_rfl) (by kernel_rfl) h418 fun a r419 cs henc at420 h424 hs => ?_
  obtain ⟨rfl, h421, h422, h423⟩ := henc
  refine s_load hs (at420 _ ((hw.vw 0 rfl).anti (Le.refl _))) 0 (by kernel_rfl) (by kernel_rfl) (v := .agg #[.func (.func 128) #[] #[], .func (.func 129) #[] #[], .func (.func 130) #[] #[]]) (by kernel_rfl) fun a hs => ?_
  refine s_new hs hw [.nilFunc, .nilFunc, .nilFunc] 101 (fun b => .pointer (some ⟨b, 0, none⟩)) (by kernel_rfl) (fun _ => by kernel_rfl) fun a w b425 hs hw => ?_
  refine s_store hs hw 0 rfl 0 (by kernel_rfl) (by kernel_rfl) (v := .agg #[.func (.func 128) #[] #[], .func (.func 129) #[] #[], .func (.func 130) #[] #[]]) (by kernel_rfl) (by kernel_rfl) (by kernel_rfl) (by kernel_rfl) fun a w hs hw => ?_
  refine s_end ?_
  refine c_seq ?_
  refine c_region ?_
  refine pures hs 1 [1, 28, 29, 30, 34] [(1, .pointer (some ⟨b229, 0, none⟩)), (28, .slice p275 3 c276), (29, .int .i64 3), (30, .int .i64 2), (34, .pointer (some ⟨b425, 0, none⟩))] (by kernel_rfl) fun a hs => ?_
  refine s_load hs (hw.at_ 0 rfl) 0 (by kernel_rfl) (by kernel_rfl) (v := .func (.func 128) #[] #[]) (by kernel_rfl) fun a hs => ?_
  refine s_load hs (hw.at_ 5 rfl) 0 (by kernel_rfl) (by kernel_rfl) (v := .agg #[.int .i64 17, .int .i64 1, .int .i64 1, .int .i64 0, .int .u64 1, .int .u64 0, .int .u64 0, .int .u64 0, .int .u64 0, .int .u64 0, .int .i64 0, .int .u32 0, .int .i64 0, .int .i64 0, .int .i64 0, .int .u64 0, .int .i64 0, .int .i64 0, .int .u64 0, .slice none 0 0, .bool false, .int .i64 0, .slice none 0 0, .slice p2 x1.length c3, .slice none 0 0]) (by kernel_rfl) fun a hs => ?_
  obtain ⟨y429, h430, hk⟩ := bindE hk
  refine s_call hs (by kernel_rfl) (by kernel_rfl) (letter_updates_2_s h430 h4 ((hw.pick [1, 2, 3, 4, 5, 6] (by kernel_rfl)).pack 0)) fun a w v hv hs => ?_
  obtain ⟨rfl, hw⟩ := hv
  replace hw := hw.unpack 0 rfl
  refine pures hs 1 [1, 28, 29, 30, 38] [(1, .pointer (some ⟨b229, 0, none⟩)), (28, .slice p275 3 c276), (29, .int .i64 3), (30, .int .i64 2), (38, .bool (!y429))] (by kernel_rfl) fun a hs => ?_
  refine s_end ?_
  rcases ifbE hk with ⟨h431, hk⟩ | ⟨h431, hk⟩
  · refine c_cond1 hs (by kernel_rfl) (t := (!y429)) (by kernel_rfl) h431 ?_
    refine c_seq ?_
    refine c_region ?_
    refine pures hs 1 [2] [(2, .int .i64 4)] (by kernel_rfl) fun a hs => ?_
    refine s_end ?_
    refine c_ret ?_
    obtain rfl := someE hk
    refine hQ _ _ (f_ret1 hs rfl (v := .int .i64 4) (by kernel_rfl) ⟨rfl, hw.pick [5] (by kernel_rfl)⟩)
  refine c_cond0 hs (by kernel_rfl) (t := (!y429)) (by kernel_rfl) h431 ?_
  refine c_skip ?_
  refine c_region ?_
  refine pures hs 2 [1, 28, 29, 30] [(1, .pointer (some ⟨b229, 0, none⟩)), (28, .slice p275 3 c276), (29, .int .i64 3), (30, .int .i64 3)] (by kernel_rfl) fun a hs => ?_
  refine s_end ?_
  refine c_unr ?_
  refine c_seq ?_
  refine c_region ?_
  refine pures hs 1 [1, 28, 29, 30, 31] [(1, .pointer (some ⟨b229, 0, none⟩)), (28, .slice p275 3 c276), (29, .int .i64 3), (30, .int .i64 3), (31, .bool false)] (by kernel_rfl) fun a hs => ?_
  refine s_end ?_
  refine c_seq ?_
  refine c_condF hs (by kernel_rfl) (by kernel_rfl) ?_
  refine c_exit ?_
  refine c_seq ?_
  refine c_region ?_
  refine pures hs 1 [2] [(2, .int .i64 0)] (by kernel_rfl) fun a hs => ?_
  refine s_end ?_
  refine c_ret ?_
  obtain rfl := someE hk
  refine hQ _ _ (f_ret1 hs rfl (v := .int .i64 0) (by kernel_rfl) ⟨rfl, hw.pick [5] (by kernel_rfl)⟩)
def update_check_2 (k : Nat) (x1 : M26) : Option Int :=
  (update_writes_2 x1.f3).bind fun y37 =>
  if (!y37) = true then some 1
  else if (decide ((x1.f6.length : Int) > 2048)) = true then some 6
  else (letter_Check_2 k ([x1])).bind fun y53 =>
  some y53
theorem update_check_2_s {k : Nat} {x1 : M26} {p2 : Option Addr} {c3 : Nat} {r : Int} (hk : update_check_2 k x1 = some r) {g w : World} {F : Ch} {ih : IH} (h4 : RSl e5 ih [] p2 c3 x1.f6) (hG : Glob 0 gl0 110 ih) (hw : St g w [F] ih) :
    CallsR Tryz.prog 43 #[.agg #[.int .u64 x1.f0, .int .i64 x1.f1, .int .u64 x1.f2, .int .i64 x1.f3, .int .u32 x1.f4, .int .u64 x1.f5, .slice p2 x1.f6.length c3], .int .i64 17] w fun v w' => ∃ (ih' : IH), v = .int .i64 r ∧ St g w' [F] ih' ∧ Le ih ih' := by
  refine f_in (vs := [.agg #[.int .u64 x1.f0, .int .i64 x1.f1, .int .u64 x1.f2, .int .i64 x1.f3, .int .u32 x1.f4, .int .u64 x1.f5, .slice p2 x1.f6.length c3], .int .i64 17]) Tryz.func43 rfl 20 rfl (by kernel_rfl) [(0, .agg #[.int .u64 x1.f0, .int .i64 x1.f1, .int .u64 x1.f2, .int .i64 x1.f3, .int .u32 x1.f4, .int .u64 x1.f5, .slice p2 x1.f6.length c3]), (1, .int .i64 17)] (by kernel_rfl) fun a Qf hQ hQn hs => ?_
  refine c_seq ?_
  refine c_region ?_
  refine s_new hs hw [.int .u64 x1.f0, .int .i64 x1.f1, .int .u64 x1.f2, .int .i64 x1.f3, .int .u32 x1.f4, .int .u64 x1.f5, .slice p2 x1.f6.length c3] 26 (fun b => .pointer (some ⟨b, 0, none⟩)) (by kernel_rfl) (fun _ => by kernel_rfl) fun a w b33 hs hw => ?_
  refine pures hs 1 [1, 2] [(1, .int .i64 17), (2, .pointer (some ⟨b33, 0, none⟩))] (by kernel_rfl) fun a hs => ?_
  refine s_end ?_
  refine c_seq ?_
  refine c_block ?_
  refine c_seq ?_
  refine c_region ?_
  refine pures hs 1 [1, 2, 6] [(1, .int .i64 17), (2, .pointer (some ⟨b33, 0, none⟩)), (6, .pointer (some ⟨b33, 3, none⟩))] (by kernel_rfl) fun a hs => ?_
  refine s_load hs (hw.at_ 0 rfl) 3 (by kernel_rfl) (by kernel_rfl) (v := .int .i64 x1.f3) (by kernel_rfl) fun a hs => ?_
  obtain ⟨y37, h38, hk⟩ := bindE hk
  refine s_call hs (by kernel_rfl) (by kernel_rfl) (update_writes_2_s h38 ((hw.pick [0, 1] (by kernel_rfl)).pack 0)) fun a w v hv hs => ?_
  obtain ⟨rfl, hw⟩ := hv
  replace hw := hw.unpack 0 rfl
  refine pures hs 2 [1, 2, 5] [(1, .int .i64 17), (2, .pointer (some ⟨b33, 0, none⟩)), (5, .bool (!y37))] (by kernel_rfl) fun a hs => ?_
  refine s_end ?_
  rcases ifbE hk with ⟨h39, hk⟩ | ⟨h39, hk⟩
  · refine c_cond1 hs (by kernel_rfl) (t := (!y37)) (by kernel_rfl) h39 ?_
    refine c_seq ?_
    refine c_region ?_
    refine pures hs 1 [4] [(4, .int .i64 1)] (by kernel_rfl) fun a hs => ?_
    refine s_end ?_
    refine c_ret ?_
    obtain rfl := someE hk
    refine hQ _ _ (f_ret1 hs rfl (v := .int .i64 1) (by kernel_rfl) ⟨ih, rfl, hw.pick [1] (by kernel_rfl), (Le.refl _)⟩)
  refine c_cond0 hs (by kernel_rfl) (t := (!y37)) (by kernel_rfl) h39 ?_
  refine c_seq ?_
  refine c_region ?_
  refine pures hs 1 [1, 2, 11] [(1, .int .i64 17), (2, .pointer (some ⟨b33, 0, none⟩)), (11, .pointer (some ⟨b33, 6, none⟩))] (by kernel_rfl) fun a hs => ?_
  refine s_load hs (hw.at_ 0 rfl) 6 (by kernel_rfl) (by kernel_rfl) (v := .slice p2 x1.f6.length c3) (by kernel_rfl) fun a hs => ?_
  refine pures hs 3 [1, 2, 10] [(1, .int .i64 17), (2, .pointer (some ⟨b33, 0, none⟩)), (10, .bool (decide ((x1.f6.length : Int) > 2048)))] (by kernel_rfl) fun a hs => ?_
  refine s_end ?_
  rcases ifbE hk with ⟨h40, hk⟩ | ⟨h40, hk⟩
  · refine c_cond1 hs (by kernel_rfl) (t := (decide ((x1.f6.length : Int) > 2048))) (by kernel_rfl) h40 ?_
    refine c_seq ?_
    refine c_region ?_
    refine pures hs 1 [4] [(4, .int .i64 6)] (by kernel_rfl) fun a hs => ?_
    refine s_end ?_
    refine c_ret ?_
    obtain rfl := someE hk
    refine hQ _ _ (f_ret1 hs rfl (v := .int .i64 6) (by kernel_rfl) ⟨ih, rfl, hw.pick [1] (by kernel_rfl), (Le.refl _)⟩)
  refine c_cond0 hs (by kernel_rfl) (t := (decide ((x1.f6.length : Int) > 2048))) (by kernel_rfl) h40 ?_
  refine c_skip ?_
  refine c_seq ?_
  refine c_region ?_
  refine pures hs 1 [2, 15] [(2, .pointer (some ⟨b33, 0, none⟩)), (15, .int .i64 17)] (by kernel_rfl) fun a hs => ?_
  refine s_load hs (hw.at_ 0 rfl) 0 (by kernel_rfl) (by kernel_rfl) (v := .agg #[.int .u64 x1.f0, .int .i64 x1.f1, .int .u64 x1.f2, .int .i64 x1.f3, .int .u32 x1.f4, .int .u64 x1.f5, .slice p2 x1.f6.length c3]) (by kernel_rfl) fun a hs => ?_
  refine s_new hs hw [.int .u64 x1.f0, .int .i64 x1.f1, .int .u64 x1.f2, .int .i64 x1.f3, .int .u32 x1.f4, .int .u64 x1.f5, .slice p2 x1.f6.length c3] 26 (fun b => .slice (some ⟨b, 0, none⟩) 1 1) (by kernel_rfl) (fun _ => by kernel_rfl) fun a w b48 hs hw => ?_
  obtain ⟨ih50, hle51, hw, h52⟩ := (hw.pick [0, 1, 2] (by kernel_rfl)).fz ((OSl.of1 (E := e26) (z := x1) ⟨p2, c3, rfl, h4⟩ (by simp [maxLen])).mono (Le.refl _))
  refine pures hs 1 [18] [(18, .agg #[.int .i64 17, .int .i64 1, .int .i64 1, .int .i64 0, .int .u64 1, .int .u64 0, .int .u64 0, .int .u64 0, .int .u64 0, .int .u64 0, .int .i64 0, .int .u32 0, .int .i64 0, .int .i64 0, .int .i64 0, .int .u64 0, .int .i64 0, .int .i64 0, .int .u64 0, .slice none 0 0, .bool false, .int .i64 0, .slice none 0 0, .slice (some ⟨b48, 0, none⟩) 1 1, .slice none 0 0])] (by kernel_rfl) fun a hs => ?_
  obtain ⟨y53, h54, hk⟩ := bindE hk
  refine s_call hs (by kernel_rfl) (by kernel_rfl) (letter_Check_2_s h54 h52 (hG.mono hle51) ((hw.pick [1] (by kernel_rfl)).pack 0)) fun a w v hv hs => ?_
  obtain ⟨rfl, hw⟩ := hv
  replace hw := hw.unpack 0 rfl
  refine pures hs 1 [4] [(4, .int .i64 y53)] (by kernel_rfl) fun a hs => ?_
  refine s_end ?_
  refine c_ret ?_
  obtain rfl := someE hk
  refine hQ _ _ (f_ret1 hs rfl (v := .int .i64 y53) (by kernel_rfl) ⟨ih50, rfl, hw.pick [0] (by kernel_rfl), hle51⟩)
def update_Asked (k : Nat) (x1 : M26) : Option Int :=
  (update_check_2 k x1).bind fun y27 =>
  some y27
theorem update_Asked_s {k : Nat} {x1 : M26} {p2 : Option Addr} {c3 : Nat} {r : Int} (hk : update_Asked k x1 = some r) {g w : World} {F : Ch} {ih : IH} (h4 : RSl e5 ih [] p2 c3 x1.f6) (hG : Glob 0 gl0 110 ih) (hw : St g w [F] ih) :
    CallsR Tryz.prog 15 #[.agg #[.int .u64 x1.f0, .int .i64 x1.f1, .int .u64 x1.f2, .int .i64 x1.f3, .int .u32 x1.f4, .int .u64 x1.f5, .slice p2 x1.f6.length c3]] w fun v w' => ∃ (ih' : IH), v = .int .i64 r ∧ St g w' [F] ih' ∧ Le ih ih' := by
  refine f_in (vs := [.agg #[.int .u64 x1.f0, .int .i64 x1.f1, .int .u64 x1.f2, .int .i64 x1.f3, .int .u32 x1.f4, .int .u64 x1.f5, .slice p2 x1.f6.length c3]]) Tryz.func15 rfl 5 rfl (by kernel_rfl) [(0, .agg #[.int .u64 x1.f0, .int .i64 x1.f1, .int .u64 x1.f2, .int .i64 x1.f3, .int .u32 x1.f4, .int .u64 x1.f5, .slice p2 x1.f6.length c3])] (by kernel_rfl) fun a Qf hQ hQn hs => ?_
  refine c_seq ?_
  refine c_region ?_
  refine s_new hs hw [.int .u64 x1.f0, .int .i64 x1.f1, .int .u64 x1.f2, .int .i64 x1.f3, .int .u32 x1.f4, .int .u64 x1.f5, .slice p2 x1.f6.length c3] 26 (fun b => .pointer (some ⟨b, 0, none⟩)) (by kernel_rfl) (fun _ => by kernel_rfl) fun a w b21 hs hw => ?_
  refine pures hs 1 [1] [(1, .pointer (some ⟨b21, 0, none⟩))] (by kernel_rfl) fun a hs => ?_
  refine s_end ?_
  refine c_seq ?_
  refine c_region ?_
  refine s_load hs (hw.at_ 0 rfl) 0 (by kernel_rfl) (by kernel_rfl) (v := .agg #[.int .u64 x1.f0, .int .i64 x1.f1, .int .u64 x1.f2, .int .i64 x1.f3, .int .u32 x1.f4, .int .u64 x1.f5, .slice p2 x1.f6.length c3]) (by kernel_rfl) fun a hs => ?_
  obtain ⟨y27, h28, hk⟩ := bindE hk
  refine s_call hs (by kernel_rfl) (by kernel_rfl) (update_check_2_s h28 h4 (hG.mono (Le.refl _)) ((hw.pick [1] (by kernel_rfl)).pack 0)) fun a w v hv hs => ?_
  obtain ⟨ih29, rfl, hw, hle30⟩ := hv
  replace hw := hw.unpack 0 rfl
  refine pures hs 1 [2] [(2, .int .i64 y27)] (by kernel_rfl) fun a hs => ?_
  refine s_end ?_
  refine c_ret ?_
  obtain rfl := someE hk
  refine hQ _ _ (f_ret1 hs rfl (v := .int .i64 y27) (by kernel_rfl) ⟨ih29, rfl, hw.pick [0] (by kernel_rfl), hle30⟩)
def catenaryref17_check_2 (x1 : M26) : Option Int :=
  if ((x1.f3 != 2) && (x1.f3 != 3)) = true then some 1
  else if (decide ((x1.f6.length : Int) > 2048)) = true then some 6
  else if ((!((decide (x1.f0 > 0)) == false)) || ((decide (x1.f1 < 1)) || ((decide (x1.f1 > 6)) || ((x1.f2 == 0) || ((x1.f3 == 2) && (decide (x1.f5 > 0))))))) = true then some 4
  else some 0
theorem catenaryref17_check_2_s {x1 : M26} {p2 : Option Addr} {c3 : Nat} {r : Int} (hk : catenaryref17_check_2 x1 = some r) {g w : World} {F : Ch} {ih : IH} (h4 : RSl e5 ih [] p2 c3 x1.f6) (hw : St g w [F] ih) :
    CallsR Tryz.prog 44 #[.agg #[.int .u64 x1.f0, .int .i64 x1.f1, .int .u64 x1.f2, .int .i64 x1.f3, .int .u32 x1.f4, .int .u64 x1.f5, .slice p2 x1.f6.length c3], .bool false] w fun v w' => v = .int .i64 r ∧ St g w' [F] ih := by
  refine f_in (vs := [.agg #[.int .u64 x1.f0, .int .i64 x1.f1, .int .u64 x1.f2, .int .i64 x1.f3, .int .u32 x1.f4, .int .u64 x1.f5, .slice p2 x1.f6.length c3], .bool false]) Tryz.func44 rfl 47 rfl (by kernel_rfl) [(0, .agg #[.int .u64 x1.f0, .int .i64 x1.f1, .int .u64 x1.f2, .int .i64 x1.f3, .int .u32 x1.f4, .int .u64 x1.f5, .slice p2 x1.f6.length c3]), (1, .bool false)] (by kernel_rfl) fun a Qf hQ hQn hs => ?_
  refine c_seq ?_
  refine c_region ?_
  refine s_new hs hw [.int .u64 x1.f0, .int .i64 x1.f1, .int .u64 x1.f2, .int .i64 x1.f3, .int .u32 x1.f4, .int .u64 x1.f5, .slice p2 x1.f6.length c3] 26 (fun b => .pointer (some ⟨b, 0, none⟩)) (by kernel_rfl) (fun _ => by kernel_rfl) fun a w b38 hs hw => ?_
  refine pures hs 1 [1, 2] [(1, .bool false), (2, .pointer (some ⟨b38, 0, none⟩))] (by kernel_rfl) fun a hs => ?_
  refine s_end ?_
  refine c_seq ?_
  refine c_seq ?_
  obtain ⟨J43, hJ43⟩ : ∃ J : Act → World → Prop, ∀ a w, J a w ↔ (Sees a 47 [(1, .bool false), (2, .pointer (some ⟨b38, 0, none⟩)), (12, .bool ((x1.f3 != 2) && (x1.f3 != 3)))] ∧ St g w [bx b38 [.int .u64 x1.f0, .int .i64 x1.f1, .int .u64 x1.f2, .int .i64 x1.f3, .int .u32 x1.f4, .int .u64 x1.f5, .slice p2 x1.f6.length c3] 26, F] ih) := ⟨_, fun _ _ => Iff.rfl⟩
  refine c_regJ J43 ?_ ?_
  · refine pures hs 1 [1, 2, 5] [(1, .bool false), (2, .pointer (some ⟨b38, 0, none⟩)), (5, .pointer (some ⟨b38, 3, none⟩))] (by kernel_rfl) fun a hs => ?_
    refine s_load hs (hw.at_ 0 rfl) 3 (by kernel_rfl) (by kernel_rfl) (v := .int .i64 x1.f3) (by kernel_rfl) fun a hs => ?_
    refine pures hs 2 [1, 2, 8] [(1, .bool false), (2, .pointer (some ⟨b38, 0, none⟩)), (8, .bool (x1.f3 != 2))] (by kernel_rfl) fun a hs => ?_
    rcases boolE (x1.f3 != 2) with h44 | h44
    · replace hs := hs.altB 8 true (by kernel_rfl) h44
      refine pures hs 1 [1, 2, 8, 9] [(1, .bool false), (2, .pointer (some ⟨b38, 0, none⟩)), (8, .bool true), (9, .pointer (some ⟨b38, 3, none⟩))] (by kernel_rfl) fun a hs => ?_
      refine s_load hs (hw.at_ 0 rfl) 3 (by kernel_rfl) (by kernel_rfl) (v := .int .i64 x1.f3) (by kernel_rfl) fun a hs => ?_
      refine pures hs 2 [1, 2, 12] [(1, .bool false), (2, .pointer (some ⟨b38, 0, none⟩)), (12, .bool (x1.f3 != 3))] (by kernel_rfl) fun a hs => ?_
      refine s_end ?_
      exact (hJ43 _ _).2 ⟨(hs.altB 12 ((x1.f3 != 2) && (x1.f3 != 3)) (by kernel_rfl) (by rw [h44] <;> rfl)).cast [1, 2, 12] (by kernel_rfl), hw.pick [0, 1] (by kernel_rfl)⟩
    replace hs := hs.altB 8 false (by kernel_rfl) h44
    refine pures hs 4 [1, 2, 12] [(1, .bool false), (2, .pointer (some ⟨b38, 0, none⟩)), (12, .bool false)] (by kernel_rfl) fun a hs => ?_
    refine s_end ?_
    exact (hJ43 _ _).2 ⟨(hs.altB 12 ((x1.f3 != 2) && (x1.f3 != 3)) (by kernel_rfl) (by rw [h44] <;> rfl)).cast [1, 2, 12] (by kernel_rfl), hw.pick [0, 1] (by kernel_rfl)⟩
  intro a w hh
  obtain ⟨hs, hw⟩ := (hJ43 _ _).1 hh
  rcases ifbE hk with ⟨h45, hk⟩ | ⟨h45, hk⟩
  · refine c_cond1 hs (by kernel_rfl) (t := ((x1.f3 != 2) && (x1.f3 != 3))) (by kernel_rfl) h45 ?_
    refine c_seq ?_
    refine c_region ?_
    refine pures hs 1 [4] [(4, .int .i64 1)] (by kernel_rfl) fun a hs => ?_
    refine s_end ?_
    refine c_ret ?_
    obtain rfl := someE hk
    refine hQ _ _ (f_ret1 hs rfl (v := .int .i64 1) (by kernel_rfl) ⟨rfl, hw.pick [1] (by kernel_rfl)⟩)
  refine c_cond0 hs (by kernel_rfl) (t := ((x1.f3 != 2) && (x1.f3 != 3))) (by kernel_rfl) h45 ?_
  refine c_skip ?_
  refine c_seq ?_
  refine c_seq ?_
  refine c_region ?_
  refine pures hs 1 [1, 2, 13] [(1, .bool false), (2, .pointer (some ⟨b38, 0, none⟩)), (13, .pointer (some ⟨b38, 6, none⟩))] (by kernel_rfl) fun a hs => ?_
  refine s_load hs (hw.at_ 0 rfl) 6 (by kernel_rfl) (by kernel_rfl) (v := .slice p2 x1.f6.length c3) (by kernel_rfl) fun a hs => ?_
  refine pures hs 2 [1, 2, 16] [(1, .bool false), (2, .pointer (some ⟨b38, 0, none⟩)), (16, .bool (decide ((x1.f6.length : Int) > 2048)))] (by kernel_rfl) fun a hs => ?_
  refine s_end ?_
  rcases ifbE hk with ⟨h46, hk⟩ | ⟨h46, hk⟩
  · refine c_cond1 hs (by kernel_rfl) (t := (decide ((x1.f6.length : Int) > 2048))) (by kernel_rfl) h46 ?_
    refine c_seq ?_
    refine c_region ?_
    refine pures hs 1 [4] [(4, .int .i64 6)] (by kernel_rfl) fun a hs => ?_
    refine s_end ?_
    refine c_ret ?_
    obtain rfl := someE hk
    refine hQ _ _ (f_ret1 hs rfl (v := .int .i64 6) (by kernel_rfl) ⟨rfl, hw.pick [1] (by kernel_rfl)⟩)
  refine c_cond0 hs (by kernel_rfl) (t := (decide ((x1.f6.length : Int) > 2048))) (by kernel_rfl) h46 ?_
  refine c_skip ?_
  refine c_seq ?_
  refine c_seq ?_
  obtain ⟨J58, hJ58⟩ : ∃ J : Act → World → Prop, ∀ a w, J a w ↔ (Sees a 47 [(46, .bool ((!((decide (x1.f0 > 0)) == false)) || ((decide (x1.f1 < 1)) || ((decide (x1.f1 > 6)) || ((x1.f2 == 0) || ((x1.f3 == 2) && (decide (x1.f5 > 0))))))))] ∧ St g w [F] ih) := ⟨_, fun _ _ => Iff.rfl⟩
  refine c_regJ J58 ?_ ?_
  · refine pures hs 1 [1, 2, 17] [(1, .bool false), (2, .pointer (some ⟨b38, 0, none⟩)), (17, .pointer (some ⟨b38, 0, none⟩))] (by kernel_rfl) fun a hs => ?_
    refine s_load hs (hw.at_ 0 rfl) 0 (by kernel_rfl) (by kernel_rfl) (v := .int .u64 x1.f0) (by kernel_rfl) fun a hs => ?_
    refine pures hs 4 [2, 22] [(2, .pointer (some ⟨b38, 0, none⟩)), (22, .bool (!((decide (x1.f0 > 0)) == false)))] (by kernel_rfl) fun a hs => ?_
    rcases boolE (!((decide (x1.f0 > 0)) == false)) with h59 | h59
    · replace hs := hs.altB 22 true (by kernel_rfl) h59
      refine pures hs 24 [46] [(46, .bool true)] (by kernel_rfl) fun a hs => ?_
      refine s_end ?_
      exact (hJ58 _ _).2 ⟨(hs.altB 46 ((!((decide (x1.f0 > 0)) == false)) || ((decide (x1.f1 < 1)) || ((decide (x1.f1 > 6)) || ((x1.f2 == 0) || ((x1.f3 == 2) && (decide (x1.f5 > 0))))))) (by kernel_rfl) (by rw [h59] <;> rfl)).cast [46] (by kernel_rfl), hw.pick [1] (by kernel_rfl)⟩
    replace hs := hs.altB 22 false (by kernel_rfl) h59
    refine pures hs 1 [2, 22, 23] [(2, .pointer (some ⟨b38, 0, none⟩)), (22, .bool false), (23, .pointer (some ⟨b38, 1, none⟩))] (by kernel_rfl) fun a hs => ?_
    refine s_load hs (hw.at_ 0 rfl) 1 (by kernel_rfl) (by kernel_rfl) (v := .int .i64 x1.f1) (by kernel_rfl) fun a hs => ?_
    refine pures hs 3 [2, 27] [(2, .pointer (some ⟨b38, 0, none⟩)), (27, .bool (decide (x1.f1 < 1)))] (by kernel_rfl) fun a hs => ?_
    rcases boolE (decide (x1.f1 < 1)) with h60 | h60
    · replace hs := hs.altB 27 true (by kernel_rfl) h60
      refine pures hs 19 [46] [(46, .bool true)] (by kernel_rfl) fun a hs => ?_
      refine s_end ?_
      exact (hJ58 _ _).2 ⟨(hs.altB 46 ((!((decide (x1.f0 > 0)) == false)) || ((decide (x1.f1 < 1)) || ((decide (x1.f1 > 6)) || ((x1.f2 == 0) || ((x1.f3 == 2) && (decide (x1.f5 > 0))))))) (by kernel_rfl) (by rw [h59, h60] <;> rfl)).cast [46] (by kernel_rfl), hw.pick [1] (by kernel_rfl)⟩
    replace hs := hs.altB 27 false (by kernel_rfl) h60
    refine pures hs 1 [2, 27, 28] [(2, .pointer (some ⟨b38, 0, none⟩)), (27, .bool false), (28, .pointer (some ⟨b38, 1, none⟩))] (by kernel_rfl) fun a hs => ?_
    refine s_load hs (hw.at_ 0 rfl) 1 (by kernel_rfl) (by kernel_rfl) (v := .int .i64 x1.f1) (by kernel_rfl) fun a hs => ?_
    refine pures hs 3 [2, 32] [(2, .pointer (some ⟨b38, 0, none⟩)), (32, .bool (decide (x1.f1 > 6)))] (by kernel_rfl) fun a hs => ?_
    rcases boolE (decide (x1.f1 > 6)) with h61 | h61
    · replace hs := hs.altB 32 true (by kernel_rfl) h61
      refine pures hs 14 [46] [(46, .bool true)] (by kernel_rfl) fun a hs => ?_
      refine s_end ?_
      exact (hJ58 _ _).2 ⟨(hs.altB 46 ((!((decide (x1.f0 > 0)) == false)) || ((decide (x1.f1 < 1)) || ((decide (x1.f1 > 6)) || ((x1.f2 == 0) || ((x1.f3 == 2) && (decide (x1.f5 > 0))))))) (by kernel_rfl) (by rw [h59, h60, h61] <;> rfl)).cast [46] (by kernel_rfl), hw.pick [1] (by kernel_rfl)⟩
    replace hs := hs.altB 32 false (by kernel_rfl) h61
    refine pures hs 1 [2, 32, 33] [(2, .pointer (some ⟨b38, 0, none⟩)), (32, .bool false), (33, .pointer (some ⟨b38, 2, none⟩))] (by kernel_rfl) fun a hs => ?_
    refine s_load hs (hw.at_ 0 rfl) 2 (by kernel_rfl) (by kernel_rfl) (v := .int .u64 x1.f2) (by kernel_rfl) fun a hs => ?_
    refine pures hs 3 [2, 37] [(2, .pointer (some ⟨b38, 0, none⟩)), (37, .bool (x1.f2 == 0))] (by kernel_rfl) fun a hs => ?_
    rcases boolE (x1.f2 == 0) with h62 | h62
    · replace hs := hs.altB 37 true (by kernel_rfl) h62
      refine pures hs 9 [46] [(46, .bool true)] (by kernel_rfl) fun a hs => ?_
      refine s_end ?_
      exact (hJ58 _ _).2 ⟨(hs.altB 46 ((!((decide (x1.f0 > 0)) == false)) || ((decide (x1.f1 < 1)) || ((decide (x1.f1 > 6)) || ((x1.f2 == 0) || ((x1.f3 == 2) && (decide (x1.f5 > 0))))))) (by kernel_rfl) (by rw [h59, h60, h61, h62] <;> rfl)).cast [46] (by kernel_rfl), hw.pick [1] (by kernel_rfl)⟩
    replace hs := hs.altB 37 false (by kernel_rfl) h62
    refine pures hs 1 [2, 37, 38] [(2, .pointer (some ⟨b38, 0, none⟩)), (37, .bool false), (38, .pointer (some ⟨b38, 3, none⟩))] (by kernel_rfl) fun a hs => ?_
    refine s_load hs (hw.at_ 0 rfl) 3 (by kernel_rfl) (by kernel_rfl) (v := .int .i64 x1.f3) (by kernel_rfl) fun a hs => ?_
    refine pures hs 2 [2, 37, 41] [(2, .pointer (some ⟨b38, 0, none⟩)), (37, .bool false), (41, .bool (x1.f3 == 2))] (by kernel_rfl) fun a hs => ?_
    rcases boolE (x1.f3 == 2) with h63 | h63
    · replace hs := hs.altB 41 true (by kernel_rfl) h63
      refine pures hs 1 [37, 41, 42] [(37, .bool false), (41, .bool true), (42, .pointer (some ⟨b38, 5, none⟩))] (by kernel_rfl) fun a hs => ?_
      refine s_load hs (hw.at_ 0 rfl) 5 (by kernel_rfl) (by kernel_rfl) (v := .int .u64 x1.f5) (by kernel_rfl) fun a hs => ?_
      refine pures hs 3 [46] [(46, .bool (decide (x1.f5 > 0)))] (by kernel_rfl) fun a hs => ?_
      refine s_end ?_
      exact (hJ58 _ _).2 ⟨(hs.altB 46 ((!((decide (x1.f0 > 0)) == false)) || ((decide (x1.f1 < 1)) || ((decide (x1.f1 > 6)) || ((x1.f2 == 0) || ((x1.f3 == 2) && (decide (x1.f5 > 0))))))) (by kernel_rfl) (by rw [h59, h60, h61, h62, h63] <;> rfl)).cast [46] (by kernel_rfl), hw.pick [1] (by kernel_rfl)⟩
    replace hs := hs.altB 41 false (by kernel_rfl) h63
    refine pures hs 5 [46] [(46, .bool false)] (by kernel_rfl) fun a hs => ?_
    refine s_end ?_
    exact (hJ58 _ _).2 ⟨(hs.altB 46 ((!((decide (x1.f0 > 0)) == false)) || ((decide (x1.f1 < 1)) || ((decide (x1.f1 > 6)) || ((x1.f2 == 0) || ((x1.f3 == 2) && (decide (x1.f5 > 0))))))) (by kernel_rfl) (by rw [h59, h60, h61, h62, h63] <;> rfl)).cast [46] (by kernel_rfl), hw.pick [1] (by kernel_rfl)⟩
  intro a w hh
  obtain ⟨hs, hw⟩ := (hJ58 _ _).1 hh
  rcases ifbE hk with ⟨h64, hk⟩ | ⟨h64, hk⟩
  · refine c_cond1 hs (by kernel_rfl) (t := ((!((decide (x1.f0 > 0)) == false)) || ((decide (x1.f1 < 1)) || ((decide (x1.f1 > 6)) || ((x1.f2 == 0) || ((x1.f3 == 2) && (decide (x1.f5 > 0)))))))) (by kernel_rfl) h64 ?_
    refine c_seq ?_
    refine c_region ?_
    refine pures hs 1 [4] [(4, .int .i64 4)] (by kernel_rfl) fun a hs => ?_
    refine s_end ?_
    refine c_ret ?_
    obtain rfl := someE hk
    refine hQ _ _ (f_ret1 hs rfl (v := .int .i64 4) (by kernel_rfl) ⟨rfl, hw.pick [0] (by kernel_rfl)⟩)
  refine c_cond0 hs (by kernel_rfl) (t := ((!((decide (x1.f0 > 0)) == false)) || ((decide (x1.f1 < 1)) || ((decide (x1.f1 > 6)) || ((x1.f2 == 0) || ((x1.f3 == 2) && (decide (x1.f5 > 0)))))))) (by kernel_rfl) h64 ?_
  refine c_skip ?_
  refine c_seq ?_
  refine c_region ?_
  refine pures hs 1 [4] [(4, .int .i64 0)] (by kernel_rfl) fun a hs => ?_
  refine s_end ?_
  refine c_ret ?_
  obtain rfl := someE hk
  refine hQ _ _ (f_ret1 hs rfl (v := .int .i64 0) (by kernel_rfl) ⟨rfl, hw.pick [0] (by kernel_rfl)⟩)
def catenaryref17_Asked (x1 : M26) : Option Int :=
  (catenaryref17_check_2 x1).bind fun y21 =>
  some y21
theorem catenaryref17_Asked_s {x1 : M26} {p2 : Option Addr} {c3 : Nat} {r : Int} (hk : catenaryref17_Asked x1 = some r) {g w : World} {F : Ch} {ih : IH} (h4 : RSl e5 ih [] p2 c3 x1.f6) (hw : St g w [F] ih) :
    CallsR Tryz.prog 16 #[.agg #[.int .u64 x1.f0, .int .i64 x1.f1, .int .u64 x1.f2, .int .i64 x1.f3, .int .u32 x1.f4, .int .u64 x1.f5, .slice p2 x1.f6.length c3]] w fun v w' => v = .int .i64 r ∧ St g w' [F] ih := by
  refine f_in (vs := [.agg #[.int .u64 x1.f0, .int .i64 x1.f1, .int .u64 x1.f2, .int .i64 x1.f3, .int .u32 x1.f4, .int .u64 x1.f5, .slice p2 x1.f6.length c3]]) Tryz.func16 rfl 5 rfl (by kernel_rfl) [(0, .agg #[.int .u64 x1.f0, .int .i64 x1.f1, .int .u64 x1.f2, .int .i64 x1.f3, .int .u32 x1.f4, .int .u64 x1.f5, .slice p2 x1.f6.length c3])] (by kernel_rfl) fun a Qf hQ hQn hs => ?_
  refine c_seq ?_
  refine c_region ?_
  refine s_new hs hw [.int .u64 x1.f0, .int .i64 x1.f1, .int .u64 x1.f2, .int .i64 x1.f3, .int .u32 x1.f4, .int .u64 x1.f5, .slice p2 x1.f6.length c3] 26 (fun b => .pointer (some ⟨b, 0, none⟩)) (by kernel_rfl) (fun _ => by kernel_rfl) fun a w b17 hs hw => ?_
  refine pures hs 1 [1] [(1, .pointer (some ⟨b17, 0, none⟩))] (by kernel_rfl) fun a hs => ?_
  refine s_end ?_
  refine c_seq ?_
  refine c_region ?_
  refine s_load hs (hw.at_ 0 rfl) 0 (by kernel_rfl) (by kernel_rfl) (v := .agg #[.int .u64 x1.f0, .int .i64 x1.f1, .int .u64 x1.f2, .int .i64 x1.f3, .int .u32 x1.f4, .int .u64 x1.f5, .slice p2 x1.f6.length c3]) (by kernel_rfl) fun a hs => ?_
  obtain ⟨y21, h22, hk⟩ := bindE hk
  refine s_call hs (by kernel_rfl) (by kernel_rfl) (catenaryref17_check_2_s h22 h4 ((hw.pick [1] (by kernel_rfl)).pack 0)) fun a w v hv hs => ?_
  obtain ⟨rfl, hw⟩ := hv
  replace hw := hw.unpack 0 rfl
  refine pures hs 1 [2] [(2, .int .i64 y21)] (by kernel_rfl) fun a hs => ?_
  refine s_end ?_
  refine c_ret ?_
  obtain rfl := someE hk
  refine hQ _ _ (f_ret1 hs rfl (v := .int .i64 y21) (by kernel_rfl) ⟨rfl, hw.pick [0] (by kernel_rfl)⟩)
def catenaryref17_Made (x1 : M26) (x5 : Int) : Option M38 :=
  some (M38.mk x5 x1.f0 x1.f6)
theorem catenaryref17_Made_s {x1 : M26} {x5 : Int} {p2 : Option Addr} {c3 : Nat} {r : M38} (hk : catenaryref17_Made x1 x5 = some r) {g w : World} {F : Ch} {ih : IH} (h4 : RSl e5 ih [] p2 c3 x1.f6) (hw : St g w [F] ih) :
    CallsR Tryz.prog 18 #[.agg #[.int .u64 x1.f0, .int .i64 x1.f1, .int .u64 x1.f2, .int .i64 x1.f3, .int .u32 x1.f4, .int .u64 x1.f5, .slice p2 x1.f6.length c3], .int .u64 x5] w fun v w' => ∃ (p24 : Option Addr) (c25 : Nat), v = .agg #[.int .u64 r.f0, .int .u64 r.f1, .slice p24 r.f2.length c25] ∧ St g w' [F] ih ∧ RSl e5 ih [] p24 c25 r.f2 := by
  refine f_in (vs := [.agg #[.int .u64 x1.f0, .int .i64 x1.f1, .int .u64 x1.f2, .int .i64 x1.f3, .int .u32 x1.f4, .int .u64 x1.f5, .slice p2 x1.f6.length c3], .int .u64 x5]) Tryz.func18 rfl 11 rfl (by kernel_rfl) [(0, .agg #[.int .u64 x1.f0, .int .i64 x1.f1, .int .u64 x1.f2, .int .i64 x1.f3, .int .u32 x1.f4, .int .u64 x1.f5, .slice p2 x1.f6.length c3]), (1, .int .u64 x5)] (by kernel_rfl) fun a Qf hQ hQn hs => ?_
  refine c_seq ?_
  refine c_region ?_
  refine s_new hs hw [.int .u64 x1.f0, .int .i64 x1.f1, .int .u64 x1.f2, .int .i64 x1.f3, .int .u32 x1.f4, .int .u64 x1.f5, .slice p2 x1.f6.length c3] 26 (fun b => .pointer (some ⟨b, 0, none⟩)) (by kernel_rfl) (fun _ => by kernel_rfl) fun a w b20 hs hw => ?_
  refine s_new hs hw [.int .u64 0, .int .u64 0, .slice none 0 0] 38 (fun b => .pointer (some ⟨b, 0, none⟩)) (by kernel_rfl) (fun _ => by kernel_rfl) fun a w b22 hs hw => ?_
  refine s_end ?_
  refine c_seq ?_
  refine c_region ?_
  refine pures hs 2 [2, 4, 5, 6] [(2, .pointer (some ⟨b20, 0, none⟩)), (4, .pointer (some ⟨b22, 0, none⟩)), (5, .int .u64 x5), (6, .pointer (some ⟨b20, 0, none⟩))] (by kernel_rfl) fun a hs => ?_
  refine s_load hs (hw.at_ 1 rfl) 0 (by kernel_rfl) (by kernel_rfl) (v := .int .u64 x1.f0) (by kernel_rfl) fun a hs => ?_
  refine pures hs 1 [4, 5, 7, 8] [(4, .pointer (some ⟨b22, 0, none⟩)), (5, .int .u64 x5), (7, .int .u64 x1.f0), (8, .pointer (some ⟨b20, 6, none⟩))] (by kernel_rfl) fun a hs => ?_
  refine s_load hs (hw.at_ 1 rfl) 6 (by kernel_rfl) (by kernel_rfl) (v := .slice p2 x1.f6.length c3) (by kernel_rfl) fun a hs => ?_
  refine pures hs 1 [4, 10] [(4, .pointer (some ⟨b22, 0, none⟩)), (10, .agg #[.int .u64 x5, .int .u64 x1.f0, .slice p2 x1.f6.length c3])] (by kernel_rfl) fun a hs => ?_
  refine s_store hs hw 0 rfl 0 (by kernel_rfl) (by kernel_rfl) (v := .agg #[.int .u64 x5, .int .u64 x1.f0, .slice p2 x1.f6.length c3]) (by kernel_rfl) (by kernel_rfl) (by kernel_rfl) (by kernel_rfl) fun a w hs hw => ?_
  refine s_end ?_
  refine c_ret ?_
  obtain rfl := someE hk
  refine hQ _ _ (f_retC hs rfl (hw.at_ 0 rfl) (by kernel_rfl) (v := .agg #[.int .u64 x5, .int .u64 x1.f0, .slice p2 x1.f6.length c3]) (by kernel_rfl) ⟨p2, c3, rfl, hw.pick [2] (by kernel_rfl), h4⟩)
def catenaryref01_Same_r12 : Option Bool :=
  some true
def catenaryref01_Same_r14 (rec_catenaryref01_Same_l13 : Int → Option (Sum Bool Unit)) (x281 : Int) (x336 : Bool) : Option (Sum Bool Unit) :=
  if x336 = true then some (.inl false)
  else rec_catenaryref01_Same_l13 (IntKind.i64.wrap (x281 + 1))
def catenaryref01_Same_l13 (x1 : List Int) (x7 : List Int) : Nat → Int → Option (Sum Bool Unit)
  | 0, _ => none
  | j + 1, x281 =>
    if (decide (x281 < (x1.length : Int))) = true then (
      ((ix x1 x281).bind fun x341 =>
        (ix x7 x281).bind fun x345 =>
        some (x341 != x345) : Option Bool).bind fun s349 => catenaryref01_Same_r14 (catenaryref01_Same_l13 x1 x7 j) x281 s349)
    else some (.inr ())
def catenaryref01_Same (k : Nat) (x1 : List Int) (x7 : List Int) : Option Bool :=
  if ((x1.length : Int) != (x7.length : Int)) = true then some false
  else (catenaryref01_Same_l13 x1 x7 k 0 : Option (Sum Bool Unit)).bind fun
    | .inl z => some z
    | .inr _ => catenaryref01_Same_r12
theorem catenaryref01_Same_s {k : Nat} {x1 : List Int} {x7 : List Int} {p2 : Option Addr} {c3 : Nat} {d5 : Ch} {p8 : Option Addr} {c9 : Nat} {d11 : Ch} {r : Bool} (hk : catenaryref01_Same k x1 x7 = some r) {g w : World} {F : Ch} {ih : IH} (h4 : RSl e5 ih d5 p2 c3 x1) (h6 : ∀ q ∈ d5, q ∈ F) (h10 : RSl e5 ih d11 p8 c9 x7) (h12 : ∀ q ∈ d11, q ∈ F) (hw : St g w [F] ih) :
    CallsR Tryz.prog 45 #[.slice p2 x1.length c3, .slice p8 x7.length c9] w fun v w' => v = .bool r ∧ St g w' [F] ih := by
  refine f_in (vs := [.slice p2 x1.length c3, .slice p8 x7.length c9]) Tryz.func45 rfl 26 rfl (by kernel_rfl) [(0, .slice p2 x1.length c3), (1, .slice p8 x7.length c9)] (by kernel_rfl) fun a Qf hQ hQn hs => ?_
  refine c_seq ?_
  refine c_region ?_
  refine pures hs 1 [0, 1] [(0, .slice p2 x1.length c3), (1, .slice p8 x7.length c9)] (by kernel_rfl) fun a hs => ?_
  refine s_end ?_
  refine c_seq ?_
  refine c_seq ?_
  refine c_region ?_
  refine pures hs 5 [0, 1, 10] [(0, .slice p2 x1.length c3), (1, .slice p8 x7.length c9), (10, .bool ((x1.length : Int) != (x7.length : Int)))] (by kernel_rfl) fun a hs => ?_
  refine s_end ?_
  rcases ifbE hk with ⟨h183, hk⟩ | ⟨h183, hk⟩
  · refine c_cond1 hs (by kernel_rfl) (t := ((x1.length : Int) != (x7.length : Int))) (by kernel_rfl) h183 ?_
    refine c_seq ?_
    refine c_region ?_
    refine pures hs 1 [4] [(4, .bool false)] (by kernel_rfl) fun a hs => ?_
    refine s_end ?_
    refine c_ret ?_
    obtain rfl := someE hk
    refine hQ _ _ (f_ret1 hs rfl (v := .bool false) (by kernel_rfl) ⟨rfl, hw.pick [0] (by kernel_rfl)⟩)
  refine c_cond0 hs (by kernel_rfl) (t := ((x1.length : Int) != (x7.length : Int))) (by kernel_rfl) h183 ?_
  refine c_skip ?_
  refine c_seq ?_
  refine c_seq ?_
  refine c_region ?_
  refine pures hs 1 [0, 1, 5] [(0, .slice p2 x1.length c3), (1, .slice p8 x7.length c9), (5, .int .i64 0)] (by kernel_rfl) fun a hs => ?_
  refine s_end ?_
  refine c_block ?_
  obtain ⟨y314, hx315, hk⟩ := bindE hk
  obtain ⟨J316, hJ316⟩ : ∃ J : Act → World → Prop, ∀ a w, J a w ↔ (catenaryref01_Same_r12 = some r ∧ Sees a 26 [] ∧ St g w [F] ih) := ⟨_, fun _ _ => Iff.rfl⟩
  obtain ⟨I317, hI317⟩ : ∃ J : Nat → Act → World → Prop, ∀ j a w, J j a w ↔ (∃ (x281 : Int), catenaryref01_Same_l13 x1 x7 j x281 = some y314 ∧ Sees a 26 [(0, .slice p2 x1.length c3), (1, .slice p8 x7.length c9), (5, .int .i64 x281)] ∧ St g w [F] ih) := ⟨_, fun _ _ _ => Iff.rfl⟩
  refine c_exitJ 0 J316 ?_ ?_
  · refine c_loop I317 k ((hI317 _ _ _).2 ⟨0, hx315, hs.cast [0, 1, 5] (by kernel_rfl), hw.pick [0] (by kernel_rfl)⟩) (fun a w h0 => ?_) fun j a w hh => ?_
    · obtain ⟨_, h, _⟩ := (hI317 _ _ _).1 h0
      cases h
    obtain ⟨x281, hx315, hs, hw⟩ := (hI317 _ _ _).1 hh
    refine c_seq ?_
    refine c_seq ?_
    refine c_region ?_
    refine pures hs 4 [0, 1, 5, 14] [(0, .slice p2 x1.length c3), (1, .slice p8 x7.length c9), (5, .int .i64 x281), (14, .bool (decide (x281 < (x1.length : Int))))] (by kernel_rfl) fun a hs => ?_
    refine s_end ?_
    rcases ifbE hx315 with ⟨h318, hx315⟩ | ⟨h318, hx315⟩
    · refine c_cond1 hs (by kernel_rfl) (t := (decide (x281 < (x1.length : Int)))) (by kernel_rfl) h318 ?_
      refine c_skip ?_
      refine c_seq ?_
      refine c_block ?_
      refine c_seq ?_
      obtain ⟨S319, hS319, kS319⟩ := mkSX (X := [([], F)]) (ih := ih) (K := []) rfl
      obtain ⟨y338, hx339, hx315⟩ := bindE hx315
      obtain ⟨J340, hJ340⟩ : ∃ J : Act → World → Prop, ∀ a w, J a w ↔ (∃ (x336 : Bool), catenaryref01_Same_r14 (catenaryref01_Same_l13 x1 x7 j) x281 x336 = some y314 ∧ Sees a 26 [(0, .slice p2 x1.length c3), (1, .slice p8 x7.length c9), (5, .int .i64 x281), (25, .bool x336)] ∧ St g w [F] ih) := ⟨_, fun _ _ => Iff.rfl⟩
      refine c_draw (by kernel_rfl) (N := 9) rfl S319 J340 ?_ ?_
      · have hw := hw.drew
        have hS : S319 (Array.replicate 9 false) _ := SX_now hS319 (hw.vws [0]) (by kernel_rfl)
        refine d_pures (fuel := 7) kS319 hs hS [0, 1] [0, 1, 5, 17, 18] [(0, .slice p2 x1.length c3), (1, .slice p8 x7.length c9), (5, .int .i64 x281), (17, .slice p2 x1.length c3), (18, .int .i64 x281)] (by kernel_rfl) fun a hs hS => ?_
        obtain ⟨x341, h342, hx339⟩ := bindE hx339
        refine d_index (fuel := 6) kS319 hs hS 2 rfl (by kernel_rfl) h4 (by kernel_rfl) (by kernel_rfl) (k := .i64) (by kernel_rfl) 5 (by kernel_rfl) (by kernel_rfl) h342 fun a r343 cs henc at344 hs hS => ?_
        obtain rfl := henc
        refine d_load (fuel := 5) kS319 hs hS 3 rfl (by kernel_rfl) (fun l w hu hS => at344 w (((SX_ch hS319 0 rfl (by kernel_rfl) l w hu hS).sub h6).anti (Le.refl _))) 0 (by kernel_rfl) (by kernel_rfl) (v := .int .u8 x341) (by kernel_rfl) fun a hs hS => ?_
        refine d_pures (fuel := 3) kS319 hs hS [4, 5] [0, 1, 5, 17, 18, 19, 20, 21, 22] [(0, .slice p2 x1.length c3), (1, .slice p8 x7.length c9), (5, .int .i64 x281), (17, .slice p2 x1.length c3), (18, .int .i64 x281), (19, .pointer (some r343)), (20, .int .u8 x341), (21, .slice p8 x7.length c9), (22, .int .i64 x281)] (by kernel_rfl) fun a hs hS => ?_
        obtain ⟨x345, h346, hx339⟩ := bindE hx339
        refine d_index (fuel := 2) kS319 hs hS 6 rfl (by kernel_rfl) h10 (by kernel_rfl) (by kernel_rfl) (k := .i64) (by kernel_rfl) 5 (by kernel_rfl) (by kernel_rfl) h346 fun a r347 cs henc at348 hs hS => ?_
        obtain rfl := henc
        refine d_load (fuel := 1) kS319 hs hS 7 rfl (by kernel_rfl) (fun l w hu hS => at348 w (((SX_ch hS319 0 rfl (by kernel_rfl) l w hu hS).sub h12).anti (Le.refl _))) 0 (by kernel_rfl) (by kernel_rfl) (v := .int .u8 x345) (by kernel_rfl) fun a hs hS => ?_
        refine d_pures (fuel := 0) kS319 hs hS [8] [0, 1, 5, 17, 18, 19, 20, 21, 22, 23, 24, 25] [(0, .slice p2 x1.length c3), (1, .slice p8 x7.length c9), (5, .int .i64 x281), (17, .slice p2 x1.length c3), (18, .int .i64 x281), (19, .pointer (some r343)), (20, .int .u8 x341), (21, .slice p8 x7.length c9), (22, .int .i64 x281), (23, .pointer (some r347)), (24, .int .u8 x345), (25, .bool (x341 != x345))] (by kernel_rfl) fun a hs hS => ?_
        refine d_done (by kernel_rfl) ?_
        obtain rfl := someE hx339
        exact (hJ340 _ _).2 ⟨(x341 != x345), hx315, hs.cast [0, 1, 5, 25] (by kernel_rfl), hw.pick [0] (by kernel_rfl)⟩
      intro a w hh
      obtain ⟨x336, hx315, hs, hw⟩ := (hJ340 _ _).1 hh
      rcases ifbE hx315 with ⟨h337, hx315⟩ | ⟨h337, hx315⟩
      · refine c_cond1 hs (by kernel_rfl) (t := x336) (by kernel_rfl) h337 ?_
        refine c_seq ?_
        refine c_region ?_
        refine pures hs 1 [4] [(4, .bool false)] (by kernel_rfl) fun a hs => ?_
        refine s_end ?_
        refine c_ret ?_
        obtain rfl := someE hx315
        obtain rfl := someE hk
        refine hQ _ _ (f_ret1 hs rfl (v := .bool false) (by kernel_rfl) ⟨rfl, hw.pick [0] (by kernel_rfl)⟩)
      refine c_cond0 hs (by kernel_rfl) (t := x336) (by kernel_rfl) h337 ?_
      refine c_skip ?_
      refine c_region ?_
      refine pures hs 3 [0, 1, 5] [(0, .slice p2 x1.length c3), (1, .slice p8 x7.length c9), (5, .int .i64 (IntKind.i64.wrap (x281 + 1)))] (by kernel_rfl) fun a hs => ?_
      refine s_end ?_
      exact (hI317 _ _ _).2 ⟨(IntKind.i64.wrap (x281 + 1)), hx315, hs.cast [0, 1, 5] (by kernel_rfl), hw.pick [0] (by kernel_rfl)⟩
    refine c_cond0 hs (by kernel_rfl) (t := (decide (x281 < (x1.length : Int)))) (by kernel_rfl) h318 ?_
    refine c_exit ?_
    obtain rfl := someE hx315
    exact (hJ316 _ _).2 ⟨hk, hs.cast [] (by kernel_rfl), hw.pick [0] (by kernel_rfl)⟩
  intro a w hh
  obtain ⟨hk, hs, hw⟩ := (hJ316 _ _).1 hh
  refine c_seq ?_
  refine c_region ?_
  refine pures hs 1 [4] [(4, .bool true)] (by kernel_rfl) fun a hs => ?_
  refine s_end ?_
  refine c_ret ?_
  obtain rfl := someE hk
  refine hQ _ _ (f_ret1 hs rfl (v := .bool true) (by kernel_rfl) ⟨rfl, hw.pick [0] (by kernel_rfl)⟩)
def catenaryref15_Same_r2 (x52 : Bool) : Option Bool :=
  some x52
def catenaryref15_Same (k : Nat) (x1 : M38) (x5 : M38) : Option Bool :=
  (if (x1.f0 == x5.f0) = true then (
      if (x1.f1 == x5.f1) = true then (
        (catenaryref01_Same k x1.f2 x5.f2).bind fun y58 =>
        some y58)
      else some false)
    else some false : Option Bool).bind fun s60 => catenaryref15_Same_r2 s60
theorem catenaryref15_Same_s {k : Nat} {x1 : M38} {x5 : M38} {p2 : Option Addr} {c3 : Nat} {p6 : Option Addr} {c7 : Nat} {r : Bool} (hk : catenaryref15_Same k x1 x5 = some r) {g w : World} {F : Ch} {ih : IH} (h4 : RSl e5 ih [] p2 c3 x1.f2) (h8 : RSl e5 ih [] p6 c7 x5.f2) (hw : St g w [F] ih) :
    CallsR Tryz.prog 17 #[.agg #[.int .u64 x1.f0, .int .u64 x1.f1, .slice p2 x1.f2.length c3], .agg #[.int .u64 x5.f0, .int .u64 x5.f1, .slice p6 x5.f2.length c7]] w fun v w' => v = .bool r ∧ St g w' [F] ih := by
  refine f_in (vs := [.agg #[.int .u64 x1.f0, .int .u64 x1.f1, .slice p2 x1.f2.length c3], .agg #[.int .u64 x5.f0, .int .u64 x5.f1, .slice p6 x5.f2.length c7]]) Tryz.func17 rfl 24 rfl (by kernel_rfl) [(0, .agg #[.int .u64 x1.f0, .int .u64 x1.f1, .slice p2 x1.f2.length c3]), (1, .agg #[.int .u64 x5.f0, .int .u64 x5.f1, .slice p6 x5.f2.length c7])] (by kernel_rfl) fun a Qf hQ hQn hs => ?_
  refine c_seq ?_
  refine c_region ?_
  refine s_new hs hw [.int .u64 x1.f0, .int .u64 x1.f1, .slice p2 x1.f2.length c3] 38 (fun b => .pointer (some ⟨b, 0, none⟩)) (by kernel_rfl) (fun _ => by kernel_rfl) fun a w b40 hs hw => ?_
  refine s_new hs hw [.int .u64 x5.f0, .int .u64 x5.f1, .slice p6 x5.f2.length c7] 38 (fun b => .pointer (some ⟨b, 0, none⟩)) (by kernel_rfl) (fun _ => by kernel_rfl) fun a w b42 hs hw => ?_
  refine pures hs 1 [2, 3] [(2, .pointer (some ⟨b40, 0, none⟩)), (3, .pointer (some ⟨b42, 0, none⟩))] (by kernel_rfl) fun a hs => ?_
  refine s_end ?_
  refine c_seq ?_
  obtain ⟨y53, hx54, hk⟩ := bindE hk
  obtain ⟨J55, hJ55⟩ : ∃ J : Act → World → Prop, ∀ a w, J a w ↔ (∃ (x52 : Bool), catenaryref15_Same_r2 x52 = some r ∧ Sees a 24 [(4, .bool x52)] ∧ St g w [F] ih) := ⟨_, fun _ _ => Iff.rfl⟩
  refine c_regJ J55 ?_ ?_
  · refine pures hs 1 [2, 3, 5] [(2, .pointer (some ⟨b40, 0, none⟩)), (3, .pointer (some ⟨b42, 0, none⟩)), (5, .pointer (some ⟨b40, 0, none⟩))] (by kernel_rfl) fun a hs => ?_
    refine s_load hs (hw.at_ 1 rfl) 0 (by kernel_rfl) (by kernel_rfl) (v := .int .u64 x1.f0) (by kernel_rfl) fun a hs => ?_
    refine pures hs 1 [2, 3, 6, 7] [(2, .pointer (some ⟨b40, 0, none⟩)), (3, .pointer (some ⟨b42, 0, none⟩)), (6, .int .u64 x1.f0), (7, .pointer (some ⟨b42, 0, none⟩))] (by kernel_rfl) fun a hs => ?_
    refine s_load hs (hw.at_ 0 rfl) 0 (by kernel_rfl) (by kernel_rfl) (v := .int .u64 x5.f0) (by kernel_rfl) fun a hs => ?_
    refine pures hs 2 [2, 3, 10] [(2, .pointer (some ⟨b40, 0, none⟩)), (3, .pointer (some ⟨b42, 0, none⟩)), (10, .bool (x1.f0 == x5.f0))] (by kernel_rfl) fun a hs => ?_
    rcases ifbE hx54 with ⟨h56, hx54⟩ | ⟨h56, hx54⟩
    · replace hs := hs.altB 10 true (by kernel_rfl) h56
      refine pures hs 1 [2, 3, 10, 11] [(2, .pointer (some ⟨b40, 0, none⟩)), (3, .pointer (some ⟨b42, 0, none⟩)), (10, .bool true), (11, .pointer (some ⟨b40, 1, none⟩))] (by kernel_rfl) fun a hs => ?_
      refine s_load hs (hw.at_ 1 rfl) 1 (by kernel_rfl) (by kernel_rfl) (v := .int .u64 x1.f1) (by kernel_rfl) fun a hs => ?_
      refine pures hs 1 [2, 3, 10, 12, 13] [(2, .pointer (some ⟨b40, 0, none⟩)), (3, .pointer (some ⟨b42, 0, none⟩)), (10, .bool true), (12, .int .u64 x1.f1), (13, .pointer (some ⟨b42, 1, none⟩))] (by kernel_rfl) fun a hs => ?_
      refine s_load hs (hw.at_ 0 rfl) 1 (by kernel_rfl) (by kernel_rfl) (v := .int .u64 x5.f1) (by kernel_rfl) fun a hs => ?_
      refine pures hs 3 [2, 3, 17] [(2, .pointer (some ⟨b40, 0, none⟩)), (3, .pointer (some ⟨b42, 0, none⟩)), (17, .bool (x1.f1 == x5.f1))] (by kernel_rfl) fun a hs => ?_
      rcases ifbE hx54 with ⟨h57, hx54⟩ | ⟨h57, hx54⟩
      · replace hs := hs.altB 17 true (by kernel_rfl) h57
        refine pures hs 1 [3, 17, 18] [(3, .pointer (some ⟨b42, 0, none⟩)), (17, .bool true), (18, .pointer (some ⟨b40, 2, none⟩))] (by kernel_rfl) fun a hs => ?_
        refine s_load hs (hw.at_ 1 rfl) 2 (by kernel_rfl) (by kernel_rfl) (v := .slice p2 x1.f2.length c3) (by kernel_rfl) fun a hs => ?_
        refine pures hs 1 [17, 19, 20] [(17, .bool true), (19, .slice p2 x1.f2.length c3), (20, .pointer (some ⟨b42, 2, none⟩))] (by kernel_rfl) fun a hs => ?_
        refine s_load hs (hw.at_ 0 rfl) 2 (by kernel_rfl) (by kernel_rfl) (v := .slice p6 x5.f2.length c7) (by kernel_rfl) fun a hs => ?_
        obtain ⟨y58, h59, hx54⟩ := bindE hx54
        refine s_call hs (by kernel_rfl) (by kernel_rfl) (catenaryref01_Same_s h59 h4 (nilSub _) h8 (nilSub _) ((hw.pick [2] (by kernel_rfl)).pack 0)) fun a w v hv hs => ?_
        obtain ⟨rfl, hw⟩ := hv
        replace hw := hw.unpack 0 rfl
        refine pures hs 2 [4] [(4, .bool y58)] (by kernel_rfl) fun a hs => ?_
        refine s_end ?_
        obtain rfl := someE hx54
        exact (hJ55 _ _).2 ⟨y58, hk, hs.cast [4] (by kernel_rfl), hw.pick [0] (by kernel_rfl)⟩
      replace hs := hs.altB 17 false (by kernel_rfl) h57
      refine pures hs 7 [4] [(4, .bool false)] (by kernel_rfl) fun a hs => ?_
      refine s_end ?_
      obtain rfl := someE hx54
      exact (hJ55 _ _).2 ⟨false, hk, hs.cast [4] (by kernel_rfl), hw.pick [2] (by kernel_rfl)⟩
    replace hs := hs.altB 10 false (by kernel_rfl) h56
    refine pures hs 14 [4] [(4, .bool false)] (by kernel_rfl) fun a hs => ?_
    refine s_end ?_
    obtain rfl := someE hx54
    exact (hJ55 _ _).2 ⟨false, hk, hs.cast [4] (by kernel_rfl), hw.pick [2] (by kernel_rfl)⟩
  intro a w hh
  obtain ⟨x52, hk, hs, hw⟩ := (hJ55 _ _).1 hh
  refine c_ret ?_
  obtain rfl := someE hk
  refine hQ _ _ (f_ret1 hs rfl (v := .bool x52) (by kernel_rfl) ⟨rfl, hw.pick [0] (by kernel_rfl)⟩)
def catenarylaw17_UpdateChecks_r2 (x241 : Bool) : Option Bool :=
  some x241
def catenarylaw17_UpdateChecks (k : Nat) (x1 : M26) (x5 : Int) (x6 : Bool) : Option Bool :=
  (catenarylaw17_far k ([x1])).bind fun y151 =>
  if y151 = true then some true
  else (update_Outcome_2 x1 x5 x6).bind fun y160 =>
  (catenaryref17_Outcome x1 x5 x6).bind fun y164 =>
  (update_Made x1 x5).bind fun y175 =>
  ((update_Check k x1).bind fun y245 =>
    (catenaryref17_Check x1).bind fun y249 =>
    if (y245 == y249) = true then (
      (update_Asked k x1).bind fun y252 =>
      (catenaryref17_Asked x1).bind fun y256 =>
      if (y252 == y256) = true then (
        if (y160.1 == y164.1) = true then (
          if (y160.2.1 == y164.2.1) = true then (
            if (y160.2.2 == y164.2.2) = true then (
              (catenaryref17_Made x1 x5).bind fun y262 =>
              (catenaryref15_Same k (M38.mk y175.f0 y175.f1 y175.f2) y262).bind fun y267 =>
              if y267 = true then some true
              else some false)
            else some false)
          else some false)
        else some false)
      else some false)
    else some false : Option Bool).bind fun s272 => catenarylaw17_UpdateChecks_r2 s272
theorem catenarylaw17_UpdateChecks_s {k : Nat} {x1 : M26} {x5 : Int} {x6 : Bool} {p2 : Option Addr} {c3 : Nat} {r : Bool} (hk : catenarylaw17_UpdateChecks k x1 x5 x6 = some r) {g w : World} {F : Ch} {ih : IH} (h4 : RSl e5 ih [] p2 c3 x1.f6) (hG : Glob 0 gl0 110 ih) (hw : St g w [F] ih) :
    CallsR Tryz.prog 3 #[.agg #[.int .u64 x1.f0, .int .i64 x1.f1, .int .u64 x1.f2, .int .i64 x1.f3, .int .u32 x1.f4, .int .u64 x1.f5, .slice p2 x1.f6.length c3], .int .u64 x5, .bool x6] w fun v w' => ∃ (ih' : IH), v = .bool r ∧ St g w' [F] ih' ∧ Le ih ih' := by
  refine f_in (vs := [.agg #[.int .u64 x1.f0, .int .i64 x1.f1, .int .u64 x1.f2, .int .i64 x1.f3, .int .u32 x1.f4, .int .u64 x1.f5, .slice p2 x1.f6.length c3], .int .u64 x5, .bool x6]) Tryz.func3 rfl 80 rfl (by kernel_rfl) [(0, .agg #[.int .u64 x1.f0, .int .i64 x1.f1, .int .u64 x1.f2, .int .i64 x1.f3, .int .u32 x1.f4, .int .u64 x1.f5, .slice p2 x1.f6.length c3]), (1, .int .u64 x5), (2, .bool x6)] (by kernel_rfl) fun a Qf hQ hQn hs => ?_
  refine c_seq ?_
  refine c_region ?_
  refine s_new hs hw [.int .u64 x1.f0, .int .i64 x1.f1, .int .u64 x1.f2, .int .i64 x1.f3, .int .u32 x1.f4, .int .u64 x1.f5, .slice p2 x1.f6.length c3] 26 (fun b => .pointer (some ⟨b, 0, none⟩)) (by kernel_rfl) (fun _ => by kernel_rfl) fun a w b143 hs hw => ?_
  refine pures hs 1 [1, 2, 3] [(1, .int .u64 x5), (2, .bool x6), (3, .pointer (some ⟨b143, 0, none⟩))] (by kernel_rfl) fun a hs => ?_
  refine s_end ?_
  refine c_seq ?_
  refine c_seq ?_
  refine c_region ?_
  refine s_load hs (hw.at_ 0 rfl) 0 (by kernel_rfl) (by kernel_rfl) (v := .agg #[.int .u64 x1.f0, .int .i64 x1.f1, .int .u64 x1.f2, .int .i64 x1.f3, .int .u32 x1.f4, .int .u64 x1.f5, .slice p2 x1.f6.length c3]) (by kernel_rfl) fun a hs => ?_
  refine s_new hs hw [.int .u64 x1.f0, .int .i64 x1.f1, .int .u64 x1.f2, .int .i64 x1.f3, .int .u32 x1.f4, .int .u64 x1.f5, .slice p2 x1.f6.length c3] 26 (fun b => .slice (some ⟨b, 0, none⟩) 1 1) (by kernel_rfl) (fun _ => by kernel_rfl) fun a w b149 hs hw => ?_
  obtain ⟨y151, h152, hk⟩ := bindE hk
  refine s_call hs (by kernel_rfl) (by kernel_rfl) (catenarylaw17_far_s h152 ((OSl.of1 (E := e26) (z := x1) ⟨p2, c3, rfl, h4⟩ (by simp [maxLen])).read) (memF 0 rfl) ((hw.pick [0, 1, 2] (by kernel_rfl)).pack 0)) fun a w v hv hs => ?_
  obtain ⟨rfl, hw⟩ := hv
  replace hw := hw.unpack 0 rfl
  refine s_end ?_
  rcases ifbE hk with ⟨h153, hk⟩ | ⟨h153, hk⟩
  · refine c_cond1 hs (by kernel_rfl) (t := y151) (by kernel_rfl) h153 ?_
    refine c_seq ?_
    refine c_region ?_
    have h157 : catenarylaw17_awake = some () := rfl
    refine s_call hs (by kernel_rfl) (by kernel_rfl) (catenarylaw17_awake_s h157 ((hw.pick [2] (by kernel_rfl)).pack 0)) fun a w v hv hs => ?_
    obtain ⟨rfl, hw⟩ := hv
    replace hw := hw.unpack 0 rfl
    refine pures hs 1 [6] [(6, .bool true)] (by kernel_rfl) fun a hs => ?_
    refine s_end ?_
    refine c_ret ?_
    obtain rfl := someE hk
    refine hQ _ _ (f_ret1 hs rfl (v := .bool true) (by kernel_rfl) ⟨ih, rfl, hw.pick [0] (by kernel_rfl), (Le.refl _)⟩)
  refine c_cond0 hs (by kernel_rfl) (t := y151) (by kernel_rfl) h153 ?_
  refine c_skip ?_
  refine c_seq ?_
  refine c_region ?_
  refine s_load hs (hw.at_ 1 rfl) 0 (by kernel_rfl) (by kernel_rfl) (v := .agg #[.int .u64 x1.f0, .int .i64 x1.f1, .int .u64 x1.f2, .int .i64 x1.f3, .int .u32 x1.f4, .int .u64 x1.f5, .slice p2 x1.f6.length c3]) (by kernel_rfl) fun a hs => ?_
  refine pures hs 2 [1, 2, 3, 19, 20, 21] [(1, .int .u64 x5), (2, .bool x6), (3, .pointer (some ⟨b143, 0, none⟩)), (19, .agg #[.int .u64 x1.f0, .int .i64 x1.f1, .int .u64 x1.f2, .int .i64 x1.f3, .int .u32 x1.f4, .int .u64 x1.f5, .slice p2 x1.f6.length c3]), (20, .int .u64 x5), (21, .bool x6)] (by kernel_rfl) fun a hs => ?_
  obtain ⟨y160, h161, hk⟩ := bindE hk
  refine s_call hs (by kernel_rfl) (by kernel_rfl) (update_Outcome_2_s h161 h4 ((hw.pick [1, 2] (by kernel_rfl)).pack 0)) fun a w v hv hs => ?_
  obtain ⟨rfl, hw⟩ := hv
  replace hw := hw.unpack 0 rfl
  refine pures hs 7 [1, 2, 3, 7, 8, 9] [(1, .int .u64 x5), (2, .bool x6), (3, .pointer (some ⟨b143, 0, none⟩)), (7, .int .i64 y160.1), (8, .int .u64 y160.2.1), (9, .bool y160.2.2)] (by kernel_rfl) fun a hs => ?_
  refine s_end ?_
  refine c_seq ?_
  refine c_region ?_
  refine s_load hs (hw.at_ 0 rfl) 0 (by kernel_rfl) (by kernel_rfl) (v := .agg #[.int .u64 x1.f0, .int .i64 x1.f1, .int .u64 x1.f2, .int .i64 x1.f3, .int .u32 x1.f4, .int .u64 x1.f5, .slice p2 x1.f6.length c3]) (by kernel_rfl) fun a hs => ?_
  refine pures hs 2 [1, 3, 7, 8, 9, 27, 28, 29] [(1, .int .u64 x5), (3, .pointer (some ⟨b143, 0, none⟩)), (7, .int .i64 y160.1), (8, .int .u64 y160.2.1), (9, .bool y160.2.2), (27, .agg #[.int .u64 x1.f0, .int .i64 x1.f1, .int .u64 x1.f2, .int .i64 x1.f3, .int .u32 x1.f4, .int .u64 x1.f5, .slice p2 x1.f6.length c3]), (28, .int .u64 x5), (29, .bool x6)] (by kernel_rfl) fun a hs => ?_
  obtain ⟨y164, h165, hk⟩ := bindE hk
  refine s_call hs (by kernel_rfl) (by kernel_rfl) (catenaryref17_Outcome_s h165 h4 ((hw.pick [0, 1] (by kernel_rfl)).pack 0)) fun a w v hv hs => ?_
  obtain ⟨rfl, hw⟩ := hv
  replace hw := hw.unpack 0 rfl
  refine pures hs 7 [1, 3, 7, 8, 9, 10, 11, 12] [(1, .int .u64 x5), (3, .pointer (some ⟨b143, 0, none⟩)), (7, .int .i64 y160.1), (8, .int .u64 y160.2.1), (9, .bool y160.2.2), (10, .int .i64 y164.1), (11, .int .u64 y164.2.1), (12, .bool y164.2.2)] (by kernel_rfl) fun a hs => ?_
  refine s_end ?_
  refine c_seq ?_
  refine c_region ?_
  refine s_load hs (hw.at_ 0 rfl) 0 (by kernel_rfl) (by kernel_rfl) (v := .agg #[.int .u64 x1.f0, .int .i64 x1.f1, .int .u64 x1.f2, .int .i64 x1.f3, .int .u32 x1.f4, .int .u64 x1.f5, .slice p2 x1.f6.length c3]) (by kernel_rfl) fun a hs => ?_
  refine pures hs 1 [1, 3, 7, 8, 9, 10, 11, 12, 34, 35] [(1, .int .u64 x5), (3, .pointer (some ⟨b143, 0, none⟩)), (7, .int .i64 y160.1), (8, .int .u64 y160.2.1), (9, .bool y160.2.2), (10, .int .i64 y164.1), (11, .int .u64 y164.2.1), (12, .bool y164.2.2), (34, .agg #[.int .u64 x1.f0, .int .i64 x1.f1, .int .u64 x1.f2, .int .i64 x1.f3, .int .u32 x1.f4, .int .u64 x1.f5, .slice p2 x1.f6.length c3]), (35, .int .u64 x5)] (by kernel_rfl) fun a hs => ?_
  obtain ⟨y175, h176, hk⟩ := bindE hk
  refine s_call hs (by kernel_rfl) (by kernel_rfl) (update_Made_s h176 h4 ((hw.pick [0, 1] (by kernel_rfl)).pack 0)) fun a w v hv hs => ?_
  obtain ⟨ih177, p179, c180, rfl, hw, hle178, h181⟩ := hv
  replace hw := hw.unpack 0 rfl
  refine s_new hs hw [.int .u64 0, .int .u64 0, .slice none 0 0] 34 (fun b => .pointer (some ⟨b, 0, none⟩)) (by kernel_rfl) (fun _ => by kernel_rfl) fun a w b182 hs hw => ?_
  refine s_store hs hw 0 rfl 0 (by kernel_rfl) (by kernel_rfl) (v := .agg #[.int .u64 y175.f0, .int .u64 y175.f1, .slice p179 y175.f2.length c180]) (by kernel_rfl) (by kernel_rfl) (by kernel_rfl) (by kernel_rfl) fun a w hs hw => ?_
  refine s_end ?_
  refine c_seq ?_
  obtain ⟨S184, hS184, kS184⟩ := mkSX (X := [([], bx b182 [.int .u64 y175.f0, .int .u64 y175.f1, .slice p179 y175.f2.length c180] 34), ([], bx b143 [.int .u64 x1.f0, .int .i64 x1.f1, .int .u64 x1.f2, .int .i64 x1.f3, .int .u32 x1.f4, .int .u64 x1.f5, .slice p2 x1.f6.length c3] 26), ([], F)]) (ih := ih177) (K := []) rfl
  obtain ⟨y242, hx243, hk⟩ := bindE hk
  obtain ⟨J244, hJ244⟩ : ∃ J : Act → World → Prop, ∀ a w, J a w ↔ (∃ (x241 : Bool) (ih239 : IH), catenarylaw17_UpdateChecks_r2 x241 = some r ∧ Sees a 80 [(6, .bool x241)] ∧ St g w [F] ih239 ∧ Le ih177 ih239) := ⟨_, fun _ _ => Iff.rfl⟩
  refine c_draw (by kernel_rfl) (N := 44) rfl S184 J244 ?_ ?_
  · have hw := hw.drew
    have hS : S184 (Array.replicate 44 false) _ := SX_now hS184 (hw.vws [0, 1, 2]) (by kernel_rfl)
    refine d_load (fuel := 43) kS184 hs hS 0 rfl (by kernel_rfl) (SX_box hS184 1 rfl (by kernel_rfl)) 0 (by kernel_rfl) (by kernel_rfl) (v := .agg #[.int .u64 x1.f0, .int .i64 x1.f1, .int .u64 x1.f2, .int .i64 x1.f3, .int .u32 x1.f4, .int .u64 x1.f5, .slice p2 x1.f6.length c3]) (by kernel_rfl) fun a hs hS => ?_
    refine d_load (fuel := 42) kS184 hs hS 2 rfl (by kernel_rfl) (SX_box hS184 1 rfl (by kernel_rfl)) 0 (by kernel_rfl) (by kernel_rfl) (v := .agg #[.int .u64 x1.f0, .int .i64 x1.f1, .int .u64 x1.f2, .int .i64 x1.f3, .int .u32 x1.f4, .int .u64 x1.f5, .slice p2 x1.f6.length c3]) (by kernel_rfl) fun a hs hS => ?_
    refine d_all (fuel := 41) (rs := [1]) (by kernel_rfl) (by simp) (all1 ?_)
    obtain ⟨y245, h246, hx243⟩ := bindE hx243
    refine o_call hs rfl (by kernel_rfl) (by kernel_rfl) (update_Check_s h246 (h4.mono hle178) (hG.mono hle178) ((hw.pick [0, 1, 2] (by kernel_rfl)).pack 0)) fun a w v hv hs => ?_
    obtain ⟨ih247, rfl, hw, hle248⟩ := hv
    replace hw := hw.unpack 0 rfl
    refine dg_next (SX_now hS184 ((hw.vws [0, 1, 2]).anti hle248) (by kernel_rfl)) fun hS => ?_
    refine d_all (fuel := 40) (rs := [3]) (by kernel_rfl) (by simp) (all1 ?_)
    obtain ⟨y249, h250, hx243⟩ := bindE hx243
    refine o_call hs rfl (by kernel_rfl) (by kernel_rfl) (catenaryref17_Check_s h250 (h4.mono (hle178.trans hle248)) ((hw.pick [0, 1, 2] (by kernel_rfl)).pack 0)) fun a w v hv hs => ?_
    obtain ⟨rfl, hw⟩ := hv
    replace hw := hw.unpack 0 rfl
    refine dg_next (SX_now hS184 ((hw.vws [0, 1, 2]).anti hle248) (by kernel_rfl)) fun hS => ?_
    refine d_pures (fuel := 38) kS184 hs hS [4, 5] [1, 3, 7, 8, 9, 10, 11, 12, 13, 37, 39, 38, 40, 41, 42] [(1, .int .u64 x5), (3, .pointer (some ⟨b143, 0, none⟩)), (7, .int .i64 y160.1), (8, .int .u64 y160.2.1), (9, .bool y160.2.2), (10, .int .i64 y164.1), (11, .int .u64 y164.2.1), (12, .bool y164.2.2), (13, .pointer (some ⟨b182, 0, none⟩)), (37, .agg #[.int .u64 x1.f0, .int .i64 x1.f1, .int .u64 x1.f2, .int .i64 x1.f3, .int .u32 x1.f4, .int .u64 x1.f5, .slice p2 x1.f6.length c3]), (39, .agg #[.int .u64 x1.f0, .int .i64 x1.f1, .int .u64 x1.f2, .int .i64 x1.f3, .int .u32 x1.f4, .int .u64 x1.f5, .slice p2 x1.f6.length c3]), (38, .int .i64 y245), (40, .int .i64 y249), (41, .bool (y245 == y249)), (42, .bool (y245 == y249))] (by kernel_rfl) fun a hs hS => ?_
    rcases ifbE hx243 with ⟨h251, hx243⟩ | ⟨h251, hx243⟩
    · replace hs := hs.altB 42 true (by kernel_rfl) h251
      refine d_load (fuel := 37) kS184 hs hS 6 rfl (by kernel_rfl) (SX_box hS184 1 rfl (by kernel_rfl)) 0 (by kernel_rfl) (by kernel_rfl) (v := .agg #[.int .u64 x1.f0, .int .i64 x1.f1, .int .u64 x1.f2, .int .i64 x1.f3, .int .u32 x1.f4, .int .u64 x1.f5, .slice p2 x1.f6.length c3]) (by kernel_rfl) fun a hs hS => ?_
      refine d_load (fuel := 36) kS184 hs hS 8 rfl (by kernel_rfl) (SX_box hS184 1 rfl (by kernel_rfl)) 0 (by kernel_rfl) (by kernel_rfl) (v := .agg #[.int .u64 x1.f0, .int .i64 x1.f1, .int .u64 x1.f2, .int .i64 x1.f3, .int .u32 x1.f4, .int .u64 x1.f5, .slice p2 x1.f6.length c3]) (by kernel_rfl) fun a hs hS => ?_
      refine d_all (fuel := 35) (rs := [7]) (by kernel_rfl) (by simp) (all1 ?_)
      obtain ⟨y252, h253, hx243⟩ := bindE hx243
      refine o_call hs rfl (by kernel_rfl) (by kernel_rfl) (update_Asked_s h253 (h4.mono (hle178.trans hle248)) (hG.mono (hle178.trans hle248)) ((hw.pick [0, 1, 2] (by kernel_rfl)).pack 0)) fun a w v hv hs => ?_
      obtain ⟨ih254, rfl, hw, hle255⟩ := hv
      replace hw := hw.unpack 0 rfl
      refine dg_next (SX_now hS184 ((hw.vws [0, 1, 2]).anti (hle248.trans hle255)) (by kernel_rfl)) fun hS => ?_
      refine d_all (fuel := 34) (rs := [9]) (by kernel_rfl) (by simp) (all1 ?_)
      obtain ⟨y256, h257, hx243⟩ := bindE hx243
      refine o_call hs rfl (by kernel_rfl) (by kernel_rfl) (catenaryref17_Asked_s h257 (h4.mono ((hle178.trans hle248).trans hle255)) ((hw.pick [0, 1, 2] (by kernel_rfl)).pack 0)) fun a w v hv hs => ?_
      obtain ⟨rfl, hw⟩ := hv
      replace hw := hw.unpack 0 rfl
      refine dg_next (SX_now hS184 ((hw.vws [0, 1, 2]).anti (hle248.trans hle255)) (by kernel_rfl)) fun hS => ?_
      refine d_pures (fuel := 31) kS184 hs hS [10, 11, 12] [1, 3, 7, 8, 9, 10, 11, 12, 13, 37, 39, 38, 40, 41, 42, 43, 45, 44, 46, 47, 48, 49] [(1, .int .u64 x5), (3, .pointer (some ⟨b143, 0, none⟩)), (7, .int .i64 y160.1), (8, .int .u64 y160.2.1), (9, .bool y160.2.2), (10, .int .i64 y164.1), (11, .int .u64 y164.2.1), (12, .bool y164.2.2), (13, .pointer (some ⟨b182, 0, none⟩)), (37, .agg #[.int .u64 x1.f0, .int .i64 x1.f1, .int .u64 x1.f2, .int .i64 x1.f3, .int .u32 x1.f4, .int .u64 x1.f5, .slice p2 x1.f6.length c3]), (39, .agg #[.int .u64 x1.f0, .int .i64 x1.f1, .int .u64 x1.f2, .int .i64 x1.f3, .int .u32 x1.f4, .int .u64 x1.f5, .slice p2 x1.f6.length c3]), (38, .int .i64 y245), (40, .int .i64 y249), (41, .bool (y245 == y249)), (42, .bool true), (43, .agg #[.int .u64 x1.f0, .int .i64 x1.f1, .int .u64 x1.f2, .int .i64 x1.f3, .int .u32 x1.f4, .int .u64 x1.f5, .slice p2 x1.f6.length c3]), (45, .agg #[.int .u64 x1.f0, .int .i64 x1.f1, .int .u64 x1.f2, .int .i64 x1.f3, .int .u32 x1.f4, .int .u64 x1.f5, .slice p2 x1.f6.length c3]), (44, .int .i64 y252), (46, .int .i64 y256), (47, .bool (y252 == y256)), (48, .bool (y252 == y256)), (49, .bool (y252 == y256))] (by kernel_rfl) fun a hs hS => ?_
      rcases ifbE hx243 with ⟨h258, hx243⟩ | ⟨h258, hx243⟩
      · replace hs := hs.altB 49 true (by kernel_rfl) h258
        refine d_pures (fuel := 26) kS184 hs hS [13, 14, 15, 16, 17] [1, 3, 7, 8, 9, 10, 11, 12, 13, 37, 39, 38, 40, 41, 42, 43, 45, 44, 46, 47, 48, 49, 50, 51, 52, 53, 54] [(1, .int .u64 x5), (3, .pointer (some ⟨b143, 0, none⟩)), (7, .int .i64 y160.1), (8, .int .u64 y160.2.1), (9, .bool y160.2.2), (10, .int .i64 y164.1), (11, .int .u64 y164.2.1), (12, .bool y164.2.2), (13, .pointer (some ⟨b182, 0, none⟩)), (37, .agg #[.int .u64 x1.f0, .int .i64 x1.f1, .int .u64 x1.f2, .int .i64 x1.f3, .int .u32 x1.f4, .int .u64 x1.f5, .slice p2 x1.f6.length c3]), (39, .agg #[.int .u64 x1.f0, .int .i64 x1.f1, .int .u64 x1.f2, .int .i64 x1.f3, .int .u32 x1.f4, .int .u64 x1.f5, .slice p2 x1.f6.length c3]), (38, .int .i64 y245), (40, .int .i64 y249), (41, .bool (y245 == y249)), (42, .bool true), (43, .agg #[.int .u64 x1.f0, .int .i64 x1.f1, .int .u64 x1.f2, .int .i64 x1.f3, .int .u32 x1.f4, .int .u64 x1.f5, .slice p2 x1.f6.length c3]), (45, .agg #[.int .u64 x1.f0, .int .i64 x1.f1, .int .u64 x1.f2, .int .i64 x1.f3, .int .u32 x1.f4, .int .u64 x1.f5, .slice p2 x1.f6.length c3]), (44, .int .i64 y252), (46, .int .i64 y256), (47, .bool (y252 == y256)), (48, .bool (y252 == y256)), (49, .bool true), (50, .int .i64 y160.1), (51, .int .i64 y164.1), (52, .bool (y160.1 == y164.1)), (53, .bool (y160.1 == y164.1)), (54, .bool (y160.1 == y164.1))] (by kernel_rfl) fun a hs hS => ?_
        rcases ifbE hx243 with ⟨h259, hx243⟩ | ⟨h259, hx243⟩
        · replace hs := hs.altB 54 true (by kernel_rfl) h259
          refine d_pures (fuel := 21) kS184 hs hS [18, 19, 20, 21, 22] [1, 3, 7, 8, 9, 10, 11, 12, 13, 37, 39, 38, 40, 41, 42, 43, 45, 44, 46, 47, 48, 49, 50, 51, 52, 53, 54, 55, 56, 57, 58, 59] [(1, .int .u64 x5), (3, .pointer (some ⟨b143, 0, none⟩)), (7, .int .i64 y160.1), (8, .int .u64 y160.2.1), (9, .bool y160.2.2), (10, .int .i64 y164.1), (11, .int .u64 y164.2.1), (12, .bool y164.2.2), (13, .pointer (some ⟨b182, 0, none⟩)), (37, .agg #[.int .u64 x1.f0, .int .i64 x1.f1, .int .u64 x1.f2, .int .i64 x1.f3, .int .u32 x1.f4, .int .u64 x1.f5, .slice p2 x1.f6.length c3]), (39, .agg #[.int .u64 x1.f0, .int .i64 x1.f1, .int .u64 x1.f2, .int .i64 x1.f3, .int .u32 x1.f4, .int .u64 x1.f5, .slice p2 x1.f6.length c3]), (38, .int .i64 y245), (40, .int .i64 y249), (41, .bool (y245 == y249)), (42, .bool true), (43, .agg #[.int .u64 x1.f0, .int .i64 x1.f1, .int .u64 x1.f2, .int .i64 x1.f3, .int .u32 x1.f4, .int .u64 x1.f5, .slice p2 x1.f6.length c3]), (45, .agg #[.int .u64 x1.f0, .int .i64 x1.f1, .int .u64 x1.f2, .int .i64 x1.f3, .int .u32 x1.f4, .int .u64 x1.f5, .slice p2 x1.f6.length c3]), (44, .int .i64 y252), (46, .int .i64 y256), (47, .bool (y252 == y256)), (48, .bool (y252 == y256)), (49, .bool true), (50, .int .i64 y160.1), (51, .int .i64 y164.1), (52, .bool (y160.1 == y164.1)), (53, .bool (y160.1 == y164.1)), (54, .bool true), (55, .int .u64 y160.2.1), (56, .int .u64 y164.2.1), (57, .bool (y160.2.1 == y164.2.1)), (58, .bool (y160.2.1 == y164.2.1)), (59, .bool (y160.2.1 == y164.2.1))] (by kernel_rfl) fun a hs hS => ?_
          rcases ifbE hx243 with ⟨h260, hx243⟩ | ⟨h260, hx243⟩
          · replace hs := hs.altB 59 true (by kernel_rfl) h260
            refine d_pures (fuel := 16) kS184 hs hS [23, 24, 25, 26, 27] [1, 3, 7, 8, 9, 10, 11, 12, 13, 37, 39, 38, 40, 41, 42, 43, 45, 44, 46, 47, 48, 49, 50, 51, 52, 53, 54, 55, 56, 57, 58, 59, 60, 61, 62, 63, 64] [(1, .int .u64 x5), (3, .pointer (some ⟨b143, 0, none⟩)), (7, .int .i64 y160.1), (8, .int .u64 y160.2.1), (9, .bool y160.2.2), (10, .int .i64 y164.1), (11, .int .u64 y164.2.1), (12, .bool y164.2.2), (13, .pointer (some ⟨b182, 0, none⟩)), (37, .agg #[.int .u64 x1.f0, .int .i64 x1.f1, .int .u64 x1.f2, .int .i64 x1.f3, .int .u32 x1.f4, .int .u64 x1.f5, .slice p2 x1.f6.length c3]), (39, .agg #[.int .u64 x1.f0, .int .i64 x1.f1, .int .u64 x1.f2, .int .i64 x1.f3, .int .u32 x1.f4, .int .u64 x1.f5, .slice p2 x1.f6.length c3]), (38, .int .i64 y245), (40, .int .i64 y249), (41, .bool (y245 == y249)), (42, .bool true), (43, .agg #[.int .u64 x1.f0, .int .i64 x1.f1, .int .u64 x1.f2, .int .i64 x1.f3, .int .u32 x1.f4, .int .u64 x1.f5, .slice p2 x1.f6.length c3]), (45, .agg #[.int .u64 x1.f0, .int .i64 x1.f1, .int .u64 x1.f2, .int .i64 x1.f3, .int .u32 x1.f4, .int .u64 x1.f5, .slice p2 x1.f6.length c3]), (44, .int .i64 y252), (46, .int .i64 y256), (47, .bool (y252 == y256)), (48, .bool (y252 == y256)), (49, .bool true), (50, .int .i64 y160.1), (51, .int .i64 y164.1), (52, .bool (y160.1 == y164.1)), (53, .bool (y160.1 == y164.1)), (54, .bool true), (55, .int .u64 y160.2.1), (56, .int .u64 y164.2.1), (57, .bool (y160.2.1 == y164.2.1)), (58, .bool (y160.2.1 == y164.2.1)), (59, .bool true), (60, .bool y160.2.2), (61, .bool y164.2.2), (62, .bool (y160.2.2 == y164.2.2)), (63, .bool (y160.2.2 == y164.2.2)), (64, .bool (y160.2.2 == y164.2.2))] (by kernel_rfl) fun a hs hS => ?_
            rcases ifbE hx243 with ⟨h261, hx243⟩ | ⟨h261, hx243⟩
            · replace hs := hs.altB 64 true (by kernel_rfl) h261
              refine d_pures (fuel := 15) kS184 hs hS [28] [1, 3, 7, 8, 9, 10, 11, 12, 13, 37, 39, 38, 40, 41, 42, 43, 45, 44, 46, 47, 48, 49, 50, 51, 52, 53, 54, 55, 56, 57, 58, 59, 60, 61, 62, 63, 64, 65] [(1, .int .u64 x5), (3, .pointer (some ⟨b143, 0, none⟩)), (7, .int .i64 y160.1), (8, .int .u64 y160.2.1), (9, .bool y160.2.2), (10, .int .i64 y164.1), (11, .int .u64 y164.2.1), (12, .bool y164.2.2), (13, .pointer (some ⟨b182, 0, none⟩)), (37, .agg #[.int .u64 x1.f0, .int .i64 x1.f1, .int .u64 x1.f2, .int .i64 x1.f3, .int .u32 x1.f4, .int .u64 x1.f5, .slice p2 x1.f6.length c3]), (39, .agg #[.int .u64 x1.f0, .int .i64 x1.f1, .int .u64 x1.f2, .int .i64 x1.f3, .int .u32 x1.f4, .int .u64 x1.f5, .slice p2 x1.f6.length c3]), (38, .int .i64 y245), (40, .int .i64 y249), (41, .bool (y245 == y249)), (42, .bool true), (43, .agg #[.int .u64 x1.f0, .int .i64 x1.f1, .int .u64 x1.f2, .int .i64 x1.f3, .int .u32 x1.f4, .int .u64 x1.f5, .slice p2 x1.f6.length c3]), (45, .agg #[.int .u64 x1.f0, .int .i64 x1.f1, .int .u64 x1.f2, .int .i64 x1.f3, .int .u32 x1.f4, .int .u64 x1.f5, .slice p2 x1.f6.length c3]), (44, .int .i64 y252), (46, .int .i64 y256), (47, .bool (y252 == y256)), (48, .bool (y252 == y256)), (49, .bool true), (50, .int .i64 y160.1), (51, .int .i64 y164.1), (52, .bool (y160.1 == y164.1)), (53, .bool (y160.1 == y164.1)), (54, .bool true), (55, .int .u64 y160.2.1), (56, .int .u64 y164.2.1), (57, .bool (y160.2.1 == y164.2.1)), (58, .bool (y160.2.1 == y164.2.1)), (59, .bool true), (60, .bool y160.2.2), (61, .bool y164.2.2), (62, .bool (y160.2.2 == y164.2.2)), (63, .bool (y160.2.2 == y164.2.2)), (64, .bool true), (65, .pointer (some ⟨b182, 0, none⟩))] (by kernel_rfl) fun a hs hS => ?_
              refine d_load (fuel := 14) kS184 hs hS 29 rfl (by kernel_rfl) (SX_box hS184 0 rfl (by kernel_rfl)) 0 (by kernel_rfl) (by kernel_rfl) (v := .int .u64 y175.f0) (by kernel_rfl) fun a hs hS => ?_
              refine d_pures (fuel := 13) kS184 hs hS [30] [1, 3, 7, 8, 9, 10, 11, 12, 13, 37, 39, 38, 40, 41, 42, 43, 45, 44, 46, 47, 48, 49, 50, 51, 52, 53, 54, 55, 56, 57, 58, 59, 60, 61, 62, 63, 64, 65, 66, 67] [(1, .int .u64 x5), (3, .pointer (some ⟨b143, 0, none⟩)), (7, .int .i64 y160.1), (8, .int .u64 y160.2.1), (9, .bool y160.2.2), (10, .int .i64 y164.1), (11, .int .u64 y164.2.1), (12, .bool y164.2.2), (13, .pointer (some ⟨b182, 0, none⟩)), (37, .agg #[.int .u64 x1.f0, .int .i64 x1.f1, .int .u64 x1.f2, .int .i64 x1.f3, .int .u32 x1.f4, .int .u64 x1.f5, .slice p2 x1.f6.length c3]), (39, .agg #[.int .u64 x1.f0, .int .i64 x1.f1, .int .u64 x1.f2, .int .i64 x1.f3, .int .u32 x1.f4, .int .u64 x1.f5, .slice p2 x1.f6.length c3]), (38, .int .i64 y245), (40, .int .i64 y249), (41, .bool (y245 == y249)), (42, .bool true), (43, .agg #[.int .u64 x1.f0, .int .i64 x1.f1, .int .u64 x1.f2, .int .i64 x1.f3, .int .u32 x1.f4, .int .u64 x1.f5, .slice p2 x1.f6.length c3]), (45, .agg #[.int .u64 x1.f0, .int .i64 x1.f1, .int .u64 x1.f2, .int .i64 x1.f3, .int .u32 x1.f4, .int .u64 x1.f5, .slice p2 x1.f6.length c3]), (44, .int .i64 y252), (46, .int .i64 y256), (47, .bool (y252 == y256)), (48, .bool (y252 == y256)), (49, .bool true), (50, .int .i64 y160.1), (51, .int .i64 y164.1), (52, .bool (y160.1 == y164.1)), (53, .bool (y160.1 == y164.1)), (54, .bool true), (55, .int .u64 y160.2.1), (56, .int .u64 y164.2.1), (57, .bool (y160.2.1 == y164.2.1)), (58, .bool (y160.2.1 == y164.2.1)), (59, .bool true), (60, .bool y160.2.2), (61, .bool y164.2.2), (62, .bool (y160.2.2 == y164.2.2)), (63, .bool (y160.2.2 == y164.2.2)), (64, .bool true), (65, .pointer (some ⟨b182, 0, none⟩)), (66, .int .u64 y175.f0), (67, .pointer (some ⟨b182, 1, none⟩))] (by kernel_rfl) fun a hs hS => ?_
              refine d_load (fuel := 12) kS184 hs hS 31 rfl (by kernel_rfl) (SX_box hS184 0 rfl (by kernel_rfl)) 1 (by kernel_rfl) (by kernel_rfl) (v := .int .u64 y175.f1) (by kernel_rfl) fun a hs hS => ?_
              refine d_pures (fuel := 11) kS184 hs hS [32] [1, 3, 7, 8, 9, 10, 11, 12, 13, 37, 39, 38, 40, 41, 42, 43, 45, 44, 46, 47, 48, 49, 50, 51, 52, 53, 54, 55, 56, 57, 58, 59, 60, 61, 62, 63, 64, 65, 66, 67, 68, 69] [(1, .int .u64 x5), (3, .pointer (some ⟨b143, 0, none⟩)), (7, .int .i64 y160.1), (8, .int .u64 y160.2.1), (9, .bool y160.2.2), (10, .int .i64 y164.1), (11, .int .u64 y164.2.1), (12, .bool y164.2.2), (13, .pointer (some ⟨b182, 0, none⟩)), (37, .agg #[.int .u64 x1.f0, .int .i64 x1.f1, .int .u64 x1.f2, .int .i64 x1.f3, .int .u32 x1.f4, .int .u64 x1.f5, .slice p2 x1.f6.length c3]), (39, .agg #[.int .u64 x1.f0, .int .i64 x1.f1, .int .u64 x1.f2, .int .i64 x1.f3, .int .u32 x1.f4, .int .u64 x1.f5, .slice p2 x1.f6.length c3]), (38, .int .i64 y245), (40, .int .i64 y249), (41, .bool (y245 == y249)), (42, .bool true), (43, .agg #[.int .u64 x1.f0, .int .i64 x1.f1, .int .u64 x1.f2, .int .i64 x1.f3, .int .u32 x1.f4, .int .u64 x1.f5, .slice p2 x1.f6.length c3]), (45, .agg #[.int .u64 x1.f0, .int .i64 x1.f1, .int .u64 x1.f2, .int .i64 x1.f3, .int .u32 x1.f4, .int .u64 x1.f5, .slice p2 x1.f6.length c3]), (44, .int .i64 y252), (46, .int .i64 y256), (47, .bool (y252 == y256)), (48, .bool (y252 == y256)), (49, .bool true), (50, .int .i64 y160.1), (51, .int .i64 y164.1), (52, .bool (y160.1 == y164.1)), (53, .bool (y160.1 == y164.1)), (54, .bool true), (55, .int .u64 y160.2.1), (56, .int .u64 y164.2.1), (57, .bool (y160.2.1 == y164.2.1)), (58, .bool (y160.2.1 == y164.2.1)), (59, .bool true), (60, .bool y160.2.2), (61, .bool y164.2.2), (62, .bool (y160.2.2 == y164.2.2)), (63, .bool (y160.2.2 == y164.2.2)), (64, .bool true), (65, .pointer (some ⟨b182, 0, none⟩)), (66, .int .u64 y175.f0), (67, .pointer (some ⟨b182, 1, none⟩)), (68, .int .u64 y175.f1), (69, .pointer (some ⟨b182, 2, none⟩))] (by kernel_rfl) fun a hs hS => ?_
              refine d_load (fuel := 10) kS184 hs hS 33 rfl (by kernel_rfl) (SX_box hS184 0 rfl (by kernel_rfl)) 2 (by kernel_rfl) (by kernel_rfl) (v := .slice p179 y175.f2.length c180) (by kernel_rfl) fun a hs hS => ?_
              refine d_pures (fuel := 9) kS184 hs hS [34] [1, 3, 7, 8, 9, 10, 11, 12, 13, 37, 39, 38, 40, 41, 42, 43, 45, 44, 46, 47, 48, 49, 50, 51, 52, 53, 54, 55, 56, 57, 58, 59, 60, 61, 62, 63, 64, 65, 66, 67, 68, 69, 70, 71] [(1, .int .u64 x5), (3, .pointer (some ⟨b143, 0, none⟩)), (7, .int .i64 y160.1), (8, .int .u64 y160.2.1), (9, .bool y160.2.2), (10, .int .i64 y164.1), (11, .int .u64 y164.2.1), (12, .bool y164.2.2), (13, .pointer (some ⟨b182, 0, none⟩)), (37, .agg #[.int .u64 x1.f0, .int .i64 x1.f1, .int .u64 x1.f2, .int .i64 x1.f3, .int .u32 x1.f4, .int .u64 x1.f5, .slice p2 x1.f6.length c3]), (39, .agg #[.int .u64 x1.f0, .int .i64 x1.f1, .int .u64 x1.f2, .int .i64 x1.f3, .int .u32 x1.f4, .int .u64 x1.f5, .slice p2 x1.f6.length c3]), (38, .int .i64 y245), (40, .int .i64 y249), (41, .bool (y245 == y249)), (42, .bool true), (43, .agg #[.int .u64 x1.f0, .int .i64 x1.f1, .int .u64 x1.f2, .int .i64 x1.f3, .int .u32 x1.f4, .int .u64 x1.f5, .slice p2 x1.f6.length c3]), (45, .agg #[.int .u64 x1.f0, .int .i64 x1.f1, .int .u64 x1.f2, .int .i64 x1.f3, .int .u32 x1.f4, .int .u64 x1.f5, .slice p2 x1.f6.length c3]), (44, .int .i64 y252), (46, .int .i64 y256), (47, .bool (y252 == y256)), (48, .bool (y252 == y256)), (49, .bool true), (50, .int .i64 y160.1), (51, .int .i64 y164.1), (52, .bool (y160.1 == y164.1)), (53, .bool (y160.1 == y164.1)), (54, .bool true), (55, .int .u64 y160.2.1), (56, .int .u64 y164.2.1), (57, .bool (y160.2.1 == y164.2.1)), (58, .bool (y160.2.1 == y164.2.1)), (59, .bool true), (60, .bool y160.2.2), (61, .bool y164.2.2), (62, .bool (y160.2.2 == y164.2.2)), (63, .bool (y160.2.2 == y164.2.2)), (64, .bool true), (65, .pointer (some ⟨b182, 0, none⟩)), (66, .int .u64 y175.f0), (67, .pointer (some ⟨b182, 1, none⟩)), (68, .int .u64 y175.f1), (69, .pointer (some ⟨b182, 2, none⟩)), (70, .slice p179 y175.f2.length c180), (71, .agg #[.int .u64 y175.f0, .int .u64 y175.f1, .slice p179 y175.f2.length c180])] (by kernel_rfl) fun a hs hS => ?_
              refine d_load (fuel := 8) kS184 hs hS 35 rfl (by kernel_rfl) (SX_box hS184 1 rfl (by kernel_rfl)) 0 (by kernel_rfl) (by kernel_rfl) (v := .agg #[.int .u64 x1.f0, .int .i64 x1.f1, .int .u64 x1.f2, .int .i64 x1.f3, .int .u32 x1.f4, .int .u64 x1.f5, .slice p2 x1.f6.length c3]) (by kernel_rfl) fun a hs hS => ?_
              refine d_pures (fuel := 7) kS184 hs hS [36] [1, 3, 7, 8, 9, 10, 11, 12, 13, 37, 39, 38, 40, 41, 42, 43, 45, 44, 46, 47, 48, 49, 50, 51, 52, 53, 54, 55, 56, 57, 58, 59, 60, 61, 62, 63, 64, 65, 66, 67, 68, 69, 70, 71, 72, 73] [(1, .int .u64 x5), (3, .pointer (some ⟨b143, 0, none⟩)), (7, .int .i64 y160.1), (8, .int .u64 y160.2.1), (9, .bool y160.2.2), (10, .int .i64 y164.1), (11, .int .u64 y164.2.1), (12, .bool y164.2.2), (13, .pointer (some ⟨b182, 0, none⟩)), (37, .agg #[.int .u64 x1.f0, .int .i64 x1.f1, .int .u64 x1.f2, .int .i64 x1.f3, .int .u32 x1.f4, .int .u64 x1.f5, .slice p2 x1.f6.length c3]), (39, .agg #[.int .u64 x1.f0, .int .i64 x1.f1, .int .u64 x1.f2, .int .i64 x1.f3, .int .u32 x1.f4, .int .u64 x1.f5, .slice p2 x1.f6.length c3]), (38, .int .i64 y245), (40, .int .i64 y249), (41, .bool (y245 == y249)), (42, .bool true), (43, .agg #[.int .u64 x1.f0, .int .i64 x1.f1, .int .u64 x1.f2, .int .i64 x1.f3, .int .u32 x1.f4, .int .u64 x1.f5, .slice p2 x1.f6.length c3]), (45, .agg #[.int .u64 x1.f0, .int .i64 x1.f1, .int .u64 x1.f2, .int .i64 x1.f3, .int .u32 x1.f4, .int .u64 x1.f5, .slice p2 x1.f6.length c3]), (44, .int .i64 y252), (46, .int .i64 y256), (47, .bool (y252 == y256)), (48, .bool (y252 == y256)), (49, .bool true), (50, .int .i64 y160.1), (51, .int .i64 y164.1), (52, .bool (y160.1 == y164.1)), (53, .bool (y160.1 == y164.1)), (54, .bool true), (55, .int .u64 y160.2.1), (56, .int .u64 y164.2.1), (57, .bool (y160.2.1 == y164.2.1)), (58, .bool (y160.2.1 == y164.2.1)), (59, .bool true), (60, .bool y160.2.2), (61, .bool y164.2.2), (62, .bool (y160.2.2 == y164.2.2)), (63, .bool (y160.2.2 == y164.2.2)), (64, .bool true), (65, .pointer (some ⟨b182, 0, none⟩)), (66, .int .u64 y175.f0), (67, .pointer (some ⟨b182, 1, none⟩)), (68, .int .u64 y175.f1), (69, .pointer (some ⟨b182, 2, none⟩)), (70, .slice p179 y175.f2.length c180), (71, .agg #[.int .u64 y175.f0, .int .u64 y175.f1, .slice p179 y175.f2.length c180]), (72, .agg #[.int .u64 x1.f0, .int .i64 x1.f1, .int .u64 x1.f2, .int .i64 x1.f3, .int .u32 x1.f4, .int .u64 x1.f5, .slice p2 x1.f6.length c3]), (73, .int .u64 x5)] (by kernel_rfl) fun a hs hS => ?_
              refine d_all (fuel := 6) (rs := [37]) (by kernel_rfl) (by simp) (all1 ?_)
              obtain ⟨y262, h263, hx243⟩ := bindE hx243
              refine o_call hs rfl (by kernel_rfl) (by kernel_rfl) (catenaryref17_Made_s h263 (h4.mono ((hle178.trans hle248).trans hle255)) ((hw.pick [0, 1, 2] (by kernel_rfl)).pack 0)) fun a w v hv hs => ?_
              obtain ⟨p264, c265, rfl, hw, h266⟩ := hv
              replace hw := hw.unpack 0 rfl
              refine dg_next (SX_now hS184 ((hw.vws [0, 1, 2]).anti (hle248.trans hle255)) (by kernel_rfl)) fun hS => ?_
              refine d_all (fuel := 5) (rs := [38]) (by kernel_rfl) (by simp) (all1 ?_)
              obtain ⟨y267, h268, hx243⟩ := bindE hx243
              refine o_call hs rfl (by kernel_rfl) (by kernel_rfl) (catenaryref15_Same_s h268 (h181.mono (hle248.trans hle255)) h266 ((hw.pick [0, 1, 2] (by kernel_rfl)).pack 0)) fun a w v hv hs => ?_
              obtain ⟨rfl, hw⟩ := hv
              replace hw := hw.unpack 0 rfl
              refine dg_next (SX_now hS184 ((hw.vws [0, 1, 2]).anti (hle248.trans hle255)) (by kernel_rfl)) fun hS => ?_
              refine d_pures (fuel := 3) kS184 hs hS [39, 40] [1, 3, 7, 8, 9, 10, 11, 12, 13, 37, 39, 38, 40, 41, 42, 43, 45, 44, 46, 47, 48, 49, 50, 51, 52, 53, 54, 55, 56, 57, 58, 59, 60, 61, 62, 63, 64, 65, 66, 67, 68, 69, 70, 71, 72, 73, 74, 75, 76, 77] [(1, .int .u64 x5), (3, .pointer (some ⟨b143, 0, none⟩)), (7, .int .i64 y160.1), (8, .int .u64 y160.2.1), (9, .bool y160.2.2), (10, .int .i64 y164.1), (11, .int .u64 y164.2.1), (12, .bool y164.2.2), (13, .pointer (some ⟨b182, 0, none⟩)), (37, .agg #[.int .u64 x1.f0, .int .i64 x1.f1, .int .u64 x1.f2, .int .i64 x1.f3, .int .u32 x1.f4, .int .u64 x1.f5, .slice p2 x1.f6.length c3]), (39, .agg #[.int .u64 x1.f0, .int .i64 x1.f1, .int .u64 x1.f2, .int .i64 x1.f3, .int .u32 x1.f4, .int .u64 x1.f5, .slice p2 x1.f6.length c3]), (38, .int .i64 y245), (40, .int .i64 y249), (41, .bool (y245 == y249)), (42, .bool true), (43, .agg #[.int .u64 x1.f0, .int .i64 x1.f1, .int .u64 x1.f2, .int .i64 x1.f3, .int .u32 x1.f4, .int .u64 x1.f5, .slice p2 x1.f6.length c3]), (45, .agg #[.int .u64 x1.f0, .int .i64 x1.f1, .int .u64 x1.f2, .int .i64 x1.f3, .int .u32 x1.f4, .int .u64 x1.f5, .slice p2 x1.f6.length c3]), (44, .int .i64 y252), (46, .int .i64 y256), (47, .bool (y252 == y256)), (48, .bool (y252 == y256)), (49, .bool true), (50, .int .i64 y160.1), (51, .int .i64 y164.1), (52, .bool (y160.1 == y164.1)), (53, .bool (y160.1 == y164.1)), (54, .bool true), (55, .int .u64 y160.2.1), (56, .int .u64 y164.2.1), (57, .bool (y160.2.1 == y164.2.1)), (58, .bool (y160.2.1 == y164.2.1)), (59, .bool true), (60, .bool y160.2.2), (61, .bool y164.2.2), (62, .bool (y160.2.2 == y164.2.2)), (63, .bool (y160.2.2 == y164.2.2)), (64, .bool true), (65, .pointer (some ⟨b182, 0, none⟩)), (66, .int .u64 y175.f0), (67, .pointer (some ⟨b182, 1, none⟩)), (68, .int .u64 y175.f1), (69, .pointer (some ⟨b182, 2, none⟩)), (70, .slice p179 y175.f2.length c180), (71, .agg #[.int .u64 y175.f0, .int .u64 y175.f1, .slice p179 y175.f2.length c180]), (72, .agg #[.int .u64 x1.f0, .int .i64 x1.f1, .int .u64 x1.f2, .int .i64 x1.f3, .int .u32 x1.f4, .int .u64 x1.f5, .slice p2 x1.f6.length c3]), (73, .int .u64 x5), (74, .agg #[.int .u64 y262.f0, .int .u64 y262.f1, .slice p264 y262.f2.length c265]), (75, .bool y267), (76, .bool y267), (77, .bool y267)] (by kernel_rfl) fun a hs hS => ?_
              rcases ifbE hx243 with ⟨h269, hx243⟩ | ⟨h269, hx243⟩
              · replace hs := hs.altB 77 true (by kernel_rfl) h269
                refine d_all (fuel := 2) (rs := [41]) (by kernel_rfl) (by simp) (all1 ?_)
                have h271 : catenarylaw17_awake = some () := rfl
                refine o_call hs rfl (by kernel_rfl) (by kernel_rfl) (catenarylaw17_awake_s h271 ((hw.pick [0, 1, 2] (by kernel_rfl)).pack 0)) fun a w v hv hs => ?_
                obtain ⟨rfl, hw⟩ := hv
                replace hw := hw.unpack 0 rfl
                refine dg_next (SX_now hS184 ((hw.vws [0, 1, 2]).anti (hle248.trans hle255)) (by kernel_rfl)) fun hS => ?_
                refine d_pures (fuel := 0) kS184 hs hS [42, 43] [1, 3, 7, 8, 9, 10, 11, 12, 13, 37, 39, 38, 40, 41, 42, 43, 45, 44, 46, 47, 48, 49, 50, 51, 52, 53, 54, 55, 56, 57, 58, 59, 60, 61, 62, 63, 64, 65, 66, 67, 68, 69, 70, 71, 72, 73, 74, 75, 76, 77, 78, 79, 6] [(1, .int .u64 x5), (3, .pointer (some ⟨b143, 0, none⟩)), (7, .int .i64 y160.1), (8, .int .u64 y160.2.1), (9, .bool y160.2.2), (10, .int .i64 y164.1), (11, .int .u64 y164.2.1), (12, .bool y164.2.2), (13, .pointer (some ⟨b182, 0, none⟩)), (37, .agg #[.int .u64 x1.f0, .int .i64 x1.f1, .int .u64 x1.f2, .int .i64 x1.f3, .int .u32 x1.f4, .int .u64 x1.f5, .slice p2 x1.f6.length c3]), (39, .agg #[.int .u64 x1.f0, .int .i64 x1.f1, .int .u64 x1.f2, .int .i64 x1.f3, .int .u32 x1.f4, .int .u64 x1.f5, .slice p2 x1.f6.length c3]), (38, .int .i64 y245), (40, .int .i64 y249), (41, .bool (y245 == y249)), (42, .bool true), (43, .agg #[.int .u64 x1.f0, .int .i64 x1.f1, .int .u64 x1.f2, .int .i64 x1.f3, .int .u32 x1.f4, .int .u64 x1.f5, .slice p2 x1.f6.length c3]), (45, .agg #[.int .u64 x1.f0, .int .i64 x1.f1, .int .u64 x1.f2, .int .i64 x1.f3, .int .u32 x1.f4, .int .u64 x1.f5, .slice p2 x1.f6.length c3]), (44, .int .i64 y252), (46, .int .i64 y256), (47, .bool (y252 == y256)), (48, .bool (y252 == y256)), (49, .bool true), (50, .int .i64 y160.1), (51, .int .i64 y164.1), (52, .bool (y160.1 == y164.1)), (53, .bool (y160.1 == y164.1)), (54, .bool true), (55, .int .u64 y160.2.1), (56, .int .u64 y164.2.1), (57, .bool (y160.2.1 == y164.2.1)), (58, .bool (y160.2.1 == y164.2.1)), (59, .bool true), (60, .bool y160.2.2), (61, .bool y164.2.2), (62, .bool (y160.2.2 == y164.2.2)), (63, .bool (y160.2.2 == y164.2.2)), (64, .bool true), (65, .pointer (some ⟨b182, 0, none⟩)), (66, .int .u64 y175.f0), (67, .pointer (some ⟨b182, 1, none⟩)), (68, .int .u64 y175.f1), (69, .pointer (some ⟨b182, 2, none⟩)), (70, .slice p179 y175.f2.length c180), (71, .agg #[.int .u64 y175.f0, .int .u64 y175.f1, .slice p179 y175.f2.length c180]), (72, .agg #[.int .u64 x1.f0, .int .i64 x1.f1, .int .u64 x1.f2, .int .i64 x1.f3, .int .u32 x1.f4, .int .u64 x1.f5, .slice p2 x1.f6.length c3]), (73, .int .u64 x5), (74, .agg #[.int .u64 y262.f0, .int .u64 y262.f1, .slice p264 y262.f2.length c265]), (75, .bool y267), (76, .bool y267), (77, .bool true), (78, .bool true), (79, .bool true), (6, .bool true)] (by kernel_rfl) fun a hs hS => ?_
                refine d_done (by kernel_rfl) ?_
                obtain rfl := someE hx243
                exact (hJ244 _ _).2 ⟨true, ih254, hk, hs.cast [6] (by kernel_rfl), hw.pick [2] (by kernel_rfl), (hle248.trans hle255)⟩
              replace hs := hs.altB 77 false (by kernel_rfl) h269
              refine d_pures (fuel := 0) kS184 hs hS [41, 42, 43] [1, 3, 7, 8, 9, 10, 11, 12, 13, 37, 39, 38, 40, 41, 42, 43, 45, 44, 46, 47, 48, 49, 50, 51, 52, 53, 54, 55, 56, 57, 58, 59, 60, 61, 62, 63, 64, 65, 66, 67, 68, 69, 70, 71, 72, 73, 74, 75, 76, 77, 78, 79, 6] [(1, .int .u64 x5), (3, .pointer (some ⟨b143, 0, none⟩)), (7, .int .i64 y160.1), (8, .int .u64 y160.2.1), (9, .bool y160.2.2), (10, .int .i64 y164.1), (11, .int .u64 y164.2.1), (12, .bool y164.2.2), (13, .pointer (some ⟨b182, 0, none⟩)), (37, .agg #[.int .u64 x1.f0, .int .i64 x1.f1, .int .u64 x1.f2, .int .i64 x1.f3, .int .u32 x1.f4, .int .u64 x1.f5, .slice p2 x1.f6.length c3]), (39, .agg #[.int .u64 x1.f0, .int .i64 x1.f1, .int .u64 x1.f2, .int .i64 x1.f3, .int .u32 x1.f4, .int .u64 x1.f5, .slice p2 x1.f6.length c3]), (38, .int .i64 y245), (40, .int .i64 y249), (41, .bool (y245 == y249)), (42, .bool true), (43, .agg #[.int .u64 x1.f0, .int .i64 x1.f1, .int .u64 x1.f2, .int .i64 x1.f3, .int .u32 x1.f4, .int .u64 x1.f5, .slice p2 x1.f6.length c3]), (45, .agg #[.int .u64 x1.f0, .int .i64 x1.f1, .int .u64 x1.f2, .int .i64 x1.f3, .int .u32 x1.f4, .int .u64 x1.f5, .slice p2 x1.f6.length c3]), (44, .int .i64 y252), (46, .int .i64 y256), (47, .bool (y252 == y256)), (48, .bool (y252 == y256)), (49, .bool true), (50, .int .i64 y160.1), (51, .int .i64 y164.1), (52, .bool (y160.1 == y164.1)), (53, .bool (y160.1 == y164.1)), (54, .bool true), (55, .int .u64 y160.2.1), (56, .int .u64 y164.2.1), (57, .bool (y160.2.1 == y164.2.1)), (58, .bool (y160.2.1 == y164.2.1)), (59, .bool true), (60, .bool y160.2.2), (61, .bool y164.2.2), (62, .bool (y160.2.2 == y164.2.2)), (63, .bool (y160.2.2 == y164.2.2)), (64, .bool true), (65, .pointer (some ⟨b182, 0, none⟩)), (66, .int .u64 y175.f0), (67, .pointer (some ⟨b182, 1, none⟩)), (68, .int .u64 y175.f1), (69, .pointer (some ⟨b182, 2, none⟩)), (70, .slice p179 y175.f2.length c180), (71, .agg #[.int .u64 y175.f0, .int .u64 y175.f1, .slice p179 y175.f2.length c180]), (72, .agg #[.int .u64 x1.f0, .int .i64 x1.f1, .int .u64 x1.f2, .int .i64 x1.f3, .int .u32 x1.f4, .int .u64 x1.f5, .slice p2 x1.f6.length c3]), (73, .int .u64 x5), (74, .agg #[.int .u64 y262.f0, .int .u64 y262.f1, .slice p264 y262.f2.length c265]), (75, .bool y267), (76, .bool y267), (77, .bool false), (78, undef), (79, .bool false), (6, .bool false)] (by kernel_rfl) fun a hs hS => ?_
              refine d_done (by kernel_rfl) ?_
              obtain rfl := someE hx243
              exact (hJ244 _ _).2 ⟨false, ih254, hk, hs.cast [6] (by kernel_rfl), hw.pick [2] (by kernel_rfl), (hle248.trans hle255)⟩
            replace hs := hs.altB 64 false (by kernel_rfl) h261
            refine d_pures (fuel := 0) kS184 hs hS [28, 29, 30, 31, 32, 33, 34, 35, 36, 37, 38, 39, 40, 41, 42, 43] [1, 3, 7, 8, 9, 10, 11, 12, 13, 37, 39, 38, 40, 41, 42, 43, 45, 44, 46, 47, 48, 49, 50, 51, 52, 53, 54, 55, 56, 57, 58, 59, 60, 61, 62, 63, 64, 65, 66, 67, 68, 69, 70, 71, 72, 73, 74, 75, 76, 77, 78, 79, 6] [(1, .int .u64 x5), (3, .pointer (some ⟨b143, 0, none⟩)), (7, .int .i64 y160.1), (8, .int .u64 y160.2.1), (9, .bool y160.2.2), (10, .int .i64 y164.1), (11, .int .u64 y164.2.1), (12, .bool y164.2.2), (13, .pointer (some ⟨b182, 0, none⟩)), (37, .agg #[.int .u64 x1.f0, .int .i64 x1.f1, .int .u64 x1.f2, .int .i64 x1.f3, .int .u32 x1.f4, .int .u64 x1.f5, .slice p2 x1.f6.length c3]), (39, .agg #[.int .u64 x1.f0, .int .i64 x1.f1, .int .u64 x1.f2, .int .i64 x1.f3, .int .u32 x1.f4, .int .u64 x1.f5, .slice p2 x1.f6.length c3]), (38, .int .i64 y245), (40, .int .i64 y249), (41, .bool (y245 == y249)), (42, .bool true), (43, .agg #[.int .u64 x1.f0, .int .i64 x1.f1, .int .u64 x1.f2, .int .i64 x1.f3, .int .u32 x1.f4, .int .u64 x1.f5, .slice p2 x1.f6.length c3]), (45, .agg #[.int .u64 x1.f0, .int .i64 x1.f1, .int .u64 x1.f2, .int .i64 x1.f3, .int .u32 x1.f4, .int .u64 x1.f5, .slice p2 x1.f6.length c3]), (44, .int .i64 y252), (46, .int .i64 y256), (47, .bool (y252 == y256)), (48, .bool (y252 == y256)), (49, .bool true), (50, .int .i64 y160.1), (51, .int .i64 y164.1), (52, .bool (y160.1 == y164.1)), (53, .bool (y160.1 == y164.1)), (54, .bool true), (55, .int .u64 y160.2.1), (56, .int .u64 y164.2.1), (57, .bool (y160.2.1 == y164.2.1)), (58, .bool (y160.2.1 == y164.2.1)), (59, .bool true), (60, .bool y160.2.2), (61, .bool y164.2.2), (62, .bool (y160.2.2 == y164.2.2)), (63, .bool (y160.2.2 == y164.2.2)), (64, .bool false), (65, undef), (66, undef), (67, undef), (68, undef), (69, undef), (70, undef), (71, undef), (72, undef), (73, undef), (74, undef), (75, undef), (76, .bool false), (77, .bool false), (78, undef), (79, .bool false), (6, .bool false)] (by kernel_rfl) fun a hs hS => ?_
            refine d_done (by kernel_rfl) ?_
            obtain rfl := someE hx243
            exact (hJ244 _ _).2 ⟨false, ih254, hk, hs.cast [6] (by kernel_rfl), hw.pick [2] (by kernel_rfl), (hle248.trans hle255)⟩
          replace hs := hs.altB 59 false (by kernel_rfl) h260
          refine d_pures (fuel := 0) kS184 hs hS [23, 24, 25, 26, 27, 28, 29, 30, 31, 32, 33, 34, 35, 36, 37, 38, 39, 40, 41, 42, 43] [1, 3, 7, 8, 9, 10, 11, 12, 13, 37, 39, 38, 40, 41, 42, 43, 45, 44, 46, 47, 48, 49, 50, 51, 52, 53, 54, 55, 56, 57, 58, 59, 60, 61, 62, 63, 64, 65, 66, 67, 68, 69, 70, 71, 72, 73, 74, 75, 76, 77, 78, 79, 6] [(1, .int .u64 x5), (3, .pointer (some ⟨b143, 0, none⟩)), (7, .int .i64 y160.1), (8, .int .u64 y160.2.1), (9, .bool y160.2.2), (10, .int .i64 y164.1), (11, .int .u64 y164.2.1), (12, .bool y164.2.2), (13, .pointer (some ⟨b182, 0, none⟩)), (37, .agg #[.int .u64 x1.f0, .int .i64 x1.f1, .int .u64 x1.f2, .int .i64 x1.f3, .int .u32 x1.f4, .int .u64 x1.f5, .slice p2 x1.f6.length c3]), (39, .agg #[.int .u64 x1.f0, .int .i64 x1.f1, .int .u64 x1.f2, .int .i64 x1.f3, .int .u32 x1.f4, .int .u64 x1.f5, .slice p2 x1.f6.length c3]), (38, .int .i64 y245), (40, .int .i64 y249), (41, .bool (y245 == y249)), (42, .bool true), (43, .agg #[.int .u64 x1.f0, .int .i64 x1.f1, .int .u64 x1.f2, .int .i64 x1.f3, .int .u32 x1.f4, .int .u64 x1.f5, .slice p2 x1.f6.length c3]), (45, .agg #[.int .u64 x1.f0, .int .i64 x1.f1, .int .u64 x1.f2, .int .i64 x1.f3, .int .u32 x1.f4, .int .u64 x1.f5, .slice p2 x1.f6.length c3]), (44, .int .i64 y252), (46, .int .i64 y256), (47, .bool (y252 == y256)), (48, .bool (y252 == y256)), (49, .bool true), (50, .int .i64 y160.1), (51, .int .i64 y164.1), (52, .bool (y160.1 == y164.1)), (53, .bool (y160.1 == y164.1)), (54, .bool true), (55, .int .u64 y160.2.1), (56, .int .u64 y164.2.1), (57, .bool (y160.2.1 == y164.2.1)), (58, .bool (y160.2.1 == y164.2.1)), (59, .bool false), (60, undef), (61, undef), (62, undef), (63, .bool false), (64, .bool false), (65, undef), (66, undef), (67, undef), (68, undef), (69, undef), (70, undef), (71, undef), (72, undef), (73, undef), (74, undef), (75, undef), (76, .bool false), (77, .bool false), (78, undef), (79, .bool false), (6, .bool false)] (by kernel_rfl) fun a hs hS => ?_
          refine d_done (by kernel_rfl) ?_
          obtain rfl := someE hx243
          exact (hJ244 _ _).2 ⟨false, ih254, hk, hs.cast [6] (by kernel_rfl), hw.pick [2] (by kernel_rfl), (hle248.trans hle255)⟩
        replace hs := hs.altB 54 false (by kernel_rfl) h259
        refine d_pures (fuel := 0) kS184 hs hS [18, 19, 20, 21, 22, 23, 24, 25, 26, 27, 28, 29, 30, 31, 32, 33, 34, 35, 36, 37, 38, 39, 40, 41, 42, 43] [1, 3, 7, 8, 9, 10, 11, 12, 13, 37, 39, 38, 40, 41, 42, 43, 45, 44, 46, 47, 48, 49, 50, 51, 52, 53, 54, 55, 56, 57, 58, 59, 60, 61, 62, 63, 64, 65, 66, 67, 68, 69, 70, 71, 72, 73, 74, 75, 76, 77, 78, 79, 6] [(1, .int .u64 x5), (3, .pointer (some ⟨b143, 0, none⟩)), (7, .int .i64 y160.1), (8, .int .u64 y160.2.1), (9, .bool y160.2.2), (10, .int .i64 y164.1), (11, .int .u64 y164.2.1), (12, .bool y164.2.2), (13, .pointer (some ⟨b182, 0, none⟩)), (37, .agg #[.int .u64 x1.f0, .int .i64 x1.f1, .int .u64 x1.f2, .int .i64 x1.f3, .int .u32 x1.f4, .int .u64 x1.f5, .slice p2 x1.f6.length c3]), (39, .agg #[.int .u64 x1.f0, .int .i64 x1.f1, .int .u64 x1.f2, .int .i64 x1.f3, .int .u32 x1.f4, .int .u64 x1.f5, .slice p2 x1.f6.length c3]), (38, .int .i64 y245), (40, .int .i64 y249), (41, .bool (y245 == y249)), (42, .bool true), (43, .agg #[.int .u64 x1.f0, .int .i64 x1.f1, .int .u64 x1.f2, .int .i64 x1.f3, .int .u32 x1.f4, .int .u64 x1.f5, .slice p2 x1.f6.length c3]), (45, .agg #[.int .u64 x1.f0, .int .i64 x1.f1, .int .u64 x1.f2, .int .i64 x1.f3, .int .u32 x1.f4, .int .u64 x1.f5, .slice p2 x1.f6.length c3]), (44, .int .i64 y252), (46, .int .i64 y256), (47, .bool (y252 == y256)), (48, .bool (y252 == y256)), (49, .bool true), (50, .int .i64 y160.1), (51, .int .i64 y164.1), (52, .bool (y160.1 == y164.1)), (53, .bool (y160.1 == y164.1)), (54, .bool false), (55, undef), (56, undef), (57, undef), (58, .bool false), (59, .bool false), (60, undef), (61, undef), (62, undef), (63, .bool false), (64, .bool false), (65, undef), (66, undef), (67, undef), (68, undef), (69, undef), (70, undef), (71, undef), (72, undef), (73, undef), (74, undef), (75, undef), (76, .bool false), (77, .bool false), (78, undef), (79, .bool false), (6, .bool false)] (by kernel_rfl) fun a hs hS => ?_
        refine d_done (by kernel_rfl) ?_
        obtain rfl := someE hx243
        exact (hJ244 _ _).2 ⟨false, ih254, hk, hs.cast [6] (by kernel_rfl), hw.pick [2] (by kernel_rfl), (hle248.trans hle255)⟩
      replace hs := hs.altB 49 false (by kernel_rfl) h258
      refine d_pures (fuel := 0) kS184 hs hS [13, 14, 15, 16, 17, 18, 19, 20, 21, 22, 23, 24, 25, 26, 27, 28, 29, 30, 31, 32, 33, 34, 35, 36, 37, 38, 39, 40, 41, 42, 43] [1, 3, 7, 8, 9, 10, 11, 12, 13, 37, 39, 38, 40, 41, 42, 43, 45, 44, 46, 47, 48, 49, 50, 51, 52, 53, 54, 55, 56, 57, 58, 59, 60, 61, 62, 63, 64, 65, 66, 67, 68, 69, 70, 71, 72, 73, 74, 75, 76, 77, 78, 79, 6] [(1, .int .u64 x5), (3, .pointer (some ⟨b143, 0, none⟩)), (7, .int .i64 y160.1), (8, .int .u64 y160.2.1), (9, .bool y160.2.2), (10, .int .i64 y164.1), (11, .int .u64 y164.2.1), (12, .bool y164.2.2), (13, .pointer (some ⟨b182, 0, none⟩)), (37, .agg #[.int .u64 x1.f0, .int .i64 x1.f1, .int .u64 x1.f2, .int .i64 x1.f3, .int .u32 x1.f4, .int .u64 x1.f5, .slice p2 x1.f6.length c3]), (39, .agg #[.int .u64 x1.f0, .int .i64 x1.f1, .int .u64 x1.f2, .int .i64 x1.f3, .int .u32 x1.f4, .int .u64 x1.f5, .slice p2 x1.f6.length c3]), (38, .int .i64 y245), (40, .int .i64 y249), (41, .bool (y245 == y249)), (42, .bool true), (43, .agg #[.int .u64 x1.f0, .int .i64 x1.f1, .int .u64 x1.f2, .int .i64 x1.f3, .int .u32 x1.f4, .int .u64 x1.f5, .slice p2 x1.f6.length c3]), (45, .agg #[.int .u64 x1.f0, .int .i64 x1.f1, .int .u64 x1.f2, .int .i64 x1.f3, .int .u32 x1.f4, .int .u64 x1.f5, .slice p2 x1.f6.length c3]), (44, .int .i64 y252), (46, .int .i64 y256), (47, .bool (y252 == y256)), (48, .bool (y252 == y256)), (49, .bool false), (50, undef), (51, undef), (52, undef), (53, .bool false), (54, .bool false), (55, undef), (56, undef), (57, undef), (58, .bool false), (59, .bool false), (60, undef), (61, undef), (62, undef), (63, .bool false), (64, .bool false), (65, undef), (66, undef), (67, undef), (68, undef), (69, undef), (70, undef), (71, undef), (72, undef), (73, undef), (74, undef), (75, undef), (76, .bool false), (77, .bool false), (78, undef), (79, .bool false), (6, .bool false)] (by kernel_rfl) fun a hs hS => ?_
      refine d_done (by kernel_rfl) ?_
      obtain rfl := someE hx243
      exact (hJ244 _ _).2 ⟨false, ih254, hk, hs.cast [6] (by kernel_rfl), hw.pick [2] (by kernel_rfl), (hle248.trans hle255)⟩
    replace hs := hs.altB 42 false (by kernel_rfl) h251
    refine d_pures (fuel := 0) kS184 hs hS [6, 7, 8, 9, 10, 11, 12, 13, 14, 15, 16, 17, 18, 19, 20, 21, 22, 23, 24, 25, 26, 27, 28, 29, 30, 31, 32, 33, 34, 35, 36, 37, 38, 39, 40, 41, 42, 43] [1, 3, 7, 8, 9, 10, 11, 12, 13, 37, 39, 38, 40, 41, 42, 43, 44, 45, 46, 47, 48, 49, 50, 51, 52, 53, 54, 55, 56, 57, 58, 59, 60, 61, 62, 63, 64, 65, 66, 67, 68, 69, 70, 71, 72, 73, 74, 75, 76, 77, 78, 79, 6] [(1, .int .u64 x5), (3, .pointer (some ⟨b143, 0, none⟩)), (7, .int .i64 y160.1), (8, .int .u64 y160.2.1), (9, .bool y160.2.2), (10, .int .i64 y164.1), (11, .int .u64 y164.2.1), (12, .bool y164.2.2), (13, .pointer (some ⟨b182, 0, none⟩)), (37, .agg #[.int .u64 x1.f0, .int .i64 x1.f1, .int .u64 x1.f2, .int .i64 x1.f3, .int .u32 x1.f4, .int .u64 x1.f5, .slice p2 x1.f6.length c3]), (39, .agg #[.int .u64 x1.f0, .int .i64 x1.f1, .int .u64 x1.f2, .int .i64 x1.f3, .int .u32 x1.f4, .int .u64 x1.f5, .slice p2 x1.f6.length c3]), (38, .int .i64 y245), (40, .int .i64 y249), (41, .bool (y245 == y249)), (42, .bool false), (43, undef), (44, undef), (45, undef), (46, undef), (47, undef), (48, .bool false), (49, .bool false), (50, undef), (51, undef), (52, undef), (53, .bool false), (54, .bool false), (55, undef), (56, undef), (57, undef), (58, .bool false), (59, .bool false), (60, undef), (61, undef), (62, undef), (63, .bool false), (64, .bool false), (65, undef), (66, undef), (67, undef), (68, undef), (69, undef), (70, undef), (71, undef), (72, undef), (73, undef), (74, undef), (75, undef), (76, .bool false), (77, .bool false), (78, undef), (79, .bool false), (6, .bool false)] (by kernel_rfl) fun a hs hS => ?_
    refine d_done (by kernel_rfl) ?_
    obtain rfl := someE hx243
    exact (hJ244 _ _).2 ⟨false, ih247, hk, hs.cast [6] (by kernel_rfl), hw.pick [2] (by kernel_rfl), hle248⟩
  intro a w hh
  obtain ⟨x241, ih239, hk, hs, hw, hle240⟩ := (hJ244 _ _).1 hh
  refine c_ret ?_
  obtain rfl := someE hk
  refine hQ _ _ (f_ret1 hs rfl (v := .bool x241) (by kernel_rfl) ⟨ih239, rfl, hw.pick [0] (by kernel_rfl), (hle178.trans hle240)⟩)
end Go.Proofs.YtfpllbnljlbepaaGreatDoor.Sx
