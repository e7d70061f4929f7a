/- The walk of WindowPlays: each Go function that it calls, as a plain function, and the proof that the call computes it. Printed by the program gen.py.
   Conditions: those that each theorem states ahead of its colon, and no other. -/
import Derived.Test.YtfpllbnljlbepaaGreatDoorWWindowPlays0
namespace Go.Proofs.YtfpllbnljlbepaaGreatDoor.Sx
open Go Go.Proofs
set_option maxRecDepth 100000
set_option linter.unusedVariables false
def letter_update (x1 : M26) : Option Bool :=
  if ((!(false == (x1.f0 == 0))) || ((decide (x1.f1 < 1)) || ((decide (x1.f1 > 6)) || (decide (x1.f2 < 1))))) = true then some false
  else if (bif (x1.f3 == 2) then ((x1.f5 != 0) || ((x1.f3 != 2) && (x1.f3 != 3))) else ((x1.f3 != 2) && (x1.f3 != 3))) = true then some false
  else some (decide ((x1.f6.length : Int) ≤ 2048))
theorem letter_update_s {x1 : M26} {p2 : Option Addr} {c3 : Nat} {r : Bool} (hk : letter_update x1 = some r) {g w : World} {F : Ch} {ih : IH} (h4 : RSl e5 ih [] p2 c3 x1.f6) (hw : St g w [F] ih) :
    CallsR Tryz.prog 151 #[.agg #[.int .u64 x1.f0, .int .i64 x1.f1, .int .u64 x1.f2, .int .i64 x1.f3, .int .u32 x1.f4, .int .u64 x1.f5, .slice p2 x1.f6.length c3], .bool false] w fun v w' => v = .bool r ∧ St g w' [F] ih := by
  refine f_in (vs := [.agg #[.int .u64 x1.f0, .int .i64 x1.f1, .int .u64 x1.f2, .int .i64 x1.f3, .int .u32 x1.f4, .int .u64 x1.f5, .slice p2 x1.f6.length c3], .bool false]) Tryz.func151 rfl 49 rfl (by kernel_rfl) [(0, .agg #[.int .u64 x1.f0, .int .i64 x1.f1, .int .u64 x1.f2, .int .i64 x1.f3, .int .u32 x1.f4, .int .u64 x1.f5, .slice p2 x1.f6.length c3]), (1, .bool false)] (by kernel_rfl) fun a Qf hQ hQn hs => ?_
  refine c_seq ?_
  refine c_region ?_
  refine s_new hs hw [.int .u64 x1.f0, .int .i64 x1.f1, .int .u64 x1.f2, .int .i64 x1.f3, .int .u32 x1.f4, .int .u64 x1.f5, .slice p2 x1.f6.length c3] 26 (fun b => .pointer (some ⟨b, 0, none⟩)) (by kernel_rfl) (fun _ => by kernel_rfl) fun a w b40 hs hw => ?_
  refine pures hs 1 [1, 2] [(1, .bool false), (2, .pointer (some ⟨b40, 0, none⟩))] (by kernel_rfl) fun a hs => ?_
  refine s_end ?_
  refine c_seq ?_
  refine c_block ?_
  refine c_seq ?_
  obtain ⟨J49, hJ49⟩ : ∃ J : Act → World → Prop, ∀ a w, J a w ↔ (Sees a 49 [(2, .pointer (some ⟨b40, 0, none⟩)), (5, .bool ((!(false == (x1.f0 == 0))) || ((decide (x1.f1 < 1)) || ((decide (x1.f1 > 6)) || (decide (x1.f2 < 1))))))] ∧ St g w [bx b40 [.int .u64 x1.f0, .int .i64 x1.f1, .int .u64 x1.f2, .int .i64 x1.f3, .int .u32 x1.f4, .int .u64 x1.f5, .slice p2 x1.f6.length c3] 26, F] ih) := ⟨_, fun _ _ => Iff.rfl⟩
  refine c_regJ J49 ?_ ?_
  · refine pures hs 2 [2, 6, 7] [(2, .pointer (some ⟨b40, 0, none⟩)), (6, .bool false), (7, .pointer (some ⟨b40, 0, none⟩))] (by kernel_rfl) fun a hs => ?_
    refine s_load hs (hw.at_ 0 rfl) 0 (by kernel_rfl) (by kernel_rfl) (v := .int .u64 x1.f0) (by kernel_rfl) fun a hs => ?_
    refine pures hs 3 [2, 11] [(2, .pointer (some ⟨b40, 0, none⟩)), (11, .bool (!(false == (x1.f0 == 0))))] (by kernel_rfl) fun a hs => ?_
    rcases boolE (!(false == (x1.f0 == 0))) with h50 | h50
    · replace hs := hs.altB 11 true (by kernel_rfl) h50
      refine pures hs 15 [2, 5] [(2, .pointer (some ⟨b40, 0, none⟩)), (5, .bool true)] (by kernel_rfl) fun a hs => ?_
      refine s_end ?_
      exact (hJ49 _ _).2 ⟨(hs.altB 5 ((!(false == (x1.f0 == 0))) || ((decide (x1.f1 < 1)) || ((decide (x1.f1 > 6)) || (decide (x1.f2 < 1))))) (by kernel_rfl) (by rw [h50] <;> rfl)).cast [2, 5] (by kernel_rfl), hw.pick [0, 1] (by kernel_rfl)⟩
    replace hs := hs.altB 11 false (by kernel_rfl) h50
    refine pures hs 1 [2, 11, 12] [(2, .pointer (some ⟨b40, 0, none⟩)), (11, .bool false), (12, .pointer (some ⟨b40, 1, none⟩))] (by kernel_rfl) fun a hs => ?_
    refine s_load hs (hw.at_ 0 rfl) 1 (by kernel_rfl) (by kernel_rfl) (v := .int .i64 x1.f1) (by kernel_rfl) fun a hs => ?_
    refine pures hs 3 [2, 16] [(2, .pointer (some ⟨b40, 0, none⟩)), (16, .bool (decide (x1.f1 < 1)))] (by kernel_rfl) fun a hs => ?_
    rcases boolE (decide (x1.f1 < 1)) with h51 | h51
    · replace hs := hs.altB 16 true (by kernel_rfl) h51
      refine pures hs 10 [2, 5] [(2, .pointer (some ⟨b40, 0, none⟩)), (5, .bool true)] (by kernel_rfl) fun a hs => ?_
      refine s_end ?_
      exact (hJ49 _ _).2 ⟨(hs.altB 5 ((!(false == (x1.f0 == 0))) || ((decide (x1.f1 < 1)) || ((decide (x1.f1 > 6)) || (decide (x1.f2 < 1))))) (by kernel_rfl) (by rw [h50, h51] <;> rfl)).cast [2, 5] (by kernel_rfl), hw.pick [0, 1] (by kernel_rfl)⟩
    replace hs := hs.altB 16 false (by kernel_rfl) h51
    refine pures hs 1 [2, 16, 17] [(2, .pointer (some ⟨b40, 0, none⟩)), (16, .bool false), (17, .pointer (some ⟨b40, 1, none⟩))] (by kernel_rfl) fun a hs => ?_
    refine s_load hs (hw.at_ 0 rfl) 1 (by kernel_rfl) (by kernel_rfl) (v := .int .i64 x1.f1) (by kernel_rfl) fun a hs => ?_
    refine pures hs 3 [2, 21] [(2, .pointer (some ⟨b40, 0, none⟩)), (21, .bool (decide (x1.f1 > 6)))] (by kernel_rfl) fun a hs => ?_
    rcases boolE (decide (x1.f1 > 6)) with h52 | h52
    · replace hs := hs.altB 21 true (by kernel_rfl) h52
      refine pures hs 5 [2, 5] [(2, .pointer (some ⟨b40, 0, none⟩)), (5, .bool true)] (by kernel_rfl) fun a hs => ?_
      refine s_end ?_
      exact (hJ49 _ _).2 ⟨(hs.altB 5 ((!(false == (x1.f0 == 0))) || ((decide (x1.f1 < 1)) || ((decide (x1.f1 > 6)) || (decide (x1.f2 < 1))))) (by kernel_rfl) (by rw [h50, h51, h52] <;> rfl)).cast [2, 5] (by kernel_rfl), hw.pick [0, 1] (by kernel_rfl)⟩
    replace hs := hs.altB 21 false (by kernel_rfl) h52
    refine pures hs 1 [2, 21, 22] [(2, .pointer (some ⟨b40, 0, none⟩)), (21, .bool false), (22, .pointer (some ⟨b40, 2, none⟩))] (by kernel_rfl) fun a hs => ?_
    refine s_load hs (hw.at_ 0 rfl) 2 (by kernel_rfl) (by kernel_rfl) (v := .int .u64 x1.f2) (by kernel_rfl) fun a hs => ?_
    refine pures hs 3 [2, 5] [(2, .pointer (some ⟨b40, 0, none⟩)), (5, .bool (decide (x1.f2 < 1)))] (by kernel_rfl) fun a hs => ?_
    refine s_end ?_
    exact (hJ49 _ _).2 ⟨(hs.altB 5 ((!(false == (x1.f0 == 0))) || ((decide (x1.f1 < 1)) || ((decide (x1.f1 > 6)) || (decide (x1.f2 < 1))))) (by kernel_rfl) (by rw [h50, h51, h52] <;> rfl)).cast [2, 5] (by kernel_rfl), hw.pick [0, 1] (by kernel_rfl)⟩
  intro a w hh
  obtain ⟨hs, hw⟩ := (hJ49 _ _).1 hh
  rcases ifbE hk with ⟨h53, hk⟩ | ⟨h53, hk⟩
  · refine c_cond1 hs (by kernel_rfl) (t := ((!(false == (x1.f0 == 0))) || ((decide (x1.f1 < 1)) || ((decide (x1.f1 > 6)) || (decide (x1.f2 < 1)))))) (by kernel_rfl) h53 ?_
    refine c_seq ?_
    refine c_region ?_
    refine pures hs 1 [4] [(4, .bool false)] (by kernel_rfl) fun a hs => ?_
    refine s_end ?_
    refine c_ret ?_
    obtain rfl := someE hk
    refine hQ _ _ (f_ret1 hs rfl (v := .bool false) (by kernel_rfl) ⟨rfl, hw.pick [1] (by kernel_rfl)⟩)
  refine c_cond0 hs (by kernel_rfl) (t := ((!(false == (x1.f0 == 0))) || ((decide (x1.f1 < 1)) || ((decide (x1.f1 > 6)) || (decide (x1.f2 < 1)))))) (by kernel_rfl) h53 ?_
  refine c_seq ?_
  obtain ⟨J63, hJ63⟩ : ∃ J : Act → World → Prop, ∀ a w, J a w ↔ (Sees a 49 [(2, .pointer (some ⟨b40, 0, none⟩)), (26, .bool (bif (x1.f3 == 2) then ((x1.f5 != 0) || ((x1.f3 != 2) && (x1.f3 != 3))) else ((x1.f3 != 2) && (x1.f3 != 3))))] ∧ St g w [bx b40 [.int .u64 x1.f0, .int .i64 x1.f1, .int .u64 x1.f2, .int .i64 x1.f3, .int .u32 x1.f4, .int .u64 x1.f5, .slice p2 x1.f6.length c3] 26, F] ih) := ⟨_, fun _ _ => Iff.rfl⟩
  refine c_regJ J63 ?_ ?_
  · refine pures hs 1 [2, 27] [(2, .pointer (some ⟨b40, 0, none⟩)), (27, .pointer (some ⟨b40, 3, none⟩))] (by kernel_rfl) fun a hs => ?_
    refine s_load hs (hw.at_ 0 rfl) 3 (by kernel_rfl) (by kernel_rfl) (v := .int .i64 x1.f3) (by kernel_rfl) fun a hs => ?_
    refine pures hs 2 [2, 30] [(2, .pointer (some ⟨b40, 0, none⟩)), (30, .bool (x1.f3 == 2))] (by kernel_rfl) fun a hs => ?_
    rcases boolE (x1.f3 == 2) with h64 | h64
    · replace hs := hs.altB 30 true (by kernel_rfl) h64
      refine pures hs 1 [2, 30, 31] [(2, .pointer (some ⟨b40, 0, none⟩)), (30, .bool true), (31, .pointer (some ⟨b40, 5, none⟩))] (by kernel_rfl) fun a hs => ?_
      refine s_load hs (hw.at_ 0 rfl) 5 (by kernel_rfl) (by kernel_rfl) (v := .int .u64 x1.f5) (by kernel_rfl) fun a hs => ?_
      refine pures hs 3 [2, 35] [(2, .pointer (some ⟨b40, 0, none⟩)), (35, .bool (x1.f5 != 0))] (by kernel_rfl) fun a hs => ?_
      rcases boolE (x1.f5 != 0) with h65 | h65
      · replace hs := hs.altB 35 true (by kernel_rfl) h65
        refine pures hs 10 [2, 26] [(2, .pointer (some ⟨b40, 0, none⟩)), (26, .bool true)] (by kernel_rfl) fun a hs => ?_
        refine s_end ?_
        exact (hJ63 _ _).2 ⟨(hs.altB 26 (bif (x1.f3 == 2) then ((x1.f5 != 0) || ((x1.f3 != 2) && (x1.f3 != 3))) else ((x1.f3 != 2) && (x1.f3 != 3))) (by kernel_rfl) (by rw [h64, h65] <;> rfl)).cast [2, 26] (by kernel_rfl), hw.pick [0, 1] (by kernel_rfl)⟩
      replace hs := hs.altB 35 false (by kernel_rfl) h65
      refine pures hs 1 [2, 35, 36] [(2, .pointer (some ⟨b40, 0, none⟩)), (35, .bool false), (36, .pointer (some ⟨b40, 3, none⟩))] (by kernel_rfl) fun a hs => ?_
      refine s_load hs (hw.at_ 0 rfl) 3 (by kernel_rfl) (by kernel_rfl) (v := .int .i64 x1.f3) (by kernel_rfl) fun a hs => ?_
      refine pures hs 2 [2, 35, 39] [(2, .pointer (some ⟨b40, 0, none⟩)), (35, .bool false), (39, .bool (x1.f3 != 2))] (by kernel_rfl) fun a hs => ?_
      rcases boolE (x1.f3 != 2) with h66 | h66
      · replace hs := hs.altB 39 true (by kernel_rfl) h66
        refine pures hs 1 [2, 35, 39, 40] [(2, .pointer (some ⟨b40, 0, none⟩)), (35, .bool false), (39, .bool true), (40, .pointer (some ⟨b40, 3, none⟩))] (by kernel_rfl) fun a hs => ?_
        refine s_load hs (hw.at_ 0 rfl) 3 (by kernel_rfl) (by kernel_rfl) (v := .int .i64 x1.f3) (by kernel_rfl) fun a hs => ?_
        refine pures hs 4 [2, 26] [(2, .pointer (some ⟨b40, 0, none⟩)), (26, .bool (x1.f3 != 3))] (by kernel_rfl) fun a hs => ?_
        refine s_end ?_
        exact (hJ63 _ _).2 ⟨(hs.altB 26 (bif (x1.f3 == 2) then ((x1.f5 != 0) || ((x1.f3 != 2) && (x1.f3 != 3))) else ((x1.f3 != 2) && (x1.f3 != 3))) (by kernel_rfl) (by rw [h64, h65, h66] <;> rfl)).cast [2, 26] (by kernel_rfl), hw.pick [0, 1] (by kernel_rfl)⟩
      replace hs := hs.altB 39 false (by kernel_rfl) h66
      refine pures hs 6 [2, 26] [(2, .pointer (some ⟨b40, 0, none⟩)), (26, .bool false)] (by kernel_rfl) fun a hs => ?_
      refine s_end ?_
      exact (hJ63 _ _).2 ⟨(hs.altB 26 (bif (x1.f3 == 2) then ((x1.f5 != 0) || ((x1.f3 != 2) && (x1.f3 != 3))) else ((x1.f3 != 2) && (x1.f3 != 3))) (by kernel_rfl) (by rw [h64, h65, h66] <;> rfl)).cast [2, 26] (by kernel_rfl), hw.pick [0, 1] (by kernel_rfl)⟩
    replace hs := hs.altB 30 false (by kernel_rfl) h64
    refine pures hs 6 [2, 35, 36] [(2, .pointer (some ⟨b40, 0, none⟩)), (35, .bool false), (36, .pointer (some ⟨b40, 3, none⟩))] (by kernel_rfl) fun a hs => ?_
    refine s_load hs (hw.at_ 0 rfl) 3 (by kernel_rfl) (by kernel_rfl) (v := .int .i64 x1.f3) (by kernel_rfl) fun a hs => ?_
    refine pures hs 2 [2, 35, 39] [(2, .pointer (some ⟨b40, 0, none⟩)), (35, .bool false), (39, .bool (x1.f3 != 2))] (by kernel_rfl) fun a hs => ?_
    rcases boolE (x1.f3 != 2) with h67 | h67
    · replace hs := hs.altB 39 true (by kernel_rfl) h67
      refine pures hs 1 [2, 35, 39, 40] [(2, .pointer (some ⟨b40, 0, none⟩)), (35, .bool false), (39, .bool true), (40, .pointer (some ⟨b40, 3, none⟩))] (by kernel_rfl) fun a hs => ?_
      refine s_load hs (hw.at_ 0 rfl) 3 (by kernel_rfl) (by kernel_rfl) (v := .int .i64 x1.f3) (by kernel_rfl) fun a hs => ?_
      refine pures hs 4 [2, 26] [(2, .pointer (some ⟨b40, 0, none⟩)), (26, .bool (x1.f3 != 3))] (by kernel_rfl) fun a hs => ?_
      refine s_end ?_
      exact (hJ63 _ _).2 ⟨(hs.altB 26 (bif (x1.f3 == 2) then ((x1.f5 != 0) || ((x1.f3 != 2) && (x1.f3 != 3))) else ((x1.f3 != 2) && (x1.f3 != 3))) (by kernel_rfl) (by rw [h64, h67] <;> rfl)).cast [2, 26] (by kernel_rfl), hw.pick [0, 1] (by kernel_rfl)⟩
    replace hs := hs.altB 39 false (by kernel_rfl) h67
    refine pures hs 6 [2, 26] [(2, .pointer (some ⟨b40, 0, none⟩)), (26, .bool false)] (by kernel_rfl) fun a hs => ?_
    refine s_end ?_
    exact (hJ63 _ _).2 ⟨(hs.altB 26 (bif (x1.f3 == 2) then ((x1.f5 != 0) || ((x1.f3 != 2) && (x1.f3 != 3))) else ((x1.f3 != 2) && (x1.f3 != 3))) (by kernel_rfl) (by rw [h64, h67] <;> rfl)).cast [2, 26] (by kernel_rfl), hw.pick [0, 1] (by kernel_rfl)⟩
  intro a w hh
  obtain ⟨hs, hw⟩ := (hJ63 _ _).1 hh
  rcases ifbE hk with ⟨h68, hk⟩ | ⟨h68, hk⟩
  · refine c_cond1 hs (by kernel_rfl) (t := (bif (x1.f3 == 2) then ((x1.f5 != 0) || ((x1.f3 != 2) && (x1.f3 != 3))) else ((x1.f3 != 2) && (x1.f3 != 3)))) (by kernel_rfl) h68 ?_
    refine c_seq ?_
    refine c_region ?_
    refine pures hs 1 [4] [(4, .bool false)] (by kernel_rfl) fun a hs => ?_
    refine s_end ?_
    refine c_ret ?_
    obtain rfl := someE hk
    refine hQ _ _ (f_ret1 hs rfl (v := .bool false) (by kernel_rfl) ⟨rfl, hw.pick [1] (by kernel_rfl)⟩)
  refine c_cond0 hs (by kernel_rfl) (t := (bif (x1.f3 == 2) then ((x1.f5 != 0) || ((x1.f3 != 2) && (x1.f3 != 3))) else ((x1.f3 != 2) && (x1.f3 != 3)))) (by kernel_rfl) h68 ?_
  refine c_skip ?_
  refine c_seq ?_
  refine c_region ?_
  refine pures hs 1 [45] [(45, .pointer (some ⟨b40, 6, none⟩))] (by kernel_rfl) fun a hs => ?_
  refine s_load hs (hw.at_ 0 rfl) 6 (by kernel_rfl) (by kernel_rfl) (v := .slice p2 x1.f6.length c3) (by kernel_rfl) fun a hs => ?_
  refine pures hs 3 [4] [(4, .bool (decide ((x1.f6.length : Int) ≤ 2048)))] (by kernel_rfl) fun a hs => ?_
  refine s_end ?_
  refine c_ret ?_
  obtain rfl := someE hk
  refine hQ _ _ (f_ret1 hs rfl (v := .bool (decide ((x1.f6.length : Int) ≤ 2048))) (by kernel_rfl) ⟨rfl, hw.pick [1] (by kernel_rfl)⟩)
def letter_updates_1 (x1 : M26) : Option Bool :=
  (letter_update x1).bind fun y23 =>
  some (!y23)
theorem letter_updates_1_s {x1 : M26} {p2 : Option Addr} {c3 : Nat} {b6 : Nat} {r : Bool} (hk : letter_updates_1 x1 = some r) {g w : World} {F : Ch} {ih : IH} (h4 : RSl e5 ih [] p2 c3 x1.f6) (hw : St g w [bx b6 [.bool false] 4, F] ih) :
    CallsR Tryz.prog 150 #[.agg #[.int .u64 x1.f0, .int .i64 x1.f1, .int .u64 x1.f2, .int .i64 x1.f3, .int .u32 x1.f4, .int .u64 x1.f5, .slice p2 x1.f6.length c3], .pointer (some ⟨b6, 0, none⟩)] w fun v w' => v = .bool r ∧ St g w' [bx b6 [.bool false] 4, F] ih := by
  refine f_in (vs := [.agg #[.int .u64 x1.f0, .int .i64 x1.f1, .int .u64 x1.f2, .int .i64 x1.f3, .int .u32 x1.f4, .int .u64 x1.f5, .slice p2 x1.f6.length c3], .pointer (some ⟨b6, 0, none⟩)]) Tryz.func150 rfl 8 rfl (by kernel_rfl) [(0, .agg #[.int .u64 x1.f0, .int .i64 x1.f1, .int .u64 x1.f2, .int .i64 x1.f3, .int .u32 x1.f4, .int .u64 x1.f5, .slice p2 x1.f6.length c3]), (1, .pointer (some ⟨b6, 0, none⟩))] (by kernel_rfl) fun a Qf hQ hQn hs => ?_
  refine c_seq ?_
  refine c_region ?_
  refine s_new hs hw [.int .u64 x1.f0, .int .i64 x1.f1, .int .u64 x1.f2, .int .i64 x1.f3, .int .u32 x1.f4, .int .u64 x1.f5, .slice p2 x1.f6.length c3] 26 (fun b => .pointer (some ⟨b, 0, none⟩)) (by kernel_rfl) (fun _ => by kernel_rfl) fun a w b19 hs hw => ?_
  refine pures hs 1 [1, 2] [(1, .pointer (some ⟨b6, 0, none⟩)), (2, .pointer (some ⟨b19, 0, none⟩))] (by kernel_rfl) fun a hs => ?_
  refine s_end ?_
  refine c_seq ?_
  refine c_region ?_
  refine s_load hs (hw.at_ 0 rfl) 0 (by kernel_rfl) (by kernel_rfl) (v := .agg #[.int .u64 x1.f0, .int .i64 x1.f1, .int .u64 x1.f2, .int .i64 x1.f3, .int .u32 x1.f4, .int .u64 x1.f5, .slice p2 x1.f6.length c3]) (by kernel_rfl) fun a hs => ?_
  refine s_load hs (hw.at_ 1 rfl) 0 (by kernel_rfl) (by kernel_rfl) (v := .bool false) (by kernel_rfl) fun a hs => ?_
  obtain ⟨y23, h24, hk⟩ := bindE hk
  refine s_call hs (by kernel_rfl) (by kernel_rfl) (letter_update_s h24 h4 ((hw.pick [1, 2] (by kernel_rfl)).pack 0)) fun a w v hv hs => ?_
  obtain ⟨rfl, hw⟩ := hv
  replace hw := hw.unpack 0 rfl
  refine pures hs 2 [3] [(3, .bool (!y23))] (by kernel_rfl) fun a hs => ?_
  refine s_end ?_
  refine c_ret ?_
  obtain rfl := someE hk
  refine hQ _ _ (f_ret1 hs rfl (v := .bool (!y23)) (by kernel_rfl) ⟨rfl, hw.pick [0, 1] (by kernel_rfl)⟩)
def slices_IndexFunc_api_Update_api_Update_r3 : Option Int :=
  some (-1)
def slices_IndexFunc_api_Update_api_Update_l4 (x1 : List M26) : Nat → Int → Option (Sum Int Unit)
  | 0, _ => none
  | j + 1, x179 =>
    if (decide (x179 < (x1.length : Int))) = true then (
      (ix x1 x179).bind fun x214 =>
      (letter_updates_1 x214).bind fun y221 =>
      if y221 = true then some (.inl x179)
      else slices_IndexFunc_api_Update_api_Update_l4 x1 j (IntKind.i64.wrap (x179 + 1)))
    else some (.inr ())
def slices_IndexFunc_api_Update_api_Update (k : Nat) (x1 : List M26) : Option Int :=
  (slices_IndexFunc_api_Update_api_Update_l4 x1 k 0 : Option (Sum Int Unit)).bind fun
    | .inl z => some z
    | .inr _ => slices_IndexFunc_api_Update_api_Update_r3
theorem slices_IndexFunc_api_Update_api_Update_s {k : Nat} {x1 : List M26} {p2 : Option Addr} {c3 : Nat} {d5 : Ch} {b8 : Nat} {r : Int} (hk : slices_IndexFunc_api_Update_api_Update k x1 = some r) {g w : World} {F : Ch} {ih : IH} (h4 : RSl e26 ih d5 p2 c3 x1) (h6 : ∀ q ∈ d5, q ∈ F) (hw : St g w [bx b8 [.bool false] 4, F] ih) :
    CallsR Tryz.prog 165 #[.slice p2 x1.length c3, .func (.func 150) #[] #[.pointer (some ⟨b8, 0, none⟩)]] w fun v w' => v = .int .i64 r ∧ St g w' [bx b8 [.bool false] 4, F] ih := by
  refine f_in (vs := [.slice p2 x1.length c3, .func (.func 150) #[] #[.pointer (some ⟨b8, 0, none⟩)]]) Tryz.func165 rfl 19 rfl (by kernel_rfl) [(0, .slice p2 x1.length c3), (1, .func (.func 150) #[] #[.pointer (some ⟨b8, 0, none⟩)])] (by kernel_rfl) fun a Qf hQ hQn hs => ?_
  refine c_seq ?_
  refine c_region ?_
  refine pures hs 1 [0, 1] [(0, .slice p2 x1.length c3), (1, .func (.func 150) #[] #[.pointer (some ⟨b8, 0, none⟩)])] (by kernel_rfl) fun a hs => ?_
  refine s_end ?_
  refine c_seq ?_
  refine c_seq ?_
  refine c_region ?_
  refine pures hs 3 [0, 1, 7, 8] [(0, .slice p2 x1.length c3), (1, .func (.func 150) #[] #[.pointer (some ⟨b8, 0, none⟩)]), (7, .int .i64 (x1.length : Int)), (8, .int .i64 0)] (by kernel_rfl) fun a hs => ?_
  refine s_end ?_
  refine c_block ?_
  obtain ⟨y200, hx201, hk⟩ := bindE hk
  obtain ⟨J202, hJ202⟩ : ∃ J : Act → World → Prop, ∀ a w, J a w ↔ (slices_IndexFunc_api_Update_api_Update_r3 = some r ∧ Sees a 19 [] ∧ St g w [bx b8 [.bool false] 4, F] ih) := ⟨_, fun _ _ => Iff.rfl⟩
  obtain ⟨I203, hI203⟩ : ∃ J : Nat → Act → World → Prop, ∀ j a w, J j a w ↔ (∃ (x179 : Int), slices_IndexFunc_api_Update_api_Update_l4 x1 j x179 = some y200 ∧ Sees a 19 [(0, .slice p2 x1.length c3), (1, .func (.func 150) #[] #[.pointer (some ⟨b8, 0, none⟩)]), (7, .int .i64 (x1.length : Int)), (8, .int .i64 x179)] ∧ St g w [bx b8 [.bool false] 4, F] ih) := ⟨_, fun _ _ _ => Iff.rfl⟩
  refine c_exitJ 0 J202 ?_ ?_
  · refine c_loop I203 k ((hI203 _ _ _).2 ⟨0, hx201, hs.cast [0, 1, 7, 8] (by kernel_rfl), hw.pick [0, 1] (by kernel_rfl)⟩) (fun a w h0 => ?_) fun j a w hh => ?_
    · obtain ⟨_, h, _⟩ := (hI203 _ _ _).1 h0
      cases h
    obtain ⟨x179, hx201, hs, hw⟩ := (hI203 _ _ _).1 hh
    refine c_seq ?_
    refine c_region ?_
    refine pures hs 1 [0, 1, 7, 8, 9] [(0, .slice p2 x1.length c3), (1, .func (.func 150) #[] #[.pointer (some ⟨b8, 0, none⟩)]), (7, .int .i64 (x1.length : Int)), (8, .int .i64 x179), (9, .bool (decide (x179 < (x1.length : Int))))] (by kernel_rfl) fun a hs => ?_
    refine s_end ?_
    refine c_seq ?_
    rcases ifbE hx201 with ⟨h204, hx201⟩ | ⟨h204, hx201⟩
    · refine c_cond1 hs (by kernel_rfl) (t := (decide (x179 < (x1.length : Int)))) (by kernel_rfl) h204 ?_
      refine c_skip ?_
      refine c_seq ?_
      refine c_block ?_
      refine c_seq ?_
      refine c_region ?_
      refine pures hs 2 [0, 1, 7, 8, 5] [(0, .slice p2 x1.length c3), (1, .func (.func 150) #[] #[.pointer (some ⟨b8, 0, none⟩)]), (7, .int .i64 (x1.length : Int)), (8, .int .i64 x179), (5, .int .i64 x179)] (by kernel_rfl) fun a hs => ?_
      refine s_end ?_
      refine c_seq ?_
      refine c_region ?_
      refine pures hs 3 [0, 1, 7, 8, 5, 11, 12, 13] [(0, .slice p2 x1.length c3), (1, .func (.func 150) #[] #[.pointer (some ⟨b8, 0, none⟩)]), (7, .int .i64 (x1.length : Int)), (8, .int .i64 x179), (5, .int .i64 x179), (11, .func (.func 150) #[] #[.pointer (some ⟨b8, 0, none⟩)]), (12, .slice p2 x1.length c3), (13, .int .i64 x179)] (by kernel_rfl) fun a hs => ?_
      obtain ⟨x214, h215, hx201⟩ := bindE hx201
      refine s_index hs h4 (by kernel_rfl) (by kernel_rfl) (k := .i64) (by kernel_rfl) 26 (by kernel_rfl) (by kernel_rfl) h215 fun a r216 cs henc at217 hs => ?_
      obtain ⟨p218, c219, rfl, h220⟩ := henc
      refine s_load hs (at217 _ (((hw.vw 1 rfl).sub h6).anti (Le.refl _))) 0 (by kernel_rfl) (by kernel_rfl) (v := .agg #[.int .u64 x214.f0, .int .i64 x214.f1, .int .u64 x214.f2, .int .i64 x214.f3, .int .u32 x214.f4, .int .u64 x214.f5, .slice p218 x214.f6.length c219]) (by kernel_rfl) fun a hs => ?_
      obtain ⟨y221, h222, hx201⟩ := bindE hx201
      refine s_call hs (by kernel_rfl) (by kernel_rfl) (letter_updates_1_s h222 h220 ((hw.pick [0, 1] (by kernel_rfl)).pack 1)) fun a w v hv hs => ?_
      obtain ⟨rfl, hw⟩ := hv
      replace hw := hw.unpack 1 rfl
      refine s_end ?_
      rcases ifbE hx201 with ⟨h223, hx201⟩ | ⟨h223, hx201⟩
      · refine c_cond1 hs (by kernel_rfl) (t := y221) (by kernel_rfl) h223 ?_
        refine c_seq ?_
        refine c_region ?_
        refine pures hs 2 [4] [(4, .int .i64 x179)] (by kernel_rfl) fun a hs => ?_
        refine s_end ?_
        refine c_ret ?_
        obtain rfl := someE hx201
        obtain rfl := someE hk
        refine hQ _ _ (f_ret1 hs rfl (v := .int .i64 x179) (by kernel_rfl) ⟨rfl, hw.pick [0, 1] (by kernel_rfl)⟩)
      refine c_cond0 hs (by kernel_rfl) (t := y221) (by kernel_rfl) h223 ?_
      refine c_skip ?_
      refine c_region ?_
      refine pures hs 2 [0, 1, 7, 8] [(0, .slice p2 x1.length c3), (1, .func (.func 150) #[] #[.pointer (some ⟨b8, 0, none⟩)]), (7, .int .i64 (x1.length : Int)), (8, .int .i64 (IntKind.i64.wrap (x179 + 1)))] (by kernel_rfl) fun a hs => ?_
      refine s_end ?_
      exact (hI203 _ _ _).2 ⟨(IntKind.i64.wrap (x179 + 1)), hx201, hs.cast [0, 1, 7, 8] (by kernel_rfl), hw.pick [0, 1] (by kernel_rfl)⟩
    refine c_cond0 hs (by kernel_rfl) (t := (decide (x179 < (x1.length : Int)))) (by kernel_rfl) h204 ?_
    refine c_exit ?_
    obtain rfl := someE hx201
    exact (hJ202 _ _).2 ⟨hk, hs.cast [] (by kernel_rfl), hw.pick [0, 1] (by kernel_rfl)⟩
  intro a w hh
  obtain ⟨hk, hs, hw⟩ := (hJ202 _ _).1 hh
  refine c_seq ?_
  refine c_region ?_
  refine pures hs 1 [4] [(4, .int .i64 (-1))] (by kernel_rfl) fun a hs => ?_
  refine s_end ?_
  refine c_ret ?_
  obtain rfl := someE hk
  refine hQ _ _ (f_ret1 hs rfl (v := .int .i64 (-1)) (by kernel_rfl) ⟨rfl, hw.pick [0, 1] (by kernel_rfl)⟩)
def slices_ContainsFunc_api_Update_api_Update (k : Nat) (x1 : List M26) : Option Bool :=
  (slices_IndexFunc_api_Update_api_Update k x1).bind fun y17 =>
  some (decide (y17 ≥ 0))
theorem slices_ContainsFunc_api_Update_api_Update_s {k : Nat} {x1 : List M26} {p2 : Option Addr} {c3 : Nat} {d5 : Ch} {b8 : Nat} {r : Bool} (hk : slices_ContainsFunc_api_Update_api_Update k x1 = some r) {g w : World} {F : Ch} {ih : IH} (h4 : RSl e26 ih d5 p2 c3 x1) (h6 : ∀ q ∈ d5, q ∈ F) (hw : St g w [bx b8 [.bool false] 4, F] ih) :
    CallsR Tryz.prog 149 #[.slice p2 x1.length c3, .func (.func 150) #[] #[.pointer (some ⟨b8, 0, none⟩)]] w fun v w' => v = .bool r ∧ St g w' [bx b8 [.bool false] 4, F] ih := by
  refine f_in (vs := [.slice p2 x1.length c3, .func (.func 150) #[] #[.pointer (some ⟨b8, 0, none⟩)]]) Tryz.func149 rfl 9 rfl (by kernel_rfl) [(0, .slice p2 x1.length c3), (1, .func (.func 150) #[] #[.pointer (some ⟨b8, 0, none⟩)])] (by kernel_rfl) fun a Qf hQ hQn hs => ?_
  refine c_seq ?_
  refine c_region ?_
  refine pures hs 1 [0, 1] [(0, .slice p2 x1.length c3), (1, .func (.func 150) #[] #[.pointer (some ⟨b8, 0, none⟩)])] (by kernel_rfl) fun a hs => ?_
  refine s_end ?_
  refine c_seq ?_
  refine c_region ?_
  refine pures hs 2 [5, 6] [(5, .slice p2 x1.length c3), (6, .func (.func 150) #[] #[.pointer (some ⟨b8, 0, none⟩)])] (by kernel_rfl) fun a hs => ?_
  obtain ⟨y17, h18, hk⟩ := bindE hk
  refine s_call hs (by kernel_rfl) (by kernel_rfl) (slices_IndexFunc_api_Update_api_Update_s h18 h4 (fun q hq => memF 0 rfl q (h6 q hq)) ((hw.pick [0, 1] (by kernel_rfl)).pack 1)) fun a w v hv hs => ?_
  obtain ⟨rfl, hw⟩ := hv
  replace hw := hw.unpack 1 rfl
  refine pures hs 2 [4] [(4, .bool (decide (y17 ≥ 0)))] (by kernel_rfl) fun a hs => ?_
  refine s_end ?_
  refine c_ret ?_
  obtain rfl := someE hk
  refine hQ _ _ (f_ret1 hs rfl (v := .bool (decide (y17 ≥ 0))) (by kernel_rfl) ⟨rfl, hw.pick [0, 1] (by kernel_rfl)⟩)
def letter_updates (k : Nat) (x1 : List M26) : Option Bool :=
  if (decide ((x1.length : Int) > 4)) = true then some false
  else (slices_ContainsFunc_api_Update_api_Update k x1).bind fun y31 =>
  some (!y31)
theorem letter_updates_s {k : Nat} {x1 : List M26} {p2 : Option Addr} {c3 : Nat} {r : Bool} (hk : letter_updates k x1 = some r) {g w : World} {F : Ch} {ih : IH} (h4 : RSl e26 ih [] p2 c3 x1) (hw : St g w [F] ih) :
    CallsR Tryz.prog 128 #[.agg #[.int .i64 12, .int .i64 1, .int .i64 1, .int .i64 0, .int .u64 1, .int .u64 0, .int .u64 0, .int .u64 0, .int .u64 0, .int .u64 0, .int .i64 0, .int .u32 0, .int .i64 0, .int .i64 0, .int .i64 0, .int .u64 0, .int .i64 0, .int .i64 0, .int .u64 0, .slice none 0 0, .bool false, .int .i64 0, .slice none 0 0, .slice p2 x1.length c3, .slice none 0 0]] w fun v w' => v = .bool r ∧ St g w' [F] ih := by
  refine f_in (vs := [.agg #[.int .i64 12, .int .i64 1, .int .i64 1, .int .i64 0, .int .u64 1, .int .u64 0, .int .u64 0, .int .u64 0, .int .u64 0, .int .u64 0, .int .i64 0, .int .u32 0, .int .i64 0, .int .i64 0, .int .i64 0, .int .u64 0, .int .i64 0, .int .i64 0, .int .u64 0, .slice none 0 0, .bool false, .int .i64 0, .slice none 0 0, .slice p2 x1.length c3, .slice none 0 0]]) Tryz.func128 rfl 25 rfl (by kernel_rfl) [(0, .agg #[.int .i64 12, .int .i64 1, .int .i64 1, .int .i64 0, .int .u64 1, .int .u64 0, .int .u64 0, .int .u64 0, .int .u64 0, .int .u64 0, .int .i64 0, .int .u32 0, .int .i64 0, .int .i64 0, .int .i64 0, .int .u64 0, .int .i64 0, .int .i64 0, .int .u64 0, .slice none 0 0, .bool false, .int .i64 0, .slice none 0 0, .slice p2 x1.length c3, .slice none 0 0])] (by kernel_rfl) fun a Qf hQ hQn hs => ?_
  refine c_seq ?_
  refine c_region ?_
  refine s_new hs hw [.int .i64 12, .int .i64 1, .int .i64 1, .int .i64 0, .int .u64 1, .int .u64 0, .int .u64 0, .int .u64 0, .int .u64 0, .int .u64 0, .int .i64 0, .int .u32 0, .int .i64 0, .int .i64 0, .int .i64 0, .int .u64 0, .int .i64 0, .int .i64 0, .int .u64 0, .slice none 0 0, .bool false, .int .i64 0, .slice none 0 0, .slice p2 x1.length c3, .slice none 0 0] 90 (fun b => .pointer (some ⟨b, 0, none⟩)) (by kernel_rfl) (fun _ => by kernel_rfl) fun a w b22 hs hw => ?_
  refine pures hs 1 [1] [(1, .pointer (some ⟨b22, 0, none⟩))] (by kernel_rfl) fun a hs => ?_
  refine s_end ?_
  refine c_seq ?_
  refine c_region ?_
  refine pures hs 1 [1, 4] [(1, .pointer (some ⟨b22, 0, none⟩)), (4, .pointer (some ⟨b22, 0, none⟩))] (by kernel_rfl) fun a hs => ?_
  refine s_load hs (hw.at_ 0 rfl) 0 (by kernel_rfl) (by kernel_rfl) (v := .int .i64 12) (by kernel_rfl) fun a hs => ?_
  refine pures hs 1 [1, 6] [(1, .pointer (some ⟨b22, 0, none⟩)), (6, .bool false)] (by kernel_rfl) fun a hs => ?_
  refine s_new hs hw [.bool false] 4 (fun b => .pointer (some ⟨b, 0, none⟩)) (by kernel_rfl) (fun _ => by kernel_rfl) fun a w b26 hs hw => ?_
  refine s_store hs hw 0 rfl 0 (by kernel_rfl) (by kernel_rfl) (v := .bool false) (by kernel_rfl) (by kernel_rfl) (by kernel_rfl) (by kernel_rfl) fun a w hs hw => ?_
  refine s_end ?_
  refine c_seq ?_
  refine c_seq ?_
  refine c_region ?_
  refine s_load hs (hw.at_ 0 rfl) 0 (by kernel_rfl) (by kernel_rfl) (v := .bool false) (by kernel_rfl) fun a hs => ?_
  refine pures hs 8 [1, 3, 14, 15] [(1, .pointer (some ⟨b22, 0, none⟩)), (3, .pointer (some ⟨b26, 0, none⟩)), (14, .bool false), (15, .pointer (some ⟨b22, 23, none⟩))] (by kernel_rfl) fun a hs => ?_
  refine s_load hs (hw.at_ 1 rfl) 23 (by kernel_rfl) (by kernel_rfl) (v := .slice p2 x1.length c3) (by kernel_rfl) fun a hs => ?_
  refine pures hs 3 [1, 3, 19] [(1, .pointer (some ⟨b22, 0, none⟩)), (3, .pointer (some ⟨b26, 0, none⟩)), (19, .bool (decide ((x1.length : Int) > 4)))] (by kernel_rfl) fun a hs => ?_
  refine s_end ?_
  rcases ifbE hk with ⟨h28, hk⟩ | ⟨h28, hk⟩
  · refine c_cond1 hs (by kernel_rfl) (t := (decide ((x1.length : Int) > 4))) (by kernel_rfl) h28 ?_
    refine c_seq ?_
    refine c_region ?_
    refine pures hs 1 [2] [(2, .bool false)] (by kernel_rfl) fun a hs => ?_
    refine s_end ?_
    refine c_ret ?_
    obtain rfl := someE hk
    refine hQ _ _ (f_ret1 hs rfl (v := .bool false) (by kernel_rfl) ⟨rfl, hw.pick [2] (by kernel_rfl)⟩)
  refine c_cond0 hs (by kernel_rfl) (t := (decide ((x1.length : Int) > 4))) (by kernel_rfl) h28 ?_
  refine c_skip ?_
  refine c_seq ?_
  refine c_region ?_
  refine pures hs 1 [3, 20] [(3, .pointer (some ⟨b26, 0, none⟩)), (20, .pointer (some ⟨b22, 23, none⟩))] (by kernel_rfl) fun a hs => ?_
  refine s_load hs (hw.at_ 1 rfl) 23 (by kernel_rfl) (by kernel_rfl) (v := .slice p2 x1.length c3) (by kernel_rfl) fun a hs => ?_
  refine pures hs 1 [21, 22] [(21, .slice p2 x1.length c3), (22, .func (.func 150) #[] #[.pointer (some ⟨b26, 0, none⟩)])] (by kernel_rfl) fun a hs => ?_
  obtain ⟨y31, h32, hk⟩ := bindE hk
  refine s_call hs (by kernel_rfl) (by kernel_rfl) (slices_ContainsFunc_api_Update_api_Update_s h32 h4 (nilSub _) ((hw.pick [0, 2] (by kernel_rfl)).pack 1)) fun a w v hv hs => ?_
  obtain ⟨rfl, hw⟩ := hv
  replace hw := hw.unpack 1 rfl
  refine pures hs 2 [2] [(2, .bool (!y31))] (by kernel_rfl) fun a hs => ?_
  refine s_end ?_
  refine c_ret ?_
  obtain rfl := someE hk
  refine hQ _ _ (f_ret1 hs rfl (v := .bool (!y31)) (by kernel_rfl) ⟨rfl, hw.pick [1] (by kernel_rfl)⟩)
def letter_Check_r2 (k : Nat) (x1 : List M26) (x362 : Bool) : Option Int :=
  if x362 = true then some 4
  else (letter_updates k x1).bind fun y637 =>
  if (!y637) = true then some 4
  else some 0
def letter_Check (k : Nat) (x1 : List M26) : Option Int :=
  ((letter_bare x1).bind fun y647 =>
    (letter_Same k x1 y647.1 y647.2.1 y647.2.2.1 y647.2.2.2.1 y647.2.2.2.2).bind fun y652 =>
    some (!y652) : Option Bool).bind fun s654 => letter_Check_r2 k x1 s654
theorem letter_Check_s {k : Nat} {x1 : List M26} {p2 : Option Addr} {c3 : Nat} {r : Int} (hk : letter_Check k x1 = some r) {g w : World} {F : Ch} {ih : IH} (h4 : RSl e26 ih [] p2 c3 x1) (hG : Glob 0 gl0 110 ih) (hw : St g w [F] ih) :
    CallsR Tryz.prog 51 #[.agg #[.int .i64 12, .int .i64 1, .int .i64 1, .int .i64 0, .int .u64 1, .int .u64 0, .int .u64 0, .int .u64 0, .int .u64 0, .int .u64 0, .int .i64 0, .int .u32 0, .int .i64 0, .int .i64 0, .int .i64 0, .int .u64 0, .int .i64 0, .int .i64 0, .int .u64 0, .slice none 0 0, .bool false, .int .i64 0, .slice none 0 0, .slice p2 x1.length c3, .slice none 0 0]] w fun v w' => v = .int .i64 r ∧ St g w' [F] ih := by
  refine f_in (vs := [.agg #[.int .i64 12, .int .i64 1, .int .i64 1, .int .i64 0, .int .u64 1, .int .u64 0, .int .u64 0, .int .u64 0, .int .u64 0, .int .u64 0, .int .i64 0, .int .u32 0, .int .i64 0, .int .i64 0, .int .i64 0, .int .u64 0, .int .i64 0, .int .i64 0, .int .u64 0, .slice none 0 0, .bool false, .int .i64 0, .slice none 0 0, .slice p2 x1.length c3, .slice none 0 0]]) Tryz.func51 rfl 40 rfl (by kernel_rfl) [(0, .agg #[.int .i64 12, .int .i64 1, .int .i64 1, .int .i64 0, .int .u64 1, .int .u64 0, .int .u64 0, .int .u64 0, .int .u64 0, .int .u64 0, .int .i64 0, .int .u32 0, .int .i64 0, .int .i64 0, .int .i64 0, .int .u64 0, .int .i64 0, .int .i64 0, .int .u64 0, .slice none 0 0, .bool false, .int .i64 0, .slice none 0 0, .slice p2 x1.length c3, .slice none 0 0])] (by kernel_rfl) fun a Qf hQ hQn hs => ?_
  refine c_seq ?_
  refine c_region ?_
  refine s_new hs hw [.int .i64 12, .int .i64 1, .int .i64 1, .int .i64 0, .int .u64 1, .int .u64 0, .int .u64 0, .int .u64 0, .int .u64 0, .int .u64 0, .int .i64 0, .int .u32 0, .int .i64 0, .int .i64 0, .int .i64 0, .int .u64 0, .int .i64 0, .int .i64 0, .int .u64 0, .slice none 0 0, .bool false, .int .i64 0, .slice none 0 0, .slice p2 x1.length c3, .slice none 0 0] 90 (fun b => .pointer (some ⟨b, 0, none⟩)) (by kernel_rfl) (fun _ => by kernel_rfl) fun a w b333 hs hw => ?_
  refine pures hs 1 [1] [(1, .pointer (some ⟨b333, 0, none⟩))] (by kernel_rfl) fun a hs => ?_
  refine s_end ?_
  refine c_seq ?_
  refine c_seq ?_
  refine c_region ?_
  refine pures hs 1 [1, 5] [(1, .pointer (some ⟨b333, 0, none⟩)), (5, .pointer (some ⟨b333, 0, none⟩))] (by kernel_rfl) fun a hs => ?_
  refine s_load hs (hw.at_ 0 rfl) 0 (by kernel_rfl) (by kernel_rfl) (v := .int .i64 12) (by kernel_rfl) fun a hs => ?_
  have h338 : letter_known = some () := rfl
  refine s_call hs (by kernel_rfl) (by kernel_rfl) (letter_known_s h338 ((hw.pick [0, 1] (by kernel_rfl)).pack 0)) fun a w v hv hs => ?_
  obtain ⟨rfl, hw⟩ := hv
  replace hw := hw.unpack 0 rfl
  refine pures hs 1 [1, 8] [(1, .pointer (some ⟨b333, 0, none⟩)), (8, .bool false)] (by kernel_rfl) fun a hs => ?_
  refine s_end ?_
  refine c_condF hs (by kernel_rfl) (by kernel_rfl) ?_
  refine c_skip ?_
  refine c_seq ?_
  refine c_seq ?_
  obtain ⟨S339, hS339, kS339⟩ := mkSX (X := [([], bx b333 [.int .i64 12, .int .i64 1, .int .i64 1, .int .i64 0, .int .u64 1, .int .u64 0, .int .u64 0, .int .u64 0, .int .u64 0, .int .u64 0, .int .i64 0, .int .u32 0, .int .i64 0, .int .i64 0, .int .i64 0, .int .u64 0, .int .i64 0, .int .i64 0, .int .u64 0, .slice none 0 0, .bool false, .int .i64 0, .slice none 0 0, .slice p2 x1.length c3, .slice none 0 0] 90), ([], F)]) (ih := ih) (K := []) rfl
  obtain ⟨y640, hx641, hk⟩ := bindE hk
  obtain ⟨J642, hJ642⟩ : ∃ J : Act → World → Prop, ∀ a w, J a w ↔ (∃ (x362 : Bool), letter_Check_r2 k x1 x362 = some r ∧ Sees a 40 [(1, .pointer (some ⟨b333, 0, none⟩)), (25, .bool x362)] ∧ St g w [bx b333 [.int .i64 12, .int .i64 1, .int .i64 1, .int .i64 0, .int .u64 1, .int .u64 0, .int .u64 0, .int .u64 0, .int .u64 0, .int .u64 0, .int .i64 0, .int .u32 0, .int .i64 0, .int .i64 0, .int .i64 0, .int .u64 0, .int .i64 0, .int .i64 0, .int .u64 0, .slice none 0 0, .bool false, .int .i64 0, .slice none 0 0, .slice p2 x1.length c3, .slice none 0 0] 90, F] ih) := ⟨_, fun _ _ => Iff.rfl⟩
  refine c_draw (by kernel_rfl) (N := 17) rfl S339 J642 ?_ ?_
  · have hw := hw.drew
    have hS : S339 (Array.replicate 17 false) _ := SX_now hS339 (hw.vws [0, 1]) (by kernel_rfl)
    refine d_pures (fuel := 16) kS339 hs hS [0] [1, 9] [(1, .pointer (some ⟨b333, 0, none⟩)), (9, .pointer (some ⟨b333, 1, none⟩))] (by kernel_rfl) fun a hs hS => ?_
    refine d_load (fuel := 15) kS339 hs hS 1 rfl (by kernel_rfl) (SX_box hS339 0 rfl (by kernel_rfl)) 1 (by kernel_rfl) (by kernel_rfl) (v := .int .i64 1) (by kernel_rfl) fun a hs hS => ?_
    refine d_all (fuel := 14) (rs := [2]) (by kernel_rfl) (by simp) (all1 ?_)
    have h644 : letter_Address = some () := rfl
    refine o_call hs rfl (by kernel_rfl) (by kernel_rfl) (letter_Address_s h644 ((hw.pick [0, 1] (by kernel_rfl)).pack 0)) fun a w v hv hs => ?_
    obtain ⟨rfl, hw⟩ := hv
    replace hw := hw.unpack 0 rfl
    refine dg_next (SX_now hS339 ((hw.vws [0, 1]).anti (Le.refl _)) (by kernel_rfl)) fun hS => ?_
    refine d_pures (fuel := 11) kS339 hs hS [3, 4, 5] [1, 9, 10, 11, 12, 13, 14] [(1, .pointer (some ⟨b333, 0, none⟩)), (9, .pointer (some ⟨b333, 1, none⟩)), (10, .int .i64 1), (11, .bool true), (12, .bool false), (13, .bool false), (14, .pointer (some ⟨b333, 2, none⟩))] (by kernel_rfl) fun a hs hS => ?_
    refine d_load (fuel := 10) kS339 hs hS 6 rfl (by kernel_rfl) (SX_box hS339 0 rfl (by kernel_rfl)) 2 (by kernel_rfl) (by kernel_rfl) (v := .int .i64 1) (by kernel_rfl) fun a hs hS => ?_
    refine d_all (fuel := 9) (rs := [7]) (by kernel_rfl) (by simp) (all1 ?_)
    have h646 : letter_Address = some () := rfl
    refine o_call hs rfl (by kernel_rfl) (by kernel_rfl) (letter_Address_s h646 ((hw.pick [0, 1] (by kernel_rfl)).pack 0)) fun a w v hv hs => ?_
    obtain ⟨rfl, hw⟩ := hv
    replace hw := hw.unpack 0 rfl
    refine dg_next (SX_now hS339 ((hw.vws [0, 1]).anti (Le.refl _)) (by kernel_rfl)) fun hS => ?_
    refine d_pures (fuel := 6) kS339 hs hS [8, 9, 10] [1, 9, 10, 11, 12, 13, 14, 15, 16, 17, 18, 19] [(1, .pointer (some ⟨b333, 0, none⟩)), (9, .pointer (some ⟨b333, 1, none⟩)), (10, .int .i64 1), (11, .bool true), (12, .bool false), (13, .bool false), (14, .pointer (some ⟨b333, 2, none⟩)), (15, .int .i64 1), (16, .bool true), (17, .bool false), (18, .bool false), (19, .bool false)] (by kernel_rfl) fun a hs hS => ?_
    refine d_load (fuel := 5) kS339 hs hS 11 rfl (by kernel_rfl) (SX_box hS339 0 rfl (by kernel_rfl)) 0 (by kernel_rfl) (by kernel_rfl) (v := .agg #[.int .i64 12, .int .i64 1, .int .i64 1, .int .i64 0, .int .u64 1, .int .u64 0, .int .u64 0, .int .u64 0, .int .u64 0, .int .u64 0, .int .i64 0, .int .u32 0, .int .i64 0, .int .i64 0, .int .i64 0, .int .u64 0, .int .i64 0, .int .i64 0, .int .u64 0, .slice none 0 0, .bool false, .int .i64 0, .slice none 0 0, .slice p2 x1.length c3, .slice none 0 0]) (by kernel_rfl) fun a hs hS => ?_
    refine d_load (fuel := 4) kS339 hs hS 12 rfl (by kernel_rfl) (SX_box hS339 0 rfl (by kernel_rfl)) 0 (by kernel_rfl) (by kernel_rfl) (v := .agg #[.int .i64 12, .int .i64 1, .int .i64 1, .int .i64 0, .int .u64 1, .int .u64 0, .int .u64 0, .int .u64 0, .int .u64 0, .int .u64 0, .int .i64 0, .int .u32 0, .int .i64 0, .int .i64 0, .int .i64 0, .int .u64 0, .int .i64 0, .int .i64 0, .int .u64 0, .slice none 0 0, .bool false, .int .i64 0, .slice none 0 0, .slice p2 x1.length c3, .slice none 0 0]) (by kernel_rfl) fun a hs hS => ?_
    refine d_all (fuel := 3) (rs := [13]) (by kernel_rfl) (by simp) (all1 ?_)
    obtain ⟨y647, h648, hx641⟩ := bindE hx641
    refine o_call hs rfl (by kernel_rfl) (by kernel_rfl) (letter_bare_s h648 h4 (hG.mono (Le.refl _)) ((hw.pick [0, 1] (by kernel_rfl)).pack 0)) fun a w v hv hs => ?_
    obtain ⟨p649, c650, rfl, hw, h651⟩ := hv
    replace hw := hw.unpack 0 rfl
    refine dg_next (SX_now hS339 ((hw.vws [0, 1]).anti (Le.refl _)) (by kernel_rfl)) fun hS => ?_
    refine d_all (fuel := 2) (rs := [14]) (by kernel_rfl) (by simp) (all1 ?_)
    obtain ⟨y652, h653, hx641⟩ := bindE hx641
    refine o_call hs rfl (by kernel_rfl) (by kernel_rfl) (letter_Same_s h653 h4 h651 ((hw.pick [0, 1] (by kernel_rfl)).pack 0)) fun a w v hv hs => ?_
    obtain ⟨rfl, hw⟩ := hv
    replace hw := hw.unpack 0 rfl
    refine dg_next (SX_now hS339 ((hw.vws [0, 1]).anti (Le.refl _)) (by kernel_rfl)) fun hS => ?_
    refine d_pures (fuel := 0) kS339 hs hS [15, 16] [1, 9, 10, 11, 12, 13, 14, 15, 16, 17, 18, 19, 20, 21, 22, 23, 24, 25] [(1, .pointer (some ⟨b333, 0, none⟩)), (9, .pointer (some ⟨b333, 1, none⟩)), (10, .int .i64 1), (11, .bool true), (12, .bool false), (13, .bool false), (14, .pointer (some ⟨b333, 2, none⟩)), (15, .int .i64 1), (16, .bool true), (17, .bool false), (18, .bool false), (19, .bool false), (20, .agg #[.int .i64 12, .int .i64 1, .int .i64 1, .int .i64 0, .int .u64 1, .int .u64 0, .int .u64 0, .int .u64 0, .int .u64 0, .int .u64 0, .int .i64 0, .int .u32 0, .int .i64 0, .int .i64 0, .int .i64 0, .int .u64 0, .int .i64 0, .int .i64 0, .int .u64 0, .slice none 0 0, .bool false, .int .i64 0, .slice none 0 0, .slice p2 x1.length c3, .slice none 0 0]), (21, .agg #[.int .i64 12, .int .i64 1, .int .i64 1, .int .i64 0, .int .u64 1, .int .u64 0, .int .u64 0, .int .u64 0, .int .u64 0, .int .u64 0, .int .i64 0, .int .u32 0, .int .i64 0, .int .i64 0, .int .i64 0, .int .u64 0, .int .i64 0, .int .i64 0, .int .u64 0, .slice none 0 0, .bool false, .int .i64 0, .slice none 0 0, .slice p2 x1.length c3, .slice none 0 0]), (22, .agg #[.int .i64 12, .int .i64 1, .int .i64 1, .int .i64 y647.1, .int .u64 y647.2.1, .int .u64 0, .int .u64 0, .int .u64 y647.2.2.1, .int .u64 y647.2.2.2.1, .int .u64 0, .int .i64 0, .int .u32 0, .int .i64 0, .int .i64 0, .int .i64 0, .int .u64 0, .int .i64 0, .int .i64 0, .int .u64 0, .slice none 0 0, .bool false, .int .i64 0, .slice none 0 0, .slice p649 y647.2.2.2.2.length c650, .slice none 0 0]), (23, .bool y652), (24, .bool (!y652)), (25, .bool (!y652))] (by kernel_rfl) fun a hs hS => ?_
    refine d_done (by kernel_rfl) ?_
    obtain rfl := someE hx641
    exact (hJ642 _ _).2 ⟨(!y652), hk, hs.cast [1, 25] (by kernel_rfl), hw.pick [0, 1] (by kernel_rfl)⟩
  intro a w hh
  obtain ⟨x362, hk, hs, hw⟩ := (hJ642 _ _).1 hh
  rcases ifbE hk with ⟨h363, hk⟩ | ⟨h363, hk⟩
  · refine c_cond1 hs (by kernel_rfl) (t := x362) (by kernel_rfl) h363 ?_
    refine c_seq ?_
    refine c_region ?_
    refine pures hs 1 [2] [(2, .int .i64 4)] (by kernel_rfl) fun a hs => ?_
    refine s_end ?_
    refine c_ret ?_
    obtain rfl := someE hk
    refine hQ _ _ (f_ret1 hs rfl (v := .int .i64 4) (by kernel_rfl) ⟨rfl, hw.pick [1] (by kernel_rfl)⟩)
  refine c_cond0 hs (by kernel_rfl) (t := x362) (by kernel_rfl) h363 ?_
  refine c_skip ?_
  refine c_seq ?_
  refine c_seq ?_
  refine c_region ?_
  refine pures hs 1 [1, 26] [(1, .pointer (some ⟨b333, 0, none⟩)), (26, .pointer (some ⟨b333, 0, none⟩))] (by kernel_rfl) fun a hs => ?_
  refine s_load hs (hw.at_ 0 rfl) 0 (by kernel_rfl) (by kernel_rfl) (v := .int .i64 12) (by kernel_rfl) fun a hs => ?_
  have h382 : letter_parts = some () := rfl
  refine s_call hs (by kernel_rfl) (by kernel_rfl) (letter_parts_s h382 (hG.mono (Le.refl _)) ((hw.pick [0, 1] (by kernel_rfl)).pack 0)) fun a w v hv hs => ?_
  obtain ⟨p383, c384, d386, b388, b390, b392, b394, b396, rfl, hw, h385⟩ := hv
  replace hw := hw.unpack 6 rfl
  refine pures hs 2 [1, 28, 29, 30] [(1, .pointer (some ⟨b333, 0, none⟩)), (28, .slice p383 5 c384), (29, .int .i64 5), (30, .int .i64 0)] (by kernel_rfl) fun a hs => ?_
  refine s_end ?_
  refine c_block ?_
  refine wpIn_loop_rounds 6 ?_
  refine c_unr ?_
  refine c_seq ?_
  refine c_region ?_
  refine pures hs 1 [1, 28, 29, 30, 31] [(1, .pointer (some ⟨b333, 0, none⟩)), (28, .slice p383 5 c384), (29, .int .i64 5), (30, .int .i64 0), (31, .bool true)] (by kernel_rfl) fun a hs => ?_
  refine s_end ?_
  refine c_seq ?_
  refine c_condT hs (by kernel_rfl) (by kernel_rfl) ?_
  refine c_skip ?_
  refine c_seq ?_
  refine c_block ?_
  refine c_seq ?_
  refine c_region ?_
  have h530 : ix ([(M101.mk (.func (.func 86) #[] #[]) (.func (.func 102) #[] #[.pointer (some ⟨b388, 0, none⟩), .pointer (some ⟨b390, 0, none⟩)]) (.func (.func 104) #[] #[.pointer (some ⟨b390, 0, none⟩), .pointer (some ⟨b388, 0, none⟩)])), (M101.mk (.func (.func 91) #[] #[]) (.func (.func 106) #[] #[.pointer (some ⟨b392, 0, none⟩)]) (.func (.func 107) #[] #[.pointer (some ⟨b392, 0, none⟩)])), (M101.mk (.func (.func 96) #[] #[]) (.func (.func 106) #[] #[.pointer (some ⟨b394, 0, none⟩)]) (.func (.func 107) #[] #[.pointer (some ⟨b394, 0, none⟩)])), (M101.mk (.func (.func 96) #[] #[]) (.func (.func 106) #[] #[.pointer (some ⟨b396, 0, none⟩)]) (.func (.func 107) #[] #[.pointer (some ⟨b396, 0, none⟩)])), (M101.mk (.func (.func 128) #[] #[]) (.func (.func 129) #[] #[]) (.func (.func 130) #[] #[]))]) 0 = some (M101.mk (.func (.func 86) #[] #[]) (.func (.func 102) #[] #[.pointer (some ⟨b388, 0, none⟩), .pointer (some ⟨b390, 0, none⟩)]) (.func (.func 104) #[] #[.pointer (some ⟨b390, 0, none⟩), .pointer (some ⟨b388, 0, none⟩)])) := rfl
  refine s_indexO hs h385 (by kernel_rfl) (by kernel_rfl) (k := .i64) (by kernel_rfl) 101 (by kernel_rfl) (by kernel_rfl) h530 fun a r531 cs henc at532 h536 hs => ?_
  obtain ⟨rfl, h533, h534, h535⟩ := henc
  refine s_load hs (at532 _ ((hw.vw 0 rfl).anti (Le.refl _))) 0 (by kernel_rfl) (by kernel_rfl) (v := .agg #[.func (.func 86) #[] #[], .func (.func 102) #[] #[.pointer (some ⟨b388, 0, none⟩), .pointer (some ⟨b390, 0, none⟩)], .func (.func 104) #[] #[.pointer (some ⟨b390, 0, none⟩), .pointer (some ⟨b388, 0, none⟩)]]) (by kernel_rfl) fun a hs => ?_
  refine s_new hs hw [.nilFunc, .nilFunc, .nilFunc] 101 (fun b => .pointer (some ⟨b, 0, none⟩)) (by kernel_rfl) (fun _ => by kernel_rfl) fun a w b537 hs hw => ?_
  refine s_store hs hw 0 rfl 0 (by kernel_rfl) (by kernel_rfl) (v := .agg #[.func (.func 86) #[] #[], .func (.func 102) #[] #[.pointer (some ⟨b388, 0, none⟩), .pointer (some ⟨b390, 0, none⟩)], .func (.func 104) #[] #[.pointer (some ⟨b390, 0, none⟩), .pointer (some ⟨b388, 0, none⟩)]]) (by kernel_rfl) (by kernel_rfl) (by kernel_rfl) (by kernel_rfl) fun a w hs hw => ?_
  refine s_end ?_
  refine c_seq ?_
  refine c_region ?_
  refine pures hs 1 [1, 28, 29, 30, 34] [(1, .pointer (some ⟨b333, 0, none⟩)), (28, .slice p383 5 c384), (29, .int .i64 5), (30, .int .i64 0), (34, .pointer (some ⟨b537, 0, none⟩))] (by kernel_rfl) fun a hs => ?_
  refine s_load hs (hw.at_ 0 rfl) 0 (by kernel_rfl) (by kernel_rfl) (v := .func (.func 86) #[] #[]) (by kernel_rfl) fun a hs => ?_
  refine s_load hs (hw.at_ 7 rfl) 0 (by kernel_rfl) (by kernel_rfl) (v := .agg #[.int .i64 12, .int .i64 1, .int .i64 1, .int .i64 0, .int .u64 1, .int .u64 0, .int .u64 0, .int .u64 0, .int .u64 0, .int .u64 0, .int .i64 0, .int .u32 0, .int .i64 0, .int .i64 0, .int .i64 0, .int .u64 0, .int .i64 0, .int .i64 0, .int .u64 0, .slice none 0 0, .bool false, .int .i64 0, .slice none 0 0, .slice p2 x1.length c3, .slice none 0 0]) (by kernel_rfl) fun a hs => ?_
  have h542 : letter_of_1 = some () := rfl
  refine s_call hs (by kernel_rfl) (by kernel_rfl) (letter_of_1_s (x1 := x1) h542 h4 ((hw.pick [1, 2, 3, 4, 5, 6, 7, 8] (by kernel_rfl)).pack 0)) fun a w v hv hs => ?_
  obtain ⟨rfl, hw⟩ := hv
  replace hw := hw.unpack 0 rfl
  refine pures hs 1 [1, 28, 29, 30, 38] [(1, .pointer (some ⟨b333, 0, none⟩)), (28, .slice p383 5 c384), (29, .int .i64 5), (30, .int .i64 0), (38, .bool false)] (by kernel_rfl) fun a hs => ?_
  refine s_end ?_
  refine c_condF hs (by kernel_rfl) (by kernel_rfl) ?_
  refine c_skip ?_
  refine c_region ?_
  refine pures hs 2 [1, 28, 29, 30] [(1, .pointer (some ⟨b333, 0, none⟩)), (28, .slice p383 5 c384), (29, .int .i64 5), (30, .int .i64 1)] (by kernel_rfl) fun a hs => ?_
  refine s_end ?_
  refine c_unr ?_
  refine c_seq ?_
  refine c_region ?_
  refine pures hs 1 [1, 28, 29, 30, 31] [(1, .pointer (some ⟨b333, 0, none⟩)), (28, .slice p383 5 c384), (29, .int .i64 5), (30, .int .i64 1), (31, .bool true)] (by kernel_rfl) fun a hs => ?_
  refine s_end ?_
  refine c_seq ?_
  refine c_condT hs (by kernel_rfl) (by kernel_rfl) ?_
  refine c_skip ?_
  refine c_seq ?_
  refine c_block ?_
  refine c_seq ?_
  refine c_region ?_
  have h554 : ix ([(M101.mk (.func (.func 86) #[] #[]) (.func (.func 102) #[] #[.pointer (some ⟨b388, 0, none⟩), .pointer (some ⟨b390, 0, none⟩)]) (.func (.func 104) #[] #[.pointer (some ⟨b390, 0, none⟩), .pointer (some ⟨b388, 0, none⟩)])), (M101.mk (.func (.func 91) #[] #[]) (.func (.func 106) #[] #[.pointer (some ⟨b392, 0, none⟩)]) (.func (.func 107) #[] #[.pointer (some ⟨b392, 0, none⟩)])), (M101.mk (.func (.func 96) #[] #[]) (.func (.func 106) #[] #[.pointer (some ⟨b394, 0, none⟩)]) (.func (.func 107) #[] #[.pointer (some ⟨b394, 0, none⟩)])), (M101.mk (.func (.func 96) #[] #[]) (.func (.func 106) #[] #[.pointer (some ⟨b396, 0, none⟩)]) (.func (.func 107) #[] #[.pointer (some ⟨b396, 0, none⟩)])), (M101.mk (.func (.func 128) #[] #[]) (.func (.func 129) #[] #[]) (.func (.func 130) #[] #[]))]) 1 = some (M101.mk (.func (.func 91) #[] #[]) (.func (.func 106) #[] #[.pointer (some ⟨b392, 0, none⟩)]) (.func (.func 107) #[] #[.pointer (some ⟨b392, 0, none⟩)])) := rfl
  refine s_indexO hs h385 (by kernel_rfl) (by kernel_rfl) (k := .i64) (by kernel_rfl) 101 (by kernel_rfl) (by kernel_rfl) h554 fun a r555 cs henc at556 h560 hs => ?_
  obtain ⟨rfl, h557, h558, h559⟩ := henc
  refine s_load hs (at556 _ ((hw.vw 0 rfl).anti (Le.refl _))) 0 (by kernel_rfl) (by kernel_rfl) (v := .agg #[.func (.func 91) #[] #[], .func (.func 106) #[] #[.pointer (some ⟨b392, 0, none⟩)], .func (.func 107) #[] #[.pointer (some ⟨b392, 0, none⟩)]]) (by kernel_rfl) fun a hs => ?_
  refine s_new hs hw [.nilFunc, .nilFunc, .nilFunc] 101 (fun b => .pointer (some ⟨b, 0, none⟩)) (by kernel_rfl) (fun _ => by kernel_rfl) fun a w b561 hs hw => ?_
  refine s_store hs hw 0 rfl 0 (by kernel_rfl) (by kernel_rfl) (v := .agg #[.func (.func 91) #[] #[], .func (.func 106) #[] #[.pointer (some ⟨b392, 0, none⟩)], .func (.func 107) #[] #[.pointer (some ⟨b392, 0, none⟩)]]) (by kernel_rfl) (by kernel_rfl) (by kernel_rfl) (by kernel_rfl) fun a w hs hw => ?_
  refine s_end ?_
  refine c_seq ?_
  refine c_region ?_
  refine pures hs 1 [1, 28, 29, 30, 34] [(1, .pointer (some ⟨b333, 0, none⟩)), (28, .slice p383 5 c384), (29, .int .i64 5), (30, .int .i64 1), (34, .pointer (some ⟨b561, 0, none⟩))] (by kernel_rfl) fun a hs => ?_
  refine s_load hs (hw.at_ 0 rfl) 0 (by kernel_rfl) (by kernel_rfl) (v := .func (.func 91) #[] #[]) (by kernel_rfl) fun a hs => ?_
  refine s_load hs (hw.at_ 7 rfl) 0 (by kernel_rfl) (by kernel_rfl) (v := .agg #[.int .i64 12, .int .i64 1, .int .i64 1, .int .i64 0, .int .u64 1, .int .u64 0, .int .u64 0, .int .u64 0, .int .u64 0, .int .u64 0, .int .i64 0, .int .u32 0, .int .i64 0, .int .i64 0, .int .i64 0, .int .u64 0, .int .i64 0, .int .i64 0, .int .u64 0, .slice none 0 0, .bool false, .int .i64 0, .slice none 0 0, .slice p2 x1.length c3, .slice none 0 0]) (by kernel_rfl) fun a hs => ?_
  have h566 : letter_of_5_2 = some () := rfl
  refine s_call hs (by kernel_rfl) (by kernel_rfl) (letter_of_5_2_s (x1 := x1) h566 h4 ((hw.pick [1, 2, 3, 4, 5, 6, 7, 8] (by kernel_rfl)).pack 0)) fun a w v hv hs => ?_
  obtain ⟨rfl, hw⟩ := hv
  replace hw := hw.unpack 0 rfl
  refine pures hs 1 [1, 28, 29, 30, 38] [(1, .pointer (some ⟨b333, 0, none⟩)), (28, .slice p383 5 c384), (29, .int .i64 5), (30, .int .i64 1), (38, .bool false)] (by kernel_rfl) fun a hs => ?_
  refine s_end ?_
  refine c_condF hs (by kernel_rfl) (by kernel_rfl) ?_
  refine c_skip ?_
  refine c_region ?_
  refine pures hs 2 [1, 28, 29, 30] [(1, .pointer (some ⟨b333, 0, none⟩)), (28, .slice p383 5 c384), (29, .int .i64 5), (30, .int .i64 2)] (by kernel_rfl) fun a hs => ?_
  refine s_end ?_
  refine c_unr ?_
  refine c_seq ?_
  refine c_region ?_
  refine pures hs 1 [1, 28, 29, 30, 31] [(1, .pointer (some ⟨b333, 0, none⟩)), (28, .slice p383 5 c384), (29, .int .i64 5), (30, .int .i64 2), (31, .bool true)] (by kernel_rfl) fun a hs => ?_
  refine s_end ?_
  refine c_seq ?_
  refine c_condT hs (by kernel_rfl) (by kernel_rfl) ?_
  refine c_skip ?_
  refine c_seq ?_
  refine c_block ?_
  refine c_seq ?_
  refine c_region ?_
  have h578 : ix ([(M101.mk (.func (.func 86) #[] #[]) (.func (.func 102) #[] #[.pointer (some ⟨b388, 0, none⟩), .pointer (some ⟨b390, 0, none⟩)]) (.func (.func 104) #[] #[.pointer (some ⟨b390, 0, none⟩), .pointer (some ⟨b388, 0, none⟩)])), (M101.mk (.func (.func 91) #[] #[]) (.func (.func 106) #[] #[.pointer (some ⟨b392, 0, none⟩)]) (.func (.func 107) #[] #[.pointer (some ⟨b392, 0, none⟩)])), (M101.mk (.func (.func 96) #[] #[]) (.func (.func 106) #[] #[.pointer (some ⟨b394, 0, none⟩)]) (.func (.func 107) #[] #[.pointer (some ⟨b394, 0, none⟩)])), (M101.mk (.func (.func 96) #[] #[]) (.func (.func 106) #[] #[.pointer (some ⟨b396, 0, none⟩)]) (.func (.func 107) #[] #[.pointer (some ⟨b396, 0, none⟩)])), (M101.mk (.func (.func 128) #[] #[]) (.func (.func 129) #[] #[]) (.func (.func 130) #[] #[]))]) 2 = some (M101.mk (.func (.func 96) #[] #[]) (.func (.func 106) #[] #[.pointer (some ⟨b394, 0, none⟩)]) (.func (.func 107) #[] #[.pointer (some ⟨b394, 0, none⟩)])) := rfl
  refine s_indexO hs h385 (by kernel_rfl) (by kernel_rfl) (k := .i64) (by kernel_rfl) 101 (by kernel_rfl) (by kernel_rfl) h578 fun a r579 cs henc at580 h584 hs => ?_
  obtain ⟨rfl, h581, h582, h583⟩ := henc
  refine s_load hs (at580 _ ((hw.vw 0 rfl).anti (Le.refl _))) 0 (by kernel_rfl) (by kernel_rfl) (v := .agg #[.func (.func 96) #[] #[], .func (.func 106) #[] #[.pointer (some ⟨b394, 0, none⟩)], .func (.func 107) #[] #[.pointer (some ⟨b394, 0, none⟩)]]) (by kernel_rfl) fun a hs => ?_
  refine s_new hs hw [.nilFunc, .nilFunc, .nilFunc] 101 (fun b => .pointer (some ⟨b, 0, none⟩)) (by kernel_rfl) (fun _ => by kernel_rfl) fun a w b585 hs hw => ?_
  refine s_store hs hw 0 rfl 0 (by kernel_rfl) (by kernel_rfl) (v := .agg #[.func (.func 96) #[] #[], .func (.func 106) #[] #[.pointer (some ⟨b394, 0, none⟩)], .func (.func 107) #[] #[.pointer (some ⟨b394, 0, none⟩)]]) (by kernel_rfl) (by kernel_rfl) (by kernel_rfl) (by kernel_rfl) fun a w hs hw => ?_
  refine s_end ?_
  refine c_seq ?_
  refine c_region ?_
  refine pures hs 1 [1, 28, 29, 30, 34] [(1, .pointer (some ⟨b333, 0, none⟩)), (28, .slice p383 5 c384), (29, .int .i64 5), (30, .int .i64 2), (34, .pointer (some ⟨b585, 0, none⟩))] (by kernel_rfl) fun a hs => ?_
  refine s_load hs (hw.at_ 0 rfl) 0 (by kernel_rfl) (by kernel_rfl) (v := .func (.func 96) #[] #[]) (by kernel_rfl) fun a hs => ?_
  refine s_load hs (hw.at_ 7 rfl) 0 (by kernel_rfl) (by kernel_rfl) (v := .agg #[.int .i64 12, .int .i64 1, .int .i64 1, .int .i64 0, .int .u64 1, .int .u64 0, .int .u64 0, .int .u64 0, .int .u64 0, .int .u64 0, .int .i64 0, .int .u32 0, .int .i64 0, .int .i64 0, .int .i64 0, .int .u64 0, .int .i64 0, .int .i64 0, .int .u64 0, .slice none 0 0, .bool false, .int .i64 0, .slice none 0 0, .slice p2 x1.length c3, .slice none 0 0]) (by kernel_rfl) fun a hs => ?_
  have h590 : letter_any = some () := rfl
  refine s_call hs (by kernel_rfl) (by kernel_rfl) (letter_any_s (x1 := x1) h590 h4 ((hw.pick [1, 2, 3, 4, 5, 6, 7, 8] (by kernel_rfl)).pack 0)) fun a w v hv hs => ?_
  obtain ⟨rfl, hw⟩ := hv
  replace hw := hw.unpack 0 rfl
  refine pures hs 1 [1, 28, 29, 30, 38] [(1, .pointer (some ⟨b333, 0, none⟩)), (28, .slice p383 5 c384), (29, .int .i64 5), (30, .int .i64 2), (38, .bool false)] (by kernel_rfl) fun a hs => ?_
  refine s_end ?_
  refine c_condF hs (by kernel_rfl) (by kernel_rfl) ?_
  refine c_skip ?_
  refine c_region ?_
  refine pures hs 2 [1, 28, 29, 30] [(1, .pointer (some ⟨b333, 0, none⟩)), (28, .slice p383 5 c384), (29, .int .i64 5), (30, .int .i64 3)] (by kernel_rfl) fun a hs => ?_
  refine s_end ?_
  refine c_unr ?_
  refine c_seq ?_
  refine c_region ?_
  refine pures hs 1 [1, 28, 29, 30, 31] [(1, .pointer (some ⟨b333, 0, none⟩)), (28, .slice p383 5 c384), (29, .int .i64 5), (30, .int .i64 3), (31, .bool true)] (by kernel_rfl) fun a hs => ?_
  refine s_end ?_
  refine c_seq ?_
  refine c_condT hs (by kernel_rfl) (by kernel_rfl) ?_
  refine c_skip ?_
  refine c_seq ?_
  refine c_block ?_
  refine c_seq ?_
  refine c_region ?_
  have h602 : ix ([(M101.mk (.func (.func 86) #[] #[]) (.func (.func 102) #[] #[.pointer (some ⟨b388, 0, none⟩), .pointer (some ⟨b390, 0, none⟩)]) (.func (.func 104) #[] #[.pointer (some ⟨b390, 0, none⟩), .pointer (some ⟨b388, 0, none⟩)])), (M101.mk (.func (.func 91) #[] #[]) (.func (.func 106) #[] #[.pointer (some ⟨b392, 0, none⟩)]) (.func (.func 107) #[] #[.pointer (some ⟨b392, 0, none⟩)])), (M101.mk (.func (.func 96) #[] #[]) (.func (.func 106) #[] #[.pointer (some ⟨b394, 0, none⟩)]) (.func (.func 107) #[] #[.pointer (some ⟨b394, 0, none⟩)])), (M101.mk (.func (.func 96) #[] #[]) (.func (.func 106) #[] #[.pointer (some ⟨b396, 0, none⟩)]) (.func (.func 107) #[] #[.pointer (some ⟨b396, 0, none⟩)])), (M101.mk (.func (.func 128) #[] #[]) (.func (.func 129) #[] #[]) (.func (.func 130) #[] #[]))]) 3 = some (M101.mk (.func (.func 96) #[] #[]) (.func (.func 106) #[] #[.pointer (some ⟨b396, 0, none⟩)]) (.func (.func 107) #[] #[.pointer (some ⟨b396, 0, none⟩)])) := rfl
  refine s_indexO hs h385 (by kernel_rfl) (by kernel_rfl) (k := .i64) (by kernel_rfl) 101 (by kernel_rfl) (by kernel_rfl) h602 fun a r603 cs henc at604 h608 hs => ?_
  obtain ⟨rfl, h605, h606, h607⟩ := henc
  refine s_load hs (at604 _ ((hw.vw 0 rfl).anti (Le.refl _))) 0 (by kernel_rfl) (by kernel_rfl) (v := .agg #[.func (.func 96) #[] #[], .func (.func 106) #[] #[.pointer (some ⟨b396, 0, none⟩)], .func (.func 107) #[] #[.pointer (some ⟨b396, 0, none⟩)]]) (by kernel_rfl) fun a hs => ?_
  refine s_new hs hw [.nilFunc, .nilFunc, .nilFunc] 101 (fun b => .pointer (some ⟨b, 0, none⟩)) (by kernel_rfl) (fun _ => by kernel_rfl) fun a w b609 hs hw => ?_
  refine s_store hs hw 0 rfl 0 (by kernel_rfl) (by kernel_rfl) (v := .agg #[.func (.func 96) #[] #[], .func (.func 106) #[] #[.pointer (some ⟨b396, 0, none⟩)], .func (.func 107) #[] #[.pointer (some ⟨b396, 0, none⟩)]]) (by kernel_rfl) (by kernel_rfl) (by kernel_rfl) (by kernel_rfl) fun a w hs hw => ?_
  refine s_end ?_
  refine c_seq ?_
  refine c_region ?_
  refine pures hs 1 [1, 28, 29, 30, 34] [(1, .pointer (some ⟨b333, 0, none⟩)), (28, .slice p383 5 c384), (29, .int .i64 5), (30, .int .i64 3), (34, .pointer (some ⟨b609, 0, none⟩))] (by kernel_rfl) fun a hs => ?_
  refine s_load hs (hw.at_ 0 rfl) 0 (by kernel_rfl) (by kernel_rfl) (v := .func (.func 96) #[] #[]) (by kernel_rfl) fun a hs => ?_
  refine s_load hs (hw.at_ 7 rfl) 0 (by kernel_rfl) (by kernel_rfl) (v := .agg #[.int .i64 12, .int .i64 1, .int .i64 1, .int .i64 0, .int .u64 1, .int .u64 0, .int .u64 0, .int .u64 0, .int .u64 0, .int .u64 0, .int .i64 0, .int .u32 0, .int .i64 0, .int .i64 0, .int .i64 0, .int .u64 0, .int .i64 0, .int .i64 0, .int .u64 0, .slice none 0 0, .bool false, .int .i64 0, .slice none 0 0, .slice p2 x1.length c3, .slice none 0 0]) (by kernel_rfl) fun a hs => ?_
  have h614 : letter_any = some () := rfl
  refine s_call hs (by kernel_rfl) (by kernel_rfl) (letter_any_s (x1 := x1) h614 h4 ((hw.pick [1, 2, 3, 4, 5, 6, 7, 8] (by kernel_rfl)).pack 0)) fun a w v hv hs => ?_
  obtain ⟨rfl, hw⟩ := hv
  replace hw := hw.unpack 0 rfl
  refine pures hs 1 [1, 28, 29, 30, 38] [(1, .pointer (some ⟨b333, 0, none⟩)), (28, .slice p383 5 c384), (29, .int .i64 5), (30, .int .i64 3), (38, .bool false)] (by kernel_rfl) fun a hs => ?_
  refine s_end ?_
  refine c_condF hs (by kernel_rfl) (by kernel_rfl) ?_
  refine c_skip ?_
  refine c_region ?_
  refine pures hs 2 [1, 28, 29, 30] [(1, .pointer (some ⟨b333, 0, none⟩)), (28, .slice p383 5 c384), (29, .int .i64 5), (30, .int .i64 4)] (by kernel_rfl) fun a hs => ?_
  refine s_end ?_
  refine c_unr ?_
  refine c_seq ?_
  refine c_region ?_
  refine pures hs 1 [1, 28, 29, 30, 31] [(1, .pointer (some ⟨b333, 0, none⟩)), (28, .slice p383 5 c384), (29, .int .i64 5), (30, .int .i64 4), (31, .bool true)] (by kernel_rfl) fun a hs => ?_
  refine s_end ?_
  refine c_seq ?_
  refine c_condT hs (by kernel_rfl) (by kernel_rfl) ?_
  refine c_skip ?_
  refine c_seq ?_
  refine c_block ?_
  refine c_seq ?_
  refine c_region ?_
  have h626 : ix ([(M101.mk (.func (.func 86) #[] #[]) (.func (.func 102) #[] #[.pointer (some ⟨b388, 0, none⟩), .pointer (some ⟨b390, 0, none⟩)]) (.func (.func 104) #[] #[.pointer (some ⟨b390, 0, none⟩), .pointer (some ⟨b388, 0, none⟩)])), (M101.mk (.func (.func 91) #[] #[]) (.func (.func 106) #[] #[.pointer (some ⟨b392, 0, none⟩)]) (.func (.func 107) #[] #[.pointer (some ⟨b392, 0, none⟩)])), (M101.mk (.func (.func 96) #[] #[]) (.func (.func 106) #[] #[.pointer (some ⟨b394, 0, none⟩)]) (.func (.func 107) #[] #[.pointer (some ⟨b394, 0, none⟩)])), (M101.mk (.func (.func 96) #[] #[]) (.func (.func 106) #[] #[.pointer (some ⟨b396, 0, none⟩)]) (.func (.func 107) #[] #[.pointer (some ⟨b396, 0, none⟩)])), (M101.mk (.func (.func 128) #[] #[]) (.func (.func 129) #[] #[]) (.func (.func 130) #[] #[]))]) 4 = some (M101.mk (.func (.func 128) #[] #[]) (.func (.func 129) #[] #[]) (.func (.func 130) #[] #[])) := rfl
  refine s_indexO hs h385 (by kernel_rfl) (by kernel_rfl) (k := .i64) (by kernel_rfl) 101 (by kernel_rfl) (by kernel_rfl) h626 fun a r627 cs henc at628 h632 hs => ?_
  obtain ⟨rfl, h629, h630, h631⟩ := henc
  refine s_load hs (at628 _ ((hw.vw 0 rfl).anti (Le.refl _))) 0 (by kernel_rfl) (by kernel_rfl) (v := .agg #[.func (.func 128) #[] #[], .func (.func 129) #[] #[], .func (.func 130) #[] #[]]) (by kernel_rfl) fun a hs => ?_
  refine s_new hs hw [.nilFunc, .nilFunc, .nilFunc] 101 (fun b => .pointer (some ⟨b, 0, none⟩)) (by kernel_rfl) (fun _ => by kernel_rfl) fun a w b633 hs hw => ?_
  refine s_store hs hw 0 rfl 0 (by kernel_rfl) (by kernel_rfl) (v := .agg #[.func (.func 128) #[] #[], .func (.func 129) #[] #[], .func (.func 130) #[] #[]]) (by kernel_rfl) (by kernel_rfl) (by kernel_rfl) (by kernel_rfl) fun a w hs hw => ?_
  refine s_end ?_
  refine c_seq ?_
  refine c_region ?_
  refine pures hs 1 [1, 28, 29, 30, 34] [(1, .pointer (some ⟨b333, 0, none⟩)), (28, .slice p383 5 c384), (29, .int .i64 5), (30, .int .i64 4), (34, .pointer (some ⟨b633, 0, none⟩))] (by kernel_rfl) fun a hs => ?_
  refine s_load hs (hw.at_ 0 rfl) 0 (by kernel_rfl) (by kernel_rfl) (v := .func (.func 128) #[] #[]) (by kernel_rfl) fun a hs => ?_
  refine s_load hs (hw.at_ 7 rfl) 0 (by kernel_rfl) (by kernel_rfl) (v := .agg #[.int .i64 12, .int .i64 1, .int .i64 1, .int .i64 0, .int .u64 1, .int .u64 0, .int .u64 0, .int .u64 0, .int .u64 0, .int .u64 0, .int .i64 0, .int .u32 0, .int .i64 0, .int .i64 0, .int .i64 0, .int .u64 0, .int .i64 0, .int .i64 0, .int .u64 0, .slice none 0 0, .bool false, .int .i64 0, .slice none 0 0, .slice p2 x1.length c3, .slice none 0 0]) (by kernel_rfl) fun a hs => ?_
  obtain ⟨y637, h638, hk⟩ := bindE hk
  refine s_call hs (by kernel_rfl) (by kernel_rfl) (letter_updates_s h638 h4 ((hw.pick [1, 2, 3, 4, 5, 6, 7, 8] (by kernel_rfl)).pack 0)) fun a w v hv hs => ?_
  obtain ⟨rfl, hw⟩ := hv
  replace hw := hw.unpack 0 rfl
  refine pures hs 1 [1, 28, 29, 30, 38] [(1, .pointer (some ⟨b333, 0, none⟩)), (28, .slice p383 5 c384), (29, .int .i64 5), (30, .int .i64 4), (38, .bool (!y637))] (by kernel_rfl) fun a hs => ?_
  refine s_end ?_
  rcases ifbE hk with ⟨h639, hk⟩ | ⟨h639, hk⟩
  · refine c_cond1 hs (by kernel_rfl) (t := (!y637)) (by kernel_rfl) h639 ?_
    refine c_seq ?_
    refine c_region ?_
    refine pures hs 1 [2] [(2, .int .i64 4)] (by kernel_rfl) fun a hs => ?_
    refine s_end ?_
    refine c_ret ?_
    obtain rfl := someE hk
    refine hQ _ _ (f_ret1 hs rfl (v := .int .i64 4) (by kernel_rfl) ⟨rfl, hw.pick [7] (by kernel_rfl)⟩)
  refine c_cond0 hs (by kernel_rfl) (t := (!y637)) (by kernel_rfl) h639 ?_
  refine c_skip ?_
  refine c_region ?_
  refine pures hs 2 [1, 28, 29, 30] [(1, .pointer (some ⟨b333, 0, none⟩)), (28, .slice p383 5 c384), (29, .int .i64 5), (30, .int .i64 5)] (by kernel_rfl) fun a hs => ?_
  refine s_end ?_
  refine c_unr ?_
  refine c_seq ?_
  refine c_region ?_
  refine pures hs 1 [1, 28, 29, 30, 31] [(1, .pointer (some ⟨b333, 0, none⟩)), (28, .slice p383 5 c384), (29, .int .i64 5), (30, .int .i64 5), (31, .bool false)] (by kernel_rfl) fun a hs => ?_
  refine s_end ?_
  refine c_seq ?_
  refine c_condF hs (by kernel_rfl) (by kernel_rfl) ?_
  refine c_exit ?_
  refine c_seq ?_
  refine c_region ?_
  refine pures hs 1 [2] [(2, .int .i64 0)] (by kernel_rfl) fun a hs => ?_
  refine s_end ?_
  refine c_ret ?_
  obtain rfl := someE hk
  refine hQ _ _ (f_ret1 hs rfl (v := .int .i64 0) (by kernel_rfl) ⟨rfl, hw.pick [7] (by kernel_rfl)⟩)
def update_check (k : Nat) (x1 : M26) : Option Int :=
  (update_writes x1.f3).bind fun y37 =>
  if (!y37) = true then some 1
  else if (decide ((x1.f6.length : Int) > 2048)) = true then some 6
  else (letter_Check k ([x1])).bind fun y53 =>
  some y53
theorem update_check_s {k : Nat} {x1 : M26} {p2 : Option Addr} {c3 : Nat} {r : Int} (hk : update_check k x1 = some r) {g w : World} {F : Ch} {ih : IH} (h4 : RSl e5 ih [] p2 c3 x1.f6) (hG : Glob 0 gl0 110 ih) (hw : St g w [F] ih) :
    CallsR Tryz.prog 43 #[.agg #[.int .u64 x1.f0, .int .i64 x1.f1, .int .u64 x1.f2, .int .i64 x1.f3, .int .u32 x1.f4, .int .u64 x1.f5, .slice p2 x1.f6.length c3], .int .i64 12] w fun v w' => ∃ (ih' : IH), v = .int .i64 r ∧ St g w' [F] ih' ∧ Le ih ih' := by
  refine f_in (vs := [.agg #[.int .u64 x1.f0, .int .i64 x1.f1, .int .u64 x1.f2, .int .i64 x1.f3, .int .u32 x1.f4, .int .u64 x1.f5, .slice p2 x1.f6.length c3], .int .i64 12]) Tryz.func43 rfl 20 rfl (by kernel_rfl) [(0, .agg #[.int .u64 x1.f0, .int .i64 x1.f1, .int .u64 x1.f2, .int .i64 x1.f3, .int .u32 x1.f4, .int .u64 x1.f5, .slice p2 x1.f6.length c3]), (1, .int .i64 12)] (by kernel_rfl) fun a Qf hQ hQn hs => ?_
  refine c_seq ?_
  refine c_region ?_
  refine s_new hs hw [.int .u64 x1.f0, .int .i64 x1.f1, .int .u64 x1.f2, .int .i64 x1.f3, .int .u32 x1.f4, .int .u64 x1.f5, .slice p2 x1.f6.length c3] 26 (fun b => .pointer (some ⟨b, 0, none⟩)) (by kernel_rfl) (fun _ => by kernel_rfl) fun a w b33 hs hw => ?_
  refine pures hs 1 [1, 2] [(1, .int .i64 12), (2, .pointer (some ⟨b33, 0, none⟩))] (by kernel_rfl) fun a hs => ?_
  refine s_end ?_
  refine c_seq ?_
  refine c_block ?_
  refine c_seq ?_
  refine c_region ?_
  refine pures hs 1 [1, 2, 6] [(1, .int .i64 12), (2, .pointer (some ⟨b33, 0, none⟩)), (6, .pointer (some ⟨b33, 3, none⟩))] (by kernel_rfl) fun a hs => ?_
  refine s_load hs (hw.at_ 0 rfl) 3 (by kernel_rfl) (by kernel_rfl) (v := .int .i64 x1.f3) (by kernel_rfl) fun a hs => ?_
  obtain ⟨y37, h38, hk⟩ := bindE hk
  refine s_call hs (by kernel_rfl) (by kernel_rfl) (update_writes_s h38 ((hw.pick [0, 1] (by kernel_rfl)).pack 0)) fun a w v hv hs => ?_
  obtain ⟨rfl, hw⟩ := hv
  replace hw := hw.unpack 0 rfl
  refine pures hs 2 [1, 2, 5] [(1, .int .i64 12), (2, .pointer (some ⟨b33, 0, none⟩)), (5, .bool (!y37))] (by kernel_rfl) fun a hs => ?_
  refine s_end ?_
  rcases ifbE hk with ⟨h39, hk⟩ | ⟨h39, hk⟩
  · refine c_cond1 hs (by kernel_rfl) (t := (!y37)) (by kernel_rfl) h39 ?_
    refine c_seq ?_
    refine c_region ?_
    refine pures hs 1 [4] [(4, .int .i64 1)] (by kernel_rfl) fun a hs => ?_
    refine s_end ?_
    refine c_ret ?_
    obtain rfl := someE hk
    refine hQ _ _ (f_ret1 hs rfl (v := .int .i64 1) (by kernel_rfl) ⟨ih, rfl, hw.pick [1] (by kernel_rfl), (Le.refl _)⟩)
  refine c_cond0 hs (by kernel_rfl) (t := (!y37)) (by kernel_rfl) h39 ?_
  refine c_seq ?_
  refine c_region ?_
  refine pures hs 1 [1, 2, 11] [(1, .int .i64 12), (2, .pointer (some ⟨b33, 0, none⟩)), (11, .pointer (some ⟨b33, 6, none⟩))] (by kernel_rfl) fun a hs => ?_
  refine s_load hs (hw.at_ 0 rfl) 6 (by kernel_rfl) (by kernel_rfl) (v := .slice p2 x1.f6.length c3) (by kernel_rfl) fun a hs => ?_
  refine pures hs 3 [1, 2, 10] [(1, .int .i64 12), (2, .pointer (some ⟨b33, 0, none⟩)), (10, .bool (decide ((x1.f6.length : Int) > 2048)))] (by kernel_rfl) fun a hs => ?_
  refine s_end ?_
  rcases ifbE hk with ⟨h40, hk⟩ | ⟨h40, hk⟩
  · refine c_cond1 hs (by kernel_rfl) (t := (decide ((x1.f6.length : Int) > 2048))) (by kernel_rfl) h40 ?_
    refine c_seq ?_
    refine c_region ?_
    refine pures hs 1 [4] [(4, .int .i64 6)] (by kernel_rfl) fun a hs => ?_
    refine s_end ?_
    refine c_ret ?_
    obtain rfl := someE hk
    refine hQ _ _ (f_ret1 hs rfl (v := .int .i64 6) (by kernel_rfl) ⟨ih, rfl, hw.pick [1] (by kernel_rfl), (Le.refl _)⟩)
  refine c_cond0 hs (by kernel_rfl) (t := (decide ((x1.f6.length : Int) > 2048))) (by kernel_rfl) h40 ?_
  refine c_skip ?_
  refine c_seq ?_
  refine c_region ?_
  refine pures hs 1 [2, 15] [(2, .pointer (some ⟨b33, 0, none⟩)), (15, .int .i64 12)] (by kernel_rfl) fun a hs => ?_
  refine s_load hs (hw.at_ 0 rfl) 0 (by kernel_rfl) (by kernel_rfl) (v := .agg #[.int .u64 x1.f0, .int .i64 x1.f1, .int .u64 x1.f2, .int .i64 x1.f3, .int .u32 x1.f4, .int .u64 x1.f5, .slice p2 x1.f6.length c3]) (by kernel_rfl) fun a hs => ?_
  refine s_new hs hw [.int .u64 x1.f0, .int .i64 x1.f1, .int .u64 x1.f2, .int .i64 x1.f3, .int .u32 x1.f4, .int .u64 x1.f5, .slice p2 x1.f6.length c3] 26 (fun b => .slice (some ⟨b, 0, none⟩) 1 1) (by kernel_rfl) (fun _ => by kernel_rfl) fun a w b48 hs hw => ?_
  obtain ⟨ih50, hle51, hw, h52⟩ := (hw.pick [0, 1, 2] (by kernel_rfl)).fz ((OSl.of1 (E := e26) (z := x1) ⟨p2, c3, rfl, h4⟩ (by simp [maxLen])).mono (Le.refl _))
  refine pures hs 1 [18] [(18, .agg #[.int .i64 12, .int .i64 1, .int .i64 1, .int .i64 0, .int .u64 1, .int .u64 0, .int .u64 0, .int .u64 0, .int .u64 0, .int .u64 0, .int .i64 0, .int .u32 0, .int .i64 0, .int .i64 0, .int .i64 0, .int .u64 0, .int .i64 0, .int .i64 0, .int .u64 0, .slice none 0 0, .bool false, .int .i64 0, .slice none 0 0, .slice (some ⟨b48, 0, none⟩) 1 1, .slice none 0 0])] (by kernel_rfl) fun a hs => ?_
  obtain ⟨y53, h54, hk⟩ := bindE hk
  refine s_call hs (by kernel_rfl) (by kernel_rfl) (letter_Check_s h54 h52 (hG.mono hle51) ((hw.pick [1] (by kernel_rfl)).pack 0)) fun a w v hv hs => ?_
  obtain ⟨rfl, hw⟩ := hv
  replace hw := hw.unpack 0 rfl
  refine pures hs 1 [4] [(4, .int .i64 y53)] (by kernel_rfl) fun a hs => ?_
  refine s_end ?_
  refine c_ret ?_
  obtain rfl := someE hk
  refine hQ _ _ (f_ret1 hs rfl (v := .int .i64 y53) (by kernel_rfl) ⟨ih50, rfl, hw.pick [0] (by kernel_rfl), hle51⟩)
def update_Check (k : Nat) (x1 : M26) : Option Int :=
  (update_check k x1).bind fun y27 =>
  some y27
theorem update_Check_s {k : Nat} {x1 : M26} {p2 : Option Addr} {c3 : Nat} {r : Int} (hk : update_Check k x1 = some r) {g w : World} {F : Ch} {ih : IH} (h4 : RSl e5 ih [] p2 c3 x1.f6) (hG : Glob 0 gl0 110 ih) (hw : St g w [F] ih) :
    CallsR Tryz.prog 13 #[.agg #[.int .u64 x1.f0, .int .i64 x1.f1, .int .u64 x1.f2, .int .i64 x1.f3, .int .u32 x1.f4, .int .u64 x1.f5, .slice p2 x1.f6.length c3]] w fun v w' => ∃ (ih' : IH), v = .int .i64 r ∧ St g w' [F] ih' ∧ Le ih ih' := by
  refine f_in (vs := [.agg #[.int .u64 x1.f0, .int .i64 x1.f1, .int .u64 x1.f2, .int .i64 x1.f3, .int .u32 x1.f4, .int .u64 x1.f5, .slice p2 x1.f6.length c3]]) Tryz.func13 rfl 5 rfl (by kernel_rfl) [(0, .agg #[.int .u64 x1.f0, .int .i64 x1.f1, .int .u64 x1.f2, .int .i64 x1.f3, .int .u32 x1.f4, .int .u64 x1.f5, .slice p2 x1.f6.length c3])] (by kernel_rfl) fun a Qf hQ hQn hs => ?_
  refine c_seq ?_
  refine c_region ?_
  refine s_new hs hw [.int .u64 x1.f0, .int .i64 x1.f1, .int .u64 x1.f2, .int .i64 x1.f3, .int .u32 x1.f4, .int .u64 x1.f5, .slice p2 x1.f6.length c3] 26 (fun b => .pointer (some ⟨b, 0, none⟩)) (by kernel_rfl) (fun _ => by kernel_rfl) fun a w b21 hs hw => ?_
  refine pures hs 1 [1] [(1, .pointer (some ⟨b21, 0, none⟩))] (by kernel_rfl) fun a hs => ?_
  refine s_end ?_
  refine c_seq ?_
  refine c_region ?_
  refine s_load hs (hw.at_ 0 rfl) 0 (by kernel_rfl) (by kernel_rfl) (v := .agg #[.int .u64 x1.f0, .int .i64 x1.f1, .int .u64 x1.f2, .int .i64 x1.f3, .int .u32 x1.f4, .int .u64 x1.f5, .slice p2 x1.f6.length c3]) (by kernel_rfl) fun a hs => ?_
  obtain ⟨y27, h28, hk⟩ := bindE hk
  refine s_call hs (by kernel_rfl) (by kernel_rfl) (update_check_s h28 h4 (hG.mono (Le.refl _)) ((hw.pick [1] (by kernel_rfl)).pack 0)) fun a w v hv hs => ?_
  obtain ⟨ih29, rfl, hw, hle30⟩ := hv
  replace hw := hw.unpack 0 rfl
  refine pures hs 1 [2] [(2, .int .i64 y27)] (by kernel_rfl) fun a hs => ?_
  refine s_end ?_
  refine c_ret ?_
  obtain rfl := someE hk
  refine hQ _ _ (f_ret1 hs rfl (v := .int .i64 y27) (by kernel_rfl) ⟨ih29, rfl, hw.pick [0] (by kernel_rfl), hle30⟩)
def window_Window_End_r2 (x3 : Int) (x5 : List M26) : Option Int :=
  some (IntKind.u64.wrap (x3 + (IntKind.u64.wrap ((x5.length : Int)))))
def window_Window_End (x3 : Int) (x5 : List M26) : Option Int :=
  window_Window_End_r2 x3 x5
theorem window_Window_End_s {x3 : Int} {x4 : Int} {x5 : List M26} {b2 : Nat} {p6 : Option Addr} {c7 : Nat} {d9 : Ch} {r : Int} (hk : window_Window_End x3 x5 = some r) {g w : World} {F : Ch} {ih : IH} (h8 : OSl e26 ih p6 c7 x5 d9) (hw : St g w [bx b2 [.int .u64 x3, .int .u64 x4, .slice p6 x5.length c7] 78, d9, F] ih) :
    CallsR Tryz.prog 25 #[.pointer (some ⟨b2, 0, none⟩)] w fun v w' => v = .int .u64 r ∧ St g w' [bx b2 [.int .u64 x3, .int .u64 x4, .slice p6 x5.length c7] 78, d9, F] ih := by
  refine f_in (vs := [.pointer (some ⟨b2, 0, none⟩)]) Tryz.func25 rfl 16 rfl (by kernel_rfl) [(0, .pointer (some ⟨b2, 0, none⟩))] (by kernel_rfl) fun a Qf hQ hQn hs => ?_
  refine c_seq ?_
  refine c_region ?_
  refine pures hs 1 [0] [(0, .pointer (some ⟨b2, 0, none⟩))] (by kernel_rfl) fun a hs => ?_
  refine s_end ?_
  refine c_seq ?_
  refine c_seq ?_
  refine c_region ?_
  refine pures hs 2 [0, 4] [(0, .pointer (some ⟨b2, 0, none⟩)), (4, .bool false)] (by kernel_rfl) fun a hs => ?_
  refine s_end ?_
  refine c_condF hs (by kernel_rfl) (by kernel_rfl) ?_
  refine c_skip ?_
  refine c_seq ?_
  obtain ⟨S17, hS17, kS17⟩ := mkSX (X := [([], bx b2 [.int .u64 x3, .int .u64 x4, .slice p6 x5.length c7] 78), ([], d9), ([], F)]) (ih := ih) (K := []) rfl
  obtain ⟨y18, hx19⟩ : ∃ y, (some () : Option Unit) = some y := ⟨_, rfl⟩
  obtain ⟨J20, hJ20⟩ : ∃ J : Act → World → Prop, ∀ a w, J a w ↔ (window_Window_End_r2 x3 x5 = some r ∧ Sees a 16 [(2, .int .u64 (IntKind.u64.wrap (x3 + (IntKind.u64.wrap ((x5.length : Int))))))] ∧ St g w [bx b2 [.int .u64 x3, .int .u64 x4, .slice p6 x5.length c7] 78, d9, F] ih) := ⟨_, fun _ _ => Iff.rfl⟩
  refine c_draw (by kernel_rfl) (N := 12) rfl S17 J20 ?_ ?_
  · have hw := hw.drew
    have hS : S17 (Array.replicate 12 false) _ := SX_now hS17 (hw.vws [0, 1, 2]) (by kernel_rfl)
    refine d_pures (fuel := 9) kS17 hs hS [0, 1, 2] [0, 5, 6, 7] [(0, .pointer (some ⟨b2, 0, none⟩)), (5, .pointer (some ⟨b2, 0, none⟩)), (6, .pointer (some ⟨b2, 0, none⟩)), (7, .pointer (some ⟨b2, 0, none⟩))] (by kernel_rfl) fun a hs hS => ?_
    refine d_load (fuel := 8) kS17 hs hS 3 rfl (by kernel_rfl) (SX_box hS17 0 rfl (by kernel_rfl)) 0 (by kernel_rfl) (by kernel_rfl) (v := .int .u64 x3) (by kernel_rfl) fun a hs hS => ?_
    refine d_pures (fuel := 5) kS17 hs hS [4, 5, 6] [0, 5, 6, 7, 8, 9, 10, 11] [(0, .pointer (some ⟨b2, 0, none⟩)), (5, .pointer (some ⟨b2, 0, none⟩)), (6, .pointer (some ⟨b2, 0, none⟩)), (7, .pointer (some ⟨b2, 0, none⟩)), (8, .int .u64 x3), (9, .pointer (some ⟨b2, 0, none⟩)), (10, .pointer (some ⟨b2, 0, none⟩)), (11, .pointer (some ⟨b2, 2, none⟩))] (by kernel_rfl) fun a hs hS => ?_
    refine d_load (fuel := 4) kS17 hs hS 7 rfl (by kernel_rfl) (SX_box hS17 0 rfl (by kernel_rfl)) 2 (by kernel_rfl) (by kernel_rfl) (v := .slice p6 x5.length c7) (by kernel_rfl) fun a hs hS => ?_
    refine d_pures (fuel := 0) kS17 hs hS [8, 9, 10, 11] [0, 5, 6, 7, 8, 9, 10, 11, 12, 13, 14, 15, 2] [(0, .pointer (some ⟨b2, 0, none⟩)), (5, .pointer (some ⟨b2, 0, none⟩)), (6, .pointer (some ⟨b2, 0, none⟩)), (7, .pointer (some ⟨b2, 0, none⟩)), (8, .int .u64 x3), (9, .pointer (some ⟨b2, 0, none⟩)), (10, .pointer (some ⟨b2, 0, none⟩)), (11, .pointer (some ⟨b2, 2, none⟩)), (12, .slice p6 x5.length c7), (13, .int .i64 (x5.length : Int)), (14, .int .u64 (IntKind.u64.wrap ((x5.length : Int)))), (15, .int .u64 (IntKind.u64.wrap (x3 + (IntKind.u64.wrap ((x5.length : Int)))))), (2, .int .u64 (IntKind.u64.wrap (x3 + (IntKind.u64.wrap ((x5.length : Int))))))] (by kernel_rfl) fun a hs hS => ?_
    refine d_done (by kernel_rfl) ?_
    obtain rfl := someE hx19
    exact (hJ20 _ _).2 ⟨hk, hs.cast [2] (by kernel_rfl), hw.pick [0, 1, 2] (by kernel_rfl)⟩
  intro a w hh
  obtain ⟨hk, hs, hw⟩ := (hJ20 _ _).1 hh
  refine c_ret ?_
  obtain rfl := someE hk
  refine hQ _ _ (f_ret1 hs rfl (v := .int .u64 (IntKind.u64.wrap (x3 + (IntKind.u64.wrap ((x5.length : Int)))))) (by kernel_rfl) ⟨rfl, hw.pick [0, 1, 2] (by kernel_rfl)⟩)
def update_Copy_1 : Option Bool :=
  some true
theorem update_Copy_1_s {x1 : M26} {p2 : Option Addr} {c3 : Nat} {r : Bool} (hk : update_Copy_1 = some r) {g w : World} {F : Ch} {ih : IH} (h4 : RSl e5 ih [] p2 c3 x1.f6) (hw : St g w [F] ih) :
    CallsR Tryz.prog 53 #[.agg #[.int .u64 x1.f0, .int .i64 x1.f1, .int .u64 x1.f2, .int .i64 x1.f3, .int .u32 x1.f4, .int .u64 x1.f5, .slice p2 x1.f6.length c3]] w fun v w' => v = .bool r ∧ St g w' [F] ih := by
  refine f_in (vs := [.agg #[.int .u64 x1.f0, .int .i64 x1.f1, .int .u64 x1.f2, .int .i64 x1.f3, .int .u32 x1.f4, .int .u64 x1.f5, .slice p2 x1.f6.length c3]]) Tryz.func53 rfl 3 rfl (by kernel_rfl) [(0, .agg #[.int .u64 x1.f0, .int .i64 x1.f1, .int .u64 x1.f2, .int .i64 x1.f3, .int .u32 x1.f4, .int .u64 x1.f5, .slice p2 x1.f6.length c3])] (by kernel_rfl) fun a Qf hQ hQn hs => ?_
  refine c_seq ?_
  refine c_region ?_
  refine s_new hs hw [.int .u64 x1.f0, .int .i64 x1.f1, .int .u64 x1.f2, .int .i64 x1.f3, .int .u32 x1.f4, .int .u64 x1.f5, .slice p2 x1.f6.length c3] 26 (fun b => .pointer (some ⟨b, 0, none⟩)) (by kernel_rfl) (fun _ => by kernel_rfl) fun a w b13 hs hw => ?_
  refine pures hs 1 [] [] (by kernel_rfl) fun a hs => ?_
  refine s_end ?_
  refine c_seq ?_
  refine c_region ?_
  refine pures hs 1 [2] [(2, .bool true)] (by kernel_rfl) fun a hs => ?_
  refine s_end ?_
  refine c_ret ?_
  obtain rfl := someE hk
  refine hQ _ _ (f_ret1 hs rfl (v := .bool true) (by kernel_rfl) ⟨rfl, hw.pick [1] (by kernel_rfl)⟩)
def bytes_Clone (x1 : List Int) : Option (List Int) :=
  (app [] x1).bind fun x => some x
theorem bytes_Clone_s {x1 : List Int} {p2 : Option Addr} {c3 : Nat} {d5 : Ch} {r : List Int} (hk : bytes_Clone x1 = some r) {g w : World} {F : Ch} {ih : IH} (h4 : RSl e5 ih d5 p2 c3 x1) (h6 : ∀ q ∈ d5, q ∈ F) (hw : St g w [F] ih) :
    CallsR Tryz.prog 42 #[.slice p2 x1.length c3] w fun v w' => ∃ (p : Option Addr) (c : Nat) (d : Ch), v = .slice p r.length c ∧ St g w' [d, F] ih ∧ OSl e5 ih p c r d := by
  rcases p2 with _ | q
  · obtain ⟨_, rfl, rfl⟩ := h4
    replace hk : some [] = some r := hk
    refine f_in (vs := [.slice none 0 0]) Tryz.func42 rfl 8 rfl (by kernel_rfl) [(0, .slice none 0 0)] (by kernel_rfl) fun a Qf hQ hQn hs => ?_
    refine c_seq ?_
    refine c_region ?_
    refine pures hs 1 [0] [(0, .slice none 0 0)] (by kernel_rfl) fun a hs => ?_
    refine s_end ?_
    refine c_seq ?_
    refine c_seq ?_
    refine c_region ?_
    refine pures hs 2 [0, 4] [(0, .slice none 0 0), (4, .bool true)] (by kernel_rfl) fun a hs => ?_
    refine s_end ?_
    refine c_condT hs (by kernel_rfl) (by kernel_rfl) ?_
    refine c_seq ?_
    refine c_region ?_
    refine pures hs 1 [2] [(2, .slice none 0 0)] (by kernel_rfl) fun a hs => ?_
    refine s_end ?_
    refine c_ret ?_
    replace hw := hw.nil
    obtain rfl := someE hk
    refine hQ _ _ (f_ret1 hs rfl (v := .slice none 0 0) (by kernel_rfl) ⟨none, 0, ([]), rfl, hw.pick [0, 1] (by kernel_rfl), (OSl.nil _ _)⟩)
  refine f_in (vs := [.slice (some q) x1.length c3]) Tryz.func42 rfl 8 rfl (by kernel_rfl) [(0, .slice (some q) x1.length c3)] (by kernel_rfl) fun a Qf hQ hQn hs => ?_
  refine c_seq ?_
  refine c_region ?_
  refine pures hs 1 [0] [(0, .slice (some q) x1.length c3)] (by kernel_rfl) fun a hs => ?_
  refine s_end ?_
  refine c_seq ?_
  refine c_seq ?_
  refine c_region ?_
  refine pures hs 2 [0, 4] [(0, .slice (some q) x1.length c3), (4, .bool false)] (by kernel_rfl) fun a hs => ?_
  refine s_end ?_
  refine c_condF hs (by kernel_rfl) (by kernel_rfl) ?_
  refine c_skip ?_
  refine c_seq ?_
  refine c_region ?_
  refine s_new hs hw [] 5 (fun b => .slice (some ⟨b, 0, none⟩) 0 0) (by kernel_rfl) (fun _ => by kernel_rfl) fun a w b18 hs hw => ?_
  refine pures hs 1 [5, 6] [(5, .slice (some ⟨b18, 0, none⟩) 0 0), (6, .slice (some q) x1.length c3)] (by kernel_rfl) fun a hs => ?_
  obtain ⟨x20, h21, hk⟩ := bindE hk
  refine s_appS hs hw (E := e5) appT24 0 rfl OSl.of0 (by kernel_rfl) (by kernel_rfl) (h4.mono (Le.refl _)) (((hw.vw 1 rfl).sub h6).anti (Le.refl _)) (by kernel_rfl) h21 fun a w p22 c23 d24 h25 hw hs => ?_
  refine pures hs 1 [2] [(2, .slice p22 x20.length c23)] (by kernel_rfl) fun a hs => ?_
  refine s_end ?_
  refine c_ret ?_
  obtain rfl := someE hk
  refine hQ _ _ (f_ret1 hs rfl (v := .slice p22 x20.length c23) (by kernel_rfl) ⟨p22, c23, d24, rfl, hw.pick [0, 1] (by kernel_rfl), h25⟩)
def update_pick_r10 (x999 : List M26) : Option (List M26) :=
  some x999
def update_pick_r12 (rec_update_pick_l11 : (List M26) → Int → Option (List M26)) (x865 : Int) (x1071 : List M26) : Option (List M26) :=
  rec_update_pick_l11 x1071 (IntKind.i64.wrap (x865 + 1))
def update_pick_l11 (x1 : List M26) : Nat → (List M26) → Int → Option (List M26)
  | 0, _, _ => none
  | j + 1, x859, x865 =>
    if (decide (x865 < (x1.length : Int))) = true then (
      ((ix x1 x865).bind fun x1089 =>
        (update_Copy_1).bind fun y1100 =>
        if y1100 = true then (
          (bytes_Clone x1089.f6).bind fun y1110 =>
          (app x859 [(M26.mk x1089.f0 x1089.f1 x1089.f2 x1089.f3 x1089.f4 x1089.f5 y1110)]).bind fun x1133 =>
          some x1133)
        else some x859 : Option (List M26)).bind fun s1139 => update_pick_r12 (update_pick_l11 x1 j) x865 s1139)
    else some x859
def update_pick (k : Nat) (x1 : List M26) : Option (List M26) :=
  (update_pick_l11 x1 k ([]) 0 : Option (List M26)).bind fun s1142 => update_pick_r10 s1142
theorem update_pick_s {k : Nat} {x1 : List M26} {p2 : Option Addr} {c3 : Nat} {d5 : Ch} {r : (List M26)} (hk : update_pick k x1 = some r) {g w : World} {F : Ch} {ih : IH} (h4 : RSl e26 ih d5 p2 c3 x1) (h6 : ∀ q ∈ d5, q ∈ F) (hw : St g w [F] ih) :
    CallsR Tryz.prog 52 #[.slice p2 x1.length c3, .func (.func 53) #[] #[]] w fun v w' => ∃ (ih' : IH) (p1143 : Option Addr) (c1144 : Nat) (d1146 : Ch), v = .slice p1143 r.length c1144 ∧ St g w' [d1146, F] ih' ∧ Le ih ih' ∧ OSl e26 ih' p1143 c1144 r d1146 := by
  refine f_in (vs := [.slice p2 x1.length c3, .func (.func 53) #[] #[]]) Tryz.func52 rfl 27 rfl (by kernel_rfl) [(0, .slice p2 x1.length c3), (1, .func (.func 53) #[] #[])] (by kernel_rfl) fun a Qf hQ hQn hs => ?_
  refine c_seq ?_
  refine c_region ?_
  refine pures hs 1 [0, 1] [(0, .slice p2 x1.length c3), (1, .func (.func 53) #[] #[])] (by kernel_rfl) fun a hs => ?_
  refine s_end ?_
  refine c_seq ?_
  refine c_region ?_
  refine pures hs 1 [0, 1, 5] [(0, .slice p2 x1.length c3), (1, .func (.func 53) #[] #[]), (5, .slice none 0 0)] (by kernel_rfl) fun a hs => ?_
  refine s_end ?_
  refine c_seq ?_
  refine c_seq ?_
  refine c_region ?_
  refine pures hs 3 [1, 5, 8, 9, 10] [(1, .func (.func 53) #[] #[]), (5, .slice none 0 0), (8, .slice p2 x1.length c3), (9, .int .i64 (x1.length : Int)), (10, .int .i64 0)] (by kernel_rfl) fun a hs => ?_
  refine s_end ?_
  refine c_block ?_
  obtain ⟨y1005, hx1006, hk⟩ := bindE hk
  replace hw := hw.nil
  obtain ⟨J1007, hJ1007⟩ : ∃ J : Act → World → Prop, ∀ a w, J a w ↔ (∃ (x999 : List M26) (p1000 : Option Addr) (c1001 : Nat) (d1003 : Ch) (ih997 : IH), update_pick_r10 x999 = some r ∧ Sees a 27 [(5, .slice p1000 x999.length c1001)] ∧ St g w [d1003, F] ih997 ∧ Le ih ih997 ∧ OSl e26 ih997 p1000 c1001 x999 d1003) := ⟨_, fun _ _ => Iff.rfl⟩
  obtain ⟨I1008, hI1008⟩ : ∃ J : Nat → Act → World → Prop, ∀ j a w, J j a w ↔ (∃ (x859 : List M26) (x865 : Int) (p860 : Option Addr) (c861 : Nat) (d863 : Ch) (ih857 : IH), update_pick_l11 x1 j x859 x865 = some y1005 ∧ Sees a 27 [(1, .func (.func 53) #[] #[]), (5, .slice p860 x859.length c861), (8, .slice p2 x1.length c3), (9, .int .i64 (x1.length : Int)), (10, .int .i64 x865)] ∧ St g w [d863, F] ih857 ∧ Le ih ih857 ∧ OSl e26 ih857 p860 c861 x859 d863) := ⟨_, fun _ _ _ => Iff.rfl⟩
  refine c_exitJ 0 J1007 ?_ ?_
  · refine c_loop I1008 k ((hI1008 _ _ _).2 ⟨([]), 0, none, 0, ([]), ih, hx1006, hs.cast [1, 5, 8, 9, 10] (by kernel_rfl), hw.pick [0, 1] (by kernel_rfl), (Le.refl _), (OSl.nil _ _)⟩) (fun a w h0 => ?_) fun j a w hh => ?_
    · obtain ⟨_, _, _, _, _, _, h, _⟩ := (hI1008 _ _ _).1 h0
      cases h
    obtain ⟨x859, x865, p860, c861, d863, ih857, hx1006, hs, hw, hle858, h862⟩ := (hI1008 _ _ _).1 hh
    refine c_seq ?_
    refine c_region ?_
    refine pures hs 1 [1, 5, 8, 9, 10, 11] [(1, .func (.func 53) #[] #[]), (5, .slice p860 x859.length c861), (8, .slice p2 x1.length c3), (9, .int .i64 (x1.length : Int)), (10, .int .i64 x865), (11, .bool (decide (x865 < (x1.length : Int))))] (by kernel_rfl) fun a hs => ?_
    refine s_end ?_
    refine c_seq ?_
    rcases ifbE hx1006 with ⟨h1009, hx1006⟩ | ⟨h1009, hx1006⟩
    · refine c_cond1 hs (by kernel_rfl) (t := (decide (x865 < (x1.length : Int)))) (by kernel_rfl) h1009 ?_
      refine c_skip ?_
      obtain ⟨y1077, hx1078, hx1006⟩ := bindE hx1006
      obtain ⟨J1079, hJ1079⟩ : ∃ J : Act → World → Prop, ∀ a w, J a w ↔ (∃ (x1071 : List M26) (p1072 : Option Addr) (c1073 : Nat) (d1075 : Ch) (ih1069 : IH), update_pick_r12 (update_pick_l11 x1 j) x865 x1071 = some y1005 ∧ Sees a 27 [(1, .func (.func 53) #[] #[]), (8, .slice p2 x1.length c3), (9, .int .i64 (x1.length : Int)), (10, .int .i64 x865), (5, .slice p1072 x1071.length c1073)] ∧ St g w [d1075, F] ih1069 ∧ Le ih857 ih1069 ∧ OSl e26 ih1069 p1072 c1073 x1071 d1075) := ⟨_, fun _ _ => Iff.rfl⟩
      refine c_seqJ J1079 ?_ ?_
      · refine c_block ?_
        refine c_seq ?_
        refine c_region ?_
        obtain ⟨x1089, h1090, hx1078⟩ := bindE hx1078
        refine s_index hs h4 (by kernel_rfl) (by kernel_rfl) (k := .i64) (by kernel_rfl) 26 (by kernel_rfl) (by kernel_rfl) h1090 fun a r1091 cs henc at1092 hs => ?_
        obtain ⟨p1093, c1094, rfl, h1095⟩ := henc
        refine s_load hs (at1092 _ (((hw.vw 1 rfl).sub h6).anti hle858)) 0 (by kernel_rfl) (by kernel_rfl) (v := .agg #[.int .u64 x1089.f0, .int .i64 x1089.f1, .int .u64 x1089.f2, .int .i64 x1089.f3, .int .u32 x1089.f4, .int .u64 x1089.f5, .slice p1093 x1089.f6.length c1094]) (by kernel_rfl) fun a hs => ?_
        refine s_new hs hw [.int .u64 0, .int .i64 0, .int .u64 0, .int .i64 0, .int .u32 0, .int .u64 0, .slice none 0 0] 26 (fun b => .pointer (some ⟨b, 0, none⟩)) (by kernel_rfl) (fun _ => by kernel_rfl) fun a w b1096 hs hw => ?_
        refine s_store hs hw 0 rfl 0 (by kernel_rfl) (by kernel_rfl) (v := .agg #[.int .u64 x1089.f0, .int .i64 x1089.f1, .int .u64 x1089.f2, .int .i64 x1089.f3, .int .u32 x1089.f4, .int .u64 x1089.f5, .slice p1093 x1089.f6.length c1094]) (by kernel_rfl) (by kernel_rfl) (by kernel_rfl) (by kernel_rfl) fun a w hs hw => ?_
        refine s_end ?_
        refine c_seq ?_
        refine c_region ?_
        refine pures hs 1 [1, 5, 8, 9, 10, 7, 14] [(1, .func (.func 53) #[] #[]), (5, .slice p860 x859.length c861), (8, .slice p2 x1.length c3), (9, .int .i64 (x1.length : Int)), (10, .int .i64 x865), (7, .pointer (some ⟨b1096, 0, none⟩)), (14, .func (.func 53) #[] #[])] (by kernel_rfl) fun a hs => ?_
        refine s_load hs (hw.at_ 0 rfl) 0 (by kernel_rfl) (by kernel_rfl) (v := .agg #[.int .u64 x1089.f0, .int .i64 x1089.f1, .int .u64 x1089.f2, .int .i64 x1089.f3, .int .u32 x1089.f4, .int .u64 x1089.f5, .slice p1093 x1089.f6.length c1094]) (by kernel_rfl) fun a hs => ?_
        obtain ⟨y1100, h1101, hx1078⟩ := bindE hx1078
        refine s_call hs (by kernel_rfl) (by kernel_rfl) (update_Copy_1_s (x1 := x1089) h1101 (h1095.mono hle858) ((hw.pick [0, 1, 2] (by kernel_rfl)).pack 0)) fun a w v hv hs => ?_
        obtain ⟨rfl, hw⟩ := hv
        replace hw := hw.unpack 0 rfl
        refine s_end ?_
        rcases ifbE hx1078 with ⟨h1102, hx1078⟩ | ⟨h1102, hx1078⟩
        · refine c_cond1 hs (by kernel_rfl) (t := y1100) (by kernel_rfl) h1102 ?_
          refine c_seq ?_
          refine c_region ?_
          refine pures hs 1 [1, 5, 8, 9, 10, 7, 17] [(1, .func (.func 53) #[] #[]), (5, .slice p860 x859.length c861), (8, .slice p2 x1.length c3), (9, .int .i64 (x1.length : Int)), (10, .int .i64 x865), (7, .pointer (some ⟨b1096, 0, none⟩)), (17, .pointer (some ⟨b1096, 6, none⟩))] (by kernel_rfl) fun a hs => ?_
          refine s_load hs (hw.at_ 0 rfl) 6 (by kernel_rfl) (by kernel_rfl) (v := .slice p1093 x1089.f6.length c1094) (by kernel_rfl) fun a hs => ?_
          obtain ⟨y1110, h1111, hx1078⟩ := bindE hx1078
          refine s_call hs (by kernel_rfl) (by kernel_rfl) (bytes_Clone_s h1111 (h1095.mono hle858) (nilSub _) ((hw.pick [0, 1, 2] (by kernel_rfl)).pack 0)) fun a w v hv hs => ?_
          obtain ⟨p1112, c1113, d1115, rfl, hw, h1114⟩ := hv
          replace hw := hw.unpack 1 rfl
          refine pures hs 1 [1, 5, 8, 9, 10, 7, 19, 20] [(1, .func (.func 53) #[] #[]), (5, .slice p860 x859.length c861), (8, .slice p2 x1.length c3), (9, .int .i64 (x1.length : Int)), (10, .int .i64 x865), (7, .pointer (some ⟨b1096, 0, none⟩)), (19, .slice p1112 y1110.length c1113), (20, .pointer (some ⟨b1096, 6, none⟩))] (by kernel_rfl) fun a hs => ?_
          refine s_store hs hw 1 rfl 6 (by kernel_rfl) (by kernel_rfl) (v := .slice p1112 y1110.length c1113) (by kernel_rfl) (by kernel_rfl) (by kernel_rfl) (by kernel_rfl) fun a w hs hw => ?_
          refine s_end ?_
          refine c_region ?_
          refine pures hs 1 [1, 8, 9, 10, 7, 21] [(1, .func (.func 53) #[] #[]), (8, .slice p2 x1.length c3), (9, .int .i64 (x1.length : Int)), (10, .int .i64 x865), (7, .pointer (some ⟨b1096, 0, none⟩)), (21, .slice p860 x859.length c861)] (by kernel_rfl) fun a hs => ?_
          refine s_load hs (hw.at_ 1 rfl) 0 (by kernel_rfl) (by kernel_rfl) (v := .agg #[.int .u64 x1089.f0, .int .i64 x1089.f1, .int .u64 x1089.f2, .int .i64 x1089.f3, .int .u32 x1089.f4, .int .u64 x1089.f5, .slice p1112 y1110.length c1113]) (by kernel_rfl) fun a hs => ?_
          obtain ⟨ih1128, hle1129, hw, h1130⟩ := (hw.pick [0, 1, 2, 3] (by kernel_rfl)).fz (h1114.mono (Le.refl _))
          refine s_new hs hw [.int .u64 x1089.f0, .int .i64 x1089.f1, .int .u64 x1089.f2, .int .i64 x1089.f3, .int .u32 x1089.f4, .int .u64 x1089.f5, .slice p1112 y1110.length c1113] 26 (fun b => .slice (some ⟨b, 0, none⟩) 1 1) (by kernel_rfl) (fun _ => by kernel_rfl) fun a w b1131 hs hw => ?_
          obtain ⟨x1133, h1134, hx1078⟩ := bindE hx1078
          refine s_app1 hs hw (E := e26) appT28 2 rfl (h862.mono hle1129) (by kernel_rfl) (by kernel_rfl) (c2 := 1) (by kernel_rfl) (hw.at_ 0 rfl) (z := (M26.mk x1089.f0 x1089.f1 x1089.f2 x1089.f3 x1089.f4 x1089.f5 y1110)) ⟨p1112, c1113, rfl, h1130⟩ h1134 fun a w p1135 c1136 d1137 h1138 hw hs => ?_
          refine pures hs 1 [1, 8, 9, 10, 5] [(1, .func (.func 53) #[] #[]), (8, .slice p2 x1.length c3), (9, .int .i64 (x1.length : Int)), (10, .int .i64 x865), (5, .slice p1135 x1133.length c1136)] (by kernel_rfl) fun a hs => ?_
          refine s_end ?_
          obtain rfl := someE hx1078
          exact (hJ1079 _ _).2 ⟨x1133, p1135, c1136, d1137, ih1128, hx1006, hs.cast [1, 8, 9, 10, 5] (by kernel_rfl), hw.pick [2, 3] (by kernel_rfl), hle1129, h1138⟩
        refine c_cond0 hs (by kernel_rfl) (t := y1100) (by kernel_rfl) h1102 ?_
        refine c_skip ?_
        obtain rfl := someE hx1078
        exact (hJ1079 _ _).2 ⟨x859, p860, c861, d863, ih857, hx1006, hs.cast [1, 8, 9, 10, 5] (by kernel_rfl), hw.pick [1, 2] (by kernel_rfl), (Le.refl _), h862⟩
      intro a w hh
      obtain ⟨x1071, p1072, c1073, d1075, ih1069, hx1006, hs, hw, hle1070, h1074⟩ := (hJ1079 _ _).1 hh
      refine c_region ?_
      refine pures hs 2 [1, 8, 9, 10, 5] [(1, .func (.func 53) #[] #[]), (8, .slice p2 x1.length c3), (9, .int .i64 (x1.length : Int)), (10, .int .i64 (IntKind.i64.wrap (x865 + 1))), (5, .slice p1072 x1071.length c1073)] (by kernel_rfl) fun a hs => ?_
      refine s_end ?_
      exact (hI1008 _ _ _).2 ⟨x1071, (IntKind.i64.wrap (x865 + 1)), p1072, c1073, d1075, ih1069, hx1006, hs.cast [1, 5, 8, 9, 10] (by kernel_rfl), hw.pick [0, 1] (by kernel_rfl), (hle858.trans hle1070), h1074⟩
    refine c_cond0 hs (by kernel_rfl) (t := (decide (x865 < (x1.length : Int)))) (by kernel_rfl) h1009 ?_
    refine c_exit ?_
    obtain rfl := someE hx1006
    exact (hJ1007 _ _).2 ⟨x859, p860, c861, d863, ih857, hk, hs.cast [5] (by kernel_rfl), hw.pick [0, 1] (by kernel_rfl), hle858, h862⟩
  intro a w hh
  obtain ⟨x999, p1000, c1001, d1003, ih997, hk, hs, hw, hle998, h1002⟩ := (hJ1007 _ _).1 hh
  refine c_seq ?_
  refine c_region ?_
  refine pures hs 2 [4] [(4, .slice p1000 x999.length c1001)] (by kernel_rfl) fun a hs => ?_
  refine s_end ?_
  refine c_ret ?_
  obtain rfl := someE hk
  refine hQ _ _ (f_ret1 hs rfl (v := .slice p1000 x999.length c1001) (by kernel_rfl) ⟨ih997, p1000, c1001, d1003, rfl, hw.pick [0, 1] (by kernel_rfl), hle998, h1002⟩)
def update_Copy (k : Nat) (x1 : List M26) : Option (List M26) :=
  (update_pick k x1).bind fun y36 =>
  some y36
theorem update_Copy_s {k : Nat} {x1 : List M26} {p2 : Option Addr} {c3 : Nat} {d5 : Ch} {r : (List M26)} (hk : update_Copy k x1 = some r) {g w : World} {F : Ch} {ih : IH} (h4 : RSl e26 ih d5 p2 c3 x1) (h6 : ∀ q ∈ d5, q ∈ F) (hw : St g w [F] ih) :
    CallsR Tryz.prog 46 #[.slice p2 x1.length c3] w fun v w' => ∃ (ih' : IH) (p45 : Option Addr) (c46 : Nat) (d48 : Ch), v = .slice p45 r.length c46 ∧ St g w' [d48, F] ih' ∧ Le ih ih' ∧ OSl e26 ih' p45 c46 r d48 := by
  refine f_in (vs := [.slice p2 x1.length c3]) Tryz.func46 rfl 5 rfl (by kernel_rfl) [(0, .slice p2 x1.length c3)] (by kernel_rfl) fun a Qf hQ hQn hs => ?_
  refine c_seq ?_
  refine c_region ?_
  refine pures hs 1 [0] [(0, .slice p2 x1.length c3)] (by kernel_rfl) fun a hs => ?_
  refine s_end ?_
  refine c_seq ?_
  refine c_region ?_
  refine pures hs 1 [3] [(3, .slice p2 x1.length c3)] (by kernel_rfl) fun a hs => ?_
  obtain ⟨y36, h37, hk⟩ := bindE hk
  refine s_call hs (by kernel_rfl) (by kernel_rfl) (update_pick_s h37 h4 (fun q hq => memF 0 rfl q (h6 q hq)) ((hw.pick [0] (by kernel_rfl)).pack 0)) fun a w v hv hs => ?_
  obtain ⟨ih38, p40, c41, d43, rfl, hw, hle39, h42⟩ := hv
  replace hw := hw.unpack 1 rfl
  refine pures hs 1 [2] [(2, .slice p40 y36.length c41)] (by kernel_rfl) fun a hs => ?_
  refine s_end ?_
  refine c_ret ?_
  obtain rfl := someE hk
  refine hQ _ _ (f_ret1 hs rfl (v := .slice p40 y36.length c41) (by kernel_rfl) ⟨ih38, p40, c41, d43, rfl, hw.pick [0, 1] (by kernel_rfl), hle39, h42⟩)
def window_Window_trim_r3 (y74 : Int) (x4 : Int) (x3 : Int) (x105 : List M26) : Option (Int × (List M26)) :=
  some ((if (if (IntKind.u64.wrap (y74 - 32)) < x4 then (IntKind.u64.wrap (y74 - 32)) else x4) > x3 then (if (IntKind.u64.wrap (y74 - 32)) < x4 then (IntKind.u64.wrap (y74 - 32)) else x4) else x3), x105)
def window_Window_trim_r4 (x5 : List M26) (y74 : Int) (x4 : Int) (x3 : Int) : Option (Int × (List M26)) :=
  ((sl x5 (IntKind.i64.wrap (IntKind.u64.wrap ((if (if (IntKind.u64.wrap (y74 - 32)) < x4 then (IntKind.u64.wrap (y74 - 32)) else x4) > x3 then (if (IntKind.u64.wrap (y74 - 32)) < x4 then (IntKind.u64.wrap (y74 - 32)) else x4) else x3) - x3))) (x5.length : Int)).bind fun x114 =>
    (app ([]) x114).bind fun x121 =>
    some x121 : Option (List M26)).bind fun s127 => window_Window_trim_r3 y74 x4 x3 s127
def window_Window_trim (x3 : Int) (x4 : Int) (x5 : List M26) : Option (Int × (List M26)) :=
  (window_Window_End x3 x5).bind fun y74 =>
  if (decide (y74 < 32)) = true then some (x3, x5)
  else window_Window_trim_r4 x5 y74 x4 x3
theorem window_Window_trim_s {x3 : Int} {x4 : Int} {x5 : List M26} {b2 : Nat} {p6 : Option Addr} {c7 : Nat} {d9 : Ch} {r : Int × (List M26)} (hk : window_Window_trim x3 x4 x5 = some r) {g w : World} {F : Ch} {ih : IH} (h8 : OSl e26 ih p6 c7 x5 d9) (hw : St g w [bx b2 [.int .u64 x3, .int .u64 x4, .slice p6 x5.length c7] 78, d9, F] ih) :
    CallsR Tryz.prog 47 #[.pointer (some ⟨b2, 0, none⟩)] w fun v w' => ∃ (p131 : Option Addr) (c132 : Nat) (d133 : Ch), v = .tuple #[] ∧ St g w' [bx b2 [.int .u64 r.1, .int .u64 x4, .slice p131 r.2.length c132] 78, d133, F] ih ∧ OSl e26 ih p131 c132 r.2 d133 := by
  refine f_in (vs := [.pointer (some ⟨b2, 0, none⟩)]) Tryz.func47 rfl 52 rfl (by kernel_rfl) [(0, .pointer (some ⟨b2, 0, none⟩))] (by kernel_rfl) fun a Qf hQ hQn hs => ?_
  refine c_seq ?_
  refine c_region ?_
  refine pures hs 1 [0, 5] [(0, .pointer (some ⟨b2, 0, none⟩)), (5, .pointer (some ⟨b2, 0, none⟩))] (by kernel_rfl) fun a hs => ?_
  obtain ⟨y74, h75, hk⟩ := bindE hk
  refine s_call hs (by kernel_rfl) (by kernel_rfl) (window_Window_End_s (x4 := x4) h75 h8 ((hw.pick [0, 1, 2] (by kernel_rfl)).pack 2)) fun a w v hv hs => ?_
  obtain ⟨rfl, hw⟩ := hv
  replace hw := hw.unpack 2 rfl
  refine pures hs 1 [0, 2] [(0, .pointer (some ⟨b2, 0, none⟩)), (2, .int .u64 y74)] (by kernel_rfl) fun a hs => ?_
  refine s_end ?_
  refine c_seq ?_
  refine c_seq ?_
  refine c_region ?_
  refine pures hs 2 [0, 2, 8] [(0, .pointer (some ⟨b2, 0, none⟩)), (2, .int .u64 y74), (8, .bool (decide (y74 < 32)))] (by kernel_rfl) fun a hs => ?_
  refine s_end ?_
  rcases ifbE hk with ⟨h76, hk⟩ | ⟨h76, hk⟩
  · refine c_cond1 hs (by kernel_rfl) (t := (decide (y74 < 32))) (by kernel_rfl) h76 ?_
    refine c_ret ?_
    obtain rfl := someE hk
    refine hQ _ _ (f_retN hs [] rfl [] (by kernel_rfl) (by kernel_rfl) ⟨p6, c7, d9, rfl, hw.pick [0, 1, 2] (by kernel_rfl), h8⟩)
  refine c_cond0 hs (by kernel_rfl) (t := (decide (y74 < 32))) (by kernel_rfl) h76 ?_
  refine c_skip ?_
  refine c_seq ?_
  obtain ⟨S77, hS77, kS77⟩ := mkSX (X := [([], bx b2 [.int .u64 x3, .int .u64 x4, .slice p6 x5.length c7] 78), ([], d9), ([], F)]) (ih := ih) (K := []) rfl
  obtain ⟨y128, hx129⟩ : ∃ y, (some () : Option Unit) = some y := ⟨_, rfl⟩
  obtain ⟨J130, hJ130⟩ : ∃ J : Act → World → Prop, ∀ a w, J a w ↔ (window_Window_trim_r4 x5 y74 x4 x3 = some r ∧ Sees a 52 [(0, .pointer (some ⟨b2, 0, none⟩)), (3, .int .u64 (if (if (IntKind.u64.wrap (y74 - 32)) < x4 then (IntKind.u64.wrap (y74 - 32)) else x4) > x3 then (if (IntKind.u64.wrap (y74 - 32)) < x4 then (IntKind.u64.wrap (y74 - 32)) else x4) else x3))] ∧ St g w [bx b2 [.int .u64 x3, .int .u64 x4, .slice p6 x5.length c7] 78, d9, F] ih) := ⟨_, fun _ _ => Iff.rfl⟩
  refine c_draw (by kernel_rfl) (N := 13) rfl S77 J130 ?_ ?_
  · have hw := hw.drew
    have hS : S77 (Array.replicate 13 false) _ := SX_now hS77 (hw.vws [0, 1, 2]) (by kernel_rfl)
    refine d_pures (fuel := 10) kS77 hs hS [0, 1, 2] [0, 2, 9, 10, 11] [(0, .pointer (some ⟨b2, 0, none⟩)), (2, .int .u64 y74), (9, .pointer (some ⟨b2, 0, none⟩)), (10, .pointer (some ⟨b2, 0, none⟩)), (11, .pointer (some ⟨b2, 0, none⟩))] (by kernel_rfl) fun a hs hS => ?_
    refine d_load (fuel := 9) kS77 hs hS 3 rfl (by kernel_rfl) (SX_box hS77 0 rfl (by kernel_rfl)) 0 (by kernel_rfl) (by kernel_rfl) (v := .int .u64 x3) (by kernel_rfl) fun a hs hS => ?_
    refine d_pures (fuel := 6) kS77 hs hS [4, 5, 6] [0, 2, 9, 10, 11, 12, 13, 14, 15] [(0, .pointer (some ⟨b2, 0, none⟩)), (2, .int .u64 y74), (9, .pointer (some ⟨b2, 0, none⟩)), (10, .pointer (some ⟨b2, 0, none⟩)), (11, .pointer (some ⟨b2, 0, none⟩)), (12, .int .u64 x3), (13, .pointer (some ⟨b2, 0, none⟩)), (14, .pointer (some ⟨b2, 0, none⟩)), (15, .pointer (some ⟨b2, 1, none⟩))] (by kernel_rfl) fun a hs hS => ?_
    refine d_load (fuel := 5) kS77 hs hS 7 rfl (by kernel_rfl) (SX_box hS77 0 rfl (by kernel_rfl)) 1 (by kernel_rfl) (by kernel_rfl) (v := .int .u64 x4) (by kernel_rfl) fun a hs hS => ?_
    refine d_pures (fuel := 0) kS77 hs hS [8, 9, 10, 11, 12] [0, 2, 9, 10, 11, 12, 13, 14, 15, 16, 17, 18, 19, 20, 3] [(0, .pointer (some ⟨b2, 0, none⟩)), (2, .int .u64 y74), (9, .pointer (some ⟨b2, 0, none⟩)), (10, .pointer (some ⟨b2, 0, none⟩)), (11, .pointer (some ⟨b2, 0, none⟩)), (12, .int .u64 x3), (13, .pointer (some ⟨b2, 0, none⟩)), (14, .pointer (some ⟨b2, 0, none⟩)), (15, .pointer (some ⟨b2, 1, none⟩)), (16, .int .u64 x4), (17, .int .u64 y74), (18, .int .u64 (IntKind.u64.wrap (y74 - 32))), (19, .int .u64 (if (IntKind.u64.wrap (y74 - 32)) < x4 then (IntKind.u64.wrap (y74 - 32)) else x4)), (20, .int .u64 (if (if (IntKind.u64.wrap (y74 - 32)) < x4 then (IntKind.u64.wrap (y74 - 32)) else x4) > x3 then (if (IntKind.u64.wrap (y74 - 32)) < x4 then (IntKind.u64.wrap (y74 - 32)) else x4) else x3)), (3, .int .u64 (if (if (IntKind.u64.wrap (y74 - 32)) < x4 then (IntKind.u64.wrap (y74 - 32)) else x4) > x3 then (if (IntKind.u64.wrap (y74 - 32)) < x4 then (IntKind.u64.wrap (y74 - 32)) else x4) else x3))] (by kernel_rfl) fun a hs hS => ?_
    refine d_done (by kernel_rfl) ?_
    obtain rfl := someE hx129
    exact (hJ130 _ _).2 ⟨hk, hs.cast [0, 3] (by kernel_rfl), hw.pick [0, 1, 2] (by kernel_rfl)⟩
  intro a w hh
  obtain ⟨hk, hs, hw⟩ := (hJ130 _ _).1 hh
  refine c_seq ?_
  refine c_region ?_
  refine pures hs 4 [0, 3, 21, 24] [(0, .pointer (some ⟨b2, 0, none⟩)), (3, .int .u64 (if (if (IntKind.u64.wrap (y74 - 32)) < x4 then (IntKind.u64.wrap (y74 - 32)) else x4) > x3 then (if (IntKind.u64.wrap (y74 - 32)) < x4 then (IntKind.u64.wrap (y74 - 32)) else x4) else x3)), (21, .int .u64 (if (if (IntKind.u64.wrap (y74 - 32)) < x4 then (IntKind.u64.wrap (y74 - 32)) else x4) > x3 then (if (IntKind.u64.wrap (y74 - 32)) < x4 then (IntKind.u64.wrap (y74 - 32)) else x4) else x3)), (24, .pointer (some ⟨b2, 0, none⟩))] (by kernel_rfl) fun a hs => ?_
  refine s_load hs (hw.at_ 0 rfl) 0 (by kernel_rfl) (by kernel_rfl) (v := .int .u64 x3) (by kernel_rfl) fun a hs => ?_
  refine pures hs 3 [0, 3, 4] [(0, .pointer (some ⟨b2, 0, none⟩)), (3, .int .u64 (if (if (IntKind.u64.wrap (y74 - 32)) < x4 then (IntKind.u64.wrap (y74 - 32)) else x4) > x3 then (if (IntKind.u64.wrap (y74 - 32)) < x4 then (IntKind.u64.wrap (y74 - 32)) else x4) else x3)), (4, .int .i64 (IntKind.i64.wrap (IntKind.u64.wrap ((if (if (IntKind.u64.wrap (y74 - 32)) < x4 then (IntKind.u64.wrap (y74 - 32)) else x4) > x3 then (if (IntKind.u64.wrap (y74 - 32)) < x4 then (IntKind.u64.wrap (y74 - 32)) else x4) else x3) - x3))))] (by kernel_rfl) fun a hs => ?_
  refine s_end ?_
  refine c_seq ?_
  obtain ⟨S78, hS78, kS78⟩ := mkSX (X := [([20], bx b2 [.int .u64 x3, .int .u64 x4, .slice p6 x5.length c7] 78), ([], d9), ([], F)]) (ih := ih) (K := [20]) rfl
  obtain ⟨y111, hx112, hk⟩ := bindE hk
  obtain ⟨J113, hJ113⟩ : ∃ J : Act → World → Prop, ∀ a w, J a w ↔ (∃ (x105 : List M26) (p106 : Option Addr) (c107 : Nat) (d109 : Ch), window_Window_trim_r3 y74 x4 x3 x105 = some r ∧ Sees a 52 [(0, .pointer (some ⟨b2, 0, none⟩)), (3, .int .u64 (if (if (IntKind.u64.wrap (y74 - 32)) < x4 then (IntKind.u64.wrap (y74 - 32)) else x4) > x3 then (if (IntKind.u64.wrap (y74 - 32)) < x4 then (IntKind.u64.wrap (y74 - 32)) else x4) else x3))] ∧ St g w [bx b2 [.int .u64 x3, .int .u64 x4, .slice p106 x105.length c107] 78, d109, F] ih ∧ OSl e26 ih p106 c107 x105 d109) := ⟨_, fun _ _ => Iff.rfl⟩
  refine c_draw (by kernel_rfl) (N := 21) rfl S78 J113 ?_ ?_
  · have hw := hw.drew
    have hS : S78 (Array.replicate 21 false) _ := SX_now hS78 (hw.vws [0, 1, 2]) (by kernel_rfl)
    refine d_pures (fuel := 17) kS78 hs hS [0, 1, 2, 3] [0, 3, 4, 28, 29, 30, 31] [(0, .pointer (some ⟨b2, 0, none⟩)), (3, .int .u64 (if (if (IntKind.u64.wrap (y74 - 32)) < x4 then (IntKind.u64.wrap (y74 - 32)) else x4) > x3 then (if (IntKind.u64.wrap (y74 - 32)) < x4 then (IntKind.u64.wrap (y74 - 32)) else x4) else x3)), (4, .int .i64 (IntKind.i64.wrap (IntKind.u64.wrap ((if (if (IntKind.u64.wrap (y74 - 32)) < x4 then (IntKind.u64.wrap (y74 - 32)) else x4) > x3 then (if (IntKind.u64.wrap (y74 - 32)) < x4 then (IntKind.u64.wrap (y74 - 32)) else x4) else x3) - x3)))), (28, .pointer (some ⟨b2, 0, none⟩)), (29, .pointer (some ⟨b2, 0, none⟩)), (30, .pointer (some ⟨b2, 0, none⟩)), (31, .pointer (some ⟨b2, 2, none⟩))] (by kernel_rfl) fun a hs hS => ?_
    refine d_load (fuel := 16) kS78 hs hS 4 rfl (by kernel_rfl) (SX_box hS78 0 rfl (by kernel_rfl)) 2 (by kernel_rfl) (by kernel_rfl) (v := .slice p6 x5.length c7) (by kernel_rfl) fun a hs hS => ?_
    refine d_pures (fuel := 12) kS78 hs hS [5, 6, 7, 8] [0, 3, 4, 28, 29, 30, 31, 32, 33, 34, 35, 36] [(0, .pointer (some ⟨b2, 0, none⟩)), (3, .int .u64 (if (if (IntKind.u64.wrap (y74 - 32)) < x4 then (IntKind.u64.wrap (y74 - 32)) else x4) > x3 then (if (IntKind.u64.wrap (y74 - 32)) < x4 then (IntKind.u64.wrap (y74 - 32)) else x4) else x3)), (4, .int .i64 (IntKind.i64.wrap (IntKind.u64.wrap ((if (if (IntKind.u64.wrap (y74 - 32)) < x4 then (IntKind.u64.wrap (y74 - 32)) else x4) > x3 then (if (IntKind.u64.wrap (y74 - 32)) < x4 then (IntKind.u64.wrap (y74 - 32)) else x4) else x3) - x3)))), (28, .pointer (some ⟨b2, 0, none⟩)), (29, .pointer (some ⟨b2, 0, none⟩)), (30, .pointer (some ⟨b2, 0, none⟩)), (31, .pointer (some ⟨b2, 2, none⟩)), (32, .slice p6 x5.length c7), (33, .int .i64 (IntKind.i64.wrap (IntKind.u64.wrap ((if (if (IntKind.u64.wrap (y74 - 32)) < x4 then (IntKind.u64.wrap (y74 - 32)) else x4) > x3 then (if (IntKind.u64.wrap (y74 - 32)) < x4 then (IntKind.u64.wrap (y74 - 32)) else x4) else x3) - x3)))), (34, .pointer (some ⟨b2, 0, none⟩)), (35, .pointer (some ⟨b2, 0, none⟩)), (36, .pointer (some ⟨b2, 2, none⟩))] (by kernel_rfl) fun a hs hS => ?_
    refine d_load (fuel := 11) kS78 hs hS 9 rfl (by kernel_rfl) (SX_box hS78 0 rfl (by kernel_rfl)) 2 (by kernel_rfl) (by kernel_rfl) (v := .slice p6 x5.length c7) (by kernel_rfl) fun a hs hS => ?_
    refine d_pures (fuel := 7) kS78 hs hS [10, 11, 12, 13] [0, 3, 4, 28, 29, 30, 31, 32, 33, 34, 35, 36, 37, 38, 39, 40, 41] [(0, .pointer (some ⟨b2, 0, none⟩)), (3, .int .u64 (if (if (IntKind.u64.wrap (y74 - 32)) < x4 then (IntKind.u64.wrap (y74 - 32)) else x4) > x3 then (if (IntKind.u64.wrap (y74 - 32)) < x4 then (IntKind.u64.wrap (y74 - 32)) else x4) else x3)), (4, .int .i64 (IntKind.i64.wrap (IntKind.u64.wrap ((if (if (IntKind.u64.wrap (y74 - 32)) < x4 then (IntKind.u64.wrap (y74 - 32)) else x4) > x3 then (if (IntKind.u64.wrap (y74 - 32)) < x4 then (IntKind.u64.wrap (y74 - 32)) else x4) else x3) - x3)))), (28, .pointer (some ⟨b2, 0, none⟩)), (29, .pointer (some ⟨b2, 0, none⟩)), (30, .pointer (some ⟨b2, 0, none⟩)), (31, .pointer (some ⟨b2, 2, none⟩)), (32, .slice p6 x5.length c7), (33, .int .i64 (IntKind.i64.wrap (IntKind.u64.wrap ((if (if (IntKind.u64.wrap (y74 - 32)) < x4 then (IntKind.u64.wrap (y74 - 32)) else x4) > x3 then (if (IntKind.u64.wrap (y74 - 32)) < x4 then (IntKind.u64.wrap (y74 - 32)) else x4) else x3) - x3)))), (34, .pointer (some ⟨b2, 0, none⟩)), (35, .pointer (some ⟨b2, 0, none⟩)), (36, .pointer (some ⟨b2, 2, none⟩)), (37, .slice p6 x5.length c7), (38, .int .i64 (x5.length : Int)), (39, .pointer (some ⟨b2, 0, none⟩)), (40, .pointer (some ⟨b2, 0, none⟩)), (41, .pointer (some ⟨b2, 2, none⟩))] (by kernel_rfl) fun a hs hS => ?_
    refine d_load (fuel := 6) kS78 hs hS 14 rfl (by kernel_rfl) (SX_box hS78 0 rfl (by kernel_rfl)) 2 (by kernel_rfl) (by kernel_rfl) (v := .slice p6 x5.length c7) (by kernel_rfl) fun a hs hS => ?_
    refine d_pures (fuel := 5) kS78 hs hS [15] [0, 3, 4, 28, 29, 30, 31, 32, 33, 34, 35, 36, 37, 38, 39, 40, 41, 42, 43] [(0, .pointer (some ⟨b2, 0, none⟩)), (3, .int .u64 (if (if (IntKind.u64.wrap (y74 - 32)) < x4 then (IntKind.u64.wrap (y74 - 32)) else x4) > x3 then (if (IntKind.u64.wrap (y74 - 32)) < x4 then (IntKind.u64.wrap (y74 - 32)) else x4) else x3)), (4, .int .i64 (IntKind.i64.wrap (IntKind.u64.wrap ((if (if (IntKind.u64.wrap (y74 - 32)) < x4 then (IntKind.u64.wrap (y74 - 32)) else x4) > x3 then (if (IntKind.u64.wrap (y74 - 32)) < x4 then (IntKind.u64.wrap (y74 - 32)) else x4) else x3) - x3)))), (28, .pointer (some ⟨b2, 0, none⟩)), (29, .pointer (some ⟨b2, 0, none⟩)), (30, .pointer (some ⟨b2, 0, none⟩)), (31, .pointer (some ⟨b2, 2, none⟩)), (32, .slice p6 x5.length c7), (33, .int .i64 (IntKind.i64.wrap (IntKind.u64.wrap ((if (if (IntKind.u64.wrap (y74 - 32)) < x4 then (IntKind.u64.wrap (y74 - 32)) else x4) > x3 then (if (IntKind.u64.wrap (y74 - 32)) < x4 then (IntKind.u64.wrap (y74 - 32)) else x4) else x3) - x3)))), (34, .pointer (some ⟨b2, 0, none⟩)), (35, .pointer (some ⟨b2, 0, none⟩)), (36, .pointer (some ⟨b2, 2, none⟩)), (37, .slice p6 x5.length c7), (38, .int .i64 (x5.length : Int)), (39, .pointer (some ⟨b2, 0, none⟩)), (40, .pointer (some ⟨b2, 0, none⟩)), (41, .pointer (some ⟨b2, 2, none⟩)), (42, .slice p6 x5.length c7), (43, .int .i64 (x5.length : Int))] (by kernel_rfl) fun a hs hS => ?_
    obtain ⟨x114, h115, hx112⟩ := bindE hx112
    refine d_slice (fuel := 4) kS78 hs hS 16 rfl (by kernel_rfl) h8.read (by kernel_rfl) (by kernel_rfl) 26 (by kernel_rfl) (by kernel_rfl) (by kernel_rfl) (by kernel_rfl) (by kernel_rfl) h115 (.inr ⟨_, rfl, Int.le_refl _, (slE h115).2.2.1⟩) fun a p116 c117 h118 hs hS => ?_
    refine d_all (fuel := 3) (rs := [17]) (by kernel_rfl) (by simp) (all1 ?_)
    replace hw := hw.nil
    obtain ⟨x121, h122, hx112⟩ := bindE hx112
    refine o_appS hs rfl hw (E := e26) appT28 0 rfl (OSl.nil _ _) (by kernel_rfl) (by kernel_rfl) (h118.mono (Le.refl _)) ((hw.vw 2 rfl).anti (Le.refl _)) (by kernel_rfl) h122 fun a w p123 c124 d125 h126 hw hs => ?_
    refine dg_next (SX_now hS78 ((hw.vws [1, 2, 3]).anti (Le.refl _)) (by kernel_rfl)) fun hS => ?_
    refine d_pures (fuel := 1) kS78 hs hS [18, 19] [0, 3, 4, 28, 29, 30, 31, 32, 33, 34, 35, 36, 37, 38, 39, 40, 41, 42, 43, 44, 45, 46, 47] [(0, .pointer (some ⟨b2, 0, none⟩)), (3, .int .u64 (if (if (IntKind.u64.wrap (y74 - 32)) < x4 then (IntKind.u64.wrap (y74 - 32)) else x4) > x3 then (if (IntKind.u64.wrap (y74 - 32)) < x4 then (IntKind.u64.wrap (y74 - 32)) else x4) else x3)), (4, .int .i64 (IntKind.i64.wrap (IntKind.u64.wrap ((if (if (IntKind.u64.wrap (y74 - 32)) < x4 then (IntKind.u64.wrap (y74 - 32)) else x4) > x3 then (if (IntKind.u64.wrap (y74 - 32)) < x4 then (IntKind.u64.wrap (y74 - 32)) else x4) else x3) - x3)))), (28, .pointer (some ⟨b2, 0, none⟩)), (29, .pointer (some ⟨b2, 0, none⟩)), (30, .pointer (some ⟨b2, 0, none⟩)), (31, .pointer (some ⟨b2, 2, none⟩)), (32, .slice p6 x5.length c7), (33, .int .i64 (IntKind.i64.wrap (IntKind.u64.wrap ((if (if (IntKind.u64.wrap (y74 - 32)) < x4 then (IntKind.u64.wrap (y74 - 32)) else x4) > x3 then (if (IntKind.u64.wrap (y74 - 32)) < x4 then (IntKind.u64.wrap (y74 - 32)) else x4) else x3) - x3)))), (34, .pointer (some ⟨b2, 0, none⟩)), (35, .pointer (some ⟨b2, 0, none⟩)), (36, .pointer (some ⟨b2, 2, none⟩)), (37, .slice p6 x5.length c7), (38, .int .i64 (x5.length : Int)), (39, .pointer (some ⟨b2, 0, none⟩)), (40, .pointer (some ⟨b2, 0, none⟩)), (41, .pointer (some ⟨b2, 2, none⟩)), (42, .slice p6 x5.length c7), (43, .int .i64 (x5.length : Int)), (44, .slice p116 x114.length c117), (45, .slice p123 x121.length c124), (46, .pointer (some ⟨b2, 0, none⟩)), (47, .pointer (some ⟨b2, 2, none⟩))] (by kernel_rfl) fun a hs hS => ?_
    refine d_all (fuel := 0) (rs := [20]) (by kernel_rfl) (by simp) (all1 ?_)
    refine o_store hs hw rfl 1 rfl 2 (by kernel_rfl) (by kernel_rfl) (v := .slice p123 x121.length c124) (by kernel_rfl) (by kernel_rfl) (by kernel_rfl) (by kernel_rfl) fun a w hs hw => ?_
    refine dg_next (SX_now hS78 ((hw.vws [2, 3]).anti (Le.refl _)) (by kernel_rfl)) fun hS => ?_
    refine d_done (by kernel_rfl) ?_
    obtain rfl := someE hx112
    exact (hJ113 _ _).2 ⟨x121, p123, c124, d125, hk, hs.cast [0, 3] (by kernel_rfl), hw.pick [1, 0, 3] (by kernel_rfl), h126⟩
  intro a w hh
  obtain ⟨x105, p106, c107, d109, hk, hs, hw, h108⟩ := (hJ113 _ _).1 hh
  refine c_region ?_
  refine pures hs 4 [49, 51] [(49, .int .u64 (if (if (IntKind.u64.wrap (y74 - 32)) < x4 then (IntKind.u64.wrap (y74 - 32)) else x4) > x3 then (if (IntKind.u64.wrap (y74 - 32)) < x4 then (IntKind.u64.wrap (y74 - 32)) else x4) else x3)), (51, .pointer (some ⟨b2, 0, none⟩))] (by kernel_rfl) fun a hs => ?_
  refine s_store hs hw 0 rfl 0 (by kernel_rfl) (by kernel_rfl) (v := .int .u64 (if (if (IntKind.u64.wrap (y74 - 32)) < x4 then (IntKind.u64.wrap (y74 - 32)) else x4) > x3 then (if (IntKind.u64.wrap (y74 - 32)) < x4 then (IntKind.u64.wrap (y74 - 32)) else x4) else x3)) (by kernel_rfl) (by kernel_rfl) (by kernel_rfl) (by kernel_rfl) fun a w hs hw => ?_
  refine s_end ?_
  obtain rfl := someE hk
  refine hQn _ _ (f_retN hs [] rfl [] (by kernel_rfl) (by kernel_rfl) ⟨p106, c107, d109, rfl, hw.pick [0, 1, 2] (by kernel_rfl), h108⟩)
def window_Window_Add_r3 (x3 : Int) (x4 : Int) (x176 : List M26) : Option (Int × Int × (List M26)) :=
  (window_Window_trim x3 x4 x176).bind fun y188 =>
  some (0, y188.1, y188.2)
def window_Window_Add_r4 (k : Nat) (x3 : Int) (x5 : List M26) (x11 : M26) (x4 : Int) (x137 : Bool) : Option (Int × Int × (List M26)) :=
  if x137 = true then some (12, x3, x5)
  else ((update_Copy k ([x11])).bind fun y199 =>
    (app x5 y199).bind fun x208 =>
    some x208 : Option (List M26)).bind fun s214 => window_Window_Add_r3 x3 x4 s214
def window_Window_Add (k : Nat) (x3 : Int) (x4 : Int) (x5 : List M26) (x11 : M26) : Option (Int × Int × (List M26)) :=
  (update_Check k x11).bind fun y127 =>
  if (y127 != 0) = true then some (y127, x3, x5)
  else ((window_Window_End x3 x5).bind fun y218 =>
    some ((IntKind.u64.wrap (x11.f0 - 1)) != y218) : Option Bool).bind fun s220 => window_Window_Add_r4 k x3 x5 x11 x4 s220
theorem window_Window_Add_s {k : Nat} {x3 : Int} {x4 : Int} {x5 : List M26} {x11 : M26} {b2 : Nat} {p6 : Option Addr} {c7 : Nat} {d9 : Ch} {p12 : Option Addr} {c13 : Nat} {r : Int × Int × (List M26)} (hk : window_Window_Add k x3 x4 x5 x11 = some r) {g w : World} {F : Ch} {ih : IH} (h8 : OSl e26 ih p6 c7 x5 d9) (h14 : RSl e5 ih [] p12 c13 x11.f6) (hG : Glob 0 gl0 110 ih) (hw : St g w [bx b2 [.int .u64 x3, .int .u64 x4, .slice p6 x5.length c7] 78, d9, F] ih) :
    CallsR Tryz.prog 23 #[.pointer (some ⟨b2, 0, none⟩), .agg #[.int .u64 x11.f0, .int .i64 x11.f1, .int .u64 x11.f2, .int .i64 x11.f3, .int .u32 x11.f4, .int .u64 x11.f5, .slice p12 x11.f6.length c13]] w fun v w' => ∃ (ih' : IH) (p221 : Option Addr) (c222 : Nat) (d223 : Ch), v = .int .i64 r.1 ∧ St g w' [bx b2 [.int .u64 r.2.1, .int .u64 x4, .slice p221 r.2.2.length c222] 78, d223, F] ih' ∧ Le ih ih' ∧ OSl e26 ih' p221 c222 r.2.2 d223 := by
  refine f_in (vs := [.pointer (some ⟨b2, 0, none⟩), .agg #[.int .u64 x11.f0, .int .i64 x11.f1, .int .u64 x11.f2, .int .i64 x11.f3, .int .u32 x11.f4, .int .u64 x11.f5, .slice p12 x11.f6.length c13]]) Tryz.func23 rfl 32 rfl (by kernel_rfl) [(0, .pointer (some ⟨b2, 0, none⟩)), (1, .agg #[.int .u64 x11.f0, .int .i64 x11.f1, .int .u64 x11.f2, .int .i64 x11.f3, .int .u32 x11.f4, .int .u64 x11.f5, .slice p12 x11.f6.length c13])] (by kernel_rfl) fun a Qf hQ hQn hs => ?_
  refine c_seq ?_
  refine c_region ?_
  refine s_new hs hw [.int .u64 x11.f0, .int .i64 x11.f1, .int .u64 x11.f2, .int .i64 x11.f3, .int .u32 x11.f4, .int .u64 x11.f5, .slice p12 x11.f6.length c13] 26 (fun b => .pointer (some ⟨b, 0, none⟩)) (by kernel_rfl) (fun _ => by kernel_rfl) fun a w b121 hs hw => ?_
  refine pures hs 1 [0, 3] [(0, .pointer (some ⟨b2, 0, none⟩)), (3, .pointer (some ⟨b121, 0, none⟩))] (by kernel_rfl) fun a hs => ?_
  refine s_end ?_
  refine c_seq ?_
  refine c_seq ?_
  refine c_region ?_
  refine pures hs 2 [0, 3, 7] [(0, .pointer (some ⟨b2, 0, none⟩)), (3, .pointer (some ⟨b121, 0, none⟩)), (7, .bool false)] (by kernel_rfl) fun a hs => ?_
  refine s_end ?_
  refine c_condF hs (by kernel_rfl) (by kernel_rfl) ?_
  refine c_skip ?_
  refine c_seq ?_
  refine c_seq ?_
  refine c_region ?_
  refine s_load hs (hw.at_ 0 rfl) 0 (by kernel_rfl) (by kernel_rfl) (v := .agg #[.int .u64 x11.f0, .int .i64 x11.f1, .int .u64 x11.f2, .int .i64 x11.f3, .int .u32 x11.f4, .int .u64 x11.f5, .slice p12 x11.f6.length c13]) (by kernel_rfl) fun a hs => ?_
  obtain ⟨y127, h128, hk⟩ := bindE hk
  refine s_call hs (by kernel_rfl) (by kernel_rfl) (update_Check_s h128 h14 (hG.mono (Le.refl _)) ((hw.pick [0, 1, 2, 3] (by kernel_rfl)).pack 0)) fun a w v hv hs => ?_
  obtain ⟨ih129, rfl, hw, hle130⟩ := hv
  replace hw := hw.unpack 0 rfl
  refine pures hs 1 [0, 3, 5] [(0, .pointer (some ⟨b2, 0, none⟩)), (3, .pointer (some ⟨b121, 0, none⟩)), (5, .int .i64 y127)] (by kernel_rfl) fun a hs => ?_
  refine s_end ?_
  refine c_seq ?_
  refine c_region ?_
  refine pures hs 2 [0, 3, 5, 11] [(0, .pointer (some ⟨b2, 0, none⟩)), (3, .pointer (some ⟨b121, 0, none⟩)), (5, .int .i64 y127), (11, .bool (y127 != 0))] (by kernel_rfl) fun a hs => ?_
  refine s_end ?_
  rcases ifbE hk with ⟨h131, hk⟩ | ⟨h131, hk⟩
  · refine c_cond1 hs (by kernel_rfl) (t := (y127 != 0)) (by kernel_rfl) h131 ?_
    refine c_seq ?_
    refine c_region ?_
    refine pures hs 2 [4] [(4, .int .i64 y127)] (by kernel_rfl) fun a hs => ?_
    refine s_end ?_
    refine c_ret ?_
    obtain rfl := someE hk
    refine hQ _ _ (f_ret1 hs rfl (v := .int .i64 y127) (by kernel_rfl) ⟨ih129, p6, c7, d9, rfl, hw.pick [1, 2, 3] (by kernel_rfl), hle130, (h8.mono hle130)⟩)
  refine c_cond0 hs (by kernel_rfl) (t := (y127 != 0)) (by kernel_rfl) h131 ?_
  refine c_skip ?_
  refine c_seq ?_
  refine c_seq ?_
  obtain ⟨S132, hS132, kS132⟩ := mkSX (X := [([], bx b121 [.int .u64 x11.f0, .int .i64 x11.f1, .int .u64 x11.f2, .int .i64 x11.f3, .int .u32 x11.f4, .int .u64 x11.f5, .slice p12 x11.f6.length c13] 26), ([], bx b2 [.int .u64 x3, .int .u64 x4, .slice p6 x5.length c7] 78), ([], d9), ([], F)]) (ih := ih129) (K := []) rfl
  obtain ⟨y215, hx216, hk⟩ := bindE hk
  obtain ⟨J217, hJ217⟩ : ∃ J : Act → World → Prop, ∀ a w, J a w ↔ (∃ (x137 : Bool), window_Window_Add_r4 k x3 x5 x11 x4 x137 = some r ∧ Sees a 32 [(0, .pointer (some ⟨b2, 0, none⟩)), (3, .pointer (some ⟨b121, 0, none⟩)), (18, .bool x137)] ∧ St g w [bx b121 [.int .u64 x11.f0, .int .i64 x11.f1, .int .u64 x11.f2, .int .i64 x11.f3, .int .u32 x11.f4, .int .u64 x11.f5, .slice p12 x11.f6.length c13] 26, bx b2 [.int .u64 x3, .int .u64 x4, .slice p6 x5.length c7] 78, d9, F] ih129) := ⟨_, fun _ _ => Iff.rfl⟩
  refine c_draw (by kernel_rfl) (N := 6) rfl S132 J217 ?_ ?_
  · have hw := hw.drew
    have hS : S132 (Array.replicate 6 false) _ := SX_now hS132 (hw.vws [0, 1, 2, 3]) (by kernel_rfl)
    refine d_pures (fuel := 5) kS132 hs hS [0] [0, 3, 13] [(0, .pointer (some ⟨b2, 0, none⟩)), (3, .pointer (some ⟨b121, 0, none⟩)), (13, .pointer (some ⟨b121, 0, none⟩))] (by kernel_rfl) fun a hs hS => ?_
    refine d_load (fuel := 4) kS132 hs hS 1 rfl (by kernel_rfl) (SX_box hS132 0 rfl (by kernel_rfl)) 0 (by kernel_rfl) (by kernel_rfl) (v := .int .u64 x11.f0) (by kernel_rfl) fun a hs hS => ?_
    refine d_pures (fuel := 2) kS132 hs hS [2, 3] [0, 3, 13, 14, 15, 16] [(0, .pointer (some ⟨b2, 0, none⟩)), (3, .pointer (some ⟨b121, 0, none⟩)), (13, .pointer (some ⟨b121, 0, none⟩)), (14, .int .u64 x11.f0), (15, .int .u64 (IntKind.u64.wrap (x11.f0 - 1))), (16, .pointer (some ⟨b2, 0, none⟩))] (by kernel_rfl) fun a hs hS => ?_
    refine d_all (fuel := 1) (rs := [4]) (by kernel_rfl) (by simp) (all1 ?_)
    obtain ⟨y218, h219, hx216⟩ := bindE hx216
    refine o_call hs rfl (by kernel_rfl) (by kernel_rfl) (window_Window_End_s (x4 := x4) h219 (h8.mono hle130) ((hw.pick [1, 2, 0, 3] (by kernel_rfl)).pack 2)) fun a w v hv hs => ?_
    obtain ⟨rfl, hw⟩ := hv
    replace hw := hw.unpack 2 rfl
    refine dg_next (SX_now hS132 ((hw.vws [2, 0, 1, 3]).anti (Le.refl _)) (by kernel_rfl)) fun hS => ?_
    refine d_pures (fuel := 0) kS132 hs hS [5] [0, 3, 13, 14, 15, 16, 17, 18] [(0, .pointer (some ⟨b2, 0, none⟩)), (3, .pointer (some ⟨b121, 0, none⟩)), (13, .pointer (some ⟨b121, 0, none⟩)), (14, .int .u64 x11.f0), (15, .int .u64 (IntKind.u64.wrap (x11.f0 - 1))), (16, .pointer (some ⟨b2, 0, none⟩)), (17, .int .u64 y218), (18, .bool ((IntKind.u64.wrap (x11.f0 - 1)) != y218))] (by kernel_rfl) fun a hs hS => ?_
    refine d_done (by kernel_rfl) ?_
    obtain rfl := someE hx216
    exact (hJ217 _ _).2 ⟨((IntKind.u64.wrap (x11.f0 - 1)) != y218), hk, hs.cast [0, 3, 18] (by kernel_rfl), hw.pick [2, 0, 1, 3] (by kernel_rfl)⟩
  intro a w hh
  obtain ⟨x137, hk, hs, hw⟩ := (hJ217 _ _).1 hh
  rcases ifbE hk with ⟨h138, hk⟩ | ⟨h138, hk⟩
  · refine c_cond1 hs (by kernel_rfl) (t := x137) (by kernel_rfl) h138 ?_
    refine c_seq ?_
    refine c_region ?_
    refine pures hs 1 [4] [(4, .int .i64 12)] (by kernel_rfl) fun a hs => ?_
    refine s_end ?_
    refine c_ret ?_
    obtain rfl := someE hk
    refine hQ _ _ (f_ret1 hs rfl (v := .int .i64 12) (by kernel_rfl) ⟨ih129, p6, c7, d9, rfl, hw.pick [1, 2, 3] (by kernel_rfl), hle130, (h8.mono hle130)⟩)
  refine c_cond0 hs (by kernel_rfl) (t := x137) (by kernel_rfl) h138 ?_
  refine c_skip ?_
  refine c_seq ?_
  obtain ⟨S139, hS139, kS139⟩ := mkSX (X := [([], bx b121 [.int .u64 x11.f0, .int .i64 x11.f1, .int .u64 x11.f2, .int .i64 x11.f3, .int .u32 x11.f4, .int .u64 x11.f5, .slice p12 x11.f6.length c13] 26), ([8, 11], bx b2 [.int .u64 x3, .int .u64 x4, .slice p6 x5.length c7] 78), ([8], d9), ([], F)]) (ih := ih129) (K := [8, 11, 8]) rfl
  obtain ⟨y194, hx195, hk⟩ := bindE hk
  obtain ⟨J196, hJ196⟩ : ∃ J : Act → World → Prop, ∀ a w, J a w ↔ (∃ (x176 : List M26) (p177 : Option Addr) (c178 : Nat) (d180 : Ch) (ih174 : IH), window_Window_Add_r3 x3 x4 x176 = some r ∧ Sees a 32 [(0, .pointer (some ⟨b2, 0, none⟩))] ∧ St g w [bx b2 [.int .u64 x3, .int .u64 x4, .slice p177 x176.length c178] 78, d180, F] ih174 ∧ Le ih129 ih174 ∧ OSl e26 ih174 p177 c178 x176 d180) := ⟨_, fun _ _ => Iff.rfl⟩
  refine c_draw (by kernel_rfl) (N := 12) rfl S139 J196 ?_ ?_
  · have hw := hw.drew
    have hS : S139 (Array.replicate 12 false) _ := SX_now hS139 (hw.vws [0, 1, 2, 3]) (by kernel_rfl)
    refine d_pures (fuel := 8) kS139 hs hS [0, 1, 2, 3] [0, 3, 19, 20, 21, 22] [(0, .pointer (some ⟨b2, 0, none⟩)), (3, .pointer (some ⟨b121, 0, none⟩)), (19, .pointer (some ⟨b2, 0, none⟩)), (20, .pointer (some ⟨b2, 0, none⟩)), (21, .pointer (some ⟨b2, 0, none⟩)), (22, .pointer (some ⟨b2, 2, none⟩))] (by kernel_rfl) fun a hs hS => ?_
    refine d_load (fuel := 7) kS139 hs hS 4 rfl (by kernel_rfl) (SX_box hS139 1 rfl (by kernel_rfl)) 2 (by kernel_rfl) (by kernel_rfl) (v := .slice p6 x5.length c7) (by kernel_rfl) fun a hs hS => ?_
    refine d_load (fuel := 6) kS139 hs hS 5 rfl (by kernel_rfl) (SX_box hS139 0 rfl (by kernel_rfl)) 0 (by kernel_rfl) (by kernel_rfl) (v := .agg #[.int .u64 x11.f0, .int .i64 x11.f1, .int .u64 x11.f2, .int .i64 x11.f3, .int .u32 x11.f4, .int .u64 x11.f5, .slice p12 x11.f6.length c13]) (by kernel_rfl) fun a hs hS => ?_
    refine d_all (fuel := 5) (rs := [6]) (by kernel_rfl) (by simp) (all1 ?_)
    refine o_new hs rfl hw [.int .u64 x11.f0, .int .i64 x11.f1, .int .u64 x11.f2, .int .i64 x11.f3, .int .u32 x11.f4, .int .u64 x11.f5, .slice p12 x11.f6.length c13] 26 (fun b => .slice (some ⟨b, 0, none⟩) 1 1) (by kernel_rfl) (fun _ => by kernel_rfl) fun a w b197 hs hw => ?_
    refine dg_next (SX_now hS139 ((hw.vws [1, 2, 3, 4]).anti (Le.refl _)) (by kernel_rfl)) fun hS => ?_
    refine d_all (fuel := 4) (rs := [7]) (by kernel_rfl) (by simp) (all1 ?_)
    obtain ⟨y199, h200, hx195⟩ := bindE hx195
    refine o_call hs rfl (by kernel_rfl) (by kernel_rfl) (update_Copy_s h200 ((OSl.of1 (E := e26) (z := x11) ⟨p12, c13, rfl, (h14.mono hle130)⟩ (by simp [maxLen])).read) (memF 0 rfl) ((hw.pick [0, 1, 2, 3, 4] (by kernel_rfl)).pack 0)) fun a w v hv hs => ?_
    obtain ⟨ih201, p203, c204, d206, rfl, hw, hle202, h205⟩ := hv
    replace hw := hw.unpack 1 rfl
    refine dg_next (SX_now hS139 ((hw.vws [2, 3, 4, 5]).anti hle202) (by kernel_rfl)) fun hS => ?_
    refine d_all (fuel := 3) (rs := [8]) (by kernel_rfl) (by simp) (all1 ?_)
    obtain ⟨x208, h209, hx195⟩ := bindE hx195
    refine o_appS hs rfl hw (E := e26) appT28 4 rfl (h8.mono (hle130.trans hle202)) (by kernel_rfl) (by kernel_rfl) (h205.read.mono (Le.refl _)) ((hw.vw 0 rfl).anti (Le.refl _)) (by kernel_rfl) h209 fun a w p210 c211 d212 h213 hw hs => ?_
    refine dg_next (SX_now hS139 ((hw.vws [2, 5]).anti hle202) (by kernel_rfl)) fun hS => ?_
    refine d_pures (fuel := 1) kS139 hs hS [9, 10] [0, 3, 19, 20, 21, 22, 24, 25, 26, 27, 28, 29] [(0, .pointer (some ⟨b2, 0, none⟩)), (3, .pointer (some ⟨b121, 0, none⟩)), (19, .pointer (some ⟨b2, 0, none⟩)), (20, .pointer (some ⟨b2, 0, none⟩)), (21, .pointer (some ⟨b2, 0, none⟩)), (22, .pointer (some ⟨b2, 2, none⟩)), (24, .agg #[.int .u64 x11.f0, .int .i64 x11.f1, .int .u64 x11.f2, .int .i64 x11.f3, .int .u32 x11.f4, .int .u64 x11.f5, .slice p12 x11.f6.length c13]), (25, .slice (some ⟨b197, 0, none⟩) ([x11]).length 1), (26, .slice p203 y199.length c204), (27, .slice p210 x208.length c211), (28, .pointer (some ⟨b2, 0, none⟩)), (29, .pointer (some ⟨b2, 2, none⟩))] (by kernel_rfl) fun a hs hS => ?_
    refine d_all (fuel := 0) (rs := [11]) (by kernel_rfl) (by simp) (all1 ?_)
    refine o_store hs hw rfl 3 rfl 2 (by kernel_rfl) (by kernel_rfl) (v := .slice p210 x208.length c211) (by kernel_rfl) (by kernel_rfl) (by kernel_rfl) (by kernel_rfl) fun a w hs hw => ?_
    refine dg_next (SX_now hS139 ((hw.vws [2, 5]).anti hle202) (by kernel_rfl)) fun hS => ?_
    refine d_done (by kernel_rfl) ?_
    obtain rfl := someE hx195
    exact (hJ196 _ _).2 ⟨x208, p210, c211, d212, ih201, hk, hs.cast [0] (by kernel_rfl), hw.pick [3, 4, 5] (by kernel_rfl), hle202, h213⟩
  intro a w hh
  obtain ⟨x176, p177, c178, d180, ih174, hk, hs, hw, hle175, h179⟩ := (hJ196 _ _).1 hh
  refine c_seq ?_
  refine c_region ?_
  refine pures hs 1 [30] [(30, .pointer (some ⟨b2, 0, none⟩))] (by kernel_rfl) fun a hs => ?_
  obtain ⟨y188, h189, hk⟩ := bindE hk
  refine s_call hs (by kernel_rfl) (by kernel_rfl) (window_Window_trim_s h189 h179 ((hw.pick [0, 1, 2] (by kernel_rfl)).pack 2)) fun a w v hv hs => ?_
  obtain ⟨p190, c191, d193, rfl, hw, h192⟩ := hv
  replace hw := hw.unpack 2 rfl
  refine s_end ?_
  refine c_seq ?_
  refine c_region ?_
  refine pures hs 1 [4] [(4, .int .i64 0)] (by kernel_rfl) fun a hs => ?_
  refine s_end ?_
  refine c_ret ?_
  obtain rfl := someE hk
  refine hQ _ _ (f_ret1 hs rfl (v := .int .i64 0) (by kernel_rfl) ⟨ih174, p190, c191, d193, rfl, hw.pick [0, 1, 2] (by kernel_rfl), (hle130.trans hle175), h192⟩)
def update_Batch_1 (x1 : M26) (x7 : Int) (x10 : Int) : Option (Bool × Int) :=
  if ((decide (x1.f0 ≤ x7)) || (decide (x10 < 1))) = true then some (false, x10)
  else some (true, IntKind.i64.wrap (x10 - 1))
theorem update_Batch_1_s {x1 : M26} {x7 : Int} {x10 : Int} {p2 : Option Addr} {c3 : Nat} {b6 : Nat} {b9 : Nat} {r : Bool × Int} (hk : update_Batch_1 x1 x7 x10 = some r) {g w : World} {F : Ch} {ih : IH} (h4 : RSl e5 ih [] p2 c3 x1.f6) (hw : St g w [bx b6 [.int .u64 x7] 22, bx b9 [.int .i64 x10] 3, F] ih) :
    CallsR Tryz.prog 54 #[.agg #[.int .u64 x1.f0, .int .i64 x1.f1, .int .u64 x1.f2, .int .i64 x1.f3, .int .u32 x1.f4, .int .u64 x1.f5, .slice p2 x1.f6.length c3], .pointer (some ⟨b6, 0, none⟩), .pointer (some ⟨b9, 0, none⟩)] w fun v w' => v = .bool r.1 ∧ St g w' [bx b6 [.int .u64 x7] 22, bx b9 [.int .i64 r.2] 3, F] ih := by
  refine f_in (vs := [.agg #[.int .u64 x1.f0, .int .i64 x1.f1, .int .u64 x1.f2, .int .i64 x1.f3, .int .u32 x1.f4, .int .u64 x1.f5, .slice p2 x1.f6.length c3], .pointer (some ⟨b6, 0, none⟩), .pointer (some ⟨b9, 0, none⟩)]) Tryz.func54 rfl 15 rfl (by kernel_rfl) [(0, .agg #[.int .u64 x1.f0, .int .i64 x1.f1, .int .u64 x1.f2, .int .i64 x1.f3, .int .u32 x1.f4, .int .u64 x1.f5, .slice p2 x1.f6.length c3]), (1, .pointer (some ⟨b6, 0, none⟩)), (2, .pointer (some ⟨b9, 0, none⟩))] (by kernel_rfl) fun a Qf hQ hQn hs => ?_
  refine c_seq ?_
  refine c_region ?_
  refine s_new hs hw [.int .u64 x1.f0, .int .i64 x1.f1, .int .u64 x1.f2, .int .i64 x1.f3, .int .u32 x1.f4, .int .u64 x1.f5, .slice p2 x1.f6.length c3] 26 (fun b => .pointer (some ⟨b, 0, none⟩)) (by kernel_rfl) (fun _ => by kernel_rfl) fun a w b25 hs hw => ?_
  refine pures hs 1 [1, 2, 3] [(1, .pointer (some ⟨b6, 0, none⟩)), (2, .pointer (some ⟨b9, 0, none⟩)), (3, .pointer (some ⟨b25, 0, none⟩))] (by kernel_rfl) fun a hs => ?_
  refine s_end ?_
  refine c_seq ?_
  refine c_seq ?_
  obtain ⟨J30, hJ30⟩ : ∃ J : Act → World → Prop, ∀ a w, J a w ↔ (Sees a 15 [(2, .pointer (some ⟨b9, 0, none⟩)), (12, .bool ((decide (x1.f0 ≤ x7)) || (decide (x10 < 1))))] ∧ St g w [bx b6 [.int .u64 x7] 22, bx b9 [.int .i64 x10] 3, F] ih) := ⟨_, fun _ _ => Iff.rfl⟩
  refine c_regJ J30 ?_ ?_
  · refine pures hs 1 [1, 2, 5] [(1, .pointer (some ⟨b6, 0, none⟩)), (2, .pointer (some ⟨b9, 0, none⟩)), (5, .pointer (some ⟨b25, 0, none⟩))] (by kernel_rfl) fun a hs => ?_
    refine s_load hs (hw.at_ 0 rfl) 0 (by kernel_rfl) (by kernel_rfl) (v := .int .u64 x1.f0) (by kernel_rfl) fun a hs => ?_
    refine s_load hs (hw.at_ 1 rfl) 0 (by kernel_rfl) (by kernel_rfl) (v := .int .u64 x7) (by kernel_rfl) fun a hs => ?_
    refine pures hs 2 [2, 9] [(2, .pointer (some ⟨b9, 0, none⟩)), (9, .bool (decide (x1.f0 ≤ x7)))] (by kernel_rfl) fun a hs => ?_
    rcases boolE (decide (x1.f0 ≤ x7)) with h31 | h31
    · replace hs := hs.altB 9 true (by kernel_rfl) h31
      refine pures hs 3 [2, 12] [(2, .pointer (some ⟨b9, 0, none⟩)), (12, .bool true)] (by kernel_rfl) fun a hs => ?_
      refine s_end ?_
      exact (hJ30 _ _).2 ⟨(hs.altB 12 ((decide (x1.f0 ≤ x7)) || (decide (x10 < 1))) (by kernel_rfl) (by rw [h31] <;> rfl)).cast [2, 12] (by kernel_rfl), hw.pick [1, 2, 3] (by kernel_rfl)⟩
    replace hs := hs.altB 9 false (by kernel_rfl) h31
    refine s_load hs (hw.at_ 2 rfl) 0 (by kernel_rfl) (by kernel_rfl) (v := .int .i64 x10) (by kernel_rfl) fun a hs => ?_
    refine pures hs 2 [2, 12] [(2, .pointer (some ⟨b9, 0, none⟩)), (12, .bool (decide (x10 < 1)))] (by kernel_rfl) fun a hs => ?_
    refine s_end ?_
    exact (hJ30 _ _).2 ⟨(hs.altB 12 ((decide (x1.f0 ≤ x7)) || (decide (x10 < 1))) (by kernel_rfl) (by rw [h31] <;> rfl)).cast [2, 12] (by kernel_rfl), hw.pick [1, 2, 3] (by kernel_rfl)⟩
  intro a w hh
  obtain ⟨hs, hw⟩ := (hJ30 _ _).1 hh
  rcases ifbE hk with ⟨h32, hk⟩ | ⟨h32, hk⟩
  · refine c_cond1 hs (by kernel_rfl) (t := ((decide (x1.f0 ≤ x7)) || (decide (x10 < 1)))) (by kernel_rfl) h32 ?_
    refine c_seq ?_
    refine c_region ?_
    refine pures hs 1 [4] [(4, .bool false)] (by kernel_rfl) fun a hs => ?_
    refine s_end ?_
    refine c_ret ?_
    obtain rfl := someE hk
    refine hQ _ _ (f_ret1 hs rfl (v := .bool false) (by kernel_rfl) ⟨rfl, hw.pick [0, 1, 2] (by kernel_rfl)⟩)
  refine c_cond0 hs (by kernel_rfl) (t := ((decide (x1.f0 ≤ x7)) || (decide (x10 < 1)))) (by kernel_rfl) h32 ?_
  refine c_skip ?_
  refine c_seq ?_
  refine c_region ?_
  refine s_load hs (hw.at_ 1 rfl) 0 (by kernel_rfl) (by kernel_rfl) (v := .int .i64 x10) (by kernel_rfl) fun a hs => ?_
  refine pures hs 1 [2, 14] [(2, .pointer (some ⟨b9, 0, none⟩)), (14, .int .i64 (IntKind.i64.wrap (x10 - 1)))] (by kernel_rfl) fun a hs => ?_
  refine s_store hs hw 1 rfl 0 (by kernel_rfl) (by kernel_rfl) (v := .int .i64 (IntKind.i64.wrap (x10 - 1))) (by kernel_rfl) (by kernel_rfl) (by kernel_rfl) (by kernel_rfl) fun a w hs hw => ?_
  refine s_end ?_
  refine c_seq ?_
  refine c_region ?_
  refine pures hs 1 [4] [(4, .bool true)] (by kernel_rfl) fun a hs => ?_
  refine s_end ?_
  refine c_ret ?_
  obtain rfl := someE hk
  refine hQ _ _ (f_ret1 hs rfl (v := .bool true) (by kernel_rfl) ⟨rfl, hw.pick [0, 1, 2] (by kernel_rfl)⟩)
def update_pick_2_r10 (x1017 : List M26) (x1023 : Int) : Option ((List M26) × Int) :=
  some (x1017, x1023)
def update_pick_2_r12 (rec_update_pick_2_l11 : (List M26) → Int → Int → Option ((List M26) × Int)) (x881 : Int) (x1090 : List M26) (x1096 : Int) : Option ((List M26) × Int) :=
  rec_update_pick_2_l11 x1090 (IntKind.i64.wrap (x881 + 1)) x1096
def update_pick_2_l11 (x1 : List M26) (x9 : Int) : Nat → (List M26) → Int → Int → Option ((List M26) × Int)
  | 0, _, _, _ => none
  | j + 1, x875, x881, x882 =>
    if (decide (x881 < (x1.length : Int))) = true then (
      ((ix x1 x881).bind fun x1109 =>
        (update_Batch_1 x1109 x9 x882).bind fun y1120 =>
        if y1120.1 = true then (
          (bytes_Clone x1109.f6).bind fun y1130 =>
          (app x875 [(M26.mk x1109.f0 x1109.f1 x1109.f2 x1109.f3 x1109.f4 x1109.f5 y1130)]).bind fun x1153 =>
          some (x1153, y1120.2))
        else some (x875, y1120.2) : Option ((List M26) × Int)).bind fun s1159 => update_pick_2_r12 (update_pick_2_l11 x1 x9 j) x881 s1159.1 s1159.2)
    else some (x875, x882)
def update_pick_2 (k : Nat) (x1 : List M26) (x9 : Int) (x12 : Int) : Option ((List M26) × Int) :=
  (update_pick_2_l11 x1 x9 k ([]) 0 x12 : Option ((List M26) × Int)).bind fun s1162 => update_pick_2_r10 s1162.1 s1162.2
theorem update_pick_2_s {k : Nat} {x1 : List M26} {x9 : Int} {x12 : Int} {p2 : Option Addr} {c3 : Nat} {d5 : Ch} {b8 : Nat} {b11 : Nat} {r : (List M26) × Int} (hk : update_pick_2 k x1 x9 x12 = some r) {g w : World} {F : Ch} {ih : IH} (h4 : RSl e26 ih d5 p2 c3 x1) (h6 : ∀ q ∈ d5, q ∈ F) (hw : St g w [bx b8 [.int .u64 x9] 22, bx b11 [.int .i64 x12] 3, F] ih) :
    CallsR Tryz.prog 52 #[.slice p2 x1.length c3, .func (.func 54) #[] #[.pointer (some ⟨b8, 0, none⟩), .pointer (some ⟨b11, 0, none⟩)]] w fun v w' => ∃ (ih' : IH) (p1163 : Option Addr) (c1164 : Nat) (d1166 : Ch), v = .slice p1163 r.1.length c1164 ∧ St g w' [d1166, bx b8 [.int .u64 x9] 22, bx b11 [.int .i64 r.2] 3, F] ih' ∧ Le ih ih' ∧ OSl e26 ih' p1163 c1164 r.1 d1166 := by
  refine f_in (vs := [.slice p2 x1.length c3, .func (.func 54) #[] #[.pointer (some ⟨b8, 0, none⟩), .pointer (some ⟨b11, 0, none⟩)]]) Tryz.func52 rfl 27 rfl (by kernel_rfl) [(0, .slice p2 x1.length c3), (1, .func (.func 54) #[] #[.pointer (some ⟨b8, 0, none⟩), .pointer (some ⟨b11, 0, none⟩)])] (by kernel_rfl) fun a Qf hQ hQn hs => ?_
  refine c_seq ?_
  refine c_region ?_
  refine pures hs 1 [0, 1] [(0, .slice p2 x1.length c3), (1, .func (.func 54) #[] #[.pointer (some ⟨b8, 0, none⟩), .pointer (some ⟨b11, 0, none⟩)])] (by kernel_rfl) fun a hs => ?_
  refine s_end ?_
  refine c_seq ?_
  refine c_region ?_
  refine pures hs 1 [0, 1, 5] [(0, .slice p2 x1.length c3), (1, .func (.func 54) #[] #[.pointer (some ⟨b8, 0, none⟩), .pointer (some ⟨b11, 0, none⟩)]), (5, .slice none 0 0)] (by kernel_rfl) fun a hs => ?_
  refine s_end ?_
  refine c_seq ?_
  refine c_seq ?_
  refine c_region ?_
  refine pures hs 3 [1, 5, 8, 9, 10] [(1, .func (.func 54) #[] #[.pointer (some ⟨b8, 0, none⟩), .pointer (some ⟨b11, 0, none⟩)]), (5, .slice none 0 0), (8, .slice p2 x1.length c3), (9, .int .i64 (x1.length : Int)), (10, .int .i64 0)] (by kernel_rfl) fun a hs => ?_
  refine s_end ?_
  refine c_block ?_
  obtain ⟨y1024, hx1025, hk⟩ := bindE hk
  replace hw := hw.nil
  obtain ⟨J1026, hJ1026⟩ : ∃ J : Act → World → Prop, ∀ a w, J a w ↔ (∃ (x1017 : List M26) (x1023 : Int) (p1018 : Option Addr) (c1019 : Nat) (d1021 : Ch) (ih1015 : IH), update_pick_2_r10 x1017 x1023 = some r ∧ Sees a 27 [(5, .slice p1018 x1017.length c1019)] ∧ St g w [bx b8 [.int .u64 x9] 22, bx b11 [.int .i64 x1023] 3, d1021, F] ih1015 ∧ Le ih ih1015 ∧ OSl e26 ih1015 p1018 c1019 x1017 d1021) := ⟨_, fun _ _ => Iff.rfl⟩
  obtain ⟨I1027, hI1027⟩ : ∃ J : Nat → Act → World → Prop, ∀ j a w, J j a w ↔ (∃ (x875 : List M26) (x881 : Int) (x882 : Int) (p876 : Option Addr) (c877 : Nat) (d879 : Ch) (ih873 : IH), update_pick_2_l11 x1 x9 j x875 x881 x882 = some y1024 ∧ Sees a 27 [(1, .func (.func 54) #[] #[.pointer (some ⟨b8, 0, none⟩), .pointer (some ⟨b11, 0, none⟩)]), (5, .slice p876 x875.length c877), (8, .slice p2 x1.length c3), (9, .int .i64 (x1.length : Int)), (10, .int .i64 x881)] ∧ St g w [bx b8 [.int .u64 x9] 22, bx b11 [.int .i64 x882] 3, d879, F] ih873 ∧ Le ih ih873 ∧ OSl e26 ih873 p876 c877 x875 d879) := ⟨_, fun _ _ _ => Iff.rfl⟩
  refine c_exitJ 0 J1026 ?_ ?_
  · refine c_loop I1027 k ((hI1027 _ _ _).2 ⟨([]), 0, x12, none, 0, ([]), ih, hx1025, hs.cast [1, 5, 8, 9, 10] (by kernel_rfl), hw.pick [1, 2, 0, 3] (by kernel_rfl), (Le.refl _), (OSl.nil _ _)⟩) (fun a w h0 => ?_) fun j a w hh => ?_
    · obtain ⟨_, _, _, _, _, _, _, h, _⟩ := (hI1027 _ _ _).1 h0
      cases h
    obtain ⟨x875, x881, x882, p876, c877, d879, ih873, hx1025, hs, hw, hle874, h878⟩ := (hI1027 _ _ _).1 hh
    refine c_seq ?_
    refine c_region ?_
    refine pures hs 1 [1, 5, 8, 9, 10, 11] [(1, .func (.func 54) #[] #[.pointer (some ⟨b8, 0, none⟩), .pointer (some ⟨b11, 0, none⟩)]), (5, .slice p876 x875.length c877), (8, .slice p2 x1.length c3), (9, .int .i64 (x1.length : Int)), (10, .int .i64 x881), (11, .bool (decide (x881 < (x1.length : Int))))] (by kernel_rfl) fun a hs => ?_
    refine s_end ?_
    refine c_seq ?_
    rcases ifbE hx1025 with ⟨h1028, hx1025⟩ | ⟨h1028, hx1025⟩
    · refine c_cond1 hs (by kernel_rfl) (t := (decide (x881 < (x1.length : Int)))) (by kernel_rfl) h1028 ?_
      refine c_skip ?_
      obtain ⟨y1097, hx1098, hx1025⟩ := bindE hx1025
      obtain ⟨J1099, hJ1099⟩ : ∃ J : Act → World → Prop, ∀ a w, J a w ↔ (∃ (x1090 : List M26) (x1096 : Int) (p1091 : Option Addr) (c1092 : Nat) (d1094 : Ch) (ih1088 : IH), update_pick_2_r12 (update_pick_2_l11 x1 x9 j) x881 x1090 x1096 = some y1024 ∧ Sees a 27 [(1, .func (.func 54) #[] #[.pointer (some ⟨b8, 0, none⟩), .pointer (some ⟨b11, 0, none⟩)]), (8, .slice p2 x1.length c3), (9, .int .i64 (x1.length : Int)), (10, .int .i64 x881), (5, .slice p1091 x1090.length c1092)] ∧ St g w [bx b8 [.int .u64 x9] 22, bx b11 [.int .i64 x1096] 3, d1094, F] ih1088 ∧ Le ih873 ih1088 ∧ OSl e26 ih1088 p1091 c1092 x1090 d1094) := ⟨_, fun _ _ => Iff.rfl⟩
      refine c_seqJ J1099 ?_ ?_
      · refine c_block ?_
        refine c_seq ?_
        refine c_region ?_
        obtain ⟨x1109, h1110, hx1098⟩ := bindE hx1098
        refine s_index hs h4 (by kernel_rfl) (by kernel_rfl) (k := .i64) (by kernel_rfl) 26 (by kernel_rfl) (by kernel_rfl) h1110 fun a r1111 cs henc at1112 hs => ?_
        obtain ⟨p1113, c1114, rfl, h1115⟩ := henc
        refine s_load hs (at1112 _ (((hw.vw 3 rfl).sub h6).anti hle874)) 0 (by kernel_rfl) (by kernel_rfl) (v := .agg #[.int .u64 x1109.f0, .int .i64 x1109.f1, .int .u64 x1109.f2, .int .i64 x1109.f3, .int .u32 x1109.f4, .int .u64 x1109.f5, .slice p1113 x1109.f6.length c1114]) (by kernel_rfl) fun a hs => ?_
        refine s_new hs hw [.int .u64 0, .int .i64 0, .int .u64 0, .int .i64 0, .int .u32 0, .int .u64 0, .slice none 0 0] 26 (fun b => .pointer (some ⟨b, 0, none⟩)) (by kernel_rfl) (fun _ => by kernel_rfl) fun a w b1116 hs hw => ?_
        refine s_store hs hw 0 rfl 0 (by kernel_rfl) (by kernel_rfl) (v := .agg #[.int .u64 x1109.f0, .int .i64 x1109.f1, .int .u64 x1109.f2, .int .i64 x1109.f3, .int .u32 x1109.f4, .int .u64 x1109.f5, .slice p1113 x1109.f6.length c1114]) (by kernel_rfl) (by kernel_rfl) (by kernel_rfl) (by kernel_rfl) fun a w hs hw => ?_
        refine s_end ?_
        refine c_seq ?_
        refine c_region ?_
        refine pures hs 1 [1, 5, 8, 9, 10, 7, 14] [(1, .func (.func 54) #[] #[.pointer (some ⟨b8, 0, none⟩), .pointer (some ⟨b11, 0, none⟩)]), (5, .slice p876 x875.length c877), (8, .slice p2 x1.length c3), (9, .int .i64 (x1.length : Int)), (10, .int .i64 x881), (7, .pointer (some ⟨b1116, 0, none⟩)), (14, .func (.func 54) #[] #[.pointer (some ⟨b8, 0, none⟩), .pointer (some ⟨b11, 0, none⟩)])] (by kernel_rfl) fun a hs => ?_
        refine s_load hs (hw.at_ 0 rfl) 0 (by kernel_rfl) (by kernel_rfl) (v := .agg #[.int .u64 x1109.f0, .int .i64 x1109.f1, .int .u64 x1109.f2, .int .i64 x1109.f3, .int .u32 x1109.f4, .int .u64 x1109.f5, .slice p1113 x1109.f6.length c1114]) (by kernel_rfl) fun a hs => ?_
        obtain ⟨y1120, h1121, hx1098⟩ := bindE hx1098
        refine s_call hs (by kernel_rfl) (by kernel_rfl) (update_Batch_1_s h1121 (h1115.mono hle874) ((hw.pick [1, 2, 0, 3, 4] (by kernel_rfl)).pack 2)) fun a w v hv hs => ?_
        obtain ⟨rfl, hw⟩ := hv
        replace hw := hw.unpack 2 rfl
        refine s_end ?_
        rcases ifbE hx1098 with ⟨h1122, hx1098⟩ | ⟨h1122, hx1098⟩
        · refine c_cond1 hs (by kernel_rfl) (t := y1120.1) (by kernel_rfl) h1122 ?_
          refine c_seq ?_
          refine c_region ?_
          refine pures hs 1 [1, 5, 8, 9, 10, 7, 17] [(1, .func (.func 54) #[] #[.pointer (some ⟨b8, 0, none⟩), .pointer (some ⟨b11, 0, none⟩)]), (5, .slice p876 x875.length c877), (8, .slice p2 x1.length c3), (9, .int .i64 (x1.length : Int)), (10, .int .i64 x881), (7, .pointer (some ⟨b1116, 0, none⟩)), (17, .pointer (some ⟨b1116, 6, none⟩))] (by kernel_rfl) fun a hs => ?_
          refine s_load hs (hw.at_ 2 rfl) 6 (by kernel_rfl) (by kernel_rfl) (v := .slice p1113 x1109.f6.length c1114) (by kernel_rfl) fun a hs => ?_
          obtain ⟨y1130, h1131, hx1098⟩ := bindE hx1098
          refine s_call hs (by kernel_rfl) (by kernel_rfl) (bytes_Clone_s h1131 (h1115.mono hle874) (nilSub _) ((hw.pick [0, 1, 2, 3, 4] (by kernel_rfl)).pack 0)) fun a w v hv hs => ?_
          obtain ⟨p1132, c1133, d1135, rfl, hw, h1134⟩ := hv
          replace hw := hw.unpack 1 rfl
          refine pures hs 1 [1, 5, 8, 9, 10, 7, 19, 20] [(1, .func (.func 54) #[] #[.pointer (some ⟨b8, 0, none⟩), .pointer (some ⟨b11, 0, none⟩)]), (5, .slice p876 x875.length c877), (8, .slice p2 x1.length c3), (9, .int .i64 (x1.length : Int)), (10, .int .i64 x881), (7, .pointer (some ⟨b1116, 0, none⟩)), (19, .slice p1132 y1130.length c1133), (20, .pointer (some ⟨b1116, 6, none⟩))] (by kernel_rfl) fun a hs => ?_
          refine s_store hs hw 3 rfl 6 (by kernel_rfl) (by kernel_rfl) (v := .slice p1132 y1130.length c1133) (by kernel_rfl) (by kernel_rfl) (by kernel_rfl) (by kernel_rfl) fun a w hs hw => ?_
          refine s_end ?_
          refine c_region ?_
          refine pures hs 1 [1, 8, 9, 10, 7, 21] [(1, .func (.func 54) #[] #[.pointer (some ⟨b8, 0, none⟩), .pointer (some ⟨b11, 0, none⟩)]), (8, .slice p2 x1.length c3), (9, .int .i64 (x1.length : Int)), (10, .int .i64 x881), (7, .pointer (some ⟨b1116, 0, none⟩)), (21, .slice p876 x875.length c877)] (by kernel_rfl) fun a hs => ?_
          refine s_load hs (hw.at_ 3 rfl) 0 (by kernel_rfl) (by kernel_rfl) (v := .agg #[.int .u64 x1109.f0, .int .i64 x1109.f1, .int .u64 x1109.f2, .int .i64 x1109.f3, .int .u32 x1109.f4, .int .u64 x1109.f5, .slice p1132 y1130.length c1133]) (by kernel_rfl) fun a hs => ?_
          obtain ⟨ih1148, hle1149, hw, h1150⟩ := (hw.pick [0, 1, 2, 3, 4, 5] (by kernel_rfl)).fz (h1134.mono (Le.refl _))
          refine s_new hs hw [.int .u64 x1109.f0, .int .i64 x1109.f1, .int .u64 x1109.f2, .int .i64 x1109.f3, .int .u32 x1109.f4, .int .u64 x1109.f5, .slice p1132 y1130.length c1133] 26 (fun b => .slice (some ⟨b, 0, none⟩) 1 1) (by kernel_rfl) (fun _ => by kernel_rfl) fun a w b1151 hs hw => ?_
          obtain ⟨x1153, h1154, hx1098⟩ := bindE hx1098
          refine s_app1 hs hw (E := e26) appT28 4 rfl (h878.mono hle1149) (by kernel_rfl) (by kernel_rfl) (c2 := 1) (by kernel_rfl) (hw.at_ 0 rfl) (z := (M26.mk x1109.f0 x1109.f1 x1109.f2 x1109.f3 x1109.f4 x1109.f5 y1130)) ⟨p1132, c1133, rfl, h1150⟩ h1154 fun a w p1155 c1156 d1157 h1158 hw hs => ?_
          refine pures hs 1 [1, 8, 9, 10, 5] [(1, .func (.func 54) #[] #[.pointer (some ⟨b8, 0, none⟩), .pointer (some ⟨b11, 0, none⟩)]), (8, .slice p2 x1.length c3), (9, .int .i64 (x1.length : Int)), (10, .int .i64 x881), (5, .slice p1155 x1153.length c1156)] (by kernel_rfl) fun a hs => ?_
          refine s_end ?_
          obtain rfl := someE hx1098
          exact (hJ1099 _ _).2 ⟨x1153, y1120.2, p1155, c1156, d1157, ih1148, hx1025, hs.cast [1, 8, 9, 10, 5] (by kernel_rfl), hw.pick [1, 2, 4, 5] (by kernel_rfl), hle1149, h1158⟩
        refine c_cond0 hs (by kernel_rfl) (t := y1120.1) (by kernel_rfl) h1122 ?_
        refine c_skip ?_
        obtain rfl := someE hx1098
        exact (hJ1099 _ _).2 ⟨x875, y1120.2, p876, c877, d879, ih873, hx1025, hs.cast [1, 8, 9, 10, 5] (by kernel_rfl), hw.pick [0, 1, 3, 4] (by kernel_rfl), (Le.refl _), h878⟩
      intro a w hh
      obtain ⟨x1090, x1096, p1091, c1092, d1094, ih1088, hx1025, hs, hw, hle1089, h1093⟩ := (hJ1099 _ _).1 hh
      refine c_region ?_
      refine pures hs 2 [1, 8, 9, 10, 5] [(1, .func (.func 54) #[] #[.pointer (some ⟨b8, 0, none⟩), .pointer (some ⟨b11, 0, none⟩)]), (8, .slice p2 x1.length c3), (9, .int .i64 (x1.length : Int)), (10, .int .i64 (IntKind.i64.wrap (x881 + 1))), (5, .slice p1091 x1090.length c1092)] (by kernel_rfl) fun a hs => ?_
      refine s_end ?_
      exact (hI1027 _ _ _).2 ⟨x1090, (IntKind.i64.wrap (x881 + 1)), x1096, p1091, c1092, d1094, ih1088, hx1025, hs.cast [1, 5, 8, 9, 10] (by kernel_rfl), hw.pick [0, 1, 2, 3] (by kernel_rfl), (hle874.trans hle1089), h1093⟩
    refine c_cond0 hs (by kernel_rfl) (t := (decide (x881 < (x1.length : Int)))) (by kernel_rfl) h1028 ?_
    refine c_exit ?_
    obtain rfl := someE hx1025
    exact (hJ1026 _ _).2 ⟨x875, x882, p876, c877, d879, ih873, hk, hs.cast [5] (by kernel_rfl), hw.pick [0, 1, 2, 3] (by kernel_rfl), hle874, h878⟩
  intro a w hh
  obtain ⟨x1017, x1023, p1018, c1019, d1021, ih1015, hk, hs, hw, hle1016, h1020⟩ := (hJ1026 _ _).1 hh
  refine c_seq ?_
  refine c_region ?_
  refine pures hs 2 [4] [(4, .slice p1018 x1017.length c1019)] (by kernel_rfl) fun a hs => ?_
  refine s_end ?_
  refine c_ret ?_
  obtain rfl := someE hk
  refine hQ _ _ (f_ret1 hs rfl (v := .slice p1018 x1017.length c1019) (by kernel_rfl) ⟨ih1015, p1018, c1019, d1021, rfl, hw.pick [2, 0, 1, 3] (by kernel_rfl), hle1016, h1020⟩)
def update_Batch (k : Nat) (x1 : List M26) (x7 : Int) (x8 : Int) : Option (List M26) :=
  (update_pick_2 k x1 x7 x8).bind fun y54 =>
  some y54.1
theorem update_Batch_s {k : Nat} {x1 : List M26} {x7 : Int} {x8 : Int} {p2 : Option Addr} {c3 : Nat} {d5 : Ch} {r : (List M26)} (hk : update_Batch k x1 x7 x8 = some r) {g w : World} {F : Ch} {ih : IH} (h4 : RSl e26 ih d5 p2 c3 x1) (h6 : ∀ q ∈ d5, q ∈ F) (hw : St g w [F] ih) :
    CallsR Tryz.prog 48 #[.slice p2 x1.length c3, .int .u64 x7, .int .i64 x8] w fun v w' => ∃ (ih' : IH) (p63 : Option Addr) (c64 : Nat) (d66 : Ch), v = .slice p63 r.length c64 ∧ St g w' [d66, F] ih' ∧ Le ih ih' ∧ OSl e26 ih' p63 c64 r d66 := by
  refine f_in (vs := [.slice p2 x1.length c3, .int .u64 x7, .int .i64 x8]) Tryz.func48 rfl 12 rfl (by kernel_rfl) [(0, .slice p2 x1.length c3), (1, .int .u64 x7), (2, .int .i64 x8)] (by kernel_rfl) fun a Qf hQ hQn hs => ?_
  refine c_seq ?_
  refine c_region ?_
  refine s_new hs hw [.int .u64 x7] 22 (fun b => .pointer (some ⟨b, 0, none⟩)) (by kernel_rfl) (fun _ => by kernel_rfl) fun a w b39 hs hw => ?_
  refine pures hs 1 [0, 2, 4] [(0, .slice p2 x1.length c3), (2, .int .i64 x8), (4, .pointer (some ⟨b39, 0, none⟩))] (by kernel_rfl) fun a hs => ?_
  refine s_end ?_
  refine c_seq ?_
  refine c_region ?_
  refine pures hs 1 [0, 4, 8] [(0, .slice p2 x1.length c3), (4, .pointer (some ⟨b39, 0, none⟩)), (8, .int .i64 x8)] (by kernel_rfl) fun a hs => ?_
  refine s_new hs hw [.int .i64 0] 3 (fun b => .pointer (some ⟨b, 0, none⟩)) (by kernel_rfl) (fun _ => by kernel_rfl) fun a w b43 hs hw => ?_
  refine s_store hs hw 0 rfl 0 (by kernel_rfl) (by kernel_rfl) (v := .int .i64 x8) (by kernel_rfl) (by kernel_rfl) (by kernel_rfl) (by kernel_rfl) fun a w hs hw => ?_
  refine s_end ?_
  refine c_seq ?_
  refine c_region ?_
  refine pures hs 2 [9, 10] [(9, .slice p2 x1.length c3), (10, .func (.func 54) #[] #[.pointer (some ⟨b39, 0, none⟩), .pointer (some ⟨b43, 0, none⟩)])] (by kernel_rfl) fun a hs => ?_
  obtain ⟨y54, h55, hk⟩ := bindE hk
  refine s_call hs (by kernel_rfl) (by kernel_rfl) (update_pick_2_s h55 h4 (fun q hq => memF 0 rfl q (h6 q hq)) ((hw.pick [1, 0, 2] (by kernel_rfl)).pack 2)) fun a w v hv hs => ?_
  obtain ⟨ih56, p58, c59, d61, rfl, hw, hle57, h60⟩ := hv
  replace hw := hw.unpack 3 rfl
  refine pures hs 1 [6] [(6, .slice p58 y54.1.length c59)] (by kernel_rfl) fun a hs => ?_
  refine s_end ?_
  refine c_ret ?_
  obtain rfl := someE hk
  refine hQ _ _ (f_ret1 hs rfl (v := .slice p58 y54.1.length c59) (by kernel_rfl) ⟨ih56, p58, c59, d61, rfl, hw.pick [0, 3] (by kernel_rfl), hle57, h60⟩)
def window_Window_Reach_r2 (x3 : Int) (y72 : Int) (x11 : Int) (x4 : Int) (x5 : List M26) (x95 : List M26) : Option ((List M26) × Int × Int × (List M26)) :=
  (window_Window_trim x3 (if (if y72 < x11 then y72 else x11) > x4 then (if y72 < x11 then y72 else x11) else x4) x5).bind fun y107 =>
  some (x95, y107.1, (if (if y72 < x11 then y72 else x11) > x4 then (if y72 < x11 then y72 else x11) else x4), y107.2)
def window_Window_Reach (k : Nat) (x3 : Int) (x4 : Int) (x5 : List M26) (x11 : Int) : Option ((List M26) × Int × Int × (List M26)) :=
  (window_Window_End x3 x5).bind fun y72 =>
  ((update_Batch k x5 x4 (IntKind.i64.wrap (IntKind.u64.wrap ((if (if y72 < x11 then y72 else x11) > x4 then (if y72 < x11 then y72 else x11) else x4) - x4)))).bind fun y116 =>
    some y116 : Option (List M26)).bind fun s125 => window_Window_Reach_r2 x3 y72 x11 x4 x5 s125
theorem window_Window_Reach_s {k : Nat} {x3 : Int} {x4 : Int} {x5 : List M26} {x11 : Int} {b2 : Nat} {p6 : Option Addr} {c7 : Nat} {d9 : Ch} {r : (List M26) × Int × Int × (List M26)} (hk : window_Window_Reach k x3 x4 x5 x11 = some r) {g w : World} {F : Ch} {ih : IH} (h8 : OSl e26 ih p6 c7 x5 d9) (hw : St g w [bx b2 [.int .u64 x3, .int .u64 x4, .slice p6 x5.length c7] 78, d9, F] ih) :
    CallsR Tryz.prog 26 #[.pointer (some ⟨b2, 0, none⟩), .int .u64 x11] w fun v w' => ∃ (ih' : IH) (p126 : Option Addr) (c127 : Nat) (d129 : Ch) (p131 : Option Addr) (c132 : Nat) (d133 : Ch), v = .slice p126 r.1.length c127 ∧ St g w' [d129, bx b2 [.int .u64 r.2.1, .int .u64 r.2.2.1, .slice p131 r.2.2.2.length c132] 78, d133, F] ih' ∧ Le ih ih' ∧ OSl e26 ih' p126 c127 r.1 d129 ∧ OSl e26 ih' p131 c132 r.2.2.2 d133 := by
  refine f_in (vs := [.pointer (some ⟨b2, 0, none⟩), .int .u64 x11]) Tryz.func26 rfl 38 rfl (by kernel_rfl) [(0, .pointer (some ⟨b2, 0, none⟩)), (1, .int .u64 x11)] (by kernel_rfl) fun a Qf hQ hQn hs => ?_
  refine c_seq ?_
  refine c_region ?_
  refine pures hs 1 [0, 1] [(0, .pointer (some ⟨b2, 0, none⟩)), (1, .int .u64 x11)] (by kernel_rfl) fun a hs => ?_
  refine s_end ?_
  refine c_seq ?_
  refine c_seq ?_
  refine c_region ?_
  refine pures hs 2 [0, 1, 8] [(0, .pointer (some ⟨b2, 0, none⟩)), (1, .int .u64 x11), (8, .bool false)] (by kernel_rfl) fun a hs => ?_
  refine s_end ?_
  refine c_condF hs (by kernel_rfl) (by kernel_rfl) ?_
  refine c_skip ?_
  refine c_seq ?_
  refine c_region ?_
  refine pures hs 3 [0, 1, 11] [(0, .pointer (some ⟨b2, 0, none⟩)), (1, .int .u64 x11), (11, .pointer (some ⟨b2, 1, none⟩))] (by kernel_rfl) fun a hs => ?_
  refine s_load hs (hw.at_ 0 rfl) 1 (by kernel_rfl) (by kernel_rfl) (v := .int .u64 x4) (by kernel_rfl) fun a hs => ?_
  refine pures hs 1 [0, 1, 5] [(0, .pointer (some ⟨b2, 0, none⟩)), (1, .int .u64 x11), (5, .int .u64 x4)] (by kernel_rfl) fun a hs => ?_
  refine s_end ?_
  refine c_seq ?_
  refine c_region ?_
  refine pures hs 4 [0, 5, 13, 14, 15, 16] [(0, .pointer (some ⟨b2, 0, none⟩)), (5, .int .u64 x4), (13, .pointer (some ⟨b2, 0, none⟩)), (14, .int .u64 x4), (15, .int .u64 x11), (16, .pointer (some ⟨b2, 0, none⟩))] (by kernel_rfl) fun a hs => ?_
  obtain ⟨y72, h73, hk⟩ := bindE hk
  refine s_call hs (by kernel_rfl) (by kernel_rfl) (window_Window_End_s (x4 := x4) h73 h8 ((hw.pick [0, 1, 2] (by kernel_rfl)).pack 2)) fun a w v hv hs => ?_
  obtain ⟨rfl, hw⟩ := hv
  replace hw := hw.unpack 2 rfl
  refine pures hs 4 [0, 5, 19, 21] [(0, .pointer (some ⟨b2, 0, none⟩)), (5, .int .u64 x4), (19, .int .u64 (if (if y72 < x11 then y72 else x11) > x4 then (if y72 < x11 then y72 else x11) else x4)), (21, .pointer (some ⟨b2, 1, none⟩))] (by kernel_rfl) fun a hs => ?_
  refine s_store hs hw 0 rfl 1 (by kernel_rfl) (by kernel_rfl) (v := .int .u64 (if (if y72 < x11 then y72 else x11) > x4 then (if y72 < x11 then y72 else x11) else x4)) (by kernel_rfl) (by kernel_rfl) (by kernel_rfl) (by kernel_rfl) fun a w hs hw => ?_
  refine s_end ?_
  refine c_seq ?_
  obtain ⟨S74, hS74, kS74⟩ := mkSX (X := [([], bx b2 [.int .u64 x3, .int .u64 (if (if y72 < x11 then y72 else x11) > x4 then (if y72 < x11 then y72 else x11) else x4), .slice p6 x5.length c7] 78), ([], d9), ([], F)]) (ih := ih) (K := []) rfl
  obtain ⟨y113, hx114, hk⟩ := bindE hk
  obtain ⟨J115, hJ115⟩ : ∃ J : Act → World → Prop, ∀ a w, J a w ↔ (∃ (x95 : List M26) (p96 : Option Addr) (c97 : Nat) (d99 : Ch) (ih93 : IH), window_Window_Reach_r2 x3 y72 x11 x4 x5 x95 = some r ∧ Sees a 38 [(0, .pointer (some ⟨b2, 0, none⟩)), (6, .slice p96 x95.length c97)] ∧ St g w [bx b2 [.int .u64 x3, .int .u64 (if (if y72 < x11 then y72 else x11) > x4 then (if y72 < x11 then y72 else x11) else x4), .slice p6 x5.length c7] 78, d99, d9, F] ih93 ∧ Le ih ih93 ∧ OSl e26 ih93 p96 c97 x95 d99) := ⟨_, fun _ _ => Iff.rfl⟩
  refine c_draw (by kernel_rfl) (N := 14) rfl S74 J115 ?_ ?_
  · have hw := hw.drew
    have hS : S74 (Array.replicate 14 false) _ := SX_now hS74 (hw.vws [0, 1, 2]) (by kernel_rfl)
    refine d_pures (fuel := 11) kS74 hs hS [0, 1, 2] [0, 5, 22, 23, 24] [(0, .pointer (some ⟨b2, 0, none⟩)), (5, .int .u64 x4), (22, .pointer (some ⟨b2, 0, none⟩)), (23, .pointer (some ⟨b2, 0, none⟩)), (24, .pointer (some ⟨b2, 2, none⟩))] (by kernel_rfl) fun a hs hS => ?_
    refine d_load (fuel := 10) kS74 hs hS 3 rfl (by kernel_rfl) (SX_box hS74 0 rfl (by kernel_rfl)) 2 (by kernel_rfl) (by kernel_rfl) (v := .slice p6 x5.length c7) (by kernel_rfl) fun a hs hS => ?_
    refine d_pures (fuel := 6) kS74 hs hS [4, 5, 6, 7] [0, 5, 22, 23, 24, 25, 26, 27, 28, 29] [(0, .pointer (some ⟨b2, 0, none⟩)), (5, .int .u64 x4), (22, .pointer (some ⟨b2, 0, none⟩)), (23, .pointer (some ⟨b2, 0, none⟩)), (24, .pointer (some ⟨b2, 2, none⟩)), (25, .slice p6 x5.length c7), (26, .int .u64 x4), (27, .pointer (some ⟨b2, 0, none⟩)), (28, .pointer (some ⟨b2, 0, none⟩)), (29, .pointer (some ⟨b2, 1, none⟩))] (by kernel_rfl) fun a hs hS => ?_
    refine d_load (fuel := 5) kS74 hs hS 8 rfl (by kernel_rfl) (SX_box hS74 0 rfl (by kernel_rfl)) 1 (by kernel_rfl) (by kernel_rfl) (v := .int .u64 (if (if y72 < x11 then y72 else x11) > x4 then (if y72 < x11 then y72 else x11) else x4)) (by kernel_rfl) fun a hs hS => ?_
    refine d_pures (fuel := 2) kS74 hs hS [9, 10, 11] [0, 5, 22, 23, 24, 25, 26, 27, 28, 29, 30, 31, 32, 33] [(0, .pointer (some ⟨b2, 0, none⟩)), (5, .int .u64 x4), (22, .pointer (some ⟨b2, 0, none⟩)), (23, .pointer (some ⟨b2, 0, none⟩)), (24, .pointer (some ⟨b2, 2, none⟩)), (25, .slice p6 x5.length c7), (26, .int .u64 x4), (27, .pointer (some ⟨b2, 0, none⟩)), (28, .pointer (some ⟨b2, 0, none⟩)), (29, .pointer (some ⟨b2, 1, none⟩)), (30, .int .u64 (if (if y72 < x11 then y72 else x11) > x4 then (if y72 < x11 then y72 else x11) else x4)), (31, .int .u64 x4), (32, .int .u64 (IntKind.u64.wrap ((if (if y72 < x11 then y72 else x11) > x4 then (if y72 < x11 then y72 else x11) else x4) - x4))), (33, .int .i64 (IntKind.i64.wrap (IntKind.u64.wrap ((if (if y72 < x11 then y72 else x11) > x4 then (if y72 < x11 then y72 else x11) else x4) - x4))))] (by kernel_rfl) fun a hs hS => ?_
    refine d_all (fuel := 1) (rs := [12]) (by kernel_rfl) (by simp) (all1 ?_)
    obtain ⟨y116, h117, hx114⟩ := bindE hx114
    refine o_call hs rfl (by kernel_rfl) (by kernel_rfl) (update_Batch_s h117 h8.read (memF 1 rfl) ((hw.pick [0, 1, 2] (by kernel_rfl)).pack 0)) fun a w v hv hs => ?_
    obtain ⟨ih118, p120, c121, d123, rfl, hw, hle119, h122⟩ := hv
    replace hw := hw.unpack 1 rfl
    refine dg_next (SX_now hS74 ((hw.vws [1, 2, 3]).anti hle119) (by kernel_rfl)) fun hS => ?_
    refine d_pures (fuel := 0) kS74 hs hS [13] [0, 5, 22, 23, 24, 25, 26, 27, 28, 29, 30, 31, 32, 33, 34, 6] [(0, .pointer (some ⟨b2, 0, none⟩)), (5, .int .u64 x4), (22, .pointer (some ⟨b2, 0, none⟩)), (23, .pointer (some ⟨b2, 0, none⟩)), (24, .pointer (some ⟨b2, 2, none⟩)), (25, .slice p6 x5.length c7), (26, .int .u64 x4), (27, .pointer (some ⟨b2, 0, none⟩)), (28, .pointer (some ⟨b2, 0, none⟩)), (29, .pointer (some ⟨b2, 1, none⟩)), (30, .int .u64 (if (if y72 < x11 then y72 else x11) > x4 then (if y72 < x11 then y72 else x11) else x4)), (31, .int .u64 x4), (32, .int .u64 (IntKind.u64.wrap ((if (if y72 < x11 then y72 else x11) > x4 then (if y72 < x11 then y72 else x11) else x4) - x4))), (33, .int .i64 (IntKind.i64.wrap (IntKind.u64.wrap ((if (if y72 < x11 then y72 else x11) > x4 then (if y72 < x11 then y72 else x11) else x4) - x4)))), (34, .slice p120 y116.length c121), (6, .slice p120 y116.length c121)] (by kernel_rfl) fun a hs hS => ?_
    refine d_done (by kernel_rfl) ?_
    obtain rfl := someE hx114
    exact (hJ115 _ _).2 ⟨y116, p120, c121, d123, ih118, hk, hs.cast [0, 6] (by kernel_rfl), hw.pick [1, 0, 2, 3] (by kernel_rfl), hle119, h122⟩
  intro a w hh
  obtain ⟨x95, p96, c97, d99, ih93, hk, hs, hw, hle94, h98⟩ := (hJ115 _ _).1 hh
  refine c_seq ?_
  refine c_region ?_
  refine pures hs 1 [6, 35] [(6, .slice p96 x95.length c97), (35, .pointer (some ⟨b2, 0, none⟩))] (by kernel_rfl) fun a hs => ?_
  obtain ⟨y107, h108, hk⟩ := bindE hk
  refine s_call hs (by kernel_rfl) (by kernel_rfl) (window_Window_trim_s h108 (h8.mono hle94) ((hw.pick [0, 2, 1, 3] (by kernel_rfl)).pack 2)) fun a w v hv hs => ?_
  obtain ⟨p109, c110, d112, rfl, hw, h111⟩ := hv
  replace hw := hw.unpack 2 rfl
  refine s_end ?_
  refine c_seq ?_
  refine c_region ?_
  refine pures hs 2 [4] [(4, .slice p96 x95.length c97)] (by kernel_rfl) fun a hs => ?_
  refine s_end ?_
  refine c_ret ?_
  obtain rfl := someE hk
  refine hQ _ _ (f_ret1 hs rfl (v := .slice p96 x95.length c97) (by kernel_rfl) ⟨ih93, p96, c97, d99, p109, c110, d112, rfl, hw.pick [2, 0, 1, 3] (by kernel_rfl), hle94, h98, h111⟩)
def window_Window_Done (x4 : Int) : Option Int :=
  some x4
theorem window_Window_Done_s {x3 : Int} {x4 : Int} {x5 : List M26} {b2 : Nat} {p6 : Option Addr} {c7 : Nat} {d9 : Ch} {r : Int} (hk : window_Window_Done x4 = some r) {g w : World} {F : Ch} {ih : IH} (h8 : OSl e26 ih p6 c7 x5 d9) (hw : St g w [bx b2 [.int .u64 x3, .int .u64 x4, .slice p6 x5.length c7] 78, d9, F] ih) :
    CallsR Tryz.prog 27 #[.pointer (some ⟨b2, 0, none⟩)] w fun v w' => v = .int .u64 r ∧ St g w' [bx b2 [.int .u64 x3, .int .u64 x4, .slice p6 x5.length c7] 78, d9, F] ih := by
  refine f_in (vs := [.pointer (some ⟨b2, 0, none⟩)]) Tryz.func27 rfl 9 rfl (by kernel_rfl) [(0, .pointer (some ⟨b2, 0, none⟩))] (by kernel_rfl) fun a Qf hQ hQn hs => ?_
  refine c_seq ?_
  refine c_region ?_
  refine pures hs 1 [0] [(0, .pointer (some ⟨b2, 0, none⟩))] (by kernel_rfl) fun a hs => ?_
  refine s_end ?_
  refine c_seq ?_
  refine c_seq ?_
  refine c_region ?_
  refine pures hs 2 [0, 4] [(0, .pointer (some ⟨b2, 0, none⟩)), (4, .bool false)] (by kernel_rfl) fun a hs => ?_
  refine s_end ?_
  refine c_condF hs (by kernel_rfl) (by kernel_rfl) ?_
  refine c_skip ?_
  refine c_seq ?_
  refine c_region ?_
  refine pures hs 3 [7] [(7, .pointer (some ⟨b2, 1, none⟩))] (by kernel_rfl) fun a hs => ?_
  refine s_load hs (hw.at_ 0 rfl) 1 (by kernel_rfl) (by kernel_rfl) (v := .int .u64 x4) (by kernel_rfl) fun a hs => ?_
  refine pures hs 1 [2] [(2, .int .u64 x4)] (by kernel_rfl) fun a hs => ?_
  refine s_end ?_
  refine c_ret ?_
  obtain rfl := someE hk
  refine hQ _ _ (f_ret1 hs rfl (v := .int .u64 x4) (by kernel_rfl) ⟨rfl, hw.pick [0, 1, 2] (by kernel_rfl)⟩)
def window_Window_Dirty (x3 : Int) (x4 : Int) (x5 : List M26) : Option Int :=
  (window_Window_End x3 x5).bind fun y25 =>
  (window_Window_Done x4).bind fun y27 =>
  some (IntKind.i64.wrap (IntKind.u64.wrap (y25 - y27)))
theorem window_Window_Dirty_s {x3 : Int} {x4 : Int} {x5 : List M26} {b2 : Nat} {p6 : Option Addr} {c7 : Nat} {d9 : Ch} {r : Int} (hk : window_Window_Dirty x3 x4 x5 = some r) {g w : World} {F : Ch} {ih : IH} (h8 : OSl e26 ih p6 c7 x5 d9) (hw : St g w [bx b2 [.int .u64 x3, .int .u64 x4, .slice p6 x5.length c7] 78, d9, F] ih) :
    CallsR Tryz.prog 29 #[.pointer (some ⟨b2, 0, none⟩)] w fun v w' => v = .int .i64 r ∧ St g w' [bx b2 [.int .u64 x3, .int .u64 x4, .slice p6 x5.length c7] 78, d9, F] ih := by
  refine f_in (vs := [.pointer (some ⟨b2, 0, none⟩)]) Tryz.func29 rfl 9 rfl (by kernel_rfl) [(0, .pointer (some ⟨b2, 0, none⟩))] (by kernel_rfl) fun a Qf hQ hQn hs => ?_
  refine c_seq ?_
  refine c_region ?_
  refine pures hs 1 [0] [(0, .pointer (some ⟨b2, 0, none⟩))] (by kernel_rfl) fun a hs => ?_
  refine s_end ?_
  refine c_seq ?_
  refine c_region ?_
  refine pures hs 1 [0, 3] [(0, .pointer (some ⟨b2, 0, none⟩)), (3, .pointer (some ⟨b2, 0, none⟩))] (by kernel_rfl) fun a hs => ?_
  obtain ⟨y25, h26, hk⟩ := bindE hk
  refine s_call hs (by kernel_rfl) (by kernel_rfl) (window_Window_End_s (x4 := x4) h26 h8 ((hw.pick [0, 1, 2] (by kernel_rfl)).pack 2)) fun a w v hv hs => ?_
  obtain ⟨rfl, hw⟩ := hv
  replace hw := hw.unpack 2 rfl
  refine pures hs 1 [4, 5] [(4, .int .u64 y25), (5, .pointer (some ⟨b2, 0, none⟩))] (by kernel_rfl) fun a hs => ?_
  obtain ⟨y27, h28, hk⟩ := bindE hk
  refine s_call hs (by kernel_rfl) (by kernel_rfl) (window_Window_Done_s (x3 := x3) (x5 := x5) h28 h8 ((hw.pick [0, 1, 2] (by kernel_rfl)).pack 2)) fun a w v hv hs => ?_
  obtain ⟨rfl, hw⟩ := hv
  replace hw := hw.unpack 2 rfl
  refine pures hs 3 [2] [(2, .int .i64 (IntKind.i64.wrap (IntKind.u64.wrap (y25 - y27))))] (by kernel_rfl) fun a hs => ?_
  refine s_end ?_
  refine c_ret ?_
  obtain rfl := someE hk
  refine hQ _ _ (f_ret1 hs rfl (v := .int .i64 (IntKind.i64.wrap (IntKind.u64.wrap (y25 - y27)))) (by kernel_rfl) ⟨rfl, hw.pick [0, 1, 2] (by kernel_rfl)⟩)
def catenarylaw20_awake_r2 (x270 : Bool) : Option Bool :=
  some x270
def catenarylaw20_awake (k : Nat) : Option Bool :=
  (window_New 5).bind fun y155 =>
  (catenarylaw20_one 6).bind fun y190 =>
  (window_Window_Add k y155.1 y155.2.1 y155.2.2 y190).bind fun y195 =>
  (catenarylaw20_one 7).bind fun y203 =>
  (window_Window_Add k y195.2.1 y155.2.1 y195.2.2 y203).bind fun y208 =>
  (window_Window_Reach k y208.2.1 y155.2.1 y208.2.2 6).bind fun y229 =>
  (if (y195.1 == 0) = true then (
      if (y208.1 == 0) = true then (
        if ((y229.1.length : Int) == 1) = true then (
          (ix y229.1 0).bind fun x277 =>
          if (x277.f0 == 6) = true then (
            (window_Window_Dirty y229.2.1 y229.2.2.1 y229.2.2.2).bind fun y286 =>
            some (y286 == 1))
          else some false)
        else some false)
      else some false)
    else some false : Option Bool).bind fun s288 => catenarylaw20_awake_r2 s288
theorem catenarylaw20_awake_s {k : Nat} {r : Bool} (hk : catenarylaw20_awake k = some r) {g w : World} {F : Ch} {ih : IH} (hG : Glob 0 gl0 110 ih) (hw : St g w [F] ih) :
    CallsR Tryz.prog 31 #[] w fun v w' => ∃ (ih' : IH), v = .bool r ∧ St g w' [F] ih' ∧ Le ih ih' := by
  refine f_in (vs := []) Tryz.func31 rfl 37 rfl (by kernel_rfl) [] (by kernel_rfl) fun a Qf hQ hQn hs => ?_
  refine c_seq ?_
  refine c_region ?_
  refine pures hs 1 [] [] (by kernel_rfl) fun a hs => ?_
  refine s_end ?_
  refine c_seq ?_
  refine c_region ?_
  obtain ⟨y155, h156, hk⟩ := bindE hk
  refine s_call hs (by kernel_rfl) (by kernel_rfl) (window_New_s h156 ((hw.pick [0] (by kernel_rfl)).pack 0)) fun a w v hv hs => ?_
  obtain ⟨b157, p159, c160, d162, rfl, hw, h161⟩ := hv
  replace hw := hw.unpack 2 rfl
  refine pures hs 1 [1] [(1, .pointer (some ⟨b157, 0, none⟩))] (by kernel_rfl) fun a hs => ?_
  refine s_end ?_
  refine c_seq ?_
  refine c_region ?_
  refine pures hs 1 [1, 6] [(1, .pointer (some ⟨b157, 0, none⟩)), (6, .pointer (some ⟨b157, 0, none⟩))] (by kernel_rfl) fun a hs => ?_
  obtain ⟨y190, h191, hk⟩ := bindE hk
  refine s_call hs (by kernel_rfl) (by kernel_rfl) (catenarylaw20_one_s h191 ((hw.pick [0, 1, 2] (by kernel_rfl)).pack 0)) fun a w v hv hs => ?_
  obtain ⟨p192, c193, rfl, hw, h194⟩ := hv
  replace hw := hw.unpack 0 rfl
  obtain ⟨y195, h196, hk⟩ := bindE hk
  refine s_call hs (by kernel_rfl) (by kernel_rfl) (window_Window_Add_s h196 h161 h194 (hG.mono (Le.refl _)) ((hw.pick [0, 1, 2] (by kernel_rfl)).pack 2)) fun a w v hv hs => ?_
  obtain ⟨ih197, p199, c200, d202, rfl, hw, hle198, h201⟩ := hv
  replace hw := hw.unpack 2 rfl
  refine pures hs 1 [1, 8, 9] [(1, .pointer (some ⟨b157, 0, none⟩)), (8, .int .i64 y195.1), (9, .pointer (some ⟨b157, 0, none⟩))] (by kernel_rfl) fun a hs => ?_
  obtain ⟨y203, h204, hk⟩ := bindE hk
  refine s_call hs (by kernel_rfl) (by kernel_rfl) (catenarylaw20_one_s h204 ((hw.pick [0, 1, 2] (by kernel_rfl)).pack 0)) fun a w v hv hs => ?_
  obtain ⟨p205, c206, rfl, hw, h207⟩ := hv
  replace hw := hw.unpack 0 rfl
  obtain ⟨y208, h209, hk⟩ := bindE hk
  refine s_call hs (by kernel_rfl) (by kernel_rfl) (window_Window_Add_s h209 h201 h207 (hG.mono hle198) ((hw.pick [0, 1, 2] (by kernel_rfl)).pack 2)) fun a w v hv hs => ?_
  obtain ⟨ih210, p212, c213, d215, rfl, hw, hle211, h214⟩ := hv
  replace hw := hw.unpack 2 rfl
  refine pures hs 2 [1, 2, 3] [(1, .pointer (some ⟨b157, 0, none⟩)), (2, .int .i64 y195.1), (3, .int .i64 y208.1)] (by kernel_rfl) fun a hs => ?_
  refine s_end ?_
  refine c_seq ?_
  refine c_region ?_
  refine pures hs 1 [1, 2, 3, 12] [(1, .pointer (some ⟨b157, 0, none⟩)), (2, .int .i64 y195.1), (3, .int .i64 y208.1), (12, .pointer (some ⟨b157, 0, none⟩))] (by kernel_rfl) fun a hs => ?_
  obtain ⟨y229, h230, hk⟩ := bindE hk
  refine s_call hs (by kernel_rfl) (by kernel_rfl) (window_Window_Reach_s h230 h214 ((hw.pick [0, 1, 2] (by kernel_rfl)).pack 2)) fun a w v hv hs => ?_
  obtain ⟨ih231, p233, c234, d236, p238, c239, d241, rfl, hw, hle232, h235, h240⟩ := hv
  replace hw := hw.unpack 3 rfl
  refine pures hs 1 [1, 2, 3, 4] [(1, .pointer (some ⟨b157, 0, none⟩)), (2, .int .i64 y195.1), (3, .int .i64 y208.1), (4, .slice p233 y229.1.length c234)] (by kernel_rfl) fun a hs => ?_
  refine s_end ?_
  refine c_seq ?_
  obtain ⟨y271, hx272, hk⟩ := bindE hk
  obtain ⟨J273, hJ273⟩ : ∃ J : Act → World → Prop, ∀ a w, J a w ↔ (∃ (x270 : Bool), catenarylaw20_awake_r2 x270 = some r ∧ Sees a 37 [(0, .bool x270)] ∧ St g w [F] ih231) := ⟨_, fun _ _ => Iff.rfl⟩
  refine c_regJ J273 ?_ ?_
  · refine pures hs 3 [1, 3, 4, 16] [(1, .pointer (some ⟨b157, 0, none⟩)), (3, .int .i64 y208.1), (4, .slice p233 y229.1.length c234), (16, .bool (y195.1 == 0))] (by kernel_rfl) fun a hs => ?_
    rcases ifbE hx272 with ⟨h274, hx272⟩ | ⟨h274, hx272⟩
    · replace hs := hs.altB 16 true (by kernel_rfl) h274
      refine pures hs 4 [1, 4, 20] [(1, .pointer (some ⟨b157, 0, none⟩)), (4, .slice p233 y229.1.length c234), (20, .bool (y208.1 == 0))] (by kernel_rfl) fun a hs => ?_
      rcases ifbE hx272 with ⟨h275, hx272⟩ | ⟨h275, hx272⟩
      · replace hs := hs.altB 20 true (by kernel_rfl) h275
        refine pures hs 5 [1, 4, 25] [(1, .pointer (some ⟨b157, 0, none⟩)), (4, .slice p233 y229.1.length c234), (25, .bool ((y229.1.length : Int) == 1))] (by kernel_rfl) fun a hs => ?_
        rcases ifbE hx272 with ⟨h276, hx272⟩ | ⟨h276, hx272⟩
        · replace hs := hs.altB 25 true (by kernel_rfl) h276
          refine pures hs 1 [1, 25, 26] [(1, .pointer (some ⟨b157, 0, none⟩)), (25, .bool true), (26, .slice p233 y229.1.length c234)] (by kernel_rfl) fun a hs => ?_
          obtain ⟨x277, h278, hx272⟩ := bindE hx272
          refine s_indexO hs h235 (by kernel_rfl) (by kernel_rfl) (k := .i64) (by kernel_rfl) 26 (by kernel_rfl) (by kernel_rfl) h278 fun a r279 cs henc at280 h284 hs => ?_
          obtain ⟨p281, c282, rfl, h283⟩ := henc
          refine pures hs 1 [1, 25, 28] [(1, .pointer (some ⟨b157, 0, none⟩)), (25, .bool true), (28, .pointer (some r279))] (by kernel_rfl) fun a hs => ?_
          refine s_load hs (at280 _ ((hw.vw 0 rfl).anti (Le.refl _))) 0 (by kernel_rfl) (by kernel_rfl) (v := .int .u64 x277.f0) (by kernel_rfl) fun a hs => ?_
          refine pures hs 3 [1, 32] [(1, .pointer (some ⟨b157, 0, none⟩)), (32, .bool (x277.f0 == 6))] (by kernel_rfl) fun a hs => ?_
          rcases ifbE hx272 with ⟨h285, hx272⟩ | ⟨h285, hx272⟩
          · replace hs := hs.altB 32 true (by kernel_rfl) h285
            refine pures hs 1 [32, 33] [(32, .bool true), (33, .pointer (some ⟨b157, 0, none⟩))] (by kernel_rfl) fun a hs => ?_
            obtain ⟨y286, h287, hx272⟩ := bindE hx272
            refine s_call hs (by kernel_rfl) (by kernel_rfl) (window_Window_Dirty_s h287 h240 ((hw.pick [1, 2, 3] (by kernel_rfl)).pack 2)) fun a w v hv hs => ?_
            obtain ⟨rfl, hw⟩ := hv
            replace hw := hw.unpack 2 rfl
            refine pures hs 3 [0] [(0, .bool (y286 == 1))] (by kernel_rfl) fun a hs => ?_
            refine s_end ?_
            obtain rfl := someE hx272
            exact (hJ273 _ _).2 ⟨(y286 == 1), hk, hs.cast [0] (by kernel_rfl), hw.pick [2] (by kernel_rfl)⟩
          replace hs := hs.altB 32 false (by kernel_rfl) h285
          refine pures hs 5 [0] [(0, .bool false)] (by kernel_rfl) fun a hs => ?_
          refine s_end ?_
          obtain rfl := someE hx272
          exact (hJ273 _ _).2 ⟨false, hk, hs.cast [0] (by kernel_rfl), hw.pick [3] (by kernel_rfl)⟩
        replace hs := hs.altB 25 false (by kernel_rfl) h276
        refine pures hs 12 [0] [(0, .bool false)] (by kernel_rfl) fun a hs => ?_
        refine s_end ?_
        obtain rfl := someE hx272
        exact (hJ273 _ _).2 ⟨false, hk, hs.cast [0] (by kernel_rfl), hw.pick [3] (by kernel_rfl)⟩
      replace hs := hs.altB 20 false (by kernel_rfl) h275
      refine pures hs 17 [0] [(0, .bool false)] (by kernel_rfl) fun a hs => ?_
      refine s_end ?_
      obtain rfl := someE hx272
      exact (hJ273 _ _).2 ⟨false, hk, hs.cast [0] (by kernel_rfl), hw.pick [3] (by kernel_rfl)⟩
    replace hs := hs.altB 16 false (by kernel_rfl) h274
    refine pures hs 21 [0] [(0, .bool false)] (by kernel_rfl) fun a hs => ?_
    refine s_end ?_
    obtain rfl := someE hx272
    exact (hJ273 _ _).2 ⟨false, hk, hs.cast [0] (by kernel_rfl), hw.pick [3] (by kernel_rfl)⟩
  intro a w hh
  obtain ⟨x270, hk, hs, hw⟩ := (hJ273 _ _).1 hh
  refine c_ret ?_
  obtain rfl := someE hk
  refine hQ _ _ (f_ret1 hs rfl (v := .bool x270) (by kernel_rfl) ⟨ih231, rfl, hw.pick [0] (by kernel_rfl), ((hle198.trans hle211).trans hle232)⟩)
def catenaryref20_New (x1 : Int) : Option M58 :=
  some (M58.mk x1 x1 x1 ([]))
theorem catenaryref20_New_s {x1 : Int} {r : M58} (hk : catenaryref20_New x1 = some r) {g w : World} {F : Ch} {ih : IH} (hw : St g w [F] ih) :
    CallsR Tryz.prog 32 #[.int .u64 x1] w fun v w' => ∃ (p12 : Option Addr) (c13 : Nat), v = .agg #[.int .u64 r.f0, .int .u64 r.f1, .int .u64 r.f2, .slice p12 r.f3.length c13] ∧ St g w' [F] ih ∧ RSl e26 ih [] p12 c13 r.f3 := by
  refine f_in (vs := [.int .u64 x1]) Tryz.func32 rfl 7 rfl (by kernel_rfl) [(0, .int .u64 x1)] (by kernel_rfl) fun a Qf hQ hQn hs => ?_
  refine c_seq ?_
  refine c_region ?_
  refine s_new hs hw [.int .u64 0, .int .u64 0, .int .u64 0, .slice none 0 0] 58 (fun b => .pointer (some ⟨b, 0, none⟩)) (by kernel_rfl) (fun _ => by kernel_rfl) fun a w b10 hs hw => ?_
  refine s_end ?_
  refine c_seq ?_
  refine c_region ?_
  refine pures hs 4 [2, 6] [(2, .pointer (some ⟨b10, 0, none⟩)), (6, .agg #[.int .u64 x1, .int .u64 x1, .int .u64 x1, .slice none 0 0])] (by kernel_rfl) fun a hs => ?_
  refine s_store hs hw 0 rfl 0 (by kernel_rfl) (by kernel_rfl) (v := .agg #[.int .u64 x1, .int .u64 x1, .int .u64 x1, .slice none 0 0]) (by kernel_rfl) (by kernel_rfl) (by kernel_rfl) (by kernel_rfl) fun a w hs hw => ?_
  refine s_end ?_
  refine c_ret ?_
  obtain rfl := someE hk
  refine hQ _ _ (f_retC hs rfl (hw.at_ 0 rfl) (by kernel_rfl) (v := .agg #[.int .u64 x1, .int .u64 x1, .int .u64 x1, .slice none 0 0]) (by kernel_rfl) ⟨none, 0, rfl, hw.pick [1] (by kernel_rfl), (RSl.nil _ _ _)⟩)
def catenaryref17_check (x1 : M26) (x5 : Bool) : Option Int :=
  if ((x1.f3 != 2) && (x1.f3 != 3)) = true then some 1
  else if (decide ((x1.f6.length : Int) > 2048)) = true then some 6
  else if ((!((decide (x1.f0 > 0)) == x5)) || ((decide (x1.f1 < 1)) || ((decide (x1.f1 > 6)) || ((x1.f2 == 0) || ((x1.f3 == 2) && (decide (x1.f5 > 0))))))) = true then some 4
  else some 0
theorem catenaryref17_check_s {x1 : M26} {x5 : Bool} {p2 : Option Addr} {c3 : Nat} {r : Int} (hk : catenaryref17_check x1 x5 = some r) {g w : World} {F : Ch} {ih : IH} (h4 : RSl e5 ih [] p2 c3 x1.f6) (hw : St g w [F] ih) :
    CallsR Tryz.prog 44 #[.agg #[.int .u64 x1.f0, .int .i64 x1.f1, .int .u64 x1.f2, .int .i64 x1.f3, .int .u32 x1.f4, .int .u64 x1.f5, .slice p2 x1.f6.length c3], .bool x5] w fun v w' => v = .int .i64 r ∧ St g w' [F] ih := by
  refine f_in (vs := [.agg #[.int .u64 x1.f0, .int .i64 x1.f1, .int .u64 x1.f2, .int .i64 x1.f3, .int .u32 x1.f4, .int .u64 x1.f5, .slice p2 x1.f6.length c3], .bool x5]) Tryz.func44 rfl 47 rfl (by kernel_rfl) [(0, .agg #[.int .u64 x1.f0, .int .i64 x1.f1, .int .u64 x1.f2, .int .i64 x1.f3, .int .u32 x1.f4, .int .u64 x1.f5, .slice p2 x1.f6.length c3]), (1, .bool x5)] (by kernel_rfl) fun a Qf hQ hQn hs => ?_
  refine c_seq ?_
  refine c_region ?_
  refine s_new hs hw [.int .u64 x1.f0, .int .i64 x1.f1, .int .u64 x1.f2, .int .i64 x1.f3, .int .u32 x1.f4, .int .u64 x1.f5, .slice p2 x1.f6.length c3] 26 (fun b => .pointer (some ⟨b, 0, none⟩)) (by kernel_rfl) (fun _ => by kernel_rfl) fun a w b39 hs hw => ?_
  refine pures hs 1 [1, 2] [(1, .bool x5), (2, .pointer (some ⟨b39, 0, none⟩))] (by kernel_rfl) fun a hs => ?_
  refine s_end ?_
  refine c_seq ?_
  refine c_seq ?_
  obtain ⟨J44, hJ44⟩ : ∃ J : Act → World → Prop, ∀ a w, J a w ↔ (Sees a 47 [(1, .bool x5), (2, .pointer (some ⟨b39, 0, none⟩)), (12, .bool ((x1.f3 != 2) && (x1.f3 != 3)))] ∧ St g w [bx b39 [.int .u64 x1.f0, .int .i64 x1.f1, .int .u64 x1.f2, .int .i64 x1.f3, .int .u32 x1.f4, .int .u64 x1.f5, .slice p2 x1.f6.length c3] 26, F] ih) := ⟨_, fun _ _ => Iff.rfl⟩
  refine c_regJ J44 ?_ ?_
  · refine pures hs 1 [1, 2, 5] [(1, .bool x5), (2, .pointer (some ⟨b39, 0, none⟩)), (5, .pointer (some ⟨b39, 3, none⟩))] (by kernel_rfl) fun a hs => ?_
    refine s_load hs (hw.at_ 0 rfl) 3 (by kernel_rfl) (by kernel_rfl) (v := .int .i64 x1.f3) (by kernel_rfl) fun a hs => ?_
    refine pures hs 2 [1, 2, 8] [(1, .bool x5), (2, .pointer (some ⟨b39, 0, none⟩)), (8, .bool (x1.f3 != 2))] (by kernel_rfl) fun a hs => ?_
    rcases boolE (x1.f3 != 2) with h45 | h45
    · replace hs := hs.altB 8 true (by kernel_rfl) h45
      refine pures hs 1 [1, 2, 8, 9] [(1, .bool x5), (2, .pointer (some ⟨b39, 0, none⟩)), (8, .bool true), (9, .pointer (some ⟨b39, 3, none⟩))] (by kernel_rfl) fun a hs => ?_
      refine s_load hs (hw.at_ 0 rfl) 3 (by kernel_rfl) (by kernel_rfl) (v := .int .i64 x1.f3) (by kernel_rfl) fun a hs => ?_
      refine pures hs 2 [1, 2, 12] [(1, .bool x5), (2, .pointer (some ⟨b39, 0, none⟩)), (12, .bool (x1.f3 != 3))] (by kernel_rfl) fun a hs => ?_
      refine s_end ?_
      exact (hJ44 _ _).2 ⟨(hs.altB 12 ((x1.f3 != 2) && (x1.f3 != 3)) (by kernel_rfl) (by rw [h45] <;> rfl)).cast [1, 2, 12] (by kernel_rfl), hw.pick [0, 1] (by kernel_rfl)⟩
    replace hs := hs.altB 8 false (by kernel_rfl) h45
    refine pures hs 4 [1, 2, 12] [(1, .bool x5), (2, .pointer (some ⟨b39, 0, none⟩)), (12, .bool false)] (by kernel_rfl) fun a hs => ?_
    refine s_end ?_
    exact (hJ44 _ _).2 ⟨(hs.altB 12 ((x1.f3 != 2) && (x1.f3 != 3)) (by kernel_rfl) (by rw [h45] <;> rfl)).cast [1, 2, 12] (by kernel_rfl), hw.pick [0, 1] (by kernel_rfl)⟩
  intro a w hh
  obtain ⟨hs, hw⟩ := (hJ44 _ _).1 hh
  rcases ifbE hk with ⟨h46, hk⟩ | ⟨h46, hk⟩
  · refine c_cond1 hs (by kernel_rfl) (t := ((x1.f3 != 2) && (x1.f3 != 3))) (by kernel_rfl) h46 ?_
    refine c_seq ?_
    refine c_region ?_
    refine pures hs 1 [4] [(4, .int .i64 1)] (by kernel_rfl) fun a hs => ?_
    refine s_end ?_
    refine c_ret ?_
    obtain rfl := someE hk
    refine hQ _ _ (f_ret1 hs rfl (v := .int .i64 1) (by kernel_rfl) ⟨rfl, hw.pick [1] (by kernel_rfl)⟩)
  refine c_cond0 hs (by kernel_rfl) (t := ((x1.f3 != 2) && (x1.f3 != 3))) (by kernel_rfl) h46 ?_
  refine c_skip ?_
  refine c_seq ?_
  refine c_seq ?_
  refine c_region ?_
  refine pures hs 1 [1, 2, 13] [(1, .bool x5), (2, .pointer (some ⟨b39, 0, none⟩)), (13, .pointer (some ⟨b39, 6, none⟩))] (by kernel_rfl) fun a hs => ?_
  refine s_load hs (hw.at_ 0 rfl) 6 (by kernel_rfl) (by kernel_rfl) (v := .slice p2 x1.f6.length c3) (by kernel_rfl) fun a hs => ?_
  refine pures hs 2 [1, 2, 16] [(1, .bool x5), (2, .pointer (some ⟨b39, 0, none⟩)), (16, .bool (decide ((x1.f6.length : Int) > 2048)))] (by kernel_rfl) fun a hs => ?_
  refine s_end ?_
  rcases ifbE hk with ⟨h47, hk⟩ | ⟨h47, hk⟩
  · refine c_cond1 hs (by kernel_rfl) (t := (decide ((x1.f6.length : Int) > 2048))) (by kernel_rfl) h47 ?_
    refine c_seq ?_
    refine c_region ?_
    refine pures hs 1 [4] [(4, .int .i64 6)] (by kernel_rfl) fun a hs => ?_
    refine s_end ?_
    refine c_ret ?_
    obtain rfl := someE hk
    refine hQ _ _ (f_ret1 hs rfl (v := .int .i64 6) (by kernel_rfl) ⟨rfl, hw.pick [1] (by kernel_rfl)⟩)
  refine c_cond0 hs (by kernel_rfl) (t := (decide ((x1.f6.length : Int) > 2048))) (by kernel_rfl) h47 ?_
  refine c_skip ?_
  refine c_seq ?_
  refine c_seq ?_
  obtain ⟨J59, hJ59⟩ : ∃ J : Act → World → Prop, ∀ a w, J a w ↔ (Sees a 47 [(46, .bool ((!((decide (x1.f0 > 0)) == x5)) || ((decide (x1.f1 < 1)) || ((decide (x1.f1 > 6)) || ((x1.f2 == 0) || ((x1.f3 == 2) && (decide (x1.f5 > 0))))))))] ∧ St g w [F] ih) := ⟨_, fun _ _ => Iff.rfl⟩
  refine c_regJ J59 ?_ ?_
  · refine pures hs 1 [1, 2, 17] [(1, .bool x5), (2, .pointer (some ⟨b39, 0, none⟩)), (17, .pointer (some ⟨b39, 0, none⟩))] (by kernel_rfl) fun a hs => ?_
    refine s_load hs (hw.at_ 0 rfl) 0 (by kernel_rfl) (by kernel_rfl) (v := .int .u64 x1.f0) (by kernel_rfl) fun a hs => ?_
    refine pures hs 4 [2, 22] [(2, .pointer (some ⟨b39, 0, none⟩)), (22, .bool (!((decide (x1.f0 > 0)) == x5)))] (by kernel_rfl) fun a hs => ?_
    rcases boolE (!((decide (x1.f0 > 0)) == x5)) with h60 | h60
    · replace hs := hs.altB 22 true (by kernel_rfl) h60
      refine pures hs 24 [46] [(46, .bool true)] (by kernel_rfl) fun a hs => ?_
      refine s_end ?_
      exact (hJ59 _ _).2 ⟨(hs.altB 46 ((!((decide (x1.f0 > 0)) == x5)) || ((decide (x1.f1 < 1)) || ((decide (x1.f1 > 6)) || ((x1.f2 == 0) || ((x1.f3 == 2) && (decide (x1.f5 > 0))))))) (by kernel_rfl) (by rw [h60] <;> rfl)).cast [46] (by kernel_rfl), hw.pick [1] (by kernel_rfl)⟩
    replace hs := hs.altB 22 false (by kernel_rfl) h60
    refine pures hs 1 [2, 22, 23] [(2, .pointer (some ⟨b39, 0, none⟩)), (22, .bool false), (23, .pointer (some ⟨b39, 1, none⟩))] (by kernel_rfl) fun a hs => ?_
    refine s_load hs (hw.at_ 0 rfl) 1 (by kernel_rfl) (by kernel_rfl) (v := .int .i64 x1.f1) (by kernel_rfl) fun a hs => ?_
    refine pures hs 3 [2, 27] [(2, .pointer (some ⟨b39, 0, none⟩)), (27, .bool (decide (x1.f1 < 1)))] (by kernel_rfl) fun a hs => ?_
    rcases boolE (decide (x1.f1 < 1)) with h61 | h61
    · replace hs := hs.altB 27 true (by kernel_rfl) h61
      refine pures hs 19 [46] [(46, .bool true)] (by kernel_rfl) fun a hs => ?_
      refine s_end ?_
      exact (hJ59 _ _).2 ⟨(hs.altB 46 ((!((decide (x1.f0 > 0)) == x5)) || ((decide (x1.f1 < 1)) || ((decide (x1.f1 > 6)) || ((x1.f2 == 0) || ((x1.f3 == 2) && (decide (x1.f5 > 0))))))) (by kernel_rfl) (by rw [h60, h61] <;> rfl)).cast [46] (by kernel_rfl), hw.pick [1] (by kernel_rfl)⟩
    replace hs := hs.altB 27 false (by kernel_rfl) h61
    refine pures hs 1 [2, 27, 28] [(2, .pointer (some ⟨b39, 0, none⟩)), (27, .bool false), (28, .pointer (some ⟨b39, 1, none⟩))] (by kernel_rfl) fun a hs => ?_
    refine s_load hs (hw.at_ 0 rfl) 1 (by kernel_rfl) (by kernel_rfl) (v := .int .i64 x1.f1) (by kernel_rfl) fun a hs => ?_
    refine pures hs 3 [2, 32] [(2, .pointer (some ⟨b39, 0, none⟩)), (32, .bool (decide (x1.f1 > 6)))] (by kernel_rfl) fun a hs => ?_
    rcases boolE (decide (x1.f1 > 6)) with h62 | h62
    · replace hs := hs.altB 32 true (by kernel_rfl) h62
      refine pures hs 14 [46] [(46, .bool true)] (by kernel_rfl) fun a hs => ?_
      refine s_end ?_
      exact (hJ59 _ _).2 ⟨(hs.altB 46 ((!((decide (x1.f0 > 0)) == x5)) || ((decide (x1.f1 < 1)) || ((decide (x1.f1 > 6)) || ((x1.f2 == 0) || ((x1.f3 == 2) && (decide (x1.f5 > 0))))))) (by kernel_rfl) (by rw [h60, h61, h62] <;> rfl)).cast [46] (by kernel_rfl), hw.pick [1] (by kernel_rfl)⟩
    replace hs := hs.altB 32 false (by kernel_rfl) h62
    refine pures hs 1 [2, 32, 33] [(2, .pointer (some ⟨b39, 0, none⟩)), (32, .bool false), (33, .pointer (some ⟨b39, 2, none⟩))] (by kernel_rfl) fun a hs => ?_
    refine s_load hs (hw.at_ 0 rfl) 2 (by kernel_rfl) (by kernel_rfl) (v := .int .u64 x1.f2) (by kernel_rfl) fun a hs => ?_
    refine pures hs 3 [2, 37] [(2, .pointer (some ⟨b39, 0, none⟩)), (37, .bool (x1.f2 == 0))] (by kernel_rfl) fun a hs => ?_
    rcases boolE (x1.f2 == 0) with h63 | h63
    · replace hs := hs.altB 37 true (by kernel_rfl) h63
      refine pures hs 9 [46] [(46, .bool true)] (by kernel_rfl) fun a hs => ?_
      refine s_end ?_
      exact (hJ59 _ _).2 ⟨(hs.altB 46 ((!((decide (x1.f0 > 0)) == x5)) || ((decide (x1.f1 < 1)) || ((decide (x1.f1 > 6)) || ((x1.f2 == 0) || ((x1.f3 == 2) && (decide (x1.f5 > 0))))))) (by kernel_rfl) (by rw [h60, h61, h62, h63] <;> rfl)).cast [46] (by kernel_rfl), hw.pick [1] (by kernel_rfl)⟩
    replace hs := hs.altB 37 false (by kernel_rfl) h63
    refine pures hs 1 [2, 37, 38] [(2, .pointer (some ⟨b39, 0, none⟩)), (37, .bool false), (38, .pointer (some ⟨b39, 3, none⟩))] (by kernel_rfl) fun a hs => ?_
    refine s_load hs (hw.at_ 0 rfl) 3 (by kernel_rfl) (by kernel_rfl) (v := .int .i64 x1.f3) (by kernel_rfl) fun a hs => ?_
    refine pures hs 2 [2, 37, 41] [(2, .pointer (some ⟨b39, 0, none⟩)), (37, .bool false), (41, .bool (x1.f3 == 2))] (by kernel_rfl) fun a hs => ?_
    rcases boolE (x1.f3 == 2) with h64 | h64
    · replace hs := hs.altB 41 true (by kernel_rfl) h64
      refine pures hs 1 [37, 41, 42] [(37, .bool false), (41, .bool true), (42, .pointer (some ⟨b39, 5, none⟩))] (by kernel_rfl) fun a hs => ?_
      refine s_load hs (hw.at_ 0 rfl) 5 (by kernel_rfl) (by kernel_rfl) (v := .int .u64 x1.f5) (by kernel_rfl) fun a hs => ?_
      refine pures hs 3 [46] [(46, .bool (decide (x1.f5 > 0)))] (by kernel_rfl) fun a hs => ?_
      refine s_end ?_
      exact (hJ59 _ _).2 ⟨(hs.altB 46 ((!((decide (x1.f0 > 0)) == x5)) || ((decide (x1.f1 < 1)) || ((decide (x1.f1 > 6)) || ((x1.f2 == 0) || ((x1.f3 == 2) && (decide (x1.f5 > 0))))))) (by kernel_rfl) (by rw [h60, h61, h62, h63, h64] <;> rfl)).cast [46] (by kernel_rfl), hw.pick [1] (by kernel_rfl)⟩
    replace hs := hs.altB 41 false (by kernel_rfl) h64
    refine pures hs 5 [46] [(46, .bool false)] (by kernel_rfl) fun a hs => ?_
    refine s_end ?_
    exact (hJ59 _ _).2 ⟨(hs.altB 46 ((!((decide (x1.f0 > 0)) == x5)) || ((decide (x1.f1 < 1)) || ((decide (x1.f1 > 6)) || ((x1.f2 == 0) || ((x1.f3 == 2) && (decide (x1.f5 > 0))))))) (by kernel_rfl) (by rw [h60, h61, h62, h63, h64] <;> rfl)).cast [46] (by kernel_rfl), hw.pick [1] (by kernel_rfl)⟩
  intro a w hh
  obtain ⟨hs, hw⟩ := (hJ59 _ _).1 hh
  rcases ifbE hk with ⟨h65, hk⟩ | ⟨h65, hk⟩
  · refine c_cond1 hs (by kernel_rfl) (t := ((!((decide (x1.f0 > 0)) == x5)) || ((decide (x1.f1 < 1)) || ((decide (x1.f1 > 6)) || ((x1.f2 == 0) || ((x1.f3 == 2) && (decide (x1.f5 > 0)))))))) (by kernel_rfl) h65 ?_
    refine c_seq ?_
    refine c_region ?_
    refine pures hs 1 [4] [(4, .int .i64 4)] (by kernel_rfl) fun a hs => ?_
    refine s_end ?_
    refine c_ret ?_
    obtain rfl := someE hk
    refine hQ _ _ (f_ret1 hs rfl (v := .int .i64 4) (by kernel_rfl) ⟨rfl, hw.pick [0] (by kernel_rfl)⟩)
  refine c_cond0 hs (by kernel_rfl) (t := ((!((decide (x1.f0 > 0)) == x5)) || ((decide (x1.f1 < 1)) || ((decide (x1.f1 > 6)) || ((x1.f2 == 0) || ((x1.f3 == 2) && (decide (x1.f5 > 0)))))))) (by kernel_rfl) h65 ?_
  refine c_skip ?_
  refine c_seq ?_
  refine c_region ?_
  refine pures hs 1 [4] [(4, .int .i64 0)] (by kernel_rfl) fun a hs => ?_
  refine s_end ?_
  refine c_ret ?_
  obtain rfl := someE hk
  refine hQ _ _ (f_ret1 hs rfl (v := .int .i64 0) (by kernel_rfl) ⟨rfl, hw.pick [0] (by kernel_rfl)⟩)
def catenaryref17_Check (x1 : M26) : Option Int :=
  (catenaryref17_check x1 true).bind fun y21 =>
  some y21
theorem catenaryref17_Check_s {x1 : M26} {p2 : Option Addr} {c3 : Nat} {r : Int} (hk : catenaryref17_Check x1 = some r) {g w : World} {F : Ch} {ih : IH} (h4 : RSl e5 ih [] p2 c3 x1.f6) (hw : St g w [F] ih) :
    CallsR Tryz.prog 14 #[.agg #[.int .u64 x1.f0, .int .i64 x1.f1, .int .u64 x1.f2, .int .i64 x1.f3, .int .u32 x1.f4, .int .u64 x1.f5, .slice p2 x1.f6.length c3]] w fun v w' => v = .int .i64 r ∧ St g w' [F] ih := by
  refine f_in (vs := [.agg #[.int .u64 x1.f0, .int .i64 x1.f1, .int .u64 x1.f2, .int .i64 x1.f3, .int .u32 x1.f4, .int .u64 x1.f5, .slice p2 x1.f6.length c3]]) Tryz.func14 rfl 5 rfl (by kernel_rfl) [(0, .agg #[.int .u64 x1.f0, .int .i64 x1.f1, .int .u64 x1.f2, .int .i64 x1.f3, .int .u32 x1.f4, .int .u64 x1.f5, .slice p2 x1.f6.length c3])] (by kernel_rfl) fun a Qf hQ hQn hs => ?_
  refine c_seq ?_
  refine c_region ?_
  refine s_new hs hw [.int .u64 x1.f0, .int .i64 x1.f1, .int .u64 x1.f2, .int .i64 x1.f3, .int .u32 x1.f4, .int .u64 x1.f5, .slice p2 x1.f6.length c3] 26 (fun b => .pointer (some ⟨b, 0, none⟩)) (by kernel_rfl) (fun _ => by kernel_rfl) fun a w b17 hs hw => ?_
  refine pures hs 1 [1] [(1, .pointer (some ⟨b17, 0, none⟩))] (by kernel_rfl) fun a hs => ?_
  refine s_end ?_
  refine c_seq ?_
  refine c_region ?_
  refine s_load hs (hw.at_ 0 rfl) 0 (by kernel_rfl) (by kernel_rfl) (v := .agg #[.int .u64 x1.f0, .int .i64 x1.f1, .int .u64 x1.f2, .int .i64 x1.f3, .int .u32 x1.f4, .int .u64 x1.f5, .slice p2 x1.f6.length c3]) (by kernel_rfl) fun a hs => ?_
  obtain ⟨y21, h22, hk⟩ := bindE hk
  refine s_call hs (by kernel_rfl) (by kernel_rfl) (catenaryref17_check_s h22 h4 ((hw.pick [1] (by kernel_rfl)).pack 0)) fun a w v hv hs => ?_
  obtain ⟨rfl, hw⟩ := hv
  replace hw := hw.unpack 0 rfl
  refine pures hs 1 [2] [(2, .int .i64 y21)] (by kernel_rfl) fun a hs => ?_
  refine s_end ?_
  refine c_ret ?_
  obtain rfl := someE hk
  refine hQ _ _ (f_ret1 hs rfl (v := .int .i64 y21) (by kernel_rfl) ⟨rfl, hw.pick [0] (by kernel_rfl)⟩)
def catenaryref20_kept_r12 (x483 : Int) (x1 : M58) (x811 : List M26) : Option M58 :=
  some (M58.mk x483 x1.f1 x1.f2 x811)
def catenaryref20_kept_r14 (rec_catenaryref20_kept_l13 : (List M26) → Int → Option (List M26)) (x709 : Int) (x870 : List M26) : Option (List M26) :=
  rec_catenaryref20_kept_l13 x870 (IntKind.i64.wrap (x709 + 1))
def catenaryref20_kept_l13 (x1 : M58) (x483 : Int) : Nat → (List M26) → Int → Option (List M26)
  | 0, _, _ => none
  | j + 1, x703, x709 =>
    if (decide (x709 < (x1.f3.length : Int))) = true then (
      ((ix x1.f3 x709).bind fun x886 =>
        if (decide (x886.f0 > x483)) = true then (
          (ix x1.f3 x709).bind fun x909 =>
          (app x703 [x909]).bind fun x918 =>
          some x918)
        else some x703 : Option (List M26)).bind fun s924 => catenaryref20_kept_r14 (catenaryref20_kept_l13 x1 x483 j) x709 s924)
    else some x703
def catenaryref20_kept_r15 (k : Nat) (x1 : M58) (x483 : Int) : Option M58 :=
  (catenaryref20_kept_l13 x1 x483 k ([]) 0 : Option (List M26)).bind fun s927 => catenaryref20_kept_r12 x483 x1 s927
def catenaryref20_kept_r16 (k : Nat) (x1 : M58) (x481 : Int) : Option M58 :=
  (if (decide (x481 < x1.f0)) = true then some x1.f0
    else some x481 : Option Int).bind fun s932 => catenaryref20_kept_r15 k x1 s932
def catenaryref20_kept (k : Nat) (x1 : M58) : Option M58 :=
  if (decide (x1.f1 < 32)) = true then some x1
  else (if (decide (x1.f2 < (IntKind.u64.wrap (x1.f1 - 32)))) = true then some x1.f2
    else some (IntKind.u64.wrap (x1.f1 - 32)) : Option Int).bind fun s937 => catenaryref20_kept_r16 k x1 s937
theorem catenaryref20_kept_s {k : Nat} {x1 : M58} {p2 : Option Addr} {c3 : Nat} {r : M58} (hk : catenaryref20_kept k x1 = some r) {g w : World} {F : Ch} {ih : IH} (h4 : RSl e26 ih [] p2 c3 x1.f3) (hw : St g w [F] ih) :
    CallsR Tryz.prog 49 #[.agg #[.int .u64 x1.f0, .int .u64 x1.f1, .int .u64 x1.f2, .slice p2 x1.f3.length c3]] w fun v w' => ∃ (ih' : IH) (p938 : Option Addr) (c939 : Nat), v = .agg #[.int .u64 r.f0, .int .u64 r.f1, .int .u64 r.f2, .slice p938 r.f3.length c939] ∧ St g w' [F] ih' ∧ Le ih ih' ∧ RSl e26 ih' [] p938 c939 r.f3 := by
  refine f_in (vs := [.agg #[.int .u64 x1.f0, .int .u64 x1.f1, .int .u64 x1.f2, .slice p2 x1.f3.length c3]]) Tryz.func49 rfl 53 rfl (by kernel_rfl) [(0, .agg #[.int .u64 x1.f0, .int .u64 x1.f1, .int .u64 x1.f2, .slice p2 x1.f3.length c3])] (by kernel_rfl) fun a Qf hQ hQn hs => ?_
  refine c_seq ?_
  refine c_region ?_
  refine s_new hs hw [.int .u64 x1.f0, .int .u64 x1.f1, .int .u64 x1.f2, .slice p2 x1.f3.length c3] 58 (fun b => .pointer (some ⟨b, 0, none⟩)) (by kernel_rfl) (fun _ => by kernel_rfl) fun a w b475 hs hw => ?_
  refine s_new hs hw [.int .u64 0, .int .u64 0, .int .u64 0, .slice none 0 0] 58 (fun b => .pointer (some ⟨b, 0, none⟩)) (by kernel_rfl) (fun _ => by kernel_rfl) fun a w b477 hs hw => ?_
  refine s_end ?_
  refine c_seq ?_
  refine c_seq ?_
  refine c_region ?_
  refine pures hs 1 [1, 2, 6] [(1, .pointer (some ⟨b475, 0, none⟩)), (2, .pointer (some ⟨b477, 0, none⟩)), (6, .pointer (some ⟨b475, 1, none⟩))] (by kernel_rfl) fun a hs => ?_
  refine s_load hs (hw.at_ 1 rfl) 1 (by kernel_rfl) (by kernel_rfl) (v := .int .u64 x1.f1) (by kernel_rfl) fun a hs => ?_
  refine pures hs 1 [1, 2, 8] [(1, .pointer (some ⟨b475, 0, none⟩)), (2, .pointer (some ⟨b477, 0, none⟩)), (8, .bool (decide (x1.f1 < 32)))] (by kernel_rfl) fun a hs => ?_
  refine s_end ?_
  rcases ifbE hk with ⟨h479, hk⟩ | ⟨h479, hk⟩
  · refine c_cond1 hs (by kernel_rfl) (t := (decide (x1.f1 < 32))) (by kernel_rfl) h479 ?_
    refine c_seq ?_
    refine c_region ?_
    refine s_load hs (hw.at_ 1 rfl) 0 (by kernel_rfl) (by kernel_rfl) (v := .agg #[.int .u64 x1.f0, .int .u64 x1.f1, .int .u64 x1.f2, .slice p2 x1.f3.length c3]) (by kernel_rfl) fun a hs => ?_
    refine s_store hs hw 0 rfl 0 (by kernel_rfl) (by kernel_rfl) (v := .agg #[.int .u64 x1.f0, .int .u64 x1.f1, .int .u64 x1.f2, .slice p2 x1.f3.length c3]) (by kernel_rfl) (by kernel_rfl) (by kernel_rfl) (by kernel_rfl) fun a w hs hw => ?_
    refine s_end ?_
    refine c_ret ?_
    obtain rfl := someE hk
    refine hQ _ _ (f_retC hs rfl (hw.at_ 0 rfl) (by kernel_rfl) (v := .agg #[.int .u64 x1.f0, .int .u64 x1.f1, .int .u64 x1.f2, .slice p2 x1.f3.length c3]) (by kernel_rfl) ⟨ih, p2, c3, rfl, hw.pick [2] (by kernel_rfl), (Le.refl _), h4⟩)
  refine c_cond0 hs (by kernel_rfl) (t := (decide (x1.f1 < 32))) (by kernel_rfl) h479 ?_
  refine c_skip ?_
  refine c_seq ?_
  refine c_region ?_
  refine pures hs 1 [1, 2, 10] [(1, .pointer (some ⟨b475, 0, none⟩)), (2, .pointer (some ⟨b477, 0, none⟩)), (10, .pointer (some ⟨b475, 1, none⟩))] (by kernel_rfl) fun a hs => ?_
  refine s_load hs (hw.at_ 1 rfl) 1 (by kernel_rfl) (by kernel_rfl) (v := .int .u64 x1.f1) (by kernel_rfl) fun a hs => ?_
  refine pures hs 2 [1, 2, 3] [(1, .pointer (some ⟨b475, 0, none⟩)), (2, .pointer (some ⟨b477, 0, none⟩)), (3, .int .u64 (IntKind.u64.wrap (x1.f1 - 32)))] (by kernel_rfl) fun a hs => ?_
  refine s_end ?_
  obtain ⟨y933, hx934, hk⟩ := bindE hk
  obtain ⟨J935, hJ935⟩ : ∃ J : Act → World → Prop, ∀ a w, J a w ↔ (∃ (x481 : Int), catenaryref20_kept_r16 k x1 x481 = some r ∧ Sees a 53 [(1, .pointer (some ⟨b475, 0, none⟩)), (2, .pointer (some ⟨b477, 0, none⟩)), (3, .int .u64 x481)] ∧ St g w [bx b477 [.int .u64 0, .int .u64 0, .int .u64 0, .slice none 0 0] 58, bx b475 [.int .u64 x1.f0, .int .u64 x1.f1, .int .u64 x1.f2, .slice p2 x1.f3.length c3] 58, F] ih) := ⟨_, fun _ _ => Iff.rfl⟩
  refine c_seqJ J935 ?_ ?_
  · refine c_seq ?_
    refine c_region ?_
    refine pures hs 1 [1, 2, 3, 13] [(1, .pointer (some ⟨b475, 0, none⟩)), (2, .pointer (some ⟨b477, 0, none⟩)), (3, .int .u64 (IntKind.u64.wrap (x1.f1 - 32))), (13, .pointer (some ⟨b475, 2, none⟩))] (by kernel_rfl) fun a hs => ?_
    refine s_load hs (hw.at_ 1 rfl) 2 (by kernel_rfl) (by kernel_rfl) (v := .int .u64 x1.f2) (by kernel_rfl) fun a hs => ?_
    refine pures hs 2 [1, 2, 3, 16] [(1, .pointer (some ⟨b475, 0, none⟩)), (2, .pointer (some ⟨b477, 0, none⟩)), (3, .int .u64 (IntKind.u64.wrap (x1.f1 - 32))), (16, .bool (decide (x1.f2 < (IntKind.u64.wrap (x1.f1 - 32)))))] (by kernel_rfl) fun a hs => ?_
    refine s_end ?_
    rcases ifbE hx934 with ⟨h936, hx934⟩ | ⟨h936, hx934⟩
    · refine c_cond1 hs (by kernel_rfl) (t := (decide (x1.f2 < (IntKind.u64.wrap (x1.f1 - 32))))) (by kernel_rfl) h936 ?_
      refine c_region ?_
      refine pures hs 1 [1, 2, 17] [(1, .pointer (some ⟨b475, 0, none⟩)), (2, .pointer (some ⟨b477, 0, none⟩)), (17, .pointer (some ⟨b475, 2, none⟩))] (by kernel_rfl) fun a hs => ?_
      refine s_load hs (hw.at_ 1 rfl) 2 (by kernel_rfl) (by kernel_rfl) (v := .int .u64 x1.f2) (by kernel_rfl) fun a hs => ?_
      refine pures hs 1 [1, 2, 3] [(1, .pointer (some ⟨b475, 0, none⟩)), (2, .pointer (some ⟨b477, 0, none⟩)), (3, .int .u64 x1.f2)] (by kernel_rfl) fun a hs => ?_
      refine s_end ?_
      obtain rfl := someE hx934
      exact (hJ935 _ _).2 ⟨x1.f2, hk, hs.cast [1, 2, 3] (by kernel_rfl), hw.pick [0, 1, 2] (by kernel_rfl)⟩
    refine c_cond0 hs (by kernel_rfl) (t := (decide (x1.f2 < (IntKind.u64.wrap (x1.f1 - 32))))) (by kernel_rfl) h936 ?_
    refine c_skip ?_
    obtain rfl := someE hx934
    exact (hJ935 _ _).2 ⟨(IntKind.u64.wrap (x1.f1 - 32)), hk, hs.cast [1, 2, 3] (by kernel_rfl), hw.pick [0, 1, 2] (by kernel_rfl)⟩
  intro a w hh
  obtain ⟨x481, hk, hs, hw⟩ := (hJ935 _ _).1 hh
  obtain ⟨y928, hx929, hk⟩ := bindE hk
  obtain ⟨J930, hJ930⟩ : ∃ J : Act → World → Prop, ∀ a w, J a w ↔ (∃ (x483 : Int), catenaryref20_kept_r15 k x1 x483 = some r ∧ Sees a 53 [(1, .pointer (some ⟨b475, 0, none⟩)), (2, .pointer (some ⟨b477, 0, none⟩)), (3, .int .u64 x483)] ∧ St g w [bx b477 [.int .u64 0, .int .u64 0, .int .u64 0, .slice none 0 0] 58, bx b475 [.int .u64 x1.f0, .int .u64 x1.f1, .int .u64 x1.f2, .slice p2 x1.f3.length c3] 58, F] ih) := ⟨_, fun _ _ => Iff.rfl⟩
  refine c_seqJ J930 ?_ ?_
  · refine c_seq ?_
    refine c_region ?_
    refine pures hs 2 [1, 2, 3, 19, 20] [(1, .pointer (some ⟨b475, 0, none⟩)), (2, .pointer (some ⟨b477, 0, none⟩)), (3, .int .u64 x481), (19, .int .u64 x481), (20, .pointer (some ⟨b475, 0, none⟩))] (by kernel_rfl) fun a hs => ?_
    refine s_load hs (hw.at_ 1 rfl) 0 (by kernel_rfl) (by kernel_rfl) (v := .int .u64 x1.f0) (by kernel_rfl) fun a hs => ?_
    refine pures hs 1 [1, 2, 3, 22] [(1, .pointer (some ⟨b475, 0, none⟩)), (2, .pointer (some ⟨b477, 0, none⟩)), (3, .int .u64 x481), (22, .bool (decide (x481 < x1.f0)))] (by kernel_rfl) fun a hs => ?_
    refine s_end ?_
    rcases ifbE hx929 with ⟨h931, hx929⟩ | ⟨h931, hx929⟩
    · refine c_cond1 hs (by kernel_rfl) (t := (decide (x481 < x1.f0))) (by kernel_rfl) h931 ?_
      refine c_region ?_
      refine pures hs 1 [1, 2, 23] [(1, .pointer (some ⟨b475, 0, none⟩)), (2, .pointer (some ⟨b477, 0, none⟩)), (23, .pointer (some ⟨b475, 0, none⟩))] (by kernel_rfl) fun a hs => ?_
      refine s_load hs (hw.at_ 1 rfl) 0 (by kernel_rfl) (by kernel_rfl) (v := .int .u64 x1.f0) (by kernel_rfl) fun a hs => ?_
      refine pures hs 1 [1, 2, 3] [(1, .pointer (some ⟨b475, 0, none⟩)), (2, .pointer (some ⟨b477, 0, none⟩)), (3, .int .u64 x1.f0)] (by kernel_rfl) fun a hs => ?_
      refine s_end ?_
      obtain rfl := someE hx929
      exact (hJ930 _ _).2 ⟨x1.f0, hk, hs.cast [1, 2, 3] (by kernel_rfl), hw.pick [0, 1, 2] (by kernel_rfl)⟩
    refine c_cond0 hs (by kernel_rfl) (t := (decide (x481 < x1.f0))) (by kernel_rfl) h931 ?_
    refine c_skip ?_
    obtain rfl := someE hx929
    exact (hJ930 _ _).2 ⟨x481, hk, hs.cast [1, 2, 3] (by kernel_rfl), hw.pick [0, 1, 2] (by kernel_rfl)⟩
  intro a w hh
  obtain ⟨x483, hk, hs, hw⟩ := (hJ930 _ _).1 hh
  refine c_seq ?_
  refine c_region ?_
  refine pures hs 1 [1, 2, 3, 4] [(1, .pointer (some ⟨b475, 0, none⟩)), (2, .pointer (some ⟨b477, 0, none⟩)), (3, .int .u64 x483), (4, .slice none 0 0)] (by kernel_rfl) fun a hs => ?_
  refine s_end ?_
  refine c_seq ?_
  refine c_seq ?_
  refine c_region ?_
  refine pures hs 1 [1, 2, 3, 4, 5] [(1, .pointer (some ⟨b475, 0, none⟩)), (2, .pointer (some ⟨b477, 0, none⟩)), (3, .int .u64 x483), (4, .slice none 0 0), (5, .int .i64 0)] (by kernel_rfl) fun a hs => ?_
  refine s_end ?_
  refine c_block ?_
  obtain ⟨y820, hx821, hk⟩ := bindE hk
  replace hw := hw.nil
  obtain ⟨J822, hJ822⟩ : ∃ J : Act → World → Prop, ∀ a w, J a w ↔ (∃ (x811 : List M26) (p812 : Option Addr) (c813 : Nat) (d815 : Ch), catenaryref20_kept_r12 x483 x1 x811 = some r ∧ Sees a 53 [(1, .pointer (some ⟨b475, 0, none⟩)), (2, .pointer (some ⟨b477, 0, none⟩)), (3, .int .u64 x483), (4, .slice p812 x811.length c813)] ∧ St g w [bx b477 [.int .u64 0, .int .u64 0, .int .u64 0, .slice none 0 0] 58, bx b475 [.int .u64 x1.f0, .int .u64 x1.f1, .int .u64 x1.f2, .slice p2 x1.f3.length c3] 58, d815, F] ih ∧ OSl e26 ih p812 c813 x811 d815) := ⟨_, fun _ _ => Iff.rfl⟩
  obtain ⟨I823, hI823⟩ : ∃ J : Nat → Act → World → Prop, ∀ j a w, J j a w ↔ (∃ (x703 : List M26) (x709 : Int) (p704 : Option Addr) (c705 : Nat) (d707 : Ch), catenaryref20_kept_l13 x1 x483 j x703 x709 = some y820 ∧ Sees a 53 [(1, .pointer (some ⟨b475, 0, none⟩)), (2, .pointer (some ⟨b477, 0, none⟩)), (3, .int .u64 x483), (4, .slice p704 x703.length c705), (5, .int .i64 x709)] ∧ St g w [bx b477 [.int .u64 0, .int .u64 0, .int .u64 0, .slice none 0 0] 58, bx b475 [.int .u64 x1.f0, .int .u64 x1.f1, .int .u64 x1.f2, .slice p2 x1.f3.length c3] 58, d707, F] ih ∧ OSl e26 ih p704 c705 x703 d707) := ⟨_, fun _ _ _ => Iff.rfl⟩
  refine c_exitJ 0 J822 ?_ ?_
  · refine c_loop I823 k ((hI823 _ _ _).2 ⟨([]), 0, none, 0, ([]), hx821, hs.cast [1, 2, 3, 4, 5] (by kernel_rfl), hw.pick [1, 2, 0, 3] (by kernel_rfl), (OSl.nil _ _)⟩) (fun a w h0 => ?_) fun j a w hh => ?_
    · obtain ⟨_, _, _, _, _, h, _⟩ := (hI823 _ _ _).1 h0
      cases h
    obtain ⟨x703, x709, p704, c705, d707, hx821, hs, hw, h706⟩ := (hI823 _ _ _).1 hh
    refine c_seq ?_
    refine c_seq ?_
    refine c_region ?_
    refine pures hs 2 [1, 2, 3, 4, 5, 25, 26] [(1, .pointer (some ⟨b475, 0, none⟩)), (2, .pointer (some ⟨b477, 0, none⟩)), (3, .int .u64 x483), (4, .slice p704 x703.length c705), (5, .int .i64 x709), (25, .int .i64 x709), (26, .pointer (some ⟨b475, 3, none⟩))] (by kernel_rfl) fun a hs => ?_
    refine s_load hs (hw.at_ 1 rfl) 3 (by kernel_rfl) (by kernel_rfl) (v := .slice p2 x1.f3.length c3) (by kernel_rfl) fun a hs => ?_
    refine pures hs 2 [1, 2, 3, 4, 5, 29] [(1, .pointer (some ⟨b475, 0, none⟩)), (2, .pointer (some ⟨b477, 0, none⟩)), (3, .int .u64 x483), (4, .slice p704 x703.length c705), (5, .int .i64 x709), (29, .bool (decide (x709 < (x1.f3.length : Int))))] (by kernel_rfl) fun a hs => ?_
    refine s_end ?_
    rcases ifbE hx821 with ⟨h824, hx821⟩ | ⟨h824, hx821⟩
    · refine c_cond1 hs (by kernel_rfl) (t := (decide (x709 < (x1.f3.length : Int)))) (by kernel_rfl) h824 ?_
      refine c_skip ?_
      obtain ⟨y876, hx877, hx821⟩ := bindE hx821
      obtain ⟨J878, hJ878⟩ : ∃ J : Act → World → Prop, ∀ a w, J a w ↔ (∃ (x870 : List M26) (p871 : Option Addr) (c872 : Nat) (d874 : Ch), catenaryref20_kept_r14 (catenaryref20_kept_l13 x1 x483 j) x709 x870 = some y820 ∧ Sees a 53 [(1, .pointer (some ⟨b475, 0, none⟩)), (2, .pointer (some ⟨b477, 0, none⟩)), (3, .int .u64 x483), (5, .int .i64 x709), (4, .slice p871 x870.length c872)] ∧ St g w [bx b477 [.int .u64 0, .int .u64 0, .int .u64 0, .slice none 0 0] 58, bx b475 [.int .u64 x1.f0, .int .u64 x1.f1, .int .u64 x1.f2, .slice p2 x1.f3.length c3] 58, d874, F] ih ∧ OSl e26 ih p871 c872 x870 d874) := ⟨_, fun _ _ => Iff.rfl⟩
      refine c_seqJ J878 ?_ ?_
      · refine c_block ?_
        refine c_seq ?_
        refine c_region ?_
        refine pures hs 1 [1, 2, 3, 4, 5, 32] [(1, .pointer (some ⟨b475, 0, none⟩)), (2, .pointer (some ⟨b477, 0, none⟩)), (3, .int .u64 x483), (4, .slice p704 x703.length c705), (5, .int .i64 x709), (32, .pointer (some ⟨b475, 3, none⟩))] (by kernel_rfl) fun a hs => ?_
        refine s_load hs (hw.at_ 1 rfl) 3 (by kernel_rfl) (by kernel_rfl) (v := .slice p2 x1.f3.length c3) (by kernel_rfl) fun a hs => ?_
        refine pures hs 1 [1, 2, 3, 4, 5, 33, 34] [(1, .pointer (some ⟨b475, 0, none⟩)), (2, .pointer (some ⟨b477, 0, none⟩)), (3, .int .u64 x483), (4, .slice p704 x703.length c705), (5, .int .i64 x709), (33, .slice p2 x1.f3.length c3), (34, .int .i64 x709)] (by kernel_rfl) fun a hs => ?_
        obtain ⟨x886, h887, hx877⟩ := bindE hx877
        refine s_index hs h4 (by kernel_rfl) (by kernel_rfl) (k := .i64) (by kernel_rfl) 26 (by kernel_rfl) (by kernel_rfl) h887 fun a r888 cs henc at889 hs => ?_
        obtain ⟨p890, c891, rfl, h892⟩ := henc
        refine pures hs 1 [1, 2, 3, 4, 5, 36] [(1, .pointer (some ⟨b475, 0, none⟩)), (2, .pointer (some ⟨b477, 0, none⟩)), (3, .int .u64 x483), (4, .slice p704 x703.length c705), (5, .int .i64 x709), (36, .pointer (some r888))] (by kernel_rfl) fun a hs => ?_
        refine s_load hs (at889 _ (hw.vwAll.nil.anti (Le.refl _))) 0 (by kernel_rfl) (by kernel_rfl) (v := .int .u64 x886.f0) (by kernel_rfl) fun a hs => ?_
        refine pures hs 2 [1, 2, 3, 4, 5, 39] [(1, .pointer (some ⟨b475, 0, none⟩)), (2, .pointer (some ⟨b477, 0, none⟩)), (3, .int .u64 x483), (4, .slice p704 x703.length c705), (5, .int .i64 x709), (39, .bool (decide (x886.f0 > x483)))] (by kernel_rfl) fun a hs => ?_
        refine s_end ?_
        rcases ifbE hx877 with ⟨h893, hx877⟩ | ⟨h893, hx877⟩
        · refine c_cond1 hs (by kernel_rfl) (t := (decide (x886.f0 > x483))) (by kernel_rfl) h893 ?_
          refine c_region ?_
          refine pures hs 2 [1, 2, 3, 5, 40, 41] [(1, .pointer (some ⟨b475, 0, none⟩)), (2, .pointer (some ⟨b477, 0, none⟩)), (3, .int .u64 x483), (5, .int .i64 x709), (40, .slice p704 x703.length c705), (41, .pointer (some ⟨b475, 3, none⟩))] (by kernel_rfl) fun a hs => ?_
          refine s_load hs (hw.at_ 1 rfl) 3 (by kernel_rfl) (by kernel_rfl) (v := .slice p2 x1.f3.length c3) (by kernel_rfl) fun a hs => ?_
          refine pures hs 1 [1, 2, 3, 5, 40, 42, 43] [(1, .pointer (some ⟨b475, 0, none⟩)), (2, .pointer (some ⟨b477, 0, none⟩)), (3, .int .u64 x483), (5, .int .i64 x709), (40, .slice p704 x703.length c705), (42, .slice p2 x1.f3.length c3), (43, .int .i64 x709)] (by kernel_rfl) fun a hs => ?_
          obtain ⟨x909, h910, hx877⟩ := bindE hx877
          refine s_index hs h4 (by kernel_rfl) (by kernel_rfl) (k := .i64) (by kernel_rfl) 26 (by kernel_rfl) (by kernel_rfl) h910 fun a r911 cs henc at912 hs => ?_
          obtain ⟨p913, c914, rfl, h915⟩ := henc
          refine s_load hs (at912 _ (hw.vwAll.nil.anti (Le.refl _))) 0 (by kernel_rfl) (by kernel_rfl) (v := .agg #[.int .u64 x909.f0, .int .i64 x909.f1, .int .u64 x909.f2, .int .i64 x909.f3, .int .u32 x909.f4, .int .u64 x909.f5, .slice p913 x909.f6.length c914]) (by kernel_rfl) fun a hs => ?_
          refine s_new hs hw [.int .u64 x909.f0, .int .i64 x909.f1, .int .u64 x909.f2, .int .i64 x909.f3, .int .u32 x909.f4, .int .u64 x909.f5, .slice p913 x909.f6.length c914] 26 (fun b => .slice (some ⟨b, 0, none⟩) 1 1) (by kernel_rfl) (fun _ => by kernel_rfl) fun a w b916 hs hw => ?_
          obtain ⟨x918, h919, hx877⟩ := bindE hx877
          refine s_app1 hs hw (E := e26) appT28 3 rfl h706 (by kernel_rfl) (by kernel_rfl) (c2 := 1) (by kernel_rfl) (hw.at_ 0 rfl) (z := x909) ⟨p913, c914, rfl, h915⟩ h919 fun a w p920 c921 d922 h923 hw hs => ?_
          refine pures hs 1 [1, 2, 3, 5, 4] [(1, .pointer (some ⟨b475, 0, none⟩)), (2, .pointer (some ⟨b477, 0, none⟩)), (3, .int .u64 x483), (5, .int .i64 x709), (4, .slice p920 x918.length c921)] (by kernel_rfl) fun a hs => ?_
          refine s_end ?_
          obtain rfl := someE hx877
          exact (hJ878 _ _).2 ⟨x918, p920, c921, d922, hx821, hs.cast [1, 2, 3, 5, 4] (by kernel_rfl), hw.pick [1, 2, 3, 4] (by kernel_rfl), h923⟩
        refine c_cond0 hs (by kernel_rfl) (t := (decide (x886.f0 > x483))) (by kernel_rfl) h893 ?_
        refine c_skip ?_
        obtain rfl := someE hx877
        exact (hJ878 _ _).2 ⟨x703, p704, c705, d707, hx821, hs.cast [1, 2, 3, 5, 4] (by kernel_rfl), hw.pick [0, 1, 2, 3] (by kernel_rfl), h706⟩
      intro a w hh
      obtain ⟨x870, p871, c872, d874, hx821, hs, hw, h873⟩ := (hJ878 _ _).1 hh
      refine c_region ?_
      refine pures hs 3 [1, 2, 3, 5, 4] [(1, .pointer (some ⟨b475, 0, none⟩)), (2, .pointer (some ⟨b477, 0, none⟩)), (3, .int .u64 x483), (5, .int .i64 (IntKind.i64.wrap (x709 + 1))), (4, .slice p871 x870.length c872)] (by kernel_rfl) fun a hs => ?_
      refine s_end ?_
      exact (hI823 _ _ _).2 ⟨x870, (IntKind.i64.wrap (x709 + 1)), p871, c872, d874, hx821, hs.cast [1, 2, 3, 4, 5] (by kernel_rfl), hw.pick [0, 1, 2, 3] (by kernel_rfl), h873⟩
    refine c_cond0 hs (by kernel_rfl) (t := (decide (x709 < (x1.f3.length : Int)))) (by kernel_rfl) h824 ?_
    refine c_exit ?_
    obtain rfl := someE hx821
    exact (hJ822 _ _).2 ⟨x703, p704, c705, d707, hk, hs.cast [1, 2, 3, 4] (by kernel_rfl), hw.pick [0, 1, 2, 3] (by kernel_rfl), h706⟩
  intro a w hh
  obtain ⟨x811, p812, c813, d815, hk, hs, hw, h814⟩ := (hJ822 _ _).1 hh
  refine c_seq ?_
  refine c_region ?_
  refine pures hs 2 [1, 2, 4, 48, 49] [(1, .pointer (some ⟨b475, 0, none⟩)), (2, .pointer (some ⟨b477, 0, none⟩)), (4, .slice p812 x811.length c813), (48, .int .u64 x483), (49, .pointer (some ⟨b475, 0, none⟩))] (by kernel_rfl) fun a hs => ?_
  refine s_store hs hw 1 rfl 0 (by kernel_rfl) (by kernel_rfl) (v := .int .u64 x483) (by kernel_rfl) (by kernel_rfl) (by kernel_rfl) (by kernel_rfl) fun a w hs hw => ?_
  refine s_end ?_
  refine c_seq ?_
  refine c_region ?_
  refine pures hs 2 [1, 2, 50, 51] [(1, .pointer (some ⟨b475, 0, none⟩)), (2, .pointer (some ⟨b477, 0, none⟩)), (50, .slice p812 x811.length c813), (51, .pointer (some ⟨b475, 3, none⟩))] (by kernel_rfl) fun a hs => ?_
  refine s_store hs hw 1 rfl 3 (by kernel_rfl) (by kernel_rfl) (v := .slice p812 x811.length c813) (by kernel_rfl) (by kernel_rfl) (by kernel_rfl) (by kernel_rfl) fun a w hs hw => ?_
  refine s_end ?_
  refine c_seq ?_
  refine c_region ?_
  refine s_load hs (hw.at_ 1 rfl) 0 (by kernel_rfl) (by kernel_rfl) (v := .agg #[.int .u64 x483, .int .u64 x1.f1, .int .u64 x1.f2, .slice p812 x811.length c813]) (by kernel_rfl) fun a hs => ?_
  refine s_store hs hw 0 rfl 0 (by kernel_rfl) (by kernel_rfl) (v := .agg #[.int .u64 x483, .int .u64 x1.f1, .int .u64 x1.f2, .slice p812 x811.length c813]) (by kernel_rfl) (by kernel_rfl) (by kernel_rfl) (by kernel_rfl) fun a w hs hw => ?_
  refine s_end ?_
  refine c_ret ?_
  obtain ⟨ih817, hle818, hw, h819⟩ := (hw.pick [2, 0, 1, 3] (by kernel_rfl)).fz (h814.mono (Le.refl _))
  obtain rfl := someE hk
  refine hQ _ _ (f_retC hs rfl (hw.at_ 0 rfl) (by kernel_rfl) (v := .agg #[.int .u64 x483, .int .u64 x1.f1, .int .u64 x1.f2, .slice p812 x811.length c813]) (by kernel_rfl) ⟨ih817, p812, c813, rfl, hw.pick [2] (by kernel_rfl), hle818, h819⟩)
def catenaryref20_Add_r2 (k : Nat) (x1 : M58) (x5 : M26) (x239 : List M26) : Option (M58 × Int) :=
  (catenaryref20_kept k (M58.mk x1.f0 x5.f0 x1.f2 x239)).bind fun y258 =>
  some (y258, 0)
def catenaryref20_Add (k : Nat) (x1 : M58) (x5 : M26) : Option (M58 × Int) :=
  (catenaryref17_Check x5).bind fun y170 =>
  if (y170 != 0) = true then some (x1, y170)
  else if ((IntKind.u64.wrap (x5.f0 - 1)) != x1.f1) = true then some (x1, 12)
  else ((app ([]) x1.f3).bind fun x270 =>
    (app x270 [x5]).bind fun x278 =>
    some x278 : Option (List M26)).bind fun s300 => catenaryref20_Add_r2 k x1 x5 s300
theorem catenaryref20_Add_s {k : Nat} {x1 : M58} {x5 : M26} {p2 : Option Addr} {c3 : Nat} {p6 : Option Addr} {c7 : Nat} {r : M58 × Int} (hk : catenaryref20_Add k x1 x5 = some r) {g w : World} {F : Ch} {ih : IH} (h4 : RSl e26 ih [] p2 c3 x1.f3) (h8 : RSl e5 ih [] p6 c7 x5.f6) (hw : St g w [F] ih) :
    CallsR Tryz.prog 33 #[.agg #[.int .u64 x1.f0, .int .u64 x1.f1, .int .u64 x1.f2, .slice p2 x1.f3.length c3], .agg #[.int .u64 x5.f0, .int .i64 x5.f1, .int .u64 x5.f2, .int .i64 x5.f3, .int .u32 x5.f4, .int .u64 x5.f5, .slice p6 x5.f6.length c7]] w fun v w' => ∃ (ih' : IH) (p301 : Option Addr) (c302 : Nat), v = .tuple #[.agg #[.int .u64 r.1.f0, .int .u64 r.1.f1, .int .u64 r.1.f2, .slice p301 r.1.f3.length c302], .int .i64 r.2] ∧ St g w' [F] ih' ∧ Le ih ih' ∧ RSl e26 ih' [] p301 c302 r.1.f3 := by
  refine f_in (vs := [.agg #[.int .u64 x1.f0, .int .u64 x1.f1, .int .u64 x1.f2, .slice p2 x1.f3.length c3], .agg #[.int .u64 x5.f0, .int .i64 x5.f1, .int .u64 x5.f2, .int .i64 x5.f3, .int .u32 x5.f4, .int .u64 x5.f5, .slice p6 x5.f6.length c7]]) Tryz.func33 rfl 32 rfl (by kernel_rfl) [(0, .agg #[.int .u64 x1.f0, .int .u64 x1.f1, .int .u64 x1.f2, .slice p2 x1.f3.length c3]), (1, .agg #[.int .u64 x5.f0, .int .i64 x5.f1, .int .u64 x5.f2, .int .i64 x5.f3, .int .u32 x5.f4, .int .u64 x5.f5, .slice p6 x5.f6.length c7])] (by kernel_rfl) fun a Qf hQ hQn hs => ?_
  refine c_seq ?_
  refine c_region ?_
  refine s_new hs hw [.int .u64 x1.f0, .int .u64 x1.f1, .int .u64 x1.f2, .slice p2 x1.f3.length c3] 58 (fun b => .pointer (some ⟨b, 0, none⟩)) (by kernel_rfl) (fun _ => by kernel_rfl) fun a w b162 hs hw => ?_
  refine s_new hs hw [.int .u64 x5.f0, .int .i64 x5.f1, .int .u64 x5.f2, .int .i64 x5.f3, .int .u32 x5.f4, .int .u64 x5.f5, .slice p6 x5.f6.length c7] 26 (fun b => .pointer (some ⟨b, 0, none⟩)) (by kernel_rfl) (fun _ => by kernel_rfl) fun a w b164 hs hw => ?_
  refine s_new hs hw [.int .u64 0, .int .u64 0, .int .u64 0, .slice none 0 0] 58 (fun b => .pointer (some ⟨b, 0, none⟩)) (by kernel_rfl) (fun _ => by kernel_rfl) fun a w b166 hs hw => ?_
  refine pures hs 1 [2, 3, 4] [(2, .pointer (some ⟨b162, 0, none⟩)), (3, .pointer (some ⟨b164, 0, none⟩)), (4, .pointer (some ⟨b166, 0, none⟩))] (by kernel_rfl) fun a hs => ?_
  refine s_end ?_
  refine c_seq ?_
  refine c_seq ?_
  refine c_region ?_
  refine s_load hs (hw.at_ 1 rfl) 0 (by kernel_rfl) (by kernel_rfl) (v := .agg #[.int .u64 x5.f0, .int .i64 x5.f1, .int .u64 x5.f2, .int .i64 x5.f3, .int .u32 x5.f4, .int .u64 x5.f5, .slice p6 x5.f6.length c7]) (by kernel_rfl) fun a hs => ?_
  obtain ⟨y170, h171, hk⟩ := bindE hk
  refine s_call hs (by kernel_rfl) (by kernel_rfl) (catenaryref17_Check_s h171 h8 ((hw.pick [0, 1, 2, 3] (by kernel_rfl)).pack 0)) fun a w v hv hs => ?_
  obtain ⟨rfl, hw⟩ := hv
  replace hw := hw.unpack 0 rfl
  refine pures hs 1 [2, 3, 4, 6] [(2, .pointer (some ⟨b162, 0, none⟩)), (3, .pointer (some ⟨b164, 0, none⟩)), (4, .pointer (some ⟨b166, 0, none⟩)), (6, .int .i64 y170)] (by kernel_rfl) fun a hs => ?_
  refine s_end ?_
  refine c_seq ?_
  refine c_region ?_
  refine pures hs 2 [2, 3, 4, 6, 10] [(2, .pointer (some ⟨b162, 0, none⟩)), (3, .pointer (some ⟨b164, 0, none⟩)), (4, .pointer (some ⟨b166, 0, none⟩)), (6, .int .i64 y170), (10, .bool (y170 != 0))] (by kernel_rfl) fun a hs => ?_
  refine s_end ?_
  rcases ifbE hk with ⟨h172, hk⟩ | ⟨h172, hk⟩
  · refine c_cond1 hs (by kernel_rfl) (t := (y170 != 0)) (by kernel_rfl) h172 ?_
    refine c_seq ?_
    refine c_region ?_
    refine s_load hs (hw.at_ 2 rfl) 0 (by kernel_rfl) (by kernel_rfl) (v := .agg #[.int .u64 x1.f0, .int .u64 x1.f1, .int .u64 x1.f2, .slice p2 x1.f3.length c3]) (by kernel_rfl) fun a hs => ?_
    refine pures hs 1 [4, 11, 12] [(4, .pointer (some ⟨b166, 0, none⟩)), (11, .agg #[.int .u64 x1.f0, .int .u64 x1.f1, .int .u64 x1.f2, .slice p2 x1.f3.length c3]), (12, .int .i64 y170)] (by kernel_rfl) fun a hs => ?_
    refine s_store hs hw 0 rfl 0 (by kernel_rfl) (by kernel_rfl) (v := .agg #[.int .u64 x1.f0, .int .u64 x1.f1, .int .u64 x1.f2, .slice p2 x1.f3.length c3]) (by kernel_rfl) (by kernel_rfl) (by kernel_rfl) (by kernel_rfl) fun a w hs hw => ?_
    refine pures hs 1 [4, 5] [(4, .pointer (some ⟨b166, 0, none⟩)), (5, .int .i64 y170)] (by kernel_rfl) fun a hs => ?_
    refine s_end ?_
    refine c_ret ?_
    obtain rfl := someE hk
    refine hQ _ _ (f_retG hs (l := [.cell 4 58, .tmp 5]) (vs := [.agg #[.int .u64 x1.f0, .int .u64 x1.f1, .int .u64 x1.f2, .slice p2 x1.f3.length c3], .int .i64 y170]) rfl (⟨res_cell hs (hw.at_ 0 rfl) (by kernel_rfl) (v := .agg #[.int .u64 x1.f0, .int .u64 x1.f1, .int .u64 x1.f2, .slice p2 x1.f3.length c3]) (by kernel_rfl), ⟨res_tmp hs (v := .int .i64 y170) (by kernel_rfl), trivial⟩⟩) (by kernel_rfl) ⟨ih, p2, c3, rfl, hw.pick [3] (by kernel_rfl), (Le.refl _), h4⟩)
  refine c_cond0 hs (by kernel_rfl) (t := (y170 != 0)) (by kernel_rfl) h172 ?_
  refine c_skip ?_
  refine c_seq ?_
  refine c_seq ?_
  refine c_region ?_
  refine pures hs 1 [2, 3, 4, 13] [(2, .pointer (some ⟨b162, 0, none⟩)), (3, .pointer (some ⟨b164, 0, none⟩)), (4, .pointer (some ⟨b166, 0, none⟩)), (13, .pointer (some ⟨b164, 0, none⟩))] (by kernel_rfl) fun a hs => ?_
  refine s_load hs (hw.at_ 1 rfl) 0 (by kernel_rfl) (by kernel_rfl) (v := .int .u64 x5.f0) (by kernel_rfl) fun a hs => ?_
  refine pures hs 2 [2, 3, 4, 15, 16] [(2, .pointer (some ⟨b162, 0, none⟩)), (3, .pointer (some ⟨b164, 0, none⟩)), (4, .pointer (some ⟨b166, 0, none⟩)), (15, .int .u64 (IntKind.u64.wrap (x5.f0 - 1))), (16, .pointer (some ⟨b162, 1, none⟩))] (by kernel_rfl) fun a hs => ?_
  refine s_load hs (hw.at_ 2 rfl) 1 (by kernel_rfl) (by kernel_rfl) (v := .int .u64 x1.f1) (by kernel_rfl) fun a hs => ?_
  refine pures hs 1 [2, 3, 4, 18] [(2, .pointer (some ⟨b162, 0, none⟩)), (3, .pointer (some ⟨b164, 0, none⟩)), (4, .pointer (some ⟨b166, 0, none⟩)), (18, .bool ((IntKind.u64.wrap (x5.f0 - 1)) != x1.f1))] (by kernel_rfl) fun a hs => ?_
  refine s_end ?_
  rcases ifbE hk with ⟨h173, hk⟩ | ⟨h173, hk⟩
  · refine c_cond1 hs (by kernel_rfl) (t := ((IntKind.u64.wrap (x5.f0 - 1)) != x1.f1)) (by kernel_rfl) h173 ?_
    refine c_seq ?_
    refine c_region ?_
    refine s_load hs (hw.at_ 2 rfl) 0 (by kernel_rfl) (by kernel_rfl) (v := .agg #[.int .u64 x1.f0, .int .u64 x1.f1, .int .u64 x1.f2, .slice p2 x1.f3.length c3]) (by kernel_rfl) fun a hs => ?_
    refine s_store hs hw 0 rfl 0 (by kernel_rfl) (by kernel_rfl) (v := .agg #[.int .u64 x1.f0, .int .u64 x1.f1, .int .u64 x1.f2, .slice p2 x1.f3.length c3]) (by kernel_rfl) (by kernel_rfl) (by kernel_rfl) (by kernel_rfl) fun a w hs hw => ?_
    refine pures hs 1 [4, 5] [(4, .pointer (some ⟨b166, 0, none⟩)), (5, .int .i64 12)] (by kernel_rfl) fun a hs => ?_
    refine s_end ?_
    refine c_ret ?_
    obtain rfl := someE hk
    refine hQ _ _ (f_retG hs (l := [.cell 4 58, .tmp 5]) (vs := [.agg #[.int .u64 x1.f0, .int .u64 x1.f1, .int .u64 x1.f2, .slice p2 x1.f3.length c3], .int .i64 12]) rfl (⟨res_cell hs (hw.at_ 0 rfl) (by kernel_rfl) (v := .agg #[.int .u64 x1.f0, .int .u64 x1.f1, .int .u64 x1.f2, .slice p2 x1.f3.length c3]) (by kernel_rfl), ⟨res_tmp hs (v := .int .i64 12) (by kernel_rfl), trivial⟩⟩) (by kernel_rfl) ⟨ih, p2, c3, rfl, hw.pick [3] (by kernel_rfl), (Le.refl _), h4⟩)
  refine c_cond0 hs (by kernel_rfl) (t := ((IntKind.u64.wrap (x5.f0 - 1)) != x1.f1)) (by kernel_rfl) h173 ?_
  refine c_skip ?_
  refine c_seq ?_
  obtain ⟨S174, hS174, kS174⟩ := mkSX (X := [([], bx b166 [.int .u64 0, .int .u64 0, .int .u64 0, .slice none 0 0] 58), ([], bx b164 [.int .u64 x5.f0, .int .i64 x5.f1, .int .u64 x5.f2, .int .i64 x5.f3, .int .u32 x5.f4, .int .u64 x5.f5, .slice p6 x5.f6.length c7] 26), ([7], bx b162 [.int .u64 x1.f0, .int .u64 x1.f1, .int .u64 x1.f2, .slice p2 x1.f3.length c3] 58), ([], F)]) (ih := ih) (K := [7]) rfl
  obtain ⟨y265, hx266, hk⟩ := bindE hk
  obtain ⟨J267, hJ267⟩ : ∃ J : Act → World → Prop, ∀ a w, J a w ↔ (∃ (x239 : List M26) (p240 : Option Addr) (c241 : Nat) (d243 : Ch), catenaryref20_Add_r2 k x1 x5 x239 = some r ∧ Sees a 32 [(2, .pointer (some ⟨b162, 0, none⟩)), (3, .pointer (some ⟨b164, 0, none⟩)), (4, .pointer (some ⟨b166, 0, none⟩))] ∧ St g w [bx b166 [.int .u64 0, .int .u64 0, .int .u64 0, .slice none 0 0] 58, bx b164 [.int .u64 x5.f0, .int .i64 x5.f1, .int .u64 x5.f2, .int .i64 x5.f3, .int .u32 x5.f4, .int .u64 x5.f5, .slice p6 x5.f6.length c7] 26, bx b162 [.int .u64 x1.f0, .int .u64 x1.f1, .int .u64 x1.f2, .slice p240 x239.length c241] 58, d243, F] ih ∧ OSl e26 ih p240 c241 x239 d243) := ⟨_, fun _ _ => Iff.rfl⟩
  refine c_draw (by kernel_rfl) (N := 8) rfl S174 J267 ?_ ?_
  · have hw := hw.drew
    have hS : S174 (Array.replicate 8 false) _ := SX_now hS174 (hw.vws [0, 1, 2, 3]) (by kernel_rfl)
    refine d_pures (fuel := 7) kS174 hs hS [0] [2, 3, 4, 20] [(2, .pointer (some ⟨b162, 0, none⟩)), (3, .pointer (some ⟨b164, 0, none⟩)), (4, .pointer (some ⟨b166, 0, none⟩)), (20, .pointer (some ⟨b162, 3, none⟩))] (by kernel_rfl) fun a hs hS => ?_
    refine d_load (fuel := 6) kS174 hs hS 1 rfl (by kernel_rfl) (SX_box hS174 2 rfl (by kernel_rfl)) 3 (by kernel_rfl) (by kernel_rfl) (v := .slice p2 x1.f3.length c3) (by kernel_rfl) fun a hs hS => ?_
    refine d_load (fuel := 5) kS174 hs hS 3 rfl (by kernel_rfl) (SX_box hS174 1 rfl (by kernel_rfl)) 0 (by kernel_rfl) (by kernel_rfl) (v := .agg #[.int .u64 x5.f0, .int .i64 x5.f1, .int .u64 x5.f2, .int .i64 x5.f3, .int .u32 x5.f4, .int .u64 x5.f5, .slice p6 x5.f6.length c7]) (by kernel_rfl) fun a hs hS => ?_
    refine d_all (fuel := 4) (rs := [2, 4]) (by kernel_rfl) (by simp) (all2 ?_ (all1 ?_))
    · replace hw := hw.nil
      obtain ⟨x270, h271, hx266⟩ := bindE hx266
      refine o_appS hs rfl hw (E := e26) appT28 0 rfl (OSl.nil _ _) (by kernel_rfl) (by kernel_rfl) (h4.mono (Le.refl _)) (hw.vwAll.nil.anti (Le.refl _)) (by kernel_rfl) h271 fun a w p272 c273 d274 h275 hw hs => ?_
      refine dg_next (SX_now hS174 ((hw.vws [1, 2, 3, 4]).anti (Le.refl _)) (by kernel_rfl)) fun hS => ?_
      refine d_all (fuel := 3) (rs := [4]) (by kernel_rfl) (by simp) (all1 ?_)
      refine o_new hs rfl hw [.int .u64 x5.f0, .int .i64 x5.f1, .int .u64 x5.f2, .int .i64 x5.f3, .int .u32 x5.f4, .int .u64 x5.f5, .slice p6 x5.f6.length c7] 26 (fun b => .slice (some ⟨b, 0, none⟩) 1 1) (by kernel_rfl) (fun _ => by kernel_rfl) fun a w b276 hs hw => ?_
      refine dg_next (SX_now hS174 ((hw.vws [2, 3, 4, 5]).anti (Le.refl _)) (by kernel_rfl)) fun hS => ?_
      refine d_all (fuel := 2) (rs := [5]) (by kernel_rfl) (by simp) (all1 ?_)
      obtain ⟨x278, h279, hx266⟩ := bindE hx266
      refine o_app1 hs rfl hw (E := e26) appT28 1 rfl h275 (by kernel_rfl) (by kernel_rfl) (c2 := 1) (by kernel_rfl) (hw.at_ 0 rfl) (z := x5) ⟨p6, c7, rfl, h8⟩ h279 fun a w p280 c281 d282 h283 hw hs => ?_
      refine dg_next (SX_now hS174 ((hw.vws [2, 3, 4, 5]).anti (Le.refl _)) (by kernel_rfl)) fun hS => ?_
      refine d_pures (fuel := 1) kS174 hs hS [6] [2, 3, 4, 20, 21, 23, 24, 25, 26] [(2, .pointer (some ⟨b162, 0, none⟩)), (3, .pointer (some ⟨b164, 0, none⟩)), (4, .pointer (some ⟨b166, 0, none⟩)), (20, .pointer (some ⟨b162, 3, none⟩)), (21, .slice p2 x1.f3.length c3), (23, .agg #[.int .u64 x5.f0, .int .i64 x5.f1, .int .u64 x5.f2, .int .i64 x5.f3, .int .u32 x5.f4, .int .u64 x5.f5, .slice p6 x5.f6.length c7]), (24, .slice (some ⟨b276, 0, none⟩) 1 1), (25, .slice p280 x278.length c281), (26, .pointer (some ⟨b162, 3, none⟩))] (by kernel_rfl) fun a hs hS => ?_
      refine d_all (fuel := 0) (rs := [7]) (by kernel_rfl) (by simp) (all1 ?_)
      refine o_store hs hw rfl 4 rfl 3 (by kernel_rfl) (by kernel_rfl) (v := .slice p280 x278.length c281) (by kernel_rfl) (by kernel_rfl) (by kernel_rfl) (by kernel_rfl) fun a w hs hw => ?_
      refine dg_next (SX_now hS174 ((hw.vws [2, 3, 5]).anti (Le.refl _)) (by kernel_rfl)) fun hS => ?_
      refine d_done (by kernel_rfl) ?_
      obtain rfl := someE hx266
      exact (hJ267 _ _).2 ⟨x278, p280, c281, d282, hk, hs.cast [2, 3, 4] (by kernel_rfl), hw.pick [2, 3, 4, 1, 5] (by kernel_rfl), h283⟩
    refine o_new hs rfl hw [.int .u64 x5.f0, .int .i64 x5.f1, .int .u64 x5.f2, .int .i64 x5.f3, .int .u32 x5.f4, .int .u64 x5.f5, .slice p6 x5.f6.length c7] 26 (fun b => .slice (some ⟨b, 0, none⟩) 1 1) (by kernel_rfl) (fun _ => by kernel_rfl) fun a w b284 hs hw => ?_
    refine dg_next (SX_now hS174 ((hw.vws [1, 2, 3, 4]).anti (Le.refl _)) (by kernel_rfl)) fun hS => ?_
    refine d_all (fuel := 3) (rs := [2]) (by kernel_rfl) (by simp) (all1 ?_)
    replace hw := hw.nil
    obtain ⟨x288, h289, hx266⟩ := bindE hx266
    refine o_appS hs rfl hw (E := e26) appT28 0 rfl (OSl.nil _ _) (by kernel_rfl) (by kernel_rfl) (h4.mono (Le.refl _)) (hw.vwAll.nil.anti (Le.refl _)) (by kernel_rfl) h289 fun a w p290 c291 d292 h293 hw hs => ?_
    refine dg_next (SX_now hS174 ((hw.vws [2, 3, 4, 5]).anti (Le.refl _)) (by kernel_rfl)) fun hS => ?_
    refine d_all (fuel := 2) (rs := [5]) (by kernel_rfl) (by simp) (all1 ?_)
    obtain ⟨x294, h295, hx266⟩ := bindE hx266
    refine o_app1 hs rfl hw (E := e26) appT28 0 rfl h293 (by kernel_rfl) (by kernel_rfl) (c2 := 1) (by kernel_rfl) (hw.at_ 1 rfl) (z := x5) ⟨p6, c7, rfl, h8⟩ h295 fun a w p296 c297 d298 h299 hw hs => ?_
    refine dg_next (SX_now hS174 ((hw.vws [2, 3, 4, 5]).anti (Le.refl _)) (by kernel_rfl)) fun hS => ?_
    refine d_pures (fuel := 1) kS174 hs hS [6] [2, 3, 4, 20, 21, 23, 24, 25, 26] [(2, .pointer (some ⟨b162, 0, none⟩)), (3, .pointer (some ⟨b164, 0, none⟩)), (4, .pointer (some ⟨b166, 0, none⟩)), (20, .pointer (some ⟨b162, 3, none⟩)), (21, .slice p2 x1.f3.length c3), (23, .agg #[.int .u64 x5.f0, .int .i64 x5.f1, .int .u64 x5.f2, .int .i64 x5.f3, .int .u32 x5.f4, .int .u64 x5.f5, .slice p6 x5.f6.length c7]), (24, .slice (some ⟨b284, 0, none⟩) 1 1), (25, .slice p296 x294.length c297), (26, .pointer (some ⟨b162, 3, none⟩))] (by kernel_rfl) fun a hs hS => ?_
    refine d_all (fuel := 0) (rs := [7]) (by kernel_rfl) (by simp) (all1 ?_)
    refine o_store hs hw rfl 4 rfl 3 (by kernel_rfl) (by kernel_rfl) (v := .slice p296 x294.length c297) (by kernel_rfl) (by kernel_rfl) (by kernel_rfl) (by kernel_rfl) fun a w hs hw => ?_
    refine dg_next (SX_now hS174 ((hw.vws [2, 3, 5]).anti (Le.refl _)) (by kernel_rfl)) fun hS => ?_
    refine d_done (by kernel_rfl) ?_
    obtain rfl := someE hx266
    exact (hJ267 _ _).2 ⟨x294, p296, c297, d298, hk, hs.cast [2, 3, 4] (by kernel_rfl), hw.pick [2, 3, 4, 0, 5] (by kernel_rfl), h299⟩
  intro a w hh
  obtain ⟨x239, p240, c241, d243, hk, hs, hw, h242⟩ := (hJ267 _ _).1 hh
  refine c_seq ?_
  refine c_region ?_
  refine pures hs 1 [2, 4, 27] [(2, .pointer (some ⟨b162, 0, none⟩)), (4, .pointer (some ⟨b166, 0, none⟩)), (27, .pointer (some ⟨b164, 0, none⟩))] (by kernel_rfl) fun a hs => ?_
  refine s_load hs (hw.at_ 1 rfl) 0 (by kernel_rfl) (by kernel_rfl) (v := .int .u64 x5.f0) (by kernel_rfl) fun a hs => ?_
  refine pures hs 1 [2, 4, 28, 29] [(2, .pointer (some ⟨b162, 0, none⟩)), (4, .pointer (some ⟨b166, 0, none⟩)), (28, .int .u64 x5.f0), (29, .pointer (some ⟨b162, 1, none⟩))] (by kernel_rfl) fun a hs => ?_
  refine s_store hs hw 2 rfl 1 (by kernel_rfl) (by kernel_rfl) (v := .int .u64 x5.f0) (by kernel_rfl) (by kernel_rfl) (by kernel_rfl) (by kernel_rfl) fun a w hs hw => ?_
  refine s_end ?_
  refine c_seq ?_
  refine c_region ?_
  refine s_load hs (hw.at_ 2 rfl) 0 (by kernel_rfl) (by kernel_rfl) (v := .agg #[.int .u64 x1.f0, .int .u64 x5.f0, .int .u64 x1.f2, .slice p240 x239.length c241]) (by kernel_rfl) fun a hs => ?_
  obtain ⟨ih255, hle256, hw, h257⟩ := (hw.pick [3, 0, 1, 2, 4] (by kernel_rfl)).fz (h242.mono (Le.refl _))
  obtain ⟨y258, h259, hk⟩ := bindE hk
  refine s_call hs (by kernel_rfl) (by kernel_rfl) (catenaryref20_kept_s h259 h257 ((hw.pick [0, 3] (by kernel_rfl)).pack 0)) fun a w v hv hs => ?_
  obtain ⟨ih260, p262, c263, rfl, hw, hle261, h264⟩ := hv
  replace hw := hw.unpack 0 rfl
  refine s_store hs hw 0 rfl 0 (by kernel_rfl) (by kernel_rfl) (v := .agg #[.int .u64 y258.f0, .int .u64 y258.f1, .int .u64 y258.f2, .slice p262 y258.f3.length c263]) (by kernel_rfl) (by kernel_rfl) (by kernel_rfl) (by kernel_rfl) fun a w hs hw => ?_
  refine pures hs 1 [4, 5] [(4, .pointer (some ⟨b166, 0, none⟩)), (5, .int .i64 0)] (by kernel_rfl) fun a hs => ?_
  refine s_end ?_
  refine c_ret ?_
  obtain rfl := someE hk
  refine hQ _ _ (f_retG hs (l := [.cell 4 58, .tmp 5]) (vs := [.agg #[.int .u64 y258.f0, .int .u64 y258.f1, .int .u64 y258.f2, .slice p262 y258.f3.length c263], .int .i64 0]) rfl (⟨res_cell hs (hw.at_ 0 rfl) (by kernel_rfl) (v := .agg #[.int .u64 y258.f0, .int .u64 y258.f1, .int .u64 y258.f2, .slice p262 y258.f3.length c263]) (by kernel_rfl), ⟨res_tmp hs (v := .int .i64 0) (by kernel_rfl), trivial⟩⟩) (by kernel_rfl) ⟨ih260, p262, c263, rfl, hw.pick [1] (by kernel_rfl), (hle256.trans hle261), h264⟩)
end Go.Proofs.YtfpllbnljlbepaaGreatDoor.Sx
