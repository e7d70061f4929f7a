/- The walk of AtlasLearns: each Go function that it calls, as a plain function, and the proof that the call computes it. Printed by the program gen.py.
   Conditions: those that each theorem states ahead of its colon, and no other. -/
import Derived.Test.YtfpppgbibgbllaaSx9
import Derived.Test.YtfpppgbibgbllaaProg
namespace Go.Proofs.Ytfpppgbibgbllaa.Sx
open Go Go.Proofs
set_option maxRecDepth 100000
set_option linter.unusedVariables false
structure M53 where
  f0 : Int
  f1 : Int
  f2 : List Int
  f3 : Bool
  f4 : Int
@[reducible] def e3 : ET := eInt .i64 3
@[reducible] def e53 : ET := ⟨M53, 5, 53, fun ih x cs => ∃ q0 k0, cs = [.int .i64 x.f0, .int .u64 x.f1, .slice q0 x.f2.length k0, .bool x.f3, .int .i64 x.f4] ∧ RSl e3 ih [] q0 k0 x.f2,
  fun ⟨_, _, h, g0⟩ => by rw [h]; rfl, fun ⟨_, _, h, g0⟩ => by rw [h]; rfl, fun ⟨p0, p1, h, g0⟩ hle => ⟨p0, p1, h, g0.mono hle⟩⟩
@[reducible] def e23 : ET := eInt .u64 23
@[reducible] def e40 : ET := eSl 40 e3
@[reducible] def e4 : ET := eBool 4
theorem appT40 : AppT Try.prog 40 e3 := appT_of (by kernel_rfl)
theorem appT79 : AppT Try.prog 79 e53 := appT_of (by kernel_rfl)
def catenaryref09_Begin_r17 (x1001 : List M53) (x1007 : Int) : Option ((List M53) × Int) :=
  if (decide (x1007 > 24)) = true then some ([], 9)
  else some (x1001, 0)
def catenaryref09_Begin_r19 (rec_catenaryref09_Begin_l18 : (List M53) → Int → Int → Option ((List M53) × Int)) (x862 : List M53) (x869 : Int) (x1091 : Int) (x1092 : List Int) : Option ((List M53) × Int) :=
  (app x862 [(M53.mk x869 1 x1092 false 0)]).bind fun x1114 =>
  rec_catenaryref09_Begin_l18 x1114 x1091 (IntKind.i64.wrap (x869 + 1))
def catenaryref09_Begin_l20 (x2 : Int) : Nat → Int → Int → (List Int) → Option (Int × (List Int))
  | 0, _, _, _ => none
  | j + 1, x1066, x1067, x1068 =>
    if (decide (x1067 < x2)) = true then (
      (app x1068 [(IntKind.i64.wrap (x1066 + 1))]).bind fun x1135 =>
      catenaryref09_Begin_l20 x2 j (IntKind.i64.wrap (x1066 + 1)) (IntKind.i64.wrap (x1067 + 1)) x1135)
    else some (x1066, x1068)
def catenaryref09_Begin_l18 (k : Nat) (x1 : Int) (x2 : Int) : Nat → (List M53) → Int → Int → Option ((List M53) × Int)
  | 0, _, _, _ => none
  | j + 1, x862, x868, x869 =>
    if (decide (x869 < x1)) = true then (catenaryref09_Begin_l20 x2 k x868 0 ([]) : Option (Int × (List Int))).bind fun s1143 => catenaryref09_Begin_r19 (catenaryref09_Begin_l18 k x1 x2 j) x862 x869 s1143.1 s1143.2
    else some (x862, x868)
def catenaryref09_Begin (k : Nat) (x1 : Int) (x2 : Int) : Option ((List M53) × Int) :=
  if ((decide (x1 < 1)) || ((decide (x1 > 4)) || ((decide (x2 < 1)) || (decide (x2 > 5))))) = true then some ([], 1)
  else (catenaryref09_Begin_l18 k x1 x2 k ([]) 0 0 : Option ((List M53) × Int)).bind fun s1146 => catenaryref09_Begin_r17 s1146.1 s1146.2
theorem catenaryref09_Begin_s {k : Nat} {x1 : Int} {x2 : Int} {r : (List M53) × Int} (hk : catenaryref09_Begin k x1 x2 = some r) {g w : World} {F : Ch} {ih : IH} (hw : St g w [F] ih) :
    CallsR Try.prog 88 #[.int .i64 x1, .int .i64 x2] w fun v w' => ∃ (ih' : IH) (p1147 : Option Addr) (c1148 : Nat) (d1149 : Ch), v = .tuple #[.slice p1147 r.1.length c1148, .int .i64 r.2] ∧ St g w' [d1149, F] ih' ∧ Le ih ih' ∧ OSl e53 ih' p1147 c1148 r.1 d1149 := by
  refine f_in (vs := [.int .i64 x1, .int .i64 x2]) Try.func88 rfl 52 rfl (by kernel_rfl) [(0, .int .i64 x1), (1, .int .i64 x2)] (by kernel_rfl) fun a Qf hQ hQn hs => ?_
  refine c_seq ?_
  refine c_region ?_
  refine pures hs 2 [0, 1] [(0, .int .i64 x1), (1, .int .i64 x2)] (by kernel_rfl) fun a hs => ?_
  refine s_end ?_
  refine c_seq ?_
  refine c_seq ?_
  obtain ⟨J581, hJ581⟩ : ∃ J : Act → World → Prop, ∀ a w, J a w ↔ (Sees a 52 [(0, .int .i64 x1), (1, .int .i64 x2), (24, .bool ((decide (x1 < 1)) || ((decide (x1 > 4)) || ((decide (x2 < 1)) || (decide (x2 > 5))))))] ∧ St g w [F] ih) := ⟨_, fun _ _ => Iff.rfl⟩
  refine c_regJ J581 ?_ ?_
  · refine pures hs 3 [0, 1, 13] [(0, .int .i64 x1), (1, .int .i64 x2), (13, .bool (decide (x1 < 1)))] (by kernel_rfl) fun a hs => ?_
    rcases boolE (decide (x1 < 1)) with h582 | h582
    · replace hs := hs.altB 13 true (by kernel_rfl) h582
      refine pures hs 11 [0, 1, 24] [(0, .int .i64 x1), (1, .int .i64 x2), (24, .bool true)] (by kernel_rfl) fun a hs => ?_
      refine s_end ?_
      exact (hJ581 _ _).2 ⟨(hs.altB 24 ((decide (x1 < 1)) || ((decide (x1 > 4)) || ((decide (x2 < 1)) || (decide (x2 > 5))))) (by kernel_rfl) (by rw [h582] <;> rfl)).cast [0, 1, 24] (by kernel_rfl), hw.pick [0] (by kernel_rfl)⟩
    · replace hs := hs.altB 13 false (by kernel_rfl) h582
      refine pures hs 4 [0, 1, 17] [(0, .int .i64 x1), (1, .int .i64 x2), (17, .bool (decide (x1 > 4)))] (by kernel_rfl) fun a hs => ?_
      rcases boolE (decide (x1 > 4)) with h583 | h583
      · replace hs := hs.altB 17 true (by kernel_rfl) h583
        refine pures hs 7 [0, 1, 24] [(0, .int .i64 x1), (1, .int .i64 x2), (24, .bool true)] (by kernel_rfl) fun a hs => ?_
        refine s_end ?_
        exact (hJ581 _ _).2 ⟨(hs.altB 24 ((decide (x1 < 1)) || ((decide (x1 > 4)) || ((decide (x2 < 1)) || (decide (x2 > 5))))) (by kernel_rfl) (by rw [h582, h583] <;> rfl)).cast [0, 1, 24] (by kernel_rfl), hw.pick [0] (by kernel_rfl)⟩
      · replace hs := hs.altB 17 false (by kernel_rfl) h583
        refine pures hs 4 [0, 1, 21] [(0, .int .i64 x1), (1, .int .i64 x2), (21, .bool (decide (x2 < 1)))] (by kernel_rfl) fun a hs => ?_
        rcases boolE (decide (x2 < 1)) with h584 | h584
        · replace hs := hs.altB 21 true (by kernel_rfl) h584
          refine pures hs 3 [0, 1, 24] [(0, .int .i64 x1), (1, .int .i64 x2), (24, .bool true)] (by kernel_rfl) fun a hs => ?_
          refine s_end ?_
          exact (hJ581 _ _).2 ⟨(hs.altB 24 ((decide (x1 < 1)) || ((decide (x1 > 4)) || ((decide (x2 < 1)) || (decide (x2 > 5))))) (by kernel_rfl) (by rw [h582, h583, h584] <;> rfl)).cast [0, 1, 24] (by kernel_rfl), hw.pick [0] (by kernel_rfl)⟩
        · replace hs := hs.altB 21 false (by kernel_rfl) h584
          refine pures hs 3 [0, 1, 24] [(0, .int .i64 x1), (1, .int .i64 x2), (24, .bool (decide (x2 > 5)))] (by kernel_rfl) fun a hs => ?_
          refine s_end ?_
          exact (hJ581 _ _).2 ⟨(hs.altB 24 ((decide (x1 < 1)) || ((decide (x1 > 4)) || ((decide (x2 < 1)) || (decide (x2 > 5))))) (by kernel_rfl) (by rw [h582, h583, h584] <;> rfl)).cast [0, 1, 24] (by kernel_rfl), hw.pick [0] (by kernel_rfl)⟩
  · intro a w hh
    obtain ⟨hs, hw⟩ := (hJ581 _ _).1 hh
    rcases ifbE hk with ⟨h585, hk⟩ | ⟨h585, hk⟩
    · refine c_cond1 hs (by kernel_rfl) (t := ((decide (x1 < 1)) || ((decide (x1 > 4)) || ((decide (x2 < 1)) || (decide (x2 > 5)))))) (by kernel_rfl) h585 ?_
      refine c_seq ?_
      refine c_region ?_
      refine pures hs 2 [4, 5] [(4, .slice none 0 0), (5, .int .i64 1)] (by kernel_rfl) fun a hs => ?_
      refine s_end ?_
      refine wp_ret ?_
      replace hw := hw.nil
      obtain rfl := someE hk
      refine hQ _ _ (f_retN hs [.tmp 4, .tmp 5] rfl [.slice none 0 0, .int .i64 1] (by kernel_rfl) (by kernel_rfl) ⟨ih, none, 0, ([]), rfl, hw.pick [0, 1] (by kernel_rfl), (Le.refl _), (OSl.nil _ _)⟩)
    · refine c_cond0 hs (by kernel_rfl) (t := ((decide (x1 < 1)) || ((decide (x1 > 4)) || ((decide (x2 < 1)) || (decide (x2 > 5)))))) (by kernel_rfl) h585 ?_
      refine wp_skip ?_
      refine c_seq ?_
      refine c_region ?_
      refine pures hs 1 [0, 1, 6] [(0, .int .i64 x1), (1, .int .i64 x2), (6, .slice none 0 0)] (by kernel_rfl) fun a hs => ?_
      refine s_end ?_
      refine c_seq ?_
      refine c_region ?_
      refine pures hs 1 [0, 1, 6, 7] [(0, .int .i64 x1), (1, .int .i64 x2), (6, .slice none 0 0), (7, .int .i64 0)] (by kernel_rfl) fun a hs => ?_
      refine s_end ?_
      refine c_seq ?_
      refine c_seq ?_
      refine c_region ?_
      refine pures hs 1 [0, 1, 6, 7, 8] [(0, .int .i64 x1), (1, .int .i64 x2), (6, .slice none 0 0), (7, .int .i64 0), (8, .int .i64 0)] (by kernel_rfl) fun a hs => ?_
      refine s_end ?_
      refine c_block ?_
      obtain ⟨y1011, hx1012, hk⟩ := bindE hk
      replace hw := hw.nil
      obtain ⟨J1013, hJ1013⟩ : ∃ J : Act → World → Prop, ∀ a w, J a w ↔ (∃ (x1001 : List M53) (x1007 : Int) (p1002 : Option Addr) (c1003 : Nat) (d1005 : Ch) (ih999 : IH), catenaryref09_Begin_r17 x1001 x1007 = some r ∧ Sees a 52 [(6, .slice p1002 x1001.length c1003), (7, .int .i64 x1007)] ∧ St g w [d1005, F] ih999 ∧ Le ih ih999 ∧ OSl e53 ih999 p1002 c1003 x1001 d1005) := ⟨_, fun _ _ => Iff.rfl⟩
      obtain ⟨I1014, hI1014⟩ : ∃ J : Nat → Act → World → Prop, ∀ j a w, J j a w ↔ (∃ (x862 : List M53) (x868 : Int) (x869 : Int) (p863 : Option Addr) (c864 : Nat) (d866 : Ch) (ih860 : IH), catenaryref09_Begin_l18 k x1 x2 j x862 x868 x869 = some y1011 ∧ Sees a 52 [(0, .int .i64 x1), (1, .int .i64 x2), (6, .slice p863 x862.length c864), (7, .int .i64 x868), (8, .int .i64 x869)] ∧ St g w [d866, F] ih860 ∧ Le ih ih860 ∧ OSl e53 ih860 p863 c864 x862 d866) := ⟨_, fun _ _ _ => Iff.rfl⟩
      refine c_exitJ 0 J1013 ?_ ?_
      · refine c_loop I1014 k ((hI1014 _ _ _).2 ⟨([]), 0, 0, none, 0, ([]), ih, hx1012, hs.cast [0, 1, 6, 7, 8] (by kernel_rfl), hw.pick [0, 1] (by kernel_rfl), (Le.refl _), (OSl.nil _ _)⟩) (fun a w h0 => ?_) fun j a w hh => ?_
        · obtain ⟨_, _, _, _, _, _, _, h, _⟩ := (hI1014 _ _ _).1 h0
          cases h
        · obtain ⟨x862, x868, x869, p863, c864, d866, ih860, hx1012, hs, hw, hle861, h865⟩ := (hI1014 _ _ _).1 hh
          refine c_seq ?_
          refine c_seq ?_
          refine c_region ?_
          refine pures hs 3 [0, 1, 6, 7, 8, 27] [(0, .int .i64 x1), (1, .int .i64 x2), (6, .slice p863 x862.length c864), (7, .int .i64 x868), (8, .int .i64 x869), (27, .bool (decide (x869 < x1)))] (by kernel_rfl) fun a hs => ?_
          refine s_end ?_
          rcases ifbE hx1012 with ⟨h1015, hx1012⟩ | ⟨h1015, hx1012⟩
          · refine c_cond1 hs (by kernel_rfl) (t := (decide (x869 < x1))) (by kernel_rfl) h1015 ?_
            refine wp_skip ?_
            refine c_seq ?_
            refine c_block ?_
            refine c_seq ?_
            refine c_region ?_
            refine pures hs 2 [0, 1, 6, 7, 8, 31] [(0, .int .i64 x1), (1, .int .i64 x2), (6, .slice p863 x862.length c864), (7, .int .i64 x868), (8, .int .i64 x869), (31, .agg #[.int .i64 x869, .int .u64 1, .slice none 0 0, .bool false, .int .i64 0])] (by kernel_rfl) fun a hs => ?_
            refine s_new hs hw [.int .i64 0, .int .u64 0, .slice none 0 0, .bool false, .int .i64 0] 53 (fun b => .pointer (some ⟨b, 0, none⟩)) (by kernel_rfl) (fun _ => by kernel_rfl) fun a w b1018 hs hw => ?_
            refine s_store hs hw 0 rfl 0 (by kernel_rfl) (by kernel_rfl) (v := .agg #[.int .i64 x869, .int .u64 1, .slice none 0 0, .bool false, .int .i64 0]) (by kernel_rfl) (by kernel_rfl) (by kernel_rfl) (by kernel_rfl) fun a w hs hw => ?_
            refine s_end ?_
            refine c_seq ?_
            refine c_seq ?_
            refine c_region ?_
            refine pures hs 1 [0, 1, 6, 7, 8, 9, 10] [(0, .int .i64 x1), (1, .int .i64 x2), (6, .slice p863 x862.length c864), (7, .int .i64 x868), (8, .int .i64 x869), (9, .pointer (some ⟨b1018, 0, none⟩)), (10, .int .i64 0)] (by kernel_rfl) fun a hs => ?_
            refine s_end ?_
            refine c_block ?_
            obtain ⟨y1120, hx1121, hx1012⟩ := bindE hx1012
            replace hw := hw.nil
            obtain ⟨J1122, hJ1122⟩ : ∃ J : Act → World → Prop, ∀ a w, J a w ↔ (∃ (x1091 : Int) (x1092 : List Int) (p1093 : Option Addr) (c1094 : Nat) (d1096 : Ch), catenaryref09_Begin_r19 (catenaryref09_Begin_l18 k x1 x2 j) x862 x869 x1091 x1092 = some y1011 ∧ Sees a 52 [(0, .int .i64 x1), (1, .int .i64 x2), (6, .slice p863 x862.length c864), (7, .int .i64 x1091), (8, .int .i64 x869), (9, .pointer (some ⟨b1018, 0, none⟩))] ∧ St g w [bx b1018 [.int .i64 x869, .int .u64 1, .slice p1093 x1092.length c1094, .bool false, .int .i64 0] 53, d866, d1096, F] ih860 ∧ OSl e3 ih860 p1093 c1094 x1092 d1096) := ⟨_, fun _ _ => Iff.rfl⟩
            obtain ⟨I1123, hI1123⟩ : ∃ J : Nat → Act → World → Prop, ∀ j a w, J j a w ↔ (∃ (x1066 : Int) (x1067 : Int) (x1068 : List Int) (p1069 : Option Addr) (c1070 : Nat) (d1072 : Ch), catenaryref09_Begin_l20 x2 j x1066 x1067 x1068 = some y1120 ∧ Sees a 52 [(0, .int .i64 x1), (1, .int .i64 x2), (6, .slice p863 x862.length c864), (7, .int .i64 x1066), (8, .int .i64 x869), (9, .pointer (some ⟨b1018, 0, none⟩)), (10, .int .i64 x1067)] ∧ St g w [bx b1018 [.int .i64 x869, .int .u64 1, .slice p1069 x1068.length c1070, .bool false, .int .i64 0] 53, d866, d1072, F] ih860 ∧ OSl e3 ih860 p1069 c1070 x1068 d1072) := ⟨_, fun _ _ _ => Iff.rfl⟩
            refine c_exitJ 2 J1122 ?_ ?_
            · refine c_loop I1123 k ((hI1123 _ _ _).2 ⟨x868, 0, ([]), none, 0, ([]), hx1121, hs.cast [0, 1, 6, 7, 8, 9, 10] (by kernel_rfl), hw.pick [1, 2, 0, 3] (by kernel_rfl), (OSl.nil _ _)⟩) (fun a w h0 => ?_) fun j a w hh => ?_
              · obtain ⟨_, _, _, _, _, _, h, _⟩ := (hI1123 _ _ _).1 h0
                cases h
              · obtain ⟨x1066, x1067, x1068, p1069, c1070, d1072, hx1121, hs, hw, h1071⟩ := (hI1123 _ _ _).1 hh
                refine c_seq ?_
                refine c_seq ?_
                refine c_region ?_
                refine pures hs 3 [0, 1, 6, 7, 8, 9, 10, 34] [(0, .int .i64 x1), (1, .int .i64 x2), (6, .slice p863 x862.length c864), (7, .int .i64 x1066), (8, .int .i64 x869), (9, .pointer (some ⟨b1018, 0, none⟩)), (10, .int .i64 x1067), (34, .bool (decide (x1067 < x2)))] (by kernel_rfl) fun a hs => ?_
                refine s_end ?_
                rcases ifbE hx1121 with ⟨h1124, hx1121⟩ | ⟨h1124, hx1121⟩
                · refine c_cond1 hs (by kernel_rfl) (t := (decide (x1067 < x2))) (by kernel_rfl) h1124 ?_
                  refine wp_skip ?_
                  refine c_seq ?_
                  refine c_block ?_
                  refine c_seq ?_
                  refine c_region ?_
                  refine pures hs 3 [0, 1, 6, 7, 8, 9, 10] [(0, .int .i64 x1), (1, .int .i64 x2), (6, .slice p863 x862.length c864), (7, .int .i64 (IntKind.i64.wrap (x1066 + 1))), (8, .int .i64 x869), (9, .pointer (some ⟨b1018, 0, none⟩)), (10, .int .i64 x1067)] (by kernel_rfl) fun a hs => ?_
                  refine s_end ?_
                  refine c_region ?_
                  refine pures hs 1 [0, 1, 6, 7, 8, 9, 10, 39] [(0, .int .i64 x1), (1, .int .i64 x2), (6, .slice p863 x862.length c864), (7, .int .i64 (IntKind.i64.wrap (x1066 + 1))), (8, .int .i64 x869), (9, .pointer (some ⟨b1018, 0, none⟩)), (10, .int .i64 x1067), (39, .pointer (some ⟨b1018, 2, none⟩))] (by kernel_rfl) fun a hs => ?_
                  refine s_load hs (hw.at_ 0 rfl) 2 (by kernel_rfl) (by kernel_rfl) (v := .slice p1069 x1068.length c1070) (by kernel_rfl) fun a hs => ?_
                  refine pures hs 1 [0, 1, 6, 7, 8, 9, 10, 40, 41] [(0, .int .i64 x1), (1, .int .i64 x2), (6, .slice p863 x862.length c864), (7, .int .i64 (IntKind.i64.wrap (x1066 + 1))), (8, .int .i64 x869), (9, .pointer (some ⟨b1018, 0, none⟩)), (10, .int .i64 x1067), (40, .slice p1069 x1068.length c1070), (41, .int .i64 (IntKind.i64.wrap (x1066 + 1)))] (by kernel_rfl) fun a hs => ?_
                  refine s_new hs hw [.int .i64 (IntKind.i64.wrap (x1066 + 1))] 3 (fun b => .slice (some ⟨b, 0, none⟩) 1 1) (by kernel_rfl) (fun _ => by kernel_rfl) fun a w b1133 hs hw => ?_
                  obtain ⟨x1135, h1136, hx1121⟩ := bindE hx1121
                  refine s_app1 hs hw (E := e3) appT40 3 rfl h1071 (by kernel_rfl) (by kernel_rfl) (c2 := 1) (by kernel_rfl) (hw.at_ 0 rfl) (z := (IntKind.i64.wrap (x1066 + 1))) rfl h1136 fun a w p1137 c1138 d1139 h1140 hw hs => ?_
                  refine pures hs 1 [0, 1, 6, 7, 8, 9, 10, 43, 44] [(0, .int .i64 x1), (1, .int .i64 x2), (6, .slice p863 x862.length c864), (7, .int .i64 (IntKind.i64.wrap (x1066 + 1))), (8, .int .i64 x869), (9, .pointer (some ⟨b1018, 0, none⟩)), (10, .int .i64 x1067), (43, .slice p1137 x1135.length c1138), (44, .pointer (some ⟨b1018, 2, none⟩))] (by kernel_rfl) fun a hs => ?_
                  refine s_store hs hw 1 rfl 2 (by kernel_rfl) (by kernel_rfl) (v := .slice p1137 x1135.length c1138) (by kernel_rfl) (by kernel_rfl) (by kernel_rfl) (by kernel_rfl) fun a w hs hw => ?_
                  refine s_end ?_
                  refine c_region ?_
                  refine pures hs 3 [0, 1, 6, 7, 8, 9, 10] [(0, .int .i64 x1), (1, .int .i64 x2), (6, .slice p863 x862.length c864), (7, .int .i64 (IntKind.i64.wrap (x1066 + 1))), (8, .int .i64 x869), (9, .pointer (some ⟨b1018, 0, none⟩)), (10, .int .i64 (IntKind.i64.wrap (x1067 + 1)))] (by kernel_rfl) fun a hs => ?_
                  refine s_end ?_
                  exact (hI1123 _ _ _).2 ⟨(IntKind.i64.wrap (x1066 + 1)), (IntKind.i64.wrap (x1067 + 1)), x1135, p1137, c1138, d1139, hx1121, hs.cast [0, 1, 6, 7, 8, 9, 10] (by kernel_rfl), hw.pick [1, 2, 3, 4] (by kernel_rfl), h1140⟩
                · refine c_cond0 hs (by kernel_rfl) (t := (decide (x1067 < x2))) (by kernel_rfl) h1124 ?_
                  refine wp_exit ?_
                  obtain rfl := someE hx1121
                  exact (hJ1122 _ _).2 ⟨x1066, x1068, p1069, c1070, d1072, hx1012, hs.cast [0, 1, 6, 7, 8, 9] (by kernel_rfl), hw.pick [0, 1, 2, 3] (by kernel_rfl), h1071⟩
            · intro a w hh
              obtain ⟨x1091, x1092, p1093, c1094, d1096, hx1012, hs, hw, h1095⟩ := (hJ1122 _ _).1 hh
              refine c_region ?_
              refine pures hs 1 [0, 1, 7, 8, 9, 45] [(0, .int .i64 x1), (1, .int .i64 x2), (7, .int .i64 x1091), (8, .int .i64 x869), (9, .pointer (some ⟨b1018, 0, none⟩)), (45, .slice p863 x862.length c864)] (by kernel_rfl) fun a hs => ?_
              refine s_load hs (hw.at_ 0 rfl) 0 (by kernel_rfl) (by kernel_rfl) (v := .agg #[.int .i64 x869, .int .u64 1, .slice p1093 x1092.length c1094, .bool false, .int .i64 0]) (by kernel_rfl) fun a hs => ?_
              obtain ⟨ih1109, hle1110, hw, h1111⟩ := (hw.pick [2, 0, 1, 3] (by kernel_rfl)).fz (h1095.mono (Le.refl _))
              refine s_new hs hw [.int .i64 x869, .int .u64 1, .slice p1093 x1092.length c1094, .bool false, .int .i64 0] 53 (fun b => .slice (some ⟨b, 0, none⟩) 1 1) (by kernel_rfl) (fun _ => by kernel_rfl) fun a w b1112 hs hw => ?_
              obtain ⟨x1114, h1115, hx1012⟩ := bindE hx1012
              refine s_app1 hs hw (E := e53) appT79 2 rfl (h865.mono hle1110) (by kernel_rfl) (by kernel_rfl) (c2 := 1) (by kernel_rfl) (hw.at_ 0 rfl) (z := (M53.mk x869 1 x1092 false 0)) ⟨p1093, c1094, rfl, h1111⟩ h1115 fun a w p1116 c1117 d1118 h1119 hw hs => ?_
              refine pures hs 1 [0, 1, 7, 8, 6] [(0, .int .i64 x1), (1, .int .i64 x2), (7, .int .i64 x1091), (8, .int .i64 x869), (6, .slice p1116 x1114.length c1117)] (by kernel_rfl) fun a hs => ?_
              refine s_end ?_
              refine c_region ?_
              refine pures hs 3 [0, 1, 7, 8, 6] [(0, .int .i64 x1), (1, .int .i64 x2), (7, .int .i64 x1091), (8, .int .i64 (IntKind.i64.wrap (x869 + 1))), (6, .slice p1116 x1114.length c1117)] (by kernel_rfl) fun a hs => ?_
              refine s_end ?_
              exact (hI1014 _ _ _).2 ⟨x1114, x1091, (IntKind.i64.wrap (x869 + 1)), p1116, c1117, d1118, ih1109, hx1012, hs.cast [0, 1, 6, 7, 8] (by kernel_rfl), hw.pick [2, 3] (by kernel_rfl), (hle861.trans hle1110), h1119⟩
          · refine c_cond0 hs (by kernel_rfl) (t := (decide (x869 < x1))) (by kernel_rfl) h1015 ?_
            refine wp_exit ?_
            obtain rfl := someE hx1012
            exact (hJ1013 _ _).2 ⟨x862, x868, p863, c864, d866, ih860, hk, hs.cast [6, 7] (by kernel_rfl), hw.pick [0, 1] (by kernel_rfl), hle861, h865⟩
      · intro a w hh
        obtain ⟨x1001, x1007, p1002, c1003, d1005, ih999, hk, hs, hw, hle1000, h1004⟩ := (hJ1013 _ _).1 hh
        refine c_seq ?_
        refine c_seq ?_
        refine c_region ?_
        refine pures hs 2 [6, 50] [(6, .slice p1002 x1001.length c1003), (50, .bool (decide (x1007 > 24)))] (by kernel_rfl) fun a hs => ?_
        refine s_end ?_
        rcases ifbE hk with ⟨h1008, hk⟩ | ⟨h1008, hk⟩
        · refine c_cond1 hs (by kernel_rfl) (t := (decide (x1007 > 24))) (by kernel_rfl) h1008 ?_
          refine c_seq ?_
          refine c_region ?_
          refine pures hs 2 [4, 5] [(4, .slice none 0 0), (5, .int .i64 9)] (by kernel_rfl) fun a hs => ?_
          refine s_end ?_
          refine wp_ret ?_
          replace hw := hw.nil
          obtain rfl := someE hk
          refine hQ _ _ (f_retN hs [.tmp 4, .tmp 5] rfl [.slice none 0 0, .int .i64 9] (by kernel_rfl) (by kernel_rfl) ⟨ih999, none, 0, ([]), rfl, hw.pick [0, 2] (by kernel_rfl), hle1000, (OSl.nil _ _)⟩)
        · refine c_cond0 hs (by kernel_rfl) (t := (decide (x1007 > 24))) (by kernel_rfl) h1008 ?_
          refine wp_skip ?_
          refine c_seq ?_
          refine c_region ?_
          refine pures hs 3 [4, 5] [(4, .slice p1002 x1001.length c1003), (5, .int .i64 0)] (by kernel_rfl) fun a hs => ?_
          refine s_end ?_
          refine wp_ret ?_
          obtain rfl := someE hk
          refine hQ _ _ (f_retN hs [.tmp 4, .tmp 5] rfl [.slice p1002 x1001.length c1003, .int .i64 0] (by kernel_rfl) (by kernel_rfl) ⟨ih999, p1002, c1003, d1005, rfl, hw.pick [0, 1] (by kernel_rfl), hle1000, h1004⟩)
def slices_Clone_int_int (x1 : List Int) : Option (List Int) :=
  (app [] x1).bind fun x => some x
theorem slices_Clone_int_int_s {x1 : List Int} {p2 : Option Addr} {c3 : Nat} {d5 : Ch} {r : List Int} (hk : slices_Clone_int_int x1 = some r) {g w : World} {F : Ch} {ih : IH} (h4 : RSl e3 ih d5 p2 c3 x1) (h6 : ∀ q ∈ d5, q ∈ F) (hw : St g w [F] ih) :
    CallsR Try.prog 114 #[.slice p2 x1.length c3] w fun v w' => ∃ (p : Option Addr) (c : Nat) (d : Ch), v = .slice p r.length c ∧ St g w' [d, F] ih ∧ OSl e3 ih p c r d := by
  rcases p2 with _ | q
  · obtain ⟨_, rfl, rfl⟩ := h4
    replace hk : some [] = some r := hk
    refine f_in (vs := [.slice none 0 0]) Try.func114 rfl 8 rfl (by kernel_rfl) [(0, .slice none 0 0)] (by kernel_rfl) fun a Qf hQ hQn hs => ?_
    refine c_seq ?_
    refine c_region ?_
    refine pures hs 1 [0] [(0, .slice none 0 0)] (by kernel_rfl) fun a hs => ?_
    refine s_end ?_
    refine c_seq ?_
    refine c_seq ?_
    refine c_region ?_
    refine pures hs 2 [0, 4] [(0, .slice none 0 0), (4, .bool true)] (by kernel_rfl) fun a hs => ?_
    refine s_end ?_
    refine c_condT hs (by kernel_rfl) (by kernel_rfl) ?_
    refine c_seq ?_
    refine c_region ?_
    refine pures hs 1 [2] [(2, .slice none 0 0)] (by kernel_rfl) fun a hs => ?_
    refine s_end ?_
    refine wp_ret ?_
    replace hw := hw.nil
    obtain rfl := someE hk
    refine hQ _ _ (f_ret1 hs rfl (v := .slice none 0 0) (by kernel_rfl) ⟨none, 0, ([]), rfl, hw.pick [0, 1] (by kernel_rfl), (OSl.nil _ _)⟩)
  · refine f_in (vs := [.slice (some q) x1.length c3]) Try.func114 rfl 8 rfl (by kernel_rfl) [(0, .slice (some q) x1.length c3)] (by kernel_rfl) fun a Qf hQ hQn hs => ?_
    refine c_seq ?_
    refine c_region ?_
    refine pures hs 1 [0] [(0, .slice (some q) x1.length c3)] (by kernel_rfl) fun a hs => ?_
    refine s_end ?_
    refine c_seq ?_
    refine c_seq ?_
    refine c_region ?_
    refine pures hs 2 [0, 4] [(0, .slice (some q) x1.length c3), (4, .bool false)] (by kernel_rfl) fun a hs => ?_
    refine s_end ?_
    refine c_condF hs (by kernel_rfl) (by kernel_rfl) ?_
    refine wp_skip ?_
    refine c_seq ?_
    refine c_region ?_
    refine s_new hs hw [] 3 (fun b => .slice (some ⟨b, 0, none⟩) 0 0) (by kernel_rfl) (fun _ => by kernel_rfl) fun a w b18 hs hw => ?_
    refine pures hs 1 [5, 6] [(5, .slice (some ⟨b18, 0, none⟩) 0 0), (6, .slice (some q) x1.length c3)] (by kernel_rfl) fun a hs => ?_
    obtain ⟨x20, h21, hk⟩ := bindE hk
    refine s_appS hs hw (E := e3) appT40 0 rfl OSl.of0 (by kernel_rfl) (by kernel_rfl) (h4.mono (Le.refl _)) (((hw.vw 1 rfl).sub h6).anti (Le.refl _)) (by kernel_rfl) h21 fun a w p22 c23 d24 h25 hw hs => ?_
    refine pures hs 1 [2] [(2, .slice p22 x20.length c23)] (by kernel_rfl) fun a hs => ?_
    refine s_end ?_
    refine wp_ret ?_
    obtain rfl := someE hk
    refine hQ _ _ (f_ret1 hs rfl (v := .slice p22 x20.length c23) (by kernel_rfl) ⟨p22, c23, d24, rfl, hw.pick [0, 1] (by kernel_rfl), h25⟩)
def conf_everybody_r2 (x207 : List Int) : Option (List Int) :=
  some x207
def conf_everybody (x1 : M53) : Option (List Int) :=
  if (x1.f4 == 0) = true then (
    (slices_Clone_int_int x1.f2).bind fun y139 =>
    some y139)
  else ((slices_Clone_int_int x1.f2).bind fun y216 =>
    (app y216 [x1.f4]).bind fun x225 =>
    some x225 : Option (List Int)).bind fun s246 => conf_everybody_r2 s246
theorem conf_everybody_s {x1 : M53} {p2 : Option Addr} {c3 : Nat} {r : (List Int)} (hk : conf_everybody x1 = some r) {g w : World} {F : Ch} {ih : IH} (h4 : RSl e3 ih [] p2 c3 x1.f2) (hw : St g w [F] ih) :
    CallsR Try.prog 109 #[.agg #[.int .i64 x1.f0, .int .u64 x1.f1, .slice p2 x1.f2.length c3, .bool x1.f3, .int .i64 x1.f4]] w fun v w' => ∃ (p247 : Option Addr) (c248 : Nat) (d249 : Ch), v = .slice p247 r.length c248 ∧ St g w' [d249, F] ih ∧ OSl e3 ih p247 c248 r d249 := by
  refine f_in (vs := [.agg #[.int .i64 x1.f0, .int .u64 x1.f1, .slice p2 x1.f2.length c3, .bool x1.f3, .int .i64 x1.f4]]) Try.func109 rfl 16 rfl (by kernel_rfl) [(0, .agg #[.int .i64 x1.f0, .int .u64 x1.f1, .slice p2 x1.f2.length c3, .bool x1.f3, .int .i64 x1.f4])] (by kernel_rfl) fun a Qf hQ hQn hs => ?_
  refine c_seq ?_
  refine c_region ?_
  refine s_new hs hw [.int .i64 x1.f0, .int .u64 x1.f1, .slice p2 x1.f2.length c3, .bool x1.f3, .int .i64 x1.f4] 53 (fun b => .pointer (some ⟨b, 0, none⟩)) (by kernel_rfl) (fun _ => by kernel_rfl) fun a w b129 hs hw => ?_
  refine pures hs 1 [1] [(1, .pointer (some ⟨b129, 0, none⟩))] (by kernel_rfl) fun a hs => ?_
  refine s_end ?_
  refine c_seq ?_
  refine c_seq ?_
  refine c_region ?_
  refine pures hs 1 [1, 3] [(1, .pointer (some ⟨b129, 0, none⟩)), (3, .pointer (some ⟨b129, 4, none⟩))] (by kernel_rfl) fun a hs => ?_
  refine s_load hs (hw.at_ 0 rfl) 4 (by kernel_rfl) (by kernel_rfl) (v := .int .i64 x1.f4) (by kernel_rfl) fun a hs => ?_
  refine pures hs 1 [1, 5] [(1, .pointer (some ⟨b129, 0, none⟩)), (5, .bool (x1.f4 == 0))] (by kernel_rfl) fun a hs => ?_
  refine s_end ?_
  rcases ifbE hk with ⟨h131, hk⟩ | ⟨h131, hk⟩
  · refine c_cond1 hs (by kernel_rfl) (t := (x1.f4 == 0)) (by kernel_rfl) h131 ?_
    refine c_seq ?_
    refine c_region ?_
    refine pures hs 1 [6] [(6, .pointer (some ⟨b129, 2, none⟩))] (by kernel_rfl) fun a hs => ?_
    refine s_load hs (hw.at_ 0 rfl) 2 (by kernel_rfl) (by kernel_rfl) (v := .slice p2 x1.f2.length c3) (by kernel_rfl) fun a hs => ?_
    obtain ⟨y139, h140, hk⟩ := bindE hk
    refine s_call hs (by kernel_rfl) (by kernel_rfl) (slices_Clone_int_int_s h140 h4 (nilSub _) ((hw.pick [1] (by kernel_rfl)).pack 0)) fun a w v hv hs => ?_
    obtain ⟨p141, c142, d144, rfl, hw, h143⟩ := hv
    replace hw := hw.unpack 1 rfl
    refine pures hs 1 [2] [(2, .slice p141 y139.length c142)] (by kernel_rfl) fun a hs => ?_
    refine s_end ?_
    refine wp_ret ?_
    obtain rfl := someE hk
    refine hQ _ _ (f_ret1 hs rfl (v := .slice p141 y139.length c142) (by kernel_rfl) ⟨p141, c142, d144, rfl, hw.pick [0, 1] (by kernel_rfl), h143⟩)
  · refine c_cond0 hs (by kernel_rfl) (t := (x1.f4 == 0)) (by kernel_rfl) h131 ?_
    refine wp_skip ?_
    refine c_seq ?_
    obtain ⟨S146, hS146, kS146⟩ := mkSX (X := [([], bx b129 [.int .i64 x1.f0, .int .u64 x1.f1, .slice p2 x1.f2.length c3, .bool x1.f3, .int .i64 x1.f4] 53), ([], F)]) (ih := ih) (K := []) rfl
    obtain ⟨y213, hx214, hk⟩ := bindE hk
    obtain ⟨J215, hJ215⟩ : ∃ J : Act → World → Prop, ∀ a w, J a w ↔ (∃ (x207 : List Int) (p208 : Option Addr) (c209 : Nat) (d211 : Ch), conf_everybody_r2 x207 = some r ∧ Sees a 16 [(2, .slice p208 x207.length c209)] ∧ St g w [d211, F] ih ∧ OSl e3 ih p208 c209 x207 d211) := ⟨_, fun _ _ => Iff.rfl⟩
    refine c_draw (by kernel_rfl) (N := 8) rfl S146 J215 ?_ ?_
    · have hw := hw.drew
      have hS : S146 (Array.replicate 8 false) _ := SX_now hS146 (hw.vws [0, 1]) (by kernel_rfl)
      refine d_pures (fuel := 7) kS146 hs hS [0] [1, 9] [(1, .pointer (some ⟨b129, 0, none⟩)), (9, .pointer (some ⟨b129, 2, none⟩))] (by kernel_rfl) fun a hs hS => ?_
      refine d_load (fuel := 6) kS146 hs hS 1 rfl (by kernel_rfl) (SX_box hS146 0 rfl (by kernel_rfl)) 2 (by kernel_rfl) (by kernel_rfl) (v := .slice p2 x1.f2.length c3) (by kernel_rfl) fun a hs hS => ?_
      refine d_pures (fuel := 5) kS146 hs hS [3] [1, 9, 10, 12] [(1, .pointer (some ⟨b129, 0, none⟩)), (9, .pointer (some ⟨b129, 2, none⟩)), (10, .slice p2 x1.f2.length c3), (12, .pointer (some ⟨b129, 4, none⟩))] (by kernel_rfl) fun a hs hS => ?_
      refine d_load (fuel := 4) kS146 hs hS 4 rfl (by kernel_rfl) (SX_box hS146 0 rfl (by kernel_rfl)) 4 (by kernel_rfl) (by kernel_rfl) (v := .int .i64 x1.f4) (by kernel_rfl) fun a hs hS => ?_
      refine d_all (fuel := 3) (rs := [2, 5]) (by kernel_rfl) (by simp) (all2 ?_ (all1 ?_))
      · obtain ⟨y216, h217, hx214⟩ := bindE hx214
        refine o_call hs rfl (by kernel_rfl) (by kernel_rfl) (slices_Clone_int_int_s h217 h4 (nilSub _) ((hw.pick [0, 1] (by kernel_rfl)).pack 0)) fun a w v hv hs => ?_
        obtain ⟨p218, c219, d221, rfl, hw, h220⟩ := hv
        replace hw := hw.unpack 1 rfl
        refine dg_next (SX_now hS146 ((hw.vws [1, 2]).anti (Le.refl _)) (by kernel_rfl)) fun hS => ?_
        refine d_all (fuel := 2) (rs := [5]) (by kernel_rfl) (by simp) (all1 ?_)
        refine o_new hs rfl hw [.int .i64 x1.f4] 3 (fun b => .slice (some ⟨b, 0, none⟩) 1 1) (by kernel_rfl) (fun _ => by kernel_rfl) fun a w b223 hs hw => ?_
        refine dg_next (SX_now hS146 ((hw.vws [2, 3]).anti (Le.refl _)) (by kernel_rfl)) fun hS => ?_
        refine d_all (fuel := 1) (rs := [6]) (by kernel_rfl) (by simp) (all1 ?_)
        obtain ⟨x225, h226, hx214⟩ := bindE hx214
        refine o_app1 hs rfl hw (E := e3) appT40 1 rfl h220 (by kernel_rfl) (by kernel_rfl) (c2 := 1) (by kernel_rfl) (hw.at_ 0 rfl) (z := x1.f4) rfl h226 fun a w p227 c228 d229 h230 hw hs => ?_
        refine dg_next (SX_now hS146 ((hw.vws [2, 3]).anti (Le.refl _)) (by kernel_rfl)) fun hS => ?_
        refine d_pures (fuel := 0) kS146 hs hS [7] [1, 9, 10, 12, 13, 14, 15, 2] [(1, .pointer (some ⟨b129, 0, none⟩)), (9, .pointer (some ⟨b129, 2, none⟩)), (10, .slice p2 x1.f2.length c3), (12, .pointer (some ⟨b129, 4, none⟩)), (13, .int .i64 x1.f4), (14, .slice (some ⟨b223, 0, none⟩) 1 1), (15, .slice p227 x225.length c228), (2, .slice p227 x225.length c228)] (by kernel_rfl) fun a hs hS => ?_
        refine d_done (by kernel_rfl) ?_
        obtain rfl := someE hx214
        exact (hJ215 _ _).2 ⟨x225, p227, c228, d229, hk, hs.cast [2] (by kernel_rfl), hw.pick [1, 3] (by kernel_rfl), h230⟩
      · refine o_new hs rfl hw [.int .i64 x1.f4] 3 (fun b => .slice (some ⟨b, 0, none⟩) 1 1) (by kernel_rfl) (fun _ => by kernel_rfl) fun a w b231 hs hw => ?_
        refine dg_next (SX_now hS146 ((hw.vws [1, 2]).anti (Le.refl _)) (by kernel_rfl)) fun hS => ?_
        refine d_all (fuel := 2) (rs := [2]) (by kernel_rfl) (by simp) (all1 ?_)
        obtain ⟨y233, h234, hx214⟩ := bindE hx214
        refine o_call hs rfl (by kernel_rfl) (by kernel_rfl) (slices_Clone_int_int_s h234 h4 (nilSub _) ((hw.pick [0, 1, 2] (by kernel_rfl)).pack 0)) fun a w v hv hs => ?_
        obtain ⟨p235, c236, d238, rfl, hw, h237⟩ := hv
        replace hw := hw.unpack 1 rfl
        refine dg_next (SX_now hS146 ((hw.vws [2, 3]).anti (Le.refl _)) (by kernel_rfl)) fun hS => ?_
        refine d_all (fuel := 1) (rs := [6]) (by kernel_rfl) (by simp) (all1 ?_)
        obtain ⟨x240, h241, hx214⟩ := bindE hx214
        refine o_app1 hs rfl hw (E := e3) appT40 0 rfl h237 (by kernel_rfl) (by kernel_rfl) (c2 := 1) (by kernel_rfl) (hw.at_ 1 rfl) (z := x1.f4) rfl h241 fun a w p242 c243 d244 h245 hw hs => ?_
        refine dg_next (SX_now hS146 ((hw.vws [2, 3]).anti (Le.refl _)) (by kernel_rfl)) fun hS => ?_
        refine d_pures (fuel := 0) kS146 hs hS [7] [1, 9, 10, 12, 13, 14, 15, 2] [(1, .pointer (some ⟨b129, 0, none⟩)), (9, .pointer (some ⟨b129, 2, none⟩)), (10, .slice p2 x1.f2.length c3), (12, .pointer (some ⟨b129, 4, none⟩)), (13, .int .i64 x1.f4), (14, .slice (some ⟨b231, 0, none⟩) 1 1), (15, .slice p242 x240.length c243), (2, .slice p242 x240.length c243)] (by kernel_rfl) fun a hs hS => ?_
        refine d_done (by kernel_rfl) ?_
        obtain rfl := someE hx214
        exact (hJ215 _ _).2 ⟨x240, p242, c243, d244, hk, hs.cast [2] (by kernel_rfl), hw.pick [0, 3] (by kernel_rfl), h245⟩
    · intro a w hh
      obtain ⟨x207, p208, c209, d211, hk, hs, hw, h210⟩ := (hJ215 _ _).1 hh
      refine wp_ret ?_
      obtain rfl := someE hk
      refine hQ _ _ (f_ret1 hs rfl (v := .slice p208 x207.length c209) (by kernel_rfl) ⟨p208, c209, d211, rfl, hw.pick [0, 1] (by kernel_rfl), h210⟩)
def conf_node (x1 : Int) : Option Bool :=
  some ((decide (x1 ≥ 1)) && (decide (x1 ≤ 24)))
theorem conf_node_s {x1 : Int} {r : Bool} (hk : conf_node x1 = some r) {g w : World} {F : Ch} {ih : IH} (hw : St g w [F] ih) :
    CallsR Try.prog 113 #[.int .i64 x1] w fun v w' => v = .bool r ∧ St g w' [F] ih := by
  refine f_in (vs := [.int .i64 x1]) Try.func113 rfl 9 rfl (by kernel_rfl) [(0, .int .i64 x1)] (by kernel_rfl) fun a Qf hQ hQn hs => ?_
  refine c_seq ?_
  refine c_region ?_
  refine pures hs 1 [0] [(0, .int .i64 x1)] (by kernel_rfl) fun a hs => ?_
  refine s_end ?_
  refine c_seq ?_
  obtain ⟨J12, hJ12⟩ : ∃ J : Act → World → Prop, ∀ a w, J a w ↔ (Sees a 9 [(2, .bool ((decide (x1 ≥ 1)) && (decide (x1 ≤ 24))))] ∧ St g w [F] ih) := ⟨_, fun _ _ => Iff.rfl⟩
  refine c_regJ J12 ?_ ?_
  · refine pures hs 3 [0, 5] [(0, .int .i64 x1), (5, .bool (decide (x1 ≥ 1)))] (by kernel_rfl) fun a hs => ?_
    rcases boolE (decide (x1 ≥ 1)) with h13 | h13
    · replace hs := hs.altB 5 true (by kernel_rfl) h13
      refine pures hs 4 [2] [(2, .bool (decide (x1 ≤ 24)))] (by kernel_rfl) fun a hs => ?_
      refine s_end ?_
      exact (hJ12 _ _).2 ⟨(hs.altB 2 ((decide (x1 ≥ 1)) && (decide (x1 ≤ 24))) (by kernel_rfl) (by rw [h13] <;> rfl)).cast [2] (by kernel_rfl), hw.pick [0] (by kernel_rfl)⟩
    · replace hs := hs.altB 5 false (by kernel_rfl) h13
      refine pures hs 4 [2] [(2, .bool false)] (by kernel_rfl) fun a hs => ?_
      refine s_end ?_
      exact (hJ12 _ _).2 ⟨(hs.altB 2 ((decide (x1 ≥ 1)) && (decide (x1 ≤ 24))) (by kernel_rfl) (by rw [h13] <;> rfl)).cast [2] (by kernel_rfl), hw.pick [0] (by kernel_rfl)⟩
  · intro a w hh
    obtain ⟨hs, hw⟩ := (hJ12 _ _).1 hh
    refine wp_ret ?_
    obtain rfl := someE hk
    refine hQ _ _ (f_ret1 hs rfl (v := .bool ((decide (x1 ≥ 1)) && (decide (x1 ≤ 24)))) (by kernel_rfl) ⟨rfl, hw.pick [0] (by kernel_rfl)⟩)
def slices_Index_int_int_r3 : Option Int :=
  some (-1)
def slices_Index_int_int_l4 (x1 : List Int) (x7 : Int) : Nat → Int → Option (Sum Int Unit)
  | 0, _ => none
  | j + 1, x78 =>
    if (decide (x78 < (x1.length : Int))) = true then (
      (ix x1 x78).bind fun x98 =>
      if (x7 == x98) = true then some (.inl x78)
      else slices_Index_int_int_l4 x1 x7 j (IntKind.i64.wrap (x78 + 1)))
    else some (.inr ())
def slices_Index_int_int (k : Nat) (x1 : List Int) (x7 : Int) : Option Int :=
  (slices_Index_int_int_l4 x1 x7 k 0 : Option (Sum Int Unit)).bind fun
    | .inl z => some z
    | .inr _ => slices_Index_int_int_r3
theorem slices_Index_int_int_s {k : Nat} {x1 : List Int} {x7 : Int} {p2 : Option Addr} {c3 : Nat} {d5 : Ch} {r : Int} (hk : slices_Index_int_int k x1 x7 = some r) {g w : World} {F : Ch} {ih : IH} (h4 : RSl e3 ih d5 p2 c3 x1) (h6 : ∀ q ∈ d5, q ∈ F) (hw : St g w [F] ih) :
    CallsR Try.prog 81 #[.slice p2 x1.length c3, .int .i64 x7] w fun v w' => v = .int .i64 r ∧ St g w' [F] ih := by
  refine f_in (vs := [.slice p2 x1.length c3, .int .i64 x7]) Try.func81 rfl 19 rfl (by kernel_rfl) [(0, .slice p2 x1.length c3), (1, .int .i64 x7)] (by kernel_rfl) fun a Qf hQ hQn hs => ?_
  refine c_seq ?_
  refine c_region ?_
  refine pures hs 1 [0, 1] [(0, .slice p2 x1.length c3), (1, .int .i64 x7)] (by kernel_rfl) fun a hs => ?_
  refine s_end ?_
  refine c_seq ?_
  refine c_seq ?_
  refine c_region ?_
  refine pures hs 3 [0, 1, 7, 8] [(0, .slice p2 x1.length c3), (1, .int .i64 x7), (7, .int .i64 (x1.length : Int)), (8, .int .i64 0)] (by kernel_rfl) fun a hs => ?_
  refine s_end ?_
  refine c_block ?_
  obtain ⟨y89, hx90, hk⟩ := bindE hk
  obtain ⟨J91, hJ91⟩ : ∃ J : Act → World → Prop, ∀ a w, J a w ↔ (slices_Index_int_int_r3 = some r ∧ Sees a 19 [] ∧ St g w [F] ih) := ⟨_, fun _ _ => Iff.rfl⟩
  obtain ⟨I92, hI92⟩ : ∃ J : Nat → Act → World → Prop, ∀ j a w, J j a w ↔ (∃ (x78 : Int), slices_Index_int_int_l4 x1 x7 j x78 = some y89 ∧ Sees a 19 [(0, .slice p2 x1.length c3), (1, .int .i64 x7), (7, .int .i64 (x1.length : Int)), (8, .int .i64 x78)] ∧ St g w [F] ih) := ⟨_, fun _ _ _ => Iff.rfl⟩
  refine c_exitJ 0 J91 ?_ ?_
  · refine c_loop I92 k ((hI92 _ _ _).2 ⟨0, hx90, hs.cast [0, 1, 7, 8] (by kernel_rfl), hw.pick [0] (by kernel_rfl)⟩) (fun a w h0 => ?_) fun j a w hh => ?_
    · obtain ⟨_, h, _⟩ := (hI92 _ _ _).1 h0
      cases h
    · obtain ⟨x78, hx90, hs, hw⟩ := (hI92 _ _ _).1 hh
      refine c_seq ?_
      refine c_region ?_
      refine pures hs 1 [0, 1, 7, 8, 9] [(0, .slice p2 x1.length c3), (1, .int .i64 x7), (7, .int .i64 (x1.length : Int)), (8, .int .i64 x78), (9, .bool (decide (x78 < (x1.length : Int))))] (by kernel_rfl) fun a hs => ?_
      refine s_end ?_
      refine c_seq ?_
      rcases ifbE hx90 with ⟨h93, hx90⟩ | ⟨h93, hx90⟩
      · refine c_cond1 hs (by kernel_rfl) (t := (decide (x78 < (x1.length : Int)))) (by kernel_rfl) h93 ?_
        refine wp_skip ?_
        refine c_seq ?_
        refine c_block ?_
        refine c_seq ?_
        refine c_region ?_
        refine pures hs 2 [0, 1, 7, 8, 5] [(0, .slice p2 x1.length c3), (1, .int .i64 x7), (7, .int .i64 (x1.length : Int)), (8, .int .i64 x78), (5, .int .i64 x78)] (by kernel_rfl) fun a hs => ?_
        refine s_end ?_
        refine c_seq ?_
        refine c_region ?_
        refine pures hs 3 [0, 1, 7, 8, 5, 11, 12, 13] [(0, .slice p2 x1.length c3), (1, .int .i64 x7), (7, .int .i64 (x1.length : Int)), (8, .int .i64 x78), (5, .int .i64 x78), (11, .int .i64 x7), (12, .slice p2 x1.length c3), (13, .int .i64 x78)] (by kernel_rfl) fun a hs => ?_
        obtain ⟨x98, h99, hx90⟩ := bindE hx90
        refine s_index hs h4 (by kernel_rfl) (by kernel_rfl) (k := .i64) (by kernel_rfl) 3 (by kernel_rfl) (by kernel_rfl) h99 fun a r100 cs henc at101 hs => ?_
        obtain rfl := henc
        refine s_load hs (at101 _ (((hw.vw 0 rfl).sub h6).anti (Le.refl _))) 0 (by kernel_rfl) (by kernel_rfl) (v := .int .i64 x98) (by kernel_rfl) fun a hs => ?_
        refine pures hs 1 [0, 1, 7, 8, 5, 16] [(0, .slice p2 x1.length c3), (1, .int .i64 x7), (7, .int .i64 (x1.length : Int)), (8, .int .i64 x78), (5, .int .i64 x78), (16, .bool (x7 == x98))] (by kernel_rfl) fun a hs => ?_
        refine s_end ?_
        rcases ifbE hx90 with ⟨h102, hx90⟩ | ⟨h102, hx90⟩
        · refine c_cond1 hs (by kernel_rfl) (t := (x7 == x98)) (by kernel_rfl) h102 ?_
          refine c_seq ?_
          refine c_region ?_
          refine pures hs 2 [4] [(4, .int .i64 x78)] (by kernel_rfl) fun a hs => ?_
          refine s_end ?_
          refine wp_ret ?_
          obtain rfl := someE hx90
          obtain rfl := someE hk
          refine hQ _ _ (f_ret1 hs rfl (v := .int .i64 x78) (by kernel_rfl) ⟨rfl, hw.pick [0] (by kernel_rfl)⟩)
        · refine c_cond0 hs (by kernel_rfl) (t := (x7 == x98)) (by kernel_rfl) h102 ?_
          refine wp_skip ?_
          refine c_region ?_
          refine pures hs 2 [0, 1, 7, 8] [(0, .slice p2 x1.length c3), (1, .int .i64 x7), (7, .int .i64 (x1.length : Int)), (8, .int .i64 (IntKind.i64.wrap (x78 + 1)))] (by kernel_rfl) fun a hs => ?_
          refine s_end ?_
          exact (hI92 _ _ _).2 ⟨(IntKind.i64.wrap (x78 + 1)), hx90, hs.cast [0, 1, 7, 8] (by kernel_rfl), hw.pick [0] (by kernel_rfl)⟩
      · refine c_cond0 hs (by kernel_rfl) (t := (decide (x78 < (x1.length : Int)))) (by kernel_rfl) h93 ?_
        refine wp_exit ?_
        obtain rfl := someE hx90
        exact (hJ91 _ _).2 ⟨hk, hs.cast [] (by kernel_rfl), hw.pick [0] (by kernel_rfl)⟩
  · intro a w hh
    obtain ⟨hk, hs, hw⟩ := (hJ91 _ _).1 hh
    refine c_seq ?_
    refine c_region ?_
    refine pures hs 1 [4] [(4, .int .i64 (-1))] (by kernel_rfl) fun a hs => ?_
    refine s_end ?_
    refine wp_ret ?_
    obtain rfl := someE hk
    refine hQ _ _ (f_ret1 hs rfl (v := .int .i64 (-1)) (by kernel_rfl) ⟨rfl, hw.pick [0] (by kernel_rfl)⟩)
def slices_Contains_int_int (k : Nat) (x1 : List Int) (x7 : Int) : Option Bool :=
  (slices_Index_int_int k x1 x7).bind fun y16 =>
  some (decide (y16 ≥ 0))
theorem slices_Contains_int_int_s {k : Nat} {x1 : List Int} {x7 : Int} {p2 : Option Addr} {c3 : Nat} {d5 : Ch} {r : Bool} (hk : slices_Contains_int_int k x1 x7 = some r) {g w : World} {F : Ch} {ih : IH} (h4 : RSl e3 ih d5 p2 c3 x1) (h6 : ∀ q ∈ d5, q ∈ F) (hw : St g w [F] ih) :
    CallsR Try.prog 82 #[.slice p2 x1.length c3, .int .i64 x7] w fun v w' => v = .bool r ∧ St g w' [F] ih := by
  refine f_in (vs := [.slice p2 x1.length c3, .int .i64 x7]) Try.func82 rfl 9 rfl (by kernel_rfl) [(0, .slice p2 x1.length c3), (1, .int .i64 x7)] (by kernel_rfl) fun a Qf hQ hQn hs => ?_
  refine c_seq ?_
  refine c_region ?_
  refine pures hs 1 [0, 1] [(0, .slice p2 x1.length c3), (1, .int .i64 x7)] (by kernel_rfl) fun a hs => ?_
  refine s_end ?_
  refine c_seq ?_
  refine c_region ?_
  refine pures hs 2 [5, 6] [(5, .slice p2 x1.length c3), (6, .int .i64 x7)] (by kernel_rfl) fun a hs => ?_
  obtain ⟨y16, h17, hk⟩ := bindE hk
  refine s_call hs (by kernel_rfl) (by kernel_rfl) (slices_Index_int_int_s h17 h4 (fun q hq => memF 0 rfl q (h6 q hq)) ((hw.pick [0] (by kernel_rfl)).pack 0)) fun a w v hv hs => ?_
  obtain ⟨rfl, hw⟩ := hv
  replace hw := hw.unpack 0 rfl
  refine pures hs 2 [4] [(4, .bool (decide (y16 ≥ 0)))] (by kernel_rfl) fun a hs => ?_
  refine s_end ?_
  refine wp_ret ?_
  obtain rfl := someE hk
  refine hQ _ _ (f_ret1 hs rfl (v := .bool (decide (y16 ≥ 0))) (by kernel_rfl) ⟨rfl, hw.pick [0] (by kernel_rfl)⟩)
def conf_unlike_r10 : Option Bool :=
  some true
def conf_unlike_r12 (rec_conf_unlike_l11 : Int → Option (Sum Bool Unit)) (x287 : Int) (x366 : Bool) : Option (Sum Bool Unit) :=
  if x366 = true then some (.inl false)
  else rec_conf_unlike_l11 (IntKind.i64.wrap (x287 + 1))
def conf_unlike_l11 (k : Nat) (x1 : List Int) : Nat → Int → Option (Sum Bool Unit)
  | 0, _ => none
  | j + 1, x287 =>
    if (decide (x287 < (x1.length : Int))) = true then (
      (ix x1 x287).bind fun x342 =>
      ((conf_node x342).bind fun y371 =>
        if (!y371) = true then some true
        else (sl x1 0 x287).bind fun x374 =>
        (slices_Contains_int_int k x374 x342).bind fun y379 =>
        some y379 : Option Bool).bind fun s381 => conf_unlike_r12 (conf_unlike_l11 k x1 j) x287 s381)
    else some (.inr ())
def conf_unlike (k : Nat) (x1 : List Int) : Option Bool :=
  (conf_unlike_l11 k x1 k 0 : Option (Sum Bool Unit)).bind fun
    | .inl z => some z
    | .inr _ => conf_unlike_r10
theorem conf_unlike_s {k : Nat} {x1 : List Int} {p2 : Option Addr} {c3 : Nat} {d5 : Ch} {r : Bool} (hk : conf_unlike k x1 = some r) {g w : World} {F : Ch} {ih : IH} (h4 : RSl e3 ih d5 p2 c3 x1) (h6 : ∀ q ∈ d5, q ∈ F) (hw : St g w [F] ih) :
    CallsR Try.prog 108 #[.slice p2 x1.length c3] w fun v w' => v = .bool r ∧ St g w' [F] ih := by
  refine f_in (vs := [.slice p2 x1.length c3]) Try.func108 rfl 23 rfl (by kernel_rfl) [(0, .slice p2 x1.length c3)] (by kernel_rfl) fun a Qf hQ hQn hs => ?_
  refine c_seq ?_
  refine c_region ?_
  refine pures hs 1 [0] [(0, .slice p2 x1.length c3)] (by kernel_rfl) fun a hs => ?_
  refine s_end ?_
  refine c_seq ?_
  refine c_seq ?_
  refine c_region ?_
  refine pures hs 3 [0, 5, 6, 7] [(0, .slice p2 x1.length c3), (5, .slice p2 x1.length c3), (6, .int .i64 (x1.length : Int)), (7, .int .i64 0)] (by kernel_rfl) fun a hs => ?_
  refine s_end ?_
  refine c_block ?_
  obtain ⟨y333, hx334, hk⟩ := bindE hk
  obtain ⟨J335, hJ335⟩ : ∃ J : Act → World → Prop, ∀ a w, J a w ↔ (conf_unlike_r10 = some r ∧ Sees a 23 [] ∧ St g w [F] ih) := ⟨_, fun _ _ => Iff.rfl⟩
  obtain ⟨I336, hI336⟩ : ∃ J : Nat → Act → World → Prop, ∀ j a w, J j a w ↔ (∃ (x287 : Int), conf_unlike_l11 k x1 j x287 = some y333 ∧ Sees a 23 [(0, .slice p2 x1.length c3), (5, .slice p2 x1.length c3), (6, .int .i64 (x1.length : Int)), (7, .int .i64 x287)] ∧ St g w [F] ih) := ⟨_, fun _ _ _ => Iff.rfl⟩
  refine c_exitJ 0 J335 ?_ ?_
  · refine c_loop I336 k ((hI336 _ _ _).2 ⟨0, hx334, hs.cast [0, 5, 6, 7] (by kernel_rfl), hw.pick [0] (by kernel_rfl)⟩) (fun a w h0 => ?_) fun j a w hh => ?_
    · obtain ⟨_, h, _⟩ := (hI336 _ _ _).1 h0
      cases h
    · obtain ⟨x287, hx334, hs, hw⟩ := (hI336 _ _ _).1 hh
      refine c_seq ?_
      refine c_region ?_
      refine pures hs 1 [0, 5, 6, 7, 8] [(0, .slice p2 x1.length c3), (5, .slice p2 x1.length c3), (6, .int .i64 (x1.length : Int)), (7, .int .i64 x287), (8, .bool (decide (x287 < (x1.length : Int))))] (by kernel_rfl) fun a hs => ?_
      refine s_end ?_
      refine c_seq ?_
      rcases ifbE hx334 with ⟨h337, hx334⟩ | ⟨h337, hx334⟩
      · refine c_cond1 hs (by kernel_rfl) (t := (decide (x287 < (x1.length : Int)))) (by kernel_rfl) h337 ?_
        refine wp_skip ?_
        refine c_seq ?_
        refine c_block ?_
        refine c_seq ?_
        refine c_region ?_
        refine pures hs 1 [0, 5, 6, 7, 9] [(0, .slice p2 x1.length c3), (5, .slice p2 x1.length c3), (6, .int .i64 (x1.length : Int)), (7, .int .i64 x287), (9, .int .i64 x287)] (by kernel_rfl) fun a hs => ?_
        obtain ⟨x342, h343, hx334⟩ := bindE hx334
        refine s_index hs h4 (by kernel_rfl) (by kernel_rfl) (k := .i64) (by kernel_rfl) 3 (by kernel_rfl) (by kernel_rfl) h343 fun a r344 cs henc at345 hs => ?_
        obtain rfl := henc
        refine s_load hs (at345 _ (((hw.vw 0 rfl).sub h6).anti (Le.refl _))) 0 (by kernel_rfl) (by kernel_rfl) (v := .int .i64 x342) (by kernel_rfl) fun a hs => ?_
        refine pures hs 2 [0, 5, 6, 7, 3, 4] [(0, .slice p2 x1.length c3), (5, .slice p2 x1.length c3), (6, .int .i64 (x1.length : Int)), (7, .int .i64 x287), (3, .int .i64 x287), (4, .int .i64 x342)] (by kernel_rfl) fun a hs => ?_
        refine s_end ?_
        refine c_seq ?_
        obtain ⟨y368, hx369, hx334⟩ := bindE hx334
        obtain ⟨J370, hJ370⟩ : ∃ J : Act → World → Prop, ∀ a w, J a w ↔ (∃ (x366 : Bool), conf_unlike_r12 (conf_unlike_l11 k x1 j) x287 x366 = some y333 ∧ Sees a 23 [(0, .slice p2 x1.length c3), (5, .slice p2 x1.length c3), (6, .int .i64 (x1.length : Int)), (7, .int .i64 x287), (21, .bool x366)] ∧ St g w [F] ih) := ⟨_, fun _ _ => Iff.rfl⟩
        refine c_regJ J370 ?_ ?_
        · refine pures hs 1 [0, 5, 6, 7, 3, 4, 12] [(0, .slice p2 x1.length c3), (5, .slice p2 x1.length c3), (6, .int .i64 (x1.length : Int)), (7, .int .i64 x287), (3, .int .i64 x287), (4, .int .i64 x342), (12, .int .i64 x342)] (by kernel_rfl) fun a hs => ?_
          obtain ⟨y371, h372, hx369⟩ := bindE hx369
          refine s_call hs (by kernel_rfl) (by kernel_rfl) (conf_node_s h372 ((hw.pick [0] (by kernel_rfl)).pack 0)) fun a w v hv hs => ?_
          obtain ⟨rfl, hw⟩ := hv
          replace hw := hw.unpack 0 rfl
          refine pures hs 2 [0, 5, 6, 7, 3, 4, 15] [(0, .slice p2 x1.length c3), (5, .slice p2 x1.length c3), (6, .int .i64 (x1.length : Int)), (7, .int .i64 x287), (3, .int .i64 x287), (4, .int .i64 x342), (15, .bool (!y371))] (by kernel_rfl) fun a hs => ?_
          rcases ifbE hx369 with ⟨h373, hx369⟩ | ⟨h373, hx369⟩
          · replace hs := hs.altB 15 true (by kernel_rfl) h373
            refine pures hs 6 [0, 5, 6, 7, 21] [(0, .slice p2 x1.length c3), (5, .slice p2 x1.length c3), (6, .int .i64 (x1.length : Int)), (7, .int .i64 x287), (21, .bool true)] (by kernel_rfl) fun a hs => ?_
            refine s_end ?_
            obtain rfl := someE hx369
            exact (hJ370 _ _).2 ⟨true, hx334, hs.cast [0, 5, 6, 7, 21] (by kernel_rfl), hw.pick [0] (by kernel_rfl)⟩
          · replace hs := hs.altB 15 false (by kernel_rfl) h373
            refine pures hs 2 [0, 5, 6, 7, 4, 15, 16, 17] [(0, .slice p2 x1.length c3), (5, .slice p2 x1.length c3), (6, .int .i64 (x1.length : Int)), (7, .int .i64 x287), (4, .int .i64 x342), (15, .bool false), (16, .slice p2 x1.length c3), (17, .int .i64 x287)] (by kernel_rfl) fun a hs => ?_
            obtain ⟨x374, h375, hx369⟩ := bindE hx369
            refine s_slice hs h4 (by kernel_rfl) (by kernel_rfl) 3 (by kernel_rfl) (by kernel_rfl) (by kernel_rfl) (by kernel_rfl) (by kernel_rfl) h375 (.inl rfl) fun a p376 c377 h378 hs => ?_
            refine pures hs 1 [0, 5, 6, 7, 15, 18, 19] [(0, .slice p2 x1.length c3), (5, .slice p2 x1.length c3), (6, .int .i64 (x1.length : Int)), (7, .int .i64 x287), (15, .bool false), (18, .slice p376 x374.length c377), (19, .int .i64 x342)] (by kernel_rfl) fun a hs => ?_
            obtain ⟨y379, h380, hx369⟩ := bindE hx369
            refine s_call hs (by kernel_rfl) (by kernel_rfl) (slices_Contains_int_int_s h380 h378 (fun q hq => memF 0 rfl q (h6 q hq)) ((hw.pick [0] (by kernel_rfl)).pack 0)) fun a w v hv hs => ?_
            obtain ⟨rfl, hw⟩ := hv
            replace hw := hw.unpack 0 rfl
            refine pures hs 1 [0, 5, 6, 7, 21] [(0, .slice p2 x1.length c3), (5, .slice p2 x1.length c3), (6, .int .i64 (x1.length : Int)), (7, .int .i64 x287), (21, .bool y379)] (by kernel_rfl) fun a hs => ?_
            refine s_end ?_
            obtain rfl := someE hx369
            exact (hJ370 _ _).2 ⟨y379, hx334, hs.cast [0, 5, 6, 7, 21] (by kernel_rfl), hw.pick [0] (by kernel_rfl)⟩
        · intro a w hh
          obtain ⟨x366, hx334, hs, hw⟩ := (hJ370 _ _).1 hh
          rcases ifbE hx334 with ⟨h367, hx334⟩ | ⟨h367, hx334⟩
          · refine c_cond1 hs (by kernel_rfl) (t := x366) (by kernel_rfl) h367 ?_
            refine c_seq ?_
            refine c_region ?_
            refine pures hs 1 [2] [(2, .bool false)] (by kernel_rfl) fun a hs => ?_
            refine s_end ?_
            refine wp_ret ?_
            obtain rfl := someE hx334
            obtain rfl := someE hk
            refine hQ _ _ (f_ret1 hs rfl (v := .bool false) (by kernel_rfl) ⟨rfl, hw.pick [0] (by kernel_rfl)⟩)
          · refine c_cond0 hs (by kernel_rfl) (t := x366) (by kernel_rfl) h367 ?_
            refine wp_skip ?_
            refine c_region ?_
            refine pures hs 2 [0, 5, 6, 7] [(0, .slice p2 x1.length c3), (5, .slice p2 x1.length c3), (6, .int .i64 (x1.length : Int)), (7, .int .i64 (IntKind.i64.wrap (x287 + 1)))] (by kernel_rfl) fun a hs => ?_
            refine s_end ?_
            exact (hI336 _ _ _).2 ⟨(IntKind.i64.wrap (x287 + 1)), hx334, hs.cast [0, 5, 6, 7] (by kernel_rfl), hw.pick [0] (by kernel_rfl)⟩
      · refine c_cond0 hs (by kernel_rfl) (t := (decide (x287 < (x1.length : Int)))) (by kernel_rfl) h337 ?_
        refine wp_exit ?_
        obtain rfl := someE hx334
        exact (hJ335 _ _).2 ⟨hk, hs.cast [] (by kernel_rfl), hw.pick [0] (by kernel_rfl)⟩
  · intro a w hh
    obtain ⟨hk, hs, hw⟩ := (hJ335 _ _).1 hh
    refine c_seq ?_
    refine c_region ?_
    refine pures hs 1 [2] [(2, .bool true)] (by kernel_rfl) fun a hs => ?_
    refine s_end ?_
    refine wp_ret ?_
    obtain rfl := someE hk
    refine hQ _ _ (f_ret1 hs rfl (v := .bool true) (by kernel_rfl) ⟨rfl, hw.pick [0] (by kernel_rfl)⟩)
def conf_Right (k : Nat) (x1 : M53) : Option Bool :=
  if ((decide (x1.f0 < 0)) || ((decide (x1.f0 ≥ 4)) || (decide (x1.f1 < 1)))) = true then some false
  else if ((decide ((x1.f2.length : Int) < 1)) || ((decide ((x1.f2.length : Int) > 5)) || (x1.f3 && ((decide ((x1.f2.length : Int) < 2)) || (x1.f4 != 0))))) = true then some false
  else (conf_everybody x1).bind fun y90 =>
  (conf_unlike k y90).bind fun y97 =>
  some y97
theorem conf_Right_s {k : Nat} {x1 : M53} {p2 : Option Addr} {c3 : Nat} {r : Bool} (hk : conf_Right k x1 = some r) {g w : World} {F : Ch} {ih : IH} (h4 : RSl e3 ih [] p2 c3 x1.f2) (hw : St g w [F] ih) :
    CallsR Try.prog 80 #[.agg #[.int .i64 x1.f0, .int .u64 x1.f1, .slice p2 x1.f2.length c3, .bool x1.f3, .int .i64 x1.f4]] w fun v w' => v = .bool r ∧ St g w' [F] ih := by
  refine f_in (vs := [.agg #[.int .i64 x1.f0, .int .u64 x1.f1, .slice p2 x1.f2.length c3, .bool x1.f3, .int .i64 x1.f4]]) Try.func80 rfl 44 rfl (by kernel_rfl) [(0, .agg #[.int .i64 x1.f0, .int .u64 x1.f1, .slice p2 x1.f2.length c3, .bool x1.f3, .int .i64 x1.f4])] (by kernel_rfl) fun a Qf hQ hQn hs => ?_
  refine c_seq ?_
  refine c_region ?_
  refine s_new hs hw [.int .i64 x1.f0, .int .u64 x1.f1, .slice p2 x1.f2.length c3, .bool x1.f3, .int .i64 x1.f4] 53 (fun b => .pointer (some ⟨b, 0, none⟩)) (by kernel_rfl) (fun _ => by kernel_rfl) fun a w b55 hs hw => ?_
  refine pures hs 1 [1] [(1, .pointer (some ⟨b55, 0, none⟩))] (by kernel_rfl) fun a hs => ?_
  refine s_end ?_
  refine c_seq ?_
  refine c_region ?_
  refine pures hs 1 [1, 4] [(1, .pointer (some ⟨b55, 0, none⟩)), (4, .pointer (some ⟨b55, 2, none⟩))] (by kernel_rfl) fun a hs => ?_
  refine s_load hs (hw.at_ 0 rfl) 2 (by kernel_rfl) (by kernel_rfl) (v := .slice p2 x1.f2.length c3) (by kernel_rfl) fun a hs => ?_
  refine pures hs 2 [1, 3] [(1, .pointer (some ⟨b55, 0, none⟩)), (3, .int .i64 (x1.f2.length : Int))] (by kernel_rfl) fun a hs => ?_
  refine s_end ?_
  refine c_seq ?_
  refine c_block ?_
  refine c_seq ?_
  obtain ⟨J62, hJ62⟩ : ∃ J : Act → World → Prop, ∀ a w, J a w ↔ (Sees a 44 [(1, .pointer (some ⟨b55, 0, none⟩)), (3, .int .i64 (x1.f2.length : Int)), (7, .bool ((decide (x1.f0 < 0)) || ((decide (x1.f0 ≥ 4)) || (decide (x1.f1 < 1)))))] ∧ St g w [bx b55 [.int .i64 x1.f0, .int .u64 x1.f1, .slice p2 x1.f2.length c3, .bool x1.f3, .int .i64 x1.f4] 53, F] ih) := ⟨_, fun _ _ => Iff.rfl⟩
  refine c_regJ J62 ?_ ?_
  · refine pures hs 1 [1, 3, 8] [(1, .pointer (some ⟨b55, 0, none⟩)), (3, .int .i64 (x1.f2.length : Int)), (8, .pointer (some ⟨b55, 0, none⟩))] (by kernel_rfl) fun a hs => ?_
    refine s_load hs (hw.at_ 0 rfl) 0 (by kernel_rfl) (by kernel_rfl) (v := .int .i64 x1.f0) (by kernel_rfl) fun a hs => ?_
    refine pures hs 2 [1, 3, 11] [(1, .pointer (some ⟨b55, 0, none⟩)), (3, .int .i64 (x1.f2.length : Int)), (11, .bool (decide (x1.f0 < 0)))] (by kernel_rfl) fun a hs => ?_
    rcases boolE (decide (x1.f0 < 0)) with h63 | h63
    · replace hs := hs.altB 11 true (by kernel_rfl) h63
      refine pures hs 10 [1, 3, 7] [(1, .pointer (some ⟨b55, 0, none⟩)), (3, .int .i64 (x1.f2.length : Int)), (7, .bool true)] (by kernel_rfl) fun a hs => ?_
      refine s_end ?_
      exact (hJ62 _ _).2 ⟨(hs.altB 7 ((decide (x1.f0 < 0)) || ((decide (x1.f0 ≥ 4)) || (decide (x1.f1 < 1)))) (by kernel_rfl) (by rw [h63] <;> rfl)).cast [1, 3, 7] (by kernel_rfl), hw.pick [0, 1] (by kernel_rfl)⟩
    · replace hs := hs.altB 11 false (by kernel_rfl) h63
      refine pures hs 1 [1, 3, 11, 12] [(1, .pointer (some ⟨b55, 0, none⟩)), (3, .int .i64 (x1.f2.length : Int)), (11, .bool false), (12, .pointer (some ⟨b55, 0, none⟩))] (by kernel_rfl) fun a hs => ?_
      refine s_load hs (hw.at_ 0 rfl) 0 (by kernel_rfl) (by kernel_rfl) (v := .int .i64 x1.f0) (by kernel_rfl) fun a hs => ?_
      refine pures hs 3 [1, 3, 16] [(1, .pointer (some ⟨b55, 0, none⟩)), (3, .int .i64 (x1.f2.length : Int)), (16, .bool (decide (x1.f0 ≥ 4)))] (by kernel_rfl) fun a hs => ?_
      rcases boolE (decide (x1.f0 ≥ 4)) with h64 | h64
      · replace hs := hs.altB 16 true (by kernel_rfl) h64
        refine pures hs 5 [1, 3, 7] [(1, .pointer (some ⟨b55, 0, none⟩)), (3, .int .i64 (x1.f2.length : Int)), (7, .bool true)] (by kernel_rfl) fun a hs => ?_
        refine s_end ?_
        exact (hJ62 _ _).2 ⟨(hs.altB 7 ((decide (x1.f0 < 0)) || ((decide (x1.f0 ≥ 4)) || (decide (x1.f1 < 1)))) (by kernel_rfl) (by rw [h63, h64] <;> rfl)).cast [1, 3, 7] (by kernel_rfl), hw.pick [0, 1] (by kernel_rfl)⟩
      · replace hs := hs.altB 16 false (by kernel_rfl) h64
        refine pures hs 1 [1, 3, 16, 17] [(1, .pointer (some ⟨b55, 0, none⟩)), (3, .int .i64 (x1.f2.length : Int)), (16, .bool false), (17, .pointer (some ⟨b55, 1, none⟩))] (by kernel_rfl) fun a hs => ?_
        refine s_load hs (hw.at_ 0 rfl) 1 (by kernel_rfl) (by kernel_rfl) (v := .int .u64 x1.f1) (by kernel_rfl) fun a hs => ?_
        refine pures hs 3 [1, 3, 7] [(1, .pointer (some ⟨b55, 0, none⟩)), (3, .int .i64 (x1.f2.length : Int)), (7, .bool (decide (x1.f1 < 1)))] (by kernel_rfl) fun a hs => ?_
        refine s_end ?_
        exact (hJ62 _ _).2 ⟨(hs.altB 7 ((decide (x1.f0 < 0)) || ((decide (x1.f0 ≥ 4)) || (decide (x1.f1 < 1)))) (by kernel_rfl) (by rw [h63, h64] <;> rfl)).cast [1, 3, 7] (by kernel_rfl), hw.pick [0, 1] (by kernel_rfl)⟩
  · intro a w hh
    obtain ⟨hs, hw⟩ := (hJ62 _ _).1 hh
    rcases ifbE hk with ⟨h65, hk⟩ | ⟨h65, hk⟩
    · refine c_cond1 hs (by kernel_rfl) (t := ((decide (x1.f0 < 0)) || ((decide (x1.f0 ≥ 4)) || (decide (x1.f1 < 1))))) (by kernel_rfl) h65 ?_
      refine c_seq ?_
      refine c_region ?_
      refine pures hs 1 [2] [(2, .bool false)] (by kernel_rfl) fun a hs => ?_
      refine s_end ?_
      refine wp_ret ?_
      obtain rfl := someE hk
      refine hQ _ _ (f_ret1 hs rfl (v := .bool false) (by kernel_rfl) ⟨rfl, hw.pick [1] (by kernel_rfl)⟩)
    · refine c_cond0 hs (by kernel_rfl) (t := ((decide (x1.f0 < 0)) || ((decide (x1.f0 ≥ 4)) || (decide (x1.f1 < 1))))) (by kernel_rfl) h65 ?_
      refine c_seq ?_
      obtain ⟨J75, hJ75⟩ : ∃ J : Act → World → Prop, ∀ a w, J a w ↔ (Sees a 44 [(1, .pointer (some ⟨b55, 0, none⟩)), (21, .bool ((decide ((x1.f2.length : Int) < 1)) || ((decide ((x1.f2.length : Int) > 5)) || (x1.f3 && ((decide ((x1.f2.length : Int) < 2)) || (x1.f4 != 0))))))] ∧ St g w [bx b55 [.int .i64 x1.f0, .int .u64 x1.f1, .slice p2 x1.f2.length c3, .bool x1.f3, .int .i64 x1.f4] 53, F] ih) := ⟨_, fun _ _ => Iff.rfl⟩
      refine c_regJ J75 ?_ ?_
      · refine pures hs 3 [1, 3, 24] [(1, .pointer (some ⟨b55, 0, none⟩)), (3, .int .i64 (x1.f2.length : Int)), (24, .bool (decide ((x1.f2.length : Int) < 1)))] (by kernel_rfl) fun a hs => ?_
        rcases boolE (decide ((x1.f2.length : Int) < 1)) with h76 | h76
        · replace hs := hs.altB 24 true (by kernel_rfl) h76
          refine pures hs 17 [1, 21] [(1, .pointer (some ⟨b55, 0, none⟩)), (21, .bool true)] (by kernel_rfl) fun a hs => ?_
          refine s_end ?_
          exact (hJ75 _ _).2 ⟨(hs.altB 21 ((decide ((x1.f2.length : Int) < 1)) || ((decide ((x1.f2.length : Int) > 5)) || (x1.f3 && ((decide ((x1.f2.length : Int) < 2)) || (x1.f4 != 0))))) (by kernel_rfl) (by rw [h76] <;> rfl)).cast [1, 21] (by kernel_rfl), hw.pick [0, 1] (by kernel_rfl)⟩
        · replace hs := hs.altB 24 false (by kernel_rfl) h76
          refine pures hs 4 [1, 3, 28] [(1, .pointer (some ⟨b55, 0, none⟩)), (3, .int .i64 (x1.f2.length : Int)), (28, .bool (decide ((x1.f2.length : Int) > 5)))] (by kernel_rfl) fun a hs => ?_
          rcases boolE (decide ((x1.f2.length : Int) > 5)) with h77 | h77
          · replace hs := hs.altB 28 true (by kernel_rfl) h77
            refine pures hs 13 [1, 21] [(1, .pointer (some ⟨b55, 0, none⟩)), (21, .bool true)] (by kernel_rfl) fun a hs => ?_
            refine s_end ?_
            exact (hJ75 _ _).2 ⟨(hs.altB 21 ((decide ((x1.f2.length : Int) < 1)) || ((decide ((x1.f2.length : Int) > 5)) || (x1.f3 && ((decide ((x1.f2.length : Int) < 2)) || (x1.f4 != 0))))) (by kernel_rfl) (by rw [h76, h77] <;> rfl)).cast [1, 21] (by kernel_rfl), hw.pick [0, 1] (by kernel_rfl)⟩
          · replace hs := hs.altB 28 false (by kernel_rfl) h77
            refine pures hs 1 [1, 3, 28, 29] [(1, .pointer (some ⟨b55, 0, none⟩)), (3, .int .i64 (x1.f2.length : Int)), (28, .bool false), (29, .pointer (some ⟨b55, 3, none⟩))] (by kernel_rfl) fun a hs => ?_
            refine s_load hs (hw.at_ 0 rfl) 3 (by kernel_rfl) (by kernel_rfl) (v := .bool x1.f3) (by kernel_rfl) fun a hs => ?_
            refine pures hs 1 [1, 3, 28, 31] [(1, .pointer (some ⟨b55, 0, none⟩)), (3, .int .i64 (x1.f2.length : Int)), (28, .bool false), (31, .bool x1.f3)] (by kernel_rfl) fun a hs => ?_
            rcases boolE x1.f3 with h78 | h78
            · replace hs := hs.altB 31 true (by kernel_rfl) h78
              refine pures hs 3 [1, 28, 31, 34] [(1, .pointer (some ⟨b55, 0, none⟩)), (28, .bool false), (31, .bool true), (34, .bool (decide ((x1.f2.length : Int) < 2)))] (by kernel_rfl) fun a hs => ?_
              rcases boolE (decide ((x1.f2.length : Int) < 2)) with h79 | h79
              · replace hs := hs.altB 34 true (by kernel_rfl) h79
                refine pures hs 7 [1, 21] [(1, .pointer (some ⟨b55, 0, none⟩)), (21, .bool true)] (by kernel_rfl) fun a hs => ?_
                refine s_end ?_
                exact (hJ75 _ _).2 ⟨(hs.altB 21 ((decide ((x1.f2.length : Int) < 1)) || ((decide ((x1.f2.length : Int) > 5)) || (x1.f3 && ((decide ((x1.f2.length : Int) < 2)) || (x1.f4 != 0))))) (by kernel_rfl) (by rw [h76, h77, h78, h79] <;> rfl)).cast [1, 21] (by kernel_rfl), hw.pick [0, 1] (by kernel_rfl)⟩
              · replace hs := hs.altB 34 false (by kernel_rfl) h79
                refine pures hs 1 [1, 28, 31, 34, 35] [(1, .pointer (some ⟨b55, 0, none⟩)), (28, .bool false), (31, .bool true), (34, .bool false), (35, .pointer (some ⟨b55, 4, none⟩))] (by kernel_rfl) fun a hs => ?_
                refine s_load hs (hw.at_ 0 rfl) 4 (by kernel_rfl) (by kernel_rfl) (v := .int .i64 x1.f4) (by kernel_rfl) fun a hs => ?_
                refine pures hs 5 [1, 21] [(1, .pointer (some ⟨b55, 0, none⟩)), (21, .bool (x1.f4 != 0))] (by kernel_rfl) fun a hs => ?_
                refine s_end ?_
                exact (hJ75 _ _).2 ⟨(hs.altB 21 ((decide ((x1.f2.length : Int) < 1)) || ((decide ((x1.f2.length : Int) > 5)) || (x1.f3 && ((decide ((x1.f2.length : Int) < 2)) || (x1.f4 != 0))))) (by kernel_rfl) (by rw [h76, h77, h78, h79] <;> rfl)).cast [1, 21] (by kernel_rfl), hw.pick [0, 1] (by kernel_rfl)⟩
            · replace hs := hs.altB 31 false (by kernel_rfl) h78
              refine pures hs 10 [1, 21] [(1, .pointer (some ⟨b55, 0, none⟩)), (21, .bool false)] (by kernel_rfl) fun a hs => ?_
              refine s_end ?_
              exact (hJ75 _ _).2 ⟨(hs.altB 21 ((decide ((x1.f2.length : Int) < 1)) || ((decide ((x1.f2.length : Int) > 5)) || (x1.f3 && ((decide ((x1.f2.length : Int) < 2)) || (x1.f4 != 0))))) (by kernel_rfl) (by rw [h76, h77, h78] <;> rfl)).cast [1, 21] (by kernel_rfl), hw.pick [0, 1] (by kernel_rfl)⟩
      · intro a w hh
        obtain ⟨hs, hw⟩ := (hJ75 _ _).1 hh
        rcases ifbE hk with ⟨h80, hk⟩ | ⟨h80, hk⟩
        · refine c_cond1 hs (by kernel_rfl) (t := ((decide ((x1.f2.length : Int) < 1)) || ((decide ((x1.f2.length : Int) > 5)) || (x1.f3 && ((decide ((x1.f2.length : Int) < 2)) || (x1.f4 != 0)))))) (by kernel_rfl) h80 ?_
          refine c_seq ?_
          refine c_region ?_
          refine pures hs 1 [2] [(2, .bool false)] (by kernel_rfl) fun a hs => ?_
          refine s_end ?_
          refine wp_ret ?_
          obtain rfl := someE hk
          refine hQ _ _ (f_ret1 hs rfl (v := .bool false) (by kernel_rfl) ⟨rfl, hw.pick [1] (by kernel_rfl)⟩)
        · refine c_cond0 hs (by kernel_rfl) (t := ((decide ((x1.f2.length : Int) < 1)) || ((decide ((x1.f2.length : Int) > 5)) || (x1.f3 && ((decide ((x1.f2.length : Int) < 2)) || (x1.f4 != 0)))))) (by kernel_rfl) h80 ?_
          refine wp_skip ?_
          refine c_seq ?_
          refine c_region ?_
          refine s_load hs (hw.at_ 0 rfl) 0 (by kernel_rfl) (by kernel_rfl) (v := .agg #[.int .i64 x1.f0, .int .u64 x1.f1, .slice p2 x1.f2.length c3, .bool x1.f3, .int .i64 x1.f4]) (by kernel_rfl) fun a hs => ?_
          obtain ⟨y90, h91, hk⟩ := bindE hk
          refine s_call hs (by kernel_rfl) (by kernel_rfl) (conf_everybody_s h91 h4 ((hw.pick [1] (by kernel_rfl)).pack 0)) fun a w v hv hs => ?_
          obtain ⟨p92, c93, d95, rfl, hw, h94⟩ := hv
          replace hw := hw.unpack 1 rfl
          obtain ⟨y97, h98, hk⟩ := bindE hk
          refine s_call hs (by kernel_rfl) (by kernel_rfl) (conf_unlike_s h98 h94.read (memF 0 rfl) ((hw.pick [0, 1] (by kernel_rfl)).pack 0)) fun a w v hv hs => ?_
          obtain ⟨rfl, hw⟩ := hv
          replace hw := hw.unpack 0 rfl
          refine pures hs 1 [2] [(2, .bool y97)] (by kernel_rfl) fun a hs => ?_
          refine s_end ?_
          refine wp_ret ?_
          obtain rfl := someE hk
          refine hQ _ _ (f_ret1 hs rfl (v := .bool y97) (by kernel_rfl) ⟨rfl, hw.pick [1] (by kernel_rfl)⟩)
def conf_All_r10 (k : Nat) (x494 : List Int) : Option Bool :=
  (conf_unlike k x494).bind fun y502 =>
  some y502
def conf_All_r12 (rec_conf_All_l11 : (List Int) → Int → Option (Sum Bool (List Int))) (x518 : M53) (x427 : List Int) (x433 : Int) (x533 : Bool) : Option (Sum Bool (List Int)) :=
  if x533 = true then some (.inl false)
  else (conf_everybody x518).bind fun y548 =>
  (app x427 y548).bind fun x555 =>
  rec_conf_All_l11 x555 (IntKind.i64.wrap (x433 + 1))
def conf_All_l11 (k : Nat) (x1 : List M53) : Nat → (List Int) → Int → Option (Sum Bool (List Int))
  | 0, _, _ => none
  | j + 1, x427, x433 =>
    if (decide (x433 < (x1.length : Int))) = true then (
      (ix x1 x433).bind fun x518 =>
      (if (x518.f0 != x433) = true then some true
        else (conf_Right k x518).bind fun y565 =>
        some (!y565) : Option Bool).bind fun s567 => conf_All_r12 (conf_All_l11 k x1 j) x518 x427 x433 s567)
    else some (.inr x427)
def conf_All (k : Nat) (x1 : List M53) : Option Bool :=
  if ((decide ((x1.length : Int) < 1)) || (decide ((x1.length : Int) > 4))) = true then some false
  else (conf_All_l11 k x1 k ([]) 0 : Option (Sum Bool (List Int))).bind fun
    | .inl z => some z
    | .inr s570 => conf_All_r10 k s570
theorem conf_All_s {k : Nat} {x1 : List M53} {p2 : Option Addr} {c3 : Nat} {d5 : Ch} {r : Bool} (hk : conf_All k x1 = some r) {g w : World} {F : Ch} {ih : IH} (h4 : RSl e53 ih d5 p2 c3 x1) (h6 : ∀ q ∈ d5, q ∈ F) (hw : St g w [F] ih) :
    CallsR Try.prog 92 #[.slice p2 x1.length c3] w fun v w' => v = .bool r ∧ St g w' [F] ih := by
  refine f_in (vs := [.slice p2 x1.length c3]) Try.func92 rfl 37 rfl (by kernel_rfl) [(0, .slice p2 x1.length c3)] (by kernel_rfl) fun a Qf hQ hQn hs => ?_
  refine c_seq ?_
  refine c_region ?_
  refine pures hs 1 [0] [(0, .slice p2 x1.length c3)] (by kernel_rfl) fun a hs => ?_
  refine s_end ?_
  refine c_seq ?_
  refine c_seq ?_
  obtain ⟨J293, hJ293⟩ : ∃ J : Act → World → Prop, ∀ a w, J a w ↔ (Sees a 37 [(0, .slice p2 x1.length c3), (13, .bool ((decide ((x1.length : Int) < 1)) || (decide ((x1.length : Int) > 4))))] ∧ St g w [F] ih) := ⟨_, fun _ _ => Iff.rfl⟩
  refine c_regJ J293 ?_ ?_
  · refine pures hs 4 [0, 9] [(0, .slice p2 x1.length c3), (9, .bool (decide ((x1.length : Int) < 1)))] (by kernel_rfl) fun a hs => ?_
    rcases boolE (decide ((x1.length : Int) < 1)) with h294 | h294
    · replace hs := hs.altB 9 true (by kernel_rfl) h294
      refine pures hs 4 [0, 13] [(0, .slice p2 x1.length c3), (13, .bool true)] (by kernel_rfl) fun a hs => ?_
      refine s_end ?_
      exact (hJ293 _ _).2 ⟨(hs.altB 13 ((decide ((x1.length : Int) < 1)) || (decide ((x1.length : Int) > 4))) (by kernel_rfl) (by rw [h294] <;> rfl)).cast [0, 13] (by kernel_rfl), hw.pick [0] (by kernel_rfl)⟩
    · replace hs := hs.altB 9 false (by kernel_rfl) h294
      refine pures hs 4 [0, 13] [(0, .slice p2 x1.length c3), (13, .bool (decide ((x1.length : Int) > 4)))] (by kernel_rfl) fun a hs => ?_
      refine s_end ?_
      exact (hJ293 _ _).2 ⟨(hs.altB 13 ((decide ((x1.length : Int) < 1)) || (decide ((x1.length : Int) > 4))) (by kernel_rfl) (by rw [h294] <;> rfl)).cast [0, 13] (by kernel_rfl), hw.pick [0] (by kernel_rfl)⟩
  · intro a w hh
    obtain ⟨hs, hw⟩ := (hJ293 _ _).1 hh
    rcases ifbE hk with ⟨h295, hk⟩ | ⟨h295, hk⟩
    · refine c_cond1 hs (by kernel_rfl) (t := ((decide ((x1.length : Int) < 1)) || (decide ((x1.length : Int) > 4)))) (by kernel_rfl) h295 ?_
      refine c_seq ?_
      refine c_region ?_
      refine pures hs 1 [2] [(2, .bool false)] (by kernel_rfl) fun a hs => ?_
      refine s_end ?_
      refine wp_ret ?_
      obtain rfl := someE hk
      refine hQ _ _ (f_ret1 hs rfl (v := .bool false) (by kernel_rfl) ⟨rfl, hw.pick [0] (by kernel_rfl)⟩)
    · refine c_cond0 hs (by kernel_rfl) (t := ((decide ((x1.length : Int) < 1)) || (decide ((x1.length : Int) > 4)))) (by kernel_rfl) h295 ?_
      refine wp_skip ?_
      refine c_seq ?_
      refine c_region ?_
      refine pures hs 1 [0, 3] [(0, .slice p2 x1.length c3), (3, .slice none 0 0)] (by kernel_rfl) fun a hs => ?_
      refine s_end ?_
      refine c_seq ?_
      refine c_seq ?_
      refine c_region ?_
      refine pures hs 3 [3, 14, 15, 16] [(3, .slice none 0 0), (14, .slice p2 x1.length c3), (15, .int .i64 (x1.length : Int)), (16, .int .i64 0)] (by kernel_rfl) fun a hs => ?_
      refine s_end ?_
      refine c_block ?_
      obtain ⟨y504, hx505, hk⟩ := bindE hk
      replace hw := hw.nil
      obtain ⟨J506, hJ506⟩ : ∃ J : Act → World → Prop, ∀ a w, J a w ↔ (∃ (x494 : List Int) (p495 : Option Addr) (c496 : Nat) (d498 : Ch), conf_All_r10 k x494 = some r ∧ Sees a 37 [(3, .slice p495 x494.length c496)] ∧ St g w [d498, F] ih ∧ OSl e3 ih p495 c496 x494 d498) := ⟨_, fun _ _ => Iff.rfl⟩
      obtain ⟨I507, hI507⟩ : ∃ J : Nat → Act → World → Prop, ∀ j a w, J j a w ↔ (∃ (x427 : List Int) (x433 : Int) (p428 : Option Addr) (c429 : Nat) (d431 : Ch), conf_All_l11 k x1 j x427 x433 = some y504 ∧ Sees a 37 [(3, .slice p428 x427.length c429), (14, .slice p2 x1.length c3), (15, .int .i64 (x1.length : Int)), (16, .int .i64 x433)] ∧ St g w [d431, F] ih ∧ OSl e3 ih p428 c429 x427 d431) := ⟨_, fun _ _ _ => Iff.rfl⟩
      refine c_exitJ 0 J506 ?_ ?_
      · refine c_loop I507 k ((hI507 _ _ _).2 ⟨([]), 0, none, 0, ([]), hx505, hs.cast [3, 14, 15, 16] (by kernel_rfl), hw.pick [0, 1] (by kernel_rfl), (OSl.nil _ _)⟩) (fun a w h0 => ?_) fun j a w hh => ?_
        · obtain ⟨_, _, _, _, _, h, _⟩ := (hI507 _ _ _).1 h0
          cases h
        · obtain ⟨x427, x433, p428, c429, d431, hx505, hs, hw, h430⟩ := (hI507 _ _ _).1 hh
          refine c_seq ?_
          refine c_region ?_
          refine pures hs 1 [3, 14, 15, 16, 17] [(3, .slice p428 x427.length c429), (14, .slice p2 x1.length c3), (15, .int .i64 (x1.length : Int)), (16, .int .i64 x433), (17, .bool (decide (x433 < (x1.length : Int))))] (by kernel_rfl) fun a hs => ?_
          refine s_end ?_
          refine c_seq ?_
          rcases ifbE hx505 with ⟨h508, hx505⟩ | ⟨h508, hx505⟩
          · refine c_cond1 hs (by kernel_rfl) (t := (decide (x433 < (x1.length : Int)))) (by kernel_rfl) h508 ?_
            refine wp_skip ?_
            refine c_seq ?_
            refine c_block ?_
            refine c_seq ?_
            refine c_region ?_
            refine pures hs 1 [3, 14, 15, 16, 18] [(3, .slice p428 x427.length c429), (14, .slice p2 x1.length c3), (15, .int .i64 (x1.length : Int)), (16, .int .i64 x433), (18, .int .i64 x433)] (by kernel_rfl) fun a hs => ?_
            obtain ⟨x518, h519, hx505⟩ := bindE hx505
            refine s_index hs h4 (by kernel_rfl) (by kernel_rfl) (k := .i64) (by kernel_rfl) 53 (by kernel_rfl) (by kernel_rfl) h519 fun a r520 cs henc at521 hs => ?_
            obtain ⟨p522, c523, rfl, h524⟩ := henc
            refine s_load hs (at521 _ (((hw.vw 1 rfl).sub h6).anti (Le.refl _))) 0 (by kernel_rfl) (by kernel_rfl) (v := .agg #[.int .i64 x518.f0, .int .u64 x518.f1, .slice p522 x518.f2.length c523, .bool x518.f3, .int .i64 x518.f4]) (by kernel_rfl) fun a hs => ?_
            refine s_new hs hw [.int .i64 0, .int .u64 0, .slice none 0 0, .bool false, .int .i64 0] 53 (fun b => .pointer (some ⟨b, 0, none⟩)) (by kernel_rfl) (fun _ => by kernel_rfl) fun a w b525 hs hw => ?_
            refine pures hs 1 [3, 14, 15, 16, 20, 5, 4] [(3, .slice p428 x427.length c429), (14, .slice p2 x1.length c3), (15, .int .i64 (x1.length : Int)), (16, .int .i64 x433), (20, .agg #[.int .i64 x518.f0, .int .u64 x518.f1, .slice p522 x518.f2.length c523, .bool x518.f3, .int .i64 x518.f4]), (5, .pointer (some ⟨b525, 0, none⟩)), (4, .int .i64 x433)] (by kernel_rfl) fun a hs => ?_
            refine s_store hs hw 0 rfl 0 (by kernel_rfl) (by kernel_rfl) (v := .agg #[.int .i64 x518.f0, .int .u64 x518.f1, .slice p522 x518.f2.length c523, .bool x518.f3, .int .i64 x518.f4]) (by kernel_rfl) (by kernel_rfl) (by kernel_rfl) (by kernel_rfl) fun a w hs hw => ?_
            refine s_end ?_
            refine c_seq ?_
            refine c_seq ?_
            obtain ⟨y561, hx562, hx505⟩ := bindE hx505
            obtain ⟨J563, hJ563⟩ : ∃ J : Act → World → Prop, ∀ a w, J a w ↔ (∃ (x533 : Bool), conf_All_r12 (conf_All_l11 k x1 j) x518 x427 x433 x533 = some y504 ∧ Sees a 37 [(3, .slice p428 x427.length c429), (14, .slice p2 x1.length c3), (15, .int .i64 (x1.length : Int)), (16, .int .i64 x433), (5, .pointer (some ⟨b525, 0, none⟩)), (29, .bool x533)] ∧ St g w [bx b525 [.int .i64 x518.f0, .int .u64 x518.f1, .slice p522 x518.f2.length c523, .bool x518.f3, .int .i64 x518.f4] 53, d431, F] ih) := ⟨_, fun _ _ => Iff.rfl⟩
            refine c_regJ J563 ?_ ?_
            · refine pures hs 1 [3, 14, 15, 16, 5, 4, 21] [(3, .slice p428 x427.length c429), (14, .slice p2 x1.length c3), (15, .int .i64 (x1.length : Int)), (16, .int .i64 x433), (5, .pointer (some ⟨b525, 0, none⟩)), (4, .int .i64 x433), (21, .pointer (some ⟨b525, 0, none⟩))] (by kernel_rfl) fun a hs => ?_
              refine s_load hs (hw.at_ 0 rfl) 0 (by kernel_rfl) (by kernel_rfl) (v := .int .i64 x518.f0) (by kernel_rfl) fun a hs => ?_
              refine pures hs 3 [3, 14, 15, 16, 5, 25] [(3, .slice p428 x427.length c429), (14, .slice p2 x1.length c3), (15, .int .i64 (x1.length : Int)), (16, .int .i64 x433), (5, .pointer (some ⟨b525, 0, none⟩)), (25, .bool (x518.f0 != x433))] (by kernel_rfl) fun a hs => ?_
              rcases ifbE hx562 with ⟨h564, hx562⟩ | ⟨h564, hx562⟩
              · replace hs := hs.altB 25 true (by kernel_rfl) h564
                refine pures hs 4 [3, 14, 15, 16, 5, 29] [(3, .slice p428 x427.length c429), (14, .slice p2 x1.length c3), (15, .int .i64 (x1.length : Int)), (16, .int .i64 x433), (5, .pointer (some ⟨b525, 0, none⟩)), (29, .bool true)] (by kernel_rfl) fun a hs => ?_
                refine s_end ?_
                obtain rfl := someE hx562
                exact (hJ563 _ _).2 ⟨true, hx505, hs.cast [3, 14, 15, 16, 5, 29] (by kernel_rfl), hw.pick [0, 1, 2] (by kernel_rfl)⟩
              · replace hs := hs.altB 25 false (by kernel_rfl) h564
                refine s_load hs (hw.at_ 0 rfl) 0 (by kernel_rfl) (by kernel_rfl) (v := .agg #[.int .i64 x518.f0, .int .u64 x518.f1, .slice p522 x518.f2.length c523, .bool x518.f3, .int .i64 x518.f4]) (by kernel_rfl) fun a hs => ?_
                obtain ⟨y565, h566, hx562⟩ := bindE hx562
                refine s_call hs (by kernel_rfl) (by kernel_rfl) (conf_Right_s h566 h524 ((hw.pick [0, 1, 2] (by kernel_rfl)).pack 0)) fun a w v hv hs => ?_
                obtain ⟨rfl, hw⟩ := hv
                replace hw := hw.unpack 0 rfl
                refine pures hs 2 [3, 14, 15, 16, 5, 29] [(3, .slice p428 x427.length c429), (14, .slice p2 x1.length c3), (15, .int .i64 (x1.length : Int)), (16, .int .i64 x433), (5, .pointer (some ⟨b525, 0, none⟩)), (29, .bool (!y565))] (by kernel_rfl) fun a hs => ?_
                refine s_end ?_
                obtain rfl := someE hx562
                exact (hJ563 _ _).2 ⟨(!y565), hx505, hs.cast [3, 14, 15, 16, 5, 29] (by kernel_rfl), hw.pick [0, 1, 2] (by kernel_rfl)⟩
            · intro a w hh
              obtain ⟨x533, hx505, hs, hw⟩ := (hJ563 _ _).1 hh
              rcases ifbE hx505 with ⟨h534, hx505⟩ | ⟨h534, hx505⟩
              · refine c_cond1 hs (by kernel_rfl) (t := x533) (by kernel_rfl) h534 ?_
                refine c_seq ?_
                refine c_region ?_
                refine pures hs 1 [2] [(2, .bool false)] (by kernel_rfl) fun a hs => ?_
                refine s_end ?_
                refine wp_ret ?_
                obtain rfl := someE hx505
                obtain rfl := someE hk
                refine hQ _ _ (f_ret1 hs rfl (v := .bool false) (by kernel_rfl) ⟨rfl, hw.pick [2] (by kernel_rfl)⟩)
              · refine c_cond0 hs (by kernel_rfl) (t := x533) (by kernel_rfl) h534 ?_
                refine wp_skip ?_
                refine c_region ?_
                refine pures hs 1 [14, 15, 16, 5, 30] [(14, .slice p2 x1.length c3), (15, .int .i64 (x1.length : Int)), (16, .int .i64 x433), (5, .pointer (some ⟨b525, 0, none⟩)), (30, .slice p428 x427.length c429)] (by kernel_rfl) fun a hs => ?_
                refine s_load hs (hw.at_ 0 rfl) 0 (by kernel_rfl) (by kernel_rfl) (v := .agg #[.int .i64 x518.f0, .int .u64 x518.f1, .slice p522 x518.f2.length c523, .bool x518.f3, .int .i64 x518.f4]) (by kernel_rfl) fun a hs => ?_
                obtain ⟨y548, h549, hx505⟩ := bindE hx505
                refine s_call hs (by kernel_rfl) (by kernel_rfl) (conf_everybody_s h549 h524 ((hw.pick [1, 2] (by kernel_rfl)).pack 0)) fun a w v hv hs => ?_
                obtain ⟨p550, c551, d553, rfl, hw, h552⟩ := hv
                replace hw := hw.unpack 1 rfl
                obtain ⟨x555, h556, hx505⟩ := bindE hx505
                refine s_appS hs hw (E := e3) appT40 1 rfl h430 (by kernel_rfl) (by kernel_rfl) (h552.read.mono (Le.refl _)) ((hw.vw 0 rfl).anti (Le.refl _)) (by kernel_rfl) h556 fun a w p557 c558 d559 h560 hw hs => ?_
                refine pures hs 1 [14, 15, 16, 3] [(14, .slice p2 x1.length c3), (15, .int .i64 (x1.length : Int)), (16, .int .i64 x433), (3, .slice p557 x555.length c558)] (by kernel_rfl) fun a hs => ?_
                refine s_end ?_
                refine c_region ?_
                refine pures hs 2 [14, 15, 16, 3] [(14, .slice p2 x1.length c3), (15, .int .i64 (x1.length : Int)), (16, .int .i64 (IntKind.i64.wrap (x433 + 1))), (3, .slice p557 x555.length c558)] (by kernel_rfl) fun a hs => ?_
                refine s_end ?_
                exact (hI507 _ _ _).2 ⟨x555, (IntKind.i64.wrap (x433 + 1)), p557, c558, d559, hx505, hs.cast [3, 14, 15, 16] (by kernel_rfl), hw.pick [1, 2] (by kernel_rfl), h560⟩
          · refine c_cond0 hs (by kernel_rfl) (t := (decide (x433 < (x1.length : Int)))) (by kernel_rfl) h508 ?_
            refine wp_exit ?_
            obtain rfl := someE hx505
            exact (hJ506 _ _).2 ⟨x427, p428, c429, d431, hk, hs.cast [3] (by kernel_rfl), hw.pick [0, 1] (by kernel_rfl), h430⟩
      · intro a w hh
        obtain ⟨x494, p495, c496, d498, hk, hs, hw, h497⟩ := (hJ506 _ _).1 hh
        refine c_seq ?_
        refine c_region ?_
        refine pures hs 1 [35] [(35, .slice p495 x494.length c496)] (by kernel_rfl) fun a hs => ?_
        obtain ⟨y502, h503, hk⟩ := bindE hk
        refine s_call hs (by kernel_rfl) (by kernel_rfl) (conf_unlike_s h503 h497.read (memF 0 rfl) ((hw.pick [0, 1] (by kernel_rfl)).pack 0)) fun a w v hv hs => ?_
        obtain ⟨rfl, hw⟩ := hv
        replace hw := hw.unpack 0 rfl
        refine pures hs 1 [2] [(2, .bool y502)] (by kernel_rfl) fun a hs => ?_
        refine s_end ?_
        refine wp_ret ?_
        obtain rfl := someE hk
        refine hQ _ _ (f_ret1 hs rfl (v := .bool y502) (by kernel_rfl) ⟨rfl, hw.pick [1] (by kernel_rfl)⟩)
def conf_own (x1 : M53) : Option M53 :=
  (slices_Clone_int_int x1.f2).bind fun y44 =>
  some (M53.mk x1.f0 x1.f1 y44 x1.f3 x1.f4)
theorem conf_own_s {x1 : M53} {p2 : Option Addr} {c3 : Nat} {r : M53} (hk : conf_own x1 = some r) {g w : World} {F : Ch} {ih : IH} (h4 : RSl e3 ih [] p2 c3 x1.f2) (hw : St g w [F] ih) :
    CallsR Try.prog 112 #[.agg #[.int .i64 x1.f0, .int .u64 x1.f1, .slice p2 x1.f2.length c3, .bool x1.f3, .int .i64 x1.f4]] w fun v w' => ∃ (ih' : IH) (p54 : Option Addr) (c55 : Nat), v = .agg #[.int .i64 r.f0, .int .u64 r.f1, .slice p54 r.f2.length c55, .bool r.f3, .int .i64 r.f4] ∧ St g w' [F] ih' ∧ Le ih ih' ∧ RSl e3 ih' [] p54 c55 r.f2 := by
  refine f_in (vs := [.agg #[.int .i64 x1.f0, .int .u64 x1.f1, .slice p2 x1.f2.length c3, .bool x1.f3, .int .i64 x1.f4]]) Try.func112 rfl 8 rfl (by kernel_rfl) [(0, .agg #[.int .i64 x1.f0, .int .u64 x1.f1, .slice p2 x1.f2.length c3, .bool x1.f3, .int .i64 x1.f4])] (by kernel_rfl) fun a Qf hQ hQn hs => ?_
  refine c_seq ?_
  refine c_region ?_
  refine s_new hs hw [.int .i64 x1.f0, .int .u64 x1.f1, .slice p2 x1.f2.length c3, .bool x1.f3, .int .i64 x1.f4] 53 (fun b => .pointer (some ⟨b, 0, none⟩)) (by kernel_rfl) (fun _ => by kernel_rfl) fun a w b33 hs hw => ?_
  refine s_new hs hw [.int .i64 0, .int .u64 0, .slice none 0 0, .bool false, .int .i64 0] 53 (fun b => .pointer (some ⟨b, 0, none⟩)) (by kernel_rfl) (fun _ => by kernel_rfl) fun a w b35 hs hw => ?_
  refine s_end ?_
  refine c_seq ?_
  refine c_region ?_
  refine pures hs 1 [1, 2, 3] [(1, .pointer (some ⟨b33, 0, none⟩)), (2, .pointer (some ⟨b35, 0, none⟩)), (3, .pointer (some ⟨b33, 2, none⟩))] (by kernel_rfl) fun a hs => ?_
  refine s_load hs (hw.at_ 1 rfl) 2 (by kernel_rfl) (by kernel_rfl) (v := .slice p2 x1.f2.length c3) (by kernel_rfl) fun a hs => ?_
  obtain ⟨y44, h45, hk⟩ := bindE hk
  refine s_call hs (by kernel_rfl) (by kernel_rfl) (slices_Clone_int_int_s h45 h4 (nilSub _) ((hw.pick [0, 1, 2] (by kernel_rfl)).pack 0)) fun a w v hv hs => ?_
  obtain ⟨p46, c47, d49, rfl, hw, h48⟩ := hv
  replace hw := hw.unpack 1 rfl
  refine pures hs 1 [1, 2, 5, 6] [(1, .pointer (some ⟨b33, 0, none⟩)), (2, .pointer (some ⟨b35, 0, none⟩)), (5, .slice p46 y44.length c47), (6, .pointer (some ⟨b33, 2, none⟩))] (by kernel_rfl) fun a hs => ?_
  refine s_store hs hw 2 rfl 2 (by kernel_rfl) (by kernel_rfl) (v := .slice p46 y44.length c47) (by kernel_rfl) (by kernel_rfl) (by kernel_rfl) (by kernel_rfl) fun a w hs hw => ?_
  refine s_end ?_
  refine c_seq ?_
  refine c_region ?_
  refine s_load hs (hw.at_ 2 rfl) 0 (by kernel_rfl) (by kernel_rfl) (v := .agg #[.int .i64 x1.f0, .int .u64 x1.f1, .slice p46 y44.length c47, .bool x1.f3, .int .i64 x1.f4]) (by kernel_rfl) fun a hs => ?_
  refine s_store hs hw 1 rfl 0 (by kernel_rfl) (by kernel_rfl) (v := .agg #[.int .i64 x1.f0, .int .u64 x1.f1, .slice p46 y44.length c47, .bool x1.f3, .int .i64 x1.f4]) (by kernel_rfl) (by kernel_rfl) (by kernel_rfl) (by kernel_rfl) fun a w hs hw => ?_
  refine s_end ?_
  refine wp_ret ?_
  obtain ⟨ih51, hle52, hw, h53⟩ := (hw.pick [0, 1, 2, 3] (by kernel_rfl)).fz (h48.mono (Le.refl _))
  obtain rfl := someE hk
  refine hQ _ _ (f_retC hs rfl (hw.at_ 0 rfl) (by kernel_rfl) (v := .agg #[.int .i64 x1.f0, .int .u64 x1.f1, .slice p46 y44.length c47, .bool x1.f3, .int .i64 x1.f4]) (by kernel_rfl) ⟨ih51, p46, c47, rfl, hw.pick [2] (by kernel_rfl), hle52, h53⟩)
def conf_Copy_r3 (x487 : List M53) : Option (List M53) :=
  some x487
def conf_Copy_l4 (x1 : List M53) : Nat → (List M53) → Int → Option (List M53)
  | 0, _, _ => none
  | j + 1, x421, x427 =>
    if (decide (x427 < (x1.length : Int))) = true then (
      (ix x1 x427).bind fun x507 =>
      (conf_own x507).bind fun y535 =>
      (ix x421 x427).bind fun x542 =>
      conf_Copy_l4 x1 j (x421.set x427.toNat y535) (IntKind.i64.wrap (x427 + 1)))
    else some x421
def conf_Copy (k : Nat) (x1 : List M53) : Option (List M53) :=
  (mkS (M53.mk 0 0 ([]) false 0) (x1.length : Int)).bind fun x289 =>
  (conf_Copy_l4 x1 k x289 0 : Option (List M53)).bind fun s554 => conf_Copy_r3 s554
theorem conf_Copy_s {k : Nat} {x1 : List M53} {p2 : Option Addr} {c3 : Nat} {d5 : Ch} {r : (List M53)} (hk : conf_Copy k x1 = some r) {g w : World} {F : Ch} {ih : IH} (h4 : RSl e53 ih d5 p2 c3 x1) (h6 : ∀ q ∈ d5, q ∈ F) (hw : St g w [F] ih) :
    CallsR Try.prog 94 #[.slice p2 x1.length c3] w fun v w' => ∃ (ih' : IH) (p555 : Option Addr) (c556 : Nat) (d557 : Ch), v = .slice p555 r.length c556 ∧ St g w' [d557, F] ih' ∧ Le ih ih' ∧ OSl e53 ih' p555 c556 r d557 := by
  refine f_in (vs := [.slice p2 x1.length c3]) Try.func94 rfl 23 rfl (by kernel_rfl) [(0, .slice p2 x1.length c3)] (by kernel_rfl) fun a Qf hQ hQn hs => ?_
  refine c_seq ?_
  refine c_region ?_
  refine pures hs 1 [0] [(0, .slice p2 x1.length c3)] (by kernel_rfl) fun a hs => ?_
  refine s_end ?_
  refine c_seq ?_
  refine c_region ?_
  refine pures hs 2 [0, 7] [(0, .slice p2 x1.length c3), (7, .int .i64 (x1.length : Int))] (by kernel_rfl) fun a hs => ?_
  obtain ⟨x289, h290, hk⟩ := bindE hk
  refine s_make hs hw (E := e53) appT79 (by kernel_rfl) (k := .i64) (k' := .i64) (by kernel_rfl) (by kernel_rfl) (z := .agg #[.int .i64 0, .int .u64 0, .slice none 0 0, .bool false, .int .i64 0]) (by kernel_rfl) (u := (M53.mk 0 0 ([]) false 0)) ⟨none, 0, rfl, (RSl.nil _ _ _)⟩ h290 fun a w p291 c292 d293 h294 hw hs => ?_
  refine pures hs 1 [0, 3] [(0, .slice p2 x1.length c3), (3, .slice p291 x289.length c292)] (by kernel_rfl) fun a hs => ?_
  refine s_end ?_
  refine c_seq ?_
  refine c_seq ?_
  refine c_region ?_
  refine pures hs 3 [3, 9, 10, 11] [(3, .slice p291 x289.length c292), (9, .slice p2 x1.length c3), (10, .int .i64 (x1.length : Int)), (11, .int .i64 0)] (by kernel_rfl) fun a hs => ?_
  refine s_end ?_
  refine c_block ?_
  obtain ⟨y493, hx494, hk⟩ := bindE hk
  obtain ⟨J495, hJ495⟩ : ∃ J : Act → World → Prop, ∀ a w, J a w ↔ (∃ (x487 : List M53) (p488 : Option Addr) (c489 : Nat) (d491 : Ch) (ih485 : IH), conf_Copy_r3 x487 = some r ∧ Sees a 23 [(3, .slice p488 x487.length c489)] ∧ St g w [d491, F] ih485 ∧ Le ih ih485 ∧ OSl e53 ih485 p488 c489 x487 d491) := ⟨_, fun _ _ => Iff.rfl⟩
  obtain ⟨I496, hI496⟩ : ∃ J : Nat → Act → World → Prop, ∀ j a w, J j a w ↔ (∃ (x421 : List M53) (x427 : Int) (p422 : Option Addr) (c423 : Nat) (d425 : Ch) (ih419 : IH), conf_Copy_l4 x1 j x421 x427 = some y493 ∧ Sees a 23 [(3, .slice p422 x421.length c423), (9, .slice p2 x1.length c3), (10, .int .i64 (x1.length : Int)), (11, .int .i64 x427)] ∧ St g w [d425, F] ih419 ∧ Le ih ih419 ∧ OSl e53 ih419 p422 c423 x421 d425) := ⟨_, fun _ _ _ => Iff.rfl⟩
  refine c_exitJ 0 J495 ?_ ?_
  · refine c_loop I496 k ((hI496 _ _ _).2 ⟨x289, 0, p291, c292, d293, ih, hx494, hs.cast [3, 9, 10, 11] (by kernel_rfl), hw.pick [0, 1] (by kernel_rfl), (Le.refl _), h294⟩) (fun a w h0 => ?_) fun j a w hh => ?_
    · obtain ⟨_, _, _, _, _, _, h, _⟩ := (hI496 _ _ _).1 h0
      cases h
    · obtain ⟨x421, x427, p422, c423, d425, ih419, hx494, hs, hw, hle420, h424⟩ := (hI496 _ _ _).1 hh
      refine c_seq ?_
      refine c_region ?_
      refine pures hs 1 [3, 9, 10, 11, 12] [(3, .slice p422 x421.length c423), (9, .slice p2 x1.length c3), (10, .int .i64 (x1.length : Int)), (11, .int .i64 x427), (12, .bool (decide (x427 < (x1.length : Int))))] (by kernel_rfl) fun a hs => ?_
      refine s_end ?_
      refine c_seq ?_
      rcases ifbE hx494 with ⟨h497, hx494⟩ | ⟨h497, hx494⟩
      · refine c_cond1 hs (by kernel_rfl) (t := (decide (x427 < (x1.length : Int)))) (by kernel_rfl) h497 ?_
        refine wp_skip ?_
        refine c_seq ?_
        refine c_block ?_
        refine c_seq ?_
        refine c_region ?_
        refine pures hs 1 [3, 9, 10, 11, 13] [(3, .slice p422 x421.length c423), (9, .slice p2 x1.length c3), (10, .int .i64 (x1.length : Int)), (11, .int .i64 x427), (13, .int .i64 x427)] (by kernel_rfl) fun a hs => ?_
        obtain ⟨x507, h508, hx494⟩ := bindE hx494
        refine s_index hs h4 (by kernel_rfl) (by kernel_rfl) (k := .i64) (by kernel_rfl) 53 (by kernel_rfl) (by kernel_rfl) h508 fun a r509 cs henc at510 hs => ?_
        obtain ⟨p511, c512, rfl, h513⟩ := henc
        refine s_load hs (at510 _ (((hw.vw 1 rfl).sub h6).anti hle420)) 0 (by kernel_rfl) (by kernel_rfl) (v := .agg #[.int .i64 x507.f0, .int .u64 x507.f1, .slice p511 x507.f2.length c512, .bool x507.f3, .int .i64 x507.f4]) (by kernel_rfl) fun a hs => ?_
        refine s_new hs hw [.int .i64 0, .int .u64 0, .slice none 0 0, .bool false, .int .i64 0] 53 (fun b => .pointer (some ⟨b, 0, none⟩)) (by kernel_rfl) (fun _ => by kernel_rfl) fun a w b514 hs hw => ?_
        refine pures hs 1 [3, 9, 10, 11, 15, 5, 4] [(3, .slice p422 x421.length c423), (9, .slice p2 x1.length c3), (10, .int .i64 (x1.length : Int)), (11, .int .i64 x427), (15, .agg #[.int .i64 x507.f0, .int .u64 x507.f1, .slice p511 x507.f2.length c512, .bool x507.f3, .int .i64 x507.f4]), (5, .pointer (some ⟨b514, 0, none⟩)), (4, .int .i64 x427)] (by kernel_rfl) fun a hs => ?_
        refine s_store hs hw 0 rfl 0 (by kernel_rfl) (by kernel_rfl) (v := .agg #[.int .i64 x507.f0, .int .u64 x507.f1, .slice p511 x507.f2.length c512, .bool x507.f3, .int .i64 x507.f4]) (by kernel_rfl) (by kernel_rfl) (by kernel_rfl) (by kernel_rfl) fun a w hs hw => ?_
        refine s_end ?_
        refine c_region ?_
        refine pures hs 2 [3, 9, 10, 11, 5, 16, 17] [(3, .slice p422 x421.length c423), (9, .slice p2 x1.length c3), (10, .int .i64 (x1.length : Int)), (11, .int .i64 x427), (5, .pointer (some ⟨b514, 0, none⟩)), (16, .slice p422 x421.length c423), (17, .int .i64 x427)] (by kernel_rfl) fun a hs => ?_
        refine s_load hs (hw.at_ 0 rfl) 0 (by kernel_rfl) (by kernel_rfl) (v := .agg #[.int .i64 x507.f0, .int .u64 x507.f1, .slice p511 x507.f2.length c512, .bool x507.f3, .int .i64 x507.f4]) (by kernel_rfl) fun a hs => ?_
        obtain ⟨y535, h536, hx494⟩ := bindE hx494
        refine s_call hs (by kernel_rfl) (by kernel_rfl) (conf_own_s h536 (h513.mono hle420) ((hw.pick [1, 2] (by kernel_rfl)).pack 0)) fun a w v hv hs => ?_
        obtain ⟨ih537, p539, c540, rfl, hw, hle538, h541⟩ := hv
        replace hw := hw.unpack 0 rfl
        obtain ⟨x542, h543, hx494⟩ := bindE hx494
        refine s_indexO hs h424 (by kernel_rfl) (by kernel_rfl) (k := .i64) (by kernel_rfl) 53 (by kernel_rfl) (by kernel_rfl) h543 fun a r544 cs henc at545 h549 hs => ?_
        obtain ⟨p546, c547, rfl, h548⟩ := henc
        refine s_storeE hs hw 0 rfl (h424.mono hle538) h549 y535 h543 0 (by kernel_rfl) (by kernel_rfl) (v := .agg #[.int .i64 y535.f0, .int .u64 y535.f1, .slice p539 y535.f2.length c540, .bool y535.f3, .int .i64 y535.f4]) (by kernel_rfl) (by kernel_rfl) (by kernel_rfl) (by kernel_rfl) ⟨p546, c547, rfl, (h548.mono hle538)⟩ (fun w hv => at545 w (hv.anti hle538)) ⟨p539, c540, rfl, h541⟩ fun a w d550 h551 hw hs => ?_
        have h553 : x421.length = (x421.set x427.toNat y535).length := List.length_set.symm
        try rw [h553] at hs
        try rw [h553] at hw
        refine s_end ?_
        refine c_region ?_
        refine pures hs 2 [3, 9, 10, 11] [(3, .slice p422 (x421.set x427.toNat y535).length c423), (9, .slice p2 x1.length c3), (10, .int .i64 (x1.length : Int)), (11, .int .i64 (IntKind.i64.wrap (x427 + 1)))] (by kernel_rfl) fun a hs => ?_
        refine s_end ?_
        exact (hI496 _ _ _).2 ⟨(x421.set x427.toNat y535), (IntKind.i64.wrap (x427 + 1)), p422, c423, d550, ih537, hx494, hs.cast [3, 9, 10, 11] (by kernel_rfl), hw.pick [0, 1] (by kernel_rfl), (hle420.trans hle538), h551⟩
      · refine c_cond0 hs (by kernel_rfl) (t := (decide (x427 < (x1.length : Int)))) (by kernel_rfl) h497 ?_
        refine wp_exit ?_
        obtain rfl := someE hx494
        exact (hJ495 _ _).2 ⟨x421, p422, c423, d425, ih419, hk, hs.cast [3] (by kernel_rfl), hw.pick [0, 1] (by kernel_rfl), hle420, h424⟩
  · intro a w hh
    obtain ⟨x487, p488, c489, d491, ih485, hk, hs, hw, hle486, h490⟩ := (hJ495 _ _).1 hh
    refine c_seq ?_
    refine c_region ?_
    refine pures hs 2 [2] [(2, .slice p488 x487.length c489)] (by kernel_rfl) fun a hs => ?_
    refine s_end ?_
    refine wp_ret ?_
    obtain rfl := someE hk
    refine hQ _ _ (f_ret1 hs rfl (v := .slice p488 x487.length c489) (by kernel_rfl) ⟨ih485, p488, c489, d491, rfl, hw.pick [0, 1] (by kernel_rfl), hle486, h490⟩)
def latch_Of_int (x3 : Int) : Option (Int × Int × Int × Int × (List (List Int))) :=
  some (0, 0, 0, 0, [])
theorem latch_Of_int_s {x3 : Int} {b1 : Nat} {r : Int × Int × Int × Int × (List (List Int))} (hk : latch_Of_int x3 = some r) {g w : World} {F : Ch} {ih : IH} (hw : St g w [bx b1 [.int .i64 x3] 3, F] ih) :
    CallsR Try.prog 95 #[.func (.func 93) #[] #[.pointer (some ⟨b1, 0, none⟩)]] w fun v w' => ∃ (b16 : Nat) (p17 : Option Addr) (c18 : Nat) (d19 : Ch), v = .pointer (some ⟨b16, 0, none⟩) ∧ St g w' [bx b16 [.int .u32 r.1, .int .i32 r.2.1, .int .u32 r.2.2.1, .func (.func 93) #[] #[.pointer (some ⟨b1, 0, none⟩)], .int .i32 r.2.2.2.1, .slice p17 r.2.2.2.2.length c18] 157, d19, bx b1 [.int .i64 x3] 3, F] ih ∧ OSl e40 ih p17 c18 r.2.2.2.2 d19 := by
  refine f_in (vs := [.func (.func 93) #[] #[.pointer (some ⟨b1, 0, none⟩)]]) Try.func95 rfl 6 rfl (by kernel_rfl) [(0, .func (.func 93) #[] #[.pointer (some ⟨b1, 0, none⟩)])] (by kernel_rfl) fun a Qf hQ hQn hs => ?_
  refine c_seq ?_
  refine c_region ?_
  refine pures hs 1 [0] [(0, .func (.func 93) #[] #[.pointer (some ⟨b1, 0, none⟩)])] (by kernel_rfl) fun a hs => ?_
  refine s_end ?_
  refine c_seq ?_
  refine c_region ?_
  refine pures hs 2 [4] [(4, .agg #[.int .u32 0, .int .i32 0, .int .u32 0, .func (.func 93) #[] #[.pointer (some ⟨b1, 0, none⟩)], .int .i32 0, .slice none 0 0])] (by kernel_rfl) fun a hs => ?_
  refine s_new hs hw [.int .u32 0, .int .i32 0, .int .u32 0, .func (.func 93) #[] #[.pointer (some ⟨b1, 0, none⟩)], .int .i32 0, .slice none 0 0] 157 (fun b => .pointer (some ⟨b, 0, none⟩)) (by kernel_rfl) (fun _ => by kernel_rfl) fun a w b12 hs hw => ?_
  refine pures hs 1 [2] [(2, .pointer (some ⟨b12, 0, none⟩))] (by kernel_rfl) fun a hs => ?_
  refine s_end ?_
  refine wp_ret ?_
  replace hw := hw.nil
  obtain rfl := someE hk
  refine hQ _ _ (f_ret1 hs rfl (v := .pointer (some ⟨b12, 0, none⟩)) (by kernel_rfl) ⟨b12, none, 0, ([]), rfl, hw.pick [1, 0, 2, 3] (by kernel_rfl), (OSl.nil _ _)⟩)
def atlas_New (k : Nat) (x1 : List M53) : Option (Sum Int ((List M53) × Int × Int × Int × Int × Int × (List (List Int)) × Int)) :=
  (conf_All k x1).bind fun y60 =>
  if (!y60) = true then some (.inl 1)
  else (conf_Copy k x1).bind fun y87 =>
  (latch_Of_int (x1.length : Int)).bind fun y96 =>
  some (.inr (y87, y96.1, y96.2.1, y96.2.2.1, (x1.length : Int), y96.2.2.2.1, y96.2.2.2.2, 0))
theorem atlas_New_s {k : Nat} {x1 : List M53} {p2 : Option Addr} {c3 : Nat} {d5 : Ch} {r : Sum Int ((List M53) × Int × Int × Int × Int × Int × (List (List Int)) × Int)} (hk : atlas_New k x1 = some r) {g w : World} {F : Ch} {ih : IH} (h4 : RSl e53 ih d5 p2 c3 x1) (h6 : ∀ q ∈ d5, q ∈ F) (hw : St g w [F] ih) :
    CallsR Try.prog 55 #[.slice p2 x1.length c3] w fun v w' => (∃ r0 : Int, r = .inl r0 ∧ ∃ (ih' : IH), v = .tuple #[.pointer none, .int .i64 r0] ∧ St g w' [F] ih' ∧ Le ih ih') ∨ (∃ r1 : (List M53) × Int × Int × Int × Int × Int × (List (List Int)) × Int, r = .inr r1 ∧ ∃ (ih' : IH) (b107 : Nat) (p108 : Option Addr) (c109 : Nat) (d110 : Ch) (b111 : Nat) (b112 : Nat) (p113 : Option Addr) (c114 : Nat) (d115 : Ch), v = .tuple #[.pointer (some ⟨b107, 0, none⟩), .int .i64 r1.2.2.2.2.2.2.2] ∧ St g w' [bx b107 [.slice p108 r1.1.length c109, .pointer (some ⟨b111, 0, none⟩)] 125, d110, bx b111 [.int .u32 r1.2.1, .int .i32 r1.2.2.1, .int .u32 r1.2.2.2.1, .func (.func 93) #[] #[.pointer (some ⟨b112, 0, none⟩)], .int .i32 r1.2.2.2.2.2.1, .slice p113 r1.2.2.2.2.2.2.1.length c114] 157, bx b112 [.int .i64 r1.2.2.2.2.1] 3, d115, F] ih' ∧ Le ih ih' ∧ OSl e53 ih' p108 c109 r1.1 d110 ∧ OSl e40 ih' p113 c114 r1.2.2.2.2.2.2.1 d115) := by
  refine f_in (vs := [.slice p2 x1.length c3]) Try.func55 rfl 18 rfl (by kernel_rfl) [(0, .slice p2 x1.length c3)] (by kernel_rfl) fun a Qf hQ hQn hs => ?_
  refine c_seq ?_
  refine c_region ?_
  refine pures hs 2 [0] [(0, .slice p2 x1.length c3)] (by kernel_rfl) fun a hs => ?_
  refine s_end ?_
  refine c_seq ?_
  refine c_seq ?_
  refine c_region ?_
  refine pures hs 1 [0, 6] [(0, .slice p2 x1.length c3), (6, .slice p2 x1.length c3)] (by kernel_rfl) fun a hs => ?_
  obtain ⟨y60, h61, hk⟩ := bindE hk
  refine s_call hs (by kernel_rfl) (by kernel_rfl) (conf_All_s h61 h4 (fun q hq => memF 0 rfl q (h6 q hq)) ((hw.pick [0] (by kernel_rfl)).pack 0)) fun a w v hv hs => ?_
  obtain ⟨rfl, hw⟩ := hv
  replace hw := hw.unpack 0 rfl
  refine pures hs 1 [0, 8] [(0, .slice p2 x1.length c3), (8, .bool (!y60))] (by kernel_rfl) fun a hs => ?_
  refine s_end ?_
  rcases ifbE hk with ⟨h62, hk⟩ | ⟨h62, hk⟩
  · refine c_cond1 hs (by kernel_rfl) (t := (!y60)) (by kernel_rfl) h62 ?_
    refine c_seq ?_
    refine c_region ?_
    refine pures hs 2 [2, 3] [(2, .pointer none), (3, .int .i64 1)] (by kernel_rfl) fun a hs => ?_
    refine s_end ?_
    refine wp_ret ?_
    obtain rfl := someE hk
    refine hQ _ _ (f_retN hs [.tmp 2, .tmp 3] rfl [.pointer none, .int .i64 1] (by kernel_rfl) (by kernel_rfl) (.inl ⟨_, rfl, ⟨ih, rfl, hw.pick [0] (by kernel_rfl), (Le.refl _)⟩⟩))
  · refine c_cond0 hs (by kernel_rfl) (t := (!y60)) (by kernel_rfl) h62 ?_
    refine wp_skip ?_
    refine c_seq ?_
    refine c_region ?_
    refine pures hs 2 [0, 10] [(0, .slice p2 x1.length c3), (10, .int .i64 (x1.length : Int))] (by kernel_rfl) fun a hs => ?_
    refine s_new hs hw [.int .i64 0] 3 (fun b => .pointer (some ⟨b, 0, none⟩)) (by kernel_rfl) (fun _ => by kernel_rfl) fun a w b65 hs hw => ?_
    refine s_store hs hw 0 rfl 0 (by kernel_rfl) (by kernel_rfl) (v := .int .i64 (x1.length : Int)) (by kernel_rfl) (by kernel_rfl) (by kernel_rfl) (by kernel_rfl) fun a w hs hw => ?_
    refine s_end ?_
    refine c_seq ?_
    refine c_region ?_
    refine pures hs 2 [0, 5] [(0, .slice p2 x1.length c3), (5, .func (.func 93) #[] #[.pointer (some ⟨b65, 0, none⟩)])] (by kernel_rfl) fun a hs => ?_
    refine s_end ?_
    refine c_seq ?_
    refine c_region ?_
    refine pures hs 1 [5, 12] [(5, .func (.func 93) #[] #[.pointer (some ⟨b65, 0, none⟩)]), (12, .slice p2 x1.length c3)] (by kernel_rfl) fun a hs => ?_
    obtain ⟨y87, h88, hk⟩ := bindE hk
    refine s_call hs (by kernel_rfl) (by kernel_rfl) (conf_Copy_s h88 h4 (fun q hq => memF 1 rfl q (h6 q hq)) ((hw.pick [0, 1] (by kernel_rfl)).pack 0)) fun a w v hv hs => ?_
    obtain ⟨ih89, p91, c92, d94, rfl, hw, hle90, h93⟩ := hv
    replace hw := hw.unpack 1 rfl
    refine pures hs 1 [13, 14] [(13, .slice p91 y87.length c92), (14, .func (.func 93) #[] #[.pointer (some ⟨b65, 0, none⟩)])] (by kernel_rfl) fun a hs => ?_
    obtain ⟨y96, h97, hk⟩ := bindE hk
    refine s_call hs (by kernel_rfl) (by kernel_rfl) (latch_Of_int_s h97 ((hw.pick [1, 0, 2] (by kernel_rfl)).pack 1)) fun a w v hv hs => ?_
    obtain ⟨b98, p100, c101, d103, rfl, hw, h102⟩ := hv
    replace hw := hw.unpack 3 rfl
    refine pures hs 1 [16] [(16, .agg #[.slice p91 y87.length c92, .pointer (some ⟨b98, 0, none⟩)])] (by kernel_rfl) fun a hs => ?_
    refine s_new hs hw [.slice p91 y87.length c92, .pointer (some ⟨b98, 0, none⟩)] 125 (fun b => .pointer (some ⟨b, 0, none⟩)) (by kernel_rfl) (fun _ => by kernel_rfl) fun a w b105 hs hw => ?_
    refine pures hs 2 [2, 3] [(2, .pointer (some ⟨b105, 0, none⟩)), (3, .int .i64 0)] (by kernel_rfl) fun a hs => ?_
    refine s_end ?_
    refine wp_ret ?_
    obtain rfl := someE hk
    refine hQ _ _ (f_retN hs [.tmp 2, .tmp 3] rfl [.pointer (some ⟨b105, 0, none⟩), .int .i64 0] (by kernel_rfl) (by kernel_rfl) (.inr ⟨_, rfl, ⟨ih89, b105, p91, c92, d94, b98, b65, p100, c101, d103, rfl, hw.pick [0, 4, 1, 3, 2, 5] (by kernel_rfl), hle90, h93, h102⟩⟩))
def atlas_Chain (x1 : Int) (x2 : Int) : Option Int :=
  if (decide (x2 < 1)) = true then some 0
  else if (x2 == 0) = true then none
  else some ((IntKind.i64.wrap ((IntKind.u32.wrap (x1 * 2654435761)).fdiv (2 ^ 16))).tmod x2)
theorem atlas_Chain_s {x1 : Int} {x2 : Int} {r : Int} (hk : atlas_Chain x1 x2 = some r) {g w : World} {F : Ch} {ih : IH} (hw : St g w [F] ih) :
    CallsR Try.prog 47 #[.int .u32 x1, .int .i64 x2] w fun v w' => v = .int .i64 r ∧ St g w' [F] ih := by
  refine f_in (vs := [.int .u32 x1, .int .i64 x2]) Try.func47 rfl 13 rfl (by kernel_rfl) [(0, .int .u32 x1), (1, .int .i64 x2)] (by kernel_rfl) fun a Qf hQ hQn hs => ?_
  refine c_seq ?_
  refine c_region ?_
  refine pures hs 1 [0, 1] [(0, .int .u32 x1), (1, .int .i64 x2)] (by kernel_rfl) fun a hs => ?_
  refine s_end ?_
  refine c_seq ?_
  refine c_seq ?_
  refine c_region ?_
  refine pures hs 2 [0, 1, 6] [(0, .int .u32 x1), (1, .int .i64 x2), (6, .bool (decide (x2 < 1)))] (by kernel_rfl) fun a hs => ?_
  refine s_end ?_
  rcases ifbE hk with ⟨h8, hk⟩ | ⟨h8, hk⟩
  · refine c_cond1 hs (by kernel_rfl) (t := (decide (x2 < 1))) (by kernel_rfl) h8 ?_
    refine c_seq ?_
    refine c_region ?_
    refine pures hs 1 [4] [(4, .int .i64 0)] (by kernel_rfl) fun a hs => ?_
    refine s_end ?_
    refine wp_ret ?_
    obtain rfl := someE hk
    refine hQ _ _ (f_ret1 hs rfl (v := .int .i64 0) (by kernel_rfl) ⟨rfl, hw.pick [0] (by kernel_rfl)⟩)
  · refine c_cond0 hs (by kernel_rfl) (t := (decide (x2 < 1))) (by kernel_rfl) h8 ?_
    refine wp_skip ?_
    refine c_seq ?_
    refine c_region ?_
    refine pures hs 5 [10, 11] [(10, .int .i64 (IntKind.i64.wrap ((IntKind.u32.wrap (x1 * 2654435761)).fdiv (2 ^ 16)))), (11, .int .i64 x2)] (by kernel_rfl) fun a hs => ?_
    rcases ifbE hk with ⟨h10, hk⟩ | ⟨h10, hk⟩
    · cases hk
    · refine s_rem hs (by kernel_rfl) .i64 (i := IntKind.i64.wrap ((IntKind.u32.wrap (x1 * 2654435761)).fdiv (2 ^ 16))) (j := x2) (by kernel_rfl) (by kernel_rfl) (by simpa using h10) fun a hs => ?_
      refine pures hs 1 [4] [(4, .int .i64 ((IntKind.i64.wrap ((IntKind.u32.wrap (x1 * 2654435761)).fdiv (2 ^ 16))).tmod x2))] (by kernel_rfl) fun a hs => ?_
      refine s_end ?_
      refine wp_ret ?_
      obtain rfl := someE hk
      refine hQ _ _ (f_ret1 hs rfl (v := .int .i64 ((IntKind.i64.wrap ((IntKind.u32.wrap (x1 * 2654435761)).fdiv (2 ^ 16))).tmod x2)) (by kernel_rfl) ⟨rfl, hw.pick [0] (by kernel_rfl)⟩)
def atlas_Atlas_Of (x1 : Int) : Option M53 :=
  some (M53.mk 0 0 ([]) false 0)
theorem atlas_Atlas_Of_s {x1 : Int} {r : M53} (hk : atlas_Atlas_Of x1 = some r) {g w : World} {F : Ch} {ih : IH} (hw : St g w [F] ih) :
    CallsR Try.prog 57 #[.pointer none, .int .u32 x1] w fun v w' => ∃ (p12 : Option Addr) (c13 : Nat), v = .agg #[.int .i64 r.f0, .int .u64 r.f1, .slice p12 r.f2.length c13, .bool r.f3, .int .i64 r.f4] ∧ St g w' [F] ih ∧ RSl e3 ih [] p12 c13 r.f2 := by
  refine f_in (vs := [.pointer none, .int .u32 x1]) Try.func57 rfl 16 rfl (by kernel_rfl) [(0, .pointer none), (1, .int .u32 x1)] (by kernel_rfl) fun a Qf hQ hQn hs => ?_
  refine c_seq ?_
  refine c_region ?_
  refine s_new hs hw [.int .i64 0, .int .u64 0, .slice none 0 0, .bool false, .int .i64 0] 53 (fun b => .pointer (some ⟨b, 0, none⟩)) (by kernel_rfl) (fun _ => by kernel_rfl) fun a w b10 hs hw => ?_
  refine s_end ?_
  refine c_seq ?_
  refine c_seq ?_
  refine c_region ?_
  refine pures hs 2 [0, 1, 4, 6] [(0, .pointer none), (1, .int .u32 x1), (4, .pointer (some ⟨b10, 0, none⟩)), (6, .bool true)] (by kernel_rfl) fun a hs => ?_
  refine s_end ?_
  refine c_condT hs (by kernel_rfl) (by kernel_rfl) ?_
  refine c_seq ?_
  refine c_region ?_
  refine pures hs 1 [4, 7] [(4, .pointer (some ⟨b10, 0, none⟩)), (7, .agg #[.int .i64 0, .int .u64 0, .slice none 0 0, .bool false, .int .i64 0])] (by kernel_rfl) fun a hs => ?_
  refine s_store hs hw 0 rfl 0 (by kernel_rfl) (by kernel_rfl) (v := .agg #[.int .i64 0, .int .u64 0, .slice none 0 0, .bool false, .int .i64 0]) (by kernel_rfl) (by kernel_rfl) (by kernel_rfl) (by kernel_rfl) fun a w hs hw => ?_
  refine s_end ?_
  refine wp_ret ?_
  obtain rfl := someE hk
  refine hQ _ _ (f_retC hs rfl (hw.at_ 0 rfl) (by kernel_rfl) (v := .agg #[.int .i64 0, .int .u64 0, .slice none 0 0, .bool false, .int .i64 0]) (by kernel_rfl) ⟨none, 0, rfl, hw.pick [1] (by kernel_rfl), (RSl.nil _ _ _)⟩)
def role_Head (k : Nat) (x1 : M53) : Option Int :=
  (conf_Right k x1).bind fun y30 =>
  if (!y30) = true then some 0
  else (ix x1.f2 0).bind fun x37 =>
  some x37
theorem role_Head_s {k : Nat} {x1 : M53} {p2 : Option Addr} {c3 : Nat} {r : Int} (hk : role_Head k x1 = some r) {g w : World} {F : Ch} {ih : IH} (h4 : RSl e3 ih [] p2 c3 x1.f2) (hw : St g w [F] ih) :
    CallsR Try.prog 34 #[.agg #[.int .i64 x1.f0, .int .u64 x1.f1, .slice p2 x1.f2.length c3, .bool x1.f3, .int .i64 x1.f4]] w fun v w' => v = .int .i64 r ∧ St g w' [F] ih := by
  refine f_in (vs := [.agg #[.int .i64 x1.f0, .int .u64 x1.f1, .slice p2 x1.f2.length c3, .bool x1.f3, .int .i64 x1.f4]]) Try.func34 rfl 10 rfl (by kernel_rfl) [(0, .agg #[.int .i64 x1.f0, .int .u64 x1.f1, .slice p2 x1.f2.length c3, .bool x1.f3, .int .i64 x1.f4])] (by kernel_rfl) fun a Qf hQ hQn hs => ?_
  refine c_seq ?_
  refine c_region ?_
  refine s_new hs hw [.int .i64 x1.f0, .int .u64 x1.f1, .slice p2 x1.f2.length c3, .bool x1.f3, .int .i64 x1.f4] 53 (fun b => .pointer (some ⟨b, 0, none⟩)) (by kernel_rfl) (fun _ => by kernel_rfl) fun a w b26 hs hw => ?_
  refine pures hs 1 [1] [(1, .pointer (some ⟨b26, 0, none⟩))] (by kernel_rfl) fun a hs => ?_
  refine s_end ?_
  refine c_seq ?_
  refine c_seq ?_
  refine c_region ?_
  refine s_load hs (hw.at_ 0 rfl) 0 (by kernel_rfl) (by kernel_rfl) (v := .agg #[.int .i64 x1.f0, .int .u64 x1.f1, .slice p2 x1.f2.length c3, .bool x1.f3, .int .i64 x1.f4]) (by kernel_rfl) fun a hs => ?_
  obtain ⟨y30, h31, hk⟩ := bindE hk
  refine s_call hs (by kernel_rfl) (by kernel_rfl) (conf_Right_s h31 h4 ((hw.pick [0, 1] (by kernel_rfl)).pack 0)) fun a w v hv hs => ?_
  obtain ⟨rfl, hw⟩ := hv
  replace hw := hw.unpack 0 rfl
  refine pures hs 1 [1, 5] [(1, .pointer (some ⟨b26, 0, none⟩)), (5, .bool (!y30))] (by kernel_rfl) fun a hs => ?_
  refine s_end ?_
  rcases ifbE hk with ⟨h32, hk⟩ | ⟨h32, hk⟩
  · refine c_cond1 hs (by kernel_rfl) (t := (!y30)) (by kernel_rfl) h32 ?_
    refine c_seq ?_
    refine c_region ?_
    refine pures hs 1 [2] [(2, .int .i64 0)] (by kernel_rfl) fun a hs => ?_
    refine s_end ?_
    refine wp_ret ?_
    obtain rfl := someE hk
    refine hQ _ _ (f_ret1 hs rfl (v := .int .i64 0) (by kernel_rfl) ⟨rfl, hw.pick [1] (by kernel_rfl)⟩)
  · refine c_cond0 hs (by kernel_rfl) (t := (!y30)) (by kernel_rfl) h32 ?_
    refine wp_skip ?_
    refine c_seq ?_
    refine c_region ?_
    refine pures hs 1 [6] [(6, .pointer (some ⟨b26, 2, none⟩))] (by kernel_rfl) fun a hs => ?_
    refine s_load hs (hw.at_ 0 rfl) 2 (by kernel_rfl) (by kernel_rfl) (v := .slice p2 x1.f2.length c3) (by kernel_rfl) fun a hs => ?_
    obtain ⟨x37, h38, hk⟩ := bindE hk
    refine s_index hs h4 (by kernel_rfl) (by kernel_rfl) (k := .i64) (by kernel_rfl) 3 (by kernel_rfl) (by kernel_rfl) h38 fun a r39 cs henc at40 hs => ?_
    obtain rfl := henc
    refine s_load hs (at40 _ (hw.vwAll.nil.anti (Le.refl _))) 0 (by kernel_rfl) (by kernel_rfl) (v := .int .i64 x37) (by kernel_rfl) fun a hs => ?_
    refine pures hs 1 [2] [(2, .int .i64 x37)] (by kernel_rfl) fun a hs => ?_
    refine s_end ?_
    refine wp_ret ?_
    obtain rfl := someE hk
    refine hQ _ _ (f_ret1 hs rfl (v := .int .i64 x37) (by kernel_rfl) ⟨rfl, hw.pick [1] (by kernel_rfl)⟩)
def atlas_Atlas_Head (k : Nat) (x1 : Int) : Option Int :=
  (atlas_Atlas_Of x1).bind fun y25 =>
  (role_Head k y25).bind fun y30 =>
  some y30
theorem atlas_Atlas_Head_s {k : Nat} {x1 : Int} {r : Int} (hk : atlas_Atlas_Head k x1 = some r) {g w : World} {F : Ch} {ih : IH} (hw : St g w [F] ih) :
    CallsR Try.prog 63 #[.pointer none, .int .u32 x1] w fun v w' => v = .int .i64 r ∧ St g w' [F] ih := by
  refine f_in (vs := [.pointer none, .int .u32 x1]) Try.func63 rfl 9 rfl (by kernel_rfl) [(0, .pointer none), (1, .int .u32 x1)] (by kernel_rfl) fun a Qf hQ hQn hs => ?_
  refine c_seq ?_
  refine c_region ?_
  refine pures hs 1 [0, 1] [(0, .pointer none), (1, .int .u32 x1)] (by kernel_rfl) fun a hs => ?_
  refine s_end ?_
  refine c_seq ?_
  refine c_region ?_
  refine pures hs 2 [5, 6] [(5, .pointer none), (6, .int .u32 x1)] (by kernel_rfl) fun a hs => ?_
  obtain ⟨y25, h26, hk⟩ := bindE hk
  refine s_call hs (by kernel_rfl) (by kernel_rfl) (atlas_Atlas_Of_s h26 ((hw.pick [0] (by kernel_rfl)).pack 0)) fun a w v hv hs => ?_
  obtain ⟨p27, c28, rfl, hw, h29⟩ := hv
  replace hw := hw.unpack 0 rfl
  obtain ⟨y30, h31, hk⟩ := bindE hk
  refine s_call hs (by kernel_rfl) (by kernel_rfl) (role_Head_s h31 h29 ((hw.pick [0] (by kernel_rfl)).pack 0)) fun a w v hv hs => ?_
  obtain ⟨rfl, hw⟩ := hv
  replace hw := hw.unpack 0 rfl
  refine pures hs 1 [4] [(4, .int .i64 y30)] (by kernel_rfl) fun a hs => ?_
  refine s_end ?_
  refine wp_ret ?_
  obtain rfl := someE hk
  refine hQ _ _ (f_ret1 hs rfl (v := .int .i64 y30) (by kernel_rfl) ⟨rfl, hw.pick [0] (by kernel_rfl)⟩)
def role_Reader_r2 (x58 : Int) : Option Int :=
  some x58
def role_Reader (k : Nat) (x1 : M53) (x5 : Int) : Option Int :=
  (conf_Right k x1).bind fun y44 =>
  if (!y44) = true then some 0
  else (if ((x1.f2.length : Int) == 0) = true then none
    else (ix x1.f2 ((if 0 > x5 then 0 else x5).tmod (x1.f2.length : Int))).bind fun x63 =>
    some x63 : Option Int).bind fun s67 => role_Reader_r2 s67
theorem role_Reader_s {k : Nat} {x1 : M53} {x5 : Int} {p2 : Option Addr} {c3 : Nat} {r : Int} (hk : role_Reader k x1 x5 = some r) {g w : World} {F : Ch} {ih : IH} (h4 : RSl e3 ih [] p2 c3 x1.f2) (hw : St g w [F] ih) :
    CallsR Try.prog 39 #[.agg #[.int .i64 x1.f0, .int .u64 x1.f1, .slice p2 x1.f2.length c3, .bool x1.f3, .int .i64 x1.f4], .int .i64 x5] w fun v w' => v = .int .i64 r ∧ St g w' [F] ih := by
  refine f_in (vs := [.agg #[.int .i64 x1.f0, .int .u64 x1.f1, .slice p2 x1.f2.length c3, .bool x1.f3, .int .i64 x1.f4], .int .i64 x5]) Try.func39 rfl 18 rfl (by kernel_rfl) [(0, .agg #[.int .i64 x1.f0, .int .u64 x1.f1, .slice p2 x1.f2.length c3, .bool x1.f3, .int .i64 x1.f4]), (1, .int .i64 x5)] (by kernel_rfl) fun a Qf hQ hQn hs => ?_
  refine c_seq ?_
  refine c_region ?_
  refine s_new hs hw [.int .i64 x1.f0, .int .u64 x1.f1, .slice p2 x1.f2.length c3, .bool x1.f3, .int .i64 x1.f4] 53 (fun b => .pointer (some ⟨b, 0, none⟩)) (by kernel_rfl) (fun _ => by kernel_rfl) fun a w b40 hs hw => ?_
  refine pures hs 1 [1, 2] [(1, .int .i64 x5), (2, .pointer (some ⟨b40, 0, none⟩))] (by kernel_rfl) fun a hs => ?_
  refine s_end ?_
  refine c_seq ?_
  refine c_seq ?_
  refine c_region ?_
  refine s_load hs (hw.at_ 0 rfl) 0 (by kernel_rfl) (by kernel_rfl) (v := .agg #[.int .i64 x1.f0, .int .u64 x1.f1, .slice p2 x1.f2.length c3, .bool x1.f3, .int .i64 x1.f4]) (by kernel_rfl) fun a hs => ?_
  obtain ⟨y44, h45, hk⟩ := bindE hk
  refine s_call hs (by kernel_rfl) (by kernel_rfl) (conf_Right_s h45 h4 ((hw.pick [0, 1] (by kernel_rfl)).pack 0)) fun a w v hv hs => ?_
  obtain ⟨rfl, hw⟩ := hv
  replace hw := hw.unpack 0 rfl
  refine pures hs 1 [1, 2, 7] [(1, .int .i64 x5), (2, .pointer (some ⟨b40, 0, none⟩)), (7, .bool (!y44))] (by kernel_rfl) fun a hs => ?_
  refine s_end ?_
  rcases ifbE hk with ⟨h46, hk⟩ | ⟨h46, hk⟩
  · refine c_cond1 hs (by kernel_rfl) (t := (!y44)) (by kernel_rfl) h46 ?_
    refine c_seq ?_
    refine c_region ?_
    refine pures hs 1 [4] [(4, .int .i64 0)] (by kernel_rfl) fun a hs => ?_
    refine s_end ?_
    refine wp_ret ?_
    obtain rfl := someE hk
    refine hQ _ _ (f_ret1 hs rfl (v := .int .i64 0) (by kernel_rfl) ⟨rfl, hw.pick [1] (by kernel_rfl)⟩)
  · refine c_cond0 hs (by kernel_rfl) (t := (!y44)) (by kernel_rfl) h46 ?_
    refine wp_skip ?_
    refine c_seq ?_
    obtain ⟨S47, hS47, kS47⟩ := mkSX (X := [([], bx b40 [.int .i64 x1.f0, .int .u64 x1.f1, .slice p2 x1.f2.length c3, .bool x1.f3, .int .i64 x1.f4] 53), ([], F)]) (ih := ih) (K := []) rfl
    obtain ⟨y59, hx60, hk⟩ := bindE hk
    obtain ⟨J61, hJ61⟩ : ∃ J : Act → World → Prop, ∀ a w, J a w ↔ (∃ (x58 : Int), role_Reader_r2 x58 = some r ∧ Sees a 18 [(4, .int .i64 x58)] ∧ St g w [F] ih) := ⟨_, fun _ _ => Iff.rfl⟩
    refine c_draw (by kernel_rfl) (N := 11) rfl S47 J61 ?_ ?_
    · have hw := hw.drew
      have hS : S47 (Array.replicate 11 false) _ := SX_now hS47 (hw.vws [0, 1]) (by kernel_rfl)
      refine d_pures (fuel := 10) kS47 hs hS [0] [1, 2, 8] [(1, .int .i64 x5), (2, .pointer (some ⟨b40, 0, none⟩)), (8, .pointer (some ⟨b40, 2, none⟩))] (by kernel_rfl) fun a hs hS => ?_
      refine d_load (fuel := 9) kS47 hs hS 1 rfl (by kernel_rfl) (SX_box hS47 0 rfl (by kernel_rfl)) 2 (by kernel_rfl) (by kernel_rfl) (v := .slice p2 x1.f2.length c3) (by kernel_rfl) fun a hs hS => ?_
      refine d_pures (fuel := 6) kS47 hs hS [2, 3, 4] [1, 2, 8, 9, 10, 11, 12] [(1, .int .i64 x5), (2, .pointer (some ⟨b40, 0, none⟩)), (8, .pointer (some ⟨b40, 2, none⟩)), (9, .slice p2 x1.f2.length c3), (10, .int .i64 x5), (11, .int .i64 (if 0 > x5 then 0 else x5)), (12, .pointer (some ⟨b40, 2, none⟩))] (by kernel_rfl) fun a hs hS => ?_
      refine d_load (fuel := 5) kS47 hs hS 5 rfl (by kernel_rfl) (SX_box hS47 0 rfl (by kernel_rfl)) 2 (by kernel_rfl) (by kernel_rfl) (v := .slice p2 x1.f2.length c3) (by kernel_rfl) fun a hs hS => ?_
      refine d_pures (fuel := 4) kS47 hs hS [6] [1, 2, 8, 9, 10, 11, 12, 13, 14] [(1, .int .i64 x5), (2, .pointer (some ⟨b40, 0, none⟩)), (8, .pointer (some ⟨b40, 2, none⟩)), (9, .slice p2 x1.f2.length c3), (10, .int .i64 x5), (11, .int .i64 (if 0 > x5 then 0 else x5)), (12, .pointer (some ⟨b40, 2, none⟩)), (13, .slice p2 x1.f2.length c3), (14, .int .i64 (x1.f2.length : Int))] (by kernel_rfl) fun a hs hS => ?_
      rcases ifbE hx60 with ⟨h62, hx60⟩ | ⟨h62, hx60⟩
      · cases hx60
      · refine d_rem (fuel := 3) kS47 hs hS 7 rfl (by kernel_rfl) (by kernel_rfl) .i64 (i := (if 0 > x5 then 0 else x5)) (j := (x1.f2.length : Int)) (by kernel_rfl) (by kernel_rfl) (by simpa using h62) fun a hs hS => ?_
        obtain ⟨x63, h64, hx60⟩ := bindE hx60
        refine d_index (fuel := 2) kS47 hs hS 8 rfl (by kernel_rfl) h4 (by kernel_rfl) (by kernel_rfl) (k := .i64) (by kernel_rfl) 3 (by kernel_rfl) (by kernel_rfl) h64 fun a r65 cs henc at66 hs hS => ?_
        obtain rfl := henc
        refine d_load (fuel := 1) kS47 hs hS 9 rfl (by kernel_rfl) (fun l w hu hS => at66 w ((SX_nil hS47 l w hu hS).anti (Le.refl _))) 0 (by kernel_rfl) (by kernel_rfl) (v := .int .i64 x63) (by kernel_rfl) fun a hs hS => ?_
        refine d_pures (fuel := 0) kS47 hs hS [10] [1, 2, 8, 9, 10, 11, 12, 13, 14, 15, 16, 17, 4] [(1, .int .i64 x5), (2, .pointer (some ⟨b40, 0, none⟩)), (8, .pointer (some ⟨b40, 2, none⟩)), (9, .slice p2 x1.f2.length c3), (10, .int .i64 x5), (11, .int .i64 (if 0 > x5 then 0 else x5)), (12, .pointer (some ⟨b40, 2, none⟩)), (13, .slice p2 x1.f2.length c3), (14, .int .i64 (x1.f2.length : Int)), (15, .int .i64 ((if 0 > x5 then 0 else x5).tmod (x1.f2.length : Int))), (16, .pointer (some r65)), (17, .int .i64 x63), (4, .int .i64 x63)] (by kernel_rfl) fun a hs hS => ?_
        refine d_done (by kernel_rfl) ?_
        obtain rfl := someE hx60
        exact (hJ61 _ _).2 ⟨x63, hk, hs.cast [4] (by kernel_rfl), hw.pick [1] (by kernel_rfl)⟩
    · intro a w hh
      obtain ⟨x58, hk, hs, hw⟩ := (hJ61 _ _).1 hh
      refine wp_ret ?_
      obtain rfl := someE hk
      refine hQ _ _ (f_ret1 hs rfl (v := .int .i64 x58) (by kernel_rfl) ⟨rfl, hw.pick [0] (by kernel_rfl)⟩)
def atlas_Atlas_Reader (k : Nat) (x1 : Int) (x2 : Int) : Option Int :=
  (atlas_Atlas_Of x1).bind fun y26 =>
  (role_Reader k y26 x2).bind fun y31 =>
  some y31
theorem atlas_Atlas_Reader_s {k : Nat} {x1 : Int} {x2 : Int} {r : Int} (hk : atlas_Atlas_Reader k x1 x2 = some r) {g w : World} {F : Ch} {ih : IH} (hw : St g w [F] ih) :
    CallsR Try.prog 64 #[.pointer none, .int .u32 x1, .int .i64 x2] w fun v w' => v = .int .i64 r ∧ St g w' [F] ih := by
  refine f_in (vs := [.pointer none, .int .u32 x1, .int .i64 x2]) Try.func64 rfl 12 rfl (by kernel_rfl) [(0, .pointer none), (1, .int .u32 x1), (2, .int .i64 x2)] (by kernel_rfl) fun a Qf hQ hQn hs => ?_
  refine c_seq ?_
  refine c_region ?_
  refine pures hs 1 [0, 1, 2] [(0, .pointer none), (1, .int .u32 x1), (2, .int .i64 x2)] (by kernel_rfl) fun a hs => ?_
  refine s_end ?_
  refine c_seq ?_
  refine c_region ?_
  refine pures hs 2 [2, 7, 8] [(2, .int .i64 x2), (7, .pointer none), (8, .int .u32 x1)] (by kernel_rfl) fun a hs => ?_
  obtain ⟨y26, h27, hk⟩ := bindE hk
  refine s_call hs (by kernel_rfl) (by kernel_rfl) (atlas_Atlas_Of_s h27 ((hw.pick [0] (by kernel_rfl)).pack 0)) fun a w v hv hs => ?_
  obtain ⟨p28, c29, rfl, hw, h30⟩ := hv
  replace hw := hw.unpack 0 rfl
  refine pures hs 1 [9, 10] [(9, .agg #[.int .i64 y26.f0, .int .u64 y26.f1, .slice p28 y26.f2.length c29, .bool y26.f3, .int .i64 y26.f4]), (10, .int .i64 x2)] (by kernel_rfl) fun a hs => ?_
  obtain ⟨y31, h32, hk⟩ := bindE hk
  refine s_call hs (by kernel_rfl) (by kernel_rfl) (role_Reader_s h32 h30 ((hw.pick [0] (by kernel_rfl)).pack 0)) fun a w v hv hs => ?_
  obtain ⟨rfl, hw⟩ := hv
  replace hw := hw.unpack 0 rfl
  refine pures hs 1 [6] [(6, .int .i64 y31)] (by kernel_rfl) fun a hs => ?_
  refine s_end ?_
  refine wp_ret ?_
  obtain rfl := someE hk
  refine hQ _ _ (f_ret1 hs rfl (v := .int .i64 y31) (by kernel_rfl) ⟨rfl, hw.pick [0] (by kernel_rfl)⟩)
def atlas_Atlas_Chains : Option Int :=
  some 0
theorem atlas_Atlas_Chains_s {r : Int} (hk : atlas_Atlas_Chains = some r) {g w : World} {F : Ch} {ih : IH} (hw : St g w [F] ih) :
    CallsR Try.prog 65 #[.pointer none] w fun v w' => v = .int .i64 r ∧ St g w' [F] ih := by
  refine f_in (vs := [.pointer none]) Try.func65 rfl 10 rfl (by kernel_rfl) [(0, .pointer none)] (by kernel_rfl) fun a Qf hQ hQn hs => ?_
  refine c_seq ?_
  refine c_region ?_
  refine pures hs 1 [0] [(0, .pointer none)] (by kernel_rfl) fun a hs => ?_
  refine s_end ?_
  refine c_seq ?_
  refine c_seq ?_
  refine c_region ?_
  refine pures hs 2 [0, 4] [(0, .pointer none), (4, .bool true)] (by kernel_rfl) fun a hs => ?_
  refine s_end ?_
  refine c_condT hs (by kernel_rfl) (by kernel_rfl) ?_
  refine c_seq ?_
  refine c_region ?_
  refine pures hs 1 [2] [(2, .int .i64 0)] (by kernel_rfl) fun a hs => ?_
  refine s_end ?_
  refine wp_ret ?_
  obtain rfl := someE hk
  refine hQ _ _ (f_ret1 hs rfl (v := .int .i64 0) (by kernel_rfl) ⟨rfl, hw.pick [0] (by kernel_rfl)⟩)
def atlas_Atlas_Confs (k : Nat) (x3 : List M53) (x11 : Int) (x12 : Int) (x13 : Int) (x16 : Int) (x17 : Int) (x18 : List (List Int)) : Option (List M53) :=
  (conf_Copy k x3).bind fun y53 =>
  some y53
theorem atlas_Atlas_Confs_s {k : Nat} {x3 : List M53} {x11 : Int} {x12 : Int} {x13 : Int} {x16 : Int} {x17 : Int} {x18 : List (List Int)} {b1 : Nat} {p4 : Option Addr} {c5 : Nat} {d7 : Ch} {b9 : Nat} {b14 : Nat} {p19 : Option Addr} {c20 : Nat} {d22 : Ch} {r : (List M53)} (hk : atlas_Atlas_Confs k x3 x11 x12 x13 x16 x17 x18 = some r) {g w : World} {F : Ch} {ih : IH} (h6 : OSl e53 ih p4 c5 x3 d7) (h21 : OSl e40 ih p19 c20 x18 d22) (hw : St g w [bx b1 [.slice p4 x3.length c5, .pointer (some ⟨b9, 0, none⟩)] 125, d7, bx b9 [.int .u32 x11, .int .i32 x12, .int .u32 x13, .func (.func 93) #[] #[.pointer (some ⟨b14, 0, none⟩)], .int .i32 x17, .slice p19 x18.length c20] 157, bx b14 [.int .i64 x16] 3, d22, F] ih) :
    CallsR Try.prog 61 #[.pointer (some ⟨b1, 0, none⟩)] w fun v w' => ∃ (ih' : IH) (p62 : Option Addr) (c63 : Nat) (d64 : Ch), v = .slice p62 r.length c63 ∧ St g w' [d64, bx b1 [.slice p4 x3.length c5, .pointer (some ⟨b9, 0, none⟩)] 125, d7, bx b9 [.int .u32 x11, .int .i32 x12, .int .u32 x13, .func (.func 93) #[] #[.pointer (some ⟨b14, 0, none⟩)], .int .i32 x17, .slice p19 x18.length c20] 157, bx b14 [.int .i64 x16] 3, d22, F] ih' ∧ Le ih ih' ∧ OSl e53 ih' p62 c63 r d64 := by
  refine f_in (vs := [.pointer (some ⟨b1, 0, none⟩)]) Try.func61 rfl 10 rfl (by kernel_rfl) [(0, .pointer (some ⟨b1, 0, none⟩))] (by kernel_rfl) fun a Qf hQ hQn hs => ?_
  refine c_seq ?_
  refine c_region ?_
  refine pures hs 1 [0] [(0, .pointer (some ⟨b1, 0, none⟩))] (by kernel_rfl) fun a hs => ?_
  refine s_end ?_
  refine c_seq ?_
  refine c_seq ?_
  refine c_region ?_
  refine pures hs 2 [0, 4] [(0, .pointer (some ⟨b1, 0, none⟩)), (4, .bool false)] (by kernel_rfl) fun a hs => ?_
  refine s_end ?_
  refine c_condF hs (by kernel_rfl) (by kernel_rfl) ?_
  refine wp_skip ?_
  refine c_seq ?_
  refine c_region ?_
  refine pures hs 3 [7] [(7, .pointer (some ⟨b1, 0, none⟩))] (by kernel_rfl) fun a hs => ?_
  refine s_load hs (hw.at_ 0 rfl) 0 (by kernel_rfl) (by kernel_rfl) (v := .slice p4 x3.length c5) (by kernel_rfl) fun a hs => ?_
  obtain ⟨y53, h54, hk⟩ := bindE hk
  refine s_call hs (by kernel_rfl) (by kernel_rfl) (conf_Copy_s h54 h6.read (memF 1 rfl) ((hw.pick [0, 1, 2, 3, 4, 5] (by kernel_rfl)).pack 0)) fun a w v hv hs => ?_
  obtain ⟨ih55, p57, c58, d60, rfl, hw, hle56, h59⟩ := hv
  replace hw := hw.unpack 1 rfl
  refine pures hs 1 [2] [(2, .slice p57 y53.length c58)] (by kernel_rfl) fun a hs => ?_
  refine s_end ?_
  refine wp_ret ?_
  obtain rfl := someE hk
  refine hQ _ _ (f_ret1 hs rfl (v := .slice p57 y53.length c58) (by kernel_rfl) ⟨ih55, p57, c58, d60, rfl, hw.pick [0, 1, 2, 3, 4, 5, 6] (by kernel_rfl), hle56, h59⟩)
def atlas_Atlas_Chains_2 (x3 : List M53) (x11 : Int) (x12 : Int) (x13 : Int) (x16 : Int) (x17 : Int) (x18 : List (List Int)) : Option Int :=
  some (x3.length : Int)
theorem atlas_Atlas_Chains_2_s {x3 : List M53} {x11 : Int} {x12 : Int} {x13 : Int} {x16 : Int} {x17 : Int} {x18 : List (List Int)} {b1 : Nat} {p4 : Option Addr} {c5 : Nat} {d7 : Ch} {b9 : Nat} {b14 : Nat} {p19 : Option Addr} {c20 : Nat} {d22 : Ch} {r : Int} (hk : atlas_Atlas_Chains_2 x3 x11 x12 x13 x16 x17 x18 = some r) {g w : World} {F : Ch} {ih : IH} (h6 : OSl e53 ih p4 c5 x3 d7) (h21 : OSl e40 ih p19 c20 x18 d22) (hw : St g w [bx b1 [.slice p4 x3.length c5, .pointer (some ⟨b9, 0, none⟩)] 125, d7, bx b9 [.int .u32 x11, .int .i32 x12, .int .u32 x13, .func (.func 93) #[] #[.pointer (some ⟨b14, 0, none⟩)], .int .i32 x17, .slice p19 x18.length c20] 157, bx b14 [.int .i64 x16] 3, d22, F] ih) :
    CallsR Try.prog 65 #[.pointer (some ⟨b1, 0, none⟩)] w fun v w' => v = .int .i64 r ∧ St g w' [bx b1 [.slice p4 x3.length c5, .pointer (some ⟨b9, 0, none⟩)] 125, d7, bx b9 [.int .u32 x11, .int .i32 x12, .int .u32 x13, .func (.func 93) #[] #[.pointer (some ⟨b14, 0, none⟩)], .int .i32 x17, .slice p19 x18.length c20] 157, bx b14 [.int .i64 x16] 3, d22, F] ih := by
  refine f_in (vs := [.pointer (some ⟨b1, 0, none⟩)]) Try.func65 rfl 10 rfl (by kernel_rfl) [(0, .pointer (some ⟨b1, 0, none⟩))] (by kernel_rfl) fun a Qf hQ hQn hs => ?_
  refine c_seq ?_
  refine c_region ?_
  refine pures hs 1 [0] [(0, .pointer (some ⟨b1, 0, none⟩))] (by kernel_rfl) fun a hs => ?_
  refine s_end ?_
  refine c_seq ?_
  refine c_seq ?_
  refine c_region ?_
  refine pures hs 2 [0, 4] [(0, .pointer (some ⟨b1, 0, none⟩)), (4, .bool false)] (by kernel_rfl) fun a hs => ?_
  refine s_end ?_
  refine c_condF hs (by kernel_rfl) (by kernel_rfl) ?_
  refine wp_skip ?_
  refine c_seq ?_
  refine c_region ?_
  refine pures hs 3 [7] [(7, .pointer (some ⟨b1, 0, none⟩))] (by kernel_rfl) fun a hs => ?_
  refine s_load hs (hw.at_ 0 rfl) 0 (by kernel_rfl) (by kernel_rfl) (v := .slice p4 x3.length c5) (by kernel_rfl) fun a hs => ?_
  refine pures hs 2 [2] [(2, .int .i64 (x3.length : Int))] (by kernel_rfl) fun a hs => ?_
  refine s_end ?_
  refine wp_ret ?_
  obtain rfl := someE hk
  refine hQ _ _ (f_ret1 hs rfl (v := .int .i64 (x3.length : Int)) (by kernel_rfl) ⟨rfl, hw.pick [0, 1, 2, 3, 4, 5] (by kernel_rfl)⟩)
def atlas_Atlas_Of_2 (k : Nat) (x3 : List M53) (x11 : Int) (x12 : Int) (x13 : Int) (x16 : Int) (x17 : Int) (x18 : List (List Int)) (x24 : Int) : Option M53 :=
  (atlas_Atlas_Confs k x3 x11 x12 x13 x16 x17 x18).bind fun y98 =>
  (atlas_Atlas_Chains_2 x3 x11 x12 x13 x16 x17 x18).bind fun y107 =>
  (atlas_Chain x24 y107).bind fun y109 =>
  (ix y98 y109).bind fun x111 =>
  some x111
theorem atlas_Atlas_Of_2_s {k : Nat} {x3 : List M53} {x11 : Int} {x12 : Int} {x13 : Int} {x16 : Int} {x17 : Int} {x18 : List (List Int)} {x24 : Int} {b1 : Nat} {p4 : Option Addr} {c5 : Nat} {d7 : Ch} {b9 : Nat} {b14 : Nat} {p19 : Option Addr} {c20 : Nat} {d22 : Ch} {r : M53} (hk : atlas_Atlas_Of_2 k x3 x11 x12 x13 x16 x17 x18 x24 = some r) {g w : World} {F : Ch} {ih : IH} (h6 : OSl e53 ih p4 c5 x3 d7) (h21 : OSl e40 ih p19 c20 x18 d22) (hw : St g w [bx b1 [.slice p4 x3.length c5, .pointer (some ⟨b9, 0, none⟩)] 125, d7, bx b9 [.int .u32 x11, .int .i32 x12, .int .u32 x13, .func (.func 93) #[] #[.pointer (some ⟨b14, 0, none⟩)], .int .i32 x17, .slice p19 x18.length c20] 157, bx b14 [.int .i64 x16] 3, d22, F] ih) :
    CallsR Try.prog 57 #[.pointer (some ⟨b1, 0, none⟩), .int .u32 x24] w fun v w' => ∃ (ih' : IH) (p119 : Option Addr) (c120 : Nat), v = .agg #[.int .i64 r.f0, .int .u64 r.f1, .slice p119 r.f2.length c120, .bool r.f3, .int .i64 r.f4] ∧ St g w' [bx b1 [.slice p4 x3.length c5, .pointer (some ⟨b9, 0, none⟩)] 125, d7, bx b9 [.int .u32 x11, .int .i32 x12, .int .u32 x13, .func (.func 93) #[] #[.pointer (some ⟨b14, 0, none⟩)], .int .i32 x17, .slice p19 x18.length c20] 157, bx b14 [.int .i64 x16] 3, d22, F] ih' ∧ Le ih ih' ∧ RSl e3 ih' [] p119 c120 r.f2 := by
  refine f_in (vs := [.pointer (some ⟨b1, 0, none⟩), .int .u32 x24]) Try.func57 rfl 16 rfl (by kernel_rfl) [(0, .pointer (some ⟨b1, 0, none⟩)), (1, .int .u32 x24)] (by kernel_rfl) fun a Qf hQ hQn hs => ?_
  refine c_seq ?_
  refine c_region ?_
  refine s_new hs hw [.int .i64 0, .int .u64 0, .slice none 0 0, .bool false, .int .i64 0] 53 (fun b => .pointer (some ⟨b, 0, none⟩)) (by kernel_rfl) (fun _ => by kernel_rfl) fun a w b75 hs hw => ?_
  refine s_end ?_
  refine c_seq ?_
  refine c_seq ?_
  refine c_region ?_
  refine pures hs 2 [0, 1, 4, 6] [(0, .pointer (some ⟨b1, 0, none⟩)), (1, .int .u32 x24), (4, .pointer (some ⟨b75, 0, none⟩)), (6, .bool false)] (by kernel_rfl) fun a hs => ?_
  refine s_end ?_
  refine c_condF hs (by kernel_rfl) (by kernel_rfl) ?_
  refine wp_skip ?_
  refine c_seq ?_
  refine c_region ?_
  refine pures hs 1 [0, 1, 4, 8] [(0, .pointer (some ⟨b1, 0, none⟩)), (1, .int .u32 x24), (4, .pointer (some ⟨b75, 0, none⟩)), (8, .pointer (some ⟨b1, 0, none⟩))] (by kernel_rfl) fun a hs => ?_
  obtain ⟨y98, h99, hk⟩ := bindE hk
  refine s_call hs (by kernel_rfl) (by kernel_rfl) (atlas_Atlas_Confs_s h99 h6 h21 ((hw.pick [1, 2, 3, 4, 5, 0, 6] (by kernel_rfl)).pack 5)) fun a w v hv hs => ?_
  obtain ⟨ih100, p102, c103, d105, rfl, hw, hle101, h104⟩ := hv
  replace hw := hw.unpack 6 rfl
  refine pures hs 2 [4, 9, 10, 11] [(4, .pointer (some ⟨b75, 0, none⟩)), (9, .slice p102 y98.length c103), (10, .int .u32 x24), (11, .pointer (some ⟨b1, 0, none⟩))] (by kernel_rfl) fun a hs => ?_
  obtain ⟨y107, h108, hk⟩ := bindE hk
  refine s_call hs (by kernel_rfl) (by kernel_rfl) (atlas_Atlas_Chains_2_s h108 (h6.mono hle101) (h21.mono hle101) ((hw.pick [1, 2, 3, 4, 5, 0, 6, 7] (by kernel_rfl)).pack 5)) fun a w v hv hs => ?_
  obtain ⟨rfl, hw⟩ := hv
  replace hw := hw.unpack 5 rfl
  obtain ⟨y109, h110, hk⟩ := bindE hk
  refine s_call hs (by kernel_rfl) (by kernel_rfl) (atlas_Chain_s h110 ((hw.pick [0, 1, 2, 3, 4, 5, 6, 7] (by kernel_rfl)).pack 0)) fun a w v hv hs => ?_
  obtain ⟨rfl, hw⟩ := hv
  replace hw := hw.unpack 0 rfl
  obtain ⟨x111, h112, hk⟩ := bindE hk
  refine s_indexO hs h104 (by kernel_rfl) (by kernel_rfl) (k := .i64) (by kernel_rfl) 53 (by kernel_rfl) (by kernel_rfl) h112 fun a r113 cs henc at114 h118 hs => ?_
  obtain ⟨p115, c116, rfl, h117⟩ := henc
  refine s_load hs (at114 _ ((hw.vw 5 rfl).anti (Le.refl _))) 0 (by kernel_rfl) (by kernel_rfl) (v := .agg #[.int .i64 x111.f0, .int .u64 x111.f1, .slice p115 x111.f2.length c116, .bool x111.f3, .int .i64 x111.f4]) (by kernel_rfl) fun a hs => ?_
  refine s_store hs hw 6 rfl 0 (by kernel_rfl) (by kernel_rfl) (v := .agg #[.int .i64 x111.f0, .int .u64 x111.f1, .slice p115 x111.f2.length c116, .bool x111.f3, .int .i64 x111.f4]) (by kernel_rfl) (by kernel_rfl) (by kernel_rfl) (by kernel_rfl) fun a w hs hw => ?_
  refine s_end ?_
  refine wp_ret ?_
  obtain rfl := someE hk
  refine hQ _ _ (f_retC hs rfl (hw.at_ 6 rfl) (by kernel_rfl) (v := .agg #[.int .i64 x111.f0, .int .u64 x111.f1, .slice p115 x111.f2.length c116, .bool x111.f3, .int .i64 x111.f4]) (by kernel_rfl) ⟨ih100, p115, c116, rfl, hw.pick [0, 1, 2, 3, 4, 7] (by kernel_rfl), hle101, h117⟩)
def atlas_Atlas_Head_2 (k : Nat) (x3 : List M53) (x11 : Int) (x12 : Int) (x13 : Int) (x16 : Int) (x17 : Int) (x18 : List (List Int)) (x24 : Int) : Option Int :=
  (atlas_Atlas_Of_2 k x3 x11 x12 x13 x16 x17 x18 x24).bind fun y54 =>
  (role_Head k y54).bind fun y61 =>
  some y61
theorem atlas_Atlas_Head_2_s {k : Nat} {x3 : List M53} {x11 : Int} {x12 : Int} {x13 : Int} {x16 : Int} {x17 : Int} {x18 : List (List Int)} {x24 : Int} {b1 : Nat} {p4 : Option Addr} {c5 : Nat} {d7 : Ch} {b9 : Nat} {b14 : Nat} {p19 : Option Addr} {c20 : Nat} {d22 : Ch} {r : Int} (hk : atlas_Atlas_Head_2 k x3 x11 x12 x13 x16 x17 x18 x24 = some r) {g w : World} {F : Ch} {ih : IH} (h6 : OSl e53 ih p4 c5 x3 d7) (h21 : OSl e40 ih p19 c20 x18 d22) (hw : St g w [bx b1 [.slice p4 x3.length c5, .pointer (some ⟨b9, 0, none⟩)] 125, d7, bx b9 [.int .u32 x11, .int .i32 x12, .int .u32 x13, .func (.func 93) #[] #[.pointer (some ⟨b14, 0, none⟩)], .int .i32 x17, .slice p19 x18.length c20] 157, bx b14 [.int .i64 x16] 3, d22, F] ih) :
    CallsR Try.prog 63 #[.pointer (some ⟨b1, 0, none⟩), .int .u32 x24] w fun v w' => ∃ (ih' : IH), v = .int .i64 r ∧ St g w' [bx b1 [.slice p4 x3.length c5, .pointer (some ⟨b9, 0, none⟩)] 125, d7, bx b9 [.int .u32 x11, .int .i32 x12, .int .u32 x13, .func (.func 93) #[] #[.pointer (some ⟨b14, 0, none⟩)], .int .i32 x17, .slice p19 x18.length c20] 157, bx b14 [.int .i64 x16] 3, d22, F] ih' ∧ Le ih ih' := by
  refine f_in (vs := [.pointer (some ⟨b1, 0, none⟩), .int .u32 x24]) Try.func63 rfl 9 rfl (by kernel_rfl) [(0, .pointer (some ⟨b1, 0, none⟩)), (1, .int .u32 x24)] (by kernel_rfl) fun a Qf hQ hQn hs => ?_
  refine c_seq ?_
  refine c_region ?_
  refine pures hs 1 [0, 1] [(0, .pointer (some ⟨b1, 0, none⟩)), (1, .int .u32 x24)] (by kernel_rfl) fun a hs => ?_
  refine s_end ?_
  refine c_seq ?_
  refine c_region ?_
  refine pures hs 2 [5, 6] [(5, .pointer (some ⟨b1, 0, none⟩)), (6, .int .u32 x24)] (by kernel_rfl) fun a hs => ?_
  obtain ⟨y54, h55, hk⟩ := bindE hk
  refine s_call hs (by kernel_rfl) (by kernel_rfl) (atlas_Atlas_Of_2_s h55 h6 h21 ((hw.pick [0, 1, 2, 3, 4, 5] (by kernel_rfl)).pack 5)) fun a w v hv hs => ?_
  obtain ⟨ih56, p58, c59, rfl, hw, hle57, h60⟩ := hv
  replace hw := hw.unpack 5 rfl
  obtain ⟨y61, h62, hk⟩ := bindE hk
  refine s_call hs (by kernel_rfl) (by kernel_rfl) (role_Head_s h62 h60 ((hw.pick [0, 1, 2, 3, 4, 5] (by kernel_rfl)).pack 0)) fun a w v hv hs => ?_
  obtain ⟨rfl, hw⟩ := hv
  replace hw := hw.unpack 0 rfl
  refine pures hs 1 [4] [(4, .int .i64 y61)] (by kernel_rfl) fun a hs => ?_
  refine s_end ?_
  refine wp_ret ?_
  obtain rfl := someE hk
  refine hQ _ _ (f_ret1 hs rfl (v := .int .i64 y61) (by kernel_rfl) ⟨ih56, rfl, hw.pick [0, 1, 2, 3, 4, 5] (by kernel_rfl), hle57⟩)
def atlas_Atlas_Reader_2 (k : Nat) (x3 : List M53) (x11 : Int) (x12 : Int) (x13 : Int) (x16 : Int) (x17 : Int) (x18 : List (List Int)) (x24 : Int) (x25 : Int) : Option Int :=
  (atlas_Atlas_Of_2 k x3 x11 x12 x13 x16 x17 x18 x24).bind fun y55 =>
  (role_Reader k y55 x25).bind fun y62 =>
  some y62
theorem atlas_Atlas_Reader_2_s {k : Nat} {x3 : List M53} {x11 : Int} {x12 : Int} {x13 : Int} {x16 : Int} {x17 : Int} {x18 : List (List Int)} {x24 : Int} {x25 : Int} {b1 : Nat} {p4 : Option Addr} {c5 : Nat} {d7 : Ch} {b9 : Nat} {b14 : Nat} {p19 : Option Addr} {c20 : Nat} {d22 : Ch} {r : Int} (hk : atlas_Atlas_Reader_2 k x3 x11 x12 x13 x16 x17 x18 x24 x25 = some r) {g w : World} {F : Ch} {ih : IH} (h6 : OSl e53 ih p4 c5 x3 d7) (h21 : OSl e40 ih p19 c20 x18 d22) (hw : St g w [bx b1 [.slice p4 x3.length c5, .pointer (some ⟨b9, 0, none⟩)] 125, d7, bx b9 [.int .u32 x11, .int .i32 x12, .int .u32 x13, .func (.func 93) #[] #[.pointer (some ⟨b14, 0, none⟩)], .int .i32 x17, .slice p19 x18.length c20] 157, bx b14 [.int .i64 x16] 3, d22, F] ih) :
    CallsR Try.prog 64 #[.pointer (some ⟨b1, 0, none⟩), .int .u32 x24, .int .i64 x25] w fun v w' => ∃ (ih' : IH), v = .int .i64 r ∧ St g w' [bx b1 [.slice p4 x3.length c5, .pointer (some ⟨b9, 0, none⟩)] 125, d7, bx b9 [.int .u32 x11, .int .i32 x12, .int .u32 x13, .func (.func 93) #[] #[.pointer (some ⟨b14, 0, none⟩)], .int .i32 x17, .slice p19 x18.length c20] 157, bx b14 [.int .i64 x16] 3, d22, F] ih' ∧ Le ih ih' := by
  refine f_in (vs := [.pointer (some ⟨b1, 0, none⟩), .int .u32 x24, .int .i64 x25]) Try.func64 rfl 12 rfl (by kernel_rfl) [(0, .pointer (some ⟨b1, 0, none⟩)), (1, .int .u32 x24), (2, .int .i64 x25)] (by kernel_rfl) fun a Qf hQ hQn hs => ?_
  refine c_seq ?_
  refine c_region ?_
  refine pures hs 1 [0, 1, 2] [(0, .pointer (some ⟨b1, 0, none⟩)), (1, .int .u32 x24), (2, .int .i64 x25)] (by kernel_rfl) fun a hs => ?_
  refine s_end ?_
  refine c_seq ?_
  refine c_region ?_
  refine pures hs 2 [2, 7, 8] [(2, .int .i64 x25), (7, .pointer (some ⟨b1, 0, none⟩)), (8, .int .u32 x24)] (by kernel_rfl) fun a hs => ?_
  obtain ⟨y55, h56, hk⟩ := bindE hk
  refine s_call hs (by kernel_rfl) (by kernel_rfl) (atlas_Atlas_Of_2_s h56 h6 h21 ((hw.pick [0, 1, 2, 3, 4, 5] (by kernel_rfl)).pack 5)) fun a w v hv hs => ?_
  obtain ⟨ih57, p59, c60, rfl, hw, hle58, h61⟩ := hv
  replace hw := hw.unpack 5 rfl
  refine pures hs 1 [9, 10] [(9, .agg #[.int .i64 y55.f0, .int .u64 y55.f1, .slice p59 y55.f2.length c60, .bool y55.f3, .int .i64 y55.f4]), (10, .int .i64 x25)] (by kernel_rfl) fun a hs => ?_
  obtain ⟨y62, h63, hk⟩ := bindE hk
  refine s_call hs (by kernel_rfl) (by kernel_rfl) (role_Reader_s h63 h61 ((hw.pick [0, 1, 2, 3, 4, 5] (by kernel_rfl)).pack 0)) fun a w v hv hs => ?_
  obtain ⟨rfl, hw⟩ := hv
  replace hw := hw.unpack 0 rfl
  refine pures hs 1 [6] [(6, .int .i64 y62)] (by kernel_rfl) fun a hs => ?_
  refine s_end ?_
  refine wp_ret ?_
  obtain rfl := someE hk
  refine hQ _ _ (f_ret1 hs rfl (v := .int .i64 y62) (by kernel_rfl) ⟨ih57, rfl, hw.pick [0, 1, 2, 3, 4, 5] (by kernel_rfl), hle58⟩)
def catenarylaw25_awake_r3 (x288 : Bool) : Option Bool :=
  some x288
def catenarylaw25_awake_r4 (x358 : Bool) : Option Bool :=
  some x358
def catenarylaw25_awake (k : Nat) : Option Bool :=
  (catenaryref09_Begin k 2 3).bind fun y200 =>
  (atlas_New k y200.1).bind fun 
    | .inl y261 =>
      (if (y261 == 0) = true then (
          (atlas_Chain 1 2).bind fun y293 =>
          if (y293 == 1) = true then (
            (atlas_Atlas_Head k 1).bind fun y296 =>
            if (y296 == 4) = true then (
              (atlas_Atlas_Reader k 1 4).bind fun y299 =>
              if (y299 == 5) = true then (
                (atlas_Atlas_Chains).bind fun y302 =>
                some (y302 == 2))
              else some false)
            else some false)
          else some false)
        else some false : Option Bool).bind fun s304 => catenarylaw25_awake_r3 s304
    | .inr y305 =>
      (if (y305.2.2.2.2.2.2.2 == 0) = true then (
          (atlas_Chain 1 2).bind fun y363 =>
          if (y363 == 1) = true then (
            (atlas_Atlas_Head_2 k y305.1 y305.2.1 y305.2.2.1 y305.2.2.2.1 y305.2.2.2.2.1 y305.2.2.2.2.2.1 y305.2.2.2.2.2.2.1 1).bind fun y366 =>
            if (y366 == 4) = true then (
              (atlas_Atlas_Reader_2 k y305.1 y305.2.1 y305.2.2.1 y305.2.2.2.1 y305.2.2.2.2.1 y305.2.2.2.2.2.1 y305.2.2.2.2.2.2.1 1 4).bind fun y371 =>
              if (y371 == 5) = true then (
                (atlas_Atlas_Chains_2 y305.1 y305.2.1 y305.2.2.1 y305.2.2.2.1 y305.2.2.2.2.1 y305.2.2.2.2.2.1 y305.2.2.2.2.2.2.1).bind fun y376 =>
                some (y376 == 2))
              else some false)
            else some false)
          else some false)
        else some false : Option Bool).bind fun s378 => catenarylaw25_awake_r4 s378
theorem catenarylaw25_awake_s {k : Nat} {r : Bool} (hk : catenarylaw25_awake k = some r) {g w : World} {F : Ch} {ih : IH} (hw : St g w [F] ih) :
    CallsR Try.prog 49 #[] w fun v w' => ∃ (ih' : IH), v = .bool r ∧ St g w' [F] ih' ∧ Le ih ih' := by
  refine f_in (vs := []) Try.func49 rfl 35 rfl (by kernel_rfl) [] (by kernel_rfl) fun a Qf hQ hQn hs => ?_
  refine c_seq ?_
  refine c_region ?_
  refine pures hs 1 [] [] (by kernel_rfl) fun a hs => ?_
  refine s_end ?_
  refine c_seq ?_
  refine c_region ?_
  obtain ⟨y200, h201, hk⟩ := bindE hk
  refine s_call hs (by kernel_rfl) (by kernel_rfl) (catenaryref09_Begin_s h201 ((hw.pick [0] (by kernel_rfl)).pack 0)) fun a w v hv hs => ?_
  obtain ⟨ih202, p204, c205, d207, rfl, hw, hle203, h206⟩ := hv
  replace hw := hw.unpack 1 rfl
  refine pures hs 5 [1] [(1, .slice p204 y200.1.length c205)] (by kernel_rfl) fun a hs => ?_
  refine s_end ?_
  refine c_seq ?_
  refine c_region ?_
  refine pures hs 1 [10] [(10, .slice p204 y200.1.length c205)] (by kernel_rfl) fun a hs => ?_
  obtain ⟨y259, h260, hk⟩ := bindE hk
  refine s_call hs (by kernel_rfl) (by kernel_rfl) (atlas_New_s h260 h206.read (memF 0 rfl) ((hw.pick [0, 1] (by kernel_rfl)).pack 0)) fun a w v hv hs => ?_
  rcases hv with ⟨y261, rfl, ⟨ih262, rfl, hw, hle263⟩⟩ | ⟨y305, rfl, ⟨ih306, b308, p310, c311, d313, b315, b317, p319, c320, d322, rfl, hw, hle307, h312, h321⟩⟩
  · dsimp only at hk
    replace hw := hw.unpack 0 rfl
    refine pures hs 5 [3, 4] [(3, .pointer none), (4, .int .i64 y261)] (by kernel_rfl) fun a hs => ?_
    refine s_end ?_
    refine c_seq ?_
    obtain ⟨y289, hx290, hk⟩ := bindE hk
    obtain ⟨J291, hJ291⟩ : ∃ J : Act → World → Prop, ∀ a w, J a w ↔ (∃ (x288 : Bool), catenarylaw25_awake_r3 x288 = some r ∧ Sees a 35 [(0, .bool x288)] ∧ St g w [F] ih262) := ⟨_, fun _ _ => Iff.rfl⟩
    refine c_regJ J291 ?_ ?_
    · refine pures hs 3 [3, 16] [(3, .pointer none), (16, .bool (y261 == 0))] (by kernel_rfl) fun a hs => ?_
      rcases ifbE hx290 with ⟨h292, hx290⟩ | ⟨h292, hx290⟩
      · replace hs := hs.altB 16 true (by kernel_rfl) h292
        obtain ⟨y293, h294, hx290⟩ := bindE hx290
        refine s_call hs (by kernel_rfl) (by kernel_rfl) (atlas_Chain_s h294 ((hw.pick [1] (by kernel_rfl)).pack 0)) fun a w v hv hs => ?_
        obtain ⟨rfl, hw⟩ := hv
        replace hw := hw.unpack 0 rfl
        refine pures hs 3 [3, 20] [(3, .pointer none), (20, .bool (y293 == 1))] (by kernel_rfl) fun a hs => ?_
        rcases ifbE hx290 with ⟨h295, hx290⟩ | ⟨h295, hx290⟩
        · replace hs := hs.altB 20 true (by kernel_rfl) h295
          refine pures hs 1 [3, 20, 21] [(3, .pointer none), (20, .bool true), (21, .pointer none)] (by kernel_rfl) fun a hs => ?_
          obtain ⟨y296, h297, hx290⟩ := bindE hx290
          refine s_call hs (by kernel_rfl) (by kernel_rfl) (atlas_Atlas_Head_s h297 ((hw.pick [0] (by kernel_rfl)).pack 0)) fun a w v hv hs => ?_
          obtain ⟨rfl, hw⟩ := hv
          replace hw := hw.unpack 0 rfl
          refine pures hs 3 [3, 25] [(3, .pointer none), (25, .bool (y296 == 4))] (by kernel_rfl) fun a hs => ?_
          rcases ifbE hx290 with ⟨h298, hx290⟩ | ⟨h298, hx290⟩
          · replace hs := hs.altB 25 true (by kernel_rfl) h298
            refine pures hs 1 [3, 25, 26] [(3, .pointer none), (25, .bool true), (26, .pointer none)] (by kernel_rfl) fun a hs => ?_
            obtain ⟨y299, h300, hx290⟩ := bindE hx290
            refine s_call hs (by kernel_rfl) (by kernel_rfl) (atlas_Atlas_Reader_s h300 ((hw.pick [0] (by kernel_rfl)).pack 0)) fun a w v hv hs => ?_
            obtain ⟨rfl, hw⟩ := hv
            replace hw := hw.unpack 0 rfl
            refine pures hs 3 [3, 30] [(3, .pointer none), (30, .bool (y299 == 5))] (by kernel_rfl) fun a hs => ?_
            rcases ifbE hx290 with ⟨h301, hx290⟩ | ⟨h301, hx290⟩
            · replace hs := hs.altB 30 true (by kernel_rfl) h301
              refine pures hs 1 [30, 31] [(30, .bool true), (31, .pointer none)] (by kernel_rfl) fun a hs => ?_
              obtain ⟨y302, h303, hx290⟩ := bindE hx290
              refine s_call hs (by kernel_rfl) (by kernel_rfl) (atlas_Atlas_Chains_s h303 ((hw.pick [0] (by kernel_rfl)).pack 0)) fun a w v hv hs => ?_
              obtain ⟨rfl, hw⟩ := hv
              replace hw := hw.unpack 0 rfl
              refine pures hs 3 [0] [(0, .bool (y302 == 2))] (by kernel_rfl) fun a hs => ?_
              refine s_end ?_
              obtain rfl := someE hx290
              exact (hJ291 _ _).2 ⟨(y302 == 2), hk, hs.cast [0] (by kernel_rfl), hw.pick [0] (by kernel_rfl)⟩
            · replace hs := hs.altB 30 false (by kernel_rfl) h301
              refine pures hs 5 [0] [(0, .bool false)] (by kernel_rfl) fun a hs => ?_
              refine s_end ?_
              obtain rfl := someE hx290
              exact (hJ291 _ _).2 ⟨false, hk, hs.cast [0] (by kernel_rfl), hw.pick [0] (by kernel_rfl)⟩
          · replace hs := hs.altB 25 false (by kernel_rfl) h298
            refine pures hs 10 [0] [(0, .bool false)] (by kernel_rfl) fun a hs => ?_
            refine s_end ?_
            obtain rfl := someE hx290
            exact (hJ291 _ _).2 ⟨false, hk, hs.cast [0] (by kernel_rfl), hw.pick [0] (by kernel_rfl)⟩
        · replace hs := hs.altB 20 false (by kernel_rfl) h295
          refine pures hs 15 [0] [(0, .bool false)] (by kernel_rfl) fun a hs => ?_
          refine s_end ?_
          obtain rfl := someE hx290
          exact (hJ291 _ _).2 ⟨false, hk, hs.cast [0] (by kernel_rfl), hw.pick [0] (by kernel_rfl)⟩
      · replace hs := hs.altB 16 false (by kernel_rfl) h292
        refine pures hs 19 [0] [(0, .bool false)] (by kernel_rfl) fun a hs => ?_
        refine s_end ?_
        obtain rfl := someE hx290
        exact (hJ291 _ _).2 ⟨false, hk, hs.cast [0] (by kernel_rfl), hw.pick [1] (by kernel_rfl)⟩
    · intro a w hh
      obtain ⟨x288, hk, hs, hw⟩ := (hJ291 _ _).1 hh
      refine wp_ret ?_
      obtain rfl := someE hk
      refine hQ _ _ (f_ret1 hs rfl (v := .bool x288) (by kernel_rfl) ⟨ih262, rfl, hw.pick [0] (by kernel_rfl), (hle203.trans hle263)⟩)
  · dsimp only at hk
    replace hw := hw.unpack 5 rfl
    refine pures hs 5 [3, 4] [(3, .pointer (some ⟨b308, 0, none⟩)), (4, .int .i64 y305.2.2.2.2.2.2.2)] (by kernel_rfl) fun a hs => ?_
    refine s_end ?_
    refine c_seq ?_
    obtain ⟨y359, hx360, hk⟩ := bindE hk
    obtain ⟨J361, hJ361⟩ : ∃ J : Act → World → Prop, ∀ a w, J a w ↔ (∃ (x358 : Bool) (ih356 : IH), catenarylaw25_awake_r4 x358 = some r ∧ Sees a 35 [(0, .bool x358)] ∧ St g w [F] ih356 ∧ Le ih306 ih356) := ⟨_, fun _ _ => Iff.rfl⟩
    refine c_regJ J361 ?_ ?_
    · refine pures hs 3 [3, 16] [(3, .pointer (some ⟨b308, 0, none⟩)), (16, .bool (y305.2.2.2.2.2.2.2 == 0))] (by kernel_rfl) fun a hs => ?_
      rcases ifbE hx360 with ⟨h362, hx360⟩ | ⟨h362, hx360⟩
      · replace hs := hs.altB 16 true (by kernel_rfl) h362
        obtain ⟨y363, h364, hx360⟩ := bindE hx360
        refine s_call hs (by kernel_rfl) (by kernel_rfl) (atlas_Chain_s h364 ((hw.pick [0, 1, 2, 3, 4, 6] (by kernel_rfl)).pack 0)) fun a w v hv hs => ?_
        obtain ⟨rfl, hw⟩ := hv
        replace hw := hw.unpack 0 rfl
        refine pures hs 3 [3, 20] [(3, .pointer (some ⟨b308, 0, none⟩)), (20, .bool (y363 == 1))] (by kernel_rfl) fun a hs => ?_
        rcases ifbE hx360 with ⟨h365, hx360⟩ | ⟨h365, hx360⟩
        · replace hs := hs.altB 20 true (by kernel_rfl) h365
          refine pures hs 1 [3, 20, 21] [(3, .pointer (some ⟨b308, 0, none⟩)), (20, .bool true), (21, .pointer (some ⟨b308, 0, none⟩))] (by kernel_rfl) fun a hs => ?_
          obtain ⟨y366, h367, hx360⟩ := bindE hx360
          refine s_call hs (by kernel_rfl) (by kernel_rfl) (atlas_Atlas_Head_2_s h367 h312 h321 ((hw.pick [0, 1, 2, 3, 4, 5] (by kernel_rfl)).pack 5)) fun a w v hv hs => ?_
          obtain ⟨ih368, rfl, hw, hle369⟩ := hv
          replace hw := hw.unpack 5 rfl
          refine pures hs 3 [3, 25] [(3, .pointer (some ⟨b308, 0, none⟩)), (25, .bool (y366 == 4))] (by kernel_rfl) fun a hs => ?_
          rcases ifbE hx360 with ⟨h370, hx360⟩ | ⟨h370, hx360⟩
          · replace hs := hs.altB 25 true (by kernel_rfl) h370
            refine pures hs 1 [3, 25, 26] [(3, .pointer (some ⟨b308, 0, none⟩)), (25, .bool true), (26, .pointer (some ⟨b308, 0, none⟩))] (by kernel_rfl) fun a hs => ?_
            obtain ⟨y371, h372, hx360⟩ := bindE hx360
            refine s_call hs (by kernel_rfl) (by kernel_rfl) (atlas_Atlas_Reader_2_s h372 (h312.mono hle369) (h321.mono hle369) ((hw.pick [0, 1, 2, 3, 4, 5] (by kernel_rfl)).pack 5)) fun a w v hv hs => ?_
            obtain ⟨ih373, rfl, hw, hle374⟩ := hv
            replace hw := hw.unpack 5 rfl
            refine pures hs 3 [3, 30] [(3, .pointer (some ⟨b308, 0, none⟩)), (30, .bool (y371 == 5))] (by kernel_rfl) fun a hs => ?_
            rcases ifbE hx360 with ⟨h375, hx360⟩ | ⟨h375, hx360⟩
            · replace hs := hs.altB 30 true (by kernel_rfl) h375
              refine pures hs 1 [30, 31] [(30, .bool true), (31, .pointer (some ⟨b308, 0, none⟩))] (by kernel_rfl) fun a hs => ?_
              obtain ⟨y376, h377, hx360⟩ := bindE hx360
              refine s_call hs (by kernel_rfl) (by kernel_rfl) (atlas_Atlas_Chains_2_s h377 (h312.mono (hle369.trans hle374)) (h321.mono (hle369.trans hle374)) ((hw.pick [0, 1, 2, 3, 4, 5] (by kernel_rfl)).pack 5)) fun a w v hv hs => ?_
              obtain ⟨rfl, hw⟩ := hv
              replace hw := hw.unpack 5 rfl
              refine pures hs 3 [0] [(0, .bool (y376 == 2))] (by kernel_rfl) fun a hs => ?_
              refine s_end ?_
              obtain rfl := someE hx360
              exact (hJ361 _ _).2 ⟨(y376 == 2), ih373, hk, hs.cast [0] (by kernel_rfl), hw.pick [5] (by kernel_rfl), (hle369.trans hle374)⟩
            · replace hs := hs.altB 30 false (by kernel_rfl) h375
              refine pures hs 5 [0] [(0, .bool false)] (by kernel_rfl) fun a hs => ?_
              refine s_end ?_
              obtain rfl := someE hx360
              exact (hJ361 _ _).2 ⟨false, ih373, hk, hs.cast [0] (by kernel_rfl), hw.pick [5] (by kernel_rfl), (hle369.trans hle374)⟩
          · replace hs := hs.altB 25 false (by kernel_rfl) h370
            refine pures hs 10 [0] [(0, .bool false)] (by kernel_rfl) fun a hs => ?_
            refine s_end ?_
            obtain rfl := someE hx360
            exact (hJ361 _ _).2 ⟨false, ih368, hk, hs.cast [0] (by kernel_rfl), hw.pick [5] (by kernel_rfl), hle369⟩
        · replace hs := hs.altB 20 false (by kernel_rfl) h365
          refine pures hs 15 [0] [(0, .bool false)] (by kernel_rfl) fun a hs => ?_
          refine s_end ?_
          obtain rfl := someE hx360
          exact (hJ361 _ _).2 ⟨false, ih306, hk, hs.cast [0] (by kernel_rfl), hw.pick [5] (by kernel_rfl), (Le.refl _)⟩
      · replace hs := hs.altB 16 false (by kernel_rfl) h362
        refine pures hs 19 [0] [(0, .bool false)] (by kernel_rfl) fun a hs => ?_
        refine s_end ?_
        obtain rfl := someE hx360
        exact (hJ361 _ _).2 ⟨false, ih306, hk, hs.cast [0] (by kernel_rfl), hw.pick [6] (by kernel_rfl), (Le.refl _)⟩
    · intro a w hh
      obtain ⟨x358, ih356, hk, hs, hw, hle357⟩ := (hJ361 _ _).1 hh
      refine wp_ret ?_
      obtain rfl := someE hk
      refine hQ _ _ (f_ret1 hs rfl (v := .bool x358) (by kernel_rfl) ⟨ih356, rfl, hw.pick [0] (by kernel_rfl), ((hle203.trans hle307).trans hle357)⟩)
def catenaryref09_Stands_r2 (x108 : List Int) : Option (List Int) :=
  some x108
def catenaryref09_Stands (x1 : M53) : Option (List Int) :=
  (app ([]) x1.f2).bind fun x85 =>
  (if (x1.f4 != 0) = true then (
      (app x85 [x1.f4]).bind fun x128 =>
      some x128)
    else some x85 : Option (List Int)).bind fun s134 => catenaryref09_Stands_r2 s134
theorem catenaryref09_Stands_s {x1 : M53} {p2 : Option Addr} {c3 : Nat} {r : (List Int)} (hk : catenaryref09_Stands x1 = some r) {g w : World} {F : Ch} {ih : IH} (h4 : RSl e3 ih [] p2 c3 x1.f2) (hw : St g w [F] ih) :
    CallsR Try.prog 79 #[.agg #[.int .i64 x1.f0, .int .u64 x1.f1, .slice p2 x1.f2.length c3, .bool x1.f3, .int .i64 x1.f4]] w fun v w' => ∃ (p135 : Option Addr) (c136 : Nat) (d137 : Ch), v = .slice p135 r.length c136 ∧ St g w' [d137, F] ih ∧ OSl e3 ih p135 c136 r d137 := by
  refine f_in (vs := [.agg #[.int .i64 x1.f0, .int .u64 x1.f1, .slice p2 x1.f2.length c3, .bool x1.f3, .int .i64 x1.f4]]) Try.func79 rfl 16 rfl (by kernel_rfl) [(0, .agg #[.int .i64 x1.f0, .int .u64 x1.f1, .slice p2 x1.f2.length c3, .bool x1.f3, .int .i64 x1.f4])] (by kernel_rfl) fun a Qf hQ hQn hs => ?_
  refine c_seq ?_
  refine c_region ?_
  refine s_new hs hw [.int .i64 x1.f0, .int .u64 x1.f1, .slice p2 x1.f2.length c3, .bool x1.f3, .int .i64 x1.f4] 53 (fun b => .pointer (some ⟨b, 0, none⟩)) (by kernel_rfl) (fun _ => by kernel_rfl) fun a w b73 hs hw => ?_
  refine pures hs 1 [1] [(1, .pointer (some ⟨b73, 0, none⟩))] (by kernel_rfl) fun a hs => ?_
  refine s_end ?_
  refine c_seq ?_
  refine c_region ?_
  refine pures hs 1 [1, 4] [(1, .pointer (some ⟨b73, 0, none⟩)), (4, .pointer (some ⟨b73, 2, none⟩))] (by kernel_rfl) fun a hs => ?_
  refine s_load hs (hw.at_ 0 rfl) 2 (by kernel_rfl) (by kernel_rfl) (v := .slice p2 x1.f2.length c3) (by kernel_rfl) fun a hs => ?_
  replace hw := hw.nil
  obtain ⟨x85, h86, hk⟩ := bindE hk
  refine s_appS hs hw (E := e3) appT40 0 rfl (OSl.nil _ _) (by kernel_rfl) (by kernel_rfl) (h4.mono (Le.refl _)) (hw.vwAll.nil.anti (Le.refl _)) (by kernel_rfl) h86 fun a w p87 c88 d89 h90 hw hs => ?_
  refine pures hs 1 [1, 3] [(1, .pointer (some ⟨b73, 0, none⟩)), (3, .slice p87 x85.length c88)] (by kernel_rfl) fun a hs => ?_
  refine s_end ?_
  obtain ⟨y114, hx115, hk⟩ := bindE hk
  obtain ⟨J116, hJ116⟩ : ∃ J : Act → World → Prop, ∀ a w, J a w ↔ (∃ (x108 : List Int) (p109 : Option Addr) (c110 : Nat) (d112 : Ch), catenaryref09_Stands_r2 x108 = some r ∧ Sees a 16 [(3, .slice p109 x108.length c110)] ∧ St g w [d112, F] ih ∧ OSl e3 ih p109 c110 x108 d112) := ⟨_, fun _ _ => Iff.rfl⟩
  refine c_seqJ J116 ?_ ?_
  · refine c_seq ?_
    refine c_region ?_
    refine pures hs 1 [1, 3, 7] [(1, .pointer (some ⟨b73, 0, none⟩)), (3, .slice p87 x85.length c88), (7, .pointer (some ⟨b73, 4, none⟩))] (by kernel_rfl) fun a hs => ?_
    refine s_load hs (hw.at_ 1 rfl) 4 (by kernel_rfl) (by kernel_rfl) (v := .int .i64 x1.f4) (by kernel_rfl) fun a hs => ?_
    refine pures hs 1 [1, 3, 9] [(1, .pointer (some ⟨b73, 0, none⟩)), (3, .slice p87 x85.length c88), (9, .bool (x1.f4 != 0))] (by kernel_rfl) fun a hs => ?_
    refine s_end ?_
    rcases ifbE hx115 with ⟨h117, hx115⟩ | ⟨h117, hx115⟩
    · refine c_cond1 hs (by kernel_rfl) (t := (x1.f4 != 0)) (by kernel_rfl) h117 ?_
      refine c_region ?_
      refine pures hs 2 [10, 11] [(10, .slice p87 x85.length c88), (11, .pointer (some ⟨b73, 4, none⟩))] (by kernel_rfl) fun a hs => ?_
      refine s_load hs (hw.at_ 1 rfl) 4 (by kernel_rfl) (by kernel_rfl) (v := .int .i64 x1.f4) (by kernel_rfl) fun a hs => ?_
      refine s_new hs hw [.int .i64 x1.f4] 3 (fun b => .slice (some ⟨b, 0, none⟩) 1 1) (by kernel_rfl) (fun _ => by kernel_rfl) fun a w b126 hs hw => ?_
      obtain ⟨x128, h129, hx115⟩ := bindE hx115
      refine s_app1 hs hw (E := e3) appT40 1 rfl h90 (by kernel_rfl) (by kernel_rfl) (c2 := 1) (by kernel_rfl) (hw.at_ 0 rfl) (z := x1.f4) rfl h129 fun a w p130 c131 d132 h133 hw hs => ?_
      refine pures hs 1 [3] [(3, .slice p130 x128.length c131)] (by kernel_rfl) fun a hs => ?_
      refine s_end ?_
      obtain rfl := someE hx115
      exact (hJ116 _ _).2 ⟨x128, p130, c131, d132, hk, hs.cast [3] (by kernel_rfl), hw.pick [1, 3] (by kernel_rfl), h133⟩
    · refine c_cond0 hs (by kernel_rfl) (t := (x1.f4 != 0)) (by kernel_rfl) h117 ?_
      refine wp_skip ?_
      obtain rfl := someE hx115
      exact (hJ116 _ _).2 ⟨x85, p87, c88, d89, hk, hs.cast [3] (by kernel_rfl), hw.pick [0, 2] (by kernel_rfl), h90⟩
  · intro a w hh
    obtain ⟨x108, p109, c110, d112, hk, hs, hw, h111⟩ := (hJ116 _ _).1 hh
    refine c_seq ?_
    refine c_region ?_
    refine pures hs 2 [2] [(2, .slice p109 x108.length c110)] (by kernel_rfl) fun a hs => ?_
    refine s_end ?_
    refine wp_ret ?_
    obtain rfl := someE hk
    refine hQ _ _ (f_ret1 hs rfl (v := .slice p109 x108.length c110) (by kernel_rfl) ⟨p109, c110, d112, rfl, hw.pick [0, 1] (by kernel_rfl), h111⟩)
def catenaryref04_Has_r3 : Option Bool :=
  some false
def catenaryref04_Has_l4 (x1 : List Int) (x7 : Int) : Nat → Int → Option (Sum Bool Unit)
  | 0, _ => none
  | j + 1, x78 =>
    if (decide (x78 < (x1.length : Int))) = true then (
      (ix x1 x78).bind fun x98 =>
      if (x98 == x7) = true then some (.inl true)
      else catenaryref04_Has_l4 x1 x7 j (IntKind.i64.wrap (x78 + 1)))
    else some (.inr ())
def catenaryref04_Has (k : Nat) (x1 : List Int) (x7 : Int) : Option Bool :=
  (catenaryref04_Has_l4 x1 x7 k 0 : Option (Sum Bool Unit)).bind fun
    | .inl z => some z
    | .inr _ => catenaryref04_Has_r3
theorem catenaryref04_Has_s {k : Nat} {x1 : List Int} {x7 : Int} {p2 : Option Addr} {c3 : Nat} {d5 : Ch} {r : Bool} (hk : catenaryref04_Has k x1 x7 = some r) {g w : World} {F : Ch} {ih : IH} (h4 : RSl e3 ih d5 p2 c3 x1) (h6 : ∀ q ∈ d5, q ∈ F) (hw : St g w [F] ih) :
    CallsR Try.prog 83 #[.slice p2 x1.length c3, .int .i64 x7] w fun v w' => v = .bool r ∧ St g w' [F] ih := by
  refine f_in (vs := [.slice p2 x1.length c3, .int .i64 x7]) Try.func83 rfl 18 rfl (by kernel_rfl) [(0, .slice p2 x1.length c3), (1, .int .i64 x7)] (by kernel_rfl) fun a Qf hQ hQn hs => ?_
  refine c_seq ?_
  refine c_region ?_
  refine pures hs 1 [0, 1] [(0, .slice p2 x1.length c3), (1, .int .i64 x7)] (by kernel_rfl) fun a hs => ?_
  refine s_end ?_
  refine c_seq ?_
  refine c_seq ?_
  refine c_region ?_
  refine pures hs 1 [0, 1, 5] [(0, .slice p2 x1.length c3), (1, .int .i64 x7), (5, .int .i64 0)] (by kernel_rfl) fun a hs => ?_
  refine s_end ?_
  refine c_block ?_
  obtain ⟨y89, hx90, hk⟩ := bindE hk
  obtain ⟨J91, hJ91⟩ : ∃ J : Act → World → Prop, ∀ a w, J a w ↔ (catenaryref04_Has_r3 = some r ∧ Sees a 18 [] ∧ St g w [F] ih) := ⟨_, fun _ _ => Iff.rfl⟩
  obtain ⟨I92, hI92⟩ : ∃ J : Nat → Act → World → Prop, ∀ j a w, J j a w ↔ (∃ (x78 : Int), catenaryref04_Has_l4 x1 x7 j x78 = some y89 ∧ Sees a 18 [(0, .slice p2 x1.length c3), (1, .int .i64 x7), (5, .int .i64 x78)] ∧ St g w [F] ih) := ⟨_, fun _ _ _ => Iff.rfl⟩
  refine c_exitJ 0 J91 ?_ ?_
  · refine c_loop I92 k ((hI92 _ _ _).2 ⟨0, hx90, hs.cast [0, 1, 5] (by kernel_rfl), hw.pick [0] (by kernel_rfl)⟩) (fun a w h0 => ?_) fun j a w hh => ?_
    · obtain ⟨_, h, _⟩ := (hI92 _ _ _).1 h0
      cases h
    · obtain ⟨x78, hx90, hs, hw⟩ := (hI92 _ _ _).1 hh
      refine c_seq ?_
      refine c_seq ?_
      refine c_region ?_
      refine pures hs 4 [0, 1, 5, 9] [(0, .slice p2 x1.length c3), (1, .int .i64 x7), (5, .int .i64 x78), (9, .bool (decide (x78 < (x1.length : Int))))] (by kernel_rfl) fun a hs => ?_
      refine s_end ?_
      rcases ifbE hx90 with ⟨h93, hx90⟩ | ⟨h93, hx90⟩
      · refine c_cond1 hs (by kernel_rfl) (t := (decide (x78 < (x1.length : Int)))) (by kernel_rfl) h93 ?_
        refine wp_skip ?_
        refine c_seq ?_
        refine c_block ?_
        refine c_seq ?_
        refine c_region ?_
        refine pures hs 2 [0, 1, 5, 12, 13] [(0, .slice p2 x1.length c3), (1, .int .i64 x7), (5, .int .i64 x78), (12, .slice p2 x1.length c3), (13, .int .i64 x78)] (by kernel_rfl) fun a hs => ?_
        obtain ⟨x98, h99, hx90⟩ := bindE hx90
        refine s_index hs h4 (by kernel_rfl) (by kernel_rfl) (k := .i64) (by kernel_rfl) 3 (by kernel_rfl) (by kernel_rfl) h99 fun a r100 cs henc at101 hs => ?_
        obtain rfl := henc
        refine s_load hs (at101 _ (((hw.vw 0 rfl).sub h6).anti (Le.refl _))) 0 (by kernel_rfl) (by kernel_rfl) (v := .int .i64 x98) (by kernel_rfl) fun a hs => ?_
        refine pures hs 2 [0, 1, 5, 17] [(0, .slice p2 x1.length c3), (1, .int .i64 x7), (5, .int .i64 x78), (17, .bool (x98 == x7))] (by kernel_rfl) fun a hs => ?_
        refine s_end ?_
        rcases ifbE hx90 with ⟨h102, hx90⟩ | ⟨h102, hx90⟩
        · refine c_cond1 hs (by kernel_rfl) (t := (x98 == x7)) (by kernel_rfl) h102 ?_
          refine c_seq ?_
          refine c_region ?_
          refine pures hs 1 [4] [(4, .bool true)] (by kernel_rfl) fun a hs => ?_
          refine s_end ?_
          refine wp_ret ?_
          obtain rfl := someE hx90
          obtain rfl := someE hk
          refine hQ _ _ (f_ret1 hs rfl (v := .bool true) (by kernel_rfl) ⟨rfl, hw.pick [0] (by kernel_rfl)⟩)
        · refine c_cond0 hs (by kernel_rfl) (t := (x98 == x7)) (by kernel_rfl) h102 ?_
          refine wp_skip ?_
          refine c_region ?_
          refine pures hs 3 [0, 1, 5] [(0, .slice p2 x1.length c3), (1, .int .i64 x7), (5, .int .i64 (IntKind.i64.wrap (x78 + 1)))] (by kernel_rfl) fun a hs => ?_
          refine s_end ?_
          exact (hI92 _ _ _).2 ⟨(IntKind.i64.wrap (x78 + 1)), hx90, hs.cast [0, 1, 5] (by kernel_rfl), hw.pick [0] (by kernel_rfl)⟩
      · refine c_cond0 hs (by kernel_rfl) (t := (decide (x78 < (x1.length : Int)))) (by kernel_rfl) h93 ?_
        refine wp_exit ?_
        obtain rfl := someE hx90
        exact (hJ91 _ _).2 ⟨hk, hs.cast [] (by kernel_rfl), hw.pick [0] (by kernel_rfl)⟩
  · intro a w hh
    obtain ⟨hk, hs, hw⟩ := (hJ91 _ _).1 hh
    refine c_seq ?_
    refine c_region ?_
    refine pures hs 1 [4] [(4, .bool false)] (by kernel_rfl) fun a hs => ?_
    refine s_end ?_
    refine wp_ret ?_
    obtain rfl := someE hk
    refine hQ _ _ (f_ret1 hs rfl (v := .bool false) (by kernel_rfl) ⟨rfl, hw.pick [0] (by kernel_rfl)⟩)
def catenaryref09_Unlike_r10 : Option Bool :=
  some true
def catenaryref09_Unlike_r12 (rec_catenaryref09_Unlike_l11 : Int → Option (Sum Bool Unit)) (x443 : Int) (x563 : Bool) : Option (Sum Bool Unit) :=
  if x563 = true then some (.inl false)
  else rec_catenaryref09_Unlike_l11 (IntKind.i64.wrap (x443 + 1))
def catenaryref09_Unlike_l11 (k : Nat) (x1 : List Int) : Nat → Int → Option (Sum Bool Unit)
  | 0, _ => none
  | j + 1, x443 =>
    if (decide (x443 < (x1.length : Int))) = true then (
      ((ix x1 x443).bind fun x568 =>
        if (decide (x568 < 1)) = true then some true
        else (ix x1 x443).bind fun x573 =>
        if (decide (x573 > 24)) = true then some true
        else (sl x1 0 x443).bind fun x578 =>
        (ix x1 x443).bind fun x583 =>
        (catenaryref04_Has k x578 x583).bind fun y587 =>
        some y587 : Option Bool).bind fun s589 => catenaryref09_Unlike_r12 (catenaryref09_Unlike_l11 k x1 j) x443 s589)
    else some (.inr ())
def catenaryref09_Unlike (k : Nat) (x1 : List Int) : Option Bool :=
  (catenaryref09_Unlike_l11 k x1 k 0 : Option (Sum Bool Unit)).bind fun
    | .inl z => some z
    | .inr _ => catenaryref09_Unlike_r10
theorem catenaryref09_Unlike_s {k : Nat} {x1 : List Int} {p2 : Option Addr} {c3 : Nat} {d5 : Ch} {r : Bool} (hk : catenaryref09_Unlike k x1 = some r) {g w : World} {F : Ch} {ih : IH} (h4 : RSl e3 ih d5 p2 c3 x1) (h6 : ∀ q ∈ d5, q ∈ F) (hw : St g w [F] ih) :
    CallsR Try.prog 78 #[.slice p2 x1.length c3] w fun v w' => v = .bool r ∧ St g w' [F] ih := by
  refine f_in (vs := [.slice p2 x1.length c3]) Try.func78 rfl 32 rfl (by kernel_rfl) [(0, .slice p2 x1.length c3)] (by kernel_rfl) fun a Qf hQ hQn hs => ?_
  refine c_seq ?_
  refine c_region ?_
  refine pures hs 1 [0] [(0, .slice p2 x1.length c3)] (by kernel_rfl) fun a hs => ?_
  refine s_end ?_
  refine c_seq ?_
  refine c_seq ?_
  refine c_region ?_
  refine pures hs 1 [0, 3] [(0, .slice p2 x1.length c3), (3, .int .i64 0)] (by kernel_rfl) fun a hs => ?_
  refine s_end ?_
  refine c_block ?_
  obtain ⟨y515, hx516, hk⟩ := bindE hk
  obtain ⟨J517, hJ517⟩ : ∃ J : Act → World → Prop, ∀ a w, J a w ↔ (catenaryref09_Unlike_r10 = some r ∧ Sees a 32 [] ∧ St g w [F] ih) := ⟨_, fun _ _ => Iff.rfl⟩
  obtain ⟨I518, hI518⟩ : ∃ J : Nat → Act → World → Prop, ∀ j a w, J j a w ↔ (∃ (x443 : Int), catenaryref09_Unlike_l11 k x1 j x443 = some y515 ∧ Sees a 32 [(0, .slice p2 x1.length c3), (3, .int .i64 x443)] ∧ St g w [F] ih) := ⟨_, fun _ _ _ => Iff.rfl⟩
  refine c_exitJ 0 J517 ?_ ?_
  · refine c_loop I518 k ((hI518 _ _ _).2 ⟨0, hx516, hs.cast [0, 3] (by kernel_rfl), hw.pick [0] (by kernel_rfl)⟩) (fun a w h0 => ?_) fun j a w hh => ?_
    · obtain ⟨_, h, _⟩ := (hI518 _ _ _).1 h0
      cases h
    · obtain ⟨x443, hx516, hs, hw⟩ := (hI518 _ _ _).1 hh
      refine c_seq ?_
      refine c_seq ?_
      refine c_region ?_
      refine pures hs 4 [0, 3, 7] [(0, .slice p2 x1.length c3), (3, .int .i64 x443), (7, .bool (decide (x443 < (x1.length : Int))))] (by kernel_rfl) fun a hs => ?_
      refine s_end ?_
      rcases ifbE hx516 with ⟨h519, hx516⟩ | ⟨h519, hx516⟩
      · refine c_cond1 hs (by kernel_rfl) (t := (decide (x443 < (x1.length : Int)))) (by kernel_rfl) h519 ?_
        refine wp_skip ?_
        refine c_seq ?_
        refine c_block ?_
        refine c_seq ?_
        obtain ⟨S520, hS520, kS520⟩ := mkSX (X := [([], F)]) (ih := ih) (K := []) rfl
        obtain ⟨y565, hx566, hx516⟩ := bindE hx516
        obtain ⟨J567, hJ567⟩ : ∃ J : Act → World → Prop, ∀ a w, J a w ↔ (∃ (x563 : Bool), catenaryref09_Unlike_r12 (catenaryref09_Unlike_l11 k x1 j) x443 x563 = some y515 ∧ Sees a 32 [(0, .slice p2 x1.length c3), (3, .int .i64 x443), (31, .bool x563)] ∧ St g w [F] ih) := ⟨_, fun _ _ => Iff.rfl⟩
        refine c_draw (by kernel_rfl) (N := 22) rfl S520 J567 ?_ ?_
        · have hw := hw.drew
          have hS : S520 (Array.replicate 22 false) _ := SX_now hS520 (hw.vws [0]) (by kernel_rfl)
          refine d_pures (fuel := 20) kS520 hs hS [0, 1] [0, 3, 10, 11] [(0, .slice p2 x1.length c3), (3, .int .i64 x443), (10, .slice p2 x1.length c3), (11, .int .i64 x443)] (by kernel_rfl) fun a hs hS => ?_
          obtain ⟨x568, h569, hx566⟩ := bindE hx566
          refine d_index (fuel := 19) kS520 hs hS 2 rfl (by kernel_rfl) h4 (by kernel_rfl) (by kernel_rfl) (k := .i64) (by kernel_rfl) 3 (by kernel_rfl) (by kernel_rfl) h569 fun a r570 cs henc at571 hs hS => ?_
          obtain rfl := henc
          refine d_load (fuel := 18) kS520 hs hS 3 rfl (by kernel_rfl) (fun l w hu hS => at571 w (((SX_ch hS520 0 rfl (by kernel_rfl) l w hu hS).sub h6).anti (Le.refl _))) 0 (by kernel_rfl) (by kernel_rfl) (v := .int .i64 x568) (by kernel_rfl) fun a hs hS => ?_
          refine d_pures (fuel := 16) kS520 hs hS [4, 5] [0, 3, 10, 11, 12, 13, 14, 15] [(0, .slice p2 x1.length c3), (3, .int .i64 x443), (10, .slice p2 x1.length c3), (11, .int .i64 x443), (12, .pointer (some r570)), (13, .int .i64 x568), (14, .bool (decide (x568 < 1))), (15, .bool (decide (x568 < 1)))] (by kernel_rfl) fun a hs hS => ?_
          rcases ifbE hx566 with ⟨h572, hx566⟩ | ⟨h572, hx566⟩
          · replace hs := hs.altB 15 true (by kernel_rfl) h572
            refine d_pures (fuel := 0) kS520 hs hS [6, 7, 8, 9, 10, 11, 12, 13, 14, 15, 16, 17, 18, 19, 20, 21] [0, 3, 10, 11, 12, 13, 14, 15, 16, 17, 18, 19, 20, 21, 22, 23, 24, 25, 26, 27, 28, 29, 30, 31] [(0, .slice p2 x1.length c3), (3, .int .i64 x443), (10, .slice p2 x1.length c3), (11, .int .i64 x443), (12, .pointer (some r570)), (13, .int .i64 x568), (14, .bool (decide (x568 < 1))), (15, .bool true), (16, undef), (17, undef), (18, undef), (19, undef), (20, undef), (21, .bool true), (22, .bool true), (23, undef), (24, undef), (25, undef), (26, undef), (27, undef), (28, undef), (29, undef), (30, undef), (31, .bool true)] (by kernel_rfl) fun a hs hS => ?_
            refine d_done (by kernel_rfl) ?_
            obtain rfl := someE hx566
            exact (hJ567 _ _).2 ⟨true, hx516, hs.cast [0, 3, 31] (by kernel_rfl), hw.pick [0] (by kernel_rfl)⟩
          · replace hs := hs.altB 15 false (by kernel_rfl) h572
            refine d_pures (fuel := 14) kS520 hs hS [6, 7] [0, 3, 10, 11, 12, 13, 14, 15, 16, 17] [(0, .slice p2 x1.length c3), (3, .int .i64 x443), (10, .slice p2 x1.length c3), (11, .int .i64 x443), (12, .pointer (some r570)), (13, .int .i64 x568), (14, .bool (decide (x568 < 1))), (15, .bool false), (16, .slice p2 x1.length c3), (17, .int .i64 x443)] (by kernel_rfl) fun a hs hS => ?_
            obtain ⟨x573, h574, hx566⟩ := bindE hx566
            refine d_index (fuel := 13) kS520 hs hS 8 rfl (by kernel_rfl) h4 (by kernel_rfl) (by kernel_rfl) (k := .i64) (by kernel_rfl) 3 (by kernel_rfl) (by kernel_rfl) h574 fun a r575 cs henc at576 hs hS => ?_
            obtain rfl := henc
            refine d_load (fuel := 12) kS520 hs hS 9 rfl (by kernel_rfl) (fun l w hu hS => at576 w (((SX_ch hS520 0 rfl (by kernel_rfl) l w hu hS).sub h6).anti (Le.refl _))) 0 (by kernel_rfl) (by kernel_rfl) (v := .int .i64 x573) (by kernel_rfl) fun a hs hS => ?_
            refine d_pures (fuel := 9) kS520 hs hS [10, 11, 12] [0, 3, 10, 11, 12, 13, 14, 15, 16, 17, 18, 19, 20, 21, 22] [(0, .slice p2 x1.length c3), (3, .int .i64 x443), (10, .slice p2 x1.length c3), (11, .int .i64 x443), (12, .pointer (some r570)), (13, .int .i64 x568), (14, .bool (decide (x568 < 1))), (15, .bool false), (16, .slice p2 x1.length c3), (17, .int .i64 x443), (18, .pointer (some r575)), (19, .int .i64 x573), (20, .bool (decide (x573 > 24))), (21, .bool (decide (x573 > 24))), (22, .bool (decide (x573 > 24)))] (by kernel_rfl) fun a hs hS => ?_
            rcases ifbE hx566 with ⟨h577, hx566⟩ | ⟨h577, hx566⟩
            · replace hs := hs.altB 22 true (by kernel_rfl) h577
              refine d_pures (fuel := 0) kS520 hs hS [13, 14, 15, 16, 17, 18, 19, 20, 21] [0, 3, 10, 11, 12, 13, 14, 15, 16, 17, 18, 19, 20, 21, 22, 23, 24, 25, 26, 27, 28, 29, 30, 31] [(0, .slice p2 x1.length c3), (3, .int .i64 x443), (10, .slice p2 x1.length c3), (11, .int .i64 x443), (12, .pointer (some r570)), (13, .int .i64 x568), (14, .bool (decide (x568 < 1))), (15, .bool false), (16, .slice p2 x1.length c3), (17, .int .i64 x443), (18, .pointer (some r575)), (19, .int .i64 x573), (20, .bool (decide (x573 > 24))), (21, .bool (decide (x573 > 24))), (22, .bool true), (23, undef), (24, undef), (25, undef), (26, undef), (27, undef), (28, undef), (29, undef), (30, undef), (31, .bool true)] (by kernel_rfl) fun a hs hS => ?_
              refine d_done (by kernel_rfl) ?_
              obtain rfl := someE hx566
              exact (hJ567 _ _).2 ⟨true, hx516, hs.cast [0, 3, 31] (by kernel_rfl), hw.pick [0] (by kernel_rfl)⟩
            · replace hs := hs.altB 22 false (by kernel_rfl) h577
              refine d_pures (fuel := 7) kS520 hs hS [13, 14] [0, 3, 10, 11, 12, 13, 14, 15, 16, 17, 18, 19, 20, 21, 22, 23, 24] [(0, .slice p2 x1.length c3), (3, .int .i64 x443), (10, .slice p2 x1.length c3), (11, .int .i64 x443), (12, .pointer (some r570)), (13, .int .i64 x568), (14, .bool (decide (x568 < 1))), (15, .bool false), (16, .slice p2 x1.length c3), (17, .int .i64 x443), (18, .pointer (some r575)), (19, .int .i64 x573), (20, .bool (decide (x573 > 24))), (21, .bool (decide (x573 > 24))), (22, .bool false), (23, .slice p2 x1.length c3), (24, .int .i64 x443)] (by kernel_rfl) fun a hs hS => ?_
              obtain ⟨x578, h579, hx566⟩ := bindE hx566
              refine d_slice (fuel := 6) kS520 hs hS 15 rfl (by kernel_rfl) h4 (by kernel_rfl) (by kernel_rfl) 3 (by kernel_rfl) (by kernel_rfl) (by kernel_rfl) (by kernel_rfl) (by kernel_rfl) h579 (.inl rfl) fun a p580 c581 h582 hs hS => ?_
              refine d_pures (fuel := 4) kS520 hs hS [16, 17] [0, 3, 10, 11, 12, 13, 14, 15, 16, 17, 18, 19, 20, 21, 22, 23, 24, 25, 26, 27] [(0, .slice p2 x1.length c3), (3, .int .i64 x443), (10, .slice p2 x1.length c3), (11, .int .i64 x443), (12, .pointer (some r570)), (13, .int .i64 x568), (14, .bool (decide (x568 < 1))), (15, .bool false), (16, .slice p2 x1.length c3), (17, .int .i64 x443), (18, .pointer (some r575)), (19, .int .i64 x573), (20, .bool (decide (x573 > 24))), (21, .bool (decide (x573 > 24))), (22, .bool false), (23, .slice p2 x1.length c3), (24, .int .i64 x443), (25, .slice p580 x578.length c581), (26, .slice p2 x1.length c3), (27, .int .i64 x443)] (by kernel_rfl) fun a hs hS => ?_
              obtain ⟨x583, h584, hx566⟩ := bindE hx566
              refine d_index (fuel := 3) kS520 hs hS 18 rfl (by kernel_rfl) h4 (by kernel_rfl) (by kernel_rfl) (k := .i64) (by kernel_rfl) 3 (by kernel_rfl) (by kernel_rfl) h584 fun a r585 cs henc at586 hs hS => ?_
              obtain rfl := henc
              refine d_load (fuel := 2) kS520 hs hS 19 rfl (by kernel_rfl) (fun l w hu hS => at586 w (((SX_ch hS520 0 rfl (by kernel_rfl) l w hu hS).sub h6).anti (Le.refl _))) 0 (by kernel_rfl) (by kernel_rfl) (v := .int .i64 x583) (by kernel_rfl) fun a hs hS => ?_
              refine d_all (fuel := 1) (rs := [20]) (by kernel_rfl) (by simp) (all1 ?_)
              obtain ⟨y587, h588, hx566⟩ := bindE hx566
              refine o_call hs rfl (by kernel_rfl) (by kernel_rfl) (catenaryref04_Has_s h588 h582 (fun q hq => memF 0 rfl q (h6 q hq)) ((hw.pick [0] (by kernel_rfl)).pack 0)) fun a w v hv hs => ?_
              obtain ⟨rfl, hw⟩ := hv
              replace hw := hw.unpack 0 rfl
              refine dg_next (SX_now hS520 ((hw.vws [0]).anti (Le.refl _)) (by kernel_rfl)) fun hS => ?_
              refine d_pures (fuel := 0) kS520 hs hS [21] [0, 3, 10, 11, 12, 13, 14, 15, 16, 17, 18, 19, 20, 21, 22, 23, 24, 25, 26, 27, 28, 29, 30, 31] [(0, .slice p2 x1.length c3), (3, .int .i64 x443), (10, .slice p2 x1.length c3), (11, .int .i64 x443), (12, .pointer (some r570)), (13, .int .i64 x568), (14, .bool (decide (x568 < 1))), (15, .bool false), (16, .slice p2 x1.length c3), (17, .int .i64 x443), (18, .pointer (some r575)), (19, .int .i64 x573), (20, .bool (decide (x573 > 24))), (21, .bool (decide (x573 > 24))), (22, .bool false), (23, .slice p2 x1.length c3), (24, .int .i64 x443), (25, .slice p580 x578.length c581), (26, .slice p2 x1.length c3), (27, .int .i64 x443), (28, .pointer (some r585)), (29, .int .i64 x583), (30, .bool y587), (31, .bool y587)] (by kernel_rfl) fun a hs hS => ?_
              refine d_done (by kernel_rfl) ?_
              obtain rfl := someE hx566
              exact (hJ567 _ _).2 ⟨y587, hx516, hs.cast [0, 3, 31] (by kernel_rfl), hw.pick [0] (by kernel_rfl)⟩
        · intro a w hh
          obtain ⟨x563, hx516, hs, hw⟩ := (hJ567 _ _).1 hh
          rcases ifbE hx516 with ⟨h564, hx516⟩ | ⟨h564, hx516⟩
          · refine c_cond1 hs (by kernel_rfl) (t := x563) (by kernel_rfl) h564 ?_
            refine c_seq ?_
            refine c_region ?_
            refine pures hs 1 [2] [(2, .bool false)] (by kernel_rfl) fun a hs => ?_
            refine s_end ?_
            refine wp_ret ?_
            obtain rfl := someE hx516
            obtain rfl := someE hk
            refine hQ _ _ (f_ret1 hs rfl (v := .bool false) (by kernel_rfl) ⟨rfl, hw.pick [0] (by kernel_rfl)⟩)
          · refine c_cond0 hs (by kernel_rfl) (t := x563) (by kernel_rfl) h564 ?_
            refine wp_skip ?_
            refine c_region ?_
            refine pures hs 3 [0, 3] [(0, .slice p2 x1.length c3), (3, .int .i64 (IntKind.i64.wrap (x443 + 1)))] (by kernel_rfl) fun a hs => ?_
            refine s_end ?_
            exact (hI518 _ _ _).2 ⟨(IntKind.i64.wrap (x443 + 1)), hx516, hs.cast [0, 3] (by kernel_rfl), hw.pick [0] (by kernel_rfl)⟩
      · refine c_cond0 hs (by kernel_rfl) (t := (decide (x443 < (x1.length : Int)))) (by kernel_rfl) h519 ?_
        refine wp_exit ?_
        obtain rfl := someE hx516
        exact (hJ517 _ _).2 ⟨hk, hs.cast [] (by kernel_rfl), hw.pick [0] (by kernel_rfl)⟩
  · intro a w hh
    obtain ⟨hk, hs, hw⟩ := (hJ517 _ _).1 hh
    refine c_seq ?_
    refine c_region ?_
    refine pures hs 1 [2] [(2, .bool true)] (by kernel_rfl) fun a hs => ?_
    refine s_end ?_
    refine wp_ret ?_
    obtain rfl := someE hk
    refine hQ _ _ (f_ret1 hs rfl (v := .bool true) (by kernel_rfl) ⟨rfl, hw.pick [0] (by kernel_rfl)⟩)
def catenaryref09_Right (k : Nat) (x1 : M53) : Option Bool :=
  if ((decide (x1.f0 < 0)) || ((decide (x1.f0 > 3)) || ((x1.f1 == 0) || (((x1.f2.length : Int) == 0) || (decide ((x1.f2.length : Int) > 5)))))) = true then some false
  else if (x1.f3 && (((x1.f2.length : Int) == 1) || (x1.f4 != 0))) = true then some false
  else (catenaryref09_Stands x1).bind fun y90 =>
  (catenaryref09_Unlike k y90).bind fun y97 =>
  some y97
theorem catenaryref09_Right_s {k : Nat} {x1 : M53} {p2 : Option Addr} {c3 : Nat} {r : Bool} (hk : catenaryref09_Right k x1 = some r) {g w : World} {F : Ch} {ih : IH} (h4 : RSl e3 ih [] p2 c3 x1.f2) (hw : St g w [F] ih) :
    CallsR Try.prog 31 #[.agg #[.int .i64 x1.f0, .int .u64 x1.f1, .slice p2 x1.f2.length c3, .bool x1.f3, .int .i64 x1.f4]] w fun v w' => v = .bool r ∧ St g w' [F] ih := by
  refine f_in (vs := [.agg #[.int .i64 x1.f0, .int .u64 x1.f1, .slice p2 x1.f2.length c3, .bool x1.f3, .int .i64 x1.f4]]) Try.func31 rfl 44 rfl (by kernel_rfl) [(0, .agg #[.int .i64 x1.f0, .int .u64 x1.f1, .slice p2 x1.f2.length c3, .bool x1.f3, .int .i64 x1.f4])] (by kernel_rfl) fun a Qf hQ hQn hs => ?_
  refine c_seq ?_
  refine c_region ?_
  refine s_new hs hw [.int .i64 x1.f0, .int .u64 x1.f1, .slice p2 x1.f2.length c3, .bool x1.f3, .int .i64 x1.f4] 53 (fun b => .pointer (some ⟨b, 0, none⟩)) (by kernel_rfl) (fun _ => by kernel_rfl) fun a w b55 hs hw => ?_
  refine pures hs 1 [1] [(1, .pointer (some ⟨b55, 0, none⟩))] (by kernel_rfl) fun a hs => ?_
  refine s_end ?_
  refine c_seq ?_
  refine c_seq ?_
  obtain ⟨J66, hJ66⟩ : ∃ J : Act → World → Prop, ∀ a w, J a w ↔ (Sees a 44 [(1, .pointer (some ⟨b55, 0, none⟩)), (27, .bool ((decide (x1.f0 < 0)) || ((decide (x1.f0 > 3)) || ((x1.f1 == 0) || (((x1.f2.length : Int) == 0) || (decide ((x1.f2.length : Int) > 5)))))))] ∧ St g w [bx b55 [.int .i64 x1.f0, .int .u64 x1.f1, .slice p2 x1.f2.length c3, .bool x1.f3, .int .i64 x1.f4] 53, F] ih) := ⟨_, fun _ _ => Iff.rfl⟩
  refine c_regJ J66 ?_ ?_
  · refine pures hs 1 [1, 3] [(1, .pointer (some ⟨b55, 0, none⟩)), (3, .pointer (some ⟨b55, 0, none⟩))] (by kernel_rfl) fun a hs => ?_
    refine s_load hs (hw.at_ 0 rfl) 0 (by kernel_rfl) (by kernel_rfl) (v := .int .i64 x1.f0) (by kernel_rfl) fun a hs => ?_
    refine pures hs 2 [1, 6] [(1, .pointer (some ⟨b55, 0, none⟩)), (6, .bool (decide (x1.f0 < 0)))] (by kernel_rfl) fun a hs => ?_
    rcases boolE (decide (x1.f0 < 0)) with h67 | h67
    · replace hs := hs.altB 6 true (by kernel_rfl) h67
      refine pures hs 21 [1, 27] [(1, .pointer (some ⟨b55, 0, none⟩)), (27, .bool true)] (by kernel_rfl) fun a hs => ?_
      refine s_end ?_
      exact (hJ66 _ _).2 ⟨(hs.altB 27 ((decide (x1.f0 < 0)) || ((decide (x1.f0 > 3)) || ((x1.f1 == 0) || (((x1.f2.length : Int) == 0) || (decide ((x1.f2.length : Int) > 5)))))) (by kernel_rfl) (by rw [h67] <;> rfl)).cast [1, 27] (by kernel_rfl), hw.pick [0, 1] (by kernel_rfl)⟩
    · replace hs := hs.altB 6 false (by kernel_rfl) h67
      refine pures hs 1 [1, 6, 7] [(1, .pointer (some ⟨b55, 0, none⟩)), (6, .bool false), (7, .pointer (some ⟨b55, 0, none⟩))] (by kernel_rfl) fun a hs => ?_
      refine s_load hs (hw.at_ 0 rfl) 0 (by kernel_rfl) (by kernel_rfl) (v := .int .i64 x1.f0) (by kernel_rfl) fun a hs => ?_
      refine pures hs 3 [1, 11] [(1, .pointer (some ⟨b55, 0, none⟩)), (11, .bool (decide (x1.f0 > 3)))] (by kernel_rfl) fun a hs => ?_
      rcases boolE (decide (x1.f0 > 3)) with h68 | h68
      · replace hs := hs.altB 11 true (by kernel_rfl) h68
        refine pures hs 16 [1, 27] [(1, .pointer (some ⟨b55, 0, none⟩)), (27, .bool true)] (by kernel_rfl) fun a hs => ?_
        refine s_end ?_
        exact (hJ66 _ _).2 ⟨(hs.altB 27 ((decide (x1.f0 < 0)) || ((decide (x1.f0 > 3)) || ((x1.f1 == 0) || (((x1.f2.length : Int) == 0) || (decide ((x1.f2.length : Int) > 5)))))) (by kernel_rfl) (by rw [h67, h68] <;> rfl)).cast [1, 27] (by kernel_rfl), hw.pick [0, 1] (by kernel_rfl)⟩
      · replace hs := hs.altB 11 false (by kernel_rfl) h68
        refine pures hs 1 [1, 11, 12] [(1, .pointer (some ⟨b55, 0, none⟩)), (11, .bool false), (12, .pointer (some ⟨b55, 1, none⟩))] (by kernel_rfl) fun a hs => ?_
        refine s_load hs (hw.at_ 0 rfl) 1 (by kernel_rfl) (by kernel_rfl) (v := .int .u64 x1.f1) (by kernel_rfl) fun a hs => ?_
        refine pures hs 3 [1, 16] [(1, .pointer (some ⟨b55, 0, none⟩)), (16, .bool (x1.f1 == 0))] (by kernel_rfl) fun a hs => ?_
        rcases boolE (x1.f1 == 0) with h69 | h69
        · replace hs := hs.altB 16 true (by kernel_rfl) h69
          refine pures hs 11 [1, 27] [(1, .pointer (some ⟨b55, 0, none⟩)), (27, .bool true)] (by kernel_rfl) fun a hs => ?_
          refine s_end ?_
          exact (hJ66 _ _).2 ⟨(hs.altB 27 ((decide (x1.f0 < 0)) || ((decide (x1.f0 > 3)) || ((x1.f1 == 0) || (((x1.f2.length : Int) == 0) || (decide ((x1.f2.length : Int) > 5)))))) (by kernel_rfl) (by rw [h67, h68, h69] <;> rfl)).cast [1, 27] (by kernel_rfl), hw.pick [0, 1] (by kernel_rfl)⟩
        · replace hs := hs.altB 16 false (by kernel_rfl) h69
          refine pures hs 1 [1, 16, 17] [(1, .pointer (some ⟨b55, 0, none⟩)), (16, .bool false), (17, .pointer (some ⟨b55, 2, none⟩))] (by kernel_rfl) fun a hs => ?_
          refine s_load hs (hw.at_ 0 rfl) 2 (by kernel_rfl) (by kernel_rfl) (v := .slice p2 x1.f2.length c3) (by kernel_rfl) fun a hs => ?_
          refine pures hs 4 [1, 22] [(1, .pointer (some ⟨b55, 0, none⟩)), (22, .bool ((x1.f2.length : Int) == 0))] (by kernel_rfl) fun a hs => ?_
          rcases boolE ((x1.f2.length : Int) == 0) with h70 | h70
          · replace hs := hs.altB 22 true (by kernel_rfl) h70
            refine pures hs 5 [1, 27] [(1, .pointer (some ⟨b55, 0, none⟩)), (27, .bool true)] (by kernel_rfl) fun a hs => ?_
            refine s_end ?_
            exact (hJ66 _ _).2 ⟨(hs.altB 27 ((decide (x1.f0 < 0)) || ((decide (x1.f0 > 3)) || ((x1.f1 == 0) || (((x1.f2.length : Int) == 0) || (decide ((x1.f2.length : Int) > 5)))))) (by kernel_rfl) (by rw [h67, h68, h69, h70] <;> rfl)).cast [1, 27] (by kernel_rfl), hw.pick [0, 1] (by kernel_rfl)⟩
          · replace hs := hs.altB 22 false (by kernel_rfl) h70
            refine pures hs 1 [1, 22, 23] [(1, .pointer (some ⟨b55, 0, none⟩)), (22, .bool false), (23, .pointer (some ⟨b55, 2, none⟩))] (by kernel_rfl) fun a hs => ?_
            refine s_load hs (hw.at_ 0 rfl) 2 (by kernel_rfl) (by kernel_rfl) (v := .slice p2 x1.f2.length c3) (by kernel_rfl) fun a hs => ?_
            refine pures hs 3 [1, 27] [(1, .pointer (some ⟨b55, 0, none⟩)), (27, .bool (decide ((x1.f2.length : Int) > 5)))] (by kernel_rfl) fun a hs => ?_
            refine s_end ?_
            exact (hJ66 _ _).2 ⟨(hs.altB 27 ((decide (x1.f0 < 0)) || ((decide (x1.f0 > 3)) || ((x1.f1 == 0) || (((x1.f2.length : Int) == 0) || (decide ((x1.f2.length : Int) > 5)))))) (by kernel_rfl) (by rw [h67, h68, h69, h70] <;> rfl)).cast [1, 27] (by kernel_rfl), hw.pick [0, 1] (by kernel_rfl)⟩
  · intro a w hh
    obtain ⟨hs, hw⟩ := (hJ66 _ _).1 hh
    rcases ifbE hk with ⟨h71, hk⟩ | ⟨h71, hk⟩
    · refine c_cond1 hs (by kernel_rfl) (t := ((decide (x1.f0 < 0)) || ((decide (x1.f0 > 3)) || ((x1.f1 == 0) || (((x1.f2.length : Int) == 0) || (decide ((x1.f2.length : Int) > 5))))))) (by kernel_rfl) h71 ?_
      refine c_seq ?_
      refine c_region ?_
      refine pures hs 1 [2] [(2, .bool false)] (by kernel_rfl) fun a hs => ?_
      refine s_end ?_
      refine wp_ret ?_
      obtain rfl := someE hk
      refine hQ _ _ (f_ret1 hs rfl (v := .bool false) (by kernel_rfl) ⟨rfl, hw.pick [1] (by kernel_rfl)⟩)
    · refine c_cond0 hs (by kernel_rfl) (t := ((decide (x1.f0 < 0)) || ((decide (x1.f0 > 3)) || ((x1.f1 == 0) || (((x1.f2.length : Int) == 0) || (decide ((x1.f2.length : Int) > 5))))))) (by kernel_rfl) h71 ?_
      refine wp_skip ?_
      refine c_seq ?_
      refine c_seq ?_
      obtain ⟨J77, hJ77⟩ : ∃ J : Act → World → Prop, ∀ a w, J a w ↔ (Sees a 44 [(1, .pointer (some ⟨b55, 0, none⟩)), (40, .bool (x1.f3 && (((x1.f2.length : Int) == 1) || (x1.f4 != 0))))] ∧ St g w [bx b55 [.int .i64 x1.f0, .int .u64 x1.f1, .slice p2 x1.f2.length c3, .bool x1.f3, .int .i64 x1.f4] 53, F] ih) := ⟨_, fun _ _ => Iff.rfl⟩
      refine c_regJ J77 ?_ ?_
      · refine pures hs 1 [1, 28] [(1, .pointer (some ⟨b55, 0, none⟩)), (28, .pointer (some ⟨b55, 3, none⟩))] (by kernel_rfl) fun a hs => ?_
        refine s_load hs (hw.at_ 0 rfl) 3 (by kernel_rfl) (by kernel_rfl) (v := .bool x1.f3) (by kernel_rfl) fun a hs => ?_
        refine pures hs 1 [1, 30] [(1, .pointer (some ⟨b55, 0, none⟩)), (30, .bool x1.f3)] (by kernel_rfl) fun a hs => ?_
        rcases boolE x1.f3 with h78 | h78
        · replace hs := hs.altB 30 true (by kernel_rfl) h78
          refine pures hs 1 [1, 30, 31] [(1, .pointer (some ⟨b55, 0, none⟩)), (30, .bool true), (31, .pointer (some ⟨b55, 2, none⟩))] (by kernel_rfl) fun a hs => ?_
          refine s_load hs (hw.at_ 0 rfl) 2 (by kernel_rfl) (by kernel_rfl) (v := .slice p2 x1.f2.length c3) (by kernel_rfl) fun a hs => ?_
          refine pures hs 3 [1, 30, 35] [(1, .pointer (some ⟨b55, 0, none⟩)), (30, .bool true), (35, .bool ((x1.f2.length : Int) == 1))] (by kernel_rfl) fun a hs => ?_
          rcases boolE ((x1.f2.length : Int) == 1) with h79 | h79
          · replace hs := hs.altB 35 true (by kernel_rfl) h79
            refine pures hs 5 [1, 40] [(1, .pointer (some ⟨b55, 0, none⟩)), (40, .bool true)] (by kernel_rfl) fun a hs => ?_
            refine s_end ?_
            exact (hJ77 _ _).2 ⟨(hs.altB 40 (x1.f3 && (((x1.f2.length : Int) == 1) || (x1.f4 != 0))) (by kernel_rfl) (by rw [h78, h79] <;> rfl)).cast [1, 40] (by kernel_rfl), hw.pick [0, 1] (by kernel_rfl)⟩
          · replace hs := hs.altB 35 false (by kernel_rfl) h79
            refine pures hs 1 [1, 30, 35, 36] [(1, .pointer (some ⟨b55, 0, none⟩)), (30, .bool true), (35, .bool false), (36, .pointer (some ⟨b55, 4, none⟩))] (by kernel_rfl) fun a hs => ?_
            refine s_load hs (hw.at_ 0 rfl) 4 (by kernel_rfl) (by kernel_rfl) (v := .int .i64 x1.f4) (by kernel_rfl) fun a hs => ?_
            refine pures hs 3 [1, 40] [(1, .pointer (some ⟨b55, 0, none⟩)), (40, .bool (x1.f4 != 0))] (by kernel_rfl) fun a hs => ?_
            refine s_end ?_
            exact (hJ77 _ _).2 ⟨(hs.altB 40 (x1.f3 && (((x1.f2.length : Int) == 1) || (x1.f4 != 0))) (by kernel_rfl) (by rw [h78, h79] <;> rfl)).cast [1, 40] (by kernel_rfl), hw.pick [0, 1] (by kernel_rfl)⟩
        · replace hs := hs.altB 30 false (by kernel_rfl) h78
          refine pures hs 10 [1, 40] [(1, .pointer (some ⟨b55, 0, none⟩)), (40, .bool false)] (by kernel_rfl) fun a hs => ?_
          refine s_end ?_
          exact (hJ77 _ _).2 ⟨(hs.altB 40 (x1.f3 && (((x1.f2.length : Int) == 1) || (x1.f4 != 0))) (by kernel_rfl) (by rw [h78] <;> rfl)).cast [1, 40] (by kernel_rfl), hw.pick [0, 1] (by kernel_rfl)⟩
      · intro a w hh
        obtain ⟨hs, hw⟩ := (hJ77 _ _).1 hh
        rcases ifbE hk with ⟨h80, hk⟩ | ⟨h80, hk⟩
        · refine c_cond1 hs (by kernel_rfl) (t := (x1.f3 && (((x1.f2.length : Int) == 1) || (x1.f4 != 0)))) (by kernel_rfl) h80 ?_
          refine c_seq ?_
          refine c_region ?_
          refine pures hs 1 [2] [(2, .bool false)] (by kernel_rfl) fun a hs => ?_
          refine s_end ?_
          refine wp_ret ?_
          obtain rfl := someE hk
          refine hQ _ _ (f_ret1 hs rfl (v := .bool false) (by kernel_rfl) ⟨rfl, hw.pick [1] (by kernel_rfl)⟩)
        · refine c_cond0 hs (by kernel_rfl) (t := (x1.f3 && (((x1.f2.length : Int) == 1) || (x1.f4 != 0)))) (by kernel_rfl) h80 ?_
          refine wp_skip ?_
          refine c_seq ?_
          refine c_region ?_
          refine s_load hs (hw.at_ 0 rfl) 0 (by kernel_rfl) (by kernel_rfl) (v := .agg #[.int .i64 x1.f0, .int .u64 x1.f1, .slice p2 x1.f2.length c3, .bool x1.f3, .int .i64 x1.f4]) (by kernel_rfl) fun a hs => ?_
          obtain ⟨y90, h91, hk⟩ := bindE hk
          refine s_call hs (by kernel_rfl) (by kernel_rfl) (catenaryref09_Stands_s h91 h4 ((hw.pick [1] (by kernel_rfl)).pack 0)) fun a w v hv hs => ?_
          obtain ⟨p92, c93, d95, rfl, hw, h94⟩ := hv
          replace hw := hw.unpack 1 rfl
          obtain ⟨y97, h98, hk⟩ := bindE hk
          refine s_call hs (by kernel_rfl) (by kernel_rfl) (catenaryref09_Unlike_s h98 h94.read (memF 0 rfl) ((hw.pick [0, 1] (by kernel_rfl)).pack 0)) fun a w v hv hs => ?_
          obtain ⟨rfl, hw⟩ := hv
          replace hw := hw.unpack 0 rfl
          refine pures hs 1 [2] [(2, .bool y97)] (by kernel_rfl) fun a hs => ?_
          refine s_end ?_
          refine wp_ret ?_
          obtain rfl := someE hk
          refine hQ _ _ (f_ret1 hs rfl (v := .bool y97) (by kernel_rfl) ⟨rfl, hw.pick [1] (by kernel_rfl)⟩)
def catenaryref09_All_r11 (x775 : Bool) : Option Bool :=
  some x775
def catenaryref09_All_r12 (k : Nat) (x1 : List M53) (x761 : List Int) : Option Bool :=
  (if (decide ((x1.length : Int) ≥ 1)) = true then (
      if (decide ((x1.length : Int) ≤ 4)) = true then (
        (catenaryref09_Unlike k x761).bind fun y781 =>
        some y781)
      else some false)
    else some false : Option Bool).bind fun s783 => catenaryref09_All_r11 s783
def catenaryref09_All_r14 (rec_catenaryref09_All_l13 : (List Int) → Int → Option (Sum Bool (List Int))) (x1 : List M53) (x662 : Int) (x656 : List Int) (x823 : Bool) : Option (Sum Bool (List Int)) :=
  if x823 = true then some (.inl false)
  else (ix x1 x662).bind fun x845 =>
  (catenaryref09_Stands x845).bind fun y852 =>
  (app x656 y852).bind fun x859 =>
  rec_catenaryref09_All_l13 x859 (IntKind.i64.wrap (x662 + 1))
def catenaryref09_All_l13 (k : Nat) (x1 : List M53) : Nat → (List Int) → Int → Option (Sum Bool (List Int))
  | 0, _, _ => none
  | j + 1, x656, x662 =>
    if (decide (x662 < (x1.length : Int))) = true then (
      ((ix x1 x662).bind fun x868 =>
        (catenaryref09_Right k x868).bind fun y875 =>
        if (!y875) = true then some true
        else (ix x1 x662).bind fun x878 =>
        some (x878.f0 != x662) : Option Bool).bind fun s885 => catenaryref09_All_r14 (catenaryref09_All_l13 k x1 j) x1 x662 x656 s885)
    else some (.inr x656)
def catenaryref09_All (k : Nat) (x1 : List M53) : Option Bool :=
  (catenaryref09_All_l13 k x1 k ([]) 0 : Option (Sum Bool (List Int))).bind fun
    | .inl z => some z
    | .inr s888 => catenaryref09_All_r12 k x1 s888
theorem catenaryref09_All_s {k : Nat} {x1 : List M53} {p2 : Option Addr} {c3 : Nat} {d5 : Ch} {r : Bool} (hk : catenaryref09_All k x1 = some r) {g w : World} {F : Ch} {ih : IH} (h4 : RSl e53 ih d5 p2 c3 x1) (h6 : ∀ q ∈ d5, q ∈ F) (hw : St g w [F] ih) :
    CallsR Try.prog 56 #[.slice p2 x1.length c3] w fun v w' => v = .bool r ∧ St g w' [F] ih := by
  refine f_in (vs := [.slice p2 x1.length c3]) Try.func56 rfl 45 rfl (by kernel_rfl) [(0, .slice p2 x1.length c3)] (by kernel_rfl) fun a Qf hQ hQn hs => ?_
  refine c_seq ?_
  refine c_region ?_
  refine pures hs 1 [0] [(0, .slice p2 x1.length c3)] (by kernel_rfl) fun a hs => ?_
  refine s_end ?_
  refine c_seq ?_
  refine c_region ?_
  refine pures hs 1 [0, 3] [(0, .slice p2 x1.length c3), (3, .slice none 0 0)] (by kernel_rfl) fun a hs => ?_
  refine s_end ?_
  refine c_seq ?_
  refine c_seq ?_
  refine c_region ?_
  refine pures hs 1 [0, 3, 4] [(0, .slice p2 x1.length c3), (3, .slice none 0 0), (4, .int .i64 0)] (by kernel_rfl) fun a hs => ?_
  refine s_end ?_
  refine c_block ?_
  obtain ⟨y784, hx785, hk⟩ := bindE hk
  replace hw := hw.nil
  obtain ⟨J786, hJ786⟩ : ∃ J : Act → World → Prop, ∀ a w, J a w ↔ (∃ (x761 : List Int) (p762 : Option Addr) (c763 : Nat) (d765 : Ch), catenaryref09_All_r12 k x1 x761 = some r ∧ Sees a 45 [(0, .slice p2 x1.length c3), (3, .slice p762 x761.length c763)] ∧ St g w [d765, F] ih ∧ OSl e3 ih p762 c763 x761 d765) := ⟨_, fun _ _ => Iff.rfl⟩
  obtain ⟨I787, hI787⟩ : ∃ J : Nat → Act → World → Prop, ∀ j a w, J j a w ↔ (∃ (x656 : List Int) (x662 : Int) (p657 : Option Addr) (c658 : Nat) (d660 : Ch), catenaryref09_All_l13 k x1 j x656 x662 = some y784 ∧ Sees a 45 [(0, .slice p2 x1.length c3), (3, .slice p657 x656.length c658), (4, .int .i64 x662)] ∧ St g w [d660, F] ih ∧ OSl e3 ih p657 c658 x656 d660) := ⟨_, fun _ _ _ => Iff.rfl⟩
  refine c_exitJ 0 J786 ?_ ?_
  · refine c_loop I787 k ((hI787 _ _ _).2 ⟨([]), 0, none, 0, ([]), hx785, hs.cast [0, 3, 4] (by kernel_rfl), hw.pick [0, 1] (by kernel_rfl), (OSl.nil _ _)⟩) (fun a w h0 => ?_) fun j a w hh => ?_
    · obtain ⟨_, _, _, _, _, h, _⟩ := (hI787 _ _ _).1 h0
      cases h
    · obtain ⟨x656, x662, p657, c658, d660, hx785, hs, hw, h659⟩ := (hI787 _ _ _).1 hh
      refine c_seq ?_
      refine c_seq ?_
      refine c_region ?_
      refine pures hs 4 [0, 3, 4, 8] [(0, .slice p2 x1.length c3), (3, .slice p657 x656.length c658), (4, .int .i64 x662), (8, .bool (decide (x662 < (x1.length : Int))))] (by kernel_rfl) fun a hs => ?_
      refine s_end ?_
      rcases ifbE hx785 with ⟨h788, hx785⟩ | ⟨h788, hx785⟩
      · refine c_cond1 hs (by kernel_rfl) (t := (decide (x662 < (x1.length : Int)))) (by kernel_rfl) h788 ?_
        refine wp_skip ?_
        refine c_seq ?_
        refine c_block ?_
        refine c_seq ?_
        refine c_seq ?_
        obtain ⟨y865, hx866, hx785⟩ := bindE hx785
        obtain ⟨J867, hJ867⟩ : ∃ J : Act → World → Prop, ∀ a w, J a w ↔ (∃ (x823 : Bool), catenaryref09_All_r14 (catenaryref09_All_l13 k x1 j) x1 x662 x656 x823 = some y784 ∧ Sees a 45 [(0, .slice p2 x1.length c3), (3, .slice p657 x656.length c658), (4, .int .i64 x662), (25, .bool x823)] ∧ St g w [d660, F] ih) := ⟨_, fun _ _ => Iff.rfl⟩
        refine c_regJ J867 ?_ ?_
        · refine pures hs 2 [0, 3, 4, 11, 12] [(0, .slice p2 x1.length c3), (3, .slice p657 x656.length c658), (4, .int .i64 x662), (11, .slice p2 x1.length c3), (12, .int .i64 x662)] (by kernel_rfl) fun a hs => ?_
          obtain ⟨x868, h869, hx866⟩ := bindE hx866
          refine s_index hs h4 (by kernel_rfl) (by kernel_rfl) (k := .i64) (by kernel_rfl) 53 (by kernel_rfl) (by kernel_rfl) h869 fun a r870 cs henc at871 hs => ?_
          obtain ⟨p872, c873, rfl, h874⟩ := henc
          refine s_load hs (at871 _ (((hw.vw 1 rfl).sub h6).anti (Le.refl _))) 0 (by kernel_rfl) (by kernel_rfl) (v := .agg #[.int .i64 x868.f0, .int .u64 x868.f1, .slice p872 x868.f2.length c873, .bool x868.f3, .int .i64 x868.f4]) (by kernel_rfl) fun a hs => ?_
          obtain ⟨y875, h876, hx866⟩ := bindE hx866
          refine s_call hs (by kernel_rfl) (by kernel_rfl) (catenaryref09_Right_s h876 h874 ((hw.pick [0, 1] (by kernel_rfl)).pack 0)) fun a w v hv hs => ?_
          obtain ⟨rfl, hw⟩ := hv
          replace hw := hw.unpack 0 rfl
          refine pures hs 2 [0, 3, 4, 17] [(0, .slice p2 x1.length c3), (3, .slice p657 x656.length c658), (4, .int .i64 x662), (17, .bool (!y875))] (by kernel_rfl) fun a hs => ?_
          rcases ifbE hx866 with ⟨h877, hx866⟩ | ⟨h877, hx866⟩
          · replace hs := hs.altB 17 true (by kernel_rfl) h877
            refine pures hs 8 [0, 3, 4, 25] [(0, .slice p2 x1.length c3), (3, .slice p657 x656.length c658), (4, .int .i64 x662), (25, .bool true)] (by kernel_rfl) fun a hs => ?_
            refine s_end ?_
            obtain rfl := someE hx866
            exact (hJ867 _ _).2 ⟨true, hx785, hs.cast [0, 3, 4, 25] (by kernel_rfl), hw.pick [0, 1] (by kernel_rfl)⟩
          · replace hs := hs.altB 17 false (by kernel_rfl) h877
            refine pures hs 2 [0, 3, 4, 17, 18, 19] [(0, .slice p2 x1.length c3), (3, .slice p657 x656.length c658), (4, .int .i64 x662), (17, .bool false), (18, .slice p2 x1.length c3), (19, .int .i64 x662)] (by kernel_rfl) fun a hs => ?_
            obtain ⟨x878, h879, hx866⟩ := bindE hx866
            refine s_index hs h4 (by kernel_rfl) (by kernel_rfl) (k := .i64) (by kernel_rfl) 53 (by kernel_rfl) (by kernel_rfl) h879 fun a r880 cs henc at881 hs => ?_
            obtain ⟨p882, c883, rfl, h884⟩ := henc
            refine pures hs 1 [0, 3, 4, 17, 21] [(0, .slice p2 x1.length c3), (3, .slice p657 x656.length c658), (4, .int .i64 x662), (17, .bool false), (21, .pointer (some r880))] (by kernel_rfl) fun a hs => ?_
            refine s_load hs (at881 _ (((hw.vw 1 rfl).sub h6).anti (Le.refl _))) 0 (by kernel_rfl) (by kernel_rfl) (v := .int .i64 x878.f0) (by kernel_rfl) fun a hs => ?_
            refine pures hs 3 [0, 3, 4, 25] [(0, .slice p2 x1.length c3), (3, .slice p657 x656.length c658), (4, .int .i64 x662), (25, .bool (x878.f0 != x662))] (by kernel_rfl) fun a hs => ?_
            refine s_end ?_
            obtain rfl := someE hx866
            exact (hJ867 _ _).2 ⟨(x878.f0 != x662), hx785, hs.cast [0, 3, 4, 25] (by kernel_rfl), hw.pick [0, 1] (by kernel_rfl)⟩
        · intro a w hh
          obtain ⟨x823, hx785, hs, hw⟩ := (hJ867 _ _).1 hh
          rcases ifbE hx785 with ⟨h824, hx785⟩ | ⟨h824, hx785⟩
          · refine c_cond1 hs (by kernel_rfl) (t := x823) (by kernel_rfl) h824 ?_
            refine c_seq ?_
            refine c_region ?_
            refine pures hs 1 [2] [(2, .bool false)] (by kernel_rfl) fun a hs => ?_
            refine s_end ?_
            refine wp_ret ?_
            obtain rfl := someE hx785
            obtain rfl := someE hk
            refine hQ _ _ (f_ret1 hs rfl (v := .bool false) (by kernel_rfl) ⟨rfl, hw.pick [1] (by kernel_rfl)⟩)
          · refine c_cond0 hs (by kernel_rfl) (t := x823) (by kernel_rfl) h824 ?_
            refine wp_skip ?_
            refine c_region ?_
            refine pures hs 3 [0, 4, 26, 27, 28] [(0, .slice p2 x1.length c3), (4, .int .i64 x662), (26, .slice p657 x656.length c658), (27, .slice p2 x1.length c3), (28, .int .i64 x662)] (by kernel_rfl) fun a hs => ?_
            obtain ⟨x845, h846, hx785⟩ := bindE hx785
            refine s_index hs h4 (by kernel_rfl) (by kernel_rfl) (k := .i64) (by kernel_rfl) 53 (by kernel_rfl) (by kernel_rfl) h846 fun a r847 cs henc at848 hs => ?_
            obtain ⟨p849, c850, rfl, h851⟩ := henc
            refine s_load hs (at848 _ (((hw.vw 1 rfl).sub h6).anti (Le.refl _))) 0 (by kernel_rfl) (by kernel_rfl) (v := .agg #[.int .i64 x845.f0, .int .u64 x845.f1, .slice p849 x845.f2.length c850, .bool x845.f3, .int .i64 x845.f4]) (by kernel_rfl) fun a hs => ?_
            obtain ⟨y852, h853, hx785⟩ := bindE hx785
            refine s_call hs (by kernel_rfl) (by kernel_rfl) (catenaryref09_Stands_s h853 h851 ((hw.pick [0, 1] (by kernel_rfl)).pack 0)) fun a w v hv hs => ?_
            obtain ⟨p854, c855, d857, rfl, hw, h856⟩ := hv
            replace hw := hw.unpack 1 rfl
            obtain ⟨x859, h860, hx785⟩ := bindE hx785
            refine s_appS hs hw (E := e3) appT40 1 rfl h659 (by kernel_rfl) (by kernel_rfl) (h856.read.mono (Le.refl _)) ((hw.vw 0 rfl).anti (Le.refl _)) (by kernel_rfl) h860 fun a w p861 c862 d863 h864 hw hs => ?_
            refine pures hs 1 [0, 4, 3] [(0, .slice p2 x1.length c3), (4, .int .i64 x662), (3, .slice p861 x859.length c862)] (by kernel_rfl) fun a hs => ?_
            refine s_end ?_
            refine c_region ?_
            refine pures hs 3 [0, 4, 3] [(0, .slice p2 x1.length c3), (4, .int .i64 (IntKind.i64.wrap (x662 + 1))), (3, .slice p861 x859.length c862)] (by kernel_rfl) fun a hs => ?_
            refine s_end ?_
            exact (hI787 _ _ _).2 ⟨x859, (IntKind.i64.wrap (x662 + 1)), p861, c862, d863, hx785, hs.cast [0, 3, 4] (by kernel_rfl), hw.pick [1, 2] (by kernel_rfl), h864⟩
      · refine c_cond0 hs (by kernel_rfl) (t := (decide (x662 < (x1.length : Int)))) (by kernel_rfl) h788 ?_
        refine wp_exit ?_
        obtain rfl := someE hx785
        exact (hJ786 _ _).2 ⟨x656, p657, c658, d660, hk, hs.cast [0, 3] (by kernel_rfl), hw.pick [0, 1] (by kernel_rfl), h659⟩
  · intro a w hh
    obtain ⟨x761, p762, c763, d765, hk, hs, hw, h764⟩ := (hJ786 _ _).1 hh
    refine c_seq ?_
    obtain ⟨y776, hx777, hk⟩ := bindE hk
    obtain ⟨J778, hJ778⟩ : ∃ J : Act → World → Prop, ∀ a w, J a w ↔ (∃ (x775 : Bool), catenaryref09_All_r11 x775 = some r ∧ Sees a 45 [(2, .bool x775)] ∧ St g w [F] ih) := ⟨_, fun _ _ => Iff.rfl⟩
    refine c_regJ J778 ?_ ?_
    · refine pures hs 4 [0, 3, 36] [(0, .slice p2 x1.length c3), (3, .slice p762 x761.length c763), (36, .bool (decide ((x1.length : Int) ≥ 1)))] (by kernel_rfl) fun a hs => ?_
      rcases ifbE hx777 with ⟨h779, hx777⟩ | ⟨h779, hx777⟩
      · replace hs := hs.altB 36 true (by kernel_rfl) h779
        refine pures hs 5 [3, 41] [(3, .slice p762 x761.length c763), (41, .bool (decide ((x1.length : Int) ≤ 4)))] (by kernel_rfl) fun a hs => ?_
        rcases ifbE hx777 with ⟨h780, hx777⟩ | ⟨h780, hx777⟩
        · replace hs := hs.altB 41 true (by kernel_rfl) h780
          refine pures hs 1 [41, 42] [(41, .bool true), (42, .slice p762 x761.length c763)] (by kernel_rfl) fun a hs => ?_
          obtain ⟨y781, h782, hx777⟩ := bindE hx777
          refine s_call hs (by kernel_rfl) (by kernel_rfl) (catenaryref09_Unlike_s h782 h764.read (memF 0 rfl) ((hw.pick [0, 1] (by kernel_rfl)).pack 0)) fun a w v hv hs => ?_
          obtain ⟨rfl, hw⟩ := hv
          replace hw := hw.unpack 0 rfl
          refine pures hs 2 [2] [(2, .bool y781)] (by kernel_rfl) fun a hs => ?_
          refine s_end ?_
          obtain rfl := someE hx777
          exact (hJ778 _ _).2 ⟨y781, hk, hs.cast [2] (by kernel_rfl), hw.pick [1] (by kernel_rfl)⟩
        · replace hs := hs.altB 41 false (by kernel_rfl) h780
          refine pures hs 4 [2] [(2, .bool false)] (by kernel_rfl) fun a hs => ?_
          refine s_end ?_
          obtain rfl := someE hx777
          exact (hJ778 _ _).2 ⟨false, hk, hs.cast [2] (by kernel_rfl), hw.pick [1] (by kernel_rfl)⟩
      · replace hs := hs.altB 36 false (by kernel_rfl) h779
        refine pures hs 9 [2] [(2, .bool false)] (by kernel_rfl) fun a hs => ?_
        refine s_end ?_
        obtain rfl := someE hx777
        exact (hJ778 _ _).2 ⟨false, hk, hs.cast [2] (by kernel_rfl), hw.pick [1] (by kernel_rfl)⟩
    · intro a w hh
      obtain ⟨x775, hk, hs, hw⟩ := (hJ778 _ _).1 hh
      refine wp_ret ?_
      obtain rfl := someE hk
      refine hQ _ _ (f_ret1 hs rfl (v := .bool x775) (by kernel_rfl) ⟨rfl, hw.pick [0] (by kernel_rfl)⟩)
def catenaryref19_Newer_r2 (x52 : Bool) : Option Bool :=
  some x52
def catenaryref19_Newer (k : Nat) (x1 : M53) (x5 : M53) : Option Bool :=
  ((catenaryref09_Right k x5).bind fun y56 =>
    if y56 = true then (
      if (x5.f0 == x1.f0) = true then some (decide (x5.f1 > x1.f1))
      else some false)
    else some false : Option Bool).bind fun s60 => catenaryref19_Newer_r2 s60
theorem catenaryref19_Newer_s {k : Nat} {x1 : M53} {x5 : M53} {p2 : Option Addr} {c3 : Nat} {p6 : Option Addr} {c7 : Nat} {r : Bool} (hk : catenaryref19_Newer k x1 x5 = some r) {g w : World} {F : Ch} {ih : IH} (h4 : RSl e3 ih [] p2 c3 x1.f2) (h8 : RSl e3 ih [] p6 c7 x5.f2) (hw : St g w [F] ih) :
    CallsR Try.prog 44 #[.agg #[.int .i64 x1.f0, .int .u64 x1.f1, .slice p2 x1.f2.length c3, .bool x1.f3, .int .i64 x1.f4], .agg #[.int .i64 x5.f0, .int .u64 x5.f1, .slice p6 x5.f2.length c7, .bool x5.f3, .int .i64 x5.f4]] w fun v w' => v = .bool r ∧ St g w' [F] ih := by
  refine f_in (vs := [.agg #[.int .i64 x1.f0, .int .u64 x1.f1, .slice p2 x1.f2.length c3, .bool x1.f3, .int .i64 x1.f4], .agg #[.int .i64 x5.f0, .int .u64 x5.f1, .slice p6 x5.f2.length c7, .bool x5.f3, .int .i64 x5.f4]]) Try.func44 rfl 21 rfl (by kernel_rfl) [(0, .agg #[.int .i64 x1.f0, .int .u64 x1.f1, .slice p2 x1.f2.length c3, .bool x1.f3, .int .i64 x1.f4]), (1, .agg #[.int .i64 x5.f0, .int .u64 x5.f1, .slice p6 x5.f2.length c7, .bool x5.f3, .int .i64 x5.f4])] (by kernel_rfl) fun a Qf hQ hQn hs => ?_
  refine c_seq ?_
  refine c_region ?_
  refine s_new hs hw [.int .i64 x1.f0, .int .u64 x1.f1, .slice p2 x1.f2.length c3, .bool x1.f3, .int .i64 x1.f4] 53 (fun b => .pointer (some ⟨b, 0, none⟩)) (by kernel_rfl) (fun _ => by kernel_rfl) fun a w b40 hs hw => ?_
  refine s_new hs hw [.int .i64 x5.f0, .int .u64 x5.f1, .slice p6 x5.f2.length c7, .bool x5.f3, .int .i64 x5.f4] 53 (fun b => .pointer (some ⟨b, 0, none⟩)) (by kernel_rfl) (fun _ => by kernel_rfl) fun a w b42 hs hw => ?_
  refine pures hs 1 [2, 3] [(2, .pointer (some ⟨b40, 0, none⟩)), (3, .pointer (some ⟨b42, 0, none⟩))] (by kernel_rfl) fun a hs => ?_
  refine s_end ?_
  refine c_seq ?_
  obtain ⟨y53, hx54, hk⟩ := bindE hk
  obtain ⟨J55, hJ55⟩ : ∃ J : Act → World → Prop, ∀ a w, J a w ↔ (∃ (x52 : Bool), catenaryref19_Newer_r2 x52 = some r ∧ Sees a 21 [(4, .bool x52)] ∧ St g w [F] ih) := ⟨_, fun _ _ => Iff.rfl⟩
  refine c_regJ J55 ?_ ?_
  · refine s_load hs (hw.at_ 0 rfl) 0 (by kernel_rfl) (by kernel_rfl) (v := .agg #[.int .i64 x5.f0, .int .u64 x5.f1, .slice p6 x5.f2.length c7, .bool x5.f3, .int .i64 x5.f4]) (by kernel_rfl) fun a hs => ?_
    obtain ⟨y56, h57, hx54⟩ := bindE hx54
    refine s_call hs (by kernel_rfl) (by kernel_rfl) (catenaryref09_Right_s h57 h8 ((hw.pick [0, 1, 2] (by kernel_rfl)).pack 0)) fun a w v hv hs => ?_
    obtain ⟨rfl, hw⟩ := hv
    replace hw := hw.unpack 0 rfl
    refine pures hs 1 [2, 3, 7] [(2, .pointer (some ⟨b40, 0, none⟩)), (3, .pointer (some ⟨b42, 0, none⟩)), (7, .bool y56)] (by kernel_rfl) fun a hs => ?_
    rcases ifbE hx54 with ⟨h58, hx54⟩ | ⟨h58, hx54⟩
    · replace hs := hs.altB 7 true (by kernel_rfl) h58
      refine pures hs 1 [2, 3, 7, 8] [(2, .pointer (some ⟨b40, 0, none⟩)), (3, .pointer (some ⟨b42, 0, none⟩)), (7, .bool true), (8, .pointer (some ⟨b42, 0, none⟩))] (by kernel_rfl) fun a hs => ?_
      refine s_load hs (hw.at_ 0 rfl) 0 (by kernel_rfl) (by kernel_rfl) (v := .int .i64 x5.f0) (by kernel_rfl) fun a hs => ?_
      refine pures hs 1 [2, 3, 7, 9, 10] [(2, .pointer (some ⟨b40, 0, none⟩)), (3, .pointer (some ⟨b42, 0, none⟩)), (7, .bool true), (9, .int .i64 x5.f0), (10, .pointer (some ⟨b40, 0, none⟩))] (by kernel_rfl) fun a hs => ?_
      refine s_load hs (hw.at_ 1 rfl) 0 (by kernel_rfl) (by kernel_rfl) (v := .int .i64 x1.f0) (by kernel_rfl) fun a hs => ?_
      refine pures hs 3 [2, 3, 14] [(2, .pointer (some ⟨b40, 0, none⟩)), (3, .pointer (some ⟨b42, 0, none⟩)), (14, .bool (x5.f0 == x1.f0))] (by kernel_rfl) fun a hs => ?_
      rcases ifbE hx54 with ⟨h59, hx54⟩ | ⟨h59, hx54⟩
      · replace hs := hs.altB 14 true (by kernel_rfl) h59
        refine pures hs 1 [2, 14, 15] [(2, .pointer (some ⟨b40, 0, none⟩)), (14, .bool true), (15, .pointer (some ⟨b42, 1, none⟩))] (by kernel_rfl) fun a hs => ?_
        refine s_load hs (hw.at_ 0 rfl) 1 (by kernel_rfl) (by kernel_rfl) (v := .int .u64 x5.f1) (by kernel_rfl) fun a hs => ?_
        refine pures hs 1 [14, 16, 17] [(14, .bool true), (16, .int .u64 x5.f1), (17, .pointer (some ⟨b40, 1, none⟩))] (by kernel_rfl) fun a hs => ?_
        refine s_load hs (hw.at_ 1 rfl) 1 (by kernel_rfl) (by kernel_rfl) (v := .int .u64 x1.f1) (by kernel_rfl) fun a hs => ?_
        refine pures hs 3 [4] [(4, .bool (decide (x5.f1 > x1.f1)))] (by kernel_rfl) fun a hs => ?_
        refine s_end ?_
        obtain rfl := someE hx54
        exact (hJ55 _ _).2 ⟨(decide (x5.f1 > x1.f1)), hk, hs.cast [4] (by kernel_rfl), hw.pick [2] (by kernel_rfl)⟩
      · replace hs := hs.altB 14 false (by kernel_rfl) h59
        refine pures hs 7 [4] [(4, .bool false)] (by kernel_rfl) fun a hs => ?_
        refine s_end ?_
        obtain rfl := someE hx54
        exact (hJ55 _ _).2 ⟨false, hk, hs.cast [4] (by kernel_rfl), hw.pick [2] (by kernel_rfl)⟩
    · replace hs := hs.altB 7 false (by kernel_rfl) h58
      refine pures hs 14 [4] [(4, .bool false)] (by kernel_rfl) fun a hs => ?_
      refine s_end ?_
      obtain rfl := someE hx54
      exact (hJ55 _ _).2 ⟨false, hk, hs.cast [4] (by kernel_rfl), hw.pick [2] (by kernel_rfl)⟩
  · intro a w hh
    obtain ⟨x52, hk, hs, hw⟩ := (hJ55 _ _).1 hh
    refine wp_ret ?_
    obtain rfl := someE hk
    refine hQ _ _ (f_ret1 hs rfl (v := .bool x52) (by kernel_rfl) ⟨rfl, hw.pick [0] (by kernel_rfl)⟩)
def catenaryref25_Learn_2_r2 (x1 : List M53) (x5 : M53) (x122 : Bool) : Option ((List M53) × Bool) :=
  if x122 = true then some (x1, false)
  else (app ([]) x1).bind fun x134 =>
  (ix x134 x5.f0).bind fun x152 =>
  some ((x134.set x5.f0.toNat x5), true)
def catenaryref25_Learn_2 (k : Nat) (x1 : List M53) (x5 : M53) : Option ((List M53) × Bool) :=
  (if (decide (x5.f0 < 0)) = true then some true
    else if (decide (x5.f0 ≥ (x1.length : Int))) = true then some true
    else (ix x1 x5.f0).bind fun x172 =>
    (catenaryref19_Newer k x172 x5).bind fun y179 =>
    some (!y179) : Option Bool).bind fun s181 => catenaryref25_Learn_2_r2 x1 x5 s181
theorem catenaryref25_Learn_2_s {k : Nat} {x1 : List M53} {x5 : M53} {p2 : Option Addr} {c3 : Nat} {p6 : Option Addr} {c7 : Nat} {r : (List M53) × Bool} (hk : catenaryref25_Learn_2 k x1 x5 = some r) {g w : World} {F : Ch} {ih : IH} (h4 : RSl e53 ih [] p2 c3 x1) (h8 : RSl e3 ih [] p6 c7 x5.f2) (hw : St g w [F] ih) :
    CallsR Try.prog 58 #[.slice p2 x1.length c3, .agg #[.int .i64 x5.f0, .int .u64 x5.f1, .slice p6 x5.f2.length c7, .bool x5.f3, .int .i64 x5.f4]] w fun v w' => ∃ (ih' : IH) (p182 : Option Addr) (c183 : Nat), v = .tuple #[.slice p182 r.1.length c183, .bool r.2] ∧ St g w' [F] ih' ∧ Le ih ih' ∧ RSl e53 ih' [] p182 c183 r.1 := by
  refine f_in (vs := [.slice p2 x1.length c3, .agg #[.int .i64 x5.f0, .int .u64 x5.f1, .slice p6 x5.f2.length c7, .bool x5.f3, .int .i64 x5.f4]]) Try.func58 rfl 36 rfl (by kernel_rfl) [(0, .slice p2 x1.length c3), (1, .agg #[.int .i64 x5.f0, .int .u64 x5.f1, .slice p6 x5.f2.length c7, .bool x5.f3, .int .i64 x5.f4])] (by kernel_rfl) fun a Qf hQ hQn hs => ?_
  refine c_seq ?_
  refine c_region ?_
  refine s_new hs hw [.int .i64 x5.f0, .int .u64 x5.f1, .slice p6 x5.f2.length c7, .bool x5.f3, .int .i64 x5.f4] 53 (fun b => .pointer (some ⟨b, 0, none⟩)) (by kernel_rfl) (fun _ => by kernel_rfl) fun a w b97 hs hw => ?_
  refine pures hs 2 [0, 3] [(0, .slice p2 x1.length c3), (3, .pointer (some ⟨b97, 0, none⟩))] (by kernel_rfl) fun a hs => ?_
  refine s_end ?_
  refine c_seq ?_
  refine c_seq ?_
  obtain ⟨S99, hS99, kS99⟩ := mkSX (X := [([], bx b97 [.int .i64 x5.f0, .int .u64 x5.f1, .slice p6 x5.f2.length c7, .bool x5.f3, .int .i64 x5.f4] 53), ([], F)]) (ih := ih) (K := []) rfl
  obtain ⟨y167, hx168, hk⟩ := bindE hk
  obtain ⟨J169, hJ169⟩ : ∃ J : Act → World → Prop, ∀ a w, J a w ↔ (∃ (x122 : Bool), catenaryref25_Learn_2_r2 x1 x5 x122 = some r ∧ Sees a 36 [(0, .slice p2 x1.length c3), (3, .pointer (some ⟨b97, 0, none⟩)), (26, .bool x122)] ∧ St g w [bx b97 [.int .i64 x5.f0, .int .u64 x5.f1, .slice p6 x5.f2.length c7, .bool x5.f3, .int .i64 x5.f4] 53, F] ih) := ⟨_, fun _ _ => Iff.rfl⟩
  refine c_draw (by kernel_rfl) (N := 20) rfl S99 J169 ?_ ?_
  · have hw := hw.drew
    have hS : S99 (Array.replicate 20 false) _ := SX_now hS99 (hw.vws [0, 1]) (by kernel_rfl)
    refine d_pures (fuel := 19) kS99 hs hS [0] [0, 3, 7] [(0, .slice p2 x1.length c3), (3, .pointer (some ⟨b97, 0, none⟩)), (7, .pointer (some ⟨b97, 0, none⟩))] (by kernel_rfl) fun a hs hS => ?_
    refine d_load (fuel := 18) kS99 hs hS 1 rfl (by kernel_rfl) (SX_box hS99 0 rfl (by kernel_rfl)) 0 (by kernel_rfl) (by kernel_rfl) (v := .int .i64 x5.f0) (by kernel_rfl) fun a hs hS => ?_
    refine d_pures (fuel := 16) kS99 hs hS [2, 3] [0, 3, 7, 8, 9, 10] [(0, .slice p2 x1.length c3), (3, .pointer (some ⟨b97, 0, none⟩)), (7, .pointer (some ⟨b97, 0, none⟩)), (8, .int .i64 x5.f0), (9, .bool (decide (x5.f0 < 0))), (10, .bool (decide (x5.f0 < 0)))] (by kernel_rfl) fun a hs hS => ?_
    rcases ifbE hx168 with ⟨h170, hx168⟩ | ⟨h170, hx168⟩
    · replace hs := hs.altB 10 true (by kernel_rfl) h170
      refine d_pures (fuel := 0) kS99 hs hS [4, 5, 6, 7, 8, 9, 10, 11, 12, 13, 14, 15, 16, 17, 18, 19] [0, 3, 7, 8, 9, 10, 11, 12, 13, 14, 15, 16, 17, 18, 19, 20, 21, 22, 23, 24, 25, 26] [(0, .slice p2 x1.length c3), (3, .pointer (some ⟨b97, 0, none⟩)), (7, .pointer (some ⟨b97, 0, none⟩)), (8, .int .i64 x5.f0), (9, .bool (decide (x5.f0 < 0))), (10, .bool true), (11, undef), (12, undef), (13, undef), (14, undef), (15, undef), (16, .bool true), (17, .bool true), (18, undef), (19, undef), (20, undef), (21, undef), (22, undef), (23, undef), (24, undef), (25, undef), (26, .bool true)] (by kernel_rfl) fun a hs hS => ?_
      refine d_done (by kernel_rfl) ?_
      obtain rfl := someE hx168
      exact (hJ169 _ _).2 ⟨true, hk, hs.cast [0, 3, 26] (by kernel_rfl), hw.pick [0, 1] (by kernel_rfl)⟩
    · replace hs := hs.altB 10 false (by kernel_rfl) h170
      refine d_pures (fuel := 15) kS99 hs hS [4] [0, 3, 7, 8, 9, 10, 11] [(0, .slice p2 x1.length c3), (3, .pointer (some ⟨b97, 0, none⟩)), (7, .pointer (some ⟨b97, 0, none⟩)), (8, .int .i64 x5.f0), (9, .bool (decide (x5.f0 < 0))), (10, .bool false), (11, .pointer (some ⟨b97, 0, none⟩))] (by kernel_rfl) fun a hs hS => ?_
      refine d_load (fuel := 14) kS99 hs hS 5 rfl (by kernel_rfl) (SX_box hS99 0 rfl (by kernel_rfl)) 0 (by kernel_rfl) (by kernel_rfl) (v := .int .i64 x5.f0) (by kernel_rfl) fun a hs hS => ?_
      refine d_pures (fuel := 9) kS99 hs hS [6, 7, 8, 9, 10] [0, 3, 7, 8, 9, 10, 11, 12, 13, 14, 15, 16, 17] [(0, .slice p2 x1.length c3), (3, .pointer (some ⟨b97, 0, none⟩)), (7, .pointer (some ⟨b97, 0, none⟩)), (8, .int .i64 x5.f0), (9, .bool (decide (x5.f0 < 0))), (10, .bool false), (11, .pointer (some ⟨b97, 0, none⟩)), (12, .int .i64 x5.f0), (13, .slice p2 x1.length c3), (14, .int .i64 (x1.length : Int)), (15, .bool (decide (x5.f0 ≥ (x1.length : Int)))), (16, .bool (decide (x5.f0 ≥ (x1.length : Int)))), (17, .bool (decide (x5.f0 ≥ (x1.length : Int))))] (by kernel_rfl) fun a hs hS => ?_
      rcases ifbE hx168 with ⟨h171, hx168⟩ | ⟨h171, hx168⟩
      · replace hs := hs.altB 17 true (by kernel_rfl) h171
        refine d_pures (fuel := 0) kS99 hs hS [11, 12, 13, 14, 15, 16, 17, 18, 19] [0, 3, 7, 8, 9, 10, 11, 12, 13, 14, 15, 16, 17, 18, 19, 20, 21, 22, 23, 24, 25, 26] [(0, .slice p2 x1.length c3), (3, .pointer (some ⟨b97, 0, none⟩)), (7, .pointer (some ⟨b97, 0, none⟩)), (8, .int .i64 x5.f0), (9, .bool (decide (x5.f0 < 0))), (10, .bool false), (11, .pointer (some ⟨b97, 0, none⟩)), (12, .int .i64 x5.f0), (13, .slice p2 x1.length c3), (14, .int .i64 (x1.length : Int)), (15, .bool (decide (x5.f0 ≥ (x1.length : Int)))), (16, .bool (decide (x5.f0 ≥ (x1.length : Int)))), (17, .bool true), (18, undef), (19, undef), (20, undef), (21, undef), (22, undef), (23, undef), (24, undef), (25, undef), (26, .bool true)] (by kernel_rfl) fun a hs hS => ?_
        refine d_done (by kernel_rfl) ?_
        obtain rfl := someE hx168
        exact (hJ169 _ _).2 ⟨true, hk, hs.cast [0, 3, 26] (by kernel_rfl), hw.pick [0, 1] (by kernel_rfl)⟩
      · replace hs := hs.altB 17 false (by kernel_rfl) h171
        refine d_pures (fuel := 7) kS99 hs hS [11, 12] [0, 3, 7, 8, 9, 10, 11, 12, 13, 14, 15, 16, 17, 18, 19] [(0, .slice p2 x1.length c3), (3, .pointer (some ⟨b97, 0, none⟩)), (7, .pointer (some ⟨b97, 0, none⟩)), (8, .int .i64 x5.f0), (9, .bool (decide (x5.f0 < 0))), (10, .bool false), (11, .pointer (some ⟨b97, 0, none⟩)), (12, .int .i64 x5.f0), (13, .slice p2 x1.length c3), (14, .int .i64 (x1.length : Int)), (15, .bool (decide (x5.f0 ≥ (x1.length : Int)))), (16, .bool (decide (x5.f0 ≥ (x1.length : Int)))), (17, .bool false), (18, .slice p2 x1.length c3), (19, .pointer (some ⟨b97, 0, none⟩))] (by kernel_rfl) fun a hs hS => ?_
        refine d_load (fuel := 6) kS99 hs hS 13 rfl (by kernel_rfl) (SX_box hS99 0 rfl (by kernel_rfl)) 0 (by kernel_rfl) (by kernel_rfl) (v := .int .i64 x5.f0) (by kernel_rfl) fun a hs hS => ?_
        obtain ⟨x172, h173, hx168⟩ := bindE hx168
        refine d_index (fuel := 5) kS99 hs hS 14 rfl (by kernel_rfl) h4 (by kernel_rfl) (by kernel_rfl) (k := .i64) (by kernel_rfl) 53 (by kernel_rfl) (by kernel_rfl) h173 fun a r174 cs henc at175 hs hS => ?_
        obtain ⟨p176, c177, rfl, h178⟩ := henc
        refine d_load (fuel := 4) kS99 hs hS 15 rfl (by kernel_rfl) (fun l w hu hS => at175 w ((SX_nil hS99 l w hu hS).anti (Le.refl _))) 0 (by kernel_rfl) (by kernel_rfl) (v := .agg #[.int .i64 x172.f0, .int .u64 x172.f1, .slice p176 x172.f2.length c177, .bool x172.f3, .int .i64 x172.f4]) (by kernel_rfl) fun a hs hS => ?_
        refine d_load (fuel := 3) kS99 hs hS 16 rfl (by kernel_rfl) (SX_box hS99 0 rfl (by kernel_rfl)) 0 (by kernel_rfl) (by kernel_rfl) (v := .agg #[.int .i64 x5.f0, .int .u64 x5.f1, .slice p6 x5.f2.length c7, .bool x5.f3, .int .i64 x5.f4]) (by kernel_rfl) fun a hs hS => ?_
        refine d_all (fuel := 2) (rs := [17]) (by kernel_rfl) (by simp) (all1 ?_)
        obtain ⟨y179, h180, hx168⟩ := bindE hx168
        refine o_call hs rfl (by kernel_rfl) (by kernel_rfl) (catenaryref19_Newer_s h180 h178 h8 ((hw.pick [0, 1] (by kernel_rfl)).pack 0)) fun a w v hv hs => ?_
        obtain ⟨rfl, hw⟩ := hv
        replace hw := hw.unpack 0 rfl
        refine dg_next (SX_now hS99 ((hw.vws [0, 1]).anti (Le.refl _)) (by kernel_rfl)) fun hS => ?_
        refine d_pures (fuel := 0) kS99 hs hS [18, 19] [0, 3, 7, 8, 9, 10, 11, 12, 13, 14, 15, 16, 17, 18, 19, 20, 21, 22, 23, 24, 25, 26] [(0, .slice p2 x1.length c3), (3, .pointer (some ⟨b97, 0, none⟩)), (7, .pointer (some ⟨b97, 0, none⟩)), (8, .int .i64 x5.f0), (9, .bool (decide (x5.f0 < 0))), (10, .bool false), (11, .pointer (some ⟨b97, 0, none⟩)), (12, .int .i64 x5.f0), (13, .slice p2 x1.length c3), (14, .int .i64 (x1.length : Int)), (15, .bool (decide (x5.f0 ≥ (x1.length : Int)))), (16, .bool (decide (x5.f0 ≥ (x1.length : Int)))), (17, .bool false), (18, .slice p2 x1.length c3), (19, .pointer (some ⟨b97, 0, none⟩)), (20, .int .i64 x5.f0), (21, .pointer (some r174)), (22, .agg #[.int .i64 x172.f0, .int .u64 x172.f1, .slice p176 x172.f2.length c177, .bool x172.f3, .int .i64 x172.f4]), (23, .agg #[.int .i64 x5.f0, .int .u64 x5.f1, .slice p6 x5.f2.length c7, .bool x5.f3, .int .i64 x5.f4]), (24, .bool y179), (25, .bool (!y179)), (26, .bool (!y179))] (by kernel_rfl) fun a hs hS => ?_
        refine d_done (by kernel_rfl) ?_
        obtain rfl := someE hx168
        exact (hJ169 _ _).2 ⟨(!y179), hk, hs.cast [0, 3, 26] (by kernel_rfl), hw.pick [0, 1] (by kernel_rfl)⟩
  · intro a w hh
    obtain ⟨x122, hk, hs, hw⟩ := (hJ169 _ _).1 hh
    rcases ifbE hk with ⟨h123, hk⟩ | ⟨h123, hk⟩
    · refine c_cond1 hs (by kernel_rfl) (t := x122) (by kernel_rfl) h123 ?_
      refine c_seq ?_
      refine c_region ?_
      refine pures hs 3 [4, 5] [(4, .slice p2 x1.length c3), (5, .bool false)] (by kernel_rfl) fun a hs => ?_
      refine s_end ?_
      refine wp_ret ?_
      obtain rfl := someE hk
      refine hQ _ _ (f_retN hs [.tmp 4, .tmp 5] rfl [.slice p2 x1.length c3, .bool false] (by kernel_rfl) (by kernel_rfl) ⟨ih, p2, c3, rfl, hw.pick [1] (by kernel_rfl), (Le.refl _), h4⟩)
    · refine c_cond0 hs (by kernel_rfl) (t := x122) (by kernel_rfl) h123 ?_
      refine wp_skip ?_
      refine c_seq ?_
      refine c_region ?_
      refine pures hs 1 [3, 28] [(3, .pointer (some ⟨b97, 0, none⟩)), (28, .slice p2 x1.length c3)] (by kernel_rfl) fun a hs => ?_
      replace hw := hw.nil
      obtain ⟨x134, h135, hk⟩ := bindE hk
      refine s_appS hs hw (E := e53) appT79 0 rfl (OSl.nil _ _) (by kernel_rfl) (by kernel_rfl) (h4.mono (Le.refl _)) (hw.vwAll.nil.anti (Le.refl _)) (by kernel_rfl) h135 fun a w p136 c137 d138 h139 hw hs => ?_
      refine pures hs 1 [3, 6] [(3, .pointer (some ⟨b97, 0, none⟩)), (6, .slice p136 x134.length c137)] (by kernel_rfl) fun a hs => ?_
      refine s_end ?_
      refine c_seq ?_
      refine c_region ?_
      refine pures hs 2 [3, 6, 30, 31] [(3, .pointer (some ⟨b97, 0, none⟩)), (6, .slice p136 x134.length c137), (30, .slice p136 x134.length c137), (31, .pointer (some ⟨b97, 0, none⟩))] (by kernel_rfl) fun a hs => ?_
      refine s_load hs (hw.at_ 1 rfl) 0 (by kernel_rfl) (by kernel_rfl) (v := .int .i64 x5.f0) (by kernel_rfl) fun a hs => ?_
      refine s_load hs (hw.at_ 1 rfl) 0 (by kernel_rfl) (by kernel_rfl) (v := .agg #[.int .i64 x5.f0, .int .u64 x5.f1, .slice p6 x5.f2.length c7, .bool x5.f3, .int .i64 x5.f4]) (by kernel_rfl) fun a hs => ?_
      obtain ⟨x152, h153, hk⟩ := bindE hk
      refine s_indexO hs h139 (by kernel_rfl) (by kernel_rfl) (k := .i64) (by kernel_rfl) 53 (by kernel_rfl) (by kernel_rfl) h153 fun a r154 cs henc at155 h159 hs => ?_
      obtain ⟨p156, c157, rfl, h158⟩ := henc
      refine s_storeE hs hw 0 rfl h139 h159 x5 h153 0 (by kernel_rfl) (by kernel_rfl) (v := .agg #[.int .i64 x5.f0, .int .u64 x5.f1, .slice p6 x5.f2.length c7, .bool x5.f3, .int .i64 x5.f4]) (by kernel_rfl) (by kernel_rfl) (by kernel_rfl) (by kernel_rfl) ⟨p156, c157, rfl, h158⟩ (fun w hv => at155 w (hv.anti (Le.refl _))) ⟨p6, c7, rfl, h8⟩ fun a w d160 h161 hw hs => ?_
      have h163 : x134.length = (x134.set x5.f0.toNat x5).length := List.length_set.symm
      try rw [h163] at hs
      try rw [h163] at hw
      refine s_end ?_
      refine c_seq ?_
      refine c_region ?_
      refine pures hs 3 [4, 5] [(4, .slice p136 (x134.set x5.f0.toNat x5).length c137), (5, .bool true)] (by kernel_rfl) fun a hs => ?_
      refine s_end ?_
      refine wp_ret ?_
      obtain ⟨ih164, hle165, hw, h166⟩ := (hw.pick [0, 1, 2] (by kernel_rfl)).fz (h161.mono (Le.refl _))
      obtain rfl := someE hk
      refine hQ _ _ (f_retN hs [.tmp 4, .tmp 5] rfl [.slice p136 (x134.set x5.f0.toNat x5).length c137, .bool true] (by kernel_rfl) (by kernel_rfl) ⟨ih164, p136, c137, rfl, hw.pick [1] (by kernel_rfl), hle165, h166⟩)
def atlas_Atlas_Learn_r2 : Option Bool :=
  some false
def atlas_Atlas_Learn (x1 : M53) : Option Bool :=
  (if (decide (x1.f0 < 0)) = true then some ()
    else (atlas_Atlas_Chains).bind fun y45 =>
    if (decide (x1.f0 ≥ y45)) = true then some ()
    else none : Option Unit).bind fun _ => atlas_Atlas_Learn_r2
theorem atlas_Atlas_Learn_s {x1 : M53} {p2 : Option Addr} {c3 : Nat} {r : Bool} (hk : atlas_Atlas_Learn x1 = some r) {g w : World} {F : Ch} {ih : IH} (h4 : RSl e3 ih [] p2 c3 x1.f2) (hw : St g w [F] ih) :
    CallsR Try.prog 59 #[.pointer none, .agg #[.int .i64 x1.f0, .int .u64 x1.f1, .slice p2 x1.f2.length c3, .bool x1.f3, .int .i64 x1.f4]] w fun v w' => v = .bool r ∧ St g w' [F] ih := by
  refine f_in (vs := [.pointer none, .agg #[.int .i64 x1.f0, .int .u64 x1.f1, .slice p2 x1.f2.length c3, .bool x1.f3, .int .i64 x1.f4]]) Try.func59 rfl 40 rfl (by kernel_rfl) [(0, .pointer none), (1, .agg #[.int .i64 x1.f0, .int .u64 x1.f1, .slice p2 x1.f2.length c3, .bool x1.f3, .int .i64 x1.f4])] (by kernel_rfl) fun a Qf hQ hQn hs => ?_
  refine c_seq ?_
  refine c_region ?_
  refine s_new hs hw [.int .i64 x1.f0, .int .u64 x1.f1, .slice p2 x1.f2.length c3, .bool x1.f3, .int .i64 x1.f4] 53 (fun b => .pointer (some ⟨b, 0, none⟩)) (by kernel_rfl) (fun _ => by kernel_rfl) fun a w b30 hs hw => ?_
  refine pures hs 1 [0, 3] [(0, .pointer none), (3, .pointer (some ⟨b30, 0, none⟩))] (by kernel_rfl) fun a hs => ?_
  refine s_end ?_
  refine c_seq ?_
  refine c_seq ?_
  obtain ⟨S32, hS32, kS32⟩ := mkSX (X := [([], bx b30 [.int .i64 x1.f0, .int .u64 x1.f1, .slice p2 x1.f2.length c3, .bool x1.f3, .int .i64 x1.f4] 53), ([], F)]) (ih := ih) (K := []) rfl
  obtain ⟨y41, hx42, hk⟩ := bindE hk
  obtain ⟨J43, hJ43⟩ : ∃ J : Act → World → Prop, ∀ a w, J a w ↔ (atlas_Atlas_Learn_r2 = some r ∧ Sees a 40 [(0, .pointer none), (3, .pointer (some ⟨b30, 0, none⟩)), (27, .bool true)] ∧ St g w [bx b30 [.int .i64 x1.f0, .int .u64 x1.f1, .slice p2 x1.f2.length c3, .bool x1.f3, .int .i64 x1.f4] 53, F] ih) := ⟨_, fun _ _ => Iff.rfl⟩
  refine c_draw (by kernel_rfl) (N := 23) rfl S32 J43 ?_ ?_
  · have hw := hw.drew
    have hS : S32 (Array.replicate 23 false) _ := SX_now hS32 (hw.vws [0, 1]) (by kernel_rfl)
    refine d_pures (fuel := 22) kS32 hs hS [0] [0, 3, 5] [(0, .pointer none), (3, .pointer (some ⟨b30, 0, none⟩)), (5, .pointer (some ⟨b30, 0, none⟩))] (by kernel_rfl) fun a hs hS => ?_
    refine d_load (fuel := 21) kS32 hs hS 1 rfl (by kernel_rfl) (SX_box hS32 0 rfl (by kernel_rfl)) 0 (by kernel_rfl) (by kernel_rfl) (v := .int .i64 x1.f0) (by kernel_rfl) fun a hs hS => ?_
    refine d_pures (fuel := 19) kS32 hs hS [2, 3] [0, 3, 5, 6, 7, 8] [(0, .pointer none), (3, .pointer (some ⟨b30, 0, none⟩)), (5, .pointer (some ⟨b30, 0, none⟩)), (6, .int .i64 x1.f0), (7, .bool (decide (x1.f0 < 0))), (8, .bool (decide (x1.f0 < 0)))] (by kernel_rfl) fun a hs hS => ?_
    rcases ifbE hx42 with ⟨h44, hx42⟩ | ⟨h44, hx42⟩
    · replace hs := hs.altB 8 true (by kernel_rfl) h44
      refine d_pures (fuel := 0) kS32 hs hS [4, 5, 6, 7, 8, 9, 10, 11, 12, 13, 14, 15, 16, 17, 18, 19, 20, 21, 22] [0, 3, 5, 6, 7, 8, 9, 10, 11, 12, 13, 14, 15, 16, 17, 18, 19, 20, 21, 22, 23, 24, 25, 26, 27] [(0, .pointer none), (3, .pointer (some ⟨b30, 0, none⟩)), (5, .pointer (some ⟨b30, 0, none⟩)), (6, .int .i64 x1.f0), (7, .bool (decide (x1.f0 < 0))), (8, .bool true), (9, undef), (10, undef), (11, undef), (12, undef), (13, undef), (14, .bool true), (15, .bool true), (16, undef), (17, undef), (18, undef), (19, undef), (20, undef), (21, undef), (22, undef), (23, undef), (24, undef), (25, undef), (26, undef), (27, .bool true)] (by kernel_rfl) fun a hs hS => ?_
      refine d_done (by kernel_rfl) ?_
      obtain rfl := someE hx42
      exact (hJ43 _ _).2 ⟨hk, hs.cast [0, 3, 27] (by kernel_rfl), hw.pick [0, 1] (by kernel_rfl)⟩
    · replace hs := hs.altB 8 false (by kernel_rfl) h44
      refine d_pures (fuel := 18) kS32 hs hS [4] [0, 3, 5, 6, 7, 8, 9] [(0, .pointer none), (3, .pointer (some ⟨b30, 0, none⟩)), (5, .pointer (some ⟨b30, 0, none⟩)), (6, .int .i64 x1.f0), (7, .bool (decide (x1.f0 < 0))), (8, .bool false), (9, .pointer (some ⟨b30, 0, none⟩))] (by kernel_rfl) fun a hs hS => ?_
      refine d_load (fuel := 17) kS32 hs hS 5 rfl (by kernel_rfl) (SX_box hS32 0 rfl (by kernel_rfl)) 0 (by kernel_rfl) (by kernel_rfl) (v := .int .i64 x1.f0) (by kernel_rfl) fun a hs hS => ?_
      refine d_pures (fuel := 16) kS32 hs hS [6] [0, 3, 5, 6, 7, 8, 9, 10, 11] [(0, .pointer none), (3, .pointer (some ⟨b30, 0, none⟩)), (5, .pointer (some ⟨b30, 0, none⟩)), (6, .int .i64 x1.f0), (7, .bool (decide (x1.f0 < 0))), (8, .bool false), (9, .pointer (some ⟨b30, 0, none⟩)), (10, .int .i64 x1.f0), (11, .pointer none)] (by kernel_rfl) fun a hs hS => ?_
      refine d_all (fuel := 15) (rs := [7]) (by kernel_rfl) (by simp) (all1 ?_)
      obtain ⟨y45, h46, hx42⟩ := bindE hx42
      refine o_call hs rfl (by kernel_rfl) (by kernel_rfl) (atlas_Atlas_Chains_s h46 ((hw.pick [0, 1] (by kernel_rfl)).pack 0)) fun a w v hv hs => ?_
      obtain ⟨rfl, hw⟩ := hv
      replace hw := hw.unpack 0 rfl
      refine dg_next (SX_now hS32 ((hw.vws [0, 1]).anti (Le.refl _)) (by kernel_rfl)) fun hS => ?_
      refine d_pures (fuel := 12) kS32 hs hS [8, 9, 10] [0, 3, 5, 6, 7, 8, 9, 10, 11, 12, 13, 14, 15] [(0, .pointer none), (3, .pointer (some ⟨b30, 0, none⟩)), (5, .pointer (some ⟨b30, 0, none⟩)), (6, .int .i64 x1.f0), (7, .bool (decide (x1.f0 < 0))), (8, .bool false), (9, .pointer (some ⟨b30, 0, none⟩)), (10, .int .i64 x1.f0), (11, .pointer none), (12, .int .i64 y45), (13, .bool (decide (x1.f0 ≥ y45))), (14, .bool (decide (x1.f0 ≥ y45))), (15, .bool (decide (x1.f0 ≥ y45)))] (by kernel_rfl) fun a hs hS => ?_
      rcases ifbE hx42 with ⟨h47, hx42⟩ | ⟨h47, hx42⟩
      · replace hs := hs.altB 15 true (by kernel_rfl) h47
        refine d_pures (fuel := 0) kS32 hs hS [11, 12, 13, 14, 15, 16, 17, 18, 19, 20, 21, 22] [0, 3, 5, 6, 7, 8, 9, 10, 11, 12, 13, 14, 15, 16, 17, 18, 19, 20, 21, 22, 23, 24, 25, 26, 27] [(0, .pointer none), (3, .pointer (some ⟨b30, 0, none⟩)), (5, .pointer (some ⟨b30, 0, none⟩)), (6, .int .i64 x1.f0), (7, .bool (decide (x1.f0 < 0))), (8, .bool false), (9, .pointer (some ⟨b30, 0, none⟩)), (10, .int .i64 x1.f0), (11, .pointer none), (12, .int .i64 y45), (13, .bool (decide (x1.f0 ≥ y45))), (14, .bool (decide (x1.f0 ≥ y45))), (15, .bool true), (16, undef), (17, undef), (18, undef), (19, undef), (20, undef), (21, undef), (22, undef), (23, undef), (24, undef), (25, undef), (26, undef), (27, .bool true)] (by kernel_rfl) fun a hs hS => ?_
        refine d_done (by kernel_rfl) ?_
        obtain rfl := someE hx42
        exact (hJ43 _ _).2 ⟨hk, hs.cast [0, 3, 27] (by kernel_rfl), hw.pick [0, 1] (by kernel_rfl)⟩
      · replace hs := hs.altB 15 false (by kernel_rfl) h47
        cases hx42
  · intro a w hh
    obtain ⟨hk, hs, hw⟩ := (hJ43 _ _).1 hh
    refine c_condT hs (by kernel_rfl) (by kernel_rfl) ?_
    refine c_seq ?_
    refine c_region ?_
    refine pures hs 1 [4] [(4, .bool false)] (by kernel_rfl) fun a hs => ?_
    refine s_end ?_
    refine wp_ret ?_
    obtain rfl := someE hk
    refine hQ _ _ (f_ret1 hs rfl (v := .bool false) (by kernel_rfl) ⟨rfl, hw.pick [1] (by kernel_rfl)⟩)
def atlas_Atlas_Confs_2 : Option (List M53) :=
  some ([])
theorem atlas_Atlas_Confs_2_s {r : (List M53)} (hk : atlas_Atlas_Confs_2 = some r) {g w : World} {F : Ch} {ih : IH} (hw : St g w [F] ih) :
    CallsR Try.prog 61 #[.pointer none] w fun v w' => ∃ (p5 : Option Addr) (c6 : Nat) (d7 : Ch), v = .slice p5 r.length c6 ∧ St g w' [d7, F] ih ∧ OSl e53 ih p5 c6 r d7 := by
  refine f_in (vs := [.pointer none]) Try.func61 rfl 10 rfl (by kernel_rfl) [(0, .pointer none)] (by kernel_rfl) fun a Qf hQ hQn hs => ?_
  refine c_seq ?_
  refine c_region ?_
  refine pures hs 1 [0] [(0, .pointer none)] (by kernel_rfl) fun a hs => ?_
  refine s_end ?_
  refine c_seq ?_
  refine c_seq ?_
  refine c_region ?_
  refine pures hs 2 [0, 4] [(0, .pointer none), (4, .bool true)] (by kernel_rfl) fun a hs => ?_
  refine s_end ?_
  refine c_condT hs (by kernel_rfl) (by kernel_rfl) ?_
  refine c_seq ?_
  refine c_region ?_
  refine pures hs 1 [2] [(2, .slice none 0 0)] (by kernel_rfl) fun a hs => ?_
  refine s_end ?_
  refine wp_ret ?_
  replace hw := hw.nil
  obtain rfl := someE hk
  refine hQ _ _ (f_ret1 hs rfl (v := .slice none 0 0) (by kernel_rfl) ⟨none, 0, ([]), rfl, hw.pick [0, 1] (by kernel_rfl), (OSl.nil _ _)⟩)
def catenaryref04_Same_r10 : Option Bool :=
  some true
def catenaryref04_Same_r12 (rec_catenaryref04_Same_l11 : Int → Option (Sum Bool Unit)) (x217 : Int) (x272 : Bool) : Option (Sum Bool Unit) :=
  if x272 = true then some (.inl false)
  else rec_catenaryref04_Same_l11 (IntKind.i64.wrap (x217 + 1))
def catenaryref04_Same_l11 (x1 : List Int) (x7 : List Int) : Nat → Int → Option (Sum Bool Unit)
  | 0, _ => none
  | j + 1, x217 =>
    if (decide (x217 < (x1.length : Int))) = true then (
      ((ix x1 x217).bind fun x277 =>
        (ix x7 x217).bind fun x281 =>
        some (x277 != x281) : Option Bool).bind fun s285 => catenaryref04_Same_r12 (catenaryref04_Same_l11 x1 x7 j) x217 s285)
    else some (.inr ())
def catenaryref04_Same (k : Nat) (x1 : List Int) (x7 : List Int) : Option Bool :=
  if ((x1.length : Int) != (x7.length : Int)) = true then some false
  else (catenaryref04_Same_l11 x1 x7 k 0 : Option (Sum Bool Unit)).bind fun
    | .inl z => some z
    | .inr _ => catenaryref04_Same_r10
theorem catenaryref04_Same_s {k : Nat} {x1 : List Int} {x7 : List Int} {p2 : Option Addr} {c3 : Nat} {d5 : Ch} {p8 : Option Addr} {c9 : Nat} {d11 : Ch} {r : Bool} (hk : catenaryref04_Same k x1 x7 = some r) {g w : World} {F : Ch} {ih : IH} (h4 : RSl e3 ih d5 p2 c3 x1) (h6 : ∀ q ∈ d5, q ∈ F) (h10 : RSl e3 ih d11 p8 c9 x7) (h12 : ∀ q ∈ d11, q ∈ F) (hw : St g w [F] ih) :
    CallsR Try.prog 96 #[.slice p2 x1.length c3, .slice p8 x7.length c9] w fun v w' => v = .bool r ∧ St g w' [F] ih := by
  refine f_in (vs := [.slice p2 x1.length c3, .slice p8 x7.length c9]) Try.func96 rfl 26 rfl (by kernel_rfl) [(0, .slice p2 x1.length c3), (1, .slice p8 x7.length c9)] (by kernel_rfl) fun a Qf hQ hQn hs => ?_
  refine c_seq ?_
  refine c_region ?_
  refine pures hs 1 [0, 1] [(0, .slice p2 x1.length c3), (1, .slice p8 x7.length c9)] (by kernel_rfl) fun a hs => ?_
  refine s_end ?_
  refine c_seq ?_
  refine c_seq ?_
  refine c_region ?_
  refine pures hs 5 [0, 1, 10] [(0, .slice p2 x1.length c3), (1, .slice p8 x7.length c9), (10, .bool ((x1.length : Int) != (x7.length : Int)))] (by kernel_rfl) fun a hs => ?_
  refine s_end ?_
  rcases ifbE hk with ⟨h151, hk⟩ | ⟨h151, hk⟩
  · refine c_cond1 hs (by kernel_rfl) (t := ((x1.length : Int) != (x7.length : Int))) (by kernel_rfl) h151 ?_
    refine c_seq ?_
    refine c_region ?_
    refine pures hs 1 [4] [(4, .bool false)] (by kernel_rfl) fun a hs => ?_
    refine s_end ?_
    refine wp_ret ?_
    obtain rfl := someE hk
    refine hQ _ _ (f_ret1 hs rfl (v := .bool false) (by kernel_rfl) ⟨rfl, hw.pick [0] (by kernel_rfl)⟩)
  · refine c_cond0 hs (by kernel_rfl) (t := ((x1.length : Int) != (x7.length : Int))) (by kernel_rfl) h151 ?_
    refine wp_skip ?_
    refine c_seq ?_
    refine c_seq ?_
    refine c_region ?_
    refine pures hs 1 [0, 1, 5] [(0, .slice p2 x1.length c3), (1, .slice p8 x7.length c9), (5, .int .i64 0)] (by kernel_rfl) fun a hs => ?_
    refine s_end ?_
    refine c_block ?_
    obtain ⟨y250, hx251, hk⟩ := bindE hk
    obtain ⟨J252, hJ252⟩ : ∃ J : Act → World → Prop, ∀ a w, J a w ↔ (catenaryref04_Same_r10 = some r ∧ Sees a 26 [] ∧ St g w [F] ih) := ⟨_, fun _ _ => Iff.rfl⟩
    obtain ⟨I253, hI253⟩ : ∃ J : Nat → Act → World → Prop, ∀ j a w, J j a w ↔ (∃ (x217 : Int), catenaryref04_Same_l11 x1 x7 j x217 = some y250 ∧ Sees a 26 [(0, .slice p2 x1.length c3), (1, .slice p8 x7.length c9), (5, .int .i64 x217)] ∧ St g w [F] ih) := ⟨_, fun _ _ _ => Iff.rfl⟩
    refine c_exitJ 0 J252 ?_ ?_
    · refine c_loop I253 k ((hI253 _ _ _).2 ⟨0, hx251, hs.cast [0, 1, 5] (by kernel_rfl), hw.pick [0] (by kernel_rfl)⟩) (fun a w h0 => ?_) fun j a w hh => ?_
      · obtain ⟨_, h, _⟩ := (hI253 _ _ _).1 h0
        cases h
      · obtain ⟨x217, hx251, hs, hw⟩ := (hI253 _ _ _).1 hh
        refine c_seq ?_
        refine c_seq ?_
        refine c_region ?_
        refine pures hs 4 [0, 1, 5, 14] [(0, .slice p2 x1.length c3), (1, .slice p8 x7.length c9), (5, .int .i64 x217), (14, .bool (decide (x217 < (x1.length : Int))))] (by kernel_rfl) fun a hs => ?_
        refine s_end ?_
        rcases ifbE hx251 with ⟨h254, hx251⟩ | ⟨h254, hx251⟩
        · refine c_cond1 hs (by kernel_rfl) (t := (decide (x217 < (x1.length : Int)))) (by kernel_rfl) h254 ?_
          refine wp_skip ?_
          refine c_seq ?_
          refine c_block ?_
          refine c_seq ?_
          obtain ⟨S255, hS255, kS255⟩ := mkSX (X := [([], F)]) (ih := ih) (K := []) rfl
          obtain ⟨y274, hx275, hx251⟩ := bindE hx251
          obtain ⟨J276, hJ276⟩ : ∃ J : Act → World → Prop, ∀ a w, J a w ↔ (∃ (x272 : Bool), catenaryref04_Same_r12 (catenaryref04_Same_l11 x1 x7 j) x217 x272 = some y250 ∧ Sees a 26 [(0, .slice p2 x1.length c3), (1, .slice p8 x7.length c9), (5, .int .i64 x217), (25, .bool x272)] ∧ St g w [F] ih) := ⟨_, fun _ _ => Iff.rfl⟩
          refine c_draw (by kernel_rfl) (N := 9) rfl S255 J276 ?_ ?_
          · have hw := hw.drew
            have hS : S255 (Array.replicate 9 false) _ := SX_now hS255 (hw.vws [0]) (by kernel_rfl)
            refine d_pures (fuel := 7) kS255 hs hS [0, 1] [0, 1, 5, 17, 18] [(0, .slice p2 x1.length c3), (1, .slice p8 x7.length c9), (5, .int .i64 x217), (17, .slice p2 x1.length c3), (18, .int .i64 x217)] (by kernel_rfl) fun a hs hS => ?_
            obtain ⟨x277, h278, hx275⟩ := bindE hx275
            refine d_index (fuel := 6) kS255 hs hS 2 rfl (by kernel_rfl) h4 (by kernel_rfl) (by kernel_rfl) (k := .i64) (by kernel_rfl) 3 (by kernel_rfl) (by kernel_rfl) h278 fun a r279 cs henc at280 hs hS => ?_
            obtain rfl := henc
            refine d_load (fuel := 5) kS255 hs hS 3 rfl (by kernel_rfl) (fun l w hu hS => at280 w (((SX_ch hS255 0 rfl (by kernel_rfl) l w hu hS).sub h6).anti (Le.refl _))) 0 (by kernel_rfl) (by kernel_rfl) (v := .int .i64 x277) (by kernel_rfl) fun a hs hS => ?_
            refine d_pures (fuel := 3) kS255 hs hS [4, 5] [0, 1, 5, 17, 18, 19, 20, 21, 22] [(0, .slice p2 x1.length c3), (1, .slice p8 x7.length c9), (5, .int .i64 x217), (17, .slice p2 x1.length c3), (18, .int .i64 x217), (19, .pointer (some r279)), (20, .int .i64 x277), (21, .slice p8 x7.length c9), (22, .int .i64 x217)] (by kernel_rfl) fun a hs hS => ?_
            obtain ⟨x281, h282, hx275⟩ := bindE hx275
            refine d_index (fuel := 2) kS255 hs hS 6 rfl (by kernel_rfl) h10 (by kernel_rfl) (by kernel_rfl) (k := .i64) (by kernel_rfl) 3 (by kernel_rfl) (by kernel_rfl) h282 fun a r283 cs henc at284 hs hS => ?_
            obtain rfl := henc
            refine d_load (fuel := 1) kS255 hs hS 7 rfl (by kernel_rfl) (fun l w hu hS => at284 w (((SX_ch hS255 0 rfl (by kernel_rfl) l w hu hS).sub h12).anti (Le.refl _))) 0 (by kernel_rfl) (by kernel_rfl) (v := .int .i64 x281) (by kernel_rfl) fun a hs hS => ?_
            refine d_pures (fuel := 0) kS255 hs hS [8] [0, 1, 5, 17, 18, 19, 20, 21, 22, 23, 24, 25] [(0, .slice p2 x1.length c3), (1, .slice p8 x7.length c9), (5, .int .i64 x217), (17, .slice p2 x1.length c3), (18, .int .i64 x217), (19, .pointer (some r279)), (20, .int .i64 x277), (21, .slice p8 x7.length c9), (22, .int .i64 x217), (23, .pointer (some r283)), (24, .int .i64 x281), (25, .bool (x277 != x281))] (by kernel_rfl) fun a hs hS => ?_
            refine d_done (by kernel_rfl) ?_
            obtain rfl := someE hx275
            exact (hJ276 _ _).2 ⟨(x277 != x281), hx251, hs.cast [0, 1, 5, 25] (by kernel_rfl), hw.pick [0] (by kernel_rfl)⟩
          · intro a w hh
            obtain ⟨x272, hx251, hs, hw⟩ := (hJ276 _ _).1 hh
            rcases ifbE hx251 with ⟨h273, hx251⟩ | ⟨h273, hx251⟩
            · refine c_cond1 hs (by kernel_rfl) (t := x272) (by kernel_rfl) h273 ?_
              refine c_seq ?_
              refine c_region ?_
              refine pures hs 1 [4] [(4, .bool false)] (by kernel_rfl) fun a hs => ?_
              refine s_end ?_
              refine wp_ret ?_
              obtain rfl := someE hx251
              obtain rfl := someE hk
              refine hQ _ _ (f_ret1 hs rfl (v := .bool false) (by kernel_rfl) ⟨rfl, hw.pick [0] (by kernel_rfl)⟩)
            · refine c_cond0 hs (by kernel_rfl) (t := x272) (by kernel_rfl) h273 ?_
              refine wp_skip ?_
              refine c_region ?_
              refine pures hs 3 [0, 1, 5] [(0, .slice p2 x1.length c3), (1, .slice p8 x7.length c9), (5, .int .i64 (IntKind.i64.wrap (x217 + 1)))] (by kernel_rfl) fun a hs => ?_
              refine s_end ?_
              exact (hI253 _ _ _).2 ⟨(IntKind.i64.wrap (x217 + 1)), hx251, hs.cast [0, 1, 5] (by kernel_rfl), hw.pick [0] (by kernel_rfl)⟩
        · refine c_cond0 hs (by kernel_rfl) (t := (decide (x217 < (x1.length : Int)))) (by kernel_rfl) h254 ?_
          refine wp_exit ?_
          obtain rfl := someE hx251
          exact (hJ252 _ _).2 ⟨hk, hs.cast [] (by kernel_rfl), hw.pick [0] (by kernel_rfl)⟩
    · intro a w hh
      obtain ⟨hk, hs, hw⟩ := (hJ252 _ _).1 hh
      refine c_seq ?_
      refine c_region ?_
      refine pures hs 1 [4] [(4, .bool true)] (by kernel_rfl) fun a hs => ?_
      refine s_end ?_
      refine wp_ret ?_
      obtain rfl := someE hk
      refine hQ _ _ (f_ret1 hs rfl (v := .bool true) (by kernel_rfl) ⟨rfl, hw.pick [0] (by kernel_rfl)⟩)
end Go.Proofs.Ytfpppgbibgbllaa.Sx
