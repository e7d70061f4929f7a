/- The walk of BagGoes: each Go function that it calls, as a plain function, and the proof that the call computes it. Printed by the program gen.py.
   Conditions: those that each theorem states ahead of its colon, and no other. -/
import Derived.Test.YtfpppgbibgbllaaSx9
import Derived.Test.YtfpppgbibgbllaaProg
namespace Go.Proofs.Ytfpppgbibgbllaa.Sx
open Go Go.Proofs
set_option maxRecDepth 100000
set_option linter.unusedVariables false
@[reducible] def e3 : ET := eInt .i64 3
structure M106 where
  f0 : Int
  f1 : Int
@[reducible] def e106 : ET := ⟨M106, 2, 106, fun ih x cs => cs = [.int .i64 x.f0, .int .i64 x.f1],
  fun h => by rw [h]; rfl, fun h => by rw [h]; rfl, fun h hle => h⟩
theorem appT102 : AppT Try.prog 102 e106 := appT_of (by kernel_rfl)
def bag_New_int (x1 : Int) : Option (Int × Int × (List M106)) :=
  some ((if 0 > x1 then 0 else x1), 0, [])
theorem bag_New_int_s {x1 : Int} {r : Int × Int × (List M106)} (hk : bag_New_int x1 = some r) {g w : World} {F : Ch} {ih : IH} (hw : St g w [F] ih) :
    CallsR Try.prog 24 #[.int .i64 x1] w fun v w' => ∃ (b14 : Nat) (p15 : Option Addr) (c16 : Nat) (d17 : Ch), v = .pointer (some ⟨b14, 0, none⟩) ∧ St g w' [bx b14 [.int .i64 r.1, .int .i64 r.2.1, .slice p15 r.2.2.length c16] 104, d17, F] ih ∧ OSl e106 ih p15 c16 r.2.2 d17 := by
  refine f_in (vs := [.int .i64 x1]) Try.func24 rfl 7 rfl (by kernel_rfl) [(0, .int .i64 x1)] (by kernel_rfl) fun a Qf hQ hQn hs => ?_
  refine c_seq ?_
  refine c_region ?_
  refine pures hs 1 [0] [(0, .int .i64 x1)] (by kernel_rfl) fun a hs => ?_
  refine s_end ?_
  refine c_seq ?_
  refine c_region ?_
  refine pures hs 3 [5] [(5, .agg #[.int .i64 (if 0 > x1 then 0 else x1), .int .i64 0, .slice none 0 0])] (by kernel_rfl) fun a hs => ?_
  refine s_new hs hw [.int .i64 (if 0 > x1 then 0 else x1), .int .i64 0, .slice none 0 0] 104 (fun b => .pointer (some ⟨b, 0, none⟩)) (by kernel_rfl) (fun _ => by kernel_rfl) fun a w b10 hs hw => ?_
  refine pures hs 1 [2] [(2, .pointer (some ⟨b10, 0, none⟩))] (by kernel_rfl) fun a hs => ?_
  refine s_end ?_
  refine c_ret ?_
  replace hw := hw.nil
  obtain rfl := someE hk
  refine hQ _ _ (f_ret1 hs rfl (v := .pointer (some ⟨b10, 0, none⟩)) (by kernel_rfl) ⟨b10, none, 0, ([]), rfl, hw.pick [1, 0, 2] (by kernel_rfl), (OSl.nil _ _)⟩)
def bag_Bag_int_Put_r3 (x4 : Int) (x74 : List M106) : Option (Int × Int × Int × (List M106)) :=
  some (IntKind.i64.wrap (x4 + 1), 0, IntKind.i64.wrap (x4 + 1), x74)
def bag_Bag_int_Put_r4 (x5 : List M106) (x3 : Int) (x4 : Int) (x11 : Int) : Option (Int × Int × Int × (List M106)) :=
  if (decide ((x5.length : Int) ≥ x3)) = true then some (0, 9, x4, x5)
  else ((app x5 [(M106.mk (IntKind.i64.wrap (x4 + 1)) x11)]).bind fun x85 =>
    some x85 : Option (List M106)).bind fun s91 => bag_Bag_int_Put_r3 x4 s91
def bag_Bag_int_Put (x3 : Int) (x4 : Int) (x5 : List M106) (x11 : Int) : Option (Int × Int × Int × (List M106)) :=
  (some () : Option Unit).bind fun _ => bag_Bag_int_Put_r4 x5 x3 x4 x11
theorem bag_Bag_int_Put_s {x3 : Int} {x4 : Int} {x5 : List M106} {x11 : Int} {b2 : Nat} {p6 : Option Addr} {c7 : Nat} {d9 : Ch} {r : Int × Int × Int × (List M106)} (hk : bag_Bag_int_Put x3 x4 x5 x11 = some r) {g w : World} {F : Ch} {ih : IH} (h8 : OSl e106 ih p6 c7 x5 d9) (hw : St g w [bx b2 [.int .i64 x3, .int .i64 x4, .slice p6 x5.length c7] 104, d9, F] ih) :
    CallsR Try.prog 25 #[.pointer (some ⟨b2, 0, none⟩), .int .i64 x11] w fun v w' => ∃ (p96 : Option Addr) (c97 : Nat) (d98 : Ch), v = .tuple #[.int .i64 r.1, .int .i64 r.2.1] ∧ St g w' [bx b2 [.int .i64 x3, .int .i64 r.2.2.1, .slice p96 r.2.2.2.length c97] 104, d98, F] ih ∧ OSl e106 ih p96 c97 r.2.2.2 d98 := by
  refine f_in (vs := [.pointer (some ⟨b2, 0, none⟩), .int .i64 x11]) Try.func25 rfl 46 rfl (by kernel_rfl) [(0, .pointer (some ⟨b2, 0, none⟩)), (1, .int .i64 x11)] (by kernel_rfl) fun a Qf hQ hQn hs => ?_
  refine c_seq ?_
  refine c_region ?_
  refine pures hs 2 [0, 1] [(0, .pointer (some ⟨b2, 0, none⟩)), (1, .int .i64 x11)] (by kernel_rfl) fun a hs => ?_
  refine s_end ?_
  refine c_seq ?_
  refine c_block ?_
  refine c_seq ?_
  refine c_region ?_
  refine pures hs 3 [0, 1, 6] [(0, .pointer (some ⟨b2, 0, none⟩)), (1, .int .i64 x11), (6, .bool false)] (by kernel_rfl) fun a hs => ?_
  refine s_end ?_
  refine c_condF hs (by kernel_rfl) (by kernel_rfl) ?_
  refine c_seq ?_
  obtain ⟨S55, hS55, kS55⟩ := mkSX (X := [([], bx b2 [.int .i64 x3, .int .i64 x4, .slice p6 x5.length c7] 104), ([], d9), ([], F)]) (ih := ih) (K := []) rfl
  obtain ⟨y92, hx93, hk⟩ := bindE hk
  obtain ⟨J94, hJ94⟩ : ∃ J : Act → World → Prop, ∀ a w, J a w ↔ (bag_Bag_int_Put_r4 x5 x3 x4 x11 = some r ∧ Sees a 46 [(0, .pointer (some ⟨b2, 0, none⟩)), (1, .int .i64 x11), (9, .bool (decide ((x5.length : Int) ≥ x3)))] ∧ St g w [bx b2 [.int .i64 x3, .int .i64 x4, .slice p6 x5.length c7] 104, d9, F] ih) := ⟨_, fun _ _ => Iff.rfl⟩
  refine c_draw (by kernel_rfl) (N := 11) rfl S55 J94 ?_ ?_
  · have hw := hw.drew
    have hS : S55 (Array.replicate 11 false) _ := SX_now hS55 (hw.vws [0, 1, 2]) (by kernel_rfl)
    refine d_pures (fuel := 8) kS55 hs hS [0, 1, 2] [0, 1, 10, 11, 12] [(0, .pointer (some ⟨b2, 0, none⟩)), (1, .int .i64 x11), (10, .pointer (some ⟨b2, 0, none⟩)), (11, .pointer (some ⟨b2, 0, none⟩)), (12, .pointer (some ⟨b2, 2, none⟩))] (by kernel_rfl) fun a hs hS => ?_
    refine d_load (fuel := 7) kS55 hs hS 3 rfl (by kernel_rfl) (SX_box hS55 0 rfl (by kernel_rfl)) 2 (by kernel_rfl) (by kernel_rfl) (v := .slice p6 x5.length c7) (by kernel_rfl) fun a hs hS => ?_
    refine d_pures (fuel := 3) kS55 hs hS [4, 5, 6, 7] [0, 1, 10, 11, 12, 13, 14, 15, 16, 17] [(0, .pointer (some ⟨b2, 0, none⟩)), (1, .int .i64 x11), (10, .pointer (some ⟨b2, 0, none⟩)), (11, .pointer (some ⟨b2, 0, none⟩)), (12, .pointer (some ⟨b2, 2, none⟩)), (13, .slice p6 x5.length c7), (14, .int .i64 (x5.length : Int)), (15, .pointer (some ⟨b2, 0, none⟩)), (16, .pointer (some ⟨b2, 0, none⟩)), (17, .pointer (some ⟨b2, 0, none⟩))] (by kernel_rfl) fun a hs hS => ?_
    refine d_load (fuel := 2) kS55 hs hS 8 rfl (by kernel_rfl) (SX_box hS55 0 rfl (by kernel_rfl)) 0 (by kernel_rfl) (by kernel_rfl) (v := .int .i64 x3) (by kernel_rfl) fun a hs hS => ?_
    refine d_pures (fuel := 0) kS55 hs hS [9, 10] [0, 1, 10, 11, 12, 13, 14, 15, 16, 17, 18, 19, 9] [(0, .pointer (some ⟨b2, 0, none⟩)), (1, .int .i64 x11), (10, .pointer (some ⟨b2, 0, none⟩)), (11, .pointer (some ⟨b2, 0, none⟩)), (12, .pointer (some ⟨b2, 2, none⟩)), (13, .slice p6 x5.length c7), (14, .int .i64 (x5.length : Int)), (15, .pointer (some ⟨b2, 0, none⟩)), (16, .pointer (some ⟨b2, 0, none⟩)), (17, .pointer (some ⟨b2, 0, none⟩)), (18, .int .i64 x3), (19, .bool (decide ((x5.length : Int) ≥ x3))), (9, .bool (decide ((x5.length : Int) ≥ x3)))] (by kernel_rfl) fun a hs hS => ?_
    refine d_done (by kernel_rfl) ?_
    obtain rfl := someE hx93
    exact (hJ94 _ _).2 ⟨hk, hs.cast [0, 1, 9] (by kernel_rfl), hw.pick [0, 1, 2] (by kernel_rfl)⟩
  · intro a w hh
    obtain ⟨hk, hs, hw⟩ := (hJ94 _ _).1 hh
    rcases ifbE hk with ⟨h56, hk⟩ | ⟨h56, hk⟩
    · refine c_cond1 hs (by kernel_rfl) (t := (decide ((x5.length : Int) ≥ x3))) (by kernel_rfl) h56 ?_
      refine c_seq ?_
      refine c_region ?_
      refine pures hs 2 [4, 5] [(4, .int .i64 0), (5, .int .i64 9)] (by kernel_rfl) fun a hs => ?_
      refine s_end ?_
      refine c_ret ?_
      obtain rfl := someE hk
      refine hQ _ _ (f_retN hs [.tmp 4, .tmp 5] rfl [.int .i64 0, .int .i64 9] (by kernel_rfl) (by kernel_rfl) ⟨p6, c7, d9, rfl, hw.pick [0, 1, 2] (by kernel_rfl), h8⟩)
    · refine c_cond0 hs (by kernel_rfl) (t := (decide ((x5.length : Int) ≥ x3))) (by kernel_rfl) h56 ?_
      refine c_skip ?_
      refine c_seq ?_
      refine c_region ?_
      refine pures hs 3 [0, 1, 20, 22] [(0, .pointer (some ⟨b2, 0, none⟩)), (1, .int .i64 x11), (20, .pointer (some ⟨b2, 0, none⟩)), (22, .pointer (some ⟨b2, 1, none⟩))] (by kernel_rfl) fun a hs => ?_
      refine s_load hs (hw.at_ 0 rfl) 1 (by kernel_rfl) (by kernel_rfl) (v := .int .i64 x4) (by kernel_rfl) fun a hs => ?_
      refine pures hs 3 [0, 1, 24, 26] [(0, .pointer (some ⟨b2, 0, none⟩)), (1, .int .i64 x11), (24, .int .i64 (IntKind.i64.wrap (x4 + 1))), (26, .pointer (some ⟨b2, 1, none⟩))] (by kernel_rfl) fun a hs => ?_
      refine s_store hs hw 0 rfl 1 (by kernel_rfl) (by kernel_rfl) (v := .int .i64 (IntKind.i64.wrap (x4 + 1))) (by kernel_rfl) (by kernel_rfl) (by kernel_rfl) (by kernel_rfl) fun a w hs hw => ?_
      refine s_end ?_
      refine c_seq ?_
      obtain ⟨S57, hS57, kS57⟩ := mkSX (X := [([12, 15], bx b2 [.int .i64 x3, .int .i64 (IntKind.i64.wrap (x4 + 1)), .slice p6 x5.length c7] 104), ([12], d9), ([], F)]) (ih := ih) (K := [12, 15, 12]) rfl
      obtain ⟨y80, hx81, hk⟩ := bindE hk
      obtain ⟨J82, hJ82⟩ : ∃ J : Act → World → Prop, ∀ a w, J a w ↔ (∃ (x74 : List M106) (p75 : Option Addr) (c76 : Nat) (d78 : Ch), bag_Bag_int_Put_r3 x4 x74 = some r ∧ Sees a 46 [(0, .pointer (some ⟨b2, 0, none⟩))] ∧ St g w [bx b2 [.int .i64 x3, .int .i64 (IntKind.i64.wrap (x4 + 1)), .slice p75 x74.length c76] 104, d78, F] ih ∧ OSl e106 ih p75 c76 x74 d78) := ⟨_, fun _ _ => Iff.rfl⟩
      refine c_draw (by kernel_rfl) (N := 16) rfl S57 J82 ?_ ?_
      · have hw := hw.drew
        have hS : S57 (Array.replicate 16 false) _ := SX_now hS57 (hw.vws [0, 1, 2]) (by kernel_rfl)
        refine d_pures (fuel := 12) kS57 hs hS [0, 1, 2, 3] [0, 1, 27, 28, 29, 30] [(0, .pointer (some ⟨b2, 0, none⟩)), (1, .int .i64 x11), (27, .pointer (some ⟨b2, 0, none⟩)), (28, .pointer (some ⟨b2, 0, none⟩)), (29, .pointer (some ⟨b2, 0, none⟩)), (30, .pointer (some ⟨b2, 2, none⟩))] (by kernel_rfl) fun a hs hS => ?_
        refine d_load (fuel := 11) kS57 hs hS 4 rfl (by kernel_rfl) (SX_box hS57 0 rfl (by kernel_rfl)) 2 (by kernel_rfl) (by kernel_rfl) (v := .slice p6 x5.length c7) (by kernel_rfl) fun a hs hS => ?_
        refine d_pures (fuel := 7) kS57 hs hS [5, 6, 7, 9] [0, 1, 27, 28, 29, 30, 31, 32, 33, 34, 36] [(0, .pointer (some ⟨b2, 0, none⟩)), (1, .int .i64 x11), (27, .pointer (some ⟨b2, 0, none⟩)), (28, .pointer (some ⟨b2, 0, none⟩)), (29, .pointer (some ⟨b2, 0, none⟩)), (30, .pointer (some ⟨b2, 2, none⟩)), (31, .slice p6 x5.length c7), (32, .pointer (some ⟨b2, 0, none⟩)), (33, .pointer (some ⟨b2, 0, none⟩)), (34, .pointer (some ⟨b2, 1, none⟩)), (36, .int .i64 x11)] (by kernel_rfl) fun a hs hS => ?_
        refine d_all (fuel := 6) (rs := [8]) (by kernel_rfl) (by simp) (all1 ?_)
        refine o_load hs rfl (hw.at_ 0 rfl) 1 (by kernel_rfl) (by kernel_rfl) (v := .int .i64 (IntKind.i64.wrap (x4 + 1))) (by kernel_rfl) fun a hs => ?_
        refine dg_next (SX_now hS57 ((hw.vws [0, 1, 2]).anti (Le.refl _)) (by kernel_rfl)) fun hS => ?_
        refine d_pures (fuel := 5) kS57 hs hS [10] [0, 1, 27, 28, 29, 30, 31, 32, 33, 34, 36, 35, 37] [(0, .pointer (some ⟨b2, 0, none⟩)), (1, .int .i64 x11), (27, .pointer (some ⟨b2, 0, none⟩)), (28, .pointer (some ⟨b2, 0, none⟩)), (29, .pointer (some ⟨b2, 0, none⟩)), (30, .pointer (some ⟨b2, 2, none⟩)), (31, .slice p6 x5.length c7), (32, .pointer (some ⟨b2, 0, none⟩)), (33, .pointer (some ⟨b2, 0, none⟩)), (34, .pointer (some ⟨b2, 1, none⟩)), (36, .int .i64 x11), (35, .int .i64 (IntKind.i64.wrap (x4 + 1))), (37, .agg #[.int .i64 (IntKind.i64.wrap (x4 + 1)), .int .i64 x11])] (by kernel_rfl) fun a hs hS => ?_
        refine d_all (fuel := 4) (rs := [11]) (by kernel_rfl) (by simp) (all1 ?_)
        refine o_new hs rfl hw [.int .i64 (IntKind.i64.wrap (x4 + 1)), .int .i64 x11] 106 (fun b => .slice (some ⟨b, 0, none⟩) 1 1) (by kernel_rfl) (fun _ => by kernel_rfl) fun a w b83 hs hw => ?_
        refine dg_next (SX_now hS57 ((hw.vws [1, 2, 3]).anti (Le.refl _)) (by kernel_rfl)) fun hS => ?_
        refine d_all (fuel := 3) (rs := [12]) (by kernel_rfl) (by simp) (all1 ?_)
        obtain ⟨x85, h86, hx81⟩ := bindE hx81
        refine o_app1 hs rfl hw (E := e106) appT102 2 rfl h8 (by kernel_rfl) (by kernel_rfl) (c2 := 1) (by kernel_rfl) (hw.at_ 0 rfl) (z := (M106.mk (IntKind.i64.wrap (x4 + 1)) x11)) rfl h86 fun a w p87 c88 d89 h90 hw hs => ?_
        refine dg_next (SX_now hS57 ((hw.vws [3]).anti (Le.refl _)) (by kernel_rfl)) fun hS => ?_
        refine d_pures (fuel := 1) kS57 hs hS [13, 14] [0, 1, 27, 28, 29, 30, 32, 33, 34, 36, 35, 37, 38, 39, 40, 41] [(0, .pointer (some ⟨b2, 0, none⟩)), (1, .int .i64 x11), (27, .pointer (some ⟨b2, 0, none⟩)), (28, .pointer (some ⟨b2, 0, none⟩)), (29, .pointer (some ⟨b2, 0, none⟩)), (30, .pointer (some ⟨b2, 2, none⟩)), (32, .pointer (some ⟨b2, 0, none⟩)), (33, .pointer (some ⟨b2, 0, none⟩)), (34, .pointer (some ⟨b2, 1, none⟩)), (36, .int .i64 x11), (35, .int .i64 (IntKind.i64.wrap (x4 + 1))), (37, .agg #[.int .i64 (IntKind.i64.wrap (x4 + 1)), .int .i64 x11]), (38, .slice (some ⟨b83, 0, none⟩) 1 1), (39, .slice p87 x85.length c88), (40, .pointer (some ⟨b2, 0, none⟩)), (41, .pointer (some ⟨b2, 2, none⟩))] (by kernel_rfl) fun a hs hS => ?_
        refine d_all (fuel := 0) (rs := [15]) (by kernel_rfl) (by simp) (all1 ?_)
        refine o_store hs hw rfl 1 rfl 2 (by kernel_rfl) (by kernel_rfl) (v := .slice p87 x85.length c88) (by kernel_rfl) (by kernel_rfl) (by kernel_rfl) (by kernel_rfl) fun a w hs hw => ?_
        refine dg_next (SX_now hS57 ((hw.vws [3]).anti (Le.refl _)) (by kernel_rfl)) fun hS => ?_
        refine d_done (by kernel_rfl) ?_
        obtain rfl := someE hx81
        exact (hJ82 _ _).2 ⟨x85, p87, c88, d89, hk, hs.cast [0] (by kernel_rfl), hw.pick [1, 2, 3] (by kernel_rfl), h90⟩
      · intro a w hh
        obtain ⟨x74, p75, c76, d78, hk, hs, hw, h77⟩ := (hJ82 _ _).1 hh
        refine c_seq ?_
        refine c_region ?_
        refine pures hs 3 [44] [(44, .pointer (some ⟨b2, 1, none⟩))] (by kernel_rfl) fun a hs => ?_
        refine s_load hs (hw.at_ 0 rfl) 1 (by kernel_rfl) (by kernel_rfl) (v := .int .i64 (IntKind.i64.wrap (x4 + 1))) (by kernel_rfl) fun a hs => ?_
        refine pures hs 2 [4, 5] [(4, .int .i64 (IntKind.i64.wrap (x4 + 1))), (5, .int .i64 0)] (by kernel_rfl) fun a hs => ?_
        refine s_end ?_
        refine c_ret ?_
        obtain rfl := someE hk
        refine hQ _ _ (f_retN hs [.tmp 4, .tmp 5] rfl [.int .i64 (IntKind.i64.wrap (x4 + 1)), .int .i64 0] (by kernel_rfl) (by kernel_rfl) ⟨p75, c76, d78, rfl, hw.pick [0, 1, 2] (by kernel_rfl), h77⟩)
def bag_Bag_int_All (x3 : Int) (x4 : Int) (x5 : List M106) : Option Unit :=
  some ()
theorem bag_Bag_int_All_s {x3 : Int} {x4 : Int} {x5 : List M106} {b2 : Nat} {p6 : Option Addr} {c7 : Nat} {d9 : Ch} {r : Unit} (hk : bag_Bag_int_All x3 x4 x5 = some r) {g w : World} {F : Ch} {ih : IH} (h8 : OSl e106 ih p6 c7 x5 d9) (hw : St g w [bx b2 [.int .i64 x3, .int .i64 x4, .slice p6 x5.length c7] 104, d9, F] ih) :
    CallsR Try.prog 26 #[.pointer (some ⟨b2, 0, none⟩)] w fun v w' => ∃ (b21 : Nat), v = .func (.func 74) #[] #[.pointer (some ⟨b21, 0, none⟩)] ∧ St g w' [bx b21 [.pointer (some ⟨b2, 0, none⟩)] 41, bx b2 [.int .i64 x3, .int .i64 x4, .slice p6 x5.length c7] 104, d9, F] ih := by
  refine f_in (vs := [.pointer (some ⟨b2, 0, none⟩)]) Try.func26 rfl 4 rfl (by kernel_rfl) [(0, .pointer (some ⟨b2, 0, none⟩))] (by kernel_rfl) fun a Qf hQ hQn hs => ?_
  refine c_seq ?_
  refine c_region ?_
  refine s_new hs hw [.pointer (some ⟨b2, 0, none⟩)] 41 (fun b => .pointer (some ⟨b, 0, none⟩)) (by kernel_rfl) (fun _ => by kernel_rfl) fun a w b19 hs hw => ?_
  refine pures hs 1 [1] [(1, .pointer (some ⟨b19, 0, none⟩))] (by kernel_rfl) fun a hs => ?_
  refine s_end ?_
  refine c_seq ?_
  refine c_region ?_
  refine pures hs 2 [2] [(2, .func (.func 74) #[] #[.pointer (some ⟨b19, 0, none⟩)])] (by kernel_rfl) fun a hs => ?_
  refine s_end ?_
  refine c_ret ?_
  obtain rfl := someE hk
  refine hQ _ _ (f_ret1 hs rfl (v := .func (.func 74) #[] #[.pointer (some ⟨b19, 0, none⟩)]) (by kernel_rfl) ⟨b19, rfl, hw.pick [0, 1, 2, 3] (by kernel_rfl)⟩)
def bag_Bag_int_has (x3 : Int) (x4 : Int) (x5 : List M106) (x11 : Int) : Option Bool :=
  some ((decide (x11 ≥ 0)) && (decide (x11 < (x5.length : Int))))
theorem bag_Bag_int_has_s {x3 : Int} {x4 : Int} {x5 : List M106} {x11 : Int} {b2 : Nat} {p6 : Option Addr} {c7 : Nat} {d9 : Ch} {r : Bool} (hk : bag_Bag_int_has x3 x4 x5 x11 = some r) {g w : World} {F : Ch} {ih : IH} (h8 : OSl e106 ih p6 c7 x5 d9) (hw : St g w [bx b2 [.int .i64 x3, .int .i64 x4, .slice p6 x5.length c7] 104, d9, F] ih) :
    CallsR Try.prog 89 #[.pointer (some ⟨b2, 0, none⟩), .int .i64 x11] w fun v w' => v = .bool r ∧ St g w' [bx b2 [.int .i64 x3, .int .i64 x4, .slice p6 x5.length c7] 104, d9, F] ih := by
  refine f_in (vs := [.pointer (some ⟨b2, 0, none⟩), .int .i64 x11]) Try.func89 rfl 20 rfl (by kernel_rfl) [(0, .pointer (some ⟨b2, 0, none⟩)), (1, .int .i64 x11)] (by kernel_rfl) fun a Qf hQ hQn hs => ?_
  refine c_seq ?_
  refine c_region ?_
  refine pures hs 1 [0, 1] [(0, .pointer (some ⟨b2, 0, none⟩)), (1, .int .i64 x11)] (by kernel_rfl) fun a hs => ?_
  refine s_end ?_
  refine c_seq ?_
  obtain ⟨J22, hJ22⟩ : ∃ J : Act → World → Prop, ∀ a w, J a w ↔ (Sees a 20 [(4, .bool ((decide (x11 ≥ 0)) && (decide (x11 < (x5.length : Int)))))] ∧ St g w [bx b2 [.int .i64 x3, .int .i64 x4, .slice p6 x5.length c7] 104, d9, F] ih) := ⟨_, fun _ _ => Iff.rfl⟩
  refine c_regJ J22 ?_ ?_
  · refine pures hs 7 [0, 1, 11] [(0, .pointer (some ⟨b2, 0, none⟩)), (1, .int .i64 x11), (11, .bool (decide (x11 ≥ 0)))] (by kernel_rfl) fun a hs => ?_
    rcases boolE (decide (x11 ≥ 0)) with h23 | h23
    · replace hs := hs.altB 11 true (by kernel_rfl) h23
      refine pures hs 4 [11, 12, 15] [(11, .bool true), (12, .int .i64 x11), (15, .pointer (some ⟨b2, 2, none⟩))] (by kernel_rfl) fun a hs => ?_
      refine s_load hs (hw.at_ 0 rfl) 2 (by kernel_rfl) (by kernel_rfl) (v := .slice p6 x5.length c7) (by kernel_rfl) fun a hs => ?_
      refine pures hs 4 [4] [(4, .bool (decide (x11 < (x5.length : Int))))] (by kernel_rfl) fun a hs => ?_
      refine s_end ?_
      exact (hJ22 _ _).2 ⟨(hs.altB 4 ((decide (x11 ≥ 0)) && (decide (x11 < (x5.length : Int)))) (by kernel_rfl) (by rw [h23] <;> rfl)).cast [4] (by kernel_rfl), hw.pick [0, 1, 2] (by kernel_rfl)⟩
    · replace hs := hs.altB 11 false (by kernel_rfl) h23
      refine pures hs 9 [4] [(4, .bool false)] (by kernel_rfl) fun a hs => ?_
      refine s_end ?_
      exact (hJ22 _ _).2 ⟨(hs.altB 4 ((decide (x11 ≥ 0)) && (decide (x11 < (x5.length : Int)))) (by kernel_rfl) (by rw [h23] <;> rfl)).cast [4] (by kernel_rfl), hw.pick [0, 1, 2] (by kernel_rfl)⟩
  · intro a w hh
    obtain ⟨hs, hw⟩ := (hJ22 _ _).1 hh
    refine c_ret ?_
    obtain rfl := someE hk
    refine hQ _ _ (f_ret1 hs rfl (v := .bool ((decide (x11 ≥ 0)) && (decide (x11 < (x5.length : Int))))) (by kernel_rfl) ⟨rfl, hw.pick [0, 1, 2] (by kernel_rfl)⟩)
def bag_Bag_int_At (x3 : Int) (x4 : Int) (x5 : List M106) (x11 : Int) : Option (Int × Bool) :=
  (bag_Bag_int_has x3 x4 x5 x11).bind fun y31 =>
  if (!y31) = true then some (0, false)
  else (ix x5 x11).bind fun x39 =>
  some (x39.f1, true)
theorem bag_Bag_int_At_s {x3 : Int} {x4 : Int} {x5 : List M106} {x11 : Int} {b2 : Nat} {p6 : Option Addr} {c7 : Nat} {d9 : Ch} {r : Int × Bool} (hk : bag_Bag_int_At x3 x4 x5 x11 = some r) {g w : World} {F : Ch} {ih : IH} (h8 : OSl e106 ih p6 c7 x5 d9) (hw : St g w [bx b2 [.int .i64 x3, .int .i64 x4, .slice p6 x5.length c7] 104, d9, F] ih) :
    CallsR Try.prog 76 #[.pointer (some ⟨b2, 0, none⟩), .int .i64 x11] w fun v w' => v = .tuple #[.int .i64 r.1, .bool r.2] ∧ St g w' [bx b2 [.int .i64 x3, .int .i64 x4, .slice p6 x5.length c7] 104, d9, F] ih := by
  refine f_in (vs := [.pointer (some ⟨b2, 0, none⟩), .int .i64 x11]) Try.func76 rfl 20 rfl (by kernel_rfl) [(0, .pointer (some ⟨b2, 0, none⟩)), (1, .int .i64 x11)] (by kernel_rfl) fun a Qf hQ hQn hs => ?_
  refine c_seq ?_
  refine c_region ?_
  refine pures hs 2 [0, 1] [(0, .pointer (some ⟨b2, 0, none⟩)), (1, .int .i64 x11)] (by kernel_rfl) fun a hs => ?_
  refine s_end ?_
  refine c_seq ?_
  refine c_seq ?_
  refine c_region ?_
  refine pures hs 2 [0, 1, 7, 8] [(0, .pointer (some ⟨b2, 0, none⟩)), (1, .int .i64 x11), (7, .pointer (some ⟨b2, 0, none⟩)), (8, .int .i64 x11)] (by kernel_rfl) fun a hs => ?_
  obtain ⟨y31, h32, hk⟩ := bindE hk
  refine s_call hs (by kernel_rfl) (by kernel_rfl) (bag_Bag_int_has_s h32 h8 ((hw.pick [0, 1, 2] (by kernel_rfl)).pack 2)) fun a w v hv hs => ?_
  obtain ⟨rfl, hw⟩ := hv
  replace hw := hw.unpack 2 rfl
  refine pures hs 1 [0, 1, 10] [(0, .pointer (some ⟨b2, 0, none⟩)), (1, .int .i64 x11), (10, .bool (!y31))] (by kernel_rfl) fun a hs => ?_
  refine s_end ?_
  rcases ifbE hk with ⟨h33, hk⟩ | ⟨h33, hk⟩
  · refine c_cond1 hs (by kernel_rfl) (t := (!y31)) (by kernel_rfl) h33 ?_
    refine c_seq ?_
    refine c_region ?_
    refine pures hs 1 [6] [(6, .int .i64 0)] (by kernel_rfl) fun a hs => ?_
    refine s_end ?_
    refine c_seq ?_
    refine c_region ?_
    refine pures hs 3 [4, 5] [(4, .int .i64 0), (5, .bool false)] (by kernel_rfl) fun a hs => ?_
    refine s_end ?_
    refine c_ret ?_
    obtain rfl := someE hk
    refine hQ _ _ (f_retN hs [.tmp 4, .tmp 5] rfl [.int .i64 0, .bool false] (by kernel_rfl) (by kernel_rfl) ⟨rfl, hw.pick [0, 1, 2] (by kernel_rfl)⟩)
  · refine c_cond0 hs (by kernel_rfl) (t := (!y31)) (by kernel_rfl) h33 ?_
    refine c_skip ?_
    refine c_seq ?_
    refine c_region ?_
    refine pures hs 3 [1, 14] [(1, .int .i64 x11), (14, .pointer (some ⟨b2, 2, none⟩))] (by kernel_rfl) fun a hs => ?_
    refine s_load hs (hw.at_ 0 rfl) 2 (by kernel_rfl) (by kernel_rfl) (v := .slice p6 x5.length c7) (by kernel_rfl) fun a hs => ?_
    refine pures hs 1 [15, 16] [(15, .slice p6 x5.length c7), (16, .int .i64 x11)] (by kernel_rfl) fun a hs => ?_
    obtain ⟨x39, h40, hk⟩ := bindE hk
    refine s_indexO hs h8 (by kernel_rfl) (by kernel_rfl) (k := .i64) (by kernel_rfl) 106 (by kernel_rfl) (by kernel_rfl) h40 fun a r41 cs henc at42 h43 hs => ?_
    obtain rfl := henc
    refine pures hs 1 [18] [(18, .pointer (some (r41.add 1)))] (by kernel_rfl) fun a hs => ?_
    refine s_load hs (at42 _ ((hw.vw 1 rfl).anti (Le.refl _))) 1 (by kernel_rfl) (by kernel_rfl) (v := .int .i64 x39.f1) (by kernel_rfl) fun a hs => ?_
    refine pures hs 2 [4, 5] [(4, .int .i64 x39.f1), (5, .bool true)] (by kernel_rfl) fun a hs => ?_
    refine s_end ?_
    refine c_ret ?_
    obtain rfl := someE hk
    refine hQ _ _ (f_retN hs [.tmp 4, .tmp 5] rfl [.int .i64 x39.f1, .bool true] (by kernel_rfl) (by kernel_rfl) ⟨rfl, hw.pick [0, 1, 2] (by kernel_rfl)⟩)
def slices_Delete_bag_item_int_bag_item_int (x1 : List M106) (x2 : Int) (x3 : Int) : Option (List M106) :=
  delS x1 x2 x3
theorem slices_Delete_bag_item_int_bag_item_int_s {x1 : List M106} {x2 : Int} {x3 : Int} {p4 : Option Addr} {c5 : Nat} {d6 : Ch} {r : List M106} (hk : slices_Delete_bag_item_int_bag_item_int x1 x2 x3 = some r) {g w : World} {F : Ch} {ih : IH} (h7 : OSl e106 ih p4 c5 x1 d6) (hw : St g w [d6, F] ih) :
    CallsR Try.prog 77 #[.slice p4 x1.length c5, .int .i64 x2, .int .i64 x3] w fun v w' => ∃ (p : Option Addr) (c : Nat) (d : Ch), v = .slice p r.length c ∧ St g w' [d, F] ih ∧ OSl e106 ih p c r d := by
  obtain ⟨hi0, hij, hjl, rfl⟩ := delE hk
  rcases p4 with _ | q
  · rcases h7 with ⟨_, rfl, rfl, rfl⟩ | ⟨_, _, h, _⟩
    · simp only [List.length_nil] at hjl
      obtain rfl : x2 = 0 := by omega
      obtain rfl : x3 = 0 := by omega
      refine f_in (vs := [.slice none 0 0, .int .i64 0, .int .i64 0]) Try.func77 rfl 33 rfl (by kernel_rfl) [(0, .slice none 0 0), (1, .int .i64 0), (2, .int .i64 0)] (by kernel_rfl) fun a Qf hQ hQn hs => ?_
      refine c_seq ?_
      refine c_region ?_
      refine pures hs 1 [0, 1, 2] [(0, .slice none 0 0), (1, .int .i64 0), (2, .int .i64 0)] (by kernel_rfl) fun a hs => ?_
      refine s_end ?_
      refine c_seq ?_
      refine c_region ?_
      refine pures hs 5 [0, 1, 2, 8, 9, 10, 12] [(0, .slice none 0 0), (1, .int .i64 0), (2, .int .i64 0), (8, .slice none 0 0), (9, .int .i64 0), (10, .int .i64 0), (12, .int .i64 0)] (by kernel_rfl) fun a hs => ?_
      refine s_sliceX hs (by kernel_rfl) (by kernel_rfl) 106 (sz := 2) (p := none) (len := 0) (cap := 0) (by kernel_rfl) (by kernel_rfl) (by kernel_rfl) (l := 0) (h := 0) (m := 0) (by kernel_rfl) (by kernel_rfl) (by kernel_rfl) (Int.le_refl _) (Int.le_refl _) (Int.le_refl _) (Int.le_refl _) (v := .slice none 0 0) rfl fun a hs => ?_
      refine s_end ?_
      refine c_seq ?_
      refine c_seq ?_
      refine c_region ?_
      refine pures hs 3 [0, 1, 2, 16] [(0, .slice none 0 0), (1, .int .i64 0), (2, .int .i64 0), (16, .bool true)] (by kernel_rfl) fun a hs => ?_
      refine s_end ?_
      refine c_condT hs (by kernel_rfl) (by kernel_rfl) ?_
      refine c_seq ?_
      refine c_region ?_
      refine pures hs 2 [6] [(6, .slice none 0 0)] (by kernel_rfl) fun a hs => ?_
      refine s_end ?_
      refine c_ret ?_
      refine hQ _ _ (f_ret1 hs rfl (v := .slice none 0 0) (by kernel_rfl) ⟨none, 0, [], rfl, hw.pick [0, 1] (by kernel_rfl), OSl.nil _ _⟩)
    · cases h
  · obtain ⟨b, hb⟩ : ∃ b, q = ⟨b, 0, none⟩ := by rcases h7 with ⟨h, _⟩ | ⟨b, _, h, _⟩ <;> cases h <;> exact ⟨_, rfl⟩
    subst hb
    obtain ⟨cur, rfl, hxc, hcm, hcs, hH⟩ := h7.open1
    have ho := h7
    have hys : (x1.take x2.toNat ++ x1.drop x3.toNat).length = x2.toNat + (x1.length - x3.toNat) := by rw [List.length_append, List.length_take, List.length_drop]; omega
    have hq : (if (x2 == x3) = true then some () else some () : Option Unit) = some () := ifU
    refine f_in (vs := [.slice (some ⟨b, 0, none⟩) x1.length c5, .int .i64 x2, .int .i64 x3]) Try.func77 rfl 33 rfl (by kernel_rfl) [(0, .slice (some ⟨b, 0, none⟩) x1.length c5), (1, .int .i64 x2), (2, .int .i64 x3)] (by kernel_rfl) fun a Qf hQ hQn hs => ?_
    refine c_seq ?_
    refine c_region ?_
    refine pures hs 1 [0, 1, 2] [(0, .slice (some ⟨b, 0, none⟩) x1.length c5), (1, .int .i64 x2), (2, .int .i64 x3)] (by kernel_rfl) fun a hs => ?_
    refine s_end ?_
    refine c_seq ?_
    refine c_region ?_
    refine pures hs 5 [0, 1, 2, 8, 9, 10, 12] [(0, .slice (some ⟨b, 0, none⟩) x1.length c5), (1, .int .i64 x2), (2, .int .i64 x3), (8, .slice (some ⟨b, 0, none⟩) x1.length c5), (9, .int .i64 x2), (10, .int .i64 x3), (12, .int .i64 ((x1.length : Nat) : Int))] (by kernel_rfl) fun a hs => ?_
    refine s_sliceX hs (by kernel_rfl) (by kernel_rfl) 106 (sz := 2) (p := (some ⟨b, 0, none⟩)) (len := x1.length) (cap := c5) (by kernel_rfl) (by kernel_rfl) (by kernel_rfl) (l := x2) (h := x3) (m := (x1.length : Int)) (by kernel_rfl) (by kernel_rfl) (by kernel_rfl) hi0 hij hjl (by omega) (v := .slice (if x1.length = x2.toNat then (some ⟨b, 0, none⟩ : Option Addr) else (some ⟨b, 0, none⟩ : Option Addr).map (·.add (x2.toNat * e106.sz))) (x3.toNat - x2.toNat) (x1.length - x2.toNat)) rfl fun a hs => ?_
    refine s_end ?_
    refine c_seq ?_
    refine c_seq ?_
    refine c_region ?_
    refine pures hs 3 [0, 1, 2, 16] [(0, .slice (some ⟨b, 0, none⟩) x1.length c5), (1, .int .i64 x2), (2, .int .i64 x3), (16, .bool (x2 == x3))] (by kernel_rfl) fun a hs => ?_
    refine s_end ?_
    rcases ifbE hq with ⟨h10, hq⟩ | ⟨h10, hq⟩
    · refine c_cond1 hs (by kernel_rfl) (t := (x2 == x3)) (by kernel_rfl) h10 ?_
      refine c_seq ?_
      refine c_region ?_
      refine pures hs 2 [6] [(6, .slice (some ⟨b, 0, none⟩) x1.length c5)] (by kernel_rfl) fun a hs => ?_
      refine s_end ?_
      refine c_ret ?_
      have hr : x1.take x2.toNat ++ x1.drop x3.toNat = x1 := by rw [show x2 = x3 by simpa using h10, List.take_append_drop]
      refine hQ _ _ (f_ret1 hs rfl (v := .slice (some ⟨b, 0, none⟩) x1.length c5) (by kernel_rfl) ⟨some ⟨b, 0, none⟩, c5, _, by rw [hr], hw.pick [0, 1] (by kernel_rfl), by rw [hr]; exact ho⟩)
    · refine c_cond0 hs (by kernel_rfl) (t := (x2 == x3)) (by kernel_rfl) h10 ?_
      refine c_skip ?_
      refine c_seq ?_
      refine c_region ?_
      refine pures hs 3 [0, 1, 2, 7] [(0, .slice (some ⟨b, 0, none⟩) x1.length c5), (1, .int .i64 x2), (2, .int .i64 x3), (7, .int .i64 ((x1.length : Nat) : Int))] (by kernel_rfl) fun a hs => ?_
      refine s_end ?_
      refine c_seq ?_
      obtain ⟨S11, hS11, kS11⟩ := mkSX (X := [([6], [(b, .cells cur e106.ty (0, 0))]), ([], F)]) (ih := ih) (K := [6]) rfl
      refine c_drawK (by kernel_rfl) (N := 8) rfl S11 ?_
      have hw := hw.drew
      have hS : S11 (Array.replicate 8 false) _ := SX_now hS11 (hw.vws [0, 1]) (by kernel_rfl)
      refine d_pures (fuel := 6) kS11 hs hS [0, 1] [0, 1, 2, 7, 20, 21] [(0, .slice (some ⟨b, 0, none⟩) x1.length c5), (1, .int .i64 x2), (2, .int .i64 x3), (7, .int .i64 ((x1.length : Nat) : Int)), (20, .slice (some ⟨b, 0, none⟩) x1.length c5), (21, .int .i64 x2)] (by kernel_rfl) fun a hs hS => ?_
      refine d_sliceX (fuel := 5) kS11 hs hS 2 rfl (by kernel_rfl) (by kernel_rfl) (by kernel_rfl) 106 (sz := 2) (p := (some ⟨b, 0, none⟩)) (len := x1.length) (cap := c5) (by kernel_rfl) (by kernel_rfl) (by kernel_rfl) (l' := 0) (h := x2) (m := (c5 : Int)) (by kernel_rfl) (by kernel_rfl) (by kernel_rfl) (Int.le_refl _) hi0 (by omega) (Int.le_refl _) (v := .slice (some ⟨b, 0, none⟩) x2.toNat c5) (by rw [part0]; rfl) fun a hs hS => ?_
      refine d_pures (fuel := 3) kS11 hs hS [3, 4] [0, 1, 2, 7, 20, 21, 22, 23, 24] [(0, .slice (some ⟨b, 0, none⟩) x1.length c5), (1, .int .i64 x2), (2, .int .i64 x3), (7, .int .i64 ((x1.length : Nat) : Int)), (20, .slice (some ⟨b, 0, none⟩) x1.length c5), (21, .int .i64 x2), (22, .slice (some ⟨b, 0, none⟩) x2.toNat c5), (23, .slice (some ⟨b, 0, none⟩) x1.length c5), (24, .int .i64 x3)] (by kernel_rfl) fun a hs hS => ?_
      refine d_sliceX (fuel := 2) kS11 hs hS 5 rfl (by kernel_rfl) (by kernel_rfl) (by kernel_rfl) 106 (sz := 2) (p := (some ⟨b, 0, none⟩)) (len := x1.length) (cap := c5) (by kernel_rfl) (by kernel_rfl) (by kernel_rfl) (l' := x3) (h := (x1.length : Int)) (m := (c5 : Int)) (by kernel_rfl) (by kernel_rfl) (by kernel_rfl) (by omega) hjl (by omega) (Int.le_refl _) (v := .slice (if c5 = x3.toNat then (some ⟨b, 0, none⟩ : Option Addr) else (some ⟨b, 0, none⟩ : Option Addr).map (·.add (x3.toNat * e106.sz))) (x1.length - x3.toNat) (c5 - x3.toNat)) rfl fun a hs hS => ?_
      refine d_all (fuel := 1) (rs := [6]) (by kernel_rfl) (by simp) (all1 ?_)
      refine o_appD hs rfl hw appT102 0 rfl ho (by kernel_rfl) (i := x2.toNat) (j := x3.toNat) (by omega) (by omega) (by kernel_rfl) (by kernel_rfl) fun a w cur2 ho hw hs => ?_
      refine dg_next (SX_now hS11 ((hw.vws [1]).anti (Le.refl _)) (by kernel_rfl)) fun hS => ?_
      refine d_pures (fuel := 0) kS11 hs hS [7] [0, 1, 2, 7, 20, 21, 22, 23, 24, 25, 26] [(0, .slice (some ⟨b, 0, none⟩) (x2.toNat + (x1.length - x3.toNat)) c5), (1, .int .i64 x2), (2, .int .i64 x3), (7, .int .i64 ((x1.length : Nat) : Int)), (20, .slice (some ⟨b, 0, none⟩) x1.length c5), (21, .int .i64 x2), (22, .slice (some ⟨b, 0, none⟩) x2.toNat c5), (23, .slice (some ⟨b, 0, none⟩) x1.length c5), (24, .int .i64 x3), (25, .slice (if c5 = x3.toNat then (some ⟨b, 0, none⟩ : Option Addr) else (some ⟨b, 0, none⟩ : Option Addr).map (·.add (x3.toNat * e106.sz))) (x1.length - x3.toNat) (c5 - x3.toNat)), (26, .slice (some ⟨b, 0, none⟩) (x2.toNat + (x1.length - x3.toNat)) c5)] (by kernel_rfl) fun a hs hS => ?_
      refine d_done (by kernel_rfl) ?_
      refine c_seq ?_
      refine c_region ?_
      refine pures hs 4 [0, 27, 29, 30] [(0, .slice (some ⟨b, 0, none⟩) (x2.toNat + (x1.length - x3.toNat)) c5), (27, .slice (some ⟨b, 0, none⟩) (x2.toNat + (x1.length - x3.toNat)) c5), (29, .int .i64 (((x2.toNat + (x1.length - x3.toNat)) : Nat) : Int)), (30, .int .i64 ((x1.length : Nat) : Int))] (by kernel_rfl) fun a hs => ?_
      refine s_sliceX hs (by kernel_rfl) (by kernel_rfl) 106 (sz := 2) (p := (some ⟨b, 0, none⟩)) (len := (x2.toNat + (x1.length - x3.toNat))) (cap := c5) (by kernel_rfl) (by kernel_rfl) (by kernel_rfl) (l := (((x2.toNat + (x1.length - x3.toNat)) : Nat) : Int)) (h := (x1.length : Int)) (m := (c5 : Int)) (by kernel_rfl) (by kernel_rfl) (by kernel_rfl) (by omega) (by omega) (by omega) (Int.le_refl _) (v := .slice (if c5 = (x1.take x2.toNat ++ x1.drop x3.toNat).length then (some ⟨b, 0, none⟩ : Option Addr) else (some ⟨b, 0, none⟩ : Option Addr).map (·.add ((x1.take x2.toNat ++ x1.drop x3.toNat).length * e106.sz))) (x1.length - (x1.take x2.toNat ++ x1.drop x3.toNat).length) (c5 - (x1.take x2.toNat ++ x1.drop x3.toNat).length)) (by rw [hys]; rfl) fun a hs => ?_
      refine s_clearD hs hw appT102 (zB (by kernel_rfl)) 0 rfl ho (by kernel_rfl) (m := x1.length) (by have hne := h10; simp at hne; rw [hys]; omega) hxc (by kernel_rfl) fun a w cur3 ho hw hs => ?_
      refine s_end ?_
      refine c_seq ?_
      refine c_region ?_
      refine pures hs 2 [6] [(6, .slice (some ⟨b, 0, none⟩) (x2.toNat + (x1.length - x3.toNat)) c5)] (by kernel_rfl) fun a hs => ?_
      refine s_end ?_
      refine c_ret ?_
      refine hQ _ _ (f_ret1 hs rfl (v := .slice (some ⟨b, 0, none⟩) (x2.toNat + (x1.length - x3.toNat)) c5) (by kernel_rfl) ⟨some ⟨b, 0, none⟩, c5, _, by rw [hys], hw.pick [0, 1] (by kernel_rfl), ho⟩)
def bag_Bag_int_Take_r2 (y60 : Int × Bool) (x77 : List M106) : Option (Int × Bool × (List M106)) :=
  some (y60.1, y60.2, x77)
def bag_Bag_int_Take (x3 : Int) (x4 : Int) (x5 : List M106) (x11 : Int) : Option (Int × Bool × (List M106)) :=
  (bag_Bag_int_At x3 x4 x5 x11).bind fun y60 =>
  (if y60.2 = true then (
      (slices_Delete_bag_item_int_bag_item_int x5 x11 (IntKind.i64.wrap (x11 + 1))).bind fun y94 =>
      some y94)
    else some x5 : Option (List M106)).bind fun s101 => bag_Bag_int_Take_r2 y60 s101
theorem bag_Bag_int_Take_s {x3 : Int} {x4 : Int} {x5 : List M106} {x11 : Int} {b2 : Nat} {p6 : Option Addr} {c7 : Nat} {d9 : Ch} {r : Int × Bool × (List M106)} (hk : bag_Bag_int_Take x3 x4 x5 x11 = some r) {g w : World} {F : Ch} {ih : IH} (h8 : OSl e106 ih p6 c7 x5 d9) (hw : St g w [bx b2 [.int .i64 x3, .int .i64 x4, .slice p6 x5.length c7] 104, d9, F] ih) :
    CallsR Try.prog 27 #[.pointer (some ⟨b2, 0, none⟩), .int .i64 x11] w fun v w' => ∃ (p102 : Option Addr) (c103 : Nat) (d104 : Ch), v = .tuple #[.int .i64 r.1, .bool r.2.1] ∧ St g w' [bx b2 [.int .i64 x3, .int .i64 x4, .slice p102 r.2.2.length c103] 104, d104, F] ih ∧ OSl e106 ih p102 c103 r.2.2 d104 := by
  refine f_in (vs := [.pointer (some ⟨b2, 0, none⟩), .int .i64 x11]) Try.func27 rfl 28 rfl (by kernel_rfl) [(0, .pointer (some ⟨b2, 0, none⟩)), (1, .int .i64 x11)] (by kernel_rfl) fun a Qf hQ hQn hs => ?_
  refine c_seq ?_
  refine c_region ?_
  refine pures hs 2 [0, 1] [(0, .pointer (some ⟨b2, 0, none⟩)), (1, .int .i64 x11)] (by kernel_rfl) fun a hs => ?_
  refine s_end ?_
  refine c_seq ?_
  refine c_region ?_
  refine pures hs 2 [0, 1, 9, 10] [(0, .pointer (some ⟨b2, 0, none⟩)), (1, .int .i64 x11), (9, .pointer (some ⟨b2, 0, none⟩)), (10, .int .i64 x11)] (by kernel_rfl) fun a hs => ?_
  obtain ⟨y60, h61, hk⟩ := bindE hk
  refine s_call hs (by kernel_rfl) (by kernel_rfl) (bag_Bag_int_At_s h61 h8 ((hw.pick [0, 1, 2] (by kernel_rfl)).pack 2)) fun a w v hv hs => ?_
  obtain ⟨rfl, hw⟩ := hv
  replace hw := hw.unpack 2 rfl
  refine pures hs 5 [0, 1, 6, 7] [(0, .pointer (some ⟨b2, 0, none⟩)), (1, .int .i64 x11), (6, .int .i64 y60.1), (7, .bool y60.2)] (by kernel_rfl) fun a hs => ?_
  refine s_end ?_
  obtain ⟨y83, hx84, hk⟩ := bindE hk
  obtain ⟨J85, hJ85⟩ : ∃ J : Act → World → Prop, ∀ a w, J a w ↔ (∃ (x77 : List M106) (p78 : Option Addr) (c79 : Nat) (d81 : Ch), bag_Bag_int_Take_r2 y60 x77 = some r ∧ Sees a 28 [(6, .int .i64 y60.1), (7, .bool y60.2)] ∧ St g w [bx b2 [.int .i64 x3, .int .i64 x4, .slice p78 x77.length c79] 104, d81, F] ih ∧ OSl e106 ih p78 c79 x77 d81) := ⟨_, fun _ _ => Iff.rfl⟩
  refine c_seqJ J85 ?_ ?_
  · refine c_seq ?_
    refine c_region ?_
    refine pures hs 1 [0, 1, 6, 7, 14] [(0, .pointer (some ⟨b2, 0, none⟩)), (1, .int .i64 x11), (6, .int .i64 y60.1), (7, .bool y60.2), (14, .bool y60.2)] (by kernel_rfl) fun a hs => ?_
    refine s_end ?_
    rcases ifbE hx84 with ⟨h86, hx84⟩ | ⟨h86, hx84⟩
    · refine c_cond1 hs (by kernel_rfl) (t := y60.2) (by kernel_rfl) h86 ?_
      refine c_region ?_
      refine pures hs 4 [1, 6, 7, 15, 18] [(1, .int .i64 x11), (6, .int .i64 y60.1), (7, .bool y60.2), (15, .pointer (some ⟨b2, 0, none⟩)), (18, .pointer (some ⟨b2, 2, none⟩))] (by kernel_rfl) fun a hs => ?_
      refine s_load hs (hw.at_ 0 rfl) 2 (by kernel_rfl) (by kernel_rfl) (v := .slice p6 x5.length c7) (by kernel_rfl) fun a hs => ?_
      refine pures hs 3 [6, 7, 15, 19, 20, 22] [(6, .int .i64 y60.1), (7, .bool y60.2), (15, .pointer (some ⟨b2, 0, none⟩)), (19, .slice p6 x5.length c7), (20, .int .i64 x11), (22, .int .i64 (IntKind.i64.wrap (x11 + 1)))] (by kernel_rfl) fun a hs => ?_
      obtain ⟨y94, h95, hx84⟩ := bindE hx84
      refine s_call hs (by kernel_rfl) (by kernel_rfl) (slices_Delete_bag_item_int_bag_item_int_s h95 h8 ((hw.pick [1, 0, 2] (by kernel_rfl)).pack 1)) fun a w v hv hs => ?_
      obtain ⟨p96, c97, d99, rfl, hw, h98⟩ := hv
      replace hw := hw.unpack 1 rfl
      refine pures hs 2 [6, 7, 23, 25] [(6, .int .i64 y60.1), (7, .bool y60.2), (23, .slice p96 y94.length c97), (25, .pointer (some ⟨b2, 2, none⟩))] (by kernel_rfl) fun a hs => ?_
      refine s_store hs hw 1 rfl 2 (by kernel_rfl) (by kernel_rfl) (v := .slice p96 y94.length c97) (by kernel_rfl) (by kernel_rfl) (by kernel_rfl) (by kernel_rfl) fun a w hs hw => ?_
      refine s_end ?_
      obtain rfl := someE hx84
      exact (hJ85 _ _).2 ⟨y94, p96, c97, d99, hk, hs.cast [6, 7] (by kernel_rfl), hw.pick [1, 0, 2] (by kernel_rfl), h98⟩
    · refine c_cond0 hs (by kernel_rfl) (t := y60.2) (by kernel_rfl) h86 ?_
      refine c_skip ?_
      obtain rfl := someE hx84
      exact (hJ85 _ _).2 ⟨x5, p6, c7, d9, hk, hs.cast [6, 7] (by kernel_rfl), hw.pick [0, 1, 2] (by kernel_rfl), h8⟩
  · intro a w hh
    obtain ⟨x77, p78, c79, d81, hk, hs, hw, h80⟩ := (hJ85 _ _).1 hh
    refine c_seq ?_
    refine c_region ?_
    refine pures hs 4 [4, 5] [(4, .int .i64 y60.1), (5, .bool y60.2)] (by kernel_rfl) fun a hs => ?_
    refine s_end ?_
    refine c_ret ?_
    obtain rfl := someE hk
    refine hQ _ _ (f_retN hs [.tmp 4, .tmp 5] rfl [.int .i64 y60.1, .bool y60.2] (by kernel_rfl) (by kernel_rfl) ⟨p78, c79, d81, rfl, hw.pick [0, 1, 2] (by kernel_rfl), h80⟩)
def catenarylaw06_BagGoes_round_r2 (x50020 : Int) (x50021 : List M106) (x50029 : Int) (x50019 : Int) (x50002 : Int) (x50011 : Int) (x50014 : Bool) (x50091 : Bool) : Option (Bool × Bool × Int × (List M106) × Int × Int) :=
  if x50091 = true then some (false, false, x50020, x50021, x50029, 1)
  else (bag_Bag_int_Take x50019 x50020 x50021 0).bind fun y50099 =>
  (bag_Bag_int_Put x50019 x50020 y50099.2.2 x50002).bind fun y50111 =>
  if (decide ((IntKind.i64.wrap (x50029 + 1)) > (IntKind.i64.wrap (x50011)))) = true then some (false, x50014, y50111.2.2.1, y50111.2.2.2, IntKind.i64.wrap (x50029 + 1), 2)
  else some (true, x50014, y50111.2.2.1, y50111.2.2.2, IntKind.i64.wrap (x50029 + 1), 0)
def catenarylaw06_BagGoes_round (x50001 : Int) (x50002 : Int) (x50005 : List Int) (x50011 : Int) (x50014 : Bool) (x50019 : Int) (x50020 : Int) (x50021 : List M106) (x50029 : Int) : Option (Bool × Bool × Int × (List M106) × Int × Int) :=
  (if (x50001 != (IntKind.i64.wrap (x50029 + 1))) = true then some true
    else (ix x50005 x50029).bind fun x50122 =>
    some (x50002 != x50122) : Option Bool).bind fun s50126 => catenarylaw06_BagGoes_round_r2 x50020 x50021 x50029 x50019 x50002 x50011 x50014 s50126
def catenarylaw06_BagGoes_round_C (n50031 : Nat) (q50032 : Lp) (b50004 : Nat) (b50010 : Nat) (b50013 : Nat) (b50016 : Nat) (b50028 : Nat) : Prop := ∀ {x50001 : Int} {x50002 : Int} {x50005 : List Int} {x50011 : Int} {x50014 : Bool} {x50019 : Int} {x50020 : Int} {x50021 : List M106} {x50029 : Int} {p50006 : Option Addr} {c50007 : Nat} {b50018 : Nat} {p50022 : Option Addr} {c50023 : Nat} {d50025 : Ch} {r : Bool × Bool × Int × (List M106) × Int × Int}, catenarylaw06_BagGoes_round x50001 x50002 x50005 x50011 x50014 x50019 x50020 x50021 x50029 = some r → ∀ {g w : World} {F : Ch} {ih : IH}, (RSl e3 ih [] p50006 c50007 x50005) → (OSl e106 ih p50022 c50023 x50021 d50025) → St g w [bx b50004 [.slice p50006 x50005.length c50007] 40, bx b50010 [.int .u8 x50011] 5, bx b50013 [.bool x50014] 4, bx b50016 [.pointer (some ⟨b50018, 0, none⟩)] 41, bx b50018 [.int .i64 x50019, .int .i64 x50020, .slice p50022 x50021.length c50023] 104, d50025, bx b50028 [.int .i64 x50029] 3, lpo n50031 q50032 [.ret, .exit 2] 0, F] ih →
    RoundR Try.prog n50031 q50032 #[.int .i64 x50001, .int .i64 x50002] w fun v w' => ∃ (p50127 : Option Addr) (c50128 : Nat) (d50129 : Ch), v = .bool r.1 ∧ St g w' [bx b50004 [.slice p50006 x50005.length c50007] 40, bx b50010 [.int .u8 x50011] 5, bx b50013 [.bool r.2.1] 4, bx b50016 [.pointer (some ⟨b50018, 0, none⟩)] 41, bx b50018 [.int .i64 x50019, .int .i64 r.2.2.1, .slice p50127 r.2.2.2.1.length c50128] 104, d50129, bx b50028 [.int .i64 r.2.2.2.2.1] 3, lpo n50031 q50032 [.ret, .exit 2] r.2.2.2.2.2, F] ih ∧ OSl e106 ih p50127 c50128 r.2.2.2.1 d50129
def slices_Clone_bag_item_int_bag_item_int (x1 : List M106) : Option (List M106) :=
  (app [] x1).bind fun x => some x
theorem slices_Clone_bag_item_int_bag_item_int_s {x1 : List M106} {p2 : Option Addr} {c3 : Nat} {d5 : Ch} {r : List M106} (hk : slices_Clone_bag_item_int_bag_item_int x1 = some r) {g w : World} {F : Ch} {ih : IH} (h4 : RSl e106 ih d5 p2 c3 x1) (h6 : ∀ q ∈ d5, q ∈ F) (hw : St g w [F] ih) :
    CallsR Try.prog 75 #[.slice p2 x1.length c3] w fun v w' => ∃ (p : Option Addr) (c : Nat) (d : Ch), v = .slice p r.length c ∧ St g w' [d, F] ih ∧ OSl e106 ih p c r d := by
  rcases p2 with _ | q
  · obtain ⟨_, rfl, rfl⟩ := h4
    replace hk : some [] = some r := hk
    refine f_in (vs := [.slice none 0 0]) Try.func75 rfl 8 rfl (by kernel_rfl) [(0, .slice none 0 0)] (by kernel_rfl) fun a Qf hQ hQn hs => ?_
    refine c_seq ?_
    refine c_region ?_
    refine pures hs 1 [0] [(0, .slice none 0 0)] (by kernel_rfl) fun a hs => ?_
    refine s_end ?_
    refine c_seq ?_
    refine c_seq ?_
    refine c_region ?_
    refine pures hs 2 [0, 4] [(0, .slice none 0 0), (4, .bool true)] (by kernel_rfl) fun a hs => ?_
    refine s_end ?_
    refine c_condT hs (by kernel_rfl) (by kernel_rfl) ?_
    refine c_seq ?_
    refine c_region ?_
    refine pures hs 1 [2] [(2, .slice none 0 0)] (by kernel_rfl) fun a hs => ?_
    refine s_end ?_
    refine c_ret ?_
    replace hw := hw.nil
    obtain rfl := someE hk
    refine hQ _ _ (f_ret1 hs rfl (v := .slice none 0 0) (by kernel_rfl) ⟨none, 0, ([]), rfl, hw.pick [0, 1] (by kernel_rfl), (OSl.nil _ _)⟩)
  · refine f_in (vs := [.slice (some q) x1.length c3]) Try.func75 rfl 8 rfl (by kernel_rfl) [(0, .slice (some q) x1.length c3)] (by kernel_rfl) fun a Qf hQ hQn hs => ?_
    refine c_seq ?_
    refine c_region ?_
    refine pures hs 1 [0] [(0, .slice (some q) x1.length c3)] (by kernel_rfl) fun a hs => ?_
    refine s_end ?_
    refine c_seq ?_
    refine c_seq ?_
    refine c_region ?_
    refine pures hs 2 [0, 4] [(0, .slice (some q) x1.length c3), (4, .bool false)] (by kernel_rfl) fun a hs => ?_
    refine s_end ?_
    refine c_condF hs (by kernel_rfl) (by kernel_rfl) ?_
    refine c_skip ?_
    refine c_seq ?_
    refine c_region ?_
    refine s_new hs hw [] 106 (fun b => .slice (some ⟨b, 0, none⟩) 0 0) (by kernel_rfl) (fun _ => by kernel_rfl) fun a w b18 hs hw => ?_
    refine pures hs 1 [5, 6] [(5, .slice (some ⟨b18, 0, none⟩) 0 0), (6, .slice (some q) x1.length c3)] (by kernel_rfl) fun a hs => ?_
    obtain ⟨x20, h21, hk⟩ := bindE hk
    refine s_appS hs hw (E := e106) appT102 0 rfl OSl.of0 (by kernel_rfl) (by kernel_rfl) (h4.mono (Le.refl _)) (((hw.vw 1 rfl).sub h6).anti (Le.refl _)) (by kernel_rfl) h21 fun a w p22 c23 d24 h25 hw hs => ?_
    refine pures hs 1 [2] [(2, .slice p22 x20.length c23)] (by kernel_rfl) fun a hs => ?_
    refine s_end ?_
    refine c_ret ?_
    obtain rfl := someE hk
    refine hQ _ _ (f_ret1 hs rfl (v := .slice p22 x20.length c23) (by kernel_rfl) ⟨p22, c23, d24, rfl, hw.pick [0, 1] (by kernel_rfl), h25⟩)
def bag_Bag_int_All_1_r3 (x334 : Bool) (x335 : Int) (x336 : List M106) (x342 : Int) (x343 : Int) : Option (Bool × Int × (List M106) × Int × Int) :=
  some (x334, x335, x336, x342, x343)
def bag_Bag_int_All_1_l4 (y215 : List M106) (x3 : List Int) (x9 : Int) (x17 : Int) : Nat → Int → Bool → Int → (List M106) → Int → Int → Option (Sum (Bool × Int × (List M106) × Int × Int) (Bool × Int × (List M106) × Int × Int))
  | 0, _, _, _, _, _, _ => none
  | j + 1, x293, x294, x295, x296, x302, x303 =>
    if (decide (x293 < (y215.length : Int))) = true then (
      (ix y215 x293).bind fun x356 =>
      if (x303 != 0) = true then none
      else (catenarylaw06_BagGoes_round x356.f0 x356.f1 x3 x9 x294 x17 x295 x296 x302).bind fun y371 =>
      if (!y371.1) = true then some (.inl (y371.2.1, y371.2.2.1, y371.2.2.2.1, y371.2.2.2.2.1, y371.2.2.2.2.2))
      else bag_Bag_int_All_1_l4 y215 x3 x9 x17 j (IntKind.i64.wrap (x293 + 1)) y371.2.1 y371.2.2.1 y371.2.2.2.1 y371.2.2.2.2.1 y371.2.2.2.2.2)
    else some (.inr (x294, x295, x296, x302, x303))
def bag_Bag_int_All_1 (k : Nat) (x3 : List Int) (x9 : Int) (x12 : Bool) (x17 : Int) (x18 : Int) (x19 : List M106) (x27 : Int) (x31 : Int) : Option (Bool × Int × (List M106) × Int × Int) :=
  (slices_Clone_bag_item_int_bag_item_int x19).bind fun y215 =>
  (bag_Bag_int_All_1_l4 y215 x3 x9 x17 k 0 x12 x18 x19 x27 x31 : Option (Sum (Bool × Int × (List M106) × Int × Int) (Bool × Int × (List M106) × Int × Int))).bind fun
    | .inl z => some z
    | .inr s378 => bag_Bag_int_All_1_r3 s378.1 s378.2.1 s378.2.2.1 s378.2.2.2.1 s378.2.2.2.2
theorem bag_Bag_int_All_1_s {k : Nat} {x3 : List Int} {x9 : Int} {x12 : Bool} {x17 : Int} {x18 : Int} {x19 : List M106} {x27 : Int} {x31 : Int} {b2 : Nat} {p4 : Option Addr} {c5 : Nat} {b8 : Nat} {b11 : Nat} {b14 : Nat} {b16 : Nat} {p20 : Option Addr} {c21 : Nat} {d23 : Ch} {b26 : Nat} {n29 : Nat} {q30 : Lp} {b34 : Nat} {r : Bool × Int × (List M106) × Int × Int} (hk : bag_Bag_int_All_1 k x3 x9 x12 x17 x18 x19 x27 x31 = some r) {g w : World} {F : Ch} {ih : IH} (h6 : RSl e3 ih [] p4 c5 x3) (h22 : OSl e106 ih p20 c21 x19 d23) (h32 : catenarylaw06_BagGoes_round_C n29 q30 b2 b8 b11 b14 b26) (hw : St g w [bx b2 [.slice p4 x3.length c5] 40, bx b8 [.int .u8 x9] 5, bx b11 [.bool x12] 4, bx b14 [.pointer (some ⟨b16, 0, none⟩)] 41, bx b16 [.int .i64 x17, .int .i64 x18, .slice p20 x19.length c21] 104, d23, bx b26 [.int .i64 x27] 3, lpo n29 q30 [.ret, .exit 2] x31, bx b34 [.pointer (some ⟨b16, 0, none⟩)] 41, F] ih) :
    CallsR Try.prog 74 #[.func (.yield n29) #[] #[], .pointer (some ⟨b34, 0, none⟩)] w fun v w' => ∃ (p379 : Option Addr) (c380 : Nat) (d381 : Ch), v = .tuple #[] ∧ St g w' [bx b2 [.slice p4 x3.length c5] 40, bx b8 [.int .u8 x9] 5, bx b11 [.bool r.1] 4, bx b14 [.pointer (some ⟨b16, 0, none⟩)] 41, bx b16 [.int .i64 x17, .int .i64 r.2.1, .slice p379 r.2.2.1.length c380] 104, d381, bx b26 [.int .i64 r.2.2.2.1] 3, lpo n29 q30 [.ret, .exit 2] r.2.2.2.2, bx b34 [.pointer (some ⟨b16, 0, none⟩)] 41, F] ih ∧ OSl e106 ih p379 c380 r.2.2.1 d381 := by
  refine f_in (vs := [.func (.yield n29) #[] #[], .pointer (some ⟨b34, 0, none⟩)]) Try.func74 rfl 25 rfl (by kernel_rfl) [(0, .func (.yield n29) #[] #[]), (1, .pointer (some ⟨b34, 0, none⟩))] (by kernel_rfl) fun a Qf hQ hQn hs => ?_
  refine c_seq ?_
  refine c_seq ?_
  refine c_region ?_
  refine s_load hs (hw.at_ 8 rfl) 0 (by kernel_rfl) (by kernel_rfl) (v := .pointer (some ⟨b16, 0, none⟩)) (by kernel_rfl) fun a hs => ?_
  refine pures hs 1 [0, 1, 6] [(0, .func (.yield n29) #[] #[]), (1, .pointer (some ⟨b34, 0, none⟩)), (6, .bool false)] (by kernel_rfl) fun a hs => ?_
  refine s_end ?_
  refine c_condF hs (by kernel_rfl) (by kernel_rfl) ?_
  refine c_skip ?_
  refine c_seq ?_
  refine c_region ?_
  refine s_load hs (hw.at_ 8 rfl) 0 (by kernel_rfl) (by kernel_rfl) (v := .pointer (some ⟨b16, 0, none⟩)) (by kernel_rfl) fun a hs => ?_
  refine pures hs 2 [0, 9] [(0, .func (.yield n29) #[] #[]), (9, .pointer (some ⟨b16, 2, none⟩))] (by kernel_rfl) fun a hs => ?_
  refine s_load hs (hw.at_ 4 rfl) 2 (by kernel_rfl) (by kernel_rfl) (v := .slice p20 x19.length c21) (by kernel_rfl) fun a hs => ?_
  obtain ⟨y215, h216, hk⟩ := bindE hk
  refine s_call hs (by kernel_rfl) (by kernel_rfl) (slices_Clone_bag_item_int_bag_item_int_s h216 h22.read (memF 5 rfl) ((hw.pick [0, 1, 2, 3, 4, 5, 6, 7, 8, 9] (by kernel_rfl)).pack 0)) fun a w v hv hs => ?_
  obtain ⟨p217, c218, d220, rfl, hw, h219⟩ := hv
  replace hw := hw.unpack 1 rfl
  refine pures hs 2 [0, 11, 12, 13] [(0, .func (.yield n29) #[] #[]), (11, .slice p217 y215.length c218), (12, .int .i64 (y215.length : Int)), (13, .int .i64 0)] (by kernel_rfl) fun a hs => ?_
  refine s_end ?_
  refine c_block ?_
  obtain ⟨y344, hx345, hk⟩ := bindE hk
  obtain ⟨J346, hJ346⟩ : ∃ J : Act → World → Prop, ∀ a w, J a w ↔ (∃ (x334 : Bool) (x335 : Int) (x336 : List M106) (x342 : Int) (x343 : Int) (p337 : Option Addr) (c338 : Nat) (d340 : Ch), bag_Bag_int_All_1_r3 x334 x335 x336 x342 x343 = some r ∧ Sees a 25 [] ∧ St g w [bx b2 [.slice p4 x3.length c5] 40, bx b8 [.int .u8 x9] 5, bx b11 [.bool x334] 4, bx b14 [.pointer (some ⟨b16, 0, none⟩)] 41, bx b16 [.int .i64 x17, .int .i64 x335, .slice p337 x336.length c338] 104, bx b26 [.int .i64 x342] 3, lpo n29 q30 [.ret, .exit 2] x343, bx b34 [.pointer (some ⟨b16, 0, none⟩)] 41, d340, F] ih ∧ OSl e106 ih p337 c338 x336 d340) := ⟨_, fun _ _ => Iff.rfl⟩
  obtain ⟨I347, hI347⟩ : ∃ J : Nat → Act → World → Prop, ∀ j a w, J j a w ↔ (∃ (x293 : Int) (x294 : Bool) (x295 : Int) (x296 : List M106) (x302 : Int) (x303 : Int) (p297 : Option Addr) (c298 : Nat) (d300 : Ch), bag_Bag_int_All_1_l4 y215 x3 x9 x17 j x293 x294 x295 x296 x302 x303 = some y344 ∧ Sees a 25 [(0, .func (.yield n29) #[] #[]), (11, .slice p217 y215.length c218), (12, .int .i64 (y215.length : Int)), (13, .int .i64 x293)] ∧ St g w [bx b2 [.slice p4 x3.length c5] 40, bx b8 [.int .u8 x9] 5, bx b11 [.bool x294] 4, bx b14 [.pointer (some ⟨b16, 0, none⟩)] 41, bx b16 [.int .i64 x17, .int .i64 x295, .slice p297 x296.length c298] 104, bx b26 [.int .i64 x302] 3, lpo n29 q30 [.ret, .exit 2] x303, bx b34 [.pointer (some ⟨b16, 0, none⟩)] 41, d220, d300, F] ih ∧ OSl e106 ih p297 c298 x296 d300) := ⟨_, fun _ _ _ => Iff.rfl⟩
  refine c_exitJ 0 J346 ?_ ?_
  · refine c_loop I347 k ((hI347 _ _ _).2 ⟨0, x12, x18, x19, x27, x31, p20, c21, d23, hx345, hs.cast [0, 11, 12, 13] (by kernel_rfl), hw.pick [1, 2, 3, 4, 5, 7, 8, 9, 0, 6, 10] (by kernel_rfl), h22⟩) (fun a w h0 => ?_) fun j a w hh => ?_
    · obtain ⟨_, _, _, _, _, _, _, _, _, h, _⟩ := (hI347 _ _ _).1 h0
      cases h
    · obtain ⟨x293, x294, x295, x296, x302, x303, p297, c298, d300, hx345, hs, hw, h299⟩ := (hI347 _ _ _).1 hh
      refine c_seq ?_
      refine c_region ?_
      refine pures hs 1 [0, 11, 12, 13, 14] [(0, .func (.yield n29) #[] #[]), (11, .slice p217 y215.length c218), (12, .int .i64 (y215.length : Int)), (13, .int .i64 x293), (14, .bool (decide (x293 < (y215.length : Int))))] (by kernel_rfl) fun a hs => ?_
      refine s_end ?_
      refine c_seq ?_
      rcases ifbE hx345 with ⟨h348, hx345⟩ | ⟨h348, hx345⟩
      · refine c_cond1 hs (by kernel_rfl) (t := (decide (x293 < (y215.length : Int)))) (by kernel_rfl) h348 ?_
        refine c_skip ?_
        refine c_seq ?_
        refine c_block ?_
        refine c_seq ?_
        refine c_region ?_
        obtain ⟨x356, h357, hx345⟩ := bindE hx345
        refine s_indexO hs h219 (by kernel_rfl) (by kernel_rfl) (k := .i64) (by kernel_rfl) 106 (by kernel_rfl) (by kernel_rfl) h357 fun a r358 cs henc at359 h360 hs => ?_
        obtain rfl := henc
        refine s_load hs (at359 _ ((hw.vw 8 rfl).anti (Le.refl _))) 0 (by kernel_rfl) (by kernel_rfl) (v := .agg #[.int .i64 x356.f0, .int .i64 x356.f1]) (by kernel_rfl) fun a hs => ?_
        refine s_new hs hw [.int .i64 0, .int .i64 0] 106 (fun b => .pointer (some ⟨b, 0, none⟩)) (by kernel_rfl) (fun _ => by kernel_rfl) fun a w b361 hs hw => ?_
        refine s_store hs hw 0 rfl 0 (by kernel_rfl) (by kernel_rfl) (v := .agg #[.int .i64 x356.f0, .int .i64 x356.f1]) (by kernel_rfl) (by kernel_rfl) (by kernel_rfl) (by kernel_rfl) fun a w hs hw => ?_
        refine s_end ?_
        refine c_seq ?_
        refine c_region ?_
        refine pures hs 2 [0, 11, 12, 13, 4, 17, 18] [(0, .func (.yield n29) #[] #[]), (11, .slice p217 y215.length c218), (12, .int .i64 (y215.length : Int)), (13, .int .i64 x293), (4, .pointer (some ⟨b361, 0, none⟩)), (17, .func (.yield n29) #[] #[]), (18, .pointer (some ⟨b361, 0, none⟩))] (by kernel_rfl) fun a hs => ?_
        refine s_load hs (hw.at_ 0 rfl) 0 (by kernel_rfl) (by kernel_rfl) (v := .int .i64 x356.f0) (by kernel_rfl) fun a hs => ?_
        refine pures hs 1 [0, 11, 12, 13, 17, 19, 20] [(0, .func (.yield n29) #[] #[]), (11, .slice p217 y215.length c218), (12, .int .i64 (y215.length : Int)), (13, .int .i64 x293), (17, .func (.yield n29) #[] #[]), (19, .int .i64 x356.f0), (20, .pointer (some ⟨b361, 1, none⟩))] (by kernel_rfl) fun a hs => ?_
        refine s_load hs (hw.at_ 0 rfl) 1 (by kernel_rfl) (by kernel_rfl) (v := .int .i64 x356.f1) (by kernel_rfl) fun a hs => ?_
        rcases ifbE hx345 with ⟨h370, hx345⟩ | ⟨h370, hx345⟩
        · cases hx345
        · rw [show x303 = 0 by simpa using h370] at hw
          obtain ⟨y371, h372, hx345⟩ := bindE hx345
          refine s_round hs (by kernel_rfl) (by kernel_rfl) hw 7 rfl (args := #[.int .i64 x356.f0, .int .i64 x356.f1]) (by kernel_rfl) (h32 h372 h6 h299 ((hw.pick [1, 2, 3, 4, 5, 10, 6, 7, 8, 9, 11] (by kernel_rfl)).pack 8)) fun a w v hv hs => ?_
          obtain ⟨p373, c374, d376, rfl, hw, h375⟩ := hv
          replace hw := hw.unpack 8 rfl
          refine pures hs 1 [0, 11, 12, 13, 23] [(0, .func (.yield n29) #[] #[]), (11, .slice p217 y215.length c218), (12, .int .i64 (y215.length : Int)), (13, .int .i64 x293), (23, .bool (!y371.1))] (by kernel_rfl) fun a hs => ?_
          refine s_end ?_
          rcases ifbE hx345 with ⟨h377, hx345⟩ | ⟨h377, hx345⟩
          · refine c_cond1 hs (by kernel_rfl) (t := (!y371.1)) (by kernel_rfl) h377 ?_
            refine c_ret ?_
            obtain rfl := someE hx345
            obtain rfl := someE hk
            refine hQ _ _ (f_retN hs [] rfl [] (by kernel_rfl) (by kernel_rfl) ⟨p373, c374, d376, rfl, hw.pick [0, 1, 2, 3, 4, 5, 6, 7, 8, 10] (by kernel_rfl), h375⟩)
          · refine c_cond0 hs (by kernel_rfl) (t := (!y371.1)) (by kernel_rfl) h377 ?_
            refine c_skip ?_
            refine c_region ?_
            refine pures hs 2 [0, 11, 12, 13] [(0, .func (.yield n29) #[] #[]), (11, .slice p217 y215.length c218), (12, .int .i64 (y215.length : Int)), (13, .int .i64 (IntKind.i64.wrap (x293 + 1)))] (by kernel_rfl) fun a hs => ?_
            refine s_end ?_
            exact (hI347 _ _ _).2 ⟨(IntKind.i64.wrap (x293 + 1)), y371.2.1, y371.2.2.1, y371.2.2.2.1, y371.2.2.2.2.1, y371.2.2.2.2.2, p373, c374, d376, hx345, hs.cast [0, 11, 12, 13] (by kernel_rfl), hw.pick [0, 1, 2, 3, 4, 6, 7, 8, 9, 5, 10] (by kernel_rfl), h375⟩
      · refine c_cond0 hs (by kernel_rfl) (t := (decide (x293 < (y215.length : Int)))) (by kernel_rfl) h348 ?_
        refine c_exit ?_
        obtain rfl := someE hx345
        exact (hJ346 _ _).2 ⟨x294, x295, x296, x302, x303, p297, c298, d300, hk, hs.cast [] (by kernel_rfl), hw.pick [0, 1, 2, 3, 4, 5, 6, 7, 9, 10] (by kernel_rfl), h299⟩
  · intro a w hh
    obtain ⟨x334, x335, x336, x342, x343, p337, c338, d340, hk, hs, hw, h339⟩ := (hJ346 _ _).1 hh
    obtain rfl := someE hk
    refine hQn _ _ (f_retN hs [] rfl [] (by kernel_rfl) (by kernel_rfl) ⟨p337, c338, d340, rfl, hw.pick [0, 1, 2, 3, 4, 8, 5, 6, 7, 9] (by kernel_rfl), h339⟩)
def catenarylaw06_BagGoes_2_round_r2 (x50020 : Int) (x50021 : List M106) (x50029 : Int) (x50019 : Int) (x50002 : Int) (x50011 : Int) (x50014 : Bool) (x50091 : Bool) : Option (Bool × Bool × Int × (List M106) × Int × Int) :=
  if x50091 = true then some (false, false, x50020, x50021, x50029, 1)
  else (bag_Bag_int_Take x50019 x50020 x50021 0).bind fun y50099 =>
  (bag_Bag_int_Put x50019 x50020 y50099.2.2 x50002).bind fun y50111 =>
  if (decide ((IntKind.i64.wrap (x50029 + 1)) > (IntKind.i64.wrap (x50011)))) = true then some (false, x50014, y50111.2.2.1, y50111.2.2.2, IntKind.i64.wrap (x50029 + 1), 2)
  else some (true, x50014, y50111.2.2.1, y50111.2.2.2, IntKind.i64.wrap (x50029 + 1), 0)
def catenarylaw06_BagGoes_2_round (x50001 : Int) (x50002 : Int) (x50005 : List Int) (x50011 : Int) (x50014 : Bool) (x50019 : Int) (x50020 : Int) (x50021 : List M106) (x50029 : Int) : Option (Bool × Bool × Int × (List M106) × Int × Int) :=
  (if (x50001 != (IntKind.i64.wrap (x50029 + 1))) = true then some true
    else (ix x50005 x50029).bind fun x50122 =>
    some (x50002 != x50122) : Option Bool).bind fun s50126 => catenarylaw06_BagGoes_2_round_r2 x50020 x50021 x50029 x50019 x50002 x50011 x50014 s50126
def catenarylaw06_BagGoes_2_round_C (n50031 : Nat) (q50032 : Lp) (b50004 : Nat) (b50010 : Nat) (b50013 : Nat) (b50016 : Nat) (b50028 : Nat) : Prop := ∀ {x50001 : Int} {x50002 : Int} {x50005 : List Int} {x50011 : Int} {x50014 : Bool} {x50019 : Int} {x50020 : Int} {x50021 : List M106} {x50029 : Int} {p50006 : Option Addr} {c50007 : Nat} {b50018 : Nat} {p50022 : Option Addr} {c50023 : Nat} {d50025 : Ch} {r : Bool × Bool × Int × (List M106) × Int × Int}, catenarylaw06_BagGoes_2_round x50001 x50002 x50005 x50011 x50014 x50019 x50020 x50021 x50029 = some r → ∀ {g w : World} {F : Ch} {ih : IH}, (RSl e3 ih [] p50006 c50007 x50005) → (OSl e106 ih p50022 c50023 x50021 d50025) → St g w [bx b50004 [.slice p50006 x50005.length c50007] 40, bx b50010 [.int .u8 x50011] 5, bx b50013 [.bool x50014] 4, bx b50016 [.pointer (some ⟨b50018, 0, none⟩)] 41, bx b50018 [.int .i64 x50019, .int .i64 x50020, .slice p50022 x50021.length c50023] 104, d50025, bx b50028 [.int .i64 x50029] 3, lpo n50031 q50032 [.ret, .exit 2] 0, F] ih →
    RoundR Try.prog n50031 q50032 #[.int .i64 x50001, .int .i64 x50002] w fun v w' => ∃ (p50127 : Option Addr) (c50128 : Nat) (d50129 : Ch), v = .bool r.1 ∧ St g w' [bx b50004 [.slice p50006 x50005.length c50007] 40, bx b50010 [.int .u8 x50011] 5, bx b50013 [.bool r.2.1] 4, bx b50016 [.pointer (some ⟨b50018, 0, none⟩)] 41, bx b50018 [.int .i64 x50019, .int .i64 r.2.2.1, .slice p50127 r.2.2.2.1.length c50128] 104, d50129, bx b50028 [.int .i64 r.2.2.2.2.1] 3, lpo n50031 q50032 [.ret, .exit 2] r.2.2.2.2.2, F] ih ∧ OSl e106 ih p50127 c50128 r.2.2.2.1 d50129
def bag_Bag_int_All_1_2_r3 (x334 : Bool) (x335 : Int) (x336 : List M106) (x342 : Int) (x343 : Int) : Option (Bool × Int × (List M106) × Int × Int) :=
  some (x334, x335, x336, x342, x343)
def bag_Bag_int_All_1_2_l4 (y215 : List M106) (x3 : List Int) (x9 : Int) (x17 : Int) : Nat → Int → Bool → Int → (List M106) → Int → Int → Option (Sum (Bool × Int × (List M106) × Int × Int) (Bool × Int × (List M106) × Int × Int))
  | 0, _, _, _, _, _, _ => none
  | j + 1, x293, x294, x295, x296, x302, x303 =>
    if (decide (x293 < (y215.length : Int))) = true then (
      (ix y215 x293).bind fun x356 =>
      if (x303 != 0) = true then none
      else (catenarylaw06_BagGoes_2_round x356.f0 x356.f1 x3 x9 x294 x17 x295 x296 x302).bind fun y371 =>
      if (!y371.1) = true then some (.inl (y371.2.1, y371.2.2.1, y371.2.2.2.1, y371.2.2.2.2.1, y371.2.2.2.2.2))
      else bag_Bag_int_All_1_2_l4 y215 x3 x9 x17 j (IntKind.i64.wrap (x293 + 1)) y371.2.1 y371.2.2.1 y371.2.2.2.1 y371.2.2.2.2.1 y371.2.2.2.2.2)
    else some (.inr (x294, x295, x296, x302, x303))
def bag_Bag_int_All_1_2 (k : Nat) (x3 : List Int) (x9 : Int) (x12 : Bool) (x17 : Int) (x18 : Int) (x19 : List M106) (x27 : Int) (x31 : Int) : Option (Bool × Int × (List M106) × Int × Int) :=
  (slices_Clone_bag_item_int_bag_item_int x19).bind fun y215 =>
  (bag_Bag_int_All_1_2_l4 y215 x3 x9 x17 k 0 x12 x18 x19 x27 x31 : Option (Sum (Bool × Int × (List M106) × Int × Int) (Bool × Int × (List M106) × Int × Int))).bind fun
    | .inl z => some z
    | .inr s378 => bag_Bag_int_All_1_2_r3 s378.1 s378.2.1 s378.2.2.1 s378.2.2.2.1 s378.2.2.2.2
theorem bag_Bag_int_All_1_2_s {k : Nat} {x3 : List Int} {x9 : Int} {x12 : Bool} {x17 : Int} {x18 : Int} {x19 : List M106} {x27 : Int} {x31 : Int} {b2 : Nat} {p4 : Option Addr} {c5 : Nat} {b8 : Nat} {b11 : Nat} {b14 : Nat} {b16 : Nat} {p20 : Option Addr} {c21 : Nat} {d23 : Ch} {b26 : Nat} {n29 : Nat} {q30 : Lp} {b34 : Nat} {r : Bool × Int × (List M106) × Int × Int} (hk : bag_Bag_int_All_1_2 k x3 x9 x12 x17 x18 x19 x27 x31 = some r) {g w : World} {F : Ch} {ih : IH} (h6 : RSl e3 ih [] p4 c5 x3) (h22 : OSl e106 ih p20 c21 x19 d23) (h32 : catenarylaw06_BagGoes_2_round_C n29 q30 b2 b8 b11 b14 b26) (hw : St g w [bx b2 [.slice p4 x3.length c5] 40, bx b8 [.int .u8 x9] 5, bx b11 [.bool x12] 4, bx b14 [.pointer (some ⟨b16, 0, none⟩)] 41, bx b16 [.int .i64 x17, .int .i64 x18, .slice p20 x19.length c21] 104, d23, bx b26 [.int .i64 x27] 3, lpo n29 q30 [.ret, .exit 2] x31, bx b34 [.pointer (some ⟨b16, 0, none⟩)] 41, F] ih) :
    CallsR Try.prog 74 #[.func (.yield n29) #[] #[], .pointer (some ⟨b34, 0, none⟩)] w fun v w' => ∃ (p379 : Option Addr) (c380 : Nat) (d381 : Ch), v = .tuple #[] ∧ St g w' [bx b2 [.slice p4 x3.length c5] 40, bx b8 [.int .u8 x9] 5, bx b11 [.bool r.1] 4, bx b14 [.pointer (some ⟨b16, 0, none⟩)] 41, bx b16 [.int .i64 x17, .int .i64 r.2.1, .slice p379 r.2.2.1.length c380] 104, d381, bx b26 [.int .i64 r.2.2.2.1] 3, lpo n29 q30 [.ret, .exit 2] r.2.2.2.2, bx b34 [.pointer (some ⟨b16, 0, none⟩)] 41, F] ih ∧ OSl e106 ih p379 c380 r.2.2.1 d381 := by
  refine f_in (vs := [.func (.yield n29) #[] #[], .pointer (some ⟨b34, 0, none⟩)]) Try.func74 rfl 25 rfl (by kernel_rfl) [(0, .func (.yield n29) #[] #[]), (1, .pointer (some ⟨b34, 0, none⟩))] (by kernel_rfl) fun a Qf hQ hQn hs => ?_
  refine c_seq ?_
  refine c_seq ?_
  refine c_region ?_
  refine s_load hs (hw.at_ 8 rfl) 0 (by kernel_rfl) (by kernel_rfl) (v := .pointer (some ⟨b16, 0, none⟩)) (by kernel_rfl) fun a hs => ?_
  refine pures hs 1 [0, 1, 6] [(0, .func (.yield n29) #[] #[]), (1, .pointer (some ⟨b34, 0, none⟩)), (6, .bool false)] (by kernel_rfl) fun a hs => ?_
  refine s_end ?_
  refine c_condF hs (by kernel_rfl) (by kernel_rfl) ?_
  refine c_skip ?_
  refine c_seq ?_
  refine c_region ?_
  refine s_load hs (hw.at_ 8 rfl) 0 (by kernel_rfl) (by kernel_rfl) (v := .pointer (some ⟨b16, 0, none⟩)) (by kernel_rfl) fun a hs => ?_
  refine pures hs 2 [0, 9] [(0, .func (.yield n29) #[] #[]), (9, .pointer (some ⟨b16, 2, none⟩))] (by kernel_rfl) fun a hs => ?_
  refine s_load hs (hw.at_ 4 rfl) 2 (by kernel_rfl) (by kernel_rfl) (v := .slice p20 x19.length c21) (by kernel_rfl) fun a hs => ?_
  obtain ⟨y215, h216, hk⟩ := bindE hk
  refine s_call hs (by kernel_rfl) (by kernel_rfl) (slices_Clone_bag_item_int_bag_item_int_s h216 h22.read (memF 5 rfl) ((hw.pick [0, 1, 2, 3, 4, 5, 6, 7, 8, 9] (by kernel_rfl)).pack 0)) fun a w v hv hs => ?_
  obtain ⟨p217, c218, d220, rfl, hw, h219⟩ := hv
  replace hw := hw.unpack 1 rfl
  refine pures hs 2 [0, 11, 12, 13] [(0, .func (.yield n29) #[] #[]), (11, .slice p217 y215.length c218), (12, .int .i64 (y215.length : Int)), (13, .int .i64 0)] (by kernel_rfl) fun a hs => ?_
  refine s_end ?_
  refine c_block ?_
  obtain ⟨y344, hx345, hk⟩ := bindE hk
  obtain ⟨J346, hJ346⟩ : ∃ J : Act → World → Prop, ∀ a w, J a w ↔ (∃ (x334 : Bool) (x335 : Int) (x336 : List M106) (x342 : Int) (x343 : Int) (p337 : Option Addr) (c338 : Nat) (d340 : Ch), bag_Bag_int_All_1_2_r3 x334 x335 x336 x342 x343 = some r ∧ Sees a 25 [] ∧ St g w [bx b2 [.slice p4 x3.length c5] 40, bx b8 [.int .u8 x9] 5, bx b11 [.bool x334] 4, bx b14 [.pointer (some ⟨b16, 0, none⟩)] 41, bx b16 [.int .i64 x17, .int .i64 x335, .slice p337 x336.length c338] 104, bx b26 [.int .i64 x342] 3, lpo n29 q30 [.ret, .exit 2] x343, bx b34 [.pointer (some ⟨b16, 0, none⟩)] 41, d340, F] ih ∧ OSl e106 ih p337 c338 x336 d340) := ⟨_, fun _ _ => Iff.rfl⟩
  obtain ⟨I347, hI347⟩ : ∃ J : Nat → Act → World → Prop, ∀ j a w, J j a w ↔ (∃ (x293 : Int) (x294 : Bool) (x295 : Int) (x296 : List M106) (x302 : Int) (x303 : Int) (p297 : Option Addr) (c298 : Nat) (d300 : Ch), bag_Bag_int_All_1_2_l4 y215 x3 x9 x17 j x293 x294 x295 x296 x302 x303 = some y344 ∧ Sees a 25 [(0, .func (.yield n29) #[] #[]), (11, .slice p217 y215.length c218), (12, .int .i64 (y215.length : Int)), (13, .int .i64 x293)] ∧ St g w [bx b2 [.slice p4 x3.length c5] 40, bx b8 [.int .u8 x9] 5, bx b11 [.bool x294] 4, bx b14 [.pointer (some ⟨b16, 0, none⟩)] 41, bx b16 [.int .i64 x17, .int .i64 x295, .slice p297 x296.length c298] 104, bx b26 [.int .i64 x302] 3, lpo n29 q30 [.ret, .exit 2] x303, bx b34 [.pointer (some ⟨b16, 0, none⟩)] 41, d220, d300, F] ih ∧ OSl e106 ih p297 c298 x296 d300) := ⟨_, fun _ _ _ => Iff.rfl⟩
  refine c_exitJ 0 J346 ?_ ?_
  · refine c_loop I347 k ((hI347 _ _ _).2 ⟨0, x12, x18, x19, x27, x31, p20, c21, d23, hx345, hs.cast [0, 11, 12, 13] (by kernel_rfl), hw.pick [1, 2, 3, 4, 5, 7, 8, 9, 0, 6, 10] (by kernel_rfl), h22⟩) (fun a w h0 => ?_) fun j a w hh => ?_
    · obtain ⟨_, _, _, _, _, _, _, _, _, h, _⟩ := (hI347 _ _ _).1 h0
      cases h
    · obtain ⟨x293, x294, x295, x296, x302, x303, p297, c298, d300, hx345, hs, hw, h299⟩ := (hI347 _ _ _).1 hh
      refine c_seq ?_
      refine c_region ?_
      refine pures hs 1 [0, 11, 12, 13, 14] [(0, .func (.yield n29) #[] #[]), (11, .slice p217 y215.length c218), (12, .int .i64 (y215.length : Int)), (13, .int .i64 x293), (14, .bool (decide (x293 < (y215.length : Int))))] (by kernel_rfl) fun a hs => ?_
      refine s_end ?_
      refine c_seq ?_
      rcases ifbE hx345 with ⟨h348, hx345⟩ | ⟨h348, hx345⟩
      · refine c_cond1 hs (by kernel_rfl) (t := (decide (x293 < (y215.length : Int)))) (by kernel_rfl) h348 ?_
        refine c_skip ?_
        refine c_seq ?_
        refine c_block ?_
        refine c_seq ?_
        refine c_region ?_
        obtain ⟨x356, h357, hx345⟩ := bindE hx345
        refine s_indexO hs h219 (by kernel_rfl) (by kernel_rfl) (k := .i64) (by kernel_rfl) 106 (by kernel_rfl) (by kernel_rfl) h357 fun a r358 cs henc at359 h360 hs => ?_
        obtain rfl := henc
        refine s_load hs (at359 _ ((hw.vw 8 rfl).anti (Le.refl _))) 0 (by kernel_rfl) (by kernel_rfl) (v := .agg #[.int .i64 x356.f0, .int .i64 x356.f1]) (by kernel_rfl) fun a hs => ?_
        refine s_new hs hw [.int .i64 0, .int .i64 0] 106 (fun b => .pointer (some ⟨b, 0, none⟩)) (by kernel_rfl) (fun _ => by kernel_rfl) fun a w b361 hs hw => ?_
        refine s_store hs hw 0 rfl 0 (by kernel_rfl) (by kernel_rfl) (v := .agg #[.int .i64 x356.f0, .int .i64 x356.f1]) (by kernel_rfl) (by kernel_rfl) (by kernel_rfl) (by kernel_rfl) fun a w hs hw => ?_
        refine s_end ?_
        refine c_seq ?_
        refine c_region ?_
        refine pures hs 2 [0, 11, 12, 13, 4, 17, 18] [(0, .func (.yield n29) #[] #[]), (11, .slice p217 y215.length c218), (12, .int .i64 (y215.length : Int)), (13, .int .i64 x293), (4, .pointer (some ⟨b361, 0, none⟩)), (17, .func (.yield n29) #[] #[]), (18, .pointer (some ⟨b361, 0, none⟩))] (by kernel_rfl) fun a hs => ?_
        refine s_load hs (hw.at_ 0 rfl) 0 (by kernel_rfl) (by kernel_rfl) (v := .int .i64 x356.f0) (by kernel_rfl) fun a hs => ?_
        refine pures hs 1 [0, 11, 12, 13, 17, 19, 20] [(0, .func (.yield n29) #[] #[]), (11, .slice p217 y215.length c218), (12, .int .i64 (y215.length : Int)), (13, .int .i64 x293), (17, .func (.yield n29) #[] #[]), (19, .int .i64 x356.f0), (20, .pointer (some ⟨b361, 1, none⟩))] (by kernel_rfl) fun a hs => ?_
        refine s_load hs (hw.at_ 0 rfl) 1 (by kernel_rfl) (by kernel_rfl) (v := .int .i64 x356.f1) (by kernel_rfl) fun a hs => ?_
        rcases ifbE hx345 with ⟨h370, hx345⟩ | ⟨h370, hx345⟩
        · cases hx345
        · rw [show x303 = 0 by simpa using h370] at hw
          obtain ⟨y371, h372, hx345⟩ := bindE hx345
          refine s_round hs (by kernel_rfl) (by kernel_rfl) hw 7 rfl (args := #[.int .i64 x356.f0, .int .i64 x356.f1]) (by kernel_rfl) (h32 h372 h6 h299 ((hw.pick [1, 2, 3, 4, 5, 10, 6, 7, 8, 9, 11] (by kernel_rfl)).pack 8)) fun a w v hv hs => ?_
          obtain ⟨p373, c374, d376, rfl, hw, h375⟩ := hv
          replace hw := hw.unpack 8 rfl
          refine pures hs 1 [0, 11, 12, 13, 23] [(0, .func (.yield n29) #[] #[]), (11, .slice p217 y215.length c218), (12, .int .i64 (y215.length : Int)), (13, .int .i64 x293), (23, .bool (!y371.1))] (by kernel_rfl) fun a hs => ?_
          refine s_end ?_
          rcases ifbE hx345 with ⟨h377, hx345⟩ | ⟨h377, hx345⟩
          · refine c_cond1 hs (by kernel_rfl) (t := (!y371.1)) (by kernel_rfl) h377 ?_
            refine c_ret ?_
            obtain rfl := someE hx345
            obtain rfl := someE hk
            refine hQ _ _ (f_retN hs [] rfl [] (by kernel_rfl) (by kernel_rfl) ⟨p373, c374, d376, rfl, hw.pick [0, 1, 2, 3, 4, 5, 6, 7, 8, 10] (by kernel_rfl), h375⟩)
          · refine c_cond0 hs (by kernel_rfl) (t := (!y371.1)) (by kernel_rfl) h377 ?_
            refine c_skip ?_
            refine c_region ?_
            refine pures hs 2 [0, 11, 12, 13] [(0, .func (.yield n29) #[] #[]), (11, .slice p217 y215.length c218), (12, .int .i64 (y215.length : Int)), (13, .int .i64 (IntKind.i64.wrap (x293 + 1)))] (by kernel_rfl) fun a hs => ?_
            refine s_end ?_
            exact (hI347 _ _ _).2 ⟨(IntKind.i64.wrap (x293 + 1)), y371.2.1, y371.2.2.1, y371.2.2.2.1, y371.2.2.2.2.1, y371.2.2.2.2.2, p373, c374, d376, hx345, hs.cast [0, 11, 12, 13] (by kernel_rfl), hw.pick [0, 1, 2, 3, 4, 6, 7, 8, 9, 5, 10] (by kernel_rfl), h375⟩
      · refine c_cond0 hs (by kernel_rfl) (t := (decide (x293 < (y215.length : Int)))) (by kernel_rfl) h348 ?_
        refine c_exit ?_
        obtain rfl := someE hx345
        exact (hJ346 _ _).2 ⟨x294, x295, x296, x302, x303, p297, c298, d300, hk, hs.cast [] (by kernel_rfl), hw.pick [0, 1, 2, 3, 4, 5, 6, 7, 9, 10] (by kernel_rfl), h299⟩
  · intro a w hh
    obtain ⟨x334, x335, x336, x342, x343, p337, c338, d340, hk, hs, hw, h339⟩ := (hJ346 _ _).1 hh
    obtain rfl := someE hk
    refine hQn _ _ (f_retN hs [] rfl [] (by kernel_rfl) (by kernel_rfl) ⟨p337, c338, d340, rfl, hw.pick [0, 1, 2, 3, 4, 8, 5, 6, 7, 9] (by kernel_rfl), h339⟩)
def bag_Bag_int_Len (x3 : Int) (x4 : Int) (x5 : List M106) : Option Int :=
  some (x5.length : Int)
theorem bag_Bag_int_Len_s {x3 : Int} {x4 : Int} {x5 : List M106} {b2 : Nat} {p6 : Option Addr} {c7 : Nat} {d9 : Ch} {r : Int} (hk : bag_Bag_int_Len x3 x4 x5 = some r) {g w : World} {F : Ch} {ih : IH} (h8 : OSl e106 ih p6 c7 x5 d9) (hw : St g w [bx b2 [.int .i64 x3, .int .i64 x4, .slice p6 x5.length c7] 104, d9, F] ih) :
    CallsR Try.prog 28 #[.pointer (some ⟨b2, 0, none⟩)] w fun v w' => v = .int .i64 r ∧ St g w' [bx b2 [.int .i64 x3, .int .i64 x4, .slice p6 x5.length c7] 104, d9, F] ih := by
  refine f_in (vs := [.pointer (some ⟨b2, 0, none⟩)]) Try.func28 rfl 10 rfl (by kernel_rfl) [(0, .pointer (some ⟨b2, 0, none⟩))] (by kernel_rfl) fun a Qf hQ hQn hs => ?_
  refine c_seq ?_
  refine c_region ?_
  refine pures hs 1 [0] [(0, .pointer (some ⟨b2, 0, none⟩))] (by kernel_rfl) fun a hs => ?_
  refine s_end ?_
  refine c_seq ?_
  refine c_seq ?_
  refine c_region ?_
  refine pures hs 2 [0, 4] [(0, .pointer (some ⟨b2, 0, none⟩)), (4, .bool false)] (by kernel_rfl) fun a hs => ?_
  refine s_end ?_
  refine c_condF hs (by kernel_rfl) (by kernel_rfl) ?_
  refine c_skip ?_
  refine c_seq ?_
  refine c_region ?_
  refine pures hs 3 [7] [(7, .pointer (some ⟨b2, 2, none⟩))] (by kernel_rfl) fun a hs => ?_
  refine s_load hs (hw.at_ 0 rfl) 2 (by kernel_rfl) (by kernel_rfl) (v := .slice p6 x5.length c7) (by kernel_rfl) fun a hs => ?_
  refine pures hs 2 [2] [(2, .int .i64 (x5.length : Int))] (by kernel_rfl) fun a hs => ?_
  refine s_end ?_
  refine c_ret ?_
  obtain rfl := someE hk
  refine hQ _ _ (f_ret1 hs rfl (v := .int .i64 (x5.length : Int)) (by kernel_rfl) ⟨rfl, hw.pick [0, 1, 2] (by kernel_rfl)⟩)
def bag_Bag_int_Last (x3 : Int) (x4 : Int) (x5 : List M106) : Option Int :=
  some x4
theorem bag_Bag_int_Last_s {x3 : Int} {x4 : Int} {x5 : List M106} {b2 : Nat} {p6 : Option Addr} {c7 : Nat} {d9 : Ch} {r : Int} (hk : bag_Bag_int_Last x3 x4 x5 = some r) {g w : World} {F : Ch} {ih : IH} (h8 : OSl e106 ih p6 c7 x5 d9) (hw : St g w [bx b2 [.int .i64 x3, .int .i64 x4, .slice p6 x5.length c7] 104, d9, F] ih) :
    CallsR Try.prog 29 #[.pointer (some ⟨b2, 0, none⟩)] w fun v w' => v = .int .i64 r ∧ St g w' [bx b2 [.int .i64 x3, .int .i64 x4, .slice p6 x5.length c7] 104, d9, F] ih := by
  refine f_in (vs := [.pointer (some ⟨b2, 0, none⟩)]) Try.func29 rfl 9 rfl (by kernel_rfl) [(0, .pointer (some ⟨b2, 0, none⟩))] (by kernel_rfl) fun a Qf hQ hQn hs => ?_
  refine c_seq ?_
  refine c_region ?_
  refine pures hs 1 [0] [(0, .pointer (some ⟨b2, 0, none⟩))] (by kernel_rfl) fun a hs => ?_
  refine s_end ?_
  refine c_seq ?_
  refine c_seq ?_
  refine c_region ?_
  refine pures hs 2 [0, 4] [(0, .pointer (some ⟨b2, 0, none⟩)), (4, .bool false)] (by kernel_rfl) fun a hs => ?_
  refine s_end ?_
  refine c_condF hs (by kernel_rfl) (by kernel_rfl) ?_
  refine c_skip ?_
  refine c_seq ?_
  refine c_region ?_
  refine pures hs 3 [7] [(7, .pointer (some ⟨b2, 1, none⟩))] (by kernel_rfl) fun a hs => ?_
  refine s_load hs (hw.at_ 0 rfl) 1 (by kernel_rfl) (by kernel_rfl) (v := .int .i64 x4) (by kernel_rfl) fun a hs => ?_
  refine pures hs 1 [2] [(2, .int .i64 x4)] (by kernel_rfl) fun a hs => ?_
  refine s_end ?_
  refine c_ret ?_
  obtain rfl := someE hk
  refine hQ _ _ (f_ret1 hs rfl (v := .int .i64 x4) (by kernel_rfl) ⟨rfl, hw.pick [0, 1, 2] (by kernel_rfl)⟩)
def bag_Bag_int_No (x3 : Int) (x4 : Int) (x5 : List M106) (x11 : Int) : Option Int :=
  (bag_Bag_int_has x3 x4 x5 x11).bind fun y31 =>
  if (!y31) = true then some 0
  else (ix x5 x11).bind fun x39 =>
  some x39.f0
theorem bag_Bag_int_No_s {x3 : Int} {x4 : Int} {x5 : List M106} {x11 : Int} {b2 : Nat} {p6 : Option Addr} {c7 : Nat} {d9 : Ch} {r : Int} (hk : bag_Bag_int_No x3 x4 x5 x11 = some r) {g w : World} {F : Ch} {ih : IH} (h8 : OSl e106 ih p6 c7 x5 d9) (hw : St g w [bx b2 [.int .i64 x3, .int .i64 x4, .slice p6 x5.length c7] 104, d9, F] ih) :
    CallsR Try.prog 53 #[.pointer (some ⟨b2, 0, none⟩), .int .i64 x11] w fun v w' => v = .int .i64 r ∧ St g w' [bx b2 [.int .i64 x3, .int .i64 x4, .slice p6 x5.length c7] 104, d9, F] ih := by
  refine f_in (vs := [.pointer (some ⟨b2, 0, none⟩), .int .i64 x11]) Try.func53 rfl 17 rfl (by kernel_rfl) [(0, .pointer (some ⟨b2, 0, none⟩)), (1, .int .i64 x11)] (by kernel_rfl) fun a Qf hQ hQn hs => ?_
  refine c_seq ?_
  refine c_region ?_
  refine pures hs 1 [0, 1] [(0, .pointer (some ⟨b2, 0, none⟩)), (1, .int .i64 x11)] (by kernel_rfl) fun a hs => ?_
  refine s_end ?_
  refine c_seq ?_
  refine c_seq ?_
  refine c_region ?_
  refine pures hs 2 [0, 1, 5, 6] [(0, .pointer (some ⟨b2, 0, none⟩)), (1, .int .i64 x11), (5, .pointer (some ⟨b2, 0, none⟩)), (6, .int .i64 x11)] (by kernel_rfl) fun a hs => ?_
  obtain ⟨y31, h32, hk⟩ := bindE hk
  refine s_call hs (by kernel_rfl) (by kernel_rfl) (bag_Bag_int_has_s h32 h8 ((hw.pick [0, 1, 2] (by kernel_rfl)).pack 2)) fun a w v hv hs => ?_
  obtain ⟨rfl, hw⟩ := hv
  replace hw := hw.unpack 2 rfl
  refine pures hs 1 [0, 1, 8] [(0, .pointer (some ⟨b2, 0, none⟩)), (1, .int .i64 x11), (8, .bool (!y31))] (by kernel_rfl) fun a hs => ?_
  refine s_end ?_
  rcases ifbE hk with ⟨h33, hk⟩ | ⟨h33, hk⟩
  · refine c_cond1 hs (by kernel_rfl) (t := (!y31)) (by kernel_rfl) h33 ?_
    refine c_seq ?_
    refine c_region ?_
    refine pures hs 1 [4] [(4, .int .i64 0)] (by kernel_rfl) fun a hs => ?_
    refine s_end ?_
    refine c_ret ?_
    obtain rfl := someE hk
    refine hQ _ _ (f_ret1 hs rfl (v := .int .i64 0) (by kernel_rfl) ⟨rfl, hw.pick [0, 1, 2] (by kernel_rfl)⟩)
  · refine c_cond0 hs (by kernel_rfl) (t := (!y31)) (by kernel_rfl) h33 ?_
    refine c_skip ?_
    refine c_seq ?_
    refine c_region ?_
    refine pures hs 3 [1, 11] [(1, .int .i64 x11), (11, .pointer (some ⟨b2, 2, none⟩))] (by kernel_rfl) fun a hs => ?_
    refine s_load hs (hw.at_ 0 rfl) 2 (by kernel_rfl) (by kernel_rfl) (v := .slice p6 x5.length c7) (by kernel_rfl) fun a hs => ?_
    refine pures hs 1 [12, 13] [(12, .slice p6 x5.length c7), (13, .int .i64 x11)] (by kernel_rfl) fun a hs => ?_
    obtain ⟨x39, h40, hk⟩ := bindE hk
    refine s_indexO hs h8 (by kernel_rfl) (by kernel_rfl) (k := .i64) (by kernel_rfl) 106 (by kernel_rfl) (by kernel_rfl) h40 fun a r41 cs henc at42 h43 hs => ?_
    obtain rfl := henc
    refine pures hs 1 [15] [(15, .pointer (some r41))] (by kernel_rfl) fun a hs => ?_
    refine s_load hs (at42 _ ((hw.vw 1 rfl).anti (Le.refl _))) 0 (by kernel_rfl) (by kernel_rfl) (v := .int .i64 x39.f0) (by kernel_rfl) fun a hs => ?_
    refine pures hs 1 [4] [(4, .int .i64 x39.f0)] (by kernel_rfl) fun a hs => ?_
    refine s_end ?_
    refine c_ret ?_
    obtain rfl := someE hk
    refine hQ _ _ (f_ret1 hs rfl (v := .int .i64 x39.f0) (by kernel_rfl) ⟨rfl, hw.pick [0, 1, 2] (by kernel_rfl)⟩)
def catenarylaw06_awake_r2 (x190 : Bool) : Option Bool :=
  some x190
def catenarylaw06_awake : Option Bool :=
  (bag_New_int 9).bind fun y113 =>
  (bag_Bag_int_Put y113.1 y113.2.1 y113.2.2 7).bind fun y128 =>
  (bag_Bag_int_Put y113.1 y128.2.2.1 y128.2.2.2 8).bind fun y140 =>
  (bag_Bag_int_Put y113.1 y140.2.2.1 y140.2.2.2 9).bind fun y152 =>
  (bag_Bag_int_Take y113.1 y152.2.2.1 y152.2.2.2 1).bind fun y164 =>
  (if (y164.1 == 8) = true then (
      if y164.2.1 = true then (
        (bag_Bag_int_Len y113.1 y152.2.2.1 y164.2.2).bind fun y196 =>
        if (y196 == 2) = true then (
          (bag_Bag_int_No y113.1 y152.2.2.1 y164.2.2 0).bind fun y199 =>
          if (y199 == 1) = true then (
            (bag_Bag_int_No y113.1 y152.2.2.1 y164.2.2 1).bind fun y202 =>
            some (y202 == 3))
          else some false)
        else some false)
      else some false)
    else some false : Option Bool).bind fun s204 => catenarylaw06_awake_r2 s204
theorem catenarylaw06_awake_s {r : Bool} (hk : catenarylaw06_awake = some r) {g w : World} {F : Ch} {ih : IH} (hw : St g w [F] ih) :
    CallsR Try.prog 30 #[] w fun v w' => v = .bool r ∧ St g w' [F] ih := by
  refine f_in (vs := []) Try.func30 rfl 36 rfl (by kernel_rfl) [] (by kernel_rfl) fun a Qf hQ hQn hs => ?_
  refine c_seq ?_
  refine c_region ?_
  refine pures hs 1 [] [] (by kernel_rfl) fun a hs => ?_
  refine s_end ?_
  refine c_seq ?_
  refine c_region ?_
  obtain ⟨y113, h114, hk⟩ := bindE hk
  refine s_call hs (by kernel_rfl) (by kernel_rfl) (bag_New_int_s h114 ((hw.pick [0] (by kernel_rfl)).pack 0)) fun a w v hv hs => ?_
  obtain ⟨b115, p117, c118, d120, rfl, hw, h119⟩ := hv
  replace hw := hw.unpack 2 rfl
  refine pures hs 1 [1] [(1, .pointer (some ⟨b115, 0, none⟩))] (by kernel_rfl) fun a hs => ?_
  refine s_end ?_
  refine c_seq ?_
  refine c_region ?_
  refine pures hs 1 [1, 5] [(1, .pointer (some ⟨b115, 0, none⟩)), (5, .pointer (some ⟨b115, 0, none⟩))] (by kernel_rfl) fun a hs => ?_
  obtain ⟨y128, h129, hk⟩ := bindE hk
  refine s_call hs (by kernel_rfl) (by kernel_rfl) (bag_Bag_int_Put_s h129 h119 ((hw.pick [0, 1, 2] (by kernel_rfl)).pack 2)) fun a w v hv hs => ?_
  obtain ⟨p130, c131, d133, rfl, hw, h132⟩ := hv
  replace hw := hw.unpack 2 rfl
  refine s_end ?_
  refine c_seq ?_
  refine c_region ?_
  refine pures hs 1 [1, 7] [(1, .pointer (some ⟨b115, 0, none⟩)), (7, .pointer (some ⟨b115, 0, none⟩))] (by kernel_rfl) fun a hs => ?_
  obtain ⟨y140, h141, hk⟩ := bindE hk
  refine s_call hs (by kernel_rfl) (by kernel_rfl) (bag_Bag_int_Put_s h141 h132 ((hw.pick [0, 1, 2] (by kernel_rfl)).pack 2)) fun a w v hv hs => ?_
  obtain ⟨p142, c143, d145, rfl, hw, h144⟩ := hv
  replace hw := hw.unpack 2 rfl
  refine s_end ?_
  refine c_seq ?_
  refine c_region ?_
  refine pures hs 1 [1, 9] [(1, .pointer (some ⟨b115, 0, none⟩)), (9, .pointer (some ⟨b115, 0, none⟩))] (by kernel_rfl) fun a hs => ?_
  obtain ⟨y152, h153, hk⟩ := bindE hk
  refine s_call hs (by kernel_rfl) (by kernel_rfl) (bag_Bag_int_Put_s h153 h144 ((hw.pick [0, 1, 2] (by kernel_rfl)).pack 2)) fun a w v hv hs => ?_
  obtain ⟨p154, c155, d157, rfl, hw, h156⟩ := hv
  replace hw := hw.unpack 2 rfl
  refine s_end ?_
  refine c_seq ?_
  refine c_region ?_
  refine pures hs 1 [1, 12] [(1, .pointer (some ⟨b115, 0, none⟩)), (12, .pointer (some ⟨b115, 0, none⟩))] (by kernel_rfl) fun a hs => ?_
  obtain ⟨y164, h165, hk⟩ := bindE hk
  refine s_call hs (by kernel_rfl) (by kernel_rfl) (bag_Bag_int_Take_s h165 h156 ((hw.pick [0, 1, 2] (by kernel_rfl)).pack 2)) fun a w v hv hs => ?_
  obtain ⟨p166, c167, d169, rfl, hw, h168⟩ := hv
  replace hw := hw.unpack 2 rfl
  refine pures hs 5 [1, 2, 3] [(1, .pointer (some ⟨b115, 0, none⟩)), (2, .int .i64 y164.1), (3, .bool y164.2.1)] (by kernel_rfl) fun a hs => ?_
  refine s_end ?_
  refine c_seq ?_
  obtain ⟨y191, hx192, hk⟩ := bindE hk
  obtain ⟨J193, hJ193⟩ : ∃ J : Act → World → Prop, ∀ a w, J a w ↔ (∃ (x190 : Bool), catenarylaw06_awake_r2 x190 = some r ∧ Sees a 36 [(0, .bool x190)] ∧ St g w [F] ih) := ⟨_, fun _ _ => Iff.rfl⟩
  refine c_regJ J193 ?_ ?_
  · refine pures hs 3 [1, 3, 18] [(1, .pointer (some ⟨b115, 0, none⟩)), (3, .bool y164.2.1), (18, .bool (y164.1 == 8))] (by kernel_rfl) fun a hs => ?_
    rcases ifbE hx192 with ⟨h194, hx192⟩ | ⟨h194, hx192⟩
    · replace hs := hs.altB 18 true (by kernel_rfl) h194
      refine pures hs 3 [1, 21] [(1, .pointer (some ⟨b115, 0, none⟩)), (21, .bool y164.2.1)] (by kernel_rfl) fun a hs => ?_
      rcases ifbE hx192 with ⟨h195, hx192⟩ | ⟨h195, hx192⟩
      · replace hs := hs.altB 21 true (by kernel_rfl) h195
        refine pures hs 1 [1, 21, 22] [(1, .pointer (some ⟨b115, 0, none⟩)), (21, .bool true), (22, .pointer (some ⟨b115, 0, none⟩))] (by kernel_rfl) fun a hs => ?_
        obtain ⟨y196, h197, hx192⟩ := bindE hx192
        refine s_call hs (by kernel_rfl) (by kernel_rfl) (bag_Bag_int_Len_s h197 h168 ((hw.pick [0, 1, 2] (by kernel_rfl)).pack 2)) fun a w v hv hs => ?_
        obtain ⟨rfl, hw⟩ := hv
        replace hw := hw.unpack 2 rfl
        refine pures hs 3 [1, 26] [(1, .pointer (some ⟨b115, 0, none⟩)), (26, .bool (y196 == 2))] (by kernel_rfl) fun a hs => ?_
        rcases ifbE hx192 with ⟨h198, hx192⟩ | ⟨h198, hx192⟩
        · replace hs := hs.altB 26 true (by kernel_rfl) h198
          refine pures hs 1 [1, 26, 27] [(1, .pointer (some ⟨b115, 0, none⟩)), (26, .bool true), (27, .pointer (some ⟨b115, 0, none⟩))] (by kernel_rfl) fun a hs => ?_
          obtain ⟨y199, h200, hx192⟩ := bindE hx192
          refine s_call hs (by kernel_rfl) (by kernel_rfl) (bag_Bag_int_No_s h200 h168 ((hw.pick [0, 1, 2] (by kernel_rfl)).pack 2)) fun a w v hv hs => ?_
          obtain ⟨rfl, hw⟩ := hv
          replace hw := hw.unpack 2 rfl
          refine pures hs 3 [1, 31] [(1, .pointer (some ⟨b115, 0, none⟩)), (31, .bool (y199 == 1))] (by kernel_rfl) fun a hs => ?_
          rcases ifbE hx192 with ⟨h201, hx192⟩ | ⟨h201, hx192⟩
          · replace hs := hs.altB 31 true (by kernel_rfl) h201
            refine pures hs 1 [31, 32] [(31, .bool true), (32, .pointer (some ⟨b115, 0, none⟩))] (by kernel_rfl) fun a hs => ?_
            obtain ⟨y202, h203, hx192⟩ := bindE hx192
            refine s_call hs (by kernel_rfl) (by kernel_rfl) (bag_Bag_int_No_s h203 h168 ((hw.pick [0, 1, 2] (by kernel_rfl)).pack 2)) fun a w v hv hs => ?_
            obtain ⟨rfl, hw⟩ := hv
            replace hw := hw.unpack 2 rfl
            refine pures hs 3 [0] [(0, .bool (y202 == 3))] (by kernel_rfl) fun a hs => ?_
            refine s_end ?_
            obtain rfl := someE hx192
            exact (hJ193 _ _).2 ⟨(y202 == 3), hk, hs.cast [0] (by kernel_rfl), hw.pick [2] (by kernel_rfl)⟩
          · replace hs := hs.altB 31 false (by kernel_rfl) h201
            refine pures hs 5 [0] [(0, .bool false)] (by kernel_rfl) fun a hs => ?_
            refine s_end ?_
            obtain rfl := someE hx192
            exact (hJ193 _ _).2 ⟨false, hk, hs.cast [0] (by kernel_rfl), hw.pick [2] (by kernel_rfl)⟩
        · replace hs := hs.altB 26 false (by kernel_rfl) h198
          refine pures hs 10 [0] [(0, .bool false)] (by kernel_rfl) fun a hs => ?_
          refine s_end ?_
          obtain rfl := someE hx192
          exact (hJ193 _ _).2 ⟨false, hk, hs.cast [0] (by kernel_rfl), hw.pick [2] (by kernel_rfl)⟩
      · replace hs := hs.altB 21 false (by kernel_rfl) h195
        refine pures hs 15 [0] [(0, .bool false)] (by kernel_rfl) fun a hs => ?_
        refine s_end ?_
        obtain rfl := someE hx192
        exact (hJ193 _ _).2 ⟨false, hk, hs.cast [0] (by kernel_rfl), hw.pick [2] (by kernel_rfl)⟩
    · replace hs := hs.altB 18 false (by kernel_rfl) h194
      refine pures hs 18 [0] [(0, .bool false)] (by kernel_rfl) fun a hs => ?_
      refine s_end ?_
      obtain rfl := someE hx192
      exact (hJ193 _ _).2 ⟨false, hk, hs.cast [0] (by kernel_rfl), hw.pick [2] (by kernel_rfl)⟩
  · intro a w hh
    obtain ⟨x190, hk, hs, hw⟩ := (hJ193 _ _).1 hh
    refine c_ret ?_
    obtain rfl := someE hk
    refine hQ _ _ (f_ret1 hs rfl (v := .bool x190) (by kernel_rfl) ⟨rfl, hw.pick [0] (by kernel_rfl)⟩)
def catenarylaw06_BagGoes_2_r12 (x572 : Bool) : Option Bool :=
  some x572
def catenarylaw06_BagGoes_2_r13 (x5 : Int) (x1 : List Int) (y353 : Int × Int × (List M106)) (x542 : Int) (x543 : Int) (x544 : List M106) (x550 : Bool) : Option Bool :=
  (if (x542 == (if (IntKind.i64.wrap ((IntKind.i64.wrap (x5)) + 1)) < (if 40 < (x1.length : Int) then 40 else (x1.length : Int)) then (IntKind.i64.wrap ((IntKind.i64.wrap (x5)) + 1)) else (if 40 < (x1.length : Int) then 40 else (x1.length : Int)))) = true then (
      (bag_Bag_int_Len y353.1 x543 x544).bind fun y577 =>
      if (y577 == (if 40 < (x1.length : Int) then 40 else (x1.length : Int))) = true then (
        (bag_Bag_int_Last y353.1 x543 x544).bind fun y580 =>
        if (y580 == (IntKind.i64.wrap ((if 40 < (x1.length : Int) then 40 else (x1.length : Int)) + x542))) = true then (
          (catenarylaw06_awake).bind fun y583 =>
          some y583)
        else some false)
      else some false)
    else some false : Option Bool).bind fun s585 => catenarylaw06_BagGoes_2_r12 s585
def catenarylaw06_BagGoes_2_r14 (k : Nat) (y353 : Int × Int × (List M106)) (x1 : List Int) (x5 : Int) (x509 : Int) (x510 : List M106) : Option Bool :=
  (bag_Bag_int_All y353.1 x509 x510).bind fun _ =>
  ((bag_Bag_int_All_1_2 k x1 x5 false y353.1 x509 x510 0 0).bind fun y594 =>
    if (y594.2.2.2.2 == 0) = true then some (.inr (y594.2.2.2.1, y594.2.1, y594.2.2.1, y594.1))
    else if (y594.2.2.2.2 == 1) = true then some (.inl y594.1)
    else if (y594.2.2.2.2 == 2) = true then some (.inr (y594.2.2.2.1, y594.2.1, y594.2.2.1, y594.1))
    else none : Option (Sum Bool (Int × Int × (List M106) × Bool))).bind fun
    | .inl z => some z
    | .inr s603 => catenarylaw06_BagGoes_2_r13 x5 x1 y353 s603.1 s603.2.1 s603.2.2.1 s603.2.2.2
def catenarylaw06_BagGoes_2_r16 (rec_catenarylaw06_BagGoes_2_l15 : Int → Int → (List M106) → Option (Int × (List M106))) (x458 : Int) (x630 : Int) (x631 : List M106) : Option (Int × (List M106)) :=
  rec_catenarylaw06_BagGoes_2_l15 (IntKind.i64.wrap (x458 + 1)) x630 x631
def catenarylaw06_BagGoes_2_l15 (x1 : List Int) (y353 : Int × Int × (List M106)) : Nat → Int → Int → (List M106) → Option (Int × (List M106))
  | 0, _, _, _ => none
  | j + 1, x458, x459, x460 =>
    if (decide (x458 < (if 40 < (x1.length : Int) then 40 else (x1.length : Int)))) = true then (
      ((ix x1 x458).bind fun x640 =>
        (bag_Bag_int_Put y353.1 x459 x460 x640).bind fun y644 =>
        some (y644.2.2.1, y644.2.2.2) : Option (Int × (List M106))).bind fun s650 => catenarylaw06_BagGoes_2_r16 (catenarylaw06_BagGoes_2_l15 x1 y353 j) x458 s650.1 s650.2)
    else some (x459, x460)
def catenarylaw06_BagGoes_2 (k : Nat) (x1 : List Int) (x5 : Int) : Option Bool :=
  (bag_New_int 100).bind fun y353 =>
  (catenarylaw06_BagGoes_2_l15 x1 y353 k 0 y353.2.1 y353.2.2 : Option (Int × (List M106))).bind fun s651 => catenarylaw06_BagGoes_2_r14 k y353 x1 x5 s651.1 s651.2
theorem catenarylaw06_BagGoes_2_s {k : Nat} {x1 : List Int} {x5 : Int} {p2 : Option Addr} {c3 : Nat} {r : Bool} (hk : catenarylaw06_BagGoes_2 k x1 x5 = some r) {g w : World} {F : Ch} {ih : IH} (h4 : RSl e3 ih [] p2 c3 x1) (hw : St g w [F] ih) :
    CallsR Try.prog 5 #[.slice p2 x1.length c3, .int .u8 x5] w fun v w' => v = .bool r ∧ St g w' [F] ih := by
  refine f_inM (vs := [.slice p2 x1.length c3, .int .u8 x5]) Try.func5 rfl 81 rfl (by kernel_rfl) [(0, .slice p2 x1.length c3), (1, .int .u8 x5)] (by kernel_rfl) fun a Qf hQ hQn hs => ?_
  refine c_seq ?_
  refine c_region ?_
  refine s_new hs hw [.slice p2 x1.length c3] 40 (fun b => .pointer (some ⟨b, 0, none⟩)) (by kernel_rfl) (fun _ => by kernel_rfl) fun a w b336 hs hw => ?_
  refine s_new hs hw [.int .u8 x5] 5 (fun b => .pointer (some ⟨b, 0, none⟩)) (by kernel_rfl) (fun _ => by kernel_rfl) fun a w b338 hs hw => ?_
  refine s_new hs hw [.bool false] 4 (fun b => .pointer (some ⟨b, 0, none⟩)) (by kernel_rfl) (fun _ => by kernel_rfl) fun a w b340 hs hw => ?_
  refine s_end ?_
  refine c_seq ?_
  refine c_region ?_
  obtain ⟨y353, h354, hk⟩ := bindE hk
  refine s_call hs (by kernel_rfl) (by kernel_rfl) (bag_New_int_s h354 ((hw.pick [0, 1, 2, 3] (by kernel_rfl)).pack 0)) fun a w v hv hs => ?_
  obtain ⟨b355, p357, c358, d360, rfl, hw, h359⟩ := hv
  replace hw := hw.unpack 2 rfl
  refine s_new hs hw [.pointer none] 41 (fun b => .pointer (some ⟨b, 0, none⟩)) (by kernel_rfl) (fun _ => by kernel_rfl) fun a w b362 hs hw => ?_
  refine s_store hs hw 0 rfl 0 (by kernel_rfl) (by kernel_rfl) (v := .pointer (some ⟨b355, 0, none⟩)) (by kernel_rfl) (by kernel_rfl) (by kernel_rfl) (by kernel_rfl) fun a w hs hw => ?_
  refine s_end ?_
  refine c_seq ?_
  refine c_region ?_
  refine s_load hs (hw.at_ 5 rfl) 0 (by kernel_rfl) (by kernel_rfl) (v := .slice p2 x1.length c3) (by kernel_rfl) fun a hs => ?_
  refine pures hs 3 [2, 3, 4, 5, 6] [(2, .pointer (some ⟨b336, 0, none⟩)), (3, .pointer (some ⟨b338, 0, none⟩)), (4, .pointer (some ⟨b340, 0, none⟩)), (5, .pointer (some ⟨b362, 0, none⟩)), (6, .int .i64 (if 40 < (x1.length : Int) then 40 else (x1.length : Int)))] (by kernel_rfl) fun a hs => ?_
  refine s_end ?_
  refine c_seq ?_
  refine c_seq ?_
  refine c_region ?_
  refine pures hs 1 [2, 3, 4, 5, 6, 7] [(2, .pointer (some ⟨b336, 0, none⟩)), (3, .pointer (some ⟨b338, 0, none⟩)), (4, .pointer (some ⟨b340, 0, none⟩)), (5, .pointer (some ⟨b362, 0, none⟩)), (6, .int .i64 (if 40 < (x1.length : Int) then 40 else (x1.length : Int))), (7, .int .i64 0)] (by kernel_rfl) fun a hs => ?_
  refine s_end ?_
  refine c_block ?_
  obtain ⟨y604, hx605, hk⟩ := bindE hk
  obtain ⟨J606, hJ606⟩ : ∃ J : Act → World → Prop, ∀ a w, J a w ↔ (∃ (x509 : Int) (x510 : List M106) (p511 : Option Addr) (c512 : Nat) (d514 : Ch), catenarylaw06_BagGoes_2_r14 k y353 x1 x5 x509 x510 = some r ∧ Sees a 81 [(2, .pointer (some ⟨b336, 0, none⟩)), (3, .pointer (some ⟨b338, 0, none⟩)), (4, .pointer (some ⟨b340, 0, none⟩)), (5, .pointer (some ⟨b362, 0, none⟩)), (6, .int .i64 (if 40 < (x1.length : Int) then 40 else (x1.length : Int)))] ∧ St g w [bx b362 [.pointer (some ⟨b355, 0, none⟩)] 41, bx b355 [.int .i64 y353.1, .int .i64 x509, .slice p511 x510.length c512] 104, bx b340 [.bool false] 4, bx b338 [.int .u8 x5] 5, bx b336 [.slice p2 x1.length c3] 40, d514, F] ih ∧ OSl e106 ih p511 c512 x510 d514) := ⟨_, fun _ _ => Iff.rfl⟩
  obtain ⟨I607, hI607⟩ : ∃ J : Nat → Act → World → Prop, ∀ j a w, J j a w ↔ (∃ (x458 : Int) (x459 : Int) (x460 : List M106) (p461 : Option Addr) (c462 : Nat) (d464 : Ch), catenarylaw06_BagGoes_2_l15 x1 y353 j x458 x459 x460 = some y604 ∧ Sees a 81 [(2, .pointer (some ⟨b336, 0, none⟩)), (3, .pointer (some ⟨b338, 0, none⟩)), (4, .pointer (some ⟨b340, 0, none⟩)), (5, .pointer (some ⟨b362, 0, none⟩)), (6, .int .i64 (if 40 < (x1.length : Int) then 40 else (x1.length : Int))), (7, .int .i64 x458)] ∧ St g w [bx b362 [.pointer (some ⟨b355, 0, none⟩)] 41, bx b355 [.int .i64 y353.1, .int .i64 x459, .slice p461 x460.length c462] 104, bx b340 [.bool false] 4, bx b338 [.int .u8 x5] 5, bx b336 [.slice p2 x1.length c3] 40, d464, F] ih ∧ OSl e106 ih p461 c462 x460 d464) := ⟨_, fun _ _ _ => Iff.rfl⟩
  refine c_exitJ 0 J606 ?_ ?_
  · refine c_loop I607 k ((hI607 _ _ _).2 ⟨0, y353.2.1, y353.2.2, p357, c358, d360, hx605, hs.cast [2, 3, 4, 5, 6, 7] (by kernel_rfl), hw.pick [0, 1, 3, 4, 5, 2, 6] (by kernel_rfl), h359⟩) (fun a w h0 => ?_) fun j a w hh => ?_
    · obtain ⟨_, _, _, _, _, _, h, _⟩ := (hI607 _ _ _).1 h0
      cases h
    · obtain ⟨x458, x459, x460, p461, c462, d464, hx605, hs, hw, h463⟩ := (hI607 _ _ _).1 hh
      refine c_seq ?_
      refine c_seq ?_
      refine c_region ?_
      refine pures hs 3 [2, 3, 4, 5, 6, 7, 18] [(2, .pointer (some ⟨b336, 0, none⟩)), (3, .pointer (some ⟨b338, 0, none⟩)), (4, .pointer (some ⟨b340, 0, none⟩)), (5, .pointer (some ⟨b362, 0, none⟩)), (6, .int .i64 (if 40 < (x1.length : Int) then 40 else (x1.length : Int))), (7, .int .i64 x458), (18, .bool (decide (x458 < (if 40 < (x1.length : Int) then 40 else (x1.length : Int)))))] (by kernel_rfl) fun a hs => ?_
      refine s_end ?_
      rcases ifbE hx605 with ⟨h608, hx605⟩ | ⟨h608, hx605⟩
      · refine c_cond1 hs (by kernel_rfl) (t := (decide (x458 < (if 40 < (x1.length : Int) then 40 else (x1.length : Int))))) (by kernel_rfl) h608 ?_
        refine c_skip ?_
        refine c_seq ?_
        refine c_block ?_
        obtain ⟨S609, hS609, kS609⟩ := mkSX (X := [([], bx b362 [.pointer (some ⟨b355, 0, none⟩)] 41), ([5], bx b355 [.int .i64 y353.1, .int .i64 x459, .slice p461 x460.length c462] 104), ([], bx b340 [.bool false] 4), ([], bx b338 [.int .u8 x5] 5), ([], bx b336 [.slice p2 x1.length c3] 40), ([5], d464), ([], F)]) (ih := ih) (K := [5, 5]) rfl
        obtain ⟨y637, hx638, hx605⟩ := bindE hx605
        obtain ⟨J639, hJ639⟩ : ∃ J : Act → World → Prop, ∀ a w, J a w ↔ (∃ (x630 : Int) (x631 : List M106) (p632 : Option Addr) (c633 : Nat) (d635 : Ch), catenarylaw06_BagGoes_2_r16 (catenarylaw06_BagGoes_2_l15 x1 y353 j) x458 x630 x631 = some y604 ∧ Sees a 81 [(2, .pointer (some ⟨b336, 0, none⟩)), (3, .pointer (some ⟨b338, 0, none⟩)), (4, .pointer (some ⟨b340, 0, none⟩)), (5, .pointer (some ⟨b362, 0, none⟩)), (6, .int .i64 (if 40 < (x1.length : Int) then 40 else (x1.length : Int))), (7, .int .i64 x458)] ∧ St g w [bx b362 [.pointer (some ⟨b355, 0, none⟩)] 41, bx b355 [.int .i64 y353.1, .int .i64 x630, .slice p632 x631.length c633] 104, bx b340 [.bool false] 4, bx b338 [.int .u8 x5] 5, bx b336 [.slice p2 x1.length c3] 40, d635, F] ih ∧ OSl e106 ih p632 c633 x631 d635) := ⟨_, fun _ _ => Iff.rfl⟩
        refine c_draw (by kernel_rfl) (N := 6) rfl S609 J639 ?_ ?_
        · have hw := hw.drew
          have hS : S609 (Array.replicate 6 false) _ := SX_now hS609 (hw.vws [0, 1, 2, 3, 4, 5, 6]) (by kernel_rfl)
          refine d_load (fuel := 5) kS609 hs hS 0 rfl (by kernel_rfl) (SX_box hS609 0 rfl (by kernel_rfl)) 0 (by kernel_rfl) (by kernel_rfl) (v := .pointer (some ⟨b355, 0, none⟩)) (by kernel_rfl) fun a hs hS => ?_
          refine d_load (fuel := 4) kS609 hs hS 1 rfl (by kernel_rfl) (SX_box hS609 4 rfl (by kernel_rfl)) 0 (by kernel_rfl) (by kernel_rfl) (v := .slice p2 x1.length c3) (by kernel_rfl) fun a hs hS => ?_
          refine d_pures (fuel := 3) kS609 hs hS [2] [2, 3, 4, 5, 6, 7, 21, 22, 23] [(2, .pointer (some ⟨b336, 0, none⟩)), (3, .pointer (some ⟨b338, 0, none⟩)), (4, .pointer (some ⟨b340, 0, none⟩)), (5, .pointer (some ⟨b362, 0, none⟩)), (6, .int .i64 (if 40 < (x1.length : Int) then 40 else (x1.length : Int))), (7, .int .i64 x458), (21, .pointer (some ⟨b355, 0, none⟩)), (22, .slice p2 x1.length c3), (23, .int .i64 x458)] (by kernel_rfl) fun a hs hS => ?_
          obtain ⟨x640, h641, hx638⟩ := bindE hx638
          refine d_index (fuel := 2) kS609 hs hS 3 rfl (by kernel_rfl) h4 (by kernel_rfl) (by kernel_rfl) (k := .i64) (by kernel_rfl) 3 (by kernel_rfl) (by kernel_rfl) h641 fun a r642 cs henc at643 hs hS => ?_
          obtain rfl := henc
          refine d_load (fuel := 1) kS609 hs hS 4 rfl (by kernel_rfl) (fun l w hu hS => at643 w ((SX_nil hS609 l w hu hS).anti (Le.refl _))) 0 (by kernel_rfl) (by kernel_rfl) (v := .int .i64 x640) (by kernel_rfl) fun a hs hS => ?_
          refine d_all (fuel := 0) (rs := [5]) (by kernel_rfl) (by simp) (all1 ?_)
          obtain ⟨y644, h645, hx638⟩ := bindE hx638
          refine o_call hs rfl (by kernel_rfl) (by kernel_rfl) (bag_Bag_int_Put_s h645 h463 ((hw.pick [1, 5, 0, 2, 3, 4, 6] (by kernel_rfl)).pack 2)) fun a w v hv hs => ?_
          obtain ⟨p646, c647, d649, rfl, hw, h648⟩ := hv
          replace hw := hw.unpack 2 rfl
          refine dg_next (SX_now hS609 ((hw.vws [2, 3, 4, 5, 6]).anti (Le.refl _)) (by kernel_rfl)) fun hS => ?_
          refine d_done (by kernel_rfl) ?_
          obtain rfl := someE hx638
          exact (hJ639 _ _).2 ⟨y644.2.2.1, y644.2.2.2, p646, c647, d649, hx605, hs.cast [2, 3, 4, 5, 6, 7] (by kernel_rfl), hw.pick [2, 0, 3, 4, 5, 1, 6] (by kernel_rfl), h648⟩
        · intro a w hh
          obtain ⟨x630, x631, p632, c633, d635, hx605, hs, hw, h634⟩ := (hJ639 _ _).1 hh
          refine c_region ?_
          refine pures hs 3 [2, 3, 4, 5, 6, 7] [(2, .pointer (some ⟨b336, 0, none⟩)), (3, .pointer (some ⟨b338, 0, none⟩)), (4, .pointer (some ⟨b340, 0, none⟩)), (5, .pointer (some ⟨b362, 0, none⟩)), (6, .int .i64 (if 40 < (x1.length : Int) then 40 else (x1.length : Int))), (7, .int .i64 (IntKind.i64.wrap (x458 + 1)))] (by kernel_rfl) fun a hs => ?_
          refine s_end ?_
          exact (hI607 _ _ _).2 ⟨(IntKind.i64.wrap (x458 + 1)), x630, x631, p632, c633, d635, hx605, hs.cast [2, 3, 4, 5, 6, 7] (by kernel_rfl), hw.pick [0, 1, 2, 3, 4, 5, 6] (by kernel_rfl), h634⟩
      · refine c_cond0 hs (by kernel_rfl) (t := (decide (x458 < (if 40 < (x1.length : Int) then 40 else (x1.length : Int))))) (by kernel_rfl) h608 ?_
        refine c_exit ?_
        obtain rfl := someE hx605
        exact (hJ606 _ _).2 ⟨x459, x460, p461, c462, d464, hk, hs.cast [2, 3, 4, 5, 6] (by kernel_rfl), hw.pick [0, 1, 2, 3, 4, 5, 6] (by kernel_rfl), h463⟩
  · intro a w hh
    obtain ⟨x509, x510, p511, c512, d514, hk, hs, hw, h513⟩ := (hJ606 _ _).1 hh
    refine c_seq ?_
    refine c_region ?_
    refine s_load hs (hw.at_ 0 rfl) 0 (by kernel_rfl) (by kernel_rfl) (v := .pointer (some ⟨b355, 0, none⟩)) (by kernel_rfl) fun a hs => ?_
    obtain ⟨y520, h521, hk⟩ := bindE hk
    refine s_call hs (by kernel_rfl) (by kernel_rfl) (bag_Bag_int_All_s h521 h513 ((hw.pick [1, 5, 0, 2, 3, 4, 6] (by kernel_rfl)).pack 2)) fun a w v hv hs => ?_
    obtain ⟨b522, rfl, hw⟩ := hv
    replace hw := hw.unpack 3 rfl
    refine pures hs 1 [2, 3, 4, 5, 6, 8] [(2, .pointer (some ⟨b336, 0, none⟩)), (3, .pointer (some ⟨b338, 0, none⟩)), (4, .pointer (some ⟨b340, 0, none⟩)), (5, .pointer (some ⟨b362, 0, none⟩)), (6, .int .i64 (if 40 < (x1.length : Int) then 40 else (x1.length : Int))), (8, .func (.func 74) #[] #[.pointer (some ⟨b522, 0, none⟩)])] (by kernel_rfl) fun a hs => ?_
    refine s_end ?_
    refine c_seq ?_
    refine c_seq ?_
    refine c_region ?_
    refine pures hs 2 [2, 3, 4, 5, 6, 8, 30] [(2, .pointer (some ⟨b336, 0, none⟩)), (3, .pointer (some ⟨b338, 0, none⟩)), (4, .pointer (some ⟨b340, 0, none⟩)), (5, .pointer (some ⟨b362, 0, none⟩)), (6, .int .i64 (if 40 < (x1.length : Int) then 40 else (x1.length : Int))), (8, .func (.func 74) #[] #[.pointer (some ⟨b522, 0, none⟩)]), (30, .bool false)] (by kernel_rfl) fun a hs => ?_
    refine s_end ?_
    refine c_condF hs (by kernel_rfl) (by kernel_rfl) ?_
    refine c_skip ?_
    refine c_seq ?_
    refine c_region ?_
    refine s_new hs hw [.int .i64 0] 3 (fun b => .pointer (some ⟨b, 0, none⟩)) (by kernel_rfl) (fun _ => by kernel_rfl) fun a w b526 hs hw => ?_
    refine s_store hs hw 0 rfl 0 (by kernel_rfl) (by kernel_rfl) (v := .int .i64 0) (by kernel_rfl) (by kernel_rfl) (by kernel_rfl) (by kernel_rfl) fun a w hs hw => ?_
    refine s_end ?_
    obtain ⟨y586, hx587, hk⟩ := bindE hk
    obtain ⟨J588, hJ588⟩ : ∃ J : Act → World → Prop, ∀ a w, J a w ↔ (∃ (x542 : Int) (x543 : Int) (x544 : List M106) (x550 : Bool) (p545 : Option Addr) (c546 : Nat) (d548 : Ch) (q551 : Lp), catenarylaw06_BagGoes_2_r13 x5 x1 y353 x542 x543 x544 x550 = some r ∧ SeesD [markD q551.df] a 81 [(3, .pointer (some ⟨b338, 0, none⟩)), (4, .pointer (some ⟨b340, 0, none⟩)), (5, .pointer (some ⟨b362, 0, none⟩)), (6, .int .i64 (if 40 < (x1.length : Int) then 40 else (x1.length : Int))), (9, .pointer (some ⟨b526, 0, none⟩))] ∧ St g w [dfo q551.df, bx b526 [.int .i64 x542] 3, bx b355 [.int .i64 y353.1, .int .i64 x543, .slice p545 x544.length c546] 104, bx b362 [.pointer (some ⟨b355, 0, none⟩)] 41, bx b340 [.bool x550] 4, bx b338 [.int .u8 x5] 5, d548, F] ih ∧ OSl e106 ih p545 c546 x544 d548) := ⟨_, fun _ _ => Iff.rfl⟩
    refine c_seqJ J588 ?_ ?_
    · refine c_seq ?_
      refine c_region ?_
      refine pures hs 1 [2, 3, 4, 5, 6, 9, 31] [(2, .pointer (some ⟨b336, 0, none⟩)), (3, .pointer (some ⟨b338, 0, none⟩)), (4, .pointer (some ⟨b340, 0, none⟩)), (5, .pointer (some ⟨b362, 0, none⟩)), (6, .int .i64 (if 40 < (x1.length : Int) then 40 else (x1.length : Int))), (9, .pointer (some ⟨b526, 0, none⟩)), (31, .func (.func 74) #[] #[.pointer (some ⟨b522, 0, none⟩)])] (by kernel_rfl) fun a hs => ?_
      refine s_end ?_
      refine c_block ?_
      obtain ⟨y594, h595, hx587⟩ := bindE hx587
      refine c_range hs (by kernel_rfl) (gf := 74) (cap := #[.pointer (some ⟨b522, 0, none⟩)]) (by kernel_rfl) (fun l => #[.func (.yield l) #[] #[], .pointer (some ⟨b522, 0, none⟩)]) (fun _ => rfl) (fun _ _ => rfl) hw [.ret, .exit 2] ?_
      intro n590 q591 w ht hps hasg hbdy hw
      refine have_then (p := catenarylaw06_BagGoes_2_round_C n590 q591 b336 b338 b340 b362 b526) ?_ fun h593 => ?_
      · intro x50001 x50002 x50005 x50011 x50014 x50019 x50020 x50021 x50029 p50006 c50007 b50018 p50022 c50023 d50025 r hk g w F ih h50008 h50024 hw
        refine f_round hs ht [32, 33] hps (by kernel_rfl) (by kernel_rfl) [32, 33, 2, 3, 4, 5, 9] (e := [(32, .int .i64 x50001), (33, .int .i64 x50002), (2, .pointer (some ⟨b336, 0, none⟩)), (3, .pointer (some ⟨b338, 0, none⟩)), (4, .pointer (some ⟨b340, 0, none⟩)), (5, .pointer (some ⟨b362, 0, none⟩)), (9, .pointer (some ⟨b526, 0, none⟩))]) (by kernel_rfl) hw 7 rfl fun a Qr hQr hs => ?_
        rw [hasg, hbdy]
        refine c_seq ?_
        refine c_region ?_
        refine pures hs 1 [33, 2, 3, 4, 5, 9, 10] [(33, .int .i64 x50002), (2, .pointer (some ⟨b336, 0, none⟩)), (3, .pointer (some ⟨b338, 0, none⟩)), (4, .pointer (some ⟨b340, 0, none⟩)), (5, .pointer (some ⟨b362, 0, none⟩)), (9, .pointer (some ⟨b526, 0, none⟩)), (10, .int .i64 x50001)] (by kernel_rfl) fun a hs => ?_
        refine s_end ?_
        refine c_region ?_
        refine pures hs 1 [2, 3, 4, 5, 9, 10, 11] [(2, .pointer (some ⟨b336, 0, none⟩)), (3, .pointer (some ⟨b338, 0, none⟩)), (4, .pointer (some ⟨b340, 0, none⟩)), (5, .pointer (some ⟨b362, 0, none⟩)), (9, .pointer (some ⟨b526, 0, none⟩)), (10, .int .i64 x50001), (11, .int .i64 x50002)] (by kernel_rfl) fun a hs => ?_
        refine s_end ?_
        refine begin_round hw 7 rfl fun w hw => ?_
        refine c_block ?_
        refine c_seq ?_
        refine c_seq ?_
        obtain ⟨y50118, hx50119, hk⟩ := bindE hk
        obtain ⟨J50120, hJ50120⟩ : ∃ J : Act → World → Prop, ∀ a w, J a w ↔ (∃ (x50091 : Bool), catenarylaw06_BagGoes_2_round_r2 x50020 x50021 x50029 x50019 x50002 x50011 x50014 x50091 = some r ∧ Sees a 81 [(3, .pointer (some ⟨b338, 0, none⟩)), (4, .pointer (some ⟨b340, 0, none⟩)), (5, .pointer (some ⟨b362, 0, none⟩)), (9, .pointer (some ⟨b526, 0, none⟩)), (11, .int .i64 x50002), (45, .bool x50091)] ∧ St g w [bx b336 [.slice p50006 x50005.length c50007] 40, bx b338 [.int .u8 x50011] 5, bx b340 [.bool x50014] 4, bx b362 [.pointer (some ⟨b50018, 0, none⟩)] 41, bx b50018 [.int .i64 x50019, .int .i64 x50020, .slice p50022 x50021.length c50023] 104, bx b526 [.int .i64 x50029] 3, lpb n590 q591, d50025, F] ih) := ⟨_, fun _ _ => Iff.rfl⟩
        refine c_regJ J50120 ?_ ?_
        · refine pures hs 1 [2, 3, 4, 5, 9, 11, 34] [(2, .pointer (some ⟨b336, 0, none⟩)), (3, .pointer (some ⟨b338, 0, none⟩)), (4, .pointer (some ⟨b340, 0, none⟩)), (5, .pointer (some ⟨b362, 0, none⟩)), (9, .pointer (some ⟨b526, 0, none⟩)), (11, .int .i64 x50002), (34, .int .i64 x50001)] (by kernel_rfl) fun a hs => ?_
          refine s_load hs (hw.at_ 6 rfl) 0 (by kernel_rfl) (by kernel_rfl) (v := .int .i64 x50029) (by kernel_rfl) fun a hs => ?_
          refine pures hs 3 [2, 3, 4, 5, 9, 11, 38] [(2, .pointer (some ⟨b336, 0, none⟩)), (3, .pointer (some ⟨b338, 0, none⟩)), (4, .pointer (some ⟨b340, 0, none⟩)), (5, .pointer (some ⟨b362, 0, none⟩)), (9, .pointer (some ⟨b526, 0, none⟩)), (11, .int .i64 x50002), (38, .bool (x50001 != (IntKind.i64.wrap (x50029 + 1))))] (by kernel_rfl) fun a hs => ?_
          rcases ifbE hx50119 with ⟨h50121, hx50119⟩ | ⟨h50121, hx50119⟩
          · replace hs := hs.altB 38 true (by kernel_rfl) h50121
            refine pures hs 7 [3, 4, 5, 9, 11, 45] [(3, .pointer (some ⟨b338, 0, none⟩)), (4, .pointer (some ⟨b340, 0, none⟩)), (5, .pointer (some ⟨b362, 0, none⟩)), (9, .pointer (some ⟨b526, 0, none⟩)), (11, .int .i64 x50002), (45, .bool true)] (by kernel_rfl) fun a hs => ?_
            refine s_end ?_
            obtain rfl := someE hx50119
            exact (hJ50120 _ _).2 ⟨true, hk, hs.cast [3, 4, 5, 9, 11, 45] (by kernel_rfl), hw.pick [0, 1, 2, 3, 4, 6, 7, 5, 8] (by kernel_rfl)⟩
          · replace hs := hs.altB 38 false (by kernel_rfl) h50121
            refine pures hs 1 [2, 3, 4, 5, 9, 11, 38, 39] [(2, .pointer (some ⟨b336, 0, none⟩)), (3, .pointer (some ⟨b338, 0, none⟩)), (4, .pointer (some ⟨b340, 0, none⟩)), (5, .pointer (some ⟨b362, 0, none⟩)), (9, .pointer (some ⟨b526, 0, none⟩)), (11, .int .i64 x50002), (38, .bool false), (39, .int .i64 x50002)] (by kernel_rfl) fun a hs => ?_
            refine s_load hs (hw.at_ 0 rfl) 0 (by kernel_rfl) (by kernel_rfl) (v := .slice p50006 x50005.length c50007) (by kernel_rfl) fun a hs => ?_
            refine s_load hs (hw.at_ 6 rfl) 0 (by kernel_rfl) (by kernel_rfl) (v := .int .i64 x50029) (by kernel_rfl) fun a hs => ?_
            obtain ⟨x50122, h50123, hx50119⟩ := bindE hx50119
            refine s_index hs h50008 (by kernel_rfl) (by kernel_rfl) (k := .i64) (by kernel_rfl) 3 (by kernel_rfl) (by kernel_rfl) h50123 fun a r50124 cs henc at50125 hs => ?_
            obtain rfl := henc
            refine s_load hs (at50125 _ (hw.vwAll.nil.anti (Le.refl _))) 0 (by kernel_rfl) (by kernel_rfl) (v := .int .i64 x50122) (by kernel_rfl) fun a hs => ?_
            refine pures hs 2 [3, 4, 5, 9, 11, 45] [(3, .pointer (some ⟨b338, 0, none⟩)), (4, .pointer (some ⟨b340, 0, none⟩)), (5, .pointer (some ⟨b362, 0, none⟩)), (9, .pointer (some ⟨b526, 0, none⟩)), (11, .int .i64 x50002), (45, .bool (x50002 != x50122))] (by kernel_rfl) fun a hs => ?_
            refine s_end ?_
            obtain rfl := someE hx50119
            exact (hJ50120 _ _).2 ⟨(x50002 != x50122), hk, hs.cast [3, 4, 5, 9, 11, 45] (by kernel_rfl), hw.pick [0, 1, 2, 3, 4, 6, 7, 5, 8] (by kernel_rfl)⟩
        · intro a w hh
          obtain ⟨x50091, hk, hs, hw⟩ := (hJ50120 _ _).1 hh
          rcases ifbE hk with ⟨h50092, hk⟩ | ⟨h50092, hk⟩
          · refine c_cond1 hs (by kernel_rfl) (t := x50091) (by kernel_rfl) h50092 ?_
            refine c_seq ?_
            refine c_region ?_
            refine s_store hs hw 2 rfl 0 (by kernel_rfl) (by kernel_rfl) (v := .bool false) (by kernel_rfl) (by kernel_rfl) (by kernel_rfl) (by kernel_rfl) fun a w hs hw => ?_
            refine s_end ?_
            refine c_ret ?_
            obtain rfl := someE hk
            exact hQr _ _ _ (end_ret [.ret, .exit 2] 1 (by rfl) (by rfl) hw 6 rfl fun w hw => ⟨p50022, c50023, d50025, rfl, hw.pick [0, 1, 2, 3, 4, 7, 5, 6, 8] (by kernel_rfl), h50024⟩)
          · refine c_cond0 hs (by kernel_rfl) (t := x50091) (by kernel_rfl) h50092 ?_
            refine c_skip ?_
            refine c_seq ?_
            refine c_region ?_
            refine s_load hs (hw.at_ 3 rfl) 0 (by kernel_rfl) (by kernel_rfl) (v := .pointer (some ⟨b50018, 0, none⟩)) (by kernel_rfl) fun a hs => ?_
            obtain ⟨y50099, h50100, hk⟩ := bindE hk
            refine s_call hs (by kernel_rfl) (by kernel_rfl) (bag_Bag_int_Take_s h50100 h50024 ((hw.pick [4, 7, 0, 1, 2, 3, 5, 6, 8] (by kernel_rfl)).pack 2)) fun a w v hv hs => ?_
            obtain ⟨p50101, c50102, d50104, rfl, hw, h50103⟩ := hv
            replace hw := hw.unpack 2 rfl
            refine s_end ?_
            refine c_seq ?_
            refine c_region ?_
            refine s_load hs (hw.at_ 5 rfl) 0 (by kernel_rfl) (by kernel_rfl) (v := .pointer (some ⟨b50018, 0, none⟩)) (by kernel_rfl) fun a hs => ?_
            refine pures hs 1 [3, 9, 48, 49] [(3, .pointer (some ⟨b338, 0, none⟩)), (9, .pointer (some ⟨b526, 0, none⟩)), (48, .pointer (some ⟨b50018, 0, none⟩)), (49, .int .i64 x50002)] (by kernel_rfl) fun a hs => ?_
            obtain ⟨y50111, h50112, hk⟩ := bindE hk
            refine s_call hs (by kernel_rfl) (by kernel_rfl) (bag_Bag_int_Put_s h50112 h50103 ((hw.pick [0, 1, 2, 3, 4, 5, 6, 7, 8] (by kernel_rfl)).pack 2)) fun a w v hv hs => ?_
            obtain ⟨p50113, c50114, d50116, rfl, hw, h50115⟩ := hv
            replace hw := hw.unpack 2 rfl
            refine s_end ?_
            refine c_seq ?_
            refine c_region ?_
            refine s_load hs (hw.at_ 6 rfl) 0 (by kernel_rfl) (by kernel_rfl) (v := .int .i64 x50029) (by kernel_rfl) fun a hs => ?_
            refine pures hs 1 [3, 9, 52] [(3, .pointer (some ⟨b338, 0, none⟩)), (9, .pointer (some ⟨b526, 0, none⟩)), (52, .int .i64 (IntKind.i64.wrap (x50029 + 1)))] (by kernel_rfl) fun a hs => ?_
            refine s_store hs hw 6 rfl 0 (by kernel_rfl) (by kernel_rfl) (v := .int .i64 (IntKind.i64.wrap (x50029 + 1))) (by kernel_rfl) (by kernel_rfl) (by kernel_rfl) (by kernel_rfl) fun a w hs hw => ?_
            refine s_end ?_
            refine c_seq ?_
            refine c_region ?_
            refine s_load hs (hw.at_ 6 rfl) 0 (by kernel_rfl) (by kernel_rfl) (v := .int .i64 (IntKind.i64.wrap (x50029 + 1))) (by kernel_rfl) fun a hs => ?_
            refine s_load hs (hw.at_ 3 rfl) 0 (by kernel_rfl) (by kernel_rfl) (v := .int .u8 x50011) (by kernel_rfl) fun a hs => ?_
            refine pures hs 2 [56] [(56, .bool (decide ((IntKind.i64.wrap (x50029 + 1)) > (IntKind.i64.wrap (x50011)))))] (by kernel_rfl) fun a hs => ?_
            refine s_end ?_
            rcases ifbE hk with ⟨h50117, hk⟩ | ⟨h50117, hk⟩
            · refine c_cond1 hs (by kernel_rfl) (t := (decide ((IntKind.i64.wrap (x50029 + 1)) > (IntKind.i64.wrap (x50011))))) (by kernel_rfl) h50117 ?_
              refine c_exit ?_
              obtain rfl := someE hk
              exact hQr _ _ _ (end_exit [.ret, .exit 2] 2 (by rfl) (by rfl) hw 7 rfl fun w hw => ⟨p50113, c50114, d50116, rfl, hw.pick [2, 3, 4, 5, 0, 1, 6, 7, 8] (by kernel_rfl), h50115⟩)
            · refine c_cond0 hs (by kernel_rfl) (t := (decide ((IntKind.i64.wrap (x50029 + 1)) > (IntKind.i64.wrap (x50011))))) (by kernel_rfl) h50117 ?_
              refine c_skip ?_
              obtain rfl := someE hk
              exact hQr _ _ _ (end_round [.ret, .exit 2] hw 7 rfl fun w hw => ⟨p50113, c50114, d50116, rfl, hw.pick [2, 3, 4, 5, 0, 1, 6, 7, 8] (by kernel_rfl), h50115⟩)
      · refine CallsR.mono (bag_Bag_int_All_1_2_s h595 h4 h513 h593 ((hw.pick [9, 8, 7, 6, 4, 5, 2, 0, 3, 1, 10] (by kernel_rfl)).pack 9)) fun v w hv => ?_
        obtain ⟨p596, c597, d599, rfl, hw, h598⟩ := hv
        replace hw := hw.unpack 9 rfl
        refine ⟨y594.2.2.2.2, [bx b336 [.slice p2 x1.length c3] 40, bx b338 [.int .u8 x5] 5, bx b340 [.bool y594.1] 4, bx b362 [.pointer (some ⟨b355, 0, none⟩)] 41, bx b355 [.int .i64 y353.1, .int .i64 y594.2.1, .slice p596 y594.2.2.1.length c597] 104, d599, bx b526 [.int .i64 y594.2.2.2.1] 3, lpo n590 q591 [.ret, .exit 2] y594.2.2.2.2, bx b522 [.pointer (some ⟨b355, 0, none⟩)] 41, dfo q591.df, F], ih, 7, hw, rfl, fun a w hs hw => ?_⟩
        replace hw := hw.pick [0, 1, 2, 3, 4, 5, 6, 8, 9, 10] (by kernel_rfl)
        rcases ifbE hx587 with ⟨h600, hx587⟩ | ⟨h600, hx587⟩
        · refine range_none h600 ?_
          obtain rfl := someE hx587
          exact (hJ588 _ _).2 ⟨y594.2.2.2.1, y594.2.1, y594.2.2.1, y594.1, p596, c597, d599, q591, hk, hs.cast [3, 4, 5, 6, 9] (by kernel_rfl), hw.pick [8, 6, 4, 3, 2, 1, 5, 9] (by kernel_rfl), h598⟩
        · rcases ifbE hx587 with ⟨h601, hx587⟩ | ⟨h601, hx587⟩
          · refine range_some 1 h601 rfl ?_
            refine c_ret ?_
            obtain rfl := someE hx587
            obtain rfl := someE hk
            refine hQ _ _ (f_retM hs hw 8 rfl fun a w hs hw => (f_retC hs rfl (hw.at_ 2 rfl) (by kernel_rfl) (v := .bool y594.1) (by kernel_rfl) ⟨rfl, hw.pick [9] (by kernel_rfl)⟩))
          · rcases ifbE hx587 with ⟨h602, hx587⟩ | ⟨h602, hx587⟩
            · refine range_some 2 h602 rfl ?_
              refine c_exit ?_
              obtain rfl := someE hx587
              exact (hJ588 _ _).2 ⟨y594.2.2.2.1, y594.2.1, y594.2.2.1, y594.1, p596, c597, d599, q591, hk, hs.cast [3, 4, 5, 6, 9] (by kernel_rfl), hw.pick [8, 6, 4, 3, 2, 1, 5, 9] (by kernel_rfl), h598⟩
            · cases hx587
    · intro a w hh
      obtain ⟨x542, x543, x544, x550, p545, c546, d548, q551, hk, hs, hw, h547⟩ := (hJ588 _ _).1 hh
      refine c_seq ?_
      obtain ⟨S553, hS553, kS553⟩ := mkSX (X := [([], dfo q551.df), ([], bx b526 [.int .i64 x542] 3), ([], bx b355 [.int .i64 y353.1, .int .i64 x543, .slice p545 x544.length c546] 104), ([], bx b362 [.pointer (some ⟨b355, 0, none⟩)] 41), ([24], bx b340 [.bool x550] 4), ([], bx b338 [.int .u8 x5] 5), ([], d548), ([], F)]) (ih := ih) (K := [24]) rfl
      obtain ⟨y573, hx574, hk⟩ := bindE hk
      obtain ⟨J575, hJ575⟩ : ∃ J : Act → World → Prop, ∀ a w, J a w ↔ (∃ (x572 : Bool), catenarylaw06_BagGoes_2_r12 x572 = some r ∧ SeesD [markD q551.df] a 81 [(4, .pointer (some ⟨b340, 0, none⟩))] ∧ St g w [dfo q551.df, bx b340 [.bool x572] 4, F] ih) := ⟨_, fun _ _ => Iff.rfl⟩
      refine c_draw (by kernel_rfl) (N := 25) rfl S553 J575 ?_ ?_
      · have hw := hw.drew
        have hS : S553 (Array.replicate 25 false) _ := SX_now hS553 (hw.vws [0, 1, 2, 3, 4, 5, 6, 7]) (by kernel_rfl)
        refine d_load (fuel := 24) kS553 hs hS 0 rfl (by kernel_rfl) (SX_box hS553 1 rfl (by kernel_rfl)) 0 (by kernel_rfl) (by kernel_rfl) (v := .int .i64 x542) (by kernel_rfl) fun a hs hS => ?_
        refine d_pures (fuel := 23) kS553 hs hS [1] [3, 4, 5, 6, 9, 57, 58] [(3, .pointer (some ⟨b338, 0, none⟩)), (4, .pointer (some ⟨b340, 0, none⟩)), (5, .pointer (some ⟨b362, 0, none⟩)), (6, .int .i64 (if 40 < (x1.length : Int) then 40 else (x1.length : Int))), (9, .pointer (some ⟨b526, 0, none⟩)), (57, .int .i64 x542), (58, .int .i64 (if 40 < (x1.length : Int) then 40 else (x1.length : Int)))] (by kernel_rfl) fun a hs hS => ?_
        refine d_load (fuel := 22) kS553 hs hS 2 rfl (by kernel_rfl) (SX_box hS553 5 rfl (by kernel_rfl)) 0 (by kernel_rfl) (by kernel_rfl) (v := .int .u8 x5) (by kernel_rfl) fun a hs hS => ?_
        refine d_pures (fuel := 17) kS553 hs hS [3, 4, 5, 6, 7] [3, 4, 5, 6, 9, 57, 58, 59, 60, 61, 62, 63, 64] [(3, .pointer (some ⟨b338, 0, none⟩)), (4, .pointer (some ⟨b340, 0, none⟩)), (5, .pointer (some ⟨b362, 0, none⟩)), (6, .int .i64 (if 40 < (x1.length : Int) then 40 else (x1.length : Int))), (9, .pointer (some ⟨b526, 0, none⟩)), (57, .int .i64 x542), (58, .int .i64 (if 40 < (x1.length : Int) then 40 else (x1.length : Int))), (59, .int .u8 x5), (60, .int .i64 (IntKind.i64.wrap (x5))), (61, .int .i64 (IntKind.i64.wrap ((IntKind.i64.wrap (x5)) + 1))), (62, .int .i64 (if (IntKind.i64.wrap ((IntKind.i64.wrap (x5)) + 1)) < (if 40 < (x1.length : Int) then 40 else (x1.length : Int)) then (IntKind.i64.wrap ((IntKind.i64.wrap (x5)) + 1)) else (if 40 < (x1.length : Int) then 40 else (x1.length : Int)))), (63, .bool (x542 == (if (IntKind.i64.wrap ((IntKind.i64.wrap (x5)) + 1)) < (if 40 < (x1.length : Int) then 40 else (x1.length : Int)) then (IntKind.i64.wrap ((IntKind.i64.wrap (x5)) + 1)) else (if 40 < (x1.length : Int) then 40 else (x1.length : Int))))), (64, .bool (x542 == (if (IntKind.i64.wrap ((IntKind.i64.wrap (x5)) + 1)) < (if 40 < (x1.length : Int) then 40 else (x1.length : Int)) then (IntKind.i64.wrap ((IntKind.i64.wrap (x5)) + 1)) else (if 40 < (x1.length : Int) then 40 else (x1.length : Int)))))] (by kernel_rfl) fun a hs hS => ?_
        rcases ifbE hx574 with ⟨h576, hx574⟩ | ⟨h576, hx574⟩
        · replace hs := hs.altB 64 true (by kernel_rfl) h576
          refine d_load (fuel := 16) kS553 hs hS 8 rfl (by kernel_rfl) (SX_box hS553 3 rfl (by kernel_rfl)) 0 (by kernel_rfl) (by kernel_rfl) (v := .pointer (some ⟨b355, 0, none⟩)) (by kernel_rfl) fun a hs hS => ?_
          refine d_pures (fuel := 15) kS553 hs hS [10] [3, 4, 5, 6, 9, 57, 58, 59, 60, 61, 62, 63, 64, 65, 67] [(3, .pointer (some ⟨b338, 0, none⟩)), (4, .pointer (some ⟨b340, 0, none⟩)), (5, .pointer (some ⟨b362, 0, none⟩)), (6, .int .i64 (if 40 < (x1.length : Int) then 40 else (x1.length : Int))), (9, .pointer (some ⟨b526, 0, none⟩)), (57, .int .i64 x542), (58, .int .i64 (if 40 < (x1.length : Int) then 40 else (x1.length : Int))), (59, .int .u8 x5), (60, .int .i64 (IntKind.i64.wrap (x5))), (61, .int .i64 (IntKind.i64.wrap ((IntKind.i64.wrap (x5)) + 1))), (62, .int .i64 (if (IntKind.i64.wrap ((IntKind.i64.wrap (x5)) + 1)) < (if 40 < (x1.length : Int) then 40 else (x1.length : Int)) then (IntKind.i64.wrap ((IntKind.i64.wrap (x5)) + 1)) else (if 40 < (x1.length : Int) then 40 else (x1.length : Int)))), (63, .bool (x542 == (if (IntKind.i64.wrap ((IntKind.i64.wrap (x5)) + 1)) < (if 40 < (x1.length : Int) then 40 else (x1.length : Int)) then (IntKind.i64.wrap ((IntKind.i64.wrap (x5)) + 1)) else (if 40 < (x1.length : Int) then 40 else (x1.length : Int))))), (64, .bool true), (65, .pointer (some ⟨b355, 0, none⟩)), (67, .int .i64 (if 40 < (x1.length : Int) then 40 else (x1.length : Int)))] (by kernel_rfl) fun a hs hS => ?_
          refine d_all (fuel := 14) (rs := [9]) (by kernel_rfl) (by simp) (all1 ?_)
          obtain ⟨y577, h578, hx574⟩ := bindE hx574
          refine o_call hs rfl (by kernel_rfl) (by kernel_rfl) (bag_Bag_int_Len_s h578 h547 ((hw.pick [2, 6, 0, 1, 3, 4, 5, 7] (by kernel_rfl)).pack 2)) fun a w v hv hs => ?_
          obtain ⟨rfl, hw⟩ := hv
          replace hw := hw.unpack 2 rfl
          refine dg_next (SX_now hS553 ((hw.vws [2, 3, 0, 4, 5, 6, 1, 7]).anti (Le.refl _)) (by kernel_rfl)) fun hS => ?_
          refine d_pures (fuel := 11) kS553 hs hS [11, 12, 13] [3, 4, 5, 6, 9, 57, 58, 59, 60, 61, 62, 63, 64, 65, 67, 66, 68, 69, 70] [(3, .pointer (some ⟨b338, 0, none⟩)), (4, .pointer (some ⟨b340, 0, none⟩)), (5, .pointer (some ⟨b362, 0, none⟩)), (6, .int .i64 (if 40 < (x1.length : Int) then 40 else (x1.length : Int))), (9, .pointer (some ⟨b526, 0, none⟩)), (57, .int .i64 x542), (58, .int .i64 (if 40 < (x1.length : Int) then 40 else (x1.length : Int))), (59, .int .u8 x5), (60, .int .i64 (IntKind.i64.wrap (x5))), (61, .int .i64 (IntKind.i64.wrap ((IntKind.i64.wrap (x5)) + 1))), (62, .int .i64 (if (IntKind.i64.wrap ((IntKind.i64.wrap (x5)) + 1)) < (if 40 < (x1.length : Int) then 40 else (x1.length : Int)) then (IntKind.i64.wrap ((IntKind.i64.wrap (x5)) + 1)) else (if 40 < (x1.length : Int) then 40 else (x1.length : Int)))), (63, .bool (x542 == (if (IntKind.i64.wrap ((IntKind.i64.wrap (x5)) + 1)) < (if 40 < (x1.length : Int) then 40 else (x1.length : Int)) then (IntKind.i64.wrap ((IntKind.i64.wrap (x5)) + 1)) else (if 40 < (x1.length : Int) then 40 else (x1.length : Int))))), (64, .bool true), (65, .pointer (some ⟨b355, 0, none⟩)), (67, .int .i64 (if 40 < (x1.length : Int) then 40 else (x1.length : Int))), (66, .int .i64 y577), (68, .bool (y577 == (if 40 < (x1.length : Int) then 40 else (x1.length : Int)))), (69, .bool (y577 == (if 40 < (x1.length : Int) then 40 else (x1.length : Int)))), (70, .bool (y577 == (if 40 < (x1.length : Int) then 40 else (x1.length : Int))))] (by kernel_rfl) fun a hs hS => ?_
          rcases ifbE hx574 with ⟨h579, hx574⟩ | ⟨h579, hx574⟩
          · replace hs := hs.altB 70 true (by kernel_rfl) h579
            refine d_load (fuel := 10) kS553 hs hS 14 rfl (by kernel_rfl) (SX_box hS553 3 rfl (by kernel_rfl)) 0 (by kernel_rfl) (by kernel_rfl) (v := .pointer (some ⟨b355, 0, none⟩)) (by kernel_rfl) fun a hs hS => ?_
            refine d_pures (fuel := 9) kS553 hs hS [16] [3, 4, 5, 6, 9, 57, 58, 59, 60, 61, 62, 63, 64, 65, 67, 66, 68, 69, 70, 71, 73] [(3, .pointer (some ⟨b338, 0, none⟩)), (4, .pointer (some ⟨b340, 0, none⟩)), (5, .pointer (some ⟨b362, 0, none⟩)), (6, .int .i64 (if 40 < (x1.length : Int) then 40 else (x1.length : Int))), (9, .pointer (some ⟨b526, 0, none⟩)), (57, .int .i64 x542), (58, .int .i64 (if 40 < (x1.length : Int) then 40 else (x1.length : Int))), (59, .int .u8 x5), (60, .int .i64 (IntKind.i64.wrap (x5))), (61, .int .i64 (IntKind.i64.wrap ((IntKind.i64.wrap (x5)) + 1))), (62, .int .i64 (if (IntKind.i64.wrap ((IntKind.i64.wrap (x5)) + 1)) < (if 40 < (x1.length : Int) then 40 else (x1.length : Int)) then (IntKind.i64.wrap ((IntKind.i64.wrap (x5)) + 1)) else (if 40 < (x1.length : Int) then 40 else (x1.length : Int)))), (63, .bool (x542 == (if (IntKind.i64.wrap ((IntKind.i64.wrap (x5)) + 1)) < (if 40 < (x1.length : Int) then 40 else (x1.length : Int)) then (IntKind.i64.wrap ((IntKind.i64.wrap (x5)) + 1)) else (if 40 < (x1.length : Int) then 40 else (x1.length : Int))))), (64, .bool true), (65, .pointer (some ⟨b355, 0, none⟩)), (67, .int .i64 (if 40 < (x1.length : Int) then 40 else (x1.length : Int))), (66, .int .i64 y577), (68, .bool (y577 == (if 40 < (x1.length : Int) then 40 else (x1.length : Int)))), (69, .bool (y577 == (if 40 < (x1.length : Int) then 40 else (x1.length : Int)))), (70, .bool true), (71, .pointer (some ⟨b355, 0, none⟩)), (73, .int .i64 (if 40 < (x1.length : Int) then 40 else (x1.length : Int)))] (by kernel_rfl) fun a hs hS => ?_
            refine d_load (fuel := 8) kS553 hs hS 17 rfl (by kernel_rfl) (SX_box hS553 1 rfl (by kernel_rfl)) 0 (by kernel_rfl) (by kernel_rfl) (v := .int .i64 x542) (by kernel_rfl) fun a hs hS => ?_
            refine d_pures (fuel := 7) kS553 hs hS [18] [3, 4, 5, 6, 9, 57, 58, 59, 60, 61, 62, 63, 64, 65, 67, 66, 68, 69, 70, 71, 73, 74, 75] [(3, .pointer (some ⟨b338, 0, none⟩)), (4, .pointer (some ⟨b340, 0, none⟩)), (5, .pointer (some ⟨b362, 0, none⟩)), (6, .int .i64 (if 40 < (x1.length : Int) then 40 else (x1.length : Int))), (9, .pointer (some ⟨b526, 0, none⟩)), (57, .int .i64 x542), (58, .int .i64 (if 40 < (x1.length : Int) then 40 else (x1.length : Int))), (59, .int .u8 x5), (60, .int .i64 (IntKind.i64.wrap (x5))), (61, .int .i64 (IntKind.i64.wrap ((IntKind.i64.wrap (x5)) + 1))), (62, .int .i64 (if (IntKind.i64.wrap ((IntKind.i64.wrap (x5)) + 1)) < (if 40 < (x1.length : Int) then 40 else (x1.length : Int)) then (IntKind.i64.wrap ((IntKind.i64.wrap (x5)) + 1)) else (if 40 < (x1.length : Int) then 40 else (x1.length : Int)))), (63, .bool (x542 == (if (IntKind.i64.wrap ((IntKind.i64.wrap (x5)) + 1)) < (if 40 < (x1.length : Int) then 40 else (x1.length : Int)) then (IntKind.i64.wrap ((IntKind.i64.wrap (x5)) + 1)) else (if 40 < (x1.length : Int) then 40 else (x1.length : Int))))), (64, .bool true), (65, .pointer (some ⟨b355, 0, none⟩)), (67, .int .i64 (if 40 < (x1.length : Int) then 40 else (x1.length : Int))), (66, .int .i64 y577), (68, .bool (y577 == (if 40 < (x1.length : Int) then 40 else (x1.length : Int)))), (69, .bool (y577 == (if 40 < (x1.length : Int) then 40 else (x1.length : Int)))), (70, .bool true), (71, .pointer (some ⟨b355, 0, none⟩)), (73, .int .i64 (if 40 < (x1.length : Int) then 40 else (x1.length : Int))), (74, .int .i64 x542), (75, .int .i64 (IntKind.i64.wrap ((if 40 < (x1.length : Int) then 40 else (x1.length : Int)) + x542)))] (by kernel_rfl) fun a hs hS => ?_
            refine d_all (fuel := 6) (rs := [15]) (by kernel_rfl) (by simp) (all1 ?_)
            obtain ⟨y580, h581, hx574⟩ := bindE hx574
            refine o_call hs rfl (by kernel_rfl) (by kernel_rfl) (bag_Bag_int_Last_s h581 h547 ((hw.pick [0, 1, 2, 3, 4, 5, 6, 7] (by kernel_rfl)).pack 2)) fun a w v hv hs => ?_
            obtain ⟨rfl, hw⟩ := hv
            replace hw := hw.unpack 2 rfl
            refine dg_next (SX_now hS553 ((hw.vws [2, 3, 0, 4, 5, 6, 1, 7]).anti (Le.refl _)) (by kernel_rfl)) fun hS => ?_
            refine d_pures (fuel := 3) kS553 hs hS [19, 20, 21] [3, 4, 5, 6, 9, 57, 58, 59, 60, 61, 62, 63, 64, 65, 67, 66, 68, 69, 70, 71, 73, 74, 75, 72, 76, 77, 78] [(3, .pointer (some ⟨b338, 0, none⟩)), (4, .pointer (some ⟨b340, 0, none⟩)), (5, .pointer (some ⟨b362, 0, none⟩)), (6, .int .i64 (if 40 < (x1.length : Int) then 40 else (x1.length : Int))), (9, .pointer (some ⟨b526, 0, none⟩)), (57, .int .i64 x542), (58, .int .i64 (if 40 < (x1.length : Int) then 40 else (x1.length : Int))), (59, .int .u8 x5), (60, .int .i64 (IntKind.i64.wrap (x5))), (61, .int .i64 (IntKind.i64.wrap ((IntKind.i64.wrap (x5)) + 1))), (62, .int .i64 (if (IntKind.i64.wrap ((IntKind.i64.wrap (x5)) + 1)) < (if 40 < (x1.length : Int) then 40 else (x1.length : Int)) then (IntKind.i64.wrap ((IntKind.i64.wrap (x5)) + 1)) else (if 40 < (x1.length : Int) then 40 else (x1.length : Int)))), (63, .bool (x542 == (if (IntKind.i64.wrap ((IntKind.i64.wrap (x5)) + 1)) < (if 40 < (x1.length : Int) then 40 else (x1.length : Int)) then (IntKind.i64.wrap ((IntKind.i64.wrap (x5)) + 1)) else (if 40 < (x1.length : Int) then 40 else (x1.length : Int))))), (64, .bool true), (65, .pointer (some ⟨b355, 0, none⟩)), (67, .int .i64 (if 40 < (x1.length : Int) then 40 else (x1.length : Int))), (66, .int .i64 y577), (68, .bool (y577 == (if 40 < (x1.length : Int) then 40 else (x1.length : Int)))), (69, .bool (y577 == (if 40 < (x1.length : Int) then 40 else (x1.length : Int)))), (70, .bool true), (71, .pointer (some ⟨b355, 0, none⟩)), (73, .int .i64 (if 40 < (x1.length : Int) then 40 else (x1.length : Int))), (74, .int .i64 x542), (75, .int .i64 (IntKind.i64.wrap ((if 40 < (x1.length : Int) then 40 else (x1.length : Int)) + x542))), (72, .int .i64 y580), (76, .bool (y580 == (IntKind.i64.wrap ((if 40 < (x1.length : Int) then 40 else (x1.length : Int)) + x542)))), (77, .bool (y580 == (IntKind.i64.wrap ((if 40 < (x1.length : Int) then 40 else (x1.length : Int)) + x542)))), (78, .bool (y580 == (IntKind.i64.wrap ((if 40 < (x1.length : Int) then 40 else (x1.length : Int)) + x542))))] (by kernel_rfl) fun a hs hS => ?_
            rcases ifbE hx574 with ⟨h582, hx574⟩ | ⟨h582, hx574⟩
            · replace hs := hs.altB 78 true (by kernel_rfl) h582
              refine d_all (fuel := 2) (rs := [22]) (by kernel_rfl) (by simp) (all1 ?_)
              obtain ⟨y583, h584, hx574⟩ := bindE hx574
              refine o_call hs rfl (by kernel_rfl) (by kernel_rfl) (catenarylaw06_awake_s h584 ((hw.pick [0, 1, 2, 3, 4, 5, 6, 7] (by kernel_rfl)).pack 0)) fun a w v hv hs => ?_
              obtain ⟨rfl, hw⟩ := hv
              replace hw := hw.unpack 0 rfl
              refine dg_next (SX_now hS553 ((hw.vws [2, 3, 0, 4, 5, 6, 1, 7]).anti (Le.refl _)) (by kernel_rfl)) fun hS => ?_
              refine d_pures (fuel := 1) kS553 hs hS [23] [3, 4, 5, 6, 9, 57, 58, 59, 60, 61, 62, 63, 64, 65, 67, 66, 68, 69, 70, 71, 73, 74, 75, 72, 76, 77, 78, 79, 80] [(3, .pointer (some ⟨b338, 0, none⟩)), (4, .pointer (some ⟨b340, 0, none⟩)), (5, .pointer (some ⟨b362, 0, none⟩)), (6, .int .i64 (if 40 < (x1.length : Int) then 40 else (x1.length : Int))), (9, .pointer (some ⟨b526, 0, none⟩)), (57, .int .i64 x542), (58, .int .i64 (if 40 < (x1.length : Int) then 40 else (x1.length : Int))), (59, .int .u8 x5), (60, .int .i64 (IntKind.i64.wrap (x5))), (61, .int .i64 (IntKind.i64.wrap ((IntKind.i64.wrap (x5)) + 1))), (62, .int .i64 (if (IntKind.i64.wrap ((IntKind.i64.wrap (x5)) + 1)) < (if 40 < (x1.length : Int) then 40 else (x1.length : Int)) then (IntKind.i64.wrap ((IntKind.i64.wrap (x5)) + 1)) else (if 40 < (x1.length : Int) then 40 else (x1.length : Int)))), (63, .bool (x542 == (if (IntKind.i64.wrap ((IntKind.i64.wrap (x5)) + 1)) < (if 40 < (x1.length : Int) then 40 else (x1.length : Int)) then (IntKind.i64.wrap ((IntKind.i64.wrap (x5)) + 1)) else (if 40 < (x1.length : Int) then 40 else (x1.length : Int))))), (64, .bool true), (65, .pointer (some ⟨b355, 0, none⟩)), (67, .int .i64 (if 40 < (x1.length : Int) then 40 else (x1.length : Int))), (66, .int .i64 y577), (68, .bool (y577 == (if 40 < (x1.length : Int) then 40 else (x1.length : Int)))), (69, .bool (y577 == (if 40 < (x1.length : Int) then 40 else (x1.length : Int)))), (70, .bool true), (71, .pointer (some ⟨b355, 0, none⟩)), (73, .int .i64 (if 40 < (x1.length : Int) then 40 else (x1.length : Int))), (74, .int .i64 x542), (75, .int .i64 (IntKind.i64.wrap ((if 40 < (x1.length : Int) then 40 else (x1.length : Int)) + x542))), (72, .int .i64 y580), (76, .bool (y580 == (IntKind.i64.wrap ((if 40 < (x1.length : Int) then 40 else (x1.length : Int)) + x542)))), (77, .bool (y580 == (IntKind.i64.wrap ((if 40 < (x1.length : Int) then 40 else (x1.length : Int)) + x542)))), (78, .bool true), (79, .bool y583), (80, .bool y583)] (by kernel_rfl) fun a hs hS => ?_
              refine d_all (fuel := 0) (rs := [24]) (by kernel_rfl) (by simp) (all1 ?_)
              refine o_store hs hw rfl 5 rfl 0 (by kernel_rfl) (by kernel_rfl) (v := .bool y583) (by kernel_rfl) (by kernel_rfl) (by kernel_rfl) (by kernel_rfl) fun a w hs hw => ?_
              refine dg_next (SX_now hS553 ((hw.vws [2, 3, 0, 4, 6, 1, 7]).anti (Le.refl _)) (by kernel_rfl)) fun hS => ?_
              refine d_done (by kernel_rfl) ?_
              obtain rfl := someE hx574
              exact (hJ575 _ _).2 ⟨y583, hk, hs.cast [4] (by kernel_rfl), hw.pick [2, 5, 7] (by kernel_rfl)⟩
            · replace hs := hs.altB 78 false (by kernel_rfl) h582
              refine d_pures (fuel := 1) kS553 hs hS [22, 23] [3, 4, 5, 6, 9, 57, 58, 59, 60, 61, 62, 63, 64, 65, 67, 66, 68, 69, 70, 71, 73, 74, 75, 72, 76, 77, 78, 79, 80] [(3, .pointer (some ⟨b338, 0, none⟩)), (4, .pointer (some ⟨b340, 0, none⟩)), (5, .pointer (some ⟨b362, 0, none⟩)), (6, .int .i64 (if 40 < (x1.length : Int) then 40 else (x1.length : Int))), (9, .pointer (some ⟨b526, 0, none⟩)), (57, .int .i64 x542), (58, .int .i64 (if 40 < (x1.length : Int) then 40 else (x1.length : Int))), (59, .int .u8 x5), (60, .int .i64 (IntKind.i64.wrap (x5))), (61, .int .i64 (IntKind.i64.wrap ((IntKind.i64.wrap (x5)) + 1))), (62, .int .i64 (if (IntKind.i64.wrap ((IntKind.i64.wrap (x5)) + 1)) < (if 40 < (x1.length : Int) then 40 else (x1.length : Int)) then (IntKind.i64.wrap ((IntKind.i64.wrap (x5)) + 1)) else (if 40 < (x1.length : Int) then 40 else (x1.length : Int)))), (63, .bool (x542 == (if (IntKind.i64.wrap ((IntKind.i64.wrap (x5)) + 1)) < (if 40 < (x1.length : Int) then 40 else (x1.length : Int)) then (IntKind.i64.wrap ((IntKind.i64.wrap (x5)) + 1)) else (if 40 < (x1.length : Int) then 40 else (x1.length : Int))))), (64, .bool true), (65, .pointer (some ⟨b355, 0, none⟩)), (67, .int .i64 (if 40 < (x1.length : Int) then 40 else (x1.length : Int))), (66, .int .i64 y577), (68, .bool (y577 == (if 40 < (x1.length : Int) then 40 else (x1.length : Int)))), (69, .bool (y577 == (if 40 < (x1.length : Int) then 40 else (x1.length : Int)))), (70, .bool true), (71, .pointer (some ⟨b355, 0, none⟩)), (73, .int .i64 (if 40 < (x1.length : Int) then 40 else (x1.length : Int))), (74, .int .i64 x542), (75, .int .i64 (IntKind.i64.wrap ((if 40 < (x1.length : Int) then 40 else (x1.length : Int)) + x542))), (72, .int .i64 y580), (76, .bool (y580 == (IntKind.i64.wrap ((if 40 < (x1.length : Int) then 40 else (x1.length : Int)) + x542)))), (77, .bool (y580 == (IntKind.i64.wrap ((if 40 < (x1.length : Int) then 40 else (x1.length : Int)) + x542)))), (78, .bool false), (79, undef), (80, .bool false)] (by kernel_rfl) fun a hs hS => ?_
              refine d_all (fuel := 0) (rs := [24]) (by kernel_rfl) (by simp) (all1 ?_)
              refine o_store hs hw rfl 5 rfl 0 (by kernel_rfl) (by kernel_rfl) (v := .bool false) (by kernel_rfl) (by kernel_rfl) (by kernel_rfl) (by kernel_rfl) fun a w hs hw => ?_
              refine dg_next (SX_now hS553 ((hw.vws [2, 3, 0, 4, 6, 1, 7]).anti (Le.refl _)) (by kernel_rfl)) fun hS => ?_
              refine d_done (by kernel_rfl) ?_
              obtain rfl := someE hx574
              exact (hJ575 _ _).2 ⟨false, hk, hs.cast [4] (by kernel_rfl), hw.pick [2, 5, 7] (by kernel_rfl)⟩
          · replace hs := hs.altB 70 false (by kernel_rfl) h579
            refine d_pures (fuel := 1) kS553 hs hS [14, 15, 16, 17, 18, 19, 20, 21, 22, 23] [3, 4, 5, 6, 9, 57, 58, 59, 60, 61, 62, 63, 64, 65, 67, 66, 68, 69, 70, 71, 72, 73, 74, 75, 76, 77, 78, 79, 80] [(3, .pointer (some ⟨b338, 0, none⟩)), (4, .pointer (some ⟨b340, 0, none⟩)), (5, .pointer (some ⟨b362, 0, none⟩)), (6, .int .i64 (if 40 < (x1.length : Int) then 40 else (x1.length : Int))), (9, .pointer (some ⟨b526, 0, none⟩)), (57, .int .i64 x542), (58, .int .i64 (if 40 < (x1.length : Int) then 40 else (x1.length : Int))), (59, .int .u8 x5), (60, .int .i64 (IntKind.i64.wrap (x5))), (61, .int .i64 (IntKind.i64.wrap ((IntKind.i64.wrap (x5)) + 1))), (62, .int .i64 (if (IntKind.i64.wrap ((IntKind.i64.wrap (x5)) + 1)) < (if 40 < (x1.length : Int) then 40 else (x1.length : Int)) then (IntKind.i64.wrap ((IntKind.i64.wrap (x5)) + 1)) else (if 40 < (x1.length : Int) then 40 else (x1.length : Int)))), (63, .bool (x542 == (if (IntKind.i64.wrap ((IntKind.i64.wrap (x5)) + 1)) < (if 40 < (x1.length : Int) then 40 else (x1.length : Int)) then (IntKind.i64.wrap ((IntKind.i64.wrap (x5)) + 1)) else (if 40 < (x1.length : Int) then 40 else (x1.length : Int))))), (64, .bool true), (65, .pointer (some ⟨b355, 0, none⟩)), (67, .int .i64 (if 40 < (x1.length : Int) then 40 else (x1.length : Int))), (66, .int .i64 y577), (68, .bool (y577 == (if 40 < (x1.length : Int) then 40 else (x1.length : Int)))), (69, .bool (y577 == (if 40 < (x1.length : Int) then 40 else (x1.length : Int)))), (70, .bool false), (71, undef), (72, undef), (73, undef), (74, undef), (75, undef), (76, undef), (77, .bool false), (78, .bool false), (79, undef), (80, .bool false)] (by kernel_rfl) fun a hs hS => ?_
            refine d_all (fuel := 0) (rs := [24]) (by kernel_rfl) (by simp) (all1 ?_)
            refine o_store hs hw rfl 5 rfl 0 (by kernel_rfl) (by kernel_rfl) (v := .bool false) (by kernel_rfl) (by kernel_rfl) (by kernel_rfl) (by kernel_rfl) fun a w hs hw => ?_
            refine dg_next (SX_now hS553 ((hw.vws [2, 3, 0, 4, 6, 1, 7]).anti (Le.refl _)) (by kernel_rfl)) fun hS => ?_
            refine d_done (by kernel_rfl) ?_
            obtain rfl := someE hx574
            exact (hJ575 _ _).2 ⟨false, hk, hs.cast [4] (by kernel_rfl), hw.pick [2, 5, 7] (by kernel_rfl)⟩
        · replace hs := hs.altB 64 false (by kernel_rfl) h576
          refine d_pures (fuel := 1) kS553 hs hS [8, 9, 10, 11, 12, 13, 14, 15, 16, 17, 18, 19, 20, 21, 22, 23] [3, 4, 5, 6, 9, 57, 58, 59, 60, 61, 62, 63, 64, 65, 66, 67, 68, 69, 70, 71, 72, 73, 74, 75, 76, 77, 78, 79, 80] [(3, .pointer (some ⟨b338, 0, none⟩)), (4, .pointer (some ⟨b340, 0, none⟩)), (5, .pointer (some ⟨b362, 0, none⟩)), (6, .int .i64 (if 40 < (x1.length : Int) then 40 else (x1.length : Int))), (9, .pointer (some ⟨b526, 0, none⟩)), (57, .int .i64 x542), (58, .int .i64 (if 40 < (x1.length : Int) then 40 else (x1.length : Int))), (59, .int .u8 x5), (60, .int .i64 (IntKind.i64.wrap (x5))), (61, .int .i64 (IntKind.i64.wrap ((IntKind.i64.wrap (x5)) + 1))), (62, .int .i64 (if (IntKind.i64.wrap ((IntKind.i64.wrap (x5)) + 1)) < (if 40 < (x1.length : Int) then 40 else (x1.length : Int)) then (IntKind.i64.wrap ((IntKind.i64.wrap (x5)) + 1)) else (if 40 < (x1.length : Int) then 40 else (x1.length : Int)))), (63, .bool (x542 == (if (IntKind.i64.wrap ((IntKind.i64.wrap (x5)) + 1)) < (if 40 < (x1.length : Int) then 40 else (x1.length : Int)) then (IntKind.i64.wrap ((IntKind.i64.wrap (x5)) + 1)) else (if 40 < (x1.length : Int) then 40 else (x1.length : Int))))), (64, .bool false), (65, undef), (66, undef), (67, undef), (68, undef), (69, .bool false), (70, .bool false), (71, undef), (72, undef), (73, undef), (74, undef), (75, undef), (76, undef), (77, .bool false), (78, .bool false), (79, undef), (80, .bool false)] (by kernel_rfl) fun a hs hS => ?_
          refine d_all (fuel := 0) (rs := [24]) (by kernel_rfl) (by simp) (all1 ?_)
          refine o_store hs hw rfl 4 rfl 0 (by kernel_rfl) (by kernel_rfl) (v := .bool false) (by kernel_rfl) (by kernel_rfl) (by kernel_rfl) (by kernel_rfl) fun a w hs hw => ?_
          refine dg_next (SX_now hS553 ((hw.vws [0, 1, 2, 3, 5, 6, 7]).anti (Le.refl _)) (by kernel_rfl)) fun hS => ?_
          refine d_done (by kernel_rfl) ?_
          obtain rfl := someE hx574
          exact (hJ575 _ _).2 ⟨false, hk, hs.cast [4] (by kernel_rfl), hw.pick [0, 4, 7] (by kernel_rfl)⟩
      · intro a w hh
        obtain ⟨x572, hk, hs, hw⟩ := (hJ575 _ _).1 hh
        refine c_ret ?_
        obtain rfl := someE hk
        refine hQ _ _ (f_retM hs hw 0 rfl fun a w hs hw => (f_retC hs rfl (hw.at_ 1 rfl) (by kernel_rfl) (v := .bool x572) (by kernel_rfl) ⟨rfl, hw.pick [2] (by kernel_rfl)⟩))
end Go.Proofs.Ytfpppgbibgbllaa.Sx
