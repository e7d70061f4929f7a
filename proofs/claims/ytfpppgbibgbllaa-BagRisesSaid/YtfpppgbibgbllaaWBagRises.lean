/- The walk of BagRises: each Go function that it calls, as a plain function, and the proof that the call computes it. Printed by the program gen.py.
   Conditions: those that each theorem states ahead of its colon, and no other. -/
import Derived.Test.YtfpppgbibgbllaaSx9
import Derived.Test.YtfpppgbibgbllaaProg
namespace Go.Proofs.Ytfpppgbibgbllaa.Sx
open Go Go.Proofs
set_option maxRecDepth 100000
set_option linter.unusedVariables false
structure M74 where
  f0 : Int
  f1 : Int
  f2 : Int
@[reducible] def e74 : ET := ⟨M74, 3, 74, fun ih x cs => cs = [.int .i64 x.f0, .int .i64 x.f1, .int .i64 x.f2],
  fun h => by rw [h]; rfl, fun h => by rw [h]; rfl, fun h hle => h⟩
structure M106 where
  f0 : Int
  f1 : Int
@[reducible] def e106 : ET := ⟨M106, 2, 106, fun ih x cs => cs = [.int .i64 x.f0, .int .i64 x.f1],
  fun h => by rw [h]; rfl, fun h => by rw [h]; rfl, fun h hle => h⟩
@[reducible] def e3 : ET := eInt .i64 3
theorem appT102 : AppT Try.prog 102 e106 := appT_of (by kernel_rfl)
def bag_New_int (x1 : Int) : Option (Int × Int × (List M106)) :=
  some ((if 0 > x1 then 0 else x1), 0, [])
theorem bag_New_int_s {x1 : Int} {r : Int × Int × (List M106)} (hk : bag_New_int x1 = some r) {g w : World} {F : Ch} {ih : IH} (hw : St g w [F] ih) :
    CallsR Try.prog 24 #[.int .i64 x1] w fun v w' => ∃ (b14 : Nat) (p15 : Option Addr) (c16 : Nat) (d17 : Ch), v = .pointer (some ⟨b14, 0, none⟩) ∧ St g w' [bx b14 [.int .i64 r.1, .int .i64 r.2.1, .slice p15 r.2.2.length c16] 104, d17, F] ih ∧ OSl e106 ih p15 c16 r.2.2 d17 := by
  refine f_in (vs := [.int .i64 x1]) Try.func24 rfl 7 rfl (by kernel_rfl) [(0, .int .i64 x1)] (by kernel_rfl) fun a Qf hQ hQn hs => ?_
  refine c_seq ?_
  refine c_region ?_
  refine pures hs 1 [0] [(0, .int .i64 x1)] (by kernel_rfl) fun a hs => ?_
  refine s_end ?_
  refine c_seq ?_
  refine c_region ?_
  refine pures hs 3 [5] [(5, .agg #[.int .i64 (if 0 > x1 then 0 else x1), .int .i64 0, .slice none 0 0])] (by kernel_rfl) fun a hs => ?_
  refine s_new hs hw [.int .i64 (if 0 > x1 then 0 else x1), .int .i64 0, .slice none 0 0] 104 (fun b => .pointer (some ⟨b, 0, none⟩)) (by kernel_rfl) (fun _ => by kernel_rfl) fun a w b10 hs hw => ?_
  refine pures hs 1 [2] [(2, .pointer (some ⟨b10, 0, none⟩))] (by kernel_rfl) fun a hs => ?_
  refine s_end ?_
  refine c_ret ?_
  replace hw := hw.nil
  obtain rfl := someE hk
  refine hQ _ _ (f_ret1 hs rfl (v := .pointer (some ⟨b10, 0, none⟩)) (by kernel_rfl) ⟨b10, none, 0, ([]), rfl, hw.pick [1, 0, 2] (by kernel_rfl), (OSl.nil _ _)⟩)
def bag_Bag_int_Last (x3 : Int) (x4 : Int) (x5 : List M106) : Option Int :=
  some x4
theorem bag_Bag_int_Last_s {x3 : Int} {x4 : Int} {x5 : List M106} {b2 : Nat} {p6 : Option Addr} {c7 : Nat} {d9 : Ch} {r : Int} (hk : bag_Bag_int_Last x3 x4 x5 = some r) {g w : World} {F : Ch} {ih : IH} (h8 : OSl e106 ih p6 c7 x5 d9) (hw : St g w [bx b2 [.int .i64 x3, .int .i64 x4, .slice p6 x5.length c7] 104, d9, F] ih) :
    CallsR Try.prog 29 #[.pointer (some ⟨b2, 0, none⟩)] w fun v w' => v = .int .i64 r ∧ St g w' [bx b2 [.int .i64 x3, .int .i64 x4, .slice p6 x5.length c7] 104, d9, F] ih := by
  refine f_in (vs := [.pointer (some ⟨b2, 0, none⟩)]) Try.func29 rfl 9 rfl (by kernel_rfl) [(0, .pointer (some ⟨b2, 0, none⟩))] (by kernel_rfl) fun a Qf hQ hQn hs => ?_
  refine c_seq ?_
  refine c_region ?_
  refine pures hs 1 [0] [(0, .pointer (some ⟨b2, 0, none⟩))] (by kernel_rfl) fun a hs => ?_
  refine s_end ?_
  refine c_seq ?_
  refine c_seq ?_
  refine c_region ?_
  refine pures hs 2 [0, 4] [(0, .pointer (some ⟨b2, 0, none⟩)), (4, .bool false)] (by kernel_rfl) fun a hs => ?_
  refine s_end ?_
  refine c_condF hs (by kernel_rfl) (by kernel_rfl) ?_
  refine c_skip ?_
  refine c_seq ?_
  refine c_region ?_
  refine pures hs 3 [7] [(7, .pointer (some ⟨b2, 1, none⟩))] (by kernel_rfl) fun a hs => ?_
  refine s_load hs (hw.at_ 0 rfl) 1 (by kernel_rfl) (by kernel_rfl) (v := .int .i64 x4) (by kernel_rfl) fun a hs => ?_
  refine pures hs 1 [2] [(2, .int .i64 x4)] (by kernel_rfl) fun a hs => ?_
  refine s_end ?_
  refine c_ret ?_
  obtain rfl := someE hk
  refine hQ _ _ (f_ret1 hs rfl (v := .int .i64 x4) (by kernel_rfl) ⟨rfl, hw.pick [0, 1, 2] (by kernel_rfl)⟩)
def bag_Bag_int_Put_r3 (x4 : Int) (x74 : List M106) : Option (Int × Int × Int × (List M106)) :=
  some (IntKind.i64.wrap (x4 + 1), 0, IntKind.i64.wrap (x4 + 1), x74)
def bag_Bag_int_Put_r4 (x5 : List M106) (x3 : Int) (x4 : Int) (x11 : Int) : Option (Int × Int × Int × (List M106)) :=
  if (decide ((x5.length : Int) ≥ x3)) = true then some (0, 9, x4, x5)
  else ((app x5 [(M106.mk (IntKind.i64.wrap (x4 + 1)) x11)]).bind fun x85 =>
    some x85 : Option (List M106)).bind fun s91 => bag_Bag_int_Put_r3 x4 s91
def bag_Bag_int_Put (x3 : Int) (x4 : Int) (x5 : List M106) (x11 : Int) : Option (Int × Int × Int × (List M106)) :=
  (some () : Option Unit).bind fun _ => bag_Bag_int_Put_r4 x5 x3 x4 x11
theorem bag_Bag_int_Put_s {x3 : Int} {x4 : Int} {x5 : List M106} {x11 : Int} {b2 : Nat} {p6 : Option Addr} {c7 : Nat} {d9 : Ch} {r : Int × Int × Int × (List M106)} (hk : bag_Bag_int_Put x3 x4 x5 x11 = some r) {g w : World} {F : Ch} {ih : IH} (h8 : OSl e106 ih p6 c7 x5 d9) (hw : St g w [bx b2 [.int .i64 x3, .int .i64 x4, .slice p6 x5.length c7] 104, d9, F] ih) :
    CallsR Try.prog 25 #[.pointer (some ⟨b2, 0, none⟩), .int .i64 x11] w fun v w' => ∃ (p96 : Option Addr) (c97 : Nat) (d98 : Ch), v = .tuple #[.int .i64 r.1, .int .i64 r.2.1] ∧ St g w' [bx b2 [.int .i64 x3, .int .i64 r.2.2.1, .slice p96 r.2.2.2.length c97] 104, d98, F] ih ∧ OSl e106 ih p96 c97 r.2.2.2 d98 := by
  refine f_in (vs := [.pointer (some ⟨b2, 0, none⟩), .int .i64 x11]) Try.func25 rfl 46 rfl (by kernel_rfl) [(0, .pointer (some ⟨b2, 0, none⟩)), (1, .int .i64 x11)] (by kernel_rfl) fun a Qf hQ hQn hs => ?_
  refine c_seq ?_
  refine c_region ?_
  refine pures hs 2 [0, 1] [(0, .pointer (some ⟨b2, 0, none⟩)), (1, .int .i64 x11)] (by kernel_rfl) fun a hs => ?_
  refine s_end ?_
  refine c_seq ?_
  refine c_block ?_
  refine c_seq ?_
  refine c_region ?_
  refine pures hs 3 [0, 1, 6] [(0, .pointer (some ⟨b2, 0, none⟩)), (1, .int .i64 x11), (6, .bool false)] (by kernel_rfl) fun a hs => ?_
  refine s_end ?_
  refine c_condF hs (by kernel_rfl) (by kernel_rfl) ?_
  refine c_seq ?_
  obtain ⟨S55, hS55, kS55⟩ := mkSX (X := [([], bx b2 [.int .i64 x3, .int .i64 x4, .slice p6 x5.length c7] 104), ([], d9), ([], F)]) (ih := ih) (K := []) rfl
  obtain ⟨y92, hx93, hk⟩ := bindE hk
  obtain ⟨J94, hJ94⟩ : ∃ J : Act → World → Prop, ∀ a w, J a w ↔ (bag_Bag_int_Put_r4 x5 x3 x4 x11 = some r ∧ Sees a 46 [(0, .pointer (some ⟨b2, 0, none⟩)), (1, .int .i64 x11), (9, .bool (decide ((x5.length : Int) ≥ x3)))] ∧ St g w [bx b2 [.int .i64 x3, .int .i64 x4, .slice p6 x5.length c7] 104, d9, F] ih) := ⟨_, fun _ _ => Iff.rfl⟩
  refine c_draw (by kernel_rfl) (N := 11) rfl S55 J94 ?_ ?_
  · have hw := hw.drew
    have hS : S55 (Array.replicate 11 false) _ := SX_now hS55 (hw.vws [0, 1, 2]) (by kernel_rfl)
    refine d_pures (fuel := 8) kS55 hs hS [0, 1, 2] [0, 1, 10, 11, 12] [(0, .pointer (some ⟨b2, 0, none⟩)), (1, .int .i64 x11), (10, .pointer (some ⟨b2, 0, none⟩)), (11, .pointer (some ⟨b2, 0, none⟩)), (12, .pointer (some ⟨b2, 2, none⟩))] (by kernel_rfl) fun a hs hS => ?_
    refine d_load (fuel := 7) kS55 hs hS 3 rfl (by kernel_rfl) (SX_box hS55 0 rfl (by kernel_rfl)) 2 (by kernel_rfl) (by kernel_rfl) (v := .slice p6 x5.length c7) (by kernel_rfl) fun a hs hS => ?_
    refine d_pures (fuel := 3) kS55 hs hS [4, 5, 6, 7] [0, 1, 10, 11, 12, 13, 14, 15, 16, 17] [(0, .pointer (some ⟨b2, 0, none⟩)), (1, .int .i64 x11), (10, .pointer (some ⟨b2, 0, none⟩)), (11, .pointer (some ⟨b2, 0, none⟩)), (12, .pointer (some ⟨b2, 2, none⟩)), (13, .slice p6 x5.length c7), (14, .int .i64 (x5.length : Int)), (15, .pointer (some ⟨b2, 0, none⟩)), (16, .pointer (some ⟨b2, 0, none⟩)), (17, .pointer (some ⟨b2, 0, none⟩))] (by kernel_rfl) fun a hs hS => ?_
    refine d_load (fuel := 2) kS55 hs hS 8 rfl (by kernel_rfl) (SX_box hS55 0 rfl (by kernel_rfl)) 0 (by kernel_rfl) (by kernel_rfl) (v := .int .i64 x3) (by kernel_rfl) fun a hs hS => ?_
    refine d_pures (fuel := 0) kS55 hs hS [9, 10] [0, 1, 10, 11, 12, 13, 14, 15, 16, 17, 18, 19, 9] [(0, .pointer (some ⟨b2, 0, none⟩)), (1, .int .i64 x11), (10, .pointer (some ⟨b2, 0, none⟩)), (11, .pointer (some ⟨b2, 0, none⟩)), (12, .pointer (some ⟨b2, 2, none⟩)), (13, .slice p6 x5.length c7), (14, .int .i64 (x5.length : Int)), (15, .pointer (some ⟨b2, 0, none⟩)), (16, .pointer (some ⟨b2, 0, none⟩)), (17, .pointer (some ⟨b2, 0, none⟩)), (18, .int .i64 x3), (19, .bool (decide ((x5.length : Int) ≥ x3))), (9, .bool (decide ((x5.length : Int) ≥ x3)))] (by kernel_rfl) fun a hs hS => ?_
    refine d_done (by kernel_rfl) ?_
    obtain rfl := someE hx93
    exact (hJ94 _ _).2 ⟨hk, hs.cast [0, 1, 9] (by kernel_rfl), hw.pick [0, 1, 2] (by kernel_rfl)⟩
  · intro a w hh
    obtain ⟨hk, hs, hw⟩ := (hJ94 _ _).1 hh
    rcases ifbE hk with ⟨h56, hk⟩ | ⟨h56, hk⟩
    · refine c_cond1 hs (by kernel_rfl) (t := (decide ((x5.length : Int) ≥ x3))) (by kernel_rfl) h56 ?_
      refine c_seq ?_
      refine c_region ?_
      refine pures hs 2 [4, 5] [(4, .int .i64 0), (5, .int .i64 9)] (by kernel_rfl) fun a hs => ?_
      refine s_end ?_
      refine c_ret ?_
      obtain rfl := someE hk
      refine hQ _ _ (f_retN hs [.tmp 4, .tmp 5] rfl [.int .i64 0, .int .i64 9] (by kernel_rfl) (by kernel_rfl) ⟨p6, c7, d9, rfl, hw.pick [0, 1, 2] (by kernel_rfl), h8⟩)
    · refine c_cond0 hs (by kernel_rfl) (t := (decide ((x5.length : Int) ≥ x3))) (by kernel_rfl) h56 ?_
      refine c_skip ?_
      refine c_seq ?_
      refine c_region ?_
      refine pures hs 3 [0, 1, 20, 22] [(0, .pointer (some ⟨b2, 0, none⟩)), (1, .int .i64 x11), (20, .pointer (some ⟨b2, 0, none⟩)), (22, .pointer (some ⟨b2, 1, none⟩))] (by kernel_rfl) fun a hs => ?_
      refine s_load hs (hw.at_ 0 rfl) 1 (by kernel_rfl) (by kernel_rfl) (v := .int .i64 x4) (by kernel_rfl) fun a hs => ?_
      refine pures hs 3 [0, 1, 24, 26] [(0, .pointer (some ⟨b2, 0, none⟩)), (1, .int .i64 x11), (24, .int .i64 (IntKind.i64.wrap (x4 + 1))), (26, .pointer (some ⟨b2, 1, none⟩))] (by kernel_rfl) fun a hs => ?_
      refine s_store hs hw 0 rfl 1 (by kernel_rfl) (by kernel_rfl) (v := .int .i64 (IntKind.i64.wrap (x4 + 1))) (by kernel_rfl) (by kernel_rfl) (by kernel_rfl) (by kernel_rfl) fun a w hs hw => ?_
      refine s_end ?_
      refine c_seq ?_
      obtain ⟨S57, hS57, kS57⟩ := mkSX (X := [([12, 15], bx b2 [.int .i64 x3, .int .i64 (IntKind.i64.wrap (x4 + 1)), .slice p6 x5.length c7] 104), ([12], d9), ([], F)]) (ih := ih) (K := [12, 15, 12]) rfl
      obtain ⟨y80, hx81, hk⟩ := bindE hk
      obtain ⟨J82, hJ82⟩ : ∃ J : Act → World → Prop, ∀ a w, J a w ↔ (∃ (x74 : List M106) (p75 : Option Addr) (c76 : Nat) (d78 : Ch), bag_Bag_int_Put_r3 x4 x74 = some r ∧ Sees a 46 [(0, .pointer (some ⟨b2, 0, none⟩))] ∧ St g w [bx b2 [.int .i64 x3, .int .i64 (IntKind.i64.wrap (x4 + 1)), .slice p75 x74.length c76] 104, d78, F] ih ∧ OSl e106 ih p75 c76 x74 d78) := ⟨_, fun _ _ => Iff.rfl⟩
      refine c_draw (by kernel_rfl) (N := 16) rfl S57 J82 ?_ ?_
      · have hw := hw.drew
        have hS : S57 (Array.replicate 16 false) _ := SX_now hS57 (hw.vws [0, 1, 2]) (by kernel_rfl)
        refine d_pures (fuel := 12) kS57 hs hS [0, 1, 2, 3] [0, 1, 27, 28, 29, 30] [(0, .pointer (some ⟨b2, 0, none⟩)), (1, .int .i64 x11), (27, .pointer (some ⟨b2, 0, none⟩)), (28, .pointer (some ⟨b2, 0, none⟩)), (29, .pointer (some ⟨b2, 0, none⟩)), (30, .pointer (some ⟨b2, 2, none⟩))] (by kernel_rfl) fun a hs hS => ?_
        refine d_load (fuel := 11) kS57 hs hS 4 rfl (by kernel_rfl) (SX_box hS57 0 rfl (by kernel_rfl)) 2 (by kernel_rfl) (by kernel_rfl) (v := .slice p6 x5.length c7) (by kernel_rfl) fun a hs hS => ?_
        refine d_pures (fuel := 7) kS57 hs hS [5, 6, 7, 9] [0, 1, 27, 28, 29, 30, 31, 32, 33, 34, 36] [(0, .pointer (some ⟨b2, 0, none⟩)), (1, .int .i64 x11), (27, .pointer (some ⟨b2, 0, none⟩)), (28, .pointer (some ⟨b2, 0, none⟩)), (29, .pointer (some ⟨b2, 0, none⟩)), (30, .pointer (some ⟨b2, 2, none⟩)), (31, .slice p6 x5.length c7), (32, .pointer (some ⟨b2, 0, none⟩)), (33, .pointer (some ⟨b2, 0, none⟩)), (34, .pointer (some ⟨b2, 1, none⟩)), (36, .int .i64 x11)] (by kernel_rfl) fun a hs hS => ?_
        refine d_all (fuel := 6) (rs := [8]) (by kernel_rfl) (by simp) (all1 ?_)
        refine o_load hs rfl (hw.at_ 0 rfl) 1 (by kernel_rfl) (by kernel_rfl) (v := .int .i64 (IntKind.i64.wrap (x4 + 1))) (by kernel_rfl) fun a hs => ?_
        refine dg_next (SX_now hS57 ((hw.vws [0, 1, 2]).anti (Le.refl _)) (by kernel_rfl)) fun hS => ?_
        refine d_pures (fuel := 5) kS57 hs hS [10] [0, 1, 27, 28, 29, 30, 31, 32, 33, 34, 36, 35, 37] [(0, .pointer (some ⟨b2, 0, none⟩)), (1, .int .i64 x11), (27, .pointer (some ⟨b2, 0, none⟩)), (28, .pointer (some ⟨b2, 0, none⟩)), (29, .pointer (some ⟨b2, 0, none⟩)), (30, .pointer (some ⟨b2, 2, none⟩)), (31, .slice p6 x5.length c7), (32, .pointer (some ⟨b2, 0, none⟩)), (33, .pointer (some ⟨b2, 0, none⟩)), (34, .pointer (some ⟨b2, 1, none⟩)), (36, .int .i64 x11), (35, .int .i64 (IntKind.i64.wrap (x4 + 1))), (37, .agg #[.int .i64 (IntKind.i64.wrap (x4 + 1)), .int .i64 x11])] (by kernel_rfl) fun a hs hS => ?_
        refine d_all (fuel := 4) (rs := [11]) (by kernel_rfl) (by simp) (all1 ?_)
        refine o_new hs rfl hw [.int .i64 (IntKind.i64.wrap (x4 + 1)), .int .i64 x11] 106 (fun b => .slice (some ⟨b, 0, none⟩) 1 1) (by kernel_rfl) (fun _ => by kernel_rfl) fun a w b83 hs hw => ?_
        refine dg_next (SX_now hS57 ((hw.vws [1, 2, 3]).anti (Le.refl _)) (by kernel_rfl)) fun hS => ?_
        refine d_all (fuel := 3) (rs := [12]) (by kernel_rfl) (by simp) (all1 ?_)
        obtain ⟨x85, h86, hx81⟩ := bindE hx81
        refine o_app1 hs rfl hw (E := e106) appT102 2 rfl h8 (by kernel_rfl) (by kernel_rfl) (c2 := 1) (by kernel_rfl) (hw.at_ 0 rfl) (z := (M106.mk (IntKind.i64.wrap (x4 + 1)) x11)) rfl h86 fun a w p87 c88 d89 h90 hw hs => ?_
        refine dg_next (SX_now hS57 ((hw.vws [3]).anti (Le.refl _)) (by kernel_rfl)) fun hS => ?_
        refine d_pures (fuel := 1) kS57 hs hS [13, 14] [0, 1, 27, 28, 29, 30, 32, 33, 34, 36, 35, 37, 38, 39, 40, 41] [(0, .pointer (some ⟨b2, 0, none⟩)), (1, .int .i64 x11), (27, .pointer (some ⟨b2, 0, none⟩)), (28, .pointer (some ⟨b2, 0, none⟩)), (29, .pointer (some ⟨b2, 0, none⟩)), (30, .pointer (some ⟨b2, 2, none⟩)), (32, .pointer (some ⟨b2, 0, none⟩)), (33, .pointer (some ⟨b2, 0, none⟩)), (34, .pointer (some ⟨b2, 1, none⟩)), (36, .int .i64 x11), (35, .int .i64 (IntKind.i64.wrap (x4 + 1))), (37, .agg #[.int .i64 (IntKind.i64.wrap (x4 + 1)), .int .i64 x11]), (38, .slice (some ⟨b83, 0, none⟩) 1 1), (39, .slice p87 x85.length c88), (40, .pointer (some ⟨b2, 0, none⟩)), (41, .pointer (some ⟨b2, 2, none⟩))] (by kernel_rfl) fun a hs hS => ?_
        refine d_all (fuel := 0) (rs := [15]) (by kernel_rfl) (by simp) (all1 ?_)
        refine o_store hs hw rfl 1 rfl 2 (by kernel_rfl) (by kernel_rfl) (v := .slice p87 x85.length c88) (by kernel_rfl) (by kernel_rfl) (by kernel_rfl) (by kernel_rfl) fun a w hs hw => ?_
        refine dg_next (SX_now hS57 ((hw.vws [3]).anti (Le.refl _)) (by kernel_rfl)) fun hS => ?_
        refine d_done (by kernel_rfl) ?_
        obtain rfl := someE hx81
        exact (hJ82 _ _).2 ⟨x85, p87, c88, d89, hk, hs.cast [0] (by kernel_rfl), hw.pick [1, 2, 3] (by kernel_rfl), h90⟩
      · intro a w hh
        obtain ⟨x74, p75, c76, d78, hk, hs, hw, h77⟩ := (hJ82 _ _).1 hh
        refine c_seq ?_
        refine c_region ?_
        refine pures hs 3 [44] [(44, .pointer (some ⟨b2, 1, none⟩))] (by kernel_rfl) fun a hs => ?_
        refine s_load hs (hw.at_ 0 rfl) 1 (by kernel_rfl) (by kernel_rfl) (v := .int .i64 (IntKind.i64.wrap (x4 + 1))) (by kernel_rfl) fun a hs => ?_
        refine pures hs 2 [4, 5] [(4, .int .i64 (IntKind.i64.wrap (x4 + 1))), (5, .int .i64 0)] (by kernel_rfl) fun a hs => ?_
        refine s_end ?_
        refine c_ret ?_
        obtain rfl := someE hk
        refine hQ _ _ (f_retN hs [.tmp 4, .tmp 5] rfl [.int .i64 (IntKind.i64.wrap (x4 + 1)), .int .i64 0] (by kernel_rfl) (by kernel_rfl) ⟨p75, c76, d78, rfl, hw.pick [0, 1, 2] (by kernel_rfl), h77⟩)
def bag_Bag_int_has (x3 : Int) (x4 : Int) (x5 : List M106) (x11 : Int) : Option Bool :=
  some ((decide (x11 ≥ 0)) && (decide (x11 < (x5.length : Int))))
theorem bag_Bag_int_has_s {x3 : Int} {x4 : Int} {x5 : List M106} {x11 : Int} {b2 : Nat} {p6 : Option Addr} {c7 : Nat} {d9 : Ch} {r : Bool} (hk : bag_Bag_int_has x3 x4 x5 x11 = some r) {g w : World} {F : Ch} {ih : IH} (h8 : OSl e106 ih p6 c7 x5 d9) (hw : St g w [bx b2 [.int .i64 x3, .int .i64 x4, .slice p6 x5.length c7] 104, d9, F] ih) :
    CallsR Try.prog 89 #[.pointer (some ⟨b2, 0, none⟩), .int .i64 x11] w fun v w' => v = .bool r ∧ St g w' [bx b2 [.int .i64 x3, .int .i64 x4, .slice p6 x5.length c7] 104, d9, F] ih := by
  refine f_in (vs := [.pointer (some ⟨b2, 0, none⟩), .int .i64 x11]) Try.func89 rfl 20 rfl (by kernel_rfl) [(0, .pointer (some ⟨b2, 0, none⟩)), (1, .int .i64 x11)] (by kernel_rfl) fun a Qf hQ hQn hs => ?_
  refine c_seq ?_
  refine c_region ?_
  refine pures hs 1 [0, 1] [(0, .pointer (some ⟨b2, 0, none⟩)), (1, .int .i64 x11)] (by kernel_rfl) fun a hs => ?_
  refine s_end ?_
  refine c_seq ?_
  obtain ⟨J22, hJ22⟩ : ∃ J : Act → World → Prop, ∀ a w, J a w ↔ (Sees a 20 [(4, .bool ((decide (x11 ≥ 0)) && (decide (x11 < (x5.length : Int)))))] ∧ St g w [bx b2 [.int .i64 x3, .int .i64 x4, .slice p6 x5.length c7] 104, d9, F] ih) := ⟨_, fun _ _ => Iff.rfl⟩
  refine c_regJ J22 ?_ ?_
  · refine pures hs 7 [0, 1, 11] [(0, .pointer (some ⟨b2, 0, none⟩)), (1, .int .i64 x11), (11, .bool (decide (x11 ≥ 0)))] (by kernel_rfl) fun a hs => ?_
    rcases boolE (decide (x11 ≥ 0)) with h23 | h23
    · replace hs := hs.altB 11 true (by kernel_rfl) h23
      refine pures hs 4 [11, 12, 15] [(11, .bool true), (12, .int .i64 x11), (15, .pointer (some ⟨b2, 2, none⟩))] (by kernel_rfl) fun a hs => ?_
      refine s_load hs (hw.at_ 0 rfl) 2 (by kernel_rfl) (by kernel_rfl) (v := .slice p6 x5.length c7) (by kernel_rfl) fun a hs => ?_
      refine pures hs 4 [4] [(4, .bool (decide (x11 < (x5.length : Int))))] (by kernel_rfl) fun a hs => ?_
      refine s_end ?_
      exact (hJ22 _ _).2 ⟨(hs.altB 4 ((decide (x11 ≥ 0)) && (decide (x11 < (x5.length : Int)))) (by kernel_rfl) (by rw [h23] <;> rfl)).cast [4] (by kernel_rfl), hw.pick [0, 1, 2] (by kernel_rfl)⟩
    · replace hs := hs.altB 11 false (by kernel_rfl) h23
      refine pures hs 9 [4] [(4, .bool false)] (by kernel_rfl) fun a hs => ?_
      refine s_end ?_
      exact (hJ22 _ _).2 ⟨(hs.altB 4 ((decide (x11 ≥ 0)) && (decide (x11 < (x5.length : Int)))) (by kernel_rfl) (by rw [h23] <;> rfl)).cast [4] (by kernel_rfl), hw.pick [0, 1, 2] (by kernel_rfl)⟩
  · intro a w hh
    obtain ⟨hs, hw⟩ := (hJ22 _ _).1 hh
    refine c_ret ?_
    obtain rfl := someE hk
    refine hQ _ _ (f_ret1 hs rfl (v := .bool ((decide (x11 ≥ 0)) && (decide (x11 < (x5.length : Int))))) (by kernel_rfl) ⟨rfl, hw.pick [0, 1, 2] (by kernel_rfl)⟩)
def bag_Bag_int_Twice (x3 : Int) (x4 : Int) (x5 : List M106) (x11 : Int) : Option (Int × Int × Int × (List M106)) :=
  (bag_Bag_int_has x3 x4 x5 x11).bind fun y43 =>
  if (!y43) = true then some (0, 7, x4, x5)
  else (ix x5 x11).bind fun x57 =>
  (bag_Bag_int_Put x3 x4 x5 x57.f1).bind fun y62 =>
  some (y62.1, y62.2.1, y62.2.2.1, y62.2.2.2)
theorem bag_Bag_int_Twice_s {x3 : Int} {x4 : Int} {x5 : List M106} {x11 : Int} {b2 : Nat} {p6 : Option Addr} {c7 : Nat} {d9 : Ch} {r : Int × Int × Int × (List M106)} (hk : bag_Bag_int_Twice x3 x4 x5 x11 = some r) {g w : World} {F : Ch} {ih : IH} (h8 : OSl e106 ih p6 c7 x5 d9) (hw : St g w [bx b2 [.int .i64 x3, .int .i64 x4, .slice p6 x5.length c7] 104, d9, F] ih) :
    CallsR Try.prog 50 #[.pointer (some ⟨b2, 0, none⟩), .int .i64 x11] w fun v w' => ∃ (p68 : Option Addr) (c69 : Nat) (d70 : Ch), v = .tuple #[.int .i64 r.1, .int .i64 r.2.1] ∧ St g w' [bx b2 [.int .i64 x3, .int .i64 r.2.2.1, .slice p68 r.2.2.2.length c69] 104, d70, F] ih ∧ OSl e106 ih p68 c69 r.2.2.2 d70 := by
  refine f_in (vs := [.pointer (some ⟨b2, 0, none⟩), .int .i64 x11]) Try.func50 rfl 26 rfl (by kernel_rfl) [(0, .pointer (some ⟨b2, 0, none⟩)), (1, .int .i64 x11)] (by kernel_rfl) fun a Qf hQ hQn hs => ?_
  refine c_seq ?_
  refine c_region ?_
  refine pures hs 2 [0, 1] [(0, .pointer (some ⟨b2, 0, none⟩)), (1, .int .i64 x11)] (by kernel_rfl) fun a hs => ?_
  refine s_end ?_
  refine c_seq ?_
  refine c_block ?_
  refine c_seq ?_
  refine c_region ?_
  refine pures hs 3 [0, 1, 6] [(0, .pointer (some ⟨b2, 0, none⟩)), (1, .int .i64 x11), (6, .bool false)] (by kernel_rfl) fun a hs => ?_
  refine s_end ?_
  refine c_condF hs (by kernel_rfl) (by kernel_rfl) ?_
  refine c_seq ?_
  refine c_region ?_
  refine pures hs 2 [0, 1, 10, 11] [(0, .pointer (some ⟨b2, 0, none⟩)), (1, .int .i64 x11), (10, .pointer (some ⟨b2, 0, none⟩)), (11, .int .i64 x11)] (by kernel_rfl) fun a hs => ?_
  obtain ⟨y43, h44, hk⟩ := bindE hk
  refine s_call hs (by kernel_rfl) (by kernel_rfl) (bag_Bag_int_has_s h44 h8 ((hw.pick [0, 1, 2] (by kernel_rfl)).pack 2)) fun a w v hv hs => ?_
  obtain ⟨rfl, hw⟩ := hv
  replace hw := hw.unpack 2 rfl
  refine pures hs 2 [0, 1, 9] [(0, .pointer (some ⟨b2, 0, none⟩)), (1, .int .i64 x11), (9, .bool (!y43))] (by kernel_rfl) fun a hs => ?_
  refine s_end ?_
  rcases ifbE hk with ⟨h45, hk⟩ | ⟨h45, hk⟩
  · refine c_cond1 hs (by kernel_rfl) (t := (!y43)) (by kernel_rfl) h45 ?_
    refine c_seq ?_
    refine c_region ?_
    refine pures hs 2 [4, 5] [(4, .int .i64 0), (5, .int .i64 7)] (by kernel_rfl) fun a hs => ?_
    refine s_end ?_
    refine c_ret ?_
    obtain rfl := someE hk
    refine hQ _ _ (f_retN hs [.tmp 4, .tmp 5] rfl [.int .i64 0, .int .i64 7] (by kernel_rfl) (by kernel_rfl) ⟨p6, c7, d9, rfl, hw.pick [0, 1, 2] (by kernel_rfl), h8⟩)
  · refine c_cond0 hs (by kernel_rfl) (t := (!y43)) (by kernel_rfl) h45 ?_
    refine c_skip ?_
    refine c_seq ?_
    refine c_region ?_
    refine pures hs 4 [1, 14, 17] [(1, .int .i64 x11), (14, .pointer (some ⟨b2, 0, none⟩)), (17, .pointer (some ⟨b2, 2, none⟩))] (by kernel_rfl) fun a hs => ?_
    refine s_load hs (hw.at_ 0 rfl) 2 (by kernel_rfl) (by kernel_rfl) (v := .slice p6 x5.length c7) (by kernel_rfl) fun a hs => ?_
    refine pures hs 1 [14, 18, 19] [(14, .pointer (some ⟨b2, 0, none⟩)), (18, .slice p6 x5.length c7), (19, .int .i64 x11)] (by kernel_rfl) fun a hs => ?_
    obtain ⟨x57, h58, hk⟩ := bindE hk
    refine s_indexO hs h8 (by kernel_rfl) (by kernel_rfl) (k := .i64) (by kernel_rfl) 106 (by kernel_rfl) (by kernel_rfl) h58 fun a r59 cs henc at60 h61 hs => ?_
    obtain rfl := henc
    refine pures hs 1 [14, 21] [(14, .pointer (some ⟨b2, 0, none⟩)), (21, .pointer (some (r59.add 1)))] (by kernel_rfl) fun a hs => ?_
    refine s_load hs (at60 _ ((hw.vw 1 rfl).anti (Le.refl _))) 1 (by kernel_rfl) (by kernel_rfl) (v := .int .i64 x57.f1) (by kernel_rfl) fun a hs => ?_
    obtain ⟨y62, h63, hk⟩ := bindE hk
    refine s_call hs (by kernel_rfl) (by kernel_rfl) (bag_Bag_int_Put_s h63 h8 ((hw.pick [0, 1, 2] (by kernel_rfl)).pack 2)) fun a w v hv hs => ?_
    obtain ⟨p64, c65, d67, rfl, hw, h66⟩ := hv
    replace hw := hw.unpack 2 rfl
    refine pures hs 4 [4, 5] [(4, .int .i64 y62.1), (5, .int .i64 y62.2.1)] (by kernel_rfl) fun a hs => ?_
    refine s_end ?_
    refine c_ret ?_
    obtain rfl := someE hk
    refine hQ _ _ (f_retN hs [.tmp 4, .tmp 5] rfl [.int .i64 y62.1, .int .i64 y62.2.1] (by kernel_rfl) (by kernel_rfl) ⟨p64, c65, d67, rfl, hw.pick [0, 1, 2] (by kernel_rfl), h66⟩)
def bag_Bag_int_At (x3 : Int) (x4 : Int) (x5 : List M106) (x11 : Int) : Option (Int × Bool) :=
  (bag_Bag_int_has x3 x4 x5 x11).bind fun y31 =>
  if (!y31) = true then some (0, false)
  else (ix x5 x11).bind fun x39 =>
  some (x39.f1, true)
theorem bag_Bag_int_At_s {x3 : Int} {x4 : Int} {x5 : List M106} {x11 : Int} {b2 : Nat} {p6 : Option Addr} {c7 : Nat} {d9 : Ch} {r : Int × Bool} (hk : bag_Bag_int_At x3 x4 x5 x11 = some r) {g w : World} {F : Ch} {ih : IH} (h8 : OSl e106 ih p6 c7 x5 d9) (hw : St g w [bx b2 [.int .i64 x3, .int .i64 x4, .slice p6 x5.length c7] 104, d9, F] ih) :
    CallsR Try.prog 76 #[.pointer (some ⟨b2, 0, none⟩), .int .i64 x11] w fun v w' => v = .tuple #[.int .i64 r.1, .bool r.2] ∧ St g w' [bx b2 [.int .i64 x3, .int .i64 x4, .slice p6 x5.length c7] 104, d9, F] ih := by
  refine f_in (vs := [.pointer (some ⟨b2, 0, none⟩), .int .i64 x11]) Try.func76 rfl 20 rfl (by kernel_rfl) [(0, .pointer (some ⟨b2, 0, none⟩)), (1, .int .i64 x11)] (by kernel_rfl) fun a Qf hQ hQn hs => ?_
  refine c_seq ?_
  refine c_region ?_
  refine pures hs 2 [0, 1] [(0, .pointer (some ⟨b2, 0, none⟩)), (1, .int .i64 x11)] (by kernel_rfl) fun a hs => ?_
  refine s_end ?_
  refine c_seq ?_
  refine c_seq ?_
  refine c_region ?_
  refine pures hs 2 [0, 1, 7, 8] [(0, .pointer (some ⟨b2, 0, none⟩)), (1, .int .i64 x11), (7, .pointer (some ⟨b2, 0, none⟩)), (8, .int .i64 x11)] (by kernel_rfl) fun a hs => ?_
  obtain ⟨y31, h32, hk⟩ := bindE hk
  refine s_call hs (by kernel_rfl) (by kernel_rfl) (bag_Bag_int_has_s h32 h8 ((hw.pick [0, 1, 2] (by kernel_rfl)).pack 2)) fun a w v hv hs => ?_
  obtain ⟨rfl, hw⟩ := hv
  replace hw := hw.unpack 2 rfl
  refine pures hs 1 [0, 1, 10] [(0, .pointer (some ⟨b2, 0, none⟩)), (1, .int .i64 x11), (10, .bool (!y31))] (by kernel_rfl) fun a hs => ?_
  refine s_end ?_
  rcases ifbE hk with ⟨h33, hk⟩ | ⟨h33, hk⟩
  · refine c_cond1 hs (by kernel_rfl) (t := (!y31)) (by kernel_rfl) h33 ?_
    refine c_seq ?_
    refine c_region ?_
    refine pures hs 1 [6] [(6, .int .i64 0)] (by kernel_rfl) fun a hs => ?_
    refine s_end ?_
    refine c_seq ?_
    refine c_region ?_
    refine pures hs 3 [4, 5] [(4, .int .i64 0), (5, .bool false)] (by kernel_rfl) fun a hs => ?_
    refine s_end ?_
    refine c_ret ?_
    obtain rfl := someE hk
    refine hQ _ _ (f_retN hs [.tmp 4, .tmp 5] rfl [.int .i64 0, .bool false] (by kernel_rfl) (by kernel_rfl) ⟨rfl, hw.pick [0, 1, 2] (by kernel_rfl)⟩)
  · refine c_cond0 hs (by kernel_rfl) (t := (!y31)) (by kernel_rfl) h33 ?_
    refine c_skip ?_
    refine c_seq ?_
    refine c_region ?_
    refine pures hs 3 [1, 14] [(1, .int .i64 x11), (14, .pointer (some ⟨b2, 2, none⟩))] (by kernel_rfl) fun a hs => ?_
    refine s_load hs (hw.at_ 0 rfl) 2 (by kernel_rfl) (by kernel_rfl) (v := .slice p6 x5.length c7) (by kernel_rfl) fun a hs => ?_
    refine pures hs 1 [15, 16] [(15, .slice p6 x5.length c7), (16, .int .i64 x11)] (by kernel_rfl) fun a hs => ?_
    obtain ⟨x39, h40, hk⟩ := bindE hk
    refine s_indexO hs h8 (by kernel_rfl) (by kernel_rfl) (k := .i64) (by kernel_rfl) 106 (by kernel_rfl) (by kernel_rfl) h40 fun a r41 cs henc at42 h43 hs => ?_
    obtain rfl := henc
    refine pures hs 1 [18] [(18, .pointer (some (r41.add 1)))] (by kernel_rfl) fun a hs => ?_
    refine s_load hs (at42 _ ((hw.vw 1 rfl).anti (Le.refl _))) 1 (by kernel_rfl) (by kernel_rfl) (v := .int .i64 x39.f1) (by kernel_rfl) fun a hs => ?_
    refine pures hs 2 [4, 5] [(4, .int .i64 x39.f1), (5, .bool true)] (by kernel_rfl) fun a hs => ?_
    refine s_end ?_
    refine c_ret ?_
    obtain rfl := someE hk
    refine hQ _ _ (f_retN hs [.tmp 4, .tmp 5] rfl [.int .i64 x39.f1, .bool true] (by kernel_rfl) (by kernel_rfl) ⟨rfl, hw.pick [0, 1, 2] (by kernel_rfl)⟩)
def slices_Delete_bag_item_int_bag_item_int (x1 : List M106) (x2 : Int) (x3 : Int) : Option (List M106) :=
  delS x1 x2 x3
theorem slices_Delete_bag_item_int_bag_item_int_s {x1 : List M106} {x2 : Int} {x3 : Int} {p4 : Option Addr} {c5 : Nat} {d6 : Ch} {r : List M106} (hk : slices_Delete_bag_item_int_bag_item_int x1 x2 x3 = some r) {g w : World} {F : Ch} {ih : IH} (h7 : OSl e106 ih p4 c5 x1 d6) (hw : St g w [d6, F] ih) :
    CallsR Try.prog 77 #[.slice p4 x1.length c5, .int .i64 x2, .int .i64 x3] w fun v w' => ∃ (p : Option Addr) (c : Nat) (d : Ch), v = .slice p r.length c ∧ St g w' [d, F] ih ∧ OSl e106 ih p c r d := by
  obtain ⟨hi0, hij, hjl, rfl⟩ := delE hk
  rcases p4 with _ | q
  · rcases h7 with ⟨_, rfl, rfl, rfl⟩ | ⟨_, _, h, _⟩
    · simp only [List.length_nil] at hjl
      obtain rfl : x2 = 0 := by omega
      obtain rfl : x3 = 0 := by omega
      refine f_in (vs := [.slice none 0 0, .int .i64 0, .int .i64 0]) Try.func77 rfl 33 rfl (by kernel_rfl) [(0, .slice none 0 0), (1, .int .i64 0), (2, .int .i64 0)] (by kernel_rfl) fun a Qf hQ hQn hs => ?_
      refine c_seq ?_
      refine c_region ?_
      refine pures hs 1 [0, 1, 2] [(0, .slice none 0 0), (1, .int .i64 0), (2, .int .i64 0)] (by kernel_rfl) fun a hs => ?_
      refine s_end ?_
      refine c_seq ?_
      refine c_region ?_
      refine pures hs 5 [0, 1, 2, 8, 9, 10, 12] [(0, .slice none 0 0), (1, .int .i64 0), (2, .int .i64 0), (8, .slice none 0 0), (9, .int .i64 0), (10, .int .i64 0), (12, .int .i64 0)] (by kernel_rfl) fun a hs => ?_
      refine s_sliceX hs (by kernel_rfl) (by kernel_rfl) 106 (sz := 2) (p := none) (len := 0) (cap := 0) (by kernel_rfl) (by kernel_rfl) (by kernel_rfl) (l := 0) (h := 0) (m := 0) (by kernel_rfl) (by kernel_rfl) (by kernel_rfl) (Int.le_refl _) (Int.le_refl _) (Int.le_refl _) (Int.le_refl _) (v := .slice none 0 0) rfl fun a hs => ?_
      refine s_end ?_
      refine c_seq ?_
      refine c_seq ?_
      refine c_region ?_
      refine pures hs 3 [0, 1, 2, 16] [(0, .slice none 0 0), (1, .int .i64 0), (2, .int .i64 0), (16, .bool true)] (by kernel_rfl) fun a hs => ?_
      refine s_end ?_
      refine c_condT hs (by kernel_rfl) (by kernel_rfl) ?_
      refine c_seq ?_
      refine c_region ?_
      refine pures hs 2 [6] [(6, .slice none 0 0)] (by kernel_rfl) fun a hs => ?_
      refine s_end ?_
      refine c_ret ?_
      refine hQ _ _ (f_ret1 hs rfl (v := .slice none 0 0) (by kernel_rfl) ⟨none, 0, [], rfl, hw.pick [0, 1] (by kernel_rfl), OSl.nil _ _⟩)
    · cases h
  · obtain ⟨b, hb⟩ : ∃ b, q = ⟨b, 0, none⟩ := by rcases h7 with ⟨h, _⟩ | ⟨b, _, h, _⟩ <;> cases h <;> exact ⟨_, rfl⟩
    subst hb
    obtain ⟨cur, rfl, hxc, hcm, hcs, hH⟩ := h7.open1
    have ho := h7
    have hys : (x1.take x2.toNat ++ x1.drop x3.toNat).length = x2.toNat + (x1.length - x3.toNat) := by rw [List.length_append, List.length_take, List.length_drop]; omega
    have hq : (if (x2 == x3) = true then some () else some () : Option Unit) = some () := ifU
    refine f_in (vs := [.slice (some ⟨b, 0, none⟩) x1.length c5, .int .i64 x2, .int .i64 x3]) Try.func77 rfl 33 rfl (by kernel_rfl) [(0, .slice (some ⟨b, 0, none⟩) x1.length c5), (1, .int .i64 x2), (2, .int .i64 x3)] (by kernel_rfl) fun a Qf hQ hQn hs => ?_
    refine c_seq ?_
    refine c_region ?_
    refine pures hs 1 [0, 1, 2] [(0, .slice (some ⟨b, 0, none⟩) x1.length c5), (1, .int .i64 x2), (2, .int .i64 x3)] (by kernel_rfl) fun a hs => ?_
    refine s_end ?_
    refine c_seq ?_
    refine c_region ?_
    refine pures hs 5 [0, 1, 2, 8, 9, 10, 12] [(0, .slice (some ⟨b, 0, none⟩) x1.length c5), (1, .int .i64 x2), (2, .int .i64 x3), (8, .slice (some ⟨b, 0, none⟩) x1.length c5), (9, .int .i64 x2), (10, .int .i64 x3), (12, .int .i64 ((x1.length : Nat) : Int))] (by kernel_rfl) fun a hs => ?_
    refine s_sliceX hs (by kernel_rfl) (by kernel_rfl) 106 (sz := 2) (p := (some ⟨b, 0, none⟩)) (len := x1.length) (cap := c5) (by kernel_rfl) (by kernel_rfl) (by kernel_rfl) (l := x2) (h := x3) (m := (x1.length : Int)) (by kernel_rfl) (by kernel_rfl) (by kernel_rfl) hi0 hij hjl (by omega) (v := .slice (if x1.length = x2.toNat then (some ⟨b, 0, none⟩ : Option Addr) else (some ⟨b, 0, none⟩ : Option Addr).map (·.add (x2.toNat * e106.sz))) (x3.toNat - x2.toNat) (x1.length - x2.toNat)) rfl fun a hs => ?_
    refine s_end ?_
    refine c_seq ?_
    refine c_seq ?_
    refine c_region ?_
    refine pures hs 3 [0, 1, 2, 16] [(0, .slice (some ⟨b, 0, none⟩) x1.length c5), (1, .int .i64 x2), (2, .int .i64 x3), (16, .bool (x2 == x3))] (by kernel_rfl) fun a hs => ?_
    refine s_end ?_
    rcases ifbE hq with ⟨h10, hq⟩ | ⟨h10, hq⟩
    · refine c_cond1 hs (by kernel_rfl) (t := (x2 == x3)) (by kernel_rfl) h10 ?_
      refine c_seq ?_
      refine c_region ?_
      refine pures hs 2 [6] [(6, .slice (some ⟨b, 0, none⟩) x1.length c5)] (by kernel_rfl) fun a hs => ?_
      refine s_end ?_
      refine c_ret ?_
      have hr : x1.take x2.toNat ++ x1.drop x3.toNat = x1 := by rw [show x2 = x3 by simpa using h10, List.take_append_drop]
      refine hQ _ _ (f_ret1 hs rfl (v := .slice (some ⟨b, 0, none⟩) x1.length c5) (by kernel_rfl) ⟨some ⟨b, 0, none⟩, c5, _, by rw [hr], hw.pick [0, 1] (by kernel_rfl), by rw [hr]; exact ho⟩)
    · refine c_cond0 hs (by kernel_rfl) (t := (x2 == x3)) (by kernel_rfl) h10 ?_
      refine c_skip ?_
      refine c_seq ?_
      refine c_region ?_
      refine pures hs 3 [0, 1, 2, 7] [(0, .slice (some ⟨b, 0, none⟩) x1.length c5), (1, .int .i64 x2), (2, .int .i64 x3), (7, .int .i64 ((x1.length : Nat) : Int))] (by kernel_rfl) fun a hs => ?_
      refine s_end ?_
      refine c_seq ?_
      obtain ⟨S11, hS11, kS11⟩ := mkSX (X := [([6], [(b, .cells cur e106.ty (0, 0))]), ([], F)]) (ih := ih) (K := [6]) rfl
      refine c_drawK (by kernel_rfl) (N := 8) rfl S11 ?_
      have hw := hw.drew
      have hS : S11 (Array.replicate 8 false) _ := SX_now hS11 (hw.vws [0, 1]) (by kernel_rfl)
      refine d_pures (fuel := 6) kS11 hs hS [0, 1] [0, 1, 2, 7, 20, 21] [(0, .slice (some ⟨b, 0, none⟩) x1.length c5), (1, .int .i64 x2), (2, .int .i64 x3), (7, .int .i64 ((x1.length : Nat) : Int)), (20, .slice (some ⟨b, 0, none⟩) x1.length c5), (21, .int .i64 x2)] (by kernel_rfl) fun a hs hS => ?_
      refine d_sliceX (fuel := 5) kS11 hs hS 2 rfl (by kernel_rfl) (by kernel_rfl) (by kernel_rfl) 106 (sz := 2) (p := (some ⟨b, 0, none⟩)) (len := x1.length) (cap := c5) (by kernel_rfl) (by kernel_rfl) (by kernel_rfl) (l' := 0) (h := x2) (m := (c5 : Int)) (by kernel_rfl) (by kernel_rfl) (by kernel_rfl) (Int.le_refl _) hi0 (by omega) (Int.le_refl _) (v := .slice (some ⟨b, 0, none⟩) x2.toNat c5) (by rw [part0]; rfl) fun a hs hS => ?_
      refine d_pures (fuel := 3) kS11 hs hS [3, 4] [0, 1, 2, 7, 20, 21, 22, 23, 24] [(0, .slice (some ⟨b, 0, none⟩) x1.length c5), (1, .int .i64 x2), (2, .int .i64 x3), (7, .int .i64 ((x1.length : Nat) : Int)), (20, .slice (some ⟨b, 0, none⟩) x1.length c5), (21, .int .i64 x2), (22, .slice (some ⟨b, 0, none⟩) x2.toNat c5), (23, .slice (some ⟨b, 0, none⟩) x1.length c5), (24, .int .i64 x3)] (by kernel_rfl) fun a hs hS => ?_
      refine d_sliceX (fuel := 2) kS11 hs hS 5 rfl (by kernel_rfl) (by kernel_rfl) (by kernel_rfl) 106 (sz := 2) (p := (some ⟨b, 0, none⟩)) (len := x1.length) (cap := c5) (by kernel_rfl) (by kernel_rfl) (by kernel_rfl) (l' := x3) (h := (x1.length : Int)) (m := (c5 : Int)) (by kernel_rfl) (by kernel_rfl) (by kernel_rfl) (by omega) hjl (by omega) (Int.le_refl _) (v := .slice (if c5 = x3.toNat then (some ⟨b, 0, none⟩ : Option Addr) else (some ⟨b, 0, none⟩ : Option Addr).map (·.add (x3.toNat * e106.sz))) (x1.length - x3.toNat) (c5 - x3.toNat)) rfl fun a hs hS => ?_
      refine d_all (fuel := 1) (rs := [6]) (by kernel_rfl) (by simp) (all1 ?_)
      refine o_appD hs rfl hw appT102 0 rfl ho (by kernel_rfl) (i := x2.toNat) (j := x3.toNat) (by omega) (by omega) (by kernel_rfl) (by kernel_rfl) fun a w cur2 ho hw hs => ?_
      refine dg_next (SX_now hS11 ((hw.vws [1]).anti (Le.refl _)) (by kernel_rfl)) fun hS => ?_
      refine d_pures (fuel := 0) kS11 hs hS [7] [0, 1, 2, 7, 20, 21, 22, 23, 24, 25, 26] [(0, .slice (some ⟨b, 0, none⟩) (x2.toNat + (x1.length - x3.toNat)) c5), (1, .int .i64 x2), (2, .int .i64 x3), (7, .int .i64 ((x1.length : Nat) : Int)), (20, .slice (some ⟨b, 0, none⟩) x1.length c5), (21, .int .i64 x2), (22, .slice (some ⟨b, 0, none⟩) x2.toNat c5), (23, .slice (some ⟨b, 0, none⟩) x1.length c5), (24, .int .i64 x3), (25, .slice (if c5 = x3.toNat then (some ⟨b, 0, none⟩ : Option Addr) else (some ⟨b, 0, none⟩ : Option Addr).map (·.add (x3.toNat * e106.sz))) (x1.length - x3.toNat) (c5 - x3.toNat)), (26, .slice (some ⟨b, 0, none⟩) (x2.toNat + (x1.length - x3.toNat)) c5)] (by kernel_rfl) fun a hs hS => ?_
      refine d_done (by kernel_rfl) ?_
      refine c_seq ?_
      refine c_region ?_
      refine pures hs 4 [0, 27, 29, 30] [(0, .slice (some ⟨b, 0, none⟩) (x2.toNat + (x1.length - x3.toNat)) c5), (27, .slice (some ⟨b, 0, none⟩) (x2.toNat + (x1.length - x3.toNat)) c5), (29, .int .i64 (((x2.toNat + (x1.length - x3.toNat)) : Nat) : Int)), (30, .int .i64 ((x1.length : Nat) : Int))] (by kernel_rfl) fun a hs => ?_
      refine s_sliceX hs (by kernel_rfl) (by kernel_rfl) 106 (sz := 2) (p := (some ⟨b, 0, none⟩)) (len := (x2.toNat + (x1.length - x3.toNat))) (cap := c5) (by kernel_rfl) (by kernel_rfl) (by kernel_rfl) (l := (((x2.toNat + (x1.length - x3.toNat)) : Nat) : Int)) (h := (x1.length : Int)) (m := (c5 : Int)) (by kernel_rfl) (by kernel_rfl) (by kernel_rfl) (by omega) (by omega) (by omega) (Int.le_refl _) (v := .slice (if c5 = (x1.take x2.toNat ++ x1.drop x3.toNat).length then (some ⟨b, 0, none⟩ : Option Addr) else (some ⟨b, 0, none⟩ : Option Addr).map (·.add ((x1.take x2.toNat ++ x1.drop x3.toNat).length * e106.sz))) (x1.length - (x1.take x2.toNat ++ x1.drop x3.toNat).length) (c5 - (x1.take x2.toNat ++ x1.drop x3.toNat).length)) (by rw [hys]; rfl) fun a hs => ?_
      refine s_clearD hs hw appT102 (zB (by kernel_rfl)) 0 rfl ho (by kernel_rfl) (m := x1.length) (by have hne := h10; simp at hne; rw [hys]; omega) hxc (by kernel_rfl) fun a w cur3 ho hw hs => ?_
      refine s_end ?_
      refine c_seq ?_
      refine c_region ?_
      refine pures hs 2 [6] [(6, .slice (some ⟨b, 0, none⟩) (x2.toNat + (x1.length - x3.toNat)) c5)] (by kernel_rfl) fun a hs => ?_
      refine s_end ?_
      refine c_ret ?_
      refine hQ _ _ (f_ret1 hs rfl (v := .slice (some ⟨b, 0, none⟩) (x2.toNat + (x1.length - x3.toNat)) c5) (by kernel_rfl) ⟨some ⟨b, 0, none⟩, c5, _, by rw [hys], hw.pick [0, 1] (by kernel_rfl), ho⟩)
def bag_Bag_int_Take_r2 (y60 : Int × Bool) (x77 : List M106) : Option (Int × Bool × (List M106)) :=
  some (y60.1, y60.2, x77)
def bag_Bag_int_Take (x3 : Int) (x4 : Int) (x5 : List M106) (x11 : Int) : Option (Int × Bool × (List M106)) :=
  (bag_Bag_int_At x3 x4 x5 x11).bind fun y60 =>
  (if y60.2 = true then (
      (slices_Delete_bag_item_int_bag_item_int x5 x11 (IntKind.i64.wrap (x11 + 1))).bind fun y94 =>
      some y94)
    else some x5 : Option (List M106)).bind fun s101 => bag_Bag_int_Take_r2 y60 s101
theorem bag_Bag_int_Take_s {x3 : Int} {x4 : Int} {x5 : List M106} {x11 : Int} {b2 : Nat} {p6 : Option Addr} {c7 : Nat} {d9 : Ch} {r : Int × Bool × (List M106)} (hk : bag_Bag_int_Take x3 x4 x5 x11 = some r) {g w : World} {F : Ch} {ih : IH} (h8 : OSl e106 ih p6 c7 x5 d9) (hw : St g w [bx b2 [.int .i64 x3, .int .i64 x4, .slice p6 x5.length c7] 104, d9, F] ih) :
    CallsR Try.prog 27 #[.pointer (some ⟨b2, 0, none⟩), .int .i64 x11] w fun v w' => ∃ (p102 : Option Addr) (c103 : Nat) (d104 : Ch), v = .tuple #[.int .i64 r.1, .bool r.2.1] ∧ St g w' [bx b2 [.int .i64 x3, .int .i64 x4, .slice p102 r.2.2.length c103] 104, d104, F] ih ∧ OSl e106 ih p102 c103 r.2.2 d104 := by
  refine f_in (vs := [.pointer (some ⟨b2, 0, none⟩), .int .i64 x11]) Try.func27 rfl 28 rfl (by kernel_rfl) [(0, .pointer (some ⟨b2, 0, none⟩)), (1, .int .i64 x11)] (by kernel_rfl) fun a Qf hQ hQn hs => ?_
  refine c_seq ?_
  refine c_region ?_
  refine pures hs 2 [0, 1] [(0, .pointer (some ⟨b2, 0, none⟩)), (1, .int .i64 x11)] (by kernel_rfl) fun a hs => ?_
  refine s_end ?_
  refine c_seq ?_
  refine c_region ?_
  refine pures hs 2 [0, 1, 9, 10] [(0, .pointer (some ⟨b2, 0, none⟩)), (1, .int .i64 x11), (9, .pointer (some ⟨b2, 0, none⟩)), (10, .int .i64 x11)] (by kernel_rfl) fun a hs => ?_
  obtain ⟨y60, h61, hk⟩ := bindE hk
  refine s_call hs (by kernel_rfl) (by kernel_rfl) (bag_Bag_int_At_s h61 h8 ((hw.pick [0, 1, 2] (by kernel_rfl)).pack 2)) fun a w v hv hs => ?_
  obtain ⟨rfl, hw⟩ := hv
  replace hw := hw.unpack 2 rfl
  refine pures hs 5 [0, 1, 6, 7] [(0, .pointer (some ⟨b2, 0, none⟩)), (1, .int .i64 x11), (6, .int .i64 y60.1), (7, .bool y60.2)] (by kernel_rfl) fun a hs => ?_
  refine s_end ?_
  obtain ⟨y83, hx84, hk⟩ := bindE hk
  obtain ⟨J85, hJ85⟩ : ∃ J : Act → World → Prop, ∀ a w, J a w ↔ (∃ (x77 : List M106) (p78 : Option Addr) (c79 : Nat) (d81 : Ch), bag_Bag_int_Take_r2 y60 x77 = some r ∧ Sees a 28 [(6, .int .i64 y60.1), (7, .bool y60.2)] ∧ St g w [bx b2 [.int .i64 x3, .int .i64 x4, .slice p78 x77.length c79] 104, d81, F] ih ∧ OSl e106 ih p78 c79 x77 d81) := ⟨_, fun _ _ => Iff.rfl⟩
  refine c_seqJ J85 ?_ ?_
  · refine c_seq ?_
    refine c_region ?_
    refine pures hs 1 [0, 1, 6, 7, 14] [(0, .pointer (some ⟨b2, 0, none⟩)), (1, .int .i64 x11), (6, .int .i64 y60.1), (7, .bool y60.2), (14, .bool y60.2)] (by kernel_rfl) fun a hs => ?_
    refine s_end ?_
    rcases ifbE hx84 with ⟨h86, hx84⟩ | ⟨h86, hx84⟩
    · refine c_cond1 hs (by kernel_rfl) (t := y60.2) (by kernel_rfl) h86 ?_
      refine c_region ?_
      refine pures hs 4 [1, 6, 7, 15, 18] [(1, .int .i64 x11), (6, .int .i64 y60.1), (7, .bool y60.2), (15, .pointer (some ⟨b2, 0, none⟩)), (18, .pointer (some ⟨b2, 2, none⟩))] (by kernel_rfl) fun a hs => ?_
      refine s_load hs (hw.at_ 0 rfl) 2 (by kernel_rfl) (by kernel_rfl) (v := .slice p6 x5.length c7) (by kernel_rfl) fun a hs => ?_
      refine pures hs 3 [6, 7, 15, 19, 20, 22] [(6, .int .i64 y60.1), (7, .bool y60.2), (15, .pointer (some ⟨b2, 0, none⟩)), (19, .slice p6 x5.length c7), (20, .int .i64 x11), (22, .int .i64 (IntKind.i64.wrap (x11 + 1)))] (by kernel_rfl) fun a hs => ?_
      obtain ⟨y94, h95, hx84⟩ := bindE hx84
      refine s_call hs (by kernel_rfl) (by kernel_rfl) (slices_Delete_bag_item_int_bag_item_int_s h95 h8 ((hw.pick [1, 0, 2] (by kernel_rfl)).pack 1)) fun a w v hv hs => ?_
      obtain ⟨p96, c97, d99, rfl, hw, h98⟩ := hv
      replace hw := hw.unpack 1 rfl
      refine pures hs 2 [6, 7, 23, 25] [(6, .int .i64 y60.1), (7, .bool y60.2), (23, .slice p96 y94.length c97), (25, .pointer (some ⟨b2, 2, none⟩))] (by kernel_rfl) fun a hs => ?_
      refine s_store hs hw 1 rfl 2 (by kernel_rfl) (by kernel_rfl) (v := .slice p96 y94.length c97) (by kernel_rfl) (by kernel_rfl) (by kernel_rfl) (by kernel_rfl) fun a w hs hw => ?_
      refine s_end ?_
      obtain rfl := someE hx84
      exact (hJ85 _ _).2 ⟨y94, p96, c97, d99, hk, hs.cast [6, 7] (by kernel_rfl), hw.pick [1, 0, 2] (by kernel_rfl), h98⟩
    · refine c_cond0 hs (by kernel_rfl) (t := y60.2) (by kernel_rfl) h86 ?_
      refine c_skip ?_
      obtain rfl := someE hx84
      exact (hJ85 _ _).2 ⟨x5, p6, c7, d9, hk, hs.cast [6, 7] (by kernel_rfl), hw.pick [0, 1, 2] (by kernel_rfl), h8⟩
  · intro a w hh
    obtain ⟨x77, p78, c79, d81, hk, hs, hw, h80⟩ := (hJ85 _ _).1 hh
    refine c_seq ?_
    refine c_region ?_
    refine pures hs 4 [4, 5] [(4, .int .i64 y60.1), (5, .bool y60.2)] (by kernel_rfl) fun a hs => ?_
    refine s_end ?_
    refine c_ret ?_
    obtain rfl := someE hk
    refine hQ _ _ (f_retN hs [.tmp 4, .tmp 5] rfl [.int .i64 y60.1, .bool y60.2] (by kernel_rfl) (by kernel_rfl) ⟨p78, c79, d81, rfl, hw.pick [0, 1, 2] (by kernel_rfl), h80⟩)
def bag_Bag_int_All (x3 : Int) (x4 : Int) (x5 : List M106) : Option Unit :=
  some ()
theorem bag_Bag_int_All_s {x3 : Int} {x4 : Int} {x5 : List M106} {b2 : Nat} {p6 : Option Addr} {c7 : Nat} {d9 : Ch} {r : Unit} (hk : bag_Bag_int_All x3 x4 x5 = some r) {g w : World} {F : Ch} {ih : IH} (h8 : OSl e106 ih p6 c7 x5 d9) (hw : St g w [bx b2 [.int .i64 x3, .int .i64 x4, .slice p6 x5.length c7] 104, d9, F] ih) :
    CallsR Try.prog 26 #[.pointer (some ⟨b2, 0, none⟩)] w fun v w' => ∃ (b21 : Nat), v = .func (.func 74) #[] #[.pointer (some ⟨b21, 0, none⟩)] ∧ St g w' [bx b21 [.pointer (some ⟨b2, 0, none⟩)] 41, bx b2 [.int .i64 x3, .int .i64 x4, .slice p6 x5.length c7] 104, d9, F] ih := by
  refine f_in (vs := [.pointer (some ⟨b2, 0, none⟩)]) Try.func26 rfl 4 rfl (by kernel_rfl) [(0, .pointer (some ⟨b2, 0, none⟩))] (by kernel_rfl) fun a Qf hQ hQn hs => ?_
  refine c_seq ?_
  refine c_region ?_
  refine s_new hs hw [.pointer (some ⟨b2, 0, none⟩)] 41 (fun b => .pointer (some ⟨b, 0, none⟩)) (by kernel_rfl) (fun _ => by kernel_rfl) fun a w b19 hs hw => ?_
  refine pures hs 1 [1] [(1, .pointer (some ⟨b19, 0, none⟩))] (by kernel_rfl) fun a hs => ?_
  refine s_end ?_
  refine c_seq ?_
  refine c_region ?_
  refine pures hs 2 [2] [(2, .func (.func 74) #[] #[.pointer (some ⟨b19, 0, none⟩)])] (by kernel_rfl) fun a hs => ?_
  refine s_end ?_
  refine c_ret ?_
  obtain rfl := someE hk
  refine hQ _ _ (f_ret1 hs rfl (v := .func (.func 74) #[] #[.pointer (some ⟨b19, 0, none⟩)]) (by kernel_rfl) ⟨b19, rfl, hw.pick [0, 1, 2, 3] (by kernel_rfl)⟩)
def catenarylaw06_odd (x1 : Int) (x2 : Int) : Option Bool :=
  some ((x2.tmod 2) != 0)
theorem catenarylaw06_odd_s {x1 : Int} {x2 : Int} {r : Bool} (hk : catenarylaw06_odd x1 x2 = some r) {g w : World} {F : Ch} {ih : IH} (hw : St g w [F] ih) :
    CallsR Try.prog 52 #[.int .i64 x1, .int .i64 x2] w fun v w' => v = .bool r ∧ St g w' [F] ih := by
  refine f_in (vs := [.int .i64 x1, .int .i64 x2]) Try.func52 rfl 8 rfl (by kernel_rfl) [(0, .int .i64 x1), (1, .int .i64 x2)] (by kernel_rfl) fun a Qf hQ hQn hs => ?_
  refine c_seq ?_
  refine c_region ?_
  refine pures hs 1 [1] [(1, .int .i64 x2)] (by kernel_rfl) fun a hs => ?_
  refine s_end ?_
  refine c_seq ?_
  refine c_region ?_
  refine pures hs 4 [4] [(4, .bool ((x2.tmod 2) != 0))] (by kernel_rfl) fun a hs => ?_
  refine s_end ?_
  refine c_ret ?_
  obtain rfl := someE hk
  refine hQ _ _ (f_ret1 hs rfl (v := .bool ((x2.tmod 2) != 0)) (by kernel_rfl) ⟨rfl, hw.pick [0] (by kernel_rfl)⟩)
def bag_Bag_int_Keep_round (x50001 : Int) (x50002 : Int) (x50007 : List M106) : Option (Bool × (List M106)) :=
  (catenarylaw06_odd x50001 x50002).bind fun y50041 =>
  if y50041 = true then (
    (app x50007 [(M106.mk x50001 x50002)]).bind fun x50054 =>
    some (true, x50054))
  else some (true, x50007)
def bag_Bag_int_Keep_round_C (n50014 : Nat) (q50015 : Lp) (b50004 : Nat) (b50006 : Nat) : Prop := ∀ {x50001 : Int} {x50002 : Int} {x50007 : List M106} {p50008 : Option Addr} {c50009 : Nat} {d50011 : Ch} {r : Bool × (List M106)}, bag_Bag_int_Keep_round x50001 x50002 x50007 = some r → ∀ {g w : World} {F : Ch} {ih : IH}, (OSl e106 ih p50008 c50009 x50007 d50011) → St g w [bx b50004 [.func (.func 52) #[] #[]] 76, bx b50006 [.slice p50008 x50007.length c50009] 102, d50011, lpo n50014 q50015 [] 0, F] ih →
    RoundR Try.prog n50014 q50015 #[.int .i64 x50001, .int .i64 x50002] w fun v w' => ∃ (p50060 : Option Addr) (c50061 : Nat) (d50062 : Ch), v = .bool r.1 ∧ St g w' [bx b50004 [.func (.func 52) #[] #[]] 76, bx b50006 [.slice p50060 r.2.length c50061] 102, d50062, lpo n50014 q50015 [] 0, F] ih ∧ OSl e106 ih p50060 c50061 r.2 d50062
def slices_Clone_bag_item_int_bag_item_int (x1 : List M106) : Option (List M106) :=
  (app [] x1).bind fun x => some x
theorem slices_Clone_bag_item_int_bag_item_int_s {x1 : List M106} {p2 : Option Addr} {c3 : Nat} {d5 : Ch} {r : List M106} (hk : slices_Clone_bag_item_int_bag_item_int x1 = some r) {g w : World} {F : Ch} {ih : IH} (h4 : RSl e106 ih d5 p2 c3 x1) (h6 : ∀ q ∈ d5, q ∈ F) (hw : St g w [F] ih) :
    CallsR Try.prog 75 #[.slice p2 x1.length c3] w fun v w' => ∃ (p : Option Addr) (c : Nat) (d : Ch), v = .slice p r.length c ∧ St g w' [d, F] ih ∧ OSl e106 ih p c r d := by
  rcases p2 with _ | q
  · obtain ⟨_, rfl, rfl⟩ := h4
    replace hk : some [] = some r := hk
    refine f_in (vs := [.slice none 0 0]) Try.func75 rfl 8 rfl (by kernel_rfl) [(0, .slice none 0 0)] (by kernel_rfl) fun a Qf hQ hQn hs => ?_
    refine c_seq ?_
    refine c_region ?_
    refine pures hs 1 [0] [(0, .slice none 0 0)] (by kernel_rfl) fun a hs => ?_
    refine s_end ?_
    refine c_seq ?_
    refine c_seq ?_
    refine c_region ?_
    refine pures hs 2 [0, 4] [(0, .slice none 0 0), (4, .bool true)] (by kernel_rfl) fun a hs => ?_
    refine s_end ?_
    refine c_condT hs (by kernel_rfl) (by kernel_rfl) ?_
    refine c_seq ?_
    refine c_region ?_
    refine pures hs 1 [2] [(2, .slice none 0 0)] (by kernel_rfl) fun a hs => ?_
    refine s_end ?_
    refine c_ret ?_
    replace hw := hw.nil
    obtain rfl := someE hk
    refine hQ _ _ (f_ret1 hs rfl (v := .slice none 0 0) (by kernel_rfl) ⟨none, 0, ([]), rfl, hw.pick [0, 1] (by kernel_rfl), (OSl.nil _ _)⟩)
  · refine f_in (vs := [.slice (some q) x1.length c3]) Try.func75 rfl 8 rfl (by kernel_rfl) [(0, .slice (some q) x1.length c3)] (by kernel_rfl) fun a Qf hQ hQn hs => ?_
    refine c_seq ?_
    refine c_region ?_
    refine pures hs 1 [0] [(0, .slice (some q) x1.length c3)] (by kernel_rfl) fun a hs => ?_
    refine s_end ?_
    refine c_seq ?_
    refine c_seq ?_
    refine c_region ?_
    refine pures hs 2 [0, 4] [(0, .slice (some q) x1.length c3), (4, .bool false)] (by kernel_rfl) fun a hs => ?_
    refine s_end ?_
    refine c_condF hs (by kernel_rfl) (by kernel_rfl) ?_
    refine c_skip ?_
    refine c_seq ?_
    refine c_region ?_
    refine s_new hs hw [] 106 (fun b => .slice (some ⟨b, 0, none⟩) 0 0) (by kernel_rfl) (fun _ => by kernel_rfl) fun a w b18 hs hw => ?_
    refine pures hs 1 [5, 6] [(5, .slice (some ⟨b18, 0, none⟩) 0 0), (6, .slice (some q) x1.length c3)] (by kernel_rfl) fun a hs => ?_
    obtain ⟨x20, h21, hk⟩ := bindE hk
    refine s_appS hs hw (E := e106) appT102 0 rfl OSl.of0 (by kernel_rfl) (by kernel_rfl) (h4.mono (Le.refl _)) (((hw.vw 1 rfl).sub h6).anti (Le.refl _)) (by kernel_rfl) h21 fun a w p22 c23 d24 h25 hw hs => ?_
    refine pures hs 1 [2] [(2, .slice p22 x20.length c23)] (by kernel_rfl) fun a hs => ?_
    refine s_end ?_
    refine c_ret ?_
    obtain rfl := someE hk
    refine hQ _ _ (f_ret1 hs rfl (v := .slice p22 x20.length c23) (by kernel_rfl) ⟨p22, c23, d24, rfl, hw.pick [0, 1] (by kernel_rfl), h25⟩)
def bag_Bag_int_All_1_r3 (x312 : List M106) (x318 : Int) : Option ((List M106) × Int) :=
  some (x312, x318)
def bag_Bag_int_All_1_l4 (y199 : List M106) : Nat → Int → (List M106) → Int → Option (Sum ((List M106) × Int) ((List M106) × Int))
  | 0, _, _, _ => none
  | j + 1, x274, x275, x281 =>
    if (decide (x274 < (y199.length : Int))) = true then (
      (ix y199 x274).bind fun x331 =>
      if (x281 != 0) = true then none
      else (bag_Bag_int_Keep_round x331.f0 x331.f1 x275).bind fun y346 =>
      if (!y346.1) = true then some (.inl (y346.2, 0))
      else bag_Bag_int_All_1_l4 y199 j (IntKind.i64.wrap (x274 + 1)) y346.2 0)
    else some (.inr (x275, x281))
def bag_Bag_int_All_1 (k : Nat) (x5 : List M106) (x14 : Int) (x20 : Int) (x21 : Int) (x22 : List M106) : Option ((List M106) × Int) :=
  (slices_Clone_bag_item_int_bag_item_int x22).bind fun y199 =>
  (bag_Bag_int_All_1_l4 y199 k 0 x5 x14 : Option (Sum ((List M106) × Int) ((List M106) × Int))).bind fun
    | .inl z => some z
    | .inr s353 => bag_Bag_int_All_1_r3 s353.1 s353.2
theorem bag_Bag_int_All_1_s {k : Nat} {x5 : List M106} {x14 : Int} {x20 : Int} {x21 : Int} {x22 : List M106} {b2 : Nat} {b4 : Nat} {p6 : Option Addr} {c7 : Nat} {d9 : Ch} {n12 : Nat} {q13 : Lp} {b17 : Nat} {b19 : Nat} {p23 : Option Addr} {c24 : Nat} {d26 : Ch} {r : (List M106) × Int} (hk : bag_Bag_int_All_1 k x5 x14 x20 x21 x22 = some r) {g w : World} {F : Ch} {ih : IH} (h8 : OSl e106 ih p6 c7 x5 d9) (h15 : bag_Bag_int_Keep_round_C n12 q13 b2 b4) (h25 : OSl e106 ih p23 c24 x22 d26) (hw : St g w [bx b2 [.func (.func 52) #[] #[]] 76, bx b4 [.slice p6 x5.length c7] 102, d9, lpo n12 q13 [] x14, bx b17 [.pointer (some ⟨b19, 0, none⟩)] 41, bx b19 [.int .i64 x20, .int .i64 x21, .slice p23 x22.length c24] 104, d26, F] ih) :
    CallsR Try.prog 74 #[.func (.yield n12) #[] #[], .pointer (some ⟨b17, 0, none⟩)] w fun v w' => ∃ (p354 : Option Addr) (c355 : Nat) (d356 : Ch), v = .tuple #[] ∧ St g w' [bx b2 [.func (.func 52) #[] #[]] 76, bx b4 [.slice p354 r.1.length c355] 102, d356, lpo n12 q13 [] r.2, bx b17 [.pointer (some ⟨b19, 0, none⟩)] 41, bx b19 [.int .i64 x20, .int .i64 x21, .slice p23 x22.length c24] 104, d26, F] ih ∧ OSl e106 ih p354 c355 r.1 d356 := by
  refine f_in (vs := [.func (.yield n12) #[] #[], .pointer (some ⟨b17, 0, none⟩)]) Try.func74 rfl 25 rfl (by kernel_rfl) [(0, .func (.yield n12) #[] #[]), (1, .pointer (some ⟨b17, 0, none⟩))] (by kernel_rfl) fun a Qf hQ hQn hs => ?_
  refine c_seq ?_
  refine c_seq ?_
  refine c_region ?_
  refine s_load hs (hw.at_ 4 rfl) 0 (by kernel_rfl) (by kernel_rfl) (v := .pointer (some ⟨b19, 0, none⟩)) (by kernel_rfl) fun a hs => ?_
  refine pures hs 1 [0, 1, 6] [(0, .func (.yield n12) #[] #[]), (1, .pointer (some ⟨b17, 0, none⟩)), (6, .bool false)] (by kernel_rfl) fun a hs => ?_
  refine s_end ?_
  refine c_condF hs (by kernel_rfl) (by kernel_rfl) ?_
  refine c_skip ?_
  refine c_seq ?_
  refine c_region ?_
  refine s_load hs (hw.at_ 4 rfl) 0 (by kernel_rfl) (by kernel_rfl) (v := .pointer (some ⟨b19, 0, none⟩)) (by kernel_rfl) fun a hs => ?_
  refine pures hs 2 [0, 9] [(0, .func (.yield n12) #[] #[]), (9, .pointer (some ⟨b19, 2, none⟩))] (by kernel_rfl) fun a hs => ?_
  refine s_load hs (hw.at_ 5 rfl) 2 (by kernel_rfl) (by kernel_rfl) (v := .slice p23 x22.length c24) (by kernel_rfl) fun a hs => ?_
  obtain ⟨y199, h200, hk⟩ := bindE hk
  refine s_call hs (by kernel_rfl) (by kernel_rfl) (slices_Clone_bag_item_int_bag_item_int_s h200 h25.read (memF 6 rfl) ((hw.pick [0, 1, 2, 3, 4, 5, 6, 7] (by kernel_rfl)).pack 0)) fun a w v hv hs => ?_
  obtain ⟨p201, c202, d204, rfl, hw, h203⟩ := hv
  replace hw := hw.unpack 1 rfl
  refine pures hs 2 [0, 11, 12, 13] [(0, .func (.yield n12) #[] #[]), (11, .slice p201 y199.length c202), (12, .int .i64 (y199.length : Int)), (13, .int .i64 0)] (by kernel_rfl) fun a hs => ?_
  refine s_end ?_
  refine c_block ?_
  obtain ⟨y319, hx320, hk⟩ := bindE hk
  obtain ⟨J321, hJ321⟩ : ∃ J : Act → World → Prop, ∀ a w, J a w ↔ (∃ (x312 : List M106) (x318 : Int) (p313 : Option Addr) (c314 : Nat) (d316 : Ch), bag_Bag_int_All_1_r3 x312 x318 = some r ∧ Sees a 25 [] ∧ St g w [bx b2 [.func (.func 52) #[] #[]] 76, bx b4 [.slice p313 x312.length c314] 102, lpo n12 q13 [] x318, bx b17 [.pointer (some ⟨b19, 0, none⟩)] 41, bx b19 [.int .i64 x20, .int .i64 x21, .slice p23 x22.length c24] 104, d316, d26, F] ih ∧ OSl e106 ih p313 c314 x312 d316) := ⟨_, fun _ _ => Iff.rfl⟩
  obtain ⟨I322, hI322⟩ : ∃ J : Nat → Act → World → Prop, ∀ j a w, J j a w ↔ (∃ (x274 : Int) (x275 : List M106) (x281 : Int) (p276 : Option Addr) (c277 : Nat) (d279 : Ch), bag_Bag_int_All_1_l4 y199 j x274 x275 x281 = some y319 ∧ Sees a 25 [(0, .func (.yield n12) #[] #[]), (11, .slice p201 y199.length c202), (12, .int .i64 (y199.length : Int)), (13, .int .i64 x274)] ∧ St g w [bx b2 [.func (.func 52) #[] #[]] 76, bx b4 [.slice p276 x275.length c277] 102, lpo n12 q13 [] x281, bx b17 [.pointer (some ⟨b19, 0, none⟩)] 41, bx b19 [.int .i64 x20, .int .i64 x21, .slice p23 x22.length c24] 104, d204, d279, d26, F] ih ∧ OSl e106 ih p276 c277 x275 d279) := ⟨_, fun _ _ _ => Iff.rfl⟩
  refine c_exitJ 0 J321 ?_ ?_
  · refine c_loop I322 k ((hI322 _ _ _).2 ⟨0, x5, x14, p6, c7, d9, hx320, hs.cast [0, 11, 12, 13] (by kernel_rfl), hw.pick [1, 2, 4, 5, 6, 0, 3, 7, 8] (by kernel_rfl), h8⟩) (fun a w h0 => ?_) fun j a w hh => ?_
    · obtain ⟨_, _, _, _, _, _, h, _⟩ := (hI322 _ _ _).1 h0
      cases h
    · obtain ⟨x274, x275, x281, p276, c277, d279, hx320, hs, hw, h278⟩ := (hI322 _ _ _).1 hh
      refine c_seq ?_
      refine c_region ?_
      refine pures hs 1 [0, 11, 12, 13, 14] [(0, .func (.yield n12) #[] #[]), (11, .slice p201 y199.length c202), (12, .int .i64 (y199.length : Int)), (13, .int .i64 x274), (14, .bool (decide (x274 < (y199.length : Int))))] (by kernel_rfl) fun a hs => ?_
      refine s_end ?_
      refine c_seq ?_
      rcases ifbE hx320 with ⟨h323, hx320⟩ | ⟨h323, hx320⟩
      · refine c_cond1 hs (by kernel_rfl) (t := (decide (x274 < (y199.length : Int)))) (by kernel_rfl) h323 ?_
        refine c_skip ?_
        refine c_seq ?_
        refine c_block ?_
        refine c_seq ?_
        refine c_region ?_
        obtain ⟨x331, h332, hx320⟩ := bindE hx320
        refine s_indexO hs h203 (by kernel_rfl) (by kernel_rfl) (k := .i64) (by kernel_rfl) 106 (by kernel_rfl) (by kernel_rfl) h332 fun a r333 cs henc at334 h335 hs => ?_
        obtain rfl := henc
        refine s_load hs (at334 _ ((hw.vw 5 rfl).anti (Le.refl _))) 0 (by kernel_rfl) (by kernel_rfl) (v := .agg #[.int .i64 x331.f0, .int .i64 x331.f1]) (by kernel_rfl) fun a hs => ?_
        refine s_new hs hw [.int .i64 0, .int .i64 0] 106 (fun b => .pointer (some ⟨b, 0, none⟩)) (by kernel_rfl) (fun _ => by kernel_rfl) fun a w b336 hs hw => ?_
        refine s_store hs hw 0 rfl 0 (by kernel_rfl) (by kernel_rfl) (v := .agg #[.int .i64 x331.f0, .int .i64 x331.f1]) (by kernel_rfl) (by kernel_rfl) (by kernel_rfl) (by kernel_rfl) fun a w hs hw => ?_
        refine s_end ?_
        refine c_seq ?_
        refine c_region ?_
        refine pures hs 2 [0, 11, 12, 13, 4, 17, 18] [(0, .func (.yield n12) #[] #[]), (11, .slice p201 y199.length c202), (12, .int .i64 (y199.length : Int)), (13, .int .i64 x274), (4, .pointer (some ⟨b336, 0, none⟩)), (17, .func (.yield n12) #[] #[]), (18, .pointer (some ⟨b336, 0, none⟩))] (by kernel_rfl) fun a hs => ?_
        refine s_load hs (hw.at_ 0 rfl) 0 (by kernel_rfl) (by kernel_rfl) (v := .int .i64 x331.f0) (by kernel_rfl) fun a hs => ?_
        refine pures hs 1 [0, 11, 12, 13, 17, 19, 20] [(0, .func (.yield n12) #[] #[]), (11, .slice p201 y199.length c202), (12, .int .i64 (y199.length : Int)), (13, .int .i64 x274), (17, .func (.yield n12) #[] #[]), (19, .int .i64 x331.f0), (20, .pointer (some ⟨b336, 1, none⟩))] (by kernel_rfl) fun a hs => ?_
        refine s_load hs (hw.at_ 0 rfl) 1 (by kernel_rfl) (by kernel_rfl) (v := .int .i64 x331.f1) (by kernel_rfl) fun a hs => ?_
        rcases ifbE hx320 with ⟨h345, hx320⟩ | ⟨h345, hx320⟩
        · cases hx320
        · rw [show x281 = 0 by simpa using h345] at hw
          obtain ⟨y346, h347, hx320⟩ := bindE hx320
          refine s_round hs (by kernel_rfl) (by kernel_rfl) hw 3 rfl (args := #[.int .i64 x331.f0, .int .i64 x331.f1]) (by kernel_rfl) (h15 h347 h278 ((hw.pick [1, 2, 7, 3, 4, 5, 6, 8, 9] (by kernel_rfl)).pack 4)) fun a w v hv hs => ?_
          obtain ⟨p348, c349, d351, rfl, hw, h350⟩ := hv
          replace hw := hw.unpack 4 rfl
          refine pures hs 1 [0, 11, 12, 13, 23] [(0, .func (.yield n12) #[] #[]), (11, .slice p201 y199.length c202), (12, .int .i64 (y199.length : Int)), (13, .int .i64 x274), (23, .bool (!y346.1))] (by kernel_rfl) fun a hs => ?_
          refine s_end ?_
          rcases ifbE hx320 with ⟨h352, hx320⟩ | ⟨h352, hx320⟩
          · refine c_cond1 hs (by kernel_rfl) (t := (!y346.1)) (by kernel_rfl) h352 ?_
            refine c_ret ?_
            obtain rfl := someE hx320
            obtain rfl := someE hk
            refine hQ _ _ (f_retN hs [] rfl [] (by kernel_rfl) (by kernel_rfl) ⟨p348, c349, d351, rfl, hw.pick [0, 1, 2, 3, 4, 5, 7, 8] (by kernel_rfl), h350⟩)
          · refine c_cond0 hs (by kernel_rfl) (t := (!y346.1)) (by kernel_rfl) h352 ?_
            refine c_skip ?_
            refine c_region ?_
            refine pures hs 2 [0, 11, 12, 13] [(0, .func (.yield n12) #[] #[]), (11, .slice p201 y199.length c202), (12, .int .i64 (y199.length : Int)), (13, .int .i64 (IntKind.i64.wrap (x274 + 1)))] (by kernel_rfl) fun a hs => ?_
            refine s_end ?_
            exact (hI322 _ _ _).2 ⟨(IntKind.i64.wrap (x274 + 1)), y346.2, 0, p348, c349, d351, hx320, hs.cast [0, 11, 12, 13] (by kernel_rfl), hw.pick [0, 1, 3, 4, 5, 6, 2, 7, 8] (by kernel_rfl), h350⟩
      · refine c_cond0 hs (by kernel_rfl) (t := (decide (x274 < (y199.length : Int)))) (by kernel_rfl) h323 ?_
        refine c_exit ?_
        obtain rfl := someE hx320
        exact (hJ321 _ _).2 ⟨x275, x281, p276, c277, d279, hk, hs.cast [] (by kernel_rfl), hw.pick [0, 1, 2, 3, 4, 6, 7, 8] (by kernel_rfl), h278⟩
  · intro a w hh
    obtain ⟨x312, x318, p313, c314, d316, hk, hs, hw, h315⟩ := (hJ321 _ _).1 hh
    obtain rfl := someE hk
    refine hQn _ _ (f_retN hs [] rfl [] (by kernel_rfl) (by kernel_rfl) ⟨p313, c314, d316, rfl, hw.pick [0, 1, 5, 2, 3, 4, 6, 7] (by kernel_rfl), h315⟩)
def bag_Bag_int_Keep (k : Nat) (x3 : Int) (x4 : Int) (x5 : List M106) : Option (Int × (List M106)) :=
  (bag_Bag_int_All x3 x4 x5).bind fun _ =>
  (bag_Bag_int_All_1 k ([]) 0 x3 x4 x5).bind fun y66 =>
  if (y66.2 == 0) = true then some (IntKind.i64.wrap ((x5.length : Int) - (y66.1.length : Int)), y66.1)
  else none
theorem bag_Bag_int_Keep_s {k : Nat} {x3 : Int} {x4 : Int} {x5 : List M106} {b2 : Nat} {p6 : Option Addr} {c7 : Nat} {d9 : Ch} {r : Int × (List M106)} (hk : bag_Bag_int_Keep k x3 x4 x5 = some r) {g w : World} {F : Ch} {ih : IH} (h8 : OSl e106 ih p6 c7 x5 d9) (hw : St g w [bx b2 [.int .i64 x3, .int .i64 x4, .slice p6 x5.length c7] 104, d9, F] ih) :
    CallsR Try.prog 51 #[.pointer (some ⟨b2, 0, none⟩), .func (.func 52) #[] #[]] w fun v w' => ∃ (p73 : Option Addr) (c74 : Nat) (d75 : Ch), v = .int .i64 r.1 ∧ St g w' [bx b2 [.int .i64 x3, .int .i64 x4, .slice p73 r.2.length c74] 104, d75, F] ih ∧ OSl e106 ih p73 c74 r.2 d75 := by
  refine f_inM (vs := [.pointer (some ⟨b2, 0, none⟩), .func (.func 52) #[] #[]]) Try.func51 rfl 38 rfl (by kernel_rfl) [(0, .pointer (some ⟨b2, 0, none⟩)), (1, .func (.func 52) #[] #[])] (by kernel_rfl) fun a Qf hQ hQn hs => ?_
  refine c_seq ?_
  refine c_region ?_
  refine s_new hs hw [.func (.func 52) #[] #[]] 76 (fun b => .pointer (some ⟨b, 0, none⟩)) (by kernel_rfl) (fun _ => by kernel_rfl) fun a w b45 hs hw => ?_
  refine pures hs 1 [0, 3] [(0, .pointer (some ⟨b2, 0, none⟩)), (3, .pointer (some ⟨b45, 0, none⟩))] (by kernel_rfl) fun a hs => ?_
  refine s_end ?_
  refine c_seq ?_
  refine c_seq ?_
  refine c_region ?_
  refine pures hs 2 [0, 3, 10] [(0, .pointer (some ⟨b2, 0, none⟩)), (3, .pointer (some ⟨b45, 0, none⟩)), (10, .bool false)] (by kernel_rfl) fun a hs => ?_
  refine s_end ?_
  refine c_condF hs (by kernel_rfl) (by kernel_rfl) ?_
  refine c_skip ?_
  refine c_seq ?_
  refine c_region ?_
  refine pures hs 3 [0, 3, 13] [(0, .pointer (some ⟨b2, 0, none⟩)), (3, .pointer (some ⟨b45, 0, none⟩)), (13, .pointer (some ⟨b2, 2, none⟩))] (by kernel_rfl) fun a hs => ?_
  refine s_load hs (hw.at_ 1 rfl) 2 (by kernel_rfl) (by kernel_rfl) (v := .slice p6 x5.length c7) (by kernel_rfl) fun a hs => ?_
  refine pures hs 2 [0, 3, 5] [(0, .pointer (some ⟨b2, 0, none⟩)), (3, .pointer (some ⟨b45, 0, none⟩)), (5, .int .i64 (x5.length : Int))] (by kernel_rfl) fun a hs => ?_
  refine s_end ?_
  refine c_seq ?_
  refine c_region ?_
  refine s_new hs hw [.slice none 0 0] 102 (fun b => .pointer (some ⟨b, 0, none⟩)) (by kernel_rfl) (fun _ => by kernel_rfl) fun a w b49 hs hw => ?_
  refine s_end ?_
  refine c_seq ?_
  refine c_seq ?_
  refine c_region ?_
  refine pures hs 1 [0, 3, 5, 6, 16] [(0, .pointer (some ⟨b2, 0, none⟩)), (3, .pointer (some ⟨b45, 0, none⟩)), (5, .int .i64 (x5.length : Int)), (6, .pointer (some ⟨b49, 0, none⟩)), (16, .pointer (some ⟨b2, 0, none⟩))] (by kernel_rfl) fun a hs => ?_
  obtain ⟨y55, h56, hk⟩ := bindE hk
  refine s_call hs (by kernel_rfl) (by kernel_rfl) (bag_Bag_int_All_s h56 h8 ((hw.pick [2, 3, 0, 1, 4] (by kernel_rfl)).pack 2)) fun a w v hv hs => ?_
  obtain ⟨b57, rfl, hw⟩ := hv
  replace hw := hw.unpack 3 rfl
  refine s_end ?_
  refine c_block ?_
  replace hw := hw.nil
  obtain ⟨y66, h67, hk⟩ := bindE hk
  refine c_range hs (by kernel_rfl) (gf := 74) (cap := #[.pointer (some ⟨b57, 0, none⟩)]) (by kernel_rfl) (fun l => #[.func (.yield l) #[] #[], .pointer (some ⟨b57, 0, none⟩)]) (fun _ => rfl) (fun _ _ => rfl) hw [] ?_
  intro n62 q63 w ht hps hasg hbdy hw
  refine have_then (p := bag_Bag_int_Keep_round_C n62 q63 b45 b49) ?_ fun h65 => ?_
  · intro x50001 x50002 x50007 p50008 c50009 d50011 r hk g w F ih h50010 hw
    refine f_round hs ht [18, 19] hps (by kernel_rfl) (by kernel_rfl) [18, 19, 3, 6] (e := [(18, .int .i64 x50001), (19, .int .i64 x50002), (3, .pointer (some ⟨b45, 0, none⟩)), (6, .pointer (some ⟨b49, 0, none⟩))]) (by kernel_rfl) hw 3 rfl fun a Qr hQr hs => ?_
    rw [hasg, hbdy]
    refine c_seq ?_
    refine c_region ?_
    refine pures hs 1 [19, 3, 6, 7] [(19, .int .i64 x50002), (3, .pointer (some ⟨b45, 0, none⟩)), (6, .pointer (some ⟨b49, 0, none⟩)), (7, .int .i64 x50001)] (by kernel_rfl) fun a hs => ?_
    refine s_end ?_
    refine c_region ?_
    refine pures hs 1 [3, 6, 7, 8] [(3, .pointer (some ⟨b45, 0, none⟩)), (6, .pointer (some ⟨b49, 0, none⟩)), (7, .int .i64 x50001), (8, .int .i64 x50002)] (by kernel_rfl) fun a hs => ?_
    refine s_end ?_
    refine begin_round hw 3 rfl fun w hw => ?_
    refine c_block ?_
    refine c_seq ?_
    refine c_region ?_
    refine s_load hs (hw.at_ 0 rfl) 0 (by kernel_rfl) (by kernel_rfl) (v := .func (.func 52) #[] #[]) (by kernel_rfl) fun a hs => ?_
    refine pures hs 2 [6, 7, 8, 20, 21, 22] [(6, .pointer (some ⟨b49, 0, none⟩)), (7, .int .i64 x50001), (8, .int .i64 x50002), (20, .func (.func 52) #[] #[]), (21, .int .i64 x50001), (22, .int .i64 x50002)] (by kernel_rfl) fun a hs => ?_
    obtain ⟨y50041, h50042, hk⟩ := bindE hk
    refine s_call hs (by kernel_rfl) (by kernel_rfl) (catenarylaw06_odd_s h50042 ((hw.pick [0, 1, 2, 3, 4] (by kernel_rfl)).pack 0)) fun a w v hv hs => ?_
    obtain ⟨rfl, hw⟩ := hv
    replace hw := hw.unpack 0 rfl
    refine s_end ?_
    rcases ifbE hk with ⟨h50043, hk⟩ | ⟨h50043, hk⟩
    · refine c_cond1 hs (by kernel_rfl) (t := y50041) (by kernel_rfl) h50043 ?_
      refine c_region ?_
      refine s_load hs (hw.at_ 1 rfl) 0 (by kernel_rfl) (by kernel_rfl) (v := .slice p50008 x50007.length c50009) (by kernel_rfl) fun a hs => ?_
      refine pures hs 3 [6, 24, 27] [(6, .pointer (some ⟨b49, 0, none⟩)), (24, .slice p50008 x50007.length c50009), (27, .agg #[.int .i64 x50001, .int .i64 x50002])] (by kernel_rfl) fun a hs => ?_
      refine s_new hs hw [.int .i64 x50001, .int .i64 x50002] 106 (fun b => .slice (some ⟨b, 0, none⟩) 1 1) (by kernel_rfl) (fun _ => by kernel_rfl) fun a w b50052 hs hw => ?_
      obtain ⟨x50054, h50055, hk⟩ := bindE hk
      refine s_app1 hs hw (E := e106) appT102 3 rfl h50010 (by kernel_rfl) (by kernel_rfl) (c2 := 1) (by kernel_rfl) (hw.at_ 0 rfl) (z := (M106.mk x50001 x50002)) rfl h50055 fun a w p50056 c50057 d50058 h50059 hw hs => ?_
      refine s_store hs hw 2 rfl 0 (by kernel_rfl) (by kernel_rfl) (v := .slice p50056 x50054.length c50057) (by kernel_rfl) (by kernel_rfl) (by kernel_rfl) (by kernel_rfl) fun a w hs hw => ?_
      refine s_end ?_
      obtain rfl := someE hk
      exact hQr _ _ _ (end_round [] hw 4 rfl fun w hw => ⟨p50056, c50057, d50058, rfl, hw.pick [1, 2, 3, 4, 5] (by kernel_rfl), h50059⟩)
    · refine c_cond0 hs (by kernel_rfl) (t := y50041) (by kernel_rfl) h50043 ?_
      refine c_skip ?_
      obtain rfl := someE hk
      exact hQr _ _ _ (end_round [] hw 3 rfl fun w hw => ⟨p50008, c50009, d50011, rfl, hw.pick [0, 1, 2, 3, 4] (by kernel_rfl), h50010⟩)
  · refine CallsR.mono (bag_Bag_int_All_1_s h67 (OSl.nil _ _) h65 h8 ((hw.pick [7, 6, 2, 0, 3, 4, 5, 1, 8] (by kernel_rfl)).pack 7)) fun v w hv => ?_
    obtain ⟨p68, c69, d71, rfl, hw, h70⟩ := hv
    replace hw := hw.unpack 7 rfl
    refine ⟨y66.2, [bx b45 [.func (.func 52) #[] #[]] 76, bx b49 [.slice p68 y66.1.length c69] 102, d71, lpo n62 q63 [] y66.2, bx b57 [.pointer (some ⟨b2, 0, none⟩)] 41, bx b2 [.int .i64 x3, .int .i64 x4, .slice p6 x5.length c7] 104, d9, dfo q63.df, F], ih, 3, hw, rfl, fun a w hs hw => ?_⟩
    replace hw := hw.pick [0, 1, 2, 4, 5, 6, 7, 8] (by kernel_rfl)
    rcases ifbE hk with ⟨h72, hk⟩ | ⟨h72, hk⟩
    · refine range_none h72 ?_
      refine c_seq ?_
      refine c_region ?_
      refine pures hs 1 [5, 6, 30] [(5, .int .i64 (x5.length : Int)), (6, .pointer (some ⟨b49, 0, none⟩)), (30, .pointer (some ⟨b2, 0, none⟩))] (by kernel_rfl) fun a hs => ?_
      refine s_load hs (hw.at_ 1 rfl) 0 (by kernel_rfl) (by kernel_rfl) (v := .slice p68 y66.1.length c69) (by kernel_rfl) fun a hs => ?_
      refine pures hs 2 [5, 6, 31, 33] [(5, .int .i64 (x5.length : Int)), (6, .pointer (some ⟨b49, 0, none⟩)), (31, .slice p68 y66.1.length c69), (33, .pointer (some ⟨b2, 2, none⟩))] (by kernel_rfl) fun a hs => ?_
      refine s_store hs hw 4 rfl 2 (by kernel_rfl) (by kernel_rfl) (v := .slice p68 y66.1.length c69) (by kernel_rfl) (by kernel_rfl) (by kernel_rfl) (by kernel_rfl) fun a w hs hw => ?_
      refine s_end ?_
      refine c_seq ?_
      refine c_region ?_
      refine pures hs 1 [6, 34] [(6, .pointer (some ⟨b49, 0, none⟩)), (34, .int .i64 (x5.length : Int))] (by kernel_rfl) fun a hs => ?_
      refine s_load hs (hw.at_ 1 rfl) 0 (by kernel_rfl) (by kernel_rfl) (v := .slice p68 y66.1.length c69) (by kernel_rfl) fun a hs => ?_
      refine pures hs 3 [4] [(4, .int .i64 (IntKind.i64.wrap ((x5.length : Int) - (y66.1.length : Int))))] (by kernel_rfl) fun a hs => ?_
      refine s_end ?_
      refine c_ret ?_
      obtain rfl := someE hk
      refine hQ _ _ (f_retM hs hw 6 rfl fun a w hs hw => (f_ret1 hs rfl (v := .int .i64 (IntKind.i64.wrap ((x5.length : Int) - (y66.1.length : Int)))) (by kernel_rfl) ⟨p68, c69, d71, rfl, hw.pick [4, 2, 7] (by kernel_rfl), h70⟩))
    · cases hk
def bag_Bag_int_Len (x3 : Int) (x4 : Int) (x5 : List M106) : Option Int :=
  some (x5.length : Int)
theorem bag_Bag_int_Len_s {x3 : Int} {x4 : Int} {x5 : List M106} {b2 : Nat} {p6 : Option Addr} {c7 : Nat} {d9 : Ch} {r : Int} (hk : bag_Bag_int_Len x3 x4 x5 = some r) {g w : World} {F : Ch} {ih : IH} (h8 : OSl e106 ih p6 c7 x5 d9) (hw : St g w [bx b2 [.int .i64 x3, .int .i64 x4, .slice p6 x5.length c7] 104, d9, F] ih) :
    CallsR Try.prog 28 #[.pointer (some ⟨b2, 0, none⟩)] w fun v w' => v = .int .i64 r ∧ St g w' [bx b2 [.int .i64 x3, .int .i64 x4, .slice p6 x5.length c7] 104, d9, F] ih := by
  refine f_in (vs := [.pointer (some ⟨b2, 0, none⟩)]) Try.func28 rfl 10 rfl (by kernel_rfl) [(0, .pointer (some ⟨b2, 0, none⟩))] (by kernel_rfl) fun a Qf hQ hQn hs => ?_
  refine c_seq ?_
  refine c_region ?_
  refine pures hs 1 [0] [(0, .pointer (some ⟨b2, 0, none⟩))] (by kernel_rfl) fun a hs => ?_
  refine s_end ?_
  refine c_seq ?_
  refine c_seq ?_
  refine c_region ?_
  refine pures hs 2 [0, 4] [(0, .pointer (some ⟨b2, 0, none⟩)), (4, .bool false)] (by kernel_rfl) fun a hs => ?_
  refine s_end ?_
  refine c_condF hs (by kernel_rfl) (by kernel_rfl) ?_
  refine c_skip ?_
  refine c_seq ?_
  refine c_region ?_
  refine pures hs 3 [7] [(7, .pointer (some ⟨b2, 2, none⟩))] (by kernel_rfl) fun a hs => ?_
  refine s_load hs (hw.at_ 0 rfl) 2 (by kernel_rfl) (by kernel_rfl) (v := .slice p6 x5.length c7) (by kernel_rfl) fun a hs => ?_
  refine pures hs 2 [2] [(2, .int .i64 (x5.length : Int))] (by kernel_rfl) fun a hs => ?_
  refine s_end ?_
  refine c_ret ?_
  obtain rfl := someE hk
  refine hQ _ _ (f_ret1 hs rfl (v := .int .i64 (x5.length : Int)) (by kernel_rfl) ⟨rfl, hw.pick [0, 1, 2] (by kernel_rfl)⟩)
def bag_Bag_int_No (x3 : Int) (x4 : Int) (x5 : List M106) (x11 : Int) : Option Int :=
  (bag_Bag_int_has x3 x4 x5 x11).bind fun y31 =>
  if (!y31) = true then some 0
  else (ix x5 x11).bind fun x39 =>
  some x39.f0
theorem bag_Bag_int_No_s {x3 : Int} {x4 : Int} {x5 : List M106} {x11 : Int} {b2 : Nat} {p6 : Option Addr} {c7 : Nat} {d9 : Ch} {r : Int} (hk : bag_Bag_int_No x3 x4 x5 x11 = some r) {g w : World} {F : Ch} {ih : IH} (h8 : OSl e106 ih p6 c7 x5 d9) (hw : St g w [bx b2 [.int .i64 x3, .int .i64 x4, .slice p6 x5.length c7] 104, d9, F] ih) :
    CallsR Try.prog 53 #[.pointer (some ⟨b2, 0, none⟩), .int .i64 x11] w fun v w' => v = .int .i64 r ∧ St g w' [bx b2 [.int .i64 x3, .int .i64 x4, .slice p6 x5.length c7] 104, d9, F] ih := by
  refine f_in (vs := [.pointer (some ⟨b2, 0, none⟩), .int .i64 x11]) Try.func53 rfl 17 rfl (by kernel_rfl) [(0, .pointer (some ⟨b2, 0, none⟩)), (1, .int .i64 x11)] (by kernel_rfl) fun a Qf hQ hQn hs => ?_
  refine c_seq ?_
  refine c_region ?_
  refine pures hs 1 [0, 1] [(0, .pointer (some ⟨b2, 0, none⟩)), (1, .int .i64 x11)] (by kernel_rfl) fun a hs => ?_
  refine s_end ?_
  refine c_seq ?_
  refine c_seq ?_
  refine c_region ?_
  refine pures hs 2 [0, 1, 5, 6] [(0, .pointer (some ⟨b2, 0, none⟩)), (1, .int .i64 x11), (5, .pointer (some ⟨b2, 0, none⟩)), (6, .int .i64 x11)] (by kernel_rfl) fun a hs => ?_
  obtain ⟨y31, h32, hk⟩ := bindE hk
  refine s_call hs (by kernel_rfl) (by kernel_rfl) (bag_Bag_int_has_s h32 h8 ((hw.pick [0, 1, 2] (by kernel_rfl)).pack 2)) fun a w v hv hs => ?_
  obtain ⟨rfl, hw⟩ := hv
  replace hw := hw.unpack 2 rfl
  refine pures hs 1 [0, 1, 8] [(0, .pointer (some ⟨b2, 0, none⟩)), (1, .int .i64 x11), (8, .bool (!y31))] (by kernel_rfl) fun a hs => ?_
  refine s_end ?_
  rcases ifbE hk with ⟨h33, hk⟩ | ⟨h33, hk⟩
  · refine c_cond1 hs (by kernel_rfl) (t := (!y31)) (by kernel_rfl) h33 ?_
    refine c_seq ?_
    refine c_region ?_
    refine pures hs 1 [4] [(4, .int .i64 0)] (by kernel_rfl) fun a hs => ?_
    refine s_end ?_
    refine c_ret ?_
    obtain rfl := someE hk
    refine hQ _ _ (f_ret1 hs rfl (v := .int .i64 0) (by kernel_rfl) ⟨rfl, hw.pick [0, 1, 2] (by kernel_rfl)⟩)
  · refine c_cond0 hs (by kernel_rfl) (t := (!y31)) (by kernel_rfl) h33 ?_
    refine c_skip ?_
    refine c_seq ?_
    refine c_region ?_
    refine pures hs 3 [1, 11] [(1, .int .i64 x11), (11, .pointer (some ⟨b2, 2, none⟩))] (by kernel_rfl) fun a hs => ?_
    refine s_load hs (hw.at_ 0 rfl) 2 (by kernel_rfl) (by kernel_rfl) (v := .slice p6 x5.length c7) (by kernel_rfl) fun a hs => ?_
    refine pures hs 1 [12, 13] [(12, .slice p6 x5.length c7), (13, .int .i64 x11)] (by kernel_rfl) fun a hs => ?_
    obtain ⟨x39, h40, hk⟩ := bindE hk
    refine s_indexO hs h8 (by kernel_rfl) (by kernel_rfl) (k := .i64) (by kernel_rfl) 106 (by kernel_rfl) (by kernel_rfl) h40 fun a r41 cs henc at42 h43 hs => ?_
    obtain rfl := henc
    refine pures hs 1 [15] [(15, .pointer (some r41))] (by kernel_rfl) fun a hs => ?_
    refine s_load hs (at42 _ ((hw.vw 1 rfl).anti (Le.refl _))) 0 (by kernel_rfl) (by kernel_rfl) (v := .int .i64 x39.f0) (by kernel_rfl) fun a hs => ?_
    refine pures hs 1 [4] [(4, .int .i64 x39.f0)] (by kernel_rfl) fun a hs => ?_
    refine s_end ?_
    refine c_ret ?_
    obtain rfl := someE hk
    refine hQ _ _ (f_ret1 hs rfl (v := .int .i64 x39.f0) (by kernel_rfl) ⟨rfl, hw.pick [0, 1, 2] (by kernel_rfl)⟩)
def bag_Bag_int_Upto_1 (x1 : M106) (x2 : Int) : Option Int :=
  some (IntKind.i64.wrap (x1.f0 - (if 0 > x2 then 0 else x2)))
theorem bag_Bag_int_Upto_1_s {x1 : M106} {x2 : Int} {r : Int} (hk : bag_Bag_int_Upto_1 x1 x2 = some r) {g w : World} {F : Ch} {ih : IH} (hw : St g w [F] ih) :
    CallsR Try.prog 91 #[.agg #[.int .i64 x1.f0, .int .i64 x1.f1], .int .i64 x2] w fun v w' => v = .int .i64 r ∧ St g w' [F] ih := by
  refine f_in (vs := [.agg #[.int .i64 x1.f0, .int .i64 x1.f1], .int .i64 x2]) Try.func91 rfl 10 rfl (by kernel_rfl) [(0, .agg #[.int .i64 x1.f0, .int .i64 x1.f1]), (1, .int .i64 x2)] (by kernel_rfl) fun a Qf hQ hQn hs => ?_
  refine c_seq ?_
  refine c_region ?_
  refine s_new hs hw [.int .i64 x1.f0, .int .i64 x1.f1] 106 (fun b => .pointer (some ⟨b, 0, none⟩)) (by kernel_rfl) (fun _ => by kernel_rfl) fun a w b11 hs hw => ?_
  refine pures hs 1 [1, 2] [(1, .int .i64 x2), (2, .pointer (some ⟨b11, 0, none⟩))] (by kernel_rfl) fun a hs => ?_
  refine s_end ?_
  refine c_seq ?_
  refine c_region ?_
  refine pures hs 1 [1, 5] [(1, .int .i64 x2), (5, .pointer (some ⟨b11, 0, none⟩))] (by kernel_rfl) fun a hs => ?_
  refine s_load hs (hw.at_ 0 rfl) 0 (by kernel_rfl) (by kernel_rfl) (v := .int .i64 x1.f0) (by kernel_rfl) fun a hs => ?_
  refine pures hs 4 [4] [(4, .int .i64 (IntKind.i64.wrap (x1.f0 - (if 0 > x2 then 0 else x2))))] (by kernel_rfl) fun a hs => ?_
  refine s_end ?_
  refine c_ret ?_
  obtain rfl := someE hk
  refine hQ _ _ (f_ret1 hs rfl (v := .int .i64 (IntKind.i64.wrap (x1.f0 - (if 0 > x2 then 0 else x2)))) (by kernel_rfl) ⟨rfl, hw.pick [1] (by kernel_rfl)⟩)
def slices_BinarySearchFunc_bag_item_int_bag_item_int_int_r4 (x148 : Int) (x163 : Bool) : Option (Int × Bool) :=
  some (x148, x163)
def slices_BinarySearchFunc_bag_item_int_bag_item_int_int_r5 (x1 : List M106) (x7 : Int) (x148 : Int) : Option (Int × Bool) :=
  (if (decide (x148 < (x1.length : Int))) = true then (
      (ix x1 x148).bind fun x168 =>
      (bag_Bag_int_Upto_1 x168 x7).bind fun y172 =>
      some (y172 == 0))
    else some false : Option Bool).bind fun s174 => slices_BinarySearchFunc_bag_item_int_bag_item_int_int_r4 x148 s174
def slices_BinarySearchFunc_bag_item_int_bag_item_int_int_l6 (x1 : List M106) (x7 : Int) : Nat → Int → Int → Option Int
  | 0, _, _ => none
  | j + 1, x132, x133 =>
    if (decide (x132 < x133)) = true then (
      (ix x1 (IntKind.i64.wrap ((IntKind.u64.wrap (IntKind.i64.wrap (x132 + x133))).fdiv (2 ^ 1)))).bind fun x186 =>
      (bag_Bag_int_Upto_1 x186 x7).bind fun y190 =>
      if (decide (y190 < 0)) = true then slices_BinarySearchFunc_bag_item_int_bag_item_int_int_l6 x1 x7 j (IntKind.i64.wrap ((IntKind.i64.wrap ((IntKind.u64.wrap (IntKind.i64.wrap (x132 + x133))).fdiv (2 ^ 1))) + 1)) x133
      else slices_BinarySearchFunc_bag_item_int_bag_item_int_int_l6 x1 x7 j x132 (IntKind.i64.wrap ((IntKind.u64.wrap (IntKind.i64.wrap (x132 + x133))).fdiv (2 ^ 1))))
    else some x132
def slices_BinarySearchFunc_bag_item_int_bag_item_int_int (k : Nat) (x1 : List M106) (x7 : Int) : Option (Int × Bool) :=
  (slices_BinarySearchFunc_bag_item_int_bag_item_int_int_l6 x1 x7 k 0 (x1.length : Int) : Option Int).bind fun s193 => slices_BinarySearchFunc_bag_item_int_bag_item_int_int_r5 x1 x7 s193
theorem slices_BinarySearchFunc_bag_item_int_bag_item_int_int_s {k : Nat} {x1 : List M106} {x7 : Int} {p2 : Option Addr} {c3 : Nat} {d5 : Ch} {r : Int × Bool} (hk : slices_BinarySearchFunc_bag_item_int_bag_item_int_int k x1 x7 = some r) {g w : World} {F : Ch} {ih : IH} (h4 : RSl e106 ih d5 p2 c3 x1) (h6 : ∀ q ∈ d5, q ∈ F) (hw : St g w [F] ih) :
    CallsR Try.prog 90 #[.slice p2 x1.length c3, .int .i64 x7, .func (.func 91) #[] #[]] w fun v w' => v = .tuple #[.int .i64 r.1, .bool r.2] ∧ St g w' [F] ih := by
  refine f_in (vs := [.slice p2 x1.length c3, .int .i64 x7, .func (.func 91) #[] #[]]) Try.func90 rfl 49 rfl (by kernel_rfl) [(0, .slice p2 x1.length c3), (1, .int .i64 x7), (2, .func (.func 91) #[] #[])] (by kernel_rfl) fun a Qf hQ hQn hs => ?_
  refine c_seq ?_
  refine c_region ?_
  refine pures hs 2 [0, 1, 2] [(0, .slice p2 x1.length c3), (1, .int .i64 x7), (2, .func (.func 91) #[] #[])] (by kernel_rfl) fun a hs => ?_
  refine s_end ?_
  refine c_seq ?_
  refine c_region ?_
  refine pures hs 3 [0, 1, 2, 8] [(0, .slice p2 x1.length c3), (1, .int .i64 x7), (2, .func (.func 91) #[] #[]), (8, .int .i64 (x1.length : Int))] (by kernel_rfl) fun a hs => ?_
  refine s_end ?_
  refine c_seq ?_
  refine c_region ?_
  refine pures hs 3 [0, 1, 2, 8, 9, 10] [(0, .slice p2 x1.length c3), (1, .int .i64 x7), (2, .func (.func 91) #[] #[]), (8, .int .i64 (x1.length : Int)), (9, .int .i64 0), (10, .int .i64 (x1.length : Int))] (by kernel_rfl) fun a hs => ?_
  refine s_end ?_
  refine c_seq ?_
  refine c_block ?_
  obtain ⟨y175, hx176, hk⟩ := bindE hk
  obtain ⟨J177, hJ177⟩ : ∃ J : Act → World → Prop, ∀ a w, J a w ↔ (∃ (x148 : Int), slices_BinarySearchFunc_bag_item_int_bag_item_int_int_r5 x1 x7 x148 = some r ∧ Sees a 49 [(0, .slice p2 x1.length c3), (1, .int .i64 x7), (2, .func (.func 91) #[] #[]), (8, .int .i64 (x1.length : Int)), (9, .int .i64 x148)] ∧ St g w [F] ih) := ⟨_, fun _ _ => Iff.rfl⟩
  obtain ⟨I178, hI178⟩ : ∃ J : Nat → Act → World → Prop, ∀ j a w, J j a w ↔ (∃ (x132 : Int) (x133 : Int), slices_BinarySearchFunc_bag_item_int_bag_item_int_int_l6 x1 x7 j x132 x133 = some y175 ∧ Sees a 49 [(0, .slice p2 x1.length c3), (1, .int .i64 x7), (2, .func (.func 91) #[] #[]), (8, .int .i64 (x1.length : Int)), (9, .int .i64 x132), (10, .int .i64 x133)] ∧ St g w [F] ih) := ⟨_, fun _ _ _ => Iff.rfl⟩
  refine c_exitJ 0 J177 ?_ ?_
  · refine c_loop I178 k ((hI178 _ _ _).2 ⟨0, (x1.length : Int), hx176, hs.cast [0, 1, 2, 8, 9, 10] (by kernel_rfl), hw.pick [0] (by kernel_rfl)⟩) (fun a w h0 => ?_) fun j a w hh => ?_
    · obtain ⟨_, _, h, _⟩ := (hI178 _ _ _).1 h0
      cases h
    · obtain ⟨x132, x133, hx176, hs, hw⟩ := (hI178 _ _ _).1 hh
      refine c_seq ?_
      refine c_seq ?_
      refine c_region ?_
      refine pures hs 3 [0, 1, 2, 8, 9, 10, 17] [(0, .slice p2 x1.length c3), (1, .int .i64 x7), (2, .func (.func 91) #[] #[]), (8, .int .i64 (x1.length : Int)), (9, .int .i64 x132), (10, .int .i64 x133), (17, .bool (decide (x132 < x133)))] (by kernel_rfl) fun a hs => ?_
      refine s_end ?_
      rcases ifbE hx176 with ⟨h179, hx176⟩ | ⟨h179, hx176⟩
      · refine c_cond1 hs (by kernel_rfl) (t := (decide (x132 < x133))) (by kernel_rfl) h179 ?_
        refine c_skip ?_
        refine c_block ?_
        refine c_seq ?_
        refine c_region ?_
        refine pures hs 7 [0, 1, 2, 8, 9, 10, 11] [(0, .slice p2 x1.length c3), (1, .int .i64 x7), (2, .func (.func 91) #[] #[]), (8, .int .i64 (x1.length : Int)), (9, .int .i64 x132), (10, .int .i64 x133), (11, .int .i64 (IntKind.i64.wrap ((IntKind.u64.wrap (IntKind.i64.wrap (x132 + x133))).fdiv (2 ^ 1))))] (by kernel_rfl) fun a hs => ?_
        refine s_end ?_
        refine c_seq ?_
        refine c_region ?_
        refine pures hs 3 [0, 1, 2, 8, 9, 10, 11, 24, 25, 26] [(0, .slice p2 x1.length c3), (1, .int .i64 x7), (2, .func (.func 91) #[] #[]), (8, .int .i64 (x1.length : Int)), (9, .int .i64 x132), (10, .int .i64 x133), (11, .int .i64 (IntKind.i64.wrap ((IntKind.u64.wrap (IntKind.i64.wrap (x132 + x133))).fdiv (2 ^ 1)))), (24, .func (.func 91) #[] #[]), (25, .slice p2 x1.length c3), (26, .int .i64 (IntKind.i64.wrap ((IntKind.u64.wrap (IntKind.i64.wrap (x132 + x133))).fdiv (2 ^ 1))))] (by kernel_rfl) fun a hs => ?_
        obtain ⟨x186, h187, hx176⟩ := bindE hx176
        refine s_index hs h4 (by kernel_rfl) (by kernel_rfl) (k := .i64) (by kernel_rfl) 106 (by kernel_rfl) (by kernel_rfl) h187 fun a r188 cs henc at189 hs => ?_
        obtain rfl := henc
        refine s_load hs (at189 _ (((hw.vw 0 rfl).sub h6).anti (Le.refl _))) 0 (by kernel_rfl) (by kernel_rfl) (v := .agg #[.int .i64 x186.f0, .int .i64 x186.f1]) (by kernel_rfl) fun a hs => ?_
        refine pures hs 1 [0, 1, 2, 8, 9, 10, 11, 24, 28, 29] [(0, .slice p2 x1.length c3), (1, .int .i64 x7), (2, .func (.func 91) #[] #[]), (8, .int .i64 (x1.length : Int)), (9, .int .i64 x132), (10, .int .i64 x133), (11, .int .i64 (IntKind.i64.wrap ((IntKind.u64.wrap (IntKind.i64.wrap (x132 + x133))).fdiv (2 ^ 1)))), (24, .func (.func 91) #[] #[]), (28, .agg #[.int .i64 x186.f0, .int .i64 x186.f1]), (29, .int .i64 x7)] (by kernel_rfl) fun a hs => ?_
        obtain ⟨y190, h191, hx176⟩ := bindE hx176
        refine s_call hs (by kernel_rfl) (by kernel_rfl) (bag_Bag_int_Upto_1_s h191 ((hw.pick [0] (by kernel_rfl)).pack 0)) fun a w v hv hs => ?_
        obtain ⟨rfl, hw⟩ := hv
        replace hw := hw.unpack 0 rfl
        refine pures hs 1 [0, 1, 2, 8, 9, 10, 11, 31] [(0, .slice p2 x1.length c3), (1, .int .i64 x7), (2, .func (.func 91) #[] #[]), (8, .int .i64 (x1.length : Int)), (9, .int .i64 x132), (10, .int .i64 x133), (11, .int .i64 (IntKind.i64.wrap ((IntKind.u64.wrap (IntKind.i64.wrap (x132 + x133))).fdiv (2 ^ 1)))), (31, .bool (decide (y190 < 0)))] (by kernel_rfl) fun a hs => ?_
        refine s_end ?_
        rcases ifbE hx176 with ⟨h192, hx176⟩ | ⟨h192, hx176⟩
        · refine c_cond1 hs (by kernel_rfl) (t := (decide (y190 < 0))) (by kernel_rfl) h192 ?_
          refine c_region ?_
          refine pures hs 3 [0, 1, 2, 8, 9, 10] [(0, .slice p2 x1.length c3), (1, .int .i64 x7), (2, .func (.func 91) #[] #[]), (8, .int .i64 (x1.length : Int)), (9, .int .i64 (IntKind.i64.wrap ((IntKind.i64.wrap ((IntKind.u64.wrap (IntKind.i64.wrap (x132 + x133))).fdiv (2 ^ 1))) + 1))), (10, .int .i64 x133)] (by kernel_rfl) fun a hs => ?_
          refine s_end ?_
          exact (hI178 _ _ _).2 ⟨(IntKind.i64.wrap ((IntKind.i64.wrap ((IntKind.u64.wrap (IntKind.i64.wrap (x132 + x133))).fdiv (2 ^ 1))) + 1)), x133, hx176, hs.cast [0, 1, 2, 8, 9, 10] (by kernel_rfl), hw.pick [0] (by kernel_rfl)⟩
        · refine c_cond0 hs (by kernel_rfl) (t := (decide (y190 < 0))) (by kernel_rfl) h192 ?_
          refine c_region ?_
          refine pures hs 2 [0, 1, 2, 8, 9, 10] [(0, .slice p2 x1.length c3), (1, .int .i64 x7), (2, .func (.func 91) #[] #[]), (8, .int .i64 (x1.length : Int)), (9, .int .i64 x132), (10, .int .i64 (IntKind.i64.wrap ((IntKind.u64.wrap (IntKind.i64.wrap (x132 + x133))).fdiv (2 ^ 1))))] (by kernel_rfl) fun a hs => ?_
          refine s_end ?_
          exact (hI178 _ _ _).2 ⟨x132, (IntKind.i64.wrap ((IntKind.u64.wrap (IntKind.i64.wrap (x132 + x133))).fdiv (2 ^ 1))), hx176, hs.cast [0, 1, 2, 8, 9, 10] (by kernel_rfl), hw.pick [0] (by kernel_rfl)⟩
      · refine c_cond0 hs (by kernel_rfl) (t := (decide (x132 < x133))) (by kernel_rfl) h179 ?_
        refine c_exit ?_
        obtain rfl := someE hx176
        exact (hJ177 _ _).2 ⟨x132, hk, hs.cast [0, 1, 2, 8, 9] (by kernel_rfl), hw.pick [0] (by kernel_rfl)⟩
  · intro a w hh
    obtain ⟨x148, hk, hs, hw⟩ := (hJ177 _ _).1 hh
    refine c_seq ?_
    obtain ⟨y164, hx165, hk⟩ := bindE hk
    obtain ⟨J166, hJ166⟩ : ∃ J : Act → World → Prop, ∀ a w, J a w ↔ (∃ (x163 : Bool), slices_BinarySearchFunc_bag_item_int_bag_item_int_int_r4 x148 x163 = some r ∧ Sees a 49 [(6, .int .i64 x148), (7, .bool x163)] ∧ St g w [F] ih) := ⟨_, fun _ _ => Iff.rfl⟩
    refine c_regJ J166 ?_ ?_
    · refine pures hs 5 [0, 1, 2, 9, 35, 39] [(0, .slice p2 x1.length c3), (1, .int .i64 x7), (2, .func (.func 91) #[] #[]), (9, .int .i64 x148), (35, .int .i64 x148), (39, .bool (decide (x148 < (x1.length : Int))))] (by kernel_rfl) fun a hs => ?_
      rcases ifbE hx165 with ⟨h167, hx165⟩ | ⟨h167, hx165⟩
      · replace hs := hs.altB 39 true (by kernel_rfl) h167
        refine pures hs 3 [1, 35, 39, 40, 41, 42] [(1, .int .i64 x7), (35, .int .i64 x148), (39, .bool true), (40, .func (.func 91) #[] #[]), (41, .slice p2 x1.length c3), (42, .int .i64 x148)] (by kernel_rfl) fun a hs => ?_
        obtain ⟨x168, h169, hx165⟩ := bindE hx165
        refine s_index hs h4 (by kernel_rfl) (by kernel_rfl) (k := .i64) (by kernel_rfl) 106 (by kernel_rfl) (by kernel_rfl) h169 fun a r170 cs henc at171 hs => ?_
        obtain rfl := henc
        refine s_load hs (at171 _ (((hw.vw 0 rfl).sub h6).anti (Le.refl _))) 0 (by kernel_rfl) (by kernel_rfl) (v := .agg #[.int .i64 x168.f0, .int .i64 x168.f1]) (by kernel_rfl) fun a hs => ?_
        refine pures hs 1 [35, 39, 40, 44, 45] [(35, .int .i64 x148), (39, .bool true), (40, .func (.func 91) #[] #[]), (44, .agg #[.int .i64 x168.f0, .int .i64 x168.f1]), (45, .int .i64 x7)] (by kernel_rfl) fun a hs => ?_
        obtain ⟨y172, h173, hx165⟩ := bindE hx165
        refine s_call hs (by kernel_rfl) (by kernel_rfl) (bag_Bag_int_Upto_1_s h173 ((hw.pick [0] (by kernel_rfl)).pack 0)) fun a w v hv hs => ?_
        obtain ⟨rfl, hw⟩ := hv
        replace hw := hw.unpack 0 rfl
        refine pures hs 4 [6, 7] [(6, .int .i64 x148), (7, .bool (y172 == 0))] (by kernel_rfl) fun a hs => ?_
        refine s_end ?_
        obtain rfl := someE hx165
        exact (hJ166 _ _).2 ⟨(y172 == 0), hk, hs.cast [6, 7] (by kernel_rfl), hw.pick [0] (by kernel_rfl)⟩
      · replace hs := hs.altB 39 false (by kernel_rfl) h167
        refine pures hs 11 [6, 7] [(6, .int .i64 x148), (7, .bool false)] (by kernel_rfl) fun a hs => ?_
        refine s_end ?_
        obtain rfl := someE hx165
        exact (hJ166 _ _).2 ⟨false, hk, hs.cast [6, 7] (by kernel_rfl), hw.pick [0] (by kernel_rfl)⟩
    · intro a w hh
      obtain ⟨x163, hk, hs, hw⟩ := (hJ166 _ _).1 hh
      refine c_ret ?_
      obtain rfl := someE hk
      refine hQ _ _ (f_retN hs [.tmp 6, .tmp 7] rfl [.int .i64 x148, .bool x163] (by kernel_rfl) (by kernel_rfl) ⟨rfl, hw.pick [0] (by kernel_rfl)⟩)
def bag_Bag_int_Upto_r2 (x30 : Int) : Option Int :=
  some x30
def bag_Bag_int_Upto (k : Nat) (x3 : Int) (x4 : Int) (x5 : List M106) (x11 : Int) : Option Int :=
  (slices_BinarySearchFunc_bag_item_int_bag_item_int_int k x5 x11).bind fun y27 =>
  (if y27.2 = true then some (IntKind.i64.wrap (y27.1 + 1))
    else some y27.1 : Option Int).bind fun s35 => bag_Bag_int_Upto_r2 s35
theorem bag_Bag_int_Upto_s {k : Nat} {x3 : Int} {x4 : Int} {x5 : List M106} {x11 : Int} {b2 : Nat} {p6 : Option Addr} {c7 : Nat} {d9 : Ch} {r : Int} (hk : bag_Bag_int_Upto k x3 x4 x5 x11 = some r) {g w : World} {F : Ch} {ih : IH} (h8 : OSl e106 ih p6 c7 x5 d9) (hw : St g w [bx b2 [.int .i64 x3, .int .i64 x4, .slice p6 x5.length c7] 104, d9, F] ih) :
    CallsR Try.prog 54 #[.pointer (some ⟨b2, 0, none⟩), .int .i64 x11] w fun v w' => v = .int .i64 r ∧ St g w' [bx b2 [.int .i64 x3, .int .i64 x4, .slice p6 x5.length c7] 104, d9, F] ih := by
  refine f_in (vs := [.pointer (some ⟨b2, 0, none⟩), .int .i64 x11]) Try.func54 rfl 22 rfl (by kernel_rfl) [(0, .pointer (some ⟨b2, 0, none⟩)), (1, .int .i64 x11)] (by kernel_rfl) fun a Qf hQ hQn hs => ?_
  refine c_seq ?_
  refine c_region ?_
  refine pures hs 1 [0, 1] [(0, .pointer (some ⟨b2, 0, none⟩)), (1, .int .i64 x11)] (by kernel_rfl) fun a hs => ?_
  refine s_end ?_
  refine c_seq ?_
  refine c_seq ?_
  refine c_region ?_
  refine pures hs 2 [0, 1, 8] [(0, .pointer (some ⟨b2, 0, none⟩)), (1, .int .i64 x11), (8, .bool false)] (by kernel_rfl) fun a hs => ?_
  refine s_end ?_
  refine c_condF hs (by kernel_rfl) (by kernel_rfl) ?_
  refine c_skip ?_
  refine c_seq ?_
  refine c_region ?_
  refine pures hs 3 [1, 12] [(1, .int .i64 x11), (12, .pointer (some ⟨b2, 2, none⟩))] (by kernel_rfl) fun a hs => ?_
  refine s_load hs (hw.at_ 0 rfl) 2 (by kernel_rfl) (by kernel_rfl) (v := .slice p6 x5.length c7) (by kernel_rfl) fun a hs => ?_
  refine pures hs 1 [13, 14] [(13, .slice p6 x5.length c7), (14, .int .i64 x11)] (by kernel_rfl) fun a hs => ?_
  obtain ⟨y27, h28, hk⟩ := bindE hk
  refine s_call hs (by kernel_rfl) (by kernel_rfl) (slices_BinarySearchFunc_bag_item_int_bag_item_int_int_s h28 h8.read (memF 1 rfl) ((hw.pick [0, 1, 2] (by kernel_rfl)).pack 0)) fun a w v hv hs => ?_
  obtain ⟨rfl, hw⟩ := hv
  replace hw := hw.unpack 0 rfl
  refine pures hs 5 [5, 6] [(5, .int .i64 y27.1), (6, .bool y27.2)] (by kernel_rfl) fun a hs => ?_
  refine s_end ?_
  obtain ⟨y31, hx32, hk⟩ := bindE hk
  obtain ⟨J33, hJ33⟩ : ∃ J : Act → World → Prop, ∀ a w, J a w ↔ (∃ (x30 : Int), bag_Bag_int_Upto_r2 x30 = some r ∧ Sees a 22 [(5, .int .i64 x30)] ∧ St g w [bx b2 [.int .i64 x3, .int .i64 x4, .slice p6 x5.length c7] 104, d9, F] ih) := ⟨_, fun _ _ => Iff.rfl⟩
  refine c_seqJ J33 ?_ ?_
  · refine c_seq ?_
    refine c_region ?_
    refine pures hs 1 [5, 18] [(5, .int .i64 y27.1), (18, .bool y27.2)] (by kernel_rfl) fun a hs => ?_
    refine s_end ?_
    rcases ifbE hx32 with ⟨h34, hx32⟩ | ⟨h34, hx32⟩
    · refine c_cond1 hs (by kernel_rfl) (t := y27.2) (by kernel_rfl) h34 ?_
      refine c_region ?_
      refine pures hs 3 [5] [(5, .int .i64 (IntKind.i64.wrap (y27.1 + 1)))] (by kernel_rfl) fun a hs => ?_
      refine s_end ?_
      obtain rfl := someE hx32
      exact (hJ33 _ _).2 ⟨(IntKind.i64.wrap (y27.1 + 1)), hk, hs.cast [5] (by kernel_rfl), hw.pick [0, 1, 2] (by kernel_rfl)⟩
    · refine c_cond0 hs (by kernel_rfl) (t := y27.2) (by kernel_rfl) h34 ?_
      refine c_skip ?_
      obtain rfl := someE hx32
      exact (hJ33 _ _).2 ⟨y27.1, hk, hs.cast [5] (by kernel_rfl), hw.pick [0, 1, 2] (by kernel_rfl)⟩
  · intro a w hh
    obtain ⟨x30, hk, hs, hw⟩ := (hJ33 _ _).1 hh
    refine c_seq ?_
    refine c_region ?_
    refine pures hs 2 [4] [(4, .int .i64 x30)] (by kernel_rfl) fun a hs => ?_
    refine s_end ?_
    refine c_ret ?_
    obtain rfl := someE hk
    refine hQ _ _ (f_ret1 hs rfl (v := .int .i64 x30) (by kernel_rfl) ⟨rfl, hw.pick [0, 1, 2] (by kernel_rfl)⟩)
def catenarylaw06_awake_r2 (x190 : Bool) : Option Bool :=
  some x190
def catenarylaw06_awake : Option Bool :=
  (bag_New_int 9).bind fun y113 =>
  (bag_Bag_int_Put y113.1 y113.2.1 y113.2.2 7).bind fun y128 =>
  (bag_Bag_int_Put y113.1 y128.2.2.1 y128.2.2.2 8).bind fun y140 =>
  (bag_Bag_int_Put y113.1 y140.2.2.1 y140.2.2.2 9).bind fun y152 =>
  (bag_Bag_int_Take y113.1 y152.2.2.1 y152.2.2.2 1).bind fun y164 =>
  (if (y164.1 == 8) = true then (
      if y164.2.1 = true then (
        (bag_Bag_int_Len y113.1 y152.2.2.1 y164.2.2).bind fun y196 =>
        if (y196 == 2) = true then (
          (bag_Bag_int_No y113.1 y152.2.2.1 y164.2.2 0).bind fun y199 =>
          if (y199 == 1) = true then (
            (bag_Bag_int_No y113.1 y152.2.2.1 y164.2.2 1).bind fun y202 =>
            some (y202 == 3))
          else some false)
        else some false)
      else some false)
    else some false : Option Bool).bind fun s204 => catenarylaw06_awake_r2 s204
theorem catenarylaw06_awake_s {r : Bool} (hk : catenarylaw06_awake = some r) {g w : World} {F : Ch} {ih : IH} (hw : St g w [F] ih) :
    CallsR Try.prog 30 #[] w fun v w' => v = .bool r ∧ St g w' [F] ih := by
  refine f_in (vs := []) Try.func30 rfl 36 rfl (by kernel_rfl) [] (by kernel_rfl) fun a Qf hQ hQn hs => ?_
  refine c_seq ?_
  refine c_region ?_
  refine pures hs 1 [] [] (by kernel_rfl) fun a hs => ?_
  refine s_end ?_
  refine c_seq ?_
  refine c_region ?_
  obtain ⟨y113, h114, hk⟩ := bindE hk
  refine s_call hs (by kernel_rfl) (by kernel_rfl) (bag_New_int_s h114 ((hw.pick [0] (by kernel_rfl)).pack 0)) fun a w v hv hs => ?_
  obtain ⟨b115, p117, c118, d120, rfl, hw, h119⟩ := hv
  replace hw := hw.unpack 2 rfl
  refine pures hs 1 [1] [(1, .pointer (some ⟨b115, 0, none⟩))] (by kernel_rfl) fun a hs => ?_
  refine s_end ?_
  refine c_seq ?_
  refine c_region ?_
  refine pures hs 1 [1, 5] [(1, .pointer (some ⟨b115, 0, none⟩)), (5, .pointer (some ⟨b115, 0, none⟩))] (by kernel_rfl) fun a hs => ?_
  obtain ⟨y128, h129, hk⟩ := bindE hk
  refine s_call hs (by kernel_rfl) (by kernel_rfl) (bag_Bag_int_Put_s h129 h119 ((hw.pick [0, 1, 2] (by kernel_rfl)).pack 2)) fun a w v hv hs => ?_
  obtain ⟨p130, c131, d133, rfl, hw, h132⟩ := hv
  replace hw := hw.unpack 2 rfl
  refine s_end ?_
  refine c_seq ?_
  refine c_region ?_
  refine pures hs 1 [1, 7] [(1, .pointer (some ⟨b115, 0, none⟩)), (7, .pointer (some ⟨b115, 0, none⟩))] (by kernel_rfl) fun a hs => ?_
  obtain ⟨y140, h141, hk⟩ := bindE hk
  refine s_call hs (by kernel_rfl) (by kernel_rfl) (bag_Bag_int_Put_s h141 h132 ((hw.pick [0, 1, 2] (by kernel_rfl)).pack 2)) fun a w v hv hs => ?_
  obtain ⟨p142, c143, d145, rfl, hw, h144⟩ := hv
  replace hw := hw.unpack 2 rfl
  refine s_end ?_
  refine c_seq ?_
  refine c_region ?_
  refine pures hs 1 [1, 9] [(1, .pointer (some ⟨b115, 0, none⟩)), (9, .pointer (some ⟨b115, 0, none⟩))] (by kernel_rfl) fun a hs => ?_
  obtain ⟨y152, h153, hk⟩ := bindE hk
  refine s_call hs (by kernel_rfl) (by kernel_rfl) (bag_Bag_int_Put_s h153 h144 ((hw.pick [0, 1, 2] (by kernel_rfl)).pack 2)) fun a w v hv hs => ?_
  obtain ⟨p154, c155, d157, rfl, hw, h156⟩ := hv
  replace hw := hw.unpack 2 rfl
  refine s_end ?_
  refine c_seq ?_
  refine c_region ?_
  refine pures hs 1 [1, 12] [(1, .pointer (some ⟨b115, 0, none⟩)), (12, .pointer (some ⟨b115, 0, none⟩))] (by kernel_rfl) fun a hs => ?_
  obtain ⟨y164, h165, hk⟩ := bindE hk
  refine s_call hs (by kernel_rfl) (by kernel_rfl) (bag_Bag_int_Take_s h165 h156 ((hw.pick [0, 1, 2] (by kernel_rfl)).pack 2)) fun a w v hv hs => ?_
  obtain ⟨p166, c167, d169, rfl, hw, h168⟩ := hv
  replace hw := hw.unpack 2 rfl
  refine pures hs 5 [1, 2, 3] [(1, .pointer (some ⟨b115, 0, none⟩)), (2, .int .i64 y164.1), (3, .bool y164.2.1)] (by kernel_rfl) fun a hs => ?_
  refine s_end ?_
  refine c_seq ?_
  obtain ⟨y191, hx192, hk⟩ := bindE hk
  obtain ⟨J193, hJ193⟩ : ∃ J : Act → World → Prop, ∀ a w, J a w ↔ (∃ (x190 : Bool), catenarylaw06_awake_r2 x190 = some r ∧ Sees a 36 [(0, .bool x190)] ∧ St g w [F] ih) := ⟨_, fun _ _ => Iff.rfl⟩
  refine c_regJ J193 ?_ ?_
  · refine pures hs 3 [1, 3, 18] [(1, .pointer (some ⟨b115, 0, none⟩)), (3, .bool y164.2.1), (18, .bool (y164.1 == 8))] (by kernel_rfl) fun a hs => ?_
    rcases ifbE hx192 with ⟨h194, hx192⟩ | ⟨h194, hx192⟩
    · replace hs := hs.altB 18 true (by kernel_rfl) h194
      refine pures hs 3 [1, 21] [(1, .pointer (some ⟨b115, 0, none⟩)), (21, .bool y164.2.1)] (by kernel_rfl) fun a hs => ?_
      rcases ifbE hx192 with ⟨h195, hx192⟩ | ⟨h195, hx192⟩
      · replace hs := hs.altB 21 true (by kernel_rfl) h195
        refine pures hs 1 [1, 21, 22] [(1, .pointer (some ⟨b115, 0, none⟩)), (21, .bool true), (22, .pointer (some ⟨b115, 0, none⟩))] (by kernel_rfl) fun a hs => ?_
        obtain ⟨y196, h197, hx192⟩ := bindE hx192
        refine s_call hs (by kernel_rfl) (by kernel_rfl) (bag_Bag_int_Len_s h197 h168 ((hw.pick [0, 1, 2] (by kernel_rfl)).pack 2)) fun a w v hv hs => ?_
        obtain ⟨rfl, hw⟩ := hv
        replace hw := hw.unpack 2 rfl
        refine pures hs 3 [1, 26] [(1, .pointer (some ⟨b115, 0, none⟩)), (26, .bool (y196 == 2))] (by kernel_rfl) fun a hs => ?_
        rcases ifbE hx192 with ⟨h198, hx192⟩ | ⟨h198, hx192⟩
        · replace hs := hs.altB 26 true (by kernel_rfl) h198
          refine pures hs 1 [1, 26, 27] [(1, .pointer (some ⟨b115, 0, none⟩)), (26, .bool true), (27, .pointer (some ⟨b115, 0, none⟩))] (by kernel_rfl) fun a hs => ?_
          obtain ⟨y199, h200, hx192⟩ := bindE hx192
          refine s_call hs (by kernel_rfl) (by kernel_rfl) (bag_Bag_int_No_s h200 h168 ((hw.pick [0, 1, 2] (by kernel_rfl)).pack 2)) fun a w v hv hs => ?_
          obtain ⟨rfl, hw⟩ := hv
          replace hw := hw.unpack 2 rfl
          refine pures hs 3 [1, 31] [(1, .pointer (some ⟨b115, 0, none⟩)), (31, .bool (y199 == 1))] (by kernel_rfl) fun a hs => ?_
          rcases ifbE hx192 with ⟨h201, hx192⟩ | ⟨h201, hx192⟩
          · replace hs := hs.altB 31 true (by kernel_rfl) h201
            refine pures hs 1 [31, 32] [(31, .bool true), (32, .pointer (some ⟨b115, 0, none⟩))] (by kernel_rfl) fun a hs => ?_
            obtain ⟨y202, h203, hx192⟩ := bindE hx192
            refine s_call hs (by kernel_rfl) (by kernel_rfl) (bag_Bag_int_No_s h203 h168 ((hw.pick [0, 1, 2] (by kernel_rfl)).pack 2)) fun a w v hv hs => ?_
            obtain ⟨rfl, hw⟩ := hv
            replace hw := hw.unpack 2 rfl
            refine pures hs 3 [0] [(0, .bool (y202 == 3))] (by kernel_rfl) fun a hs => ?_
            refine s_end ?_
            obtain rfl := someE hx192
            exact (hJ193 _ _).2 ⟨(y202 == 3), hk, hs.cast [0] (by kernel_rfl), hw.pick [2] (by kernel_rfl)⟩
          · replace hs := hs.altB 31 false (by kernel_rfl) h201
            refine pures hs 5 [0] [(0, .bool false)] (by kernel_rfl) fun a hs => ?_
            refine s_end ?_
            obtain rfl := someE hx192
            exact (hJ193 _ _).2 ⟨false, hk, hs.cast [0] (by kernel_rfl), hw.pick [2] (by kernel_rfl)⟩
        · replace hs := hs.altB 26 false (by kernel_rfl) h198
          refine pures hs 10 [0] [(0, .bool false)] (by kernel_rfl) fun a hs => ?_
          refine s_end ?_
          obtain rfl := someE hx192
          exact (hJ193 _ _).2 ⟨false, hk, hs.cast [0] (by kernel_rfl), hw.pick [2] (by kernel_rfl)⟩
      · replace hs := hs.altB 21 false (by kernel_rfl) h195
        refine pures hs 15 [0] [(0, .bool false)] (by kernel_rfl) fun a hs => ?_
        refine s_end ?_
        obtain rfl := someE hx192
        exact (hJ193 _ _).2 ⟨false, hk, hs.cast [0] (by kernel_rfl), hw.pick [2] (by kernel_rfl)⟩
    · replace hs := hs.altB 18 false (by kernel_rfl) h194
      refine pures hs 18 [0] [(0, .bool false)] (by kernel_rfl) fun a hs => ?_
      refine s_end ?_
      obtain rfl := someE hx192
      exact (hJ193 _ _).2 ⟨false, hk, hs.cast [0] (by kernel_rfl), hw.pick [2] (by kernel_rfl)⟩
  · intro a w hh
    obtain ⟨x190, hk, hs, hw⟩ := (hJ193 _ _).1 hh
    refine c_ret ?_
    obtain rfl := someE hk
    refine hQ _ _ (f_ret1 hs rfl (v := .bool x190) (by kernel_rfl) ⟨rfl, hw.pick [0] (by kernel_rfl)⟩)
def catenarylaw06_BagRises_r59 : Option Bool :=
  (catenarylaw06_awake).bind fun y3336 =>
  some y3336
def catenarylaw06_BagRises_r64 (rec_catenarylaw06_BagRises_l60 : Int → Int → (List M106) → Option (Sum Bool Unit)) (x2862 : Int) (x3435 : Int) (x3436 : List M106) : Option (Sum Bool Unit) :=
  rec_catenarylaw06_BagRises_l60 (IntKind.i64.wrap (x2862 + 1)) x3435 x3436
def catenarylaw06_BagRises_r66 (rec_catenarylaw06_BagRises_l65 : Int → Option (Sum Bool Unit)) (x3566 : Int) (x3685 : Bool) : Option (Sum Bool Unit) :=
  if x3685 = true then some (.inl false)
  else rec_catenarylaw06_BagRises_l65 (IntKind.i64.wrap (x3566 + 1))
def catenarylaw06_BagRises_l65 (k : Nat) (y1917 : Int × Int × (List M106)) (x3435 : Int) (x3436 : List M106) : Nat → Int → Option (Sum Bool Unit)
  | 0, _ => none
  | j + 1, x3566 =>
    (bag_Bag_int_Len y1917.1 x3435 x3436).bind fun y3642 =>
    if (decide (x3566 < y3642)) = true then (
      (bag_Bag_int_No y1917.1 x3435 x3436 x3566).bind fun y3647 =>
      (if (decide (y3647 < 1)) = true then some true
        else (bag_Bag_int_Last y1917.1 x3435 x3436).bind fun y3691 =>
        if (decide (y3647 > y3691)) = true then some true
        else if (decide (x3566 > 0)) = true then (
          (bag_Bag_int_No y1917.1 x3435 x3436 (IntKind.i64.wrap (x3566 - 1))).bind fun y3695 =>
          if (decide (y3647 ≤ y3695)) = true then some true
          else (bag_Bag_int_Upto k y1917.1 x3435 x3436 y3647).bind fun y3698 =>
          if (y3698 != (IntKind.i64.wrap (x3566 + 1))) = true then some true
          else (bag_Bag_int_Upto k y1917.1 x3435 x3436 (IntKind.i64.wrap (y3647 - 1))).bind fun y3701 =>
          some (y3701 != x3566))
        else (bag_Bag_int_Upto k y1917.1 x3435 x3436 y3647).bind fun y3703 =>
        if (y3703 != (IntKind.i64.wrap (x3566 + 1))) = true then some true
        else (bag_Bag_int_Upto k y1917.1 x3435 x3436 (IntKind.i64.wrap (y3647 - 1))).bind fun y3706 =>
        some (y3706 != x3566) : Option Bool).bind fun s3708 => catenarylaw06_BagRises_r66 (catenarylaw06_BagRises_l65 k y1917 x3435 x3436 j) x3566 s3708)
    else some (.inr ())
def catenarylaw06_BagRises_r67 (k : Nat) (rec_catenarylaw06_BagRises_l60 : Int → Int → (List M106) → Option (Sum Bool Unit)) (y1917 : Int × Int × (List M106)) (x3435 : Int) (x3436 : List M106) (x2862 : Int) (x3452 : Bool) : Option (Sum Bool Unit) :=
  if x3452 = true then some (.inl false)
  else (catenarylaw06_BagRises_l65 k y1917 x3435 x3436 k 0 : Option (Sum Bool Unit)).bind fun
    | .inl z => some (.inl z)
    | .inr _ => catenarylaw06_BagRises_r64 (rec_catenarylaw06_BagRises_l60) x2862 x3435 x3436
def catenarylaw06_BagRises_r68 (k : Nat) (rec_catenarylaw06_BagRises_l60 : Int → Int → (List M106) → Option (Sum Bool Unit)) (y1917 : Int × Int × (List M106)) (y3350 : Int) (x2862 : Int) (x3435 : Int) (x3436 : List M106) : Option (Sum Bool Unit) :=
  ((bag_Bag_int_Last y1917.1 x3435 x3436).bind fun y3713 =>
    if (decide (y3713 < y3350)) = true then some true
    else (bag_Bag_int_Last y1917.1 x3435 x3436).bind fun y3716 =>
    some (decide (y3716 > (IntKind.i64.wrap (y3350 + 1)))) : Option Bool).bind fun s3718 => catenarylaw06_BagRises_r67 k (rec_catenarylaw06_BagRises_l60) y1917 x3435 x3436 x2862 s3718
def catenarylaw06_BagRises_l60 (k : Nat) (x1 : List M74) (y1917 : Int × Int × (List M106)) : Nat → Int → Int → (List M106) → Option (Sum Bool Unit)
  | 0, _, _, _ => none
  | j + 1, x2862, x2863, x2864 =>
    if ((decide (x2862 < (x1.length : Int))) && (decide (x2862 < 60))) = true then (
      (bag_Bag_int_Last y1917.1 x2863 x2864).bind fun y3350 =>
      ((ix x1 x2862).bind fun x3726 =>
        if (x3726.f0 == 0) = true then (
          (ix x1 x2862).bind fun x3741 =>
          (bag_Bag_int_Put y1917.1 x2863 x2864 x3741.f2).bind fun y3745 =>
          some (y3745.2.2.1, y3745.2.2.2))
        else if (x3726.f0 == 1) = true then (
          (ix x1 x2862).bind fun x3762 =>
          (bag_Bag_int_Twice y1917.1 x2863 x2864 x3762.f1).bind fun y3766 =>
          some (y3766.2.2.1, y3766.2.2.2))
        else if (x3726.f0 == 2) = true then (
          (ix x1 x2862).bind fun x3783 =>
          (bag_Bag_int_Take y1917.1 x2863 x2864 x3783.f1).bind fun y3787 =>
          some (x2863, y3787.2.2))
        else (bag_Bag_int_Keep k y1917.1 x2863 x2864).bind fun y3799 =>
        some (x2863, y3799.2) : Option (Int × (List M106))).bind fun s3805 => catenarylaw06_BagRises_r68 k (catenarylaw06_BagRises_l60 k x1 y1917 j) y1917 y3350 x2862 s3805.1 s3805.2)
    else some (.inr ())
def catenarylaw06_BagRises (k : Nat) (x1 : List M74) : Option Bool :=
  (bag_New_int 50).bind fun y1917 =>
  (catenarylaw06_BagRises_l60 k x1 y1917 k 0 y1917.2.1 y1917.2.2 : Option (Sum Bool Unit)).bind fun
    | .inl z => some z
    | .inr _ => catenarylaw06_BagRises_r59
theorem catenarylaw06_BagRises_s {k : Nat} {x1 : List M74} {p2 : Option Addr} {c3 : Nat} {d5 : Ch} {r : Bool} (hk : catenarylaw06_BagRises k x1 = some r) {g w : World} {F : Ch} {ih : IH} (h4 : RSl e74 ih d5 p2 c3 x1) (h6 : ∀ q ∈ d5, q ∈ F) (hw : St g w [F] ih) :
    CallsR Try.prog 10 #[.slice p2 x1.length c3] w fun v w' => v = .bool r ∧ St g w' [F] ih := by
  refine f_in (vs := [.slice p2 x1.length c3]) Try.func10 rfl 112 rfl (by kernel_rfl) [(0, .slice p2 x1.length c3)] (by kernel_rfl) fun a Qf hQ hQn hs => ?_
  refine c_seq ?_
  refine c_region ?_
  refine pures hs 1 [0] [(0, .slice p2 x1.length c3)] (by kernel_rfl) fun a hs => ?_
  refine s_end ?_
  refine c_seq ?_
  refine c_region ?_
  obtain ⟨y1917, h1918, hk⟩ := bindE hk
  refine s_call hs (by kernel_rfl) (by kernel_rfl) (bag_New_int_s h1918 ((hw.pick [0] (by kernel_rfl)).pack 0)) fun a w v hv hs => ?_
  obtain ⟨b1919, p1921, c1922, d1924, rfl, hw, h1923⟩ := hv
  replace hw := hw.unpack 2 rfl
  refine pures hs 1 [0, 3] [(0, .slice p2 x1.length c3), (3, .pointer (some ⟨b1919, 0, none⟩))] (by kernel_rfl) fun a hs => ?_
  refine s_end ?_
  refine c_seq ?_
  refine c_seq ?_
  refine c_region ?_
  refine pures hs 1 [0, 3, 4] [(0, .slice p2 x1.length c3), (3, .pointer (some ⟨b1919, 0, none⟩)), (4, .int .i64 0)] (by kernel_rfl) fun a hs => ?_
  refine s_end ?_
  refine c_block ?_
  obtain ⟨y3338, hx3339, hk⟩ := bindE hk
  obtain ⟨J3340, hJ3340⟩ : ∃ J : Act → World → Prop, ∀ a w, J a w ↔ (catenarylaw06_BagRises_r59 = some r ∧ Sees a 112 [] ∧ St g w [F] ih) := ⟨_, fun _ _ => Iff.rfl⟩
  obtain ⟨I3341, hI3341⟩ : ∃ J : Nat → Act → World → Prop, ∀ j a w, J j a w ↔ (∃ (x2862 : Int) (x2863 : Int) (x2864 : List M106) (p2865 : Option Addr) (c2866 : Nat) (d2868 : Ch), catenarylaw06_BagRises_l60 k x1 y1917 j x2862 x2863 x2864 = some y3338 ∧ Sees a 112 [(0, .slice p2 x1.length c3), (3, .pointer (some ⟨b1919, 0, none⟩)), (4, .int .i64 x2862)] ∧ St g w [bx b1919 [.int .i64 y1917.1, .int .i64 x2863, .slice p2865 x2864.length c2866] 104, d2868, F] ih ∧ OSl e106 ih p2865 c2866 x2864 d2868) := ⟨_, fun _ _ _ => Iff.rfl⟩
  refine c_exitJ 0 J3340 ?_ ?_
  · refine c_loop I3341 k ((hI3341 _ _ _).2 ⟨0, y1917.2.1, y1917.2.2, p1921, c1922, d1924, hx3339, hs.cast [0, 3, 4] (by kernel_rfl), hw.pick [0, 1, 2] (by kernel_rfl), h1923⟩) (fun a w h0 => ?_) fun j a w hh => ?_
    · obtain ⟨_, _, _, _, _, _, h, _⟩ := (hI3341 _ _ _).1 h0
      cases h
    · obtain ⟨x2862, x2863, x2864, p2865, c2866, d2868, hx3339, hs, hw, h2867⟩ := (hI3341 _ _ _).1 hh
      refine c_seq ?_
      refine c_seq ?_
      obtain ⟨J3345, hJ3345⟩ : ∃ J : Act → World → Prop, ∀ a w, J a w ↔ (Sees a 112 [(0, .slice p2 x1.length c3), (3, .pointer (some ⟨b1919, 0, none⟩)), (4, .int .i64 x2862), (16, .bool ((decide (x2862 < (x1.length : Int))) && (decide (x2862 < 60))))] ∧ St g w [bx b1919 [.int .i64 y1917.1, .int .i64 x2863, .slice p2865 x2864.length c2866] 104, d2868, F] ih) := ⟨_, fun _ _ => Iff.rfl⟩
      refine c_regJ J3345 ?_ ?_
      · refine pures hs 5 [0, 3, 4, 13] [(0, .slice p2 x1.length c3), (3, .pointer (some ⟨b1919, 0, none⟩)), (4, .int .i64 x2862), (13, .bool (decide (x2862 < (x1.length : Int))))] (by kernel_rfl) fun a hs => ?_
        rcases boolE (decide (x2862 < (x1.length : Int))) with h3346 | h3346
        · replace hs := hs.altB 13 true (by kernel_rfl) h3346
          refine pures hs 3 [0, 3, 4, 16] [(0, .slice p2 x1.length c3), (3, .pointer (some ⟨b1919, 0, none⟩)), (4, .int .i64 x2862), (16, .bool (decide (x2862 < 60)))] (by kernel_rfl) fun a hs => ?_
          refine s_end ?_
          exact (hJ3345 _ _).2 ⟨(hs.altB 16 ((decide (x2862 < (x1.length : Int))) && (decide (x2862 < 60))) (by kernel_rfl) (by rw [h3346] <;> rfl)).cast [0, 3, 4, 16] (by kernel_rfl), hw.pick [0, 1, 2] (by kernel_rfl)⟩
        · replace hs := hs.altB 13 false (by kernel_rfl) h3346
          refine pures hs 3 [0, 3, 4, 16] [(0, .slice p2 x1.length c3), (3, .pointer (some ⟨b1919, 0, none⟩)), (4, .int .i64 x2862), (16, .bool false)] (by kernel_rfl) fun a hs => ?_
          refine s_end ?_
          exact (hJ3345 _ _).2 ⟨(hs.altB 16 ((decide (x2862 < (x1.length : Int))) && (decide (x2862 < 60))) (by kernel_rfl) (by rw [h3346] <;> rfl)).cast [0, 3, 4, 16] (by kernel_rfl), hw.pick [0, 1, 2] (by kernel_rfl)⟩
      · intro a w hh
        obtain ⟨hs, hw⟩ := (hJ3345 _ _).1 hh
        rcases ifbE hx3339 with ⟨h3347, hx3339⟩ | ⟨h3347, hx3339⟩
        · refine c_cond1 hs (by kernel_rfl) (t := ((decide (x2862 < (x1.length : Int))) && (decide (x2862 < 60)))) (by kernel_rfl) h3347 ?_
          refine c_skip ?_
          refine c_seq ?_
          refine c_block ?_
          refine c_seq ?_
          refine c_region ?_
          refine pures hs 1 [0, 3, 4, 19] [(0, .slice p2 x1.length c3), (3, .pointer (some ⟨b1919, 0, none⟩)), (4, .int .i64 x2862), (19, .pointer (some ⟨b1919, 0, none⟩))] (by kernel_rfl) fun a hs => ?_
          obtain ⟨y3350, h3351, hx3339⟩ := bindE hx3339
          refine s_call hs (by kernel_rfl) (by kernel_rfl) (bag_Bag_int_Last_s h3351 h2867 ((hw.pick [0, 1, 2] (by kernel_rfl)).pack 2)) fun a w v hv hs => ?_
          obtain ⟨rfl, hw⟩ := hv
          replace hw := hw.unpack 2 rfl
          refine pures hs 1 [0, 3, 4, 5] [(0, .slice p2 x1.length c3), (3, .pointer (some ⟨b1919, 0, none⟩)), (4, .int .i64 x2862), (5, .int .i64 y3350)] (by kernel_rfl) fun a hs => ?_
          refine s_end ?_
          obtain ⟨y3719, hx3720, hx3339⟩ := bindE hx3339
          obtain ⟨J3721, hJ3721⟩ : ∃ J : Act → World → Prop, ∀ a w, J a w ↔ (∃ (x3435 : Int) (x3436 : List M106) (p3437 : Option Addr) (c3438 : Nat) (d3440 : Ch), catenarylaw06_BagRises_r68 k (catenarylaw06_BagRises_l60 k x1 y1917 j) y1917 y3350 x2862 x3435 x3436 = some y3338 ∧ Sees a 112 [(0, .slice p2 x1.length c3), (3, .pointer (some ⟨b1919, 0, none⟩)), (4, .int .i64 x2862), (5, .int .i64 y3350)] ∧ St g w [bx b1919 [.int .i64 y1917.1, .int .i64 x3435, .slice p3437 x3436.length c3438] 104, d3440, F] ih ∧ OSl e106 ih p3437 c3438 x3436 d3440) := ⟨_, fun _ _ => Iff.rfl⟩
          refine c_seqJ J3721 ?_ ?_
          · refine c_seq ?_
            refine c_region ?_
            refine pures hs 2 [0, 3, 4, 5, 21, 22] [(0, .slice p2 x1.length c3), (3, .pointer (some ⟨b1919, 0, none⟩)), (4, .int .i64 x2862), (5, .int .i64 y3350), (21, .slice p2 x1.length c3), (22, .int .i64 x2862)] (by kernel_rfl) fun a hs => ?_
            obtain ⟨x3726, h3727, hx3720⟩ := bindE hx3720
            refine s_index hs h4 (by kernel_rfl) (by kernel_rfl) (k := .i64) (by kernel_rfl) 74 (by kernel_rfl) (by kernel_rfl) h3727 fun a r3728 cs henc at3729 hs => ?_
            obtain rfl := henc
            refine pures hs 1 [0, 3, 4, 5, 24] [(0, .slice p2 x1.length c3), (3, .pointer (some ⟨b1919, 0, none⟩)), (4, .int .i64 x2862), (5, .int .i64 y3350), (24, .pointer (some r3728))] (by kernel_rfl) fun a hs => ?_
            refine s_load hs (at3729 _ (((hw.vw 2 rfl).sub h6).anti (Le.refl _))) 0 (by kernel_rfl) (by kernel_rfl) (v := .int .i64 x3726.f0) (by kernel_rfl) fun a hs => ?_
            refine s_end ?_
            refine c_block ?_
            refine c_seq ?_
            refine c_region ?_
            refine pures hs 2 [0, 3, 4, 5, 25, 28] [(0, .slice p2 x1.length c3), (3, .pointer (some ⟨b1919, 0, none⟩)), (4, .int .i64 x2862), (5, .int .i64 y3350), (25, .int .i64 x3726.f0), (28, .bool (x3726.f0 == 0))] (by kernel_rfl) fun a hs => ?_
            refine s_end ?_
            rcases ifbE hx3720 with ⟨h3730, hx3720⟩ | ⟨h3730, hx3720⟩
            · refine c_cond1 hs (by kernel_rfl) (t := (x3726.f0 == 0)) (by kernel_rfl) h3730 ?_
              refine c_region ?_
              refine pures hs 3 [0, 3, 4, 5, 30, 31, 32] [(0, .slice p2 x1.length c3), (3, .pointer (some ⟨b1919, 0, none⟩)), (4, .int .i64 x2862), (5, .int .i64 y3350), (30, .pointer (some ⟨b1919, 0, none⟩)), (31, .slice p2 x1.length c3), (32, .int .i64 x2862)] (by kernel_rfl) fun a hs => ?_
              obtain ⟨x3741, h3742, hx3720⟩ := bindE hx3720
              refine s_index hs h4 (by kernel_rfl) (by kernel_rfl) (k := .i64) (by kernel_rfl) 74 (by kernel_rfl) (by kernel_rfl) h3742 fun a r3743 cs henc at3744 hs => ?_
              obtain rfl := henc
              refine pures hs 1 [0, 3, 4, 5, 30, 34] [(0, .slice p2 x1.length c3), (3, .pointer (some ⟨b1919, 0, none⟩)), (4, .int .i64 x2862), (5, .int .i64 y3350), (30, .pointer (some ⟨b1919, 0, none⟩)), (34, .pointer (some (r3743.add 2)))] (by kernel_rfl) fun a hs => ?_
              refine s_load hs (at3744 _ (((hw.vw 2 rfl).sub h6).anti (Le.refl _))) 2 (by kernel_rfl) (by kernel_rfl) (v := .int .i64 x3741.f2) (by kernel_rfl) fun a hs => ?_
              obtain ⟨y3745, h3746, hx3720⟩ := bindE hx3720
              refine s_call hs (by kernel_rfl) (by kernel_rfl) (bag_Bag_int_Put_s h3746 h2867 ((hw.pick [0, 1, 2] (by kernel_rfl)).pack 2)) fun a w v hv hs => ?_
              obtain ⟨p3747, c3748, d3750, rfl, hw, h3749⟩ := hv
              replace hw := hw.unpack 2 rfl
              refine s_end ?_
              obtain rfl := someE hx3720
              exact (hJ3721 _ _).2 ⟨y3745.2.2.1, y3745.2.2.2, p3747, c3748, d3750, hx3339, hs.cast [0, 3, 4, 5] (by kernel_rfl), hw.pick [0, 1, 2] (by kernel_rfl), h3749⟩
            · refine c_cond0 hs (by kernel_rfl) (t := (x3726.f0 == 0)) (by kernel_rfl) h3730 ?_
              refine c_seq ?_
              refine c_region ?_
              refine pures hs 2 [0, 3, 4, 5, 25, 37] [(0, .slice p2 x1.length c3), (3, .pointer (some ⟨b1919, 0, none⟩)), (4, .int .i64 x2862), (5, .int .i64 y3350), (25, .int .i64 x3726.f0), (37, .bool (x3726.f0 == 1))] (by kernel_rfl) fun a hs => ?_
              refine s_end ?_
              rcases ifbE hx3720 with ⟨h3751, hx3720⟩ | ⟨h3751, hx3720⟩
              · refine c_cond1 hs (by kernel_rfl) (t := (x3726.f0 == 1)) (by kernel_rfl) h3751 ?_
                refine c_region ?_
                refine pures hs 3 [0, 3, 4, 5, 39, 40, 41] [(0, .slice p2 x1.length c3), (3, .pointer (some ⟨b1919, 0, none⟩)), (4, .int .i64 x2862), (5, .int .i64 y3350), (39, .pointer (some ⟨b1919, 0, none⟩)), (40, .slice p2 x1.length c3), (41, .int .i64 x2862)] (by kernel_rfl) fun a hs => ?_
                obtain ⟨x3762, h3763, hx3720⟩ := bindE hx3720
                refine s_index hs h4 (by kernel_rfl) (by kernel_rfl) (k := .i64) (by kernel_rfl) 74 (by kernel_rfl) (by kernel_rfl) h3763 fun a r3764 cs henc at3765 hs => ?_
                obtain rfl := henc
                refine pures hs 1 [0, 3, 4, 5, 39, 43] [(0, .slice p2 x1.length c3), (3, .pointer (some ⟨b1919, 0, none⟩)), (4, .int .i64 x2862), (5, .int .i64 y3350), (39, .pointer (some ⟨b1919, 0, none⟩)), (43, .pointer (some (r3764.add 1)))] (by kernel_rfl) fun a hs => ?_
                refine s_load hs (at3765 _ (((hw.vw 2 rfl).sub h6).anti (Le.refl _))) 1 (by kernel_rfl) (by kernel_rfl) (v := .int .i64 x3762.f1) (by kernel_rfl) fun a hs => ?_
                obtain ⟨y3766, h3767, hx3720⟩ := bindE hx3720
                refine s_call hs (by kernel_rfl) (by kernel_rfl) (bag_Bag_int_Twice_s h3767 h2867 ((hw.pick [0, 1, 2] (by kernel_rfl)).pack 2)) fun a w v hv hs => ?_
                obtain ⟨p3768, c3769, d3771, rfl, hw, h3770⟩ := hv
                replace hw := hw.unpack 2 rfl
                refine s_end ?_
                obtain rfl := someE hx3720
                exact (hJ3721 _ _).2 ⟨y3766.2.2.1, y3766.2.2.2, p3768, c3769, d3771, hx3339, hs.cast [0, 3, 4, 5] (by kernel_rfl), hw.pick [0, 1, 2] (by kernel_rfl), h3770⟩
              · refine c_cond0 hs (by kernel_rfl) (t := (x3726.f0 == 1)) (by kernel_rfl) h3751 ?_
                refine c_seq ?_
                refine c_region ?_
                refine pures hs 2 [0, 3, 4, 5, 46] [(0, .slice p2 x1.length c3), (3, .pointer (some ⟨b1919, 0, none⟩)), (4, .int .i64 x2862), (5, .int .i64 y3350), (46, .bool (x3726.f0 == 2))] (by kernel_rfl) fun a hs => ?_
                refine s_end ?_
                rcases ifbE hx3720 with ⟨h3772, hx3720⟩ | ⟨h3772, hx3720⟩
                · refine c_cond1 hs (by kernel_rfl) (t := (x3726.f0 == 2)) (by kernel_rfl) h3772 ?_
                  refine c_region ?_
                  refine pures hs 3 [0, 3, 4, 5, 48, 49, 50] [(0, .slice p2 x1.length c3), (3, .pointer (some ⟨b1919, 0, none⟩)), (4, .int .i64 x2862), (5, .int .i64 y3350), (48, .pointer (some ⟨b1919, 0, none⟩)), (49, .slice p2 x1.length c3), (50, .int .i64 x2862)] (by kernel_rfl) fun a hs => ?_
                  obtain ⟨x3783, h3784, hx3720⟩ := bindE hx3720
                  refine s_index hs h4 (by kernel_rfl) (by kernel_rfl) (k := .i64) (by kernel_rfl) 74 (by kernel_rfl) (by kernel_rfl) h3784 fun a r3785 cs henc at3786 hs => ?_
                  obtain rfl := henc
                  refine pures hs 1 [0, 3, 4, 5, 48, 52] [(0, .slice p2 x1.length c3), (3, .pointer (some ⟨b1919, 0, none⟩)), (4, .int .i64 x2862), (5, .int .i64 y3350), (48, .pointer (some ⟨b1919, 0, none⟩)), (52, .pointer (some (r3785.add 1)))] (by kernel_rfl) fun a hs => ?_
                  refine s_load hs (at3786 _ (((hw.vw 2 rfl).sub h6).anti (Le.refl _))) 1 (by kernel_rfl) (by kernel_rfl) (v := .int .i64 x3783.f1) (by kernel_rfl) fun a hs => ?_
                  obtain ⟨y3787, h3788, hx3720⟩ := bindE hx3720
                  refine s_call hs (by kernel_rfl) (by kernel_rfl) (bag_Bag_int_Take_s h3788 h2867 ((hw.pick [0, 1, 2] (by kernel_rfl)).pack 2)) fun a w v hv hs => ?_
                  obtain ⟨p3789, c3790, d3792, rfl, hw, h3791⟩ := hv
                  replace hw := hw.unpack 2 rfl
                  refine s_end ?_
                  obtain rfl := someE hx3720
                  exact (hJ3721 _ _).2 ⟨x2863, y3787.2.2, p3789, c3790, d3792, hx3339, hs.cast [0, 3, 4, 5] (by kernel_rfl), hw.pick [0, 1, 2] (by kernel_rfl), h3791⟩
                · refine c_cond0 hs (by kernel_rfl) (t := (x3726.f0 == 2)) (by kernel_rfl) h3772 ?_
                  refine c_region ?_
                  refine pures hs 1 [0, 3, 4, 5, 26] [(0, .slice p2 x1.length c3), (3, .pointer (some ⟨b1919, 0, none⟩)), (4, .int .i64 x2862), (5, .int .i64 y3350), (26, .pointer (some ⟨b1919, 0, none⟩))] (by kernel_rfl) fun a hs => ?_
                  obtain ⟨y3799, h3800, hx3720⟩ := bindE hx3720
                  refine s_call hs (by kernel_rfl) (by kernel_rfl) (bag_Bag_int_Keep_s h3800 h2867 ((hw.pick [0, 1, 2] (by kernel_rfl)).pack 2)) fun a w v hv hs => ?_
                  obtain ⟨p3801, c3802, d3804, rfl, hw, h3803⟩ := hv
                  replace hw := hw.unpack 2 rfl
                  refine s_end ?_
                  obtain rfl := someE hx3720
                  exact (hJ3721 _ _).2 ⟨x2863, y3799.2, p3801, c3802, d3804, hx3339, hs.cast [0, 3, 4, 5] (by kernel_rfl), hw.pick [0, 1, 2] (by kernel_rfl), h3803⟩
          · intro a w hh
            obtain ⟨x3435, x3436, p3437, c3438, d3440, hx3339, hs, hw, h3439⟩ := (hJ3721 _ _).1 hh
            refine c_seq ?_
            refine c_seq ?_
            obtain ⟨y3710, hx3711, hx3339⟩ := bindE hx3339
            obtain ⟨J3712, hJ3712⟩ : ∃ J : Act → World → Prop, ∀ a w, J a w ↔ (∃ (x3452 : Bool), catenarylaw06_BagRises_r67 k (catenarylaw06_BagRises_l60 k x1 y1917 j) y1917 x3435 x3436 x2862 x3452 = some y3338 ∧ Sees a 112 [(0, .slice p2 x1.length c3), (3, .pointer (some ⟨b1919, 0, none⟩)), (4, .int .i64 x2862), (65, .bool x3452)] ∧ St g w [bx b1919 [.int .i64 y1917.1, .int .i64 x3435, .slice p3437 x3436.length c3438] 104, d3440, F] ih) := ⟨_, fun _ _ => Iff.rfl⟩
            refine c_regJ J3712 ?_ ?_
            · refine pures hs 1 [0, 3, 4, 5, 55] [(0, .slice p2 x1.length c3), (3, .pointer (some ⟨b1919, 0, none⟩)), (4, .int .i64 x2862), (5, .int .i64 y3350), (55, .pointer (some ⟨b1919, 0, none⟩))] (by kernel_rfl) fun a hs => ?_
              obtain ⟨y3713, h3714, hx3711⟩ := bindE hx3711
              refine s_call hs (by kernel_rfl) (by kernel_rfl) (bag_Bag_int_Last_s h3714 h3439 ((hw.pick [0, 1, 2] (by kernel_rfl)).pack 2)) fun a w v hv hs => ?_
              obtain ⟨rfl, hw⟩ := hv
              replace hw := hw.unpack 2 rfl
              refine pures hs 3 [0, 3, 4, 5, 59] [(0, .slice p2 x1.length c3), (3, .pointer (some ⟨b1919, 0, none⟩)), (4, .int .i64 x2862), (5, .int .i64 y3350), (59, .bool (decide (y3713 < y3350)))] (by kernel_rfl) fun a hs => ?_
              rcases ifbE hx3711 with ⟨h3715, hx3711⟩ | ⟨h3715, hx3711⟩
              · replace hs := hs.altB 59 true (by kernel_rfl) h3715
                refine pures hs 6 [0, 3, 4, 65] [(0, .slice p2 x1.length c3), (3, .pointer (some ⟨b1919, 0, none⟩)), (4, .int .i64 x2862), (65, .bool true)] (by kernel_rfl) fun a hs => ?_
                refine s_end ?_
                obtain rfl := someE hx3711
                exact (hJ3712 _ _).2 ⟨true, hx3339, hs.cast [0, 3, 4, 65] (by kernel_rfl), hw.pick [0, 1, 2] (by kernel_rfl)⟩
              · replace hs := hs.altB 59 false (by kernel_rfl) h3715
                refine pures hs 1 [0, 3, 4, 5, 59, 60] [(0, .slice p2 x1.length c3), (3, .pointer (some ⟨b1919, 0, none⟩)), (4, .int .i64 x2862), (5, .int .i64 y3350), (59, .bool false), (60, .pointer (some ⟨b1919, 0, none⟩))] (by kernel_rfl) fun a hs => ?_
                obtain ⟨y3716, h3717, hx3711⟩ := bindE hx3711
                refine s_call hs (by kernel_rfl) (by kernel_rfl) (bag_Bag_int_Last_s h3717 h3439 ((hw.pick [0, 1, 2] (by kernel_rfl)).pack 2)) fun a w v hv hs => ?_
                obtain ⟨rfl, hw⟩ := hv
                replace hw := hw.unpack 2 rfl
                refine pures hs 4 [0, 3, 4, 65] [(0, .slice p2 x1.length c3), (3, .pointer (some ⟨b1919, 0, none⟩)), (4, .int .i64 x2862), (65, .bool (decide (y3716 > (IntKind.i64.wrap (y3350 + 1)))))] (by kernel_rfl) fun a hs => ?_
                refine s_end ?_
                obtain rfl := someE hx3711
                exact (hJ3712 _ _).2 ⟨(decide (y3716 > (IntKind.i64.wrap (y3350 + 1)))), hx3339, hs.cast [0, 3, 4, 65] (by kernel_rfl), hw.pick [0, 1, 2] (by kernel_rfl)⟩
            · intro a w hh
              obtain ⟨x3452, hx3339, hs, hw⟩ := (hJ3712 _ _).1 hh
              rcases ifbE hx3339 with ⟨h3453, hx3339⟩ | ⟨h3453, hx3339⟩
              · refine c_cond1 hs (by kernel_rfl) (t := x3452) (by kernel_rfl) h3453 ?_
                refine c_seq ?_
                refine c_region ?_
                refine pures hs 1 [2] [(2, .bool false)] (by kernel_rfl) fun a hs => ?_
                refine s_end ?_
                refine c_ret ?_
                obtain rfl := someE hx3339
                obtain rfl := someE hk
                refine hQ _ _ (f_ret1 hs rfl (v := .bool false) (by kernel_rfl) ⟨rfl, hw.pick [2] (by kernel_rfl)⟩)
              · refine c_cond0 hs (by kernel_rfl) (t := x3452) (by kernel_rfl) h3453 ?_
                refine c_skip ?_
                refine c_seq ?_
                refine c_region ?_
                refine pures hs 1 [0, 3, 4, 6] [(0, .slice p2 x1.length c3), (3, .pointer (some ⟨b1919, 0, none⟩)), (4, .int .i64 x2862), (6, .int .i64 0)] (by kernel_rfl) fun a hs => ?_
                refine s_end ?_
                refine c_block ?_
                obtain ⟨y3636, hx3637, hx3339⟩ := bindE hx3339
                obtain ⟨J3638, hJ3638⟩ : ∃ J : Act → World → Prop, ∀ a w, J a w ↔ (catenarylaw06_BagRises_r64 (catenarylaw06_BagRises_l60 k x1 y1917 j) x2862 x3435 x3436 = some y3338 ∧ Sees a 112 [(0, .slice p2 x1.length c3), (3, .pointer (some ⟨b1919, 0, none⟩)), (4, .int .i64 x2862)] ∧ St g w [bx b1919 [.int .i64 y1917.1, .int .i64 x3435, .slice p3437 x3436.length c3438] 104, d3440, F] ih) := ⟨_, fun _ _ => Iff.rfl⟩
                obtain ⟨I3639, hI3639⟩ : ∃ J : Nat → Act → World → Prop, ∀ j a w, J j a w ↔ (∃ (x3566 : Int), catenarylaw06_BagRises_l65 k y1917 x3435 x3436 j x3566 = some y3636 ∧ Sees a 112 [(0, .slice p2 x1.length c3), (3, .pointer (some ⟨b1919, 0, none⟩)), (4, .int .i64 x2862), (6, .int .i64 x3566)] ∧ St g w [bx b1919 [.int .i64 y1917.1, .int .i64 x3435, .slice p3437 x3436.length c3438] 104, d3440, F] ih) := ⟨_, fun _ _ _ => Iff.rfl⟩
                refine c_exitJ 3 J3638 ?_ ?_
                · refine c_loop I3639 k ((hI3639 _ _ _).2 ⟨0, hx3637, hs.cast [0, 3, 4, 6] (by kernel_rfl), hw.pick [0, 1, 2] (by kernel_rfl)⟩) (fun a w h0 => ?_) fun j a w hh => ?_
                  · obtain ⟨_, h, _⟩ := (hI3639 _ _ _).1 h0
                    cases h
                  · obtain ⟨x3566, hx3637, hs, hw⟩ := (hI3639 _ _ _).1 hh
                    refine c_seq ?_
                    refine c_seq ?_
                    refine c_region ?_
                    refine pures hs 2 [0, 3, 4, 6, 66, 67] [(0, .slice p2 x1.length c3), (3, .pointer (some ⟨b1919, 0, none⟩)), (4, .int .i64 x2862), (6, .int .i64 x3566), (66, .int .i64 x3566), (67, .pointer (some ⟨b1919, 0, none⟩))] (by kernel_rfl) fun a hs => ?_
                    obtain ⟨y3642, h3643, hx3637⟩ := bindE hx3637
                    refine s_call hs (by kernel_rfl) (by kernel_rfl) (bag_Bag_int_Len_s h3643 h3439 ((hw.pick [0, 1, 2] (by kernel_rfl)).pack 2)) fun a w v hv hs => ?_
                    obtain ⟨rfl, hw⟩ := hv
                    replace hw := hw.unpack 2 rfl
                    refine pures hs 1 [0, 3, 4, 6, 69] [(0, .slice p2 x1.length c3), (3, .pointer (some ⟨b1919, 0, none⟩)), (4, .int .i64 x2862), (6, .int .i64 x3566), (69, .bool (decide (x3566 < y3642)))] (by kernel_rfl) fun a hs => ?_
                    refine s_end ?_
                    rcases ifbE hx3637 with ⟨h3644, hx3637⟩ | ⟨h3644, hx3637⟩
                    · refine c_cond1 hs (by kernel_rfl) (t := (decide (x3566 < y3642))) (by kernel_rfl) h3644 ?_
                      refine c_skip ?_
                      refine c_seq ?_
                      refine c_block ?_
                      refine c_seq ?_
                      refine c_region ?_
                      refine pures hs 2 [0, 3, 4, 6, 72, 73] [(0, .slice p2 x1.length c3), (3, .pointer (some ⟨b1919, 0, none⟩)), (4, .int .i64 x2862), (6, .int .i64 x3566), (72, .pointer (some ⟨b1919, 0, none⟩)), (73, .int .i64 x3566)] (by kernel_rfl) fun a hs => ?_
                      obtain ⟨y3647, h3648, hx3637⟩ := bindE hx3637
                      refine s_call hs (by kernel_rfl) (by kernel_rfl) (bag_Bag_int_No_s h3648 h3439 ((hw.pick [0, 1, 2] (by kernel_rfl)).pack 2)) fun a w v hv hs => ?_
                      obtain ⟨rfl, hw⟩ := hv
                      replace hw := hw.unpack 2 rfl
                      refine pures hs 1 [0, 3, 4, 6, 7] [(0, .slice p2 x1.length c3), (3, .pointer (some ⟨b1919, 0, none⟩)), (4, .int .i64 x2862), (6, .int .i64 x3566), (7, .int .i64 y3647)] (by kernel_rfl) fun a hs => ?_
                      refine s_end ?_
                      refine c_seq ?_
                      obtain ⟨y3687, hx3688, hx3637⟩ := bindE hx3637
                      obtain ⟨J3689, hJ3689⟩ : ∃ J : Act → World → Prop, ∀ a w, J a w ↔ (∃ (x3685 : Bool), catenarylaw06_BagRises_r66 (catenarylaw06_BagRises_l65 k y1917 x3435 x3436 j) x3566 x3685 = some y3636 ∧ Sees a 112 [(0, .slice p2 x1.length c3), (3, .pointer (some ⟨b1919, 0, none⟩)), (4, .int .i64 x2862), (6, .int .i64 x3566), (110, .bool x3685)] ∧ St g w [bx b1919 [.int .i64 y1917.1, .int .i64 x3435, .slice p3437 x3436.length c3438] 104, d3440, F] ih) := ⟨_, fun _ _ => Iff.rfl⟩
                      refine c_regJ J3689 ?_ ?_
                      · refine pures hs 3 [0, 3, 4, 6, 7, 77] [(0, .slice p2 x1.length c3), (3, .pointer (some ⟨b1919, 0, none⟩)), (4, .int .i64 x2862), (6, .int .i64 x3566), (7, .int .i64 y3647), (77, .bool (decide (y3647 < 1)))] (by kernel_rfl) fun a hs => ?_
                        rcases ifbE hx3688 with ⟨h3690, hx3688⟩ | ⟨h3690, hx3688⟩
                        · replace hs := hs.altB 77 true (by kernel_rfl) h3690
                          refine pures hs 33 [0, 3, 4, 6, 110] [(0, .slice p2 x1.length c3), (3, .pointer (some ⟨b1919, 0, none⟩)), (4, .int .i64 x2862), (6, .int .i64 x3566), (110, .bool true)] (by kernel_rfl) fun a hs => ?_
                          refine s_end ?_
                          obtain rfl := someE hx3688
                          exact (hJ3689 _ _).2 ⟨true, hx3637, hs.cast [0, 3, 4, 6, 110] (by kernel_rfl), hw.pick [0, 1, 2] (by kernel_rfl)⟩
                        · replace hs := hs.altB 77 false (by kernel_rfl) h3690
                          refine pures hs 2 [0, 3, 4, 6, 7, 77, 78, 79] [(0, .slice p2 x1.length c3), (3, .pointer (some ⟨b1919, 0, none⟩)), (4, .int .i64 x2862), (6, .int .i64 x3566), (7, .int .i64 y3647), (77, .bool false), (78, .int .i64 y3647), (79, .pointer (some ⟨b1919, 0, none⟩))] (by kernel_rfl) fun a hs => ?_
                          obtain ⟨y3691, h3692, hx3688⟩ := bindE hx3688
                          refine s_call hs (by kernel_rfl) (by kernel_rfl) (bag_Bag_int_Last_s h3692 h3439 ((hw.pick [0, 1, 2] (by kernel_rfl)).pack 2)) fun a w v hv hs => ?_
                          obtain ⟨rfl, hw⟩ := hv
                          replace hw := hw.unpack 2 rfl
                          refine pures hs 3 [0, 3, 4, 6, 7, 83] [(0, .slice p2 x1.length c3), (3, .pointer (some ⟨b1919, 0, none⟩)), (4, .int .i64 x2862), (6, .int .i64 x3566), (7, .int .i64 y3647), (83, .bool (decide (y3647 > y3691)))] (by kernel_rfl) fun a hs => ?_
                          rcases ifbE hx3688 with ⟨h3693, hx3688⟩ | ⟨h3693, hx3688⟩
                          · replace hs := hs.altB 83 true (by kernel_rfl) h3693
                            refine pures hs 27 [0, 3, 4, 6, 110] [(0, .slice p2 x1.length c3), (3, .pointer (some ⟨b1919, 0, none⟩)), (4, .int .i64 x2862), (6, .int .i64 x3566), (110, .bool true)] (by kernel_rfl) fun a hs => ?_
                            refine s_end ?_
                            obtain rfl := someE hx3688
                            exact (hJ3689 _ _).2 ⟨true, hx3637, hs.cast [0, 3, 4, 6, 110] (by kernel_rfl), hw.pick [0, 1, 2] (by kernel_rfl)⟩
                          · replace hs := hs.altB 83 false (by kernel_rfl) h3693
                            refine pures hs 3 [0, 3, 4, 6, 7, 83, 86] [(0, .slice p2 x1.length c3), (3, .pointer (some ⟨b1919, 0, none⟩)), (4, .int .i64 x2862), (6, .int .i64 x3566), (7, .int .i64 y3647), (83, .bool false), (86, .bool (decide (x3566 > 0)))] (by kernel_rfl) fun a hs => ?_
                            rcases ifbE hx3688 with ⟨h3694, hx3688⟩ | ⟨h3694, hx3688⟩
                            · replace hs := hs.altB 86 true (by kernel_rfl) h3694
                              refine pures hs 4 [0, 3, 4, 6, 7, 83, 86, 87, 88, 90] [(0, .slice p2 x1.length c3), (3, .pointer (some ⟨b1919, 0, none⟩)), (4, .int .i64 x2862), (6, .int .i64 x3566), (7, .int .i64 y3647), (83, .bool false), (86, .bool true), (87, .int .i64 y3647), (88, .pointer (some ⟨b1919, 0, none⟩)), (90, .int .i64 (IntKind.i64.wrap (x3566 - 1)))] (by kernel_rfl) fun a hs => ?_
                              obtain ⟨y3695, h3696, hx3688⟩ := bindE hx3688
                              refine s_call hs (by kernel_rfl) (by kernel_rfl) (bag_Bag_int_No_s h3696 h3439 ((hw.pick [0, 1, 2] (by kernel_rfl)).pack 2)) fun a w v hv hs => ?_
                              obtain ⟨rfl, hw⟩ := hv
                              replace hw := hw.unpack 2 rfl
                              refine pures hs 4 [0, 3, 4, 6, 7, 95] [(0, .slice p2 x1.length c3), (3, .pointer (some ⟨b1919, 0, none⟩)), (4, .int .i64 x2862), (6, .int .i64 x3566), (7, .int .i64 y3647), (95, .bool (decide (y3647 ≤ y3695)))] (by kernel_rfl) fun a hs => ?_
                              rcases ifbE hx3688 with ⟨h3697, hx3688⟩ | ⟨h3697, hx3688⟩
                              · replace hs := hs.altB 95 true (by kernel_rfl) h3697
                                refine pures hs 15 [0, 3, 4, 6, 110] [(0, .slice p2 x1.length c3), (3, .pointer (some ⟨b1919, 0, none⟩)), (4, .int .i64 x2862), (6, .int .i64 x3566), (110, .bool true)] (by kernel_rfl) fun a hs => ?_
                                refine s_end ?_
                                obtain rfl := someE hx3688
                                exact (hJ3689 _ _).2 ⟨true, hx3637, hs.cast [0, 3, 4, 6, 110] (by kernel_rfl), hw.pick [0, 1, 2] (by kernel_rfl)⟩
                              · replace hs := hs.altB 95 false (by kernel_rfl) h3697
                                refine pures hs 2 [0, 3, 4, 6, 7, 95, 96, 97] [(0, .slice p2 x1.length c3), (3, .pointer (some ⟨b1919, 0, none⟩)), (4, .int .i64 x2862), (6, .int .i64 x3566), (7, .int .i64 y3647), (95, .bool false), (96, .pointer (some ⟨b1919, 0, none⟩)), (97, .int .i64 y3647)] (by kernel_rfl) fun a hs => ?_
                                obtain ⟨y3698, h3699, hx3688⟩ := bindE hx3688
                                refine s_call hs (by kernel_rfl) (by kernel_rfl) (bag_Bag_int_Upto_s h3699 h3439 ((hw.pick [0, 1, 2] (by kernel_rfl)).pack 2)) fun a w v hv hs => ?_
                                obtain ⟨rfl, hw⟩ := hv
                                replace hw := hw.unpack 2 rfl
                                refine pures hs 5 [0, 3, 4, 6, 7, 103] [(0, .slice p2 x1.length c3), (3, .pointer (some ⟨b1919, 0, none⟩)), (4, .int .i64 x2862), (6, .int .i64 x3566), (7, .int .i64 y3647), (103, .bool (y3698 != (IntKind.i64.wrap (x3566 + 1))))] (by kernel_rfl) fun a hs => ?_
                                rcases ifbE hx3688 with ⟨h3700, hx3688⟩ | ⟨h3700, hx3688⟩
                                · replace hs := hs.altB 103 true (by kernel_rfl) h3700
                                  refine pures hs 7 [0, 3, 4, 6, 110] [(0, .slice p2 x1.length c3), (3, .pointer (some ⟨b1919, 0, none⟩)), (4, .int .i64 x2862), (6, .int .i64 x3566), (110, .bool true)] (by kernel_rfl) fun a hs => ?_
                                  refine s_end ?_
                                  obtain rfl := someE hx3688
                                  exact (hJ3689 _ _).2 ⟨true, hx3637, hs.cast [0, 3, 4, 6, 110] (by kernel_rfl), hw.pick [0, 1, 2] (by kernel_rfl)⟩
                                · replace hs := hs.altB 103 false (by kernel_rfl) h3700
                                  refine pures hs 3 [0, 3, 4, 6, 103, 104, 106] [(0, .slice p2 x1.length c3), (3, .pointer (some ⟨b1919, 0, none⟩)), (4, .int .i64 x2862), (6, .int .i64 x3566), (103, .bool false), (104, .pointer (some ⟨b1919, 0, none⟩)), (106, .int .i64 (IntKind.i64.wrap (y3647 - 1)))] (by kernel_rfl) fun a hs => ?_
                                  obtain ⟨y3701, h3702, hx3688⟩ := bindE hx3688
                                  refine s_call hs (by kernel_rfl) (by kernel_rfl) (bag_Bag_int_Upto_s h3702 h3439 ((hw.pick [0, 1, 2] (by kernel_rfl)).pack 2)) fun a w v hv hs => ?_
                                  obtain ⟨rfl, hw⟩ := hv
                                  replace hw := hw.unpack 2 rfl
                                  refine pures hs 3 [0, 3, 4, 6, 110] [(0, .slice p2 x1.length c3), (3, .pointer (some ⟨b1919, 0, none⟩)), (4, .int .i64 x2862), (6, .int .i64 x3566), (110, .bool (y3701 != x3566))] (by kernel_rfl) fun a hs => ?_
                                  refine s_end ?_
                                  obtain rfl := someE hx3688
                                  exact (hJ3689 _ _).2 ⟨(y3701 != x3566), hx3637, hs.cast [0, 3, 4, 6, 110] (by kernel_rfl), hw.pick [0, 1, 2] (by kernel_rfl)⟩
                            · replace hs := hs.altB 86 false (by kernel_rfl) h3694
                              refine pures hs 11 [0, 3, 4, 6, 7, 95, 96, 97] [(0, .slice p2 x1.length c3), (3, .pointer (some ⟨b1919, 0, none⟩)), (4, .int .i64 x2862), (6, .int .i64 x3566), (7, .int .i64 y3647), (95, .bool false), (96, .pointer (some ⟨b1919, 0, none⟩)), (97, .int .i64 y3647)] (by kernel_rfl) fun a hs => ?_
                              obtain ⟨y3703, h3704, hx3688⟩ := bindE hx3688
                              refine s_call hs (by kernel_rfl) (by kernel_rfl) (bag_Bag_int_Upto_s h3704 h3439 ((hw.pick [0, 1, 2] (by kernel_rfl)).pack 2)) fun a w v hv hs => ?_
                              obtain ⟨rfl, hw⟩ := hv
                              replace hw := hw.unpack 2 rfl
                              refine pures hs 5 [0, 3, 4, 6, 7, 103] [(0, .slice p2 x1.length c3), (3, .pointer (some ⟨b1919, 0, none⟩)), (4, .int .i64 x2862), (6, .int .i64 x3566), (7, .int .i64 y3647), (103, .bool (y3703 != (IntKind.i64.wrap (x3566 + 1))))] (by kernel_rfl) fun a hs => ?_
                              rcases ifbE hx3688 with ⟨h3705, hx3688⟩ | ⟨h3705, hx3688⟩
                              · replace hs := hs.altB 103 true (by kernel_rfl) h3705
                                refine pures hs 7 [0, 3, 4, 6, 110] [(0, .slice p2 x1.length c3), (3, .pointer (some ⟨b1919, 0, none⟩)), (4, .int .i64 x2862), (6, .int .i64 x3566), (110, .bool true)] (by kernel_rfl) fun a hs => ?_
                                refine s_end ?_
                                obtain rfl := someE hx3688
                                exact (hJ3689 _ _).2 ⟨true, hx3637, hs.cast [0, 3, 4, 6, 110] (by kernel_rfl), hw.pick [0, 1, 2] (by kernel_rfl)⟩
                              · replace hs := hs.altB 103 false (by kernel_rfl) h3705
                                refine pures hs 3 [0, 3, 4, 6, 103, 104, 106] [(0, .slice p2 x1.length c3), (3, .pointer (some ⟨b1919, 0, none⟩)), (4, .int .i64 x2862), (6, .int .i64 x3566), (103, .bool false), (104, .pointer (some ⟨b1919, 0, none⟩)), (106, .int .i64 (IntKind.i64.wrap (y3647 - 1)))] (by kernel_rfl) fun a hs => ?_
                                obtain ⟨y3706, h3707, hx3688⟩ := bindE hx3688
                                refine s_call hs (by kernel_rfl) (by kernel_rfl) (bag_Bag_int_Upto_s h3707 h3439 ((hw.pick [0, 1, 2] (by kernel_rfl)).pack 2)) fun a w v hv hs => ?_
                                obtain ⟨rfl, hw⟩ := hv
                                replace hw := hw.unpack 2 rfl
                                refine pures hs 3 [0, 3, 4, 6, 110] [(0, .slice p2 x1.length c3), (3, .pointer (some ⟨b1919, 0, none⟩)), (4, .int .i64 x2862), (6, .int .i64 x3566), (110, .bool (y3706 != x3566))] (by kernel_rfl) fun a hs => ?_
                                refine s_end ?_
                                obtain rfl := someE hx3688
                                exact (hJ3689 _ _).2 ⟨(y3706 != x3566), hx3637, hs.cast [0, 3, 4, 6, 110] (by kernel_rfl), hw.pick [0, 1, 2] (by kernel_rfl)⟩
                      · intro a w hh
                        obtain ⟨x3685, hx3637, hs, hw⟩ := (hJ3689 _ _).1 hh
                        rcases ifbE hx3637 with ⟨h3686, hx3637⟩ | ⟨h3686, hx3637⟩
                        · refine c_cond1 hs (by kernel_rfl) (t := x3685) (by kernel_rfl) h3686 ?_
                          refine c_seq ?_
                          refine c_region ?_
                          refine pures hs 1 [2] [(2, .bool false)] (by kernel_rfl) fun a hs => ?_
                          refine s_end ?_
                          refine c_ret ?_
                          obtain rfl := someE hx3637
                          obtain rfl := someE hx3339
                          obtain rfl := someE hk
                          refine hQ _ _ (f_ret1 hs rfl (v := .bool false) (by kernel_rfl) ⟨rfl, hw.pick [2] (by kernel_rfl)⟩)
                        · refine c_cond0 hs (by kernel_rfl) (t := x3685) (by kernel_rfl) h3686 ?_
                          refine c_skip ?_
                          refine c_region ?_
                          refine pures hs 3 [0, 3, 4, 6] [(0, .slice p2 x1.length c3), (3, .pointer (some ⟨b1919, 0, none⟩)), (4, .int .i64 x2862), (6, .int .i64 (IntKind.i64.wrap (x3566 + 1)))] (by kernel_rfl) fun a hs => ?_
                          refine s_end ?_
                          exact (hI3639 _ _ _).2 ⟨(IntKind.i64.wrap (x3566 + 1)), hx3637, hs.cast [0, 3, 4, 6] (by kernel_rfl), hw.pick [0, 1, 2] (by kernel_rfl)⟩
                    · refine c_cond0 hs (by kernel_rfl) (t := (decide (x3566 < y3642))) (by kernel_rfl) h3644 ?_
                      refine c_exit ?_
                      obtain rfl := someE hx3637
                      exact (hJ3638 _ _).2 ⟨hx3339, hs.cast [0, 3, 4] (by kernel_rfl), hw.pick [0, 1, 2] (by kernel_rfl)⟩
                · intro a w hh
                  obtain ⟨hx3339, hs, hw⟩ := (hJ3638 _ _).1 hh
                  refine c_region ?_
                  refine pures hs 3 [0, 3, 4] [(0, .slice p2 x1.length c3), (3, .pointer (some ⟨b1919, 0, none⟩)), (4, .int .i64 (IntKind.i64.wrap (x2862 + 1)))] (by kernel_rfl) fun a hs => ?_
                  refine s_end ?_
                  exact (hI3341 _ _ _).2 ⟨(IntKind.i64.wrap (x2862 + 1)), x3435, x3436, p3437, c3438, d3440, hx3339, hs.cast [0, 3, 4] (by kernel_rfl), hw.pick [0, 1, 2] (by kernel_rfl), h3439⟩
        · refine c_cond0 hs (by kernel_rfl) (t := ((decide (x2862 < (x1.length : Int))) && (decide (x2862 < 60)))) (by kernel_rfl) h3347 ?_
          refine c_exit ?_
          obtain rfl := someE hx3339
          exact (hJ3340 _ _).2 ⟨hk, hs.cast [] (by kernel_rfl), hw.pick [2] (by kernel_rfl)⟩
  · intro a w hh
    obtain ⟨hk, hs, hw⟩ := (hJ3340 _ _).1 hh
    refine c_seq ?_
    refine c_region ?_
    obtain ⟨y3336, h3337, hk⟩ := bindE hk
    refine s_call hs (by kernel_rfl) (by kernel_rfl) (catenarylaw06_awake_s h3337 ((hw.pick [0] (by kernel_rfl)).pack 0)) fun a w v hv hs => ?_
    obtain ⟨rfl, hw⟩ := hv
    replace hw := hw.unpack 0 rfl
    refine pures hs 1 [2] [(2, .bool y3336)] (by kernel_rfl) fun a hs => ?_
    refine s_end ?_
    refine c_ret ?_
    obtain rfl := someE hk
    refine hQ _ _ (f_ret1 hs rfl (v := .bool y3336) (by kernel_rfl) ⟨rfl, hw.pick [0] (by kernel_rfl)⟩)
end Go.Proofs.Ytfpppgbibgbllaa.Sx
