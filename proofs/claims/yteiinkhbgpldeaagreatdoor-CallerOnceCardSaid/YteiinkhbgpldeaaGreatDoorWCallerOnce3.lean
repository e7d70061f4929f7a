/- The walk of CallerOnce: each Go function that it calls, as a plain function, and the proof that the call computes it. Printed by the program gen.py.
   Conditions: those that each theorem states ahead of its colon, and no other. -/
import Derived.Test.YteiinkhbgpldeaaGreatDoorWCallerOnce2
namespace Go.Proofs.YteiinkhbgpldeaaGreatDoor.Sx
open Go Go.Proofs
set_option maxRecDepth 100000
set_option linter.unusedVariables false
def atlas_Atlas_Chains (x3 : List M44) : Option Int :=
  some (x3.length : Int)
theorem atlas_Atlas_Chains_s {x3 : List M44} {x9 : Value} {b2 : Nat} {p4 : Option Addr} {c5 : Nat} {d7 : Ch} {r : Int} (hk : atlas_Atlas_Chains x3 = some r) {g w : World} {F : Ch} {ih : IH} (h6 : OSl e44 ih p4 c5 x3 d7) (h10 : x9.oneCell' = true) (hw : St g w [bx b2 [.slice p4 x3.length c5, x9] 113, d7, F] ih) :
    CallsR Tryz.prog 62 #[(pt b2 0)] w fun v w' => v = vi64 r ∧ St g w' [bx b2 [.slice p4 x3.length c5, x9] 113, d7, F] ih := by
  refine f_in (vs := [(pt b2 0)]) Tryz.func62 rfl 10 rfl (by kernel_rfl) [(0, (pt b2 0))] (by kernel_rfl) fun a Qf hQ hQn hs => ?_
  refine c_seq ?_
  refine c_region ?_
  refine pures hs 1 [0] [(0, (pt b2 0))] (by kernel_rfl) fun a hs => ?_
  refine s_end ?_
  refine c_seq ?_
  refine c_seq ?_
  refine c_region ?_
  refine pures hs 2 [0, 4] [(0, (pt b2 0)), (4, .bool false)] (by kernel_rfl) fun a hs => ?_
  refine s_end ?_
  refine c_condF hs (by kernel_rfl) (by kernel_rfl) ?_
  refine c_skip ?_
  refine c_seq ?_
  refine c_region ?_
  refine pures hs 3 [7] [(7, (pt b2 0))] (by kernel_rfl) fun a hs => ?_
  refine s_load hs (hw.at_ 0 rfl) 0 (by kernel_rfl) (by kernel_rfl) (v := .slice p4 x3.length c5) (by kernel_rfl) fun a hs => ?_
  refine pures hs 2 [2] [(2, vi64 (x3.length : Int))] (by kernel_rfl) fun a hs => ?_
  refine s_end ?_
  refine c_ret ?_
  obtain rfl := someE hk
  refine hQ _ _ (f_ret1 hs rfl (v := vi64 (x3.length : Int)) (by kernel_rfl) ⟨rfl, hw.pick [0, 1, 2] (by kernel_rfl)⟩)
def atlas_Chain (x1 : Int) (x2 : Int) : Option Int :=
  if (decide (x2 < 1)) = true then some 0
  else (some (IntKind.i64.wrap ((IntKind.u32.wrap (x1 * 2654435761)).fdiv (2 ^ 16)))).bind fun x16 =>
  if (x2 == 0) = true then none
  else some (x16.tmod x2)
theorem atlas_Chain_s {x1 : Int} {x2 : Int} {r : Int} (hk : atlas_Chain x1 x2 = some r) {g w : World} {F : Ch} {ih : IH} (hw : St g w [F] ih) :
    CallsR Tryz.prog 50 #[vu32 x1, vi64 x2] w fun v w' => v = vi64 r ∧ St g w' [F] ih := by
  refine f_in (vs := [vu32 x1, vi64 x2]) Tryz.func50 rfl 13 rfl (by kernel_rfl) [(0, vu32 x1), (1, vi64 x2)] (by kernel_rfl) fun a Qf hQ hQn hs => ?_
  refine c_seq ?_
  refine c_region ?_
  refine pures hs 1 [0, 1] [(0, vu32 x1), (1, vi64 x2)] (by kernel_rfl) fun a hs => ?_
  refine s_end ?_
  refine c_seq ?_
  refine c_seq ?_
  refine c_region ?_
  refine pures hs 2 [0, 1, 6] [(0, vu32 x1), (1, vi64 x2), (6, .bool (decide (x2 < 1)))] (by kernel_rfl) fun a hs => ?_
  refine s_end ?_
  rcases ifbE hk with ⟨h12, hk⟩ | ⟨h12, hk⟩
  · refine c_cond1 hs (by kernel_rfl) (t := (decide (x2 < 1))) (by kernel_rfl) h12 ?_
    refine c_seq ?_
    refine c_region ?_
    refine pures hs 1 [4] [(4, vi64 0)] (by kernel_rfl) fun a hs => ?_
    refine s_end ?_
    refine c_ret ?_
    obtain rfl := someE hk
    refine hQ _ _ (f_ret1 hs rfl (v := vi64 0) (by kernel_rfl) ⟨rfl, hw.pick [0] (by kernel_rfl)⟩)
  refine c_cond0 hs (by kernel_rfl) (t := (decide (x2 < 1))) (by kernel_rfl) h12 ?_
  refine c_skip ?_
  refine c_seq ?_
  refine c_region ?_
  refine pures hs 4 [1, 10] [(1, vi64 x2), (10, vi64 (IntKind.i64.wrap ((IntKind.u32.wrap (x1 * 2654435761)).fdiv (2 ^ 16))))] (by kernel_rfl) fun a hs => ?_
  obtain ⟨x16, h17, hk⟩ := bindE hk
  replace hs := hs.alt 10 (by kernel_rfl) (congrArg (Value.int .i64) (someE h17))
  refine pures hs 1 [10, 11] [(10, vi64 x16), (11, vi64 x2)] (by kernel_rfl) fun a hs => ?_
  rcases ifbE hk with ⟨h18, hk⟩ | ⟨h18, hk⟩
  · cases hk
  refine s_rem hs (by kernel_rfl) .i64 (i := x16) (j := x2) (by kernel_rfl) (by kernel_rfl) (by simpa using h18) fun a hs => ?_
  refine pures hs 1 [4] [(4, vi64 (x16.tmod x2))] (by kernel_rfl) fun a hs => ?_
  refine s_end ?_
  refine c_ret ?_
  obtain rfl := someE hk
  refine hQ _ _ (f_ret1 hs rfl (v := vi64 (x16.tmod x2)) (by kernel_rfl) ⟨rfl, hw.pick [0] (by kernel_rfl)⟩)
def atlas_Atlas_Of (k : Nat) (x3 : List M44) (x11 : Int) : Option M44 :=
  (atlas_Atlas_Confs k x3).bind fun y85 =>
  (atlas_Atlas_Chains x3).bind fun y94 =>
  (atlas_Chain x11 y94).bind fun y96 =>
  (ix y85 y96).bind fun x98 =>
  some x98
theorem atlas_Atlas_Of_s {k : Nat} {x3 : List M44} {x9 : Value} {x11 : Int} {b2 : Nat} {p4 : Option Addr} {c5 : Nat} {d7 : Ch} {r : M44} (hk : atlas_Atlas_Of k x3 x11 = some r) {g w : World} {F : Ch} {ih : IH} (h6 : OSl e44 ih p4 c5 x3 d7) (h10 : x9.oneCell' = true) (hw : St g w [bx b2 [.slice p4 x3.length c5, x9] 113, d7, F] ih) :
    CallsR Tryz.prog 36 #[(pt b2 0), vu32 x11] w fun v w' => ∃ (ih' : IH) (p106 : Option Addr) (c107 : Nat), v = .agg #[vi64 r.f0, vu64 r.f1, .slice p106 r.f2.length c107, .bool r.f3, vi64 r.f4] ∧ St g w' [bx b2 [.slice p4 x3.length c5, x9] 113, d7, F] ih' ∧ Le ih ih' ∧ RSl e3 ih' [] p106 c107 r.f2 := by
  refine f_in (vs := [(pt b2 0), vu32 x11]) Tryz.func36 rfl 16 rfl (by kernel_rfl) [(0, (pt b2 0)), (1, vu32 x11)] (by kernel_rfl) fun a Qf hQ hQn hs => ?_
  refine c_seq ?_
  refine c_region ?_
  refine s_new hs hw [vi64 0, vu64 0, .slice none 0 0, .bool false, vi64 0] 44 (fun b => (pt b 0)) (by kernel_rfl) (fun _ => by kernel_rfl) fun a w b62 hs hw => ?_
  refine s_end ?_
  refine c_seq ?_
  refine c_seq ?_
  refine c_region ?_
  refine pures hs 2 [0, 1, 4, 6] [(0, (pt b2 0)), (1, vu32 x11), (4, (pt b62 0)), (6, .bool false)] (by kernel_rfl) fun a hs => ?_
  refine s_end ?_
  refine c_condF hs (by kernel_rfl) (by kernel_rfl) ?_
  refine c_skip ?_
  refine c_seq ?_
  refine c_region ?_
  refine pures hs 1 [0, 1, 4, 8] [(0, (pt b2 0)), (1, vu32 x11), (4, (pt b62 0)), (8, (pt b2 0))] (by kernel_rfl) fun a hs => ?_
  obtain ⟨y85, h86, hk⟩ := bindE hk
  refine s_call hs (by kernel_rfl) (by kernel_rfl) (atlas_Atlas_Confs_s (x9 := (x9)) h86 h6 h10 ((hw.pick [1, 2, 0, 3] (by kernel_rfl)).pack 2)) fun a w v hv hs => ?_
  obtain ⟨ih87, p89, c90, d92, rfl, hw, hle88, h91⟩ := hv
  replace hw := hw.unpack 3 rfl
  refine pures hs 2 [4, 9, 10, 11] [(4, (pt b62 0)), (9, .slice p89 y85.length c90), (10, vu32 x11), (11, (pt b2 0))] (by kernel_rfl) fun a hs => ?_
  obtain ⟨y94, h95, hk⟩ := bindE hk
  refine s_call hs (by kernel_rfl) (by kernel_rfl) (atlas_Atlas_Chains_s (x9 := (x9)) h95 (h6.mono hle88) h10 ((hw.pick [1, 2, 0, 3, 4] (by kernel_rfl)).pack 2)) fun a w v hv hs => ?_
  obtain ⟨rfl, hw⟩ := hv
  replace hw := hw.unpack 2 rfl
  obtain ⟨y96, h97, hk⟩ := bindE hk
  refine s_call hs (by kernel_rfl) (by kernel_rfl) (atlas_Chain_s h97 ((hw.pick [0, 1, 2, 3, 4] (by kernel_rfl)).pack 0)) fun a w v hv hs => ?_
  obtain ⟨rfl, hw⟩ := hv
  replace hw := hw.unpack 0 rfl
  obtain ⟨x98, h99, hk⟩ := bindE hk
  refine s_indexO hs h91 (by kernel_rfl) (by kernel_rfl) (k := .i64) (by kernel_rfl) 44 (by kernel_rfl) (by kernel_rfl) h99 fun a r100 cs henc at101 h105 hs => ?_
  obtain ⟨p102, c103, rfl, h104⟩ := henc
  refine s_load hs (at101 _ ((hw.vw 2 rfl).anti (Le.refl _))) 0 (by kernel_rfl) (by kernel_rfl) (v := .agg #[vi64 x98.f0, vu64 x98.f1, .slice p102 x98.f2.length c103, .bool x98.f3, vi64 x98.f4]) (by kernel_rfl) fun a hs => ?_
  refine s_store hs hw 3 rfl 0 (by kernel_rfl) (by kernel_rfl) (v := .agg #[vi64 x98.f0, vu64 x98.f1, .slice p102 x98.f2.length c103, .bool x98.f3, vi64 x98.f4]) (by kernel_rfl) (by kernel_rfl) (by kernel_rfl) (by kernel_rfl) fun a w hs hw => ?_
  refine s_end ?_
  refine c_ret ?_
  obtain rfl := someE hk
  refine hQ _ _ (f_retC hs rfl (hw.at_ 3 rfl) (by kernel_rfl) (v := .agg #[vi64 x98.f0, vu64 x98.f1, .slice p102 x98.f2.length c103, .bool x98.f3, vi64 x98.f4]) (by kernel_rfl) ⟨ih87, p102, c103, rfl, hw.pick [0, 1, 4] (by kernel_rfl), hle88, h104⟩)
def caller_Caller_Address (x3 : Int) : Option Int :=
  some (IntKind.i64.wrap (200 + x3))
theorem caller_Caller_Address_s {x3 : Int} {x4 : Int} {x5 : Int} {x6 : Int} {x9 : List M44} {x15 : Value} {x17 : Int} {x18 : Int} {x19 : Int} {x20 : List Int} {x24 : Int} {x25 : Value} {x27 : Int} {x28 : Int} {x29 : Int} {x30 : List Int} {b2 : Nat} {b8 : Nat} {p10 : Option Addr} {c11 : Nat} {d13 : Ch} {p21 : Option Addr} {c22 : Nat} {p31 : Option Addr} {c32 : Nat} {r : Int} (hk : caller_Caller_Address x3 = some r) {g w : World} {F : Ch} {ih : IH} (h12 : OSl e44 ih p10 c11 x9 d13) (h16 : x15.oneCell' = true) (h23 : RSl e5 ih [] p21 c22 x20) (h26 : x25.oneCell' = true) (h33 : RSl e5 ih [] p31 c32 x30) (hw : St g w [bx b2 [vi64 x3, vi64 x4, vu64 x5, vi64 x6, (pt b8 0), vi64 x17, vu32 x18, vu64 x19, .slice p21 x20.length c22, vi64 x24, x25, vu64 x27, vi64 x28, vu64 x29, .slice p31 x30.length c32] 85, bx b8 [.slice p10 x9.length c11, x15] 113, d13, F] ih) :
    CallsR Tryz.prog 23 #[(pt b2 0)] w fun v w' => v = vi64 r ∧ St g w' [bx b2 [vi64 x3, vi64 x4, vu64 x5, vi64 x6, (pt b8 0), vi64 x17, vu32 x18, vu64 x19, .slice p21 x20.length c22, vi64 x24, x25, vu64 x27, vi64 x28, vu64 x29, .slice p31 x30.length c32] 85, bx b8 [.slice p10 x9.length c11, x15] 113, d13, F] ih := by
  refine f_in (vs := [(pt b2 0)]) Tryz.func23 rfl 10 rfl (by kernel_rfl) [(0, (pt b2 0))] (by kernel_rfl) fun a Qf hQ hQn hs => ?_
  refine c_seq ?_
  refine c_region ?_
  refine pures hs 1 [0] [(0, (pt b2 0))] (by kernel_rfl) fun a hs => ?_
  refine s_end ?_
  refine c_seq ?_
  refine c_seq ?_
  refine c_region ?_
  refine pures hs 2 [0, 4] [(0, (pt b2 0)), (4, .bool false)] (by kernel_rfl) fun a hs => ?_
  refine s_end ?_
  refine c_condF hs (by kernel_rfl) (by kernel_rfl) ?_
  refine c_skip ?_
  refine c_seq ?_
  refine c_region ?_
  refine pures hs 3 [7] [(7, (pt b2 0))] (by kernel_rfl) fun a hs => ?_
  refine s_load hs (hw.at_ 0 rfl) 0 (by kernel_rfl) (by kernel_rfl) (v := vi64 x3) (by kernel_rfl) fun a hs => ?_
  refine pures hs 2 [2] [(2, vi64 (IntKind.i64.wrap (200 + x3)))] (by kernel_rfl) fun a hs => ?_
  refine s_end ?_
  refine c_ret ?_
  obtain rfl := someE hk
  refine hQ _ _ (f_ret1 hs rfl (v := vi64 (IntKind.i64.wrap (200 + x3))) (by kernel_rfl) ⟨rfl, hw.pick [0, 1, 2, 3] (by kernel_rfl)⟩)
def role_Reader_r2 (x58 : Int) : Option Int :=
  some x58
def role_Reader (k : Nat) (x1 : M44) (x5 : Int) : Option Int :=
  (conf_Right k x1).bind fun y44 =>
  if (!y44) = true then some 0
  else (if ((x1.f2.length : Int) == 0) = true then none
    else (ix x1.f2 ((if 0 > x5 then 0 else x5).tmod (x1.f2.length : Int))).bind fun x63 =>
    some x63 : Option Int).bind fun s67 => role_Reader_r2 s67
theorem role_Reader_s {k : Nat} {x1 : M44} {x5 : Int} {p2 : Option Addr} {c3 : Nat} {r : Int} (hk : role_Reader k x1 x5 = some r) {g w : World} {F : Ch} {ih : IH} (h4 : RSl e3 ih [] p2 c3 x1.f2) (hw : St g w [F] ih) :
    CallsR Tryz.prog 85 #[.agg #[vi64 x1.f0, vu64 x1.f1, .slice p2 x1.f2.length c3, .bool x1.f3, vi64 x1.f4], vi64 x5] w fun v w' => v = vi64 r ∧ St g w' [F] ih := by
  refine f_in (vs := [.agg #[vi64 x1.f0, vu64 x1.f1, .slice p2 x1.f2.length c3, .bool x1.f3, vi64 x1.f4], vi64 x5]) Tryz.func85 rfl 18 rfl (by kernel_rfl) [(0, .agg #[vi64 x1.f0, vu64 x1.f1, .slice p2 x1.f2.length c3, .bool x1.f3, vi64 x1.f4]), (1, vi64 x5)] (by kernel_rfl) fun a Qf hQ hQn hs => ?_
  refine c_seq ?_
  refine c_region ?_
  refine s_new hs hw [vi64 x1.f0, vu64 x1.f1, .slice p2 x1.f2.length c3, .bool x1.f3, vi64 x1.f4] 44 (fun b => (pt b 0)) (by kernel_rfl) (fun _ => by kernel_rfl) fun a w b40 hs hw => ?_
  refine pures hs 1 [1, 2] [(1, vi64 x5), (2, (pt b40 0))] (by kernel_rfl) fun a hs => ?_
  refine s_end ?_
  refine c_seq ?_
  refine c_seq ?_
  refine c_region ?_
  refine s_load hs (hw.at_ 0 rfl) 0 (by kernel_rfl) (by kernel_rfl) (v := .agg #[vi64 x1.f0, vu64 x1.f1, .slice p2 x1.f2.length c3, .bool x1.f3, vi64 x1.f4]) (by kernel_rfl) fun a hs => ?_
  obtain ⟨y44, h45, hk⟩ := bindE hk
  refine s_call hs (by kernel_rfl) (by kernel_rfl) (conf_Right_s h45 h4 ((hw.pick [0, 1] (by kernel_rfl)).pack 0)) fun a w v hv hs => ?_
  obtain ⟨rfl, hw⟩ := hv
  replace hw := hw.unpack 0 rfl
  refine pures hs 1 [1, 2, 7] [(1, vi64 x5), (2, (pt b40 0)), (7, .bool (!y44))] (by kernel_rfl) fun a hs => ?_
  refine s_end ?_
  rcases ifbE hk with ⟨h46, hk⟩ | ⟨h46, hk⟩
  · refine c_cond1 hs (by kernel_rfl) (t := (!y44)) (by kernel_rfl) h46 ?_
    refine c_seq ?_
    refine c_region ?_
    refine pures hs 1 [4] [(4, vi64 0)] (by kernel_rfl) fun a hs => ?_
    refine s_end ?_
    refine c_ret ?_
    obtain rfl := someE hk
    refine hQ _ _ (f_ret1 hs rfl (v := vi64 0) (by kernel_rfl) ⟨rfl, hw.pick [1] (by kernel_rfl)⟩)
  refine c_cond0 hs (by kernel_rfl) (t := (!y44)) (by kernel_rfl) h46 ?_
  refine c_skip ?_
  refine c_seq ?_
  obtain ⟨S47, hS47, kS47⟩ := mkSX (X := [([], bx b40 [vi64 x1.f0, vu64 x1.f1, .slice p2 x1.f2.length c3, .bool x1.f3, vi64 x1.f4] 44), ([], F)]) (ih := ih) (K := []) rfl
  obtain ⟨y59, hx60, hk⟩ := bindE hk
  obtain ⟨J61, hJ61⟩ : ∃ J : Act → World → Prop, ∀ a w, J a w ↔ (∃ (x58 : Int), role_Reader_r2 x58 = some r ∧ Sees a 18 [(4, vi64 x58)] ∧ St g w [F] ih) := ⟨_, fun _ _ => Iff.rfl⟩
  refine c_draw (by kernel_rfl) (N := 11) rfl S47 J61 ?_ ?_
  · have hw := hw.drew
    have hS : S47 (Array.replicate 11 false) _ := SX_now hS47 (hw.vws [0, 1]) (by kernel_rfl)
    refine d_pures (fuel := 10) kS47 hs hS [0] [1, 2, 8] [(1, vi64 x5), (2, (pt b40 0)), (8, (pt b40 2))] (by kernel_rfl) fun a hs hS => ?_
    refine d_load (fuel := 9) kS47 hs hS 1 rfl (by kernel_rfl) (SX_box hS47 0 rfl (by kernel_rfl)) 2 (by kernel_rfl) (by kernel_rfl) (v := .slice p2 x1.f2.length c3) (by kernel_rfl) fun a hs hS => ?_
    refine d_pures (fuel := 6) kS47 hs hS [2, 3, 4] [9, 11, 12] [(9, .slice p2 x1.f2.length c3), (11, vi64 (if 0 > x5 then 0 else x5)), (12, (pt b40 2))] (by kernel_rfl) fun a hs hS => ?_
    refine d_load (fuel := 5) kS47 hs hS 5 rfl (by kernel_rfl) (SX_box hS47 0 rfl (by kernel_rfl)) 2 (by kernel_rfl) (by kernel_rfl) (v := .slice p2 x1.f2.length c3) (by kernel_rfl) fun a hs hS => ?_
    refine d_pures (fuel := 4) kS47 hs hS [6] [9, 11, 14] [(9, .slice p2 x1.f2.length c3), (11, vi64 (if 0 > x5 then 0 else x5)), (14, vi64 (x1.f2.length : Int))] (by kernel_rfl) fun a hs hS => ?_
    rcases ifbE hx60 with ⟨h62, hx60⟩ | ⟨h62, hx60⟩
    · cases hx60
    refine d_rem (fuel := 3) kS47 hs hS 7 rfl (by kernel_rfl) (by kernel_rfl) .i64 (i := (if 0 > x5 then 0 else x5)) (j := (x1.f2.length : Int)) (by kernel_rfl) (by kernel_rfl) (by simpa using h62) fun a hs hS => ?_
    obtain ⟨x63, h64, hx60⟩ := bindE hx60
    refine d_index (fuel := 2) kS47 hs hS 8 rfl (by kernel_rfl) h4 (by kernel_rfl) (by kernel_rfl) (k := .i64) (by kernel_rfl) 3 (by kernel_rfl) (by kernel_rfl) h64 fun a r65 cs henc at66 hs hS => ?_
    obtain rfl := henc
    refine d_load (fuel := 1) kS47 hs hS 9 rfl (by kernel_rfl) (fun l w hu hS => at66 w ((SX_nil hS47 l w hu hS).anti (Le.refl _))) 0 (by kernel_rfl) (by kernel_rfl) (v := vi64 x63) (by kernel_rfl) fun a hs hS => ?_
    refine d_pures (fuel := 0) kS47 hs hS [10] [4] [(4, vi64 x63)] (by kernel_rfl) fun a hs hS => ?_
    refine d_done (by kernel_rfl) ?_
    obtain rfl := someE hx60
    exact (hJ61 _ _).2 ⟨x63, hk, hs.cast [4] (by kernel_rfl), hw.pick [1] (by kernel_rfl)⟩
  intro a w hh
  obtain ⟨x58, hk, hs, hw⟩ := (hJ61 _ _).1 hh
  refine c_ret ?_
  obtain rfl := someE hk
  refine hQ _ _ (f_ret1 hs rfl (v := vi64 x58) (by kernel_rfl) ⟨rfl, hw.pick [0] (by kernel_rfl)⟩)
def atlas_Atlas_Reader (k : Nat) (x3 : List M44) (x11 : Int) (x12 : Int) : Option Int :=
  (atlas_Atlas_Of k x3 x11).bind fun y42 =>
  (role_Reader k y42 x12).bind fun y49 =>
  some y49
theorem atlas_Atlas_Reader_s {k : Nat} {x3 : List M44} {x9 : Value} {x11 : Int} {x12 : Int} {b2 : Nat} {p4 : Option Addr} {c5 : Nat} {d7 : Ch} {r : Int} (hk : atlas_Atlas_Reader k x3 x11 x12 = some r) {g w : World} {F : Ch} {ih : IH} (h6 : OSl e44 ih p4 c5 x3 d7) (h10 : x9.oneCell' = true) (hw : St g w [bx b2 [.slice p4 x3.length c5, x9] 113, d7, F] ih) :
    CallsR Tryz.prog 54 #[(pt b2 0), vu32 x11, vi64 x12] w fun v w' => ∃ (ih' : IH), v = vi64 r ∧ St g w' [bx b2 [.slice p4 x3.length c5, x9] 113, d7, F] ih' ∧ Le ih ih' := by
  refine f_in (vs := [(pt b2 0), vu32 x11, vi64 x12]) Tryz.func54 rfl 12 rfl (by kernel_rfl) [(0, (pt b2 0)), (1, vu32 x11), (2, vi64 x12)] (by kernel_rfl) fun a Qf hQ hQn hs => ?_
  refine c_seq ?_
  refine c_region ?_
  refine pures hs 1 [0, 1, 2] [(0, (pt b2 0)), (1, vu32 x11), (2, vi64 x12)] (by kernel_rfl) fun a hs => ?_
  refine s_end ?_
  refine c_seq ?_
  refine c_region ?_
  refine pures hs 2 [2, 7, 8] [(2, vi64 x12), (7, (pt b2 0)), (8, vu32 x11)] (by kernel_rfl) fun a hs => ?_
  obtain ⟨y42, h43, hk⟩ := bindE hk
  refine s_call hs (by kernel_rfl) (by kernel_rfl) (atlas_Atlas_Of_s (x9 := (x9)) h43 h6 h10 ((hw.pick [0, 1, 2] (by kernel_rfl)).pack 2)) fun a w v hv hs => ?_
  obtain ⟨ih44, p46, c47, rfl, hw, hle45, h48⟩ := hv
  replace hw := hw.unpack 2 rfl
  refine pures hs 1 [9, 10] [(9, .agg #[vi64 y42.f0, vu64 y42.f1, .slice p46 y42.f2.length c47, .bool y42.f3, vi64 y42.f4]), (10, vi64 x12)] (by kernel_rfl) fun a hs => ?_
  obtain ⟨y49, h50, hk⟩ := bindE hk
  refine s_call hs (by kernel_rfl) (by kernel_rfl) (role_Reader_s h50 h48 ((hw.pick [0, 1, 2] (by kernel_rfl)).pack 0)) fun a w v hv hs => ?_
  obtain ⟨rfl, hw⟩ := hv
  replace hw := hw.unpack 0 rfl
  refine pures hs 1 [6] [(6, vi64 y49)] (by kernel_rfl) fun a hs => ?_
  refine s_end ?_
  refine c_ret ?_
  obtain rfl := someE hk
  refine hQ _ _ (f_ret1 hs rfl (v := vi64 y49) (by kernel_rfl) ⟨ih44, rfl, hw.pick [0, 1, 2] (by kernel_rfl), hle45⟩)
def role_Head (k : Nat) (x1 : M44) : Option Int :=
  (conf_Right k x1).bind fun y30 =>
  if (!y30) = true then some 0
  else (ix x1.f2 0).bind fun x37 =>
  some x37
theorem role_Head_s {k : Nat} {x1 : M44} {p2 : Option Addr} {c3 : Nat} {r : Int} (hk : role_Head k x1 = some r) {g w : World} {F : Ch} {ih : IH} (h4 : RSl e3 ih [] p2 c3 x1.f2) (hw : St g w [F] ih) :
    CallsR Tryz.prog 86 #[.agg #[vi64 x1.f0, vu64 x1.f1, .slice p2 x1.f2.length c3, .bool x1.f3, vi64 x1.f4]] w fun v w' => v = vi64 r ∧ St g w' [F] ih := by
  refine f_in (vs := [.agg #[vi64 x1.f0, vu64 x1.f1, .slice p2 x1.f2.length c3, .bool x1.f3, vi64 x1.f4]]) Tryz.func86 rfl 10 rfl (by kernel_rfl) [(0, .agg #[vi64 x1.f0, vu64 x1.f1, .slice p2 x1.f2.length c3, .bool x1.f3, vi64 x1.f4])] (by kernel_rfl) fun a Qf hQ hQn hs => ?_
  refine c_seq ?_
  refine c_region ?_
  refine s_new hs hw [vi64 x1.f0, vu64 x1.f1, .slice p2 x1.f2.length c3, .bool x1.f3, vi64 x1.f4] 44 (fun b => (pt b 0)) (by kernel_rfl) (fun _ => by kernel_rfl) fun a w b26 hs hw => ?_
  refine pures hs 1 [1] [(1, (pt b26 0))] (by kernel_rfl) fun a hs => ?_
  refine s_end ?_
  refine c_seq ?_
  refine c_seq ?_
  refine c_region ?_
  refine s_load hs (hw.at_ 0 rfl) 0 (by kernel_rfl) (by kernel_rfl) (v := .agg #[vi64 x1.f0, vu64 x1.f1, .slice p2 x1.f2.length c3, .bool x1.f3, vi64 x1.f4]) (by kernel_rfl) fun a hs => ?_
  obtain ⟨y30, h31, hk⟩ := bindE hk
  refine s_call hs (by kernel_rfl) (by kernel_rfl) (conf_Right_s h31 h4 ((hw.pick [0, 1] (by kernel_rfl)).pack 0)) fun a w v hv hs => ?_
  obtain ⟨rfl, hw⟩ := hv
  replace hw := hw.unpack 0 rfl
  refine pures hs 1 [1, 5] [(1, (pt b26 0)), (5, .bool (!y30))] (by kernel_rfl) fun a hs => ?_
  refine s_end ?_
  rcases ifbE hk with ⟨h32, hk⟩ | ⟨h32, hk⟩
  · refine c_cond1 hs (by kernel_rfl) (t := (!y30)) (by kernel_rfl) h32 ?_
    refine c_seq ?_
    refine c_region ?_
    refine pures hs 1 [2] [(2, vi64 0)] (by kernel_rfl) fun a hs => ?_
    refine s_end ?_
    refine c_ret ?_
    obtain rfl := someE hk
    refine hQ _ _ (f_ret1 hs rfl (v := vi64 0) (by kernel_rfl) ⟨rfl, hw.pick [1] (by kernel_rfl)⟩)
  refine c_cond0 hs (by kernel_rfl) (t := (!y30)) (by kernel_rfl) h32 ?_
  refine c_skip ?_
  refine c_seq ?_
  refine c_region ?_
  refine pures hs 1 [6] [(6, (pt b26 2))] (by kernel_rfl) fun a hs => ?_
  refine s_load hs (hw.at_ 0 rfl) 2 (by kernel_rfl) (by kernel_rfl) (v := .slice p2 x1.f2.length c3) (by kernel_rfl) fun a hs => ?_
  obtain ⟨x37, h38, hk⟩ := bindE hk
  refine s_index hs h4 (by kernel_rfl) (by kernel_rfl) (k := .i64) (by kernel_rfl) 3 (by kernel_rfl) (by kernel_rfl) h38 fun a r39 cs henc at40 hs => ?_
  obtain rfl := henc
  refine s_load hs (at40 _ (hw.vwAll.nil.anti (Le.refl _))) 0 (by kernel_rfl) (by kernel_rfl) (v := vi64 x37) (by kernel_rfl) fun a hs => ?_
  refine pures hs 1 [2] [(2, vi64 x37)] (by kernel_rfl) fun a hs => ?_
  refine s_end ?_
  refine c_ret ?_
  obtain rfl := someE hk
  refine hQ _ _ (f_ret1 hs rfl (v := vi64 x37) (by kernel_rfl) ⟨rfl, hw.pick [1] (by kernel_rfl)⟩)
def atlas_Atlas_Head (k : Nat) (x3 : List M44) (x11 : Int) : Option Int :=
  (atlas_Atlas_Of k x3 x11).bind fun y41 =>
  (role_Head k y41).bind fun y48 =>
  some y48
theorem atlas_Atlas_Head_s {k : Nat} {x3 : List M44} {x9 : Value} {x11 : Int} {b2 : Nat} {p4 : Option Addr} {c5 : Nat} {d7 : Ch} {r : Int} (hk : atlas_Atlas_Head k x3 x11 = some r) {g w : World} {F : Ch} {ih : IH} (h6 : OSl e44 ih p4 c5 x3 d7) (h10 : x9.oneCell' = true) (hw : St g w [bx b2 [.slice p4 x3.length c5, x9] 113, d7, F] ih) :
    CallsR Tryz.prog 55 #[(pt b2 0), vu32 x11] w fun v w' => ∃ (ih' : IH), v = vi64 r ∧ St g w' [bx b2 [.slice p4 x3.length c5, x9] 113, d7, F] ih' ∧ Le ih ih' := by
  refine f_in (vs := [(pt b2 0), vu32 x11]) Tryz.func55 rfl 9 rfl (by kernel_rfl) [(0, (pt b2 0)), (1, vu32 x11)] (by kernel_rfl) fun a Qf hQ hQn hs => ?_
  refine c_seq ?_
  refine c_region ?_
  refine pures hs 1 [0, 1] [(0, (pt b2 0)), (1, vu32 x11)] (by kernel_rfl) fun a hs => ?_
  refine s_end ?_
  refine c_seq ?_
  refine c_region ?_
  refine pures hs 2 [5, 6] [(5, (pt b2 0)), (6, vu32 x11)] (by kernel_rfl) fun a hs => ?_
  obtain ⟨y41, h42, hk⟩ := bindE hk
  refine s_call hs (by kernel_rfl) (by kernel_rfl) (atlas_Atlas_Of_s (x9 := (x9)) h42 h6 h10 ((hw.pick [0, 1, 2] (by kernel_rfl)).pack 2)) fun a w v hv hs => ?_
  obtain ⟨ih43, p45, c46, rfl, hw, hle44, h47⟩ := hv
  replace hw := hw.unpack 2 rfl
  obtain ⟨y48, h49, hk⟩ := bindE hk
  refine s_call hs (by kernel_rfl) (by kernel_rfl) (role_Head_s h49 h47 ((hw.pick [0, 1, 2] (by kernel_rfl)).pack 0)) fun a w v hv hs => ?_
  obtain ⟨rfl, hw⟩ := hv
  replace hw := hw.unpack 0 rfl
  refine pures hs 1 [4] [(4, vi64 y48)] (by kernel_rfl) fun a hs => ?_
  refine s_end ?_
  refine c_ret ?_
  obtain rfl := someE hk
  refine hQ _ _ (f_ret1 hs rfl (v := vi64 y48) (by kernel_rfl) ⟨ih43, rfl, hw.pick [0, 1, 2] (by kernel_rfl), hle44⟩)
def caller_Caller_ask_r6 (x377 : Int) (x350 : Int) (x351 : Int) (x5 : Int) (x18 : Int) (x390 : Int) : Option (List M48) :=
  some ([(M48.mk 19 x377 x390 x350 x351 0 x5 0 0 0 0 x18 0 (M41.mk 0 0 0 0) (M44.mk 0 0 ([]) false 0) ([]) ([]) ([]))])
def caller_Caller_ask_r7 (x377 : Int) (x350 : Int) (x351 : Int) (x489 : Int) (x490 : List M96) : Option (List M48) :=
  some ([(M48.mk 17 x377 x489 x350 x351 0 0 0 0 0 0 0 0 (M41.mk 0 0 0 0) (M44.mk 0 0 ([]) false 0) ([]) x490 ([]))])
def caller_Caller_ask_r8 (k : Nat) (x9 : List M44) (x18 : Int) (x377 : Int) (x350 : Int) (x351 : Int) (x444 : Int) (x445 : Int) (x446 : Int) (x447 : Int) (x448 : Int) (x449 : Int) (x450 : List Int) : Option (List M48) :=
  ((atlas_Atlas_Head k x9 x18).bind fun y509 =>
    some (y509, [(M96.mk x444 x445 x446 x447 x448 x449 x450)]) : Option (Int × (List M96))).bind fun s525 => caller_Caller_ask_r7 x377 x350 x351 s525.1 s525.2
def caller_Caller_ask_r9 (k : Nat) (x17 : Int) (x9 : List M44) (x18 : Int) (x24 : Int) (x350 : Int) (x351 : Int) (x5 : Int) (x19 : Int) (x20 : List Int) (x3 : Int) (x377 : Int) : Option (List M48) :=
  if (x17 == 1) = true then (
    ((atlas_Atlas_Reader k x9 x18 x24).bind fun y398 =>
      some y398 : Option Int).bind fun s402 => caller_Caller_ask_r6 x377 x350 x351 x5 x18 s402)
  else ((update_Request k (M26.mk x17 x18 x19 x20 x24) x3 x5).bind fun y529 =>
    some (y529.1.f0, y529.1.f1, y529.1.f2, y529.1.f3, y529.1.f4, y529.1.f5, y529.1.f6) : Option (Int × Int × Int × Int × Int × Int × (List Int))).bind fun s547 => caller_Caller_ask_r8 k x9 x18 x377 x350 x351 s547.1 s547.2.1 s547.2.2.1 s547.2.2.2.1 s547.2.2.2.2.1 s547.2.2.2.2.2.1 s547.2.2.2.2.2.2
def caller_Caller_ask_r10 (k : Nat) (x3 : Int) (x17 : Int) (x9 : List M44) (x18 : Int) (x24 : Int) (x5 : Int) (x19 : Int) (x20 : List Int) (x350 : Int) (x351 : Int) (x352 : List Int) (x356 : Bool) (x357 : Int) : Option (List M48) :=
  ((caller_Caller_Address x3).bind fun y551 =>
    some y551 : Option Int).bind fun s559 => caller_Caller_ask_r9 k x17 x9 x18 x24 x350 x351 x5 x19 x20 x3 s559
def caller_Caller_ask (k : Nat) (x3 : Int) (x5 : Int) (x9 : List M44) (x17 : Int) (x18 : Int) (x19 : Int) (x20 : List Int) (x24 : Int) : Option (List M48) :=
  ((atlas_Atlas_Of k x9 x18).bind fun y563 =>
    some (y563.f0, y563.f1, y563.f2, y563.f3, y563.f4) : Option (Int × Int × (List Int) × Bool × Int)).bind fun s581 => caller_Caller_ask_r10 k x3 x17 x9 x18 x24 x5 x19 x20 s581.1 s581.2.1 s581.2.2.1 s581.2.2.2.1 s581.2.2.2.2
theorem caller_Caller_ask_s {k : Nat} {x3 : Int} {x4 : Int} {x5 : Int} {x6 : Int} {x9 : List M44} {x15 : Value} {x17 : Int} {x18 : Int} {x19 : Int} {x20 : List Int} {x24 : Int} {x25 : Value} {x27 : Int} {x28 : Int} {x29 : Int} {x30 : List Int} {b2 : Nat} {b8 : Nat} {p10 : Option Addr} {c11 : Nat} {d13 : Ch} {p21 : Option Addr} {c22 : Nat} {p31 : Option Addr} {c32 : Nat} {r : (List M48)} (hk : caller_Caller_ask k x3 x5 x9 x17 x18 x19 x20 x24 = some r) {g w : World} {F : Ch} {ih : IH} (h12 : OSl e44 ih p10 c11 x9 d13) (h16 : x15.oneCell' = true) (h23 : RSl e5 ih [] p21 c22 x20) (h26 : x25.oneCell' = true) (h33 : RSl e5 ih [] p31 c32 x30) (hG : Glob 0 gl0 162 ih) (hw : St g w [bx b2 [vi64 x3, vi64 x4, vu64 x5, vi64 x6, (pt b8 0), vi64 x17, vu32 x18, vu64 x19, .slice p21 x20.length c22, vi64 x24, x25, vu64 x27, vi64 x28, vu64 x29, .slice p31 x30.length c32] 85, bx b8 [.slice p10 x9.length c11, x15] 113, d13, F] ih) :
    CallsR Tryz.prog 31 #[(pt b2 0)] w fun v w' => ∃ (ih' : IH) (p582 : Option Addr) (c583 : Nat) (d585 : Ch), v = .slice p582 r.length c583 ∧ St g w' [d585, bx b2 [vi64 x3, vi64 x4, vu64 x5, vi64 x6, (pt b8 0), vi64 x17, vu32 x18, vu64 x19, .slice p21 x20.length c22, vi64 x24, x25, vu64 x27, vi64 x28, vu64 x29, .slice p31 x30.length c32] 85, bx b8 [.slice p10 x9.length c11, x15] 113, d13, F] ih' ∧ Le ih ih' ∧ OSl e48 ih' p582 c583 r d585 := by
  refine f_in (vs := [(pt b2 0)]) Tryz.func31 rfl 93 rfl (by kernel_rfl) [(0, (pt b2 0))] (by kernel_rfl) fun a Qf hQ hQn hs => ?_
  refine c_seq ?_
  refine c_region ?_
  refine pures hs 1 [0] [(0, (pt b2 0))] (by kernel_rfl) fun a hs => ?_
  refine s_end ?_
  refine c_seq ?_
  obtain ⟨S309, hS309, kS309⟩ := mkSX (X := [([], bx b2 [vi64 x3, vi64 x4, vu64 x5, vi64 x6, (pt b8 0), vi64 x17, vu32 x18, vu64 x19, .slice p21 x20.length c22, vi64 x24, x25, vu64 x27, vi64 x28, vu64 x29, .slice p31 x30.length c32] 85), ([], bx b8 [.slice p10 x9.length c11, x15] 113), ([], d13), ([], F)]) (ih := ih) (K := []) rfl
  obtain ⟨y560, hx561, hk⟩ := bindE hk
  obtain ⟨J562, hJ562⟩ : ∃ J : Act → World → Prop, ∀ a w, J a w ↔ (∃ (x350 : Int) (x351 : Int) (x352 : List Int) (x356 : Bool) (x357 : Int) (b348 : Nat) (p353 : Option Addr) (c354 : Nat) (ih346 : IH), caller_Caller_ask_r10 k x3 x17 x9 x18 x24 x5 x19 x20 x350 x351 x352 x356 x357 = some r ∧ Sees a 93 [(0, (pt b2 0)), (3, (pt b348 0))] ∧ St g w [bx b2 [vi64 x3, vi64 x4, vu64 x5, vi64 x6, (pt b8 0), vi64 x17, vu32 x18, vu64 x19, .slice p21 x20.length c22, vi64 x24, x25, vu64 x27, vi64 x28, vu64 x29, .slice p31 x30.length c32] 85, bx b8 [.slice p10 x9.length c11, x15] 113, bx b348 [vi64 x350, vu64 x351, .slice p353 x352.length c354, .bool x356, vi64 x357] 44, d13, F] ih346 ∧ Le ih ih346 ∧ RSl e3 ih346 [] p353 c354 x352) := ⟨_, fun _ _ => Iff.rfl⟩
  refine c_draw (by kernel_rfl) (N := 12) rfl S309 J562 ?_ ?_
  · have hw := hw.drew
    have hS : S309 (Array.replicate 12 false) _ := SX_now hS309 (hw.vws [0, 1, 2, 3]) (by kernel_rfl)
    refine d_pures (fuel := 9) kS309 hs hS [0, 1, 2] [0, 9] [(0, (pt b2 0)), (9, (pt b2 4))] (by kernel_rfl) fun a hs hS => ?_
    refine d_load (fuel := 8) kS309 hs hS 3 rfl (by kernel_rfl) (SX_box hS309 0 rfl (by kernel_rfl)) 4 (by kernel_rfl) (by kernel_rfl) (v := (pt b8 0)) (by kernel_rfl) fun a hs hS => ?_
    refine d_pures (fuel := 4) kS309 hs hS [4, 5, 6, 7] [0, 10, 14] [(0, (pt b2 0)), (10, (pt b8 0)), (14, (pt b2 6))] (by kernel_rfl) fun a hs hS => ?_
    refine d_load (fuel := 3) kS309 hs hS 8 rfl (by kernel_rfl) (SX_box hS309 0 rfl (by kernel_rfl)) 6 (by kernel_rfl) (by kernel_rfl) (v := vu32 x18) (by kernel_rfl) fun a hs hS => ?_
    refine d_all (fuel := 2) (rs := [9, 10]) (by kernel_rfl) (by simp) (all2 ?_ (all1 ?_))
    · obtain ⟨y563, h564, hx561⟩ := bindE hx561
      refine o_call hs rfl (by kernel_rfl) (by kernel_rfl) (atlas_Atlas_Of_s (x9 := (x15)) h564 h12 h16 ((hw.pick [1, 2, 0, 3] (by kernel_rfl)).pack 2)) fun a w v hv hs => ?_
      obtain ⟨ih565, p567, c568, rfl, hw, hle566, h569⟩ := hv
      replace hw := hw.unpack 2 rfl
      refine dg_next (SX_now hS309 ((hw.vws [2, 0, 1, 3]).anti hle566) (by kernel_rfl)) fun hS => ?_
      refine d_all (fuel := 1) (rs := [10]) (by kernel_rfl) (by simp) (all1 ?_)
      refine o_new hs rfl hw [vi64 0, vu64 0, .slice none 0 0, .bool false, vi64 0] 44 (fun b => (pt b 0)) (by kernel_rfl) (fun _ => by kernel_rfl) fun a w b570 hs hw => ?_
      refine dg_next (SX_now hS309 ((hw.vws [3, 1, 2, 4]).anti hle566) (by kernel_rfl)) fun hS => ?_
      refine d_all (fuel := 0) (rs := [11]) (by kernel_rfl) (by simp) (all1 ?_)
      refine o_store hs hw rfl 0 rfl 0 (by kernel_rfl) (by kernel_rfl) (v := .agg #[vi64 y563.f0, vu64 y563.f1, .slice p567 y563.f2.length c568, .bool y563.f3, vi64 y563.f4]) (by kernel_rfl) (by kernel_rfl) (by kernel_rfl) (by kernel_rfl) fun a w hs hw => ?_
      refine dg_next (SX_now hS309 ((hw.vws [3, 1, 2, 4]).anti hle566) (by kernel_rfl)) fun hS => ?_
      refine d_done (by kernel_rfl) ?_
      obtain rfl := someE hx561
      exact (hJ562 _ _).2 ⟨y563.f0, y563.f1, y563.f2, y563.f3, y563.f4, b570, p567, c568, ih565, hk, hs.cast [0, 3] (by kernel_rfl), hw.pick [3, 1, 0, 2, 4] (by kernel_rfl), hle566, h569⟩
    refine o_new hs rfl hw [vi64 0, vu64 0, .slice none 0 0, .bool false, vi64 0] 44 (fun b => (pt b 0)) (by kernel_rfl) (fun _ => by kernel_rfl) fun a w b572 hs hw => ?_
    refine dg_next (SX_now hS309 ((hw.vws [1, 2, 3, 4]).anti (Le.refl _)) (by kernel_rfl)) fun hS => ?_
    refine d_all (fuel := 1) (rs := [9]) (by kernel_rfl) (by simp) (all1 ?_)
    obtain ⟨y574, h575, hx561⟩ := bindE hx561
    refine o_call hs rfl (by kernel_rfl) (by kernel_rfl) (atlas_Atlas_Of_s (x9 := (x15)) h575 h12 h16 ((hw.pick [2, 3, 0, 1, 4] (by kernel_rfl)).pack 2)) fun a w v hv hs => ?_
    obtain ⟨ih576, p578, c579, rfl, hw, hle577, h580⟩ := hv
    replace hw := hw.unpack 2 rfl
    refine dg_next (SX_now hS309 ((hw.vws [3, 0, 1, 4]).anti hle577) (by kernel_rfl)) fun hS => ?_
    refine d_all (fuel := 0) (rs := [11]) (by kernel_rfl) (by simp) (all1 ?_)
    refine o_store hs hw rfl 2 rfl 0 (by kernel_rfl) (by kernel_rfl) (v := .agg #[vi64 y574.f0, vu64 y574.f1, .slice p578 y574.f2.length c579, .bool y574.f3, vi64 y574.f4]) (by kernel_rfl) (by kernel_rfl) (by kernel_rfl) (by kernel_rfl) fun a w hs hw => ?_
    refine dg_next (SX_now hS309 ((hw.vws [3, 0, 1, 4]).anti hle577) (by kernel_rfl)) fun hS => ?_
    refine d_done (by kernel_rfl) ?_
    obtain rfl := someE hx561
    exact (hJ562 _ _).2 ⟨y574.f0, y574.f1, y574.f2, y574.f3, y574.f4, b572, p578, c579, ih576, hk, hs.cast [0, 3] (by kernel_rfl), hw.pick [3, 0, 2, 1, 4] (by kernel_rfl), hle577, h580⟩
  intro a w hh
  obtain ⟨x350, x351, x352, x356, x357, b348, p353, c354, ih346, hk, hs, hw, hle347, h355⟩ := (hJ562 _ _).1 hh
  refine c_seq ?_
  obtain ⟨S358, hS358, kS358⟩ := mkSX (X := [([], bx b2 [vi64 x3, vi64 x4, vu64 x5, vi64 x6, (pt b8 0), vi64 x17, vu32 x18, vu64 x19, .slice p21 x20.length c22, vi64 x24, x25, vu64 x27, vi64 x28, vu64 x29, .slice p31 x30.length c32] 85), ([], bx b8 [.slice p10 x9.length c11, x15] 113), ([], bx b348 [vi64 x350, vu64 x351, .slice p353 x352.length c354, .bool x356, vi64 x357] 44), ([], d13), ([], F)]) (ih := ih346) (K := []) rfl
  obtain ⟨y548, hx549, hk⟩ := bindE hk
  obtain ⟨J550, hJ550⟩ : ∃ J : Act → World → Prop, ∀ a w, J a w ↔ (∃ (x377 : Int) (b375 : Nat), caller_Caller_ask_r9 k x17 x9 x18 x24 x350 x351 x5 x19 x20 x3 x377 = some r ∧ Sees a 93 [(0, (pt b2 0)), (4, (pt b375 0))] ∧ St g w [bx b2 [vi64 x3, vi64 x4, vu64 x5, vi64 x6, (pt b8 0), vi64 x17, vu32 x18, vu64 x19, .slice p21 x20.length c22, vi64 x24, x25, vu64 x27, vi64 x28, vu64 x29, .slice p31 x30.length c32] 85, bx b8 [.slice p10 x9.length c11, x15] 113, bx b375 [vi64 0, vi64 x377, vi64 0, vi64 x350, vu64 x351, vu64 0, vu64 0, vu64 0, vu64 0, vu64 0, vi64 0, vu32 0, vi64 0, vi64 0, vi64 0, vu64 0, vi64 0, vi64 0, vu64 0, .slice none 0 0, .bool false, vi64 0, .slice none 0 0, .slice none 0 0, .slice none 0 0] 48, d13, F] ih346) := ⟨_, fun _ _ => Iff.rfl⟩
  refine c_draw (by kernel_rfl) (N := 9) rfl S358 J550 ?_ ?_
  · have hw := hw.drew
    have hS : S358 (Array.replicate 9 false) _ := SX_now hS358 (hw.vws [0, 1, 2, 3, 4]) (by kernel_rfl)
    refine d_pures (fuel := 7) kS358 hs hS [0, 2] [0, 3, 17, 19] [(0, (pt b2 0)), (3, (pt b348 0)), (17, (pt b2 0)), (19, (pt b348 0))] (by kernel_rfl) fun a hs hS => ?_
    refine d_load (fuel := 6) kS358 hs hS 3 rfl (by kernel_rfl) (SX_box hS358 2 rfl (by kernel_rfl)) 0 (by kernel_rfl) (by kernel_rfl) (v := vi64 x350) (by kernel_rfl) fun a hs hS => ?_
    refine d_pures (fuel := 5) kS358 hs hS [4] [0, 17, 20, 21] [(0, (pt b2 0)), (17, (pt b2 0)), (20, vi64 x350), (21, (pt b348 1))] (by kernel_rfl) fun a hs hS => ?_
    refine d_load (fuel := 4) kS358 hs hS 5 rfl (by kernel_rfl) (SX_box hS358 2 rfl (by kernel_rfl)) 1 (by kernel_rfl) (by kernel_rfl) (v := vu64 x351) (by kernel_rfl) fun a hs hS => ?_
    refine d_all (fuel := 3) (rs := [1, 7]) (by kernel_rfl) (by simp) (all2 ?_ (all1 ?_))
    · obtain ⟨y551, h552, hx549⟩ := bindE hx549
      refine o_call hs rfl (by kernel_rfl) (by kernel_rfl) (caller_Caller_Address_s (x4 := x4) (x5 := x5) (x6 := x6) (x9 := x9) (x15 := (x15)) (x17 := x17) (x18 := x18) (x19 := x19) (x20 := x20) (x24 := x24) (x25 := (x25)) (x27 := x27) (x28 := x28) (x29 := x29) (x30 := x30) h552 (h12.mono hle347) h16 (h23.mono hle347) h26 (h33.mono hle347) ((hw.pick [0, 1, 3, 2, 4] (by kernel_rfl)).pack 3)) fun a w v hv hs => ?_
      obtain ⟨rfl, hw⟩ := hv
      replace hw := hw.unpack 3 rfl
      refine dg_next (SX_now hS358 ((hw.vws [0, 1, 3, 2, 4]).anti (Le.refl _)) (by kernel_rfl)) fun hS => ?_
      refine d_pures (fuel := 2) kS358 hs hS [6] [0, 23] [(0, (pt b2 0)), (23, .agg #[vi64 0, vi64 y551, vi64 0, vi64 x350, vu64 x351, vu64 0, vu64 0, vu64 0, vu64 0, vu64 0, vi64 0, vu32 0, vi64 0, vi64 0, vi64 0, vu64 0, vi64 0, vi64 0, vu64 0, .slice none 0 0, .bool false, vi64 0, .slice none 0 0, .slice none 0 0, .slice none 0 0])] (by kernel_rfl) fun a hs hS => ?_
      refine d_all (fuel := 1) (rs := [7]) (by kernel_rfl) (by simp) (all1 ?_)
      refine o_new hs rfl hw [vi64 0, vi64 0, vi64 0, vi64 0, vu64 0, vu64 0, vu64 0, vu64 0, vu64 0, vu64 0, vi64 0, vu32 0, vi64 0, vi64 0, vi64 0, vu64 0, vi64 0, vi64 0, vu64 0, .slice none 0 0, .bool false, vi64 0, .slice none 0 0, .slice none 0 0, .slice none 0 0] 48 (fun b => (pt b 0)) (by kernel_rfl) (fun _ => by kernel_rfl) fun a w b553 hs hw => ?_
      refine dg_next (SX_now hS358 ((hw.vws [1, 2, 4, 3, 5]).anti (Le.refl _)) (by kernel_rfl)) fun hS => ?_
      refine d_all (fuel := 0) (rs := [8]) (by kernel_rfl) (by simp) (all1 ?_)
      refine o_store hs hw rfl 0 rfl 0 (by kernel_rfl) (by kernel_rfl) (v := .agg #[vi64 0, vi64 y551, vi64 0, vi64 x350, vu64 x351, vu64 0, vu64 0, vu64 0, vu64 0, vu64 0, vi64 0, vu32 0, vi64 0, vi64 0, vi64 0, vu64 0, vi64 0, vi64 0, vu64 0, .slice none 0 0, .bool false, vi64 0, .slice none 0 0, .slice none 0 0, .slice none 0 0]) (by kernel_rfl) (by kernel_rfl) (by kernel_rfl) (by kernel_rfl) fun a w hs hw => ?_
      refine dg_next (SX_now hS358 ((hw.vws [1, 2, 4, 3, 5]).anti (Le.refl _)) (by kernel_rfl)) fun hS => ?_
      refine d_done (by kernel_rfl) ?_
      obtain rfl := someE hx549
      exact (hJ550 _ _).2 ⟨y551, b553, hk, hs.cast [0, 4] (by kernel_rfl), hw.pick [1, 2, 0, 3, 5] (by kernel_rfl)⟩
    refine o_new hs rfl hw [vi64 0, vi64 0, vi64 0, vi64 0, vu64 0, vu64 0, vu64 0, vu64 0, vu64 0, vu64 0, vi64 0, vu32 0, vi64 0, vi64 0, vi64 0, vu64 0, vi64 0, vi64 0, vu64 0, .slice none 0 0, .bool false, vi64 0, .slice none 0 0, .slice none 0 0, .slice none 0 0] 48 (fun b => (pt b 0)) (by kernel_rfl) (fun _ => by kernel_rfl) fun a w b555 hs hw => ?_
    refine dg_next (SX_now hS358 ((hw.vws [1, 2, 3, 4, 5]).anti (Le.refl _)) (by kernel_rfl)) fun hS => ?_
    refine d_all (fuel := 2) (rs := [1]) (by kernel_rfl) (by simp) (all1 ?_)
    obtain ⟨y557, h558, hx549⟩ := bindE hx549
    refine o_call hs rfl (by kernel_rfl) (by kernel_rfl) (caller_Caller_Address_s (x4 := x4) (x5 := x5) (x6 := x6) (x9 := x9) (x15 := (x15)) (x17 := x17) (x18 := x18) (x19 := x19) (x20 := x20) (x24 := x24) (x25 := (x25)) (x27 := x27) (x28 := x28) (x29 := x29) (x30 := x30) h558 (h12.mono hle347) h16 (h23.mono hle347) h26 (h33.mono hle347) ((hw.pick [1, 2, 4, 0, 3, 5] (by kernel_rfl)).pack 3)) fun a w v hv hs => ?_
    obtain ⟨rfl, hw⟩ := hv
    replace hw := hw.unpack 3 rfl
    refine dg_next (SX_now hS358 ((hw.vws [0, 1, 4, 2, 5]).anti (Le.refl _)) (by kernel_rfl)) fun hS => ?_
    refine d_pures (fuel := 1) kS358 hs hS [6] [0, 4, 23] [(0, (pt b2 0)), (4, (pt b555 0)), (23, .agg #[vi64 0, vi64 y557, vi64 0, vi64 x350, vu64 x351, vu64 0, vu64 0, vu64 0, vu64 0, vu64 0, vi64 0, vu32 0, vi64 0, vi64 0, vi64 0, vu64 0, vi64 0, vi64 0, vu64 0, .slice none 0 0, .bool false, vi64 0, .slice none 0 0, .slice none 0 0, .slice none 0 0])] (by kernel_rfl) fun a hs hS => ?_
    refine d_all (fuel := 0) (rs := [8]) (by kernel_rfl) (by simp) (all1 ?_)
    refine o_store hs hw rfl 3 rfl 0 (by kernel_rfl) (by kernel_rfl) (v := .agg #[vi64 0, vi64 y557, vi64 0, vi64 x350, vu64 x351, vu64 0, vu64 0, vu64 0, vu64 0, vu64 0, vi64 0, vu32 0, vi64 0, vi64 0, vi64 0, vu64 0, vi64 0, vi64 0, vu64 0, .slice none 0 0, .bool false, vi64 0, .slice none 0 0, .slice none 0 0, .slice none 0 0]) (by kernel_rfl) (by kernel_rfl) (by kernel_rfl) (by kernel_rfl) fun a w hs hw => ?_
    refine dg_next (SX_now hS358 ((hw.vws [0, 1, 4, 2, 5]).anti (Le.refl _)) (by kernel_rfl)) fun hS => ?_
    refine d_done (by kernel_rfl) ?_
    obtain rfl := someE hx549
    exact (hJ550 _ _).2 ⟨y557, b555, hk, hs.cast [0, 4] (by kernel_rfl), hw.pick [0, 1, 3, 2, 5] (by kernel_rfl)⟩
  intro a w hh
  obtain ⟨x377, b375, hk, hs, hw⟩ := (hJ550 _ _).1 hh
  refine c_seq ?_
  refine c_seq ?_
  refine c_region ?_
  refine pures hs 4 [0, 4, 27] [(0, (pt b2 0)), (4, (pt b375 0)), (27, (pt b2 5))] (by kernel_rfl) fun a hs => ?_
  refine s_load hs (hw.at_ 0 rfl) 5 (by kernel_rfl) (by kernel_rfl) (v := vi64 x17) (by kernel_rfl) fun a hs => ?_
  refine pures hs 1 [0, 4, 29] [(0, (pt b2 0)), (4, (pt b375 0)), (29, .bool (x17 == 1))] (by kernel_rfl) fun a hs => ?_
  refine s_end ?_
  rcases ifbE hk with ⟨h378, hk⟩ | ⟨h378, hk⟩
  · refine c_cond1 hs (by kernel_rfl) (t := (x17 == 1)) (by kernel_rfl) h378 ?_
    refine c_seq ?_
    obtain ⟨S379, hS379, kS379⟩ := mkSX (X := [([], bx b2 [vi64 x3, vi64 x4, vu64 x5, vi64 x6, (pt b8 0), vi64 x17, vu32 x18, vu64 x19, .slice p21 x20.length c22, vi64 x24, x25, vu64 x27, vi64 x28, vu64 x29, .slice p31 x30.length c32] 85), ([], bx b8 [.slice p10 x9.length c11, x15] 113), ([25, 27, 29, 31], bx b375 [vi64 0, vi64 x377, vi64 0, vi64 x350, vu64 x351, vu64 0, vu64 0, vu64 0, vu64 0, vu64 0, vi64 0, vu32 0, vi64 0, vi64 0, vi64 0, vu64 0, vi64 0, vi64 0, vu64 0, .slice none 0 0, .bool false, vi64 0, .slice none 0 0, .slice none 0 0, .slice none 0 0] 48), ([], d13), ([], F)]) (ih := ih346) (K := [25, 27, 29, 31]) rfl
    obtain ⟨y395, hx396, hk⟩ := bindE hk
    obtain ⟨J397, hJ397⟩ : ∃ J : Act → World → Prop, ∀ a w, J a w ↔ (∃ (x390 : Int) (ih388 : IH), caller_Caller_ask_r6 x377 x350 x351 x5 x18 x390 = some r ∧ Sees a 93 [(4, (pt b375 0))] ∧ St g w [bx b2 [vi64 x3, vi64 x4, vu64 x5, vi64 x6, (pt b8 0), vi64 x17, vu32 x18, vu64 x19, .slice p21 x20.length c22, vi64 x24, x25, vu64 x27, vi64 x28, vu64 x29, .slice p31 x30.length c32] 85, bx b8 [.slice p10 x9.length c11, x15] 113, bx b375 [vi64 19, vi64 x377, vi64 x390, vi64 x350, vu64 x351, vu64 0, vu64 x5, vu64 0, vu64 0, vu64 0, vi64 0, vu32 x18, vi64 0, vi64 0, vi64 0, vu64 0, vi64 0, vi64 0, vu64 0, .slice none 0 0, .bool false, vi64 0, .slice none 0 0, .slice none 0 0, .slice none 0 0] 48, d13, F] ih388 ∧ Le ih346 ih388) := ⟨_, fun _ _ => Iff.rfl⟩
    refine c_draw (by kernel_rfl) (N := 32) rfl S379 J397 ?_ ?_
    · have hw := hw.drew
      have hS : S379 (Array.replicate 32 false) _ := SX_now hS379 (hw.vws [0, 1, 2, 3, 4]) (by kernel_rfl)
      refine d_pures (fuel := 29) kS379 hs hS [0, 1, 2] [0, 4, 32] [(0, (pt b2 0)), (4, (pt b375 0)), (32, (pt b2 4))] (by kernel_rfl) fun a hs hS => ?_
      refine d_load (fuel := 28) kS379 hs hS 3 rfl (by kernel_rfl) (SX_box hS379 0 rfl (by kernel_rfl)) 4 (by kernel_rfl) (by kernel_rfl) (v := (pt b8 0)) (by kernel_rfl) fun a hs hS => ?_
      refine d_pures (fuel := 24) kS379 hs hS [4, 5, 6, 7] [0, 4, 33, 37] [(0, (pt b2 0)), (4, (pt b375 0)), (33, (pt b8 0)), (37, (pt b2 6))] (by kernel_rfl) fun a hs hS => ?_
      refine d_load (fuel := 23) kS379 hs hS 8 rfl (by kernel_rfl) (SX_box hS379 0 rfl (by kernel_rfl)) 6 (by kernel_rfl) (by kernel_rfl) (v := vu32 x18) (by kernel_rfl) fun a hs hS => ?_
      refine d_pures (fuel := 19) kS379 hs hS [9, 10, 11, 12] [0, 4, 33, 38, 42] [(0, (pt b2 0)), (4, (pt b375 0)), (33, (pt b8 0)), (38, vu32 x18), (42, (pt b2 9))] (by kernel_rfl) fun a hs hS => ?_
      refine d_load (fuel := 18) kS379 hs hS 13 rfl (by kernel_rfl) (SX_box hS379 0 rfl (by kernel_rfl)) 9 (by kernel_rfl) (by kernel_rfl) (v := vi64 x24) (by kernel_rfl) fun a hs hS => ?_
      refine d_pures (fuel := 15) kS379 hs hS [15, 16, 17] [0, 4, 33, 38, 43, 47] [(0, (pt b2 0)), (4, (pt b375 0)), (33, (pt b8 0)), (38, vu32 x18), (43, vi64 x24), (47, (pt b2 2))] (by kernel_rfl) fun a hs hS => ?_
      refine d_load (fuel := 14) kS379 hs hS 18 rfl (by kernel_rfl) (SX_box hS379 0 rfl (by kernel_rfl)) 2 (by kernel_rfl) (by kernel_rfl) (v := vu64 x5) (by kernel_rfl) fun a hs hS => ?_
      refine d_pures (fuel := 10) kS379 hs hS [19, 20, 21, 22] [4, 33, 38, 43, 48, 52] [(4, (pt b375 0)), (33, (pt b8 0)), (38, vu32 x18), (43, vi64 x24), (48, vu64 x5), (52, (pt b2 6))] (by kernel_rfl) fun a hs hS => ?_
      refine d_load (fuel := 9) kS379 hs hS 23 rfl (by kernel_rfl) (SX_box hS379 0 rfl (by kernel_rfl)) 6 (by kernel_rfl) (by kernel_rfl) (v := vu32 x18) (by kernel_rfl) fun a hs hS => ?_
      refine d_pures (fuel := 8) kS379 hs hS [24] [4, 33, 38, 43, 48, 53, 54] [(4, (pt b375 0)), (33, (pt b8 0)), (38, vu32 x18), (43, vi64 x24), (48, vu64 x5), (53, vu32 x18), (54, (pt b375 0))] (by kernel_rfl) fun a hs hS => ?_
      refine d_all (fuel := 7) (rs := [14]) (by kernel_rfl) (by simp) (all1 ?_)
      obtain ⟨y398, h399, hx396⟩ := bindE hx396
      refine o_call hs rfl (by kernel_rfl) (by kernel_rfl) (atlas_Atlas_Reader_s (x9 := (x15)) h399 (h12.mono hle347) h16 ((hw.pick [1, 3, 0, 2, 4] (by kernel_rfl)).pack 2)) fun a w v hv hs => ?_
      obtain ⟨ih400, rfl, hw, hle401⟩ := hv
      replace hw := hw.unpack 2 rfl
      refine dg_next (SX_now hS379 ((hw.vws [2, 0, 3, 1, 4]).anti hle401) (by kernel_rfl)) fun hS => ?_
      refine d_all (fuel := 6) (rs := [25]) (by kernel_rfl) (by simp) (all1 ?_)
      refine o_store hs hw rfl 3 rfl 0 (by kernel_rfl) (by kernel_rfl) (v := vi64 19) (by kernel_rfl) (by kernel_rfl) (by kernel_rfl) (by kernel_rfl) fun a w hs hw => ?_
      refine dg_next (SX_now hS379 ((hw.vws [2, 0, 1, 4]).anti hle401) (by kernel_rfl)) fun hS => ?_
      refine d_pures (fuel := 5) kS379 hs hS [26] [4, 48, 53, 44, 55] [(4, (pt b375 0)), (48, vu64 x5), (53, vu32 x18), (44, vi64 y398), (55, (pt b375 2))] (by kernel_rfl) fun a hs hS => ?_
      refine d_all (fuel := 4) (rs := [27]) (by kernel_rfl) (by simp) (all1 ?_)
      refine o_store hs hw rfl 3 rfl 2 (by kernel_rfl) (by kernel_rfl) (v := vi64 y398) (by kernel_rfl) (by kernel_rfl) (by kernel_rfl) (by kernel_rfl) fun a w hs hw => ?_
      refine dg_next (SX_now hS379 ((hw.vws [2, 0, 1, 4]).anti hle401) (by kernel_rfl)) fun hS => ?_
      refine d_pures (fuel := 3) kS379 hs hS [28] [4, 48, 53, 56] [(4, (pt b375 0)), (48, vu64 x5), (53, vu32 x18), (56, (pt b375 6))] (by kernel_rfl) fun a hs hS => ?_
      refine d_all (fuel := 2) (rs := [29]) (by kernel_rfl) (by simp) (all1 ?_)
      refine o_store hs hw rfl 3 rfl 6 (by kernel_rfl) (by kernel_rfl) (v := vu64 x5) (by kernel_rfl) (by kernel_rfl) (by kernel_rfl) (by kernel_rfl) fun a w hs hw => ?_
      refine dg_next (SX_now hS379 ((hw.vws [2, 0, 1, 4]).anti hle401) (by kernel_rfl)) fun hS => ?_
      refine d_pures (fuel := 1) kS379 hs hS [30] [4, 53, 57] [(4, (pt b375 0)), (53, vu32 x18), (57, (pt b375 11))] (by kernel_rfl) fun a hs hS => ?_
      refine d_all (fuel := 0) (rs := [31]) (by kernel_rfl) (by simp) (all1 ?_)
      refine o_store hs hw rfl 3 rfl 11 (by kernel_rfl) (by kernel_rfl) (v := vu32 x18) (by kernel_rfl) (by kernel_rfl) (by kernel_rfl) (by kernel_rfl) fun a w hs hw => ?_
      refine dg_next (SX_now hS379 ((hw.vws [2, 0, 1, 4]).anti hle401) (by kernel_rfl)) fun hS => ?_
      refine d_done (by kernel_rfl) ?_
      obtain rfl := someE hx396
      exact (hJ397 _ _).2 ⟨y398, ih400, hk, hs.cast [4] (by kernel_rfl), hw.pick [2, 0, 3, 1, 4] (by kernel_rfl), hle401⟩
    intro a w hh
    obtain ⟨x390, ih388, hk, hs, hw, hle389⟩ := (hJ397 _ _).1 hh
    refine c_seq ?_
    refine c_region ?_
    refine s_load hs (hw.at_ 2 rfl) 0 (by kernel_rfl) (by kernel_rfl) (v := .agg #[vi64 19, vi64 x377, vi64 x390, vi64 x350, vu64 x351, vu64 0, vu64 x5, vu64 0, vu64 0, vu64 0, vi64 0, vu32 x18, vi64 0, vi64 0, vi64 0, vu64 0, vi64 0, vi64 0, vu64 0, .slice none 0 0, .bool false, vi64 0, .slice none 0 0, .slice none 0 0, .slice none 0 0]) (by kernel_rfl) fun a hs => ?_
    refine s_new hs hw [vi64 19, vi64 x377, vi64 x390, vi64 x350, vu64 x351, vu64 0, vu64 x5, vu64 0, vu64 0, vu64 0, vi64 0, vu32 x18, vi64 0, vi64 0, vi64 0, vu64 0, vi64 0, vi64 0, vu64 0, .slice none 0 0, .bool false, vi64 0, .slice none 0 0, .slice none 0 0, .slice none 0 0] 48 (fun b => .slice (some ⟨b, 0, none⟩) 1 1) (by kernel_rfl) (fun _ => by kernel_rfl) fun a w b393 hs hw => ?_
    refine pures hs 1 [2] [(2, .slice (some ⟨b393, 0, none⟩) 1 1)] (by kernel_rfl) fun a hs => ?_
    refine s_end ?_
    refine c_ret ?_
    obtain rfl := someE hk
    refine hQ _ _ (f_ret1 hs rfl (v := .slice (some ⟨b393, 0, none⟩) ([(M48.mk 19 x377 x390 x350 x351 0 x5 0 0 0 0 x18 0 (M41.mk 0 0 0 0) (M44.mk 0 0 ([]) false 0) ([]) ([]) ([]))]).length 1) (by kernel_rfl) ⟨ih388, (some ⟨b393, 0, none⟩), 1, (bx b393 [vi64 19, vi64 x377, vi64 x390, vi64 x350, vu64 x351, vu64 0, vu64 x5, vu64 0, vu64 0, vu64 0, vi64 0, vu32 x18, vi64 0, vi64 0, vi64 0, vu64 0, vi64 0, vi64 0, vu64 0, .slice none 0 0, .bool false, vi64 0, .slice none 0 0, .slice none 0 0, .slice none 0 0] 48), rfl, hw.pick [0, 1, 2, 4, 5] (by kernel_rfl), (hle347.trans hle389), (OSl.of1 (E := e48) (z := (M48.mk 19 x377 x390 x350 x351 0 x5 0 0 0 0 x18 0 (M41.mk 0 0 0 0) (M44.mk 0 0 ([]) false 0) ([]) ([]) ([]))) ⟨none, 0, none, 0, none, 0, none, 0, rfl, (RSl.nil _ _ _), (RSl.nil _ _ _), (RSl.nil _ _ _), (RSl.nil _ _ _)⟩ (by simp [maxLen]))⟩)
  refine c_cond0 hs (by kernel_rfl) (t := (x17 == 1)) (by kernel_rfl) h378 ?_
  refine c_skip ?_
  refine c_seq ?_
  obtain ⟨S403, hS403, kS403⟩ := mkSX (X := [([], bx b2 [vi64 x3, vi64 x4, vu64 x5, vi64 x6, (pt b8 0), vi64 x17, vu32 x18, vu64 x19, .slice p21 x20.length c22, vi64 x24, x25, vu64 x27, vi64 x28, vu64 x29, .slice p31 x30.length c32] 85), ([], bx b8 [.slice p10 x9.length c11, x15] 113), ([], bx b375 [vi64 0, vi64 x377, vi64 0, vi64 x350, vu64 x351, vu64 0, vu64 0, vu64 0, vu64 0, vu64 0, vi64 0, vu32 0, vi64 0, vi64 0, vi64 0, vu64 0, vi64 0, vi64 0, vu64 0, .slice none 0 0, .bool false, vi64 0, .slice none 0 0, .slice none 0 0, .slice none 0 0] 48), ([], d13), ([], F)]) (ih := ih346) (K := []) rfl
  obtain ⟨y526, hx527, hk⟩ := bindE hk
  obtain ⟨J528, hJ528⟩ : ∃ J : Act → World → Prop, ∀ a w, J a w ↔ (∃ (x444 : Int) (x445 : Int) (x446 : Int) (x447 : Int) (x448 : Int) (x449 : Int) (x450 : List Int) (b442 : Nat) (p451 : Option Addr) (c452 : Nat) (ih440 : IH), caller_Caller_ask_r8 k x9 x18 x377 x350 x351 x444 x445 x446 x447 x448 x449 x450 = some r ∧ Sees a 93 [(0, (pt b2 0)), (4, (pt b375 0)), (5, (pt b442 0))] ∧ St g w [bx b2 [vi64 x3, vi64 x4, vu64 x5, vi64 x6, (pt b8 0), vi64 x17, vu32 x18, vu64 x19, .slice p21 x20.length c22, vi64 x24, x25, vu64 x27, vi64 x28, vu64 x29, .slice p31 x30.length c32] 85, bx b8 [.slice p10 x9.length c11, x15] 113, bx b375 [vi64 0, vi64 x377, vi64 0, vi64 x350, vu64 x351, vu64 0, vu64 0, vu64 0, vu64 0, vu64 0, vi64 0, vu32 0, vi64 0, vi64 0, vi64 0, vu64 0, vi64 0, vi64 0, vu64 0, .slice none 0 0, .bool false, vi64 0, .slice none 0 0, .slice none 0 0, .slice none 0 0] 48, bx b442 [vu64 x444, vi64 x445, vu64 x446, vi64 x447, vu32 x448, vu64 x449, .slice p451 x450.length c452] 96, d13, F] ih440 ∧ Le ih346 ih440 ∧ RSl e5 ih440 [] p451 c452 x450) := ⟨_, fun _ _ => Iff.rfl⟩
  refine c_draw (by kernel_rfl) (N := 19) rfl S403 J528 ?_ ?_
  · have hw := hw.drew
    have hS : S403 (Array.replicate 19 false) _ := SX_now hS403 (hw.vws [0, 1, 2, 3, 4]) (by kernel_rfl)
    refine d_pures (fuel := 16) kS403 hs hS [0, 1, 2] [0, 4, 63] [(0, (pt b2 0)), (4, (pt b375 0)), (63, (pt b2 5))] (by kernel_rfl) fun a hs hS => ?_
    refine d_load (fuel := 15) kS403 hs hS 3 rfl (by kernel_rfl) (SX_box hS403 0 rfl (by kernel_rfl)) 5 (by kernel_rfl) (by kernel_rfl) (v := .agg #[vi64 x17, vu32 x18, vu64 x19, .slice p21 x20.length c22, vi64 x24]) (by kernel_rfl) fun a hs hS => ?_
    refine d_pures (fuel := 12) kS403 hs hS [4, 5, 6] [0, 4, 64, 67] [(0, (pt b2 0)), (4, (pt b375 0)), (64, .agg #[vi64 x17, vu32 x18, vu64 x19, .slice p21 x20.length c22, vi64 x24]), (67, (pt b2 0))] (by kernel_rfl) fun a hs hS => ?_
    refine d_load (fuel := 11) kS403 hs hS 7 rfl (by kernel_rfl) (SX_box hS403 0 rfl (by kernel_rfl)) 0 (by kernel_rfl) (by kernel_rfl) (v := vi64 x3) (by kernel_rfl) fun a hs hS => ?_
    refine d_pures (fuel := 8) kS403 hs hS [8, 9, 10] [0, 4, 64, 68, 71] [(0, (pt b2 0)), (4, (pt b375 0)), (64, .agg #[vi64 x17, vu32 x18, vu64 x19, .slice p21 x20.length c22, vi64 x24]), (68, vi64 x3), (71, (pt b2 2))] (by kernel_rfl) fun a hs hS => ?_
    refine d_load (fuel := 7) kS403 hs hS 11 rfl (by kernel_rfl) (SX_box hS403 0 rfl (by kernel_rfl)) 2 (by kernel_rfl) (by kernel_rfl) (v := vu64 x5) (by kernel_rfl) fun a hs hS => ?_
    refine d_all (fuel := 6) (rs := [12, 16]) (by kernel_rfl) (by simp) (all2 ?_ (all1 ?_))
    · obtain ⟨y529, h530, hx527⟩ := bindE hx527
      refine o_call hs rfl (by kernel_rfl) (by kernel_rfl) (update_Request_s h530 (h23.mono hle347) (hG.mono hle347) ((hw.pick [0, 1, 2, 3, 4] (by kernel_rfl)).pack 0)) fun a w v hv hs => ?_
      obtain ⟨ih531, p533, c534, rfl, hw, hle532, h535⟩ := hv
      replace hw := hw.unpack 0 rfl
      refine dg_next (SX_now hS403 ((hw.vws [0, 1, 2, 3, 4]).anti hle532) (by kernel_rfl)) fun hS => ?_
      refine d_pures (fuel := 3) kS403 hs hS [13, 14, 15] [0, 4, 74, 75] [(0, (pt b2 0)), (4, (pt b375 0)), (74, .agg #[vu64 y529.1.f0, vi64 y529.1.f1, vu64 y529.1.f2, vi64 y529.1.f3, vu32 y529.1.f4, vu64 y529.1.f5, .slice p533 y529.1.f6.length c534]), (75, vi64 y529.2)] (by kernel_rfl) fun a hs hS => ?_
      refine d_all (fuel := 2) (rs := [16]) (by kernel_rfl) (by simp) (all1 ?_)
      refine o_new hs rfl hw [vu64 0, vi64 0, vu64 0, vi64 0, vu32 0, vu64 0, .slice none 0 0] 96 (fun b => (pt b 0)) (by kernel_rfl) (fun _ => by kernel_rfl) fun a w b536 hs hw => ?_
      refine dg_next (SX_now hS403 ((hw.vws [1, 2, 3, 4, 5]).anti hle532) (by kernel_rfl)) fun hS => ?_
      refine d_all (fuel := 1) (rs := [17]) (by kernel_rfl) (by simp) (all1 ?_)
      refine o_store hs hw rfl 0 rfl 0 (by kernel_rfl) (by kernel_rfl) (v := .agg #[vu64 y529.1.f0, vi64 y529.1.f1, vu64 y529.1.f2, vi64 y529.1.f3, vu32 y529.1.f4, vu64 y529.1.f5, .slice p533 y529.1.f6.length c534]) (by kernel_rfl) (by kernel_rfl) (by kernel_rfl) (by kernel_rfl) fun a w hs hw => ?_
      refine dg_next (SX_now hS403 ((hw.vws [1, 2, 3, 4, 5]).anti hle532) (by kernel_rfl)) fun hS => ?_
      refine d_pures (fuel := 0) kS403 hs hS [18] [0, 4, 5] [(0, (pt b2 0)), (4, (pt b375 0)), (5, (pt b536 0))] (by kernel_rfl) fun a hs hS => ?_
      refine d_done (by kernel_rfl) ?_
      obtain rfl := someE hx527
      exact (hJ528 _ _).2 ⟨y529.1.f0, y529.1.f1, y529.1.f2, y529.1.f3, y529.1.f4, y529.1.f5, y529.1.f6, b536, p533, c534, ih531, hk, hs.cast [0, 4, 5] (by kernel_rfl), hw.pick [1, 2, 3, 0, 4, 5] (by kernel_rfl), hle532, h535⟩
    refine o_new hs rfl hw [vu64 0, vi64 0, vu64 0, vi64 0, vu32 0, vu64 0, .slice none 0 0] 96 (fun b => (pt b 0)) (by kernel_rfl) (fun _ => by kernel_rfl) fun a w b538 hs hw => ?_
    refine dg_next (SX_now hS403 ((hw.vws [1, 2, 3, 4, 5]).anti (Le.refl _)) (by kernel_rfl)) fun hS => ?_
    refine d_all (fuel := 5) (rs := [12]) (by kernel_rfl) (by simp) (all1 ?_)
    obtain ⟨y540, h541, hx527⟩ := bindE hx527
    refine o_call hs rfl (by kernel_rfl) (by kernel_rfl) (update_Request_s h541 (h23.mono hle347) (hG.mono hle347) ((hw.pick [0, 1, 2, 3, 4, 5] (by kernel_rfl)).pack 0)) fun a w v hv hs => ?_
    obtain ⟨ih542, p544, c545, rfl, hw, hle543, h546⟩ := hv
    replace hw := hw.unpack 0 rfl
    refine dg_next (SX_now hS403 ((hw.vws [1, 2, 3, 4, 5]).anti hle543) (by kernel_rfl)) fun hS => ?_
    refine d_pures (fuel := 2) kS403 hs hS [13, 14, 15] [0, 4, 5, 74, 75] [(0, (pt b2 0)), (4, (pt b375 0)), (5, (pt b538 0)), (74, .agg #[vu64 y540.1.f0, vi64 y540.1.f1, vu64 y540.1.f2, vi64 y540.1.f3, vu32 y540.1.f4, vu64 y540.1.f5, .slice p544 y540.1.f6.length c545]), (75, vi64 y540.2)] (by kernel_rfl) fun a hs hS => ?_
    refine d_all (fuel := 1) (rs := [17]) (by kernel_rfl) (by simp) (all1 ?_)
    refine o_store hs hw rfl 0 rfl 0 (by kernel_rfl) (by kernel_rfl) (v := .agg #[vu64 y540.1.f0, vi64 y540.1.f1, vu64 y540.1.f2, vi64 y540.1.f3, vu32 y540.1.f4, vu64 y540.1.f5, .slice p544 y540.1.f6.length c545]) (by kernel_rfl) (by kernel_rfl) (by kernel_rfl) (by kernel_rfl) fun a w hs hw => ?_
    refine dg_next (SX_now hS403 ((hw.vws [1, 2, 3, 4, 5]).anti hle543) (by kernel_rfl)) fun hS => ?_
    refine d_pures (fuel := 0) kS403 hs hS [18] [0, 4, 5] [(0, (pt b2 0)), (4, (pt b375 0)), (5, (pt b538 0))] (by kernel_rfl) fun a hs hS => ?_
    refine d_done (by kernel_rfl) ?_
    obtain rfl := someE hx527
    exact (hJ528 _ _).2 ⟨y540.1.f0, y540.1.f1, y540.1.f2, y540.1.f3, y540.1.f4, y540.1.f5, y540.1.f6, b538, p544, c545, ih542, hk, hs.cast [0, 4, 5] (by kernel_rfl), hw.pick [1, 2, 3, 0, 4, 5] (by kernel_rfl), hle543, h546⟩
  intro a w hh
  obtain ⟨x444, x445, x446, x447, x448, x449, x450, b442, p451, c452, ih440, hk, hs, hw, hle441, h453⟩ := (hJ528 _ _).1 hh
  refine c_seq ?_
  obtain ⟨S454, hS454, kS454⟩ := mkSX (X := [([], bx b2 [vi64 x3, vi64 x4, vu64 x5, vi64 x6, (pt b8 0), vi64 x17, vu32 x18, vu64 x19, .slice p21 x20.length c22, vi64 x24, x25, vu64 x27, vi64 x28, vu64 x29, .slice p31 x30.length c32] 85), ([], bx b8 [.slice p10 x9.length c11, x15] 113), ([13, 15, 17], bx b375 [vi64 0, vi64 x377, vi64 0, vi64 x350, vu64 x351, vu64 0, vu64 0, vu64 0, vu64 0, vu64 0, vi64 0, vu32 0, vi64 0, vi64 0, vi64 0, vu64 0, vi64 0, vi64 0, vu64 0, .slice none 0 0, .bool false, vi64 0, .slice none 0 0, .slice none 0 0, .slice none 0 0] 48), ([], bx b442 [vu64 x444, vi64 x445, vu64 x446, vi64 x447, vu32 x448, vu64 x449, .slice p451 x450.length c452] 96), ([], d13), ([], F)]) (ih := ih440) (K := [13, 15, 17]) rfl
  obtain ⟨y506, hx507, hk⟩ := bindE hk
  obtain ⟨J508, hJ508⟩ : ∃ J : Act → World → Prop, ∀ a w, J a w ↔ (∃ (x489 : Int) (x490 : List M96) (p491 : Option Addr) (c492 : Nat) (d494 : Ch) (ih487 : IH), caller_Caller_ask_r7 x377 x350 x351 x489 x490 = some r ∧ Sees a 93 [(4, (pt b375 0))] ∧ St g w [bx b2 [vi64 x3, vi64 x4, vu64 x5, vi64 x6, (pt b8 0), vi64 x17, vu32 x18, vu64 x19, .slice p21 x20.length c22, vi64 x24, x25, vu64 x27, vi64 x28, vu64 x29, .slice p31 x30.length c32] 85, bx b8 [.slice p10 x9.length c11, x15] 113, bx b375 [vi64 17, vi64 x377, vi64 x489, vi64 x350, vu64 x351, vu64 0, vu64 0, vu64 0, vu64 0, vu64 0, vi64 0, vu32 0, vi64 0, vi64 0, vi64 0, vu64 0, vi64 0, vi64 0, vu64 0, .slice none 0 0, .bool false, vi64 0, .slice none 0 0, .slice p491 x490.length c492, .slice none 0 0] 48, d13, d494, F] ih487 ∧ Le ih440 ih487 ∧ OSl e96 ih487 p491 c492 x490 d494) := ⟨_, fun _ _ => Iff.rfl⟩
  refine c_draw (by kernel_rfl) (N := 18) rfl S454 J508 ?_ ?_
  · have hw := hw.drew
    have hS : S454 (Array.replicate 18 false) _ := SX_now hS454 (hw.vws [0, 1, 2, 3, 4, 5]) (by kernel_rfl)
    refine d_pures (fuel := 15) kS454 hs hS [0, 1, 2] [0, 4, 5, 78] [(0, (pt b2 0)), (4, (pt b375 0)), (5, (pt b442 0)), (78, (pt b2 4))] (by kernel_rfl) fun a hs hS => ?_
    refine d_load (fuel := 14) kS454 hs hS 3 rfl (by kernel_rfl) (SX_box hS454 0 rfl (by kernel_rfl)) 4 (by kernel_rfl) (by kernel_rfl) (v := (pt b8 0)) (by kernel_rfl) fun a hs hS => ?_
    refine d_pures (fuel := 10) kS454 hs hS [4, 5, 6, 7] [4, 5, 79, 83] [(4, (pt b375 0)), (5, (pt b442 0)), (79, (pt b8 0)), (83, (pt b2 6))] (by kernel_rfl) fun a hs hS => ?_
    refine d_load (fuel := 9) kS454 hs hS 8 rfl (by kernel_rfl) (SX_box hS454 0 rfl (by kernel_rfl)) 6 (by kernel_rfl) (by kernel_rfl) (v := vu32 x18) (by kernel_rfl) fun a hs hS => ?_
    refine d_load (fuel := 8) kS454 hs hS 10 rfl (by kernel_rfl) (SX_box hS454 3 rfl (by kernel_rfl)) 0 (by kernel_rfl) (by kernel_rfl) (v := .agg #[vu64 x444, vi64 x445, vu64 x446, vi64 x447, vu32 x448, vu64 x449, .slice p451 x450.length c452]) (by kernel_rfl) fun a hs hS => ?_
    refine d_pures (fuel := 7) kS454 hs hS [12] [4, 79, 84, 86, 88] [(4, (pt b375 0)), (79, (pt b8 0)), (84, vu32 x18), (86, .agg #[vu64 x444, vi64 x445, vu64 x446, vi64 x447, vu32 x448, vu64 x449, .slice p451 x450.length c452]), (88, (pt b375 0))] (by kernel_rfl) fun a hs hS => ?_
    refine d_all (fuel := 6) (rs := [9, 11]) (by kernel_rfl) (by simp) (all2 ?_ (all1 ?_))
    · obtain ⟨y509, h510, hx507⟩ := bindE hx507
      refine o_call hs rfl (by kernel_rfl) (by kernel_rfl) (atlas_Atlas_Head_s (x9 := (x15)) h510 (h12.mono (hle347.trans hle441)) h16 ((hw.pick [1, 4, 0, 2, 3, 5] (by kernel_rfl)).pack 2)) fun a w v hv hs => ?_
      obtain ⟨ih511, rfl, hw, hle512⟩ := hv
      replace hw := hw.unpack 2 rfl
      refine dg_next (SX_now hS454 ((hw.vws [2, 0, 3, 4, 1, 5]).anti hle512) (by kernel_rfl)) fun hS => ?_
      refine d_all (fuel := 5) (rs := [11, 13]) (by kernel_rfl) (by simp) (all2 ?_ (all1 ?_))
      · refine o_new hs rfl hw [vu64 x444, vi64 x445, vu64 x446, vi64 x447, vu32 x448, vu64 x449, .slice p451 x450.length c452] 96 (fun b => .slice (some ⟨b, 0, none⟩) 1 1) (by kernel_rfl) (fun _ => by kernel_rfl) fun a w b513 hs hw => ?_
        refine dg_next (SX_now hS454 ((hw.vws [3, 1, 4, 5, 2, 6]).anti hle512) (by kernel_rfl)) fun hS => ?_
        refine d_all (fuel := 4) (rs := [13]) (by kernel_rfl) (by simp) (all1 ?_)
        refine o_store hs hw rfl 4 rfl 0 (by kernel_rfl) (by kernel_rfl) (v := vi64 17) (by kernel_rfl) (by kernel_rfl) (by kernel_rfl) (by kernel_rfl) fun a w hs hw => ?_
        refine dg_next (SX_now hS454 ((hw.vws [3, 1, 5, 2, 6]).anti hle512) (by kernel_rfl)) fun hS => ?_
        refine d_pures (fuel := 3) kS454 hs hS [14] [4, 85, 87, 89] [(4, (pt b375 0)), (85, vi64 y509), (87, .slice (some ⟨b513, 0, none⟩) 1 1), (89, (pt b375 2))] (by kernel_rfl) fun a hs hS => ?_
        refine d_all (fuel := 2) (rs := [15]) (by kernel_rfl) (by simp) (all1 ?_)
        refine o_store hs hw rfl 4 rfl 2 (by kernel_rfl) (by kernel_rfl) (v := vi64 y509) (by kernel_rfl) (by kernel_rfl) (by kernel_rfl) (by kernel_rfl) fun a w hs hw => ?_
        refine dg_next (SX_now hS454 ((hw.vws [3, 1, 5, 2, 6]).anti hle512) (by kernel_rfl)) fun hS => ?_
        refine d_pures (fuel := 1) kS454 hs hS [16] [4, 87, 90] [(4, (pt b375 0)), (87, .slice (some ⟨b513, 0, none⟩) 1 1), (90, (pt b375 23))] (by kernel_rfl) fun a hs hS => ?_
        refine d_all (fuel := 0) (rs := [17]) (by kernel_rfl) (by simp) (all1 ?_)
        refine o_store hs hw rfl 4 rfl 23 (by kernel_rfl) (by kernel_rfl) (v := .slice (some ⟨b513, 0, none⟩) 1 1) (by kernel_rfl) (by kernel_rfl) (by kernel_rfl) (by kernel_rfl) fun a w hs hw => ?_
        refine dg_next (SX_now hS454 ((hw.vws [3, 1, 5, 2, 6]).anti hle512) (by kernel_rfl)) fun hS => ?_
        refine d_done (by kernel_rfl) ?_
        obtain rfl := someE hx507
        exact (hJ508 _ _).2 ⟨y509, ([(M96.mk x444 x445 x446 x447 x448 x449 x450)]), (some ⟨b513, 0, none⟩), 1, (bx b513 [vu64 x444, vi64 x445, vu64 x446, vi64 x447, vu32 x448, vu64 x449, .slice p451 x450.length c452] 96), ih511, hk, hs.cast [4] (by kernel_rfl), hw.pick [3, 1, 4, 2, 0, 6] (by kernel_rfl), hle512, (OSl.of1 (E := e96) (z := (M96.mk x444 x445 x446 x447 x448 x449 x450)) ⟨p451, c452, rfl, (h453.mono hle512)⟩ (by simp [maxLen]))⟩
      refine o_store hs hw rfl 3 rfl 0 (by kernel_rfl) (by kernel_rfl) (v := vi64 17) (by kernel_rfl) (by kernel_rfl) (by kernel_rfl) (by kernel_rfl) fun a w hs hw => ?_
      refine dg_next (SX_now hS454 ((hw.vws [2, 0, 4, 1, 5]).anti hle512) (by kernel_rfl)) fun hS => ?_
      refine d_pures (fuel := 4) kS454 hs hS [14] [4, 86, 85, 89] [(4, (pt b375 0)), (86, .agg #[vu64 x444, vi64 x445, vu64 x446, vi64 x447, vu32 x448, vu64 x449, .slice p451 x450.length c452]), (85, vi64 y509), (89, (pt b375 2))] (by kernel_rfl) fun a hs hS => ?_
      refine d_all (fuel := 3) (rs := [11, 15]) (by kernel_rfl) (by simp) (all2 ?_ (all1 ?_))
      · refine o_new hs rfl hw [vu64 x444, vi64 x445, vu64 x446, vi64 x447, vu32 x448, vu64 x449, .slice p451 x450.length c452] 96 (fun b => .slice (some ⟨b, 0, none⟩) 1 1) (by kernel_rfl) (fun _ => by kernel_rfl) fun a w b515 hs hw => ?_
        refine dg_next (SX_now hS454 ((hw.vws [3, 1, 5, 2, 6]).anti hle512) (by kernel_rfl)) fun hS => ?_
        refine d_all (fuel := 2) (rs := [15]) (by kernel_rfl) (by simp) (all1 ?_)
        refine o_store hs hw rfl 4 rfl 2 (by kernel_rfl) (by kernel_rfl) (v := vi64 y509) (by kernel_rfl) (by kernel_rfl) (by kernel_rfl) (by kernel_rfl) fun a w hs hw => ?_
        refine dg_next (SX_now hS454 ((hw.vws [3, 1, 5, 2, 6]).anti hle512) (by kernel_rfl)) fun hS => ?_
        refine d_pures (fuel := 1) kS454 hs hS [16] [4, 87, 90] [(4, (pt b375 0)), (87, .slice (some ⟨b515, 0, none⟩) 1 1), (90, (pt b375 23))] (by kernel_rfl) fun a hs hS => ?_
        refine d_all (fuel := 0) (rs := [17]) (by kernel_rfl) (by simp) (all1 ?_)
        refine o_store hs hw rfl 4 rfl 23 (by kernel_rfl) (by kernel_rfl) (v := .slice (some ⟨b515, 0, none⟩) 1 1) (by kernel_rfl) (by kernel_rfl) (by kernel_rfl) (by kernel_rfl) fun a w hs hw => ?_
        refine dg_next (SX_now hS454 ((hw.vws [3, 1, 5, 2, 6]).anti hle512) (by kernel_rfl)) fun hS => ?_
        refine d_done (by kernel_rfl) ?_
        obtain rfl := someE hx507
        exact (hJ508 _ _).2 ⟨y509, ([(M96.mk x444 x445 x446 x447 x448 x449 x450)]), (some ⟨b515, 0, none⟩), 1, (bx b515 [vu64 x444, vi64 x445, vu64 x446, vi64 x447, vu32 x448, vu64 x449, .slice p451 x450.length c452] 96), ih511, hk, hs.cast [4] (by kernel_rfl), hw.pick [3, 1, 4, 2, 0, 6] (by kernel_rfl), hle512, (OSl.of1 (E := e96) (z := (M96.mk x444 x445 x446 x447 x448 x449 x450)) ⟨p451, c452, rfl, (h453.mono hle512)⟩ (by simp [maxLen]))⟩
      refine o_store hs hw rfl 3 rfl 2 (by kernel_rfl) (by kernel_rfl) (v := vi64 y509) (by kernel_rfl) (by kernel_rfl) (by kernel_rfl) (by kernel_rfl) fun a w hs hw => ?_
      refine dg_next (SX_now hS454 ((hw.vws [2, 0, 4, 1, 5]).anti hle512) (by kernel_rfl)) fun hS => ?_
      refine d_all (fuel := 2) (rs := [11]) (by kernel_rfl) (by simp) (all1 ?_)
      refine o_new hs rfl hw [vu64 x444, vi64 x445, vu64 x446, vi64 x447, vu32 x448, vu64 x449, .slice p451 x450.length c452] 96 (fun b => .slice (some ⟨b, 0, none⟩) 1 1) (by kernel_rfl) (fun _ => by kernel_rfl) fun a w b517 hs hw => ?_
      refine dg_next (SX_now hS454 ((hw.vws [3, 1, 5, 2, 6]).anti hle512) (by kernel_rfl)) fun hS => ?_
      refine d_pures (fuel := 1) kS454 hs hS [16] [4, 87, 90] [(4, (pt b375 0)), (87, .slice (some ⟨b517, 0, none⟩) 1 1), (90, (pt b375 23))] (by kernel_rfl) fun a hs hS => ?_
      refine d_all (fuel := 0) (rs := [17]) (by kernel_rfl) (by simp) (all1 ?_)
      refine o_store hs hw rfl 4 rfl 23 (by kernel_rfl) (by kernel_rfl) (v := .slice (some ⟨b517, 0, none⟩) 1 1) (by kernel_rfl) (by kernel_rfl) (by kernel_rfl) (by kernel_rfl) fun a w hs hw => ?_
      refine dg_next (SX_now hS454 ((hw.vws [3, 1, 5, 2, 6]).anti hle512) (by kernel_rfl)) fun hS => ?_
      refine d_done (by kernel_rfl) ?_
      obtain rfl := someE hx507
      exact (hJ508 _ _).2 ⟨y509, ([(M96.mk x444 x445 x446 x447 x448 x449 x450)]), (some ⟨b517, 0, none⟩), 1, (bx b517 [vu64 x444, vi64 x445, vu64 x446, vi64 x447, vu32 x448, vu64 x449, .slice p451 x450.length c452] 96), ih511, hk, hs.cast [4] (by kernel_rfl), hw.pick [3, 1, 4, 2, 0, 6] (by kernel_rfl), hle512, (OSl.of1 (E := e96) (z := (M96.mk x444 x445 x446 x447 x448 x449 x450)) ⟨p451, c452, rfl, (h453.mono hle512)⟩ (by simp [maxLen]))⟩
    refine o_new hs rfl hw [vu64 x444, vi64 x445, vu64 x446, vi64 x447, vu32 x448, vu64 x449, .slice p451 x450.length c452] 96 (fun b => .slice (some ⟨b, 0, none⟩) 1 1) (by kernel_rfl) (fun _ => by kernel_rfl) fun a w b519 hs hw => ?_
    refine dg_next (SX_now hS454 ((hw.vws [1, 2, 3, 4, 5, 6]).anti (Le.refl _)) (by kernel_rfl)) fun hS => ?_
    refine d_all (fuel := 5) (rs := [9]) (by kernel_rfl) (by simp) (all1 ?_)
    obtain ⟨y521, h522, hx507⟩ := bindE hx507
    refine o_call hs rfl (by kernel_rfl) (by kernel_rfl) (atlas_Atlas_Head_s (x9 := (x15)) h522 (h12.mono (hle347.trans hle441)) h16 ((hw.pick [2, 5, 0, 1, 3, 4, 6] (by kernel_rfl)).pack 2)) fun a w v hv hs => ?_
    obtain ⟨ih523, rfl, hw, hle524⟩ := hv
    replace hw := hw.unpack 2 rfl
    refine dg_next (SX_now hS454 ((hw.vws [3, 0, 4, 5, 1, 6]).anti hle524) (by kernel_rfl)) fun hS => ?_
    refine d_all (fuel := 4) (rs := [13]) (by kernel_rfl) (by simp) (all1 ?_)
    refine o_store hs hw rfl 4 rfl 0 (by kernel_rfl) (by kernel_rfl) (v := vi64 17) (by kernel_rfl) (by kernel_rfl) (by kernel_rfl) (by kernel_rfl) fun a w hs hw => ?_
    refine dg_next (SX_now hS454 ((hw.vws [3, 0, 5, 1, 6]).anti hle524) (by kernel_rfl)) fun hS => ?_
    refine d_pures (fuel := 3) kS454 hs hS [14] [4, 87, 85, 89] [(4, (pt b375 0)), (87, .slice (some ⟨b519, 0, none⟩) 1 1), (85, vi64 y521), (89, (pt b375 2))] (by kernel_rfl) fun a hs hS => ?_
    refine d_all (fuel := 2) (rs := [15]) (by kernel_rfl) (by simp) (all1 ?_)
    refine o_store hs hw rfl 4 rfl 2 (by kernel_rfl) (by kernel_rfl) (v := vi64 y521) (by kernel_rfl) (by kernel_rfl) (by kernel_rfl) (by kernel_rfl) fun a w hs hw => ?_
    refine dg_next (SX_now hS454 ((hw.vws [3, 0, 5, 1, 6]).anti hle524) (by kernel_rfl)) fun hS => ?_
    refine d_pures (fuel := 1) kS454 hs hS [16] [4, 87, 90] [(4, (pt b375 0)), (87, .slice (some ⟨b519, 0, none⟩) 1 1), (90, (pt b375 23))] (by kernel_rfl) fun a hs hS => ?_
    refine d_all (fuel := 0) (rs := [17]) (by kernel_rfl) (by simp) (all1 ?_)
    refine o_store hs hw rfl 4 rfl 23 (by kernel_rfl) (by kernel_rfl) (v := .slice (some ⟨b519, 0, none⟩) 1 1) (by kernel_rfl) (by kernel_rfl) (by kernel_rfl) (by kernel_rfl) fun a w hs hw => ?_
    refine dg_next (SX_now hS454 ((hw.vws [3, 0, 5, 1, 6]).anti hle524) (by kernel_rfl)) fun hS => ?_
    refine d_done (by kernel_rfl) ?_
    obtain rfl := someE hx507
    exact (hJ508 _ _).2 ⟨y521, ([(M96.mk x444 x445 x446 x447 x448 x449 x450)]), (some ⟨b519, 0, none⟩), 1, (bx b519 [vu64 x444, vi64 x445, vu64 x446, vi64 x447, vu32 x448, vu64 x449, .slice p451 x450.length c452] 96), ih523, hk, hs.cast [4] (by kernel_rfl), hw.pick [3, 0, 4, 1, 2, 6] (by kernel_rfl), hle524, (OSl.of1 (E := e96) (z := (M96.mk x444 x445 x446 x447 x448 x449 x450)) ⟨p451, c452, rfl, (h453.mono hle524)⟩ (by simp [maxLen]))⟩
  intro a w hh
  obtain ⟨x489, x490, p491, c492, d494, ih487, hk, hs, hw, hle488, h493⟩ := (hJ508 _ _).1 hh
  refine c_seq ?_
  refine c_region ?_
  refine s_load hs (hw.at_ 2 rfl) 0 (by kernel_rfl) (by kernel_rfl) (v := .agg #[vi64 17, vi64 x377, vi64 x489, vi64 x350, vu64 x351, vu64 0, vu64 0, vu64 0, vu64 0, vu64 0, vi64 0, vu32 0, vi64 0, vi64 0, vi64 0, vu64 0, vi64 0, vi64 0, vu64 0, .slice none 0 0, .bool false, vi64 0, .slice none 0 0, .slice p491 x490.length c492, .slice none 0 0]) (by kernel_rfl) fun a hs => ?_
  obtain ⟨ih501, hle502, hw, h503⟩ := (hw.pick [4, 0, 1, 2, 3, 5] (by kernel_rfl)).fz (h493.mono (Le.refl _))
  refine s_new hs hw [vi64 17, vi64 x377, vi64 x489, vi64 x350, vu64 x351, vu64 0, vu64 0, vu64 0, vu64 0, vu64 0, vi64 0, vu32 0, vi64 0, vi64 0, vi64 0, vu64 0, vi64 0, vi64 0, vu64 0, .slice none 0 0, .bool false, vi64 0, .slice none 0 0, .slice p491 x490.length c492, .slice none 0 0] 48 (fun b => .slice (some ⟨b, 0, none⟩) 1 1) (by kernel_rfl) (fun _ => by kernel_rfl) fun a w b504 hs hw => ?_
  refine pures hs 1 [2] [(2, .slice (some ⟨b504, 0, none⟩) 1 1)] (by kernel_rfl) fun a hs => ?_
  refine s_end ?_
  refine c_ret ?_
  obtain rfl := someE hk
  refine hQ _ _ (f_ret1 hs rfl (v := .slice (some ⟨b504, 0, none⟩) ([(M48.mk 17 x377 x489 x350 x351 0 0 0 0 0 0 0 0 (M41.mk 0 0 0 0) (M44.mk 0 0 ([]) false 0) ([]) x490 ([]))]).length 1) (by kernel_rfl) ⟨ih501, (some ⟨b504, 0, none⟩), 1, (bx b504 [vi64 17, vi64 x377, vi64 x489, vi64 x350, vu64 x351, vu64 0, vu64 0, vu64 0, vu64 0, vu64 0, vi64 0, vu32 0, vi64 0, vi64 0, vi64 0, vu64 0, vi64 0, vi64 0, vu64 0, .slice none 0 0, .bool false, vi64 0, .slice none 0 0, .slice p491 x490.length c492, .slice none 0 0] 48), rfl, hw.pick [0, 1, 2, 4, 5] (by kernel_rfl), (((hle347.trans hle441).trans hle488).trans hle502), (OSl.of1 (E := e48) (z := (M48.mk 17 x377 x489 x350 x351 0 0 0 0 0 0 0 0 (M41.mk 0 0 0 0) (M44.mk 0 0 ([]) false 0) ([]) x490 ([]))) ⟨none, 0, none, 0, p491, c492, none, 0, rfl, (RSl.nil _ _ _), (RSl.nil _ _ _), h503, (RSl.nil _ _ _)⟩ (by simp [maxLen]))⟩)
def caller_Caller_Begin_4_r2 (k : Nat) (x3 : Int) (x5 : Int) (x9 : List M44) (x32 : M26) (y159 : List Int) (x187 : List Int) : Option (Sum ((List M48) × Int × Int × Int × Int × Int × (List Int) × Int) ((List M48) × (List Int) × Int × Int × Int × Int × (List Int) × Int)) :=
  (caller_Caller_ask k x3 (IntKind.u64.wrap (x5 + 1)) x9 x32.f0 x32.f1 x32.f2 y159 x32.f4).bind fun y208 =>
  some (.inr (y208, x187, IntKind.u64.wrap (x5 + 1), x32.f0, x32.f1, x32.f2, y159, x32.f4))
def caller_Caller_Begin_4 (k : Nat) (x3 : Int) (x5 : Int) (x9 : List M44) (x17 : Int) (x18 : Int) (x19 : Int) (x20 : List Int) (x24 : Int) (x32 : M26) : Option (Sum ((List M48) × Int × Int × Int × Int × Int × (List Int) × Int) ((List M48) × (List Int) × Int × Int × Int × Int × (List Int) × Int)) :=
  (caller_Caller_check k x3 x5 x32).bind fun y145 =>
  if (y145 != 0) = true then some (.inl ([], y145, x5, x17, x18, x19, x20, x24))
  else (bytes_Clone x32.f3).bind fun y159 =>
  ((latch_New_api_Reply).bind fun y220 =>
    some y220 : Option (List Int)).bind fun s229 => caller_Caller_Begin_4_r2 k x3 x5 x9 x32 y159 s229
theorem caller_Caller_Begin_4_s {k : Nat} {x3 : Int} {x4 : Int} {x5 : Int} {x6 : Int} {x9 : List M44} {x15 : Value} {x17 : Int} {x18 : Int} {x19 : Int} {x20 : List Int} {x24 : Int} {x25 : Int} {x26 : Int} {x27 : Int} {x28 : List Int} {x32 : M26} {b2 : Nat} {b8 : Nat} {p10 : Option Addr} {c11 : Nat} {d13 : Ch} {p21 : Option Addr} {c22 : Nat} {p29 : Option Addr} {c30 : Nat} {p33 : Option Addr} {c34 : Nat} {r : Sum ((List M48) × Int × Int × Int × Int × Int × (List Int) × Int) ((List M48) × (List Int) × Int × Int × Int × Int × (List Int) × Int)} (hk : caller_Caller_Begin_4 k x3 x5 x9 x17 x18 x19 x20 x24 x32 = some r) {g w : World} {F : Ch} {ih : IH} (h12 : OSl e44 ih p10 c11 x9 d13) (h16 : x15.oneCell' = true) (h23 : RSl e5 ih [] p21 c22 x20) (h31 : RSl e5 ih [] p29 c30 x28) (h35 : RSl e5 ih [] p33 c34 x32.f3) (hG : Glob 0 gl0 162 ih) (hw : St g w [bx b2 [vi64 x3, vi64 x4, vu64 x5, vi64 x6, (pt b8 0), vi64 x17, vu32 x18, vu64 x19, .slice p21 x20.length c22, vi64 x24, .pointer none, vu64 x25, vi64 x26, vu64 x27, .slice p29 x28.length c30] 85, bx b8 [.slice p10 x9.length c11, x15] 113, d13, F] ih) :
    CallsR Tryz.prog 9 #[(pt b2 0), .agg #[vi64 x32.f0, vu32 x32.f1, vu64 x32.f2, .slice p33 x32.f3.length c34, vi64 x32.f4]] w fun v w' => (∃ r0 : (List M48) × Int × Int × Int × Int × Int × (List Int) × Int, r = .inl r0 ∧ ∃ (ih' : IH) (p230 : Option Addr) (c231 : Nat) (d233 : Ch) (p235 : Option Addr) (c236 : Nat), v = .tuple #[.slice p230 r0.1.length c231, vi64 r0.2.1] ∧ St g w' [d233, bx b2 [vi64 x3, vi64 x4, vu64 r0.2.2.1, vi64 x6, (pt b8 0), vi64 r0.2.2.2.1, vu32 r0.2.2.2.2.1, vu64 r0.2.2.2.2.2.1, .slice p235 r0.2.2.2.2.2.2.1.length c236, vi64 r0.2.2.2.2.2.2.2, .pointer none, vu64 x25, vi64 x26, vu64 x27, .slice p29 x28.length c30] 85, bx b8 [.slice p10 x9.length c11, x15] 113, d13, F] ih' ∧ Le ih ih' ∧ OSl e48 ih' p230 c231 r0.1 d233 ∧ RSl e5 ih' [] p235 c236 r0.2.2.2.2.2.2.1) ∨ (∃ r1 : (List M48) × (List Int) × Int × Int × Int × Int × (List Int) × Int, r = .inr r1 ∧ ∃ (ih' : IH) (p237 : Option Addr) (c238 : Nat) (d240 : Ch) (b242 : Nat) (p244 : Option Addr) (c245 : Nat) (d247 : Ch) (p249 : Option Addr) (c250 : Nat), v = .tuple #[.slice p237 r1.1.length c238, vi64 0] ∧ St g w' [d240, bx b242 [vu32 0, vi32 0, vu32 0, vu32 0, vi64 0, vu64 0, .slice p244 r1.2.1.length c245] 126, d247, bx b2 [vi64 x3, vi64 x4, vu64 r1.2.2.1, vi64 x6, (pt b8 0), vi64 r1.2.2.2.1, vu32 r1.2.2.2.2.1, vu64 r1.2.2.2.2.2.1, .slice p249 r1.2.2.2.2.2.2.1.length c250, vi64 r1.2.2.2.2.2.2.2, (pt b242 0), vu64 x25, vi64 x26, vu64 x27, .slice p29 x28.length c30] 85, bx b8 [.slice p10 x9.length c11, x15] 113, d13, F] ih' ∧ Le ih ih' ∧ OSl e48 ih' p237 c238 r1.1 d240 ∧ OSl e5 ih' p244 c245 r1.2.1 d247 ∧ RSl e5 ih' [] p249 c250 r1.2.2.2.2.2.2.1) := by
  refine f_in (vs := [(pt b2 0), .agg #[vi64 x32.f0, vu32 x32.f1, vu64 x32.f2, .slice p33 x32.f3.length c34, vi64 x32.f4]]) Tryz.func9 rfl 40 rfl (by kernel_rfl) [(0, (pt b2 0)), (1, .agg #[vi64 x32.f0, vu32 x32.f1, vu64 x32.f2, .slice p33 x32.f3.length c34, vi64 x32.f4])] (by kernel_rfl) fun a Qf hQ hQn hs => ?_
  refine c_seq ?_
  refine c_region ?_
  refine s_new hs hw [vi64 x32.f0, vu32 x32.f1, vu64 x32.f2, .slice p33 x32.f3.length c34, vi64 x32.f4] 26 (fun b => (pt b 0)) (by kernel_rfl) (fun _ => by kernel_rfl) fun a w b135 hs hw => ?_
  refine pures hs 2 [0, 3] [(0, (pt b2 0)), (3, (pt b135 0))] (by kernel_rfl) fun a hs => ?_
  refine s_end ?_
  refine c_seq ?_
  refine c_block ?_
  refine c_seq ?_
  refine c_region ?_
  refine pures hs 3 [0, 3, 7] [(0, (pt b2 0)), (3, (pt b135 0)), (7, .bool false)] (by kernel_rfl) fun a hs => ?_
  refine s_end ?_
  refine c_condF hs (by kernel_rfl) (by kernel_rfl) ?_
  refine c_seq ?_
  refine c_region ?_
  refine pures hs 1 [0, 3, 11] [(0, (pt b2 0)), (3, (pt b135 0)), (11, (pt b2 0))] (by kernel_rfl) fun a hs => ?_
  have h140 : caller_Caller_Busy_3 = some () := rfl
  refine s_call hs (by kernel_rfl) (by kernel_rfl) (caller_Caller_Busy_3_s (x3 := x3) (x4 := x4) (x5 := x5) (x6 := x6) (x9 := x9) (x15 := (x15)) (x17 := x17) (x18 := x18) (x19 := x19) (x20 := x20) (x24 := x24) (x25 := x25) (x26 := x26) (x27 := x27) (x28 := x28) h140 h12 h16 h23 h31 ((hw.pick [1, 2, 3, 0, 4] (by kernel_rfl)).pack 3)) fun a w v hv hs => ?_
  obtain ⟨rfl, hw⟩ := hv
  replace hw := hw.unpack 3 rfl
  refine pures hs 1 [0, 3, 10] [(0, (pt b2 0)), (3, (pt b135 0)), (10, .bool false)] (by kernel_rfl) fun a hs => ?_
  refine s_end ?_
  refine c_condF hs (by kernel_rfl) (by kernel_rfl) ?_
  refine c_skip ?_
  refine c_seq ?_
  refine c_seq ?_
  refine c_region ?_
  refine pures hs 1 [0, 3, 13] [(0, (pt b2 0)), (3, (pt b135 0)), (13, (pt b2 0))] (by kernel_rfl) fun a hs => ?_
  refine s_load hs (hw.at_ 3 rfl) 0 (by kernel_rfl) (by kernel_rfl) (v := .agg #[vi64 x32.f0, vu32 x32.f1, vu64 x32.f2, .slice p33 x32.f3.length c34, vi64 x32.f4]) (by kernel_rfl) fun a hs => ?_
  obtain ⟨y145, h146, hk⟩ := bindE hk
  refine s_call hs (by kernel_rfl) (by kernel_rfl) (caller_Caller_check_s (x4 := x4) (x6 := x6) (x9 := x9) (x15 := (x15)) (x17 := x17) (x18 := x18) (x19 := x19) (x20 := x20) (x24 := x24) (x25 := (.pointer none)) (x27 := x25) (x28 := x26) (x29 := x27) (x30 := x28) h146 h12 h16 h23 rfl h31 h35 (hG.mono (Le.refl _)) ((hw.pick [0, 1, 2, 3, 4] (by kernel_rfl)).pack 3)) fun a w v hv hs => ?_
  obtain ⟨ih147, rfl, hw, hle148⟩ := hv
  replace hw := hw.unpack 3 rfl
  refine pures hs 1 [0, 3, 6] [(0, (pt b2 0)), (3, (pt b135 0)), (6, vi64 y145)] (by kernel_rfl) fun a hs => ?_
  refine s_end ?_
  refine c_seq ?_
  refine c_region ?_
  refine pures hs 2 [0, 3, 6, 17] [(0, (pt b2 0)), (3, (pt b135 0)), (6, vi64 y145), (17, .bool (y145 != 0))] (by kernel_rfl) fun a hs => ?_
  refine s_end ?_
  rcases ifbE hk with ⟨h149, hk⟩ | ⟨h149, hk⟩
  · refine c_cond1 hs (by kernel_rfl) (t := (y145 != 0)) (by kernel_rfl) h149 ?_
    refine c_seq ?_
    refine c_region ?_
    refine pures hs 3 [4, 5] [(4, .slice none 0 0), (5, vi64 y145)] (by kernel_rfl) fun a hs => ?_
    refine s_end ?_
    refine c_ret ?_
    replace hw := hw.nil
    obtain rfl := someE hk
    refine hQ _ _ (f_retN hs [.tmp 4, .tmp 5] rfl [.slice none 0 0, vi64 y145] (by kernel_rfl) (by kernel_rfl) (.inl ⟨_, rfl, ⟨ih147, none, 0, ([]), p21, c22, rfl, hw.pick [0, 1, 2, 3, 5] (by kernel_rfl), hle148, (OSl.nil _ _), (h23.mono hle148)⟩⟩))
  refine c_cond0 hs (by kernel_rfl) (t := (y145 != 0)) (by kernel_rfl) h149 ?_
  refine c_skip ?_
  refine c_seq ?_
  refine c_region ?_
  refine pures hs 1 [0, 3, 19] [(0, (pt b2 0)), (3, (pt b135 0)), (19, (pt b135 3))] (by kernel_rfl) fun a hs => ?_
  refine s_load hs (hw.at_ 3 rfl) 3 (by kernel_rfl) (by kernel_rfl) (v := .slice p33 x32.f3.length c34) (by kernel_rfl) fun a hs => ?_
  obtain ⟨y159, h160, hk⟩ := bindE hk
  refine s_call hs (by kernel_rfl) (by kernel_rfl) (bytes_Clone_s h160 (h35.mono hle148) (nilSub _) ((hw.pick [0, 1, 2, 3, 4] (by kernel_rfl)).pack 0)) fun a w v hv hs => ?_
  obtain ⟨p161, c162, d164, rfl, hw, h163⟩ := hv
  replace hw := hw.unpack 1 rfl
  refine pures hs 1 [0, 3, 21, 22] [(0, (pt b2 0)), (3, (pt b135 0)), (21, .slice p161 y159.length c162), (22, (pt b135 3))] (by kernel_rfl) fun a hs => ?_
  refine s_store hs hw 4 rfl 3 (by kernel_rfl) (by kernel_rfl) (v := .slice p161 y159.length c162) (by kernel_rfl) (by kernel_rfl) (by kernel_rfl) (by kernel_rfl) fun a w hs hw => ?_
  refine s_end ?_
  refine c_seq ?_
  refine c_region ?_
  refine pures hs 3 [0, 3, 23, 25] [(0, (pt b2 0)), (3, (pt b135 0)), (23, (pt b2 0)), (25, (pt b2 2))] (by kernel_rfl) fun a hs => ?_
  refine s_load hs (hw.at_ 1 rfl) 2 (by kernel_rfl) (by kernel_rfl) (v := vu64 x5) (by kernel_rfl) fun a hs => ?_
  refine pures hs 3 [0, 3, 27, 29] [(0, (pt b2 0)), (3, (pt b135 0)), (27, vu64 (IntKind.u64.wrap (x5 + 1))), (29, (pt b2 2))] (by kernel_rfl) fun a hs => ?_
  refine s_store hs hw 1 rfl 2 (by kernel_rfl) (by kernel_rfl) (v := vu64 (IntKind.u64.wrap (x5 + 1))) (by kernel_rfl) (by kernel_rfl) (by kernel_rfl) (by kernel_rfl) fun a w hs hw => ?_
  refine s_end ?_
  refine c_seq ?_
  obtain ⟨S166, hS166, kS166⟩ := mkSX (X := [([], d164), ([6, 9], bx b2 [vi64 x3, vi64 x4, vu64 (IntKind.u64.wrap (x5 + 1)), vi64 x6, (pt b8 0), vi64 x17, vu32 x18, vu64 x19, .slice p21 x20.length c22, vi64 x24, .pointer none, vu64 x25, vi64 x26, vu64 x27, .slice p29 x28.length c30] 85), ([], bx b8 [.slice p10 x9.length c11, x15] 113), ([], d13), ([], bx b135 [vi64 x32.f0, vu32 x32.f1, vu64 x32.f2, .slice p161 y159.length c162, vi64 x32.f4] 26), ([], F)]) (ih := ih147) (K := [6, 9]) rfl
  obtain ⟨y217, hx218, hk⟩ := bindE hk
  obtain ⟨J219, hJ219⟩ : ∃ J : Act → World → Prop, ∀ a w, J a w ↔ (∃ (x187 : List Int) (b185 : Nat) (p188 : Option Addr) (c189 : Nat) (d191 : Ch), caller_Caller_Begin_4_r2 k x3 x5 x9 x32 y159 x187 = some r ∧ Sees a 40 [(0, (pt b2 0))] ∧ St g w [bx b2 [vi64 x3, vi64 x4, vu64 (IntKind.u64.wrap (x5 + 1)), vi64 x6, (pt b8 0), vi64 x32.f0, vu32 x32.f1, vu64 x32.f2, .slice p161 y159.length c162, vi64 x32.f4, (pt b185 0), vu64 x25, vi64 x26, vu64 x27, .slice p29 x28.length c30] 85, bx b8 [.slice p10 x9.length c11, x15] 113, bx b185 [vu32 0, vi32 0, vu32 0, vu32 0, vi64 0, vu64 0, .slice p188 x187.length c189] 126, d191, d164, d13, F] ih147 ∧ OSl e5 ih147 p188 c189 x187 d191) := ⟨_, fun _ _ => Iff.rfl⟩
  refine c_draw (by kernel_rfl) (N := 10) rfl S166 J219 ?_ ?_
  · have hw := hw.drew
    have hS : S166 (Array.replicate 10 false) _ := SX_now hS166 (hw.vws [0, 1, 2, 3, 4, 5]) (by kernel_rfl)
    refine d_pures (fuel := 8) kS166 hs hS [0, 1] [0, 3, 30, 31] [(0, (pt b2 0)), (3, (pt b135 0)), (30, (pt b2 0)), (31, (pt b2 0))] (by kernel_rfl) fun a hs hS => ?_
    refine d_load (fuel := 7) kS166 hs hS 2 rfl (by kernel_rfl) (SX_box hS166 4 rfl (by kernel_rfl)) 0 (by kernel_rfl) (by kernel_rfl) (v := .agg #[vi64 x32.f0, vu32 x32.f1, vu64 x32.f2, .slice p161 y159.length c162, vi64 x32.f4]) (by kernel_rfl) fun a hs hS => ?_
    refine d_all (fuel := 6) (rs := [3]) (by kernel_rfl) (by simp) (all1 ?_)
    obtain ⟨y220, h221, hx218⟩ := bindE hx218
    refine o_call hs rfl (by kernel_rfl) (by kernel_rfl) (latch_New_api_Reply_s h221 ((hw.pick [0, 1, 2, 3, 4, 5] (by kernel_rfl)).pack 0)) fun a w v hv hs => ?_
    obtain ⟨b222, p224, c225, d227, rfl, hw, h226⟩ := hv
    replace hw := hw.unpack 2 rfl
    refine dg_next (SX_now hS166 ((hw.vws [2, 3, 4, 5, 6, 7]).anti (Le.refl _)) (by kernel_rfl)) fun hS => ?_
    refine d_pures (fuel := 4) kS166 hs hS [4, 5] [0, 31, 32, 33, 35] [(0, (pt b2 0)), (31, (pt b2 0)), (32, .agg #[vi64 x32.f0, vu32 x32.f1, vu64 x32.f2, .slice p161 y159.length c162, vi64 x32.f4]), (33, (pt b222 0)), (35, (pt b2 5))] (by kernel_rfl) fun a hs hS => ?_
    refine d_all (fuel := 3) (rs := [6]) (by kernel_rfl) (by simp) (all1 ?_)
    refine o_store hs hw rfl 3 rfl 5 (by kernel_rfl) (by kernel_rfl) (v := .agg #[vi64 x32.f0, vu32 x32.f1, vu64 x32.f2, .slice p161 y159.length c162, vi64 x32.f4]) (by kernel_rfl) (by kernel_rfl) (by kernel_rfl) (by kernel_rfl) fun a w hs hw => ?_
    refine dg_next (SX_now hS166 ((hw.vws [2, 4, 5, 6, 7]).anti (Le.refl _)) (by kernel_rfl)) fun hS => ?_
    refine d_pures (fuel := 1) kS166 hs hS [7, 8] [0, 33, 37] [(0, (pt b2 0)), (33, (pt b222 0)), (37, (pt b2 10))] (by kernel_rfl) fun a hs hS => ?_
    refine d_all (fuel := 0) (rs := [9]) (by kernel_rfl) (by simp) (all1 ?_)
    refine o_store hs hw rfl 3 rfl 10 (by kernel_rfl) (by kernel_rfl) (v := (pt b222 0)) (by kernel_rfl) (by kernel_rfl) (by kernel_rfl) (by kernel_rfl) fun a w hs hw => ?_
    refine dg_next (SX_now hS166 ((hw.vws [2, 4, 5, 6, 7]).anti (Le.refl _)) (by kernel_rfl)) fun hS => ?_
    refine d_done (by kernel_rfl) ?_
    obtain rfl := someE hx218
    exact (hJ219 _ _).2 ⟨y220, b222, p224, c225, d227, hk, hs.cast [0] (by kernel_rfl), hw.pick [3, 4, 0, 1, 2, 5, 7] (by kernel_rfl), h226⟩
  intro a w hh
  obtain ⟨x187, b185, p188, c189, d191, hk, hs, hw, h190⟩ := (hJ219 _ _).1 hh
  refine c_seq ?_
  refine c_region ?_
  refine pures hs 1 [38] [(38, (pt b2 0))] (by kernel_rfl) fun a hs => ?_
  obtain ⟨ih205, hle206, hw, h207⟩ := (hw.pick [4, 0, 1, 2, 3, 5, 6] (by kernel_rfl)).fz (h163.mono (Le.refl _))
  obtain ⟨y208, h209, hk⟩ := bindE hk
  refine s_call hs (by kernel_rfl) (by kernel_rfl) (caller_Caller_ask_s (x4 := x4) (x6 := x6) (x15 := (x15)) (x25 := (pt b185 0)) (x27 := x25) (x28 := x26) (x29 := x27) (x30 := x28) h209 (h12.mono (hle148.trans hle206)) h16 h207 rfl (h31.mono (hle148.trans hle206)) (hG.mono (hle148.trans hle206)) ((hw.pick [0, 1, 4, 2, 3, 5] (by kernel_rfl)).pack 3)) fun a w v hv hs => ?_
  obtain ⟨ih210, p212, c213, d215, rfl, hw, hle211, h214⟩ := hv
  replace hw := hw.unpack 4 rfl
  refine pures hs 2 [4, 5] [(4, .slice p212 y208.length c213), (5, vi64 0)] (by kernel_rfl) fun a hs => ?_
  refine s_end ?_
  refine c_ret ?_
  obtain rfl := someE hk
  refine hQ _ _ (f_retN hs [.tmp 4, .tmp 5] rfl [.slice p212 y208.length c213, vi64 0] (by kernel_rfl) (by kernel_rfl) (.inr ⟨_, rfl, ⟨ih210, p212, c213, d215, b185, p188, c189, d191, p161, c162, rfl, hw.pick [0, 4, 5, 1, 2, 3, 6] (by kernel_rfl), ((hle148.trans hle206).trans hle211), h214, (h190.mono (hle206.trans hle211)), (h207.mono hle211)⟩⟩))
def caller_Caller_Tick_4 (x6 : Int) : Option ((List M48) × Int) :=
  some ([], IntKind.i64.wrap (x6 + 1))
theorem caller_Caller_Tick_4_s {x3 : Int} {x4 : Int} {x5 : Int} {x6 : Int} {x9 : List M44} {x15 : Value} {x17 : Int} {x18 : Int} {x19 : Int} {x20 : List Int} {x24 : Int} {x25 : Int} {x26 : Int} {x27 : Int} {x28 : List Int} {b2 : Nat} {b8 : Nat} {p10 : Option Addr} {c11 : Nat} {d13 : Ch} {p21 : Option Addr} {c22 : Nat} {p29 : Option Addr} {c30 : Nat} {r : (List M48) × Int} (hk : caller_Caller_Tick_4 x6 = some r) {g w : World} {F : Ch} {ih : IH} (h12 : OSl e44 ih p10 c11 x9 d13) (h16 : x15.oneCell' = true) (h23 : RSl e5 ih [] p21 c22 x20) (h31 : RSl e5 ih [] p29 c30 x28) (hw : St g w [bx b2 [vi64 x3, vi64 x4, vu64 x5, vi64 x6, (pt b8 0), vi64 x17, vu32 x18, vu64 x19, .slice p21 x20.length c22, vi64 x24, .pointer none, vu64 x25, vi64 x26, vu64 x27, .slice p29 x28.length c30] 85, bx b8 [.slice p10 x9.length c11, x15] 113, d13, F] ih) :
    CallsR Tryz.prog 14 #[(pt b2 0)] w fun v w' => ∃ (p44 : Option Addr) (c45 : Nat) (d47 : Ch), v = .slice p44 r.1.length c45 ∧ St g w' [d47, bx b2 [vi64 x3, vi64 x4, vu64 x5, vi64 r.2, (pt b8 0), vi64 x17, vu32 x18, vu64 x19, .slice p21 x20.length c22, vi64 x24, .pointer none, vu64 x25, vi64 x26, vu64 x27, .slice p29 x28.length c30] 85, bx b8 [.slice p10 x9.length c11, x15] 113, d13, F] ih ∧ OSl e48 ih p44 c45 r.1 d47 := by
  refine f_in (vs := [(pt b2 0)]) Tryz.func14 rfl 46 rfl (by kernel_rfl) [(0, (pt b2 0))] (by kernel_rfl) fun a Qf hQ hQn hs => ?_
  refine c_seq ?_
  refine c_region ?_
  refine pures hs 1 [0] [(0, (pt b2 0))] (by kernel_rfl) fun a hs => ?_
  refine s_end ?_
  refine c_seq ?_
  refine c_seq ?_
  refine c_region ?_
  refine pures hs 2 [0, 5] [(0, (pt b2 0)), (5, .bool false)] (by kernel_rfl) fun a hs => ?_
  refine s_end ?_
  refine c_condF hs (by kernel_rfl) (by kernel_rfl) ?_
  refine c_skip ?_
  refine c_seq ?_
  refine c_region ?_
  refine pures hs 3 [0, 6, 8] [(0, (pt b2 0)), (6, (pt b2 0)), (8, (pt b2 3))] (by kernel_rfl) fun a hs => ?_
  refine s_load hs (hw.at_ 0 rfl) 3 (by kernel_rfl) (by kernel_rfl) (v := vi64 x6) (by kernel_rfl) fun a hs => ?_
  refine pures hs 3 [0, 10, 12] [(0, (pt b2 0)), (10, vi64 (IntKind.i64.wrap (x6 + 1))), (12, (pt b2 3))] (by kernel_rfl) fun a hs => ?_
  refine s_store hs hw 0 rfl 3 (by kernel_rfl) (by kernel_rfl) (v := vi64 (IntKind.i64.wrap (x6 + 1))) (by kernel_rfl) (by kernel_rfl) (by kernel_rfl) (by kernel_rfl) fun a w hs hw => ?_
  refine s_end ?_
  refine c_seq ?_
  refine c_seq ?_
  refine c_region ?_
  refine pures hs 1 [0, 13] [(0, (pt b2 0)), (13, (pt b2 0))] (by kernel_rfl) fun a hs => ?_
  have h41 : caller_Caller_Busy_3 = some () := rfl
  refine s_call hs (by kernel_rfl) (by kernel_rfl) (caller_Caller_Busy_3_s (x3 := x3) (x4 := x4) (x5 := x5) (x6 := IntKind.i64.wrap (x6 + 1)) (x9 := x9) (x15 := (x15)) (x17 := x17) (x18 := x18) (x19 := x19) (x20 := x20) (x24 := x24) (x25 := x25) (x26 := x26) (x27 := x27) (x28 := x28) h41 h12 h16 h23 h31 ((hw.pick [0, 1, 2, 3] (by kernel_rfl)).pack 3)) fun a w v hv hs => ?_
  obtain ⟨rfl, hw⟩ := hv
  replace hw := hw.unpack 3 rfl
  refine pures hs 1 [0, 15] [(0, (pt b2 0)), (15, .bool true)] (by kernel_rfl) fun a hs => ?_
  refine s_end ?_
  refine c_condT hs (by kernel_rfl) (by kernel_rfl) ?_
  refine c_seq ?_
  refine c_region ?_
  refine pures hs 1 [2] [(2, .slice none 0 0)] (by kernel_rfl) fun a hs => ?_
  refine s_end ?_
  refine c_ret ?_
  replace hw := hw.nil
  obtain rfl := someE hk
  refine hQ _ _ (f_ret1 hs rfl (v := .slice none 0 0) (by kernel_rfl) ⟨none, 0, ([]), rfl, hw.pick [0, 1, 2, 3, 4] (by kernel_rfl), (OSl.nil _ _)⟩)
def sync_atomic_Bool_Load : Option Unit :=
  some ()
theorem sync_atomic_Bool_Load_s {x3 : List Int} {b2 : Nat} {p4 : Option Addr} {c5 : Nat} {d7 : Ch} {r : Unit} (hk : sync_atomic_Bool_Load = some r) {g w : World} {F : Ch} {ih : IH} (h6 : OSl e5 ih p4 c5 x3 d7) (hw : St g w [bx b2 [vu32 0, vi32 0, vu32 0, vu32 0, vi64 0, vu64 0, .slice p4 x3.length c5] 126, d7, F] ih) :
    CallsR Tryz.prog 56 #[(pt b2 3)] w fun v w' => v = .bool false ∧ St g w' [bx b2 [vu32 0, vi32 0, vu32 0, vu32 0, vi64 0, vu64 0, .slice p4 x3.length c5] 126, d7, F] ih := by
  refine f_in (vs := [(pt b2 3)]) Tryz.func56 rfl 8 rfl (by kernel_rfl) [(0, (pt b2 3))] (by kernel_rfl) fun a Qf hQ hQn hs => ?_
  refine c_seq ?_
  refine c_region ?_
  refine pures hs 1 [0] [(0, (pt b2 3))] (by kernel_rfl) fun a hs => ?_
  refine s_end ?_
  refine c_seq ?_
  refine c_region ?_
  refine pures hs 3 [5] [(5, (pt b2 3))] (by kernel_rfl) fun a hs => ?_
  refine s_ext0 hs (by kernel_rfl) (exec_aload hw Tryz.func87 (by kernel_rfl) (by kernel_rfl) (by kernel_rfl) .u32 (by kernel_rfl) 0 rfl 3 (x := 0) (by kernel_rfl) (by kernel_rfl)) fun a hs => ?_
  refine pures hs 2 [2] [(2, .bool false)] (by kernel_rfl) fun a hs => ?_
  refine s_end ?_
  refine c_ret ?_
  obtain rfl := someE hk
  refine hQ _ _ (f_ret1 hs rfl (v := .bool false) (by kernel_rfl) ⟨rfl, hw.pick [0, 1, 2] (by kernel_rfl)⟩)
def latch_Latch_api_Reply_Get : Option Unit :=
  some ()
theorem latch_Latch_api_Reply_Get_s {x3 : List Int} {b2 : Nat} {p4 : Option Addr} {c5 : Nat} {d7 : Ch} {r : Unit} (hk : latch_Latch_api_Reply_Get = some r) {g w : World} {F : Ch} {ih : IH} (h6 : OSl e5 ih p4 c5 x3 d7) (hw : St g w [bx b2 [vu32 0, vi32 0, vu32 0, vu32 0, vi64 0, vu64 0, .slice p4 x3.length c5] 126, d7, F] ih) :
    CallsR Tryz.prog 32 #[(pt b2 0)] w fun v w' => v = .tuple #[.agg #[vi64 0, vu64 0, .slice none 0 0], .bool false] ∧ St g w' [bx b2 [vu32 0, vi32 0, vu32 0, vu32 0, vi64 0, vu64 0, .slice p4 x3.length c5] 126, d7, F] ih := by
  refine f_in (vs := [(pt b2 0)]) Tryz.func32 rfl 19 rfl (by kernel_rfl) [(0, (pt b2 0))] (by kernel_rfl) fun a Qf hQ hQn hs => ?_
  refine c_seq ?_
  refine c_region ?_
  refine s_new hs hw [vi64 0, vu64 0, .slice none 0 0] 51 (fun b => (pt b 0)) (by kernel_rfl) (fun _ => by kernel_rfl) fun a w b25 hs hw => ?_
  refine pures hs 1 [0, 2] [(0, (pt b2 0)), (2, (pt b25 0))] (by kernel_rfl) fun a hs => ?_
  refine s_end ?_
  refine c_seq ?_
  refine c_region ?_
  refine s_new hs hw [vi64 0, vu64 0, .slice none 0 0] 51 (fun b => (pt b 0)) (by kernel_rfl) (fun _ => by kernel_rfl) fun a w b29 hs hw => ?_
  refine s_end ?_
  refine c_seq ?_
  refine c_seq ?_
  refine c_region ?_
  refine pures hs 6 [0, 2, 4, 7, 10] [(0, (pt b2 0)), (2, (pt b25 0)), (4, (pt b29 0)), (7, .bool false), (10, (pt b2 3))] (by kernel_rfl) fun a hs => ?_
  have h34 : sync_atomic_Bool_Load = some () := rfl
  refine s_call hs (by kernel_rfl) (by kernel_rfl) (sync_atomic_Bool_Load_s (x3 := x3) h34 h6 ((hw.pick [2, 3, 0, 1, 4] (by kernel_rfl)).pack 2)) fun a w v hv hs => ?_
  obtain ⟨rfl, hw⟩ := hv
  replace hw := hw.unpack 2 rfl
  refine pures hs 2 [0, 2, 4, 13] [(0, (pt b2 0)), (2, (pt b25 0)), (4, (pt b29 0)), (13, .bool true)] (by kernel_rfl) fun a hs => ?_
  refine s_end ?_
  refine c_condT hs (by kernel_rfl) (by kernel_rfl) ?_
  refine c_seq ?_
  refine c_region ?_
  refine s_load hs (hw.at_ 2 rfl) 0 (by kernel_rfl) (by kernel_rfl) (v := .agg #[vi64 0, vu64 0, .slice none 0 0]) (by kernel_rfl) fun a hs => ?_
  refine s_store hs hw 3 rfl 0 (by kernel_rfl) (by kernel_rfl) (v := .agg #[vi64 0, vu64 0, .slice none 0 0]) (by kernel_rfl) (by kernel_rfl) (by kernel_rfl) (by kernel_rfl) fun a w hs hw => ?_
  refine pures hs 1 [2, 3] [(2, (pt b25 0)), (3, .bool false)] (by kernel_rfl) fun a hs => ?_
  refine s_end ?_
  refine c_ret ?_
  obtain rfl := someE hk
  refine hQ _ _ (f_retG hs (l := [.cell 2 51, .tmp 3]) (vs := [.agg #[vi64 0, vu64 0, .slice none 0 0], .bool false]) rfl (⟨res_cell hs (hw.at_ 3 rfl) (by kernel_rfl) (v := .agg #[vi64 0, vu64 0, .slice none 0 0]) (by kernel_rfl), ⟨res_tmp hs (v := .bool false) (by kernel_rfl), trivial⟩⟩) (by kernel_rfl) ⟨rfl, hw.pick [0, 1, 4] (by kernel_rfl)⟩)
def caller_Caller_Busy_4 : Option Unit :=
  some ()
theorem caller_Caller_Busy_4_s {x3 : Int} {x4 : Int} {x5 : Int} {x6 : Int} {x9 : List M44} {x15 : Value} {x17 : Int} {x18 : Int} {x19 : Int} {x20 : List Int} {x24 : Int} {x27 : List Int} {x33 : Int} {x34 : Int} {x35 : Int} {x36 : List Int} {b2 : Nat} {b8 : Nat} {p10 : Option Addr} {c11 : Nat} {d13 : Ch} {p21 : Option Addr} {c22 : Nat} {b26 : Nat} {p28 : Option Addr} {c29 : Nat} {d31 : Ch} {p37 : Option Addr} {c38 : Nat} {r : Unit} (hk : caller_Caller_Busy_4 = some r) {g w : World} {F : Ch} {ih : IH} (h12 : OSl e44 ih p10 c11 x9 d13) (h16 : x15.oneCell' = true) (h23 : RSl e5 ih [] p21 c22 x20) (h30 : OSl e5 ih p28 c29 x27 d31) (h39 : RSl e5 ih [] p37 c38 x36) (hw : St g w [bx b2 [vi64 x3, vi64 x4, vu64 x5, vi64 x6, (pt b8 0), vi64 x17, vu32 x18, vu64 x19, .slice p21 x20.length c22, vi64 x24, (pt b26 0), vu64 x33, vi64 x34, vu64 x35, .slice p37 x36.length c38] 85, bx b8 [.slice p10 x9.length c11, x15] 113, d13, bx b26 [vu32 0, vi32 0, vu32 0, vu32 0, vi64 0, vu64 0, .slice p28 x27.length c29] 126, d31, F] ih) :
    CallsR Tryz.prog 10 #[(pt b2 0)] w fun v w' => v = .bool true ∧ St g w' [bx b2 [vi64 x3, vi64 x4, vu64 x5, vi64 x6, (pt b8 0), vi64 x17, vu32 x18, vu64 x19, .slice p21 x20.length c22, vi64 x24, (pt b26 0), vu64 x33, vi64 x34, vu64 x35, .slice p37 x36.length c38] 85, bx b8 [.slice p10 x9.length c11, x15] 113, d13, bx b26 [vu32 0, vi32 0, vu32 0, vu32 0, vi64 0, vu64 0, .slice p28 x27.length c29] 126, d31, F] ih := by
  refine f_in (vs := [(pt b2 0)]) Tryz.func10 rfl 24 rfl (by kernel_rfl) [(0, (pt b2 0))] (by kernel_rfl) fun a Qf hQ hQn hs => ?_
  refine c_seq ?_
  refine c_region ?_
  refine pures hs 1 [0] [(0, (pt b2 0))] (by kernel_rfl) fun a hs => ?_
  refine s_end ?_
  refine c_seq ?_
  refine c_seq ?_
  refine c_region ?_
  refine pures hs 6 [0, 7, 10] [(0, (pt b2 0)), (7, .bool false), (10, (pt b2 10))] (by kernel_rfl) fun a hs => ?_
  refine s_load hs (hw.at_ 0 rfl) 10 (by kernel_rfl) (by kernel_rfl) (v := (pt b26 0)) (by kernel_rfl) fun a hs => ?_
  refine pures hs 2 [0, 13] [(0, (pt b2 0)), (13, .bool false)] (by kernel_rfl) fun a hs => ?_
  refine s_end ?_
  refine c_condF hs (by kernel_rfl) (by kernel_rfl) ?_
  refine c_skip ?_
  refine c_seq ?_
  refine c_region ?_
  refine pures hs 3 [17] [(17, (pt b2 10))] (by kernel_rfl) fun a hs => ?_
  refine s_load hs (hw.at_ 0 rfl) 10 (by kernel_rfl) (by kernel_rfl) (v := (pt b26 0)) (by kernel_rfl) fun a hs => ?_
  have h55 : latch_Latch_api_Reply_Get = some () := rfl
  refine s_call hs (by kernel_rfl) (by kernel_rfl) (latch_Latch_api_Reply_Get_s (x3 := x27) h55 h30 ((hw.pick [3, 4, 0, 1, 2, 5] (by kernel_rfl)).pack 2)) fun a w v hv hs => ?_
  obtain ⟨rfl, hw⟩ := hv
  replace hw := hw.unpack 2 rfl
  refine pures hs 3 [20, 21] [(20, .agg #[vi64 0, vu64 0, .slice none 0 0]), (21, .bool false)] (by kernel_rfl) fun a hs => ?_
  refine s_new hs hw [vi64 0, vu64 0, .slice none 0 0] 51 (fun b => (pt b 0)) (by kernel_rfl) (fun _ => by kernel_rfl) fun a w b56 hs hw => ?_
  refine s_store hs hw 0 rfl 0 (by kernel_rfl) (by kernel_rfl) (v := .agg #[vi64 0, vu64 0, .slice none 0 0]) (by kernel_rfl) (by kernel_rfl) (by kernel_rfl) (by kernel_rfl) fun a w hs hw => ?_
  refine pures hs 1 [4] [(4, .bool false)] (by kernel_rfl) fun a hs => ?_
  refine s_end ?_
  refine c_seq ?_
  refine c_region ?_
  refine pures hs 3 [2] [(2, .bool true)] (by kernel_rfl) fun a hs => ?_
  refine s_end ?_
  refine c_ret ?_
  obtain rfl := someE hk
  refine hQ _ _ (f_ret1 hs rfl (v := .bool true) (by kernel_rfl) ⟨rfl, hw.pick [3, 4, 5, 1, 2, 6] (by kernel_rfl)⟩)
def caller_Caller_Tick_5_r3 (x6 : Int) (x414 : List M48) : Option ((List M48) × Int) :=
  some (x414, IntKind.i64.wrap (x6 + 1))
def caller_Caller_Tick_5_r4 (k : Nat) (x3 : Int) (x5 : Int) (x9 : List M44) (x17 : Int) (x18 : Int) (x19 : Int) (x20 : List Int) (x24 : Int) (x6 : Int) (x4 : Int) (x341 : Int) (x342 : Int) : Option ((List M48) × Int) :=
  ((caller_Caller_ask k x3 x5 x9 x17 x18 x19 x20 x24).bind fun y423 =>
    (app y423 [(M48.mk 10 x341 (IntKind.i64.wrap ((IntKind.i64.wrap (100 + ((IntKind.i64.wrap (x6 + 1)).tmod x4))) + 1)) x342 0 0 0 0 0 0 0 0 0 (M41.mk 0 0 0 0) (M44.mk 0 0 ([]) false 0) ([]) ([]) ([]))]).bind fun x434 =>
    some x434 : Option (List M48)).bind fun s457 => caller_Caller_Tick_5_r3 x6 s457
def caller_Caller_Tick_5 (k : Nat) (x3 : Int) (x4 : Int) (x5 : Int) (x6 : Int) (x9 : List M44) (x17 : Int) (x18 : Int) (x19 : Int) (x20 : List Int) (x24 : Int) : Option ((List M48) × Int) :=
  (if (x4 == 0) = true then none
    else (caller_Caller_Address x3).bind fun y462 =>
    (atlas_Atlas_Of k x9 x18).bind fun y464 =>
    some (y462, y464.f0) : Option (Int × Int)).bind fun s493 => caller_Caller_Tick_5_r4 k x3 x5 x9 x17 x18 x19 x20 x24 x6 x4 s493.1 s493.2
theorem caller_Caller_Tick_5_s {k : Nat} {x3 : Int} {x4 : Int} {x5 : Int} {x6 : Int} {x9 : List M44} {x15 : Value} {x17 : Int} {x18 : Int} {x19 : Int} {x20 : List Int} {x24 : Int} {x27 : List Int} {x33 : Int} {x34 : Int} {x35 : Int} {x36 : List Int} {b2 : Nat} {b8 : Nat} {p10 : Option Addr} {c11 : Nat} {d13 : Ch} {p21 : Option Addr} {c22 : Nat} {b26 : Nat} {p28 : Option Addr} {c29 : Nat} {d31 : Ch} {p37 : Option Addr} {c38 : Nat} {r : (List M48) × Int} (hk : caller_Caller_Tick_5 k x3 x4 x5 x6 x9 x17 x18 x19 x20 x24 = some r) {g w : World} {F : Ch} {ih : IH} (h12 : OSl e44 ih p10 c11 x9 d13) (h16 : x15.oneCell' = true) (h23 : RSl e5 ih [] p21 c22 x20) (h30 : OSl e5 ih p28 c29 x27 d31) (h39 : RSl e5 ih [] p37 c38 x36) (hG : Glob 0 gl0 162 ih) (hw : St g w [bx b2 [vi64 x3, vi64 x4, vu64 x5, vi64 x6, (pt b8 0), vi64 x17, vu32 x18, vu64 x19, .slice p21 x20.length c22, vi64 x24, (pt b26 0), vu64 x33, vi64 x34, vu64 x35, .slice p37 x36.length c38] 85, bx b8 [.slice p10 x9.length c11, x15] 113, d13, bx b26 [vu32 0, vi32 0, vu32 0, vu32 0, vi64 0, vu64 0, .slice p28 x27.length c29] 126, d31, F] ih) :
    CallsR Tryz.prog 14 #[(pt b2 0)] w fun v w' => ∃ (ih' : IH) (p494 : Option Addr) (c495 : Nat) (d497 : Ch), v = .slice p494 r.1.length c495 ∧ St g w' [d497, bx b2 [vi64 x3, vi64 x4, vu64 x5, vi64 r.2, (pt b8 0), vi64 x17, vu32 x18, vu64 x19, .slice p21 x20.length c22, vi64 x24, (pt b26 0), vu64 x33, vi64 x34, vu64 x35, .slice p37 x36.length c38] 85, bx b8 [.slice p10 x9.length c11, x15] 113, d13, bx b26 [vu32 0, vi32 0, vu32 0, vu32 0, vi64 0, vu64 0, .slice p28 x27.length c29] 126, d31, F] ih' ∧ Le ih ih' ∧ OSl e48 ih' p494 c495 r.1 d497 := by
  refine f_in (vs := [(pt b2 0)]) Tryz.func14 rfl 46 rfl (by kernel_rfl) [(0, (pt b2 0))] (by kernel_rfl) fun a Qf hQ hQn hs => ?_
  refine c_seq ?_
  refine c_region ?_
  refine pures hs 1 [0] [(0, (pt b2 0))] (by kernel_rfl) fun a hs => ?_
  refine s_end ?_
  refine c_seq ?_
  refine c_seq ?_
  refine c_region ?_
  refine pures hs 2 [0, 5] [(0, (pt b2 0)), (5, .bool false)] (by kernel_rfl) fun a hs => ?_
  refine s_end ?_
  refine c_condF hs (by kernel_rfl) (by kernel_rfl) ?_
  refine c_skip ?_
  refine c_seq ?_
  refine c_region ?_
  refine pures hs 3 [0, 6, 8] [(0, (pt b2 0)), (6, (pt b2 0)), (8, (pt b2 3))] (by kernel_rfl) fun a hs => ?_
  refine s_load hs (hw.at_ 0 rfl) 3 (by kernel_rfl) (by kernel_rfl) (v := vi64 x6) (by kernel_rfl) fun a hs => ?_
  refine pures hs 3 [0, 10, 12] [(0, (pt b2 0)), (10, vi64 (IntKind.i64.wrap (x6 + 1))), (12, (pt b2 3))] (by kernel_rfl) fun a hs => ?_
  refine s_store hs hw 0 rfl 3 (by kernel_rfl) (by kernel_rfl) (v := vi64 (IntKind.i64.wrap (x6 + 1))) (by kernel_rfl) (by kernel_rfl) (by kernel_rfl) (by kernel_rfl) fun a w hs hw => ?_
  refine s_end ?_
  refine c_seq ?_
  refine c_seq ?_
  refine c_region ?_
  refine pures hs 1 [0, 13] [(0, (pt b2 0)), (13, (pt b2 0))] (by kernel_rfl) fun a hs => ?_
  have h271 : caller_Caller_Busy_4 = some () := rfl
  refine s_call hs (by kernel_rfl) (by kernel_rfl) (caller_Caller_Busy_4_s (x3 := x3) (x4 := x4) (x5 := x5) (x6 := IntKind.i64.wrap (x6 + 1)) (x9 := x9) (x15 := (x15)) (x17 := x17) (x18 := x18) (x19 := x19) (x20 := x20) (x24 := x24) (x27 := x27) (x33 := x33) (x34 := x34) (x35 := x35) (x36 := x36) h271 h12 h16 h23 h30 h39 ((hw.pick [0, 1, 2, 3, 4, 5] (by kernel_rfl)).pack 5)) fun a w v hv hs => ?_
  obtain ⟨rfl, hw⟩ := hv
  replace hw := hw.unpack 5 rfl
  refine pures hs 1 [0, 15] [(0, (pt b2 0)), (15, .bool false)] (by kernel_rfl) fun a hs => ?_
  refine s_end ?_
  refine c_condF hs (by kernel_rfl) (by kernel_rfl) ?_
  refine c_skip ?_
  refine c_seq ?_
  obtain ⟨S272, hS272, kS272⟩ := mkSX (X := [([], bx b2 [vi64 x3, vi64 x4, vu64 x5, vi64 (IntKind.i64.wrap (x6 + 1)), (pt b8 0), vi64 x17, vu32 x18, vu64 x19, .slice p21 x20.length c22, vi64 x24, (pt b26 0), vu64 x33, vi64 x34, vu64 x35, .slice p37 x36.length c38] 85), ([], bx b8 [.slice p10 x9.length c11, x15] 113), ([], d13), ([], bx b26 [vu32 0, vi32 0, vu32 0, vu32 0, vi64 0, vu64 0, .slice p28 x27.length c29] 126), ([], d31), ([], F)]) (ih := ih) (K := []) rfl
  obtain ⟨y458, hx459, hk⟩ := bindE hk
  obtain ⟨J460, hJ460⟩ : ∃ J : Act → World → Prop, ∀ a w, J a w ↔ (∃ (x341 : Int) (x342 : Int) (b339 : Nat) (ih337 : IH), caller_Caller_Tick_5_r4 k x3 x5 x9 x17 x18 x19 x20 x24 x6 x4 x341 x342 = some r ∧ Sees a 46 [(0, (pt b2 0)), (3, (pt b339 0))] ∧ St g w [bx b2 [vi64 x3, vi64 x4, vu64 x5, vi64 (IntKind.i64.wrap (x6 + 1)), (pt b8 0), vi64 x17, vu32 x18, vu64 x19, .slice p21 x20.length c22, vi64 x24, (pt b26 0), vu64 x33, vi64 x34, vu64 x35, .slice p37 x36.length c38] 85, bx b8 [.slice p10 x9.length c11, x15] 113, bx b26 [vu32 0, vi32 0, vu32 0, vu32 0, vi64 0, vu64 0, .slice p28 x27.length c29] 126, bx b339 [vi64 10, vi64 x341, vi64 (IntKind.i64.wrap ((IntKind.i64.wrap (100 + ((IntKind.i64.wrap (x6 + 1)).tmod x4))) + 1)), vi64 x342, vu64 0, vu64 0, vu64 0, vu64 0, vu64 0, vu64 0, vi64 0, vu32 0, vi64 0, vi64 0, vi64 0, vu64 0, vi64 0, vi64 0, vu64 0, .slice none 0 0, .bool false, vi64 0, .slice none 0 0, .slice none 0 0, .slice none 0 0] 48, d13, d31, F] ih337 ∧ Le ih ih337) := ⟨_, fun _ _ => Iff.rfl⟩
  refine c_draw (by kernel_rfl) (N := 27) rfl S272 J460 ?_ ?_
  · have hw := hw.drew
    have hS : S272 (Array.replicate 27 false) _ := SX_now hS272 (hw.vws [0, 1, 2, 3, 4, 5]) (by kernel_rfl)
    refine d_pures (fuel := 23) kS272 hs hS [0, 2, 3, 4] [0, 16, 20] [(0, (pt b2 0)), (16, (pt b2 0)), (20, (pt b2 3))] (by kernel_rfl) fun a hs hS => ?_
    refine d_load (fuel := 22) kS272 hs hS 5 rfl (by kernel_rfl) (SX_box hS272 0 rfl (by kernel_rfl)) 3 (by kernel_rfl) (by kernel_rfl) (v := vi64 (IntKind.i64.wrap (x6 + 1))) (by kernel_rfl) fun a hs hS => ?_
    refine d_pures (fuel := 19) kS272 hs hS [6, 7, 8] [0, 16, 21, 24] [(0, (pt b2 0)), (16, (pt b2 0)), (21, vi64 (IntKind.i64.wrap (x6 + 1))), (24, (pt b2 1))] (by kernel_rfl) fun a hs hS => ?_
    refine d_load (fuel := 18) kS272 hs hS 9 rfl (by kernel_rfl) (SX_box hS272 0 rfl (by kernel_rfl)) 1 (by kernel_rfl) (by kernel_rfl) (v := vi64 x4) (by kernel_rfl) fun a hs hS => ?_
    rcases ifbE hx459 with ⟨h461, hx459⟩ | ⟨h461, hx459⟩
    · cases hx459
    refine d_rem (fuel := 17) kS272 hs hS 10 rfl (by kernel_rfl) (by kernel_rfl) .i64 (i := IntKind.i64.wrap (x6 + 1)) (j := x4) (by kernel_rfl) (by kernel_rfl) (by simpa using h461) fun a hs hS => ?_
    refine d_pures (fuel := 12) kS272 hs hS [11, 12, 13, 14, 15] [0, 16, 28, 31] [(0, (pt b2 0)), (16, (pt b2 0)), (28, vi64 (IntKind.i64.wrap ((IntKind.i64.wrap (100 + ((IntKind.i64.wrap (x6 + 1)).tmod x4))) + 1))), (31, (pt b2 4))] (by kernel_rfl) fun a hs hS => ?_
    refine d_load (fuel := 11) kS272 hs hS 16 rfl (by kernel_rfl) (SX_box hS272 0 rfl (by kernel_rfl)) 4 (by kernel_rfl) (by kernel_rfl) (v := (pt b8 0)) (by kernel_rfl) fun a hs hS => ?_
    refine d_pures (fuel := 7) kS272 hs hS [17, 18, 19, 20] [0, 16, 28, 32, 36] [(0, (pt b2 0)), (16, (pt b2 0)), (28, vi64 (IntKind.i64.wrap ((IntKind.i64.wrap (100 + ((IntKind.i64.wrap (x6 + 1)).tmod x4))) + 1))), (32, (pt b8 0)), (36, (pt b2 6))] (by kernel_rfl) fun a hs hS => ?_
    refine d_load (fuel := 6) kS272 hs hS 21 rfl (by kernel_rfl) (SX_box hS272 0 rfl (by kernel_rfl)) 6 (by kernel_rfl) (by kernel_rfl) (v := vu32 x18) (by kernel_rfl) fun a hs hS => ?_
    refine d_all (fuel := 5) (rs := [1, 25]) (by kernel_rfl) (by simp) (all2 ?_ (all1 ?_))
    · obtain ⟨y462, h463, hx459⟩ := bindE hx459
      refine o_call hs rfl (by kernel_rfl) (by kernel_rfl) (caller_Caller_Address_s (x4 := x4) (x5 := x5) (x6 := IntKind.i64.wrap (x6 + 1)) (x9 := x9) (x15 := (x15)) (x17 := x17) (x18 := x18) (x19 := x19) (x20 := x20) (x24 := x24) (x25 := (pt b26 0)) (x27 := x33) (x28 := x34) (x29 := x35) (x30 := x36) h463 h12 h16 h23 rfl h39 ((hw.pick [0, 1, 2, 3, 4, 5] (by kernel_rfl)).pack 3)) fun a w v hv hs => ?_
      obtain ⟨rfl, hw⟩ := hv
      replace hw := hw.unpack 3 rfl
      refine dg_next (SX_now hS272 ((hw.vws [0, 1, 2, 3, 4, 5]).anti (Le.refl _)) (by kernel_rfl)) fun hS => ?_
      refine d_all (fuel := 4) (rs := [22, 25]) (by kernel_rfl) (by simp) (all2 ?_ (all1 ?_))
      · obtain ⟨y464, h465, hx459⟩ := bindE hx459
        refine o_call hs rfl (by kernel_rfl) (by kernel_rfl) (atlas_Atlas_Of_s (x9 := (x15)) h465 h12 h16 ((hw.pick [1, 2, 0, 3, 4, 5] (by kernel_rfl)).pack 2)) fun a w v hv hs => ?_
        obtain ⟨ih466, p468, c469, rfl, hw, hle467, h470⟩ := hv
        replace hw := hw.unpack 2 rfl
        refine dg_next (SX_now hS272 ((hw.vws [2, 0, 1, 3, 4, 5]).anti hle467) (by kernel_rfl)) fun hS => ?_
        refine d_pures (fuel := 2) kS272 hs hS [23, 24] [0, 40] [(0, (pt b2 0)), (40, .agg #[vi64 10, vi64 y462, vi64 (IntKind.i64.wrap ((IntKind.i64.wrap (100 + ((IntKind.i64.wrap (x6 + 1)).tmod x4))) + 1)), vi64 y464.f0, vu64 0, vu64 0, vu64 0, vu64 0, vu64 0, vu64 0, vi64 0, vu32 0, vi64 0, vi64 0, vi64 0, vu64 0, vi64 0, vi64 0, vu64 0, .slice none 0 0, .bool false, vi64 0, .slice none 0 0, .slice none 0 0, .slice none 0 0])] (by kernel_rfl) fun a hs hS => ?_
        refine d_all (fuel := 1) (rs := [25]) (by kernel_rfl) (by simp) (all1 ?_)
        refine o_new hs rfl hw [vi64 0, vi64 0, vi64 0, vi64 0, vu64 0, vu64 0, vu64 0, vu64 0, vu64 0, vu64 0, vi64 0, vu32 0, vi64 0, vi64 0, vi64 0, vu64 0, vi64 0, vi64 0, vu64 0, .slice none 0 0, .bool false, vi64 0, .slice none 0 0, .slice none 0 0, .slice none 0 0] 48 (fun b => (pt b 0)) (by kernel_rfl) (fun _ => by kernel_rfl) fun a w b471 hs hw => ?_
        refine dg_next (SX_now hS272 ((hw.vws [3, 1, 2, 4, 5, 6]).anti hle467) (by kernel_rfl)) fun hS => ?_
        refine d_all (fuel := 0) (rs := [26]) (by kernel_rfl) (by simp) (all1 ?_)
        refine o_store hs hw rfl 0 rfl 0 (by kernel_rfl) (by kernel_rfl) (v := .agg #[vi64 10, vi64 y462, vi64 (IntKind.i64.wrap ((IntKind.i64.wrap (100 + ((IntKind.i64.wrap (x6 + 1)).tmod x4))) + 1)), vi64 y464.f0, vu64 0, vu64 0, vu64 0, vu64 0, vu64 0, vu64 0, vi64 0, vu32 0, vi64 0, vi64 0, vi64 0, vu64 0, vi64 0, vi64 0, vu64 0, .slice none 0 0, .bool false, vi64 0, .slice none 0 0, .slice none 0 0, .slice none 0 0]) (by kernel_rfl) (by kernel_rfl) (by kernel_rfl) (by kernel_rfl) fun a w hs hw => ?_
        refine dg_next (SX_now hS272 ((hw.vws [3, 1, 2, 4, 5, 6]).anti hle467) (by kernel_rfl)) fun hS => ?_
        refine d_done (by kernel_rfl) ?_
        obtain rfl := someE hx459
        exact (hJ460 _ _).2 ⟨y462, y464.f0, b471, ih466, hk, hs.cast [0, 3] (by kernel_rfl), hw.pick [3, 1, 4, 0, 2, 5, 6] (by kernel_rfl), hle467⟩
      refine o_new hs rfl hw [vi64 0, vi64 0, vi64 0, vi64 0, vu64 0, vu64 0, vu64 0, vu64 0, vu64 0, vu64 0, vi64 0, vu32 0, vi64 0, vi64 0, vi64 0, vu64 0, vi64 0, vi64 0, vu64 0, .slice none 0 0, .bool false, vi64 0, .slice none 0 0, .slice none 0 0, .slice none 0 0] 48 (fun b => (pt b 0)) (by kernel_rfl) (fun _ => by kernel_rfl) fun a w b473 hs hw => ?_
      refine dg_next (SX_now hS272 ((hw.vws [1, 2, 3, 4, 5, 6]).anti (Le.refl _)) (by kernel_rfl)) fun hS => ?_
      refine d_all (fuel := 3) (rs := [22]) (by kernel_rfl) (by simp) (all1 ?_)
      obtain ⟨y475, h476, hx459⟩ := bindE hx459
      refine o_call hs rfl (by kernel_rfl) (by kernel_rfl) (atlas_Atlas_Of_s (x9 := (x15)) h476 h12 h16 ((hw.pick [2, 3, 0, 1, 4, 5, 6] (by kernel_rfl)).pack 2)) fun a w v hv hs => ?_
      obtain ⟨ih477, p479, c480, rfl, hw, hle478, h481⟩ := hv
      replace hw := hw.unpack 2 rfl
      refine dg_next (SX_now hS272 ((hw.vws [3, 0, 1, 4, 5, 6]).anti hle478) (by kernel_rfl)) fun hS => ?_
      refine d_pures (fuel := 1) kS272 hs hS [23, 24] [0, 3, 40] [(0, (pt b2 0)), (3, (pt b473 0)), (40, .agg #[vi64 10, vi64 y462, vi64 (IntKind.i64.wrap ((IntKind.i64.wrap (100 + ((IntKind.i64.wrap (x6 + 1)).tmod x4))) + 1)), vi64 y475.f0, vu64 0, vu64 0, vu64 0, vu64 0, vu64 0, vu64 0, vi64 0, vu32 0, vi64 0, vi64 0, vi64 0, vu64 0, vi64 0, vi64 0, vu64 0, .slice none 0 0, .bool false, vi64 0, .slice none 0 0, .slice none 0 0, .slice none 0 0])] (by kernel_rfl) fun a hs hS => ?_
      refine d_all (fuel := 0) (rs := [26]) (by kernel_rfl) (by simp) (all1 ?_)
      refine o_store hs hw rfl 2 rfl 0 (by kernel_rfl) (by kernel_rfl) (v := .agg #[vi64 10, vi64 y462, vi64 (IntKind.i64.wrap ((IntKind.i64.wrap (100 + ((IntKind.i64.wrap (x6 + 1)).tmod x4))) + 1)), vi64 y475.f0, vu64 0, vu64 0, vu64 0, vu64 0, vu64 0, vu64 0, vi64 0, vu32 0, vi64 0, vi64 0, vi64 0, vu64 0, vi64 0, vi64 0, vu64 0, .slice none 0 0, .bool false, vi64 0, .slice none 0 0, .slice none 0 0, .slice none 0 0]) (by kernel_rfl) (by kernel_rfl) (by kernel_rfl) (by kernel_rfl) fun a w hs hw => ?_
      refine dg_next (SX_now hS272 ((hw.vws [3, 0, 1, 4, 5, 6]).anti hle478) (by kernel_rfl)) fun hS => ?_
      refine d_done (by kernel_rfl) ?_
      obtain rfl := someE hx459
      exact (hJ460 _ _).2 ⟨y462, y475.f0, b473, ih477, hk, hs.cast [0, 3] (by kernel_rfl), hw.pick [3, 0, 4, 2, 1, 5, 6] (by kernel_rfl), hle478⟩
    refine o_new hs rfl hw [vi64 0, vi64 0, vi64 0, vi64 0, vu64 0, vu64 0, vu64 0, vu64 0, vu64 0, vu64 0, vi64 0, vu32 0, vi64 0, vi64 0, vi64 0, vu64 0, vi64 0, vi64 0, vu64 0, .slice none 0 0, .bool false, vi64 0, .slice none 0 0, .slice none 0 0, .slice none 0 0] 48 (fun b => (pt b 0)) (by kernel_rfl) (fun _ => by kernel_rfl) fun a w b482 hs hw => ?_
    refine dg_next (SX_now hS272 ((hw.vws [1, 2, 3, 4, 5, 6]).anti (Le.refl _)) (by kernel_rfl)) fun hS => ?_
    refine d_all (fuel := 4) (rs := [1]) (by kernel_rfl) (by simp) (all1 ?_)
    obtain ⟨y484, h485, hx459⟩ := bindE hx459
    refine o_call hs rfl (by kernel_rfl) (by kernel_rfl) (caller_Caller_Address_s (x4 := x4) (x5 := x5) (x6 := IntKind.i64.wrap (x6 + 1)) (x9 := x9) (x15 := (x15)) (x17 := x17) (x18 := x18) (x19 := x19) (x20 := x20) (x24 := x24) (x25 := (pt b26 0)) (x27 := x33) (x28 := x34) (x29 := x35) (x30 := x36) h485 h12 h16 h23 rfl h39 ((hw.pick [1, 2, 3, 0, 4, 5, 6] (by kernel_rfl)).pack 3)) fun a w v hv hs => ?_
    obtain ⟨rfl, hw⟩ := hv
    replace hw := hw.unpack 3 rfl
    refine dg_next (SX_now hS272 ((hw.vws [0, 1, 2, 4, 5, 6]).anti (Le.refl _)) (by kernel_rfl)) fun hS => ?_
    refine d_all (fuel := 3) (rs := [22]) (by kernel_rfl) (by simp) (all1 ?_)
    obtain ⟨y486, h487, hx459⟩ := bindE hx459
    refine o_call hs rfl (by kernel_rfl) (by kernel_rfl) (atlas_Atlas_Of_s (x9 := (x15)) h487 h12 h16 ((hw.pick [1, 2, 0, 3, 4, 5, 6] (by kernel_rfl)).pack 2)) fun a w v hv hs => ?_
    obtain ⟨ih488, p490, c491, rfl, hw, hle489, h492⟩ := hv
    replace hw := hw.unpack 2 rfl
    refine dg_next (SX_now hS272 ((hw.vws [2, 0, 1, 4, 5, 6]).anti hle489) (by kernel_rfl)) fun hS => ?_
    refine d_pures (fuel := 1) kS272 hs hS [23, 24] [0, 3, 40] [(0, (pt b2 0)), (3, (pt b482 0)), (40, .agg #[vi64 10, vi64 y484, vi64 (IntKind.i64.wrap ((IntKind.i64.wrap (100 + ((IntKind.i64.wrap (x6 + 1)).tmod x4))) + 1)), vi64 y486.f0, vu64 0, vu64 0, vu64 0, vu64 0, vu64 0, vu64 0, vi64 0, vu32 0, vi64 0, vi64 0, vi64 0, vu64 0, vi64 0, vi64 0, vu64 0, .slice none 0 0, .bool false, vi64 0, .slice none 0 0, .slice none 0 0, .slice none 0 0])] (by kernel_rfl) fun a hs hS => ?_
    refine d_all (fuel := 0) (rs := [26]) (by kernel_rfl) (by simp) (all1 ?_)
    refine o_store hs hw rfl 3 rfl 0 (by kernel_rfl) (by kernel_rfl) (v := .agg #[vi64 10, vi64 y484, vi64 (IntKind.i64.wrap ((IntKind.i64.wrap (100 + ((IntKind.i64.wrap (x6 + 1)).tmod x4))) + 1)), vi64 y486.f0, vu64 0, vu64 0, vu64 0, vu64 0, vu64 0, vu64 0, vi64 0, vu32 0, vi64 0, vi64 0, vi64 0, vu64 0, vi64 0, vi64 0, vu64 0, .slice none 0 0, .bool false, vi64 0, .slice none 0 0, .slice none 0 0, .slice none 0 0]) (by kernel_rfl) (by kernel_rfl) (by kernel_rfl) (by kernel_rfl) fun a w hs hw => ?_
    refine dg_next (SX_now hS272 ((hw.vws [2, 0, 1, 4, 5, 6]).anti hle489) (by kernel_rfl)) fun hS => ?_
    refine d_done (by kernel_rfl) ?_
    obtain rfl := someE hx459
    exact (hJ460 _ _).2 ⟨y484, y486.f0, b482, ih488, hk, hs.cast [0, 3] (by kernel_rfl), hw.pick [2, 0, 4, 3, 1, 5, 6] (by kernel_rfl), hle489⟩
  intro a w hh
  obtain ⟨x341, x342, b339, ih337, hk, hs, hw, hle338⟩ := (hJ460 _ _).1 hh
  refine c_seq ?_
  obtain ⟨S343, hS343, kS343⟩ := mkSX (X := [([], bx b2 [vi64 x3, vi64 x4, vu64 x5, vi64 (IntKind.i64.wrap (x6 + 1)), (pt b8 0), vi64 x17, vu32 x18, vu64 x19, .slice p21 x20.length c22, vi64 x24, (pt b26 0), vu64 x33, vi64 x34, vu64 x35, .slice p37 x36.length c38] 85), ([], bx b8 [.slice p10 x9.length c11, x15] 113), ([], bx b26 [vu32 0, vi32 0, vu32 0, vu32 0, vi64 0, vu64 0, .slice p28 x27.length c29] 126), ([], bx b339 [vi64 10, vi64 x341, vi64 (IntKind.i64.wrap ((IntKind.i64.wrap (100 + ((IntKind.i64.wrap (x6 + 1)).tmod x4))) + 1)), vi64 x342, vu64 0, vu64 0, vu64 0, vu64 0, vu64 0, vu64 0, vi64 0, vu32 0, vi64 0, vi64 0, vi64 0, vu64 0, vi64 0, vi64 0, vu64 0, .slice none 0 0, .bool false, vi64 0, .slice none 0 0, .slice none 0 0, .slice none 0 0] 48), ([], d13), ([], d31), ([], F)]) (ih := ih337) (K := []) rfl
  obtain ⟨y420, hx421, hk⟩ := bindE hk
  obtain ⟨J422, hJ422⟩ : ∃ J : Act → World → Prop, ∀ a w, J a w ↔ (∃ (x414 : List M48) (p415 : Option Addr) (c416 : Nat) (d418 : Ch) (ih412 : IH), caller_Caller_Tick_5_r3 x6 x414 = some r ∧ Sees a 46 [(2, .slice p415 x414.length c416)] ∧ St g w [bx b2 [vi64 x3, vi64 x4, vu64 x5, vi64 (IntKind.i64.wrap (x6 + 1)), (pt b8 0), vi64 x17, vu32 x18, vu64 x19, .slice p21 x20.length c22, vi64 x24, (pt b26 0), vu64 x33, vi64 x34, vu64 x35, .slice p37 x36.length c38] 85, bx b8 [.slice p10 x9.length c11, x15] 113, bx b26 [vu32 0, vi32 0, vu32 0, vu32 0, vi64 0, vu64 0, .slice p28 x27.length c29] 126, d418, d13, d31, F] ih412 ∧ Le ih337 ih412 ∧ OSl e48 ih412 p415 c416 x414 d418) := ⟨_, fun _ _ => Iff.rfl⟩
  refine c_draw (by kernel_rfl) (N := 6) rfl S343 J422 ?_ ?_
  · have hw := hw.drew
    have hS : S343 (Array.replicate 6 false) _ := SX_now hS343 (hw.vws [0, 1, 2, 3, 4, 5, 6]) (by kernel_rfl)
    refine d_pures (fuel := 5) kS343 hs hS [0] [3, 41] [(3, (pt b339 0)), (41, (pt b2 0))] (by kernel_rfl) fun a hs hS => ?_
    refine d_load (fuel := 4) kS343 hs hS 2 rfl (by kernel_rfl) (SX_box hS343 3 rfl (by kernel_rfl)) 0 (by kernel_rfl) (by kernel_rfl) (v := .agg #[vi64 10, vi64 x341, vi64 (IntKind.i64.wrap ((IntKind.i64.wrap (100 + ((IntKind.i64.wrap (x6 + 1)).tmod x4))) + 1)), vi64 x342, vu64 0, vu64 0, vu64 0, vu64 0, vu64 0, vu64 0, vi64 0, vu32 0, vi64 0, vi64 0, vi64 0, vu64 0, vi64 0, vi64 0, vu64 0, .slice none 0 0, .bool false, vi64 0, .slice none 0 0, .slice none 0 0, .slice none 0 0]) (by kernel_rfl) fun a hs hS => ?_
    refine d_all (fuel := 3) (rs := [1, 3]) (by kernel_rfl) (by simp) (all2 ?_ (all1 ?_))
    · obtain ⟨y423, h424, hx421⟩ := bindE hx421
      refine o_call hs rfl (by kernel_rfl) (by kernel_rfl) (caller_Caller_ask_s (x4 := x4) (x6 := IntKind.i64.wrap (x6 + 1)) (x15 := (x15)) (x25 := (pt b26 0)) (x27 := x33) (x28 := x34) (x29 := x35) (x30 := x36) h424 (h12.mono hle338) h16 (h23.mono hle338) rfl (h39.mono hle338) (hG.mono hle338) ((hw.pick [0, 1, 4, 2, 3, 5, 6] (by kernel_rfl)).pack 3)) fun a w v hv hs => ?_
      obtain ⟨ih425, p427, c428, d430, rfl, hw, hle426, h429⟩ := hv
      replace hw := hw.unpack 4 rfl
      refine dg_next (SX_now hS343 ((hw.vws [1, 2, 4, 5, 3, 6, 7]).anti hle426) (by kernel_rfl)) fun hS => ?_
      refine d_all (fuel := 2) (rs := [3]) (by kernel_rfl) (by simp) (all1 ?_)
      refine o_new hs rfl hw [vi64 10, vi64 x341, vi64 (IntKind.i64.wrap ((IntKind.i64.wrap (100 + ((IntKind.i64.wrap (x6 + 1)).tmod x4))) + 1)), vi64 x342, vu64 0, vu64 0, vu64 0, vu64 0, vu64 0, vu64 0, vi64 0, vu32 0, vi64 0, vi64 0, vi64 0, vu64 0, vi64 0, vi64 0, vu64 0, .slice none 0 0, .bool false, vi64 0, .slice none 0 0, .slice none 0 0, .slice none 0 0] 48 (fun b => .slice (some ⟨b, 0, none⟩) 1 1) (by kernel_rfl) (fun _ => by kernel_rfl) fun a w b432 hs hw => ?_
      refine dg_next (SX_now hS343 ((hw.vws [2, 3, 5, 6, 4, 7, 8]).anti hle426) (by kernel_rfl)) fun hS => ?_
      refine d_all (fuel := 1) (rs := [4]) (by kernel_rfl) (by simp) (all1 ?_)
      obtain ⟨x434, h435, hx421⟩ := bindE hx421
      refine o_app1 hs rfl hw (E := e48) appT36 1 rfl h429 (by kernel_rfl) (by kernel_rfl) (c2 := 1) (by kernel_rfl) (hw.at_ 0 rfl) (z := (M48.mk 10 x341 (IntKind.i64.wrap ((IntKind.i64.wrap (100 + ((IntKind.i64.wrap (x6 + 1)).tmod x4))) + 1)) x342 0 0 0 0 0 0 0 0 0 (M41.mk 0 0 0 0) (M44.mk 0 0 ([]) false 0) ([]) ([]) ([]))) ⟨none, 0, none, 0, none, 0, none, 0, rfl, (RSl.nil _ _ _), (RSl.nil _ _ _), (RSl.nil _ _ _), (RSl.nil _ _ _)⟩ h435 fun a w p436 c437 d438 h439 hw hs => ?_
      refine dg_next (SX_now hS343 ((hw.vws [2, 3, 5, 6, 4, 7, 8]).anti hle426) (by kernel_rfl)) fun hS => ?_
      refine d_pures (fuel := 0) kS343 hs hS [5] [2] [(2, .slice p436 x434.length c437)] (by kernel_rfl) fun a hs hS => ?_
      refine d_done (by kernel_rfl) ?_
      obtain rfl := someE hx421
      exact (hJ422 _ _).2 ⟨x434, p436, c437, d438, ih425, hk, hs.cast [2] (by kernel_rfl), hw.pick [2, 3, 5, 1, 4, 7, 8] (by kernel_rfl), hle426, h439⟩
    refine o_new hs rfl hw [vi64 10, vi64 x341, vi64 (IntKind.i64.wrap ((IntKind.i64.wrap (100 + ((IntKind.i64.wrap (x6 + 1)).tmod x4))) + 1)), vi64 x342, vu64 0, vu64 0, vu64 0, vu64 0, vu64 0, vu64 0, vi64 0, vu32 0, vi64 0, vi64 0, vi64 0, vu64 0, vi64 0, vi64 0, vu64 0, .slice none 0 0, .bool false, vi64 0, .slice none 0 0, .slice none 0 0, .slice none 0 0] 48 (fun b => .slice (some ⟨b, 0, none⟩) 1 1) (by kernel_rfl) (fun _ => by kernel_rfl) fun a w b440 hs hw => ?_
    refine dg_next (SX_now hS343 ((hw.vws [1, 2, 3, 4, 5, 6, 7]).anti (Le.refl _)) (by kernel_rfl)) fun hS => ?_
    refine d_all (fuel := 2) (rs := [1]) (by kernel_rfl) (by simp) (all1 ?_)
    obtain ⟨y442, h443, hx421⟩ := bindE hx421
    refine o_call hs rfl (by kernel_rfl) (by kernel_rfl) (caller_Caller_ask_s (x4 := x4) (x6 := IntKind.i64.wrap (x6 + 1)) (x15 := (x15)) (x25 := (pt b26 0)) (x27 := x33) (x28 := x34) (x29 := x35) (x30 := x36) h443 (h12.mono hle338) h16 (h23.mono hle338) rfl (h39.mono hle338) (hG.mono hle338) ((hw.pick [1, 2, 5, 0, 3, 4, 6, 7] (by kernel_rfl)).pack 3)) fun a w v hv hs => ?_
    obtain ⟨ih444, p446, c447, d449, rfl, hw, hle445, h448⟩ := hv
    replace hw := hw.unpack 4 rfl
    refine dg_next (SX_now hS343 ((hw.vws [1, 2, 5, 6, 3, 7, 8]).anti hle445) (by kernel_rfl)) fun hS => ?_
    refine d_all (fuel := 1) (rs := [4]) (by kernel_rfl) (by simp) (all1 ?_)
    obtain ⟨x451, h452, hx421⟩ := bindE hx421
    refine o_app1 hs rfl hw (E := e48) appT36 0 rfl h448 (by kernel_rfl) (by kernel_rfl) (c2 := 1) (by kernel_rfl) (hw.at_ 4 rfl) (z := (M48.mk 10 x341 (IntKind.i64.wrap ((IntKind.i64.wrap (100 + ((IntKind.i64.wrap (x6 + 1)).tmod x4))) + 1)) x342 0 0 0 0 0 0 0 0 0 (M41.mk 0 0 0 0) (M44.mk 0 0 ([]) false 0) ([]) ([]) ([]))) ⟨none, 0, none, 0, none, 0, none, 0, rfl, (RSl.nil _ _ _), (RSl.nil _ _ _), (RSl.nil _ _ _), (RSl.nil _ _ _)⟩ h452 fun a w p453 c454 d455 h456 hw hs => ?_
    refine dg_next (SX_now hS343 ((hw.vws [1, 2, 5, 6, 3, 7, 8]).anti hle445) (by kernel_rfl)) fun hS => ?_
    refine d_pures (fuel := 0) kS343 hs hS [5] [2] [(2, .slice p453 x451.length c454)] (by kernel_rfl) fun a hs hS => ?_
    refine d_done (by kernel_rfl) ?_
    obtain rfl := someE hx421
    exact (hJ422 _ _).2 ⟨x451, p453, c454, d455, ih444, hk, hs.cast [2] (by kernel_rfl), hw.pick [1, 2, 5, 0, 3, 7, 8] (by kernel_rfl), hle445, h456⟩
  intro a w hh
  obtain ⟨x414, p415, c416, d418, ih412, hk, hs, hw, hle413, h417⟩ := (hJ422 _ _).1 hh
  refine c_ret ?_
  obtain rfl := someE hk
  refine hQ _ _ (f_ret1 hs rfl (v := .slice p415 x414.length c416) (by kernel_rfl) ⟨ih412, p415, c416, d418, rfl, hw.pick [3, 0, 1, 4, 2, 5, 6] (by kernel_rfl), (hle338.trans hle413), h417⟩)
def caller_Caller_Num (x5 : Int) : Option Int :=
  some x5
theorem caller_Caller_Num_s {x3 : Int} {x4 : Int} {x5 : Int} {x6 : Int} {x9 : List M44} {x15 : Value} {x17 : Int} {x18 : Int} {x19 : Int} {x20 : List Int} {x24 : Int} {x25 : Value} {x27 : Int} {x28 : Int} {x29 : Int} {x30 : List Int} {b2 : Nat} {b8 : Nat} {p10 : Option Addr} {c11 : Nat} {d13 : Ch} {p21 : Option Addr} {c22 : Nat} {p31 : Option Addr} {c32 : Nat} {r : Int} (hk : caller_Caller_Num x5 = some r) {g w : World} {F : Ch} {ih : IH} (h12 : OSl e44 ih p10 c11 x9 d13) (h16 : x15.oneCell' = true) (h23 : RSl e5 ih [] p21 c22 x20) (h26 : x25.oneCell' = true) (h33 : RSl e5 ih [] p31 c32 x30) (hw : St g w [bx b2 [vi64 x3, vi64 x4, vu64 x5, vi64 x6, (pt b8 0), vi64 x17, vu32 x18, vu64 x19, .slice p21 x20.length c22, vi64 x24, x25, vu64 x27, vi64 x28, vu64 x29, .slice p31 x30.length c32] 85, bx b8 [.slice p10 x9.length c11, x15] 113, d13, F] ih) :
    CallsR Tryz.prog 11 #[(pt b2 0)] w fun v w' => v = vu64 r ∧ St g w' [bx b2 [vi64 x3, vi64 x4, vu64 x5, vi64 x6, (pt b8 0), vi64 x17, vu32 x18, vu64 x19, .slice p21 x20.length c22, vi64 x24, x25, vu64 x27, vi64 x28, vu64 x29, .slice p31 x30.length c32] 85, bx b8 [.slice p10 x9.length c11, x15] 113, d13, F] ih := by
  refine f_in (vs := [(pt b2 0)]) Tryz.func11 rfl 9 rfl (by kernel_rfl) [(0, (pt b2 0))] (by kernel_rfl) fun a Qf hQ hQn hs => ?_
  refine c_seq ?_
  refine c_region ?_
  refine pures hs 1 [0] [(0, (pt b2 0))] (by kernel_rfl) fun a hs => ?_
  refine s_end ?_
  refine c_seq ?_
  refine c_seq ?_
  refine c_region ?_
  refine pures hs 2 [0, 4] [(0, (pt b2 0)), (4, .bool false)] (by kernel_rfl) fun a hs => ?_
  refine s_end ?_
  refine c_condF hs (by kernel_rfl) (by kernel_rfl) ?_
  refine c_skip ?_
  refine c_seq ?_
  refine c_region ?_
  refine pures hs 3 [7] [(7, (pt b2 2))] (by kernel_rfl) fun a hs => ?_
  refine s_load hs (hw.at_ 0 rfl) 2 (by kernel_rfl) (by kernel_rfl) (v := vu64 x5) (by kernel_rfl) fun a hs => ?_
  refine pures hs 1 [2] [(2, vu64 x5)] (by kernel_rfl) fun a hs => ?_
  refine s_end ?_
  refine c_ret ?_
  obtain rfl := someE hk
  refine hQ _ _ (f_ret1 hs rfl (v := vu64 x5) (by kernel_rfl) ⟨rfl, hw.pick [0, 1, 2, 3] (by kernel_rfl)⟩)
def catenarylaw26_awake_r3 : Option Bool :=
  some false
def catenarylaw26_awake_r4 (x1106 : Bool) : Option Bool :=
  some x1106
def catenarylaw26_awake (k : Nat) : Option Bool :=
  (catenaryref09_Begin k 1 2).bind fun y587 =>
  (caller_New k 3 1 y587.1).bind fun 
    | .inl y672 =>
      (caller_Caller_Begin).bind fun y682 =>
      (caller_Caller_Tick).bind fun y696 =>
      some false
    | .inr y703 =>
      (caller_Caller_Begin_4 k y703.1 0 y703.2.2.1 0 0 0 y703.2.2.2.2.2.1 0 (M26.mk 2 5 0 ([]) 0)).bind fun 
        | .inl y834 =>
          (caller_Caller_Tick_4 0).bind fun y852 =>
          (if (y834.2.1 == 0) = true then (
              if ((y834.1.length : Int) == 1) = true then (
                (ix y834.1 0).bind fun x946 =>
                if (x946.f2 == 1) = true then (
                  (ix y834.1 0).bind fun x964 =>
                  if (x964.f1 == 203) = true then (
                    if ((y852.1.length : Int) == 2) = true then some ()
                    else some ())
                  else some ())
                else some ())
              else some ())
            else some () : Option Unit).bind fun _ => catenarylaw26_awake_r3
        | .inr y986 =>
          (caller_Caller_Tick_5 k y703.1 y703.2.1 y986.2.2.1 0 y703.2.2.1 y986.2.2.2.1 y986.2.2.2.2.1 y986.2.2.2.2.2.1 y986.2.2.2.2.2.2.1 y986.2.2.2.2.2.2.2).bind fun y1013 =>
          (if ((y986.1.length : Int) == 1) = true then (
              (ix y986.1 0).bind fun x1111 =>
              if (x1111.f2 == 1) = true then (
                (ix y986.1 0).bind fun x1129 =>
                if (x1129.f1 == 203) = true then (
                  if ((y1013.1.length : Int) == 2) = true then (
                    (caller_Caller_Num y986.2.2.1).bind fun y1150 =>
                    some (y1150 == 1))
                  else some false)
                else some false)
              else some false)
            else some false : Option Bool).bind fun s1152 => catenarylaw26_awake_r4 s1152
theorem catenarylaw26_awake_s {k : Nat} {r : Bool} (hk : catenarylaw26_awake k = some r) {g w : World} {F : Ch} {ih : IH} (hG : Glob 0 gl0 162 ih) (hw : St g w [F] ih) :
    CallsR Tryz.prog 8 #[] w fun v w' => ∃ (ih' : IH), v = .bool r ∧ St g w' [F] ih' ∧ Le ih ih' := by
  refine f_in (vs := []) Tryz.func8 rfl 64 rfl (by kernel_rfl) [] (by kernel_rfl) fun a Qf hQ hQn hs => ?_
  refine c_seq ?_
  refine c_region ?_
  refine pures hs 1 [] [] (by kernel_rfl) fun a hs => ?_
  refine s_end ?_
  refine c_seq ?_
  refine c_region ?_
  obtain ⟨y587, h588, hk⟩ := bindE hk
  refine s_call hs (by kernel_rfl) (by kernel_rfl) (catenaryref09_Begin_s h588 ((hw.pick [0] (by kernel_rfl)).pack 0)) fun a w v hv hs => ?_
  obtain ⟨ih589, p591, c592, d594, rfl, hw, hle590, h593⟩ := hv
  replace hw := hw.unpack 1 rfl
  refine pures hs 5 [1] [(1, .slice p591 y587.1.length c592)] (by kernel_rfl) fun a hs => ?_
  refine s_end ?_
  refine c_seq ?_
  refine c_region ?_
  refine pures hs 1 [13] [(13, .slice p591 y587.1.length c592)] (by kernel_rfl) fun a hs => ?_
  obtain ⟨y670, h671, hk⟩ := bindE hk
  refine s_call hs (by kernel_rfl) (by kernel_rfl) (caller_New_s h671 h593.read (memF 0 rfl) ((hw.pick [0, 1] (by kernel_rfl)).pack 0)) fun a w v hv hs => ?_
  rcases hv with ⟨y672, rfl, ⟨ih673, rfl, hw, hle674⟩⟩ | ⟨y703, rfl, ⟨ih704, b706, b708, p710, c711, d713, b715, b717, p719, c720, d722, p724, c725, d727, p729, c730, d732, rfl, hw, hle705, h712, h721, h726, h731⟩⟩
  · try dsimp only at hk
    replace hw := hw.unpack 0 rfl
    refine pures hs 5 [3, 4] [(3, .pointer none), (4, vi64 1)] (by kernel_rfl) fun a hs => ?_
    refine s_end ?_
    refine c_seq ?_
    refine c_region ?_
    refine pures hs 2 [3, 4, 18, 19] [(3, .pointer none), (4, vi64 1), (18, .pointer none), (19, .agg #[vi64 2, vu32 5, vu64 0, .slice none 0 0, vi64 0])] (by kernel_rfl) fun a hs => ?_
    obtain ⟨y682, h683, hk⟩ := bindE hk
    refine s_call hs (by kernel_rfl) (by kernel_rfl) (caller_Caller_Begin_s (x1 := (M26.mk 2 5 0 ([]) 0)) h683 (RSl.nil _ _ _) ((hw.pick [1] (by kernel_rfl)).pack 0)) fun a w v hv hs => ?_
    obtain ⟨p684, c685, d687, rfl, hw, h686⟩ := hv
    replace hw := hw.unpack 1 rfl
    refine pures hs 5 [3, 4, 5, 6] [(3, .pointer none), (4, vi64 1), (5, .slice p684 y682.length c685), (6, vi64 2)] (by kernel_rfl) fun a hs => ?_
    refine s_end ?_
    refine c_seq ?_
    refine c_region ?_
    refine pures hs 1 [3, 4, 5, 6, 23] [(3, .pointer none), (4, vi64 1), (5, .slice p684 y682.length c685), (6, vi64 2), (23, .pointer none)] (by kernel_rfl) fun a hs => ?_
    obtain ⟨y696, h697, hk⟩ := bindE hk
    refine s_call hs (by kernel_rfl) (by kernel_rfl) (caller_Caller_Tick_s h697 ((hw.pick [0, 1] (by kernel_rfl)).pack 0)) fun a w v hv hs => ?_
    obtain ⟨p698, c699, d701, rfl, hw, h700⟩ := hv
    replace hw := hw.unpack 1 rfl
    refine pures hs 1 [3, 4, 5, 6, 7] [(3, .pointer none), (4, vi64 1), (5, .slice p684 y682.length c685), (6, vi64 2), (7, .slice p698 y696.length c699)] (by kernel_rfl) fun a hs => ?_
    refine s_end ?_
    refine c_seq ?_
    refine c_region ?_
    refine pures hs 40 [0] [(0, .bool false)] (by kernel_rfl) fun a hs => ?_
    refine s_end ?_
    refine c_ret ?_
    obtain rfl := someE hk
    refine hQ _ _ (f_ret1 hs rfl (v := .bool false) (by kernel_rfl) ⟨ih673, rfl, hw.pick [2] (by kernel_rfl), (hle590.trans hle674)⟩)
  try dsimp only at hk
  replace hw := hw.unpack 8 rfl
  refine pures hs 5 [3, 4] [(3, (pt b706 0)), (4, vi64 0)] (by kernel_rfl) fun a hs => ?_
  refine s_end ?_
  refine c_seq ?_
  refine c_region ?_
  refine pures hs 2 [3, 4, 18, 19] [(3, (pt b706 0)), (4, vi64 0), (18, (pt b706 0)), (19, .agg #[vi64 2, vu32 5, vu64 0, .slice none 0 0, vi64 0])] (by kernel_rfl) fun a hs => ?_
  obtain ⟨ih826, hle827, hw, h828⟩ := (hw.pick [6, 0, 1, 2, 3, 4, 5, 7, 8, 9] (by kernel_rfl)).fz (h726.mono (Le.refl _))
  obtain ⟨ih829, hle830, hw, h831⟩ := (hw.pick [6, 0, 1, 2, 3, 4, 5, 7, 8] (by kernel_rfl)).fz (h731.mono hle827)
  obtain ⟨y832, h833, hk⟩ := bindE hk
  refine s_call hs (by kernel_rfl) (by kernel_rfl) (caller_Caller_Begin_4_s (x4 := y703.2.1) (x6 := 0) (x15 := (pt b715 0)) (x25 := 0) (x26 := 0) (x27 := 0) (x28 := y703.2.2.2.2.2.2) h833 (h712.mono (hle827.trans hle830)) rfl (h828.mono hle830) h831 (RSl.nil _ _ _) (hG.mono (((hle590.trans hle705).trans hle827).trans hle830)) ((hw.pick [0, 1, 2, 3, 4, 5, 7] (by kernel_rfl)).pack 3)) fun a w v hv hs => ?_
  rcases hv with ⟨y834, rfl, ⟨ih835, p837, c838, d840, p842, c843, rfl, hw, hle836, h839, h844⟩⟩ | ⟨y986, rfl, ⟨ih987, p989, c990, d992, b994, p996, c997, d999, p1001, c1002, rfl, hw, hle988, h991, h998, h1003⟩⟩
  · try dsimp only at hk
    replace hw := hw.unpack 4 rfl
    refine pures hs 5 [3, 4, 5, 6] [(3, (pt b706 0)), (4, vi64 0), (5, .slice p837 y834.1.length c838), (6, vi64 y834.2.1)] (by kernel_rfl) fun a hs => ?_
    refine s_end ?_
    refine c_seq ?_
    refine c_region ?_
    refine pures hs 1 [3, 4, 5, 6, 23] [(3, (pt b706 0)), (4, vi64 0), (5, .slice p837 y834.1.length c838), (6, vi64 y834.2.1), (23, (pt b706 0))] (by kernel_rfl) fun a hs => ?_
    obtain ⟨y852, h853, hk⟩ := bindE hk
    refine s_call hs (by kernel_rfl) (by kernel_rfl) (caller_Caller_Tick_4_s (x3 := y703.1) (x4 := y703.2.1) (x5 := y834.2.2.1) (x9 := y703.2.2.1) (x15 := (pt b715 0)) (x17 := y834.2.2.2.1) (x18 := y834.2.2.2.2.1) (x19 := y834.2.2.2.2.2.1) (x20 := y834.2.2.2.2.2.2.1) (x24 := y834.2.2.2.2.2.2.2) (x25 := 0) (x26 := 0) (x27 := 0) (x28 := y703.2.2.2.2.2.2) h853 (h712.mono ((hle827.trans hle830).trans hle836)) rfl h844 (h831.mono hle836) ((hw.pick [1, 2, 3, 0, 4, 5, 6, 7] (by kernel_rfl)).pack 3)) fun a w v hv hs => ?_
    obtain ⟨p854, c855, d857, rfl, hw, h856⟩ := hv
    replace hw := hw.unpack 4 rfl
    refine pures hs 1 [3, 4, 5, 6, 7] [(3, (pt b706 0)), (4, vi64 0), (5, .slice p837 y834.1.length c838), (6, vi64 y834.2.1), (7, .slice p854 y852.1.length c855)] (by kernel_rfl) fun a hs => ?_
    refine s_end ?_
    refine c_seq ?_
    obtain ⟨y941, hx942, hk⟩ := bindE hk
    obtain ⟨J943, hJ943⟩ : ∃ J : Act → World → Prop, ∀ a w, J a w ↔ (catenarylaw26_awake_r3 = some r ∧ Sees a 64 [(0, .bool false)] ∧ St g w [F] ih835) := ⟨_, fun _ _ => Iff.rfl⟩
    refine c_regJ J943 ?_ ?_
    · refine pures hs 7 [3, 5, 7, 31] [(3, (pt b706 0)), (5, .slice p837 y834.1.length c838), (7, .slice p854 y852.1.length c855), (31, .bool (y834.2.1 == 0))] (by kernel_rfl) fun a hs => ?_
      rcases ifbE hx942 with ⟨h944, hx942⟩ | ⟨h944, hx942⟩
      · replace hs := hs.altB 31 true (by kernel_rfl) h944
        refine pures hs 5 [3, 5, 7, 36] [(3, (pt b706 0)), (5, .slice p837 y834.1.length c838), (7, .slice p854 y852.1.length c855), (36, .bool ((y834.1.length : Int) == 1))] (by kernel_rfl) fun a hs => ?_
        rcases ifbE hx942 with ⟨h945, hx942⟩ | ⟨h945, hx942⟩
        · replace hs := hs.altB 36 true (by kernel_rfl) h945
          refine pures hs 1 [3, 5, 7, 36, 37] [(3, (pt b706 0)), (5, .slice p837 y834.1.length c838), (7, .slice p854 y852.1.length c855), (36, .bool true), (37, .slice p837 y834.1.length c838)] (by kernel_rfl) fun a hs => ?_
          obtain ⟨x946, h947, hx942⟩ := bindE hx942
          refine s_indexO hs h839 (by kernel_rfl) (by kernel_rfl) (k := .i64) (by kernel_rfl) 48 (by kernel_rfl) (by kernel_rfl) h947 fun a r948 cs henc at949 h962 hs => ?_
          obtain ⟨p950, c951, p953, c954, p956, c957, p959, c960, rfl, h952, h955, h958, h961⟩ := henc
          refine pures hs 1 [3, 5, 7, 36, 39] [(3, (pt b706 0)), (5, .slice p837 y834.1.length c838), (7, .slice p854 y852.1.length c855), (36, .bool true), (39, .pointer (some (r948.add 2)))] (by kernel_rfl) fun a hs => ?_
          refine s_load hs (at949 _ ((hw.vw 4 rfl).anti (Le.refl _))) 2 (by kernel_rfl) (by kernel_rfl) (v := vi64 x946.f2) (by kernel_rfl) fun a hs => ?_
          refine pures hs 3 [3, 5, 7, 43] [(3, (pt b706 0)), (5, .slice p837 y834.1.length c838), (7, .slice p854 y852.1.length c855), (43, .bool (x946.f2 == 1))] (by kernel_rfl) fun a hs => ?_
          rcases ifbE hx942 with ⟨h963, hx942⟩ | ⟨h963, hx942⟩
          · replace hs := hs.altB 43 true (by kernel_rfl) h963
            refine pures hs 1 [3, 7, 43, 44] [(3, (pt b706 0)), (7, .slice p854 y852.1.length c855), (43, .bool true), (44, .slice p837 y834.1.length c838)] (by kernel_rfl) fun a hs => ?_
            obtain ⟨x964, h965, hx942⟩ := bindE hx942
            refine s_indexO hs h839 (by kernel_rfl) (by kernel_rfl) (k := .i64) (by kernel_rfl) 48 (by kernel_rfl) (by kernel_rfl) h965 fun a r966 cs henc at967 h980 hs => ?_
            obtain ⟨p968, c969, p971, c972, p974, c975, p977, c978, rfl, h970, h973, h976, h979⟩ := henc
            refine pures hs 1 [3, 7, 43, 46] [(3, (pt b706 0)), (7, .slice p854 y852.1.length c855), (43, .bool true), (46, .pointer (some (r966.add 1)))] (by kernel_rfl) fun a hs => ?_
            refine s_load hs (at967 _ ((hw.vw 4 rfl).anti (Le.refl _))) 1 (by kernel_rfl) (by kernel_rfl) (v := vi64 x964.f1) (by kernel_rfl) fun a hs => ?_
            refine pures hs 3 [3, 7, 50] [(3, (pt b706 0)), (7, .slice p854 y852.1.length c855), (50, .bool (x964.f1 == 203))] (by kernel_rfl) fun a hs => ?_
            rcases ifbE hx942 with ⟨h981, hx942⟩ | ⟨h981, hx942⟩
            · replace hs := hs.altB 50 true (by kernel_rfl) h981
              refine pures hs 5 [3, 55] [(3, (pt b706 0)), (55, .bool ((y852.1.length : Int) == 2))] (by kernel_rfl) fun a hs => ?_
              rcases ifbE hx942 with ⟨h982, hx942⟩ | ⟨h982, hx942⟩
              · replace hs := hs.altB 55 true (by kernel_rfl) h982
                refine pures hs 1 [3, 55, 56] [(3, (pt b706 0)), (55, .bool true), (56, (pt b706 0))] (by kernel_rfl) fun a hs => ?_
                have h984 : caller_Caller_Busy_3 = some () := rfl
                refine s_call hs (by kernel_rfl) (by kernel_rfl) (caller_Caller_Busy_3_s (x3 := y703.1) (x4 := y703.2.1) (x5 := y834.2.2.1) (x6 := y852.2) (x9 := y703.2.2.1) (x15 := (pt b715 0)) (x17 := y834.2.2.2.1) (x18 := y834.2.2.2.2.1) (x19 := y834.2.2.2.2.2.1) (x20 := y834.2.2.2.2.2.2.1) (x24 := y834.2.2.2.2.2.2.2) (x25 := 0) (x26 := 0) (x27 := 0) (x28 := y703.2.2.2.2.2.2) h984 (h712.mono ((hle827.trans hle830).trans hle836)) rfl h844 (h831.mono hle836) ((hw.pick [1, 2, 3, 5, 6, 7, 8] (by kernel_rfl)).pack 3)) fun a w v hv hs => ?_
                obtain ⟨rfl, hw⟩ := hv
                replace hw := hw.unpack 3 rfl
                refine pures hs 7 [0] [(0, .bool false)] (by kernel_rfl) fun a hs => ?_
                refine s_end ?_
                obtain rfl := someE hx942
                exact (hJ943 _ _).2 ⟨hk, hs.cast [0] (by kernel_rfl), hw.pick [6] (by kernel_rfl)⟩
              replace hs := hs.altB 55 false (by kernel_rfl) h982
              refine pures hs 9 [0] [(0, .bool false)] (by kernel_rfl) fun a hs => ?_
              refine s_end ?_
              obtain rfl := someE hx942
              exact (hJ943 _ _).2 ⟨hk, hs.cast [0] (by kernel_rfl), hw.pick [8] (by kernel_rfl)⟩
            replace hs := hs.altB 50 false (by kernel_rfl) h981
            refine pures hs 14 [0] [(0, .bool false)] (by kernel_rfl) fun a hs => ?_
            refine s_end ?_
            obtain rfl := someE hx942
            exact (hJ943 _ _).2 ⟨hk, hs.cast [0] (by kernel_rfl), hw.pick [8] (by kernel_rfl)⟩
          replace hs := hs.altB 43 false (by kernel_rfl) h963
          refine pures hs 21 [0] [(0, .bool false)] (by kernel_rfl) fun a hs => ?_
          refine s_end ?_
          obtain rfl := someE hx942
          exact (hJ943 _ _).2 ⟨hk, hs.cast [0] (by kernel_rfl), hw.pick [8] (by kernel_rfl)⟩
        replace hs := hs.altB 36 false (by kernel_rfl) h945
        refine pures hs 28 [0] [(0, .bool false)] (by kernel_rfl) fun a hs => ?_
        refine s_end ?_
        obtain rfl := someE hx942
        exact (hJ943 _ _).2 ⟨hk, hs.cast [0] (by kernel_rfl), hw.pick [8] (by kernel_rfl)⟩
      replace hs := hs.altB 31 false (by kernel_rfl) h944
      refine pures hs 33 [0] [(0, .bool false)] (by kernel_rfl) fun a hs => ?_
      refine s_end ?_
      obtain rfl := someE hx942
      exact (hJ943 _ _).2 ⟨hk, hs.cast [0] (by kernel_rfl), hw.pick [8] (by kernel_rfl)⟩
    intro a w hh
    obtain ⟨hk, hs, hw⟩ := (hJ943 _ _).1 hh
    refine c_ret ?_
    obtain rfl := someE hk
    refine hQ _ _ (f_ret1 hs rfl (v := .bool false) (by kernel_rfl) ⟨ih835, rfl, hw.pick [0] (by kernel_rfl), ((((hle590.trans hle705).trans hle827).trans hle830).trans hle836)⟩)
  try dsimp only at hk
  replace hw := hw.unpack 6 rfl
  refine pures hs 5 [3, 4, 5, 6] [(3, (pt b706 0)), (4, vi64 0), (5, .slice p989 y986.1.length c990), (6, vi64 0)] (by kernel_rfl) fun a hs => ?_
  refine s_end ?_
  refine c_seq ?_
  refine c_region ?_
  refine pures hs 1 [3, 4, 5, 6, 23] [(3, (pt b706 0)), (4, vi64 0), (5, .slice p989 y986.1.length c990), (6, vi64 0), (23, (pt b706 0))] (by kernel_rfl) fun a hs => ?_
  obtain ⟨y1013, h1014, hk⟩ := bindE hk
  refine s_call hs (by kernel_rfl) (by kernel_rfl) (caller_Caller_Tick_5_s (x15 := (pt b715 0)) (x27 := y986.2.1) (x33 := 0) (x34 := 0) (x35 := 0) (x36 := y703.2.2.2.2.2.2) h1014 (h712.mono ((hle827.trans hle830).trans hle988)) rfl h1003 h998 (h831.mono hle988) (hG.mono ((((hle590.trans hle705).trans hle827).trans hle830).trans hle988)) ((hw.pick [3, 4, 5, 1, 2, 0, 6, 7, 8, 9] (by kernel_rfl)).pack 5)) fun a w v hv hs => ?_
  obtain ⟨ih1015, p1017, c1018, d1020, rfl, hw, hle1016, h1019⟩ := hv
  replace hw := hw.unpack 6 rfl
  refine pures hs 1 [3, 4, 5, 6, 7] [(3, (pt b706 0)), (4, vi64 0), (5, .slice p989 y986.1.length c990), (6, vi64 0), (7, .slice p1017 y1013.1.length c1018)] (by kernel_rfl) fun a hs => ?_
  refine s_end ?_
  refine c_seq ?_
  obtain ⟨y1107, hx1108, hk⟩ := bindE hk
  obtain ⟨J1109, hJ1109⟩ : ∃ J : Act → World → Prop, ∀ a w, J a w ↔ (∃ (x1106 : Bool), catenarylaw26_awake_r4 x1106 = some r ∧ Sees a 64 [(0, .bool x1106)] ∧ St g w [F] ih1015) := ⟨_, fun _ _ => Iff.rfl⟩
  refine c_regJ J1109 ?_ ?_
  · refine pures hs 12 [3, 5, 7, 36] [(3, (pt b706 0)), (5, .slice p989 y986.1.length c990), (7, .slice p1017 y1013.1.length c1018), (36, .bool ((y986.1.length : Int) == 1))] (by kernel_rfl) fun a hs => ?_
    rcases ifbE hx1108 with ⟨h1110, hx1108⟩ | ⟨h1110, hx1108⟩
    · replace hs := hs.altB 36 true (by kernel_rfl) h1110
      refine pures hs 1 [3, 5, 7, 36, 37] [(3, (pt b706 0)), (5, .slice p989 y986.1.length c990), (7, .slice p1017 y1013.1.length c1018), (36, .bool true), (37, .slice p989 y986.1.length c990)] (by kernel_rfl) fun a hs => ?_
      obtain ⟨x1111, h1112, hx1108⟩ := bindE hx1108
      refine s_indexO hs h991 (by kernel_rfl) (by kernel_rfl) (k := .i64) (by kernel_rfl) 48 (by kernel_rfl) (by kernel_rfl) h1112 fun a r1113 cs henc at1114 h1127 hs => ?_
      obtain ⟨p1115, c1116, p1118, c1119, p1121, c1122, p1124, c1125, rfl, h1117, h1120, h1123, h1126⟩ := henc
      refine pures hs 1 [3, 5, 7, 36, 39] [(3, (pt b706 0)), (5, .slice p989 y986.1.length c990), (7, .slice p1017 y1013.1.length c1018), (36, .bool true), (39, .pointer (some (r1113.add 2)))] (by kernel_rfl) fun a hs => ?_
      refine s_load hs (at1114 _ ((hw.vw 6 rfl).anti hle1016)) 2 (by kernel_rfl) (by kernel_rfl) (v := vi64 x1111.f2) (by kernel_rfl) fun a hs => ?_
      refine pures hs 3 [3, 5, 7, 43] [(3, (pt b706 0)), (5, .slice p989 y986.1.length c990), (7, .slice p1017 y1013.1.length c1018), (43, .bool (x1111.f2 == 1))] (by kernel_rfl) fun a hs => ?_
      rcases ifbE hx1108 with ⟨h1128, hx1108⟩ | ⟨h1128, hx1108⟩
      · replace hs := hs.altB 43 true (by kernel_rfl) h1128
        refine pures hs 1 [3, 7, 43, 44] [(3, (pt b706 0)), (7, .slice p1017 y1013.1.length c1018), (43, .bool true), (44, .slice p989 y986.1.length c990)] (by kernel_rfl) fun a hs => ?_
        obtain ⟨x1129, h1130, hx1108⟩ := bindE hx1108
        refine s_indexO hs h991 (by kernel_rfl) (by kernel_rfl) (k := .i64) (by kernel_rfl) 48 (by kernel_rfl) (by kernel_rfl) h1130 fun a r1131 cs henc at1132 h1145 hs => ?_
        obtain ⟨p1133, c1134, p1136, c1137, p1139, c1140, p1142, c1143, rfl, h1135, h1138, h1141, h1144⟩ := henc
        refine pures hs 1 [3, 7, 43, 46] [(3, (pt b706 0)), (7, .slice p1017 y1013.1.length c1018), (43, .bool true), (46, .pointer (some (r1131.add 1)))] (by kernel_rfl) fun a hs => ?_
        refine s_load hs (at1132 _ ((hw.vw 6 rfl).anti hle1016)) 1 (by kernel_rfl) (by kernel_rfl) (v := vi64 x1129.f1) (by kernel_rfl) fun a hs => ?_
        refine pures hs 3 [3, 7, 50] [(3, (pt b706 0)), (7, .slice p1017 y1013.1.length c1018), (50, .bool (x1129.f1 == 203))] (by kernel_rfl) fun a hs => ?_
        rcases ifbE hx1108 with ⟨h1146, hx1108⟩ | ⟨h1146, hx1108⟩
        · replace hs := hs.altB 50 true (by kernel_rfl) h1146
          refine pures hs 5 [3, 55] [(3, (pt b706 0)), (55, .bool ((y1013.1.length : Int) == 2))] (by kernel_rfl) fun a hs => ?_
          rcases ifbE hx1108 with ⟨h1147, hx1108⟩ | ⟨h1147, hx1108⟩
          · replace hs := hs.altB 55 true (by kernel_rfl) h1147
            refine pures hs 1 [3, 55, 56] [(3, (pt b706 0)), (55, .bool true), (56, (pt b706 0))] (by kernel_rfl) fun a hs => ?_
            have h1149 : caller_Caller_Busy_4 = some () := rfl
            refine s_call hs (by kernel_rfl) (by kernel_rfl) (caller_Caller_Busy_4_s (x3 := y703.1) (x4 := y703.2.1) (x5 := y986.2.2.1) (x6 := y1013.2) (x9 := y703.2.2.1) (x15 := (pt b715 0)) (x17 := y986.2.2.2.1) (x18 := y986.2.2.2.2.1) (x19 := y986.2.2.2.2.2.1) (x20 := y986.2.2.2.2.2.2.1) (x24 := y986.2.2.2.2.2.2.2) (x27 := y986.2.1) (x33 := 0) (x34 := 0) (x35 := 0) (x36 := y703.2.2.2.2.2.2) h1149 (h712.mono (((hle827.trans hle830).trans hle988).trans hle1016)) rfl (h1003.mono hle1016) (h998.mono hle1016) (h831.mono (hle988.trans hle1016)) ((hw.pick [1, 2, 3, 4, 5, 7, 8, 9, 10] (by kernel_rfl)).pack 5)) fun a w v hv hs => ?_
            obtain ⟨rfl, hw⟩ := hv
            replace hw := hw.unpack 5 rfl
            refine pures hs 3 [59, 60] [(59, .bool true), (60, (pt b706 0))] (by kernel_rfl) fun a hs => ?_
            obtain ⟨y1150, h1151, hx1108⟩ := bindE hx1108
            refine s_call hs (by kernel_rfl) (by kernel_rfl) (caller_Caller_Num_s (x3 := y703.1) (x4 := y703.2.1) (x6 := y1013.2) (x9 := y703.2.2.1) (x15 := (pt b715 0)) (x17 := y986.2.2.2.1) (x18 := y986.2.2.2.2.1) (x19 := y986.2.2.2.2.2.1) (x20 := y986.2.2.2.2.2.2.1) (x24 := y986.2.2.2.2.2.2.2) (x25 := (pt b994 0)) (x27 := 0) (x28 := 0) (x29 := 0) (x30 := y703.2.2.2.2.2.2) h1151 (h712.mono (((hle827.trans hle830).trans hle988).trans hle1016)) rfl (h1003.mono hle1016) rfl (h831.mono (hle988.trans hle1016)) ((hw.pick [0, 1, 2, 3, 4, 5, 6, 7, 8] (by kernel_rfl)).pack 3)) fun a w v hv hs => ?_
            obtain ⟨rfl, hw⟩ := hv
            replace hw := hw.unpack 3 rfl
            refine pures hs 3 [0] [(0, .bool (y1150 == 1))] (by kernel_rfl) fun a hs => ?_
            refine s_end ?_
            obtain rfl := someE hx1108
            exact (hJ1109 _ _).2 ⟨(y1150 == 1), hk, hs.cast [0] (by kernel_rfl), hw.pick [8] (by kernel_rfl)⟩
          replace hs := hs.altB 55 false (by kernel_rfl) h1147
          refine pures hs 9 [0] [(0, .bool false)] (by kernel_rfl) fun a hs => ?_
          refine s_end ?_
          obtain rfl := someE hx1108
          exact (hJ1109 _ _).2 ⟨false, hk, hs.cast [0] (by kernel_rfl), hw.pick [10] (by kernel_rfl)⟩
        replace hs := hs.altB 50 false (by kernel_rfl) h1146
        refine pures hs 14 [0] [(0, .bool false)] (by kernel_rfl) fun a hs => ?_
        refine s_end ?_
        obtain rfl := someE hx1108
        exact (hJ1109 _ _).2 ⟨false, hk, hs.cast [0] (by kernel_rfl), hw.pick [10] (by kernel_rfl)⟩
      replace hs := hs.altB 43 false (by kernel_rfl) h1128
      refine pures hs 21 [0] [(0, .bool false)] (by kernel_rfl) fun a hs => ?_
      refine s_end ?_
      obtain rfl := someE hx1108
      exact (hJ1109 _ _).2 ⟨false, hk, hs.cast [0] (by kernel_rfl), hw.pick [10] (by kernel_rfl)⟩
    replace hs := hs.altB 36 false (by kernel_rfl) h1110
    refine pures hs 28 [0] [(0, .bool false)] (by kernel_rfl) fun a hs => ?_
    refine s_end ?_
    obtain rfl := someE hx1108
    exact (hJ1109 _ _).2 ⟨false, hk, hs.cast [0] (by kernel_rfl), hw.pick [10] (by kernel_rfl)⟩
  intro a w hh
  obtain ⟨x1106, hk, hs, hw⟩ := (hJ1109 _ _).1 hh
  refine c_ret ?_
  obtain rfl := someE hk
  refine hQ _ _ (f_ret1 hs rfl (v := .bool x1106) (by kernel_rfl) ⟨ih1015, rfl, hw.pick [0] (by kernel_rfl), (((((hle590.trans hle705).trans hle827).trans hle830).trans hle988).trans hle1016)⟩)
def caller_Caller_Busy_5 : Option Unit :=
  some ()
theorem caller_Caller_Busy_5_s {r : Unit} (hk : caller_Caller_Busy_5 = some r) {g w : World} {F : Ch} {ih : IH} (hw : St g w [F] ih) :
    CallsR Tryz.prog 10 #[.pointer none] w fun v w' => v = .bool false ∧ St g w' [F] ih := by
  refine f_in (vs := [.pointer none]) Tryz.func10 rfl 24 rfl (by kernel_rfl) [(0, .pointer none)] (by kernel_rfl) fun a Qf hQ hQn hs => ?_
  refine c_seq ?_
  refine c_region ?_
  refine pures hs 1 [0] [(0, .pointer none)] (by kernel_rfl) fun a hs => ?_
  refine s_end ?_
  refine c_seq ?_
  refine c_seq ?_
  refine c_region ?_
  refine pures hs 9 [0, 13] [(0, .pointer none), (13, .bool true)] (by kernel_rfl) fun a hs => ?_
  refine s_end ?_
  refine c_condT hs (by kernel_rfl) (by kernel_rfl) ?_
  refine c_seq ?_
  refine c_region ?_
  refine pures hs 1 [2] [(2, .bool false)] (by kernel_rfl) fun a hs => ?_
  refine s_end ?_
  refine c_ret ?_
  obtain rfl := someE hk
  refine hQ _ _ (f_ret1 hs rfl (v := .bool false) (by kernel_rfl) ⟨rfl, hw.pick [0] (by kernel_rfl)⟩)
def caller_Caller_Num_2 : Option Unit :=
  some ()
theorem caller_Caller_Num_2_s {r : Unit} (hk : caller_Caller_Num_2 = some r) {g w : World} {F : Ch} {ih : IH} (hw : St g w [F] ih) :
    CallsR Tryz.prog 11 #[.pointer none] w fun v w' => v = vu64 0 ∧ St g w' [F] ih := by
  refine f_in (vs := [.pointer none]) Tryz.func11 rfl 9 rfl (by kernel_rfl) [(0, .pointer none)] (by kernel_rfl) fun a Qf hQ hQn hs => ?_
  refine c_seq ?_
  refine c_region ?_
  refine pures hs 1 [0] [(0, .pointer none)] (by kernel_rfl) fun a hs => ?_
  refine s_end ?_
  refine c_seq ?_
  refine c_seq ?_
  refine c_region ?_
  refine pures hs 2 [0, 4] [(0, .pointer none), (4, .bool true)] (by kernel_rfl) fun a hs => ?_
  refine s_end ?_
  refine c_condT hs (by kernel_rfl) (by kernel_rfl) ?_
  refine c_seq ?_
  refine c_region ?_
  refine pures hs 1 [2] [(2, vu64 0)] (by kernel_rfl) fun a hs => ?_
  refine s_end ?_
  refine c_ret ?_
  obtain rfl := someE hk
  refine hQ _ _ (f_ret1 hs rfl (v := vu64 0) (by kernel_rfl) ⟨rfl, hw.pick [0] (by kernel_rfl)⟩)
def role_Newer_r2 (x52 : Bool) : Option Bool :=
  some x52
def role_Newer (k : Nat) (x1 : M44) (x5 : M44) : Option Bool :=
  ((conf_Right k x5).bind fun y56 =>
    if y56 = true then (
      if (x1.f0 == x5.f0) = true then some (decide (x1.f1 < x5.f1))
      else some false)
    else some false : Option Bool).bind fun s60 => role_Newer_r2 s60
theorem role_Newer_s {k : Nat} {x1 : M44} {x5 : M44} {p2 : Option Addr} {c3 : Nat} {p6 : Option Addr} {c7 : Nat} {r : Bool} (hk : role_Newer k x1 x5 = some r) {g w : World} {F : Ch} {ih : IH} (h4 : RSl e3 ih [] p2 c3 x1.f2) (h8 : RSl e3 ih [] p6 c7 x5.f2) (hw : St g w [F] ih) :
    CallsR Tryz.prog 63 #[.agg #[vi64 x1.f0, vu64 x1.f1, .slice p2 x1.f2.length c3, .bool x1.f3, vi64 x1.f4], .agg #[vi64 x5.f0, vu64 x5.f1, .slice p6 x5.f2.length c7, .bool x5.f3, vi64 x5.f4]] w fun v w' => v = .bool r ∧ St g w' [F] ih := by
  refine f_in (vs := [.agg #[vi64 x1.f0, vu64 x1.f1, .slice p2 x1.f2.length c3, .bool x1.f3, vi64 x1.f4], .agg #[vi64 x5.f0, vu64 x5.f1, .slice p6 x5.f2.length c7, .bool x5.f3, vi64 x5.f4]]) Tryz.func63 rfl 21 rfl (by kernel_rfl) [(0, .agg #[vi64 x1.f0, vu64 x1.f1, .slice p2 x1.f2.length c3, .bool x1.f3, vi64 x1.f4]), (1, .agg #[vi64 x5.f0, vu64 x5.f1, .slice p6 x5.f2.length c7, .bool x5.f3, vi64 x5.f4])] (by kernel_rfl) fun a Qf hQ hQn hs => ?_
  refine c_seq ?_
  refine c_region ?_
  refine s_new hs hw [vi64 x1.f0, vu64 x1.f1, .slice p2 x1.f2.length c3, .bool x1.f3, vi64 x1.f4] 44 (fun b => (pt b 0)) (by kernel_rfl) (fun _ => by kernel_rfl) fun a w b40 hs hw => ?_
  refine s_new hs hw [vi64 x5.f0, vu64 x5.f1, .slice p6 x5.f2.length c7, .bool x5.f3, vi64 x5.f4] 44 (fun b => (pt b 0)) (by kernel_rfl) (fun _ => by kernel_rfl) fun a w b42 hs hw => ?_
  refine pures hs 1 [2, 3] [(2, (pt b40 0)), (3, (pt b42 0))] (by kernel_rfl) fun a hs => ?_
  refine s_end ?_
  refine c_seq ?_
  obtain ⟨y53, hx54, hk⟩ := bindE hk
  obtain ⟨J55, hJ55⟩ : ∃ J : Act → World → Prop, ∀ a w, J a w ↔ (∃ (x52 : Bool), role_Newer_r2 x52 = some r ∧ Sees a 21 [(4, .bool x52)] ∧ St g w [F] ih) := ⟨_, fun _ _ => Iff.rfl⟩
  refine c_regJ J55 ?_ ?_
  · refine s_load hs (hw.at_ 0 rfl) 0 (by kernel_rfl) (by kernel_rfl) (v := .agg #[vi64 x5.f0, vu64 x5.f1, .slice p6 x5.f2.length c7, .bool x5.f3, vi64 x5.f4]) (by kernel_rfl) fun a hs => ?_
    obtain ⟨y56, h57, hx54⟩ := bindE hx54
    refine s_call hs (by kernel_rfl) (by kernel_rfl) (conf_Right_s h57 h8 ((hw.pick [0, 1, 2] (by kernel_rfl)).pack 0)) fun a w v hv hs => ?_
    obtain ⟨rfl, hw⟩ := hv
    replace hw := hw.unpack 0 rfl
    refine pures hs 1 [2, 3, 7] [(2, (pt b40 0)), (3, (pt b42 0)), (7, .bool y56)] (by kernel_rfl) fun a hs => ?_
    rcases ifbE hx54 with ⟨h58, hx54⟩ | ⟨h58, hx54⟩
    · replace hs := hs.altB 7 true (by kernel_rfl) h58
      refine pures hs 1 [2, 3, 7, 8] [(2, (pt b40 0)), (3, (pt b42 0)), (7, .bool true), (8, (pt b40 0))] (by kernel_rfl) fun a hs => ?_
      refine s_load hs (hw.at_ 1 rfl) 0 (by kernel_rfl) (by kernel_rfl) (v := vi64 x1.f0) (by kernel_rfl) fun a hs => ?_
      refine pures hs 1 [2, 3, 7, 9, 10] [(2, (pt b40 0)), (3, (pt b42 0)), (7, .bool true), (9, vi64 x1.f0), (10, (pt b42 0))] (by kernel_rfl) fun a hs => ?_
      refine s_load hs (hw.at_ 0 rfl) 0 (by kernel_rfl) (by kernel_rfl) (v := vi64 x5.f0) (by kernel_rfl) fun a hs => ?_
      refine pures hs 3 [2, 3, 14] [(2, (pt b40 0)), (3, (pt b42 0)), (14, .bool (x1.f0 == x5.f0))] (by kernel_rfl) fun a hs => ?_
      rcases ifbE hx54 with ⟨h59, hx54⟩ | ⟨h59, hx54⟩
      · replace hs := hs.altB 14 true (by kernel_rfl) h59
        refine pures hs 1 [3, 14, 15] [(3, (pt b42 0)), (14, .bool true), (15, (pt b40 1))] (by kernel_rfl) fun a hs => ?_
        refine s_load hs (hw.at_ 1 rfl) 1 (by kernel_rfl) (by kernel_rfl) (v := vu64 x1.f1) (by kernel_rfl) fun a hs => ?_
        refine pures hs 1 [14, 16, 17] [(14, .bool true), (16, vu64 x1.f1), (17, (pt b42 1))] (by kernel_rfl) fun a hs => ?_
        refine s_load hs (hw.at_ 0 rfl) 1 (by kernel_rfl) (by kernel_rfl) (v := vu64 x5.f1) (by kernel_rfl) fun a hs => ?_
        refine pures hs 3 [4] [(4, .bool (decide (x1.f1 < x5.f1)))] (by kernel_rfl) fun a hs => ?_
        refine s_end ?_
        obtain rfl := someE hx54
        exact (hJ55 _ _).2 ⟨(decide (x1.f1 < x5.f1)), hk, hs.cast [4] (by kernel_rfl), hw.pick [2] (by kernel_rfl)⟩
      replace hs := hs.altB 14 false (by kernel_rfl) h59
      refine pures hs 7 [4] [(4, .bool false)] (by kernel_rfl) fun a hs => ?_
      refine s_end ?_
      obtain rfl := someE hx54
      exact (hJ55 _ _).2 ⟨false, hk, hs.cast [4] (by kernel_rfl), hw.pick [2] (by kernel_rfl)⟩
    replace hs := hs.altB 7 false (by kernel_rfl) h58
    refine pures hs 14 [4] [(4, .bool false)] (by kernel_rfl) fun a hs => ?_
    refine s_end ?_
    obtain rfl := someE hx54
    exact (hJ55 _ _).2 ⟨false, hk, hs.cast [4] (by kernel_rfl), hw.pick [2] (by kernel_rfl)⟩
  intro a w hh
  obtain ⟨x52, hk, hs, hw⟩ := (hJ55 _ _).1 hh
  refine c_ret ?_
  obtain rfl := someE hk
  refine hQ _ _ (f_ret1 hs rfl (v := .bool x52) (by kernel_rfl) ⟨rfl, hw.pick [0] (by kernel_rfl)⟩)
def atlas_Atlas_Learn_r3 (x276 : List M44) : Option (Bool × (List M44)) :=
  some (true, x276)
def atlas_Atlas_Learn_r4 (k : Nat) (x3 : List M44) (x11 : M44) (x209 : Bool) : Option (Bool × (List M44)) :=
  if x209 = true then some (false, x3)
  else ((conf_Copy k ([x11])).bind fun y287 =>
    (ix y287 0).bind fun x296 =>
    (ix x3 x11.f0).bind fun x304 =>
    some (x3.set x11.f0.toNat x296) : Option (List M44)).bind fun s316 => atlas_Atlas_Learn_r3 s316
def atlas_Atlas_Learn (k : Nat) (x3 : List M44) (x11 : M44) : Option (Bool × (List M44)) :=
  (if (decide (x11.f0 < 0)) = true then some true
    else (atlas_Atlas_Chains x3).bind fun y321 =>
    if (decide (x11.f0 ≥ y321)) = true then some true
    else (ix x3 x11.f0).bind fun x324 =>
    (role_Newer k x324 x11).bind fun y332 =>
    some (!y332) : Option Bool).bind fun s334 => atlas_Atlas_Learn_r4 k x3 x11 s334
theorem atlas_Atlas_Learn_s {k : Nat} {x3 : List M44} {x9 : Value} {x11 : M44} {b2 : Nat} {p4 : Option Addr} {c5 : Nat} {d7 : Ch} {p12 : Option Addr} {c13 : Nat} {r : Bool × (List M44)} (hk : atlas_Atlas_Learn k x3 x11 = some r) {g w : World} {F : Ch} {ih : IH} (h6 : OSl e44 ih p4 c5 x3 d7) (h10 : x9.oneCell' = true) (h14 : RSl e3 ih [] p12 c13 x11.f2) (hw : St g w [bx b2 [.slice p4 x3.length c5, x9] 113, d7, F] ih) :
    CallsR Tryz.prog 35 #[(pt b2 0), .agg #[vi64 x11.f0, vu64 x11.f1, .slice p12 x11.f2.length c13, .bool x11.f3, vi64 x11.f4]] w fun v w' => ∃ (ih' : IH) (p335 : Option Addr) (c336 : Nat) (d337 : Ch), v = .bool r.1 ∧ St g w' [bx b2 [.slice p335 r.2.length c336, x9] 113, d337, F] ih' ∧ Le ih ih' ∧ OSl e44 ih' p335 c336 r.2 d337 := by
  refine f_in (vs := [(pt b2 0), .agg #[vi64 x11.f0, vu64 x11.f1, .slice p12 x11.f2.length c13, .bool x11.f3, vi64 x11.f4]]) Tryz.func35 rfl 40 rfl (by kernel_rfl) [(0, (pt b2 0)), (1, .agg #[vi64 x11.f0, vu64 x11.f1, .slice p12 x11.f2.length c13, .bool x11.f3, vi64 x11.f4])] (by kernel_rfl) fun a Qf hQ hQn hs => ?_
  refine c_seq ?_
  refine c_region ?_
  refine s_new hs hw [vi64 x11.f0, vu64 x11.f1, .slice p12 x11.f2.length c13, .bool x11.f3, vi64 x11.f4] 44 (fun b => (pt b 0)) (by kernel_rfl) (fun _ => by kernel_rfl) fun a w b178 hs hw => ?_
  refine pures hs 1 [0, 3] [(0, (pt b2 0)), (3, (pt b178 0))] (by kernel_rfl) fun a hs => ?_
  refine s_end ?_
  refine c_seq ?_
  refine c_seq ?_
  obtain ⟨S180, hS180, kS180⟩ := mkSX (X := [([], bx b178 [vi64 x11.f0, vu64 x11.f1, .slice p12 x11.f2.length c13, .bool x11.f3, vi64 x11.f4] 44), ([], bx b2 [.slice p4 x3.length c5, x9] 113), ([], d7), ([], F)]) (ih := ih) (K := []) rfl
  obtain ⟨y317, hx318, hk⟩ := bindE hk
  obtain ⟨J319, hJ319⟩ : ∃ J : Act → World → Prop, ∀ a w, J a w ↔ (∃ (x209 : Bool), atlas_Atlas_Learn_r4 k x3 x11 x209 = some r ∧ Sees a 40 [(0, (pt b2 0)), (3, (pt b178 0)), (27, .bool x209)] ∧ St g w [bx b178 [vi64 x11.f0, vu64 x11.f1, .slice p12 x11.f2.length c13, .bool x11.f3, vi64 x11.f4] 44, bx b2 [.slice p4 x3.length c5, x9] 113, d7, F] ih) := ⟨_, fun _ _ => Iff.rfl⟩
  refine c_draw (by kernel_rfl) (N := 23) rfl S180 J319 ?_ ?_
  · have hw := hw.drew
    have hS : S180 (Array.replicate 23 false) _ := SX_now hS180 (hw.vws [0, 1, 2, 3]) (by kernel_rfl)
    refine d_pures (fuel := 22) kS180 hs hS [0] [0, 3, 5] [(0, (pt b2 0)), (3, (pt b178 0)), (5, (pt b178 0))] (by kernel_rfl) fun a hs hS => ?_
    refine d_load (fuel := 21) kS180 hs hS 1 rfl (by kernel_rfl) (SX_box hS180 0 rfl (by kernel_rfl)) 0 (by kernel_rfl) (by kernel_rfl) (v := vi64 x11.f0) (by kernel_rfl) fun a hs hS => ?_
    refine d_pures (fuel := 19) kS180 hs hS [2, 3] [0, 3, 8] [(0, (pt b2 0)), (3, (pt b178 0)), (8, .bool (decide (x11.f0 < 0)))] (by kernel_rfl) fun a hs hS => ?_
    rcases ifbE hx318 with ⟨h320, hx318⟩ | ⟨h320, hx318⟩
    · replace hs := hs.altB 8 true (by kernel_rfl) h320
      refine d_pures (fuel := 0) kS180 hs hS [4, 5, 6, 7, 8, 9, 10, 11, 12, 13, 14, 15, 16, 17, 18, 19, 20, 21, 22] [0, 3, 27] [(0, (pt b2 0)), (3, (pt b178 0)), (27, .bool true)] (by kernel_rfl) fun a hs hS => ?_
      refine d_done (by kernel_rfl) ?_
      obtain rfl := someE hx318
      exact (hJ319 _ _).2 ⟨true, hk, hs.cast [0, 3, 27] (by kernel_rfl), hw.pick [0, 1, 2, 3] (by kernel_rfl)⟩
    replace hs := hs.altB 8 false (by kernel_rfl) h320
    refine d_pures (fuel := 18) kS180 hs hS [4] [0, 3, 8, 9] [(0, (pt b2 0)), (3, (pt b178 0)), (8, .bool false), (9, (pt b178 0))] (by kernel_rfl) fun a hs hS => ?_
    refine d_load (fuel := 17) kS180 hs hS 5 rfl (by kernel_rfl) (SX_box hS180 0 rfl (by kernel_rfl)) 0 (by kernel_rfl) (by kernel_rfl) (v := vi64 x11.f0) (by kernel_rfl) fun a hs hS => ?_
    refine d_pures (fuel := 16) kS180 hs hS [6] [0, 3, 8, 10, 11] [(0, (pt b2 0)), (3, (pt b178 0)), (8, .bool false), (10, vi64 x11.f0), (11, (pt b2 0))] (by kernel_rfl) fun a hs hS => ?_
    refine d_all (fuel := 15) (rs := [7]) (by kernel_rfl) (by simp) (all1 ?_)
    obtain ⟨y321, h322, hx318⟩ := bindE hx318
    refine o_call hs rfl (by kernel_rfl) (by kernel_rfl) (atlas_Atlas_Chains_s (x9 := (x9)) h322 h6 h10 ((hw.pick [1, 2, 0, 3] (by kernel_rfl)).pack 2)) fun a w v hv hs => ?_
    obtain ⟨rfl, hw⟩ := hv
    replace hw := hw.unpack 2 rfl
    refine dg_next (SX_now hS180 ((hw.vws [2, 0, 1, 3]).anti (Le.refl _)) (by kernel_rfl)) fun hS => ?_
    refine d_pures (fuel := 12) kS180 hs hS [8, 9, 10] [0, 3, 15] [(0, (pt b2 0)), (3, (pt b178 0)), (15, .bool (decide (x11.f0 ≥ y321)))] (by kernel_rfl) fun a hs hS => ?_
    rcases ifbE hx318 with ⟨h323, hx318⟩ | ⟨h323, hx318⟩
    · replace hs := hs.altB 15 true (by kernel_rfl) h323
      refine d_pures (fuel := 0) kS180 hs hS [11, 12, 13, 14, 15, 16, 17, 18, 19, 20, 21, 22] [0, 3, 27] [(0, (pt b2 0)), (3, (pt b178 0)), (27, .bool true)] (by kernel_rfl) fun a hs hS => ?_
      refine d_done (by kernel_rfl) ?_
      obtain rfl := someE hx318
      exact (hJ319 _ _).2 ⟨true, hk, hs.cast [0, 3, 27] (by kernel_rfl), hw.pick [2, 0, 1, 3] (by kernel_rfl)⟩
    replace hs := hs.altB 15 false (by kernel_rfl) h323
    refine d_pures (fuel := 9) kS180 hs hS [11, 12, 13] [0, 3, 15, 18] [(0, (pt b2 0)), (3, (pt b178 0)), (15, .bool false), (18, (pt b2 0))] (by kernel_rfl) fun a hs hS => ?_
    refine d_load (fuel := 8) kS180 hs hS 14 rfl (by kernel_rfl) (SX_box hS180 1 rfl (by kernel_rfl)) 0 (by kernel_rfl) (by kernel_rfl) (v := .slice p4 x3.length c5) (by kernel_rfl) fun a hs hS => ?_
    refine d_pures (fuel := 7) kS180 hs hS [15] [0, 3, 15, 19, 20] [(0, (pt b2 0)), (3, (pt b178 0)), (15, .bool false), (19, .slice p4 x3.length c5), (20, (pt b178 0))] (by kernel_rfl) fun a hs hS => ?_
    refine d_load (fuel := 6) kS180 hs hS 16 rfl (by kernel_rfl) (SX_box hS180 0 rfl (by kernel_rfl)) 0 (by kernel_rfl) (by kernel_rfl) (v := vi64 x11.f0) (by kernel_rfl) fun a hs hS => ?_
    obtain ⟨x324, h325, hx318⟩ := bindE hx318
    refine d_indexO (fuel := 5) kS180 hs hS 17 rfl (by kernel_rfl) h6 (by kernel_rfl) (by kernel_rfl) (k := .i64) (by kernel_rfl) 44 (by kernel_rfl) (by kernel_rfl) h325 fun a r326 cs henc at327 h331 hs hS => ?_
    obtain ⟨p328, c329, rfl, h330⟩ := henc
    refine d_load (fuel := 4) kS180 hs hS 18 rfl (by kernel_rfl) (fun l w hu hS => at327 w ((SX_ch hS180 2 rfl (by kernel_rfl) l w hu hS).anti (Le.refl _))) 0 (by kernel_rfl) (by kernel_rfl) (v := .agg #[vi64 x324.f0, vu64 x324.f1, .slice p328 x324.f2.length c329, .bool x324.f3, vi64 x324.f4]) (by kernel_rfl) fun a hs hS => ?_
    refine d_load (fuel := 3) kS180 hs hS 19 rfl (by kernel_rfl) (SX_box hS180 0 rfl (by kernel_rfl)) 0 (by kernel_rfl) (by kernel_rfl) (v := .agg #[vi64 x11.f0, vu64 x11.f1, .slice p12 x11.f2.length c13, .bool x11.f3, vi64 x11.f4]) (by kernel_rfl) fun a hs hS => ?_
    refine d_all (fuel := 2) (rs := [20]) (by kernel_rfl) (by simp) (all1 ?_)
    obtain ⟨y332, h333, hx318⟩ := bindE hx318
    refine o_call hs rfl (by kernel_rfl) (by kernel_rfl) (role_Newer_s h333 h330 h14 ((hw.pick [0, 1, 2, 3] (by kernel_rfl)).pack 0)) fun a w v hv hs => ?_
    obtain ⟨rfl, hw⟩ := hv
    replace hw := hw.unpack 0 rfl
    refine dg_next (SX_now hS180 ((hw.vws [2, 0, 1, 3]).anti (Le.refl _)) (by kernel_rfl)) fun hS => ?_
    refine d_pures (fuel := 0) kS180 hs hS [21, 22] [0, 3, 27] [(0, (pt b2 0)), (3, (pt b178 0)), (27, .bool (!y332))] (by kernel_rfl) fun a hs hS => ?_
    refine d_done (by kernel_rfl) ?_
    obtain rfl := someE hx318
    exact (hJ319 _ _).2 ⟨(!y332), hk, hs.cast [0, 3, 27] (by kernel_rfl), hw.pick [2, 0, 1, 3] (by kernel_rfl)⟩
  intro a w hh
  obtain ⟨x209, hk, hs, hw⟩ := (hJ319 _ _).1 hh
  rcases ifbE hk with ⟨h210, hk⟩ | ⟨h210, hk⟩
  · refine c_cond1 hs (by kernel_rfl) (t := x209) (by kernel_rfl) h210 ?_
    refine c_seq ?_
    refine c_region ?_
    refine pures hs 1 [4] [(4, .bool false)] (by kernel_rfl) fun a hs => ?_
    refine s_end ?_
    refine c_ret ?_
    obtain rfl := someE hk
    refine hQ _ _ (f_ret1 hs rfl (v := .bool false) (by kernel_rfl) ⟨ih, p4, c5, d7, rfl, hw.pick [1, 2, 3] (by kernel_rfl), (Le.refl _), h6⟩)
  refine c_cond0 hs (by kernel_rfl) (t := x209) (by kernel_rfl) h210 ?_
  refine c_skip ?_
  refine c_seq ?_
  obtain ⟨S211, hS211, kS211⟩ := mkSX (X := [([], bx b178 [vi64 x11.f0, vu64 x11.f1, .slice p12 x11.f2.length c13, .bool x11.f3, vi64 x11.f4] 44), ([12], bx b2 [.slice p4 x3.length c5, x9] 113), ([12], d7), ([], F)]) (ih := ih) (K := [12, 12]) rfl
  obtain ⟨y282, hx283, hk⟩ := bindE hk
  obtain ⟨J284, hJ284⟩ : ∃ J : Act → World → Prop, ∀ a w, J a w ↔ (∃ (x276 : List M44) (p277 : Option Addr) (c278 : Nat) (d280 : Ch) (ih274 : IH), atlas_Atlas_Learn_r3 x276 = some r ∧ Sees a 40 [] ∧ St g w [bx b2 [.slice p277 x276.length c278, x9] 113, d280, F] ih274 ∧ Le ih ih274 ∧ OSl e44 ih274 p277 c278 x276 d280) := ⟨_, fun _ _ => Iff.rfl⟩
  refine c_draw (by kernel_rfl) (N := 13) rfl S211 J284 ?_ ?_
  · have hw := hw.drew
    have hS : S211 (Array.replicate 13 false) _ := SX_now hS211 (hw.vws [0, 1, 2, 3]) (by kernel_rfl)
    refine d_pures (fuel := 10) kS211 hs hS [0, 1, 2] [3, 30] [(3, (pt b178 0)), (30, (pt b2 0))] (by kernel_rfl) fun a hs hS => ?_
    refine d_load (fuel := 9) kS211 hs hS 3 rfl (by kernel_rfl) (SX_box hS211 1 rfl (by kernel_rfl)) 0 (by kernel_rfl) (by kernel_rfl) (v := .slice p4 x3.length c5) (by kernel_rfl) fun a hs hS => ?_
    refine d_pures (fuel := 8) kS211 hs hS [4] [3, 31, 32] [(3, (pt b178 0)), (31, .slice p4 x3.length c5), (32, (pt b178 0))] (by kernel_rfl) fun a hs hS => ?_
    refine d_load (fuel := 7) kS211 hs hS 5 rfl (by kernel_rfl) (SX_box hS211 0 rfl (by kernel_rfl)) 0 (by kernel_rfl) (by kernel_rfl) (v := vi64 x11.f0) (by kernel_rfl) fun a hs hS => ?_
    refine d_load (fuel := 6) kS211 hs hS 6 rfl (by kernel_rfl) (SX_box hS211 0 rfl (by kernel_rfl)) 0 (by kernel_rfl) (by kernel_rfl) (v := .agg #[vi64 x11.f0, vu64 x11.f1, .slice p12 x11.f2.length c13, .bool x11.f3, vi64 x11.f4]) (by kernel_rfl) fun a hs hS => ?_
    refine d_all (fuel := 5) (rs := [7]) (by kernel_rfl) (by simp) (all1 ?_)
    refine o_new hs rfl hw [vi64 x11.f0, vu64 x11.f1, .slice p12 x11.f2.length c13, .bool x11.f3, vi64 x11.f4] 44 (fun b => .slice (some ⟨b, 0, none⟩) 1 1) (by kernel_rfl) (fun _ => by kernel_rfl) fun a w b285 hs hw => ?_
    refine dg_next (SX_now hS211 ((hw.vws [1, 2, 3, 4]).anti (Le.refl _)) (by kernel_rfl)) fun hS => ?_
    refine d_all (fuel := 4) (rs := [8]) (by kernel_rfl) (by simp) (all1 ?_)
    obtain ⟨y287, h288, hx283⟩ := bindE hx283
    refine o_call hs rfl (by kernel_rfl) (by kernel_rfl) (conf_Copy_s h288 ((OSl.of1 (E := e44) (z := x11) ⟨p12, c13, rfl, h14⟩ (by simp [maxLen])).read) (memF 0 rfl) ((hw.pick [0, 1, 2, 3, 4] (by kernel_rfl)).pack 0)) fun a w v hv hs => ?_
    obtain ⟨ih289, p291, c292, d294, rfl, hw, hle290, h293⟩ := hv
    replace hw := hw.unpack 1 rfl
    refine dg_next (SX_now hS211 ((hw.vws [2, 3, 4, 5]).anti hle290) (by kernel_rfl)) fun hS => ?_
    obtain ⟨x296, h297, hx283⟩ := bindE hx283
    refine d_indexO (fuel := 3) kS211 hs hS 9 rfl (by kernel_rfl) h293 (by kernel_rfl) (by kernel_rfl) (k := .i64) (by kernel_rfl) 44 (by kernel_rfl) (by kernel_rfl) h297 fun a r298 cs henc at299 h303 hs hS => ?_
    obtain ⟨p300, c301, rfl, h302⟩ := henc
    refine d_all (fuel := 2) (rs := [10]) (by kernel_rfl) (by simp) (all1 ?_)
    refine o_load hs rfl (at299 _ ((hw.vw 0 rfl).anti (Le.refl _))) 0 (by kernel_rfl) (by kernel_rfl) (v := .agg #[vi64 x296.f0, vu64 x296.f1, .slice p300 x296.f2.length c301, .bool x296.f3, vi64 x296.f4]) (by kernel_rfl) fun a hs => ?_
    refine dg_next (SX_now hS211 ((hw.vws [2, 3, 4, 5]).anti hle290) (by kernel_rfl)) fun hS => ?_
    obtain ⟨x304, h305, hx283⟩ := bindE hx283
    refine d_indexO (fuel := 1) kS211 hs hS 11 rfl (by kernel_rfl) h6 (by kernel_rfl) (by kernel_rfl) (k := .i64) (by kernel_rfl) 44 (by kernel_rfl) (by kernel_rfl) h305 fun a r306 cs henc at307 h311 hs hS => ?_
    obtain ⟨p308, c309, rfl, h310⟩ := henc
    refine d_all (fuel := 0) (rs := [12]) (by kernel_rfl) (by simp) (all1 ?_)
    refine o_storeE hs hw 4 rfl (h6.mono hle290) h311 x296 h305 0 rfl (by kernel_rfl) (by kernel_rfl) (v := .agg #[vi64 x296.f0, vu64 x296.f1, .slice p300 x296.f2.length c301, .bool x296.f3, vi64 x296.f4]) (by kernel_rfl) (by kernel_rfl) (by kernel_rfl) (by kernel_rfl) ⟨p308, c309, rfl, (h310.mono hle290)⟩ (fun w hv => at307 w (hv.anti hle290)) ⟨p300, c301, rfl, h302⟩ fun a w d312 h313 hw hs => ?_
    have h315 : x3.length = (x3.set x11.f0.toNat x296).length := List.length_set.symm
    try rw [h315] at hs
    try rw [h315] at hw
    refine dg_next (SX_now hS211 ((hw.vws [2, 5]).anti hle290) (by kernel_rfl)) fun hS => ?_
    refine d_done (by kernel_rfl) ?_
    obtain rfl := someE hx283
    exact (hJ284 _ _).2 ⟨(x3.set x11.f0.toNat x296), p4, c5, d312, ih289, hk, hs.cast [] (by kernel_rfl), hw.pick [3, 4, 5] (by kernel_rfl), hle290, h313⟩
  intro a w hh
  obtain ⟨x276, p277, c278, d280, ih274, hk, hs, hw, hle275, h279⟩ := (hJ284 _ _).1 hh
  refine c_seq ?_
  refine c_region ?_
  refine pures hs 1 [4] [(4, .bool true)] (by kernel_rfl) fun a hs => ?_
  refine s_end ?_
  refine c_ret ?_
  obtain rfl := someE hk
  refine hQ _ _ (f_ret1 hs rfl (v := .bool true) (by kernel_rfl) ⟨ih274, p277, c278, d280, rfl, hw.pick [0, 1, 2] (by kernel_rfl), hle275, h279⟩)
def sync_atomic_Bool_Load_2 : Option Unit :=
  some ()
theorem sync_atomic_Bool_Load_2_s {x3 : List Int} {b2 : Nat} {p4 : Option Addr} {c5 : Nat} {d7 : Ch} {r : Unit} (hk : sync_atomic_Bool_Load_2 = some r) {g w : World} {F : Ch} {ih : IH} (h6 : OSl e5 ih p4 c5 x3 d7) (hw : St g w [bx b2 [vu32 0, vi32 0, vu32 0, vu32 0, vi64 0, vu64 0, .slice p4 x3.length c5] 126, d7, F] ih) :
    CallsR Tryz.prog 56 #[(pt b2 0)] w fun v w' => v = .bool false ∧ St g w' [bx b2 [vu32 0, vi32 0, vu32 0, vu32 0, vi64 0, vu64 0, .slice p4 x3.length c5] 126, d7, F] ih := by
  refine f_in (vs := [(pt b2 0)]) Tryz.func56 rfl 8 rfl (by kernel_rfl) [(0, (pt b2 0))] (by kernel_rfl) fun a Qf hQ hQn hs => ?_
  refine c_seq ?_
  refine c_region ?_
  refine pures hs 1 [0] [(0, (pt b2 0))] (by kernel_rfl) fun a hs => ?_
  refine s_end ?_
  refine c_seq ?_
  refine c_region ?_
  refine pures hs 3 [5] [(5, (pt b2 0))] (by kernel_rfl) fun a hs => ?_
  refine s_ext0 hs (by kernel_rfl) (exec_aload hw Tryz.func87 (by kernel_rfl) (by kernel_rfl) (by kernel_rfl) .u32 (by kernel_rfl) 0 rfl 0 (x := 0) (by kernel_rfl) (by kernel_rfl)) fun a hs => ?_
  refine pures hs 2 [2] [(2, .bool false)] (by kernel_rfl) fun a hs => ?_
  refine s_end ?_
  refine c_ret ?_
  obtain rfl := someE hk
  refine hQ _ _ (f_ret1 hs rfl (v := .bool false) (by kernel_rfl) ⟨rfl, hw.pick [0, 1, 2] (by kernel_rfl)⟩)
def internal_sync_Mutex_Lock : Option Unit :=
  some ()
theorem internal_sync_Mutex_Lock_s {x3 : List Int} {b2 : Nat} {p4 : Option Addr} {c5 : Nat} {d7 : Ch} {r : Unit} (hk : internal_sync_Mutex_Lock = some r) {g w : World} {F : Ch} {ih : IH} (h6 : OSl e5 ih p4 c5 x3 d7) (hw : St g w [bx b2 [vu32 0, vi32 0, vu32 0, vu32 0, vi64 0, vu64 0, .slice p4 x3.length c5] 126, d7, F] ih) :
    CallsR Tryz.prog 209 #[(pt b2 1)] w fun v w' => v = .tuple #[] ∧ St g w' [bx b2 [vu32 0, vi32 1, vu32 0, vu32 0, vi64 0, vu64 0, .slice p4 x3.length c5] 126, d7, F] ih := by
  refine f_in (vs := [(pt b2 1)]) Tryz.func209 rfl 13 rfl (by kernel_rfl) [(0, (pt b2 1))] (by kernel_rfl) fun a Qf hQ hQn hs => ?_
  refine c_seq ?_
  refine c_region ?_
  refine s_ext0 hs (by kernel_rfl) (exec_mark0 Tryz.func217 (by kernel_rfl) (by kernel_rfl) (by kernel_rfl) .disable (by kernel_rfl) (by kernel_rfl)) fun a hs => ?_
  refine s_end ?_
  refine c_seq ?_
  refine c_seq ?_
  refine c_region ?_
  refine pures hs 3 [0, 5] [(0, (pt b2 1)), (5, (pt b2 1))] (by kernel_rfl) fun a hs => ?_
  refine s_ext1 hs (by kernel_rfl) (exec_acas hw Tryz.func218 (by kernel_rfl) (by kernel_rfl) (by kernel_rfl) .i32 (by kernel_rfl) 0 rfl 1 (x := 0) (by kernel_rfl) 1 (by kernel_rfl)) fun a w hs hw => ?_
  refine s_end ?_
  refine c_condT hs (by kernel_rfl) (by kernel_rfl) ?_
  refine c_seq ?_
  refine c_condT hs (by kernel_rfl) (by kernel_rfl) ?_
  refine c_seq ?_
  refine c_region ?_
  refine s_ext0 hs (by kernel_rfl) (exec_mark0 Tryz.func219 (by kernel_rfl) (by kernel_rfl) (by kernel_rfl) .enable (by kernel_rfl) (by kernel_rfl)) fun a hs => ?_
  refine s_end ?_
  refine c_region ?_
  refine pures hs 1 [8] [(8, (pt b2 1))] (by kernel_rfl) fun a hs => ?_
  refine s_ext0 hs (by kernel_rfl) (exec_convU hw (t := 120) (by kernel_rfl) (by kernel_rfl) (by kernel_rfl) 0 rfl 1 (v := vi32 1) (by kernel_rfl) (by kernel_rfl)) fun a hs => ?_
  refine s_ext0 hs (by kernel_rfl) (exec_mark1 Tryz.func220 (by kernel_rfl) (by kernel_rfl) (by kernel_rfl) .acquire (by kernel_rfl) (q := ⟨b2, 1, none⟩) (by kernel_rfl)) fun a hs => ?_
  refine s_end ?_
  refine c_ret ?_
  obtain rfl := someE hk
  refine hQ _ _ (f_retN hs [] rfl [] (by kernel_rfl) (by kernel_rfl) ⟨rfl, hw.pick [0, 1, 2] (by kernel_rfl)⟩)
def sync_Mutex_Lock : Option Unit :=
  some ()
theorem sync_Mutex_Lock_s {x3 : List Int} {b2 : Nat} {p4 : Option Addr} {c5 : Nat} {d7 : Ch} {r : Unit} (hk : sync_Mutex_Lock = some r) {g w : World} {F : Ch} {ih : IH} (h6 : OSl e5 ih p4 c5 x3 d7) (hw : St g w [bx b2 [vu32 0, vi32 0, vu32 0, vu32 0, vi64 0, vu64 0, .slice p4 x3.length c5] 126, d7, F] ih) :
    CallsR Tryz.prog 186 #[(pt b2 1)] w fun v w' => v = .tuple #[] ∧ St g w' [bx b2 [vu32 0, vi32 1, vu32 0, vu32 0, vi64 0, vu64 0, .slice p4 x3.length c5] 126, d7, F] ih := by
  refine f_in (vs := [(pt b2 1)]) Tryz.func186 rfl 6 rfl (by kernel_rfl) [(0, (pt b2 1))] (by kernel_rfl) fun a Qf hQ hQn hs => ?_
  refine c_region ?_
  refine pures hs 3 [4] [(4, (pt b2 1))] (by kernel_rfl) fun a hs => ?_
  have h18 : internal_sync_Mutex_Lock = some () := rfl
  refine s_call hs (by kernel_rfl) (by kernel_rfl) (internal_sync_Mutex_Lock_s (x3 := x3) h18 h6 ((hw.pick [0, 1, 2] (by kernel_rfl)).pack 2)) fun a w v hv hs => ?_
  obtain ⟨rfl, hw⟩ := hv
  replace hw := hw.unpack 2 rfl
  refine s_end ?_
  obtain rfl := someE hk
  refine hQn _ _ (f_retN hs [] rfl [] (by kernel_rfl) (by kernel_rfl) ⟨rfl, hw.pick [0, 1, 2] (by kernel_rfl)⟩)
def sync_atomic_Bool_Load_3 : Option Unit :=
  some ()
theorem sync_atomic_Bool_Load_3_s {x3 : List Int} {b2 : Nat} {p4 : Option Addr} {c5 : Nat} {d7 : Ch} {r : Unit} (hk : sync_atomic_Bool_Load_3 = some r) {g w : World} {F : Ch} {ih : IH} (h6 : OSl e5 ih p4 c5 x3 d7) (hw : St g w [bx b2 [vu32 0, vi32 1, vu32 0, vu32 0, vi64 0, vu64 0, .slice p4 x3.length c5] 126, d7, F] ih) :
    CallsR Tryz.prog 56 #[(pt b2 0)] w fun v w' => v = .bool false ∧ St g w' [bx b2 [vu32 0, vi32 1, vu32 0, vu32 0, vi64 0, vu64 0, .slice p4 x3.length c5] 126, d7, F] ih := by
  refine f_in (vs := [(pt b2 0)]) Tryz.func56 rfl 8 rfl (by kernel_rfl) [(0, (pt b2 0))] (by kernel_rfl) fun a Qf hQ hQn hs => ?_
  refine c_seq ?_
  refine c_region ?_
  refine pures hs 1 [0] [(0, (pt b2 0))] (by kernel_rfl) fun a hs => ?_
  refine s_end ?_
  refine c_seq ?_
  refine c_region ?_
  refine pures hs 3 [5] [(5, (pt b2 0))] (by kernel_rfl) fun a hs => ?_
  refine s_ext0 hs (by kernel_rfl) (exec_aload hw Tryz.func87 (by kernel_rfl) (by kernel_rfl) (by kernel_rfl) .u32 (by kernel_rfl) 0 rfl 0 (x := 0) (by kernel_rfl) (by kernel_rfl)) fun a hs => ?_
  refine pures hs 2 [2] [(2, .bool false)] (by kernel_rfl) fun a hs => ?_
  refine s_end ?_
  refine c_ret ?_
  obtain rfl := someE hk
  refine hQ _ _ (f_ret1 hs rfl (v := .bool false) (by kernel_rfl) ⟨rfl, hw.pick [0, 1, 2] (by kernel_rfl)⟩)
def sync_atomic_b32 : Option Unit :=
  some ()
theorem sync_atomic_b32_s {r : Unit} (hk : sync_atomic_b32 = some r) {g w : World} {F : Ch} {ih : IH} (hw : St g w [F] ih) :
    CallsR Tryz.prog 148 #[.bool true] w fun v w' => v = vu32 1 ∧ St g w' [F] ih := by
  refine f_in (vs := [.bool true]) Tryz.func148 rfl 4 rfl (by kernel_rfl) [(0, .bool true)] (by kernel_rfl) fun a Qf hQ hQn hs => ?_
  refine c_seq ?_
  refine c_region ?_
  refine pures hs 1 [0] [(0, .bool true)] (by kernel_rfl) fun a hs => ?_
  refine s_end ?_
  refine c_seq ?_
  refine c_seq ?_
  refine c_region ?_
  refine pures hs 1 [3] [(3, .bool true)] (by kernel_rfl) fun a hs => ?_
  refine s_end ?_
  refine c_condT hs (by kernel_rfl) (by kernel_rfl) ?_
  refine c_seq ?_
  refine c_region ?_
  refine pures hs 1 [2] [(2, vu32 1)] (by kernel_rfl) fun a hs => ?_
  refine s_end ?_
  refine c_ret ?_
  obtain rfl := someE hk
  refine hQ _ _ (f_ret1 hs rfl (v := vu32 1) (by kernel_rfl) ⟨rfl, hw.pick [0] (by kernel_rfl)⟩)
def sync_atomic_Bool_Store_r2 : Option Unit :=
  some ()
def sync_atomic_Bool_Store : Option Unit :=
  sync_atomic_Bool_Store_r2
theorem sync_atomic_Bool_Store_s {x3 : Int} {x4 : Int} {x5 : List Int} {b2 : Nat} {p6 : Option Addr} {c7 : Nat} {r : Unit} (hk : sync_atomic_Bool_Store = some r) {g w : World} {F : Ch} {ih : IH} (h8 : RSl e5 ih [] p6 c7 x5) (hw : St g w [bx b2 [vu32 0, vi32 1, vu32 0, vu32 0, vi64 x3, vu64 x4, .slice p6 x5.length c7] 126, F] ih) :
    CallsR Tryz.prog 113 #[(pt b2 3), .bool true] w fun v w' => v = .tuple #[] ∧ St g w' [bx b2 [vu32 0, vi32 1, vu32 0, vu32 1, vi64 x3, vu64 x4, .slice p6 x5.length c7] 126, F] ih := by
  refine f_in (vs := [(pt b2 3), .bool true]) Tryz.func113 rfl 10 rfl (by kernel_rfl) [(0, (pt b2 3)), (1, .bool true)] (by kernel_rfl) fun a Qf hQ hQn hs => ?_
  obtain ⟨S21, hS21, kS21⟩ := mkSX (X := [([5], bx b2 [vu32 0, vi32 1, vu32 0, vu32 0, vi64 x3, vu64 x4, .slice p6 x5.length c7] 126), ([], F)]) (ih := ih) (K := [5]) rfl
  obtain ⟨y26, hx27⟩ : ∃ y, (some () : Option Unit) = some y := ⟨_, rfl⟩
  obtain ⟨J28, hJ28⟩ : ∃ J : Act → World → Prop, ∀ a w, J a w ↔ (sync_atomic_Bool_Store_r2 = some r ∧ Sees a 10 [] ∧ St g w [bx b2 [vu32 0, vi32 1, vu32 0, vu32 1, vi64 x3, vu64 x4, .slice p6 x5.length c7] 126, F] ih) := ⟨_, fun _ _ => Iff.rfl⟩
  refine c_draw (by kernel_rfl) (N := 6) rfl S21 J28 ?_ ?_
  · have hw := hw.drew
    have hS : S21 (Array.replicate 6 false) _ := SX_now hS21 (hw.vws [0, 1]) (by kernel_rfl)
    refine d_pures (fuel := 2) kS21 hs hS [0, 1, 2, 3] [6, 7] [(6, (pt b2 3)), (7, .bool true)] (by kernel_rfl) fun a hs hS => ?_
    refine d_all (fuel := 1) (rs := [4]) (by kernel_rfl) (by simp) (all1 ?_)
    have h30 : sync_atomic_b32 = some () := rfl
    refine o_call hs rfl (by kernel_rfl) (by kernel_rfl) (sync_atomic_b32_s h30 ((hw.pick [0, 1] (by kernel_rfl)).pack 0)) fun a w v hv hs => ?_
    obtain ⟨rfl, hw⟩ := hv
    replace hw := hw.unpack 0 rfl
    refine dg_next (SX_now hS21 ((hw.vws [0, 1]).anti (Le.refl _)) (by kernel_rfl)) fun hS => ?_
    refine d_all (fuel := 0) (rs := [5]) (by kernel_rfl) (by simp) (all1 ?_)
    refine o_ext1 hs rfl (by kernel_rfl) (exec_astore hw Tryz.func147 (by kernel_rfl) (by kernel_rfl) (by kernel_rfl) .u32 (by kernel_rfl) 0 rfl 3 (x := vu32 0) (by kernel_rfl) 1 (by kernel_rfl)) fun a w hs hw => ?_
    refine dg_next (SX_now hS21 ((hw.vws [1]).anti (Le.refl _)) (by kernel_rfl)) fun hS => ?_
    refine d_done (by kernel_rfl) ?_
    obtain rfl := someE hx27
    exact (hJ28 _ _).2 ⟨hk, hs.cast [] (by kernel_rfl), hw.pick [0, 1] (by kernel_rfl)⟩
  intro a w hh
  obtain ⟨hk, hs, hw⟩ := (hJ28 _ _).1 hh
  obtain rfl := someE hk
  refine hQn _ _ (f_retN hs [] rfl [] (by kernel_rfl) (by kernel_rfl) ⟨rfl, hw.pick [0, 1] (by kernel_rfl)⟩)
def latch_Latch_api_Reply_Set_1 (x3 : Int) (x4 : Int) (x5 : List Int) : Option (Int × Int × (List Int)) :=
  some (x3, x4, x5)
theorem latch_Latch_api_Reply_Set_1_s {x3 : Int} {x4 : Int} {x5 : List Int} {x13 : List Int} {b2 : Nat} {p6 : Option Addr} {c7 : Nat} {b10 : Nat} {b12 : Nat} {p14 : Option Addr} {c15 : Nat} {d17 : Ch} {b20 : Nat} {r : Int × Int × (List Int)} (hk : latch_Latch_api_Reply_Set_1 x3 x4 x5 = some r) {g w : World} {F : Ch} {ih : IH} (h8 : RSl e5 ih [] p6 c7 x5) (h16 : OSl e5 ih p14 c15 x13 d17) (hw : St g w [bx b2 [vi64 x3, vu64 x4, .slice p6 x5.length c7] 51, bx b10 [(pt b12 0)] 83, bx b12 [vu32 0, vi32 1, vu32 0, vu32 0, vi64 0, vu64 0, .slice p14 x13.length c15] 126, d17, bx b20 [.bool false] 4, F] ih) :
    CallsR Tryz.prog 112 #[(pt b2 0), (pt b10 0), (pt b20 0)] w fun v w' => ∃ (p31 : Option Addr) (c32 : Nat), v = .tuple #[] ∧ St g w' [bx b2 [vi64 x3, vu64 x4, .slice p6 x5.length c7] 51, bx b10 [(pt b12 0)] 83, bx b12 [vu32 0, vi32 1, vu32 0, vu32 1, vi64 r.1, vu64 r.2.1, .slice p31 r.2.2.length c32] 126, bx b20 [.bool true] 4, F] ih ∧ RSl e5 ih [] p31 c32 r.2.2 := by
  refine f_in (vs := [(pt b2 0), (pt b10 0), (pt b20 0)]) Tryz.func112 rfl 11 rfl (by kernel_rfl) [(0, (pt b2 0)), (1, (pt b10 0)), (2, (pt b20 0))] (by kernel_rfl) fun a Qf hQ hQn hs => ?_
  refine c_seq ?_
  refine c_region ?_
  refine s_load hs (hw.at_ 1 rfl) 0 (by kernel_rfl) (by kernel_rfl) (v := (pt b12 0)) (by kernel_rfl) fun a hs => ?_
  refine s_load hs (hw.at_ 0 rfl) 0 (by kernel_rfl) (by kernel_rfl) (v := .agg #[vi64 x3, vu64 x4, .slice p6 x5.length c7]) (by kernel_rfl) fun a hs => ?_
  refine pures hs 2 [1, 2, 4, 6] [(1, (pt b10 0)), (2, (pt b20 0)), (4, .agg #[vi64 x3, vu64 x4, .slice p6 x5.length c7]), (6, (pt b12 4))] (by kernel_rfl) fun a hs => ?_
  refine s_store hs hw 2 rfl 4 (by kernel_rfl) (by kernel_rfl) (v := .agg #[vi64 x3, vu64 x4, .slice p6 x5.length c7]) (by kernel_rfl) (by kernel_rfl) (by kernel_rfl) (by kernel_rfl) fun a w hs hw => ?_
  refine s_store hs hw 4 rfl 0 (by kernel_rfl) (by kernel_rfl) (v := .bool true) (by kernel_rfl) (by kernel_rfl) (by kernel_rfl) (by kernel_rfl) fun a w hs hw => ?_
  refine s_end ?_
  refine c_region ?_
  refine s_load hs (hw.at_ 1 rfl) 0 (by kernel_rfl) (by kernel_rfl) (v := (pt b12 0)) (by kernel_rfl) fun a hs => ?_
  refine pures hs 2 [9] [(9, (pt b12 3))] (by kernel_rfl) fun a hs => ?_
  have h30 : sync_atomic_Bool_Store = some () := rfl
  refine s_call hs (by kernel_rfl) (by kernel_rfl) (sync_atomic_Bool_Store_s (x3 := x3) (x4 := x4) (x5 := x5) h30 h8 ((hw.pick [2, 0, 1, 4, 5] (by kernel_rfl)).pack 1)) fun a w v hv hs => ?_
  obtain ⟨rfl, hw⟩ := hv
  replace hw := hw.unpack 1 rfl
  refine s_end ?_
  obtain rfl := someE hk
  refine hQn _ _ (f_retN hs [] rfl [] (by kernel_rfl) (by kernel_rfl) ⟨p6, c7, rfl, hw.pick [1, 2, 0, 3, 4] (by kernel_rfl), h8⟩)
def sync_atomic_Bool_Store_2_r2 : Option Unit :=
  some ()
def sync_atomic_Bool_Store_2 : Option Unit :=
  sync_atomic_Bool_Store_2_r2
theorem sync_atomic_Bool_Store_2_s {x3 : Int} {x4 : Int} {x5 : List Int} {b2 : Nat} {p6 : Option Addr} {c7 : Nat} {r : Unit} (hk : sync_atomic_Bool_Store_2 = some r) {g w : World} {F : Ch} {ih : IH} (h8 : RSl e5 ih [] p6 c7 x5) (hw : St g w [bx b2 [vu32 0, vi32 1, vu32 0, vu32 1, vi64 x3, vu64 x4, .slice p6 x5.length c7] 126, F] ih) :
    CallsR Tryz.prog 113 #[(pt b2 0), .bool true] w fun v w' => v = .tuple #[] ∧ St g w' [bx b2 [vu32 1, vi32 1, vu32 0, vu32 1, vi64 x3, vu64 x4, .slice p6 x5.length c7] 126, F] ih := by
  refine f_in (vs := [(pt b2 0), .bool true]) Tryz.func113 rfl 10 rfl (by kernel_rfl) [(0, (pt b2 0)), (1, .bool true)] (by kernel_rfl) fun a Qf hQ hQn hs => ?_
  obtain ⟨S21, hS21, kS21⟩ := mkSX (X := [([5], bx b2 [vu32 0, vi32 1, vu32 0, vu32 1, vi64 x3, vu64 x4, .slice p6 x5.length c7] 126), ([], F)]) (ih := ih) (K := [5]) rfl
  obtain ⟨y26, hx27⟩ : ∃ y, (some () : Option Unit) = some y := ⟨_, rfl⟩
  obtain ⟨J28, hJ28⟩ : ∃ J : Act → World → Prop, ∀ a w, J a w ↔ (sync_atomic_Bool_Store_2_r2 = some r ∧ Sees a 10 [] ∧ St g w [bx b2 [vu32 1, vi32 1, vu32 0, vu32 1, vi64 x3, vu64 x4, .slice p6 x5.length c7] 126, F] ih) := ⟨_, fun _ _ => Iff.rfl⟩
  refine c_draw (by kernel_rfl) (N := 6) rfl S21 J28 ?_ ?_
  · have hw := hw.drew
    have hS : S21 (Array.replicate 6 false) _ := SX_now hS21 (hw.vws [0, 1]) (by kernel_rfl)
    refine d_pures (fuel := 2) kS21 hs hS [0, 1, 2, 3] [6, 7] [(6, (pt b2 0)), (7, .bool true)] (by kernel_rfl) fun a hs hS => ?_
    refine d_all (fuel := 1) (rs := [4]) (by kernel_rfl) (by simp) (all1 ?_)
    have h30 : sync_atomic_b32 = some () := rfl
    refine o_call hs rfl (by kernel_rfl) (by kernel_rfl) (sync_atomic_b32_s h30 ((hw.pick [0, 1] (by kernel_rfl)).pack 0)) fun a w v hv hs => ?_
    obtain ⟨rfl, hw⟩ := hv
    replace hw := hw.unpack 0 rfl
    refine dg_next (SX_now hS21 ((hw.vws [0, 1]).anti (Le.refl _)) (by kernel_rfl)) fun hS => ?_
    refine d_all (fuel := 0) (rs := [5]) (by kernel_rfl) (by simp) (all1 ?_)
    refine o_ext1 hs rfl (by kernel_rfl) (exec_astore hw Tryz.func147 (by kernel_rfl) (by kernel_rfl) (by kernel_rfl) .u32 (by kernel_rfl) 0 rfl 0 (x := vu32 0) (by kernel_rfl) 1 (by kernel_rfl)) fun a w hs hw => ?_
    refine dg_next (SX_now hS21 ((hw.vws [1]).anti (Le.refl _)) (by kernel_rfl)) fun hS => ?_
    refine d_done (by kernel_rfl) ?_
    obtain rfl := someE hx27
    exact (hJ28 _ _).2 ⟨hk, hs.cast [] (by kernel_rfl), hw.pick [0, 1] (by kernel_rfl)⟩
  intro a w hh
  obtain ⟨hk, hs, hw⟩ := (hJ28 _ _).1 hh
  obtain rfl := someE hk
  refine hQn _ _ (f_retN hs [] rfl [] (by kernel_rfl) (by kernel_rfl) ⟨rfl, hw.pick [0, 1] (by kernel_rfl)⟩)
theorem sync_atomic_Bool_Store_2_sD {x3 : Int} {x4 : Int} {x5 : List Int} {b2 : Nat} {p6 : Option Addr} {c7 : Nat} {r : Unit} (hk : sync_atomic_Bool_Store_2 = some r) {g w : World} {F : Ch} {ih : IH} (h8 : RSl e5 ih [] p6 c7 x5) (hw : St g w [bx b2 [vu32 0, vi32 1, vu32 0, vu32 1, vi64 x3, vu64 x4, .slice p6 x5.length c7] 126, F] ih) :
    CallsDR Tryz.prog 113 #[(pt b2 0), .bool true] w fun v w' => v = .tuple #[] ∧ St g w' [bx b2 [vu32 1, vi32 1, vu32 0, vu32 1, vi64 x3, vu64 x4, .slice p6 x5.length c7] 126, F] ih := by
  refine f_inD (vs := [(pt b2 0), .bool true]) Tryz.func113 rfl 10 rfl (by kernel_rfl) [(0, (pt b2 0)), (1, .bool true)] (by kernel_rfl) fun a Qf hQ hQn hs => ?_
  obtain ⟨S21, hS21, kS21⟩ := mkSX (X := [([5], bx b2 [vu32 0, vi32 1, vu32 0, vu32 1, vi64 x3, vu64 x4, .slice p6 x5.length c7] 126), ([], F)]) (ih := ih) (K := [5]) rfl
  obtain ⟨y26, hx27⟩ : ∃ y, (some () : Option Unit) = some y := ⟨_, rfl⟩
  obtain ⟨J28, hJ28⟩ : ∃ J : Act → World → Prop, ∀ a w, J a w ↔ (sync_atomic_Bool_Store_2_r2 = some r ∧ Sees a 10 [] ∧ St g w [bx b2 [vu32 1, vi32 1, vu32 0, vu32 1, vi64 x3, vu64 x4, .slice p6 x5.length c7] 126, F] ih) := ⟨_, fun _ _ => Iff.rfl⟩
  refine c_draw (by kernel_rfl) (N := 6) rfl S21 J28 ?_ ?_
  · have hw := hw.drew
    have hS : S21 (Array.replicate 6 false) _ := SX_now hS21 (hw.vws [0, 1]) (by kernel_rfl)
    refine d_pures (fuel := 2) kS21 hs hS [0, 1, 2, 3] [6, 7] [(6, (pt b2 0)), (7, .bool true)] (by kernel_rfl) fun a hs hS => ?_
    refine d_all (fuel := 1) (rs := [4]) (by kernel_rfl) (by simp) (all1 ?_)
    have h30 : sync_atomic_b32 = some () := rfl
    refine o_call hs rfl (by kernel_rfl) (by kernel_rfl) (sync_atomic_b32_s h30 ((hw.pick [0, 1] (by kernel_rfl)).pack 0)) fun a w v hv hs => ?_
    obtain ⟨rfl, hw⟩ := hv
    replace hw := hw.unpack 0 rfl
    refine dg_next (SX_now hS21 ((hw.vws [0, 1]).anti (Le.refl _)) (by kernel_rfl)) fun hS => ?_
    refine d_all (fuel := 0) (rs := [5]) (by kernel_rfl) (by simp) (all1 ?_)
    refine o_ext1 hs rfl (by kernel_rfl) (exec_astore hw Tryz.func147 (by kernel_rfl) (by kernel_rfl) (by kernel_rfl) .u32 (by kernel_rfl) 0 rfl 0 (x := vu32 0) (by kernel_rfl) 1 (by kernel_rfl)) fun a w hs hw => ?_
    refine dg_next (SX_now hS21 ((hw.vws [1]).anti (Le.refl _)) (by kernel_rfl)) fun hS => ?_
    refine d_done (by kernel_rfl) ?_
    obtain rfl := someE hx27
    exact (hJ28 _ _).2 ⟨hk, hs.cast [] (by kernel_rfl), hw.pick [0, 1] (by kernel_rfl)⟩
  intro a w hh
  obtain ⟨hk, hs, hw⟩ := (hJ28 _ _).1 hh
  obtain rfl := someE hk
  refine hQn _ _ (f_retN hs [] rfl [] (by kernel_rfl) (by kernel_rfl) ⟨rfl, hw.pick [0, 1] (by kernel_rfl)⟩)
def internal_sync_Mutex_Unlock : Option Unit :=
  some ()
theorem internal_sync_Mutex_Unlock_s {x3 : Int} {x4 : Int} {x5 : List Int} {b2 : Nat} {p6 : Option Addr} {c7 : Nat} {r : Unit} (hk : internal_sync_Mutex_Unlock = some r) {g w : World} {F : Ch} {ih : IH} (h8 : RSl e5 ih [] p6 c7 x5) (hw : St g w [bx b2 [vu32 1, vi32 1, vu32 0, vu32 1, vi64 x3, vu64 x4, .slice p6 x5.length c7] 126, F] ih) :
    CallsR Tryz.prog 210 #[(pt b2 1)] w fun v w' => v = .tuple #[] ∧ St g w' [bx b2 [vu32 1, vi32 0, vu32 0, vu32 1, vi64 x3, vu64 x4, .slice p6 x5.length c7] 126, F] ih := by
  refine f_in (vs := [(pt b2 1)]) Tryz.func210 rfl 21 rfl (by kernel_rfl) [(0, (pt b2 1))] (by kernel_rfl) fun a Qf hQ hQn hs => ?_
  refine c_seq ?_
  refine c_condT hs (by kernel_rfl) (by kernel_rfl) ?_
  refine c_seq ?_
  refine c_region ?_
  refine pures hs 3 [0, 5] [(0, (pt b2 1)), (5, (pt b2 1))] (by kernel_rfl) fun a hs => ?_
  refine s_load hs (hw.at_ 0 rfl) 1 (by kernel_rfl) (by kernel_rfl) (v := vi32 1) (by kernel_rfl) fun a hs => ?_
  refine s_end ?_
  refine c_seq ?_
  refine c_region ?_
  refine pures hs 1 [0, 7] [(0, (pt b2 1)), (7, (pt b2 1))] (by kernel_rfl) fun a hs => ?_
  refine s_ext0 hs (by kernel_rfl) (exec_convU hw (t := 120) (by kernel_rfl) (by kernel_rfl) (by kernel_rfl) 0 rfl 1 (v := vi32 1) (by kernel_rfl) (by kernel_rfl)) fun a hs => ?_
  refine s_ext0 hs (by kernel_rfl) (exec_mark1 Tryz.func222 (by kernel_rfl) (by kernel_rfl) (by kernel_rfl) .releaseMerge (by kernel_rfl) (q := ⟨b2, 1, none⟩) (by kernel_rfl)) fun a hs => ?_
  refine s_end ?_
  refine c_region ?_
  refine s_ext0 hs (by kernel_rfl) (exec_mark0 Tryz.func217 (by kernel_rfl) (by kernel_rfl) (by kernel_rfl) .disable (by kernel_rfl) (by kernel_rfl)) fun a hs => ?_
  refine s_end ?_
  refine c_seq ?_
  refine c_region ?_
  refine pures hs 3 [0, 13] [(0, (pt b2 1)), (13, (pt b2 1))] (by kernel_rfl) fun a hs => ?_
  refine s_ext1 hs (by kernel_rfl) (exec_aadd hw Tryz.func223 (by kernel_rfl) (by kernel_rfl) (by kernel_rfl) .i32 (by kernel_rfl) 0 rfl 1 (x := 1) (by kernel_rfl) (-1) 0 (by kernel_rfl) (by kernel_rfl)) fun a w hs hw => ?_
  refine pures hs 1 [0, 2] [(0, (pt b2 1)), (2, vi32 0)] (by kernel_rfl) fun a hs => ?_
  refine s_end ?_
  refine c_seq ?_
  refine c_seq ?_
  refine c_region ?_
  refine pures hs 2 [0, 2, 16] [(0, (pt b2 1)), (2, vi32 0), (16, .bool false)] (by kernel_rfl) fun a hs => ?_
  refine s_end ?_
  refine c_condF hs (by kernel_rfl) (by kernel_rfl) ?_
  refine c_skip ?_
  refine c_region ?_
  refine s_ext0 hs (by kernel_rfl) (exec_mark0 Tryz.func219 (by kernel_rfl) (by kernel_rfl) (by kernel_rfl) .enable (by kernel_rfl) (by kernel_rfl)) fun a hs => ?_
  refine s_end ?_
  obtain rfl := someE hk
  refine hQn _ _ (f_retN hs [] rfl [] (by kernel_rfl) (by kernel_rfl) ⟨rfl, hw.pick [0, 1] (by kernel_rfl)⟩)
def sync_Mutex_Unlock : Option Unit :=
  some ()
theorem sync_Mutex_Unlock_s {x3 : Int} {x4 : Int} {x5 : List Int} {b2 : Nat} {p6 : Option Addr} {c7 : Nat} {r : Unit} (hk : sync_Mutex_Unlock = some r) {g w : World} {F : Ch} {ih : IH} (h8 : RSl e5 ih [] p6 c7 x5) (hw : St g w [bx b2 [vu32 1, vi32 1, vu32 0, vu32 1, vi64 x3, vu64 x4, .slice p6 x5.length c7] 126, F] ih) :
    CallsR Tryz.prog 187 #[(pt b2 1)] w fun v w' => v = .tuple #[] ∧ St g w' [bx b2 [vu32 1, vi32 0, vu32 0, vu32 1, vi64 x3, vu64 x4, .slice p6 x5.length c7] 126, F] ih := by
  refine f_in (vs := [(pt b2 1)]) Tryz.func187 rfl 6 rfl (by kernel_rfl) [(0, (pt b2 1))] (by kernel_rfl) fun a Qf hQ hQn hs => ?_
  refine c_region ?_
  refine pures hs 3 [4] [(4, (pt b2 1))] (by kernel_rfl) fun a hs => ?_
  have h18 : internal_sync_Mutex_Unlock = some () := rfl
  refine s_call hs (by kernel_rfl) (by kernel_rfl) (internal_sync_Mutex_Unlock_s (x3 := x3) (x4 := x4) (x5 := x5) h18 h8 ((hw.pick [0, 1] (by kernel_rfl)).pack 1)) fun a w v hv hs => ?_
  obtain ⟨rfl, hw⟩ := hv
  replace hw := hw.unpack 1 rfl
  refine s_end ?_
  obtain rfl := someE hk
  refine hQn _ _ (f_retN hs [] rfl [] (by kernel_rfl) (by kernel_rfl) ⟨rfl, hw.pick [0, 1] (by kernel_rfl)⟩)
theorem sync_Mutex_Unlock_sD {x3 : Int} {x4 : Int} {x5 : List Int} {b2 : Nat} {p6 : Option Addr} {c7 : Nat} {r : Unit} (hk : sync_Mutex_Unlock = some r) {g w : World} {F : Ch} {ih : IH} (h8 : RSl e5 ih [] p6 c7 x5) (hw : St g w [bx b2 [vu32 1, vi32 1, vu32 0, vu32 1, vi64 x3, vu64 x4, .slice p6 x5.length c7] 126, F] ih) :
    CallsDR Tryz.prog 187 #[(pt b2 1)] w fun v w' => v = .tuple #[] ∧ St g w' [bx b2 [vu32 1, vi32 0, vu32 0, vu32 1, vi64 x3, vu64 x4, .slice p6 x5.length c7] 126, F] ih := by
  refine f_inD (vs := [(pt b2 1)]) Tryz.func187 rfl 6 rfl (by kernel_rfl) [(0, (pt b2 1))] (by kernel_rfl) fun a Qf hQ hQn hs => ?_
  refine c_region ?_
  refine pures hs 3 [4] [(4, (pt b2 1))] (by kernel_rfl) fun a hs => ?_
  have h18 : internal_sync_Mutex_Unlock = some () := rfl
  refine s_call hs (by kernel_rfl) (by kernel_rfl) (internal_sync_Mutex_Unlock_s (x3 := x3) (x4 := x4) (x5 := x5) h18 h8 ((hw.pick [0, 1] (by kernel_rfl)).pack 1)) fun a w v hv hs => ?_
  obtain ⟨rfl, hw⟩ := hv
  replace hw := hw.unpack 1 rfl
  refine s_end ?_
  obtain rfl := someE hk
  refine hQn _ _ (f_retN hs [] rfl [] (by kernel_rfl) (by kernel_rfl) ⟨rfl, hw.pick [0, 1] (by kernel_rfl)⟩)
def sync_Once_doSlow (x11 : Int) (x12 : Int) (x13 : List Int) : Option (Int × Int × (List Int)) :=
  (latch_Latch_api_Reply_Set_1 x11 x12 x13).bind fun y58 =>
  some (y58.1, y58.2.1, y58.2.2)
theorem sync_Once_doSlow_s {x3 : List Int} {x11 : Int} {x12 : Int} {x13 : List Int} {b2 : Nat} {p4 : Option Addr} {c5 : Nat} {d7 : Ch} {b10 : Nat} {p14 : Option Addr} {c15 : Nat} {b18 : Nat} {b20 : Nat} {r : Int × Int × (List Int)} (hk : sync_Once_doSlow x11 x12 x13 = some r) {g w : World} {F : Ch} {ih : IH} (h6 : OSl e5 ih p4 c5 x3 d7) (h16 : RSl e5 ih [] p14 c15 x13) (hw : St g w [bx b2 [vu32 0, vi32 0, vu32 0, vu32 0, vi64 0, vu64 0, .slice p4 x3.length c5] 126, d7, bx b10 [vi64 x11, vu64 x12, .slice p14 x13.length c15] 51, bx b18 [(pt b2 0)] 83, bx b20 [.bool false] 4, F] ih) :
    CallsR Tryz.prog 146 #[(pt b2 0), .func (.func 112) #[] #[(pt b10 0), (pt b18 0), (pt b20 0)]] w fun v w' => ∃ (p67 : Option Addr) (c68 : Nat), v = .tuple #[] ∧ St g w' [bx b2 [vu32 1, vi32 0, vu32 0, vu32 1, vi64 r.1, vu64 r.2.1, .slice p67 r.2.2.length c68] 126, bx b10 [vi64 x11, vu64 x12, .slice p14 x13.length c15] 51, bx b18 [(pt b2 0)] 83, bx b20 [.bool true] 4, F] ih ∧ RSl e5 ih [] p67 c68 r.2.2 := by
  refine f_inDf (vs := [(pt b2 0), .func (.func 112) #[] #[(pt b10 0), (pt b18 0), (pt b20 0)]]) Tryz.func146 rfl 21 rfl (by kernel_rfl) [(0, (pt b2 0)), (1, .func (.func 112) #[] #[(pt b10 0), (pt b18 0), (pt b20 0)])] (by kernel_rfl) fun a Qf hQ hQn hs => ?_
  refine c_seq ?_
  refine c_region ?_
  refine pures hs 3 [0, 1, 6] [(0, (pt b2 0)), (1, .func (.func 112) #[] #[(pt b10 0), (pt b18 0), (pt b20 0)]), (6, (pt b2 1))] (by kernel_rfl) fun a hs => ?_
  have h48 : sync_Mutex_Lock = some () := rfl
  refine s_call hs (by kernel_rfl) (by kernel_rfl) (sync_Mutex_Lock_s (x3 := x3) h48 h6 ((hw.pick [0, 1, 2, 3, 4, 5] (by kernel_rfl)).pack 2)) fun a w v hv hs => ?_
  obtain ⟨rfl, hw⟩ := hv
  replace hw := hw.unpack 2 rfl
  refine s_end ?_
  refine c_seq ?_
  refine c_regD hs 3 [0, 1, 10] [(0, (pt b2 0)), (1, .func (.func 112) #[] #[(pt b10 0), (pt b18 0), (pt b20 0)]), (10, (pt b2 1))] (by kernel_rfl) rfl (by kernel_rfl) (by kernel_rfl) (vs := #[(pt b2 1)]) (by kernel_rfl) fun a hs => ?_
  refine c_seq ?_
  refine c_region ?_
  refine pures hs 3 [0, 1, 13] [(0, (pt b2 0)), (1, .func (.func 112) #[] #[(pt b10 0), (pt b18 0), (pt b20 0)]), (13, (pt b2 0))] (by kernel_rfl) fun a hs => ?_
  have h52 : sync_atomic_Bool_Load_3 = some () := rfl
  refine s_call hs (by kernel_rfl) (by kernel_rfl) (sync_atomic_Bool_Load_3_s (x3 := x3) h52 h6 ((hw.pick [0, 1, 2, 3, 4, 5] (by kernel_rfl)).pack 2)) fun a w v hv hs => ?_
  obtain ⟨rfl, hw⟩ := hv
  replace hw := hw.unpack 2 rfl
  refine pures hs 1 [0, 1, 15] [(0, (pt b2 0)), (1, .func (.func 112) #[] #[(pt b10 0), (pt b18 0), (pt b20 0)]), (15, .bool true)] (by kernel_rfl) fun a hs => ?_
  refine s_end ?_
  refine c_condT hs (by kernel_rfl) (by kernel_rfl) ?_
  refine c_seq ?_
  refine c_regD hs 3 [1, 18] [(1, .func (.func 112) #[] #[(pt b10 0), (pt b18 0), (pt b20 0)]), (18, (pt b2 0))] (by kernel_rfl) rfl (by kernel_rfl) (by kernel_rfl) (vs := #[(pt b2 0), .bool true]) (by kernel_rfl) fun a hs => ?_
  refine c_region ?_
  refine pures hs 1 [19] [(19, .func (.func 112) #[] #[(pt b10 0), (pt b18 0), (pt b20 0)])] (by kernel_rfl) fun a hs => ?_
  obtain ⟨y58, h59, hk⟩ := bindE hk
  refine s_call hs (by kernel_rfl) (by kernel_rfl) (latch_Latch_api_Reply_Set_1_s (x13 := x3) h59 h16 h6 ((hw.pick [2, 3, 0, 1, 4, 5] (by kernel_rfl)).pack 5)) fun a w v hv hs => ?_
  obtain ⟨p60, c61, rfl, hw, h62⟩ := hv
  replace hw := hw.unpack 4 rfl
  refine s_end ?_
  refine hQn _ _ (f_leave hs ?_)
  have h64 : sync_atomic_Bool_Store_2 = some () := rfl
  refine leave_call (by kernel_rfl) (sync_atomic_Bool_Store_2_sD (x3 := y58.1) (x4 := y58.2.1) (x5 := y58.2.2) h64 h62 ((hw.pick [2, 0, 1, 3, 4] (by kernel_rfl)).pack 1)) fun v w hv => ?_
  obtain ⟨rfl, hw⟩ := hv
  replace hw := hw.unpack 1 rfl
  have h66 : sync_Mutex_Unlock = some () := rfl
  refine leave_call (by kernel_rfl) (sync_Mutex_Unlock_sD (x3 := y58.1) (x4 := y58.2.1) (x5 := y58.2.2) h66 h62 ((hw.pick [0, 1, 2, 3, 4] (by kernel_rfl)).pack 1)) fun v w hv => ?_
  obtain ⟨rfl, hw⟩ := hv
  replace hw := hw.unpack 1 rfl
  obtain rfl := someE hk
  refine leave_end rfl ⟨p60, c61, rfl, hw.pick [0, 1, 2, 3, 4] (by kernel_rfl), h62⟩
def sync_Once_Do (x11 : Int) (x12 : Int) (x13 : List Int) : Option (Int × Int × (List Int)) :=
  (sync_Once_doSlow x11 x12 x13).bind fun y46 =>
  some (y46.1, y46.2.1, y46.2.2)
theorem sync_Once_Do_s {x3 : List Int} {x11 : Int} {x12 : Int} {x13 : List Int} {b2 : Nat} {p4 : Option Addr} {c5 : Nat} {d7 : Ch} {b10 : Nat} {p14 : Option Addr} {c15 : Nat} {b18 : Nat} {b20 : Nat} {r : Int × Int × (List Int)} (hk : sync_Once_Do x11 x12 x13 = some r) {g w : World} {F : Ch} {ih : IH} (h6 : OSl e5 ih p4 c5 x3 d7) (h16 : RSl e5 ih [] p14 c15 x13) (hw : St g w [bx b2 [vu32 0, vi32 0, vu32 0, vu32 0, vi64 0, vu64 0, .slice p4 x3.length c5] 126, d7, bx b10 [vi64 x11, vu64 x12, .slice p14 x13.length c15] 51, bx b18 [(pt b2 0)] 83, bx b20 [.bool false] 4, F] ih) :
    CallsR Tryz.prog 111 #[(pt b2 0), .func (.func 112) #[] #[(pt b10 0), (pt b18 0), (pt b20 0)]] w fun v w' => ∃ (p51 : Option Addr) (c52 : Nat), v = .tuple #[] ∧ St g w' [bx b2 [vu32 1, vi32 0, vu32 0, vu32 1, vi64 r.1, vu64 r.2.1, .slice p51 r.2.2.length c52] 126, bx b10 [vi64 x11, vu64 x12, .slice p14 x13.length c15] 51, bx b18 [(pt b2 0)] 83, bx b20 [.bool true] 4, F] ih ∧ RSl e5 ih [] p51 c52 r.2.2 := by
  refine f_in (vs := [(pt b2 0), .func (.func 112) #[] #[(pt b10 0), (pt b18 0), (pt b20 0)]]) Tryz.func111 rfl 12 rfl (by kernel_rfl) [(0, (pt b2 0)), (1, .func (.func 112) #[] #[(pt b10 0), (pt b18 0), (pt b20 0)])] (by kernel_rfl) fun a Qf hQ hQn hs => ?_
  refine c_seq ?_
  refine c_region ?_
  refine pures hs 3 [0, 1, 6] [(0, (pt b2 0)), (1, .func (.func 112) #[] #[(pt b10 0), (pt b18 0), (pt b20 0)]), (6, (pt b2 0))] (by kernel_rfl) fun a hs => ?_
  have h40 : sync_atomic_Bool_Load_2 = some () := rfl
  refine s_call hs (by kernel_rfl) (by kernel_rfl) (sync_atomic_Bool_Load_2_s (x3 := x3) h40 h6 ((hw.pick [0, 1, 2, 3, 4, 5] (by kernel_rfl)).pack 2)) fun a w v hv hs => ?_
  obtain ⟨rfl, hw⟩ := hv
  replace hw := hw.unpack 2 rfl
  refine pures hs 1 [0, 1, 8] [(0, (pt b2 0)), (1, .func (.func 112) #[] #[(pt b10 0), (pt b18 0), (pt b20 0)]), (8, .bool true)] (by kernel_rfl) fun a hs => ?_
  refine s_end ?_
  refine c_condT hs (by kernel_rfl) (by kernel_rfl) ?_
  refine c_region ?_
  refine pures hs 2 [9, 10] [(9, (pt b2 0)), (10, .func (.func 112) #[] #[(pt b10 0), (pt b18 0), (pt b20 0)])] (by kernel_rfl) fun a hs => ?_
  obtain ⟨y46, h47, hk⟩ := bindE hk
  refine s_call hs (by kernel_rfl) (by kernel_rfl) (sync_Once_doSlow_s (x3 := x3) h47 h6 h16 ((hw.pick [0, 1, 2, 3, 4, 5] (by kernel_rfl)).pack 5)) fun a w v hv hs => ?_
  obtain ⟨p48, c49, rfl, hw, h50⟩ := hv
  replace hw := hw.unpack 4 rfl
  refine s_end ?_
  obtain rfl := someE hk
  refine hQn _ _ (f_retN hs [] rfl [] (by kernel_rfl) (by kernel_rfl) ⟨p48, c49, rfl, hw.pick [0, 1, 2, 3, 4] (by kernel_rfl), h50⟩)
def latch_Latch_api_Reply_Set_2 (x9 : M51) : Option (Int × Int × (List Int)) :=
  (sync_Once_Do x9.f0 x9.f1 x9.f2).bind fun y54 =>
  some (y54.1, y54.2.1, y54.2.2)
theorem latch_Latch_api_Reply_Set_2_s {x3 : List Int} {x9 : M51} {b2 : Nat} {p4 : Option Addr} {c5 : Nat} {d7 : Ch} {p10 : Option Addr} {c11 : Nat} {r : Int × Int × (List Int)} (hk : latch_Latch_api_Reply_Set_2 x9 = some r) {g w : World} {F : Ch} {ih : IH} (h6 : OSl e5 ih p4 c5 x3 d7) (h12 : RSl e5 ih [] p10 c11 x9.f2) (hw : St g w [bx b2 [vu32 0, vi32 0, vu32 0, vu32 0, vi64 0, vu64 0, .slice p4 x3.length c5] 126, d7, F] ih) :
    CallsR Tryz.prog 64 #[(pt b2 0), .agg #[vi64 x9.f0, vu64 x9.f1, .slice p10 x9.f2.length c11]] w fun v w' => ∃ (p59 : Option Addr) (c60 : Nat), v = .bool true ∧ St g w' [bx b2 [vu32 1, vi32 0, vu32 0, vu32 1, vi64 r.1, vu64 r.2.1, .slice p59 r.2.2.length c60] 126, F] ih ∧ RSl e5 ih [] p59 c60 r.2.2 := by
  refine f_in (vs := [(pt b2 0), .agg #[vi64 x9.f0, vu64 x9.f1, .slice p10 x9.f2.length c11]]) Tryz.func64 rfl 14 rfl (by kernel_rfl) [(0, (pt b2 0)), (1, .agg #[vi64 x9.f0, vu64 x9.f1, .slice p10 x9.f2.length c11])] (by kernel_rfl) fun a Qf hQ hQn hs => ?_
  refine c_seq ?_
  refine c_region ?_
  refine s_new hs hw [(pt b2 0)] 83 (fun b => (pt b 0)) (by kernel_rfl) (fun _ => by kernel_rfl) fun a w b41 hs hw => ?_
  refine s_new hs hw [vi64 x9.f0, vu64 x9.f1, .slice p10 x9.f2.length c11] 51 (fun b => (pt b 0)) (by kernel_rfl) (fun _ => by kernel_rfl) fun a w b43 hs hw => ?_
  refine pures hs 1 [2, 3] [(2, (pt b41 0)), (3, (pt b43 0))] (by kernel_rfl) fun a hs => ?_
  refine s_end ?_
  refine c_seq ?_
  refine c_seq ?_
  refine c_region ?_
  refine s_load hs (hw.at_ 1 rfl) 0 (by kernel_rfl) (by kernel_rfl) (v := (pt b2 0)) (by kernel_rfl) fun a hs => ?_
  refine pures hs 1 [2, 3, 7] [(2, (pt b41 0)), (3, (pt b43 0)), (7, .bool false)] (by kernel_rfl) fun a hs => ?_
  refine s_end ?_
  refine c_condF hs (by kernel_rfl) (by kernel_rfl) ?_
  refine c_skip ?_
  refine c_seq ?_
  refine c_region ?_
  refine s_new hs hw [.bool false] 4 (fun b => (pt b 0)) (by kernel_rfl) (fun _ => by kernel_rfl) fun a w b47 hs hw => ?_
  refine s_store hs hw 0 rfl 0 (by kernel_rfl) (by kernel_rfl) (v := .bool false) (by kernel_rfl) (by kernel_rfl) (by kernel_rfl) (by kernel_rfl) fun a w hs hw => ?_
  refine s_end ?_
  refine c_seq ?_
  refine c_region ?_
  refine s_load hs (hw.at_ 2 rfl) 0 (by kernel_rfl) (by kernel_rfl) (v := (pt b2 0)) (by kernel_rfl) fun a hs => ?_
  refine pures hs 3 [5, 10, 11] [(5, (pt b47 0)), (10, (pt b2 0)), (11, .func (.func 112) #[] #[(pt b43 0), (pt b41 0), (pt b47 0)])] (by kernel_rfl) fun a hs => ?_
  obtain ⟨y54, h55, hk⟩ := bindE hk
  refine s_call hs (by kernel_rfl) (by kernel_rfl) (sync_Once_Do_s (x3 := x3) h55 h6 h12 ((hw.pick [3, 4, 1, 2, 0, 5] (by kernel_rfl)).pack 5)) fun a w v hv hs => ?_
  obtain ⟨p56, c57, rfl, hw, h58⟩ := hv
  replace hw := hw.unpack 4 rfl
  refine s_end ?_
  refine c_seq ?_
  refine c_region ?_
  refine s_load hs (hw.at_ 3 rfl) 0 (by kernel_rfl) (by kernel_rfl) (v := .bool true) (by kernel_rfl) fun a hs => ?_
  refine pures hs 1 [4] [(4, .bool true)] (by kernel_rfl) fun a hs => ?_
  refine s_end ?_
  refine c_ret ?_
  obtain rfl := someE hk
  refine hQ _ _ (f_ret1 hs rfl (v := .bool true) (by kernel_rfl) ⟨p56, c57, rfl, hw.pick [0, 4] (by kernel_rfl), h58⟩)
def caller_Caller_answer_2_r3 (x5 : Int) (x40 : M51) (x95 : Int) (x96 : Int) (x97 : List Int) : Option (Int × Int × Int × (List Int) × Int × Int × (List Int)) :=
  some (x5, x40.f0, x40.f1, x40.f2, x95, x96, x97)
def caller_Caller_answer_2_r4 (x5 : Int) (x40 : M51) (x95 : Int) (x96 : Int) (x97 : List Int) : Option (Int × Int × Int × (List Int) × Int × Int × (List Int)) :=
  caller_Caller_answer_2_r3 x5 x40 x95 x96 x97
def caller_Caller_answer_2 (x5 : Int) (x40 : M51) : Option (Int × Int × Int × (List Int) × Int × Int × (List Int)) :=
  ((latch_Latch_api_Reply_Set_2 x40).bind fun y108 =>
    some (y108.1, y108.2.1, y108.2.2) : Option (Int × Int × (List Int))).bind fun s113 => caller_Caller_answer_2_r4 x5 x40 s113.1 s113.2.1 s113.2.2
theorem caller_Caller_answer_2_s {x3 : Int} {x4 : Int} {x5 : Int} {x6 : Int} {x9 : List M44} {x15 : Value} {x17 : Int} {x18 : Int} {x19 : Int} {x20 : List Int} {x24 : Int} {x27 : List Int} {x33 : Int} {x34 : Int} {x35 : Int} {x36 : List Int} {x40 : M51} {b2 : Nat} {b8 : Nat} {p10 : Option Addr} {c11 : Nat} {d13 : Ch} {p21 : Option Addr} {c22 : Nat} {b26 : Nat} {p28 : Option Addr} {c29 : Nat} {d31 : Ch} {p37 : Option Addr} {c38 : Nat} {p41 : Option Addr} {c42 : Nat} {r : Int × Int × Int × (List Int) × Int × Int × (List Int)} (hk : caller_Caller_answer_2 x5 x40 = some r) {g w : World} {F : Ch} {ih : IH} (h12 : OSl e44 ih p10 c11 x9 d13) (h16 : x15.oneCell' = true) (h23 : RSl e5 ih [] p21 c22 x20) (h30 : OSl e5 ih p28 c29 x27 d31) (h39 : RSl e5 ih [] p37 c38 x36) (h43 : RSl e5 ih [] p41 c42 x40.f2) (hw : St g w [bx b2 [vi64 x3, vi64 x4, vu64 x5, vi64 x6, (pt b8 0), vi64 x17, vu32 x18, vu64 x19, .slice p21 x20.length c22, vi64 x24, (pt b26 0), vu64 x33, vi64 x34, vu64 x35, .slice p37 x36.length c38] 85, bx b8 [.slice p10 x9.length c11, x15] 113, d13, bx b26 [vu32 0, vi32 0, vu32 0, vu32 0, vi64 0, vu64 0, .slice p28 x27.length c29] 126, d31, F] ih) :
    CallsR Tryz.prog 37 #[(pt b2 0), .agg #[vi64 x40.f0, vu64 x40.f1, .slice p41 x40.f2.length c42]] w fun v w' => ∃ (p114 : Option Addr) (c115 : Nat) (p116 : Option Addr) (c117 : Nat), v = .tuple #[] ∧ St g w' [bx b2 [vi64 x3, vi64 x4, vu64 x5, vi64 x6, (pt b8 0), vi64 x17, vu32 x18, vu64 x19, .slice p21 x20.length c22, vi64 x24, (pt b26 0), vu64 r.1, vi64 r.2.1, vu64 r.2.2.1, .slice p114 r.2.2.2.1.length c115] 85, bx b8 [.slice p10 x9.length c11, x15] 113, d13, bx b26 [vu32 1, vi32 0, vu32 0, vu32 1, vi64 r.2.2.2.2.1, vu64 r.2.2.2.2.2.1, .slice p116 r.2.2.2.2.2.2.length c117] 126, F] ih ∧ RSl e5 ih [] p114 c115 r.2.2.2.1 ∧ RSl e5 ih [] p116 c117 r.2.2.2.2.2.2 := by
  refine f_in (vs := [(pt b2 0), .agg #[vi64 x40.f0, vu64 x40.f1, .slice p41 x40.f2.length c42]]) Tryz.func37 rfl 21 rfl (by kernel_rfl) [(0, (pt b2 0)), (1, .agg #[vi64 x40.f0, vu64 x40.f1, .slice p41 x40.f2.length c42])] (by kernel_rfl) fun a Qf hQ hQn hs => ?_
  refine c_seq ?_
  refine c_region ?_
  refine s_new hs hw [vi64 x40.f0, vu64 x40.f1, .slice p41 x40.f2.length c42] 51 (fun b => (pt b 0)) (by kernel_rfl) (fun _ => by kernel_rfl) fun a w b82 hs hw => ?_
  refine s_end ?_
  refine c_seq ?_
  obtain ⟨S84, hS84, kS84⟩ := mkSX (X := [([], bx b82 [vi64 x40.f0, vu64 x40.f1, .slice p41 x40.f2.length c42] 51), ([], bx b2 [vi64 x3, vi64 x4, vu64 x5, vi64 x6, (pt b8 0), vi64 x17, vu32 x18, vu64 x19, .slice p21 x20.length c22, vi64 x24, (pt b26 0), vu64 x33, vi64 x34, vu64 x35, .slice p37 x36.length c38] 85), ([], bx b8 [.slice p10 x9.length c11, x15] 113), ([], d13), ([5], bx b26 [vu32 0, vi32 0, vu32 0, vu32 0, vi64 0, vu64 0, .slice p28 x27.length c29] 126), ([5], d31), ([], F)]) (ih := ih) (K := [5, 5]) rfl
  obtain ⟨y105, hx106, hk⟩ := bindE hk
  obtain ⟨J107, hJ107⟩ : ∃ J : Act → World → Prop, ∀ a w, J a w ↔ (∃ (x95 : Int) (x96 : Int) (x97 : List Int) (p98 : Option Addr) (c99 : Nat), caller_Caller_answer_2_r4 x5 x40 x95 x96 x97 = some r ∧ Sees a 21 [(0, (pt b2 0)), (3, (pt b82 0)), (9, .bool true)] ∧ St g w [bx b82 [vi64 x40.f0, vu64 x40.f1, .slice p41 x40.f2.length c42] 51, bx b2 [vi64 x3, vi64 x4, vu64 x5, vi64 x6, (pt b8 0), vi64 x17, vu32 x18, vu64 x19, .slice p21 x20.length c22, vi64 x24, (pt b26 0), vu64 x33, vi64 x34, vu64 x35, .slice p37 x36.length c38] 85, bx b8 [.slice p10 x9.length c11, x15] 113, bx b26 [vu32 1, vi32 0, vu32 0, vu32 1, vi64 x95, vu64 x96, .slice p98 x97.length c99] 126, d13, F] ih ∧ RSl e5 ih [] p98 c99 x97) := ⟨_, fun _ _ => Iff.rfl⟩
  refine c_draw (by kernel_rfl) (N := 6) rfl S84 J107 ?_ ?_
  · have hw := hw.drew
    have hS : S84 (Array.replicate 6 false) _ := SX_now hS84 (hw.vws [0, 1, 2, 3, 4, 5, 6]) (by kernel_rfl)
    refine d_pures (fuel := 3) kS84 hs hS [0, 1, 2] [0, 3, 6] [(0, (pt b2 0)), (3, (pt b82 0)), (6, (pt b2 10))] (by kernel_rfl) fun a hs hS => ?_
    refine d_load (fuel := 2) kS84 hs hS 3 rfl (by kernel_rfl) (SX_box hS84 1 rfl (by kernel_rfl)) 10 (by kernel_rfl) (by kernel_rfl) (v := (pt b26 0)) (by kernel_rfl) fun a hs hS => ?_
    refine d_load (fuel := 1) kS84 hs hS 4 rfl (by kernel_rfl) (SX_box hS84 0 rfl (by kernel_rfl)) 0 (by kernel_rfl) (by kernel_rfl) (v := .agg #[vi64 x40.f0, vu64 x40.f1, .slice p41 x40.f2.length c42]) (by kernel_rfl) fun a hs hS => ?_
    refine d_all (fuel := 0) (rs := [5]) (by kernel_rfl) (by simp) (all1 ?_)
    obtain ⟨y108, h109, hx106⟩ := bindE hx106
    refine o_call hs rfl (by kernel_rfl) (by kernel_rfl) (latch_Latch_api_Reply_Set_2_s (x3 := x27) h109 h30 h43 ((hw.pick [4, 5, 0, 1, 2, 3, 6] (by kernel_rfl)).pack 2)) fun a w v hv hs => ?_
    obtain ⟨p110, c111, rfl, hw, h112⟩ := hv
    replace hw := hw.unpack 1 rfl
    refine dg_next (SX_now hS84 ((hw.vws [1, 2, 3, 4, 5]).anti (Le.refl _)) (by kernel_rfl)) fun hS => ?_
    refine d_done (by kernel_rfl) ?_
    obtain rfl := someE hx106
    exact (hJ107 _ _).2 ⟨y108.1, y108.2.1, y108.2.2, p110, c111, hk, hs.cast [0, 3, 9] (by kernel_rfl), hw.pick [1, 2, 3, 0, 4, 5] (by kernel_rfl), h112⟩
  intro a w hh
  obtain ⟨x95, x96, x97, p98, c99, hk, hs, hw, h100⟩ := (hJ107 _ _).1 hh
  refine c_condT hs (by kernel_rfl) (by kernel_rfl) ?_
  obtain ⟨S101, hS101, kS101⟩ := mkSX (X := [([], bx b82 [vi64 x40.f0, vu64 x40.f1, .slice p41 x40.f2.length c42] 51), ([9, 12], bx b2 [vi64 x3, vi64 x4, vu64 x5, vi64 x6, (pt b8 0), vi64 x17, vu32 x18, vu64 x19, .slice p21 x20.length c22, vi64 x24, (pt b26 0), vu64 x33, vi64 x34, vu64 x35, .slice p37 x36.length c38] 85), ([], bx b8 [.slice p10 x9.length c11, x15] 113), ([], bx b26 [vu32 1, vi32 0, vu32 0, vu32 1, vi64 x95, vu64 x96, .slice p98 x97.length c99] 126), ([], d13), ([], F)]) (ih := ih) (K := [9, 12]) rfl
  obtain ⟨y102, hx103⟩ : ∃ y, (some () : Option Unit) = some y := ⟨_, rfl⟩
  obtain ⟨J104, hJ104⟩ : ∃ J : Act → World → Prop, ∀ a w, J a w ↔ (caller_Caller_answer_2_r3 x5 x40 x95 x96 x97 = some r ∧ Sees a 21 [] ∧ St g w [bx b2 [vi64 x3, vi64 x4, vu64 x5, vi64 x6, (pt b8 0), vi64 x17, vu32 x18, vu64 x19, .slice p21 x20.length c22, vi64 x24, (pt b26 0), vu64 x5, vi64 x40.f0, vu64 x40.f1, .slice p41 x40.f2.length c42] 85, bx b8 [.slice p10 x9.length c11, x15] 113, bx b26 [vu32 1, vi32 0, vu32 0, vu32 1, vi64 x95, vu64 x96, .slice p98 x97.length c99] 126, d13, F] ih) := ⟨_, fun _ _ => Iff.rfl⟩
  refine c_draw (by kernel_rfl) (N := 13) rfl S101 J104 ?_ ?_
  · have hw := hw.drew
    have hS : S101 (Array.replicate 13 false) _ := SX_now hS101 (hw.vws [0, 1, 2, 3, 4, 5]) (by kernel_rfl)
    refine d_pures (fuel := 8) kS101 hs hS [0, 1, 2, 3, 4] [3, 10, 11, 14] [(3, (pt b82 0)), (10, (pt b2 0)), (11, (pt b2 0)), (14, (pt b2 2))] (by kernel_rfl) fun a hs hS => ?_
    refine d_load (fuel := 7) kS101 hs hS 5 rfl (by kernel_rfl) (SX_box hS101 1 rfl (by kernel_rfl)) 2 (by kernel_rfl) (by kernel_rfl) (v := vu64 x5) (by kernel_rfl) fun a hs hS => ?_
    refine d_load (fuel := 6) kS101 hs hS 6 rfl (by kernel_rfl) (SX_box hS101 0 rfl (by kernel_rfl)) 0 (by kernel_rfl) (by kernel_rfl) (v := .agg #[vi64 x40.f0, vu64 x40.f1, .slice p41 x40.f2.length c42]) (by kernel_rfl) fun a hs hS => ?_
    refine d_pures (fuel := 4) kS101 hs hS [7, 8] [11, 15, 16, 18] [(11, (pt b2 0)), (15, vu64 x5), (16, .agg #[vi64 x40.f0, vu64 x40.f1, .slice p41 x40.f2.length c42]), (18, (pt b2 11))] (by kernel_rfl) fun a hs hS => ?_
    refine d_all (fuel := 3) (rs := [9]) (by kernel_rfl) (by simp) (all1 ?_)
    refine o_store hs hw rfl 1 rfl 11 (by kernel_rfl) (by kernel_rfl) (v := vu64 x5) (by kernel_rfl) (by kernel_rfl) (by kernel_rfl) (by kernel_rfl) fun a w hs hw => ?_
    refine dg_next (SX_now hS101 ((hw.vws [0, 2, 3, 4, 5]).anti (Le.refl _)) (by kernel_rfl)) fun hS => ?_
    refine d_pures (fuel := 1) kS101 hs hS [10, 11] [16, 20] [(16, .agg #[vi64 x40.f0, vu64 x40.f1, .slice p41 x40.f2.length c42]), (20, (pt b2 12))] (by kernel_rfl) fun a hs hS => ?_
    refine d_all (fuel := 0) (rs := [12]) (by kernel_rfl) (by simp) (all1 ?_)
    refine o_store hs hw rfl 1 rfl 12 (by kernel_rfl) (by kernel_rfl) (v := .agg #[vi64 x40.f0, vu64 x40.f1, .slice p41 x40.f2.length c42]) (by kernel_rfl) (by kernel_rfl) (by kernel_rfl) (by kernel_rfl) fun a w hs hw => ?_
    refine dg_next (SX_now hS101 ((hw.vws [0, 2, 3, 4, 5]).anti (Le.refl _)) (by kernel_rfl)) fun hS => ?_
    refine d_done (by kernel_rfl) ?_
    obtain rfl := someE hx103
    exact (hJ104 _ _).2 ⟨hk, hs.cast [] (by kernel_rfl), hw.pick [1, 2, 3, 4, 5] (by kernel_rfl)⟩
  intro a w hh
  obtain ⟨hk, hs, hw⟩ := (hJ104 _ _).1 hh
  obtain rfl := someE hk
  refine hQn _ _ (f_retN hs [] rfl [] (by kernel_rfl) (by kernel_rfl) ⟨p41, c42, p98, c99, rfl, hw.pick [0, 1, 3, 2, 4] (by kernel_rfl), h43, h100⟩)
end Go.Proofs.YteiinkhbgpldeaaGreatDoor.Sx
