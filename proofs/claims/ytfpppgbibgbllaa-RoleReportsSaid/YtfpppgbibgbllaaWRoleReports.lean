/- The walk of RoleReports: each Go function that it calls, as a plain function, and the proof that the call computes it. Printed by the program gen.py.
   Conditions: those that each theorem states ahead of its colon, and no other. -/
import Derived.Test.YtfpppgbibgbllaaSx9
import Derived.Test.YtfpppgbibgbllaaProg
namespace Go.Proofs.Ytfpppgbibgbllaa.Sx
open Go Go.Proofs
set_option maxRecDepth 100000
set_option linter.unusedVariables false
@[reducible] def e3 : ET := eInt .i64 3
structure M53 where
  f0 : Int
  f1 : Int
  f2 : List Int
  f3 : Bool
  f4 : Int
@[reducible] def e53 : ET := ⟨M53, 5, 53, fun ih x cs => ∃ q0 k0, cs = [.int .i64 x.f0, .int .u64 x.f1, .slice q0 x.f2.length k0, .bool x.f3, .int .i64 x.f4] ∧ RSl e3 ih [] q0 k0 x.f2,
  fun ⟨_, _, h, g0⟩ => by rw [h]; rfl, fun ⟨_, _, h, g0⟩ => by rw [h]; rfl, fun ⟨p0, p1, h, g0⟩ hle => ⟨p0, p1, h, g0.mono hle⟩⟩
@[reducible] def e23 : ET := eInt .u64 23
@[reducible] def e40 : ET := eSl 40 e3
@[reducible] def e4 : ET := eBool 4
structure M56 where
  f0 : Bool
  f1 : Bool
  f2 : Bool
  f3 : Bool
  f4 : Bool
  f5 : Int
  f6 : Int
  f7 : Int
@[reducible] def e56 : ET := ⟨M56, 8, 56, fun ih x cs => cs = [.bool x.f0, .bool x.f1, .bool x.f2, .bool x.f3, .bool x.f4, .int .i64 x.f5, .int .i64 x.f6, .int .i64 x.f7],
  fun h => by rw [h]; rfl, fun h => by rw [h]; rfl, fun h hle => h⟩
structure M66 where
  f0 : Int
  f1 : Int
  f2 : Int
  f3 : Int
@[reducible] def e66 : ET := ⟨M66, 4, 66, fun ih x cs => cs = [.int .i64 x.f0, .int .i64 x.f1, .int .u64 x.f2, .int .i64 x.f3],
  fun h => by rw [h]; rfl, fun h => by rw [h]; rfl, fun h hle => h⟩
structure M59 where
  f0 : Bool
  f1 : Bool
  f2 : Bool
  f3 : Bool
  f4 : Bool
  f5 : Int
  f6 : Int
  f7 : Int
@[reducible] def e59 : ET := ⟨M59, 8, 59, fun ih x cs => cs = [.bool x.f0, .bool x.f1, .bool x.f2, .bool x.f3, .bool x.f4, .int .i64 x.f5, .int .i64 x.f6, .int .i64 x.f7],
  fun h => by rw [h]; rfl, fun h => by rw [h]; rfl, fun h hle => h⟩
theorem appT40 : AppT Try.prog 40 e3 := appT_of (by kernel_rfl)
theorem appT63 : AppT Try.prog 63 e66 := appT_of (by kernel_rfl)
def slices_Clone_int_int (x1 : List Int) : Option (List Int) :=
  (app [] x1).bind fun x => some x
theorem slices_Clone_int_int_s {x1 : List Int} {p2 : Option Addr} {c3 : Nat} {d5 : Ch} {r : List Int} (hk : slices_Clone_int_int x1 = some r) {g w : World} {F : Ch} {ih : IH} (h4 : RSl e3 ih d5 p2 c3 x1) (h6 : ∀ q ∈ d5, q ∈ F) (hw : St g w [F] ih) :
    CallsR Try.prog 114 #[.slice p2 x1.length c3] w fun v w' => ∃ (p : Option Addr) (c : Nat) (d : Ch), v = .slice p r.length c ∧ St g w' [d, F] ih ∧ OSl e3 ih p c r d := by
  rcases p2 with _ | q
  · obtain ⟨_, rfl, rfl⟩ := h4
    replace hk : some [] = some r := hk
    refine f_in (vs := [.slice none 0 0]) Try.func114 rfl 8 rfl (by kernel_rfl) [(0, .slice none 0 0)] (by kernel_rfl) fun a Qf hQ hQn hs => ?_
    refine c_seq ?_
    refine c_region ?_
    refine pures hs 1 [0] [(0, .slice none 0 0)] (by kernel_rfl) fun a hs => ?_
    refine s_end ?_
    refine c_seq ?_
    refine c_seq ?_
    refine c_region ?_
    refine pures hs 2 [0, 4] [(0, .slice none 0 0), (4, .bool true)] (by kernel_rfl) fun a hs => ?_
    refine s_end ?_
    refine c_condT hs (by kernel_rfl) (by kernel_rfl) ?_
    refine c_seq ?_
    refine c_region ?_
    refine pures hs 1 [2] [(2, .slice none 0 0)] (by kernel_rfl) fun a hs => ?_
    refine s_end ?_
    refine wp_ret ?_
    replace hw := hw.nil
    obtain rfl := someE hk
    refine hQ _ _ (f_ret1 hs rfl (v := .slice none 0 0) (by kernel_rfl) ⟨none, 0, ([]), rfl, hw.pick [0, 1] (by kernel_rfl), (OSl.nil _ _)⟩)
  · refine f_in (vs := [.slice (some q) x1.length c3]) Try.func114 rfl 8 rfl (by kernel_rfl) [(0, .slice (some q) x1.length c3)] (by kernel_rfl) fun a Qf hQ hQn hs => ?_
    refine c_seq ?_
    refine c_region ?_
    refine pures hs 1 [0] [(0, .slice (some q) x1.length c3)] (by kernel_rfl) fun a hs => ?_
    refine s_end ?_
    refine c_seq ?_
    refine c_seq ?_
    refine c_region ?_
    refine pures hs 2 [0, 4] [(0, .slice (some q) x1.length c3), (4, .bool false)] (by kernel_rfl) fun a hs => ?_
    refine s_end ?_
    refine c_condF hs (by kernel_rfl) (by kernel_rfl) ?_
    refine wp_skip ?_
    refine c_seq ?_
    refine c_region ?_
    refine s_new hs hw [] 3 (fun b => .slice (some ⟨b, 0, none⟩) 0 0) (by kernel_rfl) (fun _ => by kernel_rfl) fun a w b18 hs hw => ?_
    refine pures hs 1 [5, 6] [(5, .slice (some ⟨b18, 0, none⟩) 0 0), (6, .slice (some q) x1.length c3)] (by kernel_rfl) fun a hs => ?_
    obtain ⟨x20, h21, hk⟩ := bindE hk
    refine s_appS hs hw (E := e3) appT40 0 rfl OSl.of0 (by kernel_rfl) (by kernel_rfl) (h4.mono (Le.refl _)) (((hw.vw 1 rfl).sub h6).anti (Le.refl _)) (by kernel_rfl) h21 fun a w p22 c23 d24 h25 hw hs => ?_
    refine pures hs 1 [2] [(2, .slice p22 x20.length c23)] (by kernel_rfl) fun a hs => ?_
    refine s_end ?_
    refine wp_ret ?_
    obtain rfl := someE hk
    refine hQ _ _ (f_ret1 hs rfl (v := .slice p22 x20.length c23) (by kernel_rfl) ⟨p22, c23, d24, rfl, hw.pick [0, 1] (by kernel_rfl), h25⟩)
def conf_everybody_r2 (x207 : List Int) : Option (List Int) :=
  some x207
def conf_everybody (x1 : M53) : Option (List Int) :=
  if (x1.f4 == 0) = true then (
    (slices_Clone_int_int x1.f2).bind fun y139 =>
    some y139)
  else ((slices_Clone_int_int x1.f2).bind fun y216 =>
    (app y216 [x1.f4]).bind fun x225 =>
    some x225 : Option (List Int)).bind fun s246 => conf_everybody_r2 s246
theorem conf_everybody_s {x1 : M53} {p2 : Option Addr} {c3 : Nat} {r : (List Int)} (hk : conf_everybody x1 = some r) {g w : World} {F : Ch} {ih : IH} (h4 : RSl e3 ih [] p2 c3 x1.f2) (hw : St g w [F] ih) :
    CallsR Try.prog 109 #[.agg #[.int .i64 x1.f0, .int .u64 x1.f1, .slice p2 x1.f2.length c3, .bool x1.f3, .int .i64 x1.f4]] w fun v w' => ∃ (p247 : Option Addr) (c248 : Nat) (d249 : Ch), v = .slice p247 r.length c248 ∧ St g w' [d249, F] ih ∧ OSl e3 ih p247 c248 r d249 := by
  refine f_in (vs := [.agg #[.int .i64 x1.f0, .int .u64 x1.f1, .slice p2 x1.f2.length c3, .bool x1.f3, .int .i64 x1.f4]]) Try.func109 rfl 16 rfl (by kernel_rfl) [(0, .agg #[.int .i64 x1.f0, .int .u64 x1.f1, .slice p2 x1.f2.length c3, .bool x1.f3, .int .i64 x1.f4])] (by kernel_rfl) fun a Qf hQ hQn hs => ?_
  refine c_seq ?_
  refine c_region ?_
  refine s_new hs hw [.int .i64 x1.f0, .int .u64 x1.f1, .slice p2 x1.f2.length c3, .bool x1.f3, .int .i64 x1.f4] 53 (fun b => .pointer (some ⟨b, 0, none⟩)) (by kernel_rfl) (fun _ => by kernel_rfl) fun a w b129 hs hw => ?_
  refine pures hs 1 [1] [(1, .pointer (some ⟨b129, 0, none⟩))] (by kernel_rfl) fun a hs => ?_
  refine s_end ?_
  refine c_seq ?_
  refine c_seq ?_
  refine c_region ?_
  refine pures hs 1 [1, 3] [(1, .pointer (some ⟨b129, 0, none⟩)), (3, .pointer (some ⟨b129, 4, none⟩))] (by kernel_rfl) fun a hs => ?_
  refine s_load hs (hw.at_ 0 rfl) 4 (by kernel_rfl) (by kernel_rfl) (v := .int .i64 x1.f4) (by kernel_rfl) fun a hs => ?_
  refine pures hs 1 [1, 5] [(1, .pointer (some ⟨b129, 0, none⟩)), (5, .bool (x1.f4 == 0))] (by kernel_rfl) fun a hs => ?_
  refine s_end ?_
  rcases ifbE hk with ⟨h131, hk⟩ | ⟨h131, hk⟩
  · refine c_cond1 hs (by kernel_rfl) (t := (x1.f4 == 0)) (by kernel_rfl) h131 ?_
    refine c_seq ?_
    refine c_region ?_
    refine pures hs 1 [6] [(6, .pointer (some ⟨b129, 2, none⟩))] (by kernel_rfl) fun a hs => ?_
    refine s_load hs (hw.at_ 0 rfl) 2 (by kernel_rfl) (by kernel_rfl) (v := .slice p2 x1.f2.length c3) (by kernel_rfl) fun a hs => ?_
    obtain ⟨y139, h140, hk⟩ := bindE hk
    refine s_call hs (by kernel_rfl) (by kernel_rfl) (slices_Clone_int_int_s h140 h4 (nilSub _) ((hw.pick [1] (by kernel_rfl)).pack 0)) fun a w v hv hs => ?_
    obtain ⟨p141, c142, d144, rfl, hw, h143⟩ := hv
    replace hw := hw.unpack 1 rfl
    refine pures hs 1 [2] [(2, .slice p141 y139.length c142)] (by kernel_rfl) fun a hs => ?_
    refine s_end ?_
    refine wp_ret ?_
    obtain rfl := someE hk
    refine hQ _ _ (f_ret1 hs rfl (v := .slice p141 y139.length c142) (by kernel_rfl) ⟨p141, c142, d144, rfl, hw.pick [0, 1] (by kernel_rfl), h143⟩)
  · refine c_cond0 hs (by kernel_rfl) (t := (x1.f4 == 0)) (by kernel_rfl) h131 ?_
    refine wp_skip ?_
    refine c_seq ?_
    obtain ⟨S146, hS146, kS146⟩ := mkSX (X := [([], bx b129 [.int .i64 x1.f0, .int .u64 x1.f1, .slice p2 x1.f2.length c3, .bool x1.f3, .int .i64 x1.f4] 53), ([], F)]) (ih := ih) (K := []) rfl
    obtain ⟨y213, hx214, hk⟩ := bindE hk
    obtain ⟨J215, hJ215⟩ : ∃ J : Act → World → Prop, ∀ a w, J a w ↔ (∃ (x207 : List Int) (p208 : Option Addr) (c209 : Nat) (d211 : Ch), conf_everybody_r2 x207 = some r ∧ Sees a 16 [(2, .slice p208 x207.length c209)] ∧ St g w [d211, F] ih ∧ OSl e3 ih p208 c209 x207 d211) := ⟨_, fun _ _ => Iff.rfl⟩
    refine c_draw (by kernel_rfl) (N := 8) rfl S146 J215 ?_ ?_
    · have hw := hw.drew
      have hS : S146 (Array.replicate 8 false) _ := SX_now hS146 (hw.vws [0, 1]) (by kernel_rfl)
      refine d_pures (fuel := 7) kS146 hs hS [0] [1, 9] [(1, .pointer (some ⟨b129, 0, none⟩)), (9, .pointer (some ⟨b129, 2, none⟩))] (by kernel_rfl) fun a hs hS => ?_
      refine d_load (fuel := 6) kS146 hs hS 1 rfl (by kernel_rfl) (SX_box hS146 0 rfl (by kernel_rfl)) 2 (by kernel_rfl) (by kernel_rfl) (v := .slice p2 x1.f2.length c3) (by kernel_rfl) fun a hs hS => ?_
      refine d_pures (fuel := 5) kS146 hs hS [3] [1, 9, 10, 12] [(1, .pointer (some ⟨b129, 0, none⟩)), (9, .pointer (some ⟨b129, 2, none⟩)), (10, .slice p2 x1.f2.length c3), (12, .pointer (some ⟨b129, 4, none⟩))] (by kernel_rfl) fun a hs hS => ?_
      refine d_load (fuel := 4) kS146 hs hS 4 rfl (by kernel_rfl) (SX_box hS146 0 rfl (by kernel_rfl)) 4 (by kernel_rfl) (by kernel_rfl) (v := .int .i64 x1.f4) (by kernel_rfl) fun a hs hS => ?_
      refine d_all (fuel := 3) (rs := [2, 5]) (by kernel_rfl) (by simp) (all2 ?_ (all1 ?_))
      · obtain ⟨y216, h217, hx214⟩ := bindE hx214
        refine o_call hs rfl (by kernel_rfl) (by kernel_rfl) (slices_Clone_int_int_s h217 h4 (nilSub _) ((hw.pick [0, 1] (by kernel_rfl)).pack 0)) fun a w v hv hs => ?_
        obtain ⟨p218, c219, d221, rfl, hw, h220⟩ := hv
        replace hw := hw.unpack 1 rfl
        refine dg_next (SX_now hS146 ((hw.vws [1, 2]).anti (Le.refl _)) (by kernel_rfl)) fun hS => ?_
        refine d_all (fuel := 2) (rs := [5]) (by kernel_rfl) (by simp) (all1 ?_)
        refine o_new hs rfl hw [.int .i64 x1.f4] 3 (fun b => .slice (some ⟨b, 0, none⟩) 1 1) (by kernel_rfl) (fun _ => by kernel_rfl) fun a w b223 hs hw => ?_
        refine dg_next (SX_now hS146 ((hw.vws [2, 3]).anti (Le.refl _)) (by kernel_rfl)) fun hS => ?_
        refine d_all (fuel := 1) (rs := [6]) (by kernel_rfl) (by simp) (all1 ?_)
        obtain ⟨x225, h226, hx214⟩ := bindE hx214
        refine o_app1 hs rfl hw (E := e3) appT40 1 rfl h220 (by kernel_rfl) (by kernel_rfl) (c2 := 1) (by kernel_rfl) (hw.at_ 0 rfl) (z := x1.f4) rfl h226 fun a w p227 c228 d229 h230 hw hs => ?_
        refine dg_next (SX_now hS146 ((hw.vws [2, 3]).anti (Le.refl _)) (by kernel_rfl)) fun hS => ?_
        refine d_pures (fuel := 0) kS146 hs hS [7] [1, 9, 10, 12, 13, 14, 15, 2] [(1, .pointer (some ⟨b129, 0, none⟩)), (9, .pointer (some ⟨b129, 2, none⟩)), (10, .slice p2 x1.f2.length c3), (12, .pointer (some ⟨b129, 4, none⟩)), (13, .int .i64 x1.f4), (14, .slice (some ⟨b223, 0, none⟩) 1 1), (15, .slice p227 x225.length c228), (2, .slice p227 x225.length c228)] (by kernel_rfl) fun a hs hS => ?_
        refine d_done (by kernel_rfl) ?_
        obtain rfl := someE hx214
        exact (hJ215 _ _).2 ⟨x225, p227, c228, d229, hk, hs.cast [2] (by kernel_rfl), hw.pick [1, 3] (by kernel_rfl), h230⟩
      · refine o_new hs rfl hw [.int .i64 x1.f4] 3 (fun b => .slice (some ⟨b, 0, none⟩) 1 1) (by kernel_rfl) (fun _ => by kernel_rfl) fun a w b231 hs hw => ?_
        refine dg_next (SX_now hS146 ((hw.vws [1, 2]).anti (Le.refl _)) (by kernel_rfl)) fun hS => ?_
        refine d_all (fuel := 2) (rs := [2]) (by kernel_rfl) (by simp) (all1 ?_)
        obtain ⟨y233, h234, hx214⟩ := bindE hx214
        refine o_call hs rfl (by kernel_rfl) (by kernel_rfl) (slices_Clone_int_int_s h234 h4 (nilSub _) ((hw.pick [0, 1, 2] (by kernel_rfl)).pack 0)) fun a w v hv hs => ?_
        obtain ⟨p235, c236, d238, rfl, hw, h237⟩ := hv
        replace hw := hw.unpack 1 rfl
        refine dg_next (SX_now hS146 ((hw.vws [2, 3]).anti (Le.refl _)) (by kernel_rfl)) fun hS => ?_
        refine d_all (fuel := 1) (rs := [6]) (by kernel_rfl) (by simp) (all1 ?_)
        obtain ⟨x240, h241, hx214⟩ := bindE hx214
        refine o_app1 hs rfl hw (E := e3) appT40 0 rfl h237 (by kernel_rfl) (by kernel_rfl) (c2 := 1) (by kernel_rfl) (hw.at_ 1 rfl) (z := x1.f4) rfl h241 fun a w p242 c243 d244 h245 hw hs => ?_
        refine dg_next (SX_now hS146 ((hw.vws [2, 3]).anti (Le.refl _)) (by kernel_rfl)) fun hS => ?_
        refine d_pures (fuel := 0) kS146 hs hS [7] [1, 9, 10, 12, 13, 14, 15, 2] [(1, .pointer (some ⟨b129, 0, none⟩)), (9, .pointer (some ⟨b129, 2, none⟩)), (10, .slice p2 x1.f2.length c3), (12, .pointer (some ⟨b129, 4, none⟩)), (13, .int .i64 x1.f4), (14, .slice (some ⟨b231, 0, none⟩) 1 1), (15, .slice p242 x240.length c243), (2, .slice p242 x240.length c243)] (by kernel_rfl) fun a hs hS => ?_
        refine d_done (by kernel_rfl) ?_
        obtain rfl := someE hx214
        exact (hJ215 _ _).2 ⟨x240, p242, c243, d244, hk, hs.cast [2] (by kernel_rfl), hw.pick [0, 3] (by kernel_rfl), h245⟩
    · intro a w hh
      obtain ⟨x207, p208, c209, d211, hk, hs, hw, h210⟩ := (hJ215 _ _).1 hh
      refine wp_ret ?_
      obtain rfl := someE hk
      refine hQ _ _ (f_ret1 hs rfl (v := .slice p208 x207.length c209) (by kernel_rfl) ⟨p208, c209, d211, rfl, hw.pick [0, 1] (by kernel_rfl), h210⟩)
def conf_node (x1 : Int) : Option Bool :=
  some ((decide (x1 ≥ 1)) && (decide (x1 ≤ 24)))
theorem conf_node_s {x1 : Int} {r : Bool} (hk : conf_node x1 = some r) {g w : World} {F : Ch} {ih : IH} (hw : St g w [F] ih) :
    CallsR Try.prog 113 #[.int .i64 x1] w fun v w' => v = .bool r ∧ St g w' [F] ih := by
  refine f_in (vs := [.int .i64 x1]) Try.func113 rfl 9 rfl (by kernel_rfl) [(0, .int .i64 x1)] (by kernel_rfl) fun a Qf hQ hQn hs => ?_
  refine c_seq ?_
  refine c_region ?_
  refine pures hs 1 [0] [(0, .int .i64 x1)] (by kernel_rfl) fun a hs => ?_
  refine s_end ?_
  refine c_seq ?_
  obtain ⟨J12, hJ12⟩ : ∃ J : Act → World → Prop, ∀ a w, J a w ↔ (Sees a 9 [(2, .bool ((decide (x1 ≥ 1)) && (decide (x1 ≤ 24))))] ∧ St g w [F] ih) := ⟨_, fun _ _ => Iff.rfl⟩
  refine c_regJ J12 ?_ ?_
  · refine pures hs 3 [0, 5] [(0, .int .i64 x1), (5, .bool (decide (x1 ≥ 1)))] (by kernel_rfl) fun a hs => ?_
    rcases boolE (decide (x1 ≥ 1)) with h13 | h13
    · replace hs := hs.altB 5 true (by kernel_rfl) h13
      refine pures hs 4 [2] [(2, .bool (decide (x1 ≤ 24)))] (by kernel_rfl) fun a hs => ?_
      refine s_end ?_
      exact (hJ12 _ _).2 ⟨(hs.altB 2 ((decide (x1 ≥ 1)) && (decide (x1 ≤ 24))) (by kernel_rfl) (by rw [h13] <;> rfl)).cast [2] (by kernel_rfl), hw.pick [0] (by kernel_rfl)⟩
    · replace hs := hs.altB 5 false (by kernel_rfl) h13
      refine pures hs 4 [2] [(2, .bool false)] (by kernel_rfl) fun a hs => ?_
      refine s_end ?_
      exact (hJ12 _ _).2 ⟨(hs.altB 2 ((decide (x1 ≥ 1)) && (decide (x1 ≤ 24))) (by kernel_rfl) (by rw [h13] <;> rfl)).cast [2] (by kernel_rfl), hw.pick [0] (by kernel_rfl)⟩
  · intro a w hh
    obtain ⟨hs, hw⟩ := (hJ12 _ _).1 hh
    refine wp_ret ?_
    obtain rfl := someE hk
    refine hQ _ _ (f_ret1 hs rfl (v := .bool ((decide (x1 ≥ 1)) && (decide (x1 ≤ 24)))) (by kernel_rfl) ⟨rfl, hw.pick [0] (by kernel_rfl)⟩)
def slices_Index_int_int_r3 : Option Int :=
  some (-1)
def slices_Index_int_int_l4 (x1 : List Int) (x7 : Int) : Nat → Int → Option (Sum Int Unit)
  | 0, _ => none
  | j + 1, x78 =>
    if (decide (x78 < (x1.length : Int))) = true then (
      (ix x1 x78).bind fun x98 =>
      if (x7 == x98) = true then some (.inl x78)
      else slices_Index_int_int_l4 x1 x7 j (IntKind.i64.wrap (x78 + 1)))
    else some (.inr ())
def slices_Index_int_int (k : Nat) (x1 : List Int) (x7 : Int) : Option Int :=
  (slices_Index_int_int_l4 x1 x7 k 0 : Option (Sum Int Unit)).bind fun
    | .inl z => some z
    | .inr _ => slices_Index_int_int_r3
theorem slices_Index_int_int_s {k : Nat} {x1 : List Int} {x7 : Int} {p2 : Option Addr} {c3 : Nat} {d5 : Ch} {r : Int} (hk : slices_Index_int_int k x1 x7 = some r) {g w : World} {F : Ch} {ih : IH} (h4 : RSl e3 ih d5 p2 c3 x1) (h6 : ∀ q ∈ d5, q ∈ F) (hw : St g w [F] ih) :
    CallsR Try.prog 81 #[.slice p2 x1.length c3, .int .i64 x7] w fun v w' => v = .int .i64 r ∧ St g w' [F] ih := by
  refine f_in (vs := [.slice p2 x1.length c3, .int .i64 x7]) Try.func81 rfl 19 rfl (by kernel_rfl) [(0, .slice p2 x1.length c3), (1, .int .i64 x7)] (by kernel_rfl) fun a Qf hQ hQn hs => ?_
  refine c_seq ?_
  refine c_region ?_
  refine pures hs 1 [0, 1] [(0, .slice p2 x1.length c3), (1, .int .i64 x7)] (by kernel_rfl) fun a hs => ?_
  refine s_end ?_
  refine c_seq ?_
  refine c_seq ?_
  refine c_region ?_
  refine pures hs 3 [0, 1, 7, 8] [(0, .slice p2 x1.length c3), (1, .int .i64 x7), (7, .int .i64 (x1.length : Int)), (8, .int .i64 0)] (by kernel_rfl) fun a hs => ?_
  refine s_end ?_
  refine c_block ?_
  obtain ⟨y89, hx90, hk⟩ := bindE hk
  obtain ⟨J91, hJ91⟩ : ∃ J : Act → World → Prop, ∀ a w, J a w ↔ (slices_Index_int_int_r3 = some r ∧ Sees a 19 [] ∧ St g w [F] ih) := ⟨_, fun _ _ => Iff.rfl⟩
  obtain ⟨I92, hI92⟩ : ∃ J : Nat → Act → World → Prop, ∀ j a w, J j a w ↔ (∃ (x78 : Int), slices_Index_int_int_l4 x1 x7 j x78 = some y89 ∧ Sees a 19 [(0, .slice p2 x1.length c3), (1, .int .i64 x7), (7, .int .i64 (x1.length : Int)), (8, .int .i64 x78)] ∧ St g w [F] ih) := ⟨_, fun _ _ _ => Iff.rfl⟩
  refine c_exitJ 0 J91 ?_ ?_
  · refine c_loop I92 k ((hI92 _ _ _).2 ⟨0, hx90, hs.cast [0, 1, 7, 8] (by kernel_rfl), hw.pick [0] (by kernel_rfl)⟩) (fun a w h0 => ?_) fun j a w hh => ?_
    · obtain ⟨_, h, _⟩ := (hI92 _ _ _).1 h0
      cases h
    · obtain ⟨x78, hx90, hs, hw⟩ := (hI92 _ _ _).1 hh
      refine c_seq ?_
      refine c_region ?_
      refine pures hs 1 [0, 1, 7, 8, 9] [(0, .slice p2 x1.length c3), (1, .int .i64 x7), (7, .int .i64 (x1.length : Int)), (8, .int .i64 x78), (9, .bool (decide (x78 < (x1.length : Int))))] (by kernel_rfl) fun a hs => ?_
      refine s_end ?_
      refine c_seq ?_
      rcases ifbE hx90 with ⟨h93, hx90⟩ | ⟨h93, hx90⟩
      · refine c_cond1 hs (by kernel_rfl) (t := (decide (x78 < (x1.length : Int)))) (by kernel_rfl) h93 ?_
        refine wp_skip ?_
        refine c_seq ?_
        refine c_block ?_
        refine c_seq ?_
        refine c_region ?_
        refine pures hs 2 [0, 1, 7, 8, 5] [(0, .slice p2 x1.length c3), (1, .int .i64 x7), (7, .int .i64 (x1.length : Int)), (8, .int .i64 x78), (5, .int .i64 x78)] (by kernel_rfl) fun a hs => ?_
        refine s_end ?_
        refine c_seq ?_
        refine c_region ?_
        refine pures hs 3 [0, 1, 7, 8, 5, 11, 12, 13] [(0, .slice p2 x1.length c3), (1, .int .i64 x7), (7, .int .i64 (x1.length : Int)), (8, .int .i64 x78), (5, .int .i64 x78), (11, .int .i64 x7), (12, .slice p2 x1.length c3), (13, .int .i64 x78)] (by kernel_rfl) fun a hs => ?_
        obtain ⟨x98, h99, hx90⟩ := bindE hx90
        refine s_index hs h4 (by kernel_rfl) (by kernel_rfl) (k := .i64) (by kernel_rfl) 3 (by kernel_rfl) (by kernel_rfl) h99 fun a r100 cs henc at101 hs => ?_
        obtain rfl := henc
        refine s_load hs (at101 _ (((hw.vw 0 rfl).sub h6).anti (Le.refl _))) 0 (by kernel_rfl) (by kernel_rfl) (v := .int .i64 x98) (by kernel_rfl) fun a hs => ?_
        refine pures hs 1 [0, 1, 7, 8, 5, 16] [(0, .slice p2 x1.length c3), (1, .int .i64 x7), (7, .int .i64 (x1.length : Int)), (8, .int .i64 x78), (5, .int .i64 x78), (16, .bool (x7 == x98))] (by kernel_rfl) fun a hs => ?_
        refine s_end ?_
        rcases ifbE hx90 with ⟨h102, hx90⟩ | ⟨h102, hx90⟩
        · refine c_cond1 hs (by kernel_rfl) (t := (x7 == x98)) (by kernel_rfl) h102 ?_
          refine c_seq ?_
          refine c_region ?_
          refine pures hs 2 [4] [(4, .int .i64 x78)] (by kernel_rfl) fun a hs => ?_
          refine s_end ?_
          refine wp_ret ?_
          obtain rfl := someE hx90
          obtain rfl := someE hk
          refine hQ _ _ (f_ret1 hs rfl (v := .int .i64 x78) (by kernel_rfl) ⟨rfl, hw.pick [0] (by kernel_rfl)⟩)
        · refine c_cond0 hs (by kernel_rfl) (t := (x7 == x98)) (by kernel_rfl) h102 ?_
          refine wp_skip ?_
          refine c_region ?_
          refine pures hs 2 [0, 1, 7, 8] [(0, .slice p2 x1.length c3), (1, .int .i64 x7), (7, .int .i64 (x1.length : Int)), (8, .int .i64 (IntKind.i64.wrap (x78 + 1)))] (by kernel_rfl) fun a hs => ?_
          refine s_end ?_
          exact (hI92 _ _ _).2 ⟨(IntKind.i64.wrap (x78 + 1)), hx90, hs.cast [0, 1, 7, 8] (by kernel_rfl), hw.pick [0] (by kernel_rfl)⟩
      · refine c_cond0 hs (by kernel_rfl) (t := (decide (x78 < (x1.length : Int)))) (by kernel_rfl) h93 ?_
        refine wp_exit ?_
        obtain rfl := someE hx90
        exact (hJ91 _ _).2 ⟨hk, hs.cast [] (by kernel_rfl), hw.pick [0] (by kernel_rfl)⟩
  · intro a w hh
    obtain ⟨hk, hs, hw⟩ := (hJ91 _ _).1 hh
    refine c_seq ?_
    refine c_region ?_
    refine pures hs 1 [4] [(4, .int .i64 (-1))] (by kernel_rfl) fun a hs => ?_
    refine s_end ?_
    refine wp_ret ?_
    obtain rfl := someE hk
    refine hQ _ _ (f_ret1 hs rfl (v := .int .i64 (-1)) (by kernel_rfl) ⟨rfl, hw.pick [0] (by kernel_rfl)⟩)
def slices_Contains_int_int (k : Nat) (x1 : List Int) (x7 : Int) : Option Bool :=
  (slices_Index_int_int k x1 x7).bind fun y16 =>
  some (decide (y16 ≥ 0))
theorem slices_Contains_int_int_s {k : Nat} {x1 : List Int} {x7 : Int} {p2 : Option Addr} {c3 : Nat} {d5 : Ch} {r : Bool} (hk : slices_Contains_int_int k x1 x7 = some r) {g w : World} {F : Ch} {ih : IH} (h4 : RSl e3 ih d5 p2 c3 x1) (h6 : ∀ q ∈ d5, q ∈ F) (hw : St g w [F] ih) :
    CallsR Try.prog 82 #[.slice p2 x1.length c3, .int .i64 x7] w fun v w' => v = .bool r ∧ St g w' [F] ih := by
  refine f_in (vs := [.slice p2 x1.length c3, .int .i64 x7]) Try.func82 rfl 9 rfl (by kernel_rfl) [(0, .slice p2 x1.length c3), (1, .int .i64 x7)] (by kernel_rfl) fun a Qf hQ hQn hs => ?_
  refine c_seq ?_
  refine c_region ?_
  refine pures hs 1 [0, 1] [(0, .slice p2 x1.length c3), (1, .int .i64 x7)] (by kernel_rfl) fun a hs => ?_
  refine s_end ?_
  refine c_seq ?_
  refine c_region ?_
  refine pures hs 2 [5, 6] [(5, .slice p2 x1.length c3), (6, .int .i64 x7)] (by kernel_rfl) fun a hs => ?_
  obtain ⟨y16, h17, hk⟩ := bindE hk
  refine s_call hs (by kernel_rfl) (by kernel_rfl) (slices_Index_int_int_s h17 h4 (fun q hq => memF 0 rfl q (h6 q hq)) ((hw.pick [0] (by kernel_rfl)).pack 0)) fun a w v hv hs => ?_
  obtain ⟨rfl, hw⟩ := hv
  replace hw := hw.unpack 0 rfl
  refine pures hs 2 [4] [(4, .bool (decide (y16 ≥ 0)))] (by kernel_rfl) fun a hs => ?_
  refine s_end ?_
  refine wp_ret ?_
  obtain rfl := someE hk
  refine hQ _ _ (f_ret1 hs rfl (v := .bool (decide (y16 ≥ 0))) (by kernel_rfl) ⟨rfl, hw.pick [0] (by kernel_rfl)⟩)
def conf_unlike_r10 : Option Bool :=
  some true
def conf_unlike_r12 (rec_conf_unlike_l11 : Int → Option (Sum Bool Unit)) (x287 : Int) (x366 : Bool) : Option (Sum Bool Unit) :=
  if x366 = true then some (.inl false)
  else rec_conf_unlike_l11 (IntKind.i64.wrap (x287 + 1))
def conf_unlike_l11 (k : Nat) (x1 : List Int) : Nat → Int → Option (Sum Bool Unit)
  | 0, _ => none
  | j + 1, x287 =>
    if (decide (x287 < (x1.length : Int))) = true then (
      (ix x1 x287).bind fun x342 =>
      ((conf_node x342).bind fun y371 =>
        if (!y371) = true then some true
        else (sl x1 0 x287).bind fun x374 =>
        (slices_Contains_int_int k x374 x342).bind fun y379 =>
        some y379 : Option Bool).bind fun s381 => conf_unlike_r12 (conf_unlike_l11 k x1 j) x287 s381)
    else some (.inr ())
def conf_unlike (k : Nat) (x1 : List Int) : Option Bool :=
  (conf_unlike_l11 k x1 k 0 : Option (Sum Bool Unit)).bind fun
    | .inl z => some z
    | .inr _ => conf_unlike_r10
theorem conf_unlike_s {k : Nat} {x1 : List Int} {p2 : Option Addr} {c3 : Nat} {d5 : Ch} {r : Bool} (hk : conf_unlike k x1 = some r) {g w : World} {F : Ch} {ih : IH} (h4 : RSl e3 ih d5 p2 c3 x1) (h6 : ∀ q ∈ d5, q ∈ F) (hw : St g w [F] ih) :
    CallsR Try.prog 108 #[.slice p2 x1.length c3] w fun v w' => v = .bool r ∧ St g w' [F] ih := by
  refine f_in (vs := [.slice p2 x1.length c3]) Try.func108 rfl 23 rfl (by kernel_rfl) [(0, .slice p2 x1.length c3)] (by kernel_rfl) fun a Qf hQ hQn hs => ?_
  refine c_seq ?_
  refine c_region ?_
  refine pures hs 1 [0] [(0, .slice p2 x1.length c3)] (by kernel_rfl) fun a hs => ?_
  refine s_end ?_
  refine c_seq ?_
  refine c_seq ?_
  refine c_region ?_
  refine pures hs 3 [0, 5, 6, 7] [(0, .slice p2 x1.length c3), (5, .slice p2 x1.length c3), (6, .int .i64 (x1.length : Int)), (7, .int .i64 0)] (by kernel_rfl) fun a hs => ?_
  refine s_end ?_
  refine c_block ?_
  obtain ⟨y333, hx334, hk⟩ := bindE hk
  obtain ⟨J335, hJ335⟩ : ∃ J : Act → World → Prop, ∀ a w, J a w ↔ (conf_unlike_r10 = some r ∧ Sees a 23 [] ∧ St g w [F] ih) := ⟨_, fun _ _ => Iff.rfl⟩
  obtain ⟨I336, hI336⟩ : ∃ J : Nat → Act → World → Prop, ∀ j a w, J j a w ↔ (∃ (x287 : Int), conf_unlike_l11 k x1 j x287 = some y333 ∧ Sees a 23 [(0, .slice p2 x1.length c3), (5, .slice p2 x1.length c3), (6, .int .i64 (x1.length : Int)), (7, .int .i64 x287)] ∧ St g w [F] ih) := ⟨_, fun _ _ _ => Iff.rfl⟩
  refine c_exitJ 0 J335 ?_ ?_
  · refine c_loop I336 k ((hI336 _ _ _).2 ⟨0, hx334, hs.cast [0, 5, 6, 7] (by kernel_rfl), hw.pick [0] (by kernel_rfl)⟩) (fun a w h0 => ?_) fun j a w hh => ?_
    · obtain ⟨_, h, _⟩ := (hI336 _ _ _).1 h0
      cases h
    · obtain ⟨x287, hx334, hs, hw⟩ := (hI336 _ _ _).1 hh
      refine c_seq ?_
      refine c_region ?_
      refine pures hs 1 [0, 5, 6, 7, 8] [(0, .slice p2 x1.length c3), (5, .slice p2 x1.length c3), (6, .int .i64 (x1.length : Int)), (7, .int .i64 x287), (8, .bool (decide (x287 < (x1.length : Int))))] (by kernel_rfl) fun a hs => ?_
      refine s_end ?_
      refine c_seq ?_
      rcases ifbE hx334 with ⟨h337, hx334⟩ | ⟨h337, hx334⟩
      · refine c_cond1 hs (by kernel_rfl) (t := (decide (x287 < (x1.length : Int)))) (by kernel_rfl) h337 ?_
        refine wp_skip ?_
        refine c_seq ?_
        refine c_block ?_
        refine c_seq ?_
        refine c_region ?_
        refine pures hs 1 [0, 5, 6, 7, 9] [(0, .slice p2 x1.length c3), (5, .slice p2 x1.length c3), (6, .int .i64 (x1.length : Int)), (7, .int .i64 x287), (9, .int .i64 x287)] (by kernel_rfl) fun a hs => ?_
        obtain ⟨x342, h343, hx334⟩ := bindE hx334
        refine s_index hs h4 (by kernel_rfl) (by kernel_rfl) (k := .i64) (by kernel_rfl) 3 (by kernel_rfl) (by kernel_rfl) h343 fun a r344 cs henc at345 hs => ?_
        obtain rfl := henc
        refine s_load hs (at345 _ (((hw.vw 0 rfl).sub h6).anti (Le.refl _))) 0 (by kernel_rfl) (by kernel_rfl) (v := .int .i64 x342) (by kernel_rfl) fun a hs => ?_
        refine pures hs 2 [0, 5, 6, 7, 3, 4] [(0, .slice p2 x1.length c3), (5, .slice p2 x1.length c3), (6, .int .i64 (x1.length : Int)), (7, .int .i64 x287), (3, .int .i64 x287), (4, .int .i64 x342)] (by kernel_rfl) fun a hs => ?_
        refine s_end ?_
        refine c_seq ?_
        obtain ⟨y368, hx369, hx334⟩ := bindE hx334
        obtain ⟨J370, hJ370⟩ : ∃ J : Act → World → Prop, ∀ a w, J a w ↔ (∃ (x366 : Bool), conf_unlike_r12 (conf_unlike_l11 k x1 j) x287 x366 = some y333 ∧ Sees a 23 [(0, .slice p2 x1.length c3), (5, .slice p2 x1.length c3), (6, .int .i64 (x1.length : Int)), (7, .int .i64 x287), (21, .bool x366)] ∧ St g w [F] ih) := ⟨_, fun _ _ => Iff.rfl⟩
        refine c_regJ J370 ?_ ?_
        · refine pures hs 1 [0, 5, 6, 7, 3, 4, 12] [(0, .slice p2 x1.length c3), (5, .slice p2 x1.length c3), (6, .int .i64 (x1.length : Int)), (7, .int .i64 x287), (3, .int .i64 x287), (4, .int .i64 x342), (12, .int .i64 x342)] (by kernel_rfl) fun a hs => ?_
          obtain ⟨y371, h372, hx369⟩ := bindE hx369
          refine s_call hs (by kernel_rfl) (by kernel_rfl) (conf_node_s h372 ((hw.pick [0] (by kernel_rfl)).pack 0)) fun a w v hv hs => ?_
          obtain ⟨rfl, hw⟩ := hv
          replace hw := hw.unpack 0 rfl
          refine pures hs 2 [0, 5, 6, 7, 3, 4, 15] [(0, .slice p2 x1.length c3), (5, .slice p2 x1.length c3), (6, .int .i64 (x1.length : Int)), (7, .int .i64 x287), (3, .int .i64 x287), (4, .int .i64 x342), (15, .bool (!y371))] (by kernel_rfl) fun a hs => ?_
          rcases ifbE hx369 with ⟨h373, hx369⟩ | ⟨h373, hx369⟩
          · replace hs := hs.altB 15 true (by kernel_rfl) h373
            refine pures hs 6 [0, 5, 6, 7, 21] [(0, .slice p2 x1.length c3), (5, .slice p2 x1.length c3), (6, .int .i64 (x1.length : Int)), (7, .int .i64 x287), (21, .bool true)] (by kernel_rfl) fun a hs => ?_
            refine s_end ?_
            obtain rfl := someE hx369
            exact (hJ370 _ _).2 ⟨true, hx334, hs.cast [0, 5, 6, 7, 21] (by kernel_rfl), hw.pick [0] (by kernel_rfl)⟩
          · replace hs := hs.altB 15 false (by kernel_rfl) h373
            refine pures hs 2 [0, 5, 6, 7, 4, 15, 16, 17] [(0, .slice p2 x1.length c3), (5, .slice p2 x1.length c3), (6, .int .i64 (x1.length : Int)), (7, .int .i64 x287), (4, .int .i64 x342), (15, .bool false), (16, .slice p2 x1.length c3), (17, .int .i64 x287)] (by kernel_rfl) fun a hs => ?_
            obtain ⟨x374, h375, hx369⟩ := bindE hx369
            refine s_slice hs h4 (by kernel_rfl) (by kernel_rfl) 3 (by kernel_rfl) (by kernel_rfl) (by kernel_rfl) (by kernel_rfl) (by kernel_rfl) h375 (.inl rfl) fun a p376 c377 h378 hs => ?_
            refine pures hs 1 [0, 5, 6, 7, 15, 18, 19] [(0, .slice p2 x1.length c3), (5, .slice p2 x1.length c3), (6, .int .i64 (x1.length : Int)), (7, .int .i64 x287), (15, .bool false), (18, .slice p376 x374.length c377), (19, .int .i64 x342)] (by kernel_rfl) fun a hs => ?_
            obtain ⟨y379, h380, hx369⟩ := bindE hx369
            refine s_call hs (by kernel_rfl) (by kernel_rfl) (slices_Contains_int_int_s h380 h378 (fun q hq => memF 0 rfl q (h6 q hq)) ((hw.pick [0] (by kernel_rfl)).pack 0)) fun a w v hv hs => ?_
            obtain ⟨rfl, hw⟩ := hv
            replace hw := hw.unpack 0 rfl
            refine pures hs 1 [0, 5, 6, 7, 21] [(0, .slice p2 x1.length c3), (5, .slice p2 x1.length c3), (6, .int .i64 (x1.length : Int)), (7, .int .i64 x287), (21, .bool y379)] (by kernel_rfl) fun a hs => ?_
            refine s_end ?_
            obtain rfl := someE hx369
            exact (hJ370 _ _).2 ⟨y379, hx334, hs.cast [0, 5, 6, 7, 21] (by kernel_rfl), hw.pick [0] (by kernel_rfl)⟩
        · intro a w hh
          obtain ⟨x366, hx334, hs, hw⟩ := (hJ370 _ _).1 hh
          rcases ifbE hx334 with ⟨h367, hx334⟩ | ⟨h367, hx334⟩
          · refine c_cond1 hs (by kernel_rfl) (t := x366) (by kernel_rfl) h367 ?_
            refine c_seq ?_
            refine c_region ?_
            refine pures hs 1 [2] [(2, .bool false)] (by kernel_rfl) fun a hs => ?_
            refine s_end ?_
            refine wp_ret ?_
            obtain rfl := someE hx334
            obtain rfl := someE hk
            refine hQ _ _ (f_ret1 hs rfl (v := .bool false) (by kernel_rfl) ⟨rfl, hw.pick [0] (by kernel_rfl)⟩)
          · refine c_cond0 hs (by kernel_rfl) (t := x366) (by kernel_rfl) h367 ?_
            refine wp_skip ?_
            refine c_region ?_
            refine pures hs 2 [0, 5, 6, 7] [(0, .slice p2 x1.length c3), (5, .slice p2 x1.length c3), (6, .int .i64 (x1.length : Int)), (7, .int .i64 (IntKind.i64.wrap (x287 + 1)))] (by kernel_rfl) fun a hs => ?_
            refine s_end ?_
            exact (hI336 _ _ _).2 ⟨(IntKind.i64.wrap (x287 + 1)), hx334, hs.cast [0, 5, 6, 7] (by kernel_rfl), hw.pick [0] (by kernel_rfl)⟩
      · refine c_cond0 hs (by kernel_rfl) (t := (decide (x287 < (x1.length : Int)))) (by kernel_rfl) h337 ?_
        refine wp_exit ?_
        obtain rfl := someE hx334
        exact (hJ335 _ _).2 ⟨hk, hs.cast [] (by kernel_rfl), hw.pick [0] (by kernel_rfl)⟩
  · intro a w hh
    obtain ⟨hk, hs, hw⟩ := (hJ335 _ _).1 hh
    refine c_seq ?_
    refine c_region ?_
    refine pures hs 1 [2] [(2, .bool true)] (by kernel_rfl) fun a hs => ?_
    refine s_end ?_
    refine wp_ret ?_
    obtain rfl := someE hk
    refine hQ _ _ (f_ret1 hs rfl (v := .bool true) (by kernel_rfl) ⟨rfl, hw.pick [0] (by kernel_rfl)⟩)
def conf_Right (k : Nat) (x1 : M53) : Option Bool :=
  if ((decide (x1.f0 < 0)) || ((decide (x1.f0 ≥ 4)) || (decide (x1.f1 < 1)))) = true then some false
  else if ((decide ((x1.f2.length : Int) < 1)) || ((decide ((x1.f2.length : Int) > 5)) || (x1.f3 && ((decide ((x1.f2.length : Int) < 2)) || (x1.f4 != 0))))) = true then some false
  else (conf_everybody x1).bind fun y90 =>
  (conf_unlike k y90).bind fun y97 =>
  some y97
theorem conf_Right_s {k : Nat} {x1 : M53} {p2 : Option Addr} {c3 : Nat} {r : Bool} (hk : conf_Right k x1 = some r) {g w : World} {F : Ch} {ih : IH} (h4 : RSl e3 ih [] p2 c3 x1.f2) (hw : St g w [F] ih) :
    CallsR Try.prog 80 #[.agg #[.int .i64 x1.f0, .int .u64 x1.f1, .slice p2 x1.f2.length c3, .bool x1.f3, .int .i64 x1.f4]] w fun v w' => v = .bool r ∧ St g w' [F] ih := by
  refine f_in (vs := [.agg #[.int .i64 x1.f0, .int .u64 x1.f1, .slice p2 x1.f2.length c3, .bool x1.f3, .int .i64 x1.f4]]) Try.func80 rfl 44 rfl (by kernel_rfl) [(0, .agg #[.int .i64 x1.f0, .int .u64 x1.f1, .slice p2 x1.f2.length c3, .bool x1.f3, .int .i64 x1.f4])] (by kernel_rfl) fun a Qf hQ hQn hs => ?_
  refine c_seq ?_
  refine c_region ?_
  refine s_new hs hw [.int .i64 x1.f0, .int .u64 x1.f1, .slice p2 x1.f2.length c3, .bool x1.f3, .int .i64 x1.f4] 53 (fun b => .pointer (some ⟨b, 0, none⟩)) (by kernel_rfl) (fun _ => by kernel_rfl) fun a w b55 hs hw => ?_
  refine pures hs 1 [1] [(1, .pointer (some ⟨b55, 0, none⟩))] (by kernel_rfl) fun a hs => ?_
  refine s_end ?_
  refine c_seq ?_
  refine c_region ?_
  refine pures hs 1 [1, 4] [(1, .pointer (some ⟨b55, 0, none⟩)), (4, .pointer (some ⟨b55, 2, none⟩))] (by kernel_rfl) fun a hs => ?_
  refine s_load hs (hw.at_ 0 rfl) 2 (by kernel_rfl) (by kernel_rfl) (v := .slice p2 x1.f2.length c3) (by kernel_rfl) fun a hs => ?_
  refine pures hs 2 [1, 3] [(1, .pointer (some ⟨b55, 0, none⟩)), (3, .int .i64 (x1.f2.length : Int))] (by kernel_rfl) fun a hs => ?_
  refine s_end ?_
  refine c_seq ?_
  refine c_block ?_
  refine c_seq ?_
  obtain ⟨J62, hJ62⟩ : ∃ J : Act → World → Prop, ∀ a w, J a w ↔ (Sees a 44 [(1, .pointer (some ⟨b55, 0, none⟩)), (3, .int .i64 (x1.f2.length : Int)), (7, .bool ((decide (x1.f0 < 0)) || ((decide (x1.f0 ≥ 4)) || (decide (x1.f1 < 1)))))] ∧ St g w [bx b55 [.int .i64 x1.f0, .int .u64 x1.f1, .slice p2 x1.f2.length c3, .bool x1.f3, .int .i64 x1.f4] 53, F] ih) := ⟨_, fun _ _ => Iff.rfl⟩
  refine c_regJ J62 ?_ ?_
  · refine pures hs 1 [1, 3, 8] [(1, .pointer (some ⟨b55, 0, none⟩)), (3, .int .i64 (x1.f2.length : Int)), (8, .pointer (some ⟨b55, 0, none⟩))] (by kernel_rfl) fun a hs => ?_
    refine s_load hs (hw.at_ 0 rfl) 0 (by kernel_rfl) (by kernel_rfl) (v := .int .i64 x1.f0) (by kernel_rfl) fun a hs => ?_
    refine pures hs 2 [1, 3, 11] [(1, .pointer (some ⟨b55, 0, none⟩)), (3, .int .i64 (x1.f2.length : Int)), (11, .bool (decide (x1.f0 < 0)))] (by kernel_rfl) fun a hs => ?_
    rcases boolE (decide (x1.f0 < 0)) with h63 | h63
    · replace hs := hs.altB 11 true (by kernel_rfl) h63
      refine pures hs 10 [1, 3, 7] [(1, .pointer (some ⟨b55, 0, none⟩)), (3, .int .i64 (x1.f2.length : Int)), (7, .bool true)] (by kernel_rfl) fun a hs => ?_
      refine s_end ?_
      exact (hJ62 _ _).2 ⟨(hs.altB 7 ((decide (x1.f0 < 0)) || ((decide (x1.f0 ≥ 4)) || (decide (x1.f1 < 1)))) (by kernel_rfl) (by rw [h63] <;> rfl)).cast [1, 3, 7] (by kernel_rfl), hw.pick [0, 1] (by kernel_rfl)⟩
    · replace hs := hs.altB 11 false (by kernel_rfl) h63
      refine pures hs 1 [1, 3, 11, 12] [(1, .pointer (some ⟨b55, 0, none⟩)), (3, .int .i64 (x1.f2.length : Int)), (11, .bool false), (12, .pointer (some ⟨b55, 0, none⟩))] (by kernel_rfl) fun a hs => ?_
      refine s_load hs (hw.at_ 0 rfl) 0 (by kernel_rfl) (by kernel_rfl) (v := .int .i64 x1.f0) (by kernel_rfl) fun a hs => ?_
      refine pures hs 3 [1, 3, 16] [(1, .pointer (some ⟨b55, 0, none⟩)), (3, .int .i64 (x1.f2.length : Int)), (16, .bool (decide (x1.f0 ≥ 4)))] (by kernel_rfl) fun a hs => ?_
      rcases boolE (decide (x1.f0 ≥ 4)) with h64 | h64
      · replace hs := hs.altB 16 true (by kernel_rfl) h64
        refine pures hs 5 [1, 3, 7] [(1, .pointer (some ⟨b55, 0, none⟩)), (3, .int .i64 (x1.f2.length : Int)), (7, .bool true)] (by kernel_rfl) fun a hs => ?_
        refine s_end ?_
        exact (hJ62 _ _).2 ⟨(hs.altB 7 ((decide (x1.f0 < 0)) || ((decide (x1.f0 ≥ 4)) || (decide (x1.f1 < 1)))) (by kernel_rfl) (by rw [h63, h64] <;> rfl)).cast [1, 3, 7] (by kernel_rfl), hw.pick [0, 1] (by kernel_rfl)⟩
      · replace hs := hs.altB 16 false (by kernel_rfl) h64
        refine pures hs 1 [1, 3, 16, 17] [(1, .pointer (some ⟨b55, 0, none⟩)), (3, .int .i64 (x1.f2.length : Int)), (16, .bool false), (17, .pointer (some ⟨b55, 1, none⟩))] (by kernel_rfl) fun a hs => ?_
        refine s_load hs (hw.at_ 0 rfl) 1 (by kernel_rfl) (by kernel_rfl) (v := .int .u64 x1.f1) (by kernel_rfl) fun a hs => ?_
        refine pures hs 3 [1, 3, 7] [(1, .pointer (some ⟨b55, 0, none⟩)), (3, .int .i64 (x1.f2.length : Int)), (7, .bool (decide (x1.f1 < 1)))] (by kernel_rfl) fun a hs => ?_
        refine s_end ?_
        exact (hJ62 _ _).2 ⟨(hs.altB 7 ((decide (x1.f0 < 0)) || ((decide (x1.f0 ≥ 4)) || (decide (x1.f1 < 1)))) (by kernel_rfl) (by rw [h63, h64] <;> rfl)).cast [1, 3, 7] (by kernel_rfl), hw.pick [0, 1] (by kernel_rfl)⟩
  · intro a w hh
    obtain ⟨hs, hw⟩ := (hJ62 _ _).1 hh
    rcases ifbE hk with ⟨h65, hk⟩ | ⟨h65, hk⟩
    · refine c_cond1 hs (by kernel_rfl) (t := ((decide (x1.f0 < 0)) || ((decide (x1.f0 ≥ 4)) || (decide (x1.f1 < 1))))) (by kernel_rfl) h65 ?_
      refine c_seq ?_
      refine c_region ?_
      refine pures hs 1 [2] [(2, .bool false)] (by kernel_rfl) fun a hs => ?_
      refine s_end ?_
      refine wp_ret ?_
      obtain rfl := someE hk
      refine hQ _ _ (f_ret1 hs rfl (v := .bool false) (by kernel_rfl) ⟨rfl, hw.pick [1] (by kernel_rfl)⟩)
    · refine c_cond0 hs (by kernel_rfl) (t := ((decide (x1.f0 < 0)) || ((decide (x1.f0 ≥ 4)) || (decide (x1.f1 < 1))))) (by kernel_rfl) h65 ?_
      refine c_seq ?_
      obtain ⟨J75, hJ75⟩ : ∃ J : Act → World → Prop, ∀ a w, J a w ↔ (Sees a 44 [(1, .pointer (some ⟨b55, 0, none⟩)), (21, .bool ((decide ((x1.f2.length : Int) < 1)) || ((decide ((x1.f2.length : Int) > 5)) || (x1.f3 && ((decide ((x1.f2.length : Int) < 2)) || (x1.f4 != 0))))))] ∧ St g w [bx b55 [.int .i64 x1.f0, .int .u64 x1.f1, .slice p2 x1.f2.length c3, .bool x1.f3, .int .i64 x1.f4] 53, F] ih) := ⟨_, fun _ _ => Iff.rfl⟩
      refine c_regJ J75 ?_ ?_
      · refine pures hs 3 [1, 3, 24] [(1, .pointer (some ⟨b55, 0, none⟩)), (3, .int .i64 (x1.f2.length : Int)), (24, .bool (decide ((x1.f2.length : Int) < 1)))] (by kernel_rfl) fun a hs => ?_
        rcases boolE (decide ((x1.f2.length : Int) < 1)) with h76 | h76
        · replace hs := hs.altB 24 true (by kernel_rfl) h76
          refine pures hs 17 [1, 21] [(1, .pointer (some ⟨b55, 0, none⟩)), (21, .bool true)] (by kernel_rfl) fun a hs => ?_
          refine s_end ?_
          exact (hJ75 _ _).2 ⟨(hs.altB 21 ((decide ((x1.f2.length : Int) < 1)) || ((decide ((x1.f2.length : Int) > 5)) || (x1.f3 && ((decide ((x1.f2.length : Int) < 2)) || (x1.f4 != 0))))) (by kernel_rfl) (by rw [h76] <;> rfl)).cast [1, 21] (by kernel_rfl), hw.pick [0, 1] (by kernel_rfl)⟩
        · replace hs := hs.altB 24 false (by kernel_rfl) h76
          refine pures hs 4 [1, 3, 28] [(1, .pointer (some ⟨b55, 0, none⟩)), (3, .int .i64 (x1.f2.length : Int)), (28, .bool (decide ((x1.f2.length : Int) > 5)))] (by kernel_rfl) fun a hs => ?_
          rcases boolE (decide ((x1.f2.length : Int) > 5)) with h77 | h77
          · replace hs := hs.altB 28 true (by kernel_rfl) h77
            refine pures hs 13 [1, 21] [(1, .pointer (some ⟨b55, 0, none⟩)), (21, .bool true)] (by kernel_rfl) fun a hs => ?_
            refine s_end ?_
            exact (hJ75 _ _).2 ⟨(hs.altB 21 ((decide ((x1.f2.length : Int) < 1)) || ((decide ((x1.f2.length : Int) > 5)) || (x1.f3 && ((decide ((x1.f2.length : Int) < 2)) || (x1.f4 != 0))))) (by kernel_rfl) (by rw [h76, h77] <;> rfl)).cast [1, 21] (by kernel_rfl), hw.pick [0, 1] (by kernel_rfl)⟩
          · replace hs := hs.altB 28 false (by kernel_rfl) h77
            refine pures hs 1 [1, 3, 28, 29] [(1, .pointer (some ⟨b55, 0, none⟩)), (3, .int .i64 (x1.f2.length : Int)), (28, .bool false), (29, .pointer (some ⟨b55, 3, none⟩))] (by kernel_rfl) fun a hs => ?_
            refine s_load hs (hw.at_ 0 rfl) 3 (by kernel_rfl) (by kernel_rfl) (v := .bool x1.f3) (by kernel_rfl) fun a hs => ?_
            refine pures hs 1 [1, 3, 28, 31] [(1, .pointer (some ⟨b55, 0, none⟩)), (3, .int .i64 (x1.f2.length : Int)), (28, .bool false), (31, .bool x1.f3)] (by kernel_rfl) fun a hs => ?_
            rcases boolE x1.f3 with h78 | h78
            · replace hs := hs.altB 31 true (by kernel_rfl) h78
              refine pures hs 3 [1, 28, 31, 34] [(1, .pointer (some ⟨b55, 0, none⟩)), (28, .bool false), (31, .bool true), (34, .bool (decide ((x1.f2.length : Int) < 2)))] (by kernel_rfl) fun a hs => ?_
              rcases boolE (decide ((x1.f2.length : Int) < 2)) with h79 | h79
              · replace hs := hs.altB 34 true (by kernel_rfl) h79
                refine pures hs 7 [1, 21] [(1, .pointer (some ⟨b55, 0, none⟩)), (21, .bool true)] (by kernel_rfl) fun a hs => ?_
                refine s_end ?_
                exact (hJ75 _ _).2 ⟨(hs.altB 21 ((decide ((x1.f2.length : Int) < 1)) || ((decide ((x1.f2.length : Int) > 5)) || (x1.f3 && ((decide ((x1.f2.length : Int) < 2)) || (x1.f4 != 0))))) (by kernel_rfl) (by rw [h76, h77, h78, h79] <;> rfl)).cast [1, 21] (by kernel_rfl), hw.pick [0, 1] (by kernel_rfl)⟩
              · replace hs := hs.altB 34 false (by kernel_rfl) h79
                refine pures hs 1 [1, 28, 31, 34, 35] [(1, .pointer (some ⟨b55, 0, none⟩)), (28, .bool false), (31, .bool true), (34, .bool false), (35, .pointer (some ⟨b55, 4, none⟩))] (by kernel_rfl) fun a hs => ?_
                refine s_load hs (hw.at_ 0 rfl) 4 (by kernel_rfl) (by kernel_rfl) (v := .int .i64 x1.f4) (by kernel_rfl) fun a hs => ?_
                refine pures hs 5 [1, 21] [(1, .pointer (some ⟨b55, 0, none⟩)), (21, .bool (x1.f4 != 0))] (by kernel_rfl) fun a hs => ?_
                refine s_end ?_
                exact (hJ75 _ _).2 ⟨(hs.altB 21 ((decide ((x1.f2.length : Int) < 1)) || ((decide ((x1.f2.length : Int) > 5)) || (x1.f3 && ((decide ((x1.f2.length : Int) < 2)) || (x1.f4 != 0))))) (by kernel_rfl) (by rw [h76, h77, h78, h79] <;> rfl)).cast [1, 21] (by kernel_rfl), hw.pick [0, 1] (by kernel_rfl)⟩
            · replace hs := hs.altB 31 false (by kernel_rfl) h78
              refine pures hs 10 [1, 21] [(1, .pointer (some ⟨b55, 0, none⟩)), (21, .bool false)] (by kernel_rfl) fun a hs => ?_
              refine s_end ?_
              exact (hJ75 _ _).2 ⟨(hs.altB 21 ((decide ((x1.f2.length : Int) < 1)) || ((decide ((x1.f2.length : Int) > 5)) || (x1.f3 && ((decide ((x1.f2.length : Int) < 2)) || (x1.f4 != 0))))) (by kernel_rfl) (by rw [h76, h77, h78] <;> rfl)).cast [1, 21] (by kernel_rfl), hw.pick [0, 1] (by kernel_rfl)⟩
      · intro a w hh
        obtain ⟨hs, hw⟩ := (hJ75 _ _).1 hh
        rcases ifbE hk with ⟨h80, hk⟩ | ⟨h80, hk⟩
        · refine c_cond1 hs (by kernel_rfl) (t := ((decide ((x1.f2.length : Int) < 1)) || ((decide ((x1.f2.length : Int) > 5)) || (x1.f3 && ((decide ((x1.f2.length : Int) < 2)) || (x1.f4 != 0)))))) (by kernel_rfl) h80 ?_
          refine c_seq ?_
          refine c_region ?_
          refine pures hs 1 [2] [(2, .bool false)] (by kernel_rfl) fun a hs => ?_
          refine s_end ?_
          refine wp_ret ?_
          obtain rfl := someE hk
          refine hQ _ _ (f_ret1 hs rfl (v := .bool false) (by kernel_rfl) ⟨rfl, hw.pick [1] (by kernel_rfl)⟩)
        · refine c_cond0 hs (by kernel_rfl) (t := ((decide ((x1.f2.length : Int) < 1)) || ((decide ((x1.f2.length : Int) > 5)) || (x1.f3 && ((decide ((x1.f2.length : Int) < 2)) || (x1.f4 != 0)))))) (by kernel_rfl) h80 ?_
          refine wp_skip ?_
          refine c_seq ?_
          refine c_region ?_
          refine s_load hs (hw.at_ 0 rfl) 0 (by kernel_rfl) (by kernel_rfl) (v := .agg #[.int .i64 x1.f0, .int .u64 x1.f1, .slice p2 x1.f2.length c3, .bool x1.f3, .int .i64 x1.f4]) (by kernel_rfl) fun a hs => ?_
          obtain ⟨y90, h91, hk⟩ := bindE hk
          refine s_call hs (by kernel_rfl) (by kernel_rfl) (conf_everybody_s h91 h4 ((hw.pick [1] (by kernel_rfl)).pack 0)) fun a w v hv hs => ?_
          obtain ⟨p92, c93, d95, rfl, hw, h94⟩ := hv
          replace hw := hw.unpack 1 rfl
          obtain ⟨y97, h98, hk⟩ := bindE hk
          refine s_call hs (by kernel_rfl) (by kernel_rfl) (conf_unlike_s h98 h94.read (memF 0 rfl) ((hw.pick [0, 1] (by kernel_rfl)).pack 0)) fun a w v hv hs => ?_
          obtain ⟨rfl, hw⟩ := hv
          replace hw := hw.unpack 0 rfl
          refine pures hs 1 [2] [(2, .bool y97)] (by kernel_rfl) fun a hs => ?_
          refine s_end ?_
          refine wp_ret ?_
          obtain rfl := someE hk
          refine hQ _ _ (f_ret1 hs rfl (v := .bool y97) (by kernel_rfl) ⟨rfl, hw.pick [1] (by kernel_rfl)⟩)
def role_Tail (k : Nat) (x1 : M53) : Option Int :=
  (conf_Right k x1).bind fun y30 =>
  if (!y30) = true then some 0
  else (ix x1.f2 (IntKind.i64.wrap ((x1.f2.length : Int) - 1))).bind fun x37 =>
  some x37
theorem role_Tail_s {k : Nat} {x1 : M53} {p2 : Option Addr} {c3 : Nat} {r : Int} (hk : role_Tail k x1 = some r) {g w : World} {F : Ch} {ih : IH} (h4 : RSl e3 ih [] p2 c3 x1.f2) (hw : St g w [F] ih) :
    CallsR Try.prog 37 #[.agg #[.int .i64 x1.f0, .int .u64 x1.f1, .slice p2 x1.f2.length c3, .bool x1.f3, .int .i64 x1.f4]] w fun v w' => v = .int .i64 r ∧ St g w' [F] ih := by
  refine f_in (vs := [.agg #[.int .i64 x1.f0, .int .u64 x1.f1, .slice p2 x1.f2.length c3, .bool x1.f3, .int .i64 x1.f4]]) Try.func37 rfl 14 rfl (by kernel_rfl) [(0, .agg #[.int .i64 x1.f0, .int .u64 x1.f1, .slice p2 x1.f2.length c3, .bool x1.f3, .int .i64 x1.f4])] (by kernel_rfl) fun a Qf hQ hQn hs => ?_
  refine c_seq ?_
  refine c_region ?_
  refine s_new hs hw [.int .i64 x1.f0, .int .u64 x1.f1, .slice p2 x1.f2.length c3, .bool x1.f3, .int .i64 x1.f4] 53 (fun b => .pointer (some ⟨b, 0, none⟩)) (by kernel_rfl) (fun _ => by kernel_rfl) fun a w b26 hs hw => ?_
  refine pures hs 1 [1] [(1, .pointer (some ⟨b26, 0, none⟩))] (by kernel_rfl) fun a hs => ?_
  refine s_end ?_
  refine c_seq ?_
  refine c_seq ?_
  refine c_region ?_
  refine s_load hs (hw.at_ 0 rfl) 0 (by kernel_rfl) (by kernel_rfl) (v := .agg #[.int .i64 x1.f0, .int .u64 x1.f1, .slice p2 x1.f2.length c3, .bool x1.f3, .int .i64 x1.f4]) (by kernel_rfl) fun a hs => ?_
  obtain ⟨y30, h31, hk⟩ := bindE hk
  refine s_call hs (by kernel_rfl) (by kernel_rfl) (conf_Right_s h31 h4 ((hw.pick [0, 1] (by kernel_rfl)).pack 0)) fun a w v hv hs => ?_
  obtain ⟨rfl, hw⟩ := hv
  replace hw := hw.unpack 0 rfl
  refine pures hs 1 [1, 5] [(1, .pointer (some ⟨b26, 0, none⟩)), (5, .bool (!y30))] (by kernel_rfl) fun a hs => ?_
  refine s_end ?_
  rcases ifbE hk with ⟨h32, hk⟩ | ⟨h32, hk⟩
  · refine c_cond1 hs (by kernel_rfl) (t := (!y30)) (by kernel_rfl) h32 ?_
    refine c_seq ?_
    refine c_region ?_
    refine pures hs 1 [2] [(2, .int .i64 0)] (by kernel_rfl) fun a hs => ?_
    refine s_end ?_
    refine wp_ret ?_
    obtain rfl := someE hk
    refine hQ _ _ (f_ret1 hs rfl (v := .int .i64 0) (by kernel_rfl) ⟨rfl, hw.pick [1] (by kernel_rfl)⟩)
  · refine c_cond0 hs (by kernel_rfl) (t := (!y30)) (by kernel_rfl) h32 ?_
    refine wp_skip ?_
    refine c_seq ?_
    refine c_region ?_
    refine pures hs 1 [1, 6] [(1, .pointer (some ⟨b26, 0, none⟩)), (6, .pointer (some ⟨b26, 2, none⟩))] (by kernel_rfl) fun a hs => ?_
    refine s_load hs (hw.at_ 0 rfl) 2 (by kernel_rfl) (by kernel_rfl) (v := .slice p2 x1.f2.length c3) (by kernel_rfl) fun a hs => ?_
    refine pures hs 1 [7, 8] [(7, .slice p2 x1.f2.length c3), (8, .pointer (some ⟨b26, 2, none⟩))] (by kernel_rfl) fun a hs => ?_
    refine s_load hs (hw.at_ 0 rfl) 2 (by kernel_rfl) (by kernel_rfl) (v := .slice p2 x1.f2.length c3) (by kernel_rfl) fun a hs => ?_
    refine pures hs 2 [7, 11] [(7, .slice p2 x1.f2.length c3), (11, .int .i64 (IntKind.i64.wrap ((x1.f2.length : Int) - 1)))] (by kernel_rfl) fun a hs => ?_
    obtain ⟨x37, h38, hk⟩ := bindE hk
    refine s_index hs h4 (by kernel_rfl) (by kernel_rfl) (k := .i64) (by kernel_rfl) 3 (by kernel_rfl) (by kernel_rfl) h38 fun a r39 cs henc at40 hs => ?_
    obtain rfl := henc
    refine s_load hs (at40 _ (hw.vwAll.nil.anti (Le.refl _))) 0 (by kernel_rfl) (by kernel_rfl) (v := .int .i64 x37) (by kernel_rfl) fun a hs => ?_
    refine pures hs 1 [2] [(2, .int .i64 x37)] (by kernel_rfl) fun a hs => ?_
    refine s_end ?_
    refine wp_ret ?_
    obtain rfl := someE hk
    refine hQ _ _ (f_ret1 hs rfl (v := .int .i64 x37) (by kernel_rfl) ⟨rfl, hw.pick [1] (by kernel_rfl)⟩)
def role_Of_r6 (y151 : Int) (x173 : Bool) (x177 : Bool) (x187 : Int) (x197 : Int) : Option M56 :=
  some (M56.mk true false (y151 == 0) x173 x177 y151 x187 x197)
def role_Of_r7 (x173 : Bool) (x1 : M53) (y151 : Int) (x177 : Bool) (x187 : Int) : Option M56 :=
  (if (!x173) = true then (
      (ix x1.f2 (IntKind.i64.wrap (y151 + 1))).bind fun x206 =>
      some x206)
    else some x1.f4 : Option Int).bind fun s210 => role_Of_r6 y151 x173 x177 x187 s210
def role_Of_r8 (y151 : Int) (x1 : M53) (x173 : Bool) (x177 : Bool) : Option M56 :=
  (if (decide (y151 > 0)) = true then (
      (ix x1.f2 (IntKind.i64.wrap (y151 - 1))).bind fun x219 =>
      some x219)
    else some 0 : Option Int).bind fun s223 => role_Of_r7 x173 x1 y151 x177 s223
def role_Of_r9 (x1 : M53) (y151 : Int) (x173 : Bool) : Option M56 :=
  (if x173 = true then some x1.f3
    else some false : Option Bool).bind fun s228 => role_Of_r8 y151 x1 x173 s228
def role_Of_r10 (k : Nat) (x5 : Int) (x1 : M53) (x142 : Bool) : Option M56 :=
  if x142 = true then some (M56.mk false false false false false 0 0 0)
  else if (x5 == x1.f4) = true then (
    (role_Tail k x1).bind fun y147 =>
    some (M56.mk false true false false true 0 y147 0))
  else (slices_Index_int_int k x1.f2 x5).bind fun y151 =>
  if (decide (y151 < 0)) = true then some (M56.mk false false false false false 0 0 0)
  else ((role_Tail k x1).bind fun y232 =>
    some (x5 == y232) : Option Bool).bind fun s240 => role_Of_r9 x1 y151 s240
def role_Of (k : Nat) (x1 : M53) (x5 : Int) : Option M56 :=
  ((conf_Right k x1).bind fun y244 =>
    if (!y244) = true then some true
    else some (x5 == 0) : Option Bool).bind fun s247 => role_Of_r10 k x5 x1 s247
theorem role_Of_s {k : Nat} {x1 : M53} {x5 : Int} {p2 : Option Addr} {c3 : Nat} {r : M56} (hk : role_Of k x1 x5 = some r) {g w : World} {F : Ch} {ih : IH} (h4 : RSl e3 ih [] p2 c3 x1.f2) (hw : St g w [F] ih) :
    CallsR Try.prog 32 #[.agg #[.int .i64 x1.f0, .int .u64 x1.f1, .slice p2 x1.f2.length c3, .bool x1.f3, .int .i64 x1.f4], .int .i64 x5] w fun v w' => v = .agg #[.bool r.f0, .bool r.f1, .bool r.f2, .bool r.f3, .bool r.f4, .int .i64 r.f5, .int .i64 r.f6, .int .i64 r.f7] ∧ St g w' [F] ih := by
  refine f_in (vs := [.agg #[.int .i64 x1.f0, .int .u64 x1.f1, .slice p2 x1.f2.length c3, .bool x1.f3, .int .i64 x1.f4], .int .i64 x5]) Try.func32 rfl 66 rfl (by kernel_rfl) [(0, .agg #[.int .i64 x1.f0, .int .u64 x1.f1, .slice p2 x1.f2.length c3, .bool x1.f3, .int .i64 x1.f4]), (1, .int .i64 x5)] (by kernel_rfl) fun a Qf hQ hQn hs => ?_
  refine c_seq ?_
  refine c_region ?_
  refine s_new hs hw [.int .i64 x1.f0, .int .u64 x1.f1, .slice p2 x1.f2.length c3, .bool x1.f3, .int .i64 x1.f4] 53 (fun b => .pointer (some ⟨b, 0, none⟩)) (by kernel_rfl) (fun _ => by kernel_rfl) fun a w b132 hs hw => ?_
  refine s_new hs hw [.bool false, .bool false, .bool false, .bool false, .bool false, .int .i64 0, .int .i64 0, .int .i64 0] 56 (fun b => .pointer (some ⟨b, 0, none⟩)) (by kernel_rfl) (fun _ => by kernel_rfl) fun a w b134 hs hw => ?_
  refine s_end ?_
  refine c_seq ?_
  refine c_seq ?_
  obtain ⟨y241, hx242, hk⟩ := bindE hk
  obtain ⟨J243, hJ243⟩ : ∃ J : Act → World → Prop, ∀ a w, J a w ↔ (∃ (x142 : Bool), role_Of_r10 k x5 x1 x142 = some r ∧ Sees a 66 [(1, .int .i64 x5), (2, .pointer (some ⟨b132, 0, none⟩)), (4, .pointer (some ⟨b134, 0, none⟩)), (13, .bool x142)] ∧ St g w [bx b134 [.bool false, .bool false, .bool false, .bool false, .bool false, .int .i64 0, .int .i64 0, .int .i64 0] 56, bx b132 [.int .i64 x1.f0, .int .u64 x1.f1, .slice p2 x1.f2.length c3, .bool x1.f3, .int .i64 x1.f4] 53, F] ih) := ⟨_, fun _ _ => Iff.rfl⟩
  refine c_regJ J243 ?_ ?_
  · refine s_load hs (hw.at_ 1 rfl) 0 (by kernel_rfl) (by kernel_rfl) (v := .agg #[.int .i64 x1.f0, .int .u64 x1.f1, .slice p2 x1.f2.length c3, .bool x1.f3, .int .i64 x1.f4]) (by kernel_rfl) fun a hs => ?_
    obtain ⟨y244, h245, hx242⟩ := bindE hx242
    refine s_call hs (by kernel_rfl) (by kernel_rfl) (conf_Right_s h245 h4 ((hw.pick [0, 1, 2] (by kernel_rfl)).pack 0)) fun a w v hv hs => ?_
    obtain ⟨rfl, hw⟩ := hv
    replace hw := hw.unpack 0 rfl
    refine pures hs 2 [1, 2, 4, 10] [(1, .int .i64 x5), (2, .pointer (some ⟨b132, 0, none⟩)), (4, .pointer (some ⟨b134, 0, none⟩)), (10, .bool (!y244))] (by kernel_rfl) fun a hs => ?_
    rcases ifbE hx242 with ⟨h246, hx242⟩ | ⟨h246, hx242⟩
    · replace hs := hs.altB 10 true (by kernel_rfl) h246
      refine pures hs 3 [1, 2, 4, 13] [(1, .int .i64 x5), (2, .pointer (some ⟨b132, 0, none⟩)), (4, .pointer (some ⟨b134, 0, none⟩)), (13, .bool true)] (by kernel_rfl) fun a hs => ?_
      refine s_end ?_
      obtain rfl := someE hx242
      exact (hJ243 _ _).2 ⟨true, hk, hs.cast [1, 2, 4, 13] (by kernel_rfl), hw.pick [0, 1, 2] (by kernel_rfl)⟩
    · replace hs := hs.altB 10 false (by kernel_rfl) h246
      refine pures hs 3 [1, 2, 4, 13] [(1, .int .i64 x5), (2, .pointer (some ⟨b132, 0, none⟩)), (4, .pointer (some ⟨b134, 0, none⟩)), (13, .bool (x5 == 0))] (by kernel_rfl) fun a hs => ?_
      refine s_end ?_
      obtain rfl := someE hx242
      exact (hJ243 _ _).2 ⟨(x5 == 0), hk, hs.cast [1, 2, 4, 13] (by kernel_rfl), hw.pick [0, 1, 2] (by kernel_rfl)⟩
  · intro a w hh
    obtain ⟨x142, hk, hs, hw⟩ := (hJ243 _ _).1 hh
    rcases ifbE hk with ⟨h143, hk⟩ | ⟨h143, hk⟩
    · refine c_cond1 hs (by kernel_rfl) (t := x142) (by kernel_rfl) h143 ?_
      refine c_seq ?_
      refine c_region ?_
      refine pures hs 1 [4, 14] [(4, .pointer (some ⟨b134, 0, none⟩)), (14, .agg #[.bool false, .bool false, .bool false, .bool false, .bool false, .int .i64 0, .int .i64 0, .int .i64 0])] (by kernel_rfl) fun a hs => ?_
      refine s_store hs hw 0 rfl 0 (by kernel_rfl) (by kernel_rfl) (v := .agg #[.bool false, .bool false, .bool false, .bool false, .bool false, .int .i64 0, .int .i64 0, .int .i64 0]) (by kernel_rfl) (by kernel_rfl) (by kernel_rfl) (by kernel_rfl) fun a w hs hw => ?_
      refine s_end ?_
      refine wp_ret ?_
      obtain rfl := someE hk
      refine hQ _ _ (f_retC hs rfl (hw.at_ 0 rfl) (by kernel_rfl) (v := .agg #[.bool false, .bool false, .bool false, .bool false, .bool false, .int .i64 0, .int .i64 0, .int .i64 0]) (by kernel_rfl) ⟨rfl, hw.pick [2] (by kernel_rfl)⟩)
    · refine c_cond0 hs (by kernel_rfl) (t := x142) (by kernel_rfl) h143 ?_
      refine wp_skip ?_
      refine c_seq ?_
      refine c_seq ?_
      refine c_region ?_
      refine pures hs 2 [1, 2, 4, 15, 16] [(1, .int .i64 x5), (2, .pointer (some ⟨b132, 0, none⟩)), (4, .pointer (some ⟨b134, 0, none⟩)), (15, .int .i64 x5), (16, .pointer (some ⟨b132, 4, none⟩))] (by kernel_rfl) fun a hs => ?_
      refine s_load hs (hw.at_ 1 rfl) 4 (by kernel_rfl) (by kernel_rfl) (v := .int .i64 x1.f4) (by kernel_rfl) fun a hs => ?_
      refine pures hs 1 [1, 2, 4, 18] [(1, .int .i64 x5), (2, .pointer (some ⟨b132, 0, none⟩)), (4, .pointer (some ⟨b134, 0, none⟩)), (18, .bool (x5 == x1.f4))] (by kernel_rfl) fun a hs => ?_
      refine s_end ?_
      rcases ifbE hk with ⟨h144, hk⟩ | ⟨h144, hk⟩
      · refine c_cond1 hs (by kernel_rfl) (t := (x5 == x1.f4)) (by kernel_rfl) h144 ?_
        refine c_seq ?_
        refine c_region ?_
        refine s_load hs (hw.at_ 1 rfl) 0 (by kernel_rfl) (by kernel_rfl) (v := .agg #[.int .i64 x1.f0, .int .u64 x1.f1, .slice p2 x1.f2.length c3, .bool x1.f3, .int .i64 x1.f4]) (by kernel_rfl) fun a hs => ?_
        obtain ⟨y147, h148, hk⟩ := bindE hk
        refine s_call hs (by kernel_rfl) (by kernel_rfl) (role_Tail_s h148 h4 ((hw.pick [0, 2] (by kernel_rfl)).pack 0)) fun a w v hv hs => ?_
        obtain ⟨rfl, hw⟩ := hv
        replace hw := hw.unpack 0 rfl
        refine pures hs 1 [4, 21] [(4, .pointer (some ⟨b134, 0, none⟩)), (21, .agg #[.bool false, .bool true, .bool false, .bool false, .bool true, .int .i64 0, .int .i64 y147, .int .i64 0])] (by kernel_rfl) fun a hs => ?_
        refine s_store hs hw 0 rfl 0 (by kernel_rfl) (by kernel_rfl) (v := .agg #[.bool false, .bool true, .bool false, .bool false, .bool true, .int .i64 0, .int .i64 y147, .int .i64 0]) (by kernel_rfl) (by kernel_rfl) (by kernel_rfl) (by kernel_rfl) fun a w hs hw => ?_
        refine s_end ?_
        refine wp_ret ?_
        obtain rfl := someE hk
        refine hQ _ _ (f_retC hs rfl (hw.at_ 0 rfl) (by kernel_rfl) (v := .agg #[.bool false, .bool true, .bool false, .bool false, .bool true, .int .i64 0, .int .i64 y147, .int .i64 0]) (by kernel_rfl) ⟨rfl, hw.pick [1] (by kernel_rfl)⟩)
      · refine c_cond0 hs (by kernel_rfl) (t := (x5 == x1.f4)) (by kernel_rfl) h144 ?_
        refine wp_skip ?_
        refine c_seq ?_
        refine c_region ?_
        refine pures hs 1 [1, 2, 4, 22] [(1, .int .i64 x5), (2, .pointer (some ⟨b132, 0, none⟩)), (4, .pointer (some ⟨b134, 0, none⟩)), (22, .pointer (some ⟨b132, 2, none⟩))] (by kernel_rfl) fun a hs => ?_
        refine s_load hs (hw.at_ 1 rfl) 2 (by kernel_rfl) (by kernel_rfl) (v := .slice p2 x1.f2.length c3) (by kernel_rfl) fun a hs => ?_
        refine pures hs 1 [1, 2, 4, 23, 24] [(1, .int .i64 x5), (2, .pointer (some ⟨b132, 0, none⟩)), (4, .pointer (some ⟨b134, 0, none⟩)), (23, .slice p2 x1.f2.length c3), (24, .int .i64 x5)] (by kernel_rfl) fun a hs => ?_
        obtain ⟨y151, h152, hk⟩ := bindE hk
        refine s_call hs (by kernel_rfl) (by kernel_rfl) (slices_Index_int_int_s h152 h4 (nilSub _) ((hw.pick [0, 1, 2] (by kernel_rfl)).pack 0)) fun a w v hv hs => ?_
        obtain ⟨rfl, hw⟩ := hv
        replace hw := hw.unpack 0 rfl
        refine pures hs 1 [1, 2, 4, 5] [(1, .int .i64 x5), (2, .pointer (some ⟨b132, 0, none⟩)), (4, .pointer (some ⟨b134, 0, none⟩)), (5, .int .i64 y151)] (by kernel_rfl) fun a hs => ?_
        refine s_end ?_
        refine c_seq ?_
        refine c_seq ?_
        refine c_region ?_
        refine pures hs 2 [1, 2, 4, 5, 27] [(1, .int .i64 x5), (2, .pointer (some ⟨b132, 0, none⟩)), (4, .pointer (some ⟨b134, 0, none⟩)), (5, .int .i64 y151), (27, .bool (decide (y151 < 0)))] (by kernel_rfl) fun a hs => ?_
        refine s_end ?_
        rcases ifbE hk with ⟨h153, hk⟩ | ⟨h153, hk⟩
        · refine c_cond1 hs (by kernel_rfl) (t := (decide (y151 < 0))) (by kernel_rfl) h153 ?_
          refine c_seq ?_
          refine c_region ?_
          refine pures hs 1 [4, 28] [(4, .pointer (some ⟨b134, 0, none⟩)), (28, .agg #[.bool false, .bool false, .bool false, .bool false, .bool false, .int .i64 0, .int .i64 0, .int .i64 0])] (by kernel_rfl) fun a hs => ?_
          refine s_store hs hw 0 rfl 0 (by kernel_rfl) (by kernel_rfl) (v := .agg #[.bool false, .bool false, .bool false, .bool false, .bool false, .int .i64 0, .int .i64 0, .int .i64 0]) (by kernel_rfl) (by kernel_rfl) (by kernel_rfl) (by kernel_rfl) fun a w hs hw => ?_
          refine s_end ?_
          refine wp_ret ?_
          obtain rfl := someE hk
          refine hQ _ _ (f_retC hs rfl (hw.at_ 0 rfl) (by kernel_rfl) (v := .agg #[.bool false, .bool false, .bool false, .bool false, .bool false, .int .i64 0, .int .i64 0, .int .i64 0]) (by kernel_rfl) ⟨rfl, hw.pick [2] (by kernel_rfl)⟩)
        · refine c_cond0 hs (by kernel_rfl) (t := (decide (y151 < 0))) (by kernel_rfl) h153 ?_
          refine wp_skip ?_
          refine c_seq ?_
          obtain ⟨S154, hS154, kS154⟩ := mkSX (X := [([], bx b134 [.bool false, .bool false, .bool false, .bool false, .bool false, .int .i64 0, .int .i64 0, .int .i64 0] 56), ([], bx b132 [.int .i64 x1.f0, .int .u64 x1.f1, .slice p2 x1.f2.length c3, .bool x1.f3, .int .i64 x1.f4] 53), ([], F)]) (ih := ih) (K := []) rfl
          obtain ⟨y229, hx230, hk⟩ := bindE hk
          obtain ⟨J231, hJ231⟩ : ∃ J : Act → World → Prop, ∀ a w, J a w ↔ (∃ (x173 : Bool) (b171 : Nat), role_Of_r9 x1 y151 x173 = some r ∧ Sees a 66 [(2, .pointer (some ⟨b132, 0, none⟩)), (4, .pointer (some ⟨b134, 0, none⟩)), (5, .int .i64 y151), (6, .pointer (some ⟨b171, 0, none⟩))] ∧ St g w [bx b134 [.bool false, .bool false, .bool false, .bool false, .bool false, .int .i64 0, .int .i64 0, .int .i64 0] 56, bx b132 [.int .i64 x1.f0, .int .u64 x1.f1, .slice p2 x1.f2.length c3, .bool x1.f3, .int .i64 x1.f4] 53, bx b171 [.bool true, .bool false, .bool (y151 == 0), .bool x173, .bool false, .int .i64 y151, .int .i64 0, .int .i64 x1.f4] 56, F] ih) := ⟨_, fun _ _ => Iff.rfl⟩
          refine c_draw (by kernel_rfl) (N := 12) rfl S154 J231 ?_ ?_
          · have hw := hw.drew
            have hS : S154 (Array.replicate 12 false) _ := SX_now hS154 (hw.vws [0, 1, 2]) (by kernel_rfl)
            refine d_pures (fuel := 9) kS154 hs hS [0, 1, 2] [1, 2, 4, 5, 29, 30, 31] [(1, .int .i64 x5), (2, .pointer (some ⟨b132, 0, none⟩)), (4, .pointer (some ⟨b134, 0, none⟩)), (5, .int .i64 y151), (29, .int .i64 y151), (30, .bool (y151 == 0)), (31, .int .i64 x5)] (by kernel_rfl) fun a hs hS => ?_
            refine d_load (fuel := 8) kS154 hs hS 3 rfl (by kernel_rfl) (SX_box hS154 1 rfl (by kernel_rfl)) 0 (by kernel_rfl) (by kernel_rfl) (v := .agg #[.int .i64 x1.f0, .int .u64 x1.f1, .slice p2 x1.f2.length c3, .bool x1.f3, .int .i64 x1.f4]) (by kernel_rfl) fun a hs hS => ?_
            refine d_pures (fuel := 6) kS154 hs hS [6, 7] [1, 2, 4, 5, 29, 30, 31, 32, 35, 36] [(1, .int .i64 x5), (2, .pointer (some ⟨b132, 0, none⟩)), (4, .pointer (some ⟨b134, 0, none⟩)), (5, .int .i64 y151), (29, .int .i64 y151), (30, .bool (y151 == 0)), (31, .int .i64 x5), (32, .agg #[.int .i64 x1.f0, .int .u64 x1.f1, .slice p2 x1.f2.length c3, .bool x1.f3, .int .i64 x1.f4]), (35, .int .i64 y151), (36, .pointer (some ⟨b132, 4, none⟩))] (by kernel_rfl) fun a hs hS => ?_
            refine d_load (fuel := 5) kS154 hs hS 8 rfl (by kernel_rfl) (SX_box hS154 1 rfl (by kernel_rfl)) 4 (by kernel_rfl) (by kernel_rfl) (v := .int .i64 x1.f4) (by kernel_rfl) fun a hs hS => ?_
            refine d_all (fuel := 4) (rs := [4, 10]) (by kernel_rfl) (by simp) (all2 ?_ (all1 ?_))
            · obtain ⟨y232, h233, hx230⟩ := bindE hx230
              refine o_call hs rfl (by kernel_rfl) (by kernel_rfl) (role_Tail_s h233 h4 ((hw.pick [0, 1, 2] (by kernel_rfl)).pack 0)) fun a w v hv hs => ?_
              obtain ⟨rfl, hw⟩ := hv
              replace hw := hw.unpack 0 rfl
              refine dg_next (SX_now hS154 ((hw.vws [0, 1, 2]).anti (Le.refl _)) (by kernel_rfl)) fun hS => ?_
              refine d_pures (fuel := 2) kS154 hs hS [5, 9] [1, 2, 4, 5, 29, 30, 31, 32, 35, 36, 37, 33, 34, 38] [(1, .int .i64 x5), (2, .pointer (some ⟨b132, 0, none⟩)), (4, .pointer (some ⟨b134, 0, none⟩)), (5, .int .i64 y151), (29, .int .i64 y151), (30, .bool (y151 == 0)), (31, .int .i64 x5), (32, .agg #[.int .i64 x1.f0, .int .u64 x1.f1, .slice p2 x1.f2.length c3, .bool x1.f3, .int .i64 x1.f4]), (35, .int .i64 y151), (36, .pointer (some ⟨b132, 4, none⟩)), (37, .int .i64 x1.f4), (33, .int .i64 y232), (34, .bool (x5 == y232)), (38, .agg #[.bool true, .bool false, .bool (y151 == 0), .bool (x5 == y232), .bool false, .int .i64 y151, .int .i64 0, .int .i64 x1.f4])] (by kernel_rfl) fun a hs hS => ?_
              refine d_all (fuel := 1) (rs := [10]) (by kernel_rfl) (by simp) (all1 ?_)
              refine o_new hs rfl hw [.bool false, .bool false, .bool false, .bool false, .bool false, .int .i64 0, .int .i64 0, .int .i64 0] 56 (fun b => .pointer (some ⟨b, 0, none⟩)) (by kernel_rfl) (fun _ => by kernel_rfl) fun a w b234 hs hw => ?_
              refine dg_next (SX_now hS154 ((hw.vws [1, 2, 3]).anti (Le.refl _)) (by kernel_rfl)) fun hS => ?_
              refine d_all (fuel := 0) (rs := [11]) (by kernel_rfl) (by simp) (all1 ?_)
              refine o_store hs hw rfl 0 rfl 0 (by kernel_rfl) (by kernel_rfl) (v := .agg #[.bool true, .bool false, .bool (y151 == 0), .bool (x5 == y232), .bool false, .int .i64 y151, .int .i64 0, .int .i64 x1.f4]) (by kernel_rfl) (by kernel_rfl) (by kernel_rfl) (by kernel_rfl) fun a w hs hw => ?_
              refine dg_next (SX_now hS154 ((hw.vws [1, 2, 3]).anti (Le.refl _)) (by kernel_rfl)) fun hS => ?_
              refine d_done (by kernel_rfl) ?_
              obtain rfl := someE hx230
              exact (hJ231 _ _).2 ⟨(x5 == y232), b234, hk, hs.cast [2, 4, 5, 6] (by kernel_rfl), hw.pick [1, 2, 0, 3] (by kernel_rfl)⟩
            · refine o_new hs rfl hw [.bool false, .bool false, .bool false, .bool false, .bool false, .int .i64 0, .int .i64 0, .int .i64 0] 56 (fun b => .pointer (some ⟨b, 0, none⟩)) (by kernel_rfl) (fun _ => by kernel_rfl) fun a w b236 hs hw => ?_
              refine dg_next (SX_now hS154 ((hw.vws [1, 2, 3]).anti (Le.refl _)) (by kernel_rfl)) fun hS => ?_
              refine d_all (fuel := 3) (rs := [4]) (by kernel_rfl) (by simp) (all1 ?_)
              obtain ⟨y238, h239, hx230⟩ := bindE hx230
              refine o_call hs rfl (by kernel_rfl) (by kernel_rfl) (role_Tail_s h239 h4 ((hw.pick [0, 1, 2, 3] (by kernel_rfl)).pack 0)) fun a w v hv hs => ?_
              obtain ⟨rfl, hw⟩ := hv
              replace hw := hw.unpack 0 rfl
              refine dg_next (SX_now hS154 ((hw.vws [1, 2, 3]).anti (Le.refl _)) (by kernel_rfl)) fun hS => ?_
              refine d_pures (fuel := 1) kS154 hs hS [5, 9] [1, 2, 4, 5, 29, 30, 31, 32, 35, 36, 37, 6, 33, 34, 38] [(1, .int .i64 x5), (2, .pointer (some ⟨b132, 0, none⟩)), (4, .pointer (some ⟨b134, 0, none⟩)), (5, .int .i64 y151), (29, .int .i64 y151), (30, .bool (y151 == 0)), (31, .int .i64 x5), (32, .agg #[.int .i64 x1.f0, .int .u64 x1.f1, .slice p2 x1.f2.length c3, .bool x1.f3, .int .i64 x1.f4]), (35, .int .i64 y151), (36, .pointer (some ⟨b132, 4, none⟩)), (37, .int .i64 x1.f4), (6, .pointer (some ⟨b236, 0, none⟩)), (33, .int .i64 y238), (34, .bool (x5 == y238)), (38, .agg #[.bool true, .bool false, .bool (y151 == 0), .bool (x5 == y238), .bool false, .int .i64 y151, .int .i64 0, .int .i64 x1.f4])] (by kernel_rfl) fun a hs hS => ?_
              refine d_all (fuel := 0) (rs := [11]) (by kernel_rfl) (by simp) (all1 ?_)
              refine o_store hs hw rfl 0 rfl 0 (by kernel_rfl) (by kernel_rfl) (v := .agg #[.bool true, .bool false, .bool (y151 == 0), .bool (x5 == y238), .bool false, .int .i64 y151, .int .i64 0, .int .i64 x1.f4]) (by kernel_rfl) (by kernel_rfl) (by kernel_rfl) (by kernel_rfl) fun a w hs hw => ?_
              refine dg_next (SX_now hS154 ((hw.vws [1, 2, 3]).anti (Le.refl _)) (by kernel_rfl)) fun hS => ?_
              refine d_done (by kernel_rfl) ?_
              obtain rfl := someE hx230
              exact (hJ231 _ _).2 ⟨(x5 == y238), b236, hk, hs.cast [2, 4, 5, 6] (by kernel_rfl), hw.pick [1, 2, 0, 3] (by kernel_rfl)⟩
          · intro a w hh
            obtain ⟨x173, b171, hk, hs, hw⟩ := (hJ231 _ _).1 hh
            refine c_seq ?_
            obtain ⟨y224, hx225, hk⟩ := bindE hk
            obtain ⟨J226, hJ226⟩ : ∃ J : Act → World → Prop, ∀ a w, J a w ↔ (∃ (x177 : Bool), role_Of_r8 y151 x1 x173 x177 = some r ∧ Sees a 66 [(2, .pointer (some ⟨b132, 0, none⟩)), (4, .pointer (some ⟨b134, 0, none⟩)), (5, .int .i64 y151), (6, .pointer (some ⟨b171, 0, none⟩))] ∧ St g w [bx b134 [.bool false, .bool false, .bool false, .bool false, .bool false, .int .i64 0, .int .i64 0, .int .i64 0] 56, bx b132 [.int .i64 x1.f0, .int .u64 x1.f1, .slice p2 x1.f2.length c3, .bool x1.f3, .int .i64 x1.f4] 53, bx b171 [.bool true, .bool false, .bool (y151 == 0), .bool x173, .bool x177, .int .i64 y151, .int .i64 0, .int .i64 x1.f4] 56, F] ih) := ⟨_, fun _ _ => Iff.rfl⟩
            refine c_regJ J226 ?_ ?_
            · refine pures hs 1 [2, 4, 5, 6, 39] [(2, .pointer (some ⟨b132, 0, none⟩)), (4, .pointer (some ⟨b134, 0, none⟩)), (5, .int .i64 y151), (6, .pointer (some ⟨b171, 0, none⟩)), (39, .pointer (some ⟨b171, 3, none⟩))] (by kernel_rfl) fun a hs => ?_
              refine s_load hs (hw.at_ 2 rfl) 3 (by kernel_rfl) (by kernel_rfl) (v := .bool x173) (by kernel_rfl) fun a hs => ?_
              refine pures hs 1 [2, 4, 5, 6, 41] [(2, .pointer (some ⟨b132, 0, none⟩)), (4, .pointer (some ⟨b134, 0, none⟩)), (5, .int .i64 y151), (6, .pointer (some ⟨b171, 0, none⟩)), (41, .bool x173)] (by kernel_rfl) fun a hs => ?_
              rcases ifbE hx225 with ⟨h227, hx225⟩ | ⟨h227, hx225⟩
              · replace hs := hs.altB 41 true (by kernel_rfl) h227
                refine pures hs 1 [2, 4, 5, 6, 41, 42] [(2, .pointer (some ⟨b132, 0, none⟩)), (4, .pointer (some ⟨b134, 0, none⟩)), (5, .int .i64 y151), (6, .pointer (some ⟨b171, 0, none⟩)), (41, .bool true), (42, .pointer (some ⟨b132, 3, none⟩))] (by kernel_rfl) fun a hs => ?_
                refine s_load hs (hw.at_ 1 rfl) 3 (by kernel_rfl) (by kernel_rfl) (v := .bool x1.f3) (by kernel_rfl) fun a hs => ?_
                refine pures hs 2 [2, 4, 5, 6, 44, 45] [(2, .pointer (some ⟨b132, 0, none⟩)), (4, .pointer (some ⟨b134, 0, none⟩)), (5, .int .i64 y151), (6, .pointer (some ⟨b171, 0, none⟩)), (44, .bool x1.f3), (45, .pointer (some ⟨b171, 4, none⟩))] (by kernel_rfl) fun a hs => ?_
                refine s_store hs hw 2 rfl 4 (by kernel_rfl) (by kernel_rfl) (v := .bool x1.f3) (by kernel_rfl) (by kernel_rfl) (by kernel_rfl) (by kernel_rfl) fun a w hs hw => ?_
                refine s_end ?_
                obtain rfl := someE hx225
                exact (hJ226 _ _).2 ⟨x1.f3, hk, hs.cast [2, 4, 5, 6] (by kernel_rfl), hw.pick [0, 1, 2, 3] (by kernel_rfl)⟩
              · replace hs := hs.altB 41 false (by kernel_rfl) h227
                refine pures hs 4 [2, 4, 5, 6, 44, 45] [(2, .pointer (some ⟨b132, 0, none⟩)), (4, .pointer (some ⟨b134, 0, none⟩)), (5, .int .i64 y151), (6, .pointer (some ⟨b171, 0, none⟩)), (44, .bool false), (45, .pointer (some ⟨b171, 4, none⟩))] (by kernel_rfl) fun a hs => ?_
                refine s_store hs hw 2 rfl 4 (by kernel_rfl) (by kernel_rfl) (v := .bool false) (by kernel_rfl) (by kernel_rfl) (by kernel_rfl) (by kernel_rfl) fun a w hs hw => ?_
                refine s_end ?_
                obtain rfl := someE hx225
                exact (hJ226 _ _).2 ⟨false, hk, hs.cast [2, 4, 5, 6] (by kernel_rfl), hw.pick [0, 1, 2, 3] (by kernel_rfl)⟩
            · intro a w hh
              obtain ⟨x177, hk, hs, hw⟩ := (hJ226 _ _).1 hh
              obtain ⟨y211, hx212, hk⟩ := bindE hk
              obtain ⟨J213, hJ213⟩ : ∃ J : Act → World → Prop, ∀ a w, J a w ↔ (∃ (x187 : Int), role_Of_r7 x173 x1 y151 x177 x187 = some r ∧ Sees a 66 [(2, .pointer (some ⟨b132, 0, none⟩)), (4, .pointer (some ⟨b134, 0, none⟩)), (5, .int .i64 y151), (6, .pointer (some ⟨b171, 0, none⟩))] ∧ St g w [bx b134 [.bool false, .bool false, .bool false, .bool false, .bool false, .int .i64 0, .int .i64 0, .int .i64 0] 56, bx b132 [.int .i64 x1.f0, .int .u64 x1.f1, .slice p2 x1.f2.length c3, .bool x1.f3, .int .i64 x1.f4] 53, bx b171 [.bool true, .bool false, .bool (y151 == 0), .bool x173, .bool x177, .int .i64 y151, .int .i64 x187, .int .i64 x1.f4] 56, F] ih) := ⟨_, fun _ _ => Iff.rfl⟩
              refine c_seqJ J213 ?_ ?_
              · refine c_seq ?_
                refine c_region ?_
                refine pures hs 2 [2, 4, 5, 6, 47] [(2, .pointer (some ⟨b132, 0, none⟩)), (4, .pointer (some ⟨b134, 0, none⟩)), (5, .int .i64 y151), (6, .pointer (some ⟨b171, 0, none⟩)), (47, .bool (decide (y151 > 0)))] (by kernel_rfl) fun a hs => ?_
                refine s_end ?_
                rcases ifbE hx212 with ⟨h214, hx212⟩ | ⟨h214, hx212⟩
                · refine c_cond1 hs (by kernel_rfl) (t := (decide (y151 > 0))) (by kernel_rfl) h214 ?_
                  refine c_region ?_
                  refine pures hs 1 [2, 4, 5, 6, 48] [(2, .pointer (some ⟨b132, 0, none⟩)), (4, .pointer (some ⟨b134, 0, none⟩)), (5, .int .i64 y151), (6, .pointer (some ⟨b171, 0, none⟩)), (48, .pointer (some ⟨b132, 2, none⟩))] (by kernel_rfl) fun a hs => ?_
                  refine s_load hs (hw.at_ 1 rfl) 2 (by kernel_rfl) (by kernel_rfl) (v := .slice p2 x1.f2.length c3) (by kernel_rfl) fun a hs => ?_
                  refine pures hs 2 [2, 4, 5, 6, 49, 51] [(2, .pointer (some ⟨b132, 0, none⟩)), (4, .pointer (some ⟨b134, 0, none⟩)), (5, .int .i64 y151), (6, .pointer (some ⟨b171, 0, none⟩)), (49, .slice p2 x1.f2.length c3), (51, .int .i64 (IntKind.i64.wrap (y151 - 1)))] (by kernel_rfl) fun a hs => ?_
                  obtain ⟨x219, h220, hx212⟩ := bindE hx212
                  refine s_index hs h4 (by kernel_rfl) (by kernel_rfl) (k := .i64) (by kernel_rfl) 3 (by kernel_rfl) (by kernel_rfl) h220 fun a r221 cs henc at222 hs => ?_
                  obtain rfl := henc
                  refine s_load hs (at222 _ (hw.vwAll.nil.anti (Le.refl _))) 0 (by kernel_rfl) (by kernel_rfl) (v := .int .i64 x219) (by kernel_rfl) fun a hs => ?_
                  refine pures hs 1 [2, 4, 5, 6, 53, 54] [(2, .pointer (some ⟨b132, 0, none⟩)), (4, .pointer (some ⟨b134, 0, none⟩)), (5, .int .i64 y151), (6, .pointer (some ⟨b171, 0, none⟩)), (53, .int .i64 x219), (54, .pointer (some ⟨b171, 6, none⟩))] (by kernel_rfl) fun a hs => ?_
                  refine s_store hs hw 2 rfl 6 (by kernel_rfl) (by kernel_rfl) (v := .int .i64 x219) (by kernel_rfl) (by kernel_rfl) (by kernel_rfl) (by kernel_rfl) fun a w hs hw => ?_
                  refine s_end ?_
                  obtain rfl := someE hx212
                  exact (hJ213 _ _).2 ⟨x219, hk, hs.cast [2, 4, 5, 6] (by kernel_rfl), hw.pick [0, 1, 2, 3] (by kernel_rfl)⟩
                · refine c_cond0 hs (by kernel_rfl) (t := (decide (y151 > 0))) (by kernel_rfl) h214 ?_
                  refine wp_skip ?_
                  obtain rfl := someE hx212
                  exact (hJ213 _ _).2 ⟨0, hk, hs.cast [2, 4, 5, 6] (by kernel_rfl), hw.pick [0, 1, 2, 3] (by kernel_rfl)⟩
              · intro a w hh
                obtain ⟨x187, hk, hs, hw⟩ := (hJ213 _ _).1 hh
                obtain ⟨y198, hx199, hk⟩ := bindE hk
                obtain ⟨J200, hJ200⟩ : ∃ J : Act → World → Prop, ∀ a w, J a w ↔ (∃ (x197 : Int), role_Of_r6 y151 x173 x177 x187 x197 = some r ∧ Sees a 66 [(4, .pointer (some ⟨b134, 0, none⟩)), (6, .pointer (some ⟨b171, 0, none⟩))] ∧ St g w [bx b134 [.bool false, .bool false, .bool false, .bool false, .bool false, .int .i64 0, .int .i64 0, .int .i64 0] 56, bx b171 [.bool true, .bool false, .bool (y151 == 0), .bool x173, .bool x177, .int .i64 y151, .int .i64 x187, .int .i64 x197] 56, F] ih) := ⟨_, fun _ _ => Iff.rfl⟩
                refine c_seqJ J200 ?_ ?_
                · refine c_seq ?_
                  refine c_region ?_
                  refine pures hs 1 [2, 4, 5, 6, 55] [(2, .pointer (some ⟨b132, 0, none⟩)), (4, .pointer (some ⟨b134, 0, none⟩)), (5, .int .i64 y151), (6, .pointer (some ⟨b171, 0, none⟩)), (55, .pointer (some ⟨b171, 3, none⟩))] (by kernel_rfl) fun a hs => ?_
                  refine s_load hs (hw.at_ 2 rfl) 3 (by kernel_rfl) (by kernel_rfl) (v := .bool x173) (by kernel_rfl) fun a hs => ?_
                  refine pures hs 1 [2, 4, 5, 6, 57] [(2, .pointer (some ⟨b132, 0, none⟩)), (4, .pointer (some ⟨b134, 0, none⟩)), (5, .int .i64 y151), (6, .pointer (some ⟨b171, 0, none⟩)), (57, .bool (!x173))] (by kernel_rfl) fun a hs => ?_
                  refine s_end ?_
                  rcases ifbE hx199 with ⟨h201, hx199⟩ | ⟨h201, hx199⟩
                  · refine c_cond1 hs (by kernel_rfl) (t := (!x173)) (by kernel_rfl) h201 ?_
                    refine c_region ?_
                    refine pures hs 1 [4, 5, 6, 58] [(4, .pointer (some ⟨b134, 0, none⟩)), (5, .int .i64 y151), (6, .pointer (some ⟨b171, 0, none⟩)), (58, .pointer (some ⟨b132, 2, none⟩))] (by kernel_rfl) fun a hs => ?_
                    refine s_load hs (hw.at_ 1 rfl) 2 (by kernel_rfl) (by kernel_rfl) (v := .slice p2 x1.f2.length c3) (by kernel_rfl) fun a hs => ?_
                    refine pures hs 2 [4, 6, 59, 61] [(4, .pointer (some ⟨b134, 0, none⟩)), (6, .pointer (some ⟨b171, 0, none⟩)), (59, .slice p2 x1.f2.length c3), (61, .int .i64 (IntKind.i64.wrap (y151 + 1)))] (by kernel_rfl) fun a hs => ?_
                    obtain ⟨x206, h207, hx199⟩ := bindE hx199
                    refine s_index hs h4 (by kernel_rfl) (by kernel_rfl) (k := .i64) (by kernel_rfl) 3 (by kernel_rfl) (by kernel_rfl) h207 fun a r208 cs henc at209 hs => ?_
                    obtain rfl := henc
                    refine s_load hs (at209 _ (hw.vwAll.nil.anti (Le.refl _))) 0 (by kernel_rfl) (by kernel_rfl) (v := .int .i64 x206) (by kernel_rfl) fun a hs => ?_
                    refine pures hs 1 [4, 6, 63, 64] [(4, .pointer (some ⟨b134, 0, none⟩)), (6, .pointer (some ⟨b171, 0, none⟩)), (63, .int .i64 x206), (64, .pointer (some ⟨b171, 7, none⟩))] (by kernel_rfl) fun a hs => ?_
                    refine s_store hs hw 2 rfl 7 (by kernel_rfl) (by kernel_rfl) (v := .int .i64 x206) (by kernel_rfl) (by kernel_rfl) (by kernel_rfl) (by kernel_rfl) fun a w hs hw => ?_
                    refine s_end ?_
                    obtain rfl := someE hx199
                    exact (hJ200 _ _).2 ⟨x206, hk, hs.cast [4, 6] (by kernel_rfl), hw.pick [0, 2, 3] (by kernel_rfl)⟩
                  · refine c_cond0 hs (by kernel_rfl) (t := (!x173)) (by kernel_rfl) h201 ?_
                    refine wp_skip ?_
                    obtain rfl := someE hx199
                    exact (hJ200 _ _).2 ⟨x1.f4, hk, hs.cast [4, 6] (by kernel_rfl), hw.pick [0, 2, 3] (by kernel_rfl)⟩
                · intro a w hh
                  obtain ⟨x197, hk, hs, hw⟩ := (hJ200 _ _).1 hh
                  refine c_seq ?_
                  refine c_region ?_
                  refine s_load hs (hw.at_ 1 rfl) 0 (by kernel_rfl) (by kernel_rfl) (v := .agg #[.bool true, .bool false, .bool (y151 == 0), .bool x173, .bool x177, .int .i64 y151, .int .i64 x187, .int .i64 x197]) (by kernel_rfl) fun a hs => ?_
                  refine s_store hs hw 0 rfl 0 (by kernel_rfl) (by kernel_rfl) (v := .agg #[.bool true, .bool false, .bool (y151 == 0), .bool x173, .bool x177, .int .i64 y151, .int .i64 x187, .int .i64 x197]) (by kernel_rfl) (by kernel_rfl) (by kernel_rfl) (by kernel_rfl) fun a w hs hw => ?_
                  refine s_end ?_
                  refine wp_ret ?_
                  obtain rfl := someE hk
                  refine hQ _ _ (f_retC hs rfl (hw.at_ 0 rfl) (by kernel_rfl) (v := .agg #[.bool true, .bool false, .bool (y151 == 0), .bool x173, .bool x177, .int .i64 y151, .int .i64 x187, .int .i64 x197]) (by kernel_rfl) ⟨rfl, hw.pick [2] (by kernel_rfl)⟩)
def catenarylaw19_awake (k : Nat) : Option Bool :=
  (role_Of k (M53.mk 0 1 ([1, 2, 3]) false 4) 3).bind fun y49 =>
  some (y49.f3 && ((y49.f7 == 4) && ((y49.f6 == 2) && (y49.f0 && (!y49.f4)))))
theorem catenarylaw19_awake_s {k : Nat} {r : Bool} (hk : catenarylaw19_awake k = some r) {g w : World} {F : Ch} {ih : IH} (hw : St g w [F] ih) :
    CallsR Try.prog 33 #[] w fun v w' => ∃ (ih' : IH), v = .bool r ∧ St g w' [F] ih' ∧ Le ih ih' := by
  refine f_in (vs := []) Try.func33 rfl 26 rfl (by kernel_rfl) [] (by kernel_rfl) fun a Qf hQ hQn hs => ?_
  refine c_seq ?_
  refine c_region ?_
  refine pures hs 1 [] [] (by kernel_rfl) fun a hs => ?_
  refine s_end ?_
  refine c_seq ?_
  refine c_region ?_
  refine s_new hs hw [.int .i64 1, .int .i64 2, .int .i64 3] 3 (fun b => .slice (some ⟨b, 0, none⟩) 3 3) (by kernel_rfl) (fun _ => by kernel_rfl) fun a w b44 hs hw => ?_
  obtain ⟨ih46, hle47, hw, h48⟩ := (hw.pick [0, 1] (by kernel_rfl)).fz ((OSl.ofL (E := e3) (zs := [1, 2, 3]) (EL.cons (E := e3) (c1 := [.int .i64 1]) rfl (EL.cons (E := e3) (c1 := [.int .i64 2]) rfl (EL.cons (E := e3) (c1 := [.int .i64 3]) rfl EL.nil))) rfl (by simp [maxLen])).mono (Le.refl _))
  refine pures hs 1 [3] [(3, .agg #[.int .i64 0, .int .u64 1, .slice (some ⟨b44, 0, none⟩) ([1, 2, 3]).length 3, .bool false, .int .i64 4])] (by kernel_rfl) fun a hs => ?_
  obtain ⟨y49, h50, hk⟩ := bindE hk
  refine s_call hs (by kernel_rfl) (by kernel_rfl) (role_Of_s h50 h48 ((hw.pick [0] (by kernel_rfl)).pack 0)) fun a w v hv hs => ?_
  obtain ⟨rfl, hw⟩ := hv
  replace hw := hw.unpack 0 rfl
  refine s_new hs hw [.bool false, .bool false, .bool false, .bool false, .bool false, .int .i64 0, .int .i64 0, .int .i64 0] 56 (fun b => .pointer (some ⟨b, 0, none⟩)) (by kernel_rfl) (fun _ => by kernel_rfl) fun a w b51 hs hw => ?_
  refine s_store hs hw 0 rfl 0 (by kernel_rfl) (by kernel_rfl) (v := .agg #[.bool y49.f0, .bool y49.f1, .bool y49.f2, .bool y49.f3, .bool y49.f4, .int .i64 y49.f5, .int .i64 y49.f6, .int .i64 y49.f7]) (by kernel_rfl) (by kernel_rfl) (by kernel_rfl) (by kernel_rfl) fun a w hs hw => ?_
  refine s_end ?_
  refine c_seq ?_
  obtain ⟨J62, hJ62⟩ : ∃ J : Act → World → Prop, ∀ a w, J a w ↔ (Sees a 26 [(0, .bool (y49.f3 && ((y49.f7 == 4) && ((y49.f6 == 2) && (y49.f0 && (!y49.f4))))))] ∧ St g w [F] ih46) := ⟨_, fun _ _ => Iff.rfl⟩
  refine c_regJ J62 ?_ ?_
  · refine pures hs 1 [1, 5] [(1, .pointer (some ⟨b51, 0, none⟩)), (5, .pointer (some ⟨b51, 3, none⟩))] (by kernel_rfl) fun a hs => ?_
    refine s_load hs (hw.at_ 0 rfl) 3 (by kernel_rfl) (by kernel_rfl) (v := .bool y49.f3) (by kernel_rfl) fun a hs => ?_
    refine pures hs 1 [1, 7] [(1, .pointer (some ⟨b51, 0, none⟩)), (7, .bool y49.f3)] (by kernel_rfl) fun a hs => ?_
    rcases boolE y49.f3 with h63 | h63
    · replace hs := hs.altB 7 true (by kernel_rfl) h63
      refine pures hs 1 [1, 7, 8] [(1, .pointer (some ⟨b51, 0, none⟩)), (7, .bool true), (8, .pointer (some ⟨b51, 7, none⟩))] (by kernel_rfl) fun a hs => ?_
      refine s_load hs (hw.at_ 0 rfl) 7 (by kernel_rfl) (by kernel_rfl) (v := .int .i64 y49.f7) (by kernel_rfl) fun a hs => ?_
      refine pures hs 3 [1, 12] [(1, .pointer (some ⟨b51, 0, none⟩)), (12, .bool (y49.f7 == 4))] (by kernel_rfl) fun a hs => ?_
      rcases boolE (y49.f7 == 4) with h64 | h64
      · replace hs := hs.altB 12 true (by kernel_rfl) h64
        refine pures hs 1 [1, 12, 13] [(1, .pointer (some ⟨b51, 0, none⟩)), (12, .bool true), (13, .pointer (some ⟨b51, 6, none⟩))] (by kernel_rfl) fun a hs => ?_
        refine s_load hs (hw.at_ 0 rfl) 6 (by kernel_rfl) (by kernel_rfl) (v := .int .i64 y49.f6) (by kernel_rfl) fun a hs => ?_
        refine pures hs 3 [1, 17] [(1, .pointer (some ⟨b51, 0, none⟩)), (17, .bool (y49.f6 == 2))] (by kernel_rfl) fun a hs => ?_
        rcases boolE (y49.f6 == 2) with h65 | h65
        · replace hs := hs.altB 17 true (by kernel_rfl) h65
          refine pures hs 1 [1, 17, 18] [(1, .pointer (some ⟨b51, 0, none⟩)), (17, .bool true), (18, .pointer (some ⟨b51, 0, none⟩))] (by kernel_rfl) fun a hs => ?_
          refine s_load hs (hw.at_ 0 rfl) 0 (by kernel_rfl) (by kernel_rfl) (v := .bool y49.f0) (by kernel_rfl) fun a hs => ?_
          refine pures hs 2 [1, 21] [(1, .pointer (some ⟨b51, 0, none⟩)), (21, .bool y49.f0)] (by kernel_rfl) fun a hs => ?_
          rcases boolE y49.f0 with h66 | h66
          · replace hs := hs.altB 21 true (by kernel_rfl) h66
            refine pures hs 1 [21, 22] [(21, .bool true), (22, .pointer (some ⟨b51, 4, none⟩))] (by kernel_rfl) fun a hs => ?_
            refine s_load hs (hw.at_ 0 rfl) 4 (by kernel_rfl) (by kernel_rfl) (v := .bool y49.f4) (by kernel_rfl) fun a hs => ?_
            refine pures hs 3 [0] [(0, .bool (!y49.f4))] (by kernel_rfl) fun a hs => ?_
            refine s_end ?_
            exact (hJ62 _ _).2 ⟨(hs.altB 0 (y49.f3 && ((y49.f7 == 4) && ((y49.f6 == 2) && (y49.f0 && (!y49.f4))))) (by kernel_rfl) (by rw [h63, h64, h65, h66] <;> rfl)).cast [0] (by kernel_rfl), hw.pick [1] (by kernel_rfl)⟩
          · replace hs := hs.altB 21 false (by kernel_rfl) h66
            refine pures hs 5 [0] [(0, .bool false)] (by kernel_rfl) fun a hs => ?_
            refine s_end ?_
            exact (hJ62 _ _).2 ⟨(hs.altB 0 (y49.f3 && ((y49.f7 == 4) && ((y49.f6 == 2) && (y49.f0 && (!y49.f4))))) (by kernel_rfl) (by rw [h63, h64, h65, h66] <;> rfl)).cast [0] (by kernel_rfl), hw.pick [1] (by kernel_rfl)⟩
        · replace hs := hs.altB 17 false (by kernel_rfl) h65
          refine pures hs 9 [0] [(0, .bool false)] (by kernel_rfl) fun a hs => ?_
          refine s_end ?_
          exact (hJ62 _ _).2 ⟨(hs.altB 0 (y49.f3 && ((y49.f7 == 4) && ((y49.f6 == 2) && (y49.f0 && (!y49.f4))))) (by kernel_rfl) (by rw [h63, h64, h65] <;> rfl)).cast [0] (by kernel_rfl), hw.pick [1] (by kernel_rfl)⟩
      · replace hs := hs.altB 12 false (by kernel_rfl) h64
        refine pures hs 14 [0] [(0, .bool false)] (by kernel_rfl) fun a hs => ?_
        refine s_end ?_
        exact (hJ62 _ _).2 ⟨(hs.altB 0 (y49.f3 && ((y49.f7 == 4) && ((y49.f6 == 2) && (y49.f0 && (!y49.f4))))) (by kernel_rfl) (by rw [h63, h64] <;> rfl)).cast [0] (by kernel_rfl), hw.pick [1] (by kernel_rfl)⟩
    · replace hs := hs.altB 7 false (by kernel_rfl) h63
      refine pures hs 19 [0] [(0, .bool false)] (by kernel_rfl) fun a hs => ?_
      refine s_end ?_
      exact (hJ62 _ _).2 ⟨(hs.altB 0 (y49.f3 && ((y49.f7 == 4) && ((y49.f6 == 2) && (y49.f0 && (!y49.f4))))) (by kernel_rfl) (by rw [h63] <;> rfl)).cast [0] (by kernel_rfl), hw.pick [1] (by kernel_rfl)⟩
  · intro a w hh
    obtain ⟨hs, hw⟩ := (hJ62 _ _).1 hh
    refine wp_ret ?_
    obtain rfl := someE hk
    refine hQ _ _ (f_ret1 hs rfl (v := .bool (y49.f3 && ((y49.f7 == 4) && ((y49.f6 == 2) && (y49.f0 && (!y49.f4)))))) (by kernel_rfl) ⟨ih46, rfl, hw.pick [0] (by kernel_rfl), hle47⟩)
def role_Reports_r24 (x780 : List M66) : Option (List M66) :=
  some x780
def role_Reports_r27 (rec_role_Reports_l25 : (List M66) → (List Int) → Int → Option (List M66)) (x680 : List Int) (x686 : Int) (x832 : List M66) : Option (List M66) :=
  rec_role_Reports_l25 x832 x680 (IntKind.i64.wrap (x686 + 1))
def role_Reports_r28 (x674 : List M66) (x1 : M53) (x846 : Int) (x857 : Bool) : Option (List M66) :=
  if x857 = true then (
    (app x674 [(M66.mk 1 x1.f0 x1.f1 x846)]).bind fun x869 =>
    some x869)
  else some x674
def role_Reports_l25 (k : Nat) (x6 : List Int) (x1 : M53) : Nat → (List M66) → (List Int) → Int → Option (List M66)
  | 0, _, _, _ => none
  | j + 1, x674, x680, x686 =>
    if (decide (x686 < 2)) = true then (
      ((ix x680 x686).bind fun x846 =>
        (if (x846 != 0) = true then (
            (slices_Contains_int_int k x6 x846).bind fun y879 =>
            some y879)
          else some false : Option Bool).bind fun s881 => role_Reports_r28 x674 x1 x846 s881 : Option (List M66)).bind fun s882 => role_Reports_r27 (role_Reports_l25 k x6 x1 j) x680 x686 s882)
    else some x674
def role_Reports (k : Nat) (x1 : M53) (x5 : Int) (x6 : List Int) : Option (List M66) :=
  (role_Of k x1 x5).bind fun y458 =>
  (role_Reports_l25 k x6 x1 k ([]) ([y458.f6, y458.f7]) 0 : Option (List M66)).bind fun s885 => role_Reports_r24 s885
theorem role_Reports_s {k : Nat} {x1 : M53} {x5 : Int} {x6 : List Int} {p2 : Option Addr} {c3 : Nat} {p7 : Option Addr} {c8 : Nat} {d10 : Ch} {r : (List M66)} (hk : role_Reports k x1 x5 x6 = some r) {g w : World} {F : Ch} {ih : IH} (h4 : RSl e3 ih [] p2 c3 x1.f2) (h9 : RSl e3 ih d10 p7 c8 x6) (h11 : ∀ q ∈ d10, q ∈ F) (hw : St g w [F] ih) :
    CallsR Try.prog 41 #[.agg #[.int .i64 x1.f0, .int .u64 x1.f1, .slice p2 x1.f2.length c3, .bool x1.f3, .int .i64 x1.f4], .int .i64 x5, .slice p7 x6.length c8] w fun v w' => ∃ (p886 : Option Addr) (c887 : Nat) (d888 : Ch), v = .slice p886 r.length c887 ∧ St g w' [d888, F] ih ∧ OSl e66 ih p886 c887 r d888 := by
  refine f_in (vs := [.agg #[.int .i64 x1.f0, .int .u64 x1.f1, .slice p2 x1.f2.length c3, .bool x1.f3, .int .i64 x1.f4], .int .i64 x5, .slice p7 x6.length c8]) Try.func41 rfl 42 rfl (by kernel_rfl) [(0, .agg #[.int .i64 x1.f0, .int .u64 x1.f1, .slice p2 x1.f2.length c3, .bool x1.f3, .int .i64 x1.f4]), (1, .int .i64 x5), (2, .slice p7 x6.length c8)] (by kernel_rfl) fun a Qf hQ hQn hs => ?_
  refine c_seq ?_
  refine c_region ?_
  refine s_new hs hw [.int .i64 x1.f0, .int .u64 x1.f1, .slice p2 x1.f2.length c3, .bool x1.f3, .int .i64 x1.f4] 53 (fun b => .pointer (some ⟨b, 0, none⟩)) (by kernel_rfl) (fun _ => by kernel_rfl) fun a w b452 hs hw => ?_
  refine pures hs 1 [1, 2, 3] [(1, .int .i64 x5), (2, .slice p7 x6.length c8), (3, .pointer (some ⟨b452, 0, none⟩))] (by kernel_rfl) fun a hs => ?_
  refine s_end ?_
  refine c_seq ?_
  refine c_region ?_
  refine s_load hs (hw.at_ 0 rfl) 0 (by kernel_rfl) (by kernel_rfl) (v := .agg #[.int .i64 x1.f0, .int .u64 x1.f1, .slice p2 x1.f2.length c3, .bool x1.f3, .int .i64 x1.f4]) (by kernel_rfl) fun a hs => ?_
  refine pures hs 1 [2, 3, 11, 12] [(2, .slice p7 x6.length c8), (3, .pointer (some ⟨b452, 0, none⟩)), (11, .agg #[.int .i64 x1.f0, .int .u64 x1.f1, .slice p2 x1.f2.length c3, .bool x1.f3, .int .i64 x1.f4]), (12, .int .i64 x5)] (by kernel_rfl) fun a hs => ?_
  obtain ⟨y458, h459, hk⟩ := bindE hk
  refine s_call hs (by kernel_rfl) (by kernel_rfl) (role_Of_s h459 h4 ((hw.pick [0, 1] (by kernel_rfl)).pack 0)) fun a w v hv hs => ?_
  obtain ⟨rfl, hw⟩ := hv
  replace hw := hw.unpack 0 rfl
  refine s_new hs hw [.bool false, .bool false, .bool false, .bool false, .bool false, .int .i64 0, .int .i64 0, .int .i64 0] 56 (fun b => .pointer (some ⟨b, 0, none⟩)) (by kernel_rfl) (fun _ => by kernel_rfl) fun a w b460 hs hw => ?_
  refine s_store hs hw 0 rfl 0 (by kernel_rfl) (by kernel_rfl) (v := .agg #[.bool y458.f0, .bool y458.f1, .bool y458.f2, .bool y458.f3, .bool y458.f4, .int .i64 y458.f5, .int .i64 y458.f6, .int .i64 y458.f7]) (by kernel_rfl) (by kernel_rfl) (by kernel_rfl) (by kernel_rfl) fun a w hs hw => ?_
  refine s_end ?_
  refine c_seq ?_
  refine c_region ?_
  refine pures hs 1 [2, 3, 7, 8] [(2, .slice p7 x6.length c8), (3, .pointer (some ⟨b452, 0, none⟩)), (7, .pointer (some ⟨b460, 0, none⟩)), (8, .slice none 0 0)] (by kernel_rfl) fun a hs => ?_
  refine s_end ?_
  refine c_seq ?_
  refine c_seq ?_
  refine c_region ?_
  refine pures hs 1 [2, 3, 7, 8, 14] [(2, .slice p7 x6.length c8), (3, .pointer (some ⟨b452, 0, none⟩)), (7, .pointer (some ⟨b460, 0, none⟩)), (8, .slice none 0 0), (14, .pointer (some ⟨b460, 6, none⟩))] (by kernel_rfl) fun a hs => ?_
  refine s_load hs (hw.at_ 0 rfl) 6 (by kernel_rfl) (by kernel_rfl) (v := .int .i64 y458.f6) (by kernel_rfl) fun a hs => ?_
  refine pures hs 1 [2, 3, 8, 15, 16] [(2, .slice p7 x6.length c8), (3, .pointer (some ⟨b452, 0, none⟩)), (8, .slice none 0 0), (15, .int .i64 y458.f6), (16, .pointer (some ⟨b460, 7, none⟩))] (by kernel_rfl) fun a hs => ?_
  refine s_load hs (hw.at_ 0 rfl) 7 (by kernel_rfl) (by kernel_rfl) (v := .int .i64 y458.f7) (by kernel_rfl) fun a hs => ?_
  refine s_new hs hw [.int .i64 y458.f6, .int .i64 y458.f7] 3 (fun b => .slice (some ⟨b, 0, none⟩) 2 2) (by kernel_rfl) (fun _ => by kernel_rfl) fun a w b464 hs hw => ?_
  refine pures hs 2 [2, 3, 8, 18, 19, 20] [(2, .slice p7 x6.length c8), (3, .pointer (some ⟨b452, 0, none⟩)), (8, .slice none 0 0), (18, .slice (some ⟨b464, 0, none⟩) 2 2), (19, .int .i64 2), (20, .int .i64 0)] (by kernel_rfl) fun a hs => ?_
  refine s_end ?_
  refine c_block ?_
  obtain ⟨y786, hx787, hk⟩ := bindE hk
  replace hw := hw.nil
  obtain ⟨J788, hJ788⟩ : ∃ J : Act → World → Prop, ∀ a w, J a w ↔ (∃ (x780 : List M66) (p781 : Option Addr) (c782 : Nat) (d784 : Ch), role_Reports_r24 x780 = some r ∧ Sees a 42 [(8, .slice p781 x780.length c782)] ∧ St g w [d784, F] ih ∧ OSl e66 ih p781 c782 x780 d784) := ⟨_, fun _ _ => Iff.rfl⟩
  obtain ⟨I789, hI789⟩ : ∃ J : Nat → Act → World → Prop, ∀ j a w, J j a w ↔ (∃ (x674 : List M66) (x680 : List Int) (x686 : Int) (p675 : Option Addr) (c676 : Nat) (d678 : Ch) (p681 : Option Addr) (c682 : Nat) (d684 : Ch), role_Reports_l25 k x6 x1 j x674 x680 x686 = some y786 ∧ Sees a 42 [(2, .slice p7 x6.length c8), (3, .pointer (some ⟨b452, 0, none⟩)), (8, .slice p675 x674.length c676), (18, .slice p681 x680.length c682), (19, .int .i64 2), (20, .int .i64 x686)] ∧ St g w [bx b452 [.int .i64 x1.f0, .int .u64 x1.f1, .slice p2 x1.f2.length c3, .bool x1.f3, .int .i64 x1.f4] 53, d678, d684, F] ih ∧ OSl e66 ih p675 c676 x674 d678 ∧ OSl e3 ih p681 c682 x680 d684) := ⟨_, fun _ _ _ => Iff.rfl⟩
  refine c_exitJ 0 J788 ?_ ?_
  · refine c_loop I789 k ((hI789 _ _ _).2 ⟨([]), ([y458.f6, y458.f7]), 0, none, 0, ([]), (some ⟨b464, 0, none⟩), 2, (bx b464 [.int .i64 y458.f6, .int .i64 y458.f7] 3), hx787, hs.cast [2, 3, 8, 18, 19, 20] (by kernel_rfl), hw.pick [3, 0, 1, 4] (by kernel_rfl), (OSl.nil _ _), (OSl.ofL (E := e3) (zs := [y458.f6, y458.f7]) (EL.cons (E := e3) (c1 := [.int .i64 y458.f6]) rfl (EL.cons (E := e3) (c1 := [.int .i64 y458.f7]) rfl EL.nil)) rfl (by simp [maxLen]))⟩) (fun a w h0 => ?_) fun j a w hh => ?_
    · obtain ⟨_, _, _, _, _, _, _, _, _, h, _⟩ := (hI789 _ _ _).1 h0
      cases h
    · obtain ⟨x674, x680, x686, p675, c676, d678, p681, c682, d684, hx787, hs, hw, h677, h683⟩ := (hI789 _ _ _).1 hh
      refine c_seq ?_
      refine c_region ?_
      refine pures hs 1 [2, 3, 8, 18, 19, 20, 21] [(2, .slice p7 x6.length c8), (3, .pointer (some ⟨b452, 0, none⟩)), (8, .slice p675 x674.length c676), (18, .slice p681 x680.length c682), (19, .int .i64 2), (20, .int .i64 x686), (21, .bool (decide (x686 < 2)))] (by kernel_rfl) fun a hs => ?_
      refine s_end ?_
      refine c_seq ?_
      rcases ifbE hx787 with ⟨h790, hx787⟩ | ⟨h790, hx787⟩
      · refine c_cond1 hs (by kernel_rfl) (t := (decide (x686 < 2))) (by kernel_rfl) h790 ?_
        refine wp_skip ?_
        obtain ⟨y838, hx839, hx787⟩ := bindE hx787
        obtain ⟨J840, hJ840⟩ : ∃ J : Act → World → Prop, ∀ a w, J a w ↔ (∃ (x832 : List M66) (p833 : Option Addr) (c834 : Nat) (d836 : Ch), role_Reports_r27 (role_Reports_l25 k x6 x1 j) x680 x686 x832 = some y786 ∧ Sees a 42 [(2, .slice p7 x6.length c8), (3, .pointer (some ⟨b452, 0, none⟩)), (18, .slice p681 x680.length c682), (19, .int .i64 2), (20, .int .i64 x686), (8, .slice p833 x832.length c834)] ∧ St g w [bx b452 [.int .i64 x1.f0, .int .u64 x1.f1, .slice p2 x1.f2.length c3, .bool x1.f3, .int .i64 x1.f4] 53, d684, d836, F] ih ∧ OSl e66 ih p833 c834 x832 d836) := ⟨_, fun _ _ => Iff.rfl⟩
        refine c_seqJ J840 ?_ ?_
        · refine c_block ?_
          refine c_seq ?_
          refine c_region ?_
          obtain ⟨x846, h847, hx839⟩ := bindE hx839
          refine s_indexO hs h683 (by kernel_rfl) (by kernel_rfl) (k := .i64) (by kernel_rfl) 3 (by kernel_rfl) (by kernel_rfl) h847 fun a r848 cs henc at849 h850 hs => ?_
          obtain rfl := henc
          refine s_load hs (at849 _ ((hw.vw 2 rfl).anti (Le.refl _))) 0 (by kernel_rfl) (by kernel_rfl) (v := .int .i64 x846) (by kernel_rfl) fun a hs => ?_
          refine pures hs 1 [2, 3, 8, 18, 19, 20, 10] [(2, .slice p7 x6.length c8), (3, .pointer (some ⟨b452, 0, none⟩)), (8, .slice p675 x674.length c676), (18, .slice p681 x680.length c682), (19, .int .i64 2), (20, .int .i64 x686), (10, .int .i64 x846)] (by kernel_rfl) fun a hs => ?_
          refine s_end ?_
          refine c_seq ?_
          obtain ⟨y875, hx876, hx839⟩ := bindE hx839
          obtain ⟨J877, hJ877⟩ : ∃ J : Act → World → Prop, ∀ a w, J a w ↔ (∃ (x857 : Bool), role_Reports_r28 x674 x1 x846 x857 = some y838 ∧ Sees a 42 [(2, .slice p7 x6.length c8), (3, .pointer (some ⟨b452, 0, none⟩)), (8, .slice p675 x674.length c676), (18, .slice p681 x680.length c682), (19, .int .i64 2), (20, .int .i64 x686), (10, .int .i64 x846), (30, .bool x857)] ∧ St g w [bx b452 [.int .i64 x1.f0, .int .u64 x1.f1, .slice p2 x1.f2.length c3, .bool x1.f3, .int .i64 x1.f4] 53, d678, d684, F] ih) := ⟨_, fun _ _ => Iff.rfl⟩
          refine c_regJ J877 ?_ ?_
          · refine pures hs 3 [2, 3, 8, 18, 19, 20, 10, 26] [(2, .slice p7 x6.length c8), (3, .pointer (some ⟨b452, 0, none⟩)), (8, .slice p675 x674.length c676), (18, .slice p681 x680.length c682), (19, .int .i64 2), (20, .int .i64 x686), (10, .int .i64 x846), (26, .bool (x846 != 0))] (by kernel_rfl) fun a hs => ?_
            rcases ifbE hx876 with ⟨h878, hx876⟩ | ⟨h878, hx876⟩
            · replace hs := hs.altB 26 true (by kernel_rfl) h878
              refine pures hs 2 [2, 3, 8, 18, 19, 20, 10, 26, 27, 28] [(2, .slice p7 x6.length c8), (3, .pointer (some ⟨b452, 0, none⟩)), (8, .slice p675 x674.length c676), (18, .slice p681 x680.length c682), (19, .int .i64 2), (20, .int .i64 x686), (10, .int .i64 x846), (26, .bool true), (27, .slice p7 x6.length c8), (28, .int .i64 x846)] (by kernel_rfl) fun a hs => ?_
              obtain ⟨y879, h880, hx876⟩ := bindE hx876
              refine s_call hs (by kernel_rfl) (by kernel_rfl) (slices_Contains_int_int_s h880 h9 (fun q hq => memF 3 rfl q (h11 q hq)) ((hw.pick [0, 1, 2, 3] (by kernel_rfl)).pack 0)) fun a w v hv hs => ?_
              obtain ⟨rfl, hw⟩ := hv
              replace hw := hw.unpack 0 rfl
              refine pures hs 1 [2, 3, 8, 18, 19, 20, 10, 30] [(2, .slice p7 x6.length c8), (3, .pointer (some ⟨b452, 0, none⟩)), (8, .slice p675 x674.length c676), (18, .slice p681 x680.length c682), (19, .int .i64 2), (20, .int .i64 x686), (10, .int .i64 x846), (30, .bool y879)] (by kernel_rfl) fun a hs => ?_
              refine s_end ?_
              obtain rfl := someE hx876
              exact (hJ877 _ _).2 ⟨y879, hx839, hs.cast [2, 3, 8, 18, 19, 20, 10, 30] (by kernel_rfl), hw.pick [0, 1, 2, 3] (by kernel_rfl)⟩
            · replace hs := hs.altB 26 false (by kernel_rfl) h878
              refine pures hs 4 [2, 3, 8, 18, 19, 20, 10, 30] [(2, .slice p7 x6.length c8), (3, .pointer (some ⟨b452, 0, none⟩)), (8, .slice p675 x674.length c676), (18, .slice p681 x680.length c682), (19, .int .i64 2), (20, .int .i64 x686), (10, .int .i64 x846), (30, .bool false)] (by kernel_rfl) fun a hs => ?_
              refine s_end ?_
              obtain rfl := someE hx876
              exact (hJ877 _ _).2 ⟨false, hx839, hs.cast [2, 3, 8, 18, 19, 20, 10, 30] (by kernel_rfl), hw.pick [0, 1, 2, 3] (by kernel_rfl)⟩
          · intro a w hh
            obtain ⟨x857, hx839, hs, hw⟩ := (hJ877 _ _).1 hh
            rcases ifbE hx839 with ⟨h858, hx839⟩ | ⟨h858, hx839⟩
            · refine c_cond1 hs (by kernel_rfl) (t := x857) (by kernel_rfl) h858 ?_
              refine c_region ?_
              refine pures hs 2 [2, 3, 18, 19, 20, 10, 31, 32] [(2, .slice p7 x6.length c8), (3, .pointer (some ⟨b452, 0, none⟩)), (18, .slice p681 x680.length c682), (19, .int .i64 2), (20, .int .i64 x686), (10, .int .i64 x846), (31, .slice p675 x674.length c676), (32, .pointer (some ⟨b452, 0, none⟩))] (by kernel_rfl) fun a hs => ?_
              refine s_load hs (hw.at_ 0 rfl) 0 (by kernel_rfl) (by kernel_rfl) (v := .int .i64 x1.f0) (by kernel_rfl) fun a hs => ?_
              refine pures hs 1 [2, 3, 18, 19, 20, 10, 31, 33, 34] [(2, .slice p7 x6.length c8), (3, .pointer (some ⟨b452, 0, none⟩)), (18, .slice p681 x680.length c682), (19, .int .i64 2), (20, .int .i64 x686), (10, .int .i64 x846), (31, .slice p675 x674.length c676), (33, .int .i64 x1.f0), (34, .pointer (some ⟨b452, 1, none⟩))] (by kernel_rfl) fun a hs => ?_
              refine s_load hs (hw.at_ 0 rfl) 1 (by kernel_rfl) (by kernel_rfl) (v := .int .u64 x1.f1) (by kernel_rfl) fun a hs => ?_
              refine pures hs 2 [2, 3, 18, 19, 20, 31, 37] [(2, .slice p7 x6.length c8), (3, .pointer (some ⟨b452, 0, none⟩)), (18, .slice p681 x680.length c682), (19, .int .i64 2), (20, .int .i64 x686), (31, .slice p675 x674.length c676), (37, .agg #[.int .i64 1, .int .i64 x1.f0, .int .u64 x1.f1, .int .i64 x846])] (by kernel_rfl) fun a hs => ?_
              refine s_new hs hw [.int .i64 1, .int .i64 x1.f0, .int .u64 x1.f1, .int .i64 x846] 66 (fun b => .slice (some ⟨b, 0, none⟩) 1 1) (by kernel_rfl) (fun _ => by kernel_rfl) fun a w b867 hs hw => ?_
              obtain ⟨x869, h870, hx839⟩ := bindE hx839
              refine s_app1 hs hw (E := e66) appT63 2 rfl h677 (by kernel_rfl) (by kernel_rfl) (c2 := 1) (by kernel_rfl) (hw.at_ 0 rfl) (z := (M66.mk 1 x1.f0 x1.f1 x846)) rfl h870 fun a w p871 c872 d873 h874 hw hs => ?_
              refine pures hs 1 [2, 3, 18, 19, 20, 8] [(2, .slice p7 x6.length c8), (3, .pointer (some ⟨b452, 0, none⟩)), (18, .slice p681 x680.length c682), (19, .int .i64 2), (20, .int .i64 x686), (8, .slice p871 x869.length c872)] (by kernel_rfl) fun a hs => ?_
              refine s_end ?_
              obtain rfl := someE hx839
              exact (hJ840 _ _).2 ⟨x869, p871, c872, d873, hx787, hs.cast [2, 3, 18, 19, 20, 8] (by kernel_rfl), hw.pick [1, 3, 2, 4] (by kernel_rfl), h874⟩
            · refine c_cond0 hs (by kernel_rfl) (t := x857) (by kernel_rfl) h858 ?_
              refine wp_skip ?_
              obtain rfl := someE hx839
              exact (hJ840 _ _).2 ⟨x674, p675, c676, d678, hx787, hs.cast [2, 3, 18, 19, 20, 8] (by kernel_rfl), hw.pick [0, 2, 1, 3] (by kernel_rfl), h677⟩
        · intro a w hh
          obtain ⟨x832, p833, c834, d836, hx787, hs, hw, h835⟩ := (hJ840 _ _).1 hh
          refine c_region ?_
          refine pures hs 2 [2, 3, 18, 19, 20, 8] [(2, .slice p7 x6.length c8), (3, .pointer (some ⟨b452, 0, none⟩)), (18, .slice p681 x680.length c682), (19, .int .i64 2), (20, .int .i64 (IntKind.i64.wrap (x686 + 1))), (8, .slice p833 x832.length c834)] (by kernel_rfl) fun a hs => ?_
          refine s_end ?_
          exact (hI789 _ _ _).2 ⟨x832, x680, (IntKind.i64.wrap (x686 + 1)), p833, c834, d836, p681, c682, d684, hx787, hs.cast [2, 3, 8, 18, 19, 20] (by kernel_rfl), hw.pick [0, 2, 1, 3] (by kernel_rfl), h835, h683⟩
      · refine c_cond0 hs (by kernel_rfl) (t := (decide (x686 < 2))) (by kernel_rfl) h790 ?_
        refine wp_exit ?_
        obtain rfl := someE hx787
        exact (hJ788 _ _).2 ⟨x674, p675, c676, d678, hk, hs.cast [8] (by kernel_rfl), hw.pick [1, 3] (by kernel_rfl), h677⟩
  · intro a w hh
    obtain ⟨x780, p781, c782, d784, hk, hs, hw, h783⟩ := (hJ788 _ _).1 hh
    refine c_seq ?_
    refine c_region ?_
    refine pures hs 2 [6] [(6, .slice p781 x780.length c782)] (by kernel_rfl) fun a hs => ?_
    refine s_end ?_
    refine wp_ret ?_
    obtain rfl := someE hk
    refine hQ _ _ (f_ret1 hs rfl (v := .slice p781 x780.length c782) (by kernel_rfl) ⟨p781, c782, d784, rfl, hw.pick [0, 1] (by kernel_rfl), h783⟩)
def catenaryref09_Stands_r2 (x108 : List Int) : Option (List Int) :=
  some x108
def catenaryref09_Stands (x1 : M53) : Option (List Int) :=
  (app ([]) x1.f2).bind fun x85 =>
  (if (x1.f4 != 0) = true then (
      (app x85 [x1.f4]).bind fun x128 =>
      some x128)
    else some x85 : Option (List Int)).bind fun s134 => catenaryref09_Stands_r2 s134
theorem catenaryref09_Stands_s {x1 : M53} {p2 : Option Addr} {c3 : Nat} {r : (List Int)} (hk : catenaryref09_Stands x1 = some r) {g w : World} {F : Ch} {ih : IH} (h4 : RSl e3 ih [] p2 c3 x1.f2) (hw : St g w [F] ih) :
    CallsR Try.prog 79 #[.agg #[.int .i64 x1.f0, .int .u64 x1.f1, .slice p2 x1.f2.length c3, .bool x1.f3, .int .i64 x1.f4]] w fun v w' => ∃ (p135 : Option Addr) (c136 : Nat) (d137 : Ch), v = .slice p135 r.length c136 ∧ St g w' [d137, F] ih ∧ OSl e3 ih p135 c136 r d137 := by
  refine f_in (vs := [.agg #[.int .i64 x1.f0, .int .u64 x1.f1, .slice p2 x1.f2.length c3, .bool x1.f3, .int .i64 x1.f4]]) Try.func79 rfl 16 rfl (by kernel_rfl) [(0, .agg #[.int .i64 x1.f0, .int .u64 x1.f1, .slice p2 x1.f2.length c3, .bool x1.f3, .int .i64 x1.f4])] (by kernel_rfl) fun a Qf hQ hQn hs => ?_
  refine c_seq ?_
  refine c_region ?_
  refine s_new hs hw [.int .i64 x1.f0, .int .u64 x1.f1, .slice p2 x1.f2.length c3, .bool x1.f3, .int .i64 x1.f4] 53 (fun b => .pointer (some ⟨b, 0, none⟩)) (by kernel_rfl) (fun _ => by kernel_rfl) fun a w b73 hs hw => ?_
  refine pures hs 1 [1] [(1, .pointer (some ⟨b73, 0, none⟩))] (by kernel_rfl) fun a hs => ?_
  refine s_end ?_
  refine c_seq ?_
  refine c_region ?_
  refine pures hs 1 [1, 4] [(1, .pointer (some ⟨b73, 0, none⟩)), (4, .pointer (some ⟨b73, 2, none⟩))] (by kernel_rfl) fun a hs => ?_
  refine s_load hs (hw.at_ 0 rfl) 2 (by kernel_rfl) (by kernel_rfl) (v := .slice p2 x1.f2.length c3) (by kernel_rfl) fun a hs => ?_
  replace hw := hw.nil
  obtain ⟨x85, h86, hk⟩ := bindE hk
  refine s_appS hs hw (E := e3) appT40 0 rfl (OSl.nil _ _) (by kernel_rfl) (by kernel_rfl) (h4.mono (Le.refl _)) (hw.vwAll.nil.anti (Le.refl _)) (by kernel_rfl) h86 fun a w p87 c88 d89 h90 hw hs => ?_
  refine pures hs 1 [1, 3] [(1, .pointer (some ⟨b73, 0, none⟩)), (3, .slice p87 x85.length c88)] (by kernel_rfl) fun a hs => ?_
  refine s_end ?_
  obtain ⟨y114, hx115, hk⟩ := bindE hk
  obtain ⟨J116, hJ116⟩ : ∃ J : Act → World → Prop, ∀ a w, J a w ↔ (∃ (x108 : List Int) (p109 : Option Addr) (c110 : Nat) (d112 : Ch), catenaryref09_Stands_r2 x108 = some r ∧ Sees a 16 [(3, .slice p109 x108.length c110)] ∧ St g w [d112, F] ih ∧ OSl e3 ih p109 c110 x108 d112) := ⟨_, fun _ _ => Iff.rfl⟩
  refine c_seqJ J116 ?_ ?_
  · refine c_seq ?_
    refine c_region ?_
    refine pures hs 1 [1, 3, 7] [(1, .pointer (some ⟨b73, 0, none⟩)), (3, .slice p87 x85.length c88), (7, .pointer (some ⟨b73, 4, none⟩))] (by kernel_rfl) fun a hs => ?_
    refine s_load hs (hw.at_ 1 rfl) 4 (by kernel_rfl) (by kernel_rfl) (v := .int .i64 x1.f4) (by kernel_rfl) fun a hs => ?_
    refine pures hs 1 [1, 3, 9] [(1, .pointer (some ⟨b73, 0, none⟩)), (3, .slice p87 x85.length c88), (9, .bool (x1.f4 != 0))] (by kernel_rfl) fun a hs => ?_
    refine s_end ?_
    rcases ifbE hx115 with ⟨h117, hx115⟩ | ⟨h117, hx115⟩
    · refine c_cond1 hs (by kernel_rfl) (t := (x1.f4 != 0)) (by kernel_rfl) h117 ?_
      refine c_region ?_
      refine pures hs 2 [10, 11] [(10, .slice p87 x85.length c88), (11, .pointer (some ⟨b73, 4, none⟩))] (by kernel_rfl) fun a hs => ?_
      refine s_load hs (hw.at_ 1 rfl) 4 (by kernel_rfl) (by kernel_rfl) (v := .int .i64 x1.f4) (by kernel_rfl) fun a hs => ?_
      refine s_new hs hw [.int .i64 x1.f4] 3 (fun b => .slice (some ⟨b, 0, none⟩) 1 1) (by kernel_rfl) (fun _ => by kernel_rfl) fun a w b126 hs hw => ?_
      obtain ⟨x128, h129, hx115⟩ := bindE hx115
      refine s_app1 hs hw (E := e3) appT40 1 rfl h90 (by kernel_rfl) (by kernel_rfl) (c2 := 1) (by kernel_rfl) (hw.at_ 0 rfl) (z := x1.f4) rfl h129 fun a w p130 c131 d132 h133 hw hs => ?_
      refine pures hs 1 [3] [(3, .slice p130 x128.length c131)] (by kernel_rfl) fun a hs => ?_
      refine s_end ?_
      obtain rfl := someE hx115
      exact (hJ116 _ _).2 ⟨x128, p130, c131, d132, hk, hs.cast [3] (by kernel_rfl), hw.pick [1, 3] (by kernel_rfl), h133⟩
    · refine c_cond0 hs (by kernel_rfl) (t := (x1.f4 != 0)) (by kernel_rfl) h117 ?_
      refine wp_skip ?_
      obtain rfl := someE hx115
      exact (hJ116 _ _).2 ⟨x85, p87, c88, d89, hk, hs.cast [3] (by kernel_rfl), hw.pick [0, 2] (by kernel_rfl), h90⟩
  · intro a w hh
    obtain ⟨x108, p109, c110, d112, hk, hs, hw, h111⟩ := (hJ116 _ _).1 hh
    refine c_seq ?_
    refine c_region ?_
    refine pures hs 2 [2] [(2, .slice p109 x108.length c110)] (by kernel_rfl) fun a hs => ?_
    refine s_end ?_
    refine wp_ret ?_
    obtain rfl := someE hk
    refine hQ _ _ (f_ret1 hs rfl (v := .slice p109 x108.length c110) (by kernel_rfl) ⟨p109, c110, d112, rfl, hw.pick [0, 1] (by kernel_rfl), h111⟩)
def catenaryref04_Has_r3 : Option Bool :=
  some false
def catenaryref04_Has_l4 (x1 : List Int) (x7 : Int) : Nat → Int → Option (Sum Bool Unit)
  | 0, _ => none
  | j + 1, x78 =>
    if (decide (x78 < (x1.length : Int))) = true then (
      (ix x1 x78).bind fun x98 =>
      if (x98 == x7) = true then some (.inl true)
      else catenaryref04_Has_l4 x1 x7 j (IntKind.i64.wrap (x78 + 1)))
    else some (.inr ())
def catenaryref04_Has (k : Nat) (x1 : List Int) (x7 : Int) : Option Bool :=
  (catenaryref04_Has_l4 x1 x7 k 0 : Option (Sum Bool Unit)).bind fun
    | .inl z => some z
    | .inr _ => catenaryref04_Has_r3
theorem catenaryref04_Has_s {k : Nat} {x1 : List Int} {x7 : Int} {p2 : Option Addr} {c3 : Nat} {d5 : Ch} {r : Bool} (hk : catenaryref04_Has k x1 x7 = some r) {g w : World} {F : Ch} {ih : IH} (h4 : RSl e3 ih d5 p2 c3 x1) (h6 : ∀ q ∈ d5, q ∈ F) (hw : St g w [F] ih) :
    CallsR Try.prog 83 #[.slice p2 x1.length c3, .int .i64 x7] w fun v w' => v = .bool r ∧ St g w' [F] ih := by
  refine f_in (vs := [.slice p2 x1.length c3, .int .i64 x7]) Try.func83 rfl 18 rfl (by kernel_rfl) [(0, .slice p2 x1.length c3), (1, .int .i64 x7)] (by kernel_rfl) fun a Qf hQ hQn hs => ?_
  refine c_seq ?_
  refine c_region ?_
  refine pures hs 1 [0, 1] [(0, .slice p2 x1.length c3), (1, .int .i64 x7)] (by kernel_rfl) fun a hs => ?_
  refine s_end ?_
  refine c_seq ?_
  refine c_seq ?_
  refine c_region ?_
  refine pures hs 1 [0, 1, 5] [(0, .slice p2 x1.length c3), (1, .int .i64 x7), (5, .int .i64 0)] (by kernel_rfl) fun a hs => ?_
  refine s_end ?_
  refine c_block ?_
  obtain ⟨y89, hx90, hk⟩ := bindE hk
  obtain ⟨J91, hJ91⟩ : ∃ J : Act → World → Prop, ∀ a w, J a w ↔ (catenaryref04_Has_r3 = some r ∧ Sees a 18 [] ∧ St g w [F] ih) := ⟨_, fun _ _ => Iff.rfl⟩
  obtain ⟨I92, hI92⟩ : ∃ J : Nat → Act → World → Prop, ∀ j a w, J j a w ↔ (∃ (x78 : Int), catenaryref04_Has_l4 x1 x7 j x78 = some y89 ∧ Sees a 18 [(0, .slice p2 x1.length c3), (1, .int .i64 x7), (5, .int .i64 x78)] ∧ St g w [F] ih) := ⟨_, fun _ _ _ => Iff.rfl⟩
  refine c_exitJ 0 J91 ?_ ?_
  · refine c_loop I92 k ((hI92 _ _ _).2 ⟨0, hx90, hs.cast [0, 1, 5] (by kernel_rfl), hw.pick [0] (by kernel_rfl)⟩) (fun a w h0 => ?_) fun j a w hh => ?_
    · obtain ⟨_, h, _⟩ := (hI92 _ _ _).1 h0
      cases h
    · obtain ⟨x78, hx90, hs, hw⟩ := (hI92 _ _ _).1 hh
      refine c_seq ?_
      refine c_seq ?_
      refine c_region ?_
      refine pures hs 4 [0, 1, 5, 9] [(0, .slice p2 x1.length c3), (1, .int .i64 x7), (5, .int .i64 x78), (9, .bool (decide (x78 < (x1.length : Int))))] (by kernel_rfl) fun a hs => ?_
      refine s_end ?_
      rcases ifbE hx90 with ⟨h93, hx90⟩ | ⟨h93, hx90⟩
      · refine c_cond1 hs (by kernel_rfl) (t := (decide (x78 < (x1.length : Int)))) (by kernel_rfl) h93 ?_
        refine wp_skip ?_
        refine c_seq ?_
        refine c_block ?_
        refine c_seq ?_
        refine c_region ?_
        refine pures hs 2 [0, 1, 5, 12, 13] [(0, .slice p2 x1.length c3), (1, .int .i64 x7), (5, .int .i64 x78), (12, .slice p2 x1.length c3), (13, .int .i64 x78)] (by kernel_rfl) fun a hs => ?_
        obtain ⟨x98, h99, hx90⟩ := bindE hx90
        refine s_index hs h4 (by kernel_rfl) (by kernel_rfl) (k := .i64) (by kernel_rfl) 3 (by kernel_rfl) (by kernel_rfl) h99 fun a r100 cs henc at101 hs => ?_
        obtain rfl := henc
        refine s_load hs (at101 _ (((hw.vw 0 rfl).sub h6).anti (Le.refl _))) 0 (by kernel_rfl) (by kernel_rfl) (v := .int .i64 x98) (by kernel_rfl) fun a hs => ?_
        refine pures hs 2 [0, 1, 5, 17] [(0, .slice p2 x1.length c3), (1, .int .i64 x7), (5, .int .i64 x78), (17, .bool (x98 == x7))] (by kernel_rfl) fun a hs => ?_
        refine s_end ?_
        rcases ifbE hx90 with ⟨h102, hx90⟩ | ⟨h102, hx90⟩
        · refine c_cond1 hs (by kernel_rfl) (t := (x98 == x7)) (by kernel_rfl) h102 ?_
          refine c_seq ?_
          refine c_region ?_
          refine pures hs 1 [4] [(4, .bool true)] (by kernel_rfl) fun a hs => ?_
          refine s_end ?_
          refine wp_ret ?_
          obtain rfl := someE hx90
          obtain rfl := someE hk
          refine hQ _ _ (f_ret1 hs rfl (v := .bool true) (by kernel_rfl) ⟨rfl, hw.pick [0] (by kernel_rfl)⟩)
        · refine c_cond0 hs (by kernel_rfl) (t := (x98 == x7)) (by kernel_rfl) h102 ?_
          refine wp_skip ?_
          refine c_region ?_
          refine pures hs 3 [0, 1, 5] [(0, .slice p2 x1.length c3), (1, .int .i64 x7), (5, .int .i64 (IntKind.i64.wrap (x78 + 1)))] (by kernel_rfl) fun a hs => ?_
          refine s_end ?_
          exact (hI92 _ _ _).2 ⟨(IntKind.i64.wrap (x78 + 1)), hx90, hs.cast [0, 1, 5] (by kernel_rfl), hw.pick [0] (by kernel_rfl)⟩
      · refine c_cond0 hs (by kernel_rfl) (t := (decide (x78 < (x1.length : Int)))) (by kernel_rfl) h93 ?_
        refine wp_exit ?_
        obtain rfl := someE hx90
        exact (hJ91 _ _).2 ⟨hk, hs.cast [] (by kernel_rfl), hw.pick [0] (by kernel_rfl)⟩
  · intro a w hh
    obtain ⟨hk, hs, hw⟩ := (hJ91 _ _).1 hh
    refine c_seq ?_
    refine c_region ?_
    refine pures hs 1 [4] [(4, .bool false)] (by kernel_rfl) fun a hs => ?_
    refine s_end ?_
    refine wp_ret ?_
    obtain rfl := someE hk
    refine hQ _ _ (f_ret1 hs rfl (v := .bool false) (by kernel_rfl) ⟨rfl, hw.pick [0] (by kernel_rfl)⟩)
def catenaryref09_Unlike_r10 : Option Bool :=
  some true
def catenaryref09_Unlike_r12 (rec_catenaryref09_Unlike_l11 : Int → Option (Sum Bool Unit)) (x443 : Int) (x563 : Bool) : Option (Sum Bool Unit) :=
  if x563 = true then some (.inl false)
  else rec_catenaryref09_Unlike_l11 (IntKind.i64.wrap (x443 + 1))
def catenaryref09_Unlike_l11 (k : Nat) (x1 : List Int) : Nat → Int → Option (Sum Bool Unit)
  | 0, _ => none
  | j + 1, x443 =>
    if (decide (x443 < (x1.length : Int))) = true then (
      ((ix x1 x443).bind fun x568 =>
        if (decide (x568 < 1)) = true then some true
        else (ix x1 x443).bind fun x573 =>
        if (decide (x573 > 24)) = true then some true
        else (sl x1 0 x443).bind fun x578 =>
        (ix x1 x443).bind fun x583 =>
        (catenaryref04_Has k x578 x583).bind fun y587 =>
        some y587 : Option Bool).bind fun s589 => catenaryref09_Unlike_r12 (catenaryref09_Unlike_l11 k x1 j) x443 s589)
    else some (.inr ())
def catenaryref09_Unlike (k : Nat) (x1 : List Int) : Option Bool :=
  (catenaryref09_Unlike_l11 k x1 k 0 : Option (Sum Bool Unit)).bind fun
    | .inl z => some z
    | .inr _ => catenaryref09_Unlike_r10
theorem catenaryref09_Unlike_s {k : Nat} {x1 : List Int} {p2 : Option Addr} {c3 : Nat} {d5 : Ch} {r : Bool} (hk : catenaryref09_Unlike k x1 = some r) {g w : World} {F : Ch} {ih : IH} (h4 : RSl e3 ih d5 p2 c3 x1) (h6 : ∀ q ∈ d5, q ∈ F) (hw : St g w [F] ih) :
    CallsR Try.prog 78 #[.slice p2 x1.length c3] w fun v w' => v = .bool r ∧ St g w' [F] ih := by
  refine f_in (vs := [.slice p2 x1.length c3]) Try.func78 rfl 32 rfl (by kernel_rfl) [(0, .slice p2 x1.length c3)] (by kernel_rfl) fun a Qf hQ hQn hs => ?_
  refine c_seq ?_
  refine c_region ?_
  refine pures hs 1 [0] [(0, .slice p2 x1.length c3)] (by kernel_rfl) fun a hs => ?_
  refine s_end ?_
  refine c_seq ?_
  refine c_seq ?_
  refine c_region ?_
  refine pures hs 1 [0, 3] [(0, .slice p2 x1.length c3), (3, .int .i64 0)] (by kernel_rfl) fun a hs => ?_
  refine s_end ?_
  refine c_block ?_
  obtain ⟨y515, hx516, hk⟩ := bindE hk
  obtain ⟨J517, hJ517⟩ : ∃ J : Act → World → Prop, ∀ a w, J a w ↔ (catenaryref09_Unlike_r10 = some r ∧ Sees a 32 [] ∧ St g w [F] ih) := ⟨_, fun _ _ => Iff.rfl⟩
  obtain ⟨I518, hI518⟩ : ∃ J : Nat → Act → World → Prop, ∀ j a w, J j a w ↔ (∃ (x443 : Int), catenaryref09_Unlike_l11 k x1 j x443 = some y515 ∧ Sees a 32 [(0, .slice p2 x1.length c3), (3, .int .i64 x443)] ∧ St g w [F] ih) := ⟨_, fun _ _ _ => Iff.rfl⟩
  refine c_exitJ 0 J517 ?_ ?_
  · refine c_loop I518 k ((hI518 _ _ _).2 ⟨0, hx516, hs.cast [0, 3] (by kernel_rfl), hw.pick [0] (by kernel_rfl)⟩) (fun a w h0 => ?_) fun j a w hh => ?_
    · obtain ⟨_, h, _⟩ := (hI518 _ _ _).1 h0
      cases h
    · obtain ⟨x443, hx516, hs, hw⟩ := (hI518 _ _ _).1 hh
      refine c_seq ?_
      refine c_seq ?_
      refine c_region ?_
      refine pures hs 4 [0, 3, 7] [(0, .slice p2 x1.length c3), (3, .int .i64 x443), (7, .bool (decide (x443 < (x1.length : Int))))] (by kernel_rfl) fun a hs => ?_
      refine s_end ?_
      rcases ifbE hx516 with ⟨h519, hx516⟩ | ⟨h519, hx516⟩
      · refine c_cond1 hs (by kernel_rfl) (t := (decide (x443 < (x1.length : Int)))) (by kernel_rfl) h519 ?_
        refine wp_skip ?_
        refine c_seq ?_
        refine c_block ?_
        refine c_seq ?_
        obtain ⟨S520, hS520, kS520⟩ := mkSX (X := [([], F)]) (ih := ih) (K := []) rfl
        obtain ⟨y565, hx566, hx516⟩ := bindE hx516
        obtain ⟨J567, hJ567⟩ : ∃ J : Act → World → Prop, ∀ a w, J a w ↔ (∃ (x563 : Bool), catenaryref09_Unlike_r12 (catenaryref09_Unlike_l11 k x1 j) x443 x563 = some y515 ∧ Sees a 32 [(0, .slice p2 x1.length c3), (3, .int .i64 x443), (31, .bool x563)] ∧ St g w [F] ih) := ⟨_, fun _ _ => Iff.rfl⟩
        refine c_draw (by kernel_rfl) (N := 22) rfl S520 J567 ?_ ?_
        · have hw := hw.drew
          have hS : S520 (Array.replicate 22 false) _ := SX_now hS520 (hw.vws [0]) (by kernel_rfl)
          refine d_pures (fuel := 20) kS520 hs hS [0, 1] [0, 3, 10, 11] [(0, .slice p2 x1.length c3), (3, .int .i64 x443), (10, .slice p2 x1.length c3), (11, .int .i64 x443)] (by kernel_rfl) fun a hs hS => ?_
          obtain ⟨x568, h569, hx566⟩ := bindE hx566
          refine d_index (fuel := 19) kS520 hs hS 2 rfl (by kernel_rfl) h4 (by kernel_rfl) (by kernel_rfl) (k := .i64) (by kernel_rfl) 3 (by kernel_rfl) (by kernel_rfl) h569 fun a r570 cs henc at571 hs hS => ?_
          obtain rfl := henc
          refine d_load (fuel := 18) kS520 hs hS 3 rfl (by kernel_rfl) (fun l w hu hS => at571 w (((SX_ch hS520 0 rfl (by kernel_rfl) l w hu hS).sub h6).anti (Le.refl _))) 0 (by kernel_rfl) (by kernel_rfl) (v := .int .i64 x568) (by kernel_rfl) fun a hs hS => ?_
          refine d_pures (fuel := 16) kS520 hs hS [4, 5] [0, 3, 10, 11, 12, 13, 14, 15] [(0, .slice p2 x1.length c3), (3, .int .i64 x443), (10, .slice p2 x1.length c3), (11, .int .i64 x443), (12, .pointer (some r570)), (13, .int .i64 x568), (14, .bool (decide (x568 < 1))), (15, .bool (decide (x568 < 1)))] (by kernel_rfl) fun a hs hS => ?_
          rcases ifbE hx566 with ⟨h572, hx566⟩ | ⟨h572, hx566⟩
          · replace hs := hs.altB 15 true (by kernel_rfl) h572
            refine d_pures (fuel := 0) kS520 hs hS [6, 7, 8, 9, 10, 11, 12, 13, 14, 15, 16, 17, 18, 19, 20, 21] [0, 3, 10, 11, 12, 13, 14, 15, 16, 17, 18, 19, 20, 21, 22, 23, 24, 25, 26, 27, 28, 29, 30, 31] [(0, .slice p2 x1.length c3), (3, .int .i64 x443), (10, .slice p2 x1.length c3), (11, .int .i64 x443), (12, .pointer (some r570)), (13, .int .i64 x568), (14, .bool (decide (x568 < 1))), (15, .bool true), (16, undef), (17, undef), (18, undef), (19, undef), (20, undef), (21, .bool true), (22, .bool true), (23, undef), (24, undef), (25, undef), (26, undef), (27, undef), (28, undef), (29, undef), (30, undef), (31, .bool true)] (by kernel_rfl) fun a hs hS => ?_
            refine d_done (by kernel_rfl) ?_
            obtain rfl := someE hx566
            exact (hJ567 _ _).2 ⟨true, hx516, hs.cast [0, 3, 31] (by kernel_rfl), hw.pick [0] (by kernel_rfl)⟩
          · replace hs := hs.altB 15 false (by kernel_rfl) h572
            refine d_pures (fuel := 14) kS520 hs hS [6, 7] [0, 3, 10, 11, 12, 13, 14, 15, 16, 17] [(0, .slice p2 x1.length c3), (3, .int .i64 x443), (10, .slice p2 x1.length c3), (11, .int .i64 x443), (12, .pointer (some r570)), (13, .int .i64 x568), (14, .bool (decide (x568 < 1))), (15, .bool false), (16, .slice p2 x1.length c3), (17, .int .i64 x443)] (by kernel_rfl) fun a hs hS => ?_
            obtain ⟨x573, h574, hx566⟩ := bindE hx566
            refine d_index (fuel := 13) kS520 hs hS 8 rfl (by kernel_rfl) h4 (by kernel_rfl) (by kernel_rfl) (k := .i64) (by kernel_rfl) 3 (by kernel_rfl) (by kernel_rfl) h574 fun a r575 cs henc at576 hs hS => ?_
            obtain rfl := henc
            refine d_load (fuel := 12) kS520 hs hS 9 rfl (by kernel_rfl) (fun l w hu hS => at576 w (((SX_ch hS520 0 rfl (by kernel_rfl) l w hu hS).sub h6).anti (Le.refl _))) 0 (by kernel_rfl) (by kernel_rfl) (v := .int .i64 x573) (by kernel_rfl) fun a hs hS => ?_
            refine d_pures (fuel := 9) kS520 hs hS [10, 11, 12] [0, 3, 10, 11, 12, 13, 14, 15, 16, 17, 18, 19, 20, 21, 22] [(0, .slice p2 x1.length c3), (3, .int .i64 x443), (10, .slice p2 x1.length c3), (11, .int .i64 x443), (12, .pointer (some r570)), (13, .int .i64 x568), (14, .bool (decide (x568 < 1))), (15, .bool false), (16, .slice p2 x1.length c3), (17, .int .i64 x443), (18, .pointer (some r575)), (19, .int .i64 x573), (20, .bool (decide (x573 > 24))), (21, .bool (decide (x573 > 24))), (22, .bool (decide (x573 > 24)))] (by kernel_rfl) fun a hs hS => ?_
            rcases ifbE hx566 with ⟨h577, hx566⟩ | ⟨h577, hx566⟩
            · replace hs := hs.altB 22 true (by kernel_rfl) h577
              refine d_pures (fuel := 0) kS520 hs hS [13, 14, 15, 16, 17, 18, 19, 20, 21] [0, 3, 10, 11, 12, 13, 14, 15, 16, 17, 18, 19, 20, 21, 22, 23, 24, 25, 26, 27, 28, 29, 30, 31] [(0, .slice p2 x1.length c3), (3, .int .i64 x443), (10, .slice p2 x1.length c3), (11, .int .i64 x443), (12, .pointer (some r570)), (13, .int .i64 x568), (14, .bool (decide (x568 < 1))), (15, .bool false), (16, .slice p2 x1.length c3), (17, .int .i64 x443), (18, .pointer (some r575)), (19, .int .i64 x573), (20, .bool (decide (x573 > 24))), (21, .bool (decide (x573 > 24))), (22, .bool true), (23, undef), (24, undef), (25, undef), (26, undef), (27, undef), (28, undef), (29, undef), (30, undef), (31, .bool true)] (by kernel_rfl) fun a hs hS => ?_
              refine d_done (by kernel_rfl) ?_
              obtain rfl := someE hx566
              exact (hJ567 _ _).2 ⟨true, hx516, hs.cast [0, 3, 31] (by kernel_rfl), hw.pick [0] (by kernel_rfl)⟩
            · replace hs := hs.altB 22 false (by kernel_rfl) h577
              refine d_pures (fuel := 7) kS520 hs hS [13, 14] [0, 3, 10, 11, 12, 13, 14, 15, 16, 17, 18, 19, 20, 21, 22, 23, 24] [(0, .slice p2 x1.length c3), (3, .int .i64 x443), (10, .slice p2 x1.length c3), (11, .int .i64 x443), (12, .pointer (some r570)), (13, .int .i64 x568), (14, .bool (decide (x568 < 1))), (15, .bool false), (16, .slice p2 x1.length c3), (17, .int .i64 x443), (18, .pointer (some r575)), (19, .int .i64 x573), (20, .bool (decide (x573 > 24))), (21, .bool (decide (x573 > 24))), (22, .bool false), (23, .slice p2 x1.length c3), (24, .int .i64 x443)] (by kernel_rfl) fun a hs hS => ?_
              obtain ⟨x578, h579, hx566⟩ := bindE hx566
              refine d_slice (fuel := 6) kS520 hs hS 15 rfl (by kernel_rfl) h4 (by kernel_rfl) (by kernel_rfl) 3 (by kernel_rfl) (by kernel_rfl) (by kernel_rfl) (by kernel_rfl) (by kernel_rfl) h579 (.inl rfl) fun a p580 c581 h582 hs hS => ?_
              refine d_pures (fuel := 4) kS520 hs hS [16, 17] [0, 3, 10, 11, 12, 13, 14, 15, 16, 17, 18, 19, 20, 21, 22, 23, 24, 25, 26, 27] [(0, .slice p2 x1.length c3), (3, .int .i64 x443), (10, .slice p2 x1.length c3), (11, .int .i64 x443), (12, .pointer (some r570)), (13, .int .i64 x568), (14, .bool (decide (x568 < 1))), (15, .bool false), (16, .slice p2 x1.length c3), (17, .int .i64 x443), (18, .pointer (some r575)), (19, .int .i64 x573), (20, .bool (decide (x573 > 24))), (21, .bool (decide (x573 > 24))), (22, .bool false), (23, .slice p2 x1.length c3), (24, .int .i64 x443), (25, .slice p580 x578.length c581), (26, .slice p2 x1.length c3), (27, .int .i64 x443)] (by kernel_rfl) fun a hs hS => ?_
              obtain ⟨x583, h584, hx566⟩ := bindE hx566
              refine d_index (fuel := 3) kS520 hs hS 18 rfl (by kernel_rfl) h4 (by kernel_rfl) (by kernel_rfl) (k := .i64) (by kernel_rfl) 3 (by kernel_rfl) (by kernel_rfl) h584 fun a r585 cs henc at586 hs hS => ?_
              obtain rfl := henc
              refine d_load (fuel := 2) kS520 hs hS 19 rfl (by kernel_rfl) (fun l w hu hS => at586 w (((SX_ch hS520 0 rfl (by kernel_rfl) l w hu hS).sub h6).anti (Le.refl _))) 0 (by kernel_rfl) (by kernel_rfl) (v := .int .i64 x583) (by kernel_rfl) fun a hs hS => ?_
              refine d_all (fuel := 1) (rs := [20]) (by kernel_rfl) (by simp) (all1 ?_)
              obtain ⟨y587, h588, hx566⟩ := bindE hx566
              refine o_call hs rfl (by kernel_rfl) (by kernel_rfl) (catenaryref04_Has_s h588 h582 (fun q hq => memF 0 rfl q (h6 q hq)) ((hw.pick [0] (by kernel_rfl)).pack 0)) fun a w v hv hs => ?_
              obtain ⟨rfl, hw⟩ := hv
              replace hw := hw.unpack 0 rfl
              refine dg_next (SX_now hS520 ((hw.vws [0]).anti (Le.refl _)) (by kernel_rfl)) fun hS => ?_
              refine d_pures (fuel := 0) kS520 hs hS [21] [0, 3, 10, 11, 12, 13, 14, 15, 16, 17, 18, 19, 20, 21, 22, 23, 24, 25, 26, 27, 28, 29, 30, 31] [(0, .slice p2 x1.length c3), (3, .int .i64 x443), (10, .slice p2 x1.length c3), (11, .int .i64 x443), (12, .pointer (some r570)), (13, .int .i64 x568), (14, .bool (decide (x568 < 1))), (15, .bool false), (16, .slice p2 x1.length c3), (17, .int .i64 x443), (18, .pointer (some r575)), (19, .int .i64 x573), (20, .bool (decide (x573 > 24))), (21, .bool (decide (x573 > 24))), (22, .bool false), (23, .slice p2 x1.length c3), (24, .int .i64 x443), (25, .slice p580 x578.length c581), (26, .slice p2 x1.length c3), (27, .int .i64 x443), (28, .pointer (some r585)), (29, .int .i64 x583), (30, .bool y587), (31, .bool y587)] (by kernel_rfl) fun a hs hS => ?_
              refine d_done (by kernel_rfl) ?_
              obtain rfl := someE hx566
              exact (hJ567 _ _).2 ⟨y587, hx516, hs.cast [0, 3, 31] (by kernel_rfl), hw.pick [0] (by kernel_rfl)⟩
        · intro a w hh
          obtain ⟨x563, hx516, hs, hw⟩ := (hJ567 _ _).1 hh
          rcases ifbE hx516 with ⟨h564, hx516⟩ | ⟨h564, hx516⟩
          · refine c_cond1 hs (by kernel_rfl) (t := x563) (by kernel_rfl) h564 ?_
            refine c_seq ?_
            refine c_region ?_
            refine pures hs 1 [2] [(2, .bool false)] (by kernel_rfl) fun a hs => ?_
            refine s_end ?_
            refine wp_ret ?_
            obtain rfl := someE hx516
            obtain rfl := someE hk
            refine hQ _ _ (f_ret1 hs rfl (v := .bool false) (by kernel_rfl) ⟨rfl, hw.pick [0] (by kernel_rfl)⟩)
          · refine c_cond0 hs (by kernel_rfl) (t := x563) (by kernel_rfl) h564 ?_
            refine wp_skip ?_
            refine c_region ?_
            refine pures hs 3 [0, 3] [(0, .slice p2 x1.length c3), (3, .int .i64 (IntKind.i64.wrap (x443 + 1)))] (by kernel_rfl) fun a hs => ?_
            refine s_end ?_
            exact (hI518 _ _ _).2 ⟨(IntKind.i64.wrap (x443 + 1)), hx516, hs.cast [0, 3] (by kernel_rfl), hw.pick [0] (by kernel_rfl)⟩
      · refine c_cond0 hs (by kernel_rfl) (t := (decide (x443 < (x1.length : Int)))) (by kernel_rfl) h519 ?_
        refine wp_exit ?_
        obtain rfl := someE hx516
        exact (hJ517 _ _).2 ⟨hk, hs.cast [] (by kernel_rfl), hw.pick [0] (by kernel_rfl)⟩
  · intro a w hh
    obtain ⟨hk, hs, hw⟩ := (hJ517 _ _).1 hh
    refine c_seq ?_
    refine c_region ?_
    refine pures hs 1 [2] [(2, .bool true)] (by kernel_rfl) fun a hs => ?_
    refine s_end ?_
    refine wp_ret ?_
    obtain rfl := someE hk
    refine hQ _ _ (f_ret1 hs rfl (v := .bool true) (by kernel_rfl) ⟨rfl, hw.pick [0] (by kernel_rfl)⟩)
def catenaryref09_Right (k : Nat) (x1 : M53) : Option Bool :=
  if ((decide (x1.f0 < 0)) || ((decide (x1.f0 > 3)) || ((x1.f1 == 0) || (((x1.f2.length : Int) == 0) || (decide ((x1.f2.length : Int) > 5)))))) = true then some false
  else if (x1.f3 && (((x1.f2.length : Int) == 1) || (x1.f4 != 0))) = true then some false
  else (catenaryref09_Stands x1).bind fun y90 =>
  (catenaryref09_Unlike k y90).bind fun y97 =>
  some y97
theorem catenaryref09_Right_s {k : Nat} {x1 : M53} {p2 : Option Addr} {c3 : Nat} {r : Bool} (hk : catenaryref09_Right k x1 = some r) {g w : World} {F : Ch} {ih : IH} (h4 : RSl e3 ih [] p2 c3 x1.f2) (hw : St g w [F] ih) :
    CallsR Try.prog 31 #[.agg #[.int .i64 x1.f0, .int .u64 x1.f1, .slice p2 x1.f2.length c3, .bool x1.f3, .int .i64 x1.f4]] w fun v w' => v = .bool r ∧ St g w' [F] ih := by
  refine f_in (vs := [.agg #[.int .i64 x1.f0, .int .u64 x1.f1, .slice p2 x1.f2.length c3, .bool x1.f3, .int .i64 x1.f4]]) Try.func31 rfl 44 rfl (by kernel_rfl) [(0, .agg #[.int .i64 x1.f0, .int .u64 x1.f1, .slice p2 x1.f2.length c3, .bool x1.f3, .int .i64 x1.f4])] (by kernel_rfl) fun a Qf hQ hQn hs => ?_
  refine c_seq ?_
  refine c_region ?_
  refine s_new hs hw [.int .i64 x1.f0, .int .u64 x1.f1, .slice p2 x1.f2.length c3, .bool x1.f3, .int .i64 x1.f4] 53 (fun b => .pointer (some ⟨b, 0, none⟩)) (by kernel_rfl) (fun _ => by kernel_rfl) fun a w b55 hs hw => ?_
  refine pures hs 1 [1] [(1, .pointer (some ⟨b55, 0, none⟩))] (by kernel_rfl) fun a hs => ?_
  refine s_end ?_
  refine c_seq ?_
  refine c_seq ?_
  obtain ⟨J66, hJ66⟩ : ∃ J : Act → World → Prop, ∀ a w, J a w ↔ (Sees a 44 [(1, .pointer (some ⟨b55, 0, none⟩)), (27, .bool ((decide (x1.f0 < 0)) || ((decide (x1.f0 > 3)) || ((x1.f1 == 0) || (((x1.f2.length : Int) == 0) || (decide ((x1.f2.length : Int) > 5)))))))] ∧ St g w [bx b55 [.int .i64 x1.f0, .int .u64 x1.f1, .slice p2 x1.f2.length c3, .bool x1.f3, .int .i64 x1.f4] 53, F] ih) := ⟨_, fun _ _ => Iff.rfl⟩
  refine c_regJ J66 ?_ ?_
  · refine pures hs 1 [1, 3] [(1, .pointer (some ⟨b55, 0, none⟩)), (3, .pointer (some ⟨b55, 0, none⟩))] (by kernel_rfl) fun a hs => ?_
    refine s_load hs (hw.at_ 0 rfl) 0 (by kernel_rfl) (by kernel_rfl) (v := .int .i64 x1.f0) (by kernel_rfl) fun a hs => ?_
    refine pures hs 2 [1, 6] [(1, .pointer (some ⟨b55, 0, none⟩)), (6, .bool (decide (x1.f0 < 0)))] (by kernel_rfl) fun a hs => ?_
    rcases boolE (decide (x1.f0 < 0)) with h67 | h67
    · replace hs := hs.altB 6 true (by kernel_rfl) h67
      refine pures hs 21 [1, 27] [(1, .pointer (some ⟨b55, 0, none⟩)), (27, .bool true)] (by kernel_rfl) fun a hs => ?_
      refine s_end ?_
      exact (hJ66 _ _).2 ⟨(hs.altB 27 ((decide (x1.f0 < 0)) || ((decide (x1.f0 > 3)) || ((x1.f1 == 0) || (((x1.f2.length : Int) == 0) || (decide ((x1.f2.length : Int) > 5)))))) (by kernel_rfl) (by rw [h67] <;> rfl)).cast [1, 27] (by kernel_rfl), hw.pick [0, 1] (by kernel_rfl)⟩
    · replace hs := hs.altB 6 false (by kernel_rfl) h67
      refine pures hs 1 [1, 6, 7] [(1, .pointer (some ⟨b55, 0, none⟩)), (6, .bool false), (7, .pointer (some ⟨b55, 0, none⟩))] (by kernel_rfl) fun a hs => ?_
      refine s_load hs (hw.at_ 0 rfl) 0 (by kernel_rfl) (by kernel_rfl) (v := .int .i64 x1.f0) (by kernel_rfl) fun a hs => ?_
      refine pures hs 3 [1, 11] [(1, .pointer (some ⟨b55, 0, none⟩)), (11, .bool (decide (x1.f0 > 3)))] (by kernel_rfl) fun a hs => ?_
      rcases boolE (decide (x1.f0 > 3)) with h68 | h68
      · replace hs := hs.altB 11 true (by kernel_rfl) h68
        refine pures hs 16 [1, 27] [(1, .pointer (some ⟨b55, 0, none⟩)), (27, .bool true)] (by kernel_rfl) fun a hs => ?_
        refine s_end ?_
        exact (hJ66 _ _).2 ⟨(hs.altB 27 ((decide (x1.f0 < 0)) || ((decide (x1.f0 > 3)) || ((x1.f1 == 0) || (((x1.f2.length : Int) == 0) || (decide ((x1.f2.length : Int) > 5)))))) (by kernel_rfl) (by rw [h67, h68] <;> rfl)).cast [1, 27] (by kernel_rfl), hw.pick [0, 1] (by kernel_rfl)⟩
      · replace hs := hs.altB 11 false (by kernel_rfl) h68
        refine pures hs 1 [1, 11, 12] [(1, .pointer (some ⟨b55, 0, none⟩)), (11, .bool false), (12, .pointer (some ⟨b55, 1, none⟩))] (by kernel_rfl) fun a hs => ?_
        refine s_load hs (hw.at_ 0 rfl) 1 (by kernel_rfl) (by kernel_rfl) (v := .int .u64 x1.f1) (by kernel_rfl) fun a hs => ?_
        refine pures hs 3 [1, 16] [(1, .pointer (some ⟨b55, 0, none⟩)), (16, .bool (x1.f1 == 0))] (by kernel_rfl) fun a hs => ?_
        rcases boolE (x1.f1 == 0) with h69 | h69
        · replace hs := hs.altB 16 true (by kernel_rfl) h69
          refine pures hs 11 [1, 27] [(1, .pointer (some ⟨b55, 0, none⟩)), (27, .bool true)] (by kernel_rfl) fun a hs => ?_
          refine s_end ?_
          exact (hJ66 _ _).2 ⟨(hs.altB 27 ((decide (x1.f0 < 0)) || ((decide (x1.f0 > 3)) || ((x1.f1 == 0) || (((x1.f2.length : Int) == 0) || (decide ((x1.f2.length : Int) > 5)))))) (by kernel_rfl) (by rw [h67, h68, h69] <;> rfl)).cast [1, 27] (by kernel_rfl), hw.pick [0, 1] (by kernel_rfl)⟩
        · replace hs := hs.altB 16 false (by kernel_rfl) h69
          refine pures hs 1 [1, 16, 17] [(1, .pointer (some ⟨b55, 0, none⟩)), (16, .bool false), (17, .pointer (some ⟨b55, 2, none⟩))] (by kernel_rfl) fun a hs => ?_
          refine s_load hs (hw.at_ 0 rfl) 2 (by kernel_rfl) (by kernel_rfl) (v := .slice p2 x1.f2.length c3) (by kernel_rfl) fun a hs => ?_
          refine pures hs 4 [1, 22] [(1, .pointer (some ⟨b55, 0, none⟩)), (22, .bool ((x1.f2.length : Int) == 0))] (by kernel_rfl) fun a hs => ?_
          rcases boolE ((x1.f2.length : Int) == 0) with h70 | h70
          · replace hs := hs.altB 22 true (by kernel_rfl) h70
            refine pures hs 5 [1, 27] [(1, .pointer (some ⟨b55, 0, none⟩)), (27, .bool true)] (by kernel_rfl) fun a hs => ?_
            refine s_end ?_
            exact (hJ66 _ _).2 ⟨(hs.altB 27 ((decide (x1.f0 < 0)) || ((decide (x1.f0 > 3)) || ((x1.f1 == 0) || (((x1.f2.length : Int) == 0) || (decide ((x1.f2.length : Int) > 5)))))) (by kernel_rfl) (by rw [h67, h68, h69, h70] <;> rfl)).cast [1, 27] (by kernel_rfl), hw.pick [0, 1] (by kernel_rfl)⟩
          · replace hs := hs.altB 22 false (by kernel_rfl) h70
            refine pures hs 1 [1, 22, 23] [(1, .pointer (some ⟨b55, 0, none⟩)), (22, .bool false), (23, .pointer (some ⟨b55, 2, none⟩))] (by kernel_rfl) fun a hs => ?_
            refine s_load hs (hw.at_ 0 rfl) 2 (by kernel_rfl) (by kernel_rfl) (v := .slice p2 x1.f2.length c3) (by kernel_rfl) fun a hs => ?_
            refine pures hs 3 [1, 27] [(1, .pointer (some ⟨b55, 0, none⟩)), (27, .bool (decide ((x1.f2.length : Int) > 5)))] (by kernel_rfl) fun a hs => ?_
            refine s_end ?_
            exact (hJ66 _ _).2 ⟨(hs.altB 27 ((decide (x1.f0 < 0)) || ((decide (x1.f0 > 3)) || ((x1.f1 == 0) || (((x1.f2.length : Int) == 0) || (decide ((x1.f2.length : Int) > 5)))))) (by kernel_rfl) (by rw [h67, h68, h69, h70] <;> rfl)).cast [1, 27] (by kernel_rfl), hw.pick [0, 1] (by kernel_rfl)⟩
  · intro a w hh
    obtain ⟨hs, hw⟩ := (hJ66 _ _).1 hh
    rcases ifbE hk with ⟨h71, hk⟩ | ⟨h71, hk⟩
    · refine c_cond1 hs (by kernel_rfl) (t := ((decide (x1.f0 < 0)) || ((decide (x1.f0 > 3)) || ((x1.f1 == 0) || (((x1.f2.length : Int) == 0) || (decide ((x1.f2.length : Int) > 5))))))) (by kernel_rfl) h71 ?_
      refine c_seq ?_
      refine c_region ?_
      refine pures hs 1 [2] [(2, .bool false)] (by kernel_rfl) fun a hs => ?_
      refine s_end ?_
      refine wp_ret ?_
      obtain rfl := someE hk
      refine hQ _ _ (f_ret1 hs rfl (v := .bool false) (by kernel_rfl) ⟨rfl, hw.pick [1] (by kernel_rfl)⟩)
    · refine c_cond0 hs (by kernel_rfl) (t := ((decide (x1.f0 < 0)) || ((decide (x1.f0 > 3)) || ((x1.f1 == 0) || (((x1.f2.length : Int) == 0) || (decide ((x1.f2.length : Int) > 5))))))) (by kernel_rfl) h71 ?_
      refine wp_skip ?_
      refine c_seq ?_
      refine c_seq ?_
      obtain ⟨J77, hJ77⟩ : ∃ J : Act → World → Prop, ∀ a w, J a w ↔ (Sees a 44 [(1, .pointer (some ⟨b55, 0, none⟩)), (40, .bool (x1.f3 && (((x1.f2.length : Int) == 1) || (x1.f4 != 0))))] ∧ St g w [bx b55 [.int .i64 x1.f0, .int .u64 x1.f1, .slice p2 x1.f2.length c3, .bool x1.f3, .int .i64 x1.f4] 53, F] ih) := ⟨_, fun _ _ => Iff.rfl⟩
      refine c_regJ J77 ?_ ?_
      · refine pures hs 1 [1, 28] [(1, .pointer (some ⟨b55, 0, none⟩)), (28, .pointer (some ⟨b55, 3, none⟩))] (by kernel_rfl) fun a hs => ?_
        refine s_load hs (hw.at_ 0 rfl) 3 (by kernel_rfl) (by kernel_rfl) (v := .bool x1.f3) (by kernel_rfl) fun a hs => ?_
        refine pures hs 1 [1, 30] [(1, .pointer (some ⟨b55, 0, none⟩)), (30, .bool x1.f3)] (by kernel_rfl) fun a hs => ?_
        rcases boolE x1.f3 with h78 | h78
        · replace hs := hs.altB 30 true (by kernel_rfl) h78
          refine pures hs 1 [1, 30, 31] [(1, .pointer (some ⟨b55, 0, none⟩)), (30, .bool true), (31, .pointer (some ⟨b55, 2, none⟩))] (by kernel_rfl) fun a hs => ?_
          refine s_load hs (hw.at_ 0 rfl) 2 (by kernel_rfl) (by kernel_rfl) (v := .slice p2 x1.f2.length c3) (by kernel_rfl) fun a hs => ?_
          refine pures hs 3 [1, 30, 35] [(1, .pointer (some ⟨b55, 0, none⟩)), (30, .bool true), (35, .bool ((x1.f2.length : Int) == 1))] (by kernel_rfl) fun a hs => ?_
          rcases boolE ((x1.f2.length : Int) == 1) with h79 | h79
          · replace hs := hs.altB 35 true (by kernel_rfl) h79
            refine pures hs 5 [1, 40] [(1, .pointer (some ⟨b55, 0, none⟩)), (40, .bool true)] (by kernel_rfl) fun a hs => ?_
            refine s_end ?_
            exact (hJ77 _ _).2 ⟨(hs.altB 40 (x1.f3 && (((x1.f2.length : Int) == 1) || (x1.f4 != 0))) (by kernel_rfl) (by rw [h78, h79] <;> rfl)).cast [1, 40] (by kernel_rfl), hw.pick [0, 1] (by kernel_rfl)⟩
          · replace hs := hs.altB 35 false (by kernel_rfl) h79
            refine pures hs 1 [1, 30, 35, 36] [(1, .pointer (some ⟨b55, 0, none⟩)), (30, .bool true), (35, .bool false), (36, .pointer (some ⟨b55, 4, none⟩))] (by kernel_rfl) fun a hs => ?_
            refine s_load hs (hw.at_ 0 rfl) 4 (by kernel_rfl) (by kernel_rfl) (v := .int .i64 x1.f4) (by kernel_rfl) fun a hs => ?_
            refine pures hs 3 [1, 40] [(1, .pointer (some ⟨b55, 0, none⟩)), (40, .bool (x1.f4 != 0))] (by kernel_rfl) fun a hs => ?_
            refine s_end ?_
            exact (hJ77 _ _).2 ⟨(hs.altB 40 (x1.f3 && (((x1.f2.length : Int) == 1) || (x1.f4 != 0))) (by kernel_rfl) (by rw [h78, h79] <;> rfl)).cast [1, 40] (by kernel_rfl), hw.pick [0, 1] (by kernel_rfl)⟩
        · replace hs := hs.altB 30 false (by kernel_rfl) h78
          refine pures hs 10 [1, 40] [(1, .pointer (some ⟨b55, 0, none⟩)), (40, .bool false)] (by kernel_rfl) fun a hs => ?_
          refine s_end ?_
          exact (hJ77 _ _).2 ⟨(hs.altB 40 (x1.f3 && (((x1.f2.length : Int) == 1) || (x1.f4 != 0))) (by kernel_rfl) (by rw [h78] <;> rfl)).cast [1, 40] (by kernel_rfl), hw.pick [0, 1] (by kernel_rfl)⟩
      · intro a w hh
        obtain ⟨hs, hw⟩ := (hJ77 _ _).1 hh
        rcases ifbE hk with ⟨h80, hk⟩ | ⟨h80, hk⟩
        · refine c_cond1 hs (by kernel_rfl) (t := (x1.f3 && (((x1.f2.length : Int) == 1) || (x1.f4 != 0)))) (by kernel_rfl) h80 ?_
          refine c_seq ?_
          refine c_region ?_
          refine pures hs 1 [2] [(2, .bool false)] (by kernel_rfl) fun a hs => ?_
          refine s_end ?_
          refine wp_ret ?_
          obtain rfl := someE hk
          refine hQ _ _ (f_ret1 hs rfl (v := .bool false) (by kernel_rfl) ⟨rfl, hw.pick [1] (by kernel_rfl)⟩)
        · refine c_cond0 hs (by kernel_rfl) (t := (x1.f3 && (((x1.f2.length : Int) == 1) || (x1.f4 != 0)))) (by kernel_rfl) h80 ?_
          refine wp_skip ?_
          refine c_seq ?_
          refine c_region ?_
          refine s_load hs (hw.at_ 0 rfl) 0 (by kernel_rfl) (by kernel_rfl) (v := .agg #[.int .i64 x1.f0, .int .u64 x1.f1, .slice p2 x1.f2.length c3, .bool x1.f3, .int .i64 x1.f4]) (by kernel_rfl) fun a hs => ?_
          obtain ⟨y90, h91, hk⟩ := bindE hk
          refine s_call hs (by kernel_rfl) (by kernel_rfl) (catenaryref09_Stands_s h91 h4 ((hw.pick [1] (by kernel_rfl)).pack 0)) fun a w v hv hs => ?_
          obtain ⟨p92, c93, d95, rfl, hw, h94⟩ := hv
          replace hw := hw.unpack 1 rfl
          obtain ⟨y97, h98, hk⟩ := bindE hk
          refine s_call hs (by kernel_rfl) (by kernel_rfl) (catenaryref09_Unlike_s h98 h94.read (memF 0 rfl) ((hw.pick [0, 1] (by kernel_rfl)).pack 0)) fun a w v hv hs => ?_
          obtain ⟨rfl, hw⟩ := hv
          replace hw := hw.unpack 0 rfl
          refine pures hs 1 [2] [(2, .bool y97)] (by kernel_rfl) fun a hs => ?_
          refine s_end ?_
          refine wp_ret ?_
          obtain rfl := someE hk
          refine hQ _ _ (f_ret1 hs rfl (v := .bool y97) (by kernel_rfl) ⟨rfl, hw.pick [1] (by kernel_rfl)⟩)
def catenaryref19_Of_r25 : Option M59 :=
  some (M59.mk false false false false false 0 0 0)
def catenaryref19_Of_r27 (x521 : Int) (x1 : M53) (x632 : Bool) (x642 : Int) (x652 : Int) : Option (Sum M59 Unit) :=
  some (.inl (M59.mk true false (x521 == 0) (x521 == (IntKind.i64.wrap ((x1.f2.length : Int) - 1))) x632 x521 x642 x652))
def catenaryref19_Of_r28 (x521 : Int) (x1 : M53) (x632 : Bool) (x642 : Int) : Option (Sum M59 Unit) :=
  (if (decide (x521 < (IntKind.i64.wrap ((x1.f2.length : Int) - 1)))) = true then (
      (ix x1.f2 (IntKind.i64.wrap (x521 + 1))).bind fun x661 =>
      some x661)
    else some x1.f4 : Option Int).bind fun s665 => catenaryref19_Of_r27 x521 x1 x632 x642 s665
def catenaryref19_Of_r29 (x521 : Int) (x1 : M53) (x632 : Bool) : Option (Sum M59 Unit) :=
  (if (decide (x521 > 0)) = true then (
      (ix x1.f2 (IntKind.i64.wrap (x521 - 1))).bind fun x674 =>
      some x674)
    else some 0 : Option Int).bind fun s678 => catenaryref19_Of_r28 x521 x1 x632 s678
def catenaryref19_Of_l26 (x1 : M53) (x5 : Int) : Nat → Int → Option (Sum M59 Unit)
  | 0, _ => none
  | j + 1, x521 =>
    if (decide (x521 ≤ (IntKind.i64.wrap ((x1.f2.length : Int) - 1)))) = true then (
      (ix x1.f2 x521).bind fun x612 =>
      if (x612 != x5) = true then catenaryref19_Of_l26 x1 x5 j (IntKind.i64.wrap (x521 + 1))
      else (if (x521 == (IntKind.i64.wrap ((x1.f2.length : Int) - 1))) = true then some x1.f3
        else some false : Option Bool).bind fun s687 => catenaryref19_Of_r29 x521 x1 s687)
    else some (.inr ())
def catenaryref19_Of_r30 (k : Nat) (x1 : M53) (x5 : Int) (x366 : Bool) : Option M59 :=
  if x366 = true then some (M59.mk false false false false false 0 0 0)
  else if (x1.f4 == x5) = true then (
    (ix x1.f2 (IntKind.i64.wrap ((x1.f2.length : Int) - 1))).bind fun x373 =>
    some (M59.mk false true false false true 0 x373 0))
  else (catenaryref19_Of_l26 x1 x5 k 0 : Option (Sum M59 Unit)).bind fun
    | .inl z => some z
    | .inr _ => catenaryref19_Of_r25
def catenaryref19_Of (k : Nat) (x1 : M53) (x5 : Int) : Option M59 :=
  ((catenaryref09_Right k x1).bind fun y692 =>
    if (!y692) = true then some true
    else some (x5 == 0) : Option Bool).bind fun s695 => catenaryref19_Of_r30 k x1 x5 s695
theorem catenaryref19_Of_s {k : Nat} {x1 : M53} {x5 : Int} {p2 : Option Addr} {c3 : Nat} {r : M59} (hk : catenaryref19_Of k x1 x5 = some r) {g w : World} {F : Ch} {ih : IH} (h4 : RSl e3 ih [] p2 c3 x1.f2) (hw : St g w [F] ih) :
    CallsR Try.prog 35 #[.agg #[.int .i64 x1.f0, .int .u64 x1.f1, .slice p2 x1.f2.length c3, .bool x1.f3, .int .i64 x1.f4], .int .i64 x5] w fun v w' => v = .agg #[.bool r.f0, .bool r.f1, .bool r.f2, .bool r.f3, .bool r.f4, .int .i64 r.f5, .int .i64 r.f6, .int .i64 r.f7] ∧ St g w' [F] ih := by
  refine f_in (vs := [.agg #[.int .i64 x1.f0, .int .u64 x1.f1, .slice p2 x1.f2.length c3, .bool x1.f3, .int .i64 x1.f4], .int .i64 x5]) Try.func35 rfl 80 rfl (by kernel_rfl) [(0, .agg #[.int .i64 x1.f0, .int .u64 x1.f1, .slice p2 x1.f2.length c3, .bool x1.f3, .int .i64 x1.f4]), (1, .int .i64 x5)] (by kernel_rfl) fun a Qf hQ hQn hs => ?_
  refine c_seq ?_
  refine c_region ?_
  refine s_new hs hw [.int .i64 x1.f0, .int .u64 x1.f1, .slice p2 x1.f2.length c3, .bool x1.f3, .int .i64 x1.f4] 53 (fun b => .pointer (some ⟨b, 0, none⟩)) (by kernel_rfl) (fun _ => by kernel_rfl) fun a w b356 hs hw => ?_
  refine s_new hs hw [.bool false, .bool false, .bool false, .bool false, .bool false, .int .i64 0, .int .i64 0, .int .i64 0] 59 (fun b => .pointer (some ⟨b, 0, none⟩)) (by kernel_rfl) (fun _ => by kernel_rfl) fun a w b358 hs hw => ?_
  refine s_end ?_
  refine c_seq ?_
  refine c_seq ?_
  obtain ⟨y689, hx690, hk⟩ := bindE hk
  obtain ⟨J691, hJ691⟩ : ∃ J : Act → World → Prop, ∀ a w, J a w ↔ (∃ (x366 : Bool), catenaryref19_Of_r30 k x1 x5 x366 = some r ∧ Sees a 80 [(1, .int .i64 x5), (2, .pointer (some ⟨b356, 0, none⟩)), (4, .pointer (some ⟨b358, 0, none⟩)), (14, .bool x366)] ∧ St g w [bx b358 [.bool false, .bool false, .bool false, .bool false, .bool false, .int .i64 0, .int .i64 0, .int .i64 0] 59, bx b356 [.int .i64 x1.f0, .int .u64 x1.f1, .slice p2 x1.f2.length c3, .bool x1.f3, .int .i64 x1.f4] 53, F] ih) := ⟨_, fun _ _ => Iff.rfl⟩
  refine c_regJ J691 ?_ ?_
  · refine s_load hs (hw.at_ 1 rfl) 0 (by kernel_rfl) (by kernel_rfl) (v := .agg #[.int .i64 x1.f0, .int .u64 x1.f1, .slice p2 x1.f2.length c3, .bool x1.f3, .int .i64 x1.f4]) (by kernel_rfl) fun a hs => ?_
    obtain ⟨y692, h693, hx690⟩ := bindE hx690
    refine s_call hs (by kernel_rfl) (by kernel_rfl) (catenaryref09_Right_s h693 h4 ((hw.pick [0, 1, 2] (by kernel_rfl)).pack 0)) fun a w v hv hs => ?_
    obtain ⟨rfl, hw⟩ := hv
    replace hw := hw.unpack 0 rfl
    refine pures hs 2 [1, 2, 4, 11] [(1, .int .i64 x5), (2, .pointer (some ⟨b356, 0, none⟩)), (4, .pointer (some ⟨b358, 0, none⟩)), (11, .bool (!y692))] (by kernel_rfl) fun a hs => ?_
    rcases ifbE hx690 with ⟨h694, hx690⟩ | ⟨h694, hx690⟩
    · replace hs := hs.altB 11 true (by kernel_rfl) h694
      refine pures hs 3 [1, 2, 4, 14] [(1, .int .i64 x5), (2, .pointer (some ⟨b356, 0, none⟩)), (4, .pointer (some ⟨b358, 0, none⟩)), (14, .bool true)] (by kernel_rfl) fun a hs => ?_
      refine s_end ?_
      obtain rfl := someE hx690
      exact (hJ691 _ _).2 ⟨true, hk, hs.cast [1, 2, 4, 14] (by kernel_rfl), hw.pick [0, 1, 2] (by kernel_rfl)⟩
    · replace hs := hs.altB 11 false (by kernel_rfl) h694
      refine pures hs 3 [1, 2, 4, 14] [(1, .int .i64 x5), (2, .pointer (some ⟨b356, 0, none⟩)), (4, .pointer (some ⟨b358, 0, none⟩)), (14, .bool (x5 == 0))] (by kernel_rfl) fun a hs => ?_
      refine s_end ?_
      obtain rfl := someE hx690
      exact (hJ691 _ _).2 ⟨(x5 == 0), hk, hs.cast [1, 2, 4, 14] (by kernel_rfl), hw.pick [0, 1, 2] (by kernel_rfl)⟩
  · intro a w hh
    obtain ⟨x366, hk, hs, hw⟩ := (hJ691 _ _).1 hh
    rcases ifbE hk with ⟨h367, hk⟩ | ⟨h367, hk⟩
    · refine c_cond1 hs (by kernel_rfl) (t := x366) (by kernel_rfl) h367 ?_
      refine c_seq ?_
      refine c_region ?_
      refine pures hs 1 [4, 15] [(4, .pointer (some ⟨b358, 0, none⟩)), (15, .agg #[.bool false, .bool false, .bool false, .bool false, .bool false, .int .i64 0, .int .i64 0, .int .i64 0])] (by kernel_rfl) fun a hs => ?_
      refine s_store hs hw 0 rfl 0 (by kernel_rfl) (by kernel_rfl) (v := .agg #[.bool false, .bool false, .bool false, .bool false, .bool false, .int .i64 0, .int .i64 0, .int .i64 0]) (by kernel_rfl) (by kernel_rfl) (by kernel_rfl) (by kernel_rfl) fun a w hs hw => ?_
      refine s_end ?_
      refine wp_ret ?_
      obtain rfl := someE hk
      refine hQ _ _ (f_retC hs rfl (hw.at_ 0 rfl) (by kernel_rfl) (v := .agg #[.bool false, .bool false, .bool false, .bool false, .bool false, .int .i64 0, .int .i64 0, .int .i64 0]) (by kernel_rfl) ⟨rfl, hw.pick [2] (by kernel_rfl)⟩)
    · refine c_cond0 hs (by kernel_rfl) (t := x366) (by kernel_rfl) h367 ?_
      refine wp_skip ?_
      refine c_seq ?_
      refine c_region ?_
      refine pures hs 1 [1, 2, 4, 16] [(1, .int .i64 x5), (2, .pointer (some ⟨b356, 0, none⟩)), (4, .pointer (some ⟨b358, 0, none⟩)), (16, .pointer (some ⟨b356, 2, none⟩))] (by kernel_rfl) fun a hs => ?_
      refine s_load hs (hw.at_ 1 rfl) 2 (by kernel_rfl) (by kernel_rfl) (v := .slice p2 x1.f2.length c3) (by kernel_rfl) fun a hs => ?_
      refine pures hs 3 [1, 2, 4, 5] [(1, .int .i64 x5), (2, .pointer (some ⟨b356, 0, none⟩)), (4, .pointer (some ⟨b358, 0, none⟩)), (5, .int .i64 (IntKind.i64.wrap ((x1.f2.length : Int) - 1)))] (by kernel_rfl) fun a hs => ?_
      refine s_end ?_
      refine c_seq ?_
      refine c_seq ?_
      refine c_region ?_
      refine pures hs 1 [1, 2, 4, 5, 20] [(1, .int .i64 x5), (2, .pointer (some ⟨b356, 0, none⟩)), (4, .pointer (some ⟨b358, 0, none⟩)), (5, .int .i64 (IntKind.i64.wrap ((x1.f2.length : Int) - 1))), (20, .pointer (some ⟨b356, 4, none⟩))] (by kernel_rfl) fun a hs => ?_
      refine s_load hs (hw.at_ 1 rfl) 4 (by kernel_rfl) (by kernel_rfl) (v := .int .i64 x1.f4) (by kernel_rfl) fun a hs => ?_
      refine pures hs 2 [1, 2, 4, 5, 23] [(1, .int .i64 x5), (2, .pointer (some ⟨b356, 0, none⟩)), (4, .pointer (some ⟨b358, 0, none⟩)), (5, .int .i64 (IntKind.i64.wrap ((x1.f2.length : Int) - 1))), (23, .bool (x1.f4 == x5))] (by kernel_rfl) fun a hs => ?_
      refine s_end ?_
      rcases ifbE hk with ⟨h368, hk⟩ | ⟨h368, hk⟩
      · refine c_cond1 hs (by kernel_rfl) (t := (x1.f4 == x5)) (by kernel_rfl) h368 ?_
        refine c_seq ?_
        refine c_region ?_
        refine pures hs 1 [4, 5, 24] [(4, .pointer (some ⟨b358, 0, none⟩)), (5, .int .i64 (IntKind.i64.wrap ((x1.f2.length : Int) - 1))), (24, .pointer (some ⟨b356, 2, none⟩))] (by kernel_rfl) fun a hs => ?_
        refine s_load hs (hw.at_ 1 rfl) 2 (by kernel_rfl) (by kernel_rfl) (v := .slice p2 x1.f2.length c3) (by kernel_rfl) fun a hs => ?_
        refine pures hs 1 [4, 25, 26] [(4, .pointer (some ⟨b358, 0, none⟩)), (25, .slice p2 x1.f2.length c3), (26, .int .i64 (IntKind.i64.wrap ((x1.f2.length : Int) - 1)))] (by kernel_rfl) fun a hs => ?_
        obtain ⟨x373, h374, hk⟩ := bindE hk
        refine s_index hs h4 (by kernel_rfl) (by kernel_rfl) (k := .i64) (by kernel_rfl) 3 (by kernel_rfl) (by kernel_rfl) h374 fun a r375 cs henc at376 hs => ?_
        obtain rfl := henc
        refine s_load hs (at376 _ (hw.vwAll.nil.anti (Le.refl _))) 0 (by kernel_rfl) (by kernel_rfl) (v := .int .i64 x373) (by kernel_rfl) fun a hs => ?_
        refine pures hs 1 [4, 29] [(4, .pointer (some ⟨b358, 0, none⟩)), (29, .agg #[.bool false, .bool true, .bool false, .bool false, .bool true, .int .i64 0, .int .i64 x373, .int .i64 0])] (by kernel_rfl) fun a hs => ?_
        refine s_store hs hw 0 rfl 0 (by kernel_rfl) (by kernel_rfl) (v := .agg #[.bool false, .bool true, .bool false, .bool false, .bool true, .int .i64 0, .int .i64 x373, .int .i64 0]) (by kernel_rfl) (by kernel_rfl) (by kernel_rfl) (by kernel_rfl) fun a w hs hw => ?_
        refine s_end ?_
        refine wp_ret ?_
        obtain rfl := someE hk
        refine hQ _ _ (f_retC hs rfl (hw.at_ 0 rfl) (by kernel_rfl) (v := .agg #[.bool false, .bool true, .bool false, .bool false, .bool true, .int .i64 0, .int .i64 x373, .int .i64 0]) (by kernel_rfl) ⟨rfl, hw.pick [2] (by kernel_rfl)⟩)
      · refine c_cond0 hs (by kernel_rfl) (t := (x1.f4 == x5)) (by kernel_rfl) h368 ?_
        refine wp_skip ?_
        refine c_seq ?_
        refine c_seq ?_
        refine c_region ?_
        refine pures hs 1 [1, 2, 4, 5, 6] [(1, .int .i64 x5), (2, .pointer (some ⟨b356, 0, none⟩)), (4, .pointer (some ⟨b358, 0, none⟩)), (5, .int .i64 (IntKind.i64.wrap ((x1.f2.length : Int) - 1))), (6, .int .i64 0)] (by kernel_rfl) fun a hs => ?_
        refine s_end ?_
        refine c_block ?_
        obtain ⟨y603, hx604, hk⟩ := bindE hk
        obtain ⟨J605, hJ605⟩ : ∃ J : Act → World → Prop, ∀ a w, J a w ↔ (catenaryref19_Of_r25 = some r ∧ Sees a 80 [(4, .pointer (some ⟨b358, 0, none⟩))] ∧ St g w [bx b358 [.bool false, .bool false, .bool false, .bool false, .bool false, .int .i64 0, .int .i64 0, .int .i64 0] 59, F] ih) := ⟨_, fun _ _ => Iff.rfl⟩
        obtain ⟨I606, hI606⟩ : ∃ J : Nat → Act → World → Prop, ∀ j a w, J j a w ↔ (∃ (x521 : Int), catenaryref19_Of_l26 x1 x5 j x521 = some y603 ∧ Sees a 80 [(1, .int .i64 x5), (2, .pointer (some ⟨b356, 0, none⟩)), (4, .pointer (some ⟨b358, 0, none⟩)), (5, .int .i64 (IntKind.i64.wrap ((x1.f2.length : Int) - 1))), (6, .int .i64 x521)] ∧ St g w [bx b358 [.bool false, .bool false, .bool false, .bool false, .bool false, .int .i64 0, .int .i64 0, .int .i64 0] 59, bx b356 [.int .i64 x1.f0, .int .u64 x1.f1, .slice p2 x1.f2.length c3, .bool x1.f3, .int .i64 x1.f4] 53, F] ih) := ⟨_, fun _ _ _ => Iff.rfl⟩
        refine c_exitJ 0 J605 ?_ ?_
        · refine c_loop I606 k ((hI606 _ _ _).2 ⟨0, hx604, hs.cast [1, 2, 4, 5, 6] (by kernel_rfl), hw.pick [0, 1, 2] (by kernel_rfl)⟩) (fun a w h0 => ?_) fun j a w hh => ?_
          · obtain ⟨_, h, _⟩ := (hI606 _ _ _).1 h0
            cases h
          · obtain ⟨x521, hx604, hs, hw⟩ := (hI606 _ _ _).1 hh
            refine c_seq ?_
            refine c_seq ?_
            refine c_region ?_
            refine pures hs 3 [1, 2, 4, 5, 6, 32] [(1, .int .i64 x5), (2, .pointer (some ⟨b356, 0, none⟩)), (4, .pointer (some ⟨b358, 0, none⟩)), (5, .int .i64 (IntKind.i64.wrap ((x1.f2.length : Int) - 1))), (6, .int .i64 x521), (32, .bool (decide (x521 ≤ (IntKind.i64.wrap ((x1.f2.length : Int) - 1)))))] (by kernel_rfl) fun a hs => ?_
            refine s_end ?_
            rcases ifbE hx604 with ⟨h607, hx604⟩ | ⟨h607, hx604⟩
            · refine c_cond1 hs (by kernel_rfl) (t := (decide (x521 ≤ (IntKind.i64.wrap ((x1.f2.length : Int) - 1))))) (by kernel_rfl) h607 ?_
              refine wp_skip ?_
              refine c_seq ?_
              refine c_block ?_
              refine c_seq ?_
              refine c_seq ?_
              refine c_region ?_
              refine pures hs 1 [1, 2, 4, 5, 6, 35] [(1, .int .i64 x5), (2, .pointer (some ⟨b356, 0, none⟩)), (4, .pointer (some ⟨b358, 0, none⟩)), (5, .int .i64 (IntKind.i64.wrap ((x1.f2.length : Int) - 1))), (6, .int .i64 x521), (35, .pointer (some ⟨b356, 2, none⟩))] (by kernel_rfl) fun a hs => ?_
              refine s_load hs (hw.at_ 1 rfl) 2 (by kernel_rfl) (by kernel_rfl) (v := .slice p2 x1.f2.length c3) (by kernel_rfl) fun a hs => ?_
              refine pures hs 1 [1, 2, 4, 5, 6, 36, 37] [(1, .int .i64 x5), (2, .pointer (some ⟨b356, 0, none⟩)), (4, .pointer (some ⟨b358, 0, none⟩)), (5, .int .i64 (IntKind.i64.wrap ((x1.f2.length : Int) - 1))), (6, .int .i64 x521), (36, .slice p2 x1.f2.length c3), (37, .int .i64 x521)] (by kernel_rfl) fun a hs => ?_
              obtain ⟨x612, h613, hx604⟩ := bindE hx604
              refine s_index hs h4 (by kernel_rfl) (by kernel_rfl) (k := .i64) (by kernel_rfl) 3 (by kernel_rfl) (by kernel_rfl) h613 fun a r614 cs henc at615 hs => ?_
              obtain rfl := henc
              refine s_load hs (at615 _ (hw.vwAll.nil.anti (Le.refl _))) 0 (by kernel_rfl) (by kernel_rfl) (v := .int .i64 x612) (by kernel_rfl) fun a hs => ?_
              refine pures hs 2 [1, 2, 4, 5, 6, 41] [(1, .int .i64 x5), (2, .pointer (some ⟨b356, 0, none⟩)), (4, .pointer (some ⟨b358, 0, none⟩)), (5, .int .i64 (IntKind.i64.wrap ((x1.f2.length : Int) - 1))), (6, .int .i64 x521), (41, .bool (x612 != x5))] (by kernel_rfl) fun a hs => ?_
              refine s_end ?_
              rcases ifbE hx604 with ⟨h616, hx604⟩ | ⟨h616, hx604⟩
              · refine c_cond1 hs (by kernel_rfl) (t := (x612 != x5)) (by kernel_rfl) h616 ?_
                refine wp_exit ?_
                refine c_region ?_
                refine pures hs 3 [1, 2, 4, 5, 6] [(1, .int .i64 x5), (2, .pointer (some ⟨b356, 0, none⟩)), (4, .pointer (some ⟨b358, 0, none⟩)), (5, .int .i64 (IntKind.i64.wrap ((x1.f2.length : Int) - 1))), (6, .int .i64 (IntKind.i64.wrap (x521 + 1)))] (by kernel_rfl) fun a hs => ?_
                refine s_end ?_
                exact (hI606 _ _ _).2 ⟨(IntKind.i64.wrap (x521 + 1)), hx604, hs.cast [1, 2, 4, 5, 6] (by kernel_rfl), hw.pick [0, 1, 2] (by kernel_rfl)⟩
              · refine c_cond0 hs (by kernel_rfl) (t := (x612 != x5)) (by kernel_rfl) h616 ?_
                refine wp_skip ?_
                refine c_seq ?_
                obtain ⟨y679, hx680, hx604⟩ := bindE hx604
                obtain ⟨J681, hJ681⟩ : ∃ J : Act → World → Prop, ∀ a w, J a w ↔ (∃ (x632 : Bool) (b630 : Nat), catenaryref19_Of_r29 x521 x1 x632 = some y603 ∧ Sees a 80 [(2, .pointer (some ⟨b356, 0, none⟩)), (4, .pointer (some ⟨b358, 0, none⟩)), (5, .int .i64 (IntKind.i64.wrap ((x1.f2.length : Int) - 1))), (6, .int .i64 x521), (7, .pointer (some ⟨b630, 0, none⟩))] ∧ St g w [bx b358 [.bool false, .bool false, .bool false, .bool false, .bool false, .int .i64 0, .int .i64 0, .int .i64 0] 59, bx b356 [.int .i64 x1.f0, .int .u64 x1.f1, .slice p2 x1.f2.length c3, .bool x1.f3, .int .i64 x1.f4] 53, bx b630 [.bool true, .bool false, .bool (x521 == 0), .bool (x521 == (IntKind.i64.wrap ((x1.f2.length : Int) - 1))), .bool x632, .int .i64 x521, .int .i64 0, .int .i64 0] 59, F] ih) := ⟨_, fun _ _ => Iff.rfl⟩
                refine c_regJ J681 ?_ ?_
                · refine pures hs 9 [2, 4, 5, 6, 43, 46, 50] [(2, .pointer (some ⟨b356, 0, none⟩)), (4, .pointer (some ⟨b358, 0, none⟩)), (5, .int .i64 (IntKind.i64.wrap ((x1.f2.length : Int) - 1))), (6, .int .i64 x521), (43, .bool (x521 == 0)), (46, .bool (x521 == (IntKind.i64.wrap ((x1.f2.length : Int) - 1)))), (50, .bool (x521 == (IntKind.i64.wrap ((x1.f2.length : Int) - 1))))] (by kernel_rfl) fun a hs => ?_
                  rcases ifbE hx680 with ⟨h682, hx680⟩ | ⟨h682, hx680⟩
                  · replace hs := hs.altB 50 true (by kernel_rfl) h682
                    refine pures hs 1 [2, 4, 5, 6, 43, 46, 50, 51] [(2, .pointer (some ⟨b356, 0, none⟩)), (4, .pointer (some ⟨b358, 0, none⟩)), (5, .int .i64 (IntKind.i64.wrap ((x1.f2.length : Int) - 1))), (6, .int .i64 x521), (43, .bool (x521 == 0)), (46, .bool (x521 == (IntKind.i64.wrap ((x1.f2.length : Int) - 1)))), (50, .bool true), (51, .pointer (some ⟨b356, 3, none⟩))] (by kernel_rfl) fun a hs => ?_
                    refine s_load hs (hw.at_ 1 rfl) 3 (by kernel_rfl) (by kernel_rfl) (v := .bool x1.f3) (by kernel_rfl) fun a hs => ?_
                    refine pures hs 3 [2, 4, 5, 6, 55] [(2, .pointer (some ⟨b356, 0, none⟩)), (4, .pointer (some ⟨b358, 0, none⟩)), (5, .int .i64 (IntKind.i64.wrap ((x1.f2.length : Int) - 1))), (6, .int .i64 x521), (55, .agg #[.bool true, .bool false, .bool (x521 == 0), .bool (x521 == (IntKind.i64.wrap ((x1.f2.length : Int) - 1))), .bool x1.f3, .int .i64 x521, .int .i64 0, .int .i64 0])] (by kernel_rfl) fun a hs => ?_
                    refine s_new hs hw [.bool false, .bool false, .bool false, .bool false, .bool false, .int .i64 0, .int .i64 0, .int .i64 0] 59 (fun b => .pointer (some ⟨b, 0, none⟩)) (by kernel_rfl) (fun _ => by kernel_rfl) fun a w b683 hs hw => ?_
                    refine s_store hs hw 0 rfl 0 (by kernel_rfl) (by kernel_rfl) (v := .agg #[.bool true, .bool false, .bool (x521 == 0), .bool (x521 == (IntKind.i64.wrap ((x1.f2.length : Int) - 1))), .bool x1.f3, .int .i64 x521, .int .i64 0, .int .i64 0]) (by kernel_rfl) (by kernel_rfl) (by kernel_rfl) (by kernel_rfl) fun a w hs hw => ?_
                    refine s_end ?_
                    obtain rfl := someE hx680
                    exact (hJ681 _ _).2 ⟨x1.f3, b683, hx604, hs.cast [2, 4, 5, 6, 7] (by kernel_rfl), hw.pick [1, 2, 0, 3] (by kernel_rfl)⟩
                  · replace hs := hs.altB 50 false (by kernel_rfl) h682
                    refine pures hs 5 [2, 4, 5, 6, 55] [(2, .pointer (some ⟨b356, 0, none⟩)), (4, .pointer (some ⟨b358, 0, none⟩)), (5, .int .i64 (IntKind.i64.wrap ((x1.f2.length : Int) - 1))), (6, .int .i64 x521), (55, .agg #[.bool true, .bool false, .bool (x521 == 0), .bool (x521 == (IntKind.i64.wrap ((x1.f2.length : Int) - 1))), .bool false, .int .i64 x521, .int .i64 0, .int .i64 0])] (by kernel_rfl) fun a hs => ?_
                    refine s_new hs hw [.bool false, .bool false, .bool false, .bool false, .bool false, .int .i64 0, .int .i64 0, .int .i64 0] 59 (fun b => .pointer (some ⟨b, 0, none⟩)) (by kernel_rfl) (fun _ => by kernel_rfl) fun a w b685 hs hw => ?_
                    refine s_store hs hw 0 rfl 0 (by kernel_rfl) (by kernel_rfl) (v := .agg #[.bool true, .bool false, .bool (x521 == 0), .bool (x521 == (IntKind.i64.wrap ((x1.f2.length : Int) - 1))), .bool false, .int .i64 x521, .int .i64 0, .int .i64 0]) (by kernel_rfl) (by kernel_rfl) (by kernel_rfl) (by kernel_rfl) fun a w hs hw => ?_
                    refine s_end ?_
                    obtain rfl := someE hx680
                    exact (hJ681 _ _).2 ⟨false, b685, hx604, hs.cast [2, 4, 5, 6, 7] (by kernel_rfl), hw.pick [1, 2, 0, 3] (by kernel_rfl)⟩
                · intro a w hh
                  obtain ⟨x632, b630, hx604, hs, hw⟩ := (hJ681 _ _).1 hh
                  obtain ⟨y666, hx667, hx604⟩ := bindE hx604
                  obtain ⟨J668, hJ668⟩ : ∃ J : Act → World → Prop, ∀ a w, J a w ↔ (∃ (x642 : Int), catenaryref19_Of_r28 x521 x1 x632 x642 = some y603 ∧ Sees a 80 [(2, .pointer (some ⟨b356, 0, none⟩)), (4, .pointer (some ⟨b358, 0, none⟩)), (5, .int .i64 (IntKind.i64.wrap ((x1.f2.length : Int) - 1))), (6, .int .i64 x521), (7, .pointer (some ⟨b630, 0, none⟩))] ∧ St g w [bx b358 [.bool false, .bool false, .bool false, .bool false, .bool false, .int .i64 0, .int .i64 0, .int .i64 0] 59, bx b356 [.int .i64 x1.f0, .int .u64 x1.f1, .slice p2 x1.f2.length c3, .bool x1.f3, .int .i64 x1.f4] 53, bx b630 [.bool true, .bool false, .bool (x521 == 0), .bool (x521 == (IntKind.i64.wrap ((x1.f2.length : Int) - 1))), .bool x632, .int .i64 x521, .int .i64 x642, .int .i64 0] 59, F] ih) := ⟨_, fun _ _ => Iff.rfl⟩
                  refine c_seqJ J668 ?_ ?_
                  · refine c_seq ?_
                    refine c_region ?_
                    refine pures hs 2 [2, 4, 5, 6, 7, 57] [(2, .pointer (some ⟨b356, 0, none⟩)), (4, .pointer (some ⟨b358, 0, none⟩)), (5, .int .i64 (IntKind.i64.wrap ((x1.f2.length : Int) - 1))), (6, .int .i64 x521), (7, .pointer (some ⟨b630, 0, none⟩)), (57, .bool (decide (x521 > 0)))] (by kernel_rfl) fun a hs => ?_
                    refine s_end ?_
                    rcases ifbE hx667 with ⟨h669, hx667⟩ | ⟨h669, hx667⟩
                    · refine c_cond1 hs (by kernel_rfl) (t := (decide (x521 > 0))) (by kernel_rfl) h669 ?_
                      refine c_region ?_
                      refine pures hs 1 [2, 4, 5, 6, 7, 58] [(2, .pointer (some ⟨b356, 0, none⟩)), (4, .pointer (some ⟨b358, 0, none⟩)), (5, .int .i64 (IntKind.i64.wrap ((x1.f2.length : Int) - 1))), (6, .int .i64 x521), (7, .pointer (some ⟨b630, 0, none⟩)), (58, .pointer (some ⟨b356, 2, none⟩))] (by kernel_rfl) fun a hs => ?_
                      refine s_load hs (hw.at_ 1 rfl) 2 (by kernel_rfl) (by kernel_rfl) (v := .slice p2 x1.f2.length c3) (by kernel_rfl) fun a hs => ?_
                      refine pures hs 2 [2, 4, 5, 6, 7, 59, 61] [(2, .pointer (some ⟨b356, 0, none⟩)), (4, .pointer (some ⟨b358, 0, none⟩)), (5, .int .i64 (IntKind.i64.wrap ((x1.f2.length : Int) - 1))), (6, .int .i64 x521), (7, .pointer (some ⟨b630, 0, none⟩)), (59, .slice p2 x1.f2.length c3), (61, .int .i64 (IntKind.i64.wrap (x521 - 1)))] (by kernel_rfl) fun a hs => ?_
                      obtain ⟨x674, h675, hx667⟩ := bindE hx667
                      refine s_index hs h4 (by kernel_rfl) (by kernel_rfl) (k := .i64) (by kernel_rfl) 3 (by kernel_rfl) (by kernel_rfl) h675 fun a r676 cs henc at677 hs => ?_
                      obtain rfl := henc
                      refine s_load hs (at677 _ (hw.vwAll.nil.anti (Le.refl _))) 0 (by kernel_rfl) (by kernel_rfl) (v := .int .i64 x674) (by kernel_rfl) fun a hs => ?_
                      refine pures hs 1 [2, 4, 5, 6, 7, 63, 64] [(2, .pointer (some ⟨b356, 0, none⟩)), (4, .pointer (some ⟨b358, 0, none⟩)), (5, .int .i64 (IntKind.i64.wrap ((x1.f2.length : Int) - 1))), (6, .int .i64 x521), (7, .pointer (some ⟨b630, 0, none⟩)), (63, .int .i64 x674), (64, .pointer (some ⟨b630, 6, none⟩))] (by kernel_rfl) fun a hs => ?_
                      refine s_store hs hw 2 rfl 6 (by kernel_rfl) (by kernel_rfl) (v := .int .i64 x674) (by kernel_rfl) (by kernel_rfl) (by kernel_rfl) (by kernel_rfl) fun a w hs hw => ?_
                      refine s_end ?_
                      obtain rfl := someE hx667
                      exact (hJ668 _ _).2 ⟨x674, hx604, hs.cast [2, 4, 5, 6, 7] (by kernel_rfl), hw.pick [0, 1, 2, 3] (by kernel_rfl)⟩
                    · refine c_cond0 hs (by kernel_rfl) (t := (decide (x521 > 0))) (by kernel_rfl) h669 ?_
                      refine wp_skip ?_
                      obtain rfl := someE hx667
                      exact (hJ668 _ _).2 ⟨0, hx604, hs.cast [2, 4, 5, 6, 7] (by kernel_rfl), hw.pick [0, 1, 2, 3] (by kernel_rfl)⟩
                  · intro a w hh
                    obtain ⟨x642, hx604, hs, hw⟩ := (hJ668 _ _).1 hh
                    refine c_seq ?_
                    refine c_region ?_
                    refine pures hs 1 [2, 4, 5, 6, 7, 65] [(2, .pointer (some ⟨b356, 0, none⟩)), (4, .pointer (some ⟨b358, 0, none⟩)), (5, .int .i64 (IntKind.i64.wrap ((x1.f2.length : Int) - 1))), (6, .int .i64 x521), (7, .pointer (some ⟨b630, 0, none⟩)), (65, .pointer (some ⟨b356, 4, none⟩))] (by kernel_rfl) fun a hs => ?_
                    refine s_load hs (hw.at_ 1 rfl) 4 (by kernel_rfl) (by kernel_rfl) (v := .int .i64 x1.f4) (by kernel_rfl) fun a hs => ?_
                    refine pures hs 1 [2, 4, 5, 6, 7, 66, 67] [(2, .pointer (some ⟨b356, 0, none⟩)), (4, .pointer (some ⟨b358, 0, none⟩)), (5, .int .i64 (IntKind.i64.wrap ((x1.f2.length : Int) - 1))), (6, .int .i64 x521), (7, .pointer (some ⟨b630, 0, none⟩)), (66, .int .i64 x1.f4), (67, .pointer (some ⟨b630, 7, none⟩))] (by kernel_rfl) fun a hs => ?_
                    refine s_store hs hw 2 rfl 7 (by kernel_rfl) (by kernel_rfl) (v := .int .i64 x1.f4) (by kernel_rfl) (by kernel_rfl) (by kernel_rfl) (by kernel_rfl) fun a w hs hw => ?_
                    refine s_end ?_
                    obtain ⟨y653, hx654, hx604⟩ := bindE hx604
                    obtain ⟨J655, hJ655⟩ : ∃ J : Act → World → Prop, ∀ a w, J a w ↔ (∃ (x652 : Int), catenaryref19_Of_r27 x521 x1 x632 x642 x652 = some y603 ∧ Sees a 80 [(4, .pointer (some ⟨b358, 0, none⟩)), (7, .pointer (some ⟨b630, 0, none⟩))] ∧ St g w [bx b358 [.bool false, .bool false, .bool false, .bool false, .bool false, .int .i64 0, .int .i64 0, .int .i64 0] 59, bx b630 [.bool true, .bool false, .bool (x521 == 0), .bool (x521 == (IntKind.i64.wrap ((x1.f2.length : Int) - 1))), .bool x632, .int .i64 x521, .int .i64 x642, .int .i64 x652] 59, F] ih) := ⟨_, fun _ _ => Iff.rfl⟩
                    refine c_seqJ J655 ?_ ?_
                    · refine c_seq ?_
                      refine c_region ?_
                      refine pures hs 3 [2, 4, 6, 7, 70] [(2, .pointer (some ⟨b356, 0, none⟩)), (4, .pointer (some ⟨b358, 0, none⟩)), (6, .int .i64 x521), (7, .pointer (some ⟨b630, 0, none⟩)), (70, .bool (decide (x521 < (IntKind.i64.wrap ((x1.f2.length : Int) - 1)))))] (by kernel_rfl) fun a hs => ?_
                      refine s_end ?_
                      rcases ifbE hx654 with ⟨h656, hx654⟩ | ⟨h656, hx654⟩
                      · refine c_cond1 hs (by kernel_rfl) (t := (decide (x521 < (IntKind.i64.wrap ((x1.f2.length : Int) - 1))))) (by kernel_rfl) h656 ?_
                        refine c_region ?_
                        refine pures hs 1 [4, 6, 7, 71] [(4, .pointer (some ⟨b358, 0, none⟩)), (6, .int .i64 x521), (7, .pointer (some ⟨b630, 0, none⟩)), (71, .pointer (some ⟨b356, 2, none⟩))] (by kernel_rfl) fun a hs => ?_
                        refine s_load hs (hw.at_ 1 rfl) 2 (by kernel_rfl) (by kernel_rfl) (v := .slice p2 x1.f2.length c3) (by kernel_rfl) fun a hs => ?_
                        refine pures hs 2 [4, 7, 72, 74] [(4, .pointer (some ⟨b358, 0, none⟩)), (7, .pointer (some ⟨b630, 0, none⟩)), (72, .slice p2 x1.f2.length c3), (74, .int .i64 (IntKind.i64.wrap (x521 + 1)))] (by kernel_rfl) fun a hs => ?_
                        obtain ⟨x661, h662, hx654⟩ := bindE hx654
                        refine s_index hs h4 (by kernel_rfl) (by kernel_rfl) (k := .i64) (by kernel_rfl) 3 (by kernel_rfl) (by kernel_rfl) h662 fun a r663 cs henc at664 hs => ?_
                        obtain rfl := henc
                        refine s_load hs (at664 _ (hw.vwAll.nil.anti (Le.refl _))) 0 (by kernel_rfl) (by kernel_rfl) (v := .int .i64 x661) (by kernel_rfl) fun a hs => ?_
                        refine pures hs 1 [4, 7, 76, 77] [(4, .pointer (some ⟨b358, 0, none⟩)), (7, .pointer (some ⟨b630, 0, none⟩)), (76, .int .i64 x661), (77, .pointer (some ⟨b630, 7, none⟩))] (by kernel_rfl) fun a hs => ?_
                        refine s_store hs hw 2 rfl 7 (by kernel_rfl) (by kernel_rfl) (v := .int .i64 x661) (by kernel_rfl) (by kernel_rfl) (by kernel_rfl) (by kernel_rfl) fun a w hs hw => ?_
                        refine s_end ?_
                        obtain rfl := someE hx654
                        exact (hJ655 _ _).2 ⟨x661, hx604, hs.cast [4, 7] (by kernel_rfl), hw.pick [0, 2, 3] (by kernel_rfl)⟩
                      · refine c_cond0 hs (by kernel_rfl) (t := (decide (x521 < (IntKind.i64.wrap ((x1.f2.length : Int) - 1))))) (by kernel_rfl) h656 ?_
                        refine wp_skip ?_
                        obtain rfl := someE hx654
                        exact (hJ655 _ _).2 ⟨x1.f4, hx604, hs.cast [4, 7] (by kernel_rfl), hw.pick [0, 2, 3] (by kernel_rfl)⟩
                    · intro a w hh
                      obtain ⟨x652, hx604, hs, hw⟩ := (hJ655 _ _).1 hh
                      refine c_seq ?_
                      refine c_region ?_
                      refine s_load hs (hw.at_ 1 rfl) 0 (by kernel_rfl) (by kernel_rfl) (v := .agg #[.bool true, .bool false, .bool (x521 == 0), .bool (x521 == (IntKind.i64.wrap ((x1.f2.length : Int) - 1))), .bool x632, .int .i64 x521, .int .i64 x642, .int .i64 x652]) (by kernel_rfl) fun a hs => ?_
                      refine s_store hs hw 0 rfl 0 (by kernel_rfl) (by kernel_rfl) (v := .agg #[.bool true, .bool false, .bool (x521 == 0), .bool (x521 == (IntKind.i64.wrap ((x1.f2.length : Int) - 1))), .bool x632, .int .i64 x521, .int .i64 x642, .int .i64 x652]) (by kernel_rfl) (by kernel_rfl) (by kernel_rfl) (by kernel_rfl) fun a w hs hw => ?_
                      refine s_end ?_
                      refine wp_ret ?_
                      obtain rfl := someE hx604
                      obtain rfl := someE hk
                      refine hQ _ _ (f_retC hs rfl (hw.at_ 0 rfl) (by kernel_rfl) (v := .agg #[.bool true, .bool false, .bool (x521 == 0), .bool (x521 == (IntKind.i64.wrap ((x1.f2.length : Int) - 1))), .bool x632, .int .i64 x521, .int .i64 x642, .int .i64 x652]) (by kernel_rfl) ⟨rfl, hw.pick [2] (by kernel_rfl)⟩)
            · refine c_cond0 hs (by kernel_rfl) (t := (decide (x521 ≤ (IntKind.i64.wrap ((x1.f2.length : Int) - 1))))) (by kernel_rfl) h607 ?_
              refine wp_exit ?_
              obtain rfl := someE hx604
              exact (hJ605 _ _).2 ⟨hk, hs.cast [4] (by kernel_rfl), hw.pick [0, 2] (by kernel_rfl)⟩
        · intro a w hh
          obtain ⟨hk, hs, hw⟩ := (hJ605 _ _).1 hh
          refine c_seq ?_
          refine c_region ?_
          refine pures hs 1 [4, 79] [(4, .pointer (some ⟨b358, 0, none⟩)), (79, .agg #[.bool false, .bool false, .bool false, .bool false, .bool false, .int .i64 0, .int .i64 0, .int .i64 0])] (by kernel_rfl) fun a hs => ?_
          refine s_store hs hw 0 rfl 0 (by kernel_rfl) (by kernel_rfl) (v := .agg #[.bool false, .bool false, .bool false, .bool false, .bool false, .int .i64 0, .int .i64 0, .int .i64 0]) (by kernel_rfl) (by kernel_rfl) (by kernel_rfl) (by kernel_rfl) fun a w hs hw => ?_
          refine s_end ?_
          refine wp_ret ?_
          obtain rfl := someE hk
          refine hQ _ _ (f_retC hs rfl (hw.at_ 0 rfl) (by kernel_rfl) (v := .agg #[.bool false, .bool false, .bool false, .bool false, .bool false, .int .i64 0, .int .i64 0, .int .i64 0]) (by kernel_rfl) ⟨rfl, hw.pick [1] (by kernel_rfl)⟩)
def catenaryref19_Reports_r9 (x264 : List M66) : Option (List M66) :=
  some x264
def catenaryref19_Reports_r10 (x227 : List M66) (x1 : M53) (y188 : M59) (x279 : Bool) : Option (List M66) :=
  if x279 = true then (
    (app x227 [(M66.mk 1 x1.f0 x1.f1 y188.f7)]).bind fun x291 =>
    some x291)
  else some x227
def catenaryref19_Reports_r11 (k : Nat) (y188 : M59) (x6 : List Int) (x1 : M53) (x227 : List M66) : Option (List M66) :=
  ((if (decide (y188.f7 > 0)) = true then (
        (catenaryref04_Has k x6 y188.f7).bind fun y301 =>
        some y301)
      else some false : Option Bool).bind fun s303 => catenaryref19_Reports_r10 x227 x1 y188 s303 : Option (List M66)).bind fun s304 => catenaryref19_Reports_r9 s304
def catenaryref19_Reports_r12 (x1 : M53) (y188 : M59) (x314 : Bool) : Option (List M66) :=
  if x314 = true then (
    (app ([]) [(M66.mk 1 x1.f0 x1.f1 y188.f6)]).bind fun x330 =>
    some x330)
  else some ([])
def catenaryref19_Reports (k : Nat) (x1 : M53) (x5 : Int) (x6 : List Int) : Option (List M66) :=
  (catenaryref19_Of k x1 x5).bind fun y188 =>
  ((if (decide (y188.f6 > 0)) = true then (
        (catenaryref04_Has k x6 y188.f6).bind fun y342 =>
        some y342)
      else some false : Option Bool).bind fun s344 => catenaryref19_Reports_r12 x1 y188 s344 : Option (List M66)).bind fun s345 => catenaryref19_Reports_r11 k y188 x6 x1 s345
theorem catenaryref19_Reports_s {k : Nat} {x1 : M53} {x5 : Int} {x6 : List Int} {p2 : Option Addr} {c3 : Nat} {p7 : Option Addr} {c8 : Nat} {d10 : Ch} {r : (List M66)} (hk : catenaryref19_Reports k x1 x5 x6 = some r) {g w : World} {F : Ch} {ih : IH} (h4 : RSl e3 ih [] p2 c3 x1.f2) (h9 : RSl e3 ih d10 p7 c8 x6) (h11 : ∀ q ∈ d10, q ∈ F) (hw : St g w [F] ih) :
    CallsR Try.prog 42 #[.agg #[.int .i64 x1.f0, .int .u64 x1.f1, .slice p2 x1.f2.length c3, .bool x1.f3, .int .i64 x1.f4], .int .i64 x5, .slice p7 x6.length c8] w fun v w' => ∃ (p346 : Option Addr) (c347 : Nat) (d348 : Ch), v = .slice p346 r.length c347 ∧ St g w' [d348, F] ih ∧ OSl e66 ih p346 c347 r d348 := by
  refine f_in (vs := [.agg #[.int .i64 x1.f0, .int .u64 x1.f1, .slice p2 x1.f2.length c3, .bool x1.f3, .int .i64 x1.f4], .int .i64 x5, .slice p7 x6.length c8]) Try.func42 rfl 51 rfl (by kernel_rfl) [(0, .agg #[.int .i64 x1.f0, .int .u64 x1.f1, .slice p2 x1.f2.length c3, .bool x1.f3, .int .i64 x1.f4]), (1, .int .i64 x5), (2, .slice p7 x6.length c8)] (by kernel_rfl) fun a Qf hQ hQn hs => ?_
  refine c_seq ?_
  refine c_region ?_
  refine s_new hs hw [.int .i64 x1.f0, .int .u64 x1.f1, .slice p2 x1.f2.length c3, .bool x1.f3, .int .i64 x1.f4] 53 (fun b => .pointer (some ⟨b, 0, none⟩)) (by kernel_rfl) (fun _ => by kernel_rfl) fun a w b182 hs hw => ?_
  refine pures hs 1 [1, 2, 3] [(1, .int .i64 x5), (2, .slice p7 x6.length c8), (3, .pointer (some ⟨b182, 0, none⟩))] (by kernel_rfl) fun a hs => ?_
  refine s_end ?_
  refine c_seq ?_
  refine c_region ?_
  refine s_load hs (hw.at_ 0 rfl) 0 (by kernel_rfl) (by kernel_rfl) (v := .agg #[.int .i64 x1.f0, .int .u64 x1.f1, .slice p2 x1.f2.length c3, .bool x1.f3, .int .i64 x1.f4]) (by kernel_rfl) fun a hs => ?_
  refine pures hs 1 [2, 3, 9, 10] [(2, .slice p7 x6.length c8), (3, .pointer (some ⟨b182, 0, none⟩)), (9, .agg #[.int .i64 x1.f0, .int .u64 x1.f1, .slice p2 x1.f2.length c3, .bool x1.f3, .int .i64 x1.f4]), (10, .int .i64 x5)] (by kernel_rfl) fun a hs => ?_
  obtain ⟨y188, h189, hk⟩ := bindE hk
  refine s_call hs (by kernel_rfl) (by kernel_rfl) (catenaryref19_Of_s h189 h4 ((hw.pick [0, 1] (by kernel_rfl)).pack 0)) fun a w v hv hs => ?_
  obtain ⟨rfl, hw⟩ := hv
  replace hw := hw.unpack 0 rfl
  refine s_new hs hw [.bool false, .bool false, .bool false, .bool false, .bool false, .int .i64 0, .int .i64 0, .int .i64 0] 59 (fun b => .pointer (some ⟨b, 0, none⟩)) (by kernel_rfl) (fun _ => by kernel_rfl) fun a w b190 hs hw => ?_
  refine s_store hs hw 0 rfl 0 (by kernel_rfl) (by kernel_rfl) (v := .agg #[.bool y188.f0, .bool y188.f1, .bool y188.f2, .bool y188.f3, .bool y188.f4, .int .i64 y188.f5, .int .i64 y188.f6, .int .i64 y188.f7]) (by kernel_rfl) (by kernel_rfl) (by kernel_rfl) (by kernel_rfl) fun a w hs hw => ?_
  refine s_end ?_
  refine c_seq ?_
  refine c_region ?_
  refine pures hs 1 [2, 3, 7, 8] [(2, .slice p7 x6.length c8), (3, .pointer (some ⟨b182, 0, none⟩)), (7, .pointer (some ⟨b190, 0, none⟩)), (8, .slice none 0 0)] (by kernel_rfl) fun a hs => ?_
  refine s_end ?_
  obtain ⟨y305, hx306, hk⟩ := bindE hk
  obtain ⟨J307, hJ307⟩ : ∃ J : Act → World → Prop, ∀ a w, J a w ↔ (∃ (x227 : List M66) (p228 : Option Addr) (c229 : Nat) (d231 : Ch), catenaryref19_Reports_r11 k y188 x6 x1 x227 = some r ∧ Sees a 51 [(2, .slice p7 x6.length c8), (3, .pointer (some ⟨b182, 0, none⟩)), (7, .pointer (some ⟨b190, 0, none⟩)), (8, .slice p228 x227.length c229)] ∧ St g w [bx b190 [.bool y188.f0, .bool y188.f1, .bool y188.f2, .bool y188.f3, .bool y188.f4, .int .i64 y188.f5, .int .i64 y188.f6, .int .i64 y188.f7] 59, bx b182 [.int .i64 x1.f0, .int .u64 x1.f1, .slice p2 x1.f2.length c3, .bool x1.f3, .int .i64 x1.f4] 53, d231, F] ih ∧ OSl e66 ih p228 c229 x227 d231) := ⟨_, fun _ _ => Iff.rfl⟩
  refine c_seqJ J307 ?_ ?_
  · refine c_seq ?_
    obtain ⟨y338, hx339, hx306⟩ := bindE hx306
    obtain ⟨J340, hJ340⟩ : ∃ J : Act → World → Prop, ∀ a w, J a w ↔ (∃ (x314 : Bool), catenaryref19_Reports_r12 x1 y188 x314 = some y305 ∧ Sees a 51 [(2, .slice p7 x6.length c8), (3, .pointer (some ⟨b182, 0, none⟩)), (7, .pointer (some ⟨b190, 0, none⟩)), (8, .slice none 0 0), (20, .bool x314)] ∧ St g w [bx b190 [.bool y188.f0, .bool y188.f1, .bool y188.f2, .bool y188.f3, .bool y188.f4, .int .i64 y188.f5, .int .i64 y188.f6, .int .i64 y188.f7] 59, bx b182 [.int .i64 x1.f0, .int .u64 x1.f1, .slice p2 x1.f2.length c3, .bool x1.f3, .int .i64 x1.f4] 53, F] ih) := ⟨_, fun _ _ => Iff.rfl⟩
    refine c_regJ J340 ?_ ?_
    · refine pures hs 1 [2, 3, 7, 8, 12] [(2, .slice p7 x6.length c8), (3, .pointer (some ⟨b182, 0, none⟩)), (7, .pointer (some ⟨b190, 0, none⟩)), (8, .slice none 0 0), (12, .pointer (some ⟨b190, 6, none⟩))] (by kernel_rfl) fun a hs => ?_
      refine s_load hs (hw.at_ 0 rfl) 6 (by kernel_rfl) (by kernel_rfl) (v := .int .i64 y188.f6) (by kernel_rfl) fun a hs => ?_
      refine pures hs 2 [2, 3, 7, 8, 15] [(2, .slice p7 x6.length c8), (3, .pointer (some ⟨b182, 0, none⟩)), (7, .pointer (some ⟨b190, 0, none⟩)), (8, .slice none 0 0), (15, .bool (decide (y188.f6 > 0)))] (by kernel_rfl) fun a hs => ?_
      rcases ifbE hx339 with ⟨h341, hx339⟩ | ⟨h341, hx339⟩
      · replace hs := hs.altB 15 true (by kernel_rfl) h341
        refine pures hs 2 [2, 3, 7, 8, 15, 16, 17] [(2, .slice p7 x6.length c8), (3, .pointer (some ⟨b182, 0, none⟩)), (7, .pointer (some ⟨b190, 0, none⟩)), (8, .slice none 0 0), (15, .bool true), (16, .slice p7 x6.length c8), (17, .pointer (some ⟨b190, 6, none⟩))] (by kernel_rfl) fun a hs => ?_
        refine s_load hs (hw.at_ 0 rfl) 6 (by kernel_rfl) (by kernel_rfl) (v := .int .i64 y188.f6) (by kernel_rfl) fun a hs => ?_
        obtain ⟨y342, h343, hx339⟩ := bindE hx339
        refine s_call hs (by kernel_rfl) (by kernel_rfl) (catenaryref04_Has_s h343 h9 (fun q hq => memF 2 rfl q (h11 q hq)) ((hw.pick [0, 1, 2] (by kernel_rfl)).pack 0)) fun a w v hv hs => ?_
        obtain ⟨rfl, hw⟩ := hv
        replace hw := hw.unpack 0 rfl
        refine pures hs 1 [2, 3, 7, 8, 20] [(2, .slice p7 x6.length c8), (3, .pointer (some ⟨b182, 0, none⟩)), (7, .pointer (some ⟨b190, 0, none⟩)), (8, .slice none 0 0), (20, .bool y342)] (by kernel_rfl) fun a hs => ?_
        refine s_end ?_
        obtain rfl := someE hx339
        exact (hJ340 _ _).2 ⟨y342, hx306, hs.cast [2, 3, 7, 8, 20] (by kernel_rfl), hw.pick [0, 1, 2] (by kernel_rfl)⟩
      · replace hs := hs.altB 15 false (by kernel_rfl) h341
        refine pures hs 5 [2, 3, 7, 8, 20] [(2, .slice p7 x6.length c8), (3, .pointer (some ⟨b182, 0, none⟩)), (7, .pointer (some ⟨b190, 0, none⟩)), (8, .slice none 0 0), (20, .bool false)] (by kernel_rfl) fun a hs => ?_
        refine s_end ?_
        obtain rfl := someE hx339
        exact (hJ340 _ _).2 ⟨false, hx306, hs.cast [2, 3, 7, 8, 20] (by kernel_rfl), hw.pick [0, 1, 2] (by kernel_rfl)⟩
    · intro a w hh
      obtain ⟨x314, hx306, hs, hw⟩ := (hJ340 _ _).1 hh
      rcases ifbE hx306 with ⟨h315, hx306⟩ | ⟨h315, hx306⟩
      · refine c_cond1 hs (by kernel_rfl) (t := x314) (by kernel_rfl) h315 ?_
        refine c_region ?_
        refine pures hs 2 [2, 3, 7, 21, 22] [(2, .slice p7 x6.length c8), (3, .pointer (some ⟨b182, 0, none⟩)), (7, .pointer (some ⟨b190, 0, none⟩)), (21, .slice none 0 0), (22, .pointer (some ⟨b182, 0, none⟩))] (by kernel_rfl) fun a hs => ?_
        refine s_load hs (hw.at_ 1 rfl) 0 (by kernel_rfl) (by kernel_rfl) (v := .int .i64 x1.f0) (by kernel_rfl) fun a hs => ?_
        refine pures hs 1 [2, 3, 7, 21, 23, 24] [(2, .slice p7 x6.length c8), (3, .pointer (some ⟨b182, 0, none⟩)), (7, .pointer (some ⟨b190, 0, none⟩)), (21, .slice none 0 0), (23, .int .i64 x1.f0), (24, .pointer (some ⟨b182, 1, none⟩))] (by kernel_rfl) fun a hs => ?_
        refine s_load hs (hw.at_ 1 rfl) 1 (by kernel_rfl) (by kernel_rfl) (v := .int .u64 x1.f1) (by kernel_rfl) fun a hs => ?_
        refine pures hs 1 [2, 3, 7, 21, 23, 25, 26] [(2, .slice p7 x6.length c8), (3, .pointer (some ⟨b182, 0, none⟩)), (7, .pointer (some ⟨b190, 0, none⟩)), (21, .slice none 0 0), (23, .int .i64 x1.f0), (25, .int .u64 x1.f1), (26, .pointer (some ⟨b190, 6, none⟩))] (by kernel_rfl) fun a hs => ?_
        refine s_load hs (hw.at_ 0 rfl) 6 (by kernel_rfl) (by kernel_rfl) (v := .int .i64 y188.f6) (by kernel_rfl) fun a hs => ?_
        refine pures hs 1 [2, 3, 7, 21, 28] [(2, .slice p7 x6.length c8), (3, .pointer (some ⟨b182, 0, none⟩)), (7, .pointer (some ⟨b190, 0, none⟩)), (21, .slice none 0 0), (28, .agg #[.int .i64 1, .int .i64 x1.f0, .int .u64 x1.f1, .int .i64 y188.f6])] (by kernel_rfl) fun a hs => ?_
        refine s_new hs hw [.int .i64 1, .int .i64 x1.f0, .int .u64 x1.f1, .int .i64 y188.f6] 66 (fun b => .slice (some ⟨b, 0, none⟩) 1 1) (by kernel_rfl) (fun _ => by kernel_rfl) fun a w b326 hs hw => ?_
        replace hw := hw.nil
        obtain ⟨x330, h331, hx306⟩ := bindE hx306
        refine s_app1 hs hw (E := e66) appT63 0 rfl (OSl.nil _ _) (by kernel_rfl) (by kernel_rfl) (c2 := 1) (by kernel_rfl) (hw.at_ 1 rfl) (z := (M66.mk 1 x1.f0 x1.f1 y188.f6)) rfl h331 fun a w p332 c333 d334 h335 hw hs => ?_
        refine pures hs 1 [2, 3, 7, 8] [(2, .slice p7 x6.length c8), (3, .pointer (some ⟨b182, 0, none⟩)), (7, .pointer (some ⟨b190, 0, none⟩)), (8, .slice p332 x330.length c333)] (by kernel_rfl) fun a hs => ?_
        refine s_end ?_
        obtain rfl := someE hx306
        exact (hJ307 _ _).2 ⟨x330, p332, c333, d334, hk, hs.cast [2, 3, 7, 8] (by kernel_rfl), hw.pick [2, 3, 0, 4] (by kernel_rfl), h335⟩
      · refine c_cond0 hs (by kernel_rfl) (t := x314) (by kernel_rfl) h315 ?_
        refine wp_skip ?_
        obtain rfl := someE hx306
        replace hw := hw.nil
        exact (hJ307 _ _).2 ⟨([]), none, 0, ([]), hk, hs.cast [2, 3, 7, 8] (by kernel_rfl), hw.pick [1, 2, 0, 3] (by kernel_rfl), (OSl.nil _ _)⟩
  · intro a w hh
    obtain ⟨x227, p228, c229, d231, hk, hs, hw, h230⟩ := (hJ307 _ _).1 hh
    obtain ⟨y270, hx271, hk⟩ := bindE hk
    obtain ⟨J272, hJ272⟩ : ∃ J : Act → World → Prop, ∀ a w, J a w ↔ (∃ (x264 : List M66) (p265 : Option Addr) (c266 : Nat) (d268 : Ch), catenaryref19_Reports_r9 x264 = some r ∧ Sees a 51 [(8, .slice p265 x264.length c266)] ∧ St g w [d268, F] ih ∧ OSl e66 ih p265 c266 x264 d268) := ⟨_, fun _ _ => Iff.rfl⟩
    refine c_seqJ J272 ?_ ?_
    · refine c_seq ?_
      obtain ⟨y297, hx298, hx271⟩ := bindE hx271
      obtain ⟨J299, hJ299⟩ : ∃ J : Act → World → Prop, ∀ a w, J a w ↔ (∃ (x279 : Bool), catenaryref19_Reports_r10 x227 x1 y188 x279 = some y270 ∧ Sees a 51 [(3, .pointer (some ⟨b182, 0, none⟩)), (7, .pointer (some ⟨b190, 0, none⟩)), (8, .slice p228 x227.length c229), (39, .bool x279)] ∧ St g w [bx b190 [.bool y188.f0, .bool y188.f1, .bool y188.f2, .bool y188.f3, .bool y188.f4, .int .i64 y188.f5, .int .i64 y188.f6, .int .i64 y188.f7] 59, bx b182 [.int .i64 x1.f0, .int .u64 x1.f1, .slice p2 x1.f2.length c3, .bool x1.f3, .int .i64 x1.f4] 53, d231, F] ih) := ⟨_, fun _ _ => Iff.rfl⟩
      refine c_regJ J299 ?_ ?_
      · refine pures hs 1 [2, 3, 7, 8, 31] [(2, .slice p7 x6.length c8), (3, .pointer (some ⟨b182, 0, none⟩)), (7, .pointer (some ⟨b190, 0, none⟩)), (8, .slice p228 x227.length c229), (31, .pointer (some ⟨b190, 7, none⟩))] (by kernel_rfl) fun a hs => ?_
        refine s_load hs (hw.at_ 0 rfl) 7 (by kernel_rfl) (by kernel_rfl) (v := .int .i64 y188.f7) (by kernel_rfl) fun a hs => ?_
        refine pures hs 2 [2, 3, 7, 8, 34] [(2, .slice p7 x6.length c8), (3, .pointer (some ⟨b182, 0, none⟩)), (7, .pointer (some ⟨b190, 0, none⟩)), (8, .slice p228 x227.length c229), (34, .bool (decide (y188.f7 > 0)))] (by kernel_rfl) fun a hs => ?_
        rcases ifbE hx298 with ⟨h300, hx298⟩ | ⟨h300, hx298⟩
        · replace hs := hs.altB 34 true (by kernel_rfl) h300
          refine pures hs 2 [3, 7, 8, 34, 35, 36] [(3, .pointer (some ⟨b182, 0, none⟩)), (7, .pointer (some ⟨b190, 0, none⟩)), (8, .slice p228 x227.length c229), (34, .bool true), (35, .slice p7 x6.length c8), (36, .pointer (some ⟨b190, 7, none⟩))] (by kernel_rfl) fun a hs => ?_
          refine s_load hs (hw.at_ 0 rfl) 7 (by kernel_rfl) (by kernel_rfl) (v := .int .i64 y188.f7) (by kernel_rfl) fun a hs => ?_
          obtain ⟨y301, h302, hx298⟩ := bindE hx298
          refine s_call hs (by kernel_rfl) (by kernel_rfl) (catenaryref04_Has_s h302 h9 (fun q hq => memF 3 rfl q (h11 q hq)) ((hw.pick [0, 1, 2, 3] (by kernel_rfl)).pack 0)) fun a w v hv hs => ?_
          obtain ⟨rfl, hw⟩ := hv
          replace hw := hw.unpack 0 rfl
          refine pures hs 1 [3, 7, 8, 39] [(3, .pointer (some ⟨b182, 0, none⟩)), (7, .pointer (some ⟨b190, 0, none⟩)), (8, .slice p228 x227.length c229), (39, .bool y301)] (by kernel_rfl) fun a hs => ?_
          refine s_end ?_
          obtain rfl := someE hx298
          exact (hJ299 _ _).2 ⟨y301, hx271, hs.cast [3, 7, 8, 39] (by kernel_rfl), hw.pick [0, 1, 2, 3] (by kernel_rfl)⟩
        · replace hs := hs.altB 34 false (by kernel_rfl) h300
          refine pures hs 5 [3, 7, 8, 39] [(3, .pointer (some ⟨b182, 0, none⟩)), (7, .pointer (some ⟨b190, 0, none⟩)), (8, .slice p228 x227.length c229), (39, .bool false)] (by kernel_rfl) fun a hs => ?_
          refine s_end ?_
          obtain rfl := someE hx298
          exact (hJ299 _ _).2 ⟨false, hx271, hs.cast [3, 7, 8, 39] (by kernel_rfl), hw.pick [0, 1, 2, 3] (by kernel_rfl)⟩
      · intro a w hh
        obtain ⟨x279, hx271, hs, hw⟩ := (hJ299 _ _).1 hh
        rcases ifbE hx271 with ⟨h280, hx271⟩ | ⟨h280, hx271⟩
        · refine c_cond1 hs (by kernel_rfl) (t := x279) (by kernel_rfl) h280 ?_
          refine c_region ?_
          refine pures hs 2 [3, 7, 40, 41] [(3, .pointer (some ⟨b182, 0, none⟩)), (7, .pointer (some ⟨b190, 0, none⟩)), (40, .slice p228 x227.length c229), (41, .pointer (some ⟨b182, 0, none⟩))] (by kernel_rfl) fun a hs => ?_
          refine s_load hs (hw.at_ 1 rfl) 0 (by kernel_rfl) (by kernel_rfl) (v := .int .i64 x1.f0) (by kernel_rfl) fun a hs => ?_
          refine pures hs 1 [7, 40, 42, 43] [(7, .pointer (some ⟨b190, 0, none⟩)), (40, .slice p228 x227.length c229), (42, .int .i64 x1.f0), (43, .pointer (some ⟨b182, 1, none⟩))] (by kernel_rfl) fun a hs => ?_
          refine s_load hs (hw.at_ 1 rfl) 1 (by kernel_rfl) (by kernel_rfl) (v := .int .u64 x1.f1) (by kernel_rfl) fun a hs => ?_
          refine pures hs 1 [40, 42, 44, 45] [(40, .slice p228 x227.length c229), (42, .int .i64 x1.f0), (44, .int .u64 x1.f1), (45, .pointer (some ⟨b190, 7, none⟩))] (by kernel_rfl) fun a hs => ?_
          refine s_load hs (hw.at_ 0 rfl) 7 (by kernel_rfl) (by kernel_rfl) (v := .int .i64 y188.f7) (by kernel_rfl) fun a hs => ?_
          refine pures hs 1 [40, 47] [(40, .slice p228 x227.length c229), (47, .agg #[.int .i64 1, .int .i64 x1.f0, .int .u64 x1.f1, .int .i64 y188.f7])] (by kernel_rfl) fun a hs => ?_
          refine s_new hs hw [.int .i64 1, .int .i64 x1.f0, .int .u64 x1.f1, .int .i64 y188.f7] 66 (fun b => .slice (some ⟨b, 0, none⟩) 1 1) (by kernel_rfl) (fun _ => by kernel_rfl) fun a w b289 hs hw => ?_
          obtain ⟨x291, h292, hx271⟩ := bindE hx271
          refine s_app1 hs hw (E := e66) appT63 3 rfl h230 (by kernel_rfl) (by kernel_rfl) (c2 := 1) (by kernel_rfl) (hw.at_ 0 rfl) (z := (M66.mk 1 x1.f0 x1.f1 y188.f7)) rfl h292 fun a w p293 c294 d295 h296 hw hs => ?_
          refine pures hs 1 [8] [(8, .slice p293 x291.length c294)] (by kernel_rfl) fun a hs => ?_
          refine s_end ?_
          obtain rfl := someE hx271
          exact (hJ272 _ _).2 ⟨x291, p293, c294, d295, hk, hs.cast [8] (by kernel_rfl), hw.pick [3, 4] (by kernel_rfl), h296⟩
        · refine c_cond0 hs (by kernel_rfl) (t := x279) (by kernel_rfl) h280 ?_
          refine wp_skip ?_
          obtain rfl := someE hx271
          exact (hJ272 _ _).2 ⟨x227, p228, c229, d231, hk, hs.cast [8] (by kernel_rfl), hw.pick [2, 3] (by kernel_rfl), h230⟩
    · intro a w hh
      obtain ⟨x264, p265, c266, d268, hk, hs, hw, h267⟩ := (hJ272 _ _).1 hh
      refine c_seq ?_
      refine c_region ?_
      refine pures hs 2 [6] [(6, .slice p265 x264.length c266)] (by kernel_rfl) fun a hs => ?_
      refine s_end ?_
      refine wp_ret ?_
      obtain rfl := someE hk
      refine hQ _ _ (f_ret1 hs rfl (v := .slice p265 x264.length c266) (by kernel_rfl) ⟨p265, c266, d268, rfl, hw.pick [0, 1] (by kernel_rfl), h267⟩)
def role_Newer_r2 (x52 : Bool) : Option Bool :=
  some x52
def role_Newer (k : Nat) (x1 : M53) (x5 : M53) : Option Bool :=
  ((conf_Right k x5).bind fun y56 =>
    if y56 = true then (
      if (x1.f0 == x5.f0) = true then some (decide (x1.f1 < x5.f1))
      else some false)
    else some false : Option Bool).bind fun s60 => role_Newer_r2 s60
theorem role_Newer_s {k : Nat} {x1 : M53} {x5 : M53} {p2 : Option Addr} {c3 : Nat} {p6 : Option Addr} {c7 : Nat} {r : Bool} (hk : role_Newer k x1 x5 = some r) {g w : World} {F : Ch} {ih : IH} (h4 : RSl e3 ih [] p2 c3 x1.f2) (h8 : RSl e3 ih [] p6 c7 x5.f2) (hw : St g w [F] ih) :
    CallsR Try.prog 43 #[.agg #[.int .i64 x1.f0, .int .u64 x1.f1, .slice p2 x1.f2.length c3, .bool x1.f3, .int .i64 x1.f4], .agg #[.int .i64 x5.f0, .int .u64 x5.f1, .slice p6 x5.f2.length c7, .bool x5.f3, .int .i64 x5.f4]] w fun v w' => v = .bool r ∧ St g w' [F] ih := by
  refine f_in (vs := [.agg #[.int .i64 x1.f0, .int .u64 x1.f1, .slice p2 x1.f2.length c3, .bool x1.f3, .int .i64 x1.f4], .agg #[.int .i64 x5.f0, .int .u64 x5.f1, .slice p6 x5.f2.length c7, .bool x5.f3, .int .i64 x5.f4]]) Try.func43 rfl 21 rfl (by kernel_rfl) [(0, .agg #[.int .i64 x1.f0, .int .u64 x1.f1, .slice p2 x1.f2.length c3, .bool x1.f3, .int .i64 x1.f4]), (1, .agg #[.int .i64 x5.f0, .int .u64 x5.f1, .slice p6 x5.f2.length c7, .bool x5.f3, .int .i64 x5.f4])] (by kernel_rfl) fun a Qf hQ hQn hs => ?_
  refine c_seq ?_
  refine c_region ?_
  refine s_new hs hw [.int .i64 x1.f0, .int .u64 x1.f1, .slice p2 x1.f2.length c3, .bool x1.f3, .int .i64 x1.f4] 53 (fun b => .pointer (some ⟨b, 0, none⟩)) (by kernel_rfl) (fun _ => by kernel_rfl) fun a w b40 hs hw => ?_
  refine s_new hs hw [.int .i64 x5.f0, .int .u64 x5.f1, .slice p6 x5.f2.length c7, .bool x5.f3, .int .i64 x5.f4] 53 (fun b => .pointer (some ⟨b, 0, none⟩)) (by kernel_rfl) (fun _ => by kernel_rfl) fun a w b42 hs hw => ?_
  refine pures hs 1 [2, 3] [(2, .pointer (some ⟨b40, 0, none⟩)), (3, .pointer (some ⟨b42, 0, none⟩))] (by kernel_rfl) fun a hs => ?_
  refine s_end ?_
  refine c_seq ?_
  obtain ⟨y53, hx54, hk⟩ := bindE hk
  obtain ⟨J55, hJ55⟩ : ∃ J : Act → World → Prop, ∀ a w, J a w ↔ (∃ (x52 : Bool), role_Newer_r2 x52 = some r ∧ Sees a 21 [(4, .bool x52)] ∧ St g w [F] ih) := ⟨_, fun _ _ => Iff.rfl⟩
  refine c_regJ J55 ?_ ?_
  · refine s_load hs (hw.at_ 0 rfl) 0 (by kernel_rfl) (by kernel_rfl) (v := .agg #[.int .i64 x5.f0, .int .u64 x5.f1, .slice p6 x5.f2.length c7, .bool x5.f3, .int .i64 x5.f4]) (by kernel_rfl) fun a hs => ?_
    obtain ⟨y56, h57, hx54⟩ := bindE hx54
    refine s_call hs (by kernel_rfl) (by kernel_rfl) (conf_Right_s h57 h8 ((hw.pick [0, 1, 2] (by kernel_rfl)).pack 0)) fun a w v hv hs => ?_
    obtain ⟨rfl, hw⟩ := hv
    replace hw := hw.unpack 0 rfl
    refine pures hs 1 [2, 3, 7] [(2, .pointer (some ⟨b40, 0, none⟩)), (3, .pointer (some ⟨b42, 0, none⟩)), (7, .bool y56)] (by kernel_rfl) fun a hs => ?_
    rcases ifbE hx54 with ⟨h58, hx54⟩ | ⟨h58, hx54⟩
    · replace hs := hs.altB 7 true (by kernel_rfl) h58
      refine pures hs 1 [2, 3, 7, 8] [(2, .pointer (some ⟨b40, 0, none⟩)), (3, .pointer (some ⟨b42, 0, none⟩)), (7, .bool true), (8, .pointer (some ⟨b40, 0, none⟩))] (by kernel_rfl) fun a hs => ?_
      refine s_load hs (hw.at_ 1 rfl) 0 (by kernel_rfl) (by kernel_rfl) (v := .int .i64 x1.f0) (by kernel_rfl) fun a hs => ?_
      refine pures hs 1 [2, 3, 7, 9, 10] [(2, .pointer (some ⟨b40, 0, none⟩)), (3, .pointer (some ⟨b42, 0, none⟩)), (7, .bool true), (9, .int .i64 x1.f0), (10, .pointer (some ⟨b42, 0, none⟩))] (by kernel_rfl) fun a hs => ?_
      refine s_load hs (hw.at_ 0 rfl) 0 (by kernel_rfl) (by kernel_rfl) (v := .int .i64 x5.f0) (by kernel_rfl) fun a hs => ?_
      refine pures hs 3 [2, 3, 14] [(2, .pointer (some ⟨b40, 0, none⟩)), (3, .pointer (some ⟨b42, 0, none⟩)), (14, .bool (x1.f0 == x5.f0))] (by kernel_rfl) fun a hs => ?_
      rcases ifbE hx54 with ⟨h59, hx54⟩ | ⟨h59, hx54⟩
      · replace hs := hs.altB 14 true (by kernel_rfl) h59
        refine pures hs 1 [3, 14, 15] [(3, .pointer (some ⟨b42, 0, none⟩)), (14, .bool true), (15, .pointer (some ⟨b40, 1, none⟩))] (by kernel_rfl) fun a hs => ?_
        refine s_load hs (hw.at_ 1 rfl) 1 (by kernel_rfl) (by kernel_rfl) (v := .int .u64 x1.f1) (by kernel_rfl) fun a hs => ?_
        refine pures hs 1 [14, 16, 17] [(14, .bool true), (16, .int .u64 x1.f1), (17, .pointer (some ⟨b42, 1, none⟩))] (by kernel_rfl) fun a hs => ?_
        refine s_load hs (hw.at_ 0 rfl) 1 (by kernel_rfl) (by kernel_rfl) (v := .int .u64 x5.f1) (by kernel_rfl) fun a hs => ?_
        refine pures hs 3 [4] [(4, .bool (decide (x1.f1 < x5.f1)))] (by kernel_rfl) fun a hs => ?_
        refine s_end ?_
        obtain rfl := someE hx54
        exact (hJ55 _ _).2 ⟨(decide (x1.f1 < x5.f1)), hk, hs.cast [4] (by kernel_rfl), hw.pick [2] (by kernel_rfl)⟩
      · replace hs := hs.altB 14 false (by kernel_rfl) h59
        refine pures hs 7 [4] [(4, .bool false)] (by kernel_rfl) fun a hs => ?_
        refine s_end ?_
        obtain rfl := someE hx54
        exact (hJ55 _ _).2 ⟨false, hk, hs.cast [4] (by kernel_rfl), hw.pick [2] (by kernel_rfl)⟩
    · replace hs := hs.altB 7 false (by kernel_rfl) h58
      refine pures hs 14 [4] [(4, .bool false)] (by kernel_rfl) fun a hs => ?_
      refine s_end ?_
      obtain rfl := someE hx54
      exact (hJ55 _ _).2 ⟨false, hk, hs.cast [4] (by kernel_rfl), hw.pick [2] (by kernel_rfl)⟩
  · intro a w hh
    obtain ⟨x52, hk, hs, hw⟩ := (hJ55 _ _).1 hh
    refine wp_ret ?_
    obtain rfl := someE hk
    refine hQ _ _ (f_ret1 hs rfl (v := .bool x52) (by kernel_rfl) ⟨rfl, hw.pick [0] (by kernel_rfl)⟩)
def catenaryref19_Newer_r2 (x52 : Bool) : Option Bool :=
  some x52
def catenaryref19_Newer (k : Nat) (x1 : M53) (x5 : M53) : Option Bool :=
  ((catenaryref09_Right k x5).bind fun y56 =>
    if y56 = true then (
      if (x5.f0 == x1.f0) = true then some (decide (x5.f1 > x1.f1))
      else some false)
    else some false : Option Bool).bind fun s60 => catenaryref19_Newer_r2 s60
theorem catenaryref19_Newer_s {k : Nat} {x1 : M53} {x5 : M53} {p2 : Option Addr} {c3 : Nat} {p6 : Option Addr} {c7 : Nat} {r : Bool} (hk : catenaryref19_Newer k x1 x5 = some r) {g w : World} {F : Ch} {ih : IH} (h4 : RSl e3 ih [] p2 c3 x1.f2) (h8 : RSl e3 ih [] p6 c7 x5.f2) (hw : St g w [F] ih) :
    CallsR Try.prog 44 #[.agg #[.int .i64 x1.f0, .int .u64 x1.f1, .slice p2 x1.f2.length c3, .bool x1.f3, .int .i64 x1.f4], .agg #[.int .i64 x5.f0, .int .u64 x5.f1, .slice p6 x5.f2.length c7, .bool x5.f3, .int .i64 x5.f4]] w fun v w' => v = .bool r ∧ St g w' [F] ih := by
  refine f_in (vs := [.agg #[.int .i64 x1.f0, .int .u64 x1.f1, .slice p2 x1.f2.length c3, .bool x1.f3, .int .i64 x1.f4], .agg #[.int .i64 x5.f0, .int .u64 x5.f1, .slice p6 x5.f2.length c7, .bool x5.f3, .int .i64 x5.f4]]) Try.func44 rfl 21 rfl (by kernel_rfl) [(0, .agg #[.int .i64 x1.f0, .int .u64 x1.f1, .slice p2 x1.f2.length c3, .bool x1.f3, .int .i64 x1.f4]), (1, .agg #[.int .i64 x5.f0, .int .u64 x5.f1, .slice p6 x5.f2.length c7, .bool x5.f3, .int .i64 x5.f4])] (by kernel_rfl) fun a Qf hQ hQn hs => ?_
  refine c_seq ?_
  refine c_region ?_
  refine s_new hs hw [.int .i64 x1.f0, .int .u64 x1.f1, .slice p2 x1.f2.length c3, .bool x1.f3, .int .i64 x1.f4] 53 (fun b => .pointer (some ⟨b, 0, none⟩)) (by kernel_rfl) (fun _ => by kernel_rfl) fun a w b40 hs hw => ?_
  refine s_new hs hw [.int .i64 x5.f0, .int .u64 x5.f1, .slice p6 x5.f2.length c7, .bool x5.f3, .int .i64 x5.f4] 53 (fun b => .pointer (some ⟨b, 0, none⟩)) (by kernel_rfl) (fun _ => by kernel_rfl) fun a w b42 hs hw => ?_
  refine pures hs 1 [2, 3] [(2, .pointer (some ⟨b40, 0, none⟩)), (3, .pointer (some ⟨b42, 0, none⟩))] (by kernel_rfl) fun a hs => ?_
  refine s_end ?_
  refine c_seq ?_
  obtain ⟨y53, hx54, hk⟩ := bindE hk
  obtain ⟨J55, hJ55⟩ : ∃ J : Act → World → Prop, ∀ a w, J a w ↔ (∃ (x52 : Bool), catenaryref19_Newer_r2 x52 = some r ∧ Sees a 21 [(4, .bool x52)] ∧ St g w [F] ih) := ⟨_, fun _ _ => Iff.rfl⟩
  refine c_regJ J55 ?_ ?_
  · refine s_load hs (hw.at_ 0 rfl) 0 (by kernel_rfl) (by kernel_rfl) (v := .agg #[.int .i64 x5.f0, .int .u64 x5.f1, .slice p6 x5.f2.length c7, .bool x5.f3, .int .i64 x5.f4]) (by kernel_rfl) fun a hs => ?_
    obtain ⟨y56, h57, hx54⟩ := bindE hx54
    refine s_call hs (by kernel_rfl) (by kernel_rfl) (catenaryref09_Right_s h57 h8 ((hw.pick [0, 1, 2] (by kernel_rfl)).pack 0)) fun a w v hv hs => ?_
    obtain ⟨rfl, hw⟩ := hv
    replace hw := hw.unpack 0 rfl
    refine pures hs 1 [2, 3, 7] [(2, .pointer (some ⟨b40, 0, none⟩)), (3, .pointer (some ⟨b42, 0, none⟩)), (7, .bool y56)] (by kernel_rfl) fun a hs => ?_
    rcases ifbE hx54 with ⟨h58, hx54⟩ | ⟨h58, hx54⟩
    · replace hs := hs.altB 7 true (by kernel_rfl) h58
      refine pures hs 1 [2, 3, 7, 8] [(2, .pointer (some ⟨b40, 0, none⟩)), (3, .pointer (some ⟨b42, 0, none⟩)), (7, .bool true), (8, .pointer (some ⟨b42, 0, none⟩))] (by kernel_rfl) fun a hs => ?_
      refine s_load hs (hw.at_ 0 rfl) 0 (by kernel_rfl) (by kernel_rfl) (v := .int .i64 x5.f0) (by kernel_rfl) fun a hs => ?_
      refine pures hs 1 [2, 3, 7, 9, 10] [(2, .pointer (some ⟨b40, 0, none⟩)), (3, .pointer (some ⟨b42, 0, none⟩)), (7, .bool true), (9, .int .i64 x5.f0), (10, .pointer (some ⟨b40, 0, none⟩))] (by kernel_rfl) fun a hs => ?_
      refine s_load hs (hw.at_ 1 rfl) 0 (by kernel_rfl) (by kernel_rfl) (v := .int .i64 x1.f0) (by kernel_rfl) fun a hs => ?_
      refine pures hs 3 [2, 3, 14] [(2, .pointer (some ⟨b40, 0, none⟩)), (3, .pointer (some ⟨b42, 0, none⟩)), (14, .bool (x5.f0 == x1.f0))] (by kernel_rfl) fun a hs => ?_
      rcases ifbE hx54 with ⟨h59, hx54⟩ | ⟨h59, hx54⟩
      · replace hs := hs.altB 14 true (by kernel_rfl) h59
        refine pures hs 1 [2, 14, 15] [(2, .pointer (some ⟨b40, 0, none⟩)), (14, .bool true), (15, .pointer (some ⟨b42, 1, none⟩))] (by kernel_rfl) fun a hs => ?_
        refine s_load hs (hw.at_ 0 rfl) 1 (by kernel_rfl) (by kernel_rfl) (v := .int .u64 x5.f1) (by kernel_rfl) fun a hs => ?_
        refine pures hs 1 [14, 16, 17] [(14, .bool true), (16, .int .u64 x5.f1), (17, .pointer (some ⟨b40, 1, none⟩))] (by kernel_rfl) fun a hs => ?_
        refine s_load hs (hw.at_ 1 rfl) 1 (by kernel_rfl) (by kernel_rfl) (v := .int .u64 x1.f1) (by kernel_rfl) fun a hs => ?_
        refine pures hs 3 [4] [(4, .bool (decide (x5.f1 > x1.f1)))] (by kernel_rfl) fun a hs => ?_
        refine s_end ?_
        obtain rfl := someE hx54
        exact (hJ55 _ _).2 ⟨(decide (x5.f1 > x1.f1)), hk, hs.cast [4] (by kernel_rfl), hw.pick [2] (by kernel_rfl)⟩
      · replace hs := hs.altB 14 false (by kernel_rfl) h59
        refine pures hs 7 [4] [(4, .bool false)] (by kernel_rfl) fun a hs => ?_
        refine s_end ?_
        obtain rfl := someE hx54
        exact (hJ55 _ _).2 ⟨false, hk, hs.cast [4] (by kernel_rfl), hw.pick [2] (by kernel_rfl)⟩
    · replace hs := hs.altB 7 false (by kernel_rfl) h58
      refine pures hs 14 [4] [(4, .bool false)] (by kernel_rfl) fun a hs => ?_
      refine s_end ?_
      obtain rfl := someE hx54
      exact (hJ55 _ _).2 ⟨false, hk, hs.cast [4] (by kernel_rfl), hw.pick [2] (by kernel_rfl)⟩
  · intro a w hh
    obtain ⟨x52, hk, hs, hw⟩ := (hJ55 _ _).1 hh
    refine wp_ret ?_
    obtain rfl := someE hk
    refine hQ _ _ (f_ret1 hs rfl (v := .bool x52) (by kernel_rfl) ⟨rfl, hw.pick [0] (by kernel_rfl)⟩)
def conf_settled (x1 : M53) : Option (List Int) :=
  if x1.f3 = true then (
    (sl x1.f2 0 (IntKind.i64.wrap ((x1.f2.length : Int) - 1))).bind fun x67 =>
    (slices_Clone_int_int x67).bind fun y72 =>
    some y72)
  else (slices_Clone_int_int x1.f2).bind fun y86 =>
  some y86
theorem conf_settled_s {x1 : M53} {p2 : Option Addr} {c3 : Nat} {r : (List Int)} (hk : conf_settled x1 = some r) {g w : World} {F : Ch} {ih : IH} (h4 : RSl e3 ih [] p2 c3 x1.f2) (hw : St g w [F] ih) :
    CallsR Try.prog 111 #[.agg #[.int .i64 x1.f0, .int .u64 x1.f1, .slice p2 x1.f2.length c3, .bool x1.f3, .int .i64 x1.f4]] w fun v w' => ∃ (p93 : Option Addr) (c94 : Nat) (d95 : Ch), v = .slice p93 r.length c94 ∧ St g w' [d95, F] ih ∧ OSl e3 ih p93 c94 r d95 := by
  refine f_in (vs := [.agg #[.int .i64 x1.f0, .int .u64 x1.f1, .slice p2 x1.f2.length c3, .bool x1.f3, .int .i64 x1.f4]]) Try.func111 rfl 16 rfl (by kernel_rfl) [(0, .agg #[.int .i64 x1.f0, .int .u64 x1.f1, .slice p2 x1.f2.length c3, .bool x1.f3, .int .i64 x1.f4])] (by kernel_rfl) fun a Qf hQ hQn hs => ?_
  refine c_seq ?_
  refine c_region ?_
  refine s_new hs hw [.int .i64 x1.f0, .int .u64 x1.f1, .slice p2 x1.f2.length c3, .bool x1.f3, .int .i64 x1.f4] 53 (fun b => .pointer (some ⟨b, 0, none⟩)) (by kernel_rfl) (fun _ => by kernel_rfl) fun a w b52 hs hw => ?_
  refine pures hs 1 [1] [(1, .pointer (some ⟨b52, 0, none⟩))] (by kernel_rfl) fun a hs => ?_
  refine s_end ?_
  refine c_seq ?_
  refine c_seq ?_
  refine c_region ?_
  refine pures hs 1 [1, 3] [(1, .pointer (some ⟨b52, 0, none⟩)), (3, .pointer (some ⟨b52, 3, none⟩))] (by kernel_rfl) fun a hs => ?_
  refine s_load hs (hw.at_ 0 rfl) 3 (by kernel_rfl) (by kernel_rfl) (v := .bool x1.f3) (by kernel_rfl) fun a hs => ?_
  refine s_end ?_
  rcases ifbE hk with ⟨h54, hk⟩ | ⟨h54, hk⟩
  · refine c_cond1 hs (by kernel_rfl) (t := x1.f3) (by kernel_rfl) h54 ?_
    refine c_seq ?_
    refine c_region ?_
    refine pures hs 1 [1, 5] [(1, .pointer (some ⟨b52, 0, none⟩)), (5, .pointer (some ⟨b52, 2, none⟩))] (by kernel_rfl) fun a hs => ?_
    refine s_load hs (hw.at_ 0 rfl) 2 (by kernel_rfl) (by kernel_rfl) (v := .slice p2 x1.f2.length c3) (by kernel_rfl) fun a hs => ?_
    refine pures hs 1 [6, 7] [(6, .slice p2 x1.f2.length c3), (7, .pointer (some ⟨b52, 2, none⟩))] (by kernel_rfl) fun a hs => ?_
    refine s_load hs (hw.at_ 0 rfl) 2 (by kernel_rfl) (by kernel_rfl) (v := .slice p2 x1.f2.length c3) (by kernel_rfl) fun a hs => ?_
    refine pures hs 2 [6, 10] [(6, .slice p2 x1.f2.length c3), (10, .int .i64 (IntKind.i64.wrap ((x1.f2.length : Int) - 1)))] (by kernel_rfl) fun a hs => ?_
    obtain ⟨x67, h68, hk⟩ := bindE hk
    refine s_slice hs h4 (by kernel_rfl) (by kernel_rfl) 3 (by kernel_rfl) (by kernel_rfl) (by kernel_rfl) (by kernel_rfl) (by kernel_rfl) h68 (.inl rfl) fun a p69 c70 h71 hs => ?_
    obtain ⟨y72, h73, hk⟩ := bindE hk
    refine s_call hs (by kernel_rfl) (by kernel_rfl) (slices_Clone_int_int_s h73 h71 (nilSub _) ((hw.pick [1] (by kernel_rfl)).pack 0)) fun a w v hv hs => ?_
    obtain ⟨p74, c75, d77, rfl, hw, h76⟩ := hv
    replace hw := hw.unpack 1 rfl
    refine pures hs 1 [2] [(2, .slice p74 y72.length c75)] (by kernel_rfl) fun a hs => ?_
    refine s_end ?_
    refine wp_ret ?_
    obtain rfl := someE hk
    refine hQ _ _ (f_ret1 hs rfl (v := .slice p74 y72.length c75) (by kernel_rfl) ⟨p74, c75, d77, rfl, hw.pick [0, 1] (by kernel_rfl), h76⟩)
  · refine c_cond0 hs (by kernel_rfl) (t := x1.f3) (by kernel_rfl) h54 ?_
    refine wp_skip ?_
    refine c_seq ?_
    refine c_region ?_
    refine pures hs 1 [13] [(13, .pointer (some ⟨b52, 2, none⟩))] (by kernel_rfl) fun a hs => ?_
    refine s_load hs (hw.at_ 0 rfl) 2 (by kernel_rfl) (by kernel_rfl) (v := .slice p2 x1.f2.length c3) (by kernel_rfl) fun a hs => ?_
    obtain ⟨y86, h87, hk⟩ := bindE hk
    refine s_call hs (by kernel_rfl) (by kernel_rfl) (slices_Clone_int_int_s h87 h4 (nilSub _) ((hw.pick [1] (by kernel_rfl)).pack 0)) fun a w v hv hs => ?_
    obtain ⟨p88, c89, d91, rfl, hw, h90⟩ := hv
    replace hw := hw.unpack 1 rfl
    refine pures hs 1 [2] [(2, .slice p88 y86.length c89)] (by kernel_rfl) fun a hs => ?_
    refine s_end ?_
    refine wp_ret ?_
    obtain rfl := someE hk
    refine hQ _ _ (f_ret1 hs rfl (v := .slice p88 y86.length c89) (by kernel_rfl) ⟨p88, c89, d91, rfl, hw.pick [0, 1] (by kernel_rfl), h90⟩)
def conf_Settled (k : Nat) (x1 : M53) : Option (List Int) :=
  (conf_Right k x1).bind fun y36 =>
  if (!y36) = true then some ([])
  else (conf_settled x1).bind fun y48 =>
  some y48
theorem conf_Settled_s {k : Nat} {x1 : M53} {p2 : Option Addr} {c3 : Nat} {r : (List Int)} (hk : conf_Settled k x1 = some r) {g w : World} {F : Ch} {ih : IH} (h4 : RSl e3 ih [] p2 c3 x1.f2) (hw : St g w [F] ih) :
    CallsR Try.prog 85 #[.agg #[.int .i64 x1.f0, .int .u64 x1.f1, .slice p2 x1.f2.length c3, .bool x1.f3, .int .i64 x1.f4]] w fun v w' => ∃ (p55 : Option Addr) (c56 : Nat) (d57 : Ch), v = .slice p55 r.length c56 ∧ St g w' [d57, F] ih ∧ OSl e3 ih p55 c56 r d57 := by
  refine f_in (vs := [.agg #[.int .i64 x1.f0, .int .u64 x1.f1, .slice p2 x1.f2.length c3, .bool x1.f3, .int .i64 x1.f4]]) Try.func85 rfl 8 rfl (by kernel_rfl) [(0, .agg #[.int .i64 x1.f0, .int .u64 x1.f1, .slice p2 x1.f2.length c3, .bool x1.f3, .int .i64 x1.f4])] (by kernel_rfl) fun a Qf hQ hQn hs => ?_
  refine c_seq ?_
  refine c_region ?_
  refine s_new hs hw [.int .i64 x1.f0, .int .u64 x1.f1, .slice p2 x1.f2.length c3, .bool x1.f3, .int .i64 x1.f4] 53 (fun b => .pointer (some ⟨b, 0, none⟩)) (by kernel_rfl) (fun _ => by kernel_rfl) fun a w b32 hs hw => ?_
  refine pures hs 1 [1] [(1, .pointer (some ⟨b32, 0, none⟩))] (by kernel_rfl) fun a hs => ?_
  refine s_end ?_
  refine c_seq ?_
  refine c_seq ?_
  refine c_region ?_
  refine s_load hs (hw.at_ 0 rfl) 0 (by kernel_rfl) (by kernel_rfl) (v := .agg #[.int .i64 x1.f0, .int .u64 x1.f1, .slice p2 x1.f2.length c3, .bool x1.f3, .int .i64 x1.f4]) (by kernel_rfl) fun a hs => ?_
  obtain ⟨y36, h37, hk⟩ := bindE hk
  refine s_call hs (by kernel_rfl) (by kernel_rfl) (conf_Right_s h37 h4 ((hw.pick [0, 1] (by kernel_rfl)).pack 0)) fun a w v hv hs => ?_
  obtain ⟨rfl, hw⟩ := hv
  replace hw := hw.unpack 0 rfl
  refine pures hs 1 [1, 5] [(1, .pointer (some ⟨b32, 0, none⟩)), (5, .bool (!y36))] (by kernel_rfl) fun a hs => ?_
  refine s_end ?_
  rcases ifbE hk with ⟨h38, hk⟩ | ⟨h38, hk⟩
  · refine c_cond1 hs (by kernel_rfl) (t := (!y36)) (by kernel_rfl) h38 ?_
    refine c_seq ?_
    refine c_region ?_
    refine pures hs 1 [2] [(2, .slice none 0 0)] (by kernel_rfl) fun a hs => ?_
    refine s_end ?_
    refine wp_ret ?_
    replace hw := hw.nil
    obtain rfl := someE hk
    refine hQ _ _ (f_ret1 hs rfl (v := .slice none 0 0) (by kernel_rfl) ⟨none, 0, ([]), rfl, hw.pick [0, 2] (by kernel_rfl), (OSl.nil _ _)⟩)
  · refine c_cond0 hs (by kernel_rfl) (t := (!y36)) (by kernel_rfl) h38 ?_
    refine wp_skip ?_
    refine c_seq ?_
    refine c_region ?_
    refine s_load hs (hw.at_ 0 rfl) 0 (by kernel_rfl) (by kernel_rfl) (v := .agg #[.int .i64 x1.f0, .int .u64 x1.f1, .slice p2 x1.f2.length c3, .bool x1.f3, .int .i64 x1.f4]) (by kernel_rfl) fun a hs => ?_
    obtain ⟨y48, h49, hk⟩ := bindE hk
    refine s_call hs (by kernel_rfl) (by kernel_rfl) (conf_settled_s h49 h4 ((hw.pick [1] (by kernel_rfl)).pack 0)) fun a w v hv hs => ?_
    obtain ⟨p50, c51, d53, rfl, hw, h52⟩ := hv
    replace hw := hw.unpack 1 rfl
    refine pures hs 1 [2] [(2, .slice p50 y48.length c51)] (by kernel_rfl) fun a hs => ?_
    refine s_end ?_
    refine wp_ret ?_
    obtain rfl := someE hk
    refine hQ _ _ (f_ret1 hs rfl (v := .slice p50 y48.length c51) (by kernel_rfl) ⟨p50, c51, d53, rfl, hw.pick [0, 1] (by kernel_rfl), h52⟩)
def role_Missing_1 (k : Nat) (x1 : Int) (x4 : List Int) : Option Bool :=
  (slices_Contains_int_int k x4 x1).bind fun y16 =>
  some (!y16)
theorem role_Missing_1_s {k : Nat} {x1 : Int} {x4 : List Int} {b2 : Nat} {p5 : Option Addr} {c6 : Nat} {r : Bool} (hk : role_Missing_1 k x1 x4 = some r) {g w : World} {F : Ch} {ih : IH} (h7 : RSl e3 ih [] p5 c6 x4) (hw : St g w [bx b2 [.slice p5 x4.length c6] 40, F] ih) :
    CallsR Try.prog 86 #[.int .i64 x1, .pointer (some ⟨b2, 0, none⟩)] w fun v w' => v = .bool r ∧ St g w' [bx b2 [.slice p5 x4.length c6] 40, F] ih := by
  refine f_in (vs := [.int .i64 x1, .pointer (some ⟨b2, 0, none⟩)]) Try.func86 rfl 8 rfl (by kernel_rfl) [(0, .int .i64 x1), (1, .pointer (some ⟨b2, 0, none⟩))] (by kernel_rfl) fun a Qf hQ hQn hs => ?_
  refine c_seq ?_
  refine c_region ?_
  refine pures hs 1 [0, 1] [(0, .int .i64 x1), (1, .pointer (some ⟨b2, 0, none⟩))] (by kernel_rfl) fun a hs => ?_
  refine s_end ?_
  refine c_seq ?_
  refine c_region ?_
  refine s_load hs (hw.at_ 0 rfl) 0 (by kernel_rfl) (by kernel_rfl) (v := .slice p5 x4.length c6) (by kernel_rfl) fun a hs => ?_
  refine pures hs 1 [4, 5] [(4, .slice p5 x4.length c6), (5, .int .i64 x1)] (by kernel_rfl) fun a hs => ?_
  obtain ⟨y16, h17, hk⟩ := bindE hk
  refine s_call hs (by kernel_rfl) (by kernel_rfl) (slices_Contains_int_int_s h17 h7 (nilSub _) ((hw.pick [0, 1] (by kernel_rfl)).pack 0)) fun a w v hv hs => ?_
  obtain ⟨rfl, hw⟩ := hv
  replace hw := hw.unpack 0 rfl
  refine pures hs 2 [3] [(3, .bool (!y16))] (by kernel_rfl) fun a hs => ?_
  refine s_end ?_
  refine wp_ret ?_
  obtain rfl := someE hk
  refine hQ _ _ (f_ret1 hs rfl (v := .bool (!y16)) (by kernel_rfl) ⟨rfl, hw.pick [0, 1] (by kernel_rfl)⟩)
def slices_IndexFunc_int_int_r3 : Option Int :=
  some (-1)
def slices_IndexFunc_int_int_l4 (k : Nat) (x1 : List Int) (x9 : List Int) : Nat → Int → Option (Sum Int Unit)
  | 0, _ => none
  | j + 1, x107 =>
    if (decide (x107 < (x1.length : Int))) = true then (
      (ix x1 x107).bind fun x133 =>
      (role_Missing_1 k x133 x9).bind fun y137 =>
      if y137 = true then some (.inl x107)
      else slices_IndexFunc_int_int_l4 k x1 x9 j (IntKind.i64.wrap (x107 + 1)))
    else some (.inr ())
def slices_IndexFunc_int_int (k : Nat) (x1 : List Int) (x9 : List Int) : Option Int :=
  (slices_IndexFunc_int_int_l4 k x1 x9 k 0 : Option (Sum Int Unit)).bind fun
    | .inl z => some z
    | .inr _ => slices_IndexFunc_int_int_r3
theorem slices_IndexFunc_int_int_s {k : Nat} {x1 : List Int} {x9 : List Int} {p2 : Option Addr} {c3 : Nat} {d5 : Ch} {b7 : Nat} {p10 : Option Addr} {c11 : Nat} {r : Int} (hk : slices_IndexFunc_int_int k x1 x9 = some r) {g w : World} {F : Ch} {ih : IH} (h4 : RSl e3 ih d5 p2 c3 x1) (h6 : ∀ q ∈ d5, q ∈ F) (h12 : RSl e3 ih [] p10 c11 x9) (hw : St g w [bx b7 [.slice p10 x9.length c11] 40, F] ih) :
    CallsR Try.prog 110 #[.slice p2 x1.length c3, .func (.func 86) #[] #[.pointer (some ⟨b7, 0, none⟩)]] w fun v w' => v = .int .i64 r ∧ St g w' [bx b7 [.slice p10 x9.length c11] 40, F] ih := by
  refine f_in (vs := [.slice p2 x1.length c3, .func (.func 86) #[] #[.pointer (some ⟨b7, 0, none⟩)]]) Try.func110 rfl 19 rfl (by kernel_rfl) [(0, .slice p2 x1.length c3), (1, .func (.func 86) #[] #[.pointer (some ⟨b7, 0, none⟩)])] (by kernel_rfl) fun a Qf hQ hQn hs => ?_
  refine c_seq ?_
  refine c_region ?_
  refine pures hs 1 [0, 1] [(0, .slice p2 x1.length c3), (1, .func (.func 86) #[] #[.pointer (some ⟨b7, 0, none⟩)])] (by kernel_rfl) fun a hs => ?_
  refine s_end ?_
  refine c_seq ?_
  refine c_seq ?_
  refine c_region ?_
  refine pures hs 3 [0, 1, 7, 8] [(0, .slice p2 x1.length c3), (1, .func (.func 86) #[] #[.pointer (some ⟨b7, 0, none⟩)]), (7, .int .i64 (x1.length : Int)), (8, .int .i64 0)] (by kernel_rfl) fun a hs => ?_
  refine s_end ?_
  refine c_block ?_
  obtain ⟨y122, hx123, hk⟩ := bindE hk
  obtain ⟨J124, hJ124⟩ : ∃ J : Act → World → Prop, ∀ a w, J a w ↔ (slices_IndexFunc_int_int_r3 = some r ∧ Sees a 19 [] ∧ St g w [bx b7 [.slice p10 x9.length c11] 40, F] ih) := ⟨_, fun _ _ => Iff.rfl⟩
  obtain ⟨I125, hI125⟩ : ∃ J : Nat → Act → World → Prop, ∀ j a w, J j a w ↔ (∃ (x107 : Int), slices_IndexFunc_int_int_l4 k x1 x9 j x107 = some y122 ∧ Sees a 19 [(0, .slice p2 x1.length c3), (1, .func (.func 86) #[] #[.pointer (some ⟨b7, 0, none⟩)]), (7, .int .i64 (x1.length : Int)), (8, .int .i64 x107)] ∧ St g w [bx b7 [.slice p10 x9.length c11] 40, F] ih) := ⟨_, fun _ _ _ => Iff.rfl⟩
  refine c_exitJ 0 J124 ?_ ?_
  · refine c_loop I125 k ((hI125 _ _ _).2 ⟨0, hx123, hs.cast [0, 1, 7, 8] (by kernel_rfl), hw.pick [0, 1] (by kernel_rfl)⟩) (fun a w h0 => ?_) fun j a w hh => ?_
    · obtain ⟨_, h, _⟩ := (hI125 _ _ _).1 h0
      cases h
    · obtain ⟨x107, hx123, hs, hw⟩ := (hI125 _ _ _).1 hh
      refine c_seq ?_
      refine c_region ?_
      refine pures hs 1 [0, 1, 7, 8, 9] [(0, .slice p2 x1.length c3), (1, .func (.func 86) #[] #[.pointer (some ⟨b7, 0, none⟩)]), (7, .int .i64 (x1.length : Int)), (8, .int .i64 x107), (9, .bool (decide (x107 < (x1.length : Int))))] (by kernel_rfl) fun a hs => ?_
      refine s_end ?_
      refine c_seq ?_
      rcases ifbE hx123 with ⟨h126, hx123⟩ | ⟨h126, hx123⟩
      · refine c_cond1 hs (by kernel_rfl) (t := (decide (x107 < (x1.length : Int)))) (by kernel_rfl) h126 ?_
        refine wp_skip ?_
        refine c_seq ?_
        refine c_block ?_
        refine c_seq ?_
        refine c_region ?_
        refine pures hs 2 [0, 1, 7, 8, 5] [(0, .slice p2 x1.length c3), (1, .func (.func 86) #[] #[.pointer (some ⟨b7, 0, none⟩)]), (7, .int .i64 (x1.length : Int)), (8, .int .i64 x107), (5, .int .i64 x107)] (by kernel_rfl) fun a hs => ?_
        refine s_end ?_
        refine c_seq ?_
        refine c_region ?_
        refine pures hs 3 [0, 1, 7, 8, 5, 11, 12, 13] [(0, .slice p2 x1.length c3), (1, .func (.func 86) #[] #[.pointer (some ⟨b7, 0, none⟩)]), (7, .int .i64 (x1.length : Int)), (8, .int .i64 x107), (5, .int .i64 x107), (11, .func (.func 86) #[] #[.pointer (some ⟨b7, 0, none⟩)]), (12, .slice p2 x1.length c3), (13, .int .i64 x107)] (by kernel_rfl) fun a hs => ?_
        obtain ⟨x133, h134, hx123⟩ := bindE hx123
        refine s_index hs h4 (by kernel_rfl) (by kernel_rfl) (k := .i64) (by kernel_rfl) 3 (by kernel_rfl) (by kernel_rfl) h134 fun a r135 cs henc at136 hs => ?_
        obtain rfl := henc
        refine s_load hs (at136 _ (((hw.vw 1 rfl).sub h6).anti (Le.refl _))) 0 (by kernel_rfl) (by kernel_rfl) (v := .int .i64 x133) (by kernel_rfl) fun a hs => ?_
        obtain ⟨y137, h138, hx123⟩ := bindE hx123
        refine s_call hs (by kernel_rfl) (by kernel_rfl) (role_Missing_1_s h138 h12 ((hw.pick [0, 1] (by kernel_rfl)).pack 1)) fun a w v hv hs => ?_
        obtain ⟨rfl, hw⟩ := hv
        replace hw := hw.unpack 1 rfl
        refine s_end ?_
        rcases ifbE hx123 with ⟨h139, hx123⟩ | ⟨h139, hx123⟩
        · refine c_cond1 hs (by kernel_rfl) (t := y137) (by kernel_rfl) h139 ?_
          refine c_seq ?_
          refine c_region ?_
          refine pures hs 2 [4] [(4, .int .i64 x107)] (by kernel_rfl) fun a hs => ?_
          refine s_end ?_
          refine wp_ret ?_
          obtain rfl := someE hx123
          obtain rfl := someE hk
          refine hQ _ _ (f_ret1 hs rfl (v := .int .i64 x107) (by kernel_rfl) ⟨rfl, hw.pick [0, 1] (by kernel_rfl)⟩)
        · refine c_cond0 hs (by kernel_rfl) (t := y137) (by kernel_rfl) h139 ?_
          refine wp_skip ?_
          refine c_region ?_
          refine pures hs 2 [0, 1, 7, 8] [(0, .slice p2 x1.length c3), (1, .func (.func 86) #[] #[.pointer (some ⟨b7, 0, none⟩)]), (7, .int .i64 (x1.length : Int)), (8, .int .i64 (IntKind.i64.wrap (x107 + 1)))] (by kernel_rfl) fun a hs => ?_
          refine s_end ?_
          exact (hI125 _ _ _).2 ⟨(IntKind.i64.wrap (x107 + 1)), hx123, hs.cast [0, 1, 7, 8] (by kernel_rfl), hw.pick [0, 1] (by kernel_rfl)⟩
      · refine c_cond0 hs (by kernel_rfl) (t := (decide (x107 < (x1.length : Int)))) (by kernel_rfl) h126 ?_
        refine wp_exit ?_
        obtain rfl := someE hx123
        exact (hJ124 _ _).2 ⟨hk, hs.cast [] (by kernel_rfl), hw.pick [0, 1] (by kernel_rfl)⟩
  · intro a w hh
    obtain ⟨hk, hs, hw⟩ := (hJ124 _ _).1 hh
    refine c_seq ?_
    refine c_region ?_
    refine pures hs 1 [4] [(4, .int .i64 (-1))] (by kernel_rfl) fun a hs => ?_
    refine s_end ?_
    refine wp_ret ?_
    obtain rfl := someE hk
    refine hQ _ _ (f_ret1 hs rfl (v := .int .i64 (-1)) (by kernel_rfl) ⟨rfl, hw.pick [0, 1] (by kernel_rfl)⟩)
def slices_ContainsFunc_int_int (k : Nat) (x1 : List Int) (x9 : List Int) : Option Bool :=
  (slices_IndexFunc_int_int k x1 x9).bind fun y21 =>
  some (decide (y21 ≥ 0))
theorem slices_ContainsFunc_int_int_s {k : Nat} {x1 : List Int} {x9 : List Int} {p2 : Option Addr} {c3 : Nat} {d5 : Ch} {b7 : Nat} {p10 : Option Addr} {c11 : Nat} {r : Bool} (hk : slices_ContainsFunc_int_int k x1 x9 = some r) {g w : World} {F : Ch} {ih : IH} (h4 : RSl e3 ih d5 p2 c3 x1) (h6 : ∀ q ∈ d5, q ∈ F) (h12 : RSl e3 ih [] p10 c11 x9) (hw : St g w [bx b7 [.slice p10 x9.length c11] 40, F] ih) :
    CallsR Try.prog 84 #[.slice p2 x1.length c3, .func (.func 86) #[] #[.pointer (some ⟨b7, 0, none⟩)]] w fun v w' => v = .bool r ∧ St g w' [bx b7 [.slice p10 x9.length c11] 40, F] ih := by
  refine f_in (vs := [.slice p2 x1.length c3, .func (.func 86) #[] #[.pointer (some ⟨b7, 0, none⟩)]]) Try.func84 rfl 9 rfl (by kernel_rfl) [(0, .slice p2 x1.length c3), (1, .func (.func 86) #[] #[.pointer (some ⟨b7, 0, none⟩)])] (by kernel_rfl) fun a Qf hQ hQn hs => ?_
  refine c_seq ?_
  refine c_region ?_
  refine pures hs 1 [0, 1] [(0, .slice p2 x1.length c3), (1, .func (.func 86) #[] #[.pointer (some ⟨b7, 0, none⟩)])] (by kernel_rfl) fun a hs => ?_
  refine s_end ?_
  refine c_seq ?_
  refine c_region ?_
  refine pures hs 2 [5, 6] [(5, .slice p2 x1.length c3), (6, .func (.func 86) #[] #[.pointer (some ⟨b7, 0, none⟩)])] (by kernel_rfl) fun a hs => ?_
  obtain ⟨y21, h22, hk⟩ := bindE hk
  refine s_call hs (by kernel_rfl) (by kernel_rfl) (slices_IndexFunc_int_int_s h22 h4 (fun q hq => memF 0 rfl q (h6 q hq)) h12 ((hw.pick [0, 1] (by kernel_rfl)).pack 1)) fun a w v hv hs => ?_
  obtain ⟨rfl, hw⟩ := hv
  replace hw := hw.unpack 1 rfl
  refine pures hs 2 [4] [(4, .bool (decide (y21 ≥ 0)))] (by kernel_rfl) fun a hs => ?_
  refine s_end ?_
  refine wp_ret ?_
  obtain rfl := someE hk
  refine hQ _ _ (f_ret1 hs rfl (v := .bool (decide (y21 ≥ 0))) (by kernel_rfl) ⟨rfl, hw.pick [0, 1] (by kernel_rfl)⟩)
def role_Missing_2 (k : Nat) (x1 : M53) (x5 : List Int) : Option Bool :=
  (conf_Settled k x1).bind fun y54 =>
  (slices_ContainsFunc_int_int k y54 x5).bind fun y61 =>
  some (!y61)
theorem role_Missing_2_s {k : Nat} {x1 : M53} {x5 : List Int} {p2 : Option Addr} {c3 : Nat} {p6 : Option Addr} {c7 : Nat} {r : Bool} (hk : role_Missing_2 k x1 x5 = some r) {g w : World} {F : Ch} {ih : IH} (h4 : RSl e3 ih [] p2 c3 x1.f2) (h8 : RSl e3 ih [] p6 c7 x5) (hw : St g w [F] ih) :
    CallsR Try.prog 45 #[.agg #[.int .i64 x1.f0, .int .u64 x1.f1, .slice p2 x1.f2.length c3, .bool x1.f3, .int .i64 x1.f4], .slice p6 x5.length c7] w fun v w' => v = .bool r ∧ St g w' [F] ih := by
  refine f_in (vs := [.agg #[.int .i64 x1.f0, .int .u64 x1.f1, .slice p2 x1.f2.length c3, .bool x1.f3, .int .i64 x1.f4], .slice p6 x5.length c7]) Try.func45 rfl 10 rfl (by kernel_rfl) [(0, .agg #[.int .i64 x1.f0, .int .u64 x1.f1, .slice p2 x1.f2.length c3, .bool x1.f3, .int .i64 x1.f4]), (1, .slice p6 x5.length c7)] (by kernel_rfl) fun a Qf hQ hQn hs => ?_
  refine c_seq ?_
  refine c_region ?_
  refine s_new hs hw [.int .i64 x1.f0, .int .u64 x1.f1, .slice p2 x1.f2.length c3, .bool x1.f3, .int .i64 x1.f4] 53 (fun b => .pointer (some ⟨b, 0, none⟩)) (by kernel_rfl) (fun _ => by kernel_rfl) fun a w b41 hs hw => ?_
  refine s_new hs hw [.slice p6 x5.length c7] 40 (fun b => .pointer (some ⟨b, 0, none⟩)) (by kernel_rfl) (fun _ => by kernel_rfl) fun a w b43 hs hw => ?_
  refine pures hs 1 [2, 3] [(2, .pointer (some ⟨b41, 0, none⟩)), (3, .pointer (some ⟨b43, 0, none⟩))] (by kernel_rfl) fun a hs => ?_
  refine s_end ?_
  refine c_seq ?_
  refine c_region ?_
  refine s_load hs (hw.at_ 1 rfl) 0 (by kernel_rfl) (by kernel_rfl) (v := .agg #[.int .i64 x1.f0, .int .u64 x1.f1, .slice p2 x1.f2.length c3, .bool x1.f3, .int .i64 x1.f4]) (by kernel_rfl) fun a hs => ?_
  obtain ⟨y54, h55, hk⟩ := bindE hk
  refine s_call hs (by kernel_rfl) (by kernel_rfl) (conf_Settled_s h55 h4 ((hw.pick [0, 2] (by kernel_rfl)).pack 0)) fun a w v hv hs => ?_
  obtain ⟨p56, c57, d59, rfl, hw, h58⟩ := hv
  replace hw := hw.unpack 1 rfl
  refine pures hs 1 [6, 7] [(6, .slice p56 y54.length c57), (7, .func (.func 86) #[] #[.pointer (some ⟨b43, 0, none⟩)])] (by kernel_rfl) fun a hs => ?_
  obtain ⟨y61, h62, hk⟩ := bindE hk
  refine s_call hs (by kernel_rfl) (by kernel_rfl) (slices_ContainsFunc_int_int_s h62 h58.read (memF 0 rfl) h8 ((hw.pick [1, 0, 2] (by kernel_rfl)).pack 1)) fun a w v hv hs => ?_
  obtain ⟨rfl, hw⟩ := hv
  replace hw := hw.unpack 1 rfl
  refine pures hs 2 [4] [(4, .bool (!y61))] (by kernel_rfl) fun a hs => ?_
  refine s_end ?_
  refine wp_ret ?_
  obtain rfl := someE hk
  refine hQ _ _ (f_ret1 hs rfl (v := .bool (!y61)) (by kernel_rfl) ⟨rfl, hw.pick [2] (by kernel_rfl)⟩)
def catenaryref09_Settled_r2 (x1 : M53) (x43 : Int) : Option (List Int) :=
  (sl x1.f2 0 x43).bind fun x49 =>
  some x49
def catenaryref09_Settled (k : Nat) (x1 : M53) : Option (List Int) :=
  (catenaryref09_Right k x1).bind fun y39 =>
  if (!y39) = true then some ([])
  else (if x1.f3 = true then some (IntKind.i64.wrap ((x1.f2.length : Int) - 1))
    else some (x1.f2.length : Int) : Option Int).bind fun s58 => catenaryref09_Settled_r2 x1 s58
theorem catenaryref09_Settled_s {k : Nat} {x1 : M53} {p2 : Option Addr} {c3 : Nat} {r : (List Int)} (hk : catenaryref09_Settled k x1 = some r) {g w : World} {F : Ch} {ih : IH} (h4 : RSl e3 ih [] p2 c3 x1.f2) (hw : St g w [F] ih) :
    CallsR Try.prog 87 #[.agg #[.int .i64 x1.f0, .int .u64 x1.f1, .slice p2 x1.f2.length c3, .bool x1.f3, .int .i64 x1.f4]] w fun v w' => ∃ (p59 : Option Addr) (c60 : Nat), v = .slice p59 r.length c60 ∧ St g w' [F] ih ∧ RSl e3 ih [] p59 c60 r := by
  refine f_in (vs := [.agg #[.int .i64 x1.f0, .int .u64 x1.f1, .slice p2 x1.f2.length c3, .bool x1.f3, .int .i64 x1.f4]]) Try.func87 rfl 18 rfl (by kernel_rfl) [(0, .agg #[.int .i64 x1.f0, .int .u64 x1.f1, .slice p2 x1.f2.length c3, .bool x1.f3, .int .i64 x1.f4])] (by kernel_rfl) fun a Qf hQ hQn hs => ?_
  refine c_seq ?_
  refine c_region ?_
  refine s_new hs hw [.int .i64 x1.f0, .int .u64 x1.f1, .slice p2 x1.f2.length c3, .bool x1.f3, .int .i64 x1.f4] 53 (fun b => .pointer (some ⟨b, 0, none⟩)) (by kernel_rfl) (fun _ => by kernel_rfl) fun a w b35 hs hw => ?_
  refine pures hs 1 [1] [(1, .pointer (some ⟨b35, 0, none⟩))] (by kernel_rfl) fun a hs => ?_
  refine s_end ?_
  refine c_seq ?_
  refine c_seq ?_
  refine c_region ?_
  refine s_load hs (hw.at_ 0 rfl) 0 (by kernel_rfl) (by kernel_rfl) (v := .agg #[.int .i64 x1.f0, .int .u64 x1.f1, .slice p2 x1.f2.length c3, .bool x1.f3, .int .i64 x1.f4]) (by kernel_rfl) fun a hs => ?_
  obtain ⟨y39, h40, hk⟩ := bindE hk
  refine s_call hs (by kernel_rfl) (by kernel_rfl) (catenaryref09_Right_s h40 h4 ((hw.pick [0, 1] (by kernel_rfl)).pack 0)) fun a w v hv hs => ?_
  obtain ⟨rfl, hw⟩ := hv
  replace hw := hw.unpack 0 rfl
  refine pures hs 1 [1, 6] [(1, .pointer (some ⟨b35, 0, none⟩)), (6, .bool (!y39))] (by kernel_rfl) fun a hs => ?_
  refine s_end ?_
  rcases ifbE hk with ⟨h41, hk⟩ | ⟨h41, hk⟩
  · refine c_cond1 hs (by kernel_rfl) (t := (!y39)) (by kernel_rfl) h41 ?_
    refine c_seq ?_
    refine c_region ?_
    refine pures hs 1 [2] [(2, .slice none 0 0)] (by kernel_rfl) fun a hs => ?_
    refine s_end ?_
    refine wp_ret ?_
    obtain rfl := someE hk
    refine hQ _ _ (f_ret1 hs rfl (v := .slice none 0 0) (by kernel_rfl) ⟨none, 0, rfl, hw.pick [1] (by kernel_rfl), (RSl.nil _ _ _)⟩)
  · refine c_cond0 hs (by kernel_rfl) (t := (!y39)) (by kernel_rfl) h41 ?_
    refine wp_skip ?_
    refine c_seq ?_
    refine c_region ?_
    refine pures hs 1 [1, 7] [(1, .pointer (some ⟨b35, 0, none⟩)), (7, .pointer (some ⟨b35, 2, none⟩))] (by kernel_rfl) fun a hs => ?_
    refine s_load hs (hw.at_ 0 rfl) 2 (by kernel_rfl) (by kernel_rfl) (v := .slice p2 x1.f2.length c3) (by kernel_rfl) fun a hs => ?_
    refine pures hs 2 [1, 3] [(1, .pointer (some ⟨b35, 0, none⟩)), (3, .int .i64 (x1.f2.length : Int))] (by kernel_rfl) fun a hs => ?_
    refine s_end ?_
    obtain ⟨y54, hx55, hk⟩ := bindE hk
    obtain ⟨J56, hJ56⟩ : ∃ J : Act → World → Prop, ∀ a w, J a w ↔ (∃ (x43 : Int), catenaryref09_Settled_r2 x1 x43 = some r ∧ Sees a 18 [(1, .pointer (some ⟨b35, 0, none⟩)), (3, .int .i64 x43)] ∧ St g w [bx b35 [.int .i64 x1.f0, .int .u64 x1.f1, .slice p2 x1.f2.length c3, .bool x1.f3, .int .i64 x1.f4] 53, F] ih) := ⟨_, fun _ _ => Iff.rfl⟩
    refine c_seqJ J56 ?_ ?_
    · refine c_seq ?_
      refine c_region ?_
      refine pures hs 1 [1, 3, 10] [(1, .pointer (some ⟨b35, 0, none⟩)), (3, .int .i64 (x1.f2.length : Int)), (10, .pointer (some ⟨b35, 3, none⟩))] (by kernel_rfl) fun a hs => ?_
      refine s_load hs (hw.at_ 0 rfl) 3 (by kernel_rfl) (by kernel_rfl) (v := .bool x1.f3) (by kernel_rfl) fun a hs => ?_
      refine s_end ?_
      rcases ifbE hx55 with ⟨h57, hx55⟩ | ⟨h57, hx55⟩
      · refine c_cond1 hs (by kernel_rfl) (t := x1.f3) (by kernel_rfl) h57 ?_
        refine c_region ?_
        refine pures hs 3 [1, 3] [(1, .pointer (some ⟨b35, 0, none⟩)), (3, .int .i64 (IntKind.i64.wrap ((x1.f2.length : Int) - 1)))] (by kernel_rfl) fun a hs => ?_
        refine s_end ?_
        obtain rfl := someE hx55
        exact (hJ56 _ _).2 ⟨(IntKind.i64.wrap ((x1.f2.length : Int) - 1)), hk, hs.cast [1, 3] (by kernel_rfl), hw.pick [0, 1] (by kernel_rfl)⟩
      · refine c_cond0 hs (by kernel_rfl) (t := x1.f3) (by kernel_rfl) h57 ?_
        refine wp_skip ?_
        obtain rfl := someE hx55
        exact (hJ56 _ _).2 ⟨(x1.f2.length : Int), hk, hs.cast [1, 3] (by kernel_rfl), hw.pick [0, 1] (by kernel_rfl)⟩
    · intro a w hh
      obtain ⟨x43, hk, hs, hw⟩ := (hJ56 _ _).1 hh
      refine c_seq ?_
      refine c_region ?_
      refine pures hs 1 [3, 14] [(3, .int .i64 x43), (14, .pointer (some ⟨b35, 2, none⟩))] (by kernel_rfl) fun a hs => ?_
      refine s_load hs (hw.at_ 0 rfl) 2 (by kernel_rfl) (by kernel_rfl) (v := .slice p2 x1.f2.length c3) (by kernel_rfl) fun a hs => ?_
      refine pures hs 1 [15, 16] [(15, .slice p2 x1.f2.length c3), (16, .int .i64 x43)] (by kernel_rfl) fun a hs => ?_
      obtain ⟨x49, h50, hk⟩ := bindE hk
      refine s_slice hs h4 (by kernel_rfl) (by kernel_rfl) 3 (by kernel_rfl) (by kernel_rfl) (by kernel_rfl) (by kernel_rfl) (by kernel_rfl) h50 (.inl rfl) fun a p51 c52 h53 hs => ?_
      refine pures hs 1 [2] [(2, .slice p51 x49.length c52)] (by kernel_rfl) fun a hs => ?_
      refine s_end ?_
      refine wp_ret ?_
      obtain rfl := someE hk
      refine hQ _ _ (f_ret1 hs rfl (v := .slice p51 x49.length c52) (by kernel_rfl) ⟨p51, c52, rfl, hw.pick [1] (by kernel_rfl), h53⟩)
def catenaryref19_Missing_r3 : Option Bool :=
  some true
def catenaryref19_Missing_l4 (k : Nat) (y99 : (List Int)) (x5 : List Int) : Nat → Int → Option (Sum Bool Unit)
  | 0, _ => none
  | j + 1, x133 =>
    if (decide (x133 < (y99.length : Int))) = true then (
      (ix y99 x133).bind fun x159 =>
      (catenaryref04_Has k x5 x159).bind fun y163 =>
      if (!y163) = true then some (.inl false)
      else catenaryref19_Missing_l4 k y99 x5 j (IntKind.i64.wrap (x133 + 1)))
    else some (.inr ())
def catenaryref19_Missing (k : Nat) (x1 : M53) (x5 : List Int) : Option Bool :=
  (catenaryref09_Settled k x1).bind fun y99 =>
  (catenaryref19_Missing_l4 k y99 x5 k 0 : Option (Sum Bool Unit)).bind fun
    | .inl z => some z
    | .inr _ => catenaryref19_Missing_r3
theorem catenaryref19_Missing_s {k : Nat} {x1 : M53} {x5 : List Int} {p2 : Option Addr} {c3 : Nat} {p6 : Option Addr} {c7 : Nat} {d9 : Ch} {r : Bool} (hk : catenaryref19_Missing k x1 x5 = some r) {g w : World} {F : Ch} {ih : IH} (h4 : RSl e3 ih [] p2 c3 x1.f2) (h8 : RSl e3 ih d9 p6 c7 x5) (h10 : ∀ q ∈ d9, q ∈ F) (hw : St g w [F] ih) :
    CallsR Try.prog 46 #[.agg #[.int .i64 x1.f0, .int .u64 x1.f1, .slice p2 x1.f2.length c3, .bool x1.f3, .int .i64 x1.f4], .slice p6 x5.length c7] w fun v w' => v = .bool r ∧ St g w' [F] ih := by
  refine f_in (vs := [.agg #[.int .i64 x1.f0, .int .u64 x1.f1, .slice p2 x1.f2.length c3, .bool x1.f3, .int .i64 x1.f4], .slice p6 x5.length c7]) Try.func46 rfl 22 rfl (by kernel_rfl) [(0, .agg #[.int .i64 x1.f0, .int .u64 x1.f1, .slice p2 x1.f2.length c3, .bool x1.f3, .int .i64 x1.f4]), (1, .slice p6 x5.length c7)] (by kernel_rfl) fun a Qf hQ hQn hs => ?_
  refine c_seq ?_
  refine c_region ?_
  refine s_new hs hw [.int .i64 x1.f0, .int .u64 x1.f1, .slice p2 x1.f2.length c3, .bool x1.f3, .int .i64 x1.f4] 53 (fun b => .pointer (some ⟨b, 0, none⟩)) (by kernel_rfl) (fun _ => by kernel_rfl) fun a w b92 hs hw => ?_
  refine pures hs 1 [1, 2] [(1, .slice p6 x5.length c7), (2, .pointer (some ⟨b92, 0, none⟩))] (by kernel_rfl) fun a hs => ?_
  refine s_end ?_
  refine c_seq ?_
  refine c_region ?_
  refine s_load hs (hw.at_ 0 rfl) 0 (by kernel_rfl) (by kernel_rfl) (v := .agg #[.int .i64 x1.f0, .int .u64 x1.f1, .slice p2 x1.f2.length c3, .bool x1.f3, .int .i64 x1.f4]) (by kernel_rfl) fun a hs => ?_
  obtain ⟨y99, h100, hk⟩ := bindE hk
  refine s_call hs (by kernel_rfl) (by kernel_rfl) (catenaryref09_Settled_s h100 h4 ((hw.pick [1] (by kernel_rfl)).pack 0)) fun a w v hv hs => ?_
  obtain ⟨p101, c102, rfl, hw, h103⟩ := hv
  replace hw := hw.unpack 0 rfl
  refine pures hs 1 [1, 5] [(1, .slice p6 x5.length c7), (5, .slice p101 y99.length c102)] (by kernel_rfl) fun a hs => ?_
  refine s_end ?_
  refine c_seq ?_
  refine c_seq ?_
  refine c_region ?_
  refine pures hs 1 [1, 5, 6] [(1, .slice p6 x5.length c7), (5, .slice p101 y99.length c102), (6, .int .i64 0)] (by kernel_rfl) fun a hs => ?_
  refine s_end ?_
  refine c_block ?_
  obtain ⟨y148, hx149, hk⟩ := bindE hk
  obtain ⟨J150, hJ150⟩ : ∃ J : Act → World → Prop, ∀ a w, J a w ↔ (catenaryref19_Missing_r3 = some r ∧ Sees a 22 [] ∧ St g w [F] ih) := ⟨_, fun _ _ => Iff.rfl⟩
  obtain ⟨I151, hI151⟩ : ∃ J : Nat → Act → World → Prop, ∀ j a w, J j a w ↔ (∃ (x133 : Int), catenaryref19_Missing_l4 k y99 x5 j x133 = some y148 ∧ Sees a 22 [(1, .slice p6 x5.length c7), (5, .slice p101 y99.length c102), (6, .int .i64 x133)] ∧ St g w [F] ih) := ⟨_, fun _ _ _ => Iff.rfl⟩
  refine c_exitJ 0 J150 ?_ ?_
  · refine c_loop I151 k ((hI151 _ _ _).2 ⟨0, hx149, hs.cast [1, 5, 6] (by kernel_rfl), hw.pick [0] (by kernel_rfl)⟩) (fun a w h0 => ?_) fun j a w hh => ?_
    · obtain ⟨_, h, _⟩ := (hI151 _ _ _).1 h0
      cases h
    · obtain ⟨x133, hx149, hs, hw⟩ := (hI151 _ _ _).1 hh
      refine c_seq ?_
      refine c_seq ?_
      refine c_region ?_
      refine pures hs 4 [1, 5, 6, 12] [(1, .slice p6 x5.length c7), (5, .slice p101 y99.length c102), (6, .int .i64 x133), (12, .bool (decide (x133 < (y99.length : Int))))] (by kernel_rfl) fun a hs => ?_
      refine s_end ?_
      rcases ifbE hx149 with ⟨h152, hx149⟩ | ⟨h152, hx149⟩
      · refine c_cond1 hs (by kernel_rfl) (t := (decide (x133 < (y99.length : Int)))) (by kernel_rfl) h152 ?_
        refine wp_skip ?_
        refine c_seq ?_
        refine c_block ?_
        refine c_seq ?_
        refine c_region ?_
        refine pures hs 3 [1, 5, 6, 15, 16, 17] [(1, .slice p6 x5.length c7), (5, .slice p101 y99.length c102), (6, .int .i64 x133), (15, .slice p6 x5.length c7), (16, .slice p101 y99.length c102), (17, .int .i64 x133)] (by kernel_rfl) fun a hs => ?_
        obtain ⟨x159, h160, hx149⟩ := bindE hx149
        refine s_index hs h103 (by kernel_rfl) (by kernel_rfl) (k := .i64) (by kernel_rfl) 3 (by kernel_rfl) (by kernel_rfl) h160 fun a r161 cs henc at162 hs => ?_
        obtain rfl := henc
        refine s_load hs (at162 _ (hw.vwAll.nil.anti (Le.refl _))) 0 (by kernel_rfl) (by kernel_rfl) (v := .int .i64 x159) (by kernel_rfl) fun a hs => ?_
        obtain ⟨y163, h164, hx149⟩ := bindE hx149
        refine s_call hs (by kernel_rfl) (by kernel_rfl) (catenaryref04_Has_s h164 h8 (fun q hq => memF 0 rfl q (h10 q hq)) ((hw.pick [0] (by kernel_rfl)).pack 0)) fun a w v hv hs => ?_
        obtain ⟨rfl, hw⟩ := hv
        replace hw := hw.unpack 0 rfl
        refine pures hs 1 [1, 5, 6, 21] [(1, .slice p6 x5.length c7), (5, .slice p101 y99.length c102), (6, .int .i64 x133), (21, .bool (!y163))] (by kernel_rfl) fun a hs => ?_
        refine s_end ?_
        rcases ifbE hx149 with ⟨h165, hx149⟩ | ⟨h165, hx149⟩
        · refine c_cond1 hs (by kernel_rfl) (t := (!y163)) (by kernel_rfl) h165 ?_
          refine c_seq ?_
          refine c_region ?_
          refine pures hs 1 [4] [(4, .bool false)] (by kernel_rfl) fun a hs => ?_
          refine s_end ?_
          refine wp_ret ?_
          obtain rfl := someE hx149
          obtain rfl := someE hk
          refine hQ _ _ (f_ret1 hs rfl (v := .bool false) (by kernel_rfl) ⟨rfl, hw.pick [0] (by kernel_rfl)⟩)
        · refine c_cond0 hs (by kernel_rfl) (t := (!y163)) (by kernel_rfl) h165 ?_
          refine wp_skip ?_
          refine c_region ?_
          refine pures hs 3 [1, 5, 6] [(1, .slice p6 x5.length c7), (5, .slice p101 y99.length c102), (6, .int .i64 (IntKind.i64.wrap (x133 + 1)))] (by kernel_rfl) fun a hs => ?_
          refine s_end ?_
          exact (hI151 _ _ _).2 ⟨(IntKind.i64.wrap (x133 + 1)), hx149, hs.cast [1, 5, 6] (by kernel_rfl), hw.pick [0] (by kernel_rfl)⟩
      · refine c_cond0 hs (by kernel_rfl) (t := (decide (x133 < (y99.length : Int)))) (by kernel_rfl) h152 ?_
        refine wp_exit ?_
        obtain rfl := someE hx149
        exact (hJ150 _ _).2 ⟨hk, hs.cast [] (by kernel_rfl), hw.pick [0] (by kernel_rfl)⟩
  · intro a w hh
    obtain ⟨hk, hs, hw⟩ := (hJ150 _ _).1 hh
    refine c_seq ?_
    refine c_region ?_
    refine pures hs 1 [4] [(4, .bool true)] (by kernel_rfl) fun a hs => ?_
    refine s_end ?_
    refine wp_ret ?_
    obtain rfl := someE hk
    refine hQ _ _ (f_ret1 hs rfl (v := .bool true) (by kernel_rfl) ⟨rfl, hw.pick [0] (by kernel_rfl)⟩)
def catenarylaw19_RoleReports_2_r46 (x1476 : Bool) : Option Bool :=
  some x1476
def catenarylaw19_RoleReports_2_r47 (k : Nat) (x1 : M53) (x5 : M53) (x9 : List Int) : Option Bool :=
  ((role_Newer k x1 x5).bind fun y1480 =>
    (catenaryref19_Newer k x1 x5).bind fun y1482 =>
    if (y1480 == y1482) = true then (
      (role_Missing_2 k x5 x9).bind fun y1485 =>
      (catenaryref19_Missing k x5 x9).bind fun y1487 =>
      if (y1485 == y1487) = true then (
        (catenarylaw19_awake k).bind fun y1490 =>
        some y1490)
      else some false)
    else some false : Option Bool).bind fun s1494 => catenarylaw19_RoleReports_2_r46 s1494
def catenarylaw19_RoleReports_2_r52 (rec_catenarylaw19_RoleReports_2_l48 : Int → Option (Sum Bool Unit)) (x1255 : Int) : Option (Sum Bool Unit) :=
  rec_catenarylaw19_RoleReports_2_l48 (IntKind.i64.wrap (x1255 + 1))
def catenarylaw19_RoleReports_2_r54 (rec_catenarylaw19_RoleReports_2_l53 : Int → Option (Sum Bool Unit)) (x1606 : Int) (x1671 : Bool) : Option (Sum Bool Unit) :=
  if x1671 = true then some (.inl false)
  else rec_catenarylaw19_RoleReports_2_l53 (IntKind.i64.wrap (x1606 + 1))
def catenarylaw19_RoleReports_2_l53 (y1507 : (List M66)) (y1521 : (List M66)) : Nat → Int → Option (Sum Bool Unit)
  | 0, _ => none
  | j + 1, x1606 =>
    if (decide (x1606 < (y1507.length : Int))) = true then (
      ((ix y1507 x1606).bind fun x1676 =>
        (ix y1521 x1606).bind fun x1681 =>
        some (!((x1676.f0 == x1681.f0) && ((x1676.f1 == x1681.f1) && ((x1676.f2 == x1681.f2) && ((x1676.f3 == x1681.f3) && true))))) : Option Bool).bind fun s1686 => catenarylaw19_RoleReports_2_r54 (catenarylaw19_RoleReports_2_l53 y1507 y1521 j) x1606 s1686)
    else some (.inr ())
def catenarylaw19_RoleReports_2_l48 (k : Nat) (x5 : M53) (x9 : List Int) : Nat → Int → Option (Sum Bool Unit)
  | 0, _ => none
  | j + 1, x1255 =>
    if (decide (x1255 ≤ 25)) = true then (
      (role_Reports k x5 x1255 x9).bind fun y1507 =>
      (catenaryref19_Reports k x5 x1255 x9).bind fun y1521 =>
      if ((y1507.length : Int) != (y1521.length : Int)) = true then some (.inl false)
      else (catenarylaw19_RoleReports_2_l53 y1507 y1521 k 0 : Option (Sum Bool Unit)).bind fun
        | .inl z => some (.inl z)
        | .inr _ => catenarylaw19_RoleReports_2_r52 (catenarylaw19_RoleReports_2_l48 k x5 x9 j) x1255)
    else some (.inr ())
def catenarylaw19_RoleReports_2 (k : Nat) (x1 : M53) (x5 : M53) (x9 : List Int) : Option Bool :=
  if ((decide ((x5.f2.length : Int) > 30)) || ((decide ((x1.f2.length : Int) > 30)) || (decide ((x9.length : Int) > 40)))) = true then (
    (catenarylaw19_awake k).bind fun y873 =>
    some y873)
  else (catenarylaw19_RoleReports_2_l48 k x5 x9 k 0 : Option (Sum Bool Unit)).bind fun
    | .inl z => some z
    | .inr _ => catenarylaw19_RoleReports_2_r47 k x1 x5 x9
theorem catenarylaw19_RoleReports_2_s {k : Nat} {x1 : M53} {x5 : M53} {x9 : List Int} {p2 : Option Addr} {c3 : Nat} {p6 : Option Addr} {c7 : Nat} {p10 : Option Addr} {c11 : Nat} {r : Bool} (hk : catenarylaw19_RoleReports_2 k x1 x5 x9 = some r) {g w : World} {F : Ch} {ih : IH} (h4 : RSl e3 ih [] p2 c3 x1.f2) (h8 : RSl e3 ih [] p6 c7 x5.f2) (h12 : RSl e3 ih [] p10 c11 x9) (hw : St g w [F] ih) :
    CallsR Try.prog 8 #[.agg #[.int .i64 x1.f0, .int .u64 x1.f1, .slice p2 x1.f2.length c3, .bool x1.f3, .int .i64 x1.f4], .agg #[.int .i64 x5.f0, .int .u64 x5.f1, .slice p6 x5.f2.length c7, .bool x5.f3, .int .i64 x5.f4], .slice p10 x9.length c11] w fun v w' => ∃ (ih' : IH), v = .bool r ∧ St g w' [F] ih' ∧ Le ih ih' := by
  refine f_in (vs := [.agg #[.int .i64 x1.f0, .int .u64 x1.f1, .slice p2 x1.f2.length c3, .bool x1.f3, .int .i64 x1.f4], .agg #[.int .i64 x5.f0, .int .u64 x5.f1, .slice p6 x5.f2.length c7, .bool x5.f3, .int .i64 x5.f4], .slice p10 x9.length c11]) Try.func8 rfl 78 rfl (by kernel_rfl) [(0, .agg #[.int .i64 x1.f0, .int .u64 x1.f1, .slice p2 x1.f2.length c3, .bool x1.f3, .int .i64 x1.f4]), (1, .agg #[.int .i64 x5.f0, .int .u64 x5.f1, .slice p6 x5.f2.length c7, .bool x5.f3, .int .i64 x5.f4]), (2, .slice p10 x9.length c11)] (by kernel_rfl) fun a Qf hQ hQn hs => ?_
  refine c_seq ?_
  refine c_region ?_
  refine s_new hs hw [.int .i64 x1.f0, .int .u64 x1.f1, .slice p2 x1.f2.length c3, .bool x1.f3, .int .i64 x1.f4] 53 (fun b => .pointer (some ⟨b, 0, none⟩)) (by kernel_rfl) (fun _ => by kernel_rfl) fun a w b856 hs hw => ?_
  refine s_new hs hw [.int .i64 x5.f0, .int .u64 x5.f1, .slice p6 x5.f2.length c7, .bool x5.f3, .int .i64 x5.f4] 53 (fun b => .pointer (some ⟨b, 0, none⟩)) (by kernel_rfl) (fun _ => by kernel_rfl) fun a w b858 hs hw => ?_
  refine pures hs 1 [2, 3, 4] [(2, .slice p10 x9.length c11), (3, .pointer (some ⟨b856, 0, none⟩)), (4, .pointer (some ⟨b858, 0, none⟩))] (by kernel_rfl) fun a hs => ?_
  refine s_end ?_
  refine c_seq ?_
  refine c_seq ?_
  obtain ⟨J865, hJ865⟩ : ∃ J : Act → World → Prop, ∀ a w, J a w ↔ (Sees a 78 [(2, .slice p10 x9.length c11), (3, .pointer (some ⟨b856, 0, none⟩)), (4, .pointer (some ⟨b858, 0, none⟩)), (25, .bool ((decide ((x5.f2.length : Int) > 30)) || ((decide ((x1.f2.length : Int) > 30)) || (decide ((x9.length : Int) > 40)))))] ∧ St g w [bx b858 [.int .i64 x5.f0, .int .u64 x5.f1, .slice p6 x5.f2.length c7, .bool x5.f3, .int .i64 x5.f4] 53, bx b856 [.int .i64 x1.f0, .int .u64 x1.f1, .slice p2 x1.f2.length c3, .bool x1.f3, .int .i64 x1.f4] 53, F] ih) := ⟨_, fun _ _ => Iff.rfl⟩
  refine c_regJ J865 ?_ ?_
  · refine pures hs 1 [2, 3, 4, 11] [(2, .slice p10 x9.length c11), (3, .pointer (some ⟨b856, 0, none⟩)), (4, .pointer (some ⟨b858, 0, none⟩)), (11, .pointer (some ⟨b858, 2, none⟩))] (by kernel_rfl) fun a hs => ?_
    refine s_load hs (hw.at_ 0 rfl) 2 (by kernel_rfl) (by kernel_rfl) (v := .slice p6 x5.f2.length c7) (by kernel_rfl) fun a hs => ?_
    refine pures hs 3 [2, 3, 4, 15] [(2, .slice p10 x9.length c11), (3, .pointer (some ⟨b856, 0, none⟩)), (4, .pointer (some ⟨b858, 0, none⟩)), (15, .bool (decide ((x5.f2.length : Int) > 30)))] (by kernel_rfl) fun a hs => ?_
    rcases boolE (decide ((x5.f2.length : Int) > 30)) with h866 | h866
    · replace hs := hs.altB 15 true (by kernel_rfl) h866
      refine pures hs 10 [2, 3, 4, 25] [(2, .slice p10 x9.length c11), (3, .pointer (some ⟨b856, 0, none⟩)), (4, .pointer (some ⟨b858, 0, none⟩)), (25, .bool true)] (by kernel_rfl) fun a hs => ?_
      refine s_end ?_
      exact (hJ865 _ _).2 ⟨(hs.altB 25 ((decide ((x5.f2.length : Int) > 30)) || ((decide ((x1.f2.length : Int) > 30)) || (decide ((x9.length : Int) > 40)))) (by kernel_rfl) (by rw [h866] <;> rfl)).cast [2, 3, 4, 25] (by kernel_rfl), hw.pick [0, 1, 2] (by kernel_rfl)⟩
    · replace hs := hs.altB 15 false (by kernel_rfl) h866
      refine pures hs 1 [2, 3, 4, 15, 16] [(2, .slice p10 x9.length c11), (3, .pointer (some ⟨b856, 0, none⟩)), (4, .pointer (some ⟨b858, 0, none⟩)), (15, .bool false), (16, .pointer (some ⟨b856, 2, none⟩))] (by kernel_rfl) fun a hs => ?_
      refine s_load hs (hw.at_ 1 rfl) 2 (by kernel_rfl) (by kernel_rfl) (v := .slice p2 x1.f2.length c3) (by kernel_rfl) fun a hs => ?_
      refine pures hs 4 [2, 3, 4, 21] [(2, .slice p10 x9.length c11), (3, .pointer (some ⟨b856, 0, none⟩)), (4, .pointer (some ⟨b858, 0, none⟩)), (21, .bool (decide ((x1.f2.length : Int) > 30)))] (by kernel_rfl) fun a hs => ?_
      rcases boolE (decide ((x1.f2.length : Int) > 30)) with h867 | h867
      · replace hs := hs.altB 21 true (by kernel_rfl) h867
        refine pures hs 4 [2, 3, 4, 25] [(2, .slice p10 x9.length c11), (3, .pointer (some ⟨b856, 0, none⟩)), (4, .pointer (some ⟨b858, 0, none⟩)), (25, .bool true)] (by kernel_rfl) fun a hs => ?_
        refine s_end ?_
        exact (hJ865 _ _).2 ⟨(hs.altB 25 ((decide ((x5.f2.length : Int) > 30)) || ((decide ((x1.f2.length : Int) > 30)) || (decide ((x9.length : Int) > 40)))) (by kernel_rfl) (by rw [h866, h867] <;> rfl)).cast [2, 3, 4, 25] (by kernel_rfl), hw.pick [0, 1, 2] (by kernel_rfl)⟩
      · replace hs := hs.altB 21 false (by kernel_rfl) h867
        refine pures hs 4 [2, 3, 4, 25] [(2, .slice p10 x9.length c11), (3, .pointer (some ⟨b856, 0, none⟩)), (4, .pointer (some ⟨b858, 0, none⟩)), (25, .bool (decide ((x9.length : Int) > 40)))] (by kernel_rfl) fun a hs => ?_
        refine s_end ?_
        exact (hJ865 _ _).2 ⟨(hs.altB 25 ((decide ((x5.f2.length : Int) > 30)) || ((decide ((x1.f2.length : Int) > 30)) || (decide ((x9.length : Int) > 40)))) (by kernel_rfl) (by rw [h866, h867] <;> rfl)).cast [2, 3, 4, 25] (by kernel_rfl), hw.pick [0, 1, 2] (by kernel_rfl)⟩
  · intro a w hh
    obtain ⟨hs, hw⟩ := (hJ865 _ _).1 hh
    rcases ifbE hk with ⟨h868, hk⟩ | ⟨h868, hk⟩
    · refine c_cond1 hs (by kernel_rfl) (t := ((decide ((x5.f2.length : Int) > 30)) || ((decide ((x1.f2.length : Int) > 30)) || (decide ((x9.length : Int) > 40))))) (by kernel_rfl) h868 ?_
      refine c_seq ?_
      refine c_region ?_
      obtain ⟨y873, h874, hk⟩ := bindE hk
      refine s_call hs (by kernel_rfl) (by kernel_rfl) (catenarylaw19_awake_s h874 ((hw.pick [2] (by kernel_rfl)).pack 0)) fun a w v hv hs => ?_
      obtain ⟨ih875, rfl, hw, hle876⟩ := hv
      replace hw := hw.unpack 0 rfl
      refine pures hs 1 [6] [(6, .bool y873)] (by kernel_rfl) fun a hs => ?_
      refine s_end ?_
      refine wp_ret ?_
      obtain rfl := someE hk
      refine hQ _ _ (f_ret1 hs rfl (v := .bool y873) (by kernel_rfl) ⟨ih875, rfl, hw.pick [0] (by kernel_rfl), hle876⟩)
    · refine c_cond0 hs (by kernel_rfl) (t := ((decide ((x5.f2.length : Int) > 30)) || ((decide ((x1.f2.length : Int) > 30)) || (decide ((x9.length : Int) > 40))))) (by kernel_rfl) h868 ?_
      refine wp_skip ?_
      refine c_seq ?_
      refine c_seq ?_
      refine c_region ?_
      refine pures hs 1 [2, 3, 4, 7] [(2, .slice p10 x9.length c11), (3, .pointer (some ⟨b856, 0, none⟩)), (4, .pointer (some ⟨b858, 0, none⟩)), (7, .int .i64 0)] (by kernel_rfl) fun a hs => ?_
      refine s_end ?_
      refine c_block ?_
      obtain ⟨y1495, hx1496, hk⟩ := bindE hk
      obtain ⟨J1497, hJ1497⟩ : ∃ J : Act → World → Prop, ∀ a w, J a w ↔ (catenarylaw19_RoleReports_2_r47 k x1 x5 x9 = some r ∧ Sees a 78 [(2, .slice p10 x9.length c11), (3, .pointer (some ⟨b856, 0, none⟩)), (4, .pointer (some ⟨b858, 0, none⟩))] ∧ St g w [bx b858 [.int .i64 x5.f0, .int .u64 x5.f1, .slice p6 x5.f2.length c7, .bool x5.f3, .int .i64 x5.f4] 53, bx b856 [.int .i64 x1.f0, .int .u64 x1.f1, .slice p2 x1.f2.length c3, .bool x1.f3, .int .i64 x1.f4] 53, F] ih) := ⟨_, fun _ _ => Iff.rfl⟩
      obtain ⟨I1498, hI1498⟩ : ∃ J : Nat → Act → World → Prop, ∀ j a w, J j a w ↔ (∃ (x1255 : Int), catenarylaw19_RoleReports_2_l48 k x5 x9 j x1255 = some y1495 ∧ Sees a 78 [(2, .slice p10 x9.length c11), (3, .pointer (some ⟨b856, 0, none⟩)), (4, .pointer (some ⟨b858, 0, none⟩)), (7, .int .i64 x1255)] ∧ St g w [bx b858 [.int .i64 x5.f0, .int .u64 x5.f1, .slice p6 x5.f2.length c7, .bool x5.f3, .int .i64 x5.f4] 53, bx b856 [.int .i64 x1.f0, .int .u64 x1.f1, .slice p2 x1.f2.length c3, .bool x1.f3, .int .i64 x1.f4] 53, F] ih) := ⟨_, fun _ _ _ => Iff.rfl⟩
      refine c_exitJ 0 J1497 ?_ ?_
      · refine c_loop I1498 k ((hI1498 _ _ _).2 ⟨0, hx1496, hs.cast [2, 3, 4, 7] (by kernel_rfl), hw.pick [0, 1, 2] (by kernel_rfl)⟩) (fun a w h0 => ?_) fun j a w hh => ?_
        · obtain ⟨_, h, _⟩ := (hI1498 _ _ _).1 h0
          cases h
        · obtain ⟨x1255, hx1496, hs, hw⟩ := (hI1498 _ _ _).1 hh
          refine c_seq ?_
          refine c_seq ?_
          refine c_region ?_
          refine pures hs 2 [2, 3, 4, 7, 28] [(2, .slice p10 x9.length c11), (3, .pointer (some ⟨b856, 0, none⟩)), (4, .pointer (some ⟨b858, 0, none⟩)), (7, .int .i64 x1255), (28, .bool (decide (x1255 ≤ 25)))] (by kernel_rfl) fun a hs => ?_
          refine s_end ?_
          rcases ifbE hx1496 with ⟨h1499, hx1496⟩ | ⟨h1499, hx1496⟩
          · refine c_cond1 hs (by kernel_rfl) (t := (decide (x1255 ≤ 25))) (by kernel_rfl) h1499 ?_
            refine wp_skip ?_
            refine c_seq ?_
            refine c_block ?_
            refine c_seq ?_
            refine c_region ?_
            refine s_load hs (hw.at_ 0 rfl) 0 (by kernel_rfl) (by kernel_rfl) (v := .agg #[.int .i64 x5.f0, .int .u64 x5.f1, .slice p6 x5.f2.length c7, .bool x5.f3, .int .i64 x5.f4]) (by kernel_rfl) fun a hs => ?_
            refine pures hs 2 [2, 3, 4, 7, 31, 32, 33] [(2, .slice p10 x9.length c11), (3, .pointer (some ⟨b856, 0, none⟩)), (4, .pointer (some ⟨b858, 0, none⟩)), (7, .int .i64 x1255), (31, .agg #[.int .i64 x5.f0, .int .u64 x5.f1, .slice p6 x5.f2.length c7, .bool x5.f3, .int .i64 x5.f4]), (32, .int .i64 x1255), (33, .slice p10 x9.length c11)] (by kernel_rfl) fun a hs => ?_
            obtain ⟨y1507, h1508, hx1496⟩ := bindE hx1496
            refine s_call hs (by kernel_rfl) (by kernel_rfl) (role_Reports_s h1508 h8 h12 (nilSub _) ((hw.pick [0, 1, 2] (by kernel_rfl)).pack 0)) fun a w v hv hs => ?_
            obtain ⟨p1509, c1510, d1512, rfl, hw, h1511⟩ := hv
            replace hw := hw.unpack 1 rfl
            refine pures hs 1 [2, 3, 4, 7, 8] [(2, .slice p10 x9.length c11), (3, .pointer (some ⟨b856, 0, none⟩)), (4, .pointer (some ⟨b858, 0, none⟩)), (7, .int .i64 x1255), (8, .slice p1509 y1507.length c1510)] (by kernel_rfl) fun a hs => ?_
            refine s_end ?_
            refine c_seq ?_
            refine c_region ?_
            refine s_load hs (hw.at_ 1 rfl) 0 (by kernel_rfl) (by kernel_rfl) (v := .agg #[.int .i64 x5.f0, .int .u64 x5.f1, .slice p6 x5.f2.length c7, .bool x5.f3, .int .i64 x5.f4]) (by kernel_rfl) fun a hs => ?_
            refine pures hs 2 [2, 3, 4, 7, 8, 35, 36, 37] [(2, .slice p10 x9.length c11), (3, .pointer (some ⟨b856, 0, none⟩)), (4, .pointer (some ⟨b858, 0, none⟩)), (7, .int .i64 x1255), (8, .slice p1509 y1507.length c1510), (35, .agg #[.int .i64 x5.f0, .int .u64 x5.f1, .slice p6 x5.f2.length c7, .bool x5.f3, .int .i64 x5.f4]), (36, .int .i64 x1255), (37, .slice p10 x9.length c11)] (by kernel_rfl) fun a hs => ?_
            obtain ⟨y1521, h1522, hx1496⟩ := bindE hx1496
            refine s_call hs (by kernel_rfl) (by kernel_rfl) (catenaryref19_Reports_s h1522 h8 h12 (nilSub _) ((hw.pick [0, 1, 2, 3] (by kernel_rfl)).pack 0)) fun a w v hv hs => ?_
            obtain ⟨p1523, c1524, d1526, rfl, hw, h1525⟩ := hv
            replace hw := hw.unpack 1 rfl
            refine pures hs 1 [2, 3, 4, 7, 8, 9] [(2, .slice p10 x9.length c11), (3, .pointer (some ⟨b856, 0, none⟩)), (4, .pointer (some ⟨b858, 0, none⟩)), (7, .int .i64 x1255), (8, .slice p1509 y1507.length c1510), (9, .slice p1523 y1521.length c1524)] (by kernel_rfl) fun a hs => ?_
            refine s_end ?_
            refine c_seq ?_
            refine c_seq ?_
            refine c_region ?_
            refine pures hs 5 [2, 3, 4, 7, 8, 9, 43] [(2, .slice p10 x9.length c11), (3, .pointer (some ⟨b856, 0, none⟩)), (4, .pointer (some ⟨b858, 0, none⟩)), (7, .int .i64 x1255), (8, .slice p1509 y1507.length c1510), (9, .slice p1523 y1521.length c1524), (43, .bool ((y1507.length : Int) != (y1521.length : Int)))] (by kernel_rfl) fun a hs => ?_
            refine s_end ?_
            rcases ifbE hx1496 with ⟨h1528, hx1496⟩ | ⟨h1528, hx1496⟩
            · refine c_cond1 hs (by kernel_rfl) (t := ((y1507.length : Int) != (y1521.length : Int))) (by kernel_rfl) h1528 ?_
              refine c_seq ?_
              refine c_region ?_
              refine pures hs 1 [6] [(6, .bool false)] (by kernel_rfl) fun a hs => ?_
              refine s_end ?_
              refine wp_ret ?_
              obtain rfl := someE hx1496
              obtain rfl := someE hk
              refine hQ _ _ (f_ret1 hs rfl (v := .bool false) (by kernel_rfl) ⟨ih, rfl, hw.pick [4] (by kernel_rfl), (Le.refl _)⟩)
            · refine c_cond0 hs (by kernel_rfl) (t := ((y1507.length : Int) != (y1521.length : Int))) (by kernel_rfl) h1528 ?_
              refine wp_skip ?_
              refine c_seq ?_
              refine c_region ?_
              refine pures hs 1 [2, 3, 4, 7, 8, 9, 10] [(2, .slice p10 x9.length c11), (3, .pointer (some ⟨b856, 0, none⟩)), (4, .pointer (some ⟨b858, 0, none⟩)), (7, .int .i64 x1255), (8, .slice p1509 y1507.length c1510), (9, .slice p1523 y1521.length c1524), (10, .int .i64 0)] (by kernel_rfl) fun a hs => ?_
              refine s_end ?_
              refine c_block ?_
              obtain ⟨y1645, hx1646, hx1496⟩ := bindE hx1496
              obtain ⟨J1647, hJ1647⟩ : ∃ J : Act → World → Prop, ∀ a w, J a w ↔ (catenarylaw19_RoleReports_2_r52 (catenarylaw19_RoleReports_2_l48 k x5 x9 j) x1255 = some y1495 ∧ Sees a 78 [(2, .slice p10 x9.length c11), (3, .pointer (some ⟨b856, 0, none⟩)), (4, .pointer (some ⟨b858, 0, none⟩)), (7, .int .i64 x1255)] ∧ St g w [bx b858 [.int .i64 x5.f0, .int .u64 x5.f1, .slice p6 x5.f2.length c7, .bool x5.f3, .int .i64 x5.f4] 53, bx b856 [.int .i64 x1.f0, .int .u64 x1.f1, .slice p2 x1.f2.length c3, .bool x1.f3, .int .i64 x1.f4] 53, F] ih) := ⟨_, fun _ _ => Iff.rfl⟩
              obtain ⟨I1648, hI1648⟩ : ∃ J : Nat → Act → World → Prop, ∀ j a w, J j a w ↔ (∃ (x1606 : Int), catenarylaw19_RoleReports_2_l53 y1507 y1521 j x1606 = some y1645 ∧ Sees a 78 [(2, .slice p10 x9.length c11), (3, .pointer (some ⟨b856, 0, none⟩)), (4, .pointer (some ⟨b858, 0, none⟩)), (7, .int .i64 x1255), (8, .slice p1509 y1507.length c1510), (9, .slice p1523 y1521.length c1524), (10, .int .i64 x1606)] ∧ St g w [bx b858 [.int .i64 x5.f0, .int .u64 x5.f1, .slice p6 x5.f2.length c7, .bool x5.f3, .int .i64 x5.f4] 53, bx b856 [.int .i64 x1.f0, .int .u64 x1.f1, .slice p2 x1.f2.length c3, .bool x1.f3, .int .i64 x1.f4] 53, d1512, d1526, F] ih) := ⟨_, fun _ _ _ => Iff.rfl⟩
              refine c_exitJ 2 J1647 ?_ ?_
              · refine c_loop I1648 k ((hI1648 _ _ _).2 ⟨0, hx1646, hs.cast [2, 3, 4, 7, 8, 9, 10] (by kernel_rfl), hw.pick [2, 3, 1, 0, 4] (by kernel_rfl)⟩) (fun a w h0 => ?_) fun j a w hh => ?_
                · obtain ⟨_, h, _⟩ := (hI1648 _ _ _).1 h0
                  cases h
                · obtain ⟨x1606, hx1646, hs, hw⟩ := (hI1648 _ _ _).1 hh
                  refine c_seq ?_
                  refine c_seq ?_
                  refine c_region ?_
                  refine pures hs 4 [2, 3, 4, 7, 8, 9, 10, 47] [(2, .slice p10 x9.length c11), (3, .pointer (some ⟨b856, 0, none⟩)), (4, .pointer (some ⟨b858, 0, none⟩)), (7, .int .i64 x1255), (8, .slice p1509 y1507.length c1510), (9, .slice p1523 y1521.length c1524), (10, .int .i64 x1606), (47, .bool (decide (x1606 < (y1507.length : Int))))] (by kernel_rfl) fun a hs => ?_
                  refine s_end ?_
                  rcases ifbE hx1646 with ⟨h1649, hx1646⟩ | ⟨h1649, hx1646⟩
                  · refine c_cond1 hs (by kernel_rfl) (t := (decide (x1606 < (y1507.length : Int)))) (by kernel_rfl) h1649 ?_
                    refine wp_skip ?_
                    refine c_seq ?_
                    refine c_block ?_
                    refine c_seq ?_
                    obtain ⟨S1650, hS1650, kS1650⟩ := mkSX (X := [([], bx b858 [.int .i64 x5.f0, .int .u64 x5.f1, .slice p6 x5.f2.length c7, .bool x5.f3, .int .i64 x5.f4] 53), ([], bx b856 [.int .i64 x1.f0, .int .u64 x1.f1, .slice p2 x1.f2.length c3, .bool x1.f3, .int .i64 x1.f4] 53), ([], d1512), ([], d1526), ([], F)]) (ih := ih) (K := []) rfl
                    obtain ⟨y1673, hx1674, hx1646⟩ := bindE hx1646
                    obtain ⟨J1675, hJ1675⟩ : ∃ J : Act → World → Prop, ∀ a w, J a w ↔ (∃ (x1671 : Bool), catenarylaw19_RoleReports_2_r54 (catenarylaw19_RoleReports_2_l53 y1507 y1521 j) x1606 x1671 = some y1645 ∧ Sees a 78 [(2, .slice p10 x9.length c11), (3, .pointer (some ⟨b856, 0, none⟩)), (4, .pointer (some ⟨b858, 0, none⟩)), (7, .int .i64 x1255), (8, .slice p1509 y1507.length c1510), (9, .slice p1523 y1521.length c1524), (10, .int .i64 x1606), (58, .bool x1671)] ∧ St g w [bx b858 [.int .i64 x5.f0, .int .u64 x5.f1, .slice p6 x5.f2.length c7, .bool x5.f3, .int .i64 x5.f4] 53, bx b856 [.int .i64 x1.f0, .int .u64 x1.f1, .slice p2 x1.f2.length c3, .bool x1.f3, .int .i64 x1.f4] 53, d1512, d1526, F] ih) := ⟨_, fun _ _ => Iff.rfl⟩
                    refine c_draw (by kernel_rfl) (N := 9) rfl S1650 J1675 ?_ ?_
                    · have hw := hw.drew
                      have hS : S1650 (Array.replicate 9 false) _ := SX_now hS1650 (hw.vws [0, 1, 2, 3, 4]) (by kernel_rfl)
                      refine d_pures (fuel := 7) kS1650 hs hS [0, 1] [2, 3, 4, 7, 8, 9, 10, 50, 51] [(2, .slice p10 x9.length c11), (3, .pointer (some ⟨b856, 0, none⟩)), (4, .pointer (some ⟨b858, 0, none⟩)), (7, .int .i64 x1255), (8, .slice p1509 y1507.length c1510), (9, .slice p1523 y1521.length c1524), (10, .int .i64 x1606), (50, .slice p1509 y1507.length c1510), (51, .int .i64 x1606)] (by kernel_rfl) fun a hs hS => ?_
                      obtain ⟨x1676, h1677, hx1674⟩ := bindE hx1674
                      refine d_indexO (fuel := 6) kS1650 hs hS 2 rfl (by kernel_rfl) h1511 (by kernel_rfl) (by kernel_rfl) (k := .i64) (by kernel_rfl) 66 (by kernel_rfl) (by kernel_rfl) h1677 fun a r1678 cs henc at1679 h1680 hs hS => ?_
                      obtain rfl := henc
                      refine d_load (fuel := 5) kS1650 hs hS 3 rfl (by kernel_rfl) (fun l w hu hS => at1679 w ((SX_ch hS1650 2 rfl (by kernel_rfl) l w hu hS).anti (Le.refl _))) 0 (by kernel_rfl) (by kernel_rfl) (v := .agg #[.int .i64 x1676.f0, .int .i64 x1676.f1, .int .u64 x1676.f2, .int .i64 x1676.f3]) (by kernel_rfl) fun a hs hS => ?_
                      refine d_pures (fuel := 3) kS1650 hs hS [4, 5] [2, 3, 4, 7, 8, 9, 10, 50, 51, 52, 53, 54, 55] [(2, .slice p10 x9.length c11), (3, .pointer (some ⟨b856, 0, none⟩)), (4, .pointer (some ⟨b858, 0, none⟩)), (7, .int .i64 x1255), (8, .slice p1509 y1507.length c1510), (9, .slice p1523 y1521.length c1524), (10, .int .i64 x1606), (50, .slice p1509 y1507.length c1510), (51, .int .i64 x1606), (52, .pointer (some r1678)), (53, .agg #[.int .i64 x1676.f0, .int .i64 x1676.f1, .int .u64 x1676.f2, .int .i64 x1676.f3]), (54, .slice p1523 y1521.length c1524), (55, .int .i64 x1606)] (by kernel_rfl) fun a hs hS => ?_
                      obtain ⟨x1681, h1682, hx1674⟩ := bindE hx1674
                      refine d_indexO (fuel := 2) kS1650 hs hS 6 rfl (by kernel_rfl) h1525 (by kernel_rfl) (by kernel_rfl) (k := .i64) (by kernel_rfl) 66 (by kernel_rfl) (by kernel_rfl) h1682 fun a r1683 cs henc at1684 h1685 hs hS => ?_
                      obtain rfl := henc
                      refine d_load (fuel := 1) kS1650 hs hS 7 rfl (by kernel_rfl) (fun l w hu hS => at1684 w ((SX_ch hS1650 3 rfl (by kernel_rfl) l w hu hS).anti (Le.refl _))) 0 (by kernel_rfl) (by kernel_rfl) (v := .agg #[.int .i64 x1681.f0, .int .i64 x1681.f1, .int .u64 x1681.f2, .int .i64 x1681.f3]) (by kernel_rfl) fun a hs hS => ?_
                      refine d_ne (fuel := 0) kS1650 hs hS 8 rfl (by kernel_rfl) (c1 := [.int .i64 x1676.f0, .int .i64 x1676.f1, .int .u64 x1676.f2, .int .i64 x1676.f3]) (c2 := [.int .i64 x1681.f0, .int .i64 x1681.f1, .int .u64 x1681.f2, .int .i64 x1681.f3]) ((x1676.f0 == x1681.f0) && ((x1676.f1 == x1681.f1) && ((x1676.f2 == x1681.f2) && ((x1676.f3 == x1681.f3) && true)))) (by kernel_rfl) (by kernel_rfl) (by kernel_rfl) (by kernel_rfl) (by kernel_rfl) fun a hs hS => ?_
                      refine d_done (by kernel_rfl) ?_
                      obtain rfl := someE hx1674
                      exact (hJ1675 _ _).2 ⟨(!((x1676.f0 == x1681.f0) && ((x1676.f1 == x1681.f1) && ((x1676.f2 == x1681.f2) && ((x1676.f3 == x1681.f3) && true))))), hx1646, hs.cast [2, 3, 4, 7, 8, 9, 10, 58] (by kernel_rfl), hw.pick [0, 1, 2, 3, 4] (by kernel_rfl)⟩
                    · intro a w hh
                      obtain ⟨x1671, hx1646, hs, hw⟩ := (hJ1675 _ _).1 hh
                      rcases ifbE hx1646 with ⟨h1672, hx1646⟩ | ⟨h1672, hx1646⟩
                      · refine c_cond1 hs (by kernel_rfl) (t := x1671) (by kernel_rfl) h1672 ?_
                        refine c_seq ?_
                        refine c_region ?_
                        refine pures hs 1 [6] [(6, .bool false)] (by kernel_rfl) fun a hs => ?_
                        refine s_end ?_
                        refine wp_ret ?_
                        obtain rfl := someE hx1646
                        obtain rfl := someE hx1496
                        obtain rfl := someE hk
                        refine hQ _ _ (f_ret1 hs rfl (v := .bool false) (by kernel_rfl) ⟨ih, rfl, hw.pick [4] (by kernel_rfl), (Le.refl _)⟩)
                      · refine c_cond0 hs (by kernel_rfl) (t := x1671) (by kernel_rfl) h1672 ?_
                        refine wp_skip ?_
                        refine c_region ?_
                        refine pures hs 3 [2, 3, 4, 7, 8, 9, 10] [(2, .slice p10 x9.length c11), (3, .pointer (some ⟨b856, 0, none⟩)), (4, .pointer (some ⟨b858, 0, none⟩)), (7, .int .i64 x1255), (8, .slice p1509 y1507.length c1510), (9, .slice p1523 y1521.length c1524), (10, .int .i64 (IntKind.i64.wrap (x1606 + 1)))] (by kernel_rfl) fun a hs => ?_
                        refine s_end ?_
                        exact (hI1648 _ _ _).2 ⟨(IntKind.i64.wrap (x1606 + 1)), hx1646, hs.cast [2, 3, 4, 7, 8, 9, 10] (by kernel_rfl), hw.pick [0, 1, 2, 3, 4] (by kernel_rfl)⟩
                  · refine c_cond0 hs (by kernel_rfl) (t := (decide (x1606 < (y1507.length : Int)))) (by kernel_rfl) h1649 ?_
                    refine wp_exit ?_
                    obtain rfl := someE hx1646
                    exact (hJ1647 _ _).2 ⟨hx1496, hs.cast [2, 3, 4, 7] (by kernel_rfl), hw.pick [0, 1, 4] (by kernel_rfl)⟩
              · intro a w hh
                obtain ⟨hx1496, hs, hw⟩ := (hJ1647 _ _).1 hh
                refine c_region ?_
                refine pures hs 3 [2, 3, 4, 7] [(2, .slice p10 x9.length c11), (3, .pointer (some ⟨b856, 0, none⟩)), (4, .pointer (some ⟨b858, 0, none⟩)), (7, .int .i64 (IntKind.i64.wrap (x1255 + 1)))] (by kernel_rfl) fun a hs => ?_
                refine s_end ?_
                exact (hI1498 _ _ _).2 ⟨(IntKind.i64.wrap (x1255 + 1)), hx1496, hs.cast [2, 3, 4, 7] (by kernel_rfl), hw.pick [0, 1, 2] (by kernel_rfl)⟩
          · refine c_cond0 hs (by kernel_rfl) (t := (decide (x1255 ≤ 25))) (by kernel_rfl) h1499 ?_
            refine wp_exit ?_
            obtain rfl := someE hx1496
            exact (hJ1497 _ _).2 ⟨hk, hs.cast [2, 3, 4] (by kernel_rfl), hw.pick [0, 1, 2] (by kernel_rfl)⟩
      · intro a w hh
        obtain ⟨hk, hs, hw⟩ := (hJ1497 _ _).1 hh
        refine c_seq ?_
        obtain ⟨S1445, hS1445, kS1445⟩ := mkSX (X := [([], bx b858 [.int .i64 x5.f0, .int .u64 x5.f1, .slice p6 x5.f2.length c7, .bool x5.f3, .int .i64 x5.f4] 53), ([], bx b856 [.int .i64 x1.f0, .int .u64 x1.f1, .slice p2 x1.f2.length c3, .bool x1.f3, .int .i64 x1.f4] 53), ([], F)]) (ih := ih) (K := []) rfl
        obtain ⟨y1477, hx1478, hk⟩ := bindE hk
        obtain ⟨J1479, hJ1479⟩ : ∃ J : Act → World → Prop, ∀ a w, J a w ↔ (∃ (x1476 : Bool) (ih1474 : IH), catenarylaw19_RoleReports_2_r46 x1476 = some r ∧ Sees a 78 [(6, .bool x1476)] ∧ St g w [F] ih1474 ∧ Le ih ih1474) := ⟨_, fun _ _ => Iff.rfl⟩
        refine c_draw (by kernel_rfl) (N := 20) rfl S1445 J1479 ?_ ?_
        · have hw := hw.drew
          have hS : S1445 (Array.replicate 20 false) _ := SX_now hS1445 (hw.vws [0, 1, 2]) (by kernel_rfl)
          refine d_load (fuel := 19) kS1445 hs hS 0 rfl (by kernel_rfl) (SX_box hS1445 1 rfl (by kernel_rfl)) 0 (by kernel_rfl) (by kernel_rfl) (v := .agg #[.int .i64 x1.f0, .int .u64 x1.f1, .slice p2 x1.f2.length c3, .bool x1.f3, .int .i64 x1.f4]) (by kernel_rfl) fun a hs hS => ?_
          refine d_load (fuel := 18) kS1445 hs hS 1 rfl (by kernel_rfl) (SX_box hS1445 0 rfl (by kernel_rfl)) 0 (by kernel_rfl) (by kernel_rfl) (v := .agg #[.int .i64 x5.f0, .int .u64 x5.f1, .slice p6 x5.f2.length c7, .bool x5.f3, .int .i64 x5.f4]) (by kernel_rfl) fun a hs hS => ?_
          refine d_load (fuel := 17) kS1445 hs hS 3 rfl (by kernel_rfl) (SX_box hS1445 1 rfl (by kernel_rfl)) 0 (by kernel_rfl) (by kernel_rfl) (v := .agg #[.int .i64 x1.f0, .int .u64 x1.f1, .slice p2 x1.f2.length c3, .bool x1.f3, .int .i64 x1.f4]) (by kernel_rfl) fun a hs hS => ?_
          refine d_load (fuel := 16) kS1445 hs hS 4 rfl (by kernel_rfl) (SX_box hS1445 0 rfl (by kernel_rfl)) 0 (by kernel_rfl) (by kernel_rfl) (v := .agg #[.int .i64 x5.f0, .int .u64 x5.f1, .slice p6 x5.f2.length c7, .bool x5.f3, .int .i64 x5.f4]) (by kernel_rfl) fun a hs hS => ?_
          refine d_all (fuel := 15) (rs := [2]) (by kernel_rfl) (by simp) (all1 ?_)
          obtain ⟨y1480, h1481, hx1478⟩ := bindE hx1478
          refine o_call hs rfl (by kernel_rfl) (by kernel_rfl) (role_Newer_s h1481 h4 h8 ((hw.pick [0, 1, 2] (by kernel_rfl)).pack 0)) fun a w v hv hs => ?_
          obtain ⟨rfl, hw⟩ := hv
          replace hw := hw.unpack 0 rfl
          refine dg_next (SX_now hS1445 ((hw.vws [0, 1, 2]).anti (Le.refl _)) (by kernel_rfl)) fun hS => ?_
          refine d_all (fuel := 14) (rs := [5]) (by kernel_rfl) (by simp) (all1 ?_)
          obtain ⟨y1482, h1483, hx1478⟩ := bindE hx1478
          refine o_call hs rfl (by kernel_rfl) (by kernel_rfl) (catenaryref19_Newer_s h1483 h4 h8 ((hw.pick [0, 1, 2] (by kernel_rfl)).pack 0)) fun a w v hv hs => ?_
          obtain ⟨rfl, hw⟩ := hv
          replace hw := hw.unpack 0 rfl
          refine dg_next (SX_now hS1445 ((hw.vws [0, 1, 2]).anti (Le.refl _)) (by kernel_rfl)) fun hS => ?_
          refine d_pures (fuel := 12) kS1445 hs hS [6, 7] [2, 3, 4, 59, 60, 62, 63, 61, 64, 65, 66] [(2, .slice p10 x9.length c11), (3, .pointer (some ⟨b856, 0, none⟩)), (4, .pointer (some ⟨b858, 0, none⟩)), (59, .agg #[.int .i64 x1.f0, .int .u64 x1.f1, .slice p2 x1.f2.length c3, .bool x1.f3, .int .i64 x1.f4]), (60, .agg #[.int .i64 x5.f0, .int .u64 x5.f1, .slice p6 x5.f2.length c7, .bool x5.f3, .int .i64 x5.f4]), (62, .agg #[.int .i64 x1.f0, .int .u64 x1.f1, .slice p2 x1.f2.length c3, .bool x1.f3, .int .i64 x1.f4]), (63, .agg #[.int .i64 x5.f0, .int .u64 x5.f1, .slice p6 x5.f2.length c7, .bool x5.f3, .int .i64 x5.f4]), (61, .bool y1480), (64, .bool y1482), (65, .bool (y1480 == y1482)), (66, .bool (y1480 == y1482))] (by kernel_rfl) fun a hs hS => ?_
          rcases ifbE hx1478 with ⟨h1484, hx1478⟩ | ⟨h1484, hx1478⟩
          · replace hs := hs.altB 66 true (by kernel_rfl) h1484
            refine d_load (fuel := 11) kS1445 hs hS 8 rfl (by kernel_rfl) (SX_box hS1445 0 rfl (by kernel_rfl)) 0 (by kernel_rfl) (by kernel_rfl) (v := .agg #[.int .i64 x5.f0, .int .u64 x5.f1, .slice p6 x5.f2.length c7, .bool x5.f3, .int .i64 x5.f4]) (by kernel_rfl) fun a hs hS => ?_
            refine d_pures (fuel := 10) kS1445 hs hS [9] [2, 3, 4, 59, 60, 62, 63, 61, 64, 65, 66, 67, 68] [(2, .slice p10 x9.length c11), (3, .pointer (some ⟨b856, 0, none⟩)), (4, .pointer (some ⟨b858, 0, none⟩)), (59, .agg #[.int .i64 x1.f0, .int .u64 x1.f1, .slice p2 x1.f2.length c3, .bool x1.f3, .int .i64 x1.f4]), (60, .agg #[.int .i64 x5.f0, .int .u64 x5.f1, .slice p6 x5.f2.length c7, .bool x5.f3, .int .i64 x5.f4]), (62, .agg #[.int .i64 x1.f0, .int .u64 x1.f1, .slice p2 x1.f2.length c3, .bool x1.f3, .int .i64 x1.f4]), (63, .agg #[.int .i64 x5.f0, .int .u64 x5.f1, .slice p6 x5.f2.length c7, .bool x5.f3, .int .i64 x5.f4]), (61, .bool y1480), (64, .bool y1482), (65, .bool (y1480 == y1482)), (66, .bool true), (67, .agg #[.int .i64 x5.f0, .int .u64 x5.f1, .slice p6 x5.f2.length c7, .bool x5.f3, .int .i64 x5.f4]), (68, .slice p10 x9.length c11)] (by kernel_rfl) fun a hs hS => ?_
            refine d_load (fuel := 9) kS1445 hs hS 11 rfl (by kernel_rfl) (SX_box hS1445 0 rfl (by kernel_rfl)) 0 (by kernel_rfl) (by kernel_rfl) (v := .agg #[.int .i64 x5.f0, .int .u64 x5.f1, .slice p6 x5.f2.length c7, .bool x5.f3, .int .i64 x5.f4]) (by kernel_rfl) fun a hs hS => ?_
            refine d_pures (fuel := 8) kS1445 hs hS [12] [2, 3, 4, 59, 60, 62, 63, 61, 64, 65, 66, 67, 68, 70, 71] [(2, .slice p10 x9.length c11), (3, .pointer (some ⟨b856, 0, none⟩)), (4, .pointer (some ⟨b858, 0, none⟩)), (59, .agg #[.int .i64 x1.f0, .int .u64 x1.f1, .slice p2 x1.f2.length c3, .bool x1.f3, .int .i64 x1.f4]), (60, .agg #[.int .i64 x5.f0, .int .u64 x5.f1, .slice p6 x5.f2.length c7, .bool x5.f3, .int .i64 x5.f4]), (62, .agg #[.int .i64 x1.f0, .int .u64 x1.f1, .slice p2 x1.f2.length c3, .bool x1.f3, .int .i64 x1.f4]), (63, .agg #[.int .i64 x5.f0, .int .u64 x5.f1, .slice p6 x5.f2.length c7, .bool x5.f3, .int .i64 x5.f4]), (61, .bool y1480), (64, .bool y1482), (65, .bool (y1480 == y1482)), (66, .bool true), (67, .agg #[.int .i64 x5.f0, .int .u64 x5.f1, .slice p6 x5.f2.length c7, .bool x5.f3, .int .i64 x5.f4]), (68, .slice p10 x9.length c11), (70, .agg #[.int .i64 x5.f0, .int .u64 x5.f1, .slice p6 x5.f2.length c7, .bool x5.f3, .int .i64 x5.f4]), (71, .slice p10 x9.length c11)] (by kernel_rfl) fun a hs hS => ?_
            refine d_all (fuel := 7) (rs := [10]) (by kernel_rfl) (by simp) (all1 ?_)
            obtain ⟨y1485, h1486, hx1478⟩ := bindE hx1478
            refine o_call hs rfl (by kernel_rfl) (by kernel_rfl) (role_Missing_2_s h1486 h8 h12 ((hw.pick [0, 1, 2] (by kernel_rfl)).pack 0)) fun a w v hv hs => ?_
            obtain ⟨rfl, hw⟩ := hv
            replace hw := hw.unpack 0 rfl
            refine dg_next (SX_now hS1445 ((hw.vws [0, 1, 2]).anti (Le.refl _)) (by kernel_rfl)) fun hS => ?_
            refine d_all (fuel := 6) (rs := [13]) (by kernel_rfl) (by simp) (all1 ?_)
            obtain ⟨y1487, h1488, hx1478⟩ := bindE hx1478
            refine o_call hs rfl (by kernel_rfl) (by kernel_rfl) (catenaryref19_Missing_s h1488 h8 h12 (nilSub _) ((hw.pick [0, 1, 2] (by kernel_rfl)).pack 0)) fun a w v hv hs => ?_
            obtain ⟨rfl, hw⟩ := hv
            replace hw := hw.unpack 0 rfl
            refine dg_next (SX_now hS1445 ((hw.vws [0, 1, 2]).anti (Le.refl _)) (by kernel_rfl)) fun hS => ?_
            refine d_pures (fuel := 3) kS1445 hs hS [14, 15, 16] [2, 3, 4, 59, 60, 62, 63, 61, 64, 65, 66, 67, 68, 70, 71, 69, 72, 73, 74, 75] [(2, .slice p10 x9.length c11), (3, .pointer (some ⟨b856, 0, none⟩)), (4, .pointer (some ⟨b858, 0, none⟩)), (59, .agg #[.int .i64 x1.f0, .int .u64 x1.f1, .slice p2 x1.f2.length c3, .bool x1.f3, .int .i64 x1.f4]), (60, .agg #[.int .i64 x5.f0, .int .u64 x5.f1, .slice p6 x5.f2.length c7, .bool x5.f3, .int .i64 x5.f4]), (62, .agg #[.int .i64 x1.f0, .int .u64 x1.f1, .slice p2 x1.f2.length c3, .bool x1.f3, .int .i64 x1.f4]), (63, .agg #[.int .i64 x5.f0, .int .u64 x5.f1, .slice p6 x5.f2.length c7, .bool x5.f3, .int .i64 x5.f4]), (61, .bool y1480), (64, .bool y1482), (65, .bool (y1480 == y1482)), (66, .bool true), (67, .agg #[.int .i64 x5.f0, .int .u64 x5.f1, .slice p6 x5.f2.length c7, .bool x5.f3, .int .i64 x5.f4]), (68, .slice p10 x9.length c11), (70, .agg #[.int .i64 x5.f0, .int .u64 x5.f1, .slice p6 x5.f2.length c7, .bool x5.f3, .int .i64 x5.f4]), (71, .slice p10 x9.length c11), (69, .bool y1485), (72, .bool y1487), (73, .bool (y1485 == y1487)), (74, .bool (y1485 == y1487)), (75, .bool (y1485 == y1487))] (by kernel_rfl) fun a hs hS => ?_
            rcases ifbE hx1478 with ⟨h1489, hx1478⟩ | ⟨h1489, hx1478⟩
            · replace hs := hs.altB 75 true (by kernel_rfl) h1489
              refine d_all (fuel := 2) (rs := [17]) (by kernel_rfl) (by simp) (all1 ?_)
              obtain ⟨y1490, h1491, hx1478⟩ := bindE hx1478
              refine o_call hs rfl (by kernel_rfl) (by kernel_rfl) (catenarylaw19_awake_s h1491 ((hw.pick [0, 1, 2] (by kernel_rfl)).pack 0)) fun a w v hv hs => ?_
              obtain ⟨ih1492, rfl, hw, hle1493⟩ := hv
              replace hw := hw.unpack 0 rfl
              refine dg_next (SX_now hS1445 ((hw.vws [0, 1, 2]).anti hle1493) (by kernel_rfl)) fun hS => ?_
              refine d_pures (fuel := 0) kS1445 hs hS [18, 19] [2, 3, 4, 59, 60, 62, 63, 61, 64, 65, 66, 67, 68, 70, 71, 69, 72, 73, 74, 75, 76, 77, 6] [(2, .slice p10 x9.length c11), (3, .pointer (some ⟨b856, 0, none⟩)), (4, .pointer (some ⟨b858, 0, none⟩)), (59, .agg #[.int .i64 x1.f0, .int .u64 x1.f1, .slice p2 x1.f2.length c3, .bool x1.f3, .int .i64 x1.f4]), (60, .agg #[.int .i64 x5.f0, .int .u64 x5.f1, .slice p6 x5.f2.length c7, .bool x5.f3, .int .i64 x5.f4]), (62, .agg #[.int .i64 x1.f0, .int .u64 x1.f1, .slice p2 x1.f2.length c3, .bool x1.f3, .int .i64 x1.f4]), (63, .agg #[.int .i64 x5.f0, .int .u64 x5.f1, .slice p6 x5.f2.length c7, .bool x5.f3, .int .i64 x5.f4]), (61, .bool y1480), (64, .bool y1482), (65, .bool (y1480 == y1482)), (66, .bool true), (67, .agg #[.int .i64 x5.f0, .int .u64 x5.f1, .slice p6 x5.f2.length c7, .bool x5.f3, .int .i64 x5.f4]), (68, .slice p10 x9.length c11), (70, .agg #[.int .i64 x5.f0, .int .u64 x5.f1, .slice p6 x5.f2.length c7, .bool x5.f3, .int .i64 x5.f4]), (71, .slice p10 x9.length c11), (69, .bool y1485), (72, .bool y1487), (73, .bool (y1485 == y1487)), (74, .bool (y1485 == y1487)), (75, .bool true), (76, .bool y1490), (77, .bool y1490), (6, .bool y1490)] (by kernel_rfl) fun a hs hS => ?_
              refine d_done (by kernel_rfl) ?_
              obtain rfl := someE hx1478
              exact (hJ1479 _ _).2 ⟨y1490, ih1492, hk, hs.cast [6] (by kernel_rfl), hw.pick [2] (by kernel_rfl), hle1493⟩
            · replace hs := hs.altB 75 false (by kernel_rfl) h1489
              refine d_pures (fuel := 0) kS1445 hs hS [17, 18, 19] [2, 3, 4, 59, 60, 62, 63, 61, 64, 65, 66, 67, 68, 70, 71, 69, 72, 73, 74, 75, 76, 77, 6] [(2, .slice p10 x9.length c11), (3, .pointer (some ⟨b856, 0, none⟩)), (4, .pointer (some ⟨b858, 0, none⟩)), (59, .agg #[.int .i64 x1.f0, .int .u64 x1.f1, .slice p2 x1.f2.length c3, .bool x1.f3, .int .i64 x1.f4]), (60, .agg #[.int .i64 x5.f0, .int .u64 x5.f1, .slice p6 x5.f2.length c7, .bool x5.f3, .int .i64 x5.f4]), (62, .agg #[.int .i64 x1.f0, .int .u64 x1.f1, .slice p2 x1.f2.length c3, .bool x1.f3, .int .i64 x1.f4]), (63, .agg #[.int .i64 x5.f0, .int .u64 x5.f1, .slice p6 x5.f2.length c7, .bool x5.f3, .int .i64 x5.f4]), (61, .bool y1480), (64, .bool y1482), (65, .bool (y1480 == y1482)), (66, .bool true), (67, .agg #[.int .i64 x5.f0, .int .u64 x5.f1, .slice p6 x5.f2.length c7, .bool x5.f3, .int .i64 x5.f4]), (68, .slice p10 x9.length c11), (70, .agg #[.int .i64 x5.f0, .int .u64 x5.f1, .slice p6 x5.f2.length c7, .bool x5.f3, .int .i64 x5.f4]), (71, .slice p10 x9.length c11), (69, .bool y1485), (72, .bool y1487), (73, .bool (y1485 == y1487)), (74, .bool (y1485 == y1487)), (75, .bool false), (76, undef), (77, .bool false), (6, .bool false)] (by kernel_rfl) fun a hs hS => ?_
              refine d_done (by kernel_rfl) ?_
              obtain rfl := someE hx1478
              exact (hJ1479 _ _).2 ⟨false, ih, hk, hs.cast [6] (by kernel_rfl), hw.pick [2] (by kernel_rfl), (Le.refl _)⟩
          · replace hs := hs.altB 66 false (by kernel_rfl) h1484
            refine d_pures (fuel := 0) kS1445 hs hS [8, 9, 10, 11, 12, 13, 14, 15, 16, 17, 18, 19] [2, 3, 4, 59, 60, 62, 63, 61, 64, 65, 66, 67, 68, 69, 70, 71, 72, 73, 74, 75, 76, 77, 6] [(2, .slice p10 x9.length c11), (3, .pointer (some ⟨b856, 0, none⟩)), (4, .pointer (some ⟨b858, 0, none⟩)), (59, .agg #[.int .i64 x1.f0, .int .u64 x1.f1, .slice p2 x1.f2.length c3, .bool x1.f3, .int .i64 x1.f4]), (60, .agg #[.int .i64 x5.f0, .int .u64 x5.f1, .slice p6 x5.f2.length c7, .bool x5.f3, .int .i64 x5.f4]), (62, .agg #[.int .i64 x1.f0, .int .u64 x1.f1, .slice p2 x1.f2.length c3, .bool x1.f3, .int .i64 x1.f4]), (63, .agg #[.int .i64 x5.f0, .int .u64 x5.f1, .slice p6 x5.f2.length c7, .bool x5.f3, .int .i64 x5.f4]), (61, .bool y1480), (64, .bool y1482), (65, .bool (y1480 == y1482)), (66, .bool false), (67, undef), (68, undef), (69, undef), (70, undef), (71, undef), (72, undef), (73, undef), (74, .bool false), (75, .bool false), (76, undef), (77, .bool false), (6, .bool false)] (by kernel_rfl) fun a hs hS => ?_
            refine d_done (by kernel_rfl) ?_
            obtain rfl := someE hx1478
            exact (hJ1479 _ _).2 ⟨false, ih, hk, hs.cast [6] (by kernel_rfl), hw.pick [2] (by kernel_rfl), (Le.refl _)⟩
        · intro a w hh
          obtain ⟨x1476, ih1474, hk, hs, hw, hle1475⟩ := (hJ1479 _ _).1 hh
          refine wp_ret ?_
          obtain rfl := someE hk
          refine hQ _ _ (f_ret1 hs rfl (v := .bool x1476) (by kernel_rfl) ⟨ih1474, rfl, hw.pick [0] (by kernel_rfl), hle1475⟩)
end Go.Proofs.Ytfpppgbibgbllaa.Sx
