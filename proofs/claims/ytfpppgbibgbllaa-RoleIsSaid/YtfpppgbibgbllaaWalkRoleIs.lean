/- The walk of RoleIs: each Go function it calls, as a plain function, and the proof that the call computes it. Printed by the program gen.py.
   Conditions: those that each theorem states ahead of its colon, and no other. -/
import Derived.Test.YtfpppgbibgbllaaSx9
import Derived.Test.YtfpppgbibgbllaaProg
namespace Go.Proofs.Ytfpppgbibgbllaa.Sx
open Go Go.Proofs
set_option maxRecDepth 100000
set_option linter.unusedVariables false
@[reducible] def e3 : ET := eInt .i64 3
structure M53 where
  f0 : Int
  f1 : Int
  f2 : List Int
  f3 : Bool
  f4 : Int
@[reducible] def e53 : ET := ⟨M53, 5, 53, fun ih x cs => ∃ q0 k0, cs = [.int .i64 x.f0, .int .u64 x.f1, .slice q0 x.f2.length k0, .bool x.f3, .int .i64 x.f4] ∧ RSl e3 ih [] q0 k0 x.f2,
  fun ⟨_, _, h, g0⟩ => by rw [h]; rfl, fun ⟨_, _, h, g0⟩ => by rw [h]; rfl, fun ⟨p0, p1, h, g0⟩ hle => ⟨p0, p1, h, g0.mono hle⟩⟩
@[reducible] def e23 : ET := eInt .u64 23
@[reducible] def e40 : ET := eSl 40 e3
@[reducible] def e4 : ET := eBool 4
structure M56 where
  f0 : Bool
  f1 : Bool
  f2 : Bool
  f3 : Bool
  f4 : Bool
  f5 : Int
  f6 : Int
  f7 : Int
@[reducible] def e56 : ET := ⟨M56, 8, 56, fun ih x cs => cs = [.bool x.f0, .bool x.f1, .bool x.f2, .bool x.f3, .bool x.f4, .int .i64 x.f5, .int .i64 x.f6, .int .i64 x.f7],
  fun h => by rw [h]; rfl, fun h => by rw [h]; rfl, fun h hle => h⟩
structure M59 where
  f0 : Bool
  f1 : Bool
  f2 : Bool
  f3 : Bool
  f4 : Bool
  f5 : Int
  f6 : Int
  f7 : Int
@[reducible] def e59 : ET := ⟨M59, 8, 59, fun ih x cs => cs = [.bool x.f0, .bool x.f1, .bool x.f2, .bool x.f3, .bool x.f4, .int .i64 x.f5, .int .i64 x.f6, .int .i64 x.f7],
  fun h => by rw [h]; rfl, fun h => by rw [h]; rfl, fun h hle => h⟩
theorem appT40 : AppT Try.prog 40 e3 := appT_of (by kernel_rfl)
def slices_Clone_int_int (x1 : List Int) : Option (List Int) :=
  (app [] x1).bind fun x => some x
theorem slices_Clone_int_int_s {x1 : List Int} {p2 : Option Addr} {c3 : Nat} {d5 : Ch} {r : List Int} (hk : slices_Clone_int_int x1 = some r) {g w : World} {F : Ch} {ih : IH} (h4 : RSl e3 ih d5 p2 c3 x1) (h6 : ∀ q ∈ d5, q ∈ F) (hw : St g w [F] ih) :
    CallsR Try.prog 114 #[.slice p2 x1.length c3] w fun v w' => ∃ (p : Option Addr) (c : Nat) (d : Ch), v = .slice p r.length c ∧ St g w' [d, F] ih ∧ OSl e3 ih p c r d := by
  rcases p2 with _ | q
  · obtain ⟨_, rfl, rfl⟩ := h4
    replace hk : some [] = some r := hk
    refine f_in (vs := [.slice none 0 0]) Try.func114 rfl 8 rfl (by kernel_rfl) [(0, .slice none 0 0)] (by kernel_rfl) fun a Qf hQ hQn hs => ?_
    refine c_seq ?_
    refine c_region ?_
    refine pures hs 1 [0] [(0, .slice none 0 0)] (by kernel_rfl) fun a hs => ?_
    refine s_end ?_
    refine c_seq ?_
    refine c_seq ?_
    refine c_region ?_
    refine pures hs 2 [0, 4] [(0, .slice none 0 0), (4, .bool true)] (by kernel_rfl) fun a hs => ?_
    refine s_end ?_
    refine c_condT hs (by kernel_rfl) (by kernel_rfl) ?_
    refine c_seq ?_
    refine c_region ?_
    refine pures hs 1 [2] [(2, .slice none 0 0)] (by kernel_rfl) fun a hs => ?_
    refine s_end ?_
    refine wp_ret ?_
    replace hw := hw.nil
    obtain rfl := someE hk
    refine hQ _ _ (f_ret1 hs rfl (v := .slice none 0 0) (by kernel_rfl) ⟨none, 0, ([]), rfl, hw.pick [0, 1] (by kernel_rfl), (OSl.nil _ _)⟩)
  · refine f_in (vs := [.slice (some q) x1.length c3]) Try.func114 rfl 8 rfl (by kernel_rfl) [(0, .slice (some q) x1.length c3)] (by kernel_rfl) fun a Qf hQ hQn hs => ?_
    refine c_seq ?_
    refine c_region ?_
    refine pures hs 1 [0] [(0, .slice (some q) x1.length c3)] (by kernel_rfl) fun a hs => ?_
    refine s_end ?_
    refine c_seq ?_
    refine c_seq ?_
    refine c_region ?_
    refine pures hs 2 [0, 4] [(0, .slice (some q) x1.length c3), (4, .bool false)] (by kernel_rfl) fun a hs => ?_
    refine s_end ?_
    refine c_condF hs (by kernel_rfl) (by kernel_rfl) ?_
    refine wp_skip ?_
    refine c_seq ?_
    refine c_region ?_
    refine s_new hs hw [] 3 (fun b => .slice (some ⟨b, 0, none⟩) 0 0) (by kernel_rfl) (fun _ => by kernel_rfl) fun a w b18 hs hw => ?_
    refine pures hs 1 [5, 6] [(5, .slice (some ⟨b18, 0, none⟩) 0 0), (6, .slice (some q) x1.length c3)] (by kernel_rfl) fun a hs => ?_
    obtain ⟨x20, h21, hk⟩ := bindE hk
    refine s_appS hs hw (E := e3) appT40 0 rfl OSl.of0 (by kernel_rfl) (by kernel_rfl) (h4.mono (Le.refl _)) (((hw.vw 1 rfl).sub h6).anti (Le.refl _)) (by kernel_rfl) h21 fun a w p22 c23 d24 h25 hw hs => ?_
    refine pures hs 1 [2] [(2, .slice p22 x20.length c23)] (by kernel_rfl) fun a hs => ?_
    refine s_end ?_
    refine wp_ret ?_
    obtain rfl := someE hk
    refine hQ _ _ (f_ret1 hs rfl (v := .slice p22 x20.length c23) (by kernel_rfl) ⟨p22, c23, d24, rfl, hw.pick [0, 1] (by kernel_rfl), h25⟩)
def conf_everybody_r2 (x207 : List Int) : Option (List Int) :=
  some x207
def conf_everybody (x1 : M53) : Option (List Int) :=
  if (x1.f4 == 0) = true then (
    (slices_Clone_int_int x1.f2).bind fun y139 =>
    some y139)
  else ((slices_Clone_int_int x1.f2).bind fun y216 =>
    (app y216 [x1.f4]).bind fun x225 =>
    some x225 : Option (List Int)).bind fun s246 => conf_everybody_r2 s246
theorem conf_everybody_s {x1 : M53} {p2 : Option Addr} {c3 : Nat} {r : (List Int)} (hk : conf_everybody x1 = some r) {g w : World} {F : Ch} {ih : IH} (h4 : RSl e3 ih [] p2 c3 x1.f2) (hw : St g w [F] ih) :
    CallsR Try.prog 109 #[.agg #[.int .i64 x1.f0, .int .u64 x1.f1, .slice p2 x1.f2.length c3, .bool x1.f3, .int .i64 x1.f4]] w fun v w' => ∃ (p247 : Option Addr) (c248 : Nat) (d249 : Ch), v = .slice p247 r.length c248 ∧ St g w' [d249, F] ih ∧ OSl e3 ih p247 c248 r d249 := by
  refine f_in (vs := [.agg #[.int .i64 x1.f0, .int .u64 x1.f1, .slice p2 x1.f2.length c3, .bool x1.f3, .int .i64 x1.f4]]) Try.func109 rfl 16 rfl (by kernel_rfl) [(0, .agg #[.int .i64 x1.f0, .int .u64 x1.f1, .slice p2 x1.f2.length c3, .bool x1.f3, .int .i64 x1.f4])] (by kernel_rfl) fun a Qf hQ hQn hs => ?_
  refine c_seq ?_
  refine c_region ?_
  refine s_new hs hw [.int .i64 x1.f0, .int .u64 x1.f1, .slice p2 x1.f2.length c3, .bool x1.f3, .int .i64 x1.f4] 53 (fun b => .pointer (some ⟨b, 0, none⟩)) (by kernel_rfl) (fun _ => by kernel_rfl) fun a w b129 hs hw => ?_
  refine pures hs 1 [1] [(1, .pointer (some ⟨b129, 0, none⟩))] (by kernel_rfl) fun a hs => ?_
  refine s_end ?_
  refine c_seq ?_
  refine c_seq ?_
  refine c_region ?_
  refine pures hs 1 [1, 3] [(1, .pointer (some ⟨b129, 0, none⟩)), (3, .pointer (some ⟨b129, 4, none⟩))] (by kernel_rfl) fun a hs => ?_
  refine s_load hs (hw.at_ 0 rfl) 4 (by kernel_rfl) (by kernel_rfl) (v := .int .i64 x1.f4) (by kernel_rfl) fun a hs => ?_
  refine pures hs 1 [1, 5] [(1, .pointer (some ⟨b129, 0, none⟩)), (5, .bool (x1.f4 == 0))] (by kernel_rfl) fun a hs => ?_
  refine s_end ?_
  rcases ifbE hk with ⟨h131, hk⟩ | ⟨h131, hk⟩
  · refine c_cond1 hs (by kernel_rfl) (t := (x1.f4 == 0)) (by kernel_rfl) h131 ?_
    refine c_seq ?_
    refine c_region ?_
    refine pures hs 1 [6] [(6, .pointer (some ⟨b129, 2, none⟩))] (by kernel_rfl) fun a hs => ?_
    refine s_load hs (hw.at_ 0 rfl) 2 (by kernel_rfl) (by kernel_rfl) (v := .slice p2 x1.f2.length c3) (by kernel_rfl) fun a hs => ?_
    obtain ⟨y139, h140, hk⟩ := bindE hk
    refine s_call hs (by kernel_rfl) (by kernel_rfl) (slices_Clone_int_int_s h140 h4 (nilSub _) ((hw.pick [1] (by kernel_rfl)).pack 0)) fun a w v hv hs => ?_
    obtain ⟨p141, c142, d144, rfl, hw, h143⟩ := hv
    replace hw := hw.unpack 1 rfl
    refine pures hs 1 [2] [(2, .slice p141 y139.length c142)] (by kernel_rfl) fun a hs => ?_
    refine s_end ?_
    refine wp_ret ?_
    obtain rfl := someE hk
    refine hQ _ _ (f_ret1 hs rfl (v := .slice p141 y139.length c142) (by kernel_rfl) ⟨p141, c142, d144, rfl, hw.pick [0, 1] (by kernel_rfl), h143⟩)
  · refine c_cond0 hs (by kernel_rfl) (t := (x1.f4 == 0)) (by kernel_rfl) h131 ?_
    refine wp_skip ?_
    refine c_seq ?_
    obtain ⟨S146, hS146, kS146⟩ := mkSX (X := [([], bx b129 [.int .i64 x1.f0, .int .u64 x1.f1, .slice p2 x1.f2.length c3, .bool x1.f3, .int .i64 x1.f4] 53), ([], F)]) (ih := ih) (K := []) rfl
    obtain ⟨y213, hx214, hk⟩ := bindE hk
    obtain ⟨J215, hJ215⟩ : ∃ J : Act → World → Prop, ∀ a w, J a w ↔ (∃ (x207 : List Int) (p208 : Option Addr) (c209 : Nat) (d211 : Ch), conf_everybody_r2 x207 = some r ∧ Sees a 16 [(2, .slice p208 x207.length c209)] ∧ St g w [d211, F] ih ∧ OSl e3 ih p208 c209 x207 d211) := ⟨_, fun _ _ => Iff.rfl⟩
    refine c_draw (by kernel_rfl) (N := 8) rfl S146 J215 ?_ ?_
    · have hw := hw.drew
      have hS : S146 (Array.replicate 8 false) _ := SX_now hS146 (hw.vws [0, 1]) (by kernel_rfl)
      refine d_pures (fuel := 7) kS146 hs hS [0] [1, 9] [(1, .pointer (some ⟨b129, 0, none⟩)), (9, .pointer (some ⟨b129, 2, none⟩))] (by kernel_rfl) fun a hs hS => ?_
      refine d_load (fuel := 6) kS146 hs hS 1 rfl (by kernel_rfl) (SX_box hS146 0 rfl (by kernel_rfl)) 2 (by kernel_rfl) (by kernel_rfl) (v := .slice p2 x1.f2.length c3) (by kernel_rfl) fun a hs hS => ?_
      refine d_pures (fuel := 5) kS146 hs hS [3] [1, 9, 10, 12] [(1, .pointer (some ⟨b129, 0, none⟩)), (9, .pointer (some ⟨b129, 2, none⟩)), (10, .slice p2 x1.f2.length c3), (12, .pointer (some ⟨b129, 4, none⟩))] (by kernel_rfl) fun a hs hS => ?_
      refine d_load (fuel := 4) kS146 hs hS 4 rfl (by kernel_rfl) (SX_box hS146 0 rfl (by kernel_rfl)) 4 (by kernel_rfl) (by kernel_rfl) (v := .int .i64 x1.f4) (by kernel_rfl) fun a hs hS => ?_
      refine d_all (fuel := 3) (rs := [2, 5]) (by kernel_rfl) (by simp) (all2 ?_ (all1 ?_))
      · obtain ⟨y216, h217, hx214⟩ := bindE hx214
        refine o_call hs rfl (by kernel_rfl) (by kernel_rfl) (slices_Clone_int_int_s h217 h4 (nilSub _) ((hw.pick [0, 1] (by kernel_rfl)).pack 0)) fun a w v hv hs => ?_
        obtain ⟨p218, c219, d221, rfl, hw, h220⟩ := hv
        replace hw := hw.unpack 1 rfl
        refine dg_next (SX_now hS146 ((hw.vws [1, 2]).anti (Le.refl _)) (by kernel_rfl)) fun hS => ?_
        refine d_all (fuel := 2) (rs := [5]) (by kernel_rfl) (by simp) (all1 ?_)
        refine o_new hs rfl hw [.int .i64 x1.f4] 3 (fun b => .slice (some ⟨b, 0, none⟩) 1 1) (by kernel_rfl) (fun _ => by kernel_rfl) fun a w b223 hs hw => ?_
        refine dg_next (SX_now hS146 ((hw.vws [2, 3]).anti (Le.refl _)) (by kernel_rfl)) fun hS => ?_
        refine d_all (fuel := 1) (rs := [6]) (by kernel_rfl) (by simp) (all1 ?_)
        obtain ⟨x225, h226, hx214⟩ := bindE hx214
        refine o_app1 hs rfl hw (E := e3) appT40 1 rfl h220 (by kernel_rfl) (by kernel_rfl) (c2 := 1) (by kernel_rfl) (hw.at_ 0 rfl) (z := x1.f4) rfl h226 fun a w p227 c228 d229 h230 hw hs => ?_
        refine dg_next (SX_now hS146 ((hw.vws [2, 3]).anti (Le.refl _)) (by kernel_rfl)) fun hS => ?_
        refine d_pures (fuel := 0) kS146 hs hS [7] [1, 9, 10, 12, 13, 14, 15, 2] [(1, .pointer (some ⟨b129, 0, none⟩)), (9, .pointer (some ⟨b129, 2, none⟩)), (10, .slice p2 x1.f2.length c3), (12, .pointer (some ⟨b129, 4, none⟩)), (13, .int .i64 x1.f4), (14, .slice (some ⟨b223, 0, none⟩) 1 1), (15, .slice p227 x225.length c228), (2, .slice p227 x225.length c228)] (by kernel_rfl) fun a hs hS => ?_
        refine d_done (by kernel_rfl) ?_
        obtain rfl := someE hx214
        exact (hJ215 _ _).2 ⟨x225, p227, c228, d229, hk, hs.cast [2] (by kernel_rfl), hw.pick [1, 3] (by kernel_rfl), h230⟩
      · refine o_new hs rfl hw [.int .i64 x1.f4] 3 (fun b => .slice (some ⟨b, 0, none⟩) 1 1) (by kernel_rfl) (fun _ => by kernel_rfl) fun a w b231 hs hw => ?_
        refine dg_next (SX_now hS146 ((hw.vws [1, 2]).anti (Le.refl _)) (by kernel_rfl)) fun hS => ?_
        refine d_all (fuel := 2) (rs := [2]) (by kernel_rfl) (by simp) (all1 ?_)
        obtain ⟨y233, h234, hx214⟩ := bindE hx214
        refine o_call hs rfl (by kernel_rfl) (by kernel_rfl) (slices_Clone_int_int_s h234 h4 (nilSub _) ((hw.pick [0, 1, 2] (by kernel_rfl)).pack 0)) fun a w v hv hs => ?_
        obtain ⟨p235, c236, d238, rfl, hw, h237⟩ := hv
        replace hw := hw.unpack 1 rfl
        refine dg_next (SX_now hS146 ((hw.vws [2, 3]).anti (Le.refl _)) (by kernel_rfl)) fun hS => ?_
        refine d_all (fuel := 1) (rs := [6]) (by kernel_rfl) (by simp) (all1 ?_)
        obtain ⟨x240, h241, hx214⟩ := bindE hx214
        refine o_app1 hs rfl hw (E := e3) appT40 0 rfl h237 (by kernel_rfl) (by kernel_rfl) (c2 := 1) (by kernel_rfl) (hw.at_ 1 rfl) (z := x1.f4) rfl h241 fun a w p242 c243 d244 h245 hw hs => ?_
        refine dg_next (SX_now hS146 ((hw.vws [2, 3]).anti (Le.refl _)) (by kernel_rfl)) fun hS => ?_
        refine d_pures (fuel := 0) kS146 hs hS [7] [1, 9, 10, 12, 13, 14, 15, 2] [(1, .pointer (some ⟨b129, 0, none⟩)), (9, .pointer (some ⟨b129, 2, none⟩)), (10, .slice p2 x1.f2.length c3), (12, .pointer (some ⟨b129, 4, none⟩)), (13, .int .i64 x1.f4), (14, .slice (some ⟨b231, 0, none⟩) 1 1), (15, .slice p242 x240.length c243), (2, .slice p242 x240.length c243)] (by kernel_rfl) fun a hs hS => ?_
        refine d_done (by kernel_rfl) ?_
        obtain rfl := someE hx214
        exact (hJ215 _ _).2 ⟨x240, p242, c243, d244, hk, hs.cast [2] (by kernel_rfl), hw.pick [0, 3] (by kernel_rfl), h245⟩
    · intro a w hh
      obtain ⟨x207, p208, c209, d211, hk, hs, hw, h210⟩ := (hJ215 _ _).1 hh
      refine wp_ret ?_
      obtain rfl := someE hk
      refine hQ _ _ (f_ret1 hs rfl (v := .slice p208 x207.length c209) (by kernel_rfl) ⟨p208, c209, d211, rfl, hw.pick [0, 1] (by kernel_rfl), h210⟩)
def conf_node (x1 : Int) : Option Bool :=
  some ((decide (x1 ≥ 1)) && (decide (x1 ≤ 24)))
theorem conf_node_s {x1 : Int} {r : Bool} (hk : conf_node x1 = some r) {g w : World} {F : Ch} {ih : IH} (hw : St g w [F] ih) :
    CallsR Try.prog 113 #[.int .i64 x1] w fun v w' => v = .bool r ∧ St g w' [F] ih := by
  refine f_in (vs := [.int .i64 x1]) Try.func113 rfl 9 rfl (by kernel_rfl) [(0, .int .i64 x1)] (by kernel_rfl) fun a Qf hQ hQn hs => ?_
  refine c_seq ?_
  refine c_region ?_
  refine pures hs 1 [0] [(0, .int .i64 x1)] (by kernel_rfl) fun a hs => ?_
  refine s_end ?_
  refine c_seq ?_
  obtain ⟨J12, hJ12⟩ : ∃ J : Act → World → Prop, ∀ a w, J a w ↔ (Sees a 9 [(2, .bool ((decide (x1 ≥ 1)) && (decide (x1 ≤ 24))))] ∧ St g w [F] ih) := ⟨_, fun _ _ => Iff.rfl⟩
  refine c_regJ J12 ?_ ?_
  · refine pures hs 3 [0, 5] [(0, .int .i64 x1), (5, .bool (decide (x1 ≥ 1)))] (by kernel_rfl) fun a hs => ?_
    rcases boolE (decide (x1 ≥ 1)) with h13 | h13
    · replace hs := hs.altB 5 true (by kernel_rfl) h13
      refine pures hs 4 [2] [(2, .bool (decide (x1 ≤ 24)))] (by kernel_rfl) fun a hs => ?_
      refine s_end ?_
      exact (hJ12 _ _).2 ⟨(hs.altB 2 ((decide (x1 ≥ 1)) && (decide (x1 ≤ 24))) (by kernel_rfl) (by rw [h13] <;> rfl)).cast [2] (by kernel_rfl), hw.pick [0] (by kernel_rfl)⟩
    · replace hs := hs.altB 5 false (by kernel_rfl) h13
      refine pures hs 4 [2] [(2, .bool false)] (by kernel_rfl) fun a hs => ?_
      refine s_end ?_
      exact (hJ12 _ _).2 ⟨(hs.altB 2 ((decide (x1 ≥ 1)) && (decide (x1 ≤ 24))) (by kernel_rfl) (by rw [h13] <;> rfl)).cast [2] (by kernel_rfl), hw.pick [0] (by kernel_rfl)⟩
  · intro a w hh
    obtain ⟨hs, hw⟩ := (hJ12 _ _).1 hh
    refine wp_ret ?_
    obtain rfl := someE hk
    refine hQ _ _ (f_ret1 hs rfl (v := .bool ((decide (x1 ≥ 1)) && (decide (x1 ≤ 24)))) (by kernel_rfl) ⟨rfl, hw.pick [0] (by kernel_rfl)⟩)
def slices_Index_int_int_r3 : Option Int :=
  some (-1)
def slices_Index_int_int_l4 (x1 : List Int) (x7 : Int) : Nat → Int → Option (Sum Int Unit)
  | 0, _ => none
  | j + 1, x78 =>
    if (decide (x78 < (x1.length : Int))) = true then (
      (ix x1 x78).bind fun x98 =>
      if (x7 == x98) = true then some (.inl x78)
      else slices_Index_int_int_l4 x1 x7 j (IntKind.i64.wrap (x78 + 1)))
    else some (.inr ())
def slices_Index_int_int (k : Nat) (x1 : List Int) (x7 : Int) : Option Int :=
  (slices_Index_int_int_l4 x1 x7 k 0 : Option (Sum Int Unit)).bind fun
    | .inl z => some z
    | .inr _ => slices_Index_int_int_r3
theorem slices_Index_int_int_s {k : Nat} {x1 : List Int} {x7 : Int} {p2 : Option Addr} {c3 : Nat} {d5 : Ch} {r : Int} (hk : slices_Index_int_int k x1 x7 = some r) {g w : World} {F : Ch} {ih : IH} (h4 : RSl e3 ih d5 p2 c3 x1) (h6 : ∀ q ∈ d5, q ∈ F) (hw : St g w [F] ih) :
    CallsR Try.prog 81 #[.slice p2 x1.length c3, .int .i64 x7] w fun v w' => v = .int .i64 r ∧ St g w' [F] ih := by
  refine f_in (vs := [.slice p2 x1.length c3, .int .i64 x7]) Try.func81 rfl 19 rfl (by kernel_rfl) [(0, .slice p2 x1.length c3), (1, .int .i64 x7)] (by kernel_rfl) fun a Qf hQ hQn hs => ?_
  refine c_seq ?_
  refine c_region ?_
  refine pures hs 1 [0, 1] [(0, .slice p2 x1.length c3), (1, .int .i64 x7)] (by kernel_rfl) fun a hs => ?_
  refine s_end ?_
  refine c_seq ?_
  refine c_seq ?_
  refine c_region ?_
  refine pures hs 3 [0, 1, 7, 8] [(0, .slice p2 x1.length c3), (1, .int .i64 x7), (7, .int .i64 (x1.length : Int)), (8, .int .i64 0)] (by kernel_rfl) fun a hs => ?_
  refine s_end ?_
  refine c_block ?_
  obtain ⟨y89, hx90, hk⟩ := bindE hk
  obtain ⟨J91, hJ91⟩ : ∃ J : Act → World → Prop, ∀ a w, J a w ↔ (slices_Index_int_int_r3 = some r ∧ Sees a 19 [] ∧ St g w [F] ih) := ⟨_, fun _ _ => Iff.rfl⟩
  obtain ⟨I92, hI92⟩ : ∃ J : Nat → Act → World → Prop, ∀ j a w, J j a w ↔ (∃ (x78 : Int), slices_Index_int_int_l4 x1 x7 j x78 = some y89 ∧ Sees a 19 [(0, .slice p2 x1.length c3), (1, .int .i64 x7), (7, .int .i64 (x1.length : Int)), (8, .int .i64 x78)] ∧ St g w [F] ih) := ⟨_, fun _ _ _ => Iff.rfl⟩
  refine c_exitJ 0 J91 ?_ ?_
  · refine c_loop I92 k ((hI92 _ _ _).2 ⟨0, hx90, hs.cast [0, 1, 7, 8] (by kernel_rfl), hw.pick [0] (by kernel_rfl)⟩) (fun a w h0 => ?_) fun j a w hh => ?_
    · obtain ⟨_, h, _⟩ := (hI92 _ _ _).1 h0
      cases h
    · obtain ⟨x78, hx90, hs, hw⟩ := (hI92 _ _ _).1 hh
      refine c_seq ?_
      refine c_region ?_
      refine pures hs 1 [0, 1, 7, 8, 9] [(0, .slice p2 x1.length c3), (1, .int .i64 x7), (7, .int .i64 (x1.length : Int)), (8, .int .i64 x78), (9, .bool (decide (x78 < (x1.length : Int))))] (by kernel_rfl) fun a hs => ?_
      refine s_end ?_
      refine c_seq ?_
      rcases ifbE hx90 with ⟨h93, hx90⟩ | ⟨h93, hx90⟩
      · refine c_cond1 hs (by kernel_rfl) (t := (decide (x78 < (x1.length : Int)))) (by kernel_rfl) h93 ?_
        refine wp_skip ?_
        refine c_seq ?_
        refine c_block ?_
        refine c_seq ?_
        refine c_region ?_
        refine pures hs 2 [0, 1, 7, 8, 5] [(0, .slice p2 x1.length c3), (1, .int .i64 x7), (7, .int .i64 (x1.length : Int)), (8, .int .i64 x78), (5, .int .i64 x78)] (by kernel_rfl) fun a hs => ?_
        refine s_end ?_
        refine c_seq ?_
        refine c_region ?_
        refine pures hs 3 [0, 1, 7, 8, 5, 11, 12, 13] [(0, .slice p2 x1.length c3), (1, .int .i64 x7), (7, .int .i64 (x1.length : Int)), (8, .int .i64 x78), (5, .int .i64 x78), (11, .int .i64 x7), (12, .slice p2 x1.length c3), (13, .int .i64 x78)] (by kernel_rfl) fun a hs => ?_
        obtain ⟨x98, h99, hx90⟩ := bindE hx90
        refine s_index hs h4 (by kernel_rfl) (by kernel_rfl) (k := .i64) (by kernel_rfl) 3 (by kernel_rfl) (by kernel_rfl) h99 fun a r100 cs henc at101 hs => ?_
        obtain rfl := henc
        refine s_load hs (at101 _ (((hw.vw 0 rfl).sub h6).anti (Le.refl _))) 0 (by kernel_rfl) (by kernel_rfl) (v := .int .i64 x98) (by kernel_rfl) fun a hs => ?_
        refine pures hs 1 [0, 1, 7, 8, 5, 16] [(0, .slice p2 x1.length c3), (1, .int .i64 x7), (7, .int .i64 (x1.length : Int)), (8, .int .i64 x78), (5, .int .i64 x78), (16, .bool (x7 == x98))] (by kernel_rfl) fun a hs => ?_
        refine s_end ?_
        rcases ifbE hx90 with ⟨h102, hx90⟩ | ⟨h102, hx90⟩
        · refine c_cond1 hs (by kernel_rfl) (t := (x7 == x98)) (by kernel_rfl) h102 ?_
          refine c_seq ?_
          refine c_region ?_
          refine pures hs 2 [4] [(4, .int .i64 x78)] (by kernel_rfl) fun a hs => ?_
          refine s_end ?_
          refine wp_ret ?_
          obtain rfl := someE hx90
          obtain rfl := someE hk
          refine hQ _ _ (f_ret1 hs rfl (v := .int .i64 x78) (by kernel_rfl) ⟨rfl, hw.pick [0] (by kernel_rfl)⟩)
        · refine c_cond0 hs (by kernel_rfl) (t := (x7 == x98)) (by kernel_rfl) h102 ?_
          refine wp_skip ?_
          refine c_region ?_
          refine pures hs 2 [0, 1, 7, 8] [(0, .slice p2 x1.length c3), (1, .int .i64 x7), (7, .int .i64 (x1.length : Int)), (8, .int .i64 (IntKind.i64.wrap (x78 + 1)))] (by kernel_rfl) fun a hs => ?_
          refine s_end ?_
          exact (hI92 _ _ _).2 ⟨(IntKind.i64.wrap (x78 + 1)), hx90, hs.cast [0, 1, 7, 8] (by kernel_rfl), hw.pick [0] (by kernel_rfl)⟩
      · refine c_cond0 hs (by kernel_rfl) (t := (decide (x78 < (x1.length : Int)))) (by kernel_rfl) h93 ?_
        refine wp_exit ?_
        obtain rfl := someE hx90
        exact (hJ91 _ _).2 ⟨hk, hs.cast [] (by kernel_rfl), hw.pick [0] (by kernel_rfl)⟩
  · intro a w hh
    obtain ⟨hk, hs, hw⟩ := (hJ91 _ _).1 hh
    refine c_seq ?_
    refine c_region ?_
    refine pures hs 1 [4] [(4, .int .i64 (-1))] (by kernel_rfl) fun a hs => ?_
    refine s_end ?_
    refine wp_ret ?_
    obtain rfl := someE hk
    refine hQ _ _ (f_ret1 hs rfl (v := .int .i64 (-1)) (by kernel_rfl) ⟨rfl, hw.pick [0] (by kernel_rfl)⟩)
def slices_Contains_int_int (k : Nat) (x1 : List Int) (x7 : Int) : Option Bool :=
  (slices_Index_int_int k x1 x7).bind fun y16 =>
  some (decide (y16 ≥ 0))
theorem slices_Contains_int_int_s {k : Nat} {x1 : List Int} {x7 : Int} {p2 : Option Addr} {c3 : Nat} {d5 : Ch} {r : Bool} (hk : slices_Contains_int_int k x1 x7 = some r) {g w : World} {F : Ch} {ih : IH} (h4 : RSl e3 ih d5 p2 c3 x1) (h6 : ∀ q ∈ d5, q ∈ F) (hw : St g w [F] ih) :
    CallsR Try.prog 82 #[.slice p2 x1.length c3, .int .i64 x7] w fun v w' => v = .bool r ∧ St g w' [F] ih := by
  refine f_in (vs := [.slice p2 x1.length c3, .int .i64 x7]) Try.func82 rfl 9 rfl (by kernel_rfl) [(0, .slice p2 x1.length c3), (1, .int .i64 x7)] (by kernel_rfl) fun a Qf hQ hQn hs => ?_
  refine c_seq ?_
  refine c_region ?_
  refine pures hs 1 [0, 1] [(0, .slice p2 x1.length c3), (1, .int .i64 x7)] (by kernel_rfl) fun a hs => ?_
  refine s_end ?_
  refine c_seq ?_
  refine c_region ?_
  refine pures hs 2 [5, 6] [(5, .slice p2 x1.length c3), (6, .int .i64 x7)] (by kernel_rfl) fun a hs => ?_
  obtain ⟨y16, h17, hk⟩ := bindE hk
  refine s_call hs (by kernel_rfl) (by kernel_rfl) (slices_Index_int_int_s h17 h4 (fun q hq => memF 0 rfl q (h6 q hq)) ((hw.pick [0] (by kernel_rfl)).pack 0)) fun a w v hv hs => ?_
  obtain ⟨rfl, hw⟩ := hv
  replace hw := hw.unpack 0 rfl
  refine pures hs 2 [4] [(4, .bool (decide (y16 ≥ 0)))] (by kernel_rfl) fun a hs => ?_
  refine s_end ?_
  refine wp_ret ?_
  obtain rfl := someE hk
  refine hQ _ _ (f_ret1 hs rfl (v := .bool (decide (y16 ≥ 0))) (by kernel_rfl) ⟨rfl, hw.pick [0] (by kernel_rfl)⟩)
def conf_unlike_r10 : Option Bool :=
  some true
def conf_unlike_r12 (rec_conf_unlike_l11 : Int → Option (Sum Bool Unit)) (x287 : Int) (x366 : Bool) : Option (Sum Bool Unit) :=
  if x366 = true then some (.inl false)
  else rec_conf_unlike_l11 (IntKind.i64.wrap (x287 + 1))
def conf_unlike_l11 (k : Nat) (x1 : List Int) : Nat → Int → Option (Sum Bool Unit)
  | 0, _ => none
  | j + 1, x287 =>
    if (decide (x287 < (x1.length : Int))) = true then (
      (ix x1 x287).bind fun x342 =>
      ((conf_node x342).bind fun y371 =>
        if (!y371) = true then some true
        else (sl x1 0 x287).bind fun x374 =>
        (slices_Contains_int_int k x374 x342).bind fun y379 =>
        some y379 : Option Bool).bind fun s381 => conf_unlike_r12 (conf_unlike_l11 k x1 j) x287 s381)
    else some (.inr ())
def conf_unlike (k : Nat) (x1 : List Int) : Option Bool :=
  (conf_unlike_l11 k x1 k 0 : Option (Sum Bool Unit)).bind fun
    | .inl z => some z
    | .inr _ => conf_unlike_r10
theorem conf_unlike_s {k : Nat} {x1 : List Int} {p2 : Option Addr} {c3 : Nat} {d5 : Ch} {r : Bool} (hk : conf_unlike k x1 = some r) {g w : World} {F : Ch} {ih : IH} (h4 : RSl e3 ih d5 p2 c3 x1) (h6 : ∀ q ∈ d5, q ∈ F) (hw : St g w [F] ih) :
    CallsR Try.prog 108 #[.slice p2 x1.length c3] w fun v w' => v = .bool r ∧ St g w' [F] ih := by
  refine f_in (vs := [.slice p2 x1.length c3]) Try.func108 rfl 23 rfl (by kernel_rfl) [(0, .slice p2 x1.length c3)] (by kernel_rfl) fun a Qf hQ hQn hs => ?_
  refine c_seq ?_
  refine c_region ?_
  refine pures hs 1 [0] [(0, .slice p2 x1.length c3)] (by kernel_rfl) fun a hs => ?_
  refine s_end ?_
  refine c_seq ?_
  refine c_seq ?_
  refine c_region ?_
  refine pures hs 3 [0, 5, 6, 7] [(0, .slice p2 x1.length c3), (5, .slice p2 x1.length c3), (6, .int .i64 (x1.length : Int)), (7, .int .i64 0)] (by kernel_rfl) fun a hs => ?_
  refine s_end ?_
  refine c_block ?_
  obtain ⟨y333, hx334, hk⟩ := bindE hk
  obtain ⟨J335, hJ335⟩ : ∃ J : Act → World → Prop, ∀ a w, J a w ↔ (conf_unlike_r10 = some r ∧ Sees a 23 [] ∧ St g w [F] ih) := ⟨_, fun _ _ => Iff.rfl⟩
  obtain ⟨I336, hI336⟩ : ∃ J : Nat → Act → World → Prop, ∀ j a w, J j a w ↔ (∃ (x287 : Int), conf_unlike_l11 k x1 j x287 = some y333 ∧ Sees a 23 [(0, .slice p2 x1.length c3), (5, .slice p2 x1.length c3), (6, .int .i64 (x1.length : Int)), (7, .int .i64 x287)] ∧ St g w [F] ih) := ⟨_, fun _ _ _ => Iff.rfl⟩
  refine c_exitJ 0 J335 ?_ ?_
  · refine c_loop I336 k ((hI336 _ _ _).2 ⟨0, hx334, hs.cast [0, 5, 6, 7] (by kernel_rfl), hw.pick [0] (by kernel_rfl)⟩) (fun a w h0 => ?_) fun j a w hh => ?_
    · obtain ⟨_, h, _⟩ := (hI336 _ _ _).1 h0
      cases h
    · obtain ⟨x287, hx334, hs, hw⟩ := (hI336 _ _ _).1 hh
      refine c_seq ?_
      refine c_region ?_
      refine pures hs 1 [0, 5, 6, 7, 8] [(0, .slice p2 x1.length c3), (5, .slice p2 x1.length c3), (6, .int .i64 (x1.length : Int)), (7, .int .i64 x287), (8, .bool (decide (x287 < (x1.length : Int))))] (by kernel_rfl) fun a hs => ?_
      refine s_end ?_
      refine c_seq ?_
      rcases ifbE hx334 with ⟨h337, hx334⟩ | ⟨h337, hx334⟩
      · refine c_cond1 hs (by kernel_rfl) (t := (decide (x287 < (x1.length : Int)))) (by kernel_rfl) h337 ?_
        refine wp_skip ?_
        refine c_seq ?_
        refine c_block ?_
        refine c_seq ?_
        refine c_region ?_
        refine pures hs 1 [0, 5, 6, 7, 9] [(0, .slice p2 x1.length c3), (5, .slice p2 x1.length c3), (6, .int .i64 (x1.length : Int)), (7, .int .i64 x287), (9, .int .i64 x287)] (by kernel_rfl) fun a hs => ?_
        obtain ⟨x342, h343, hx334⟩ := bindE hx334
        refine s_index hs h4 (by kernel_rfl) (by kernel_rfl) (k := .i64) (by kernel_rfl) 3 (by kernel_rfl) (by kernel_rfl) h343 fun a r344 cs henc at345 hs => ?_
        obtain rfl := henc
        refine s_load hs (at345 _ (((hw.vw 0 rfl).sub h6).anti (Le.refl _))) 0 (by kernel_rfl) (by kernel_rfl) (v := .int .i64 x342) (by kernel_rfl) fun a hs => ?_
        refine pures hs 2 [0, 5, 6, 7, 3, 4] [(0, .slice p2 x1.length c3), (5, .slice p2 x1.length c3), (6, .int .i64 (x1.length : Int)), (7, .int .i64 x287), (3, .int .i64 x287), (4, .int .i64 x342)] (by kernel_rfl) fun a hs => ?_
        refine s_end ?_
        refine c_seq ?_
        obtain ⟨y368, hx369, hx334⟩ := bindE hx334
        obtain ⟨J370, hJ370⟩ : ∃ J : Act → World → Prop, ∀ a w, J a w ↔ (∃ (x366 : Bool), conf_unlike_r12 (conf_unlike_l11 k x1 j) x287 x366 = some y333 ∧ Sees a 23 [(0, .slice p2 x1.length c3), (5, .slice p2 x1.length c3), (6, .int .i64 (x1.length : Int)), (7, .int .i64 x287), (21, .bool x366)] ∧ St g w [F] ih) := ⟨_, fun _ _ => Iff.rfl⟩
        refine c_regJ J370 ?_ ?_
        · refine pures hs 1 [0, 5, 6, 7, 3, 4, 12] [(0, .slice p2 x1.length c3), (5, .slice p2 x1.length c3), (6, .int .i64 (x1.length : Int)), (7, .int .i64 x287), (3, .int .i64 x287), (4, .int .i64 x342), (12, .int .i64 x342)] (by kernel_rfl) fun a hs => ?_
          obtain ⟨y371, h372, hx369⟩ := bindE hx369
          refine s_call hs (by kernel_rfl) (by kernel_rfl) (conf_node_s h372 ((hw.pick [0] (by kernel_rfl)).pack 0)) fun a w v hv hs => ?_
          obtain ⟨rfl, hw⟩ := hv
          replace hw := hw.unpack 0 rfl
          refine pures hs 2 [0, 5, 6, 7, 3, 4, 15] [(0, .slice p2 x1.length c3), (5, .slice p2 x1.length c3), (6, .int .i64 (x1.length : Int)), (7, .int .i64 x287), (3, .int .i64 x287), (4, .int .i64 x342), (15, .bool (!y371))] (by kernel_rfl) fun a hs => ?_
          rcases ifbE hx369 with ⟨h373, hx369⟩ | ⟨h373, hx369⟩
          · replace hs := hs.altB 15 true (by kernel_rfl) h373
            refine pures hs 6 [0, 5, 6, 7, 21] [(0, .slice p2 x1.length c3), (5, .slice p2 x1.length c3), (6, .int .i64 (x1.length : Int)), (7, .int .i64 x287), (21, .bool true)] (by kernel_rfl) fun a hs => ?_
            refine s_end ?_
            obtain rfl := someE hx369
            exact (hJ370 _ _).2 ⟨true, hx334, hs.cast [0, 5, 6, 7, 21] (by kernel_rfl), hw.pick [0] (by kernel_rfl)⟩
          · replace hs := hs.altB 15 false (by kernel_rfl) h373
            refine pures hs 2 [0, 5, 6, 7, 4, 15, 16, 17] [(0, .slice p2 x1.length c3), (5, .slice p2 x1.length c3), (6, .int .i64 (x1.length : Int)), (7, .int .i64 x287), (4, .int .i64 x342), (15, .bool false), (16, .slice p2 x1.length c3), (17, .int .i64 x287)] (by kernel_rfl) fun a hs => ?_
            obtain ⟨x374, h375, hx369⟩ := bindE hx369
            refine s_slice hs h4 (by kernel_rfl) (by kernel_rfl) 3 (by kernel_rfl) (by kernel_rfl) (by kernel_rfl) (by kernel_rfl) (by kernel_rfl) h375 (.inl rfl) fun a p376 c377 h378 hs => ?_
            refine pures hs 1 [0, 5, 6, 7, 15, 18, 19] [(0, .slice p2 x1.length c3), (5, .slice p2 x1.length c3), (6, .int .i64 (x1.length : Int)), (7, .int .i64 x287), (15, .bool false), (18, .slice p376 x374.length c377), (19, .int .i64 x342)] (by kernel_rfl) fun a hs => ?_
            obtain ⟨y379, h380, hx369⟩ := bindE hx369
            refine s_call hs (by kernel_rfl) (by kernel_rfl) (slices_Contains_int_int_s h380 h378 (fun q hq => memF 0 rfl q (h6 q hq)) ((hw.pick [0] (by kernel_rfl)).pack 0)) fun a w v hv hs => ?_
            obtain ⟨rfl, hw⟩ := hv
            replace hw := hw.unpack 0 rfl
            refine pures hs 1 [0, 5, 6, 7, 21] [(0, .slice p2 x1.length c3), (5, .slice p2 x1.length c3), (6, .int .i64 (x1.length : Int)), (7, .int .i64 x287), (21, .bool y379)] (by kernel_rfl) fun a hs => ?_
            refine s_end ?_
            obtain rfl := someE hx369
            exact (hJ370 _ _).2 ⟨y379, hx334, hs.cast [0, 5, 6, 7, 21] (by kernel_rfl), hw.pick [0] (by kernel_rfl)⟩
        · intro a w hh
          obtain ⟨x366, hx334, hs, hw⟩ := (hJ370 _ _).1 hh
          rcases ifbE hx334 with ⟨h367, hx334⟩ | ⟨h367, hx334⟩
          · refine c_cond1 hs (by kernel_rfl) (t := x366) (by kernel_rfl) h367 ?_
            refine c_seq ?_
            refine c_region ?_
            refine pures hs 1 [2] [(2, .bool false)] (by kernel_rfl) fun a hs => ?_
            refine s_end ?_
            refine wp_ret ?_
            obtain rfl := someE hx334
            obtain rfl := someE hk
            refine hQ _ _ (f_ret1 hs rfl (v := .bool false) (by kernel_rfl) ⟨rfl, hw.pick [0] (by kernel_rfl)⟩)
          · refine c_cond0 hs (by kernel_rfl) (t := x366) (by kernel_rfl) h367 ?_
            refine wp_skip ?_
            refine c_region ?_
            refine pures hs 2 [0, 5, 6, 7] [(0, .slice p2 x1.length c3), (5, .slice p2 x1.length c3), (6, .int .i64 (x1.length : Int)), (7, .int .i64 (IntKind.i64.wrap (x287 + 1)))] (by kernel_rfl) fun a hs => ?_
            refine s_end ?_
            exact (hI336 _ _ _).2 ⟨(IntKind.i64.wrap (x287 + 1)), hx334, hs.cast [0, 5, 6, 7] (by kernel_rfl), hw.pick [0] (by kernel_rfl)⟩
      · refine c_cond0 hs (by kernel_rfl) (t := (decide (x287 < (x1.length : Int)))) (by kernel_rfl) h337 ?_
        refine wp_exit ?_
        obtain rfl := someE hx334
        exact (hJ335 _ _).2 ⟨hk, hs.cast [] (by kernel_rfl), hw.pick [0] (by kernel_rfl)⟩
  · intro a w hh
    obtain ⟨hk, hs, hw⟩ := (hJ335 _ _).1 hh
    refine c_seq ?_
    refine c_region ?_
    refine pures hs 1 [2] [(2, .bool true)] (by kernel_rfl) fun a hs => ?_
    refine s_end ?_
    refine wp_ret ?_
    obtain rfl := someE hk
    refine hQ _ _ (f_ret1 hs rfl (v := .bool true) (by kernel_rfl) ⟨rfl, hw.pick [0] (by kernel_rfl)⟩)
def conf_Right (k : Nat) (x1 : M53) : Option Bool :=
  if ((decide (x1.f0 < 0)) || ((decide (x1.f0 ≥ 4)) || (decide (x1.f1 < 1)))) = true then some false
  else if ((decide ((x1.f2.length : Int) < 1)) || ((decide ((x1.f2.length : Int) > 5)) || (x1.f3 && ((decide ((x1.f2.length : Int) < 2)) || (x1.f4 != 0))))) = true then some false
  else (conf_everybody x1).bind fun y90 =>
  (conf_unlike k y90).bind fun y97 =>
  some y97
theorem conf_Right_s {k : Nat} {x1 : M53} {p2 : Option Addr} {c3 : Nat} {r : Bool} (hk : conf_Right k x1 = some r) {g w : World} {F : Ch} {ih : IH} (h4 : RSl e3 ih [] p2 c3 x1.f2) (hw : St g w [F] ih) :
    CallsR Try.prog 80 #[.agg #[.int .i64 x1.f0, .int .u64 x1.f1, .slice p2 x1.f2.length c3, .bool x1.f3, .int .i64 x1.f4]] w fun v w' => v = .bool r ∧ St g w' [F] ih := by
  refine f_in (vs := [.agg #[.int .i64 x1.f0, .int .u64 x1.f1, .slice p2 x1.f2.length c3, .bool x1.f3, .int .i64 x1.f4]]) Try.func80 rfl 44 rfl (by kernel_rfl) [(0, .agg #[.int .i64 x1.f0, .int .u64 x1.f1, .slice p2 x1.f2.length c3, .bool x1.f3, .int .i64 x1.f4])] (by kernel_rfl) fun a Qf hQ hQn hs => ?_
  refine c_seq ?_
  refine c_region ?_
  refine s_new hs hw [.int .i64 x1.f0, .int .u64 x1.f1, .slice p2 x1.f2.length c3, .bool x1.f3, .int .i64 x1.f4] 53 (fun b => .pointer (some ⟨b, 0, none⟩)) (by kernel_rfl) (fun _ => by kernel_rfl) fun a w b55 hs hw => ?_
  refine pures hs 1 [1] [(1, .pointer (some ⟨b55, 0, none⟩))] (by kernel_rfl) fun a hs => ?_
  refine s_end ?_
  refine c_seq ?_
  refine c_region ?_
  refine pures hs 1 [1, 4] [(1, .pointer (some ⟨b55, 0, none⟩)), (4, .pointer (some ⟨b55, 2, none⟩))] (by kernel_rfl) fun a hs => ?_
  refine s_load hs (hw.at_ 0 rfl) 2 (by kernel_rfl) (by kernel_rfl) (v := .slice p2 x1.f2.length c3) (by kernel_rfl) fun a hs => ?_
  refine pures hs 2 [1, 3] [(1, .pointer (some ⟨b55, 0, none⟩)), (3, .int .i64 (x1.f2.length : Int))] (by kernel_rfl) fun a hs => ?_
  refine s_end ?_
  refine c_seq ?_
  refine c_block ?_
  refine c_seq ?_
  obtain ⟨J62, hJ62⟩ : ∃ J : Act → World → Prop, ∀ a w, J a w ↔ (Sees a 44 [(1, .pointer (some ⟨b55, 0, none⟩)), (3, .int .i64 (x1.f2.length : Int)), (7, .bool ((decide (x1.f0 < 0)) || ((decide (x1.f0 ≥ 4)) || (decide (x1.f1 < 1)))))] ∧ St g w [bx b55 [.int .i64 x1.f0, .int .u64 x1.f1, .slice p2 x1.f2.length c3, .bool x1.f3, .int .i64 x1.f4] 53, F] ih) := ⟨_, fun _ _ => Iff.rfl⟩
  refine c_regJ J62 ?_ ?_
  · refine pures hs 1 [1, 3, 8] [(1, .pointer (some ⟨b55, 0, none⟩)), (3, .int .i64 (x1.f2.length : Int)), (8, .pointer (some ⟨b55, 0, none⟩))] (by kernel_rfl) fun a hs => ?_
    refine s_load hs (hw.at_ 0 rfl) 0 (by kernel_rfl) (by kernel_rfl) (v := .int .i64 x1.f0) (by kernel_rfl) fun a hs => ?_
    refine pures hs 2 [1, 3, 11] [(1, .pointer (some ⟨b55, 0, none⟩)), (3, .int .i64 (x1.f2.length : Int)), (11, .bool (decide (x1.f0 < 0)))] (by kernel_rfl) fun a hs => ?_
    rcases boolE (decide (x1.f0 < 0)) with h63 | h63
    · replace hs := hs.altB 11 true (by kernel_rfl) h63
      refine pures hs 10 [1, 3, 7] [(1, .pointer (some ⟨b55, 0, none⟩)), (3, .int .i64 (x1.f2.length : Int)), (7, .bool true)] (by kernel_rfl) fun a hs => ?_
      refine s_end ?_
      exact (hJ62 _ _).2 ⟨(hs.altB 7 ((decide (x1.f0 < 0)) || ((decide (x1.f0 ≥ 4)) || (decide (x1.f1 < 1)))) (by kernel_rfl) (by rw [h63] <;> rfl)).cast [1, 3, 7] (by kernel_rfl), hw.pick [0, 1] (by kernel_rfl)⟩
    · replace hs := hs.altB 11 false (by kernel_rfl) h63
      refine pures hs 1 [1, 3, 11, 12] [(1, .pointer (some ⟨b55, 0, none⟩)), (3, .int .i64 (x1.f2.length : Int)), (11, .bool false), (12, .pointer (some ⟨b55, 0, none⟩))] (by kernel_rfl) fun a hs => ?_
      refine s_load hs (hw.at_ 0 rfl) 0 (by kernel_rfl) (by kernel_rfl) (v := .int .i64 x1.f0) (by kernel_rfl) fun a hs => ?_
      refine pures hs 3 [1, 3, 16] [(1, .pointer (some ⟨b55, 0, none⟩)), (3, .int .i64 (x1.f2.length : Int)), (16, .bool (decide (x1.f0 ≥ 4)))] (by kernel_rfl) fun a hs => ?_
      rcases boolE (decide (x1.f0 ≥ 4)) with h64 | h64
      · replace hs := hs.altB 16 true (by kernel_rfl) h64
        refine pures hs 5 [1, 3, 7] [(1, .pointer (some ⟨b55, 0, none⟩)), (3, .int .i64 (x1.f2.length : Int)), (7, .bool true)] (by kernel_rfl) fun a hs => ?_
        refine s_end ?_
        exact (hJ62 _ _).2 ⟨(hs.altB 7 ((decide (x1.f0 < 0)) || ((decide (x1.f0 ≥ 4)) || (decide (x1.f1 < 1)))) (by kernel_rfl) (by rw [h63, h64] <;> rfl)).cast [1, 3, 7] (by kernel_rfl), hw.pick [0, 1] (by kernel_rfl)⟩
      · replace hs := hs.altB 16 false (by kernel_rfl) h64
        refine pures hs 1 [1, 3, 16, 17] [(1, .pointer (some ⟨b55, 0, none⟩)), (3, .int .i64 (x1.f2.length : Int)), (16, .bool false), (17, .pointer (some ⟨b55, 1, none⟩))] (by kernel_rfl) fun a hs => ?_
        refine s_load hs (hw.at_ 0 rfl) 1 (by kernel_rfl) (by kernel_rfl) (v := .int .u64 x1.f1) (by kernel_rfl) fun a hs => ?_
        refine pures hs 3 [1, 3, 7] [(1, .pointer (some ⟨b55, 0, none⟩)), (3, .int .i64 (x1.f2.length : Int)), (7, .bool (decide (x1.f1 < 1)))] (by kernel_rfl) fun a hs => ?_
        refine s_end ?_
        exact (hJ62 _ _).2 ⟨(hs.altB 7 ((decide (x1.f0 < 0)) || ((decide (x1.f0 ≥ 4)) || (decide (x1.f1 < 1)))) (by kernel_rfl) (by rw [h63, h64] <;> rfl)).cast [1, 3, 7] (by kernel_rfl), hw.pick [0, 1] (by kernel_rfl)⟩
  · intro a w hh
    obtain ⟨hs, hw⟩ := (hJ62 _ _).1 hh
    rcases ifbE hk with ⟨h65, hk⟩ | ⟨h65, hk⟩
    · refine c_cond1 hs (by kernel_rfl) (t := ((decide (x1.f0 < 0)) || ((decide (x1.f0 ≥ 4)) || (decide (x1.f1 < 1))))) (by kernel_rfl) h65 ?_
      refine c_seq ?_
      refine c_region ?_
      refine pures hs 1 [2] [(2, .bool false)] (by kernel_rfl) fun a hs => ?_
      refine s_end ?_
      refine wp_ret ?_
      obtain rfl := someE hk
      refine hQ _ _ (f_ret1 hs rfl (v := .bool false) (by kernel_rfl) ⟨rfl, hw.pick [1] (by kernel_rfl)⟩)
    · refine c_cond0 hs (by kernel_rfl) (t := ((decide (x1.f0 < 0)) || ((decide (x1.f0 ≥ 4)) || (decide (x1.f1 < 1))))) (by kernel_rfl) h65 ?_
      refine c_seq ?_
      obtain ⟨J75, hJ75⟩ : ∃ J : Act → World → Prop, ∀ a w, J a w ↔ (Sees a 44 [(1, .pointer (some ⟨b55, 0, none⟩)), (21, .bool ((decide ((x1.f2.length : Int) < 1)) || ((decide ((x1.f2.length : Int) > 5)) || (x1.f3 && ((decide ((x1.f2.length : Int) < 2)) || (x1.f4 != 0))))))] ∧ St g w [bx b55 [.int .i64 x1.f0, .int .u64 x1.f1, .slice p2 x1.f2.length c3, .bool x1.f3, .int .i64 x1.f4] 53, F] ih) := ⟨_, fun _ _ => Iff.rfl⟩
      refine c_regJ J75 ?_ ?_
      · refine pures hs 3 [1, 3, 24] [(1, .pointer (some ⟨b55, 0, none⟩)), (3, .int .i64 (x1.f2.length : Int)), (24, .bool (decide ((x1.f2.length : Int) < 1)))] (by kernel_rfl) fun a hs => ?_
        rcases boolE (decide ((x1.f2.length : Int) < 1)) with h76 | h76
        · replace hs := hs.altB 24 true (by kernel_rfl) h76
          refine pures hs 17 [1, 21] [(1, .pointer (some ⟨b55, 0, none⟩)), (21, .bool true)] (by kernel_rfl) fun a hs => ?_
          refine s_end ?_
          exact (hJ75 _ _).2 ⟨(hs.altB 21 ((decide ((x1.f2.length : Int) < 1)) || ((decide ((x1.f2.length : Int) > 5)) || (x1.f3 && ((decide ((x1.f2.length : Int) < 2)) || (x1.f4 != 0))))) (by kernel_rfl) (by rw [h76] <;> rfl)).cast [1, 21] (by kernel_rfl), hw.pick [0, 1] (by kernel_rfl)⟩
        · replace hs := hs.altB 24 false (by kernel_rfl) h76
          refine pures hs 4 [1, 3, 28] [(1, .pointer (some ⟨b55, 0, none⟩)), (3, .int .i64 (x1.f2.length : Int)), (28, .bool (decide ((x1.f2.length : Int) > 5)))] (by kernel_rfl) fun a hs => ?_
          rcases boolE (decide ((x1.f2.length : Int) > 5)) with h77 | h77
          · replace hs := hs.altB 28 true (by kernel_rfl) h77
            refine pures hs 13 [1, 21] [(1, .pointer (some ⟨b55, 0, none⟩)), (21, .bool true)] (by kernel_rfl) fun a hs => ?_
            refine s_end ?_
            exact (hJ75 _ _).2 ⟨(hs.altB 21 ((decide ((x1.f2.length : Int) < 1)) || ((decide ((x1.f2.length : Int) > 5)) || (x1.f3 && ((decide ((x1.f2.length : Int) < 2)) || (x1.f4 != 0))))) (by kernel_rfl) (by rw [h76, h77] <;> rfl)).cast [1, 21] (by kernel_rfl), hw.pick [0, 1] (by kernel_rfl)⟩
          · replace hs := hs.altB 28 false (by kernel_rfl) h77
            refine pures hs 1 [1, 3, 28, 29] [(1, .pointer (some ⟨b55, 0, none⟩)), (3, .int .i64 (x1.f2.length : Int)), (28, .bool false), (29, .pointer (some ⟨b55, 3, none⟩))] (by kernel_rfl) fun a hs => ?_
            refine s_load hs (hw.at_ 0 rfl) 3 (by kernel_rfl) (by kernel_rfl) (v := .bool x1.f3) (by kernel_rfl) fun a hs => ?_
            refine pures hs 1 [1, 3, 28, 31] [(1, .pointer (some ⟨b55, 0, none⟩)), (3, .int .i64 (x1.f2.length : Int)), (28, .bool false), (31, .bool x1.f3)] (by kernel_rfl) fun a hs => ?_
            rcases boolE x1.f3 with h78 | h78
            · replace hs := hs.altB 31 true (by kernel_rfl) h78
              refine pures hs 3 [1, 28, 31, 34] [(1, .pointer (some ⟨b55, 0, none⟩)), (28, .bool false), (31, .bool true), (34, .bool (decide ((x1.f2.length : Int) < 2)))] (by kernel_rfl) fun a hs => ?_
              rcases boolE (decide ((x1.f2.length : Int) < 2)) with h79 | h79
              · replace hs := hs.altB 34 true (by kernel_rfl) h79
                refine pures hs 7 [1, 21] [(1, .pointer (some ⟨b55, 0, none⟩)), (21, .bool true)] (by kernel_rfl) fun a hs => ?_
                refine s_end ?_
                exact (hJ75 _ _).2 ⟨(hs.altB 21 ((decide ((x1.f2.length : Int) < 1)) || ((decide ((x1.f2.length : Int) > 5)) || (x1.f3 && ((decide ((x1.f2.length : Int) < 2)) || (x1.f4 != 0))))) (by kernel_rfl) (by rw [h76, h77, h78, h79] <;> rfl)).cast [1, 21] (by kernel_rfl), hw.pick [0, 1] (by kernel_rfl)⟩
              · replace hs := hs.altB 34 false (by kernel_rfl) h79
                refine pures hs 1 [1, 28, 31, 34, 35] [(1, .pointer (some ⟨b55, 0, none⟩)), (28, .bool false), (31, .bool true), (34, .bool false), (35, .pointer (some ⟨b55, 4, none⟩))] (by kernel_rfl) fun a hs => ?_
                refine s_load hs (hw.at_ 0 rfl) 4 (by kernel_rfl) (by kernel_rfl) (v := .int .i64 x1.f4) (by kernel_rfl) fun a hs => ?_
                refine pures hs 5 [1, 21] [(1, .pointer (some ⟨b55, 0, none⟩)), (21, .bool (x1.f4 != 0))] (by kernel_rfl) fun a hs => ?_
                refine s_end ?_
                exact (hJ75 _ _).2 ⟨(hs.altB 21 ((decide ((x1.f2.length : Int) < 1)) || ((decide ((x1.f2.length : Int) > 5)) || (x1.f3 && ((decide ((x1.f2.length : Int) < 2)) || (x1.f4 != 0))))) (by kernel_rfl) (by rw [h76, h77, h78, h79] <;> rfl)).cast [1, 21] (by kernel_rfl), hw.pick [0, 1] (by kernel_rfl)⟩
            · replace hs := hs.altB 31 false (by kernel_rfl) h78
              refine pures hs 10 [1, 21] [(1, .pointer (some ⟨b55, 0, none⟩)), (21, .bool false)] (by kernel_rfl) fun a hs => ?_
              refine s_end ?_
              exact (hJ75 _ _).2 ⟨(hs.altB 21 ((decide ((x1.f2.length : Int) < 1)) || ((decide ((x1.f2.length : Int) > 5)) || (x1.f3 && ((decide ((x1.f2.length : Int) < 2)) || (x1.f4 != 0))))) (by kernel_rfl) (by rw [h76, h77, h78] <;> rfl)).cast [1, 21] (by kernel_rfl), hw.pick [0, 1] (by kernel_rfl)⟩
      · intro a w hh
        obtain ⟨hs, hw⟩ := (hJ75 _ _).1 hh
        rcases ifbE hk with ⟨h80, hk⟩ | ⟨h80, hk⟩
        · refine c_cond1 hs (by kernel_rfl) (t := ((decide ((x1.f2.length : Int) < 1)) || ((decide ((x1.f2.length : Int) > 5)) || (x1.f3 && ((decide ((x1.f2.length : Int) < 2)) || (x1.f4 != 0)))))) (by kernel_rfl) h80 ?_
          refine c_seq ?_
          refine c_region ?_
          refine pures hs 1 [2] [(2, .bool false)] (by kernel_rfl) fun a hs => ?_
          refine s_end ?_
          refine wp_ret ?_
          obtain rfl := someE hk
          refine hQ _ _ (f_ret1 hs rfl (v := .bool false) (by kernel_rfl) ⟨rfl, hw.pick [1] (by kernel_rfl)⟩)
        · refine c_cond0 hs (by kernel_rfl) (t := ((decide ((x1.f2.length : Int) < 1)) || ((decide ((x1.f2.length : Int) > 5)) || (x1.f3 && ((decide ((x1.f2.length : Int) < 2)) || (x1.f4 != 0)))))) (by kernel_rfl) h80 ?_
          refine wp_skip ?_
          refine c_seq ?_
          refine c_region ?_
          refine s_load hs (hw.at_ 0 rfl) 0 (by kernel_rfl) (by kernel_rfl) (v := .agg #[.int .i64 x1.f0, .int .u64 x1.f1, .slice p2 x1.f2.length c3, .bool x1.f3, .int .i64 x1.f4]) (by kernel_rfl) fun a hs => ?_
          obtain ⟨y90, h91, hk⟩ := bindE hk
          refine s_call hs (by kernel_rfl) (by kernel_rfl) (conf_everybody_s h91 h4 ((hw.pick [1] (by kernel_rfl)).pack 0)) fun a w v hv hs => ?_
          obtain ⟨p92, c93, d95, rfl, hw, h94⟩ := hv
          replace hw := hw.unpack 1 rfl
          obtain ⟨y97, h98, hk⟩ := bindE hk
          refine s_call hs (by kernel_rfl) (by kernel_rfl) (conf_unlike_s h98 h94.read (memF 0 rfl) ((hw.pick [0, 1] (by kernel_rfl)).pack 0)) fun a w v hv hs => ?_
          obtain ⟨rfl, hw⟩ := hv
          replace hw := hw.unpack 0 rfl
          refine pures hs 1 [2] [(2, .bool y97)] (by kernel_rfl) fun a hs => ?_
          refine s_end ?_
          refine wp_ret ?_
          obtain rfl := someE hk
          refine hQ _ _ (f_ret1 hs rfl (v := .bool y97) (by kernel_rfl) ⟨rfl, hw.pick [1] (by kernel_rfl)⟩)
def role_Tail (k : Nat) (x1 : M53) : Option Int :=
  (conf_Right k x1).bind fun y30 =>
  if (!y30) = true then some 0
  else (ix x1.f2 (IntKind.i64.wrap ((x1.f2.length : Int) - 1))).bind fun x37 =>
  some x37
theorem role_Tail_s {k : Nat} {x1 : M53} {p2 : Option Addr} {c3 : Nat} {r : Int} (hk : role_Tail k x1 = some r) {g w : World} {F : Ch} {ih : IH} (h4 : RSl e3 ih [] p2 c3 x1.f2) (hw : St g w [F] ih) :
    CallsR Try.prog 37 #[.agg #[.int .i64 x1.f0, .int .u64 x1.f1, .slice p2 x1.f2.length c3, .bool x1.f3, .int .i64 x1.f4]] w fun v w' => v = .int .i64 r ∧ St g w' [F] ih := by
  refine f_in (vs := [.agg #[.int .i64 x1.f0, .int .u64 x1.f1, .slice p2 x1.f2.length c3, .bool x1.f3, .int .i64 x1.f4]]) Try.func37 rfl 14 rfl (by kernel_rfl) [(0, .agg #[.int .i64 x1.f0, .int .u64 x1.f1, .slice p2 x1.f2.length c3, .bool x1.f3, .int .i64 x1.f4])] (by kernel_rfl) fun a Qf hQ hQn hs => ?_
  refine c_seq ?_
  refine c_region ?_
  refine s_new hs hw [.int .i64 x1.f0, .int .u64 x1.f1, .slice p2 x1.f2.length c3, .bool x1.f3, .int .i64 x1.f4] 53 (fun b => .pointer (some ⟨b, 0, none⟩)) (by kernel_rfl) (fun _ => by kernel_rfl) fun a w b26 hs hw => ?_
  refine pures hs 1 [1] [(1, .pointer (some ⟨b26, 0, none⟩))] (by kernel_rfl) fun a hs => ?_
  refine s_end ?_
  refine c_seq ?_
  refine c_seq ?_
  refine c_region ?_
  refine s_load hs (hw.at_ 0 rfl) 0 (by kernel_rfl) (by kernel_rfl) (v := .agg #[.int .i64 x1.f0, .int .u64 x1.f1, .slice p2 x1.f2.length c3, .bool x1.f3, .int .i64 x1.f4]) (by kernel_rfl) fun a hs => ?_
  obtain ⟨y30, h31, hk⟩ := bindE hk
  refine s_call hs (by kernel_rfl) (by kernel_rfl) (conf_Right_s h31 h4 ((hw.pick [0, 1] (by kernel_rfl)).pack 0)) fun a w v hv hs => ?_
  obtain ⟨rfl, hw⟩ := hv
  replace hw := hw.unpack 0 rfl
  refine pures hs 1 [1, 5] [(1, .pointer (some ⟨b26, 0, none⟩)), (5, .bool (!y30))] (by kernel_rfl) fun a hs => ?_
  refine s_end ?_
  rcases ifbE hk with ⟨h32, hk⟩ | ⟨h32, hk⟩
  · refine c_cond1 hs (by kernel_rfl) (t := (!y30)) (by kernel_rfl) h32 ?_
    refine c_seq ?_
    refine c_region ?_
    refine pures hs 1 [2] [(2, .int .i64 0)] (by kernel_rfl) fun a hs => ?_
    refine s_end ?_
    refine wp_ret ?_
    obtain rfl := someE hk
    refine hQ _ _ (f_ret1 hs rfl (v := .int .i64 0) (by kernel_rfl) ⟨rfl, hw.pick [1] (by kernel_rfl)⟩)
  · refine c_cond0 hs (by kernel_rfl) (t := (!y30)) (by kernel_rfl) h32 ?_
    refine wp_skip ?_
    refine c_seq ?_
    refine c_region ?_
    refine pures hs 1 [1, 6] [(1, .pointer (some ⟨b26, 0, none⟩)), (6, .pointer (some ⟨b26, 2, none⟩))] (by kernel_rfl) fun a hs => ?_
    refine s_load hs (hw.at_ 0 rfl) 2 (by kernel_rfl) (by kernel_rfl) (v := .slice p2 x1.f2.length c3) (by kernel_rfl) fun a hs => ?_
    refine pures hs 1 [7, 8] [(7, .slice p2 x1.f2.length c3), (8, .pointer (some ⟨b26, 2, none⟩))] (by kernel_rfl) fun a hs => ?_
    refine s_load hs (hw.at_ 0 rfl) 2 (by kernel_rfl) (by kernel_rfl) (v := .slice p2 x1.f2.length c3) (by kernel_rfl) fun a hs => ?_
    refine pures hs 2 [7, 11] [(7, .slice p2 x1.f2.length c3), (11, .int .i64 (IntKind.i64.wrap ((x1.f2.length : Int) - 1)))] (by kernel_rfl) fun a hs => ?_
    obtain ⟨x37, h38, hk⟩ := bindE hk
    refine s_index hs h4 (by kernel_rfl) (by kernel_rfl) (k := .i64) (by kernel_rfl) 3 (by kernel_rfl) (by kernel_rfl) h38 fun a r39 cs henc at40 hs => ?_
    obtain rfl := henc
    refine s_load hs (at40 _ (hw.vwAll.nil.anti (Le.refl _))) 0 (by kernel_rfl) (by kernel_rfl) (v := .int .i64 x37) (by kernel_rfl) fun a hs => ?_
    refine pures hs 1 [2] [(2, .int .i64 x37)] (by kernel_rfl) fun a hs => ?_
    refine s_end ?_
    refine wp_ret ?_
    obtain rfl := someE hk
    refine hQ _ _ (f_ret1 hs rfl (v := .int .i64 x37) (by kernel_rfl) ⟨rfl, hw.pick [1] (by kernel_rfl)⟩)
def role_Of_r6 (y151 : Int) (x173 : Bool) (x177 : Bool) (x187 : Int) (x197 : Int) : Option M56 :=
  some (M56.mk true false (y151 == 0) x173 x177 y151 x187 x197)
def role_Of_r7 (x173 : Bool) (x1 : M53) (y151 : Int) (x177 : Bool) (x187 : Int) : Option M56 :=
  (if (!x173) = true then (
      (ix x1.f2 (IntKind.i64.wrap (y151 + 1))).bind fun x206 =>
      some x206)
    else some x1.f4 : Option Int).bind fun s210 => role_Of_r6 y151 x173 x177 x187 s210
def role_Of_r8 (y151 : Int) (x1 : M53) (x173 : Bool) (x177 : Bool) : Option M56 :=
  (if (decide (y151 > 0)) = true then (
      (ix x1.f2 (IntKind.i64.wrap (y151 - 1))).bind fun x219 =>
      some x219)
    else some 0 : Option Int).bind fun s223 => role_Of_r7 x173 x1 y151 x177 s223
def role_Of_r9 (x1 : M53) (y151 : Int) (x173 : Bool) : Option M56 :=
  (if x173 = true then some x1.f3
    else some false : Option Bool).bind fun s228 => role_Of_r8 y151 x1 x173 s228
def role_Of_r10 (k : Nat) (x5 : Int) (x1 : M53) (x142 : Bool) : Option M56 :=
  if x142 = true then some (M56.mk false false false false false 0 0 0)
  else if (x5 == x1.f4) = true then (
    (role_Tail k x1).bind fun y147 =>
    some (M56.mk false true false false true 0 y147 0))
  else (slices_Index_int_int k x1.f2 x5).bind fun y151 =>
  if (decide (y151 < 0)) = true then some (M56.mk false false false false false 0 0 0)
  else ((role_Tail k x1).bind fun y232 =>
    some (x5 == y232) : Option Bool).bind fun s240 => role_Of_r9 x1 y151 s240
def role_Of (k : Nat) (x1 : M53) (x5 : Int) : Option M56 :=
  ((conf_Right k x1).bind fun y244 =>
    if (!y244) = true then some true
    else some (x5 == 0) : Option Bool).bind fun s247 => role_Of_r10 k x5 x1 s247
theorem role_Of_s {k : Nat} {x1 : M53} {x5 : Int} {p2 : Option Addr} {c3 : Nat} {r : M56} (hk : role_Of k x1 x5 = some r) {g w : World} {F : Ch} {ih : IH} (h4 : RSl e3 ih [] p2 c3 x1.f2) (hw : St g w [F] ih) :
    CallsR Try.prog 32 #[.agg #[.int .i64 x1.f0, .int .u64 x1.f1, .slice p2 x1.f2.length c3, .bool x1.f3, .int .i64 x1.f4], .int .i64 x5] w fun v w' => v = .agg #[.bool r.f0, .bool r.f1, .bool r.f2, .bool r.f3, .bool r.f4, .int .i64 r.f5, .int .i64 r.f6, .int .i64 r.f7] ∧ St g w' [F] ih := by
  refine f_in (vs := [.agg #[.int .i64 x1.f0, .int .u64 x1.f1, .slice p2 x1.f2.length c3, .bool x1.f3, .int .i64 x1.f4], .int .i64 x5]) Try.func32 rfl 66 rfl (by kernel_rfl) [(0, .agg #[.int .i64 x1.f0, .int .u64 x1.f1, .slice p2 x1.f2.length c3, .bool x1.f3, .int .i64 x1.f4]), (1, .int .i64 x5)] (by kernel_rfl) fun a Qf hQ hQn hs => ?_
  refine c_seq ?_
  refine c_region ?_
  refine s_new hs hw [.int .i64 x1.f0, .int .u64 x1.f1, .slice p2 x1.f2.length c3, .bool x1.f3, .int .i64 x1.f4] 53 (fun b => .pointer (some ⟨b, 0, none⟩)) (by kernel_rfl) (fun _ => by kernel_rfl) fun a w b132 hs hw => ?_
  refine s_new hs hw [.bool false, .bool false, .bool false, .bool false, .bool false, .int .i64 0, .int .i64 0, .int .i64 0] 56 (fun b => .pointer (some ⟨b, 0, none⟩)) (by kernel_rfl) (fun _ => by kernel_rfl) fun a w b134 hs hw => ?_
  refine s_end ?_
  refine c_seq ?_
  refine c_seq ?_
  obtain ⟨y241, hx242, hk⟩ := bindE hk
  obtain ⟨J243, hJ243⟩ : ∃ J : Act → World → Prop, ∀ a w, J a w ↔ (∃ (x142 : Bool), role_Of_r10 k x5 x1 x142 = some r ∧ Sees a 66 [(1, .int .i64 x5), (2, .pointer (some ⟨b132, 0, none⟩)), (4, .pointer (some ⟨b134, 0, none⟩)), (13, .bool x142)] ∧ St g w [bx b134 [.bool false, .bool false, .bool false, .bool false, .bool false, .int .i64 0, .int .i64 0, .int .i64 0] 56, bx b132 [.int .i64 x1.f0, .int .u64 x1.f1, .slice p2 x1.f2.length c3, .bool x1.f3, .int .i64 x1.f4] 53, F] ih) := ⟨_, fun _ _ => Iff.rfl⟩
  refine c_regJ J243 ?_ ?_
  · refine s_load hs (hw.at_ 1 rfl) 0 (by kernel_rfl) (by kernel_rfl) (v := .agg #[.int .i64 x1.f0, .int .u64 x1.f1, .slice p2 x1.f2.length c3, .bool x1.f3, .int .i64 x1.f4]) (by kernel_rfl) fun a hs => ?_
    obtain ⟨y244, h245, hx242⟩ := bindE hx242
    refine s_call hs (by kernel_rfl) (by kernel_rfl) (conf_Right_s h245 h4 ((hw.pick [0, 1, 2] (by kernel_rfl)).pack 0)) fun a w v hv hs => ?_
    obtain ⟨rfl, hw⟩ := hv
    replace hw := hw.unpack 0 rfl
    refine pures hs 2 [1, 2, 4, 10] [(1, .int .i64 x5), (2, .pointer (some ⟨b132, 0, none⟩)), (4, .pointer (some ⟨b134, 0, none⟩)), (10, .bool (!y244))] (by kernel_rfl) fun a hs => ?_
    rcases ifbE hx242 with ⟨h246, hx242⟩ | ⟨h246, hx242⟩
    · replace hs := hs.altB 10 true (by kernel_rfl) h246
      refine pures hs 3 [1, 2, 4, 13] [(1, .int .i64 x5), (2, .pointer (some ⟨b132, 0, none⟩)), (4, .pointer (some ⟨b134, 0, none⟩)), (13, .bool true)] (by kernel_rfl) fun a hs => ?_
      refine s_end ?_
      obtain rfl := someE hx242
      exact (hJ243 _ _).2 ⟨true, hk, hs.cast [1, 2, 4, 13] (by kernel_rfl), hw.pick [0, 1, 2] (by kernel_rfl)⟩
    · replace hs := hs.altB 10 false (by kernel_rfl) h246
      refine pures hs 3 [1, 2, 4, 13] [(1, .int .i64 x5), (2, .pointer (some ⟨b132, 0, none⟩)), (4, .pointer (some ⟨b134, 0, none⟩)), (13, .bool (x5 == 0))] (by kernel_rfl) fun a hs => ?_
      refine s_end ?_
      obtain rfl := someE hx242
      exact (hJ243 _ _).2 ⟨(x5 == 0), hk, hs.cast [1, 2, 4, 13] (by kernel_rfl), hw.pick [0, 1, 2] (by kernel_rfl)⟩
  · intro a w hh
    obtain ⟨x142, hk, hs, hw⟩ := (hJ243 _ _).1 hh
    rcases ifbE hk with ⟨h143, hk⟩ | ⟨h143, hk⟩
    · refine c_cond1 hs (by kernel_rfl) (t := x142) (by kernel_rfl) h143 ?_
      refine c_seq ?_
      refine c_region ?_
      refine pures hs 1 [4, 14] [(4, .pointer (some ⟨b134, 0, none⟩)), (14, .agg #[.bool false, .bool false, .bool false, .bool false, .bool false, .int .i64 0, .int .i64 0, .int .i64 0])] (by kernel_rfl) fun a hs => ?_
      refine s_store hs hw 0 rfl 0 (by kernel_rfl) (by kernel_rfl) (v := .agg #[.bool false, .bool false, .bool false, .bool false, .bool false, .int .i64 0, .int .i64 0, .int .i64 0]) (by kernel_rfl) (by kernel_rfl) (by kernel_rfl) (by kernel_rfl) fun a w hs hw => ?_
      refine s_end ?_
      refine wp_ret ?_
      obtain rfl := someE hk
      refine hQ _ _ (f_retC hs rfl (hw.at_ 0 rfl) (by kernel_rfl) (v := .agg #[.bool false, .bool false, .bool false, .bool false, .bool false, .int .i64 0, .int .i64 0, .int .i64 0]) (by kernel_rfl) ⟨rfl, hw.pick [2] (by kernel_rfl)⟩)
    · refine c_cond0 hs (by kernel_rfl) (t := x142) (by kernel_rfl) h143 ?_
      refine wp_skip ?_
      refine c_seq ?_
      refine c_seq ?_
      refine c_region ?_
      refine pures hs 2 [1, 2, 4, 15, 16] [(1, .int .i64 x5), (2, .pointer (some ⟨b132, 0, none⟩)), (4, .pointer (some ⟨b134, 0, none⟩)), (15, .int .i64 x5), (16, .pointer (some ⟨b132, 4, none⟩))] (by kernel_rfl) fun a hs => ?_
      refine s_load hs (hw.at_ 1 rfl) 4 (by kernel_rfl) (by kernel_rfl) (v := .int .i64 x1.f4) (by kernel_rfl) fun a hs => ?_
      refine pures hs 1 [1, 2, 4, 18] [(1, .int .i64 x5), (2, .pointer (some ⟨b132, 0, none⟩)), (4, .pointer (some ⟨b134, 0, none⟩)), (18, .bool (x5 == x1.f4))] (by kernel_rfl) fun a hs => ?_
      refine s_end ?_
      rcases ifbE hk with ⟨h144, hk⟩ | ⟨h144, hk⟩
      · refine c_cond1 hs (by kernel_rfl) (t := (x5 == x1.f4)) (by kernel_rfl) h144 ?_
        refine c_seq ?_
        refine c_region ?_
        refine s_load hs (hw.at_ 1 rfl) 0 (by kernel_rfl) (by kernel_rfl) (v := .agg #[.int .i64 x1.f0, .int .u64 x1.f1, .slice p2 x1.f2.length c3, .bool x1.f3, .int .i64 x1.f4]) (by kernel_rfl) fun a hs => ?_
        obtain ⟨y147, h148, hk⟩ := bindE hk
        refine s_call hs (by kernel_rfl) (by kernel_rfl) (role_Tail_s h148 h4 ((hw.pick [0, 2] (by kernel_rfl)).pack 0)) fun a w v hv hs => ?_
        obtain ⟨rfl, hw⟩ := hv
        replace hw := hw.unpack 0 rfl
        refine pures hs 1 [4, 21] [(4, .pointer (some ⟨b134, 0, none⟩)), (21, .agg #[.bool false, .bool true, .bool false, .bool false, .bool true, .int .i64 0, .int .i64 y147, .int .i64 0])] (by kernel_rfl) fun a hs => ?_
        refine s_store hs hw 0 rfl 0 (by kernel_rfl) (by kernel_rfl) (v := .agg #[.bool false, .bool true, .bool false, .bool false, .bool true, .int .i64 0, .int .i64 y147, .int .i64 0]) (by kernel_rfl) (by kernel_rfl) (by kernel_rfl) (by kernel_rfl) fun a w hs hw => ?_
        refine s_end ?_
        refine wp_ret ?_
        obtain rfl := someE hk
        refine hQ _ _ (f_retC hs rfl (hw.at_ 0 rfl) (by kernel_rfl) (v := .agg #[.bool false, .bool true, .bool false, .bool false, .bool true, .int .i64 0, .int .i64 y147, .int .i64 0]) (by kernel_rfl) ⟨rfl, hw.pick [1] (by kernel_rfl)⟩)
      · refine c_cond0 hs (by kernel_rfl) (t := (x5 == x1.f4)) (by kernel_rfl) h144 ?_
        refine wp_skip ?_
        refine c_seq ?_
        refine c_region ?_
        refine pures hs 1 [1, 2, 4, 22] [(1, .int .i64 x5), (2, .pointer (some ⟨b132, 0, none⟩)), (4, .pointer (some ⟨b134, 0, none⟩)), (22, .pointer (some ⟨b132, 2, none⟩))] (by kernel_rfl) fun a hs => ?_
        refine s_load hs (hw.at_ 1 rfl) 2 (by kernel_rfl) (by kernel_rfl) (v := .slice p2 x1.f2.length c3) (by kernel_rfl) fun a hs => ?_
        refine pures hs 1 [1, 2, 4, 23, 24] [(1, .int .i64 x5), (2, .pointer (some ⟨b132, 0, none⟩)), (4, .pointer (some ⟨b134, 0, none⟩)), (23, .slice p2 x1.f2.length c3), (24, .int .i64 x5)] (by kernel_rfl) fun a hs => ?_
        obtain ⟨y151, h152, hk⟩ := bindE hk
        refine s_call hs (by kernel_rfl) (by kernel_rfl) (slices_Index_int_int_s h152 h4 (nilSub _) ((hw.pick [0, 1, 2] (by kernel_rfl)).pack 0)) fun a w v hv hs => ?_
        obtain ⟨rfl, hw⟩ := hv
        replace hw := hw.unpack 0 rfl
        refine pures hs 1 [1, 2, 4, 5] [(1, .int .i64 x5), (2, .pointer (some ⟨b132, 0, none⟩)), (4, .pointer (some ⟨b134, 0, none⟩)), (5, .int .i64 y151)] (by kernel_rfl) fun a hs => ?_
        refine s_end ?_
        refine c_seq ?_
        refine c_seq ?_
        refine c_region ?_
        refine pures hs 2 [1, 2, 4, 5, 27] [(1, .int .i64 x5), (2, .pointer (some ⟨b132, 0, none⟩)), (4, .pointer (some ⟨b134, 0, none⟩)), (5, .int .i64 y151), (27, .bool (decide (y151 < 0)))] (by kernel_rfl) fun a hs => ?_
        refine s_end ?_
        rcases ifbE hk with ⟨h153, hk⟩ | ⟨h153, hk⟩
        · refine c_cond1 hs (by kernel_rfl) (t := (decide (y151 < 0))) (by kernel_rfl) h153 ?_
          refine c_seq ?_
          refine c_region ?_
          refine pures hs 1 [4, 28] [(4, .pointer (some ⟨b134, 0, none⟩)), (28, .agg #[.bool false, .bool false, .bool false, .bool false, .bool false, .int .i64 0, .int .i64 0, .int .i64 0])] (by kernel_rfl) fun a hs => ?_
          refine s_store hs hw 0 rfl 0 (by kernel_rfl) (by kernel_rfl) (v := .agg #[.bool false, .bool false, .bool false, .bool false, .bool false, .int .i64 0, .int .i64 0, .int .i64 0]) (by kernel_rfl) (by kernel_rfl) (by kernel_rfl) (by kernel_rfl) fun a w hs hw => ?_
          refine s_end ?_
          refine wp_ret ?_
          obtain rfl := someE hk
          refine hQ _ _ (f_retC hs rfl (hw.at_ 0 rfl) (by kernel_rfl) (v := .agg #[.bool false, .bool false, .bool false, .bool false, .bool false, .int .i64 0, .int .i64 0, .int .i64 0]) (by kernel_rfl) ⟨rfl, hw.pick [2] (by kernel_rfl)⟩)
        · refine c_cond0 hs (by kernel_rfl) (t := (decide (y151 < 0))) (by kernel_rfl) h153 ?_
          refine wp_skip ?_
          refine c_seq ?_
          obtain ⟨S154, hS154, kS154⟩ := mkSX (X := [([], bx b134 [.bool false, .bool false, .bool false, .bool false, .bool false, .int .i64 0, .int .i64 0, .int .i64 0] 56), ([], bx b132 [.int .i64 x1.f0, .int .u64 x1.f1, .slice p2 x1.f2.length c3, .bool x1.f3, .int .i64 x1.f4] 53), ([], F)]) (ih := ih) (K := []) rfl
          obtain ⟨y229, hx230, hk⟩ := bindE hk
          obtain ⟨J231, hJ231⟩ : ∃ J : Act → World → Prop, ∀ a w, J a w ↔ (∃ (x173 : Bool) (b171 : Nat), role_Of_r9 x1 y151 x173 = some r ∧ Sees a 66 [(2, .pointer (some ⟨b132, 0, none⟩)), (4, .pointer (some ⟨b134, 0, none⟩)), (5, .int .i64 y151), (6, .pointer (some ⟨b171, 0, none⟩))] ∧ St g w [bx b134 [.bool false, .bool false, .bool false, .bool false, .bool false, .int .i64 0, .int .i64 0, .int .i64 0] 56, bx b132 [.int .i64 x1.f0, .int .u64 x1.f1, .slice p2 x1.f2.length c3, .bool x1.f3, .int .i64 x1.f4] 53, bx b171 [.bool true, .bool false, .bool (y151 == 0), .bool x173, .bool false, .int .i64 y151, .int .i64 0, .int .i64 x1.f4] 56, F] ih) := ⟨_, fun _ _ => Iff.rfl⟩
          refine c_draw (by kernel_rfl) (N := 12) rfl S154 J231 ?_ ?_
          · have hw := hw.drew
            have hS : S154 (Array.replicate 12 false) _ := SX_now hS154 (hw.vws [0, 1, 2]) (by kernel_rfl)
            refine d_pures (fuel := 9) kS154 hs hS [0, 1, 2] [1, 2, 4, 5, 29, 30, 31] [(1, .int .i64 x5), (2, .pointer (some ⟨b132, 0, none⟩)), (4, .pointer (some ⟨b134, 0, none⟩)), (5, .int .i64 y151), (29, .int .i64 y151), (30, .bool (y151 == 0)), (31, .int .i64 x5)] (by kernel_rfl) fun a hs hS => ?_
            refine d_load (fuel := 8) kS154 hs hS 3 rfl (by kernel_rfl) (SX_box hS154 1 rfl (by kernel_rfl)) 0 (by kernel_rfl) (by kernel_rfl) (v := .agg #[.int .i64 x1.f0, .int .u64 x1.f1, .slice p2 x1.f2.length c3, .bool x1.f3, .int .i64 x1.f4]) (by kernel_rfl) fun a hs hS => ?_
            refine d_pures (fuel := 6) kS154 hs hS [6, 7] [1, 2, 4, 5, 29, 30, 31, 32, 35, 36] [(1, .int .i64 x5), (2, .pointer (some ⟨b132, 0, none⟩)), (4, .pointer (some ⟨b134, 0, none⟩)), (5, .int .i64 y151), (29, .int .i64 y151), (30, .bool (y151 == 0)), (31, .int .i64 x5), (32, .agg #[.int .i64 x1.f0, .int .u64 x1.f1, .slice p2 x1.f2.length c3, .bool x1.f3, .int .i64 x1.f4]), (35, .int .i64 y151), (36, .pointer (some ⟨b132, 4, none⟩))] (by kernel_rfl) fun a hs hS => ?_
            refine d_load (fuel := 5) kS154 hs hS 8 rfl (by kernel_rfl) (SX_box hS154 1 rfl (by kernel_rfl)) 4 (by kernel_rfl) (by kernel_rfl) (v := .int .i64 x1.f4) (by kernel_rfl) fun a hs hS => ?_
            refine d_all (fuel := 4) (rs := [4, 10]) (by kernel_rfl) (by simp) (all2 ?_ (all1 ?_))
            · obtain ⟨y232, h233, hx230⟩ := bindE hx230
              refine o_call hs rfl (by kernel_rfl) (by kernel_rfl) (role_Tail_s h233 h4 ((hw.pick [0, 1, 2] (by kernel_rfl)).pack 0)) fun a w v hv hs => ?_
              obtain ⟨rfl, hw⟩ := hv
              replace hw := hw.unpack 0 rfl
              refine dg_next (SX_now hS154 ((hw.vws [0, 1, 2]).anti (Le.refl _)) (by kernel_rfl)) fun hS => ?_
              refine d_pures (fuel := 2) kS154 hs hS [5, 9] [1, 2, 4, 5, 29, 30, 31, 32, 35, 36, 37, 33, 34, 38] [(1, .int .i64 x5), (2, .pointer (some ⟨b132, 0, none⟩)), (4, .pointer (some ⟨b134, 0, none⟩)), (5, .int .i64 y151), (29, .int .i64 y151), (30, .bool (y151 == 0)), (31, .int .i64 x5), (32, .agg #[.int .i64 x1.f0, .int .u64 x1.f1, .slice p2 x1.f2.length c3, .bool x1.f3, .int .i64 x1.f4]), (35, .int .i64 y151), (36, .pointer (some ⟨b132, 4, none⟩)), (37, .int .i64 x1.f4), (33, .int .i64 y232), (34, .bool (x5 == y232)), (38, .agg #[.bool true, .bool false, .bool (y151 == 0), .bool (x5 == y232), .bool false, .int .i64 y151, .int .i64 0, .int .i64 x1.f4])] (by kernel_rfl) fun a hs hS => ?_
              refine d_all (fuel := 1) (rs := [10]) (by kernel_rfl) (by simp) (all1 ?_)
              refine o_new hs rfl hw [.bool false, .bool false, .bool false, .bool false, .bool false, .int .i64 0, .int .i64 0, .int .i64 0] 56 (fun b => .pointer (some ⟨b, 0, none⟩)) (by kernel_rfl) (fun _ => by kernel_rfl) fun a w b234 hs hw => ?_
              refine dg_next (SX_now hS154 ((hw.vws [1, 2, 3]).anti (Le.refl _)) (by kernel_rfl)) fun hS => ?_
              refine d_all (fuel := 0) (rs := [11]) (by kernel_rfl) (by simp) (all1 ?_)
              refine o_store hs hw rfl 0 rfl 0 (by kernel_rfl) (by kernel_rfl) (v := .agg #[.bool true, .bool false, .bool (y151 == 0), .bool (x5 == y232), .bool false, .int .i64 y151, .int .i64 0, .int .i64 x1.f4]) (by kernel_rfl) (by kernel_rfl) (by kernel_rfl) (by kernel_rfl) fun a w hs hw => ?_
              refine dg_next (SX_now hS154 ((hw.vws [1, 2, 3]).anti (Le.refl _)) (by kernel_rfl)) fun hS => ?_
              refine d_done (by kernel_rfl) ?_
              obtain rfl := someE hx230
              exact (hJ231 _ _).2 ⟨(x5 == y232), b234, hk, hs.cast [2, 4, 5, 6] (by kernel_rfl), hw.pick [1, 2, 0, 3] (by kernel_rfl)⟩
            · refine o_new hs rfl hw [.bool false, .bool false, .bool false, .bool false, .bool false, .int .i64 0, .int .i64 0, .int .i64 0] 56 (fun b => .pointer (some ⟨b, 0, none⟩)) (by kernel_rfl) (fun _ => by kernel_rfl) fun a w b236 hs hw => ?_
              refine dg_next (SX_now hS154 ((hw.vws [1, 2, 3]).anti (Le.refl _)) (by kernel_rfl)) fun hS => ?_
              refine d_all (fuel := 3) (rs := [4]) (by kernel_rfl) (by simp) (all1 ?_)
              obtain ⟨y238, h239, hx230⟩ := bindE hx230
              refine o_call hs rfl (by kernel_rfl) (by kernel_rfl) (role_Tail_s h239 h4 ((hw.pick [0, 1, 2, 3] (by kernel_rfl)).pack 0)) fun a w v hv hs => ?_
              obtain ⟨rfl, hw⟩ := hv
              replace hw := hw.unpack 0 rfl
              refine dg_next (SX_now hS154 ((hw.vws [1, 2, 3]).anti (Le.refl _)) (by kernel_rfl)) fun hS => ?_
              refine d_pures (fuel := 1) kS154 hs hS [5, 9] [1, 2, 4, 5, 29, 30, 31, 32, 35, 36, 37, 6, 33, 34, 38] [(1, .int .i64 x5), (2, .pointer (some ⟨b132, 0, none⟩)), (4, .pointer (some ⟨b134, 0, none⟩)), (5, .int .i64 y151), (29, .int .i64 y151), (30, .bool (y151 == 0)), (31, .int .i64 x5), (32, .agg #[.int .i64 x1.f0, .int .u64 x1.f1, .slice p2 x1.f2.length c3, .bool x1.f3, .int .i64 x1.f4]), (35, .int .i64 y151), (36, .pointer (some ⟨b132, 4, none⟩)), (37, .int .i64 x1.f4), (6, .pointer (some ⟨b236, 0, none⟩)), (33, .int .i64 y238), (34, .bool (x5 == y238)), (38, .agg #[.bool true, .bool false, .bool (y151 == 0), .bool (x5 == y238), .bool false, .int .i64 y151, .int .i64 0, .int .i64 x1.f4])] (by kernel_rfl) fun a hs hS => ?_
              refine d_all (fuel := 0) (rs := [11]) (by kernel_rfl) (by simp) (all1 ?_)
              refine o_store hs hw rfl 0 rfl 0 (by kernel_rfl) (by kernel_rfl) (v := .agg #[.bool true, .bool false, .bool (y151 == 0), .bool (x5 == y238), .bool false, .int .i64 y151, .int .i64 0, .int .i64 x1.f4]) (by kernel_rfl) (by kernel_rfl) (by kernel_rfl) (by kernel_rfl) fun a w hs hw => ?_
              refine dg_next (SX_now hS154 ((hw.vws [1, 2, 3]).anti (Le.refl _)) (by kernel_rfl)) fun hS => ?_
              refine d_done (by kernel_rfl) ?_
              obtain rfl := someE hx230
              exact (hJ231 _ _).2 ⟨(x5 == y238), b236, hk, hs.cast [2, 4, 5, 6] (by kernel_rfl), hw.pick [1, 2, 0, 3] (by kernel_rfl)⟩
          · intro a w hh
            obtain ⟨x173, b171, hk, hs, hw⟩ := (hJ231 _ _).1 hh
            refine c_seq ?_
            obtain ⟨y224, hx225, hk⟩ := bindE hk
            obtain ⟨J226, hJ226⟩ : ∃ J : Act → World → Prop, ∀ a w, J a w ↔ (∃ (x177 : Bool), role_Of_r8 y151 x1 x173 x177 = some r ∧ Sees a 66 [(2, .pointer (some ⟨b132, 0, none⟩)), (4, .pointer (some ⟨b134, 0, none⟩)), (5, .int .i64 y151), (6, .pointer (some ⟨b171, 0, none⟩))] ∧ St g w [bx b134 [.bool false, .bool false, .bool false, .bool false, .bool false, .int .i64 0, .int .i64 0, .int .i64 0] 56, bx b132 [.int .i64 x1.f0, .int .u64 x1.f1, .slice p2 x1.f2.length c3, .bool x1.f3, .int .i64 x1.f4] 53, bx b171 [.bool true, .bool false, .bool (y151 == 0), .bool x173, .bool x177, .int .i64 y151, .int .i64 0, .int .i64 x1.f4] 56, F] ih) := ⟨_, fun _ _ => Iff.rfl⟩
            refine c_regJ J226 ?_ ?_
            · refine pures hs 1 [2, 4, 5, 6, 39] [(2, .pointer (some ⟨b132, 0, none⟩)), (4, .pointer (some ⟨b134, 0, none⟩)), (5, .int .i64 y151), (6, .pointer (some ⟨b171, 0, none⟩)), (39, .pointer (some ⟨b171, 3, none⟩))] (by kernel_rfl) fun a hs => ?_
              refine s_load hs (hw.at_ 2 rfl) 3 (by kernel_rfl) (by kernel_rfl) (v := .bool x173) (by kernel_rfl) fun a hs => ?_
              refine pures hs 1 [2, 4, 5, 6, 41] [(2, .pointer (some ⟨b132, 0, none⟩)), (4, .pointer (some ⟨b134, 0, none⟩)), (5, .int .i64 y151), (6, .pointer (some ⟨b171, 0, none⟩)), (41, .bool x173)] (by kernel_rfl) fun a hs => ?_
              rcases ifbE hx225 with ⟨h227, hx225⟩ | ⟨h227, hx225⟩
              · replace hs := hs.altB 41 true (by kernel_rfl) h227
                refine pures hs 1 [2, 4, 5, 6, 41, 42] [(2, .pointer (some ⟨b132, 0, none⟩)), (4, .pointer (some ⟨b134, 0, none⟩)), (5, .int .i64 y151), (6, .pointer (some ⟨b171, 0, none⟩)), (41, .bool true), (42, .pointer (some ⟨b132, 3, none⟩))] (by kernel_rfl) fun a hs => ?_
                refine s_load hs (hw.at_ 1 rfl) 3 (by kernel_rfl) (by kernel_rfl) (v := .bool x1.f3) (by kernel_rfl) fun a hs => ?_
                refine pures hs 2 [2, 4, 5, 6, 44, 45] [(2, .pointer (some ⟨b132, 0, none⟩)), (4, .pointer (some ⟨b134, 0, none⟩)), (5, .int .i64 y151), (6, .pointer (some ⟨b171, 0, none⟩)), (44, .bool x1.f3), (45, .pointer (some ⟨b171, 4, none⟩))] (by kernel_rfl) fun a hs => ?_
                refine s_store hs hw 2 rfl 4 (by kernel_rfl) (by kernel_rfl) (v := .bool x1.f3) (by kernel_rfl) (by kernel_rfl) (by kernel_rfl) (by kernel_rfl) fun a w hs hw => ?_
                refine s_end ?_
                obtain rfl := someE hx225
                exact (hJ226 _ _).2 ⟨x1.f3, hk, hs.cast [2, 4, 5, 6] (by kernel_rfl), hw.pick [0, 1, 2, 3] (by kernel_rfl)⟩
              · replace hs := hs.altB 41 false (by kernel_rfl) h227
                refine pures hs 4 [2, 4, 5, 6, 44, 45] [(2, .pointer (some ⟨b132, 0, none⟩)), (4, .pointer (some ⟨b134, 0, none⟩)), (5, .int .i64 y151), (6, .pointer (some ⟨b171, 0, none⟩)), (44, .bool false), (45, .pointer (some ⟨b171, 4, none⟩))] (by kernel_rfl) fun a hs => ?_
                refine s_store hs hw 2 rfl 4 (by kernel_rfl) (by kernel_rfl) (v := .bool false) (by kernel_rfl) (by kernel_rfl) (by kernel_rfl) (by kernel_rfl) fun a w hs hw => ?_
                refine s_end ?_
                obtain rfl := someE hx225
                exact (hJ226 _ _).2 ⟨false, hk, hs.cast [2, 4, 5, 6] (by kernel_rfl), hw.pick [0, 1, 2, 3] (by kernel_rfl)⟩
            · intro a w hh
              obtain ⟨x177, hk, hs, hw⟩ := (hJ226 _ _).1 hh
              obtain ⟨y211, hx212, hk⟩ := bindE hk
              obtain ⟨J213, hJ213⟩ : ∃ J : Act → World → Prop, ∀ a w, J a w ↔ (∃ (x187 : Int), role_Of_r7 x173 x1 y151 x177 x187 = some r ∧ Sees a 66 [(2, .pointer (some ⟨b132, 0, none⟩)), (4, .pointer (some ⟨b134, 0, none⟩)), (5, .int .i64 y151), (6, .pointer (some ⟨b171, 0, none⟩))] ∧ St g w [bx b134 [.bool false, .bool false, .bool false, .bool false, .bool false, .int .i64 0, .int .i64 0, .int .i64 0] 56, bx b132 [.int .i64 x1.f0, .int .u64 x1.f1, .slice p2 x1.f2.length c3, .bool x1.f3, .int .i64 x1.f4] 53, bx b171 [.bool true, .bool false, .bool (y151 == 0), .bool x173, .bool x177, .int .i64 y151, .int .i64 x187, .int .i64 x1.f4] 56, F] ih) := ⟨_, fun _ _ => Iff.rfl⟩
              refine c_seqJ J213 ?_ ?_
              · refine c_seq ?_
                refine c_region ?_
                refine pures hs 2 [2, 4, 5, 6, 47] [(2, .pointer (some ⟨b132, 0, none⟩)), (4, .pointer (some ⟨b134, 0, none⟩)), (5, .int .i64 y151), (6, .pointer (some ⟨b171, 0, none⟩)), (47, .bool (decide (y151 > 0)))] (by kernel_rfl) fun a hs => ?_
                refine s_end ?_
                rcases ifbE hx212 with ⟨h214, hx212⟩ | ⟨h214, hx212⟩
                · refine c_cond1 hs (by kernel_rfl) (t := (decide (y151 > 0))) (by kernel_rfl) h214 ?_
                  refine c_region ?_
                  refine pures hs 1 [2, 4, 5, 6, 48] [(2, .pointer (some ⟨b132, 0, none⟩)), (4, .pointer (some ⟨b134, 0, none⟩)), (5, .int .i64 y151), (6, .pointer (some ⟨b171, 0, none⟩)), (48, .pointer (some ⟨b132, 2, none⟩))] (by kernel_rfl) fun a hs => ?_
                  refine s_load hs (hw.at_ 1 rfl) 2 (by kernel_rfl) (by kernel_rfl) (v := .slice p2 x1.f2.length c3) (by kernel_rfl) fun a hs => ?_
                  refine pures hs 2 [2, 4, 5, 6, 49, 51] [(2, .pointer (some ⟨b132, 0, none⟩)), (4, .pointer (some ⟨b134, 0, none⟩)), (5, .int .i64 y151), (6, .pointer (some ⟨b171, 0, none⟩)), (49, .slice p2 x1.f2.length c3), (51, .int .i64 (IntKind.i64.wrap (y151 - 1)))] (by kernel_rfl) fun a hs => ?_
                  obtain ⟨x219, h220, hx212⟩ := bindE hx212
                  refine s_index hs h4 (by kernel_rfl) (by kernel_rfl) (k := .i64) (by kernel_rfl) 3 (by kernel_rfl) (by kernel_rfl) h220 fun a r221 cs henc at222 hs => ?_
                  obtain rfl := henc
                  refine s_load hs (at222 _ (hw.vwAll.nil.anti (Le.refl _))) 0 (by kernel_rfl) (by kernel_rfl) (v := .int .i64 x219) (by kernel_rfl) fun a hs => ?_
                  refine pures hs 1 [2, 4, 5, 6, 53, 54] [(2, .pointer (some ⟨b132, 0, none⟩)), (4, .pointer (some ⟨b134, 0, none⟩)), (5, .int .i64 y151), (6, .pointer (some ⟨b171, 0, none⟩)), (53, .int .i64 x219), (54, .pointer (some ⟨b171, 6, none⟩))] (by kernel_rfl) fun a hs => ?_
                  refine s_store hs hw 2 rfl 6 (by kernel_rfl) (by kernel_rfl) (v := .int .i64 x219) (by kernel_rfl) (by kernel_rfl) (by kernel_rfl) (by kernel_rfl) fun a w hs hw => ?_
                  refine s_end ?_
                  obtain rfl := someE hx212
                  exact (hJ213 _ _).2 ⟨x219, hk, hs.cast [2, 4, 5, 6] (by kernel_rfl), hw.pick [0, 1, 2, 3] (by kernel_rfl)⟩
                · refine c_cond0 hs (by kernel_rfl) (t := (decide (y151 > 0))) (by kernel_rfl) h214 ?_
                  refine wp_skip ?_
                  obtain rfl := someE hx212
                  exact (hJ213 _ _).2 ⟨0, hk, hs.cast [2, 4, 5, 6] (by kernel_rfl), hw.pick [0, 1, 2, 3] (by kernel_rfl)⟩
              · intro a w hh
                obtain ⟨x187, hk, hs, hw⟩ := (hJ213 _ _).1 hh
                obtain ⟨y198, hx199, hk⟩ := bindE hk
                obtain ⟨J200, hJ200⟩ : ∃ J : Act → World → Prop, ∀ a w, J a w ↔ (∃ (x197 : Int), role_Of_r6 y151 x173 x177 x187 x197 = some r ∧ Sees a 66 [(4, .pointer (some ⟨b134, 0, none⟩)), (6, .pointer (some ⟨b171, 0, none⟩))] ∧ St g w [bx b134 [.bool false, .bool false, .bool false, .bool false, .bool false, .int .i64 0, .int .i64 0, .int .i64 0] 56, bx b171 [.bool true, .bool false, .bool (y151 == 0), .bool x173, .bool x177, .int .i64 y151, .int .i64 x187, .int .i64 x197] 56, F] ih) := ⟨_, fun _ _ => Iff.rfl⟩
                refine c_seqJ J200 ?_ ?_
                · refine c_seq ?_
                  refine c_region ?_
                  refine pures hs 1 [2, 4, 5, 6, 55] [(2, .pointer (some ⟨b132, 0, none⟩)), (4, .pointer (some ⟨b134, 0, none⟩)), (5, .int .i64 y151), (6, .pointer (some ⟨b171, 0, none⟩)), (55, .pointer (some ⟨b171, 3, none⟩))] (by kernel_rfl) fun a hs => ?_
                  refine s_load hs (hw.at_ 2 rfl) 3 (by kernel_rfl) (by kernel_rfl) (v := .bool x173) (by kernel_rfl) fun a hs => ?_
                  refine pures hs 1 [2, 4, 5, 6, 57] [(2, .pointer (some ⟨b132, 0, none⟩)), (4, .pointer (some ⟨b134, 0, none⟩)), (5, .int .i64 y151), (6, .pointer (some ⟨b171, 0, none⟩)), (57, .bool (!x173))] (by kernel_rfl) fun a hs => ?_
                  refine s_end ?_
                  rcases ifbE hx199 with ⟨h201, hx199⟩ | ⟨h201, hx199⟩
                  · refine c_cond1 hs (by kernel_rfl) (t := (!x173)) (by kernel_rfl) h201 ?_
                    refine c_region ?_
                    refine pures hs 1 [4, 5, 6, 58] [(4, .pointer (some ⟨b134, 0, none⟩)), (5, .int .i64 y151), (6, .pointer (some ⟨b171, 0, none⟩)), (58, .pointer (some ⟨b132, 2, none⟩))] (by kernel_rfl) fun a hs => ?_
                    refine s_load hs (hw.at_ 1 rfl) 2 (by kernel_rfl) (by kernel_rfl) (v := .slice p2 x1.f2.length c3) (by kernel_rfl) fun a hs => ?_
                    refine pures hs 2 [4, 6, 59, 61] [(4, .pointer (some ⟨b134, 0, none⟩)), (6, .pointer (some ⟨b171, 0, none⟩)), (59, .slice p2 x1.f2.length c3), (61, .int .i64 (IntKind.i64.wrap (y151 + 1)))] (by kernel_rfl) fun a hs => ?_
                    obtain ⟨x206, h207, hx199⟩ := bindE hx199
                    refine s_index hs h4 (by kernel_rfl) (by kernel_rfl) (k := .i64) (by kernel_rfl) 3 (by kernel_rfl) (by kernel_rfl) h207 fun a r208 cs henc at209 hs => ?_
                    obtain rfl := henc
                    refine s_load hs (at209 _ (hw.vwAll.nil.anti (Le.refl _))) 0 (by kernel_rfl) (by kernel_rfl) (v := .int .i64 x206) (by kernel_rfl) fun a hs => ?_
                    refine pures hs 1 [4, 6, 63, 64] [(4, .pointer (some ⟨b134, 0, none⟩)), (6, .pointer (some ⟨b171, 0, none⟩)), (63, .int .i64 x206), (64, .pointer (some ⟨b171, 7, none⟩))] (by kernel_rfl) fun a hs => ?_
                    refine s_store hs hw 2 rfl 7 (by kernel_rfl) (by kernel_rfl) (v := .int .i64 x206) (by kernel_rfl) (by kernel_rfl) (by kernel_rfl) (by kernel_rfl) fun a w hs hw => ?_
                    refine s_end ?_
                    obtain rfl := someE hx199
                    exact (hJ200 _ _).2 ⟨x206, hk, hs.cast [4, 6] (by kernel_rfl), hw.pick [0, 2, 3] (by kernel_rfl)⟩
                  · refine c_cond0 hs (by kernel_rfl) (t := (!x173)) (by kernel_rfl) h201 ?_
                    refine wp_skip ?_
                    obtain rfl := someE hx199
                    exact (hJ200 _ _).2 ⟨x1.f4, hk, hs.cast [4, 6] (by kernel_rfl), hw.pick [0, 2, 3] (by kernel_rfl)⟩
                · intro a w hh
                  obtain ⟨x197, hk, hs, hw⟩ := (hJ200 _ _).1 hh
                  refine c_seq ?_
                  refine c_region ?_
                  refine s_load hs (hw.at_ 1 rfl) 0 (by kernel_rfl) (by kernel_rfl) (v := .agg #[.bool true, .bool false, .bool (y151 == 0), .bool x173, .bool x177, .int .i64 y151, .int .i64 x187, .int .i64 x197]) (by kernel_rfl) fun a hs => ?_
                  refine s_store hs hw 0 rfl 0 (by kernel_rfl) (by kernel_rfl) (v := .agg #[.bool true, .bool false, .bool (y151 == 0), .bool x173, .bool x177, .int .i64 y151, .int .i64 x187, .int .i64 x197]) (by kernel_rfl) (by kernel_rfl) (by kernel_rfl) (by kernel_rfl) fun a w hs hw => ?_
                  refine s_end ?_
                  refine wp_ret ?_
                  obtain rfl := someE hk
                  refine hQ _ _ (f_retC hs rfl (hw.at_ 0 rfl) (by kernel_rfl) (v := .agg #[.bool true, .bool false, .bool (y151 == 0), .bool x173, .bool x177, .int .i64 y151, .int .i64 x187, .int .i64 x197]) (by kernel_rfl) ⟨rfl, hw.pick [2] (by kernel_rfl)⟩)
def catenarylaw19_awake (k : Nat) : Option Bool :=
  (role_Of k (M53.mk 0 1 ([1, 2, 3]) false 4) 3).bind fun y49 =>
  some (y49.f3 && ((y49.f7 == 4) && ((y49.f6 == 2) && (y49.f0 && (!y49.f4)))))
theorem catenarylaw19_awake_s {k : Nat} {r : Bool} (hk : catenarylaw19_awake k = some r) {g w : World} {F : Ch} {ih : IH} (hw : St g w [F] ih) :
    CallsR Try.prog 33 #[] w fun v w' => ∃ (ih' : IH), v = .bool r ∧ St g w' [F] ih' ∧ Le ih ih' := by
  refine f_in (vs := []) Try.func33 rfl 26 rfl (by kernel_rfl) [] (by kernel_rfl) fun a Qf hQ hQn hs => ?_
  refine c_seq ?_
  refine c_region ?_
  refine pures hs 1 [] [] (by kernel_rfl) fun a hs => ?_
  refine s_end ?_
  refine c_seq ?_
  refine c_region ?_
  refine s_new hs hw [.int .i64 1, .int .i64 2, .int .i64 3] 3 (fun b => .slice (some ⟨b, 0, none⟩) 3 3) (by kernel_rfl) (fun _ => by kernel_rfl) fun a w b44 hs hw => ?_
  obtain ⟨ih46, hle47, hw, h48⟩ := (hw.pick [0, 1] (by kernel_rfl)).fz ((OSl.ofL (E := e3) (zs := [1, 2, 3]) (EL.cons (E := e3) (c1 := [.int .i64 1]) rfl (EL.cons (E := e3) (c1 := [.int .i64 2]) rfl (EL.cons (E := e3) (c1 := [.int .i64 3]) rfl EL.nil))) rfl (by simp [maxLen])).mono (Le.refl _))
  refine pures hs 1 [3] [(3, .agg #[.int .i64 0, .int .u64 1, .slice (some ⟨b44, 0, none⟩) ([1, 2, 3]).length 3, .bool false, .int .i64 4])] (by kernel_rfl) fun a hs => ?_
  obtain ⟨y49, h50, hk⟩ := bindE hk
  refine s_call hs (by kernel_rfl) (by kernel_rfl) (role_Of_s h50 h48 ((hw.pick [0] (by kernel_rfl)).pack 0)) fun a w v hv hs => ?_
  obtain ⟨rfl, hw⟩ := hv
  replace hw := hw.unpack 0 rfl
  refine s_new hs hw [.bool false, .bool false, .bool false, .bool false, .bool false, .int .i64 0, .int .i64 0, .int .i64 0] 56 (fun b => .pointer (some ⟨b, 0, none⟩)) (by kernel_rfl) (fun _ => by kernel_rfl) fun a w b51 hs hw => ?_
  refine s_store hs hw 0 rfl 0 (by kernel_rfl) (by kernel_rfl) (v := .agg #[.bool y49.f0, .bool y49.f1, .bool y49.f2, .bool y49.f3, .bool y49.f4, .int .i64 y49.f5, .int .i64 y49.f6, .int .i64 y49.f7]) (by kernel_rfl) (by kernel_rfl) (by kernel_rfl) (by kernel_rfl) fun a w hs hw => ?_
  refine s_end ?_
  refine c_seq ?_
  obtain ⟨J62, hJ62⟩ : ∃ J : Act → World → Prop, ∀ a w, J a w ↔ (Sees a 26 [(0, .bool (y49.f3 && ((y49.f7 == 4) && ((y49.f6 == 2) && (y49.f0 && (!y49.f4))))))] ∧ St g w [F] ih46) := ⟨_, fun _ _ => Iff.rfl⟩
  refine c_regJ J62 ?_ ?_
  · refine pures hs 1 [1, 5] [(1, .pointer (some ⟨b51, 0, none⟩)), (5, .pointer (some ⟨b51, 3, none⟩))] (by kernel_rfl) fun a hs => ?_
    refine s_load hs (hw.at_ 0 rfl) 3 (by kernel_rfl) (by kernel_rfl) (v := .bool y49.f3) (by kernel_rfl) fun a hs => ?_
    refine pures hs 1 [1, 7] [(1, .pointer (some ⟨b51, 0, none⟩)), (7, .bool y49.f3)] (by kernel_rfl) fun a hs => ?_
    rcases boolE y49.f3 with h63 | h63
    · replace hs := hs.altB 7 true (by kernel_rfl) h63
      refine pures hs 1 [1, 7, 8] [(1, .pointer (some ⟨b51, 0, none⟩)), (7, .bool true), (8, .pointer (some ⟨b51, 7, none⟩))] (by kernel_rfl) fun a hs => ?_
      refine s_load hs (hw.at_ 0 rfl) 7 (by kernel_rfl) (by kernel_rfl) (v := .int .i64 y49.f7) (by kernel_rfl) fun a hs => ?_
      refine pures hs 3 [1, 12] [(1, .pointer (some ⟨b51, 0, none⟩)), (12, .bool (y49.f7 == 4))] (by kernel_rfl) fun a hs => ?_
      rcases boolE (y49.f7 == 4) with h64 | h64
      · replace hs := hs.altB 12 true (by kernel_rfl) h64
        refine pures hs 1 [1, 12, 13] [(1, .pointer (some ⟨b51, 0, none⟩)), (12, .bool true), (13, .pointer (some ⟨b51, 6, none⟩))] (by kernel_rfl) fun a hs => ?_
        refine s_load hs (hw.at_ 0 rfl) 6 (by kernel_rfl) (by kernel_rfl) (v := .int .i64 y49.f6) (by kernel_rfl) fun a hs => ?_
        refine pures hs 3 [1, 17] [(1, .pointer (some ⟨b51, 0, none⟩)), (17, .bool (y49.f6 == 2))] (by kernel_rfl) fun a hs => ?_
        rcases boolE (y49.f6 == 2) with h65 | h65
        · replace hs := hs.altB 17 true (by kernel_rfl) h65
          refine pures hs 1 [1, 17, 18] [(1, .pointer (some ⟨b51, 0, none⟩)), (17, .bool true), (18, .pointer (some ⟨b51, 0, none⟩))] (by kernel_rfl) fun a hs => ?_
          refine s_load hs (hw.at_ 0 rfl) 0 (by kernel_rfl) (by kernel_rfl) (v := .bool y49.f0) (by kernel_rfl) fun a hs => ?_
          refine pures hs 2 [1, 21] [(1, .pointer (some ⟨b51, 0, none⟩)), (21, .bool y49.f0)] (by kernel_rfl) fun a hs => ?_
          rcases boolE y49.f0 with h66 | h66
          · replace hs := hs.altB 21 true (by kernel_rfl) h66
            refine pures hs 1 [21, 22] [(21, .bool true), (22, .pointer (some ⟨b51, 4, none⟩))] (by kernel_rfl) fun a hs => ?_
            refine s_load hs (hw.at_ 0 rfl) 4 (by kernel_rfl) (by kernel_rfl) (v := .bool y49.f4) (by kernel_rfl) fun a hs => ?_
            refine pures hs 3 [0] [(0, .bool (!y49.f4))] (by kernel_rfl) fun a hs => ?_
            refine s_end ?_
            exact (hJ62 _ _).2 ⟨(hs.altB 0 (y49.f3 && ((y49.f7 == 4) && ((y49.f6 == 2) && (y49.f0 && (!y49.f4))))) (by kernel_rfl) (by rw [h63, h64, h65, h66] <;> rfl)).cast [0] (by kernel_rfl), hw.pick [1] (by kernel_rfl)⟩
          · replace hs := hs.altB 21 false (by kernel_rfl) h66
            refine pures hs 5 [0] [(0, .bool false)] (by kernel_rfl) fun a hs => ?_
            refine s_end ?_
            exact (hJ62 _ _).2 ⟨(hs.altB 0 (y49.f3 && ((y49.f7 == 4) && ((y49.f6 == 2) && (y49.f0 && (!y49.f4))))) (by kernel_rfl) (by rw [h63, h64, h65, h66] <;> rfl)).cast [0] (by kernel_rfl), hw.pick [1] (by kernel_rfl)⟩
        · replace hs := hs.altB 17 false (by kernel_rfl) h65
          refine pures hs 9 [0] [(0, .bool false)] (by kernel_rfl) fun a hs => ?_
          refine s_end ?_
          exact (hJ62 _ _).2 ⟨(hs.altB 0 (y49.f3 && ((y49.f7 == 4) && ((y49.f6 == 2) && (y49.f0 && (!y49.f4))))) (by kernel_rfl) (by rw [h63, h64, h65] <;> rfl)).cast [0] (by kernel_rfl), hw.pick [1] (by kernel_rfl)⟩
      · replace hs := hs.altB 12 false (by kernel_rfl) h64
        refine pures hs 14 [0] [(0, .bool false)] (by kernel_rfl) fun a hs => ?_
        refine s_end ?_
        exact (hJ62 _ _).2 ⟨(hs.altB 0 (y49.f3 && ((y49.f7 == 4) && ((y49.f6 == 2) && (y49.f0 && (!y49.f4))))) (by kernel_rfl) (by rw [h63, h64] <;> rfl)).cast [0] (by kernel_rfl), hw.pick [1] (by kernel_rfl)⟩
    · replace hs := hs.altB 7 false (by kernel_rfl) h63
      refine pures hs 19 [0] [(0, .bool false)] (by kernel_rfl) fun a hs => ?_
      refine s_end ?_
      exact (hJ62 _ _).2 ⟨(hs.altB 0 (y49.f3 && ((y49.f7 == 4) && ((y49.f6 == 2) && (y49.f0 && (!y49.f4))))) (by kernel_rfl) (by rw [h63] <;> rfl)).cast [0] (by kernel_rfl), hw.pick [1] (by kernel_rfl)⟩
  · intro a w hh
    obtain ⟨hs, hw⟩ := (hJ62 _ _).1 hh
    refine wp_ret ?_
    obtain rfl := someE hk
    refine hQ _ _ (f_ret1 hs rfl (v := .bool (y49.f3 && ((y49.f7 == 4) && ((y49.f6 == 2) && (y49.f0 && (!y49.f4)))))) (by kernel_rfl) ⟨ih46, rfl, hw.pick [0] (by kernel_rfl), hle47⟩)
def catenaryref09_Stands_r2 (x108 : List Int) : Option (List Int) :=
  some x108
def catenaryref09_Stands (x1 : M53) : Option (List Int) :=
  (app ([]) x1.f2).bind fun x85 =>
  (if (x1.f4 != 0) = true then (
      (app x85 [x1.f4]).bind fun x128 =>
      some x128)
    else some x85 : Option (List Int)).bind fun s134 => catenaryref09_Stands_r2 s134
theorem catenaryref09_Stands_s {x1 : M53} {p2 : Option Addr} {c3 : Nat} {r : (List Int)} (hk : catenaryref09_Stands x1 = some r) {g w : World} {F : Ch} {ih : IH} (h4 : RSl e3 ih [] p2 c3 x1.f2) (hw : St g w [F] ih) :
    CallsR Try.prog 79 #[.agg #[.int .i64 x1.f0, .int .u64 x1.f1, .slice p2 x1.f2.length c3, .bool x1.f3, .int .i64 x1.f4]] w fun v w' => ∃ (p135 : Option Addr) (c136 : Nat) (d137 : Ch), v = .slice p135 r.length c136 ∧ St g w' [d137, F] ih ∧ OSl e3 ih p135 c136 r d137 := by
  refine f_in (vs := [.agg #[.int .i64 x1.f0, .int .u64 x1.f1, .slice p2 x1.f2.length c3, .bool x1.f3, .int .i64 x1.f4]]) Try.func79 rfl 16 rfl (by kernel_rfl) [(0, .agg #[.int .i64 x1.f0, .int .u64 x1.f1, .slice p2 x1.f2.length c3, .bool x1.f3, .int .i64 x1.f4])] (by kernel_rfl) fun a Qf hQ hQn hs => ?_
  refine c_seq ?_
  refine c_region ?_
  refine s_new hs hw [.int .i64 x1.f0, .int .u64 x1.f1, .slice p2 x1.f2.length c3, .bool x1.f3, .int .i64 x1.f4] 53 (fun b => .pointer (some ⟨b, 0, none⟩)) (by kernel_rfl) (fun _ => by kernel_rfl) fun a w b73 hs hw => ?_
  refine pures hs 1 [1] [(1, .pointer (some ⟨b73, 0, none⟩))] (by kernel_rfl) fun a hs => ?_
  refine s_end ?_
  refine c_seq ?_
  refine c_region ?_
  refine pures hs 1 [1, 4] [(1, .pointer (some ⟨b73, 0, none⟩)), (4, .pointer (some ⟨b73, 2, none⟩))] (by kernel_rfl) fun a hs => ?_
  refine s_load hs (hw.at_ 0 rfl) 2 (by kernel_rfl) (by kernel_rfl) (v := .slice p2 x1.f2.length c3) (by kernel_rfl) fun a hs => ?_
  replace hw := hw.nil
  obtain ⟨x85, h86, hk⟩ := bindE hk
  refine s_appS hs hw (E := e3) appT40 0 rfl (OSl.nil _ _) (by kernel_rfl) (by kernel_rfl) (h4.mono (Le.refl _)) (hw.vwAll.nil.anti (Le.refl _)) (by kernel_rfl) h86 fun a w p87 c88 d89 h90 hw hs => ?_
  refine pures hs 1 [1, 3] [(1, .pointer (some ⟨b73, 0, none⟩)), (3, .slice p87 x85.length c88)] (by kernel_rfl) fun a hs => ?_
  refine s_end ?_
  obtain ⟨y114, hx115, hk⟩ := bindE hk
  obtain ⟨J116, hJ116⟩ : ∃ J : Act → World → Prop, ∀ a w, J a w ↔ (∃ (x108 : List Int) (p109 : Option Addr) (c110 : Nat) (d112 : Ch), catenaryref09_Stands_r2 x108 = some r ∧ Sees a 16 [(3, .slice p109 x108.length c110)] ∧ St g w [d112, F] ih ∧ OSl e3 ih p109 c110 x108 d112) := ⟨_, fun _ _ => Iff.rfl⟩
  refine c_seqJ J116 ?_ ?_
  · refine c_seq ?_
    refine c_region ?_
    refine pures hs 1 [1, 3, 7] [(1, .pointer (some ⟨b73, 0, none⟩)), (3, .slice p87 x85.length c88), (7, .pointer (some ⟨b73, 4, none⟩))] (by kernel_rfl) fun a hs => ?_
    refine s_load hs (hw.at_ 1 rfl) 4 (by kernel_rfl) (by kernel_rfl) (v := .int .i64 x1.f4) (by kernel_rfl) fun a hs => ?_
    refine pures hs 1 [1, 3, 9] [(1, .pointer (some ⟨b73, 0, none⟩)), (3, .slice p87 x85.length c88), (9, .bool (x1.f4 != 0))] (by kernel_rfl) fun a hs => ?_
    refine s_end ?_
    rcases ifbE hx115 with ⟨h117, hx115⟩ | ⟨h117, hx115⟩
    · refine c_cond1 hs (by kernel_rfl) (t := (x1.f4 != 0)) (by kernel_rfl) h117 ?_
      refine c_region ?_
      refine pures hs 2 [10, 11] [(10, .slice p87 x85.length c88), (11, .pointer (some ⟨b73, 4, none⟩))] (by kernel_rfl) fun a hs => ?_
      refine s_load hs (hw.at_ 1 rfl) 4 (by kernel_rfl) (by kernel_rfl) (v := .int .i64 x1.f4) (by kernel_rfl) fun a hs => ?_
      refine s_new hs hw [.int .i64 x1.f4] 3 (fun b => .slice (some ⟨b, 0, none⟩) 1 1) (by kernel_rfl) (fun _ => by kernel_rfl) fun a w b126 hs hw => ?_
      obtain ⟨x128, h129, hx115⟩ := bindE hx115
      refine s_app1 hs hw (E := e3) appT40 1 rfl h90 (by kernel_rfl) (by kernel_rfl) (c2 := 1) (by kernel_rfl) (hw.at_ 0 rfl) (z := x1.f4) rfl h129 fun a w p130 c131 d132 h133 hw hs => ?_
      refine pures hs 1 [3] [(3, .slice p130 x128.length c131)] (by kernel_rfl) fun a hs => ?_
      refine s_end ?_
      obtain rfl := someE hx115
      exact (hJ116 _ _).2 ⟨x128, p130, c131, d132, hk, hs.cast [3] (by kernel_rfl), hw.pick [1, 3] (by kernel_rfl), h133⟩
    · refine c_cond0 hs (by kernel_rfl) (t := (x1.f4 != 0)) (by kernel_rfl) h117 ?_
      refine wp_skip ?_
      obtain rfl := someE hx115
      exact (hJ116 _ _).2 ⟨x85, p87, c88, d89, hk, hs.cast [3] (by kernel_rfl), hw.pick [0, 2] (by kernel_rfl), h90⟩
  · intro a w hh
    obtain ⟨x108, p109, c110, d112, hk, hs, hw, h111⟩ := (hJ116 _ _).1 hh
    refine c_seq ?_
    refine c_region ?_
    refine pures hs 2 [2] [(2, .slice p109 x108.length c110)] (by kernel_rfl) fun a hs => ?_
    refine s_end ?_
    refine wp_ret ?_
    obtain rfl := someE hk
    refine hQ _ _ (f_ret1 hs rfl (v := .slice p109 x108.length c110) (by kernel_rfl) ⟨p109, c110, d112, rfl, hw.pick [0, 1] (by kernel_rfl), h111⟩)
def catenaryref04_Has_r3 : Option Bool :=
  some false
def catenaryref04_Has_l4 (x1 : List Int) (x7 : Int) : Nat → Int → Option (Sum Bool Unit)
  | 0, _ => none
  | j + 1, x78 =>
    if (decide (x78 < (x1.length : Int))) = true then (
      (ix x1 x78).bind fun x98 =>
      if (x98 == x7) = true then some (.inl true)
      else catenaryref04_Has_l4 x1 x7 j (IntKind.i64.wrap (x78 + 1)))
    else some (.inr ())
def catenaryref04_Has (k : Nat) (x1 : List Int) (x7 : Int) : Option Bool :=
  (catenaryref04_Has_l4 x1 x7 k 0 : Option (Sum Bool Unit)).bind fun
    | .inl z => some z
    | .inr _ => catenaryref04_Has_r3
theorem catenaryref04_Has_s {k : Nat} {x1 : List Int} {x7 : Int} {p2 : Option Addr} {c3 : Nat} {d5 : Ch} {r : Bool} (hk : catenaryref04_Has k x1 x7 = some r) {g w : World} {F : Ch} {ih : IH} (h4 : RSl e3 ih d5 p2 c3 x1) (h6 : ∀ q ∈ d5, q ∈ F) (hw : St g w [F] ih) :
    CallsR Try.prog 83 #[.slice p2 x1.length c3, .int .i64 x7] w fun v w' => v = .bool r ∧ St g w' [F] ih := by
  refine f_in (vs := [.slice p2 x1.length c3, .int .i64 x7]) Try.func83 rfl 18 rfl (by kernel_rfl) [(0, .slice p2 x1.length c3), (1, .int .i64 x7)] (by kernel_rfl) fun a Qf hQ hQn hs => ?_
  refine c_seq ?_
  refine c_region ?_
  refine pures hs 1 [0, 1] [(0, .slice p2 x1.length c3), (1, .int .i64 x7)] (by kernel_rfl) fun a hs => ?_
  refine s_end ?_
  refine c_seq ?_
  refine c_seq ?_
  refine c_region ?_
  refine pures hs 1 [0, 1, 5] [(0, .slice p2 x1.length c3), (1, .int .i64 x7), (5, .int .i64 0)] (by kernel_rfl) fun a hs => ?_
  refine s_end ?_
  refine c_block ?_
  obtain ⟨y89, hx90, hk⟩ := bindE hk
  obtain ⟨J91, hJ91⟩ : ∃ J : Act → World → Prop, ∀ a w, J a w ↔ (catenaryref04_Has_r3 = some r ∧ Sees a 18 [] ∧ St g w [F] ih) := ⟨_, fun _ _ => Iff.rfl⟩
  obtain ⟨I92, hI92⟩ : ∃ J : Nat → Act → World → Prop, ∀ j a w, J j a w ↔ (∃ (x78 : Int), catenaryref04_Has_l4 x1 x7 j x78 = some y89 ∧ Sees a 18 [(0, .slice p2 x1.length c3), (1, .int .i64 x7), (5, .int .i64 x78)] ∧ St g w [F] ih) := ⟨_, fun _ _ _ => Iff.rfl⟩
  refine c_exitJ 0 J91 ?_ ?_
  · refine c_loop I92 k ((hI92 _ _ _).2 ⟨0, hx90, hs.cast [0, 1, 5] (by kernel_rfl), hw.pick [0] (by kernel_rfl)⟩) (fun a w h0 => ?_) fun j a w hh => ?_
    · obtain ⟨_, h, _⟩ := (hI92 _ _ _).1 h0
      cases h
    · obtain ⟨x78, hx90, hs, hw⟩ := (hI92 _ _ _).1 hh
      refine c_seq ?_
      refine c_seq ?_
      refine c_region ?_
      refine pures hs 4 [0, 1, 5, 9] [(0, .slice p2 x1.length c3), (1, .int .i64 x7), (5, .int .i64 x78), (9, .bool (decide (x78 < (x1.length : Int))))] (by kernel_rfl) fun a hs => ?_
      refine s_end ?_
      rcases ifbE hx90 with ⟨h93, hx90⟩ | ⟨h93, hx90⟩
      · refine c_cond1 hs (by kernel_rfl) (t := (decide (x78 < (x1.length : Int)))) (by kernel_rfl) h93 ?_
        refine wp_skip ?_
        refine c_seq ?_
        refine c_block ?_
        refine c_seq ?_
        refine c_region ?_
        refine pures hs 2 [0, 1, 5, 12, 13] [(0, .slice p2 x1.length c3), (1, .int .i64 x7), (5, .int .i64 x78), (12, .slice p2 x1.length c3), (13, .int .i64 x78)] (by kernel_rfl) fun a hs => ?_
        obtain ⟨x98, h99, hx90⟩ := bindE hx90
        refine s_index hs h4 (by kernel_rfl) (by kernel_rfl) (k := .i64) (by kernel_rfl) 3 (by kernel_rfl) (by kernel_rfl) h99 fun a r100 cs henc at101 hs => ?_
        obtain rfl := henc
        refine s_load hs (at101 _ (((hw.vw 0 rfl).sub h6).anti (Le.refl _))) 0 (by kernel_rfl) (by kernel_rfl) (v := .int .i64 x98) (by kernel_rfl) fun a hs => ?_
        refine pures hs 2 [0, 1, 5, 17] [(0, .slice p2 x1.length c3), (1, .int .i64 x7), (5, .int .i64 x78), (17, .bool (x98 == x7))] (by kernel_rfl) fun a hs => ?_
        refine s_end ?_
        rcases ifbE hx90 with ⟨h102, hx90⟩ | ⟨h102, hx90⟩
        · refine c_cond1 hs (by kernel_rfl) (t := (x98 == x7)) (by kernel_rfl) h102 ?_
          refine c_seq ?_
          refine c_region ?_
          refine pures hs 1 [4] [(4, .bool true)] (by kernel_rfl) fun a hs => ?_
          refine s_end ?_
          refine wp_ret ?_
          obtain rfl := someE hx90
          obtain rfl := someE hk
          refine hQ _ _ (f_ret1 hs rfl (v := .bool true) (by kernel_rfl) ⟨rfl, hw.pick [0] (by kernel_rfl)⟩)
        · refine c_cond0 hs (by kernel_rfl) (t := (x98 == x7)) (by kernel_rfl) h102 ?_
          refine wp_skip ?_
          refine c_region ?_
          refine pures hs 3 [0, 1, 5] [(0, .slice p2 x1.length c3), (1, .int .i64 x7), (5, .int .i64 (IntKind.i64.wrap (x78 + 1)))] (by kernel_rfl) fun a hs => ?_
          refine s_end ?_
          exact (hI92 _ _ _).2 ⟨(IntKind.i64.wrap (x78 + 1)), hx90, hs.cast [0, 1, 5] (by kernel_rfl), hw.pick [0] (by kernel_rfl)⟩
      · refine c_cond0 hs (by kernel_rfl) (t := (decide (x78 < (x1.length : Int)))) (by kernel_rfl) h93 ?_
        refine wp_exit ?_
        obtain rfl := someE hx90
        exact (hJ91 _ _).2 ⟨hk, hs.cast [] (by kernel_rfl), hw.pick [0] (by kernel_rfl)⟩
  · intro a w hh
    obtain ⟨hk, hs, hw⟩ := (hJ91 _ _).1 hh
    refine c_seq ?_
    refine c_region ?_
    refine pures hs 1 [4] [(4, .bool false)] (by kernel_rfl) fun a hs => ?_
    refine s_end ?_
    refine wp_ret ?_
    obtain rfl := someE hk
    refine hQ _ _ (f_ret1 hs rfl (v := .bool false) (by kernel_rfl) ⟨rfl, hw.pick [0] (by kernel_rfl)⟩)
def catenaryref09_Unlike_r10 : Option Bool :=
  some true
def catenaryref09_Unlike_r12 (rec_catenaryref09_Unlike_l11 : Int → Option (Sum Bool Unit)) (x443 : Int) (x563 : Bool) : Option (Sum Bool Unit) :=
  if x563 = true then some (.inl false)
  else rec_catenaryref09_Unlike_l11 (IntKind.i64.wrap (x443 + 1))
def catenaryref09_Unlike_l11 (k : Nat) (x1 : List Int) : Nat → Int → Option (Sum Bool Unit)
  | 0, _ => none
  | j + 1, x443 =>
    if (decide (x443 < (x1.length : Int))) = true then (
      ((ix x1 x443).bind fun x568 =>
        if (decide (x568 < 1)) = true then some true
        else (ix x1 x443).bind fun x573 =>
        if (decide (x573 > 24)) = true then some true
        else (sl x1 0 x443).bind fun x578 =>
        (ix x1 x443).bind fun x583 =>
        (catenaryref04_Has k x578 x583).bind fun y587 =>
        some y587 : Option Bool).bind fun s589 => catenaryref09_Unlike_r12 (catenaryref09_Unlike_l11 k x1 j) x443 s589)
    else some (.inr ())
def catenaryref09_Unlike (k : Nat) (x1 : List Int) : Option Bool :=
  (catenaryref09_Unlike_l11 k x1 k 0 : Option (Sum Bool Unit)).bind fun
    | .inl z => some z
    | .inr _ => catenaryref09_Unlike_r10
theorem catenaryref09_Unlike_s {k : Nat} {x1 : List Int} {p2 : Option Addr} {c3 : Nat} {d5 : Ch} {r : Bool} (hk : catenaryref09_Unlike k x1 = some r) {g w : World} {F : Ch} {ih : IH} (h4 : RSl e3 ih d5 p2 c3 x1) (h6 : ∀ q ∈ d5, q ∈ F) (hw : St g w [F] ih) :
    CallsR Try.prog 78 #[.slice p2 x1.length c3] w fun v w' => v = .bool r ∧ St g w' [F] ih := by
  refine f_in (vs := [.slice p2 x1.length c3]) Try.func78 rfl 32 rfl (by kernel_rfl) [(0, .slice p2 x1.length c3)] (by kernel_rfl) fun a Qf hQ hQn hs => ?_
  refine c_seq ?_
  refine c_region ?_
  refine pures hs 1 [0] [(0, .slice p2 x1.length c3)] (by kernel_rfl) fun a hs => ?_
  refine s_end ?_
  refine c_seq ?_
  refine c_seq ?_
  refine c_region ?_
  refine pures hs 1 [0, 3] [(0, .slice p2 x1.length c3), (3, .int .i64 0)] (by kernel_rfl) fun a hs => ?_
  refine s_end ?_
  refine c_block ?_
  obtain ⟨y515, hx516, hk⟩ := bindE hk
  obtain ⟨J517, hJ517⟩ : ∃ J : Act → World → Prop, ∀ a w, J a w ↔ (catenaryref09_Unlike_r10 = some r ∧ Sees a 32 [] ∧ St g w [F] ih) := ⟨_, fun _ _ => Iff.rfl⟩
  obtain ⟨I518, hI518⟩ : ∃ J : Nat → Act → World → Prop, ∀ j a w, J j a w ↔ (∃ (x443 : Int), catenaryref09_Unlike_l11 k x1 j x443 = some y515 ∧ Sees a 32 [(0, .slice p2 x1.length c3), (3, .int .i64 x443)] ∧ St g w [F] ih) := ⟨_, fun _ _ _ => Iff.rfl⟩
  refine c_exitJ 0 J517 ?_ ?_
  · refine c_loop I518 k ((hI518 _ _ _).2 ⟨0, hx516, hs.cast [0, 3] (by kernel_rfl), hw.pick [0] (by kernel_rfl)⟩) (fun a w h0 => ?_) fun j a w hh => ?_
    · obtain ⟨_, h, _⟩ := (hI518 _ _ _).1 h0
      cases h
    · obtain ⟨x443, hx516, hs, hw⟩ := (hI518 _ _ _).1 hh
      refine c_seq ?_
      refine c_seq ?_
      refine c_region ?_
      refine pures hs 4 [0, 3, 7] [(0, .slice p2 x1.length c3), (3, .int .i64 x443), (7, .bool (decide (x443 < (x1.length : Int))))] (by kernel_rfl) fun a hs => ?_
      refine s_end ?_
      rcases ifbE hx516 with ⟨h519, hx516⟩ | ⟨h519, hx516⟩
      · refine c_cond1 hs (by kernel_rfl) (t := (decide (x443 < (x1.length : Int)))) (by kernel_rfl) h519 ?_
        refine wp_skip ?_
        refine c_seq ?_
        refine c_block ?_
        refine c_seq ?_
        obtain ⟨S520, hS520, kS520⟩ := mkSX (X := [([], F)]) (ih := ih) (K := []) rfl
        obtain ⟨y565, hx566, hx516⟩ := bindE hx516
        obtain ⟨J567, hJ567⟩ : ∃ J : Act → World → Prop, ∀ a w, J a w ↔ (∃ (x563 : Bool), catenaryref09_Unlike_r12 (catenaryref09_Unlike_l11 k x1 j) x443 x563 = some y515 ∧ Sees a 32 [(0, .slice p2 x1.length c3), (3, .int .i64 x443), (31, .bool x563)] ∧ St g w [F] ih) := ⟨_, fun _ _ => Iff.rfl⟩
        refine c_draw (by kernel_rfl) (N := 22) rfl S520 J567 ?_ ?_
        · have hw := hw.drew
          have hS : S520 (Array.replicate 22 false) _ := SX_now hS520 (hw.vws [0]) (by kernel_rfl)
          refine d_pures (fuel := 20) kS520 hs hS [0, 1] [0, 3, 10, 11] [(0, .slice p2 x1.length c3), (3, .int .i64 x443), (10, .slice p2 x1.length c3), (11, .int .i64 x443)] (by kernel_rfl) fun a hs hS => ?_
          obtain ⟨x568, h569, hx566⟩ := bindE hx566
          refine d_index (fuel := 19) kS520 hs hS 2 rfl (by kernel_rfl) h4 (by kernel_rfl) (by kernel_rfl) (k := .i64) (by kernel_rfl) 3 (by kernel_rfl) (by kernel_rfl) h569 fun a r570 cs henc at571 hs hS => ?_
          obtain rfl := henc
          refine d_load (fuel := 18) kS520 hs hS 3 rfl (by kernel_rfl) (fun l w hu hS => at571 w (((SX_ch hS520 0 rfl (by kernel_rfl) l w hu hS).sub h6).anti (Le.refl _))) 0 (by kernel_rfl) (by kernel_rfl) (v := .int .i64 x568) (by kernel_rfl) fun a hs hS => ?_
          refine d_pures (fuel := 16) kS520 hs hS [4, 5] [0, 3, 10, 11, 12, 13, 14, 15] [(0, .slice p2 x1.length c3), (3, .int .i64 x443), (10, .slice p2 x1.length c3), (11, .int .i64 x443), (12, .pointer (some r570)), (13, .int .i64 x568), (14, .bool (decide (x568 < 1))), (15, .bool (decide (x568 < 1)))] (by kernel_rfl) fun a hs hS => ?_
          rcases ifbE hx566 with ⟨h572, hx566⟩ | ⟨h572, hx566⟩
          · replace hs := hs.altB 15 true (by kernel_rfl) h572
            refine d_pures (fuel := 0) kS520 hs hS [6, 7, 8, 9, 10, 11, 12, 13, 14, 15, 16, 17, 18, 19, 20, 21] [0, 3, 10, 11, 12, 13, 14, 15, 16, 17, 18, 19, 20, 21, 22, 23, 24, 25, 26, 27, 28, 29, 30, 31] [(0, .slice p2 x1.length c3), (3, .int .i64 x443), (10, .slice p2 x1.length c3), (11, .int .i64 x443), (12, .pointer (some r570)), (13, .int .i64 x568), (14, .bool (decide (x568 < 1))), (15, .bool true), (16, undef), (17, undef), (18, undef), (19, undef), (20, undef), (21, .bool true), (22, .bool true), (23, undef), (24, undef), (25, undef), (26, undef), (27, undef), (28, undef), (29, undef), (30, undef), (31, .bool true)] (by kernel_rfl) fun a hs hS => ?_
            refine d_done (by kernel_rfl) ?_
            obtain rfl := someE hx566
            exact (hJ567 _ _).2 ⟨true, hx516, hs.cast [0, 3, 31] (by kernel_rfl), hw.pick [0] (by kernel_rfl)⟩
          · replace hs := hs.altB 15 false (by kernel_rfl) h572
            refine d_pures (fuel := 14) kS520 hs hS [6, 7] [0, 3, 10, 11, 12, 13, 14, 15, 16, 17] [(0, .slice p2 x1.length c3), (3, .int .i64 x443), (10, .slice p2 x1.length c3), (11, .int .i64 x443), (12, .pointer (some r570)), (13, .int .i64 x568), (14, .bool (decide (x568 < 1))), (15, .bool false), (16, .slice p2 x1.length c3), (17, .int .i64 x443)] (by kernel_rfl) fun a hs hS => ?_
            obtain ⟨x573, h574, hx566⟩ := bindE hx566
            refine d_index (fuel := 13) kS520 hs hS 8 rfl (by kernel_rfl) h4 (by kernel_rfl) (by kernel_rfl) (k := .i64) (by kernel_rfl) 3 (by kernel_rfl) (by kernel_rfl) h574 fun a r575 cs henc at576 hs hS => ?_
            obtain rfl := henc
            refine d_load (fuel := 12) kS520 hs hS 9 rfl (by kernel_rfl) (fun l w hu hS => at576 w (((SX_ch hS520 0 rfl (by kernel_rfl) l w hu hS).sub h6).anti (Le.refl _))) 0 (by kernel_rfl) (by kernel_rfl) (v := .int .i64 x573) (by kernel_rfl) fun a hs hS => ?_
            refine d_pures (fuel := 9) kS520 hs hS [10, 11, 12] [0, 3, 10, 11, 12, 13, 14, 15, 16, 17, 18, 19, 20, 21, 22] [(0, .slice p2 x1.length c3), (3, .int .i64 x443), (10, .slice p2 x1.length c3), (11, .int .i64 x443), (12, .pointer (some r570)), (13, .int .i64 x568), (14, .bool (decide (x568 < 1))), (15, .bool false), (16, .slice p2 x1.length c3), (17, .int .i64 x443), (18, .pointer (some r575)), (19, .int .i64 x573), (20, .bool (decide (x573 > 24))), (21, .bool (decide (x573 > 24))), (22, .bool (decide (x573 > 24)))] (by kernel_rfl) fun a hs hS => ?_
            rcases ifbE hx566 with ⟨h577, hx566⟩ | ⟨h577, hx566⟩
            · replace hs := hs.altB 22 true (by kernel_rfl) h577
              refine d_pures (fuel := 0) kS520 hs hS [13, 14, 15, 16, 17, 18, 19, 20, 21] [0, 3, 10, 11, 12, 13, 14, 15, 16, 17, 18, 19, 20, 21, 22, 23, 24, 25, 26, 27, 28, 29, 30, 31] [(0, .slice p2 x1.length c3), (3, .int .i64 x443), (10, .slice p2 x1.length c3), (11, .int .i64 x443), (12, .pointer (some r570)), (13, .int .i64 x568), (14, .bool (decide (x568 < 1))), (15, .bool false), (16, .slice p2 x1.length c3), (17, .int .i64 x443), (18, .pointer (some r575)), (19, .int .i64 x573), (20, .bool (decide (x573 > 24))), (21, .bool (decide (x573 > 24))), (22, .bool true), (23, undef), (24, undef), (25, undef), (26, undef), (27, undef), (28, undef), (29, undef), (30, undef), (31, .bool true)] (by kernel_rfl) fun a hs hS => ?_
              refine d_done (by kernel_rfl) ?_
              obtain rfl := someE hx566
              exact (hJ567 _ _).2 ⟨true, hx516, hs.cast [0, 3, 31] (by kernel_rfl), hw.pick [0] (by kernel_rfl)⟩
            · replace hs := hs.altB 22 false (by kernel_rfl) h577
              refine d_pures (fuel := 7) kS520 hs hS [13, 14] [0, 3, 10, 11, 12, 13, 14, 15, 16, 17, 18, 19, 20, 21, 22, 23, 24] [(0, .slice p2 x1.length c3), (3, .int .i64 x443), (10, .slice p2 x1.length c3), (11, .int .i64 x443), (12, .pointer (some r570)), (13, .int .i64 x568), (14, .bool (decide (x568 < 1))), (15, .bool false), (16, .slice p2 x1.length c3), (17, .int .i64 x443), (18, .pointer (some r575)), (19, .int .i64 x573), (20, .bool (decide (x573 > 24))), (21, .bool (decide (x573 > 24))), (22, .bool false), (23, .slice p2 x1.length c3), (24, .int .i64 x443)] (by kernel_rfl) fun a hs hS => ?_
              obtain ⟨x578, h579, hx566⟩ := bindE hx566
              refine d_slice (fuel := 6) kS520 hs hS 15 rfl (by kernel_rfl) h4 (by kernel_rfl) (by kernel_rfl) 3 (by kernel_rfl) (by kernel_rfl) (by kernel_rfl) (by kernel_rfl) (by kernel_rfl) h579 (.inl rfl) fun a p580 c581 h582 hs hS => ?_
              refine d_pures (fuel := 4) kS520 hs hS [16, 17] [0, 3, 10, 11, 12, 13, 14, 15, 16, 17, 18, 19, 20, 21, 22, 23, 24, 25, 26, 27] [(0, .slice p2 x1.length c3), (3, .int .i64 x443), (10, .slice p2 x1.length c3), (11, .int .i64 x443), (12, .pointer (some r570)), (13, .int .i64 x568), (14, .bool (decide (x568 < 1))), (15, .bool false), (16, .slice p2 x1.length c3), (17, .int .i64 x443), (18, .pointer (some r575)), (19, .int .i64 x573), (20, .bool (decide (x573 > 24))), (21, .bool (decide (x573 > 24))), (22, .bool false), (23, .slice p2 x1.length c3), (24, .int .i64 x443), (25, .slice p580 x578.length c581), (26, .slice p2 x1.length c3), (27, .int .i64 x443)] (by kernel_rfl) fun a hs hS => ?_
              obtain ⟨x583, h584, hx566⟩ := bindE hx566
              refine d_index (fuel := 3) kS520 hs hS 18 rfl (by kernel_rfl) h4 (by kernel_rfl) (by kernel_rfl) (k := .i64) (by kernel_rfl) 3 (by kernel_rfl) (by kernel_rfl) h584 fun a r585 cs henc at586 hs hS => ?_
              obtain rfl := henc
              refine d_load (fuel := 2) kS520 hs hS 19 rfl (by kernel_rfl) (fun l w hu hS => at586 w (((SX_ch hS520 0 rfl (by kernel_rfl) l w hu hS).sub h6).anti (Le.refl _))) 0 (by kernel_rfl) (by kernel_rfl) (v := .int .i64 x583) (by kernel_rfl) fun a hs hS => ?_
              refine d_all (fuel := 1) (rs := [20]) (by kernel_rfl) (by simp) (all1 ?_)
              obtain ⟨y587, h588, hx566⟩ := bindE hx566
              refine o_call hs rfl (by kernel_rfl) (by kernel_rfl) (catenaryref04_Has_s h588 h582 (fun q hq => memF 0 rfl q (h6 q hq)) ((hw.pick [0] (by kernel_rfl)).pack 0)) fun a w v hv hs => ?_
              obtain ⟨rfl, hw⟩ := hv
              replace hw := hw.unpack 0 rfl
              refine dg_next (SX_now hS520 ((hw.vws [0]).anti (Le.refl _)) (by kernel_rfl)) fun hS => ?_
              refine d_pures (fuel := 0) kS520 hs hS [21] [0, 3, 10, 11, 12, 13, 14, 15, 16, 17, 18, 19, 20, 21, 22, 23, 24, 25, 26, 27, 28, 29, 30, 31] [(0, .slice p2 x1.length c3), (3, .int .i64 x443), (10, .slice p2 x1.length c3), (11, .int .i64 x443), (12, .pointer (some r570)), (13, .int .i64 x568), (14, .bool (decide (x568 < 1))), (15, .bool false), (16, .slice p2 x1.length c3), (17, .int .i64 x443), (18, .pointer (some r575)), (19, .int .i64 x573), (20, .bool (decide (x573 > 24))), (21, .bool (decide (x573 > 24))), (22, .bool false), (23, .slice p2 x1.length c3), (24, .int .i64 x443), (25, .slice p580 x578.length c581), (26, .slice p2 x1.length c3), (27, .int .i64 x443), (28, .pointer (some r585)), (29, .int .i64 x583), (30, .bool y587), (31, .bool y587)] (by kernel_rfl) fun a hs hS => ?_
              refine d_done (by kernel_rfl) ?_
              obtain rfl := someE hx566
              exact (hJ567 _ _).2 ⟨y587, hx516, hs.cast [0, 3, 31] (by kernel_rfl), hw.pick [0] (by kernel_rfl)⟩
        · intro a w hh
          obtain ⟨x563, hx516, hs, hw⟩ := (hJ567 _ _).1 hh
          rcases ifbE hx516 with ⟨h564, hx516⟩ | ⟨h564, hx516⟩
          · refine c_cond1 hs (by kernel_rfl) (t := x563) (by kernel_rfl) h564 ?_
            refine c_seq ?_
            refine c_region ?_
            refine pures hs 1 [2] [(2, .bool false)] (by kernel_rfl) fun a hs => ?_
            refine s_end ?_
            refine wp_ret ?_
            obtain rfl := someE hx516
            obtain rfl := someE hk
            refine hQ _ _ (f_ret1 hs rfl (v := .bool false) (by kernel_rfl) ⟨rfl, hw.pick [0] (by kernel_rfl)⟩)
          · refine c_cond0 hs (by kernel_rfl) (t := x563) (by kernel_rfl) h564 ?_
            refine wp_skip ?_
            refine c_region ?_
            refine pures hs 3 [0, 3] [(0, .slice p2 x1.length c3), (3, .int .i64 (IntKind.i64.wrap (x443 + 1)))] (by kernel_rfl) fun a hs => ?_
            refine s_end ?_
            exact (hI518 _ _ _).2 ⟨(IntKind.i64.wrap (x443 + 1)), hx516, hs.cast [0, 3] (by kernel_rfl), hw.pick [0] (by kernel_rfl)⟩
      · refine c_cond0 hs (by kernel_rfl) (t := (decide (x443 < (x1.length : Int)))) (by kernel_rfl) h519 ?_
        refine wp_exit ?_
        obtain rfl := someE hx516
        exact (hJ517 _ _).2 ⟨hk, hs.cast [] (by kernel_rfl), hw.pick [0] (by kernel_rfl)⟩
  · intro a w hh
    obtain ⟨hk, hs, hw⟩ := (hJ517 _ _).1 hh
    refine c_seq ?_
    refine c_region ?_
    refine pures hs 1 [2] [(2, .bool true)] (by kernel_rfl) fun a hs => ?_
    refine s_end ?_
    refine wp_ret ?_
    obtain rfl := someE hk
    refine hQ _ _ (f_ret1 hs rfl (v := .bool true) (by kernel_rfl) ⟨rfl, hw.pick [0] (by kernel_rfl)⟩)
def catenaryref09_Right (k : Nat) (x1 : M53) : Option Bool :=
  if ((decide (x1.f0 < 0)) || ((decide (x1.f0 > 3)) || ((x1.f1 == 0) || (((x1.f2.length : Int) == 0) || (decide ((x1.f2.length : Int) > 5)))))) = true then some false
  else if (x1.f3 && (((x1.f2.length : Int) == 1) || (x1.f4 != 0))) = true then some false
  else (catenaryref09_Stands x1).bind fun y90 =>
  (catenaryref09_Unlike k y90).bind fun y97 =>
  some y97
theorem catenaryref09_Right_s {k : Nat} {x1 : M53} {p2 : Option Addr} {c3 : Nat} {r : Bool} (hk : catenaryref09_Right k x1 = some r) {g w : World} {F : Ch} {ih : IH} (h4 : RSl e3 ih [] p2 c3 x1.f2) (hw : St g w [F] ih) :
    CallsR Try.prog 31 #[.agg #[.int .i64 x1.f0, .int .u64 x1.f1, .slice p2 x1.f2.length c3, .bool x1.f3, .int .i64 x1.f4]] w fun v w' => v = .bool r ∧ St g w' [F] ih := by
  refine f_in (vs := [.agg #[.int .i64 x1.f0, .int .u64 x1.f1, .slice p2 x1.f2.length c3, .bool x1.f3, .int .i64 x1.f4]]) Try.func31 rfl 44 rfl (by kernel_rfl) [(0, .agg #[.int .i64 x1.f0, .int .u64 x1.f1, .slice p2 x1.f2.length c3, .bool x1.f3, .int .i64 x1.f4])] (by kernel_rfl) fun a Qf hQ hQn hs => ?_
  refine c_seq ?_
  refine c_region ?_
  refine s_new hs hw [.int .i64 x1.f0, .int .u64 x1.f1, .slice p2 x1.f2.length c3, .bool x1.f3, .int .i64 x1.f4] 53 (fun b => .pointer (some ⟨b, 0, none⟩)) (by kernel_rfl) (fun _ => by kernel_rfl) fun a w b55 hs hw => ?_
  refine pures hs 1 [1] [(1, .pointer (some ⟨b55, 0, none⟩))] (by kernel_rfl) fun a hs => ?_
  refine s_end ?_
  refine c_seq ?_
  refine c_seq ?_
  obtain ⟨J66, hJ66⟩ : ∃ J : Act → World → Prop, ∀ a w, J a w ↔ (Sees a 44 [(1, .pointer (some ⟨b55, 0, none⟩)), (27, .bool ((decide (x1.f0 < 0)) || ((decide (x1.f0 > 3)) || ((x1.f1 == 0) || (((x1.f2.length : Int) == 0) || (decide ((x1.f2.length : Int) > 5)))))))] ∧ St g w [bx b55 [.int .i64 x1.f0, .int .u64 x1.f1, .slice p2 x1.f2.length c3, .bool x1.f3, .int .i64 x1.f4] 53, F] ih) := ⟨_, fun _ _ => Iff.rfl⟩
  refine c_regJ J66 ?_ ?_
  · refine pures hs 1 [1, 3] [(1, .pointer (some ⟨b55, 0, none⟩)), (3, .pointer (some ⟨b55, 0, none⟩))] (by kernel_rfl) fun a hs => ?_
    refine s_load hs (hw.at_ 0 rfl) 0 (by kernel_rfl) (by kernel_rfl) (v := .int .i64 x1.f0) (by kernel_rfl) fun a hs => ?_
    refine pures hs 2 [1, 6] [(1, .pointer (some ⟨b55, 0, none⟩)), (6, .bool (decide (x1.f0 < 0)))] (by kernel_rfl) fun a hs => ?_
    rcases boolE (decide (x1.f0 < 0)) with h67 | h67
    · replace hs := hs.altB 6 true (by kernel_rfl) h67
      refine pures hs 21 [1, 27] [(1, .pointer (some ⟨b55, 0, none⟩)), (27, .bool true)] (by kernel_rfl) fun a hs => ?_
      refine s_end ?_
      exact (hJ66 _ _).2 ⟨(hs.altB 27 ((decide (x1.f0 < 0)) || ((decide (x1.f0 > 3)) || ((x1.f1 == 0) || (((x1.f2.length : Int) == 0) || (decide ((x1.f2.length : Int) > 5)))))) (by kernel_rfl) (by rw [h67] <;> rfl)).cast [1, 27] (by kernel_rfl), hw.pick [0, 1] (by kernel_rfl)⟩
    · replace hs := hs.altB 6 false (by kernel_rfl) h67
      refine pures hs 1 [1, 6, 7] [(1, .pointer (some ⟨b55, 0, none⟩)), (6, .bool false), (7, .pointer (some ⟨b55, 0, none⟩))] (by kernel_rfl) fun a hs => ?_
      refine s_load hs (hw.at_ 0 rfl) 0 (by kernel_rfl) (by kernel_rfl) (v := .int .i64 x1.f0) (by kernel_rfl) fun a hs => ?_
      refine pures hs 3 [1, 11] [(1, .pointer (some ⟨b55, 0, none⟩)), (11, .bool (decide (x1.f0 > 3)))] (by kernel_rfl) fun a hs => ?_
      rcases boolE (decide (x1.f0 > 3)) with h68 | h68
      · replace hs := hs.altB 11 true (by kernel_rfl) h68
        refine pures hs 16 [1, 27] [(1, .pointer (some ⟨b55, 0, none⟩)), (27, .bool true)] (by kernel_rfl) fun a hs => ?_
        refine s_end ?_
        exact (hJ66 _ _).2 ⟨(hs.altB 27 ((decide (x1.f0 < 0)) || ((decide (x1.f0 > 3)) || ((x1.f1 == 0) || (((x1.f2.length : Int) == 0) || (decide ((x1.f2.length : Int) > 5)))))) (by kernel_rfl) (by rw [h67, h68] <;> rfl)).cast [1, 27] (by kernel_rfl), hw.pick [0, 1] (by kernel_rfl)⟩
      · replace hs := hs.altB 11 false (by kernel_rfl) h68
        refine pures hs 1 [1, 11, 12] [(1, .pointer (some ⟨b55, 0, none⟩)), (11, .bool false), (12, .pointer (some ⟨b55, 1, none⟩))] (by kernel_rfl) fun a hs => ?_
        refine s_load hs (hw.at_ 0 rfl) 1 (by kernel_rfl) (by kernel_rfl) (v := .int .u64 x1.f1) (by kernel_rfl) fun a hs => ?_
        refine pures hs 3 [1, 16] [(1, .pointer (some ⟨b55, 0, none⟩)), (16, .bool (x1.f1 == 0))] (by kernel_rfl) fun a hs => ?_
        rcases boolE (x1.f1 == 0) with h69 | h69
        · replace hs := hs.altB 16 true (by kernel_rfl) h69
          refine pures hs 11 [1, 27] [(1, .pointer (some ⟨b55, 0, none⟩)), (27, .bool true)] (by kernel_rfl) fun a hs => ?_
          refine s_end ?_
          exact (hJ66 _ _).2 ⟨(hs.altB 27 ((decide (x1.f0 < 0)) || ((decide (x1.f0 > 3)) || ((x1.f1 == 0) || (((x1.f2.length : Int) == 0) || (decide ((x1.f2.length : Int) > 5)))))) (by kernel_rfl) (by rw [h67, h68, h69] <;> rfl)).cast [1, 27] (by kernel_rfl), hw.pick [0, 1] (by kernel_rfl)⟩
        · replace hs := hs.altB 16 false (by kernel_rfl) h69
          refine pures hs 1 [1, 16, 17] [(1, .pointer (some ⟨b55, 0, none⟩)), (16, .bool false), (17, .pointer (some ⟨b55, 2, none⟩))] (by kernel_rfl) fun a hs => ?_
          refine s_load hs (hw.at_ 0 rfl) 2 (by kernel_rfl) (by kernel_rfl) (v := .slice p2 x1.f2.length c3) (by kernel_rfl) fun a hs => ?_
          refine pures hs 4 [1, 22] [(1, .pointer (some ⟨b55, 0, none⟩)), (22, .bool ((x1.f2.length : Int) == 0))] (by kernel_rfl) fun a hs => ?_
          rcases boolE ((x1.f2.length : Int) == 0) with h70 | h70
          · replace hs := hs.altB 22 true (by kernel_rfl) h70
            refine pures hs 5 [1, 27] [(1, .pointer (some ⟨b55, 0, none⟩)), (27, .bool true)] (by kernel_rfl) fun a hs => ?_
            refine s_end ?_
            exact (hJ66 _ _).2 ⟨(hs.altB 27 ((decide (x1.f0 < 0)) || ((decide (x1.f0 > 3)) || ((x1.f1 == 0) || (((x1.f2.length : Int) == 0) || (decide ((x1.f2.length : Int) > 5)))))) (by kernel_rfl) (by rw [h67, h68, h69, h70] <;> rfl)).cast [1, 27] (by kernel_rfl), hw.pick [0, 1] (by kernel_rfl)⟩
          · replace hs := hs.altB 22 false (by kernel_rfl) h70
            refine pures hs 1 [1, 22, 23] [(1, .pointer (some ⟨b55, 0, none⟩)), (22, .bool false), (23, .pointer (some ⟨b55, 2, none⟩))] (by kernel_rfl) fun a hs => ?_
            refine s_load hs (hw.at_ 0 rfl) 2 (by kernel_rfl) (by kernel_rfl) (v := .slice p2 x1.f2.length c3) (by kernel_rfl) fun a hs => ?_
            refine pures hs 3 [1, 27] [(1, .pointer (some ⟨b55, 0, none⟩)), (27, .bool (decide ((x1.f2.length : Int) > 5)))] (by kernel_rfl) fun a hs => ?_
            refine s_end ?_
            exact (hJ66 _ _).2 ⟨(hs.altB 27 ((decide (x1.f0 < 0)) || ((decide (x1.f0 > 3)) || ((x1.f1 == 0) || (((x1.f2.length : Int) == 0) || (decide ((x1.f2.length : Int) > 5)))))) (by kernel_rfl) (by rw [h67, h68, h69, h70] <;> rfl)).cast [1, 27] (by kernel_rfl), hw.pick [0, 1] (by kernel_rfl)⟩
  · intro a w hh
    obtain ⟨hs, hw⟩ := (hJ66 _ _).1 hh
    rcases ifbE hk with ⟨h71, hk⟩ | ⟨h71, hk⟩
    · refine c_cond1 hs (by kernel_rfl) (t := ((decide (x1.f0 < 0)) || ((decide (x1.f0 > 3)) || ((x1.f1 == 0) || (((x1.f2.length : Int) == 0) || (decide ((x1.f2.length : Int) > 5))))))) (by kernel_rfl) h71 ?_
      refine c_seq ?_
      refine c_region ?_
      refine pures hs 1 [2] [(2, .bool false)] (by kernel_rfl) fun a hs => ?_
      refine s_end ?_
      refine wp_ret ?_
      obtain rfl := someE hk
      refine hQ _ _ (f_ret1 hs rfl (v := .bool false) (by kernel_rfl) ⟨rfl, hw.pick [1] (by kernel_rfl)⟩)
    · refine c_cond0 hs (by kernel_rfl) (t := ((decide (x1.f0 < 0)) || ((decide (x1.f0 > 3)) || ((x1.f1 == 0) || (((x1.f2.length : Int) == 0) || (decide ((x1.f2.length : Int) > 5))))))) (by kernel_rfl) h71 ?_
      refine wp_skip ?_
      refine c_seq ?_
      refine c_seq ?_
      obtain ⟨J77, hJ77⟩ : ∃ J : Act → World → Prop, ∀ a w, J a w ↔ (Sees a 44 [(1, .pointer (some ⟨b55, 0, none⟩)), (40, .bool (x1.f3 && (((x1.f2.length : Int) == 1) || (x1.f4 != 0))))] ∧ St g w [bx b55 [.int .i64 x1.f0, .int .u64 x1.f1, .slice p2 x1.f2.length c3, .bool x1.f3, .int .i64 x1.f4] 53, F] ih) := ⟨_, fun _ _ => Iff.rfl⟩
      refine c_regJ J77 ?_ ?_
      · refine pures hs 1 [1, 28] [(1, .pointer (some ⟨b55, 0, none⟩)), (28, .pointer (some ⟨b55, 3, none⟩))] (by kernel_rfl) fun a hs => ?_
        refine s_load hs (hw.at_ 0 rfl) 3 (by kernel_rfl) (by kernel_rfl) (v := .bool x1.f3) (by kernel_rfl) fun a hs => ?_
        refine pures hs 1 [1, 30] [(1, .pointer (some ⟨b55, 0, none⟩)), (30, .bool x1.f3)] (by kernel_rfl) fun a hs => ?_
        rcases boolE x1.f3 with h78 | h78
        · replace hs := hs.altB 30 true (by kernel_rfl) h78
          refine pures hs 1 [1, 30, 31] [(1, .pointer (some ⟨b55, 0, none⟩)), (30, .bool true), (31, .pointer (some ⟨b55, 2, none⟩))] (by kernel_rfl) fun a hs => ?_
          refine s_load hs (hw.at_ 0 rfl) 2 (by kernel_rfl) (by kernel_rfl) (v := .slice p2 x1.f2.length c3) (by kernel_rfl) fun a hs => ?_
          refine pures hs 3 [1, 30, 35] [(1, .pointer (some ⟨b55, 0, none⟩)), (30, .bool true), (35, .bool ((x1.f2.length : Int) == 1))] (by kernel_rfl) fun a hs => ?_
          rcases boolE ((x1.f2.length : Int) == 1) with h79 | h79
          · replace hs := hs.altB 35 true (by kernel_rfl) h79
            refine pures hs 5 [1, 40] [(1, .pointer (some ⟨b55, 0, none⟩)), (40, .bool true)] (by kernel_rfl) fun a hs => ?_
            refine s_end ?_
            exact (hJ77 _ _).2 ⟨(hs.altB 40 (x1.f3 && (((x1.f2.length : Int) == 1) || (x1.f4 != 0))) (by kernel_rfl) (by rw [h78, h79] <;> rfl)).cast [1, 40] (by kernel_rfl), hw.pick [0, 1] (by kernel_rfl)⟩
          · replace hs := hs.altB 35 false (by kernel_rfl) h79
            refine pures hs 1 [1, 30, 35, 36] [(1, .pointer (some ⟨b55, 0, none⟩)), (30, .bool true), (35, .bool false), (36, .pointer (some ⟨b55, 4, none⟩))] (by kernel_rfl) fun a hs => ?_
            refine s_load hs (hw.at_ 0 rfl) 4 (by kernel_rfl) (by kernel_rfl) (v := .int .i64 x1.f4) (by kernel_rfl) fun a hs => ?_
            refine pures hs 3 [1, 40] [(1, .pointer (some ⟨b55, 0, none⟩)), (40, .bool (x1.f4 != 0))] (by kernel_rfl) fun a hs => ?_
            refine s_end ?_
            exact (hJ77 _ _).2 ⟨(hs.altB 40 (x1.f3 && (((x1.f2.length : Int) == 1) || (x1.f4 != 0))) (by kernel_rfl) (by rw [h78, h79] <;> rfl)).cast [1, 40] (by kernel_rfl), hw.pick [0, 1] (by kernel_rfl)⟩
        · replace hs := hs.altB 30 false (by kernel_rfl) h78
          refine pures hs 10 [1, 40] [(1, .pointer (some ⟨b55, 0, none⟩)), (40, .bool false)] (by kernel_rfl) fun a hs => ?_
          refine s_end ?_
          exact (hJ77 _ _).2 ⟨(hs.altB 40 (x1.f3 && (((x1.f2.length : Int) == 1) || (x1.f4 != 0))) (by kernel_rfl) (by rw [h78] <;> rfl)).cast [1, 40] (by kernel_rfl), hw.pick [0, 1] (by kernel_rfl)⟩
      · intro a w hh
        obtain ⟨hs, hw⟩ := (hJ77 _ _).1 hh
        rcases ifbE hk with ⟨h80, hk⟩ | ⟨h80, hk⟩
        · refine c_cond1 hs (by kernel_rfl) (t := (x1.f3 && (((x1.f2.length : Int) == 1) || (x1.f4 != 0)))) (by kernel_rfl) h80 ?_
          refine c_seq ?_
          refine c_region ?_
          refine pures hs 1 [2] [(2, .bool false)] (by kernel_rfl) fun a hs => ?_
          refine s_end ?_
          refine wp_ret ?_
          obtain rfl := someE hk
          refine hQ _ _ (f_ret1 hs rfl (v := .bool false) (by kernel_rfl) ⟨rfl, hw.pick [1] (by kernel_rfl)⟩)
        · refine c_cond0 hs (by kernel_rfl) (t := (x1.f3 && (((x1.f2.length : Int) == 1) || (x1.f4 != 0)))) (by kernel_rfl) h80 ?_
          refine wp_skip ?_
          refine c_seq ?_
          refine c_region ?_
          refine s_load hs (hw.at_ 0 rfl) 0 (by kernel_rfl) (by kernel_rfl) (v := .agg #[.int .i64 x1.f0, .int .u64 x1.f1, .slice p2 x1.f2.length c3, .bool x1.f3, .int .i64 x1.f4]) (by kernel_rfl) fun a hs => ?_
          obtain ⟨y90, h91, hk⟩ := bindE hk
          refine s_call hs (by kernel_rfl) (by kernel_rfl) (catenaryref09_Stands_s h91 h4 ((hw.pick [1] (by kernel_rfl)).pack 0)) fun a w v hv hs => ?_
          obtain ⟨p92, c93, d95, rfl, hw, h94⟩ := hv
          replace hw := hw.unpack 1 rfl
          obtain ⟨y97, h98, hk⟩ := bindE hk
          refine s_call hs (by kernel_rfl) (by kernel_rfl) (catenaryref09_Unlike_s h98 h94.read (memF 0 rfl) ((hw.pick [0, 1] (by kernel_rfl)).pack 0)) fun a w v hv hs => ?_
          obtain ⟨rfl, hw⟩ := hv
          replace hw := hw.unpack 0 rfl
          refine pures hs 1 [2] [(2, .bool y97)] (by kernel_rfl) fun a hs => ?_
          refine s_end ?_
          refine wp_ret ?_
          obtain rfl := someE hk
          refine hQ _ _ (f_ret1 hs rfl (v := .bool y97) (by kernel_rfl) ⟨rfl, hw.pick [1] (by kernel_rfl)⟩)
def catenaryref19_Of_r25 : Option M59 :=
  some (M59.mk false false false false false 0 0 0)
def catenaryref19_Of_r27 (x521 : Int) (x1 : M53) (x632 : Bool) (x642 : Int) (x652 : Int) : Option (Sum M59 Unit) :=
  some (.inl (M59.mk true false (x521 == 0) (x521 == (IntKind.i64.wrap ((x1.f2.length : Int) - 1))) x632 x521 x642 x652))
def catenaryref19_Of_r28 (x521 : Int) (x1 : M53) (x632 : Bool) (x642 : Int) : Option (Sum M59 Unit) :=
  (if (decide (x521 < (IntKind.i64.wrap ((x1.f2.length : Int) - 1)))) = true then (
      (ix x1.f2 (IntKind.i64.wrap (x521 + 1))).bind fun x661 =>
      some x661)
    else some x1.f4 : Option Int).bind fun s665 => catenaryref19_Of_r27 x521 x1 x632 x642 s665
def catenaryref19_Of_r29 (x521 : Int) (x1 : M53) (x632 : Bool) : Option (Sum M59 Unit) :=
  (if (decide (x521 > 0)) = true then (
      (ix x1.f2 (IntKind.i64.wrap (x521 - 1))).bind fun x674 =>
      some x674)
    else some 0 : Option Int).bind fun s678 => catenaryref19_Of_r28 x521 x1 x632 s678
def catenaryref19_Of_l26 (x1 : M53) (x5 : Int) : Nat → Int → Option (Sum M59 Unit)
  | 0, _ => none
  | j + 1, x521 =>
    if (decide (x521 ≤ (IntKind.i64.wrap ((x1.f2.length : Int) - 1)))) = true then (
      (ix x1.f2 x521).bind fun x612 =>
      if (x612 != x5) = true then catenaryref19_Of_l26 x1 x5 j (IntKind.i64.wrap (x521 + 1))
      else (if (x521 == (IntKind.i64.wrap ((x1.f2.length : Int) - 1))) = true then some x1.f3
        else some false : Option Bool).bind fun s687 => catenaryref19_Of_r29 x521 x1 s687)
    else some (.inr ())
def catenaryref19_Of_r30 (k : Nat) (x1 : M53) (x5 : Int) (x366 : Bool) : Option M59 :=
  if x366 = true then some (M59.mk false false false false false 0 0 0)
  else if (x1.f4 == x5) = true then (
    (ix x1.f2 (IntKind.i64.wrap ((x1.f2.length : Int) - 1))).bind fun x373 =>
    some (M59.mk false true false false true 0 x373 0))
  else (catenaryref19_Of_l26 x1 x5 k 0 : Option (Sum M59 Unit)).bind fun
    | .inl z => some z
    | .inr _ => catenaryref19_Of_r25
def catenaryref19_Of (k : Nat) (x1 : M53) (x5 : Int) : Option M59 :=
  ((catenaryref09_Right k x1).bind fun y692 =>
    if (!y692) = true then some true
    else some (x5 == 0) : Option Bool).bind fun s695 => catenaryref19_Of_r30 k x1 x5 s695
theorem catenaryref19_Of_s {k : Nat} {x1 : M53} {x5 : Int} {p2 : Option Addr} {c3 : Nat} {r : M59} (hk : catenaryref19_Of k x1 x5 = some r) {g w : World} {F : Ch} {ih : IH} (h4 : RSl e3 ih [] p2 c3 x1.f2) (hw : St g w [F] ih) :
    CallsR Try.prog 35 #[.agg #[.int .i64 x1.f0, .int .u64 x1.f1, .slice p2 x1.f2.length c3, .bool x1.f3, .int .i64 x1.f4], .int .i64 x5] w fun v w' => v = .agg #[.bool r.f0, .bool r.f1, .bool r.f2, .bool r.f3, .bool r.f4, .int .i64 r.f5, .int .i64 r.f6, .int .i64 r.f7] ∧ St g w' [F] ih := by
  refine f_in (vs := [.agg #[.int .i64 x1.f0, .int .u64 x1.f1, .slice p2 x1.f2.length c3, .bool x1.f3, .int .i64 x1.f4], .int .i64 x5]) Try.func35 rfl 80 rfl (by kernel_rfl) [(0, .agg #[.int .i64 x1.f0, .int .u64 x1.f1, .slice p2 x1.f2.length c3, .bool x1.f3, .int .i64 x1.f4]), (1, .int .i64 x5)] (by kernel_rfl) fun a Qf hQ hQn hs => ?_
  refine c_seq ?_
  refine c_region ?_
  refine s_new hs hw [.int .i64 x1.f0, .int .u64 x1.f1, .slice p2 x1.f2.length c3, .bool x1.f3, .int .i64 x1.f4] 53 (fun b => .pointer (some ⟨b, 0, none⟩)) (by kernel_rfl) (fun _ => by kernel_rfl) fun a w b356 hs hw => ?_
  refine s_new hs hw [.bool false, .bool false, .bool false, .bool false, .bool false, .int .i64 0, .int .i64 0, .int .i64 0] 59 (fun b => .pointer (some ⟨b, 0, none⟩)) (by kernel_rfl) (fun _ => by kernel_rfl) fun a w b358 hs hw => ?_
  refine s_end ?_
  refine c_seq ?_
  refine c_seq ?_
  obtain ⟨y689, hx690, hk⟩ := bindE hk
  obtain ⟨J691, hJ691⟩ : ∃ J : Act → World → Prop, ∀ a w, J a w ↔ (∃ (x366 : Bool), catenaryref19_Of_r30 k x1 x5 x366 = some r ∧ Sees a 80 [(1, .int .i64 x5), (2, .pointer (some ⟨b356, 0, none⟩)), (4, .pointer (some ⟨b358, 0, none⟩)), (14, .bool x366)] ∧ St g w [bx b358 [.bool false, .bool false, .bool false, .bool false, .bool false, .int .i64 0, .int .i64 0, .int .i64 0] 59, bx b356 [.int .i64 x1.f0, .int .u64 x1.f1, .slice p2 x1.f2.length c3, .bool x1.f3, .int .i64 x1.f4] 53, F] ih) := ⟨_, fun _ _ => Iff.rfl⟩
  refine c_regJ J691 ?_ ?_
  · refine s_load hs (hw.at_ 1 rfl) 0 (by kernel_rfl) (by kernel_rfl) (v := .agg #[.int .i64 x1.f0, .int .u64 x1.f1, .slice p2 x1.f2.length c3, .bool x1.f3, .int .i64 x1.f4]) (by kernel_rfl) fun a hs => ?_
    obtain ⟨y692, h693, hx690⟩ := bindE hx690
    refine s_call hs (by kernel_rfl) (by kernel_rfl) (catenaryref09_Right_s h693 h4 ((hw.pick [0, 1, 2] (by kernel_rfl)).pack 0)) fun a w v hv hs => ?_
    obtain ⟨rfl, hw⟩ := hv
    replace hw := hw.unpack 0 rfl
    refine pures hs 2 [1, 2, 4, 11] [(1, .int .i64 x5), (2, .pointer (some ⟨b356, 0, none⟩)), (4, .pointer (some ⟨b358, 0, none⟩)), (11, .bool (!y692))] (by kernel_rfl) fun a hs => ?_
    rcases ifbE hx690 with ⟨h694, hx690⟩ | ⟨h694, hx690⟩
    · replace hs := hs.altB 11 true (by kernel_rfl) h694
      refine pures hs 3 [1, 2, 4, 14] [(1, .int .i64 x5), (2, .pointer (some ⟨b356, 0, none⟩)), (4, .pointer (some ⟨b358, 0, none⟩)), (14, .bool true)] (by kernel_rfl) fun a hs => ?_
      refine s_end ?_
      obtain rfl := someE hx690
      exact (hJ691 _ _).2 ⟨true, hk, hs.cast [1, 2, 4, 14] (by kernel_rfl), hw.pick [0, 1, 2] (by kernel_rfl)⟩
    · replace hs := hs.altB 11 false (by kernel_rfl) h694
      refine pures hs 3 [1, 2, 4, 14] [(1, .int .i64 x5), (2, .pointer (some ⟨b356, 0, none⟩)), (4, .pointer (some ⟨b358, 0, none⟩)), (14, .bool (x5 == 0))] (by kernel_rfl) fun a hs => ?_
      refine s_end ?_
      obtain rfl := someE hx690
      exact (hJ691 _ _).2 ⟨(x5 == 0), hk, hs.cast [1, 2, 4, 14] (by kernel_rfl), hw.pick [0, 1, 2] (by kernel_rfl)⟩
  · intro a w hh
    obtain ⟨x366, hk, hs, hw⟩ := (hJ691 _ _).1 hh
    rcases ifbE hk with ⟨h367, hk⟩ | ⟨h367, hk⟩
    · refine c_cond1 hs (by kernel_rfl) (t := x366) (by kernel_rfl) h367 ?_
      refine c_seq ?_
      refine c_region ?_
      refine pures hs 1 [4, 15] [(4, .pointer (some ⟨b358, 0, none⟩)), (15, .agg #[.bool false, .bool false, .bool false, .bool false, .bool false, .int .i64 0, .int .i64 0, .int .i64 0])] (by kernel_rfl) fun a hs => ?_
      refine s_store hs hw 0 rfl 0 (by kernel_rfl) (by kernel_rfl) (v := .agg #[.bool false, .bool false, .bool false, .bool false, .bool false, .int .i64 0, .int .i64 0, .int .i64 0]) (by kernel_rfl) (by kernel_rfl) (by kernel_rfl) (by kernel_rfl) fun a w hs hw => ?_
      refine s_end ?_
      refine wp_ret ?_
      obtain rfl := someE hk
      refine hQ _ _ (f_retC hs rfl (hw.at_ 0 rfl) (by kernel_rfl) (v := .agg #[.bool false, .bool false, .bool false, .bool false, .bool false, .int .i64 0, .int .i64 0, .int .i64 0]) (by kernel_rfl) ⟨rfl, hw.pick [2] (by kernel_rfl)⟩)
    · refine c_cond0 hs (by kernel_rfl) (t := x366) (by kernel_rfl) h367 ?_
      refine wp_skip ?_
      refine c_seq ?_
      refine c_region ?_
      refine pures hs 1 [1, 2, 4, 16] [(1, .int .i64 x5), (2, .pointer (some ⟨b356, 0, none⟩)), (4, .pointer (some ⟨b358, 0, none⟩)), (16, .pointer (some ⟨b356, 2, none⟩))] (by kernel_rfl) fun a hs => ?_
      refine s_load hs (hw.at_ 1 rfl) 2 (by kernel_rfl) (by kernel_rfl) (v := .slice p2 x1.f2.length c3) (by kernel_rfl) fun a hs => ?_
      refine pures hs 3 [1, 2, 4, 5] [(1, .int .i64 x5), (2, .pointer (some ⟨b356, 0, none⟩)), (4, .pointer (some ⟨b358, 0, none⟩)), (5, .int .i64 (IntKind.i64.wrap ((x1.f2.length : Int) - 1)))] (by kernel_rfl) fun a hs => ?_
      refine s_end ?_
      refine c_seq ?_
      refine c_seq ?_
      refine c_region ?_
      refine pures hs 1 [1, 2, 4, 5, 20] [(1, .int .i64 x5), (2, .pointer (some ⟨b356, 0, none⟩)), (4, .pointer (some ⟨b358, 0, none⟩)), (5, .int .i64 (IntKind.i64.wrap ((x1.f2.length : Int) - 1))), (20, .pointer (some ⟨b356, 4, none⟩))] (by kernel_rfl) fun a hs => ?_
      refine s_load hs (hw.at_ 1 rfl) 4 (by kernel_rfl) (by kernel_rfl) (v := .int .i64 x1.f4) (by kernel_rfl) fun a hs => ?_
      refine pures hs 2 [1, 2, 4, 5, 23] [(1, .int .i64 x5), (2, .pointer (some ⟨b356, 0, none⟩)), (4, .pointer (some ⟨b358, 0, none⟩)), (5, .int .i64 (IntKind.i64.wrap ((x1.f2.length : Int) - 1))), (23, .bool (x1.f4 == x5))] (by kernel_rfl) fun a hs => ?_
      refine s_end ?_
      rcases ifbE hk with ⟨h368, hk⟩ | ⟨h368, hk⟩
      · refine c_cond1 hs (by kernel_rfl) (t := (x1.f4 == x5)) (by kernel_rfl) h368 ?_
        refine c_seq ?_
        refine c_region ?_
        refine pures hs 1 [4, 5, 24] [(4, .pointer (some ⟨b358, 0, none⟩)), (5, .int .i64 (IntKind.i64.wrap ((x1.f2.length : Int) - 1))), (24, .pointer (some ⟨b356, 2, none⟩))] (by kernel_rfl) fun a hs => ?_
        refine s_load hs (hw.at_ 1 rfl) 2 (by kernel_rfl) (by kernel_rfl) (v := .slice p2 x1.f2.length c3) (by kernel_rfl) fun a hs => ?_
        refine pures hs 1 [4, 25, 26] [(4, .pointer (some ⟨b358, 0, none⟩)), (25, .slice p2 x1.f2.length c3), (26, .int .i64 (IntKind.i64.wrap ((x1.f2.length : Int) - 1)))] (by kernel_rfl) fun a hs => ?_
        obtain ⟨x373, h374, hk⟩ := bindE hk
        refine s_index hs h4 (by kernel_rfl) (by kernel_rfl) (k := .i64) (by kernel_rfl) 3 (by kernel_rfl) (by kernel_rfl) h374 fun a r375 cs henc at376 hs => ?_
        obtain rfl := henc
        refine s_load hs (at376 _ (hw.vwAll.nil.anti (Le.refl _))) 0 (by kernel_rfl) (by kernel_rfl) (v := .int .i64 x373) (by kernel_rfl) fun a hs => ?_
        refine pures hs 1 [4, 29] [(4, .pointer (some ⟨b358, 0, none⟩)), (29, .agg #[.bool false, .bool true, .bool false, .bool false, .bool true, .int .i64 0, .int .i64 x373, .int .i64 0])] (by kernel_rfl) fun a hs => ?_
        refine s_store hs hw 0 rfl 0 (by kernel_rfl) (by kernel_rfl) (v := .agg #[.bool false, .bool true, .bool false, .bool false, .bool true, .int .i64 0, .int .i64 x373, .int .i64 0]) (by kernel_rfl) (by kernel_rfl) (by kernel_rfl) (by kernel_rfl) fun a w hs hw => ?_
        refine s_end ?_
        refine wp_ret ?_
        obtain rfl := someE hk
        refine hQ _ _ (f_retC hs rfl (hw.at_ 0 rfl) (by kernel_rfl) (v := .agg #[.bool false, .bool true, .bool false, .bool false, .bool true, .int .i64 0, .int .i64 x373, .int .i64 0]) (by kernel_rfl) ⟨rfl, hw.pick [2] (by kernel_rfl)⟩)
      · refine c_cond0 hs (by kernel_rfl) (t := (x1.f4 == x5)) (by kernel_rfl) h368 ?_
        refine wp_skip ?_
        refine c_seq ?_
        refine c_seq ?_
        refine c_region ?_
        refine pures hs 1 [1, 2, 4, 5, 6] [(1, .int .i64 x5), (2, .pointer (some ⟨b356, 0, none⟩)), (4, .pointer (some ⟨b358, 0, none⟩)), (5, .int .i64 (IntKind.i64.wrap ((x1.f2.length : Int) - 1))), (6, .int .i64 0)] (by kernel_rfl) fun a hs => ?_
        refine s_end ?_
        refine c_block ?_
        obtain ⟨y603, hx604, hk⟩ := bindE hk
        obtain ⟨J605, hJ605⟩ : ∃ J : Act → World → Prop, ∀ a w, J a w ↔ (catenaryref19_Of_r25 = some r ∧ Sees a 80 [(4, .pointer (some ⟨b358, 0, none⟩))] ∧ St g w [bx b358 [.bool false, .bool false, .bool false, .bool false, .bool false, .int .i64 0, .int .i64 0, .int .i64 0] 59, F] ih) := ⟨_, fun _ _ => Iff.rfl⟩
        obtain ⟨I606, hI606⟩ : ∃ J : Nat → Act → World → Prop, ∀ j a w, J j a w ↔ (∃ (x521 : Int), catenaryref19_Of_l26 x1 x5 j x521 = some y603 ∧ Sees a 80 [(1, .int .i64 x5), (2, .pointer (some ⟨b356, 0, none⟩)), (4, .pointer (some ⟨b358, 0, none⟩)), (5, .int .i64 (IntKind.i64.wrap ((x1.f2.length : Int) - 1))), (6, .int .i64 x521)] ∧ St g w [bx b358 [.bool false, .bool false, .bool false, .bool false, .bool false, .int .i64 0, .int .i64 0, .int .i64 0] 59, bx b356 [.int .i64 x1.f0, .int .u64 x1.f1, .slice p2 x1.f2.length c3, .bool x1.f3, .int .i64 x1.f4] 53, F] ih) := ⟨_, fun _ _ _ => Iff.rfl⟩
        refine c_exitJ 0 J605 ?_ ?_
        · refine c_loop I606 k ((hI606 _ _ _).2 ⟨0, hx604, hs.cast [1, 2, 4, 5, 6] (by kernel_rfl), hw.pick [0, 1, 2] (by kernel_rfl)⟩) (fun a w h0 => ?_) fun j a w hh => ?_
          · obtain ⟨_, h, _⟩ := (hI606 _ _ _).1 h0
            cases h
          · obtain ⟨x521, hx604, hs, hw⟩ := (hI606 _ _ _).1 hh
            refine c_seq ?_
            refine c_seq ?_
            refine c_region ?_
            refine pures hs 3 [1, 2, 4, 5, 6, 32] [(1, .int .i64 x5), (2, .pointer (some ⟨b356, 0, none⟩)), (4, .pointer (some ⟨b358, 0, none⟩)), (5, .int .i64 (IntKind.i64.wrap ((x1.f2.length : Int) - 1))), (6, .int .i64 x521), (32, .bool (decide (x521 ≤ (IntKind.i64.wrap ((x1.f2.length : Int) - 1)))))] (by kernel_rfl) fun a hs => ?_
            refine s_end ?_
            rcases ifbE hx604 with ⟨h607, hx604⟩ | ⟨h607, hx604⟩
            · refine c_cond1 hs (by kernel_rfl) (t := (decide (x521 ≤ (IntKind.i64.wrap ((x1.f2.length : Int) - 1))))) (by kernel_rfl) h607 ?_
              refine wp_skip ?_
              refine c_seq ?_
              refine c_block ?_
              refine c_seq ?_
              refine c_seq ?_
              refine c_region ?_
              refine pures hs 1 [1, 2, 4, 5, 6, 35] [(1, .int .i64 x5), (2, .pointer (some ⟨b356, 0, none⟩)), (4, .pointer (some ⟨b358, 0, none⟩)), (5, .int .i64 (IntKind.i64.wrap ((x1.f2.length : Int) - 1))), (6, .int .i64 x521), (35, .pointer (some ⟨b356, 2, none⟩))] (by kernel_rfl) fun a hs => ?_
              refine s_load hs (hw.at_ 1 rfl) 2 (by kernel_rfl) (by kernel_rfl) (v := .slice p2 x1.f2.length c3) (by kernel_rfl) fun a hs => ?_
              refine pures hs 1 [1, 2, 4, 5, 6, 36, 37] [(1, .int .i64 x5), (2, .pointer (some ⟨b356, 0, none⟩)), (4, .pointer (some ⟨b358, 0, none⟩)), (5, .int .i64 (IntKind.i64.wrap ((x1.f2.length : Int) - 1))), (6, .int .i64 x521), (36, .slice p2 x1.f2.length c3), (37, .int .i64 x521)] (by kernel_rfl) fun a hs => ?_
              obtain ⟨x612, h613, hx604⟩ := bindE hx604
              refine s_index hs h4 (by kernel_rfl) (by kernel_rfl) (k := .i64) (by kernel_rfl) 3 (by kernel_rfl) (by kernel_rfl) h613 fun a r614 cs henc at615 hs => ?_
              obtain rfl := henc
              refine s_load hs (at615 _ (hw.vwAll.nil.anti (Le.refl _))) 0 (by kernel_rfl) (by kernel_rfl) (v := .int .i64 x612) (by kernel_rfl) fun a hs => ?_
              refine pures hs 2 [1, 2, 4, 5, 6, 41] [(1, .int .i64 x5), (2, .pointer (some ⟨b356, 0, none⟩)), (4, .pointer (some ⟨b358, 0, none⟩)), (5, .int .i64 (IntKind.i64.wrap ((x1.f2.length : Int) - 1))), (6, .int .i64 x521), (41, .bool (x612 != x5))] (by kernel_rfl) fun a hs => ?_
              refine s_end ?_
              rcases ifbE hx604 with ⟨h616, hx604⟩ | ⟨h616, hx604⟩
              · refine c_cond1 hs (by kernel_rfl) (t := (x612 != x5)) (by kernel_rfl) h616 ?_
                refine wp_exit ?_
                refine c_region ?_
                refine pures hs 3 [1, 2, 4, 5, 6] [(1, .int .i64 x5), (2, .pointer (some ⟨b356, 0, none⟩)), (4, .pointer (some ⟨b358, 0, none⟩)), (5, .int .i64 (IntKind.i64.wrap ((x1.f2.length : Int) - 1))), (6, .int .i64 (IntKind.i64.wrap (x521 + 1)))] (by kernel_rfl) fun a hs => ?_
                refine s_end ?_
                exact (hI606 _ _ _).2 ⟨(IntKind.i64.wrap (x521 + 1)), hx604, hs.cast [1, 2, 4, 5, 6] (by kernel_rfl), hw.pick [0, 1, 2] (by kernel_rfl)⟩
              · refine c_cond0 hs (by kernel_rfl) (t := (x612 != x5)) (by kernel_rfl) h616 ?_
                refine wp_skip ?_
                refine c_seq ?_
                obtain ⟨y679, hx680, hx604⟩ := bindE hx604
                obtain ⟨J681, hJ681⟩ : ∃ J : Act → World → Prop, ∀ a w, J a w ↔ (∃ (x632 : Bool) (b630 : Nat), catenaryref19_Of_r29 x521 x1 x632 = some y603 ∧ Sees a 80 [(2, .pointer (some ⟨b356, 0, none⟩)), (4, .pointer (some ⟨b358, 0, none⟩)), (5, .int .i64 (IntKind.i64.wrap ((x1.f2.length : Int) - 1))), (6, .int .i64 x521), (7, .pointer (some ⟨b630, 0, none⟩))] ∧ St g w [bx b358 [.bool false, .bool false, .bool false, .bool false, .bool false, .int .i64 0, .int .i64 0, .int .i64 0] 59, bx b356 [.int .i64 x1.f0, .int .u64 x1.f1, .slice p2 x1.f2.length c3, .bool x1.f3, .int .i64 x1.f4] 53, bx b630 [.bool true, .bool false, .bool (x521 == 0), .bool (x521 == (IntKind.i64.wrap ((x1.f2.length : Int) - 1))), .bool x632, .int .i64 x521, .int .i64 0, .int .i64 0] 59, F] ih) := ⟨_, fun _ _ => Iff.rfl⟩
                refine c_regJ J681 ?_ ?_
                · refine pures hs 9 [2, 4, 5, 6, 43, 46, 50] [(2, .pointer (some ⟨b356, 0, none⟩)), (4, .pointer (some ⟨b358, 0, none⟩)), (5, .int .i64 (IntKind.i64.wrap ((x1.f2.length : Int) - 1))), (6, .int .i64 x521), (43, .bool (x521 == 0)), (46, .bool (x521 == (IntKind.i64.wrap ((x1.f2.length : Int) - 1)))), (50, .bool (x521 == (IntKind.i64.wrap ((x1.f2.length : Int) - 1))))] (by kernel_rfl) fun a hs => ?_
                  rcases ifbE hx680 with ⟨h682, hx680⟩ | ⟨h682, hx680⟩
                  · replace hs := hs.altB 50 true (by kernel_rfl) h682
                    refine pures hs 1 [2, 4, 5, 6, 43, 46, 50, 51] [(2, .pointer (some ⟨b356, 0, none⟩)), (4, .pointer (some ⟨b358, 0, none⟩)), (5, .int .i64 (IntKind.i64.wrap ((x1.f2.length : Int) - 1))), (6, .int .i64 x521), (43, .bool (x521 == 0)), (46, .bool (x521 == (IntKind.i64.wrap ((x1.f2.length : Int) - 1)))), (50, .bool true), (51, .pointer (some ⟨b356, 3, none⟩))] (by kernel_rfl) fun a hs => ?_
                    refine s_load hs (hw.at_ 1 rfl) 3 (by kernel_rfl) (by kernel_rfl) (v := .bool x1.f3) (by kernel_rfl) fun a hs => ?_
                    refine pures hs 3 [2, 4, 5, 6, 55] [(2, .pointer (some ⟨b356, 0, none⟩)), (4, .pointer (some ⟨b358, 0, none⟩)), (5, .int .i64 (IntKind.i64.wrap ((x1.f2.length : Int) - 1))), (6, .int .i64 x521), (55, .agg #[.bool true, .bool false, .bool (x521 == 0), .bool (x521 == (IntKind.i64.wrap ((x1.f2.length : Int) - 1))), .bool x1.f3, .int .i64 x521, .int .i64 0, .int .i64 0])] (by kernel_rfl) fun a hs => ?_
                    refine s_new hs hw [.bool false, .bool false, .bool false, .bool false, .bool false, .int .i64 0, .int .i64 0, .int .i64 0] 59 (fun b => .pointer (some ⟨b, 0, none⟩)) (by kernel_rfl) (fun _ => by kernel_rfl) fun a w b683 hs hw => ?_
                    refine s_store hs hw 0 rfl 0 (by kernel_rfl) (by kernel_rfl) (v := .agg #[.bool true, .bool false, .bool (x521 == 0), .bool (x521 == (IntKind.i64.wrap ((x1.f2.length : Int) - 1))), .bool x1.f3, .int .i64 x521, .int .i64 0, .int .i64 0]) (by kernel_rfl) (by kernel_rfl) (by kernel_rfl) (by kernel_rfl) fun a w hs hw => ?_
                    refine s_end ?_
                    obtain rfl := someE hx680
                    exact (hJ681 _ _).2 ⟨x1.f3, b683, hx604, hs.cast [2, 4, 5, 6, 7] (by kernel_rfl), hw.pick [1, 2, 0, 3] (by kernel_rfl)⟩
                  · replace hs := hs.altB 50 false (by kernel_rfl) h682
                    refine pures hs 5 [2, 4, 5, 6, 55] [(2, .pointer (some ⟨b356, 0, none⟩)), (4, .pointer (some ⟨b358, 0, none⟩)), (5, .int .i64 (IntKind.i64.wrap ((x1.f2.length : Int) - 1))), (6, .int .i64 x521), (55, .agg #[.bool true, .bool false, .bool (x521 == 0), .bool (x521 == (IntKind.i64.wrap ((x1.f2.length : Int) - 1))), .bool false, .int .i64 x521, .int .i64 0, .int .i64 0])] (by kernel_rfl) fun a hs => ?_
                    refine s_new hs hw [.bool false, .bool false, .bool false, .bool false, .bool false, .int .i64 0, .int .i64 0, .int .i64 0] 59 (fun b => .pointer (some ⟨b, 0, none⟩)) (by kernel_rfl) (fun _ => by kernel_rfl) fun a w b685 hs hw => ?_
                    refine s_store hs hw 0 rfl 0 (by kernel_rfl) (by kernel_rfl) (v := .agg #[.bool true, .bool false, .bool (x521 == 0), .bool (x521 == (IntKind.i64.wrap ((x1.f2.length : Int) - 1))), .bool false, .int .i64 x521, .int .i64 0, .int .i64 0]) (by kernel_rfl) (by kernel_rfl) (by kernel_rfl) (by kernel_rfl) fun a w hs hw => ?_
                    refine s_end ?_
                    obtain rfl := someE hx680
                    exact (hJ681 _ _).2 ⟨false, b685, hx604, hs.cast [2, 4, 5, 6, 7] (by kernel_rfl), hw.pick [1, 2, 0, 3] (by kernel_rfl)⟩
                · intro a w hh
                  obtain ⟨x632, b630, hx604, hs, hw⟩ := (hJ681 _ _).1 hh
                  obtain ⟨y666, hx667, hx604⟩ := bindE hx604
                  obtain ⟨J668, hJ668⟩ : ∃ J : Act → World → Prop, ∀ a w, J a w ↔ (∃ (x642 : Int), catenaryref19_Of_r28 x521 x1 x632 x642 = some y603 ∧ Sees a 80 [(2, .pointer (some ⟨b356, 0, none⟩)), (4, .pointer (some ⟨b358, 0, none⟩)), (5, .int .i64 (IntKind.i64.wrap ((x1.f2.length : Int) - 1))), (6, .int .i64 x521), (7, .pointer (some ⟨b630, 0, none⟩))] ∧ St g w [bx b358 [.bool false, .bool false, .bool false, .bool false, .bool false, .int .i64 0, .int .i64 0, .int .i64 0] 59, bx b356 [.int .i64 x1.f0, .int .u64 x1.f1, .slice p2 x1.f2.length c3, .bool x1.f3, .int .i64 x1.f4] 53, bx b630 [.bool true, .bool false, .bool (x521 == 0), .bool (x521 == (IntKind.i64.wrap ((x1.f2.length : Int) - 1))), .bool x632, .int .i64 x521, .int .i64 x642, .int .i64 0] 59, F] ih) := ⟨_, fun _ _ => Iff.rfl⟩
                  refine c_seqJ J668 ?_ ?_
                  · refine c_seq ?_
                    refine c_region ?_
                    refine pures hs 2 [2, 4, 5, 6, 7, 57] [(2, .pointer (some ⟨b356, 0, none⟩)), (4, .pointer (some ⟨b358, 0, none⟩)), (5, .int .i64 (IntKind.i64.wrap ((x1.f2.length : Int) - 1))), (6, .int .i64 x521), (7, .pointer (some ⟨b630, 0, none⟩)), (57, .bool (decide (x521 > 0)))] (by kernel_rfl) fun a hs => ?_
                    refine s_end ?_
                    rcases ifbE hx667 with ⟨h669, hx667⟩ | ⟨h669, hx667⟩
                    · refine c_cond1 hs (by kernel_rfl) (t := (decide (x521 > 0))) (by kernel_rfl) h669 ?_
                      refine c_region ?_
                      refine pures hs 1 [2, 4, 5, 6, 7, 58] [(2, .pointer (some ⟨b356, 0, none⟩)), (4, .pointer (some ⟨b358, 0, none⟩)), (5, .int .i64 (IntKind.i64.wrap ((x1.f2.length : Int) - 1))), (6, .int .i64 x521), (7, .pointer (some ⟨b630, 0, none⟩)), (58, .pointer (some ⟨b356, 2, none⟩))] (by kernel_rfl) fun a hs => ?_
                      refine s_load hs (hw.at_ 1 rfl) 2 (by kernel_rfl) (by kernel_rfl) (v := .slice p2 x1.f2.length c3) (by kernel_rfl) fun a hs => ?_
                      refine pures hs 2 [2, 4, 5, 6, 7, 59, 61] [(2, .pointer (some ⟨b356, 0, none⟩)), (4, .pointer (some ⟨b358, 0, none⟩)), (5, .int .i64 (IntKind.i64.wrap ((x1.f2.length : Int) - 1))), (6, .int .i64 x521), (7, .pointer (some ⟨b630, 0, none⟩)), (59, .slice p2 x1.f2.length c3), (61, .int .i64 (IntKind.i64.wrap (x521 - 1)))] (by kernel_rfl) fun a hs => ?_
                      obtain ⟨x674, h675, hx667⟩ := bindE hx667
                      refine s_index hs h4 (by kernel_rfl) (by kernel_rfl) (k := .i64) (by kernel_rfl) 3 (by kernel_rfl) (by kernel_rfl) h675 fun a r676 cs henc at677 hs => ?_
                      obtain rfl := henc
                      refine s_load hs (at677 _ (hw.vwAll.nil.anti (Le.refl _))) 0 (by kernel_rfl) (by kernel_rfl) (v := .int .i64 x674) (by kernel_rfl) fun a hs => ?_
                      refine pures hs 1 [2, 4, 5, 6, 7, 63, 64] [(2, .pointer (some ⟨b356, 0, none⟩)), (4, .pointer (some ⟨b358, 0, none⟩)), (5, .int .i64 (IntKind.i64.wrap ((x1.f2.length : Int) - 1))), (6, .int .i64 x521), (7, .pointer (some ⟨b630, 0, none⟩)), (63, .int .i64 x674), (64, .pointer (some ⟨b630, 6, none⟩))] (by kernel_rfl) fun a hs => ?_
                      refine s_store hs hw 2 rfl 6 (by kernel_rfl) (by kernel_rfl) (v := .int .i64 x674) (by kernel_rfl) (by kernel_rfl) (by kernel_rfl) (by kernel_rfl) fun a w hs hw => ?_
                      refine s_end ?_
                      obtain rfl := someE hx667
                      exact (hJ668 _ _).2 ⟨x674, hx604, hs.cast [2, 4, 5, 6, 7] (by kernel_rfl), hw.pick [0, 1, 2, 3] (by kernel_rfl)⟩
                    · refine c_cond0 hs (by kernel_rfl) (t := (decide (x521 > 0))) (by kernel_rfl) h669 ?_
                      refine wp_skip ?_
                      obtain rfl := someE hx667
                      exact (hJ668 _ _).2 ⟨0, hx604, hs.cast [2, 4, 5, 6, 7] (by kernel_rfl), hw.pick [0, 1, 2, 3] (by kernel_rfl)⟩
                  · intro a w hh
                    obtain ⟨x642, hx604, hs, hw⟩ := (hJ668 _ _).1 hh
                    refine c_seq ?_
                    refine c_region ?_
                    refine pures hs 1 [2, 4, 5, 6, 7, 65] [(2, .pointer (some ⟨b356, 0, none⟩)), (4, .pointer (some ⟨b358, 0, none⟩)), (5, .int .i64 (IntKind.i64.wrap ((x1.f2.length : Int) - 1))), (6, .int .i64 x521), (7, .pointer (some ⟨b630, 0, none⟩)), (65, .pointer (some ⟨b356, 4, none⟩))] (by kernel_rfl) fun a hs => ?_
                    refine s_load hs (hw.at_ 1 rfl) 4 (by kernel_rfl) (by kernel_rfl) (v := .int .i64 x1.f4) (by kernel_rfl) fun a hs => ?_
                    refine pures hs 1 [2, 4, 5, 6, 7, 66, 67] [(2, .pointer (some ⟨b356, 0, none⟩)), (4, .pointer (some ⟨b358, 0, none⟩)), (5, .int .i64 (IntKind.i64.wrap ((x1.f2.length : Int) - 1))), (6, .int .i64 x521), (7, .pointer (some ⟨b630, 0, none⟩)), (66, .int .i64 x1.f4), (67, .pointer (some ⟨b630, 7, none⟩))] (by kernel_rfl) fun a hs => ?_
                    refine s_store hs hw 2 rfl 7 (by kernel_rfl) (by kernel_rfl) (v := .int .i64 x1.f4) (by kernel_rfl) (by kernel_rfl) (by kernel_rfl) (by kernel_rfl) fun a w hs hw => ?_
                    refine s_end ?_
                    obtain ⟨y653, hx654, hx604⟩ := bindE hx604
                    obtain ⟨J655, hJ655⟩ : ∃ J : Act → World → Prop, ∀ a w, J a w ↔ (∃ (x652 : Int), catenaryref19_Of_r27 x521 x1 x632 x642 x652 = some y603 ∧ Sees a 80 [(4, .pointer (some ⟨b358, 0, none⟩)), (7, .pointer (some ⟨b630, 0, none⟩))] ∧ St g w [bx b358 [.bool false, .bool false, .bool false, .bool false, .bool false, .int .i64 0, .int .i64 0, .int .i64 0] 59, bx b630 [.bool true, .bool false, .bool (x521 == 0), .bool (x521 == (IntKind.i64.wrap ((x1.f2.length : Int) - 1))), .bool x632, .int .i64 x521, .int .i64 x642, .int .i64 x652] 59, F] ih) := ⟨_, fun _ _ => Iff.rfl⟩
                    refine c_seqJ J655 ?_ ?_
                    · refine c_seq ?_
                      refine c_region ?_
                      refine pures hs 3 [2, 4, 6, 7, 70] [(2, .pointer (some ⟨b356, 0, none⟩)), (4, .pointer (some ⟨b358, 0, none⟩)), (6, .int .i64 x521), (7, .pointer (some ⟨b630, 0, none⟩)), (70, .bool (decide (x521 < (IntKind.i64.wrap ((x1.f2.length : Int) - 1)))))] (by kernel_rfl) fun a hs => ?_
                      refine s_end ?_
                      rcases ifbE hx654 with ⟨h656, hx654⟩ | ⟨h656, hx654⟩
                      · refine c_cond1 hs (by kernel_rfl) (t := (decide (x521 < (IntKind.i64.wrap ((x1.f2.length : Int) - 1))))) (by kernel_rfl) h656 ?_
                        refine c_region ?_
                        refine pures hs 1 [4, 6, 7, 71] [(4, .pointer (some ⟨b358, 0, none⟩)), (6, .int .i64 x521), (7, .pointer (some ⟨b630, 0, none⟩)), (71, .pointer (some ⟨b356, 2, none⟩))] (by kernel_rfl) fun a hs => ?_
                        refine s_load hs (hw.at_ 1 rfl) 2 (by kernel_rfl) (by kernel_rfl) (v := .slice p2 x1.f2.length c3) (by kernel_rfl) fun a hs => ?_
                        refine pures hs 2 [4, 7, 72, 74] [(4, .pointer (some ⟨b358, 0, none⟩)), (7, .pointer (some ⟨b630, 0, none⟩)), (72, .slice p2 x1.f2.length c3), (74, .int .i64 (IntKind.i64.wrap (x521 + 1)))] (by kernel_rfl) fun a hs => ?_
                        obtain ⟨x661, h662, hx654⟩ := bindE hx654
                        refine s_index hs h4 (by kernel_rfl) (by kernel_rfl) (k := .i64) (by kernel_rfl) 3 (by kernel_rfl) (by kernel_rfl) h662 fun a r663 cs henc at664 hs => ?_
                        obtain rfl := henc
                        refine s_load hs (at664 _ (hw.vwAll.nil.anti (Le.refl _))) 0 (by kernel_rfl) (by kernel_rfl) (v := .int .i64 x661) (by kernel_rfl) fun a hs => ?_
                        refine pures hs 1 [4, 7, 76, 77] [(4, .pointer (some ⟨b358, 0, none⟩)), (7, .pointer (some ⟨b630, 0, none⟩)), (76, .int .i64 x661), (77, .pointer (some ⟨b630, 7, none⟩))] (by kernel_rfl) fun a hs => ?_
                        refine s_store hs hw 2 rfl 7 (by kernel_rfl) (by kernel_rfl) (v := .int .i64 x661) (by kernel_rfl) (by kernel_rfl) (by kernel_rfl) (by kernel_rfl) fun a w hs hw => ?_
                        refine s_end ?_
                        obtain rfl := someE hx654
                        exact (hJ655 _ _).2 ⟨x661, hx604, hs.cast [4, 7] (by kernel_rfl), hw.pick [0, 2, 3] (by kernel_rfl)⟩
                      · refine c_cond0 hs (by kernel_rfl) (t := (decide (x521 < (IntKind.i64.wrap ((x1.f2.length : Int) - 1))))) (by kernel_rfl) h656 ?_
                        refine wp_skip ?_
                        obtain rfl := someE hx654
                        exact (hJ655 _ _).2 ⟨x1.f4, hx604, hs.cast [4, 7] (by kernel_rfl), hw.pick [0, 2, 3] (by kernel_rfl)⟩
                    · intro a w hh
                      obtain ⟨x652, hx604, hs, hw⟩ := (hJ655 _ _).1 hh
                      refine c_seq ?_
                      refine c_region ?_
                      refine s_load hs (hw.at_ 1 rfl) 0 (by kernel_rfl) (by kernel_rfl) (v := .agg #[.bool true, .bool false, .bool (x521 == 0), .bool (x521 == (IntKind.i64.wrap ((x1.f2.length : Int) - 1))), .bool x632, .int .i64 x521, .int .i64 x642, .int .i64 x652]) (by kernel_rfl) fun a hs => ?_
                      refine s_store hs hw 0 rfl 0 (by kernel_rfl) (by kernel_rfl) (v := .agg #[.bool true, .bool false, .bool (x521 == 0), .bool (x521 == (IntKind.i64.wrap ((x1.f2.length : Int) - 1))), .bool x632, .int .i64 x521, .int .i64 x642, .int .i64 x652]) (by kernel_rfl) (by kernel_rfl) (by kernel_rfl) (by kernel_rfl) fun a w hs hw => ?_
                      refine s_end ?_
                      refine wp_ret ?_
                      obtain rfl := someE hx604
                      obtain rfl := someE hk
                      refine hQ _ _ (f_retC hs rfl (hw.at_ 0 rfl) (by kernel_rfl) (v := .agg #[.bool true, .bool false, .bool (x521 == 0), .bool (x521 == (IntKind.i64.wrap ((x1.f2.length : Int) - 1))), .bool x632, .int .i64 x521, .int .i64 x642, .int .i64 x652]) (by kernel_rfl) ⟨rfl, hw.pick [2] (by kernel_rfl)⟩)
            · refine c_cond0 hs (by kernel_rfl) (t := (decide (x521 ≤ (IntKind.i64.wrap ((x1.f2.length : Int) - 1))))) (by kernel_rfl) h607 ?_
              refine wp_exit ?_
              obtain rfl := someE hx604
              exact (hJ605 _ _).2 ⟨hk, hs.cast [4] (by kernel_rfl), hw.pick [0, 2] (by kernel_rfl)⟩
        · intro a w hh
          obtain ⟨hk, hs, hw⟩ := (hJ605 _ _).1 hh
          refine c_seq ?_
          refine c_region ?_
          refine pures hs 1 [4, 79] [(4, .pointer (some ⟨b358, 0, none⟩)), (79, .agg #[.bool false, .bool false, .bool false, .bool false, .bool false, .int .i64 0, .int .i64 0, .int .i64 0])] (by kernel_rfl) fun a hs => ?_
          refine s_store hs hw 0 rfl 0 (by kernel_rfl) (by kernel_rfl) (v := .agg #[.bool false, .bool false, .bool false, .bool false, .bool false, .int .i64 0, .int .i64 0, .int .i64 0]) (by kernel_rfl) (by kernel_rfl) (by kernel_rfl) (by kernel_rfl) fun a w hs hw => ?_
          refine s_end ?_
          refine wp_ret ?_
          obtain rfl := someE hk
          refine hQ _ _ (f_retC hs rfl (hw.at_ 0 rfl) (by kernel_rfl) (v := .agg #[.bool false, .bool false, .bool false, .bool false, .bool false, .int .i64 0, .int .i64 0, .int .i64 0]) (by kernel_rfl) ⟨rfl, hw.pick [1] (by kernel_rfl)⟩)
def role_Head (k : Nat) (x1 : M53) : Option Int :=
  (conf_Right k x1).bind fun y30 =>
  if (!y30) = true then some 0
  else (ix x1.f2 0).bind fun x37 =>
  some x37
theorem role_Head_s {k : Nat} {x1 : M53} {p2 : Option Addr} {c3 : Nat} {r : Int} (hk : role_Head k x1 = some r) {g w : World} {F : Ch} {ih : IH} (h4 : RSl e3 ih [] p2 c3 x1.f2) (hw : St g w [F] ih) :
    CallsR Try.prog 34 #[.agg #[.int .i64 x1.f0, .int .u64 x1.f1, .slice p2 x1.f2.length c3, .bool x1.f3, .int .i64 x1.f4]] w fun v w' => v = .int .i64 r ∧ St g w' [F] ih := by
  refine f_in (vs := [.agg #[.int .i64 x1.f0, .int .u64 x1.f1, .slice p2 x1.f2.length c3, .bool x1.f3, .int .i64 x1.f4]]) Try.func34 rfl 10 rfl (by kernel_rfl) [(0, .agg #[.int .i64 x1.f0, .int .u64 x1.f1, .slice p2 x1.f2.length c3, .bool x1.f3, .int .i64 x1.f4])] (by kernel_rfl) fun a Qf hQ hQn hs => ?_
  refine c_seq ?_
  refine c_region ?_
  refine s_new hs hw [.int .i64 x1.f0, .int .u64 x1.f1, .slice p2 x1.f2.length c3, .bool x1.f3, .int .i64 x1.f4] 53 (fun b => .pointer (some ⟨b, 0, none⟩)) (by kernel_rfl) (fun _ => by kernel_rfl) fun a w b26 hs hw => ?_
  refine pures hs 1 [1] [(1, .pointer (some ⟨b26, 0, none⟩))] (by kernel_rfl) fun a hs => ?_
  refine s_end ?_
  refine c_seq ?_
  refine c_seq ?_
  refine c_region ?_
  refine s_load hs (hw.at_ 0 rfl) 0 (by kernel_rfl) (by kernel_rfl) (v := .agg #[.int .i64 x1.f0, .int .u64 x1.f1, .slice p2 x1.f2.length c3, .bool x1.f3, .int .i64 x1.f4]) (by kernel_rfl) fun a hs => ?_
  obtain ⟨y30, h31, hk⟩ := bindE hk
  refine s_call hs (by kernel_rfl) (by kernel_rfl) (conf_Right_s h31 h4 ((hw.pick [0, 1] (by kernel_rfl)).pack 0)) fun a w v hv hs => ?_
  obtain ⟨rfl, hw⟩ := hv
  replace hw := hw.unpack 0 rfl
  refine pures hs 1 [1, 5] [(1, .pointer (some ⟨b26, 0, none⟩)), (5, .bool (!y30))] (by kernel_rfl) fun a hs => ?_
  refine s_end ?_
  rcases ifbE hk with ⟨h32, hk⟩ | ⟨h32, hk⟩
  · refine c_cond1 hs (by kernel_rfl) (t := (!y30)) (by kernel_rfl) h32 ?_
    refine c_seq ?_
    refine c_region ?_
    refine pures hs 1 [2] [(2, .int .i64 0)] (by kernel_rfl) fun a hs => ?_
    refine s_end ?_
    refine wp_ret ?_
    obtain rfl := someE hk
    refine hQ _ _ (f_ret1 hs rfl (v := .int .i64 0) (by kernel_rfl) ⟨rfl, hw.pick [1] (by kernel_rfl)⟩)
  · refine c_cond0 hs (by kernel_rfl) (t := (!y30)) (by kernel_rfl) h32 ?_
    refine wp_skip ?_
    refine c_seq ?_
    refine c_region ?_
    refine pures hs 1 [6] [(6, .pointer (some ⟨b26, 2, none⟩))] (by kernel_rfl) fun a hs => ?_
    refine s_load hs (hw.at_ 0 rfl) 2 (by kernel_rfl) (by kernel_rfl) (v := .slice p2 x1.f2.length c3) (by kernel_rfl) fun a hs => ?_
    obtain ⟨x37, h38, hk⟩ := bindE hk
    refine s_index hs h4 (by kernel_rfl) (by kernel_rfl) (k := .i64) (by kernel_rfl) 3 (by kernel_rfl) (by kernel_rfl) h38 fun a r39 cs henc at40 hs => ?_
    obtain rfl := henc
    refine s_load hs (at40 _ (hw.vwAll.nil.anti (Le.refl _))) 0 (by kernel_rfl) (by kernel_rfl) (v := .int .i64 x37) (by kernel_rfl) fun a hs => ?_
    refine pures hs 1 [2] [(2, .int .i64 x37)] (by kernel_rfl) fun a hs => ?_
    refine s_end ?_
    refine wp_ret ?_
    obtain rfl := someE hk
    refine hQ _ _ (f_ret1 hs rfl (v := .int .i64 x37) (by kernel_rfl) ⟨rfl, hw.pick [1] (by kernel_rfl)⟩)
def catenaryref19_Head (k : Nat) (x1 : M53) : Option Int :=
  (catenaryref09_Right k x1).bind fun y30 =>
  if (!y30) = true then some 0
  else (ix x1.f2 0).bind fun x37 =>
  some x37
theorem catenaryref19_Head_s {k : Nat} {x1 : M53} {p2 : Option Addr} {c3 : Nat} {r : Int} (hk : catenaryref19_Head k x1 = some r) {g w : World} {F : Ch} {ih : IH} (h4 : RSl e3 ih [] p2 c3 x1.f2) (hw : St g w [F] ih) :
    CallsR Try.prog 36 #[.agg #[.int .i64 x1.f0, .int .u64 x1.f1, .slice p2 x1.f2.length c3, .bool x1.f3, .int .i64 x1.f4]] w fun v w' => v = .int .i64 r ∧ St g w' [F] ih := by
  refine f_in (vs := [.agg #[.int .i64 x1.f0, .int .u64 x1.f1, .slice p2 x1.f2.length c3, .bool x1.f3, .int .i64 x1.f4]]) Try.func36 rfl 10 rfl (by kernel_rfl) [(0, .agg #[.int .i64 x1.f0, .int .u64 x1.f1, .slice p2 x1.f2.length c3, .bool x1.f3, .int .i64 x1.f4])] (by kernel_rfl) fun a Qf hQ hQn hs => ?_
  refine c_seq ?_
  refine c_region ?_
  refine s_new hs hw [.int .i64 x1.f0, .int .u64 x1.f1, .slice p2 x1.f2.length c3, .bool x1.f3, .int .i64 x1.f4] 53 (fun b => .pointer (some ⟨b, 0, none⟩)) (by kernel_rfl) (fun _ => by kernel_rfl) fun a w b26 hs hw => ?_
  refine pures hs 1 [1] [(1, .pointer (some ⟨b26, 0, none⟩))] (by kernel_rfl) fun a hs => ?_
  refine s_end ?_
  refine c_seq ?_
  refine c_seq ?_
  refine c_region ?_
  refine s_load hs (hw.at_ 0 rfl) 0 (by kernel_rfl) (by kernel_rfl) (v := .agg #[.int .i64 x1.f0, .int .u64 x1.f1, .slice p2 x1.f2.length c3, .bool x1.f3, .int .i64 x1.f4]) (by kernel_rfl) fun a hs => ?_
  obtain ⟨y30, h31, hk⟩ := bindE hk
  refine s_call hs (by kernel_rfl) (by kernel_rfl) (catenaryref09_Right_s h31 h4 ((hw.pick [0, 1] (by kernel_rfl)).pack 0)) fun a w v hv hs => ?_
  obtain ⟨rfl, hw⟩ := hv
  replace hw := hw.unpack 0 rfl
  refine pures hs 1 [1, 5] [(1, .pointer (some ⟨b26, 0, none⟩)), (5, .bool (!y30))] (by kernel_rfl) fun a hs => ?_
  refine s_end ?_
  rcases ifbE hk with ⟨h32, hk⟩ | ⟨h32, hk⟩
  · refine c_cond1 hs (by kernel_rfl) (t := (!y30)) (by kernel_rfl) h32 ?_
    refine c_seq ?_
    refine c_region ?_
    refine pures hs 1 [2] [(2, .int .i64 0)] (by kernel_rfl) fun a hs => ?_
    refine s_end ?_
    refine wp_ret ?_
    obtain rfl := someE hk
    refine hQ _ _ (f_ret1 hs rfl (v := .int .i64 0) (by kernel_rfl) ⟨rfl, hw.pick [1] (by kernel_rfl)⟩)
  · refine c_cond0 hs (by kernel_rfl) (t := (!y30)) (by kernel_rfl) h32 ?_
    refine wp_skip ?_
    refine c_seq ?_
    refine c_region ?_
    refine pures hs 1 [6] [(6, .pointer (some ⟨b26, 2, none⟩))] (by kernel_rfl) fun a hs => ?_
    refine s_load hs (hw.at_ 0 rfl) 2 (by kernel_rfl) (by kernel_rfl) (v := .slice p2 x1.f2.length c3) (by kernel_rfl) fun a hs => ?_
    obtain ⟨x37, h38, hk⟩ := bindE hk
    refine s_index hs h4 (by kernel_rfl) (by kernel_rfl) (k := .i64) (by kernel_rfl) 3 (by kernel_rfl) (by kernel_rfl) h38 fun a r39 cs henc at40 hs => ?_
    obtain rfl := henc
    refine s_load hs (at40 _ (hw.vwAll.nil.anti (Le.refl _))) 0 (by kernel_rfl) (by kernel_rfl) (v := .int .i64 x37) (by kernel_rfl) fun a hs => ?_
    refine pures hs 1 [2] [(2, .int .i64 x37)] (by kernel_rfl) fun a hs => ?_
    refine s_end ?_
    refine wp_ret ?_
    obtain rfl := someE hk
    refine hQ _ _ (f_ret1 hs rfl (v := .int .i64 x37) (by kernel_rfl) ⟨rfl, hw.pick [1] (by kernel_rfl)⟩)
def catenaryref19_Tail (k : Nat) (x1 : M53) : Option Int :=
  (catenaryref09_Right k x1).bind fun y30 =>
  if (!y30) = true then some 0
  else (ix x1.f2 (IntKind.i64.wrap ((x1.f2.length : Int) - 1))).bind fun x37 =>
  some x37
theorem catenaryref19_Tail_s {k : Nat} {x1 : M53} {p2 : Option Addr} {c3 : Nat} {r : Int} (hk : catenaryref19_Tail k x1 = some r) {g w : World} {F : Ch} {ih : IH} (h4 : RSl e3 ih [] p2 c3 x1.f2) (hw : St g w [F] ih) :
    CallsR Try.prog 38 #[.agg #[.int .i64 x1.f0, .int .u64 x1.f1, .slice p2 x1.f2.length c3, .bool x1.f3, .int .i64 x1.f4]] w fun v w' => v = .int .i64 r ∧ St g w' [F] ih := by
  refine f_in (vs := [.agg #[.int .i64 x1.f0, .int .u64 x1.f1, .slice p2 x1.f2.length c3, .bool x1.f3, .int .i64 x1.f4]]) Try.func38 rfl 14 rfl (by kernel_rfl) [(0, .agg #[.int .i64 x1.f0, .int .u64 x1.f1, .slice p2 x1.f2.length c3, .bool x1.f3, .int .i64 x1.f4])] (by kernel_rfl) fun a Qf hQ hQn hs => ?_
  refine c_seq ?_
  refine c_region ?_
  refine s_new hs hw [.int .i64 x1.f0, .int .u64 x1.f1, .slice p2 x1.f2.length c3, .bool x1.f3, .int .i64 x1.f4] 53 (fun b => .pointer (some ⟨b, 0, none⟩)) (by kernel_rfl) (fun _ => by kernel_rfl) fun a w b26 hs hw => ?_
  refine pures hs 1 [1] [(1, .pointer (some ⟨b26, 0, none⟩))] (by kernel_rfl) fun a hs => ?_
  refine s_end ?_
  refine c_seq ?_
  refine c_seq ?_
  refine c_region ?_
  refine s_load hs (hw.at_ 0 rfl) 0 (by kernel_rfl) (by kernel_rfl) (v := .agg #[.int .i64 x1.f0, .int .u64 x1.f1, .slice p2 x1.f2.length c3, .bool x1.f3, .int .i64 x1.f4]) (by kernel_rfl) fun a hs => ?_
  obtain ⟨y30, h31, hk⟩ := bindE hk
  refine s_call hs (by kernel_rfl) (by kernel_rfl) (catenaryref09_Right_s h31 h4 ((hw.pick [0, 1] (by kernel_rfl)).pack 0)) fun a w v hv hs => ?_
  obtain ⟨rfl, hw⟩ := hv
  replace hw := hw.unpack 0 rfl
  refine pures hs 1 [1, 5] [(1, .pointer (some ⟨b26, 0, none⟩)), (5, .bool (!y30))] (by kernel_rfl) fun a hs => ?_
  refine s_end ?_
  rcases ifbE hk with ⟨h32, hk⟩ | ⟨h32, hk⟩
  · refine c_cond1 hs (by kernel_rfl) (t := (!y30)) (by kernel_rfl) h32 ?_
    refine c_seq ?_
    refine c_region ?_
    refine pures hs 1 [2] [(2, .int .i64 0)] (by kernel_rfl) fun a hs => ?_
    refine s_end ?_
    refine wp_ret ?_
    obtain rfl := someE hk
    refine hQ _ _ (f_ret1 hs rfl (v := .int .i64 0) (by kernel_rfl) ⟨rfl, hw.pick [1] (by kernel_rfl)⟩)
  · refine c_cond0 hs (by kernel_rfl) (t := (!y30)) (by kernel_rfl) h32 ?_
    refine wp_skip ?_
    refine c_seq ?_
    refine c_region ?_
    refine pures hs 1 [1, 6] [(1, .pointer (some ⟨b26, 0, none⟩)), (6, .pointer (some ⟨b26, 2, none⟩))] (by kernel_rfl) fun a hs => ?_
    refine s_load hs (hw.at_ 0 rfl) 2 (by kernel_rfl) (by kernel_rfl) (v := .slice p2 x1.f2.length c3) (by kernel_rfl) fun a hs => ?_
    refine pures hs 1 [7, 8] [(7, .slice p2 x1.f2.length c3), (8, .pointer (some ⟨b26, 2, none⟩))] (by kernel_rfl) fun a hs => ?_
    refine s_load hs (hw.at_ 0 rfl) 2 (by kernel_rfl) (by kernel_rfl) (v := .slice p2 x1.f2.length c3) (by kernel_rfl) fun a hs => ?_
    refine pures hs 2 [7, 11] [(7, .slice p2 x1.f2.length c3), (11, .int .i64 (IntKind.i64.wrap ((x1.f2.length : Int) - 1)))] (by kernel_rfl) fun a hs => ?_
    obtain ⟨x37, h38, hk⟩ := bindE hk
    refine s_index hs h4 (by kernel_rfl) (by kernel_rfl) (k := .i64) (by kernel_rfl) 3 (by kernel_rfl) (by kernel_rfl) h38 fun a r39 cs henc at40 hs => ?_
    obtain rfl := henc
    refine s_load hs (at40 _ (hw.vwAll.nil.anti (Le.refl _))) 0 (by kernel_rfl) (by kernel_rfl) (v := .int .i64 x37) (by kernel_rfl) fun a hs => ?_
    refine pures hs 1 [2] [(2, .int .i64 x37)] (by kernel_rfl) fun a hs => ?_
    refine s_end ?_
    refine wp_ret ?_
    obtain rfl := someE hk
    refine hQ _ _ (f_ret1 hs rfl (v := .int .i64 x37) (by kernel_rfl) ⟨rfl, hw.pick [1] (by kernel_rfl)⟩)
def role_Reader_r2 (x58 : Int) : Option Int :=
  some x58
def role_Reader (k : Nat) (x1 : M53) (x5 : Int) : Option Int :=
  (conf_Right k x1).bind fun y44 =>
  if (!y44) = true then some 0
  else (if ((x1.f2.length : Int) == 0) = true then none
    else (ix x1.f2 ((if 0 > x5 then 0 else x5).tmod (x1.f2.length : Int))).bind fun x63 =>
    some x63 : Option Int).bind fun s67 => role_Reader_r2 s67
theorem role_Reader_s {k : Nat} {x1 : M53} {x5 : Int} {p2 : Option Addr} {c3 : Nat} {r : Int} (hk : role_Reader k x1 x5 = some r) {g w : World} {F : Ch} {ih : IH} (h4 : RSl e3 ih [] p2 c3 x1.f2) (hw : St g w [F] ih) :
    CallsR Try.prog 39 #[.agg #[.int .i64 x1.f0, .int .u64 x1.f1, .slice p2 x1.f2.length c3, .bool x1.f3, .int .i64 x1.f4], .int .i64 x5] w fun v w' => v = .int .i64 r ∧ St g w' [F] ih := by
  refine f_in (vs := [.agg #[.int .i64 x1.f0, .int .u64 x1.f1, .slice p2 x1.f2.length c3, .bool x1.f3, .int .i64 x1.f4], .int .i64 x5]) Try.func39 rfl 18 rfl (by kernel_rfl) [(0, .agg #[.int .i64 x1.f0, .int .u64 x1.f1, .slice p2 x1.f2.length c3, .bool x1.f3, .int .i64 x1.f4]), (1, .int .i64 x5)] (by kernel_rfl) fun a Qf hQ hQn hs => ?_
  refine c_seq ?_
  refine c_region ?_
  refine s_new hs hw [.int .i64 x1.f0, .int .u64 x1.f1, .slice p2 x1.f2.length c3, .bool x1.f3, .int .i64 x1.f4] 53 (fun b => .pointer (some ⟨b, 0, none⟩)) (by kernel_rfl) (fun _ => by kernel_rfl) fun a w b40 hs hw => ?_
  refine pures hs 1 [1, 2] [(1, .int .i64 x5), (2, .pointer (some ⟨b40, 0, none⟩))] (by kernel_rfl) fun a hs => ?_
  refine s_end ?_
  refine c_seq ?_
  refine c_seq ?_
  refine c_region ?_
  refine s_load hs (hw.at_ 0 rfl) 0 (by kernel_rfl) (by kernel_rfl) (v := .agg #[.int .i64 x1.f0, .int .u64 x1.f1, .slice p2 x1.f2.length c3, .bool x1.f3, .int .i64 x1.f4]) (by kernel_rfl) fun a hs => ?_
  obtain ⟨y44, h45, hk⟩ := bindE hk
  refine s_call hs (by kernel_rfl) (by kernel_rfl) (conf_Right_s h45 h4 ((hw.pick [0, 1] (by kernel_rfl)).pack 0)) fun a w v hv hs => ?_
  obtain ⟨rfl, hw⟩ := hv
  replace hw := hw.unpack 0 rfl
  refine pures hs 1 [1, 2, 7] [(1, .int .i64 x5), (2, .pointer (some ⟨b40, 0, none⟩)), (7, .bool (!y44))] (by kernel_rfl) fun a hs => ?_
  refine s_end ?_
  rcases ifbE hk with ⟨h46, hk⟩ | ⟨h46, hk⟩
  · refine c_cond1 hs (by kernel_rfl) (t := (!y44)) (by kernel_rfl) h46 ?_
    refine c_seq ?_
    refine c_region ?_
    refine pures hs 1 [4] [(4, .int .i64 0)] (by kernel_rfl) fun a hs => ?_
    refine s_end ?_
    refine wp_ret ?_
    obtain rfl := someE hk
    refine hQ _ _ (f_ret1 hs rfl (v := .int .i64 0) (by kernel_rfl) ⟨rfl, hw.pick [1] (by kernel_rfl)⟩)
  · refine c_cond0 hs (by kernel_rfl) (t := (!y44)) (by kernel_rfl) h46 ?_
    refine wp_skip ?_
    refine c_seq ?_
    obtain ⟨S47, hS47, kS47⟩ := mkSX (X := [([], bx b40 [.int .i64 x1.f0, .int .u64 x1.f1, .slice p2 x1.f2.length c3, .bool x1.f3, .int .i64 x1.f4] 53), ([], F)]) (ih := ih) (K := []) rfl
    obtain ⟨y59, hx60, hk⟩ := bindE hk
    obtain ⟨J61, hJ61⟩ : ∃ J : Act → World → Prop, ∀ a w, J a w ↔ (∃ (x58 : Int), role_Reader_r2 x58 = some r ∧ Sees a 18 [(4, .int .i64 x58)] ∧ St g w [F] ih) := ⟨_, fun _ _ => Iff.rfl⟩
    refine c_draw (by kernel_rfl) (N := 11) rfl S47 J61 ?_ ?_
    · have hw := hw.drew
      have hS : S47 (Array.replicate 11 false) _ := SX_now hS47 (hw.vws [0, 1]) (by kernel_rfl)
      refine d_pures (fuel := 10) kS47 hs hS [0] [1, 2, 8] [(1, .int .i64 x5), (2, .pointer (some ⟨b40, 0, none⟩)), (8, .pointer (some ⟨b40, 2, none⟩))] (by kernel_rfl) fun a hs hS => ?_
      refine d_load (fuel := 9) kS47 hs hS 1 rfl (by kernel_rfl) (SX_box hS47 0 rfl (by kernel_rfl)) 2 (by kernel_rfl) (by kernel_rfl) (v := .slice p2 x1.f2.length c3) (by kernel_rfl) fun a hs hS => ?_
      refine d_pures (fuel := 6) kS47 hs hS [2, 3, 4] [1, 2, 8, 9, 10, 11, 12] [(1, .int .i64 x5), (2, .pointer (some ⟨b40, 0, none⟩)), (8, .pointer (some ⟨b40, 2, none⟩)), (9, .slice p2 x1.f2.length c3), (10, .int .i64 x5), (11, .int .i64 (if 0 > x5 then 0 else x5)), (12, .pointer (some ⟨b40, 2, none⟩))] (by kernel_rfl) fun a hs hS => ?_
      refine d_load (fuel := 5) kS47 hs hS 5 rfl (by kernel_rfl) (SX_box hS47 0 rfl (by kernel_rfl)) 2 (by kernel_rfl) (by kernel_rfl) (v := .slice p2 x1.f2.length c3) (by kernel_rfl) fun a hs hS => ?_
      refine d_pures (fuel := 4) kS47 hs hS [6] [1, 2, 8, 9, 10, 11, 12, 13, 14] [(1, .int .i64 x5), (2, .pointer (some ⟨b40, 0, none⟩)), (8, .pointer (some ⟨b40, 2, none⟩)), (9, .slice p2 x1.f2.length c3), (10, .int .i64 x5), (11, .int .i64 (if 0 > x5 then 0 else x5)), (12, .pointer (some ⟨b40, 2, none⟩)), (13, .slice p2 x1.f2.length c3), (14, .int .i64 (x1.f2.length : Int))] (by kernel_rfl) fun a hs hS => ?_
      rcases ifbE hx60 with ⟨h62, hx60⟩ | ⟨h62, hx60⟩
      · cases hx60
      · refine d_rem (fuel := 3) kS47 hs hS 7 rfl (by kernel_rfl) (by kernel_rfl) .i64 (i := (if 0 > x5 then 0 else x5)) (j := (x1.f2.length : Int)) (by kernel_rfl) (by kernel_rfl) (by simpa using h62) fun a hs hS => ?_
        obtain ⟨x63, h64, hx60⟩ := bindE hx60
        refine d_index (fuel := 2) kS47 hs hS 8 rfl (by kernel_rfl) h4 (by kernel_rfl) (by kernel_rfl) (k := .i64) (by kernel_rfl) 3 (by kernel_rfl) (by kernel_rfl) h64 fun a r65 cs henc at66 hs hS => ?_
        obtain rfl := henc
        refine d_load (fuel := 1) kS47 hs hS 9 rfl (by kernel_rfl) (fun l w hu hS => at66 w ((SX_nil hS47 l w hu hS).anti (Le.refl _))) 0 (by kernel_rfl) (by kernel_rfl) (v := .int .i64 x63) (by kernel_rfl) fun a hs hS => ?_
        refine d_pures (fuel := 0) kS47 hs hS [10] [1, 2, 8, 9, 10, 11, 12, 13, 14, 15, 16, 17, 4] [(1, .int .i64 x5), (2, .pointer (some ⟨b40, 0, none⟩)), (8, .pointer (some ⟨b40, 2, none⟩)), (9, .slice p2 x1.f2.length c3), (10, .int .i64 x5), (11, .int .i64 (if 0 > x5 then 0 else x5)), (12, .pointer (some ⟨b40, 2, none⟩)), (13, .slice p2 x1.f2.length c3), (14, .int .i64 (x1.f2.length : Int)), (15, .int .i64 ((if 0 > x5 then 0 else x5).tmod (x1.f2.length : Int))), (16, .pointer (some r65)), (17, .int .i64 x63), (4, .int .i64 x63)] (by kernel_rfl) fun a hs hS => ?_
        refine d_done (by kernel_rfl) ?_
        obtain rfl := someE hx60
        exact (hJ61 _ _).2 ⟨x63, hk, hs.cast [4] (by kernel_rfl), hw.pick [1] (by kernel_rfl)⟩
    · intro a w hh
      obtain ⟨x58, hk, hs, hw⟩ := (hJ61 _ _).1 hh
      refine wp_ret ?_
      obtain rfl := someE hk
      refine hQ _ _ (f_ret1 hs rfl (v := .int .i64 x58) (by kernel_rfl) ⟨rfl, hw.pick [0] (by kernel_rfl)⟩)
def catenaryref19_Reader_r2 (x76 : Int) : Option Int :=
  some x76
def catenaryref19_Reader (k : Nat) (x1 : M53) (x5 : Int) : Option Int :=
  (catenaryref09_Right k x1).bind fun y53 =>
  if (!y53) = true then some 0
  else if (decide (x5 < 0)) = true then (
    (ix x1.f2 0).bind fun x61 =>
    some x61)
  else (if ((x1.f2.length : Int) == 0) = true then none
    else (ix x1.f2 (x5.tmod (x1.f2.length : Int))).bind fun x81 =>
    some x81 : Option Int).bind fun s85 => catenaryref19_Reader_r2 s85
theorem catenaryref19_Reader_s {k : Nat} {x1 : M53} {x5 : Int} {p2 : Option Addr} {c3 : Nat} {r : Int} (hk : catenaryref19_Reader k x1 x5 = some r) {g w : World} {F : Ch} {ih : IH} (h4 : RSl e3 ih [] p2 c3 x1.f2) (hw : St g w [F] ih) :
    CallsR Try.prog 40 #[.agg #[.int .i64 x1.f0, .int .u64 x1.f1, .slice p2 x1.f2.length c3, .bool x1.f3, .int .i64 x1.f4], .int .i64 x5] w fun v w' => v = .int .i64 r ∧ St g w' [F] ih := by
  refine f_in (vs := [.agg #[.int .i64 x1.f0, .int .u64 x1.f1, .slice p2 x1.f2.length c3, .bool x1.f3, .int .i64 x1.f4], .int .i64 x5]) Try.func40 rfl 23 rfl (by kernel_rfl) [(0, .agg #[.int .i64 x1.f0, .int .u64 x1.f1, .slice p2 x1.f2.length c3, .bool x1.f3, .int .i64 x1.f4]), (1, .int .i64 x5)] (by kernel_rfl) fun a Qf hQ hQn hs => ?_
  refine c_seq ?_
  refine c_region ?_
  refine s_new hs hw [.int .i64 x1.f0, .int .u64 x1.f1, .slice p2 x1.f2.length c3, .bool x1.f3, .int .i64 x1.f4] 53 (fun b => .pointer (some ⟨b, 0, none⟩)) (by kernel_rfl) (fun _ => by kernel_rfl) fun a w b49 hs hw => ?_
  refine pures hs 1 [1, 2] [(1, .int .i64 x5), (2, .pointer (some ⟨b49, 0, none⟩))] (by kernel_rfl) fun a hs => ?_
  refine s_end ?_
  refine c_seq ?_
  refine c_seq ?_
  refine c_region ?_
  refine s_load hs (hw.at_ 0 rfl) 0 (by kernel_rfl) (by kernel_rfl) (v := .agg #[.int .i64 x1.f0, .int .u64 x1.f1, .slice p2 x1.f2.length c3, .bool x1.f3, .int .i64 x1.f4]) (by kernel_rfl) fun a hs => ?_
  obtain ⟨y53, h54, hk⟩ := bindE hk
  refine s_call hs (by kernel_rfl) (by kernel_rfl) (catenaryref09_Right_s h54 h4 ((hw.pick [0, 1] (by kernel_rfl)).pack 0)) fun a w v hv hs => ?_
  obtain ⟨rfl, hw⟩ := hv
  replace hw := hw.unpack 0 rfl
  refine pures hs 1 [1, 2, 7] [(1, .int .i64 x5), (2, .pointer (some ⟨b49, 0, none⟩)), (7, .bool (!y53))] (by kernel_rfl) fun a hs => ?_
  refine s_end ?_
  rcases ifbE hk with ⟨h55, hk⟩ | ⟨h55, hk⟩
  · refine c_cond1 hs (by kernel_rfl) (t := (!y53)) (by kernel_rfl) h55 ?_
    refine c_seq ?_
    refine c_region ?_
    refine pures hs 1 [4] [(4, .int .i64 0)] (by kernel_rfl) fun a hs => ?_
    refine s_end ?_
    refine wp_ret ?_
    obtain rfl := someE hk
    refine hQ _ _ (f_ret1 hs rfl (v := .int .i64 0) (by kernel_rfl) ⟨rfl, hw.pick [1] (by kernel_rfl)⟩)
  · refine c_cond0 hs (by kernel_rfl) (t := (!y53)) (by kernel_rfl) h55 ?_
    refine wp_skip ?_
    refine c_seq ?_
    refine c_seq ?_
    refine c_region ?_
    refine pures hs 2 [1, 2, 9] [(1, .int .i64 x5), (2, .pointer (some ⟨b49, 0, none⟩)), (9, .bool (decide (x5 < 0)))] (by kernel_rfl) fun a hs => ?_
    refine s_end ?_
    rcases ifbE hk with ⟨h56, hk⟩ | ⟨h56, hk⟩
    · refine c_cond1 hs (by kernel_rfl) (t := (decide (x5 < 0))) (by kernel_rfl) h56 ?_
      refine c_seq ?_
      refine c_region ?_
      refine pures hs 1 [10] [(10, .pointer (some ⟨b49, 2, none⟩))] (by kernel_rfl) fun a hs => ?_
      refine s_load hs (hw.at_ 0 rfl) 2 (by kernel_rfl) (by kernel_rfl) (v := .slice p2 x1.f2.length c3) (by kernel_rfl) fun a hs => ?_
      obtain ⟨x61, h62, hk⟩ := bindE hk
      refine s_index hs h4 (by kernel_rfl) (by kernel_rfl) (k := .i64) (by kernel_rfl) 3 (by kernel_rfl) (by kernel_rfl) h62 fun a r63 cs henc at64 hs => ?_
      obtain rfl := henc
      refine s_load hs (at64 _ (hw.vwAll.nil.anti (Le.refl _))) 0 (by kernel_rfl) (by kernel_rfl) (v := .int .i64 x61) (by kernel_rfl) fun a hs => ?_
      refine pures hs 1 [4] [(4, .int .i64 x61)] (by kernel_rfl) fun a hs => ?_
      refine s_end ?_
      refine wp_ret ?_
      obtain rfl := someE hk
      refine hQ _ _ (f_ret1 hs rfl (v := .int .i64 x61) (by kernel_rfl) ⟨rfl, hw.pick [1] (by kernel_rfl)⟩)
    · refine c_cond0 hs (by kernel_rfl) (t := (decide (x5 < 0))) (by kernel_rfl) h56 ?_
      refine wp_skip ?_
      refine c_seq ?_
      obtain ⟨S65, hS65, kS65⟩ := mkSX (X := [([], bx b49 [.int .i64 x1.f0, .int .u64 x1.f1, .slice p2 x1.f2.length c3, .bool x1.f3, .int .i64 x1.f4] 53), ([], F)]) (ih := ih) (K := []) rfl
      obtain ⟨y77, hx78, hk⟩ := bindE hk
      obtain ⟨J79, hJ79⟩ : ∃ J : Act → World → Prop, ∀ a w, J a w ↔ (∃ (x76 : Int), catenaryref19_Reader_r2 x76 = some r ∧ Sees a 23 [(4, .int .i64 x76)] ∧ St g w [F] ih) := ⟨_, fun _ _ => Iff.rfl⟩
      refine c_draw (by kernel_rfl) (N := 10) rfl S65 J79 ?_ ?_
      · have hw := hw.drew
        have hS : S65 (Array.replicate 10 false) _ := SX_now hS65 (hw.vws [0, 1]) (by kernel_rfl)
        refine d_pures (fuel := 9) kS65 hs hS [0] [1, 2, 14] [(1, .int .i64 x5), (2, .pointer (some ⟨b49, 0, none⟩)), (14, .pointer (some ⟨b49, 2, none⟩))] (by kernel_rfl) fun a hs hS => ?_
        refine d_load (fuel := 8) kS65 hs hS 1 rfl (by kernel_rfl) (SX_box hS65 0 rfl (by kernel_rfl)) 2 (by kernel_rfl) (by kernel_rfl) (v := .slice p2 x1.f2.length c3) (by kernel_rfl) fun a hs hS => ?_
        refine d_pures (fuel := 6) kS65 hs hS [2, 3] [1, 2, 14, 15, 16, 17] [(1, .int .i64 x5), (2, .pointer (some ⟨b49, 0, none⟩)), (14, .pointer (some ⟨b49, 2, none⟩)), (15, .slice p2 x1.f2.length c3), (16, .int .i64 x5), (17, .pointer (some ⟨b49, 2, none⟩))] (by kernel_rfl) fun a hs hS => ?_
        refine d_load (fuel := 5) kS65 hs hS 4 rfl (by kernel_rfl) (SX_box hS65 0 rfl (by kernel_rfl)) 2 (by kernel_rfl) (by kernel_rfl) (v := .slice p2 x1.f2.length c3) (by kernel_rfl) fun a hs hS => ?_
        refine d_pures (fuel := 4) kS65 hs hS [5] [1, 2, 14, 15, 16, 17, 18, 19] [(1, .int .i64 x5), (2, .pointer (some ⟨b49, 0, none⟩)), (14, .pointer (some ⟨b49, 2, none⟩)), (15, .slice p2 x1.f2.length c3), (16, .int .i64 x5), (17, .pointer (some ⟨b49, 2, none⟩)), (18, .slice p2 x1.f2.length c3), (19, .int .i64 (x1.f2.length : Int))] (by kernel_rfl) fun a hs hS => ?_
        rcases ifbE hx78 with ⟨h80, hx78⟩ | ⟨h80, hx78⟩
        · cases hx78
        · refine d_rem (fuel := 3) kS65 hs hS 6 rfl (by kernel_rfl) (by kernel_rfl) .i64 (i := x5) (j := (x1.f2.length : Int)) (by kernel_rfl) (by kernel_rfl) (by simpa using h80) fun a hs hS => ?_
          obtain ⟨x81, h82, hx78⟩ := bindE hx78
          refine d_index (fuel := 2) kS65 hs hS 7 rfl (by kernel_rfl) h4 (by kernel_rfl) (by kernel_rfl) (k := .i64) (by kernel_rfl) 3 (by kernel_rfl) (by kernel_rfl) h82 fun a r83 cs henc at84 hs hS => ?_
          obtain rfl := henc
          refine d_load (fuel := 1) kS65 hs hS 8 rfl (by kernel_rfl) (fun l w hu hS => at84 w ((SX_nil hS65 l w hu hS).anti (Le.refl _))) 0 (by kernel_rfl) (by kernel_rfl) (v := .int .i64 x81) (by kernel_rfl) fun a hs hS => ?_
          refine d_pures (fuel := 0) kS65 hs hS [9] [1, 2, 14, 15, 16, 17, 18, 19, 20, 21, 22, 4] [(1, .int .i64 x5), (2, .pointer (some ⟨b49, 0, none⟩)), (14, .pointer (some ⟨b49, 2, none⟩)), (15, .slice p2 x1.f2.length c3), (16, .int .i64 x5), (17, .pointer (some ⟨b49, 2, none⟩)), (18, .slice p2 x1.f2.length c3), (19, .int .i64 (x1.f2.length : Int)), (20, .int .i64 (x5.tmod (x1.f2.length : Int))), (21, .pointer (some r83)), (22, .int .i64 x81), (4, .int .i64 x81)] (by kernel_rfl) fun a hs hS => ?_
          refine d_done (by kernel_rfl) ?_
          obtain rfl := someE hx78
          exact (hJ79 _ _).2 ⟨x81, hk, hs.cast [4] (by kernel_rfl), hw.pick [1] (by kernel_rfl)⟩
      · intro a w hh
        obtain ⟨x76, hk, hs, hw⟩ := (hJ79 _ _).1 hh
        refine wp_ret ?_
        obtain rfl := someE hk
        refine hQ _ _ (f_ret1 hs rfl (v := .int .i64 x76) (by kernel_rfl) ⟨rfl, hw.pick [0] (by kernel_rfl)⟩)
def catenarylaw19_RoleIs_r2 (x166 : Bool) : Option Bool :=
  some x166
def catenarylaw19_RoleIs (k : Nat) (x1 : M53) (x5 : Int) (x6 : Int) : Option Bool :=
  if (decide ((x1.f2.length : Int) > 30)) = true then (
    (catenarylaw19_awake k).bind fun y111 =>
    some y111)
  else ((role_Of k x1 x5).bind fun y170 =>
    (catenaryref19_Of k x1 x5).bind fun y172 =>
    if ((y170.f0 == y172.f0) && ((y170.f1 == y172.f1) && ((y170.f2 == y172.f2) && ((y170.f3 == y172.f3) && ((y170.f4 == y172.f4) && ((y170.f5 == y172.f5) && ((y170.f6 == y172.f6) && ((y170.f7 == y172.f7) && true)))))))) = true then (
      (role_Head k x1).bind fun y175 =>
      (catenaryref19_Head k x1).bind fun y177 =>
      if (y175 == y177) = true then (
        (role_Tail k x1).bind fun y180 =>
        (catenaryref19_Tail k x1).bind fun y182 =>
        if (y180 == y182) = true then (
          (role_Reader k x1 x6).bind fun y185 =>
          (catenaryref19_Reader k x1 x6).bind fun y187 =>
          if (y185 == y187) = true then (
            (catenarylaw19_awake k).bind fun y190 =>
            some y190)
          else some false)
        else some false)
      else some false)
    else some false : Option Bool).bind fun s194 => catenarylaw19_RoleIs_r2 s194
theorem catenarylaw19_RoleIs_s {k : Nat} {x1 : M53} {x5 : Int} {x6 : Int} {p2 : Option Addr} {c3 : Nat} {r : Bool} (hk : catenarylaw19_RoleIs k x1 x5 x6 = some r) {g w : World} {F : Ch} {ih : IH} (h4 : RSl e3 ih [] p2 c3 x1.f2) (hw : St g w [F] ih) :
    CallsR Try.prog 7 #[.agg #[.int .i64 x1.f0, .int .u64 x1.f1, .slice p2 x1.f2.length c3, .bool x1.f3, .int .i64 x1.f4], .int .i64 x5, .int .i64 x6] w fun v w' => ∃ (ih' : IH), v = .bool r ∧ St g w' [F] ih' ∧ Le ih ih' := by
  refine f_in (vs := [.agg #[.int .i64 x1.f0, .int .u64 x1.f1, .slice p2 x1.f2.length c3, .bool x1.f3, .int .i64 x1.f4], .int .i64 x5, .int .i64 x6]) Try.func7 rfl 45 rfl (by kernel_rfl) [(0, .agg #[.int .i64 x1.f0, .int .u64 x1.f1, .slice p2 x1.f2.length c3, .bool x1.f3, .int .i64 x1.f4]), (1, .int .i64 x5), (2, .int .i64 x6)] (by kernel_rfl) fun a Qf hQ hQn hs => ?_
  refine c_seq ?_
  refine c_region ?_
  refine s_new hs hw [.int .i64 x1.f0, .int .u64 x1.f1, .slice p2 x1.f2.length c3, .bool x1.f3, .int .i64 x1.f4] 53 (fun b => .pointer (some ⟨b, 0, none⟩)) (by kernel_rfl) (fun _ => by kernel_rfl) fun a w b104 hs hw => ?_
  refine pures hs 1 [1, 2, 3] [(1, .int .i64 x5), (2, .int .i64 x6), (3, .pointer (some ⟨b104, 0, none⟩))] (by kernel_rfl) fun a hs => ?_
  refine s_end ?_
  refine c_seq ?_
  refine c_seq ?_
  refine c_region ?_
  refine pures hs 1 [1, 2, 3, 7] [(1, .int .i64 x5), (2, .int .i64 x6), (3, .pointer (some ⟨b104, 0, none⟩)), (7, .pointer (some ⟨b104, 2, none⟩))] (by kernel_rfl) fun a hs => ?_
  refine s_load hs (hw.at_ 0 rfl) 2 (by kernel_rfl) (by kernel_rfl) (v := .slice p2 x1.f2.length c3) (by kernel_rfl) fun a hs => ?_
  refine pures hs 2 [1, 2, 3, 10] [(1, .int .i64 x5), (2, .int .i64 x6), (3, .pointer (some ⟨b104, 0, none⟩)), (10, .bool (decide ((x1.f2.length : Int) > 30)))] (by kernel_rfl) fun a hs => ?_
  refine s_end ?_
  rcases ifbE hk with ⟨h106, hk⟩ | ⟨h106, hk⟩
  · refine c_cond1 hs (by kernel_rfl) (t := (decide ((x1.f2.length : Int) > 30))) (by kernel_rfl) h106 ?_
    refine c_seq ?_
    refine c_region ?_
    obtain ⟨y111, h112, hk⟩ := bindE hk
    refine s_call hs (by kernel_rfl) (by kernel_rfl) (catenarylaw19_awake_s h112 ((hw.pick [1] (by kernel_rfl)).pack 0)) fun a w v hv hs => ?_
    obtain ⟨ih113, rfl, hw, hle114⟩ := hv
    replace hw := hw.unpack 0 rfl
    refine pures hs 1 [6] [(6, .bool y111)] (by kernel_rfl) fun a hs => ?_
    refine s_end ?_
    refine wp_ret ?_
    obtain rfl := someE hk
    refine hQ _ _ (f_ret1 hs rfl (v := .bool y111) (by kernel_rfl) ⟨ih113, rfl, hw.pick [0] (by kernel_rfl), hle114⟩)
  · refine c_cond0 hs (by kernel_rfl) (t := (decide ((x1.f2.length : Int) > 30))) (by kernel_rfl) h106 ?_
    refine wp_skip ?_
    refine c_seq ?_
    obtain ⟨S115, hS115, kS115⟩ := mkSX (X := [([], bx b104 [.int .i64 x1.f0, .int .u64 x1.f1, .slice p2 x1.f2.length c3, .bool x1.f3, .int .i64 x1.f4] 53), ([], F)]) (ih := ih) (K := []) rfl
    obtain ⟨y167, hx168, hk⟩ := bindE hk
    obtain ⟨J169, hJ169⟩ : ∃ J : Act → World → Prop, ∀ a w, J a w ↔ (∃ (x166 : Bool) (ih164 : IH), catenarylaw19_RoleIs_r2 x166 = some r ∧ Sees a 45 [(6, .bool x166)] ∧ St g w [F] ih164 ∧ Le ih ih164) := ⟨_, fun _ _ => Iff.rfl⟩
    refine c_draw (by kernel_rfl) (N := 34) rfl S115 J169 ?_ ?_
    · have hw := hw.drew
      have hS : S115 (Array.replicate 34 false) _ := SX_now hS115 (hw.vws [0, 1]) (by kernel_rfl)
      refine d_load (fuel := 33) kS115 hs hS 0 rfl (by kernel_rfl) (SX_box hS115 0 rfl (by kernel_rfl)) 0 (by kernel_rfl) (by kernel_rfl) (v := .agg #[.int .i64 x1.f0, .int .u64 x1.f1, .slice p2 x1.f2.length c3, .bool x1.f3, .int .i64 x1.f4]) (by kernel_rfl) fun a hs hS => ?_
      refine d_pures (fuel := 32) kS115 hs hS [1] [1, 2, 3, 12, 13] [(1, .int .i64 x5), (2, .int .i64 x6), (3, .pointer (some ⟨b104, 0, none⟩)), (12, .agg #[.int .i64 x1.f0, .int .u64 x1.f1, .slice p2 x1.f2.length c3, .bool x1.f3, .int .i64 x1.f4]), (13, .int .i64 x5)] (by kernel_rfl) fun a hs hS => ?_
      refine d_load (fuel := 31) kS115 hs hS 3 rfl (by kernel_rfl) (SX_box hS115 0 rfl (by kernel_rfl)) 0 (by kernel_rfl) (by kernel_rfl) (v := .agg #[.int .i64 x1.f0, .int .u64 x1.f1, .slice p2 x1.f2.length c3, .bool x1.f3, .int .i64 x1.f4]) (by kernel_rfl) fun a hs hS => ?_
      refine d_pures (fuel := 30) kS115 hs hS [4] [1, 2, 3, 12, 13, 15, 16] [(1, .int .i64 x5), (2, .int .i64 x6), (3, .pointer (some ⟨b104, 0, none⟩)), (12, .agg #[.int .i64 x1.f0, .int .u64 x1.f1, .slice p2 x1.f2.length c3, .bool x1.f3, .int .i64 x1.f4]), (13, .int .i64 x5), (15, .agg #[.int .i64 x1.f0, .int .u64 x1.f1, .slice p2 x1.f2.length c3, .bool x1.f3, .int .i64 x1.f4]), (16, .int .i64 x5)] (by kernel_rfl) fun a hs hS => ?_
      refine d_all (fuel := 29) (rs := [2]) (by kernel_rfl) (by simp) (all1 ?_)
      obtain ⟨y170, h171, hx168⟩ := bindE hx168
      refine o_call hs rfl (by kernel_rfl) (by kernel_rfl) (role_Of_s h171 h4 ((hw.pick [0, 1] (by kernel_rfl)).pack 0)) fun a w v hv hs => ?_
      obtain ⟨rfl, hw⟩ := hv
      replace hw := hw.unpack 0 rfl
      refine dg_next (SX_now hS115 ((hw.vws [0, 1]).anti (Le.refl _)) (by kernel_rfl)) fun hS => ?_
      refine d_all (fuel := 28) (rs := [5]) (by kernel_rfl) (by simp) (all1 ?_)
      obtain ⟨y172, h173, hx168⟩ := bindE hx168
      refine o_call hs rfl (by kernel_rfl) (by kernel_rfl) (catenaryref19_Of_s h173 h4 ((hw.pick [0, 1] (by kernel_rfl)).pack 0)) fun a w v hv hs => ?_
      obtain ⟨rfl, hw⟩ := hv
      replace hw := hw.unpack 0 rfl
      refine dg_next (SX_now hS115 ((hw.vws [0, 1]).anti (Le.refl _)) (by kernel_rfl)) fun hS => ?_
      refine d_eq (fuel := 27) kS115 hs hS 6 rfl (by kernel_rfl) (c1 := [.bool y170.f0, .bool y170.f1, .bool y170.f2, .bool y170.f3, .bool y170.f4, .int .i64 y170.f5, .int .i64 y170.f6, .int .i64 y170.f7]) (c2 := [.bool y172.f0, .bool y172.f1, .bool y172.f2, .bool y172.f3, .bool y172.f4, .int .i64 y172.f5, .int .i64 y172.f6, .int .i64 y172.f7]) ((y170.f0 == y172.f0) && ((y170.f1 == y172.f1) && ((y170.f2 == y172.f2) && ((y170.f3 == y172.f3) && ((y170.f4 == y172.f4) && ((y170.f5 == y172.f5) && ((y170.f6 == y172.f6) && ((y170.f7 == y172.f7) && true)))))))) (by kernel_rfl) (by kernel_rfl) (by kernel_rfl) (by kernel_rfl) (by kernel_rfl) fun a hs hS => ?_
      refine d_pures (fuel := 26) kS115 hs hS [7] [1, 2, 3, 12, 13, 15, 16, 14, 17, 18, 19] [(1, .int .i64 x5), (2, .int .i64 x6), (3, .pointer (some ⟨b104, 0, none⟩)), (12, .agg #[.int .i64 x1.f0, .int .u64 x1.f1, .slice p2 x1.f2.length c3, .bool x1.f3, .int .i64 x1.f4]), (13, .int .i64 x5), (15, .agg #[.int .i64 x1.f0, .int .u64 x1.f1, .slice p2 x1.f2.length c3, .bool x1.f3, .int .i64 x1.f4]), (16, .int .i64 x5), (14, .agg #[.bool y170.f0, .bool y170.f1, .bool y170.f2, .bool y170.f3, .bool y170.f4, .int .i64 y170.f5, .int .i64 y170.f6, .int .i64 y170.f7]), (17, .agg #[.bool y172.f0, .bool y172.f1, .bool y172.f2, .bool y172.f3, .bool y172.f4, .int .i64 y172.f5, .int .i64 y172.f6, .int .i64 y172.f7]), (18, .bool ((y170.f0 == y172.f0) && ((y170.f1 == y172.f1) && ((y170.f2 == y172.f2) && ((y170.f3 == y172.f3) && ((y170.f4 == y172.f4) && ((y170.f5 == y172.f5) && ((y170.f6 == y172.f6) && ((y170.f7 == y172.f7) && true))))))))), (19, .bool ((y170.f0 == y172.f0) && ((y170.f1 == y172.f1) && ((y170.f2 == y172.f2) && ((y170.f3 == y172.f3) && ((y170.f4 == y172.f4) && ((y170.f5 == y172.f5) && ((y170.f6 == y172.f6) && ((y170.f7 == y172.f7) && true)))))))))] (by kernel_rfl) fun a hs hS => ?_
      rcases ifbE hx168 with ⟨h174, hx168⟩ | ⟨h174, hx168⟩
      · replace hs := hs.altB 19 true (by kernel_rfl) h174
        refine d_load (fuel := 25) kS115 hs hS 8 rfl (by kernel_rfl) (SX_box hS115 0 rfl (by kernel_rfl)) 0 (by kernel_rfl) (by kernel_rfl) (v := .agg #[.int .i64 x1.f0, .int .u64 x1.f1, .slice p2 x1.f2.length c3, .bool x1.f3, .int .i64 x1.f4]) (by kernel_rfl) fun a hs hS => ?_
        refine d_load (fuel := 24) kS115 hs hS 10 rfl (by kernel_rfl) (SX_box hS115 0 rfl (by kernel_rfl)) 0 (by kernel_rfl) (by kernel_rfl) (v := .agg #[.int .i64 x1.f0, .int .u64 x1.f1, .slice p2 x1.f2.length c3, .bool x1.f3, .int .i64 x1.f4]) (by kernel_rfl) fun a hs hS => ?_
        refine d_all (fuel := 23) (rs := [9]) (by kernel_rfl) (by simp) (all1 ?_)
        obtain ⟨y175, h176, hx168⟩ := bindE hx168
        refine o_call hs rfl (by kernel_rfl) (by kernel_rfl) (role_Head_s h176 h4 ((hw.pick [0, 1] (by kernel_rfl)).pack 0)) fun a w v hv hs => ?_
        obtain ⟨rfl, hw⟩ := hv
        replace hw := hw.unpack 0 rfl
        refine dg_next (SX_now hS115 ((hw.vws [0, 1]).anti (Le.refl _)) (by kernel_rfl)) fun hS => ?_
        refine d_all (fuel := 22) (rs := [11]) (by kernel_rfl) (by simp) (all1 ?_)
        obtain ⟨y177, h178, hx168⟩ := bindE hx168
        refine o_call hs rfl (by kernel_rfl) (by kernel_rfl) (catenaryref19_Head_s h178 h4 ((hw.pick [0, 1] (by kernel_rfl)).pack 0)) fun a w v hv hs => ?_
        obtain ⟨rfl, hw⟩ := hv
        replace hw := hw.unpack 0 rfl
        refine dg_next (SX_now hS115 ((hw.vws [0, 1]).anti (Le.refl _)) (by kernel_rfl)) fun hS => ?_
        refine d_pures (fuel := 19) kS115 hs hS [12, 13, 14] [1, 2, 3, 12, 13, 15, 16, 14, 17, 18, 19, 20, 22, 21, 23, 24, 25, 26] [(1, .int .i64 x5), (2, .int .i64 x6), (3, .pointer (some ⟨b104, 0, none⟩)), (12, .agg #[.int .i64 x1.f0, .int .u64 x1.f1, .slice p2 x1.f2.length c3, .bool x1.f3, .int .i64 x1.f4]), (13, .int .i64 x5), (15, .agg #[.int .i64 x1.f0, .int .u64 x1.f1, .slice p2 x1.f2.length c3, .bool x1.f3, .int .i64 x1.f4]), (16, .int .i64 x5), (14, .agg #[.bool y170.f0, .bool y170.f1, .bool y170.f2, .bool y170.f3, .bool y170.f4, .int .i64 y170.f5, .int .i64 y170.f6, .int .i64 y170.f7]), (17, .agg #[.bool y172.f0, .bool y172.f1, .bool y172.f2, .bool y172.f3, .bool y172.f4, .int .i64 y172.f5, .int .i64 y172.f6, .int .i64 y172.f7]), (18, .bool ((y170.f0 == y172.f0) && ((y170.f1 == y172.f1) && ((y170.f2 == y172.f2) && ((y170.f3 == y172.f3) && ((y170.f4 == y172.f4) && ((y170.f5 == y172.f5) && ((y170.f6 == y172.f6) && ((y170.f7 == y172.f7) && true))))))))), (19, .bool true), (20, .agg #[.int .i64 x1.f0, .int .u64 x1.f1, .slice p2 x1.f2.length c3, .bool x1.f3, .int .i64 x1.f4]), (22, .agg #[.int .i64 x1.f0, .int .u64 x1.f1, .slice p2 x1.f2.length c3, .bool x1.f3, .int .i64 x1.f4]), (21, .int .i64 y175), (23, .int .i64 y177), (24, .bool (y175 == y177)), (25, .bool (y175 == y177)), (26, .bool (y175 == y177))] (by kernel_rfl) fun a hs hS => ?_
        rcases ifbE hx168 with ⟨h179, hx168⟩ | ⟨h179, hx168⟩
        · replace hs := hs.altB 26 true (by kernel_rfl) h179
          refine d_load (fuel := 18) kS115 hs hS 15 rfl (by kernel_rfl) (SX_box hS115 0 rfl (by kernel_rfl)) 0 (by kernel_rfl) (by kernel_rfl) (v := .agg #[.int .i64 x1.f0, .int .u64 x1.f1, .slice p2 x1.f2.length c3, .bool x1.f3, .int .i64 x1.f4]) (by kernel_rfl) fun a hs hS => ?_
          refine d_load (fuel := 17) kS115 hs hS 17 rfl (by kernel_rfl) (SX_box hS115 0 rfl (by kernel_rfl)) 0 (by kernel_rfl) (by kernel_rfl) (v := .agg #[.int .i64 x1.f0, .int .u64 x1.f1, .slice p2 x1.f2.length c3, .bool x1.f3, .int .i64 x1.f4]) (by kernel_rfl) fun a hs hS => ?_
          refine d_all (fuel := 16) (rs := [16]) (by kernel_rfl) (by simp) (all1 ?_)
          obtain ⟨y180, h181, hx168⟩ := bindE hx168
          refine o_call hs rfl (by kernel_rfl) (by kernel_rfl) (role_Tail_s h181 h4 ((hw.pick [0, 1] (by kernel_rfl)).pack 0)) fun a w v hv hs => ?_
          obtain ⟨rfl, hw⟩ := hv
          replace hw := hw.unpack 0 rfl
          refine dg_next (SX_now hS115 ((hw.vws [0, 1]).anti (Le.refl _)) (by kernel_rfl)) fun hS => ?_
          refine d_all (fuel := 15) (rs := [18]) (by kernel_rfl) (by simp) (all1 ?_)
          obtain ⟨y182, h183, hx168⟩ := bindE hx168
          refine o_call hs rfl (by kernel_rfl) (by kernel_rfl) (catenaryref19_Tail_s h183 h4 ((hw.pick [0, 1] (by kernel_rfl)).pack 0)) fun a w v hv hs => ?_
          obtain ⟨rfl, hw⟩ := hv
          replace hw := hw.unpack 0 rfl
          refine dg_next (SX_now hS115 ((hw.vws [0, 1]).anti (Le.refl _)) (by kernel_rfl)) fun hS => ?_
          refine d_pures (fuel := 12) kS115 hs hS [19, 20, 21] [1, 2, 3, 12, 13, 15, 16, 14, 17, 18, 19, 20, 22, 21, 23, 24, 25, 26, 27, 29, 28, 30, 31, 32, 33] [(1, .int .i64 x5), (2, .int .i64 x6), (3, .pointer (some ⟨b104, 0, none⟩)), (12, .agg #[.int .i64 x1.f0, .int .u64 x1.f1, .slice p2 x1.f2.length c3, .bool x1.f3, .int .i64 x1.f4]), (13, .int .i64 x5), (15, .agg #[.int .i64 x1.f0, .int .u64 x1.f1, .slice p2 x1.f2.length c3, .bool x1.f3, .int .i64 x1.f4]), (16, .int .i64 x5), (14, .agg #[.bool y170.f0, .bool y170.f1, .bool y170.f2, .bool y170.f3, .bool y170.f4, .int .i64 y170.f5, .int .i64 y170.f6, .int .i64 y170.f7]), (17, .agg #[.bool y172.f0, .bool y172.f1, .bool y172.f2, .bool y172.f3, .bool y172.f4, .int .i64 y172.f5, .int .i64 y172.f6, .int .i64 y172.f7]), (18, .bool ((y170.f0 == y172.f0) && ((y170.f1 == y172.f1) && ((y170.f2 == y172.f2) && ((y170.f3 == y172.f3) && ((y170.f4 == y172.f4) && ((y170.f5 == y172.f5) && ((y170.f6 == y172.f6) && ((y170.f7 == y172.f7) && true))))))))), (19, .bool true), (20, .agg #[.int .i64 x1.f0, .int .u64 x1.f1, .slice p2 x1.f2.length c3, .bool x1.f3, .int .i64 x1.f4]), (22, .agg #[.int .i64 x1.f0, .int .u64 x1.f1, .slice p2 x1.f2.length c3, .bool x1.f3, .int .i64 x1.f4]), (21, .int .i64 y175), (23, .int .i64 y177), (24, .bool (y175 == y177)), (25, .bool (y175 == y177)), (26, .bool true), (27, .agg #[.int .i64 x1.f0, .int .u64 x1.f1, .slice p2 x1.f2.length c3, .bool x1.f3, .int .i64 x1.f4]), (29, .agg #[.int .i64 x1.f0, .int .u64 x1.f1, .slice p2 x1.f2.length c3, .bool x1.f3, .int .i64 x1.f4]), (28, .int .i64 y180), (30, .int .i64 y182), (31, .bool (y180 == y182)), (32, .bool (y180 == y182)), (33, .bool (y180 == y182))] (by kernel_rfl) fun a hs hS => ?_
          rcases ifbE hx168 with ⟨h184, hx168⟩ | ⟨h184, hx168⟩
          · replace hs := hs.altB 33 true (by kernel_rfl) h184
            refine d_load (fuel := 11) kS115 hs hS 22 rfl (by kernel_rfl) (SX_box hS115 0 rfl (by kernel_rfl)) 0 (by kernel_rfl) (by kernel_rfl) (v := .agg #[.int .i64 x1.f0, .int .u64 x1.f1, .slice p2 x1.f2.length c3, .bool x1.f3, .int .i64 x1.f4]) (by kernel_rfl) fun a hs hS => ?_
            refine d_pures (fuel := 10) kS115 hs hS [23] [1, 2, 3, 12, 13, 15, 16, 14, 17, 18, 19, 20, 22, 21, 23, 24, 25, 26, 27, 29, 28, 30, 31, 32, 33, 34, 35] [(1, .int .i64 x5), (2, .int .i64 x6), (3, .pointer (some ⟨b104, 0, none⟩)), (12, .agg #[.int .i64 x1.f0, .int .u64 x1.f1, .slice p2 x1.f2.length c3, .bool x1.f3, .int .i64 x1.f4]), (13, .int .i64 x5), (15, .agg #[.int .i64 x1.f0, .int .u64 x1.f1, .slice p2 x1.f2.length c3, .bool x1.f3, .int .i64 x1.f4]), (16, .int .i64 x5), (14, .agg #[.bool y170.f0, .bool y170.f1, .bool y170.f2, .bool y170.f3, .bool y170.f4, .int .i64 y170.f5, .int .i64 y170.f6, .int .i64 y170.f7]), (17, .agg #[.bool y172.f0, .bool y172.f1, .bool y172.f2, .bool y172.f3, .bool y172.f4, .int .i64 y172.f5, .int .i64 y172.f6, .int .i64 y172.f7]), (18, .bool ((y170.f0 == y172.f0) && ((y170.f1 == y172.f1) && ((y170.f2 == y172.f2) && ((y170.f3 == y172.f3) && ((y170.f4 == y172.f4) && ((y170.f5 == y172.f5) && ((y170.f6 == y172.f6) && ((y170.f7 == y172.f7) && true))))))))), (19, .bool true), (20, .agg #[.int .i64 x1.f0, .int .u64 x1.f1, .slice p2 x1.f2.length c3, .bool x1.f3, .int .i64 x1.f4]), (22, .agg #[.int .i64 x1.f0, .int .u64 x1.f1, .slice p2 x1.f2.length c3, .bool x1.f3, .int .i64 x1.f4]), (21, .int .i64 y175), (23, .int .i64 y177), (24, .bool (y175 == y177)), (25, .bool (y175 == y177)), (26, .bool true), (27, .agg #[.int .i64 x1.f0, .int .u64 x1.f1, .slice p2 x1.f2.length c3, .bool x1.f3, .int .i64 x1.f4]), (29, .agg #[.int .i64 x1.f0, .int .u64 x1.f1, .slice p2 x1.f2.length c3, .bool x1.f3, .int .i64 x1.f4]), (28, .int .i64 y180), (30, .int .i64 y182), (31, .bool (y180 == y182)), (32, .bool (y180 == y182)), (33, .bool true), (34, .agg #[.int .i64 x1.f0, .int .u64 x1.f1, .slice p2 x1.f2.length c3, .bool x1.f3, .int .i64 x1.f4]), (35, .int .i64 x6)] (by kernel_rfl) fun a hs hS => ?_
            refine d_load (fuel := 9) kS115 hs hS 25 rfl (by kernel_rfl) (SX_box hS115 0 rfl (by kernel_rfl)) 0 (by kernel_rfl) (by kernel_rfl) (v := .agg #[.int .i64 x1.f0, .int .u64 x1.f1, .slice p2 x1.f2.length c3, .bool x1.f3, .int .i64 x1.f4]) (by kernel_rfl) fun a hs hS => ?_
            refine d_pures (fuel := 8) kS115 hs hS [26] [1, 2, 3, 12, 13, 15, 16, 14, 17, 18, 19, 20, 22, 21, 23, 24, 25, 26, 27, 29, 28, 30, 31, 32, 33, 34, 35, 37, 38] [(1, .int .i64 x5), (2, .int .i64 x6), (3, .pointer (some ⟨b104, 0, none⟩)), (12, .agg #[.int .i64 x1.f0, .int .u64 x1.f1, .slice p2 x1.f2.length c3, .bool x1.f3, .int .i64 x1.f4]), (13, .int .i64 x5), (15, .agg #[.int .i64 x1.f0, .int .u64 x1.f1, .slice p2 x1.f2.length c3, .bool x1.f3, .int .i64 x1.f4]), (16, .int .i64 x5), (14, .agg #[.bool y170.f0, .bool y170.f1, .bool y170.f2, .bool y170.f3, .bool y170.f4, .int .i64 y170.f5, .int .i64 y170.f6, .int .i64 y170.f7]), (17, .agg #[.bool y172.f0, .bool y172.f1, .bool y172.f2, .bool y172.f3, .bool y172.f4, .int .i64 y172.f5, .int .i64 y172.f6, .int .i64 y172.f7]), (18, .bool ((y170.f0 == y172.f0) && ((y170.f1 == y172.f1) && ((y170.f2 == y172.f2) && ((y170.f3 == y172.f3) && ((y170.f4 == y172.f4) && ((y170.f5 == y172.f5) && ((y170.f6 == y172.f6) && ((y170.f7 == y172.f7) && true))))))))), (19, .bool true), (20, .agg #[.int .i64 x1.f0, .int .u64 x1.f1, .slice p2 x1.f2.length c3, .bool x1.f3, .int .i64 x1.f4]), (22, .agg #[.int .i64 x1.f0, .int .u64 x1.f1, .slice p2 x1.f2.length c3, .bool x1.f3, .int .i64 x1.f4]), (21, .int .i64 y175), (23, .int .i64 y177), (24, .bool (y175 == y177)), (25, .bool (y175 == y177)), (26, .bool true), (27, .agg #[.int .i64 x1.f0, .int .u64 x1.f1, .slice p2 x1.f2.length c3, .bool x1.f3, .int .i64 x1.f4]), (29, .agg #[.int .i64 x1.f0, .int .u64 x1.f1, .slice p2 x1.f2.length c3, .bool x1.f3, .int .i64 x1.f4]), (28, .int .i64 y180), (30, .int .i64 y182), (31, .bool (y180 == y182)), (32, .bool (y180 == y182)), (33, .bool true), (34, .agg #[.int .i64 x1.f0, .int .u64 x1.f1, .slice p2 x1.f2.length c3, .bool x1.f3, .int .i64 x1.f4]), (35, .int .i64 x6), (37, .agg #[.int .i64 x1.f0, .int .u64 x1.f1, .slice p2 x1.f2.length c3, .bool x1.f3, .int .i64 x1.f4]), (38, .int .i64 x6)] (by kernel_rfl) fun a hs hS => ?_
            refine d_all (fuel := 7) (rs := [24]) (by kernel_rfl) (by simp) (all1 ?_)
            obtain ⟨y185, h186, hx168⟩ := bindE hx168
            refine o_call hs rfl (by kernel_rfl) (by kernel_rfl) (role_Reader_s h186 h4 ((hw.pick [0, 1] (by kernel_rfl)).pack 0)) fun a w v hv hs => ?_
            obtain ⟨rfl, hw⟩ := hv
            replace hw := hw.unpack 0 rfl
            refine dg_next (SX_now hS115 ((hw.vws [0, 1]).anti (Le.refl _)) (by kernel_rfl)) fun hS => ?_
            refine d_all (fuel := 6) (rs := [27]) (by kernel_rfl) (by simp) (all1 ?_)
            obtain ⟨y187, h188, hx168⟩ := bindE hx168
            refine o_call hs rfl (by kernel_rfl) (by kernel_rfl) (catenaryref19_Reader_s h188 h4 ((hw.pick [0, 1] (by kernel_rfl)).pack 0)) fun a w v hv hs => ?_
            obtain ⟨rfl, hw⟩ := hv
            replace hw := hw.unpack 0 rfl
            refine dg_next (SX_now hS115 ((hw.vws [0, 1]).anti (Le.refl _)) (by kernel_rfl)) fun hS => ?_
            refine d_pures (fuel := 3) kS115 hs hS [28, 29, 30] [1, 2, 3, 12, 13, 15, 16, 14, 17, 18, 19, 20, 22, 21, 23, 24, 25, 26, 27, 29, 28, 30, 31, 32, 33, 34, 35, 37, 38, 36, 39, 40, 41, 42] [(1, .int .i64 x5), (2, .int .i64 x6), (3, .pointer (some ⟨b104, 0, none⟩)), (12, .agg #[.int .i64 x1.f0, .int .u64 x1.f1, .slice p2 x1.f2.length c3, .bool x1.f3, .int .i64 x1.f4]), (13, .int .i64 x5), (15, .agg #[.int .i64 x1.f0, .int .u64 x1.f1, .slice p2 x1.f2.length c3, .bool x1.f3, .int .i64 x1.f4]), (16, .int .i64 x5), (14, .agg #[.bool y170.f0, .bool y170.f1, .bool y170.f2, .bool y170.f3, .bool y170.f4, .int .i64 y170.f5, .int .i64 y170.f6, .int .i64 y170.f7]), (17, .agg #[.bool y172.f0, .bool y172.f1, .bool y172.f2, .bool y172.f3, .bool y172.f4, .int .i64 y172.f5, .int .i64 y172.f6, .int .i64 y172.f7]), (18, .bool ((y170.f0 == y172.f0) && ((y170.f1 == y172.f1) && ((y170.f2 == y172.f2) && ((y170.f3 == y172.f3) && ((y170.f4 == y172.f4) && ((y170.f5 == y172.f5) && ((y170.f6 == y172.f6) && ((y170.f7 == y172.f7) && true))))))))), (19, .bool true), (20, .agg #[.int .i64 x1.f0, .int .u64 x1.f1, .slice p2 x1.f2.length c3, .bool x1.f3, .int .i64 x1.f4]), (22, .agg #[.int .i64 x1.f0, .int .u64 x1.f1, .slice p2 x1.f2.length c3, .bool x1.f3, .int .i64 x1.f4]), (21, .int .i64 y175), (23, .int .i64 y177), (24, .bool (y175 == y177)), (25, .bool (y175 == y177)), (26, .bool true), (27, .agg #[.int .i64 x1.f0, .int .u64 x1.f1, .slice p2 x1.f2.length c3, .bool x1.f3, .int .i64 x1.f4]), (29, .agg #[.int .i64 x1.f0, .int .u64 x1.f1, .slice p2 x1.f2.length c3, .bool x1.f3, .int .i64 x1.f4]), (28, .int .i64 y180), (30, .int .i64 y182), (31, .bool (y180 == y182)), (32, .bool (y180 == y182)), (33, .bool true), (34, .agg #[.int .i64 x1.f0, .int .u64 x1.f1, .slice p2 x1.f2.length c3, .bool x1.f3, .int .i64 x1.f4]), (35, .int .i64 x6), (37, .agg #[.int .i64 x1.f0, .int .u64 x1.f1, .slice p2 x1.f2.length c3, .bool x1.f3, .int .i64 x1.f4]), (38, .int .i64 x6), (36, .int .i64 y185), (39, .int .i64 y187), (40, .bool (y185 == y187)), (41, .bool (y185 == y187)), (42, .bool (y185 == y187))] (by kernel_rfl) fun a hs hS => ?_
            rcases ifbE hx168 with ⟨h189, hx168⟩ | ⟨h189, hx168⟩
            · replace hs := hs.altB 42 true (by kernel_rfl) h189
              refine d_all (fuel := 2) (rs := [31]) (by kernel_rfl) (by simp) (all1 ?_)
              obtain ⟨y190, h191, hx168⟩ := bindE hx168
              refine o_call hs rfl (by kernel_rfl) (by kernel_rfl) (catenarylaw19_awake_s h191 ((hw.pick [0, 1] (by kernel_rfl)).pack 0)) fun a w v hv hs => ?_
              obtain ⟨ih192, rfl, hw, hle193⟩ := hv
              replace hw := hw.unpack 0 rfl
              refine dg_next (SX_now hS115 ((hw.vws [0, 1]).anti hle193) (by kernel_rfl)) fun hS => ?_
              refine d_pures (fuel := 0) kS115 hs hS [32, 33] [1, 2, 3, 12, 13, 15, 16, 14, 17, 18, 19, 20, 22, 21, 23, 24, 25, 26, 27, 29, 28, 30, 31, 32, 33, 34, 35, 37, 38, 36, 39, 40, 41, 42, 43, 44, 6] [(1, .int .i64 x5), (2, .int .i64 x6), (3, .pointer (some ⟨b104, 0, none⟩)), (12, .agg #[.int .i64 x1.f0, .int .u64 x1.f1, .slice p2 x1.f2.length c3, .bool x1.f3, .int .i64 x1.f4]), (13, .int .i64 x5), (15, .agg #[.int .i64 x1.f0, .int .u64 x1.f1, .slice p2 x1.f2.length c3, .bool x1.f3, .int .i64 x1.f4]), (16, .int .i64 x5), (14, .agg #[.bool y170.f0, .bool y170.f1, .bool y170.f2, .bool y170.f3, .bool y170.f4, .int .i64 y170.f5, .int .i64 y170.f6, .int .i64 y170.f7]), (17, .agg #[.bool y172.f0, .bool y172.f1, .bool y172.f2, .bool y172.f3, .bool y172.f4, .int .i64 y172.f5, .int .i64 y172.f6, .int .i64 y172.f7]), (18, .bool ((y170.f0 == y172.f0) && ((y170.f1 == y172.f1) && ((y170.f2 == y172.f2) && ((y170.f3 == y172.f3) && ((y170.f4 == y172.f4) && ((y170.f5 == y172.f5) && ((y170.f6 == y172.f6) && ((y170.f7 == y172.f7) && true))))))))), (19, .bool true), (20, .agg #[.int .i64 x1.f0, .int .u64 x1.f1, .slice p2 x1.f2.length c3, .bool x1.f3, .int .i64 x1.f4]), (22, .agg #[.int .i64 x1.f0, .int .u64 x1.f1, .slice p2 x1.f2.length c3, .bool x1.f3, .int .i64 x1.f4]), (21, .int .i64 y175), (23, .int .i64 y177), (24, .bool (y175 == y177)), (25, .bool (y175 == y177)), (26, .bool true), (27, .agg #[.int .i64 x1.f0, .int .u64 x1.f1, .slice p2 x1.f2.length c3, .bool x1.f3, .int .i64 x1.f4]), (29, .agg #[.int .i64 x1.f0, .int .u64 x1.f1, .slice p2 x1.f2.length c3, .bool x1.f3, .int .i64 x1.f4]), (28, .int .i64 y180), (30, .int .i64 y182), (31, .bool (y180 == y182)), (32, .bool (y180 == y182)), (33, .bool true), (34, .agg #[.int .i64 x1.f0, .int .u64 x1.f1, .slice p2 x1.f2.length c3, .bool x1.f3, .int .i64 x1.f4]), (35, .int .i64 x6), (37, .agg #[.int .i64 x1.f0, .int .u64 x1.f1, .slice p2 x1.f2.length c3, .bool x1.f3, .int .i64 x1.f4]), (38, .int .i64 x6), (36, .int .i64 y185), (39, .int .i64 y187), (40, .bool (y185 == y187)), (41, .bool (y185 == y187)), (42, .bool true), (43, .bool y190), (44, .bool y190), (6, .bool y190)] (by kernel_rfl) fun a hs hS => ?_
              refine d_done (by kernel_rfl) ?_
              obtain rfl := someE hx168
              exact (hJ169 _ _).2 ⟨y190, ih192, hk, hs.cast [6] (by kernel_rfl), hw.pick [1] (by kernel_rfl), hle193⟩
            · replace hs := hs.altB 42 false (by kernel_rfl) h189
              refine d_pures (fuel := 0) kS115 hs hS [31, 32, 33] [1, 2, 3, 12, 13, 15, 16, 14, 17, 18, 19, 20, 22, 21, 23, 24, 25, 26, 27, 29, 28, 30, 31, 32, 33, 34, 35, 37, 38, 36, 39, 40, 41, 42, 43, 44, 6] [(1, .int .i64 x5), (2, .int .i64 x6), (3, .pointer (some ⟨b104, 0, none⟩)), (12, .agg #[.int .i64 x1.f0, .int .u64 x1.f1, .slice p2 x1.f2.length c3, .bool x1.f3, .int .i64 x1.f4]), (13, .int .i64 x5), (15, .agg #[.int .i64 x1.f0, .int .u64 x1.f1, .slice p2 x1.f2.length c3, .bool x1.f3, .int .i64 x1.f4]), (16, .int .i64 x5), (14, .agg #[.bool y170.f0, .bool y170.f1, .bool y170.f2, .bool y170.f3, .bool y170.f4, .int .i64 y170.f5, .int .i64 y170.f6, .int .i64 y170.f7]), (17, .agg #[.bool y172.f0, .bool y172.f1, .bool y172.f2, .bool y172.f3, .bool y172.f4, .int .i64 y172.f5, .int .i64 y172.f6, .int .i64 y172.f7]), (18, .bool ((y170.f0 == y172.f0) && ((y170.f1 == y172.f1) && ((y170.f2 == y172.f2) && ((y170.f3 == y172.f3) && ((y170.f4 == y172.f4) && ((y170.f5 == y172.f5) && ((y170.f6 == y172.f6) && ((y170.f7 == y172.f7) && true))))))))), (19, .bool true), (20, .agg #[.int .i64 x1.f0, .int .u64 x1.f1, .slice p2 x1.f2.length c3, .bool x1.f3, .int .i64 x1.f4]), (22, .agg #[.int .i64 x1.f0, .int .u64 x1.f1, .slice p2 x1.f2.length c3, .bool x1.f3, .int .i64 x1.f4]), (21, .int .i64 y175), (23, .int .i64 y177), (24, .bool (y175 == y177)), (25, .bool (y175 == y177)), (26, .bool true), (27, .agg #[.int .i64 x1.f0, .int .u64 x1.f1, .slice p2 x1.f2.length c3, .bool x1.f3, .int .i64 x1.f4]), (29, .agg #[.int .i64 x1.f0, .int .u64 x1.f1, .slice p2 x1.f2.length c3, .bool x1.f3, .int .i64 x1.f4]), (28, .int .i64 y180), (30, .int .i64 y182), (31, .bool (y180 == y182)), (32, .bool (y180 == y182)), (33, .bool true), (34, .agg #[.int .i64 x1.f0, .int .u64 x1.f1, .slice p2 x1.f2.length c3, .bool x1.f3, .int .i64 x1.f4]), (35, .int .i64 x6), (37, .agg #[.int .i64 x1.f0, .int .u64 x1.f1, .slice p2 x1.f2.length c3, .bool x1.f3, .int .i64 x1.f4]), (38, .int .i64 x6), (36, .int .i64 y185), (39, .int .i64 y187), (40, .bool (y185 == y187)), (41, .bool (y185 == y187)), (42, .bool false), (43, undef), (44, .bool false), (6, .bool false)] (by kernel_rfl) fun a hs hS => ?_
              refine d_done (by kernel_rfl) ?_
              obtain rfl := someE hx168
              exact (hJ169 _ _).2 ⟨false, ih, hk, hs.cast [6] (by kernel_rfl), hw.pick [1] (by kernel_rfl), (Le.refl _)⟩
          · replace hs := hs.altB 33 false (by kernel_rfl) h184
            refine d_pures (fuel := 0) kS115 hs hS [22, 23, 24, 25, 26, 27, 28, 29, 30, 31, 32, 33] [1, 2, 3, 12, 13, 15, 16, 14, 17, 18, 19, 20, 22, 21, 23, 24, 25, 26, 27, 29, 28, 30, 31, 32, 33, 34, 35, 36, 37, 38, 39, 40, 41, 42, 43, 44, 6] [(1, .int .i64 x5), (2, .int .i64 x6), (3, .pointer (some ⟨b104, 0, none⟩)), (12, .agg #[.int .i64 x1.f0, .int .u64 x1.f1, .slice p2 x1.f2.length c3, .bool x1.f3, .int .i64 x1.f4]), (13, .int .i64 x5), (15, .agg #[.int .i64 x1.f0, .int .u64 x1.f1, .slice p2 x1.f2.length c3, .bool x1.f3, .int .i64 x1.f4]), (16, .int .i64 x5), (14, .agg #[.bool y170.f0, .bool y170.f1, .bool y170.f2, .bool y170.f3, .bool y170.f4, .int .i64 y170.f5, .int .i64 y170.f6, .int .i64 y170.f7]), (17, .agg #[.bool y172.f0, .bool y172.f1, .bool y172.f2, .bool y172.f3, .bool y172.f4, .int .i64 y172.f5, .int .i64 y172.f6, .int .i64 y172.f7]), (18, .bool ((y170.f0 == y172.f0) && ((y170.f1 == y172.f1) && ((y170.f2 == y172.f2) && ((y170.f3 == y172.f3) && ((y170.f4 == y172.f4) && ((y170.f5 == y172.f5) && ((y170.f6 == y172.f6) && ((y170.f7 == y172.f7) && true))))))))), (19, .bool true), (20, .agg #[.int .i64 x1.f0, .int .u64 x1.f1, .slice p2 x1.f2.length c3, .bool x1.f3, .int .i64 x1.f4]), (22, .agg #[.int .i64 x1.f0, .int .u64 x1.f1, .slice p2 x1.f2.length c3, .bool x1.f3, .int .i64 x1.f4]), (21, .int .i64 y175), (23, .int .i64 y177), (24, .bool (y175 == y177)), (25, .bool (y175 == y177)), (26, .bool true), (27, .agg #[.int .i64 x1.f0, .int .u64 x1.f1, .slice p2 x1.f2.length c3, .bool x1.f3, .int .i64 x1.f4]), (29, .agg #[.int .i64 x1.f0, .int .u64 x1.f1, .slice p2 x1.f2.length c3, .bool x1.f3, .int .i64 x1.f4]), (28, .int .i64 y180), (30, .int .i64 y182), (31, .bool (y180 == y182)), (32, .bool (y180 == y182)), (33, .bool false), (34, undef), (35, undef), (36, undef), (37, undef), (38, undef), (39, undef), (40, undef), (41, .bool false), (42, .bool false), (43, undef), (44, .bool false), (6, .bool false)] (by kernel_rfl) fun a hs hS => ?_
            refine d_done (by kernel_rfl) ?_
            obtain rfl := someE hx168
            exact (hJ169 _ _).2 ⟨false, ih, hk, hs.cast [6] (by kernel_rfl), hw.pick [1] (by kernel_rfl), (Le.refl _)⟩
        · replace hs := hs.altB 26 false (by kernel_rfl) h179
          refine d_pures (fuel := 0) kS115 hs hS [15, 16, 17, 18, 19, 20, 21, 22, 23, 24, 25, 26, 27, 28, 29, 30, 31, 32, 33] [1, 2, 3, 12, 13, 15, 16, 14, 17, 18, 19, 20, 22, 21, 23, 24, 25, 26, 27, 28, 29, 30, 31, 32, 33, 34, 35, 36, 37, 38, 39, 40, 41, 42, 43, 44, 6] [(1, .int .i64 x5), (2, .int .i64 x6), (3, .pointer (some ⟨b104, 0, none⟩)), (12, .agg #[.int .i64 x1.f0, .int .u64 x1.f1, .slice p2 x1.f2.length c3, .bool x1.f3, .int .i64 x1.f4]), (13, .int .i64 x5), (15, .agg #[.int .i64 x1.f0, .int .u64 x1.f1, .slice p2 x1.f2.length c3, .bool x1.f3, .int .i64 x1.f4]), (16, .int .i64 x5), (14, .agg #[.bool y170.f0, .bool y170.f1, .bool y170.f2, .bool y170.f3, .bool y170.f4, .int .i64 y170.f5, .int .i64 y170.f6, .int .i64 y170.f7]), (17, .agg #[.bool y172.f0, .bool y172.f1, .bool y172.f2, .bool y172.f3, .bool y172.f4, .int .i64 y172.f5, .int .i64 y172.f6, .int .i64 y172.f7]), (18, .bool ((y170.f0 == y172.f0) && ((y170.f1 == y172.f1) && ((y170.f2 == y172.f2) && ((y170.f3 == y172.f3) && ((y170.f4 == y172.f4) && ((y170.f5 == y172.f5) && ((y170.f6 == y172.f6) && ((y170.f7 == y172.f7) && true))))))))), (19, .bool true), (20, .agg #[.int .i64 x1.f0, .int .u64 x1.f1, .slice p2 x1.f2.length c3, .bool x1.f3, .int .i64 x1.f4]), (22, .agg #[.int .i64 x1.f0, .int .u64 x1.f1, .slice p2 x1.f2.length c3, .bool x1.f3, .int .i64 x1.f4]), (21, .int .i64 y175), (23, .int .i64 y177), (24, .bool (y175 == y177)), (25, .bool (y175 == y177)), (26, .bool false), (27, undef), (28, undef), (29, undef), (30, undef), (31, undef), (32, .bool false), (33, .bool false), (34, undef), (35, undef), (36, undef), (37, undef), (38, undef), (39, undef), (40, undef), (41, .bool false), (42, .bool false), (43, undef), (44, .bool false), (6, .bool false)] (by kernel_rfl) fun a hs hS => ?_
          refine d_done (by kernel_rfl) ?_
          obtain rfl := someE hx168
          exact (hJ169 _ _).2 ⟨false, ih, hk, hs.cast [6] (by kernel_rfl), hw.pick [1] (by kernel_rfl), (Le.refl _)⟩
      · replace hs := hs.altB 19 false (by kernel_rfl) h174
        refine d_pures (fuel := 0) kS115 hs hS [8, 9, 10, 11, 12, 13, 14, 15, 16, 17, 18, 19, 20, 21, 22, 23, 24, 25, 26, 27, 28, 29, 30, 31, 32, 33] [1, 2, 3, 12, 13, 15, 16, 14, 17, 18, 19, 20, 21, 22, 23, 24, 25, 26, 27, 28, 29, 30, 31, 32, 33, 34, 35, 36, 37, 38, 39, 40, 41, 42, 43, 44, 6] [(1, .int .i64 x5), (2, .int .i64 x6), (3, .pointer (some ⟨b104, 0, none⟩)), (12, .agg #[.int .i64 x1.f0, .int .u64 x1.f1, .slice p2 x1.f2.length c3, .bool x1.f3, .int .i64 x1.f4]), (13, .int .i64 x5), (15, .agg #[.int .i64 x1.f0, .int .u64 x1.f1, .slice p2 x1.f2.length c3, .bool x1.f3, .int .i64 x1.f4]), (16, .int .i64 x5), (14, .agg #[.bool y170.f0, .bool y170.f1, .bool y170.f2, .bool y170.f3, .bool y170.f4, .int .i64 y170.f5, .int .i64 y170.f6, .int .i64 y170.f7]), (17, .agg #[.bool y172.f0, .bool y172.f1, .bool y172.f2, .bool y172.f3, .bool y172.f4, .int .i64 y172.f5, .int .i64 y172.f6, .int .i64 y172.f7]), (18, .bool ((y170.f0 == y172.f0) && ((y170.f1 == y172.f1) && ((y170.f2 == y172.f2) && ((y170.f3 == y172.f3) && ((y170.f4 == y172.f4) && ((y170.f5 == y172.f5) && ((y170.f6 == y172.f6) && ((y170.f7 == y172.f7) && true))))))))), (19, .bool false), (20, undef), (21, undef), (22, undef), (23, undef), (24, undef), (25, .bool false), (26, .bool false), (27, undef), (28, undef), (29, undef), (30, undef), (31, undef), (32, .bool false), (33, .bool false), (34, undef), (35, undef), (36, undef), (37, undef), (38, undef), (39, undef), (40, undef), (41, .bool false), (42, .bool false), (43, undef), (44, .bool false), (6, .bool false)] (by kernel_rfl) fun a hs hS => ?_
        refine d_done (by kernel_rfl) ?_
        obtain rfl := someE hx168
        exact (hJ169 _ _).2 ⟨false, ih, hk, hs.cast [6] (by kernel_rfl), hw.pick [1] (by kernel_rfl), (Le.refl _)⟩
    · intro a w hh
      obtain ⟨x166, ih164, hk, hs, hw, hle165⟩ := (hJ169 _ _).1 hh
      refine wp_ret ?_
      obtain rfl := someE hk
      refine hQ _ _ (f_ret1 hs rfl (v := .bool x166) (by kernel_rfl) ⟨ih164, rfl, hw.pick [0] (by kernel_rfl), hle165⟩)
end Go.Proofs.Ytfpppgbibgbllaa.Sx
