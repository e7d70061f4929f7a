/- The walk of BagPlays: each Go function that it calls, as a plain function, and the proof that the call computes it. Printed by the program gen.py.
   Conditions: those that each theorem states ahead of its colon, and no other. -/
import Derived.Test.YtfpllbnljlbepaaSx9
import Derived.Test.YtfpllbnljlbepaaProg
namespace Go.Proofs.Ytfpllbnljlbepaa.Sx
open Go Go.Proofs
set_option maxRecDepth 100000
set_option linter.unusedVariables false
structure M45 where
  f0 : Int
  f1 : Int
  f2 : Int
@[reducible] def e45 : ET := ⟨M45, 3, 45, fun ih x cs => cs = [.int .i64 x.f0, .int .i64 x.f1, .int .i64 x.f2],
  fun h => by rw [h]; rfl, fun h => by rw [h]; rfl, fun h hle => h⟩
structure M102 where
  f0 : Int
  f1 : Int
@[reducible] def e102 : ET := ⟨M102, 2, 102, fun ih x cs => cs = [.int .i64 x.f0, .int .i64 x.f1],
  fun h => by rw [h]; rfl, fun h => by rw [h]; rfl, fun h hle => h⟩
structure M92 where
  f0 : Int
  f1 : Int
@[reducible] def e92 : ET := ⟨M92, 2, 92, fun ih x cs => cs = [.int .i64 x.f0, .int .i64 x.f1],
  fun h => by rw [h]; rfl, fun h => by rw [h]; rfl, fun h hle => h⟩
structure M41 where
  f0 : Int
  f1 : Int
  f2 : List M92
@[reducible] def e41 : ET := ⟨M41, 3, 41, fun ih x cs => ∃ q0 k0, cs = [.int .i64 x.f0, .int .i64 x.f1, .slice q0 x.f2.length k0] ∧ RSl e92 ih [] q0 k0 x.f2,
  fun ⟨_, _, h, g0⟩ => by rw [h]; rfl, fun ⟨_, _, h, g0⟩ => by rw [h]; rfl, fun ⟨p0, p1, h, g0⟩ hle => ⟨p0, p1, h, g0.mono hle⟩⟩
@[reducible] def e3 : ET := eInt .i64 3
@[reducible] def e39 : ET := eSl 39 e92
theorem appT39 : AppT Try.prog 39 e92 := appT_of (by kernel_rfl)
theorem appT86 : AppT Try.prog 86 e102 := appT_of (by kernel_rfl)
def bag_New_int (x1 : Int) : Option (Int × Int × (List M102)) :=
  some ((if 0 > x1 then 0 else x1), 0, [])
theorem bag_New_int_s {x1 : Int} {r : Int × Int × (List M102)} (hk : bag_New_int x1 = some r) {g w : World} {F : Ch} {ih : IH} (hw : St g w [F] ih) :
    CallsR Try.prog 17 #[.int .i64 x1] w fun v w' => ∃ (b14 : Nat) (p16 : Option Addr) (c17 : Nat) (d19 : Ch), v = .pointer (some ⟨b14, 0, none⟩) ∧ St g w' [bx b14 [.int .i64 r.1, .int .i64 r.2.1, .slice p16 r.2.2.length c17] 88, d19, F] ih ∧ OSl e102 ih p16 c17 r.2.2 d19 := by
  refine f_in (vs := [.int .i64 x1]) Try.func17 rfl 7 rfl (by kernel_rfl) [(0, .int .i64 x1)] (by kernel_rfl) fun a Qf hQ hQn hs => ?_
  refine c_seq ?_
  refine c_region ?_
  refine pures hs 1 [0] [(0, .int .i64 x1)] (by kernel_rfl) fun a hs => ?_
  refine s_end ?_
  refine c_seq ?_
  refine c_region ?_
  refine pures hs 3 [5] [(5, .agg #[.int .i64 (if 0 > x1 then 0 else x1), .int .i64 0, .slice none 0 0])] (by kernel_rfl) fun a hs => ?_
  refine s_new hs hw [.int .i64 (if 0 > x1 then 0 else x1), .int .i64 0, .slice none 0 0] 88 (fun b => .pointer (some ⟨b, 0, none⟩)) (by kernel_rfl) (fun _ => by kernel_rfl) fun a w b10 hs hw => ?_
  refine pures hs 1 [2] [(2, .pointer (some ⟨b10, 0, none⟩))] (by kernel_rfl) fun a hs => ?_
  refine s_end ?_
  refine c_ret ?_
  replace hw := hw.nil
  obtain rfl := someE hk
  refine hQ _ _ (f_ret1 hs rfl (v := .pointer (some ⟨b10, 0, none⟩)) (by kernel_rfl) ⟨b10, none, 0, ([]), rfl, hw.pick [1, 0, 2] (by kernel_rfl), (OSl.nil _ _)⟩)
def catenaryref06_Put_r3 (x1 : M41) (x203 : List M92) : Option (M41 × Int × Int) :=
  some ((M41.mk x1.f0 (IntKind.i64.wrap (x1.f1 + 1)) x203), IntKind.i64.wrap (x1.f1 + 1), 0)
def catenaryref06_Put_r4 (x1 : M41) (x203 : List M92) : Option (M41 × Int × Int) :=
  (some () : Option Unit).bind fun _ => catenaryref06_Put_r3 x1 x203
def catenaryref06_Put (x1 : M41) (x5 : Int) : Option (M41 × Int × Int) :=
  if (decide ((x1.f2.length : Int) ≥ (if 0 > x1.f0 then 0 else x1.f0))) = true then some (x1, 0, 9)
  else ((app ([]) x1.f2).bind fun x222 =>
    (app x222 [(M92.mk (IntKind.i64.wrap (x1.f1 + 1)) x5)]).bind fun x230 =>
    some x230 : Option (List M92)).bind fun s252 => catenaryref06_Put_r4 x1 s252
theorem catenaryref06_Put_s {x1 : M41} {x5 : Int} {p2 : Option Addr} {c3 : Nat} {r : M41 × Int × Int} (hk : catenaryref06_Put x1 x5 = some r) {g w : World} {F : Ch} {ih : IH} (h4 : RSl e92 ih [] p2 c3 x1.f2) (hw : St g w [F] ih) :
    CallsR Try.prog 55 #[.agg #[.int .i64 x1.f0, .int .i64 x1.f1, .slice p2 x1.f2.length c3], .int .i64 x5] w fun v w' => ∃ (ih' : IH) (p253 : Option Addr) (c254 : Nat), v = .tuple #[.agg #[.int .i64 r.1.f0, .int .i64 r.1.f1, .slice p253 r.1.f2.length c254], .int .i64 r.2.1, .int .i64 r.2.2] ∧ St g w' [F] ih' ∧ Le ih ih' ∧ RSl e92 ih' [] p253 c254 r.1.f2 := by
  refine f_in (vs := [.agg #[.int .i64 x1.f0, .int .i64 x1.f1, .slice p2 x1.f2.length c3], .int .i64 x5]) Try.func55 rfl 32 rfl (by kernel_rfl) [(0, .agg #[.int .i64 x1.f0, .int .i64 x1.f1, .slice p2 x1.f2.length c3]), (1, .int .i64 x5)] (by kernel_rfl) fun a Qf hQ hQn hs => ?_
  refine c_seq ?_
  refine c_region ?_
  refine s_new hs hw [.int .i64 x1.f0, .int .i64 x1.f1, .slice p2 x1.f2.length c3] 41 (fun b => .pointer (some ⟨b, 0, none⟩)) (by kernel_rfl) (fun _ => by kernel_rfl) fun a w b133 hs hw => ?_
  refine s_new hs hw [.int .i64 0, .int .i64 0, .slice none 0 0] 41 (fun b => .pointer (some ⟨b, 0, none⟩)) (by kernel_rfl) (fun _ => by kernel_rfl) fun a w b135 hs hw => ?_
  refine pures hs 2 [1, 2, 4] [(1, .int .i64 x5), (2, .pointer (some ⟨b133, 0, none⟩)), (4, .pointer (some ⟨b135, 0, none⟩))] (by kernel_rfl) fun a hs => ?_
  refine s_end ?_
  refine c_seq ?_
  refine c_seq ?_
  refine c_region ?_
  refine pures hs 1 [1, 2, 4, 7] [(1, .int .i64 x5), (2, .pointer (some ⟨b133, 0, none⟩)), (4, .pointer (some ⟨b135, 0, none⟩)), (7, .pointer (some ⟨b133, 2, none⟩))] (by kernel_rfl) fun a hs => ?_
  refine s_load hs (hw.at_ 1 rfl) 2 (by kernel_rfl) (by kernel_rfl) (v := .slice p2 x1.f2.length c3) (by kernel_rfl) fun a hs => ?_
  refine pures hs 2 [1, 2, 4, 9, 10] [(1, .int .i64 x5), (2, .pointer (some ⟨b133, 0, none⟩)), (4, .pointer (some ⟨b135, 0, none⟩)), (9, .int .i64 (x1.f2.length : Int)), (10, .pointer (some ⟨b133, 0, none⟩))] (by kernel_rfl) fun a hs => ?_
  refine s_load hs (hw.at_ 1 rfl) 0 (by kernel_rfl) (by kernel_rfl) (v := .int .i64 x1.f0) (by kernel_rfl) fun a hs => ?_
  refine pures hs 2 [1, 2, 4, 13] [(1, .int .i64 x5), (2, .pointer (some ⟨b133, 0, none⟩)), (4, .pointer (some ⟨b135, 0, none⟩)), (13, .bool (decide ((x1.f2.length : Int) ≥ (if 0 > x1.f0 then 0 else x1.f0))))] (by kernel_rfl) fun a hs => ?_
  refine s_end ?_
  rcases ifbE hk with ⟨h137, hk⟩ | ⟨h137, hk⟩
  · refine c_cond1 hs (by kernel_rfl) (t := (decide ((x1.f2.length : Int) ≥ (if 0 > x1.f0 then 0 else x1.f0)))) (by kernel_rfl) h137 ?_
    refine c_seq ?_
    refine c_region ?_
    refine s_load hs (hw.at_ 1 rfl) 0 (by kernel_rfl) (by kernel_rfl) (v := .agg #[.int .i64 x1.f0, .int .i64 x1.f1, .slice p2 x1.f2.length c3]) (by kernel_rfl) fun a hs => ?_
    refine s_store hs hw 0 rfl 0 (by kernel_rfl) (by kernel_rfl) (v := .agg #[.int .i64 x1.f0, .int .i64 x1.f1, .slice p2 x1.f2.length c3]) (by kernel_rfl) (by kernel_rfl) (by kernel_rfl) (by kernel_rfl) fun a w hs hw => ?_
    refine pures hs 2 [4, 5, 6] [(4, .pointer (some ⟨b135, 0, none⟩)), (5, .int .i64 0), (6, .int .i64 9)] (by kernel_rfl) fun a hs => ?_
    refine s_end ?_
    refine c_ret ?_
    obtain rfl := someE hk
    refine hQ _ _ (f_retG hs (l := [.cell 4 41, .tmp 5, .tmp 6]) (vs := [.agg #[.int .i64 x1.f0, .int .i64 x1.f1, .slice p2 x1.f2.length c3], .int .i64 0, .int .i64 9]) rfl (⟨res_cell hs (hw.at_ 0 rfl) (by kernel_rfl) (v := .agg #[.int .i64 x1.f0, .int .i64 x1.f1, .slice p2 x1.f2.length c3]) (by kernel_rfl), ⟨res_tmp hs (v := .int .i64 0) (by kernel_rfl), ⟨res_tmp hs (v := .int .i64 9) (by kernel_rfl), trivial⟩⟩⟩) (by kernel_rfl) ⟨ih, p2, c3, rfl, hw.pick [2] (by kernel_rfl), (Le.refl _), h4⟩)
  · refine c_cond0 hs (by kernel_rfl) (t := (decide ((x1.f2.length : Int) ≥ (if 0 > x1.f0 then 0 else x1.f0)))) (by kernel_rfl) h137 ?_
    refine c_skip ?_
    refine c_seq ?_
    refine c_region ?_
    refine pures hs 1 [1, 2, 4, 15] [(1, .int .i64 x5), (2, .pointer (some ⟨b133, 0, none⟩)), (4, .pointer (some ⟨b135, 0, none⟩)), (15, .pointer (some ⟨b133, 1, none⟩))] (by kernel_rfl) fun a hs => ?_
    refine s_load hs (hw.at_ 1 rfl) 1 (by kernel_rfl) (by kernel_rfl) (v := .int .i64 x1.f1) (by kernel_rfl) fun a hs => ?_
    refine pures hs 2 [1, 2, 4, 17, 18] [(1, .int .i64 x5), (2, .pointer (some ⟨b133, 0, none⟩)), (4, .pointer (some ⟨b135, 0, none⟩)), (17, .int .i64 (IntKind.i64.wrap (x1.f1 + 1))), (18, .pointer (some ⟨b133, 1, none⟩))] (by kernel_rfl) fun a hs => ?_
    refine s_store hs hw 1 rfl 1 (by kernel_rfl) (by kernel_rfl) (v := .int .i64 (IntKind.i64.wrap (x1.f1 + 1))) (by kernel_rfl) (by kernel_rfl) (by kernel_rfl) (by kernel_rfl) fun a w hs hw => ?_
    refine s_end ?_
    refine c_seq ?_
    obtain ⟨S138, hS138, kS138⟩ := mkSX (X := [([], bx b135 [.int .i64 0, .int .i64 0, .slice none 0 0] 41), ([10], bx b133 [.int .i64 x1.f0, .int .i64 (IntKind.i64.wrap (x1.f1 + 1)), .slice p2 x1.f2.length c3] 41), ([], F)]) (ih := ih) (K := [10]) rfl
    obtain ⟨y217, hx218, hk⟩ := bindE hk
    obtain ⟨J219, hJ219⟩ : ∃ J : Act → World → Prop, ∀ a w, J a w ↔ (∃ (x203 : List M92) (p204 : Option Addr) (c205 : Nat) (d207 : Ch), catenaryref06_Put_r4 x1 x203 = some r ∧ Sees a 32 [(2, .pointer (some ⟨b133, 0, none⟩)), (4, .pointer (some ⟨b135, 0, none⟩))] ∧ St g w [bx b135 [.int .i64 0, .int .i64 0, .slice none 0 0] 41, bx b133 [.int .i64 x1.f0, .int .i64 (IntKind.i64.wrap (x1.f1 + 1)), .slice p204 x203.length c205] 41, d207, F] ih ∧ OSl e92 ih p204 c205 x203 d207) := ⟨_, fun _ _ => Iff.rfl⟩
    refine c_draw (by kernel_rfl) (N := 11) rfl S138 J219 ?_ ?_
    · have hw := hw.drew
      have hS : S138 (Array.replicate 11 false) _ := SX_now hS138 (hw.vws [0, 1, 2]) (by kernel_rfl)
      refine d_pures (fuel := 10) kS138 hs hS [0] [1, 2, 4, 19] [(1, .int .i64 x5), (2, .pointer (some ⟨b133, 0, none⟩)), (4, .pointer (some ⟨b135, 0, none⟩)), (19, .pointer (some ⟨b133, 2, none⟩))] (by kernel_rfl) fun a hs hS => ?_
      refine d_load (fuel := 9) kS138 hs hS 1 rfl (by kernel_rfl) (SX_box hS138 1 rfl (by kernel_rfl)) 2 (by kernel_rfl) (by kernel_rfl) (v := .slice p2 x1.f2.length c3) (by kernel_rfl) fun a hs hS => ?_
      refine d_pures (fuel := 8) kS138 hs hS [3] [1, 2, 4, 19, 20, 22] [(1, .int .i64 x5), (2, .pointer (some ⟨b133, 0, none⟩)), (4, .pointer (some ⟨b135, 0, none⟩)), (19, .pointer (some ⟨b133, 2, none⟩)), (20, .slice p2 x1.f2.length c3), (22, .pointer (some ⟨b133, 1, none⟩))] (by kernel_rfl) fun a hs hS => ?_
      refine d_load (fuel := 7) kS138 hs hS 4 rfl (by kernel_rfl) (SX_box hS138 1 rfl (by kernel_rfl)) 1 (by kernel_rfl) (by kernel_rfl) (v := .int .i64 (IntKind.i64.wrap (x1.f1 + 1))) (by kernel_rfl) fun a hs hS => ?_
      refine d_pures (fuel := 5) kS138 hs hS [5, 6] [1, 2, 4, 19, 20, 22, 23, 24, 25] [(1, .int .i64 x5), (2, .pointer (some ⟨b133, 0, none⟩)), (4, .pointer (some ⟨b135, 0, none⟩)), (19, .pointer (some ⟨b133, 2, none⟩)), (20, .slice p2 x1.f2.length c3), (22, .pointer (some ⟨b133, 1, none⟩)), (23, .int .i64 (IntKind.i64.wrap (x1.f1 + 1))), (24, .int .i64 x5), (25, .agg #[.int .i64 (IntKind.i64.wrap (x1.f1 + 1)), .int .i64 x5])] (by kernel_rfl) fun a hs hS => ?_
      refine d_all (fuel := 4) (rs := [2, 7]) (by kernel_rfl) (by simp) (all2 ?_ (all1 ?_))
      · replace hw := hw.nil
        obtain ⟨x222, h223, hx218⟩ := bindE hx218
        refine o_appS hs rfl hw (E := e92) appT39 0 rfl (OSl.nil _ _) (by kernel_rfl) (by kernel_rfl) (h4.mono (Le.refl _)) (hw.vwAll.nil.anti (Le.refl _)) (by kernel_rfl) h223 fun a w p224 c225 d226 h227 hw hs => ?_
        refine dg_next (SX_now hS138 ((hw.vws [1, 2, 3]).anti (Le.refl _)) (by kernel_rfl)) fun hS => ?_
        refine d_all (fuel := 3) (rs := [7]) (by kernel_rfl) (by simp) (all1 ?_)
        refine o_new hs rfl hw [.int .i64 (IntKind.i64.wrap (x1.f1 + 1)), .int .i64 x5] 92 (fun b => .slice (some ⟨b, 0, none⟩) 1 1) (by kernel_rfl) (fun _ => by kernel_rfl) fun a w b228 hs hw => ?_
        refine dg_next (SX_now hS138 ((hw.vws [2, 3, 4]).anti (Le.refl _)) (by kernel_rfl)) fun hS => ?_
        refine d_all (fuel := 2) (rs := [8]) (by kernel_rfl) (by simp) (all1 ?_)
        obtain ⟨x230, h231, hx218⟩ := bindE hx218
        refine o_app1 hs rfl hw (E := e92) appT39 1 rfl h227 (by kernel_rfl) (by kernel_rfl) (c2 := 1) (by kernel_rfl) (hw.at_ 0 rfl) (z := (M92.mk (IntKind.i64.wrap (x1.f1 + 1)) x5)) rfl h231 fun a w p232 c233 d234 h235 hw hs => ?_
        refine dg_next (SX_now hS138 ((hw.vws [2, 3, 4]).anti (Le.refl _)) (by kernel_rfl)) fun hS => ?_
        refine d_pures (fuel := 1) kS138 hs hS [9] [1, 2, 4, 19, 20, 22, 23, 24, 25, 26, 27, 28] [(1, .int .i64 x5), (2, .pointer (some ⟨b133, 0, none⟩)), (4, .pointer (some ⟨b135, 0, none⟩)), (19, .pointer (some ⟨b133, 2, none⟩)), (20, .slice p2 x1.f2.length c3), (22, .pointer (some ⟨b133, 1, none⟩)), (23, .int .i64 (IntKind.i64.wrap (x1.f1 + 1))), (24, .int .i64 x5), (25, .agg #[.int .i64 (IntKind.i64.wrap (x1.f1 + 1)), .int .i64 x5]), (26, .slice (some ⟨b228, 0, none⟩) 1 1), (27, .slice p232 x230.length c233), (28, .pointer (some ⟨b133, 2, none⟩))] (by kernel_rfl) fun a hs hS => ?_
        refine d_all (fuel := 0) (rs := [10]) (by kernel_rfl) (by simp) (all1 ?_)
        refine o_store hs hw rfl 3 rfl 2 (by kernel_rfl) (by kernel_rfl) (v := .slice p232 x230.length c233) (by kernel_rfl) (by kernel_rfl) (by kernel_rfl) (by kernel_rfl) fun a w hs hw => ?_
        refine dg_next (SX_now hS138 ((hw.vws [2, 4]).anti (Le.refl _)) (by kernel_rfl)) fun hS => ?_
        refine d_done (by kernel_rfl) ?_
        obtain rfl := someE hx218
        exact (hJ219 _ _).2 ⟨x230, p232, c233, d234, hk, hs.cast [2, 4] (by kernel_rfl), hw.pick [2, 3, 1, 4] (by kernel_rfl), h235⟩
      · refine o_new hs rfl hw [.int .i64 (IntKind.i64.wrap (x1.f1 + 1)), .int .i64 x5] 92 (fun b => .slice (some ⟨b, 0, none⟩) 1 1) (by kernel_rfl) (fun _ => by kernel_rfl) fun a w b236 hs hw => ?_
        refine dg_next (SX_now hS138 ((hw.vws [1, 2, 3]).anti (Le.refl _)) (by kernel_rfl)) fun hS => ?_
        refine d_all (fuel := 3) (rs := [2]) (by kernel_rfl) (by simp) (all1 ?_)
        replace hw := hw.nil
        obtain ⟨x240, h241, hx218⟩ := bindE hx218
        refine o_appS hs rfl hw (E := e92) appT39 0 rfl (OSl.nil _ _) (by kernel_rfl) (by kernel_rfl) (h4.mono (Le.refl _)) (hw.vwAll.nil.anti (Le.refl _)) (by kernel_rfl) h241 fun a w p242 c243 d244 h245 hw hs => ?_
        refine dg_next (SX_now hS138 ((hw.vws [2, 3, 4]).anti (Le.refl _)) (by kernel_rfl)) fun hS => ?_
        refine d_all (fuel := 2) (rs := [8]) (by kernel_rfl) (by simp) (all1 ?_)
        obtain ⟨x246, h247, hx218⟩ := bindE hx218
        refine o_app1 hs rfl hw (E := e92) appT39 0 rfl h245 (by kernel_rfl) (by kernel_rfl) (c2 := 1) (by kernel_rfl) (hw.at_ 1 rfl) (z := (M92.mk (IntKind.i64.wrap (x1.f1 + 1)) x5)) rfl h247 fun a w p248 c249 d250 h251 hw hs => ?_
        refine dg_next (SX_now hS138 ((hw.vws [2, 3, 4]).anti (Le.refl _)) (by kernel_rfl)) fun hS => ?_
        refine d_pures (fuel := 1) kS138 hs hS [9] [1, 2, 4, 19, 20, 22, 23, 24, 25, 26, 27, 28] [(1, .int .i64 x5), (2, .pointer (some ⟨b133, 0, none⟩)), (4, .pointer (some ⟨b135, 0, none⟩)), (19, .pointer (some ⟨b133, 2, none⟩)), (20, .slice p2 x1.f2.length c3), (22, .pointer (some ⟨b133, 1, none⟩)), (23, .int .i64 (IntKind.i64.wrap (x1.f1 + 1))), (24, .int .i64 x5), (25, .agg #[.int .i64 (IntKind.i64.wrap (x1.f1 + 1)), .int .i64 x5]), (26, .slice (some ⟨b236, 0, none⟩) 1 1), (27, .slice p248 x246.length c249), (28, .pointer (some ⟨b133, 2, none⟩))] (by kernel_rfl) fun a hs hS => ?_
        refine d_all (fuel := 0) (rs := [10]) (by kernel_rfl) (by simp) (all1 ?_)
        refine o_store hs hw rfl 3 rfl 2 (by kernel_rfl) (by kernel_rfl) (v := .slice p248 x246.length c249) (by kernel_rfl) (by kernel_rfl) (by kernel_rfl) (by kernel_rfl) fun a w hs hw => ?_
        refine dg_next (SX_now hS138 ((hw.vws [2, 4]).anti (Le.refl _)) (by kernel_rfl)) fun hS => ?_
        refine d_done (by kernel_rfl) ?_
        obtain rfl := someE hx218
        exact (hJ219 _ _).2 ⟨x246, p248, c249, d250, hk, hs.cast [2, 4] (by kernel_rfl), hw.pick [2, 3, 0, 4] (by kernel_rfl), h251⟩
    · intro a w hh
      obtain ⟨x203, p204, c205, d207, hk, hs, hw, h206⟩ := (hJ219 _ _).1 hh
      refine c_seq ?_
      obtain ⟨S209, hS209, kS209⟩ := mkSX (X := [([3], bx b135 [.int .i64 0, .int .i64 0, .slice none 0 0] 41), ([], bx b133 [.int .i64 x1.f0, .int .i64 (IntKind.i64.wrap (x1.f1 + 1)), .slice p204 x203.length c205] 41), ([], d207), ([], F)]) (ih := ih) (K := [3]) rfl
      obtain ⟨y213, hx214, hk⟩ := bindE hk
      obtain ⟨J215, hJ215⟩ : ∃ J : Act → World → Prop, ∀ a w, J a w ↔ (catenaryref06_Put_r3 x1 x203 = some r ∧ Sees a 32 [(4, .pointer (some ⟨b135, 0, none⟩)), (5, .int .i64 (IntKind.i64.wrap (x1.f1 + 1))), (6, .int .i64 0)] ∧ St g w [bx b135 [.int .i64 x1.f0, .int .i64 (IntKind.i64.wrap (x1.f1 + 1)), .slice p204 x203.length c205] 41, d207, F] ih) := ⟨_, fun _ _ => Iff.rfl⟩
      refine c_draw (by kernel_rfl) (N := 6) rfl S209 J215 ?_ ?_
      · have hw := hw.drew
        have hS : S209 (Array.replicate 6 false) _ := SX_now hS209 (hw.vws [0, 1, 2, 3]) (by kernel_rfl)
        refine d_load (fuel := 5) kS209 hs hS 0 rfl (by kernel_rfl) (SX_box hS209 1 rfl (by kernel_rfl)) 0 (by kernel_rfl) (by kernel_rfl) (v := .agg #[.int .i64 x1.f0, .int .i64 (IntKind.i64.wrap (x1.f1 + 1)), .slice p204 x203.length c205]) (by kernel_rfl) fun a hs hS => ?_
        refine d_pures (fuel := 4) kS209 hs hS [1] [2, 4, 29, 30] [(2, .pointer (some ⟨b133, 0, none⟩)), (4, .pointer (some ⟨b135, 0, none⟩)), (29, .agg #[.int .i64 x1.f0, .int .i64 (IntKind.i64.wrap (x1.f1 + 1)), .slice p204 x203.length c205]), (30, .pointer (some ⟨b133, 1, none⟩))] (by kernel_rfl) fun a hs hS => ?_
        refine d_load (fuel := 3) kS209 hs hS 2 rfl (by kernel_rfl) (SX_box hS209 1 rfl (by kernel_rfl)) 1 (by kernel_rfl) (by kernel_rfl) (v := .int .i64 (IntKind.i64.wrap (x1.f1 + 1))) (by kernel_rfl) fun a hs hS => ?_
        refine d_all (fuel := 2) (rs := [3]) (by kernel_rfl) (by simp) (all1 ?_)
        refine o_store hs hw rfl 0 rfl 0 (by kernel_rfl) (by kernel_rfl) (v := .agg #[.int .i64 x1.f0, .int .i64 (IntKind.i64.wrap (x1.f1 + 1)), .slice p204 x203.length c205]) (by kernel_rfl) (by kernel_rfl) (by kernel_rfl) (by kernel_rfl) fun a w hs hw => ?_
        refine dg_next (SX_now hS209 ((hw.vws [1, 2, 3]).anti (Le.refl _)) (by kernel_rfl)) fun hS => ?_
        refine d_pures (fuel := 0) kS209 hs hS [4, 5] [2, 4, 29, 30, 31, 5, 6] [(2, .pointer (some ⟨b133, 0, none⟩)), (4, .pointer (some ⟨b135, 0, none⟩)), (29, .agg #[.int .i64 x1.f0, .int .i64 (IntKind.i64.wrap (x1.f1 + 1)), .slice p204 x203.length c205]), (30, .pointer (some ⟨b133, 1, none⟩)), (31, .int .i64 (IntKind.i64.wrap (x1.f1 + 1))), (5, .int .i64 (IntKind.i64.wrap (x1.f1 + 1))), (6, .int .i64 0)] (by kernel_rfl) fun a hs hS => ?_
        refine d_done (by kernel_rfl) ?_
        obtain rfl := someE hx214
        exact (hJ215 _ _).2 ⟨hk, hs.cast [4, 5, 6] (by kernel_rfl), hw.pick [0, 2, 3] (by kernel_rfl)⟩
      · intro a w hh
        obtain ⟨hk, hs, hw⟩ := (hJ215 _ _).1 hh
        refine c_ret ?_
        obtain ⟨ih210, hle211, hw, h212⟩ := (hw.pick [1, 0, 2] (by kernel_rfl)).fz (h206.mono (Le.refl _))
        obtain rfl := someE hk
        refine hQ _ _ (f_retG hs (l := [.cell 4 41, .tmp 5, .tmp 6]) (vs := [.agg #[.int .i64 x1.f0, .int .i64 (IntKind.i64.wrap (x1.f1 + 1)), .slice p204 x203.length c205], .int .i64 (IntKind.i64.wrap (x1.f1 + 1)), .int .i64 0]) rfl (⟨res_cell hs (hw.at_ 0 rfl) (by kernel_rfl) (v := .agg #[.int .i64 x1.f0, .int .i64 (IntKind.i64.wrap (x1.f1 + 1)), .slice p204 x203.length c205]) (by kernel_rfl), ⟨res_tmp hs (v := .int .i64 (IntKind.i64.wrap (x1.f1 + 1))) (by kernel_rfl), ⟨res_tmp hs (v := .int .i64 0) (by kernel_rfl), trivial⟩⟩⟩) (by kernel_rfl) ⟨ih210, p204, c205, rfl, hw.pick [1] (by kernel_rfl), hle211, h212⟩)
def bag_Bag_int_Put_r3 (x4 : Int) (x74 : List M102) : Option (Int × Int × Int × (List M102)) :=
  some (IntKind.i64.wrap (x4 + 1), 0, IntKind.i64.wrap (x4 + 1), x74)
def bag_Bag_int_Put_r4 (x5 : List M102) (x3 : Int) (x4 : Int) (x11 : Int) : Option (Int × Int × Int × (List M102)) :=
  if (decide ((x5.length : Int) ≥ x3)) = true then some (0, 9, x4, x5)
  else ((app x5 [(M102.mk (IntKind.i64.wrap (x4 + 1)) x11)]).bind fun x85 =>
    some x85 : Option (List M102)).bind fun s91 => bag_Bag_int_Put_r3 x4 s91
def bag_Bag_int_Put (x3 : Int) (x4 : Int) (x5 : List M102) (x11 : Int) : Option (Int × Int × Int × (List M102)) :=
  (some () : Option Unit).bind fun _ => bag_Bag_int_Put_r4 x5 x3 x4 x11
theorem bag_Bag_int_Put_s {x3 : Int} {x4 : Int} {x5 : List M102} {x11 : Int} {b2 : Nat} {p6 : Option Addr} {c7 : Nat} {d9 : Ch} {r : Int × Int × Int × (List M102)} (hk : bag_Bag_int_Put x3 x4 x5 x11 = some r) {g w : World} {F : Ch} {ih : IH} (h8 : OSl e102 ih p6 c7 x5 d9) (hw : St g w [bx b2 [.int .i64 x3, .int .i64 x4, .slice p6 x5.length c7] 88, d9, F] ih) :
    CallsR Try.prog 21 #[.pointer (some ⟨b2, 0, none⟩), .int .i64 x11] w fun v w' => ∃ (p96 : Option Addr) (c97 : Nat) (d98 : Ch), v = .tuple #[.int .i64 r.1, .int .i64 r.2.1] ∧ St g w' [bx b2 [.int .i64 x3, .int .i64 r.2.2.1, .slice p96 r.2.2.2.length c97] 88, d98, F] ih ∧ OSl e102 ih p96 c97 r.2.2.2 d98 := by
  refine f_in (vs := [.pointer (some ⟨b2, 0, none⟩), .int .i64 x11]) Try.func21 rfl 46 rfl (by kernel_rfl) [(0, .pointer (some ⟨b2, 0, none⟩)), (1, .int .i64 x11)] (by kernel_rfl) fun a Qf hQ hQn hs => ?_
  refine c_seq ?_
  refine c_region ?_
  refine pures hs 2 [0, 1] [(0, .pointer (some ⟨b2, 0, none⟩)), (1, .int .i64 x11)] (by kernel_rfl) fun a hs => ?_
  refine s_end ?_
  refine c_seq ?_
  refine c_block ?_
  refine c_seq ?_
  refine c_region ?_
  refine pures hs 3 [0, 1, 6] [(0, .pointer (some ⟨b2, 0, none⟩)), (1, .int .i64 x11), (6, .bool false)] (by kernel_rfl) fun a hs => ?_
  refine s_end ?_
  refine c_condF hs (by kernel_rfl) (by kernel_rfl) ?_
  refine c_seq ?_
  obtain ⟨S55, hS55, kS55⟩ := mkSX (X := [([], bx b2 [.int .i64 x3, .int .i64 x4, .slice p6 x5.length c7] 88), ([], d9), ([], F)]) (ih := ih) (K := []) rfl
  obtain ⟨y92, hx93, hk⟩ := bindE hk
  obtain ⟨J94, hJ94⟩ : ∃ J : Act → World → Prop, ∀ a w, J a w ↔ (bag_Bag_int_Put_r4 x5 x3 x4 x11 = some r ∧ Sees a 46 [(0, .pointer (some ⟨b2, 0, none⟩)), (1, .int .i64 x11), (9, .bool (decide ((x5.length : Int) ≥ x3)))] ∧ St g w [bx b2 [.int .i64 x3, .int .i64 x4, .slice p6 x5.length c7] 88, d9, F] ih) := ⟨_, fun _ _ => Iff.rfl⟩
  refine c_draw (by kernel_rfl) (N := 11) rfl S55 J94 ?_ ?_
  · have hw := hw.drew
    have hS : S55 (Array.replicate 11 false) _ := SX_now hS55 (hw.vws [0, 1, 2]) (by kernel_rfl)
    refine d_pures (fuel := 8) kS55 hs hS [0, 1, 2] [0, 1, 10, 11, 12] [(0, .pointer (some ⟨b2, 0, none⟩)), (1, .int .i64 x11), (10, .pointer (some ⟨b2, 0, none⟩)), (11, .pointer (some ⟨b2, 0, none⟩)), (12, .pointer (some ⟨b2, 2, none⟩))] (by kernel_rfl) fun a hs hS => ?_
    refine d_load (fuel := 7) kS55 hs hS 3 rfl (by kernel_rfl) (SX_box hS55 0 rfl (by kernel_rfl)) 2 (by kernel_rfl) (by kernel_rfl) (v := .slice p6 x5.length c7) (by kernel_rfl) fun a hs hS => ?_
    refine d_pures (fuel := 3) kS55 hs hS [4, 5, 6, 7] [0, 1, 10, 11, 12, 13, 14, 15, 16, 17] [(0, .pointer (some ⟨b2, 0, none⟩)), (1, .int .i64 x11), (10, .pointer (some ⟨b2, 0, none⟩)), (11, .pointer (some ⟨b2, 0, none⟩)), (12, .pointer (some ⟨b2, 2, none⟩)), (13, .slice p6 x5.length c7), (14, .int .i64 (x5.length : Int)), (15, .pointer (some ⟨b2, 0, none⟩)), (16, .pointer (some ⟨b2, 0, none⟩)), (17, .pointer (some ⟨b2, 0, none⟩))] (by kernel_rfl) fun a hs hS => ?_
    refine d_load (fuel := 2) kS55 hs hS 8 rfl (by kernel_rfl) (SX_box hS55 0 rfl (by kernel_rfl)) 0 (by kernel_rfl) (by kernel_rfl) (v := .int .i64 x3) (by kernel_rfl) fun a hs hS => ?_
    refine d_pures (fuel := 0) kS55 hs hS [9, 10] [0, 1, 10, 11, 12, 13, 14, 15, 16, 17, 18, 19, 9] [(0, .pointer (some ⟨b2, 0, none⟩)), (1, .int .i64 x11), (10, .pointer (some ⟨b2, 0, none⟩)), (11, .pointer (some ⟨b2, 0, none⟩)), (12, .pointer (some ⟨b2, 2, none⟩)), (13, .slice p6 x5.length c7), (14, .int .i64 (x5.length : Int)), (15, .pointer (some ⟨b2, 0, none⟩)), (16, .pointer (some ⟨b2, 0, none⟩)), (17, .pointer (some ⟨b2, 0, none⟩)), (18, .int .i64 x3), (19, .bool (decide ((x5.length : Int) ≥ x3))), (9, .bool (decide ((x5.length : Int) ≥ x3)))] (by kernel_rfl) fun a hs hS => ?_
    refine d_done (by kernel_rfl) ?_
    obtain rfl := someE hx93
    exact (hJ94 _ _).2 ⟨hk, hs.cast [0, 1, 9] (by kernel_rfl), hw.pick [0, 1, 2] (by kernel_rfl)⟩
  · intro a w hh
    obtain ⟨hk, hs, hw⟩ := (hJ94 _ _).1 hh
    rcases ifbE hk with ⟨h56, hk⟩ | ⟨h56, hk⟩
    · refine c_cond1 hs (by kernel_rfl) (t := (decide ((x5.length : Int) ≥ x3))) (by kernel_rfl) h56 ?_
      refine c_seq ?_
      refine c_region ?_
      refine pures hs 2 [4, 5] [(4, .int .i64 0), (5, .int .i64 9)] (by kernel_rfl) fun a hs => ?_
      refine s_end ?_
      refine c_ret ?_
      obtain rfl := someE hk
      refine hQ _ _ (f_retN hs [.tmp 4, .tmp 5] rfl [.int .i64 0, .int .i64 9] (by kernel_rfl) (by kernel_rfl) ⟨p6, c7, d9, rfl, hw.pick [0, 1, 2] (by kernel_rfl), h8⟩)
    · refine c_cond0 hs (by kernel_rfl) (t := (decide ((x5.length : Int) ≥ x3))) (by kernel_rfl) h56 ?_
      refine c_skip ?_
      refine c_seq ?_
      refine c_region ?_
      refine pures hs 3 [0, 1, 20, 22] [(0, .pointer (some ⟨b2, 0, none⟩)), (1, .int .i64 x11), (20, .pointer (some ⟨b2, 0, none⟩)), (22, .pointer (some ⟨b2, 1, none⟩))] (by kernel_rfl) fun a hs => ?_
      refine s_load hs (hw.at_ 0 rfl) 1 (by kernel_rfl) (by kernel_rfl) (v := .int .i64 x4) (by kernel_rfl) fun a hs => ?_
      refine pures hs 3 [0, 1, 24, 26] [(0, .pointer (some ⟨b2, 0, none⟩)), (1, .int .i64 x11), (24, .int .i64 (IntKind.i64.wrap (x4 + 1))), (26, .pointer (some ⟨b2, 1, none⟩))] (by kernel_rfl) fun a hs => ?_
      refine s_store hs hw 0 rfl 1 (by kernel_rfl) (by kernel_rfl) (v := .int .i64 (IntKind.i64.wrap (x4 + 1))) (by kernel_rfl) (by kernel_rfl) (by kernel_rfl) (by kernel_rfl) fun a w hs hw => ?_
      refine s_end ?_
      refine c_seq ?_
      obtain ⟨S57, hS57, kS57⟩ := mkSX (X := [([12, 15], bx b2 [.int .i64 x3, .int .i64 (IntKind.i64.wrap (x4 + 1)), .slice p6 x5.length c7] 88), ([12], d9), ([], F)]) (ih := ih) (K := [12, 15, 12]) rfl
      obtain ⟨y80, hx81, hk⟩ := bindE hk
      obtain ⟨J82, hJ82⟩ : ∃ J : Act → World → Prop, ∀ a w, J a w ↔ (∃ (x74 : List M102) (p75 : Option Addr) (c76 : Nat) (d78 : Ch), bag_Bag_int_Put_r3 x4 x74 = some r ∧ Sees a 46 [(0, .pointer (some ⟨b2, 0, none⟩))] ∧ St g w [bx b2 [.int .i64 x3, .int .i64 (IntKind.i64.wrap (x4 + 1)), .slice p75 x74.length c76] 88, d78, F] ih ∧ OSl e102 ih p75 c76 x74 d78) := ⟨_, fun _ _ => Iff.rfl⟩
      refine c_draw (by kernel_rfl) (N := 16) rfl S57 J82 ?_ ?_
      · have hw := hw.drew
        have hS : S57 (Array.replicate 16 false) _ := SX_now hS57 (hw.vws [0, 1, 2]) (by kernel_rfl)
        refine d_pures (fuel := 12) kS57 hs hS [0, 1, 2, 3] [0, 1, 27, 28, 29, 30] [(0, .pointer (some ⟨b2, 0, none⟩)), (1, .int .i64 x11), (27, .pointer (some ⟨b2, 0, none⟩)), (28, .pointer (some ⟨b2, 0, none⟩)), (29, .pointer (some ⟨b2, 0, none⟩)), (30, .pointer (some ⟨b2, 2, none⟩))] (by kernel_rfl) fun a hs hS => ?_
        refine d_load (fuel := 11) kS57 hs hS 4 rfl (by kernel_rfl) (SX_box hS57 0 rfl (by kernel_rfl)) 2 (by kernel_rfl) (by kernel_rfl) (v := .slice p6 x5.length c7) (by kernel_rfl) fun a hs hS => ?_
        refine d_pures (fuel := 7) kS57 hs hS [5, 6, 7, 9] [0, 1, 27, 28, 29, 30, 31, 32, 33, 34, 36] [(0, .pointer (some ⟨b2, 0, none⟩)), (1, .int .i64 x11), (27, .pointer (some ⟨b2, 0, none⟩)), (28, .pointer (some ⟨b2, 0, none⟩)), (29, .pointer (some ⟨b2, 0, none⟩)), (30, .pointer (some ⟨b2, 2, none⟩)), (31, .slice p6 x5.length c7), (32, .pointer (some ⟨b2, 0, none⟩)), (33, .pointer (some ⟨b2, 0, none⟩)), (34, .pointer (some ⟨b2, 1, none⟩)), (36, .int .i64 x11)] (by kernel_rfl) fun a hs hS => ?_
        refine d_all (fuel := 6) (rs := [8]) (by kernel_rfl) (by simp) (all1 ?_)
        refine o_load hs rfl (hw.at_ 0 rfl) 1 (by kernel_rfl) (by kernel_rfl) (v := .int .i64 (IntKind.i64.wrap (x4 + 1))) (by kernel_rfl) fun a hs => ?_
        refine dg_next (SX_now hS57 ((hw.vws [0, 1, 2]).anti (Le.refl _)) (by kernel_rfl)) fun hS => ?_
        refine d_pures (fuel := 5) kS57 hs hS [10] [0, 1, 27, 28, 29, 30, 31, 32, 33, 34, 36, 35, 37] [(0, .pointer (some ⟨b2, 0, none⟩)), (1, .int .i64 x11), (27, .pointer (some ⟨b2, 0, none⟩)), (28, .pointer (some ⟨b2, 0, none⟩)), (29, .pointer (some ⟨b2, 0, none⟩)), (30, .pointer (some ⟨b2, 2, none⟩)), (31, .slice p6 x5.length c7), (32, .pointer (some ⟨b2, 0, none⟩)), (33, .pointer (some ⟨b2, 0, none⟩)), (34, .pointer (some ⟨b2, 1, none⟩)), (36, .int .i64 x11), (35, .int .i64 (IntKind.i64.wrap (x4 + 1))), (37, .agg #[.int .i64 (IntKind.i64.wrap (x4 + 1)), .int .i64 x11])] (by kernel_rfl) fun a hs hS => ?_
        refine d_all (fuel := 4) (rs := [11]) (by kernel_rfl) (by simp) (all1 ?_)
        refine o_new hs rfl hw [.int .i64 (IntKind.i64.wrap (x4 + 1)), .int .i64 x11] 102 (fun b => .slice (some ⟨b, 0, none⟩) 1 1) (by kernel_rfl) (fun _ => by kernel_rfl) fun a w b83 hs hw => ?_
        refine dg_next (SX_now hS57 ((hw.vws [1, 2, 3]).anti (Le.refl _)) (by kernel_rfl)) fun hS => ?_
        refine d_all (fuel := 3) (rs := [12]) (by kernel_rfl) (by simp) (all1 ?_)
        obtain ⟨x85, h86, hx81⟩ := bindE hx81
        refine o_app1 hs rfl hw (E := e102) appT86 2 rfl h8 (by kernel_rfl) (by kernel_rfl) (c2 := 1) (by kernel_rfl) (hw.at_ 0 rfl) (z := (M102.mk (IntKind.i64.wrap (x4 + 1)) x11)) rfl h86 fun a w p87 c88 d89 h90 hw hs => ?_
        refine dg_next (SX_now hS57 ((hw.vws [3]).anti (Le.refl _)) (by kernel_rfl)) fun hS => ?_
        refine d_pures (fuel := 1) kS57 hs hS [13, 14] [0, 1, 27, 28, 29, 30, 32, 33, 34, 36, 35, 37, 38, 39, 40, 41] [(0, .pointer (some ⟨b2, 0, none⟩)), (1, .int .i64 x11), (27, .pointer (some ⟨b2, 0, none⟩)), (28, .pointer (some ⟨b2, 0, none⟩)), (29, .pointer (some ⟨b2, 0, none⟩)), (30, .pointer (some ⟨b2, 2, none⟩)), (32, .pointer (some ⟨b2, 0, none⟩)), (33, .pointer (some ⟨b2, 0, none⟩)), (34, .pointer (some ⟨b2, 1, none⟩)), (36, .int .i64 x11), (35, .int .i64 (IntKind.i64.wrap (x4 + 1))), (37, .agg #[.int .i64 (IntKind.i64.wrap (x4 + 1)), .int .i64 x11]), (38, .slice (some ⟨b83, 0, none⟩) 1 1), (39, .slice p87 x85.length c88), (40, .pointer (some ⟨b2, 0, none⟩)), (41, .pointer (some ⟨b2, 2, none⟩))] (by kernel_rfl) fun a hs hS => ?_
        refine d_all (fuel := 0) (rs := [15]) (by kernel_rfl) (by simp) (all1 ?_)
        refine o_store hs hw rfl 1 rfl 2 (by kernel_rfl) (by kernel_rfl) (v := .slice p87 x85.length c88) (by kernel_rfl) (by kernel_rfl) (by kernel_rfl) (by kernel_rfl) fun a w hs hw => ?_
        refine dg_next (SX_now hS57 ((hw.vws [3]).anti (Le.refl _)) (by kernel_rfl)) fun hS => ?_
        refine d_done (by kernel_rfl) ?_
        obtain rfl := someE hx81
        exact (hJ82 _ _).2 ⟨x85, p87, c88, d89, hk, hs.cast [0] (by kernel_rfl), hw.pick [1, 2, 3] (by kernel_rfl), h90⟩
      · intro a w hh
        obtain ⟨x74, p75, c76, d78, hk, hs, hw, h77⟩ := (hJ82 _ _).1 hh
        refine c_seq ?_
        refine c_region ?_
        refine pures hs 3 [44] [(44, .pointer (some ⟨b2, 1, none⟩))] (by kernel_rfl) fun a hs => ?_
        refine s_load hs (hw.at_ 0 rfl) 1 (by kernel_rfl) (by kernel_rfl) (v := .int .i64 (IntKind.i64.wrap (x4 + 1))) (by kernel_rfl) fun a hs => ?_
        refine pures hs 2 [4, 5] [(4, .int .i64 (IntKind.i64.wrap (x4 + 1))), (5, .int .i64 0)] (by kernel_rfl) fun a hs => ?_
        refine s_end ?_
        refine c_ret ?_
        obtain rfl := someE hk
        refine hQ _ _ (f_retN hs [.tmp 4, .tmp 5] rfl [.int .i64 (IntKind.i64.wrap (x4 + 1)), .int .i64 0] (by kernel_rfl) (by kernel_rfl) ⟨p75, c76, d78, rfl, hw.pick [0, 1, 2] (by kernel_rfl), h77⟩)
def catenaryref06_Has (x1 : M41) (x5 : Int) : Option Bool :=
  some ((decide (x5 ≥ 0)) && (decide (x5 < (x1.f2.length : Int))))
theorem catenaryref06_Has_s {x1 : M41} {x5 : Int} {p2 : Option Addr} {c3 : Nat} {r : Bool} (hk : catenaryref06_Has x1 x5 = some r) {g w : World} {F : Ch} {ih : IH} (h4 : RSl e92 ih [] p2 c3 x1.f2) (hw : St g w [F] ih) :
    CallsR Try.prog 60 #[.agg #[.int .i64 x1.f0, .int .i64 x1.f1, .slice p2 x1.f2.length c3], .int .i64 x5] w fun v w' => v = .bool r ∧ St g w' [F] ih := by
  refine f_in (vs := [.agg #[.int .i64 x1.f0, .int .i64 x1.f1, .slice p2 x1.f2.length c3], .int .i64 x5]) Try.func60 rfl 14 rfl (by kernel_rfl) [(0, .agg #[.int .i64 x1.f0, .int .i64 x1.f1, .slice p2 x1.f2.length c3]), (1, .int .i64 x5)] (by kernel_rfl) fun a Qf hQ hQn hs => ?_
  refine c_seq ?_
  refine c_region ?_
  refine s_new hs hw [.int .i64 x1.f0, .int .i64 x1.f1, .slice p2 x1.f2.length c3] 41 (fun b => .pointer (some ⟨b, 0, none⟩)) (by kernel_rfl) (fun _ => by kernel_rfl) fun a w b19 hs hw => ?_
  refine pures hs 1 [1, 2] [(1, .int .i64 x5), (2, .pointer (some ⟨b19, 0, none⟩))] (by kernel_rfl) fun a hs => ?_
  refine s_end ?_
  refine c_seq ?_
  obtain ⟨J24, hJ24⟩ : ∃ J : Act → World → Prop, ∀ a w, J a w ↔ (Sees a 14 [(4, .bool ((decide (x5 ≥ 0)) && (decide (x5 < (x1.f2.length : Int)))))] ∧ St g w [F] ih) := ⟨_, fun _ _ => Iff.rfl⟩
  refine c_regJ J24 ?_ ?_
  · refine pures hs 3 [1, 2, 7] [(1, .int .i64 x5), (2, .pointer (some ⟨b19, 0, none⟩)), (7, .bool (decide (x5 ≥ 0)))] (by kernel_rfl) fun a hs => ?_
    rcases boolE (decide (x5 ≥ 0)) with h25 | h25
    · replace hs := hs.altB 7 true (by kernel_rfl) h25
      refine pures hs 2 [7, 8, 9] [(7, .bool true), (8, .int .i64 x5), (9, .pointer (some ⟨b19, 2, none⟩))] (by kernel_rfl) fun a hs => ?_
      refine s_load hs (hw.at_ 0 rfl) 2 (by kernel_rfl) (by kernel_rfl) (v := .slice p2 x1.f2.length c3) (by kernel_rfl) fun a hs => ?_
      refine pures hs 4 [4] [(4, .bool (decide (x5 < (x1.f2.length : Int))))] (by kernel_rfl) fun a hs => ?_
      refine s_end ?_
      exact (hJ24 _ _).2 ⟨(hs.altB 4 ((decide (x5 ≥ 0)) && (decide (x5 < (x1.f2.length : Int)))) (by kernel_rfl) (by rw [h25] <;> rfl)).cast [4] (by kernel_rfl), hw.pick [1] (by kernel_rfl)⟩
    · replace hs := hs.altB 7 false (by kernel_rfl) h25
      refine pures hs 7 [4] [(4, .bool false)] (by kernel_rfl) fun a hs => ?_
      refine s_end ?_
      exact (hJ24 _ _).2 ⟨(hs.altB 4 ((decide (x5 ≥ 0)) && (decide (x5 < (x1.f2.length : Int)))) (by kernel_rfl) (by rw [h25] <;> rfl)).cast [4] (by kernel_rfl), hw.pick [1] (by kernel_rfl)⟩
  · intro a w hh
    obtain ⟨hs, hw⟩ := (hJ24 _ _).1 hh
    refine c_ret ?_
    obtain rfl := someE hk
    refine hQ _ _ (f_ret1 hs rfl (v := .bool ((decide (x5 ≥ 0)) && (decide (x5 < (x1.f2.length : Int))))) (by kernel_rfl) ⟨rfl, hw.pick [0] (by kernel_rfl)⟩)
def catenaryref06_Twice_r2 (x107 : Int) (x108 : Int) (x109 : Int) (x110 : Int) (x111 : List M92) : Option (M41 × Int × Int) :=
  some ((M41.mk x109 x110 x111), x107, x108)
def catenaryref06_Twice (x1 : M41) (x5 : Int) : Option (M41 × Int × Int) :=
  (catenaryref06_Has x1 x5).bind fun y79 =>
  if (!y79) = true then some (x1, 0, 7)
  else ((ix x1.f2 x5).bind fun x118 =>
    (catenaryref06_Put x1 x118.f1).bind fun y122 =>
    some (y122.2.1, y122.2.2, y122.1.f0, y122.1.f1, y122.1.f2) : Option (Int × Int × Int × Int × (List M92))).bind fun s129 => catenaryref06_Twice_r2 s129.1 s129.2.1 s129.2.2.1 s129.2.2.2.1 s129.2.2.2.2
theorem catenaryref06_Twice_s {x1 : M41} {x5 : Int} {p2 : Option Addr} {c3 : Nat} {r : M41 × Int × Int} (hk : catenaryref06_Twice x1 x5 = some r) {g w : World} {F : Ch} {ih : IH} (h4 : RSl e92 ih [] p2 c3 x1.f2) (hw : St g w [F] ih) :
    CallsR Try.prog 56 #[.agg #[.int .i64 x1.f0, .int .i64 x1.f1, .slice p2 x1.f2.length c3], .int .i64 x5] w fun v w' => ∃ (ih' : IH) (p130 : Option Addr) (c131 : Nat), v = .tuple #[.agg #[.int .i64 r.1.f0, .int .i64 r.1.f1, .slice p130 r.1.f2.length c131], .int .i64 r.2.1, .int .i64 r.2.2] ∧ St g w' [F] ih' ∧ Le ih ih' ∧ RSl e92 ih' [] p130 c131 r.1.f2 := by
  refine f_in (vs := [.agg #[.int .i64 x1.f0, .int .i64 x1.f1, .slice p2 x1.f2.length c3], .int .i64 x5]) Try.func56 rfl 23 rfl (by kernel_rfl) [(0, .agg #[.int .i64 x1.f0, .int .i64 x1.f1, .slice p2 x1.f2.length c3]), (1, .int .i64 x5)] (by kernel_rfl) fun a Qf hQ hQn hs => ?_
  refine c_seq ?_
  refine c_region ?_
  refine s_new hs hw [.int .i64 x1.f0, .int .i64 x1.f1, .slice p2 x1.f2.length c3] 41 (fun b => .pointer (some ⟨b, 0, none⟩)) (by kernel_rfl) (fun _ => by kernel_rfl) fun a w b73 hs hw => ?_
  refine s_new hs hw [.int .i64 0, .int .i64 0, .slice none 0 0] 41 (fun b => .pointer (some ⟨b, 0, none⟩)) (by kernel_rfl) (fun _ => by kernel_rfl) fun a w b75 hs hw => ?_
  refine pures hs 2 [1, 2, 4] [(1, .int .i64 x5), (2, .pointer (some ⟨b73, 0, none⟩)), (4, .pointer (some ⟨b75, 0, none⟩))] (by kernel_rfl) fun a hs => ?_
  refine s_end ?_
  refine c_seq ?_
  refine c_seq ?_
  refine c_region ?_
  refine s_load hs (hw.at_ 1 rfl) 0 (by kernel_rfl) (by kernel_rfl) (v := .agg #[.int .i64 x1.f0, .int .i64 x1.f1, .slice p2 x1.f2.length c3]) (by kernel_rfl) fun a hs => ?_
  refine pures hs 1 [1, 2, 4, 7, 8] [(1, .int .i64 x5), (2, .pointer (some ⟨b73, 0, none⟩)), (4, .pointer (some ⟨b75, 0, none⟩)), (7, .agg #[.int .i64 x1.f0, .int .i64 x1.f1, .slice p2 x1.f2.length c3]), (8, .int .i64 x5)] (by kernel_rfl) fun a hs => ?_
  obtain ⟨y79, h80, hk⟩ := bindE hk
  refine s_call hs (by kernel_rfl) (by kernel_rfl) (catenaryref06_Has_s h80 h4 ((hw.pick [0, 1, 2] (by kernel_rfl)).pack 0)) fun a w v hv hs => ?_
  obtain ⟨rfl, hw⟩ := hv
  replace hw := hw.unpack 0 rfl
  refine pures hs 1 [1, 2, 4, 10] [(1, .int .i64 x5), (2, .pointer (some ⟨b73, 0, none⟩)), (4, .pointer (some ⟨b75, 0, none⟩)), (10, .bool (!y79))] (by kernel_rfl) fun a hs => ?_
  refine s_end ?_
  rcases ifbE hk with ⟨h81, hk⟩ | ⟨h81, hk⟩
  · refine c_cond1 hs (by kernel_rfl) (t := (!y79)) (by kernel_rfl) h81 ?_
    refine c_seq ?_
    refine c_region ?_
    refine s_load hs (hw.at_ 1 rfl) 0 (by kernel_rfl) (by kernel_rfl) (v := .agg #[.int .i64 x1.f0, .int .i64 x1.f1, .slice p2 x1.f2.length c3]) (by kernel_rfl) fun a hs => ?_
    refine s_store hs hw 0 rfl 0 (by kernel_rfl) (by kernel_rfl) (v := .agg #[.int .i64 x1.f0, .int .i64 x1.f1, .slice p2 x1.f2.length c3]) (by kernel_rfl) (by kernel_rfl) (by kernel_rfl) (by kernel_rfl) fun a w hs hw => ?_
    refine pures hs 2 [4, 5, 6] [(4, .pointer (some ⟨b75, 0, none⟩)), (5, .int .i64 0), (6, .int .i64 7)] (by kernel_rfl) fun a hs => ?_
    refine s_end ?_
    refine c_ret ?_
    obtain rfl := someE hk
    refine hQ _ _ (f_retG hs (l := [.cell 4 41, .tmp 5, .tmp 6]) (vs := [.agg #[.int .i64 x1.f0, .int .i64 x1.f1, .slice p2 x1.f2.length c3], .int .i64 0, .int .i64 7]) rfl (⟨res_cell hs (hw.at_ 0 rfl) (by kernel_rfl) (v := .agg #[.int .i64 x1.f0, .int .i64 x1.f1, .slice p2 x1.f2.length c3]) (by kernel_rfl), ⟨res_tmp hs (v := .int .i64 0) (by kernel_rfl), ⟨res_tmp hs (v := .int .i64 7) (by kernel_rfl), trivial⟩⟩⟩) (by kernel_rfl) ⟨ih, p2, c3, rfl, hw.pick [2] (by kernel_rfl), (Le.refl _), h4⟩)
  · refine c_cond0 hs (by kernel_rfl) (t := (!y79)) (by kernel_rfl) h81 ?_
    refine c_skip ?_
    refine c_seq ?_
    obtain ⟨S82, hS82, kS82⟩ := mkSX (X := [([11], bx b75 [.int .i64 0, .int .i64 0, .slice none 0 0] 41), ([], bx b73 [.int .i64 x1.f0, .int .i64 x1.f1, .slice p2 x1.f2.length c3] 41), ([], F)]) (ih := ih) (K := [11]) rfl
    obtain ⟨y115, hx116, hk⟩ := bindE hk
    obtain ⟨J117, hJ117⟩ : ∃ J : Act → World → Prop, ∀ a w, J a w ↔ (∃ (x107 : Int) (x108 : Int) (x109 : Int) (x110 : Int) (x111 : List M92) (p112 : Option Addr) (c113 : Nat) (ih105 : IH), catenaryref06_Twice_r2 x107 x108 x109 x110 x111 = some r ∧ Sees a 23 [(4, .pointer (some ⟨b75, 0, none⟩)), (5, .int .i64 x107), (6, .int .i64 x108)] ∧ St g w [bx b75 [.int .i64 x109, .int .i64 x110, .slice p112 x111.length c113] 41, F] ih105 ∧ Le ih ih105 ∧ RSl e92 ih105 [] p112 c113 x111) := ⟨_, fun _ _ => Iff.rfl⟩
    refine c_draw (by kernel_rfl) (N := 14) rfl S82 J117 ?_ ?_
    · have hw := hw.drew
      have hS : S82 (Array.replicate 14 false) _ := SX_now hS82 (hw.vws [0, 1, 2]) (by kernel_rfl)
      refine d_load (fuel := 13) kS82 hs hS 0 rfl (by kernel_rfl) (SX_box hS82 1 rfl (by kernel_rfl)) 0 (by kernel_rfl) (by kernel_rfl) (v := .agg #[.int .i64 x1.f0, .int .i64 x1.f1, .slice p2 x1.f2.length c3]) (by kernel_rfl) fun a hs hS => ?_
      refine d_pures (fuel := 12) kS82 hs hS [1] [1, 2, 4, 12, 13] [(1, .int .i64 x5), (2, .pointer (some ⟨b73, 0, none⟩)), (4, .pointer (some ⟨b75, 0, none⟩)), (12, .agg #[.int .i64 x1.f0, .int .i64 x1.f1, .slice p2 x1.f2.length c3]), (13, .pointer (some ⟨b73, 2, none⟩))] (by kernel_rfl) fun a hs hS => ?_
      refine d_load (fuel := 11) kS82 hs hS 2 rfl (by kernel_rfl) (SX_box hS82 1 rfl (by kernel_rfl)) 2 (by kernel_rfl) (by kernel_rfl) (v := .slice p2 x1.f2.length c3) (by kernel_rfl) fun a hs hS => ?_
      refine d_pures (fuel := 10) kS82 hs hS [3] [1, 2, 4, 12, 13, 14, 15] [(1, .int .i64 x5), (2, .pointer (some ⟨b73, 0, none⟩)), (4, .pointer (some ⟨b75, 0, none⟩)), (12, .agg #[.int .i64 x1.f0, .int .i64 x1.f1, .slice p2 x1.f2.length c3]), (13, .pointer (some ⟨b73, 2, none⟩)), (14, .slice p2 x1.f2.length c3), (15, .int .i64 x5)] (by kernel_rfl) fun a hs hS => ?_
      obtain ⟨x118, h119, hx116⟩ := bindE hx116
      refine d_index (fuel := 9) kS82 hs hS 4 rfl (by kernel_rfl) h4 (by kernel_rfl) (by kernel_rfl) (k := .i64) (by kernel_rfl) 92 (by kernel_rfl) (by kernel_rfl) h119 fun a r120 cs henc at121 hs hS => ?_
      obtain rfl := henc
      refine d_pures (fuel := 8) kS82 hs hS [5] [1, 2, 4, 12, 13, 14, 15, 16, 17] [(1, .int .i64 x5), (2, .pointer (some ⟨b73, 0, none⟩)), (4, .pointer (some ⟨b75, 0, none⟩)), (12, .agg #[.int .i64 x1.f0, .int .i64 x1.f1, .slice p2 x1.f2.length c3]), (13, .pointer (some ⟨b73, 2, none⟩)), (14, .slice p2 x1.f2.length c3), (15, .int .i64 x5), (16, .pointer (some r120)), (17, .pointer (some (r120.add 1)))] (by kernel_rfl) fun a hs hS => ?_
      refine d_load (fuel := 7) kS82 hs hS 6 rfl (by kernel_rfl) (fun l w hu hS => at121 w ((SX_nil hS82 l w hu hS).anti (Le.refl _))) 1 (by kernel_rfl) (by kernel_rfl) (v := .int .i64 x118.f1) (by kernel_rfl) fun a hs hS => ?_
      refine d_all (fuel := 6) (rs := [7]) (by kernel_rfl) (by simp) (all1 ?_)
      obtain ⟨y122, h123, hx116⟩ := bindE hx116
      refine o_call hs rfl (by kernel_rfl) (by kernel_rfl) (catenaryref06_Put_s h123 h4 ((hw.pick [0, 1, 2] (by kernel_rfl)).pack 0)) fun a w v hv hs => ?_
      obtain ⟨ih124, p126, c127, rfl, hw, hle125, h128⟩ := hv
      replace hw := hw.unpack 0 rfl
      refine dg_next (SX_now hS82 ((hw.vws [0, 1, 2]).anti hle125) (by kernel_rfl)) fun hS => ?_
      refine d_pures (fuel := 3) kS82 hs hS [8, 9, 10] [1, 2, 4, 12, 13, 14, 15, 16, 17, 18, 19, 20, 21, 22] [(1, .int .i64 x5), (2, .pointer (some ⟨b73, 0, none⟩)), (4, .pointer (some ⟨b75, 0, none⟩)), (12, .agg #[.int .i64 x1.f0, .int .i64 x1.f1, .slice p2 x1.f2.length c3]), (13, .pointer (some ⟨b73, 2, none⟩)), (14, .slice p2 x1.f2.length c3), (15, .int .i64 x5), (16, .pointer (some r120)), (17, .pointer (some (r120.add 1))), (18, .int .i64 x118.f1), (19, .tuple #[.agg #[.int .i64 y122.1.f0, .int .i64 y122.1.f1, .slice p126 y122.1.f2.length c127], .int .i64 y122.2.1, .int .i64 y122.2.2]), (20, .agg #[.int .i64 y122.1.f0, .int .i64 y122.1.f1, .slice p126 y122.1.f2.length c127]), (21, .int .i64 y122.2.1), (22, .int .i64 y122.2.2)] (by kernel_rfl) fun a hs hS => ?_
      refine d_all (fuel := 2) (rs := [11]) (by kernel_rfl) (by simp) (all1 ?_)
      refine o_store hs hw rfl 0 rfl 0 (by kernel_rfl) (by kernel_rfl) (v := .agg #[.int .i64 y122.1.f0, .int .i64 y122.1.f1, .slice p126 y122.1.f2.length c127]) (by kernel_rfl) (by kernel_rfl) (by kernel_rfl) (by kernel_rfl) fun a w hs hw => ?_
      refine dg_next (SX_now hS82 ((hw.vws [1, 2]).anti hle125) (by kernel_rfl)) fun hS => ?_
      refine d_pures (fuel := 0) kS82 hs hS [12, 13] [1, 2, 4, 12, 13, 14, 15, 16, 17, 18, 19, 20, 21, 22, 5, 6] [(1, .int .i64 x5), (2, .pointer (some ⟨b73, 0, none⟩)), (4, .pointer (some ⟨b75, 0, none⟩)), (12, .agg #[.int .i64 x1.f0, .int .i64 x1.f1, .slice p2 x1.f2.length c3]), (13, .pointer (some ⟨b73, 2, none⟩)), (14, .slice p2 x1.f2.length c3), (15, .int .i64 x5), (16, .pointer (some r120)), (17, .pointer (some (r120.add 1))), (18, .int .i64 x118.f1), (19, .tuple #[.agg #[.int .i64 y122.1.f0, .int .i64 y122.1.f1, .slice p126 y122.1.f2.length c127], .int .i64 y122.2.1, .int .i64 y122.2.2]), (20, .agg #[.int .i64 y122.1.f0, .int .i64 y122.1.f1, .slice p126 y122.1.f2.length c127]), (21, .int .i64 y122.2.1), (22, .int .i64 y122.2.2), (5, .int .i64 y122.2.1), (6, .int .i64 y122.2.2)] (by kernel_rfl) fun a hs hS => ?_
      refine d_done (by kernel_rfl) ?_
      obtain rfl := someE hx116
      exact (hJ117 _ _).2 ⟨y122.2.1, y122.2.2, y122.1.f0, y122.1.f1, y122.1.f2, p126, c127, ih124, hk, hs.cast [4, 5, 6] (by kernel_rfl), hw.pick [0, 2] (by kernel_rfl), hle125, h128⟩
    · intro a w hh
      obtain ⟨x107, x108, x109, x110, x111, p112, c113, ih105, hk, hs, hw, hle106, h114⟩ := (hJ117 _ _).1 hh
      refine c_ret ?_
      obtain rfl := someE hk
      refine hQ _ _ (f_retG hs (l := [.cell 4 41, .tmp 5, .tmp 6]) (vs := [.agg #[.int .i64 x109, .int .i64 x110, .slice p112 x111.length c113], .int .i64 x107, .int .i64 x108]) rfl (⟨res_cell hs (hw.at_ 0 rfl) (by kernel_rfl) (v := .agg #[.int .i64 x109, .int .i64 x110, .slice p112 x111.length c113]) (by kernel_rfl), ⟨res_tmp hs (v := .int .i64 x107) (by kernel_rfl), ⟨res_tmp hs (v := .int .i64 x108) (by kernel_rfl), trivial⟩⟩⟩) (by kernel_rfl) ⟨ih105, p112, c113, rfl, hw.pick [1] (by kernel_rfl), hle106, h114⟩)
def bag_Bag_int_has (x3 : Int) (x4 : Int) (x5 : List M102) (x11 : Int) : Option Bool :=
  some ((decide (x11 ≥ 0)) && (decide (x11 < (x5.length : Int))))
theorem bag_Bag_int_has_s {x3 : Int} {x4 : Int} {x5 : List M102} {x11 : Int} {b2 : Nat} {p6 : Option Addr} {c7 : Nat} {d9 : Ch} {r : Bool} (hk : bag_Bag_int_has x3 x4 x5 x11 = some r) {g w : World} {F : Ch} {ih : IH} (h8 : OSl e102 ih p6 c7 x5 d9) (hw : St g w [bx b2 [.int .i64 x3, .int .i64 x4, .slice p6 x5.length c7] 88, d9, F] ih) :
    CallsR Try.prog 63 #[.pointer (some ⟨b2, 0, none⟩), .int .i64 x11] w fun v w' => v = .bool r ∧ St g w' [bx b2 [.int .i64 x3, .int .i64 x4, .slice p6 x5.length c7] 88, d9, F] ih := by
  refine f_in (vs := [.pointer (some ⟨b2, 0, none⟩), .int .i64 x11]) Try.func63 rfl 20 rfl (by kernel_rfl) [(0, .pointer (some ⟨b2, 0, none⟩)), (1, .int .i64 x11)] (by kernel_rfl) fun a Qf hQ hQn hs => ?_
  refine c_seq ?_
  refine c_region ?_
  refine pures hs 1 [0, 1] [(0, .pointer (some ⟨b2, 0, none⟩)), (1, .int .i64 x11)] (by kernel_rfl) fun a hs => ?_
  refine s_end ?_
  refine c_seq ?_
  obtain ⟨J22, hJ22⟩ : ∃ J : Act → World → Prop, ∀ a w, J a w ↔ (Sees a 20 [(4, .bool ((decide (x11 ≥ 0)) && (decide (x11 < (x5.length : Int)))))] ∧ St g w [bx b2 [.int .i64 x3, .int .i64 x4, .slice p6 x5.length c7] 88, d9, F] ih) := ⟨_, fun _ _ => Iff.rfl⟩
  refine c_regJ J22 ?_ ?_
  · refine pures hs 7 [0, 1, 11] [(0, .pointer (some ⟨b2, 0, none⟩)), (1, .int .i64 x11), (11, .bool (decide (x11 ≥ 0)))] (by kernel_rfl) fun a hs => ?_
    rcases boolE (decide (x11 ≥ 0)) with h23 | h23
    · replace hs := hs.altB 11 true (by kernel_rfl) h23
      refine pures hs 4 [11, 12, 15] [(11, .bool true), (12, .int .i64 x11), (15, .pointer (some ⟨b2, 2, none⟩))] (by kernel_rfl) fun a hs => ?_
      refine s_load hs (hw.at_ 0 rfl) 2 (by kernel_rfl) (by kernel_rfl) (v := .slice p6 x5.length c7) (by kernel_rfl) fun a hs => ?_
      refine pures hs 4 [4] [(4, .bool (decide (x11 < (x5.length : Int))))] (by kernel_rfl) fun a hs => ?_
      refine s_end ?_
      exact (hJ22 _ _).2 ⟨(hs.altB 4 ((decide (x11 ≥ 0)) && (decide (x11 < (x5.length : Int)))) (by kernel_rfl) (by rw [h23] <;> rfl)).cast [4] (by kernel_rfl), hw.pick [0, 1, 2] (by kernel_rfl)⟩
    · replace hs := hs.altB 11 false (by kernel_rfl) h23
      refine pures hs 9 [4] [(4, .bool false)] (by kernel_rfl) fun a hs => ?_
      refine s_end ?_
      exact (hJ22 _ _).2 ⟨(hs.altB 4 ((decide (x11 ≥ 0)) && (decide (x11 < (x5.length : Int)))) (by kernel_rfl) (by rw [h23] <;> rfl)).cast [4] (by kernel_rfl), hw.pick [0, 1, 2] (by kernel_rfl)⟩
  · intro a w hh
    obtain ⟨hs, hw⟩ := (hJ22 _ _).1 hh
    refine c_ret ?_
    obtain rfl := someE hk
    refine hQ _ _ (f_ret1 hs rfl (v := .bool ((decide (x11 ≥ 0)) && (decide (x11 < (x5.length : Int))))) (by kernel_rfl) ⟨rfl, hw.pick [0, 1, 2] (by kernel_rfl)⟩)
def bag_Bag_int_Twice (x3 : Int) (x4 : Int) (x5 : List M102) (x11 : Int) : Option (Int × Int × Int × (List M102)) :=
  (bag_Bag_int_has x3 x4 x5 x11).bind fun y43 =>
  if (!y43) = true then some (0, 7, x4, x5)
  else (ix x5 x11).bind fun x57 =>
  (bag_Bag_int_Put x3 x4 x5 x57.f1).bind fun y62 =>
  some (y62.1, y62.2.1, y62.2.2.1, y62.2.2.2)
theorem bag_Bag_int_Twice_s {x3 : Int} {x4 : Int} {x5 : List M102} {x11 : Int} {b2 : Nat} {p6 : Option Addr} {c7 : Nat} {d9 : Ch} {r : Int × Int × Int × (List M102)} (hk : bag_Bag_int_Twice x3 x4 x5 x11 = some r) {g w : World} {F : Ch} {ih : IH} (h8 : OSl e102 ih p6 c7 x5 d9) (hw : St g w [bx b2 [.int .i64 x3, .int .i64 x4, .slice p6 x5.length c7] 88, d9, F] ih) :
    CallsR Try.prog 22 #[.pointer (some ⟨b2, 0, none⟩), .int .i64 x11] w fun v w' => ∃ (p68 : Option Addr) (c69 : Nat) (d70 : Ch), v = .tuple #[.int .i64 r.1, .int .i64 r.2.1] ∧ St g w' [bx b2 [.int .i64 x3, .int .i64 r.2.2.1, .slice p68 r.2.2.2.length c69] 88, d70, F] ih ∧ OSl e102 ih p68 c69 r.2.2.2 d70 := by
  refine f_in (vs := [.pointer (some ⟨b2, 0, none⟩), .int .i64 x11]) Try.func22 rfl 26 rfl (by kernel_rfl) [(0, .pointer (some ⟨b2, 0, none⟩)), (1, .int .i64 x11)] (by kernel_rfl) fun a Qf hQ hQn hs => ?_
  refine c_seq ?_
  refine c_region ?_
  refine pures hs 2 [0, 1] [(0, .pointer (some ⟨b2, 0, none⟩)), (1, .int .i64 x11)] (by kernel_rfl) fun a hs => ?_
  refine s_end ?_
  refine c_seq ?_
  refine c_block ?_
  refine c_seq ?_
  refine c_region ?_
  refine pures hs 3 [0, 1, 6] [(0, .pointer (some ⟨b2, 0, none⟩)), (1, .int .i64 x11), (6, .bool false)] (by kernel_rfl) fun a hs => ?_
  refine s_end ?_
  refine c_condF hs (by kernel_rfl) (by kernel_rfl) ?_
  refine c_seq ?_
  refine c_region ?_
  refine pures hs 2 [0, 1, 10, 11] [(0, .pointer (some ⟨b2, 0, none⟩)), (1, .int .i64 x11), (10, .pointer (some ⟨b2, 0, none⟩)), (11, .int .i64 x11)] (by kernel_rfl) fun a hs => ?_
  obtain ⟨y43, h44, hk⟩ := bindE hk
  refine s_call hs (by kernel_rfl) (by kernel_rfl) (bag_Bag_int_has_s h44 h8 ((hw.pick [0, 1, 2] (by kernel_rfl)).pack 2)) fun a w v hv hs => ?_
  obtain ⟨rfl, hw⟩ := hv
  replace hw := hw.unpack 2 rfl
  refine pures hs 2 [0, 1, 9] [(0, .pointer (some ⟨b2, 0, none⟩)), (1, .int .i64 x11), (9, .bool (!y43))] (by kernel_rfl) fun a hs => ?_
  refine s_end ?_
  rcases ifbE hk with ⟨h45, hk⟩ | ⟨h45, hk⟩
  · refine c_cond1 hs (by kernel_rfl) (t := (!y43)) (by kernel_rfl) h45 ?_
    refine c_seq ?_
    refine c_region ?_
    refine pures hs 2 [4, 5] [(4, .int .i64 0), (5, .int .i64 7)] (by kernel_rfl) fun a hs => ?_
    refine s_end ?_
    refine c_ret ?_
    obtain rfl := someE hk
    refine hQ _ _ (f_retN hs [.tmp 4, .tmp 5] rfl [.int .i64 0, .int .i64 7] (by kernel_rfl) (by kernel_rfl) ⟨p6, c7, d9, rfl, hw.pick [0, 1, 2] (by kernel_rfl), h8⟩)
  · refine c_cond0 hs (by kernel_rfl) (t := (!y43)) (by kernel_rfl) h45 ?_
    refine c_skip ?_
    refine c_seq ?_
    refine c_region ?_
    refine pures hs 4 [1, 14, 17] [(1, .int .i64 x11), (14, .pointer (some ⟨b2, 0, none⟩)), (17, .pointer (some ⟨b2, 2, none⟩))] (by kernel_rfl) fun a hs => ?_
    refine s_load hs (hw.at_ 0 rfl) 2 (by kernel_rfl) (by kernel_rfl) (v := .slice p6 x5.length c7) (by kernel_rfl) fun a hs => ?_
    refine pures hs 1 [14, 18, 19] [(14, .pointer (some ⟨b2, 0, none⟩)), (18, .slice p6 x5.length c7), (19, .int .i64 x11)] (by kernel_rfl) fun a hs => ?_
    obtain ⟨x57, h58, hk⟩ := bindE hk
    refine s_indexO hs h8 (by kernel_rfl) (by kernel_rfl) (k := .i64) (by kernel_rfl) 102 (by kernel_rfl) (by kernel_rfl) h58 fun a r59 cs henc at60 h61 hs => ?_
    obtain rfl := henc
    refine pures hs 1 [14, 21] [(14, .pointer (some ⟨b2, 0, none⟩)), (21, .pointer (some (r59.add 1)))] (by kernel_rfl) fun a hs => ?_
    refine s_load hs (at60 _ ((hw.vw 1 rfl).anti (Le.refl _))) 1 (by kernel_rfl) (by kernel_rfl) (v := .int .i64 x57.f1) (by kernel_rfl) fun a hs => ?_
    obtain ⟨y62, h63, hk⟩ := bindE hk
    refine s_call hs (by kernel_rfl) (by kernel_rfl) (bag_Bag_int_Put_s h63 h8 ((hw.pick [0, 1, 2] (by kernel_rfl)).pack 2)) fun a w v hv hs => ?_
    obtain ⟨p64, c65, d67, rfl, hw, h66⟩ := hv
    replace hw := hw.unpack 2 rfl
    refine pures hs 4 [4, 5] [(4, .int .i64 y62.1), (5, .int .i64 y62.2.1)] (by kernel_rfl) fun a hs => ?_
    refine s_end ?_
    refine c_ret ?_
    obtain rfl := someE hk
    refine hQ _ _ (f_retN hs [.tmp 4, .tmp 5] rfl [.int .i64 y62.1, .int .i64 y62.2.1] (by kernel_rfl) (by kernel_rfl) ⟨p64, c65, d67, rfl, hw.pick [0, 1, 2] (by kernel_rfl), h66⟩)
def catenaryref06_At (x1 : M41) (x5 : Int) : Option (M92 × Bool) :=
  (catenaryref06_Has x1 x5).bind fun y39 =>
  if (!y39) = true then some ((M92.mk 0 0), false)
  else (ix x1.f2 x5).bind fun x46 =>
  some (x46, true)
theorem catenaryref06_At_s {x1 : M41} {x5 : Int} {p2 : Option Addr} {c3 : Nat} {r : M92 × Bool} (hk : catenaryref06_At x1 x5 = some r) {g w : World} {F : Ch} {ih : IH} (h4 : RSl e92 ih [] p2 c3 x1.f2) (hw : St g w [F] ih) :
    CallsR Try.prog 57 #[.agg #[.int .i64 x1.f0, .int .i64 x1.f1, .slice p2 x1.f2.length c3], .int .i64 x5] w fun v w' => v = .tuple #[.agg #[.int .i64 r.1.f0, .int .i64 r.1.f1], .bool r.2] ∧ St g w' [F] ih := by
  refine f_in (vs := [.agg #[.int .i64 x1.f0, .int .i64 x1.f1, .slice p2 x1.f2.length c3], .int .i64 x5]) Try.func57 rfl 16 rfl (by kernel_rfl) [(0, .agg #[.int .i64 x1.f0, .int .i64 x1.f1, .slice p2 x1.f2.length c3]), (1, .int .i64 x5)] (by kernel_rfl) fun a Qf hQ hQn hs => ?_
  refine c_seq ?_
  refine c_region ?_
  refine s_new hs hw [.int .i64 x1.f0, .int .i64 x1.f1, .slice p2 x1.f2.length c3] 41 (fun b => .pointer (some ⟨b, 0, none⟩)) (by kernel_rfl) (fun _ => by kernel_rfl) fun a w b33 hs hw => ?_
  refine s_new hs hw [.int .i64 0, .int .i64 0] 92 (fun b => .pointer (some ⟨b, 0, none⟩)) (by kernel_rfl) (fun _ => by kernel_rfl) fun a w b35 hs hw => ?_
  refine pures hs 1 [1, 2, 4] [(1, .int .i64 x5), (2, .pointer (some ⟨b33, 0, none⟩)), (4, .pointer (some ⟨b35, 0, none⟩))] (by kernel_rfl) fun a hs => ?_
  refine s_end ?_
  refine c_seq ?_
  refine c_seq ?_
  refine c_region ?_
  refine s_load hs (hw.at_ 1 rfl) 0 (by kernel_rfl) (by kernel_rfl) (v := .agg #[.int .i64 x1.f0, .int .i64 x1.f1, .slice p2 x1.f2.length c3]) (by kernel_rfl) fun a hs => ?_
  refine pures hs 1 [1, 2, 4, 6, 7] [(1, .int .i64 x5), (2, .pointer (some ⟨b33, 0, none⟩)), (4, .pointer (some ⟨b35, 0, none⟩)), (6, .agg #[.int .i64 x1.f0, .int .i64 x1.f1, .slice p2 x1.f2.length c3]), (7, .int .i64 x5)] (by kernel_rfl) fun a hs => ?_
  obtain ⟨y39, h40, hk⟩ := bindE hk
  refine s_call hs (by kernel_rfl) (by kernel_rfl) (catenaryref06_Has_s h40 h4 ((hw.pick [0, 1, 2] (by kernel_rfl)).pack 0)) fun a w v hv hs => ?_
  obtain ⟨rfl, hw⟩ := hv
  replace hw := hw.unpack 0 rfl
  refine pures hs 1 [1, 2, 4, 9] [(1, .int .i64 x5), (2, .pointer (some ⟨b33, 0, none⟩)), (4, .pointer (some ⟨b35, 0, none⟩)), (9, .bool (!y39))] (by kernel_rfl) fun a hs => ?_
  refine s_end ?_
  rcases ifbE hk with ⟨h41, hk⟩ | ⟨h41, hk⟩
  · refine c_cond1 hs (by kernel_rfl) (t := (!y39)) (by kernel_rfl) h41 ?_
    refine c_seq ?_
    refine c_region ?_
    refine pures hs 1 [4, 10] [(4, .pointer (some ⟨b35, 0, none⟩)), (10, .agg #[.int .i64 0, .int .i64 0])] (by kernel_rfl) fun a hs => ?_
    refine s_store hs hw 0 rfl 0 (by kernel_rfl) (by kernel_rfl) (v := .agg #[.int .i64 0, .int .i64 0]) (by kernel_rfl) (by kernel_rfl) (by kernel_rfl) (by kernel_rfl) fun a w hs hw => ?_
    refine pures hs 1 [4, 5] [(4, .pointer (some ⟨b35, 0, none⟩)), (5, .bool false)] (by kernel_rfl) fun a hs => ?_
    refine s_end ?_
    refine c_ret ?_
    obtain rfl := someE hk
    refine hQ _ _ (f_retG hs (l := [.cell 4 92, .tmp 5]) (vs := [.agg #[.int .i64 0, .int .i64 0], .bool false]) rfl (⟨res_cell hs (hw.at_ 0 rfl) (by kernel_rfl) (v := .agg #[.int .i64 0, .int .i64 0]) (by kernel_rfl), ⟨res_tmp hs (v := .bool false) (by kernel_rfl), trivial⟩⟩) (by kernel_rfl) ⟨rfl, hw.pick [2] (by kernel_rfl)⟩)
  · refine c_cond0 hs (by kernel_rfl) (t := (!y39)) (by kernel_rfl) h41 ?_
    refine c_skip ?_
    refine c_seq ?_
    refine c_region ?_
    refine pures hs 1 [1, 4, 11] [(1, .int .i64 x5), (4, .pointer (some ⟨b35, 0, none⟩)), (11, .pointer (some ⟨b33, 2, none⟩))] (by kernel_rfl) fun a hs => ?_
    refine s_load hs (hw.at_ 1 rfl) 2 (by kernel_rfl) (by kernel_rfl) (v := .slice p2 x1.f2.length c3) (by kernel_rfl) fun a hs => ?_
    refine pures hs 1 [4, 12, 13] [(4, .pointer (some ⟨b35, 0, none⟩)), (12, .slice p2 x1.f2.length c3), (13, .int .i64 x5)] (by kernel_rfl) fun a hs => ?_
    obtain ⟨x46, h47, hk⟩ := bindE hk
    refine s_index hs h4 (by kernel_rfl) (by kernel_rfl) (k := .i64) (by kernel_rfl) 92 (by kernel_rfl) (by kernel_rfl) h47 fun a r48 cs henc at49 hs => ?_
    obtain rfl := henc
    refine s_load hs (at49 _ (hw.vwAll.nil.anti (Le.refl _))) 0 (by kernel_rfl) (by kernel_rfl) (v := .agg #[.int .i64 x46.f0, .int .i64 x46.f1]) (by kernel_rfl) fun a hs => ?_
    refine s_store hs hw 0 rfl 0 (by kernel_rfl) (by kernel_rfl) (v := .agg #[.int .i64 x46.f0, .int .i64 x46.f1]) (by kernel_rfl) (by kernel_rfl) (by kernel_rfl) (by kernel_rfl) fun a w hs hw => ?_
    refine pures hs 1 [4, 5] [(4, .pointer (some ⟨b35, 0, none⟩)), (5, .bool true)] (by kernel_rfl) fun a hs => ?_
    refine s_end ?_
    refine c_ret ?_
    obtain rfl := someE hk
    refine hQ _ _ (f_retG hs (l := [.cell 4 92, .tmp 5]) (vs := [.agg #[.int .i64 x46.f0, .int .i64 x46.f1], .bool true]) rfl (⟨res_cell hs (hw.at_ 0 rfl) (by kernel_rfl) (v := .agg #[.int .i64 x46.f0, .int .i64 x46.f1]) (by kernel_rfl), ⟨res_tmp hs (v := .bool true) (by kernel_rfl), trivial⟩⟩) (by kernel_rfl) ⟨rfl, hw.pick [2] (by kernel_rfl)⟩)
def bag_Bag_int_At (x3 : Int) (x4 : Int) (x5 : List M102) (x11 : Int) : Option (Int × Bool) :=
  (bag_Bag_int_has x3 x4 x5 x11).bind fun y31 =>
  if (!y31) = true then some (0, false)
  else (ix x5 x11).bind fun x39 =>
  some (x39.f1, true)
theorem bag_Bag_int_At_s {x3 : Int} {x4 : Int} {x5 : List M102} {x11 : Int} {b2 : Nat} {p6 : Option Addr} {c7 : Nat} {d9 : Ch} {r : Int × Bool} (hk : bag_Bag_int_At x3 x4 x5 x11 = some r) {g w : World} {F : Ch} {ih : IH} (h8 : OSl e102 ih p6 c7 x5 d9) (hw : St g w [bx b2 [.int .i64 x3, .int .i64 x4, .slice p6 x5.length c7] 88, d9, F] ih) :
    CallsR Try.prog 24 #[.pointer (some ⟨b2, 0, none⟩), .int .i64 x11] w fun v w' => v = .tuple #[.int .i64 r.1, .bool r.2] ∧ St g w' [bx b2 [.int .i64 x3, .int .i64 x4, .slice p6 x5.length c7] 88, d9, F] ih := by
  refine f_in (vs := [.pointer (some ⟨b2, 0, none⟩), .int .i64 x11]) Try.func24 rfl 20 rfl (by kernel_rfl) [(0, .pointer (some ⟨b2, 0, none⟩)), (1, .int .i64 x11)] (by kernel_rfl) fun a Qf hQ hQn hs => ?_
  refine c_seq ?_
  refine c_region ?_
  refine pures hs 2 [0, 1] [(0, .pointer (some ⟨b2, 0, none⟩)), (1, .int .i64 x11)] (by kernel_rfl) fun a hs => ?_
  refine s_end ?_
  refine c_seq ?_
  refine c_seq ?_
  refine c_region ?_
  refine pures hs 2 [0, 1, 7, 8] [(0, .pointer (some ⟨b2, 0, none⟩)), (1, .int .i64 x11), (7, .pointer (some ⟨b2, 0, none⟩)), (8, .int .i64 x11)] (by kernel_rfl) fun a hs => ?_
  obtain ⟨y31, h32, hk⟩ := bindE hk
  refine s_call hs (by kernel_rfl) (by kernel_rfl) (bag_Bag_int_has_s h32 h8 ((hw.pick [0, 1, 2] (by kernel_rfl)).pack 2)) fun a w v hv hs => ?_
  obtain ⟨rfl, hw⟩ := hv
  replace hw := hw.unpack 2 rfl
  refine pures hs 1 [0, 1, 10] [(0, .pointer (some ⟨b2, 0, none⟩)), (1, .int .i64 x11), (10, .bool (!y31))] (by kernel_rfl) fun a hs => ?_
  refine s_end ?_
  rcases ifbE hk with ⟨h33, hk⟩ | ⟨h33, hk⟩
  · refine c_cond1 hs (by kernel_rfl) (t := (!y31)) (by kernel_rfl) h33 ?_
    refine c_seq ?_
    refine c_region ?_
    refine pures hs 1 [6] [(6, .int .i64 0)] (by kernel_rfl) fun a hs => ?_
    refine s_end ?_
    refine c_seq ?_
    refine c_region ?_
    refine pures hs 3 [4, 5] [(4, .int .i64 0), (5, .bool false)] (by kernel_rfl) fun a hs => ?_
    refine s_end ?_
    refine c_ret ?_
    obtain rfl := someE hk
    refine hQ _ _ (f_retN hs [.tmp 4, .tmp 5] rfl [.int .i64 0, .bool false] (by kernel_rfl) (by kernel_rfl) ⟨rfl, hw.pick [0, 1, 2] (by kernel_rfl)⟩)
  · refine c_cond0 hs (by kernel_rfl) (t := (!y31)) (by kernel_rfl) h33 ?_
    refine c_skip ?_
    refine c_seq ?_
    refine c_region ?_
    refine pures hs 3 [1, 14] [(1, .int .i64 x11), (14, .pointer (some ⟨b2, 2, none⟩))] (by kernel_rfl) fun a hs => ?_
    refine s_load hs (hw.at_ 0 rfl) 2 (by kernel_rfl) (by kernel_rfl) (v := .slice p6 x5.length c7) (by kernel_rfl) fun a hs => ?_
    refine pures hs 1 [15, 16] [(15, .slice p6 x5.length c7), (16, .int .i64 x11)] (by kernel_rfl) fun a hs => ?_
    obtain ⟨x39, h40, hk⟩ := bindE hk
    refine s_indexO hs h8 (by kernel_rfl) (by kernel_rfl) (k := .i64) (by kernel_rfl) 102 (by kernel_rfl) (by kernel_rfl) h40 fun a r41 cs henc at42 h43 hs => ?_
    obtain rfl := henc
    refine pures hs 1 [18] [(18, .pointer (some (r41.add 1)))] (by kernel_rfl) fun a hs => ?_
    refine s_load hs (at42 _ ((hw.vw 1 rfl).anti (Le.refl _))) 1 (by kernel_rfl) (by kernel_rfl) (v := .int .i64 x39.f1) (by kernel_rfl) fun a hs => ?_
    refine pures hs 2 [4, 5] [(4, .int .i64 x39.f1), (5, .bool true)] (by kernel_rfl) fun a hs => ?_
    refine s_end ?_
    refine c_ret ?_
    obtain rfl := someE hk
    refine hQ _ _ (f_retN hs [.tmp 4, .tmp 5] rfl [.int .i64 x39.f1, .bool true] (by kernel_rfl) (by kernel_rfl) ⟨rfl, hw.pick [0, 1, 2] (by kernel_rfl)⟩)
def slices_Delete_bag_item_int_bag_item_int (x1 : List M102) (x2 : Int) (x3 : Int) : Option (List M102) :=
  delS x1 x2 x3
theorem slices_Delete_bag_item_int_bag_item_int_s {x1 : List M102} {x2 : Int} {x3 : Int} {p4 : Option Addr} {c5 : Nat} {d6 : Ch} {r : List M102} (hk : slices_Delete_bag_item_int_bag_item_int x1 x2 x3 = some r) {g w : World} {F : Ch} {ih : IH} (h7 : OSl e102 ih p4 c5 x1 d6) (hw : St g w [d6, F] ih) :
    CallsR Try.prog 64 #[.slice p4 x1.length c5, .int .i64 x2, .int .i64 x3] w fun v w' => ∃ (p : Option Addr) (c : Nat) (d : Ch), v = .slice p r.length c ∧ St g w' [d, F] ih ∧ OSl e102 ih p c r d := by
  obtain ⟨hi0, hij, hjl, rfl⟩ := delE hk
  rcases p4 with _ | q
  · rcases h7 with ⟨_, rfl, rfl, rfl⟩ | ⟨_, _, h, _⟩
    · simp only [List.length_nil] at hjl
      obtain rfl : x2 = 0 := by omega
      obtain rfl : x3 = 0 := by omega
      refine f_in (vs := [.slice none 0 0, .int .i64 0, .int .i64 0]) Try.func64 rfl 33 rfl (by kernel_rfl) [(0, .slice none 0 0), (1, .int .i64 0), (2, .int .i64 0)] (by kernel_rfl) fun a Qf hQ hQn hs => ?_
      refine c_seq ?_
      refine c_region ?_
      refine pures hs 1 [0, 1, 2] [(0, .slice none 0 0), (1, .int .i64 0), (2, .int .i64 0)] (by kernel_rfl) fun a hs => ?_
      refine s_end ?_
      refine c_seq ?_
      refine c_region ?_
      refine pures hs 5 [0, 1, 2, 8, 9, 10, 12] [(0, .slice none 0 0), (1, .int .i64 0), (2, .int .i64 0), (8, .slice none 0 0), (9, .int .i64 0), (10, .int .i64 0), (12, .int .i64 0)] (by kernel_rfl) fun a hs => ?_
      refine s_sliceX hs (by kernel_rfl) (by kernel_rfl) 102 (sz := 2) (p := none) (len := 0) (cap := 0) (by kernel_rfl) (by kernel_rfl) (by kernel_rfl) (l := 0) (h := 0) (m := 0) (by kernel_rfl) (by kernel_rfl) (by kernel_rfl) (Int.le_refl _) (Int.le_refl _) (Int.le_refl _) (Int.le_refl _) (v := .slice none 0 0) rfl fun a hs => ?_
      refine s_end ?_
      refine c_seq ?_
      refine c_seq ?_
      refine c_region ?_
      refine pures hs 3 [0, 1, 2, 16] [(0, .slice none 0 0), (1, .int .i64 0), (2, .int .i64 0), (16, .bool true)] (by kernel_rfl) fun a hs => ?_
      refine s_end ?_
      refine c_condT hs (by kernel_rfl) (by kernel_rfl) ?_
      refine c_seq ?_
      refine c_region ?_
      refine pures hs 2 [6] [(6, .slice none 0 0)] (by kernel_rfl) fun a hs => ?_
      refine s_end ?_
      refine c_ret ?_
      refine hQ _ _ (f_ret1 hs rfl (v := .slice none 0 0) (by kernel_rfl) ⟨none, 0, [], rfl, hw.pick [0, 1] (by kernel_rfl), OSl.nil _ _⟩)
    · cases h
  · obtain ⟨b, hb⟩ : ∃ b, q = ⟨b, 0, none⟩ := by rcases h7 with ⟨h, _⟩ | ⟨b, _, h, _⟩ <;> cases h <;> exact ⟨_, rfl⟩
    subst hb
    obtain ⟨cur, rfl, hxc, hcm, hcs, hH⟩ := h7.open1
    have ho := h7
    have hys : (x1.take x2.toNat ++ x1.drop x3.toNat).length = x2.toNat + (x1.length - x3.toNat) := by rw [List.length_append, List.length_take, List.length_drop]; omega
    have hq : (if (x2 == x3) = true then some () else some () : Option Unit) = some () := ifU
    refine f_in (vs := [.slice (some ⟨b, 0, none⟩) x1.length c5, .int .i64 x2, .int .i64 x3]) Try.func64 rfl 33 rfl (by kernel_rfl) [(0, .slice (some ⟨b, 0, none⟩) x1.length c5), (1, .int .i64 x2), (2, .int .i64 x3)] (by kernel_rfl) fun a Qf hQ hQn hs => ?_
    refine c_seq ?_
    refine c_region ?_
    refine pures hs 1 [0, 1, 2] [(0, .slice (some ⟨b, 0, none⟩) x1.length c5), (1, .int .i64 x2), (2, .int .i64 x3)] (by kernel_rfl) fun a hs => ?_
    refine s_end ?_
    refine c_seq ?_
    refine c_region ?_
    refine pures hs 5 [0, 1, 2, 8, 9, 10, 12] [(0, .slice (some ⟨b, 0, none⟩) x1.length c5), (1, .int .i64 x2), (2, .int .i64 x3), (8, .slice (some ⟨b, 0, none⟩) x1.length c5), (9, .int .i64 x2), (10, .int .i64 x3), (12, .int .i64 ((x1.length : Nat) : Int))] (by kernel_rfl) fun a hs => ?_
    refine s_sliceX hs (by kernel_rfl) (by kernel_rfl) 102 (sz := 2) (p := (some ⟨b, 0, none⟩)) (len := x1.length) (cap := c5) (by kernel_rfl) (by kernel_rfl) (by kernel_rfl) (l := x2) (h := x3) (m := (x1.length : Int)) (by kernel_rfl) (by kernel_rfl) (by kernel_rfl) hi0 hij hjl (by omega) (v := .slice (if x1.length = x2.toNat then (some ⟨b, 0, none⟩ : Option Addr) else (some ⟨b, 0, none⟩ : Option Addr).map (·.add (x2.toNat * e102.sz))) (x3.toNat - x2.toNat) (x1.length - x2.toNat)) rfl fun a hs => ?_
    refine s_end ?_
    refine c_seq ?_
    refine c_seq ?_
    refine c_region ?_
    refine pures hs 3 [0, 1, 2, 16] [(0, .slice (some ⟨b, 0, none⟩) x1.length c5), (1, .int .i64 x2), (2, .int .i64 x3), (16, .bool (x2 == x3))] (by kernel_rfl) fun a hs => ?_
    refine s_end ?_
    rcases ifbE hq with ⟨h10, hq⟩ | ⟨h10, hq⟩
    · refine c_cond1 hs (by kernel_rfl) (t := (x2 == x3)) (by kernel_rfl) h10 ?_
      refine c_seq ?_
      refine c_region ?_
      refine pures hs 2 [6] [(6, .slice (some ⟨b, 0, none⟩) x1.length c5)] (by kernel_rfl) fun a hs => ?_
      refine s_end ?_
      refine c_ret ?_
      have hr : x1.take x2.toNat ++ x1.drop x3.toNat = x1 := by rw [show x2 = x3 by simpa using h10, List.take_append_drop]
      refine hQ _ _ (f_ret1 hs rfl (v := .slice (some ⟨b, 0, none⟩) x1.length c5) (by kernel_rfl) ⟨some ⟨b, 0, none⟩, c5, _, by rw [hr], hw.pick [0, 1] (by kernel_rfl), by rw [hr]; exact ho⟩)
    · refine c_cond0 hs (by kernel_rfl) (t := (x2 == x3)) (by kernel_rfl) h10 ?_
      refine c_skip ?_
      refine c_seq ?_
      refine c_region ?_
      refine pures hs 3 [0, 1, 2, 7] [(0, .slice (some ⟨b, 0, none⟩) x1.length c5), (1, .int .i64 x2), (2, .int .i64 x3), (7, .int .i64 ((x1.length : Nat) : Int))] (by kernel_rfl) fun a hs => ?_
      refine s_end ?_
      refine c_seq ?_
      obtain ⟨S11, hS11, kS11⟩ := mkSX (X := [([6], [(b, .cells cur e102.ty (0, 0))]), ([], F)]) (ih := ih) (K := [6]) rfl
      refine c_drawK (by kernel_rfl) (N := 8) rfl S11 ?_
      have hw := hw.drew
      have hS : S11 (Array.replicate 8 false) _ := SX_now hS11 (hw.vws [0, 1]) (by kernel_rfl)
      refine d_pures (fuel := 6) kS11 hs hS [0, 1] [0, 1, 2, 7, 20, 21] [(0, .slice (some ⟨b, 0, none⟩) x1.length c5), (1, .int .i64 x2), (2, .int .i64 x3), (7, .int .i64 ((x1.length : Nat) : Int)), (20, .slice (some ⟨b, 0, none⟩) x1.length c5), (21, .int .i64 x2)] (by kernel_rfl) fun a hs hS => ?_
      refine d_sliceX (fuel := 5) kS11 hs hS 2 rfl (by kernel_rfl) (by kernel_rfl) (by kernel_rfl) 102 (sz := 2) (p := (some ⟨b, 0, none⟩)) (len := x1.length) (cap := c5) (by kernel_rfl) (by kernel_rfl) (by kernel_rfl) (l' := 0) (h := x2) (m := (c5 : Int)) (by kernel_rfl) (by kernel_rfl) (by kernel_rfl) (Int.le_refl _) hi0 (by omega) (Int.le_refl _) (v := .slice (some ⟨b, 0, none⟩) x2.toNat c5) (by rw [part0]; rfl) fun a hs hS => ?_
      refine d_pures (fuel := 3) kS11 hs hS [3, 4] [0, 1, 2, 7, 20, 21, 22, 23, 24] [(0, .slice (some ⟨b, 0, none⟩) x1.length c5), (1, .int .i64 x2), (2, .int .i64 x3), (7, .int .i64 ((x1.length : Nat) : Int)), (20, .slice (some ⟨b, 0, none⟩) x1.length c5), (21, .int .i64 x2), (22, .slice (some ⟨b, 0, none⟩) x2.toNat c5), (23, .slice (some ⟨b, 0, none⟩) x1.length c5), (24, .int .i64 x3)] (by kernel_rfl) fun a hs hS => ?_
      refine d_sliceX (fuel := 2) kS11 hs hS 5 rfl (by kernel_rfl) (by kernel_rfl) (by kernel_rfl) 102 (sz := 2) (p := (some ⟨b, 0, none⟩)) (len := x1.length) (cap := c5) (by kernel_rfl) (by kernel_rfl) (by kernel_rfl) (l' := x3) (h := (x1.length : Int)) (m := (c5 : Int)) (by kernel_rfl) (by kernel_rfl) (by kernel_rfl) (by omega) hjl (by omega) (Int.le_refl _) (v := .slice (if c5 = x3.toNat then (some ⟨b, 0, none⟩ : Option Addr) else (some ⟨b, 0, none⟩ : Option Addr).map (·.add (x3.toNat * e102.sz))) (x1.length - x3.toNat) (c5 - x3.toNat)) rfl fun a hs hS => ?_
      refine d_all (fuel := 1) (rs := [6]) (by kernel_rfl) (by simp) (all1 ?_)
      refine o_appD hs rfl hw appT86 0 rfl ho (by kernel_rfl) (i := x2.toNat) (j := x3.toNat) (by omega) (by omega) (by kernel_rfl) (by kernel_rfl) fun a w cur2 ho hw hs => ?_
      refine dg_next (SX_now hS11 ((hw.vws [1]).anti (Le.refl _)) (by kernel_rfl)) fun hS => ?_
      refine d_pures (fuel := 0) kS11 hs hS [7] [0, 1, 2, 7, 20, 21, 22, 23, 24, 25, 26] [(0, .slice (some ⟨b, 0, none⟩) (x2.toNat + (x1.length - x3.toNat)) c5), (1, .int .i64 x2), (2, .int .i64 x3), (7, .int .i64 ((x1.length : Nat) : Int)), (20, .slice (some ⟨b, 0, none⟩) x1.length c5), (21, .int .i64 x2), (22, .slice (some ⟨b, 0, none⟩) x2.toNat c5), (23, .slice (some ⟨b, 0, none⟩) x1.length c5), (24, .int .i64 x3), (25, .slice (if c5 = x3.toNat then (some ⟨b, 0, none⟩ : Option Addr) else (some ⟨b, 0, none⟩ : Option Addr).map (·.add (x3.toNat * e102.sz))) (x1.length - x3.toNat) (c5 - x3.toNat)), (26, .slice (some ⟨b, 0, none⟩) (x2.toNat + (x1.length - x3.toNat)) c5)] (by kernel_rfl) fun a hs hS => ?_
      refine d_done (by kernel_rfl) ?_
      refine c_seq ?_
      refine c_region ?_
      refine pures hs 4 [0, 27, 29, 30] [(0, .slice (some ⟨b, 0, none⟩) (x2.toNat + (x1.length - x3.toNat)) c5), (27, .slice (some ⟨b, 0, none⟩) (x2.toNat + (x1.length - x3.toNat)) c5), (29, .int .i64 (((x2.toNat + (x1.length - x3.toNat)) : Nat) : Int)), (30, .int .i64 ((x1.length : Nat) : Int))] (by kernel_rfl) fun a hs => ?_
      refine s_sliceX hs (by kernel_rfl) (by kernel_rfl) 102 (sz := 2) (p := (some ⟨b, 0, none⟩)) (len := (x2.toNat + (x1.length - x3.toNat))) (cap := c5) (by kernel_rfl) (by kernel_rfl) (by kernel_rfl) (l := (((x2.toNat + (x1.length - x3.toNat)) : Nat) : Int)) (h := (x1.length : Int)) (m := (c5 : Int)) (by kernel_rfl) (by kernel_rfl) (by kernel_rfl) (by omega) (by omega) (by omega) (Int.le_refl _) (v := .slice (if c5 = (x1.take x2.toNat ++ x1.drop x3.toNat).length then (some ⟨b, 0, none⟩ : Option Addr) else (some ⟨b, 0, none⟩ : Option Addr).map (·.add ((x1.take x2.toNat ++ x1.drop x3.toNat).length * e102.sz))) (x1.length - (x1.take x2.toNat ++ x1.drop x3.toNat).length) (c5 - (x1.take x2.toNat ++ x1.drop x3.toNat).length)) (by rw [hys]; rfl) fun a hs => ?_
      refine s_clearD hs hw appT86 (zB (by kernel_rfl)) 0 rfl ho (by kernel_rfl) (m := x1.length) (by have hne := h10; simp at hne; rw [hys]; omega) hxc (by kernel_rfl) fun a w cur3 ho hw hs => ?_
      refine s_end ?_
      refine c_seq ?_
      refine c_region ?_
      refine pures hs 2 [6] [(6, .slice (some ⟨b, 0, none⟩) (x2.toNat + (x1.length - x3.toNat)) c5)] (by kernel_rfl) fun a hs => ?_
      refine s_end ?_
      refine c_ret ?_
      refine hQ _ _ (f_ret1 hs rfl (v := .slice (some ⟨b, 0, none⟩) (x2.toNat + (x1.length - x3.toNat)) c5) (by kernel_rfl) ⟨some ⟨b, 0, none⟩, c5, _, by rw [hys], hw.pick [0, 1] (by kernel_rfl), ho⟩)
def bag_Bag_int_Take_r2 (y60 : Int × Bool) (x77 : List M102) : Option (Int × Bool × (List M102)) :=
  some (y60.1, y60.2, x77)
def bag_Bag_int_Take (x3 : Int) (x4 : Int) (x5 : List M102) (x11 : Int) : Option (Int × Bool × (List M102)) :=
  (bag_Bag_int_At x3 x4 x5 x11).bind fun y60 =>
  (if y60.2 = true then (
      (slices_Delete_bag_item_int_bag_item_int x5 x11 (IntKind.i64.wrap (x11 + 1))).bind fun y94 =>
      some y94)
    else some x5 : Option (List M102)).bind fun s101 => bag_Bag_int_Take_r2 y60 s101
theorem bag_Bag_int_Take_s {x3 : Int} {x4 : Int} {x5 : List M102} {x11 : Int} {b2 : Nat} {p6 : Option Addr} {c7 : Nat} {d9 : Ch} {r : Int × Bool × (List M102)} (hk : bag_Bag_int_Take x3 x4 x5 x11 = some r) {g w : World} {F : Ch} {ih : IH} (h8 : OSl e102 ih p6 c7 x5 d9) (hw : St g w [bx b2 [.int .i64 x3, .int .i64 x4, .slice p6 x5.length c7] 88, d9, F] ih) :
    CallsR Try.prog 23 #[.pointer (some ⟨b2, 0, none⟩), .int .i64 x11] w fun v w' => ∃ (p102 : Option Addr) (c103 : Nat) (d104 : Ch), v = .tuple #[.int .i64 r.1, .bool r.2.1] ∧ St g w' [bx b2 [.int .i64 x3, .int .i64 x4, .slice p102 r.2.2.length c103] 88, d104, F] ih ∧ OSl e102 ih p102 c103 r.2.2 d104 := by
  refine f_in (vs := [.pointer (some ⟨b2, 0, none⟩), .int .i64 x11]) Try.func23 rfl 28 rfl (by kernel_rfl) [(0, .pointer (some ⟨b2, 0, none⟩)), (1, .int .i64 x11)] (by kernel_rfl) fun a Qf hQ hQn hs => ?_
  refine c_seq ?_
  refine c_region ?_
  refine pures hs 2 [0, 1] [(0, .pointer (some ⟨b2, 0, none⟩)), (1, .int .i64 x11)] (by kernel_rfl) fun a hs => ?_
  refine s_end ?_
  refine c_seq ?_
  refine c_region ?_
  refine pures hs 2 [0, 1, 9, 10] [(0, .pointer (some ⟨b2, 0, none⟩)), (1, .int .i64 x11), (9, .pointer (some ⟨b2, 0, none⟩)), (10, .int .i64 x11)] (by kernel_rfl) fun a hs => ?_
  obtain ⟨y60, h61, hk⟩ := bindE hk
  refine s_call hs (by kernel_rfl) (by kernel_rfl) (bag_Bag_int_At_s h61 h8 ((hw.pick [0, 1, 2] (by kernel_rfl)).pack 2)) fun a w v hv hs => ?_
  obtain ⟨rfl, hw⟩ := hv
  replace hw := hw.unpack 2 rfl
  refine pures hs 5 [0, 1, 6, 7] [(0, .pointer (some ⟨b2, 0, none⟩)), (1, .int .i64 x11), (6, .int .i64 y60.1), (7, .bool y60.2)] (by kernel_rfl) fun a hs => ?_
  refine s_end ?_
  obtain ⟨y83, hx84, hk⟩ := bindE hk
  obtain ⟨J85, hJ85⟩ : ∃ J : Act → World → Prop, ∀ a w, J a w ↔ (∃ (x77 : List M102) (p78 : Option Addr) (c79 : Nat) (d81 : Ch), bag_Bag_int_Take_r2 y60 x77 = some r ∧ Sees a 28 [(6, .int .i64 y60.1), (7, .bool y60.2)] ∧ St g w [bx b2 [.int .i64 x3, .int .i64 x4, .slice p78 x77.length c79] 88, d81, F] ih ∧ OSl e102 ih p78 c79 x77 d81) := ⟨_, fun _ _ => Iff.rfl⟩
  refine c_seqJ J85 ?_ ?_
  · refine c_seq ?_
    refine c_region ?_
    refine pures hs 1 [0, 1, 6, 7, 14] [(0, .pointer (some ⟨b2, 0, none⟩)), (1, .int .i64 x11), (6, .int .i64 y60.1), (7, .bool y60.2), (14, .bool y60.2)] (by kernel_rfl) fun a hs => ?_
    refine s_end ?_
    rcases ifbE hx84 with ⟨h86, hx84⟩ | ⟨h86, hx84⟩
    · refine c_cond1 hs (by kernel_rfl) (t := y60.2) (by kernel_rfl) h86 ?_
      refine c_region ?_
      refine pures hs 4 [1, 6, 7, 15, 18] [(1, .int .i64 x11), (6, .int .i64 y60.1), (7, .bool y60.2), (15, .pointer (some ⟨b2, 0, none⟩)), (18, .pointer (some ⟨b2, 2, none⟩))] (by kernel_rfl) fun a hs => ?_
      refine s_load hs (hw.at_ 0 rfl) 2 (by kernel_rfl) (by kernel_rfl) (v := .slice p6 x5.length c7) (by kernel_rfl) fun a hs => ?_
      refine pures hs 3 [6, 7, 15, 19, 20, 22] [(6, .int .i64 y60.1), (7, .bool y60.2), (15, .pointer (some ⟨b2, 0, none⟩)), (19, .slice p6 x5.length c7), (20, .int .i64 x11), (22, .int .i64 (IntKind.i64.wrap (x11 + 1)))] (by kernel_rfl) fun a hs => ?_
      obtain ⟨y94, h95, hx84⟩ := bindE hx84
      refine s_call hs (by kernel_rfl) (by kernel_rfl) (slices_Delete_bag_item_int_bag_item_int_s h95 h8 ((hw.pick [1, 0, 2] (by kernel_rfl)).pack 1)) fun a w v hv hs => ?_
      obtain ⟨p96, c97, d99, rfl, hw, h98⟩ := hv
      replace hw := hw.unpack 1 rfl
      refine pures hs 2 [6, 7, 23, 25] [(6, .int .i64 y60.1), (7, .bool y60.2), (23, .slice p96 y94.length c97), (25, .pointer (some ⟨b2, 2, none⟩))] (by kernel_rfl) fun a hs => ?_
      refine s_store hs hw 1 rfl 2 (by kernel_rfl) (by kernel_rfl) (v := .slice p96 y94.length c97) (by kernel_rfl) (by kernel_rfl) (by kernel_rfl) (by kernel_rfl) fun a w hs hw => ?_
      refine s_end ?_
      obtain rfl := someE hx84
      exact (hJ85 _ _).2 ⟨y94, p96, c97, d99, hk, hs.cast [6, 7] (by kernel_rfl), hw.pick [1, 0, 2] (by kernel_rfl), h98⟩
    · refine c_cond0 hs (by kernel_rfl) (t := y60.2) (by kernel_rfl) h86 ?_
      refine c_skip ?_
      obtain rfl := someE hx84
      exact (hJ85 _ _).2 ⟨x5, p6, c7, d9, hk, hs.cast [6, 7] (by kernel_rfl), hw.pick [0, 1, 2] (by kernel_rfl), h8⟩
  · intro a w hh
    obtain ⟨x77, p78, c79, d81, hk, hs, hw, h80⟩ := (hJ85 _ _).1 hh
    refine c_seq ?_
    refine c_region ?_
    refine pures hs 4 [4, 5] [(4, .int .i64 y60.1), (5, .bool y60.2)] (by kernel_rfl) fun a hs => ?_
    refine s_end ?_
    refine c_ret ?_
    obtain rfl := someE hk
    refine hQ _ _ (f_retN hs [.tmp 4, .tmp 5] rfl [.int .i64 y60.1, .bool y60.2] (by kernel_rfl) (by kernel_rfl) ⟨p78, c79, d81, rfl, hw.pick [0, 1, 2] (by kernel_rfl), h80⟩)
def catenaryref06_Take_r2 (x1 : M41) (x166 : List M92) : Option M41 :=
  some (M41.mk x1.f0 x1.f1 x166)
def catenaryref06_Take (x1 : M41) (x5 : Int) : Option M41 :=
  (catenaryref06_Has x1 x5).bind fun y114 =>
  if (!y114) = true then some x1
  else ((sl x1.f2 0 x5).bind fun x178 =>
    (sl x1.f2 (IntKind.i64.wrap (x5 + 1)) (x1.f2.length : Int)).bind fun x183 =>
    (app ([]) x178).bind fun x190 =>
    (app x190 x183).bind fun x196 =>
    some x196 : Option (List M92)).bind fun s202 => catenaryref06_Take_r2 x1 s202
theorem catenaryref06_Take_s {x1 : M41} {x5 : Int} {p2 : Option Addr} {c3 : Nat} {r : M41} (hk : catenaryref06_Take x1 x5 = some r) {g w : World} {F : Ch} {ih : IH} (h4 : RSl e92 ih [] p2 c3 x1.f2) (hw : St g w [F] ih) :
    CallsR Try.prog 58 #[.agg #[.int .i64 x1.f0, .int .i64 x1.f1, .slice p2 x1.f2.length c3], .int .i64 x5] w fun v w' => ∃ (ih' : IH) (p203 : Option Addr) (c204 : Nat), v = .agg #[.int .i64 r.f0, .int .i64 r.f1, .slice p203 r.f2.length c204] ∧ St g w' [F] ih' ∧ Le ih ih' ∧ RSl e92 ih' [] p203 c204 r.f2 := by
  refine f_in (vs := [.agg #[.int .i64 x1.f0, .int .i64 x1.f1, .slice p2 x1.f2.length c3], .int .i64 x5]) Try.func58 rfl 23 rfl (by kernel_rfl) [(0, .agg #[.int .i64 x1.f0, .int .i64 x1.f1, .slice p2 x1.f2.length c3]), (1, .int .i64 x5)] (by kernel_rfl) fun a Qf hQ hQn hs => ?_
  refine c_seq ?_
  refine c_region ?_
  refine s_new hs hw [.int .i64 x1.f0, .int .i64 x1.f1, .slice p2 x1.f2.length c3] 41 (fun b => .pointer (some ⟨b, 0, none⟩)) (by kernel_rfl) (fun _ => by kernel_rfl) fun a w b108 hs hw => ?_
  refine s_new hs hw [.int .i64 0, .int .i64 0, .slice none 0 0] 41 (fun b => .pointer (some ⟨b, 0, none⟩)) (by kernel_rfl) (fun _ => by kernel_rfl) fun a w b110 hs hw => ?_
  refine s_end ?_
  refine c_seq ?_
  refine c_seq ?_
  refine c_region ?_
  refine s_load hs (hw.at_ 1 rfl) 0 (by kernel_rfl) (by kernel_rfl) (v := .agg #[.int .i64 x1.f0, .int .i64 x1.f1, .slice p2 x1.f2.length c3]) (by kernel_rfl) fun a hs => ?_
  refine pures hs 1 [1, 2, 4, 5, 6] [(1, .int .i64 x5), (2, .pointer (some ⟨b108, 0, none⟩)), (4, .pointer (some ⟨b110, 0, none⟩)), (5, .agg #[.int .i64 x1.f0, .int .i64 x1.f1, .slice p2 x1.f2.length c3]), (6, .int .i64 x5)] (by kernel_rfl) fun a hs => ?_
  obtain ⟨y114, h115, hk⟩ := bindE hk
  refine s_call hs (by kernel_rfl) (by kernel_rfl) (catenaryref06_Has_s h115 h4 ((hw.pick [0, 1, 2] (by kernel_rfl)).pack 0)) fun a w v hv hs => ?_
  obtain ⟨rfl, hw⟩ := hv
  replace hw := hw.unpack 0 rfl
  refine pures hs 1 [1, 2, 4, 8] [(1, .int .i64 x5), (2, .pointer (some ⟨b108, 0, none⟩)), (4, .pointer (some ⟨b110, 0, none⟩)), (8, .bool (!y114))] (by kernel_rfl) fun a hs => ?_
  refine s_end ?_
  rcases ifbE hk with ⟨h116, hk⟩ | ⟨h116, hk⟩
  · refine c_cond1 hs (by kernel_rfl) (t := (!y114)) (by kernel_rfl) h116 ?_
    refine c_seq ?_
    refine c_region ?_
    refine s_load hs (hw.at_ 1 rfl) 0 (by kernel_rfl) (by kernel_rfl) (v := .agg #[.int .i64 x1.f0, .int .i64 x1.f1, .slice p2 x1.f2.length c3]) (by kernel_rfl) fun a hs => ?_
    refine s_store hs hw 0 rfl 0 (by kernel_rfl) (by kernel_rfl) (v := .agg #[.int .i64 x1.f0, .int .i64 x1.f1, .slice p2 x1.f2.length c3]) (by kernel_rfl) (by kernel_rfl) (by kernel_rfl) (by kernel_rfl) fun a w hs hw => ?_
    refine s_end ?_
    refine c_ret ?_
    obtain rfl := someE hk
    refine hQ _ _ (f_retC hs rfl (hw.at_ 0 rfl) (by kernel_rfl) (v := .agg #[.int .i64 x1.f0, .int .i64 x1.f1, .slice p2 x1.f2.length c3]) (by kernel_rfl) ⟨ih, p2, c3, rfl, hw.pick [2] (by kernel_rfl), (Le.refl _), h4⟩)
  · refine c_cond0 hs (by kernel_rfl) (t := (!y114)) (by kernel_rfl) h116 ?_
    refine c_skip ?_
    refine c_seq ?_
    obtain ⟨S117, hS117, kS117⟩ := mkSX (X := [([], bx b110 [.int .i64 0, .int .i64 0, .slice none 0 0] 41), ([12], bx b108 [.int .i64 x1.f0, .int .i64 x1.f1, .slice p2 x1.f2.length c3] 41), ([], F)]) (ih := ih) (K := [12]) rfl
    obtain ⟨y175, hx176, hk⟩ := bindE hk
    obtain ⟨J177, hJ177⟩ : ∃ J : Act → World → Prop, ∀ a w, J a w ↔ (∃ (x166 : List M92) (p167 : Option Addr) (c168 : Nat) (d170 : Ch), catenaryref06_Take_r2 x1 x166 = some r ∧ Sees a 23 [(2, .pointer (some ⟨b108, 0, none⟩)), (4, .pointer (some ⟨b110, 0, none⟩))] ∧ St g w [bx b110 [.int .i64 0, .int .i64 0, .slice none 0 0] 41, bx b108 [.int .i64 x1.f0, .int .i64 x1.f1, .slice p167 x166.length c168] 41, d170, F] ih ∧ OSl e92 ih p167 c168 x166 d170) := ⟨_, fun _ _ => Iff.rfl⟩
    refine c_draw (by kernel_rfl) (N := 13) rfl S117 J177 ?_ ?_
    · have hw := hw.drew
      have hS : S117 (Array.replicate 13 false) _ := SX_now hS117 (hw.vws [0, 1, 2]) (by kernel_rfl)
      refine d_pures (fuel := 12) kS117 hs hS [0] [1, 2, 4, 10] [(1, .int .i64 x5), (2, .pointer (some ⟨b108, 0, none⟩)), (4, .pointer (some ⟨b110, 0, none⟩)), (10, .pointer (some ⟨b108, 2, none⟩))] (by kernel_rfl) fun a hs hS => ?_
      refine d_load (fuel := 11) kS117 hs hS 1 rfl (by kernel_rfl) (SX_box hS117 1 rfl (by kernel_rfl)) 2 (by kernel_rfl) (by kernel_rfl) (v := .slice p2 x1.f2.length c3) (by kernel_rfl) fun a hs hS => ?_
      refine d_pures (fuel := 10) kS117 hs hS [2] [1, 2, 4, 10, 11, 12] [(1, .int .i64 x5), (2, .pointer (some ⟨b108, 0, none⟩)), (4, .pointer (some ⟨b110, 0, none⟩)), (10, .pointer (some ⟨b108, 2, none⟩)), (11, .slice p2 x1.f2.length c3), (12, .int .i64 x5)] (by kernel_rfl) fun a hs hS => ?_
      obtain ⟨x178, h179, hx176⟩ := bindE hx176
      refine d_slice (fuel := 9) kS117 hs hS 3 rfl (by kernel_rfl) h4 (by kernel_rfl) (by kernel_rfl) 92 (by kernel_rfl) (by kernel_rfl) (by kernel_rfl) (by kernel_rfl) (by kernel_rfl) h179 (.inl rfl) fun a p180 c181 h182 hs hS => ?_
      refine d_pures (fuel := 8) kS117 hs hS [5] [1, 2, 4, 10, 11, 12, 13, 15] [(1, .int .i64 x5), (2, .pointer (some ⟨b108, 0, none⟩)), (4, .pointer (some ⟨b110, 0, none⟩)), (10, .pointer (some ⟨b108, 2, none⟩)), (11, .slice p2 x1.f2.length c3), (12, .int .i64 x5), (13, .slice p180 x178.length c181), (15, .pointer (some ⟨b108, 2, none⟩))] (by kernel_rfl) fun a hs hS => ?_
      refine d_load (fuel := 7) kS117 hs hS 6 rfl (by kernel_rfl) (SX_box hS117 1 rfl (by kernel_rfl)) 2 (by kernel_rfl) (by kernel_rfl) (v := .slice p2 x1.f2.length c3) (by kernel_rfl) fun a hs hS => ?_
      refine d_pures (fuel := 5) kS117 hs hS [7, 8] [1, 2, 4, 10, 11, 12, 13, 15, 16, 17, 18] [(1, .int .i64 x5), (2, .pointer (some ⟨b108, 0, none⟩)), (4, .pointer (some ⟨b110, 0, none⟩)), (10, .pointer (some ⟨b108, 2, none⟩)), (11, .slice p2 x1.f2.length c3), (12, .int .i64 x5), (13, .slice p180 x178.length c181), (15, .pointer (some ⟨b108, 2, none⟩)), (16, .slice p2 x1.f2.length c3), (17, .int .i64 x5), (18, .int .i64 (IntKind.i64.wrap (x5 + 1)))] (by kernel_rfl) fun a hs hS => ?_
      obtain ⟨x183, h184, hx176⟩ := bindE hx176
      refine d_slice (fuel := 4) kS117 hs hS 9 rfl (by kernel_rfl) h4 (by kernel_rfl) (by kernel_rfl) 92 (by kernel_rfl) (by kernel_rfl) (by kernel_rfl) (by kernel_rfl) (by kernel_rfl) h184 (.inl rfl) fun a p185 c186 h187 hs hS => ?_
      refine d_all (fuel := 3) (rs := [4]) (by kernel_rfl) (by simp) (all1 ?_)
      replace hw := hw.nil
      obtain ⟨x190, h191, hx176⟩ := bindE hx176
      refine o_appS hs rfl hw (E := e92) appT39 0 rfl (OSl.nil _ _) (by kernel_rfl) (by kernel_rfl) (h182.mono (Le.refl _)) (hw.vwAll.nil.anti (Le.refl _)) (by kernel_rfl) h191 fun a w p192 c193 d194 h195 hw hs => ?_
      refine dg_next (SX_now hS117 ((hw.vws [1, 2, 3]).anti (Le.refl _)) (by kernel_rfl)) fun hS => ?_
      refine d_all (fuel := 2) (rs := [10]) (by kernel_rfl) (by simp) (all1 ?_)
      obtain ⟨x196, h197, hx176⟩ := bindE hx176
      refine o_appS hs rfl hw (E := e92) appT39 0 rfl h195 (by kernel_rfl) (by kernel_rfl) (h187.mono (Le.refl _)) (hw.vwAll.nil.anti (Le.refl _)) (by kernel_rfl) h197 fun a w p198 c199 d200 h201 hw hs => ?_
      refine dg_next (SX_now hS117 ((hw.vws [1, 2, 3]).anti (Le.refl _)) (by kernel_rfl)) fun hS => ?_
      refine d_pures (fuel := 1) kS117 hs hS [11] [1, 2, 4, 10, 11, 12, 13, 15, 16, 17, 18, 19, 20, 21] [(1, .int .i64 x5), (2, .pointer (some ⟨b108, 0, none⟩)), (4, .pointer (some ⟨b110, 0, none⟩)), (10, .pointer (some ⟨b108, 2, none⟩)), (11, .slice p2 x1.f2.length c3), (12, .int .i64 x5), (13, .slice p180 x178.length c181), (15, .pointer (some ⟨b108, 2, none⟩)), (16, .slice p2 x1.f2.length c3), (17, .int .i64 x5), (18, .int .i64 (IntKind.i64.wrap (x5 + 1))), (19, .slice p185 x183.length c186), (20, .slice p198 x196.length c199), (21, .pointer (some ⟨b108, 2, none⟩))] (by kernel_rfl) fun a hs hS => ?_
      refine d_all (fuel := 0) (rs := [12]) (by kernel_rfl) (by simp) (all1 ?_)
      refine o_store hs hw rfl 2 rfl 2 (by kernel_rfl) (by kernel_rfl) (v := .slice p198 x196.length c199) (by kernel_rfl) (by kernel_rfl) (by kernel_rfl) (by kernel_rfl) fun a w hs hw => ?_
      refine dg_next (SX_now hS117 ((hw.vws [1, 3]).anti (Le.refl _)) (by kernel_rfl)) fun hS => ?_
      refine d_done (by kernel_rfl) ?_
      obtain rfl := someE hx176
      exact (hJ177 _ _).2 ⟨x196, p198, c199, d200, hk, hs.cast [2, 4] (by kernel_rfl), hw.pick [1, 2, 0, 3] (by kernel_rfl), h201⟩
    · intro a w hh
      obtain ⟨x166, p167, c168, d170, hk, hs, hw, h169⟩ := (hJ177 _ _).1 hh
      refine c_seq ?_
      refine c_region ?_
      refine s_load hs (hw.at_ 1 rfl) 0 (by kernel_rfl) (by kernel_rfl) (v := .agg #[.int .i64 x1.f0, .int .i64 x1.f1, .slice p167 x166.length c168]) (by kernel_rfl) fun a hs => ?_
      refine s_store hs hw 0 rfl 0 (by kernel_rfl) (by kernel_rfl) (v := .agg #[.int .i64 x1.f0, .int .i64 x1.f1, .slice p167 x166.length c168]) (by kernel_rfl) (by kernel_rfl) (by kernel_rfl) (by kernel_rfl) fun a w hs hw => ?_
      refine s_end ?_
      refine c_ret ?_
      obtain ⟨ih172, hle173, hw, h174⟩ := (hw.pick [2, 0, 1, 3] (by kernel_rfl)).fz (h169.mono (Le.refl _))
      obtain rfl := someE hk
      refine hQ _ _ (f_retC hs rfl (hw.at_ 0 rfl) (by kernel_rfl) (v := .agg #[.int .i64 x1.f0, .int .i64 x1.f1, .slice p167 x166.length c168]) (by kernel_rfl) ⟨ih172, p167, c168, rfl, hw.pick [2] (by kernel_rfl), hle173, h174⟩)
def catenaryref06_Set (x1 : M41) (x5 : Int) (x6 : Int) : Option M41 :=
  (catenaryref06_Has x1 x5).bind fun y66 =>
  if (!y66) = true then some x1
  else (app ([]) x1.f2).bind fun x79 =>
  (ix x79 x5).bind fun x94 =>
  some (M41.mk x1.f0 x1.f1 (x79.set x5.toNat (M92.mk x94.f0 x6)))
theorem catenaryref06_Set_s {x1 : M41} {x5 : Int} {x6 : Int} {p2 : Option Addr} {c3 : Nat} {r : M41} (hk : catenaryref06_Set x1 x5 x6 = some r) {g w : World} {F : Ch} {ih : IH} (h4 : RSl e92 ih [] p2 c3 x1.f2) (hw : St g w [F] ih) :
    CallsR Try.prog 59 #[.agg #[.int .i64 x1.f0, .int .i64 x1.f1, .slice p2 x1.f2.length c3], .int .i64 x5, .int .i64 x6] w fun v w' => ∃ (ih' : IH) (p106 : Option Addr) (c107 : Nat), v = .agg #[.int .i64 r.f0, .int .i64 r.f1, .slice p106 r.f2.length c107] ∧ St g w' [F] ih' ∧ Le ih ih' ∧ RSl e92 ih' [] p106 c107 r.f2 := by
  refine f_in (vs := [.agg #[.int .i64 x1.f0, .int .i64 x1.f1, .slice p2 x1.f2.length c3], .int .i64 x5, .int .i64 x6]) Try.func59 rfl 24 rfl (by kernel_rfl) [(0, .agg #[.int .i64 x1.f0, .int .i64 x1.f1, .slice p2 x1.f2.length c3]), (1, .int .i64 x5), (2, .int .i64 x6)] (by kernel_rfl) fun a Qf hQ hQn hs => ?_
  refine c_seq ?_
  refine c_region ?_
  refine s_new hs hw [.int .i64 x1.f0, .int .i64 x1.f1, .slice p2 x1.f2.length c3] 41 (fun b => .pointer (some ⟨b, 0, none⟩)) (by kernel_rfl) (fun _ => by kernel_rfl) fun a w b60 hs hw => ?_
  refine s_new hs hw [.int .i64 0, .int .i64 0, .slice none 0 0] 41 (fun b => .pointer (some ⟨b, 0, none⟩)) (by kernel_rfl) (fun _ => by kernel_rfl) fun a w b62 hs hw => ?_
  refine s_end ?_
  refine c_seq ?_
  refine c_seq ?_
  refine c_region ?_
  refine s_load hs (hw.at_ 1 rfl) 0 (by kernel_rfl) (by kernel_rfl) (v := .agg #[.int .i64 x1.f0, .int .i64 x1.f1, .slice p2 x1.f2.length c3]) (by kernel_rfl) fun a hs => ?_
  refine pures hs 1 [1, 2, 3, 6, 8, 9] [(1, .int .i64 x5), (2, .int .i64 x6), (3, .pointer (some ⟨b60, 0, none⟩)), (6, .pointer (some ⟨b62, 0, none⟩)), (8, .agg #[.int .i64 x1.f0, .int .i64 x1.f1, .slice p2 x1.f2.length c3]), (9, .int .i64 x5)] (by kernel_rfl) fun a hs => ?_
  obtain ⟨y66, h67, hk⟩ := bindE hk
  refine s_call hs (by kernel_rfl) (by kernel_rfl) (catenaryref06_Has_s h67 h4 ((hw.pick [0, 1, 2] (by kernel_rfl)).pack 0)) fun a w v hv hs => ?_
  obtain ⟨rfl, hw⟩ := hv
  replace hw := hw.unpack 0 rfl
  refine pures hs 1 [1, 2, 3, 6, 11] [(1, .int .i64 x5), (2, .int .i64 x6), (3, .pointer (some ⟨b60, 0, none⟩)), (6, .pointer (some ⟨b62, 0, none⟩)), (11, .bool (!y66))] (by kernel_rfl) fun a hs => ?_
  refine s_end ?_
  rcases ifbE hk with ⟨h68, hk⟩ | ⟨h68, hk⟩
  · refine c_cond1 hs (by kernel_rfl) (t := (!y66)) (by kernel_rfl) h68 ?_
    refine c_seq ?_
    refine c_region ?_
    refine s_load hs (hw.at_ 1 rfl) 0 (by kernel_rfl) (by kernel_rfl) (v := .agg #[.int .i64 x1.f0, .int .i64 x1.f1, .slice p2 x1.f2.length c3]) (by kernel_rfl) fun a hs => ?_
    refine s_store hs hw 0 rfl 0 (by kernel_rfl) (by kernel_rfl) (v := .agg #[.int .i64 x1.f0, .int .i64 x1.f1, .slice p2 x1.f2.length c3]) (by kernel_rfl) (by kernel_rfl) (by kernel_rfl) (by kernel_rfl) fun a w hs hw => ?_
    refine s_end ?_
    refine c_ret ?_
    obtain rfl := someE hk
    refine hQ _ _ (f_retC hs rfl (hw.at_ 0 rfl) (by kernel_rfl) (v := .agg #[.int .i64 x1.f0, .int .i64 x1.f1, .slice p2 x1.f2.length c3]) (by kernel_rfl) ⟨ih, p2, c3, rfl, hw.pick [2] (by kernel_rfl), (Le.refl _), h4⟩)
  · refine c_cond0 hs (by kernel_rfl) (t := (!y66)) (by kernel_rfl) h68 ?_
    refine c_skip ?_
    refine c_seq ?_
    refine c_region ?_
    refine pures hs 1 [1, 2, 3, 6, 13] [(1, .int .i64 x5), (2, .int .i64 x6), (3, .pointer (some ⟨b60, 0, none⟩)), (6, .pointer (some ⟨b62, 0, none⟩)), (13, .pointer (some ⟨b60, 2, none⟩))] (by kernel_rfl) fun a hs => ?_
    refine s_load hs (hw.at_ 1 rfl) 2 (by kernel_rfl) (by kernel_rfl) (v := .slice p2 x1.f2.length c3) (by kernel_rfl) fun a hs => ?_
    replace hw := hw.nil
    obtain ⟨x79, h80, hk⟩ := bindE hk
    refine s_appS hs hw (E := e92) appT39 0 rfl (OSl.nil _ _) (by kernel_rfl) (by kernel_rfl) (h4.mono (Le.refl _)) (hw.vwAll.nil.anti (Le.refl _)) (by kernel_rfl) h80 fun a w p81 c82 d83 h84 hw hs => ?_
    refine pures hs 1 [1, 2, 3, 6, 7] [(1, .int .i64 x5), (2, .int .i64 x6), (3, .pointer (some ⟨b60, 0, none⟩)), (6, .pointer (some ⟨b62, 0, none⟩)), (7, .slice p81 x79.length c82)] (by kernel_rfl) fun a hs => ?_
    refine s_end ?_
    refine c_seq ?_
    refine c_region ?_
    refine pures hs 3 [3, 6, 7, 16, 17, 18] [(3, .pointer (some ⟨b60, 0, none⟩)), (6, .pointer (some ⟨b62, 0, none⟩)), (7, .slice p81 x79.length c82), (16, .slice p81 x79.length c82), (17, .int .i64 x5), (18, .int .i64 x6)] (by kernel_rfl) fun a hs => ?_
    obtain ⟨x94, h95, hk⟩ := bindE hk
    refine s_indexO hs h84 (by kernel_rfl) (by kernel_rfl) (k := .i64) (by kernel_rfl) 92 (by kernel_rfl) (by kernel_rfl) h95 fun a r96 cs henc at97 h98 hs => ?_
    obtain rfl := henc
    refine pures hs 1 [3, 6, 7, 18, 20] [(3, .pointer (some ⟨b60, 0, none⟩)), (6, .pointer (some ⟨b62, 0, none⟩)), (7, .slice p81 x79.length c82), (18, .int .i64 x6), (20, .pointer (some (r96.add 1)))] (by kernel_rfl) fun a hs => ?_
    refine s_storeE hs hw 0 rfl h84 h98 (M92.mk x94.f0 x6) h95 1 (by kernel_rfl) (by kernel_rfl) (v := .int .i64 x6) (by kernel_rfl) (by kernel_rfl) (by kernel_rfl) (by kernel_rfl) rfl (fun w hv => at97 w (hv.anti (Le.refl _))) rfl fun a w d99 h100 hw hs => ?_
    have h102 : x79.length = (x79.set x5.toNat (M92.mk x94.f0 x6)).length := List.length_set.symm
    try rw [h102] at hs
    try rw [h102] at hw
    refine s_end ?_
    refine c_seq ?_
    refine c_region ?_
    refine pures hs 2 [3, 6, 21, 22] [(3, .pointer (some ⟨b60, 0, none⟩)), (6, .pointer (some ⟨b62, 0, none⟩)), (21, .slice p81 (x79.set x5.toNat (M92.mk x94.f0 x6)).length c82), (22, .pointer (some ⟨b60, 2, none⟩))] (by kernel_rfl) fun a hs => ?_
    refine s_store hs hw 2 rfl 2 (by kernel_rfl) (by kernel_rfl) (v := .slice p81 (x79.set x5.toNat (M92.mk x94.f0 x6)).length c82) (by kernel_rfl) (by kernel_rfl) (by kernel_rfl) (by kernel_rfl) fun a w hs hw => ?_
    refine s_end ?_
    refine c_seq ?_
    refine c_region ?_
    refine s_load hs (hw.at_ 2 rfl) 0 (by kernel_rfl) (by kernel_rfl) (v := .agg #[.int .i64 x1.f0, .int .i64 x1.f1, .slice p81 (x79.set x5.toNat (M92.mk x94.f0 x6)).length c82]) (by kernel_rfl) fun a hs => ?_
    refine s_store hs hw 1 rfl 0 (by kernel_rfl) (by kernel_rfl) (v := .agg #[.int .i64 x1.f0, .int .i64 x1.f1, .slice p81 (x79.set x5.toNat (M92.mk x94.f0 x6)).length c82]) (by kernel_rfl) (by kernel_rfl) (by kernel_rfl) (by kernel_rfl) fun a w hs hw => ?_
    refine s_end ?_
    refine c_ret ?_
    obtain ⟨ih103, hle104, hw, h105⟩ := (hw.pick [0, 1, 2, 3] (by kernel_rfl)).fz (h100.mono (Le.refl _))
    obtain rfl := someE hk
    refine hQ _ _ (f_retC hs rfl (hw.at_ 0 rfl) (by kernel_rfl) (v := .agg #[.int .i64 x1.f0, .int .i64 x1.f1, .slice p81 (x79.set x5.toNat (M92.mk x94.f0 x6)).length c82]) (by kernel_rfl) ⟨ih103, p81, c82, rfl, hw.pick [2] (by kernel_rfl), hle104, h105⟩)
def bag_Bag_int_Set (x3 : Int) (x4 : Int) (x5 : List M102) (x11 : Int) (x12 : Int) : Option (Bool × (List M102)) :=
  (bag_Bag_int_has x3 x4 x5 x11).bind fun y40 =>
  if (!y40) = true then some (false, x5)
  else (ix x5 x11).bind fun x52 =>
  some (true, (x5.set x11.toNat (M102.mk x52.f0 x12)))
theorem bag_Bag_int_Set_s {x3 : Int} {x4 : Int} {x5 : List M102} {x11 : Int} {x12 : Int} {b2 : Nat} {p6 : Option Addr} {c7 : Nat} {d9 : Ch} {r : Bool × (List M102)} (hk : bag_Bag_int_Set x3 x4 x5 x11 x12 = some r) {g w : World} {F : Ch} {ih : IH} (h8 : OSl e102 ih p6 c7 x5 d9) (hw : St g w [bx b2 [.int .i64 x3, .int .i64 x4, .slice p6 x5.length c7] 88, d9, F] ih) :
    CallsR Try.prog 26 #[.pointer (some ⟨b2, 0, none⟩), .int .i64 x11, .int .i64 x12] w fun v w' => ∃ (p61 : Option Addr) (c62 : Nat) (d63 : Ch), v = .bool r.1 ∧ St g w' [bx b2 [.int .i64 x3, .int .i64 x4, .slice p61 r.2.length c62] 88, d63, F] ih ∧ OSl e102 ih p61 c62 r.2 d63 := by
  refine f_in (vs := [.pointer (some ⟨b2, 0, none⟩), .int .i64 x11, .int .i64 x12]) Try.func26 rfl 19 rfl (by kernel_rfl) [(0, .pointer (some ⟨b2, 0, none⟩)), (1, .int .i64 x11), (2, .int .i64 x12)] (by kernel_rfl) fun a Qf hQ hQn hs => ?_
  refine c_seq ?_
  refine c_region ?_
  refine pures hs 1 [0, 1, 2] [(0, .pointer (some ⟨b2, 0, none⟩)), (1, .int .i64 x11), (2, .int .i64 x12)] (by kernel_rfl) fun a hs => ?_
  refine s_end ?_
  refine c_seq ?_
  refine c_seq ?_
  refine c_region ?_
  refine pures hs 2 [0, 1, 2, 7, 8] [(0, .pointer (some ⟨b2, 0, none⟩)), (1, .int .i64 x11), (2, .int .i64 x12), (7, .pointer (some ⟨b2, 0, none⟩)), (8, .int .i64 x11)] (by kernel_rfl) fun a hs => ?_
  obtain ⟨y40, h41, hk⟩ := bindE hk
  refine s_call hs (by kernel_rfl) (by kernel_rfl) (bag_Bag_int_has_s h41 h8 ((hw.pick [0, 1, 2] (by kernel_rfl)).pack 2)) fun a w v hv hs => ?_
  obtain ⟨rfl, hw⟩ := hv
  replace hw := hw.unpack 2 rfl
  refine pures hs 1 [0, 1, 2, 10] [(0, .pointer (some ⟨b2, 0, none⟩)), (1, .int .i64 x11), (2, .int .i64 x12), (10, .bool (!y40))] (by kernel_rfl) fun a hs => ?_
  refine s_end ?_
  rcases ifbE hk with ⟨h42, hk⟩ | ⟨h42, hk⟩
  · refine c_cond1 hs (by kernel_rfl) (t := (!y40)) (by kernel_rfl) h42 ?_
    refine c_seq ?_
    refine c_region ?_
    refine pures hs 1 [6] [(6, .bool false)] (by kernel_rfl) fun a hs => ?_
    refine s_end ?_
    refine c_ret ?_
    obtain rfl := someE hk
    refine hQ _ _ (f_ret1 hs rfl (v := .bool false) (by kernel_rfl) ⟨p6, c7, d9, rfl, hw.pick [0, 1, 2] (by kernel_rfl), h8⟩)
  · refine c_cond0 hs (by kernel_rfl) (t := (!y40)) (by kernel_rfl) h42 ?_
    refine c_skip ?_
    refine c_seq ?_
    refine c_region ?_
    refine pures hs 3 [1, 2, 13] [(1, .int .i64 x11), (2, .int .i64 x12), (13, .pointer (some ⟨b2, 2, none⟩))] (by kernel_rfl) fun a hs => ?_
    refine s_load hs (hw.at_ 0 rfl) 2 (by kernel_rfl) (by kernel_rfl) (v := .slice p6 x5.length c7) (by kernel_rfl) fun a hs => ?_
    refine pures hs 2 [14, 15, 16] [(14, .slice p6 x5.length c7), (15, .int .i64 x11), (16, .int .i64 x12)] (by kernel_rfl) fun a hs => ?_
    obtain ⟨x52, h53, hk⟩ := bindE hk
    refine s_indexO hs h8 (by kernel_rfl) (by kernel_rfl) (k := .i64) (by kernel_rfl) 102 (by kernel_rfl) (by kernel_rfl) h53 fun a r54 cs henc at55 h56 hs => ?_
    obtain rfl := henc
    refine pures hs 1 [16, 18] [(16, .int .i64 x12), (18, .pointer (some (r54.add 1)))] (by kernel_rfl) fun a hs => ?_
    refine s_storeE hs hw 1 rfl h8 h56 (M102.mk x52.f0 x12) h53 1 (by kernel_rfl) (by kernel_rfl) (v := .int .i64 x12) (by kernel_rfl) (by kernel_rfl) (by kernel_rfl) (by kernel_rfl) rfl (fun w hv => at55 w (hv.anti (Le.refl _))) rfl fun a w d57 h58 hw hs => ?_
    have h60 : x5.length = (x5.set x11.toNat (M102.mk x52.f0 x12)).length := List.length_set.symm
    try rw [h60] at hs
    try rw [h60] at hw
    refine s_end ?_
    refine c_seq ?_
    refine c_region ?_
    refine pures hs 1 [6] [(6, .bool true)] (by kernel_rfl) fun a hs => ?_
    refine s_end ?_
    refine c_ret ?_
    obtain rfl := someE hk
    refine hQ _ _ (f_ret1 hs rfl (v := .bool true) (by kernel_rfl) ⟨p6, c7, d57, rfl, hw.pick [0, 1, 2] (by kernel_rfl), h58⟩)
def catenaryref06_Odd_r10 (x1 : M41) (x623 : List M92) : Option (M41 × Int) :=
  some ((M41.mk x1.f0 x1.f1 x623), IntKind.i64.wrap ((x1.f2.length : Int) - (x623.length : Int)))
def catenaryref06_Odd_r12 (rec_catenaryref06_Odd_l11 : (List M92) → Int → Option (List M92)) (x545 : Int) (x670 : List M92) : Option (List M92) :=
  rec_catenaryref06_Odd_l11 x670 (IntKind.i64.wrap (x545 + 1))
def catenaryref06_Odd_l11 (x1 : M41) : Nat → (List M92) → Int → Option (List M92)
  | 0, _, _ => none
  | j + 1, x539, x545 =>
    if (decide (x545 < (x1.f2.length : Int))) = true then (
      ((ix x1.f2 x545).bind fun x683 =>
        if ((x683.f1.tmod 2) != 0) = true then (
          (ix x1.f2 x545).bind fun x700 =>
          (app x539 [x700]).bind fun x706 =>
          some x706)
        else some x539 : Option (List M92)).bind fun s712 => catenaryref06_Odd_r12 (catenaryref06_Odd_l11 x1 j) x545 s712)
    else some x539
def catenaryref06_Odd (k : Nat) (x1 : M41) : Option (M41 × Int) :=
  (catenaryref06_Odd_l11 x1 k ([]) 0 : Option (List M92)).bind fun s715 => catenaryref06_Odd_r10 x1 s715
theorem catenaryref06_Odd_s {k : Nat} {x1 : M41} {p2 : Option Addr} {c3 : Nat} {r : M41 × Int} (hk : catenaryref06_Odd k x1 = some r) {g w : World} {F : Ch} {ih : IH} (h4 : RSl e92 ih [] p2 c3 x1.f2) (hw : St g w [F] ih) :
    CallsR Try.prog 61 #[.agg #[.int .i64 x1.f0, .int .i64 x1.f1, .slice p2 x1.f2.length c3]] w fun v w' => ∃ (ih' : IH) (p716 : Option Addr) (c717 : Nat), v = .tuple #[.agg #[.int .i64 r.1.f0, .int .i64 r.1.f1, .slice p716 r.1.f2.length c717], .int .i64 r.2] ∧ St g w' [F] ih' ∧ Le ih ih' ∧ RSl e92 ih' [] p716 c717 r.1.f2 := by
  refine f_in (vs := [.agg #[.int .i64 x1.f0, .int .i64 x1.f1, .slice p2 x1.f2.length c3]]) Try.func61 rfl 40 rfl (by kernel_rfl) [(0, .agg #[.int .i64 x1.f0, .int .i64 x1.f1, .slice p2 x1.f2.length c3])] (by kernel_rfl) fun a Qf hQ hQn hs => ?_
  refine c_seq ?_
  refine c_region ?_
  refine s_new hs hw [.int .i64 x1.f0, .int .i64 x1.f1, .slice p2 x1.f2.length c3] 41 (fun b => .pointer (some ⟨b, 0, none⟩)) (by kernel_rfl) (fun _ => by kernel_rfl) fun a w b364 hs hw => ?_
  refine s_new hs hw [.int .i64 0, .int .i64 0, .slice none 0 0] 41 (fun b => .pointer (some ⟨b, 0, none⟩)) (by kernel_rfl) (fun _ => by kernel_rfl) fun a w b366 hs hw => ?_
  refine pures hs 1 [1, 2] [(1, .pointer (some ⟨b364, 0, none⟩)), (2, .pointer (some ⟨b366, 0, none⟩))] (by kernel_rfl) fun a hs => ?_
  refine s_end ?_
  refine c_seq ?_
  refine c_region ?_
  refine pures hs 1 [1, 2, 4] [(1, .pointer (some ⟨b364, 0, none⟩)), (2, .pointer (some ⟨b366, 0, none⟩)), (4, .slice none 0 0)] (by kernel_rfl) fun a hs => ?_
  refine s_end ?_
  refine c_seq ?_
  refine c_seq ?_
  refine c_region ?_
  refine pures hs 1 [1, 2, 4, 5] [(1, .pointer (some ⟨b364, 0, none⟩)), (2, .pointer (some ⟨b366, 0, none⟩)), (4, .slice none 0 0), (5, .int .i64 0)] (by kernel_rfl) fun a hs => ?_
  refine s_end ?_
  refine c_block ?_
  obtain ⟨y632, hx633, hk⟩ := bindE hk
  replace hw := hw.nil
  obtain ⟨J634, hJ634⟩ : ∃ J : Act → World → Prop, ∀ a w, J a w ↔ (∃ (x623 : List M92) (p624 : Option Addr) (c625 : Nat) (d627 : Ch), catenaryref06_Odd_r10 x1 x623 = some r ∧ Sees a 40 [(1, .pointer (some ⟨b364, 0, none⟩)), (2, .pointer (some ⟨b366, 0, none⟩)), (4, .slice p624 x623.length c625)] ∧ St g w [bx b366 [.int .i64 0, .int .i64 0, .slice none 0 0] 41, bx b364 [.int .i64 x1.f0, .int .i64 x1.f1, .slice p2 x1.f2.length c3] 41, d627, F] ih ∧ OSl e92 ih p624 c625 x623 d627) := ⟨_, fun _ _ => Iff.rfl⟩
  obtain ⟨I635, hI635⟩ : ∃ J : Nat → Act → World → Prop, ∀ j a w, J j a w ↔ (∃ (x539 : List M92) (x545 : Int) (p540 : Option Addr) (c541 : Nat) (d543 : Ch), catenaryref06_Odd_l11 x1 j x539 x545 = some y632 ∧ Sees a 40 [(1, .pointer (some ⟨b364, 0, none⟩)), (2, .pointer (some ⟨b366, 0, none⟩)), (4, .slice p540 x539.length c541), (5, .int .i64 x545)] ∧ St g w [bx b366 [.int .i64 0, .int .i64 0, .slice none 0 0] 41, bx b364 [.int .i64 x1.f0, .int .i64 x1.f1, .slice p2 x1.f2.length c3] 41, d543, F] ih ∧ OSl e92 ih p540 c541 x539 d543) := ⟨_, fun _ _ _ => Iff.rfl⟩
  refine c_exitJ 0 J634 ?_ ?_
  · refine c_loop I635 k ((hI635 _ _ _).2 ⟨([]), 0, none, 0, ([]), hx633, hs.cast [1, 2, 4, 5] (by kernel_rfl), hw.pick [1, 2, 0, 3] (by kernel_rfl), (OSl.nil _ _)⟩) (fun a w h0 => ?_) fun j a w hh => ?_
    · obtain ⟨_, _, _, _, _, h, _⟩ := (hI635 _ _ _).1 h0
      cases h
    · obtain ⟨x539, x545, p540, c541, d543, hx633, hs, hw, h542⟩ := (hI635 _ _ _).1 hh
      refine c_seq ?_
      refine c_seq ?_
      refine c_region ?_
      refine pures hs 2 [1, 2, 4, 5, 7, 8] [(1, .pointer (some ⟨b364, 0, none⟩)), (2, .pointer (some ⟨b366, 0, none⟩)), (4, .slice p540 x539.length c541), (5, .int .i64 x545), (7, .int .i64 x545), (8, .pointer (some ⟨b364, 2, none⟩))] (by kernel_rfl) fun a hs => ?_
      refine s_load hs (hw.at_ 1 rfl) 2 (by kernel_rfl) (by kernel_rfl) (v := .slice p2 x1.f2.length c3) (by kernel_rfl) fun a hs => ?_
      refine pures hs 2 [1, 2, 4, 5, 11] [(1, .pointer (some ⟨b364, 0, none⟩)), (2, .pointer (some ⟨b366, 0, none⟩)), (4, .slice p540 x539.length c541), (5, .int .i64 x545), (11, .bool (decide (x545 < (x1.f2.length : Int))))] (by kernel_rfl) fun a hs => ?_
      refine s_end ?_
      rcases ifbE hx633 with ⟨h636, hx633⟩ | ⟨h636, hx633⟩
      · refine c_cond1 hs (by kernel_rfl) (t := (decide (x545 < (x1.f2.length : Int)))) (by kernel_rfl) h636 ?_
        refine c_skip ?_
        obtain ⟨y676, hx677, hx633⟩ := bindE hx633
        obtain ⟨J678, hJ678⟩ : ∃ J : Act → World → Prop, ∀ a w, J a w ↔ (∃ (x670 : List M92) (p671 : Option Addr) (c672 : Nat) (d674 : Ch), catenaryref06_Odd_r12 (catenaryref06_Odd_l11 x1 j) x545 x670 = some y632 ∧ Sees a 40 [(1, .pointer (some ⟨b364, 0, none⟩)), (2, .pointer (some ⟨b366, 0, none⟩)), (5, .int .i64 x545), (4, .slice p671 x670.length c672)] ∧ St g w [bx b366 [.int .i64 0, .int .i64 0, .slice none 0 0] 41, bx b364 [.int .i64 x1.f0, .int .i64 x1.f1, .slice p2 x1.f2.length c3] 41, d674, F] ih ∧ OSl e92 ih p671 c672 x670 d674) := ⟨_, fun _ _ => Iff.rfl⟩
        refine c_seqJ J678 ?_ ?_
        · refine c_block ?_
          refine c_seq ?_
          refine c_region ?_
          refine pures hs 1 [1, 2, 4, 5, 14] [(1, .pointer (some ⟨b364, 0, none⟩)), (2, .pointer (some ⟨b366, 0, none⟩)), (4, .slice p540 x539.length c541), (5, .int .i64 x545), (14, .pointer (some ⟨b364, 2, none⟩))] (by kernel_rfl) fun a hs => ?_
          refine s_load hs (hw.at_ 1 rfl) 2 (by kernel_rfl) (by kernel_rfl) (v := .slice p2 x1.f2.length c3) (by kernel_rfl) fun a hs => ?_
          refine pures hs 1 [1, 2, 4, 5, 15, 16] [(1, .pointer (some ⟨b364, 0, none⟩)), (2, .pointer (some ⟨b366, 0, none⟩)), (4, .slice p540 x539.length c541), (5, .int .i64 x545), (15, .slice p2 x1.f2.length c3), (16, .int .i64 x545)] (by kernel_rfl) fun a hs => ?_
          obtain ⟨x683, h684, hx677⟩ := bindE hx677
          refine s_index hs h4 (by kernel_rfl) (by kernel_rfl) (k := .i64) (by kernel_rfl) 92 (by kernel_rfl) (by kernel_rfl) h684 fun a r685 cs henc at686 hs => ?_
          obtain rfl := henc
          refine pures hs 1 [1, 2, 4, 5, 18] [(1, .pointer (some ⟨b364, 0, none⟩)), (2, .pointer (some ⟨b366, 0, none⟩)), (4, .slice p540 x539.length c541), (5, .int .i64 x545), (18, .pointer (some (r685.add 1)))] (by kernel_rfl) fun a hs => ?_
          refine s_load hs (at686 _ (hw.vwAll.nil.anti (Le.refl _))) 1 (by kernel_rfl) (by kernel_rfl) (v := .int .i64 x683.f1) (by kernel_rfl) fun a hs => ?_
          refine pures hs 2 [1, 2, 4, 5, 21] [(1, .pointer (some ⟨b364, 0, none⟩)), (2, .pointer (some ⟨b366, 0, none⟩)), (4, .slice p540 x539.length c541), (5, .int .i64 x545), (21, .bool ((x683.f1.tmod 2) != 0))] (by kernel_rfl) fun a hs => ?_
          refine s_end ?_
          rcases ifbE hx677 with ⟨h687, hx677⟩ | ⟨h687, hx677⟩
          · refine c_cond1 hs (by kernel_rfl) (t := ((x683.f1.tmod 2) != 0)) (by kernel_rfl) h687 ?_
            refine c_region ?_
            refine pures hs 2 [1, 2, 5, 22, 23] [(1, .pointer (some ⟨b364, 0, none⟩)), (2, .pointer (some ⟨b366, 0, none⟩)), (5, .int .i64 x545), (22, .slice p540 x539.length c541), (23, .pointer (some ⟨b364, 2, none⟩))] (by kernel_rfl) fun a hs => ?_
            refine s_load hs (hw.at_ 1 rfl) 2 (by kernel_rfl) (by kernel_rfl) (v := .slice p2 x1.f2.length c3) (by kernel_rfl) fun a hs => ?_
            refine pures hs 1 [1, 2, 5, 22, 24, 25] [(1, .pointer (some ⟨b364, 0, none⟩)), (2, .pointer (some ⟨b366, 0, none⟩)), (5, .int .i64 x545), (22, .slice p540 x539.length c541), (24, .slice p2 x1.f2.length c3), (25, .int .i64 x545)] (by kernel_rfl) fun a hs => ?_
            obtain ⟨x700, h701, hx677⟩ := bindE hx677
            refine s_index hs h4 (by kernel_rfl) (by kernel_rfl) (k := .i64) (by kernel_rfl) 92 (by kernel_rfl) (by kernel_rfl) h701 fun a r702 cs henc at703 hs => ?_
            obtain rfl := henc
            refine s_load hs (at703 _ (hw.vwAll.nil.anti (Le.refl _))) 0 (by kernel_rfl) (by kernel_rfl) (v := .agg #[.int .i64 x700.f0, .int .i64 x700.f1]) (by kernel_rfl) fun a hs => ?_
            refine s_new hs hw [.int .i64 x700.f0, .int .i64 x700.f1] 92 (fun b => .slice (some ⟨b, 0, none⟩) 1 1) (by kernel_rfl) (fun _ => by kernel_rfl) fun a w b704 hs hw => ?_
            obtain ⟨x706, h707, hx677⟩ := bindE hx677
            refine s_app1 hs hw (E := e92) appT39 3 rfl h542 (by kernel_rfl) (by kernel_rfl) (c2 := 1) (by kernel_rfl) (hw.at_ 0 rfl) (z := x700) rfl h707 fun a w p708 c709 d710 h711 hw hs => ?_
            refine pures hs 1 [1, 2, 5, 4] [(1, .pointer (some ⟨b364, 0, none⟩)), (2, .pointer (some ⟨b366, 0, none⟩)), (5, .int .i64 x545), (4, .slice p708 x706.length c709)] (by kernel_rfl) fun a hs => ?_
            refine s_end ?_
            obtain rfl := someE hx677
            exact (hJ678 _ _).2 ⟨x706, p708, c709, d710, hx633, hs.cast [1, 2, 5, 4] (by kernel_rfl), hw.pick [1, 2, 3, 4] (by kernel_rfl), h711⟩
          · refine c_cond0 hs (by kernel_rfl) (t := ((x683.f1.tmod 2) != 0)) (by kernel_rfl) h687 ?_
            refine c_skip ?_
            obtain rfl := someE hx677
            exact (hJ678 _ _).2 ⟨x539, p540, c541, d543, hx633, hs.cast [1, 2, 5, 4] (by kernel_rfl), hw.pick [0, 1, 2, 3] (by kernel_rfl), h542⟩
        · intro a w hh
          obtain ⟨x670, p671, c672, d674, hx633, hs, hw, h673⟩ := (hJ678 _ _).1 hh
          refine c_region ?_
          refine pures hs 3 [1, 2, 5, 4] [(1, .pointer (some ⟨b364, 0, none⟩)), (2, .pointer (some ⟨b366, 0, none⟩)), (5, .int .i64 (IntKind.i64.wrap (x545 + 1))), (4, .slice p671 x670.length c672)] (by kernel_rfl) fun a hs => ?_
          refine s_end ?_
          exact (hI635 _ _ _).2 ⟨x670, (IntKind.i64.wrap (x545 + 1)), p671, c672, d674, hx633, hs.cast [1, 2, 4, 5] (by kernel_rfl), hw.pick [0, 1, 2, 3] (by kernel_rfl), h673⟩
      · refine c_cond0 hs (by kernel_rfl) (t := (decide (x545 < (x1.f2.length : Int)))) (by kernel_rfl) h636 ?_
        refine c_exit ?_
        obtain rfl := someE hx633
        exact (hJ634 _ _).2 ⟨x539, p540, c541, d543, hk, hs.cast [1, 2, 4] (by kernel_rfl), hw.pick [0, 1, 2, 3] (by kernel_rfl), h542⟩
  · intro a w hh
    obtain ⟨x623, p624, c625, d627, hk, hs, hw, h626⟩ := (hJ634 _ _).1 hh
    refine c_seq ?_
    refine c_region ?_
    refine pures hs 1 [1, 2, 4, 30] [(1, .pointer (some ⟨b364, 0, none⟩)), (2, .pointer (some ⟨b366, 0, none⟩)), (4, .slice p624 x623.length c625), (30, .pointer (some ⟨b364, 2, none⟩))] (by kernel_rfl) fun a hs => ?_
    refine s_load hs (hw.at_ 1 rfl) 2 (by kernel_rfl) (by kernel_rfl) (v := .slice p2 x1.f2.length c3) (by kernel_rfl) fun a hs => ?_
    refine pures hs 5 [1, 2, 4, 6] [(1, .pointer (some ⟨b364, 0, none⟩)), (2, .pointer (some ⟨b366, 0, none⟩)), (4, .slice p624 x623.length c625), (6, .int .i64 (IntKind.i64.wrap ((x1.f2.length : Int) - (x623.length : Int))))] (by kernel_rfl) fun a hs => ?_
    refine s_end ?_
    refine c_seq ?_
    refine c_region ?_
    refine pures hs 2 [1, 2, 6, 36, 37] [(1, .pointer (some ⟨b364, 0, none⟩)), (2, .pointer (some ⟨b366, 0, none⟩)), (6, .int .i64 (IntKind.i64.wrap ((x1.f2.length : Int) - (x623.length : Int)))), (36, .slice p624 x623.length c625), (37, .pointer (some ⟨b364, 2, none⟩))] (by kernel_rfl) fun a hs => ?_
    refine s_store hs hw 1 rfl 2 (by kernel_rfl) (by kernel_rfl) (v := .slice p624 x623.length c625) (by kernel_rfl) (by kernel_rfl) (by kernel_rfl) (by kernel_rfl) fun a w hs hw => ?_
    refine s_end ?_
    refine c_seq ?_
    refine c_region ?_
    refine s_load hs (hw.at_ 1 rfl) 0 (by kernel_rfl) (by kernel_rfl) (v := .agg #[.int .i64 x1.f0, .int .i64 x1.f1, .slice p624 x623.length c625]) (by kernel_rfl) fun a hs => ?_
    refine pures hs 1 [2, 38, 39] [(2, .pointer (some ⟨b366, 0, none⟩)), (38, .agg #[.int .i64 x1.f0, .int .i64 x1.f1, .slice p624 x623.length c625]), (39, .int .i64 (IntKind.i64.wrap ((x1.f2.length : Int) - (x623.length : Int))))] (by kernel_rfl) fun a hs => ?_
    refine s_store hs hw 0 rfl 0 (by kernel_rfl) (by kernel_rfl) (v := .agg #[.int .i64 x1.f0, .int .i64 x1.f1, .slice p624 x623.length c625]) (by kernel_rfl) (by kernel_rfl) (by kernel_rfl) (by kernel_rfl) fun a w hs hw => ?_
    refine pures hs 1 [2, 3] [(2, .pointer (some ⟨b366, 0, none⟩)), (3, .int .i64 (IntKind.i64.wrap ((x1.f2.length : Int) - (x623.length : Int))))] (by kernel_rfl) fun a hs => ?_
    refine s_end ?_
    refine c_ret ?_
    obtain ⟨ih629, hle630, hw, h631⟩ := (hw.pick [2, 0, 1, 3] (by kernel_rfl)).fz (h626.mono (Le.refl _))
    obtain rfl := someE hk
    refine hQ _ _ (f_retG hs (l := [.cell 2 41, .tmp 3]) (vs := [.agg #[.int .i64 x1.f0, .int .i64 x1.f1, .slice p624 x623.length c625], .int .i64 (IntKind.i64.wrap ((x1.f2.length : Int) - (x623.length : Int)))]) rfl (⟨res_cell hs (hw.at_ 0 rfl) (by kernel_rfl) (v := .agg #[.int .i64 x1.f0, .int .i64 x1.f1, .slice p624 x623.length c625]) (by kernel_rfl), ⟨res_tmp hs (v := .int .i64 (IntKind.i64.wrap ((x1.f2.length : Int) - (x623.length : Int)))) (by kernel_rfl), trivial⟩⟩) (by kernel_rfl) ⟨ih629, p624, c625, rfl, hw.pick [2] (by kernel_rfl), hle630, h631⟩)
def bag_Bag_int_All (x3 : Int) (x4 : Int) (x5 : List M102) : Option Unit :=
  some ()
theorem bag_Bag_int_All_s {x3 : Int} {x4 : Int} {x5 : List M102} {b2 : Nat} {p6 : Option Addr} {c7 : Nat} {d9 : Ch} {r : Unit} (hk : bag_Bag_int_All x3 x4 x5 = some r) {g w : World} {F : Ch} {ih : IH} (h8 : OSl e102 ih p6 c7 x5 d9) (hw : St g w [bx b2 [.int .i64 x3, .int .i64 x4, .slice p6 x5.length c7] 88, d9, F] ih) :
    CallsR Try.prog 25 #[.pointer (some ⟨b2, 0, none⟩)] w fun v w' => ∃ (b21 : Nat), v = .func (.func 65) #[] #[.pointer (some ⟨b21, 0, none⟩)] ∧ St g w' [bx b21 [.pointer (some ⟨b2, 0, none⟩)] 37, bx b2 [.int .i64 x3, .int .i64 x4, .slice p6 x5.length c7] 88, d9, F] ih := by
  refine f_in (vs := [.pointer (some ⟨b2, 0, none⟩)]) Try.func25 rfl 4 rfl (by kernel_rfl) [(0, .pointer (some ⟨b2, 0, none⟩))] (by kernel_rfl) fun a Qf hQ hQn hs => ?_
  refine c_seq ?_
  refine c_region ?_
  refine s_new hs hw [.pointer (some ⟨b2, 0, none⟩)] 37 (fun b => .pointer (some ⟨b, 0, none⟩)) (by kernel_rfl) (fun _ => by kernel_rfl) fun a w b19 hs hw => ?_
  refine pures hs 1 [1] [(1, .pointer (some ⟨b19, 0, none⟩))] (by kernel_rfl) fun a hs => ?_
  refine s_end ?_
  refine c_seq ?_
  refine c_region ?_
  refine pures hs 2 [2] [(2, .func (.func 65) #[] #[.pointer (some ⟨b19, 0, none⟩)])] (by kernel_rfl) fun a hs => ?_
  refine s_end ?_
  refine c_ret ?_
  obtain rfl := someE hk
  refine hQ _ _ (f_ret1 hs rfl (v := .func (.func 65) #[] #[.pointer (some ⟨b19, 0, none⟩)]) (by kernel_rfl) ⟨b19, rfl, hw.pick [0, 1, 2, 3] (by kernel_rfl)⟩)
def catenarylaw06_odd (x1 : Int) (x2 : Int) : Option Bool :=
  some ((x2.tmod 2) != 0)
theorem catenarylaw06_odd_s {x1 : Int} {x2 : Int} {r : Bool} (hk : catenarylaw06_odd x1 x2 = some r) {g w : World} {F : Ch} {ih : IH} (hw : St g w [F] ih) :
    CallsR Try.prog 31 #[.int .i64 x1, .int .i64 x2] w fun v w' => v = .bool r ∧ St g w' [F] ih := by
  refine f_in (vs := [.int .i64 x1, .int .i64 x2]) Try.func31 rfl 8 rfl (by kernel_rfl) [(0, .int .i64 x1), (1, .int .i64 x2)] (by kernel_rfl) fun a Qf hQ hQn hs => ?_
  refine c_seq ?_
  refine c_region ?_
  refine pures hs 1 [1] [(1, .int .i64 x2)] (by kernel_rfl) fun a hs => ?_
  refine s_end ?_
  refine c_seq ?_
  refine c_region ?_
  refine pures hs 4 [4] [(4, .bool ((x2.tmod 2) != 0))] (by kernel_rfl) fun a hs => ?_
  refine s_end ?_
  refine c_ret ?_
  obtain rfl := someE hk
  refine hQ _ _ (f_ret1 hs rfl (v := .bool ((x2.tmod 2) != 0)) (by kernel_rfl) ⟨rfl, hw.pick [0] (by kernel_rfl)⟩)
def bag_Bag_int_Keep_round (x50001 : Int) (x50002 : Int) (x50007 : List M102) : Option (Bool × (List M102)) :=
  (catenarylaw06_odd x50001 x50002).bind fun y50041 =>
  if y50041 = true then (
    (app x50007 [(M102.mk x50001 x50002)]).bind fun x50054 =>
    some (true, x50054))
  else some (true, x50007)
def bag_Bag_int_Keep_round_C (n50014 : Nat) (q50015 : Lp) (b50004 : Nat) (b50006 : Nat) : Prop := ∀ {x50001 : Int} {x50002 : Int} {x50007 : List M102} {p50008 : Option Addr} {c50009 : Nat} {d50011 : Ch} {r : Bool × (List M102)}, bag_Bag_int_Keep_round x50001 x50002 x50007 = some r → ∀ {g w : World} {F : Ch} {ih : IH}, (OSl e102 ih p50008 c50009 x50007 d50011) → St g w [bx b50004 [.func (.func 31) #[] #[]] 56, bx b50006 [.slice p50008 x50007.length c50009] 86, d50011, lpo n50014 q50015 [] 0, F] ih →
    RoundR Try.prog n50014 q50015 #[.int .i64 x50001, .int .i64 x50002] w fun v w' => ∃ (p50060 : Option Addr) (c50061 : Nat) (d50062 : Ch), v = .bool r.1 ∧ St g w' [bx b50004 [.func (.func 31) #[] #[]] 56, bx b50006 [.slice p50060 r.2.length c50061] 86, d50062, lpo n50014 q50015 [] 0, F] ih ∧ OSl e102 ih p50060 c50061 r.2 d50062
def slices_Clone_bag_item_int_bag_item_int (x1 : List M102) : Option (List M102) :=
  (app [] x1).bind fun x => some x
theorem slices_Clone_bag_item_int_bag_item_int_s {x1 : List M102} {p2 : Option Addr} {c3 : Nat} {d5 : Ch} {r : List M102} (hk : slices_Clone_bag_item_int_bag_item_int x1 = some r) {g w : World} {F : Ch} {ih : IH} (h4 : RSl e102 ih d5 p2 c3 x1) (h6 : ∀ q ∈ d5, q ∈ F) (hw : St g w [F] ih) :
    CallsR Try.prog 66 #[.slice p2 x1.length c3] w fun v w' => ∃ (p : Option Addr) (c : Nat) (d : Ch), v = .slice p r.length c ∧ St g w' [d, F] ih ∧ OSl e102 ih p c r d := by
  rcases p2 with _ | q
  · obtain ⟨_, rfl, rfl⟩ := h4
    replace hk : some [] = some r := hk
    refine f_in (vs := [.slice none 0 0]) Try.func66 rfl 8 rfl (by kernel_rfl) [(0, .slice none 0 0)] (by kernel_rfl) fun a Qf hQ hQn hs => ?_
    refine c_seq ?_
    refine c_region ?_
    refine pures hs 1 [0] [(0, .slice none 0 0)] (by kernel_rfl) fun a hs => ?_
    refine s_end ?_
    refine c_seq ?_
    refine c_seq ?_
    refine c_region ?_
    refine pures hs 2 [0, 4] [(0, .slice none 0 0), (4, .bool true)] (by kernel_rfl) fun a hs => ?_
    refine s_end ?_
    refine c_condT hs (by kernel_rfl) (by kernel_rfl) ?_
    refine c_seq ?_
    refine c_region ?_
    refine pures hs 1 [2] [(2, .slice none 0 0)] (by kernel_rfl) fun a hs => ?_
    refine s_end ?_
    refine c_ret ?_
    replace hw := hw.nil
    obtain rfl := someE hk
    refine hQ _ _ (f_ret1 hs rfl (v := .slice none 0 0) (by kernel_rfl) ⟨none, 0, ([]), rfl, hw.pick [0, 1] (by kernel_rfl), (OSl.nil _ _)⟩)
  · refine f_in (vs := [.slice (some q) x1.length c3]) Try.func66 rfl 8 rfl (by kernel_rfl) [(0, .slice (some q) x1.length c3)] (by kernel_rfl) fun a Qf hQ hQn hs => ?_
    refine c_seq ?_
    refine c_region ?_
    refine pures hs 1 [0] [(0, .slice (some q) x1.length c3)] (by kernel_rfl) fun a hs => ?_
    refine s_end ?_
    refine c_seq ?_
    refine c_seq ?_
    refine c_region ?_
    refine pures hs 2 [0, 4] [(0, .slice (some q) x1.length c3), (4, .bool false)] (by kernel_rfl) fun a hs => ?_
    refine s_end ?_
    refine c_condF hs (by kernel_rfl) (by kernel_rfl) ?_
    refine c_skip ?_
    refine c_seq ?_
    refine c_region ?_
    refine s_new hs hw [] 102 (fun b => .slice (some ⟨b, 0, none⟩) 0 0) (by kernel_rfl) (fun _ => by kernel_rfl) fun a w b18 hs hw => ?_
    refine pures hs 1 [5, 6] [(5, .slice (some ⟨b18, 0, none⟩) 0 0), (6, .slice (some q) x1.length c3)] (by kernel_rfl) fun a hs => ?_
    obtain ⟨x20, h21, hk⟩ := bindE hk
    refine s_appS hs hw (E := e102) appT86 0 rfl OSl.of0 (by kernel_rfl) (by kernel_rfl) (h4.mono (Le.refl _)) (((hw.vw 1 rfl).sub h6).anti (Le.refl _)) (by kernel_rfl) h21 fun a w p22 c23 d24 h25 hw hs => ?_
    refine pures hs 1 [2] [(2, .slice p22 x20.length c23)] (by kernel_rfl) fun a hs => ?_
    refine s_end ?_
    refine c_ret ?_
    obtain rfl := someE hk
    refine hQ _ _ (f_ret1 hs rfl (v := .slice p22 x20.length c23) (by kernel_rfl) ⟨p22, c23, d24, rfl, hw.pick [0, 1] (by kernel_rfl), h25⟩)
def bag_Bag_int_All_1_r3 (x312 : List M102) (x318 : Int) : Option ((List M102) × Int) :=
  some (x312, x318)
def bag_Bag_int_All_1_l4 (y199 : List M102) : Nat → Int → (List M102) → Int → Option (Sum ((List M102) × Int) ((List M102) × Int))
  | 0, _, _, _ => none
  | j + 1, x274, x275, x281 =>
    if (decide (x274 < (y199.length : Int))) = true then (
      (ix y199 x274).bind fun x331 =>
      if (x281 != 0) = true then none
      else (bag_Bag_int_Keep_round x331.f0 x331.f1 x275).bind fun y346 =>
      if (!y346.1) = true then some (.inl (y346.2, 0))
      else bag_Bag_int_All_1_l4 y199 j (IntKind.i64.wrap (x274 + 1)) y346.2 0)
    else some (.inr (x275, x281))
def bag_Bag_int_All_1 (k : Nat) (x5 : List M102) (x14 : Int) (x20 : Int) (x21 : Int) (x22 : List M102) : Option ((List M102) × Int) :=
  (slices_Clone_bag_item_int_bag_item_int x22).bind fun y199 =>
  (bag_Bag_int_All_1_l4 y199 k 0 x5 x14 : Option (Sum ((List M102) × Int) ((List M102) × Int))).bind fun
    | .inl z => some z
    | .inr s353 => bag_Bag_int_All_1_r3 s353.1 s353.2
theorem bag_Bag_int_All_1_s {k : Nat} {x5 : List M102} {x14 : Int} {x20 : Int} {x21 : Int} {x22 : List M102} {b2 : Nat} {b4 : Nat} {p6 : Option Addr} {c7 : Nat} {d9 : Ch} {n12 : Nat} {q13 : Lp} {b17 : Nat} {b19 : Nat} {p23 : Option Addr} {c24 : Nat} {d26 : Ch} {r : (List M102) × Int} (hk : bag_Bag_int_All_1 k x5 x14 x20 x21 x22 = some r) {g w : World} {F : Ch} {ih : IH} (h8 : OSl e102 ih p6 c7 x5 d9) (h15 : bag_Bag_int_Keep_round_C n12 q13 b2 b4) (h25 : OSl e102 ih p23 c24 x22 d26) (hw : St g w [bx b2 [.func (.func 31) #[] #[]] 56, bx b4 [.slice p6 x5.length c7] 86, d9, lpo n12 q13 [] x14, bx b17 [.pointer (some ⟨b19, 0, none⟩)] 37, bx b19 [.int .i64 x20, .int .i64 x21, .slice p23 x22.length c24] 88, d26, F] ih) :
    CallsR Try.prog 65 #[.func (.yield n12) #[] #[], .pointer (some ⟨b17, 0, none⟩)] w fun v w' => ∃ (p354 : Option Addr) (c355 : Nat) (d356 : Ch), v = .tuple #[] ∧ St g w' [bx b2 [.func (.func 31) #[] #[]] 56, bx b4 [.slice p354 r.1.length c355] 86, d356, lpo n12 q13 [] r.2, bx b17 [.pointer (some ⟨b19, 0, none⟩)] 37, bx b19 [.int .i64 x20, .int .i64 x21, .slice p23 x22.length c24] 88, d26, F] ih ∧ OSl e102 ih p354 c355 r.1 d356 := by
  refine f_in (vs := [.func (.yield n12) #[] #[], .pointer (some ⟨b17, 0, none⟩)]) Try.func65 rfl 25 rfl (by kernel_rfl) [(0, .func (.yield n12) #[] #[]), (1, .pointer (some ⟨b17, 0, none⟩))] (by kernel_rfl) fun a Qf hQ hQn hs => ?_
  refine c_seq ?_
  refine c_seq ?_
  refine c_region ?_
  refine s_load hs (hw.at_ 4 rfl) 0 (by kernel_rfl) (by kernel_rfl) (v := .pointer (some ⟨b19, 0, none⟩)) (by kernel_rfl) fun a hs => ?_
  refine pures hs 1 [0, 1, 6] [(0, .func (.yield n12) #[] #[]), (1, .pointer (some ⟨b17, 0, none⟩)), (6, .bool false)] (by kernel_rfl) fun a hs => ?_
  refine s_end ?_
  refine c_condF hs (by kernel_rfl) (by kernel_rfl) ?_
  refine c_skip ?_
  refine c_seq ?_
  refine c_region ?_
  refine s_load hs (hw.at_ 4 rfl) 0 (by kernel_rfl) (by kernel_rfl) (v := .pointer (some ⟨b19, 0, none⟩)) (by kernel_rfl) fun a hs => ?_
  refine pures hs 2 [0, 9] [(0, .func (.yield n12) #[] #[]), (9, .pointer (some ⟨b19, 2, none⟩))] (by kernel_rfl) fun a hs => ?_
  refine s_load hs (hw.at_ 5 rfl) 2 (by kernel_rfl) (by kernel_rfl) (v := .slice p23 x22.length c24) (by kernel_rfl) fun a hs => ?_
  obtain ⟨y199, h200, hk⟩ := bindE hk
  refine s_call hs (by kernel_rfl) (by kernel_rfl) (slices_Clone_bag_item_int_bag_item_int_s h200 h25.read (memF 6 rfl) ((hw.pick [0, 1, 2, 3, 4, 5, 6, 7] (by kernel_rfl)).pack 0)) fun a w v hv hs => ?_
  obtain ⟨p201, c202, d204, rfl, hw, h203⟩ := hv
  replace hw := hw.unpack 1 rfl
  refine pures hs 2 [0, 11, 12, 13] [(0, .func (.yield n12) #[] #[]), (11, .slice p201 y199.length c202), (12, .int .i64 (y199.length : Int)), (13, .int .i64 0)] (by kernel_rfl) fun a hs => ?_
  refine s_end ?_
  refine c_block ?_
  obtain ⟨y319, hx320, hk⟩ := bindE hk
  obtain ⟨J321, hJ321⟩ : ∃ J : Act → World → Prop, ∀ a w, J a w ↔ (∃ (x312 : List M102) (x318 : Int) (p313 : Option Addr) (c314 : Nat) (d316 : Ch), bag_Bag_int_All_1_r3 x312 x318 = some r ∧ Sees a 25 [] ∧ St g w [bx b2 [.func (.func 31) #[] #[]] 56, bx b4 [.slice p313 x312.length c314] 86, lpo n12 q13 [] x318, bx b17 [.pointer (some ⟨b19, 0, none⟩)] 37, bx b19 [.int .i64 x20, .int .i64 x21, .slice p23 x22.length c24] 88, d316, d26, F] ih ∧ OSl e102 ih p313 c314 x312 d316) := ⟨_, fun _ _ => Iff.rfl⟩
  obtain ⟨I322, hI322⟩ : ∃ J : Nat → Act → World → Prop, ∀ j a w, J j a w ↔ (∃ (x274 : Int) (x275 : List M102) (x281 : Int) (p276 : Option Addr) (c277 : Nat) (d279 : Ch), bag_Bag_int_All_1_l4 y199 j x274 x275 x281 = some y319 ∧ Sees a 25 [(0, .func (.yield n12) #[] #[]), (11, .slice p201 y199.length c202), (12, .int .i64 (y199.length : Int)), (13, .int .i64 x274)] ∧ St g w [bx b2 [.func (.func 31) #[] #[]] 56, bx b4 [.slice p276 x275.length c277] 86, lpo n12 q13 [] x281, bx b17 [.pointer (some ⟨b19, 0, none⟩)] 37, bx b19 [.int .i64 x20, .int .i64 x21, .slice p23 x22.length c24] 88, d204, d279, d26, F] ih ∧ OSl e102 ih p276 c277 x275 d279) := ⟨_, fun _ _ _ => Iff.rfl⟩
  refine c_exitJ 0 J321 ?_ ?_
  · refine c_loop I322 k ((hI322 _ _ _).2 ⟨0, x5, x14, p6, c7, d9, hx320, hs.cast [0, 11, 12, 13] (by kernel_rfl), hw.pick [1, 2, 4, 5, 6, 0, 3, 7, 8] (by kernel_rfl), h8⟩) (fun a w h0 => ?_) fun j a w hh => ?_
    · obtain ⟨_, _, _, _, _, _, h, _⟩ := (hI322 _ _ _).1 h0
      cases h
    · obtain ⟨x274, x275, x281, p276, c277, d279, hx320, hs, hw, h278⟩ := (hI322 _ _ _).1 hh
      refine c_seq ?_
      refine c_region ?_
      refine pures hs 1 [0, 11, 12, 13, 14] [(0, .func (.yield n12) #[] #[]), (11, .slice p201 y199.length c202), (12, .int .i64 (y199.length : Int)), (13, .int .i64 x274), (14, .bool (decide (x274 < (y199.length : Int))))] (by kernel_rfl) fun a hs => ?_
      refine s_end ?_
      refine c_seq ?_
      rcases ifbE hx320 with ⟨h323, hx320⟩ | ⟨h323, hx320⟩
      · refine c_cond1 hs (by kernel_rfl) (t := (decide (x274 < (y199.length : Int)))) (by kernel_rfl) h323 ?_
        refine c_skip ?_
        refine c_seq ?_
        refine c_block ?_
        refine c_seq ?_
        refine c_region ?_
        obtain ⟨x331, h332, hx320⟩ := bindE hx320
        refine s_indexO hs h203 (by kernel_rfl) (by kernel_rfl) (k := .i64) (by kernel_rfl) 102 (by kernel_rfl) (by kernel_rfl) h332 fun a r333 cs henc at334 h335 hs => ?_
        obtain rfl := henc
        refine s_load hs (at334 _ ((hw.vw 5 rfl).anti (Le.refl _))) 0 (by kernel_rfl) (by kernel_rfl) (v := .agg #[.int .i64 x331.f0, .int .i64 x331.f1]) (by kernel_rfl) fun a hs => ?_
        refine s_new hs hw [.int .i64 0, .int .i64 0] 102 (fun b => .pointer (some ⟨b, 0, none⟩)) (by kernel_rfl) (fun _ => by kernel_rfl) fun a w b336 hs hw => ?_
        refine s_store hs hw 0 rfl 0 (by kernel_rfl) (by kernel_rfl) (v := .agg #[.int .i64 x331.f0, .int .i64 x331.f1]) (by kernel_rfl) (by kernel_rfl) (by kernel_rfl) (by kernel_rfl) fun a w hs hw => ?_
        refine s_end ?_
        refine c_seq ?_
        refine c_region ?_
        refine pures hs 2 [0, 11, 12, 13, 4, 17, 18] [(0, .func (.yield n12) #[] #[]), (11, .slice p201 y199.length c202), (12, .int .i64 (y199.length : Int)), (13, .int .i64 x274), (4, .pointer (some ⟨b336, 0, none⟩)), (17, .func (.yield n12) #[] #[]), (18, .pointer (some ⟨b336, 0, none⟩))] (by kernel_rfl) fun a hs => ?_
        refine s_load hs (hw.at_ 0 rfl) 0 (by kernel_rfl) (by kernel_rfl) (v := .int .i64 x331.f0) (by kernel_rfl) fun a hs => ?_
        refine pures hs 1 [0, 11, 12, 13, 17, 19, 20] [(0, .func (.yield n12) #[] #[]), (11, .slice p201 y199.length c202), (12, .int .i64 (y199.length : Int)), (13, .int .i64 x274), (17, .func (.yield n12) #[] #[]), (19, .int .i64 x331.f0), (20, .pointer (some ⟨b336, 1, none⟩))] (by kernel_rfl) fun a hs => ?_
        refine s_load hs (hw.at_ 0 rfl) 1 (by kernel_rfl) (by kernel_rfl) (v := .int .i64 x331.f1) (by kernel_rfl) fun a hs => ?_
        rcases ifbE hx320 with ⟨h345, hx320⟩ | ⟨h345, hx320⟩
        · cases hx320
        · rw [show x281 = 0 by simpa using h345] at hw
          obtain ⟨y346, h347, hx320⟩ := bindE hx320
          refine s_round hs (by kernel_rfl) (by kernel_rfl) hw 3 rfl (args := #[.int .i64 x331.f0, .int .i64 x331.f1]) (by kernel_rfl) (h15 h347 h278 ((hw.pick [1, 2, 7, 3, 4, 5, 6, 8, 9] (by kernel_rfl)).pack 4)) fun a w v hv hs => ?_
          obtain ⟨p348, c349, d351, rfl, hw, h350⟩ := hv
          replace hw := hw.unpack 4 rfl
          refine pures hs 1 [0, 11, 12, 13, 23] [(0, .func (.yield n12) #[] #[]), (11, .slice p201 y199.length c202), (12, .int .i64 (y199.length : Int)), (13, .int .i64 x274), (23, .bool (!y346.1))] (by kernel_rfl) fun a hs => ?_
          refine s_end ?_
          rcases ifbE hx320 with ⟨h352, hx320⟩ | ⟨h352, hx320⟩
          · refine c_cond1 hs (by kernel_rfl) (t := (!y346.1)) (by kernel_rfl) h352 ?_
            refine c_ret ?_
            obtain rfl := someE hx320
            obtain rfl := someE hk
            refine hQ _ _ (f_retN hs [] rfl [] (by kernel_rfl) (by kernel_rfl) ⟨p348, c349, d351, rfl, hw.pick [0, 1, 2, 3, 4, 5, 7, 8] (by kernel_rfl), h350⟩)
          · refine c_cond0 hs (by kernel_rfl) (t := (!y346.1)) (by kernel_rfl) h352 ?_
            refine c_skip ?_
            refine c_region ?_
            refine pures hs 2 [0, 11, 12, 13] [(0, .func (.yield n12) #[] #[]), (11, .slice p201 y199.length c202), (12, .int .i64 (y199.length : Int)), (13, .int .i64 (IntKind.i64.wrap (x274 + 1)))] (by kernel_rfl) fun a hs => ?_
            refine s_end ?_
            exact (hI322 _ _ _).2 ⟨(IntKind.i64.wrap (x274 + 1)), y346.2, 0, p348, c349, d351, hx320, hs.cast [0, 11, 12, 13] (by kernel_rfl), hw.pick [0, 1, 3, 4, 5, 6, 2, 7, 8] (by kernel_rfl), h350⟩
      · refine c_cond0 hs (by kernel_rfl) (t := (decide (x274 < (y199.length : Int)))) (by kernel_rfl) h323 ?_
        refine c_exit ?_
        obtain rfl := someE hx320
        exact (hJ321 _ _).2 ⟨x275, x281, p276, c277, d279, hk, hs.cast [] (by kernel_rfl), hw.pick [0, 1, 2, 3, 4, 6, 7, 8] (by kernel_rfl), h278⟩
  · intro a w hh
    obtain ⟨x312, x318, p313, c314, d316, hk, hs, hw, h315⟩ := (hJ321 _ _).1 hh
    obtain rfl := someE hk
    refine hQn _ _ (f_retN hs [] rfl [] (by kernel_rfl) (by kernel_rfl) ⟨p313, c314, d316, rfl, hw.pick [0, 1, 5, 2, 3, 4, 6, 7] (by kernel_rfl), h315⟩)
def bag_Bag_int_Keep (k : Nat) (x3 : Int) (x4 : Int) (x5 : List M102) : Option (Int × (List M102)) :=
  (bag_Bag_int_All x3 x4 x5).bind fun _ =>
  (bag_Bag_int_All_1 k ([]) 0 x3 x4 x5).bind fun y66 =>
  if (y66.2 == 0) = true then some (IntKind.i64.wrap ((x5.length : Int) - (y66.1.length : Int)), y66.1)
  else none
theorem bag_Bag_int_Keep_s {k : Nat} {x3 : Int} {x4 : Int} {x5 : List M102} {b2 : Nat} {p6 : Option Addr} {c7 : Nat} {d9 : Ch} {r : Int × (List M102)} (hk : bag_Bag_int_Keep k x3 x4 x5 = some r) {g w : World} {F : Ch} {ih : IH} (h8 : OSl e102 ih p6 c7 x5 d9) (hw : St g w [bx b2 [.int .i64 x3, .int .i64 x4, .slice p6 x5.length c7] 88, d9, F] ih) :
    CallsR Try.prog 30 #[.pointer (some ⟨b2, 0, none⟩), .func (.func 31) #[] #[]] w fun v w' => ∃ (p73 : Option Addr) (c74 : Nat) (d75 : Ch), v = .int .i64 r.1 ∧ St g w' [bx b2 [.int .i64 x3, .int .i64 x4, .slice p73 r.2.length c74] 88, d75, F] ih ∧ OSl e102 ih p73 c74 r.2 d75 := by
  refine f_inM (vs := [.pointer (some ⟨b2, 0, none⟩), .func (.func 31) #[] #[]]) Try.func30 rfl 38 rfl (by kernel_rfl) [(0, .pointer (some ⟨b2, 0, none⟩)), (1, .func (.func 31) #[] #[])] (by kernel_rfl) fun a Qf hQ hQn hs => ?_
  refine c_seq ?_
  refine c_region ?_
  refine s_new hs hw [.func (.func 31) #[] #[]] 56 (fun b => .pointer (some ⟨b, 0, none⟩)) (by kernel_rfl) (fun _ => by kernel_rfl) fun a w b45 hs hw => ?_
  refine pures hs 1 [0, 3] [(0, .pointer (some ⟨b2, 0, none⟩)), (3, .pointer (some ⟨b45, 0, none⟩))] (by kernel_rfl) fun a hs => ?_
  refine s_end ?_
  refine c_seq ?_
  refine c_seq ?_
  refine c_region ?_
  refine pures hs 2 [0, 3, 10] [(0, .pointer (some ⟨b2, 0, none⟩)), (3, .pointer (some ⟨b45, 0, none⟩)), (10, .bool false)] (by kernel_rfl) fun a hs => ?_
  refine s_end ?_
  refine c_condF hs (by kernel_rfl) (by kernel_rfl) ?_
  refine c_skip ?_
  refine c_seq ?_
  refine c_region ?_
  refine pures hs 3 [0, 3, 13] [(0, .pointer (some ⟨b2, 0, none⟩)), (3, .pointer (some ⟨b45, 0, none⟩)), (13, .pointer (some ⟨b2, 2, none⟩))] (by kernel_rfl) fun a hs => ?_
  refine s_load hs (hw.at_ 1 rfl) 2 (by kernel_rfl) (by kernel_rfl) (v := .slice p6 x5.length c7) (by kernel_rfl) fun a hs => ?_
  refine pures hs 2 [0, 3, 5] [(0, .pointer (some ⟨b2, 0, none⟩)), (3, .pointer (some ⟨b45, 0, none⟩)), (5, .int .i64 (x5.length : Int))] (by kernel_rfl) fun a hs => ?_
  refine s_end ?_
  refine c_seq ?_
  refine c_region ?_
  refine s_new hs hw [.slice none 0 0] 86 (fun b => .pointer (some ⟨b, 0, none⟩)) (by kernel_rfl) (fun _ => by kernel_rfl) fun a w b49 hs hw => ?_
  refine s_end ?_
  refine c_seq ?_
  refine c_seq ?_
  refine c_region ?_
  refine pures hs 1 [0, 3, 5, 6, 16] [(0, .pointer (some ⟨b2, 0, none⟩)), (3, .pointer (some ⟨b45, 0, none⟩)), (5, .int .i64 (x5.length : Int)), (6, .pointer (some ⟨b49, 0, none⟩)), (16, .pointer (some ⟨b2, 0, none⟩))] (by kernel_rfl) fun a hs => ?_
  obtain ⟨y55, h56, hk⟩ := bindE hk
  refine s_call hs (by kernel_rfl) (by kernel_rfl) (bag_Bag_int_All_s h56 h8 ((hw.pick [2, 3, 0, 1, 4] (by kernel_rfl)).pack 2)) fun a w v hv hs => ?_
  obtain ⟨b57, rfl, hw⟩ := hv
  replace hw := hw.unpack 3 rfl
  refine s_end ?_
  refine c_block ?_
  replace hw := hw.nil
  obtain ⟨y66, h67, hk⟩ := bindE hk
  refine c_range hs (by kernel_rfl) (gf := 65) (cap := #[.pointer (some ⟨b57, 0, none⟩)]) (by kernel_rfl) (fun l => #[.func (.yield l) #[] #[], .pointer (some ⟨b57, 0, none⟩)]) (fun _ => rfl) (fun _ _ => rfl) hw [] ?_
  intro n62 q63 w ht hps hasg hbdy hw
  refine have_then (p := bag_Bag_int_Keep_round_C n62 q63 b45 b49) ?_ fun h65 => ?_
  · intro x50001 x50002 x50007 p50008 c50009 d50011 r hk g w F ih h50010 hw
    refine f_round hs ht [18, 19] hps (by kernel_rfl) (by kernel_rfl) [18, 19, 3, 6] (e := [(18, .int .i64 x50001), (19, .int .i64 x50002), (3, .pointer (some ⟨b45, 0, none⟩)), (6, .pointer (some ⟨b49, 0, none⟩))]) (by kernel_rfl) hw 3 rfl fun a Qr hQr hs => ?_
    rw [hasg, hbdy]
    refine c_seq ?_
    refine c_region ?_
    refine pures hs 1 [19, 3, 6, 7] [(19, .int .i64 x50002), (3, .pointer (some ⟨b45, 0, none⟩)), (6, .pointer (some ⟨b49, 0, none⟩)), (7, .int .i64 x50001)] (by kernel_rfl) fun a hs => ?_
    refine s_end ?_
    refine c_region ?_
    refine pures hs 1 [3, 6, 7, 8] [(3, .pointer (some ⟨b45, 0, none⟩)), (6, .pointer (some ⟨b49, 0, none⟩)), (7, .int .i64 x50001), (8, .int .i64 x50002)] (by kernel_rfl) fun a hs => ?_
    refine s_end ?_
    refine begin_round hw 3 rfl fun w hw => ?_
    refine c_block ?_
    refine c_seq ?_
    refine c_region ?_
    refine s_load hs (hw.at_ 0 rfl) 0 (by kernel_rfl) (by kernel_rfl) (v := .func (.func 31) #[] #[]) (by kernel_rfl) fun a hs => ?_
    refine pures hs 2 [6, 7, 8, 20, 21, 22] [(6, .pointer (some ⟨b49, 0, none⟩)), (7, .int .i64 x50001), (8, .int .i64 x50002), (20, .func (.func 31) #[] #[]), (21, .int .i64 x50001), (22, .int .i64 x50002)] (by kernel_rfl) fun a hs => ?_
    obtain ⟨y50041, h50042, hk⟩ := bindE hk
    refine s_call hs (by kernel_rfl) (by kernel_rfl) (catenarylaw06_odd_s h50042 ((hw.pick [0, 1, 2, 3, 4] (by kernel_rfl)).pack 0)) fun a w v hv hs => ?_
    obtain ⟨rfl, hw⟩ := hv
    replace hw := hw.unpack 0 rfl
    refine s_end ?_
    rcases ifbE hk with ⟨h50043, hk⟩ | ⟨h50043, hk⟩
    · refine c_cond1 hs (by kernel_rfl) (t := y50041) (by kernel_rfl) h50043 ?_
      refine c_region ?_
      refine s_load hs (hw.at_ 1 rfl) 0 (by kernel_rfl) (by kernel_rfl) (v := .slice p50008 x50007.length c50009) (by kernel_rfl) fun a hs => ?_
      refine pures hs 3 [6, 24, 27] [(6, .pointer (some ⟨b49, 0, none⟩)), (24, .slice p50008 x50007.length c50009), (27, .agg #[.int .i64 x50001, .int .i64 x50002])] (by kernel_rfl) fun a hs => ?_
      refine s_new hs hw [.int .i64 x50001, .int .i64 x50002] 102 (fun b => .slice (some ⟨b, 0, none⟩) 1 1) (by kernel_rfl) (fun _ => by kernel_rfl) fun a w b50052 hs hw => ?_
      obtain ⟨x50054, h50055, hk⟩ := bindE hk
      refine s_app1 hs hw (E := e102) appT86 3 rfl h50010 (by kernel_rfl) (by kernel_rfl) (c2 := 1) (by kernel_rfl) (hw.at_ 0 rfl) (z := (M102.mk x50001 x50002)) rfl h50055 fun a w p50056 c50057 d50058 h50059 hw hs => ?_
      refine s_store hs hw 2 rfl 0 (by kernel_rfl) (by kernel_rfl) (v := .slice p50056 x50054.length c50057) (by kernel_rfl) (by kernel_rfl) (by kernel_rfl) (by kernel_rfl) fun a w hs hw => ?_
      refine s_end ?_
      obtain rfl := someE hk
      exact hQr _ _ _ (end_round [] hw 4 rfl fun w hw => ⟨p50056, c50057, d50058, rfl, hw.pick [1, 2, 3, 4, 5] (by kernel_rfl), h50059⟩)
    · refine c_cond0 hs (by kernel_rfl) (t := y50041) (by kernel_rfl) h50043 ?_
      refine c_skip ?_
      obtain rfl := someE hk
      exact hQr _ _ _ (end_round [] hw 3 rfl fun w hw => ⟨p50008, c50009, d50011, rfl, hw.pick [0, 1, 2, 3, 4] (by kernel_rfl), h50010⟩)
  · refine CallsR.mono (bag_Bag_int_All_1_s h67 (OSl.nil _ _) h65 h8 ((hw.pick [7, 6, 2, 0, 3, 4, 5, 1, 8] (by kernel_rfl)).pack 7)) fun v w hv => ?_
    obtain ⟨p68, c69, d71, rfl, hw, h70⟩ := hv
    replace hw := hw.unpack 7 rfl
    refine ⟨y66.2, [bx b45 [.func (.func 31) #[] #[]] 56, bx b49 [.slice p68 y66.1.length c69] 86, d71, lpo n62 q63 [] y66.2, bx b57 [.pointer (some ⟨b2, 0, none⟩)] 37, bx b2 [.int .i64 x3, .int .i64 x4, .slice p6 x5.length c7] 88, d9, dfo q63.df, F], ih, 3, hw, rfl, fun a w hs hw => ?_⟩
    replace hw := hw.pick [0, 1, 2, 4, 5, 6, 7, 8] (by kernel_rfl)
    rcases ifbE hk with ⟨h72, hk⟩ | ⟨h72, hk⟩
    · refine range_none h72 ?_
      refine c_seq ?_
      refine c_region ?_
      refine pures hs 1 [5, 6, 30] [(5, .int .i64 (x5.length : Int)), (6, .pointer (some ⟨b49, 0, none⟩)), (30, .pointer (some ⟨b2, 0, none⟩))] (by kernel_rfl) fun a hs => ?_
      refine s_load hs (hw.at_ 1 rfl) 0 (by kernel_rfl) (by kernel_rfl) (v := .slice p68 y66.1.length c69) (by kernel_rfl) fun a hs => ?_
      refine pures hs 2 [5, 6, 31, 33] [(5, .int .i64 (x5.length : Int)), (6, .pointer (some ⟨b49, 0, none⟩)), (31, .slice p68 y66.1.length c69), (33, .pointer (some ⟨b2, 2, none⟩))] (by kernel_rfl) fun a hs => ?_
      refine s_store hs hw 4 rfl 2 (by kernel_rfl) (by kernel_rfl) (v := .slice p68 y66.1.length c69) (by kernel_rfl) (by kernel_rfl) (by kernel_rfl) (by kernel_rfl) fun a w hs hw => ?_
      refine s_end ?_
      refine c_seq ?_
      refine c_region ?_
      refine pures hs 1 [6, 34] [(6, .pointer (some ⟨b49, 0, none⟩)), (34, .int .i64 (x5.length : Int))] (by kernel_rfl) fun a hs => ?_
      refine s_load hs (hw.at_ 1 rfl) 0 (by kernel_rfl) (by kernel_rfl) (v := .slice p68 y66.1.length c69) (by kernel_rfl) fun a hs => ?_
      refine pures hs 3 [4] [(4, .int .i64 (IntKind.i64.wrap ((x5.length : Int) - (y66.1.length : Int))))] (by kernel_rfl) fun a hs => ?_
      refine s_end ?_
      refine c_ret ?_
      obtain rfl := someE hk
      refine hQ _ _ (f_retM hs hw 6 rfl fun a w hs hw => (f_ret1 hs rfl (v := .int .i64 (IntKind.i64.wrap ((x5.length : Int) - (y66.1.length : Int)))) (by kernel_rfl) ⟨p68, c69, d71, rfl, hw.pick [4, 2, 7] (by kernel_rfl), h70⟩))
    · cases hk
def bag_Bag_int_No (x3 : Int) (x4 : Int) (x5 : List M102) (x11 : Int) : Option Int :=
  (bag_Bag_int_has x3 x4 x5 x11).bind fun y31 =>
  if (!y31) = true then some 0
  else (ix x5 x11).bind fun x39 =>
  some x39.f0
theorem bag_Bag_int_No_s {x3 : Int} {x4 : Int} {x5 : List M102} {x11 : Int} {b2 : Nat} {p6 : Option Addr} {c7 : Nat} {d9 : Ch} {r : Int} (hk : bag_Bag_int_No x3 x4 x5 x11 = some r) {g w : World} {F : Ch} {ih : IH} (h8 : OSl e102 ih p6 c7 x5 d9) (hw : St g w [bx b2 [.int .i64 x3, .int .i64 x4, .slice p6 x5.length c7] 88, d9, F] ih) :
    CallsR Try.prog 27 #[.pointer (some ⟨b2, 0, none⟩), .int .i64 x11] w fun v w' => v = .int .i64 r ∧ St g w' [bx b2 [.int .i64 x3, .int .i64 x4, .slice p6 x5.length c7] 88, d9, F] ih := by
  refine f_in (vs := [.pointer (some ⟨b2, 0, none⟩), .int .i64 x11]) Try.func27 rfl 17 rfl (by kernel_rfl) [(0, .pointer (some ⟨b2, 0, none⟩)), (1, .int .i64 x11)] (by kernel_rfl) fun a Qf hQ hQn hs => ?_
  refine c_seq ?_
  refine c_region ?_
  refine pures hs 1 [0, 1] [(0, .pointer (some ⟨b2, 0, none⟩)), (1, .int .i64 x11)] (by kernel_rfl) fun a hs => ?_
  refine s_end ?_
  refine c_seq ?_
  refine c_seq ?_
  refine c_region ?_
  refine pures hs 2 [0, 1, 5, 6] [(0, .pointer (some ⟨b2, 0, none⟩)), (1, .int .i64 x11), (5, .pointer (some ⟨b2, 0, none⟩)), (6, .int .i64 x11)] (by kernel_rfl) fun a hs => ?_
  obtain ⟨y31, h32, hk⟩ := bindE hk
  refine s_call hs (by kernel_rfl) (by kernel_rfl) (bag_Bag_int_has_s h32 h8 ((hw.pick [0, 1, 2] (by kernel_rfl)).pack 2)) fun a w v hv hs => ?_
  obtain ⟨rfl, hw⟩ := hv
  replace hw := hw.unpack 2 rfl
  refine pures hs 1 [0, 1, 8] [(0, .pointer (some ⟨b2, 0, none⟩)), (1, .int .i64 x11), (8, .bool (!y31))] (by kernel_rfl) fun a hs => ?_
  refine s_end ?_
  rcases ifbE hk with ⟨h33, hk⟩ | ⟨h33, hk⟩
  · refine c_cond1 hs (by kernel_rfl) (t := (!y31)) (by kernel_rfl) h33 ?_
    refine c_seq ?_
    refine c_region ?_
    refine pures hs 1 [4] [(4, .int .i64 0)] (by kernel_rfl) fun a hs => ?_
    refine s_end ?_
    refine c_ret ?_
    obtain rfl := someE hk
    refine hQ _ _ (f_ret1 hs rfl (v := .int .i64 0) (by kernel_rfl) ⟨rfl, hw.pick [0, 1, 2] (by kernel_rfl)⟩)
  · refine c_cond0 hs (by kernel_rfl) (t := (!y31)) (by kernel_rfl) h33 ?_
    refine c_skip ?_
    refine c_seq ?_
    refine c_region ?_
    refine pures hs 3 [1, 11] [(1, .int .i64 x11), (11, .pointer (some ⟨b2, 2, none⟩))] (by kernel_rfl) fun a hs => ?_
    refine s_load hs (hw.at_ 0 rfl) 2 (by kernel_rfl) (by kernel_rfl) (v := .slice p6 x5.length c7) (by kernel_rfl) fun a hs => ?_
    refine pures hs 1 [12, 13] [(12, .slice p6 x5.length c7), (13, .int .i64 x11)] (by kernel_rfl) fun a hs => ?_
    obtain ⟨x39, h40, hk⟩ := bindE hk
    refine s_indexO hs h8 (by kernel_rfl) (by kernel_rfl) (k := .i64) (by kernel_rfl) 102 (by kernel_rfl) (by kernel_rfl) h40 fun a r41 cs henc at42 h43 hs => ?_
    obtain rfl := henc
    refine pures hs 1 [15] [(15, .pointer (some r41))] (by kernel_rfl) fun a hs => ?_
    refine s_load hs (at42 _ ((hw.vw 1 rfl).anti (Le.refl _))) 0 (by kernel_rfl) (by kernel_rfl) (v := .int .i64 x39.f0) (by kernel_rfl) fun a hs => ?_
    refine pures hs 1 [4] [(4, .int .i64 x39.f0)] (by kernel_rfl) fun a hs => ?_
    refine s_end ?_
    refine c_ret ?_
    obtain rfl := someE hk
    refine hQ _ _ (f_ret1 hs rfl (v := .int .i64 x39.f0) (by kernel_rfl) ⟨rfl, hw.pick [0, 1, 2] (by kernel_rfl)⟩)
def bag_Bag_int_Upto_1 (x1 : M102) (x2 : Int) : Option Int :=
  some (IntKind.i64.wrap (x1.f0 - (if 0 > x2 then 0 else x2)))
theorem bag_Bag_int_Upto_1_s {x1 : M102} {x2 : Int} {r : Int} (hk : bag_Bag_int_Upto_1 x1 x2 = some r) {g w : World} {F : Ch} {ih : IH} (hw : St g w [F] ih) :
    CallsR Try.prog 68 #[.agg #[.int .i64 x1.f0, .int .i64 x1.f1], .int .i64 x2] w fun v w' => v = .int .i64 r ∧ St g w' [F] ih := by
  refine f_in (vs := [.agg #[.int .i64 x1.f0, .int .i64 x1.f1], .int .i64 x2]) Try.func68 rfl 10 rfl (by kernel_rfl) [(0, .agg #[.int .i64 x1.f0, .int .i64 x1.f1]), (1, .int .i64 x2)] (by kernel_rfl) fun a Qf hQ hQn hs => ?_
  refine c_seq ?_
  refine c_region ?_
  refine s_new hs hw [.int .i64 x1.f0, .int .i64 x1.f1] 102 (fun b => .pointer (some ⟨b, 0, none⟩)) (by kernel_rfl) (fun _ => by kernel_rfl) fun a w b11 hs hw => ?_
  refine pures hs 1 [1, 2] [(1, .int .i64 x2), (2, .pointer (some ⟨b11, 0, none⟩))] (by kernel_rfl) fun a hs => ?_
  refine s_end ?_
  refine c_seq ?_
  refine c_region ?_
  refine pures hs 1 [1, 5] [(1, .int .i64 x2), (5, .pointer (some ⟨b11, 0, none⟩))] (by kernel_rfl) fun a hs => ?_
  refine s_load hs (hw.at_ 0 rfl) 0 (by kernel_rfl) (by kernel_rfl) (v := .int .i64 x1.f0) (by kernel_rfl) fun a hs => ?_
  refine pures hs 4 [4] [(4, .int .i64 (IntKind.i64.wrap (x1.f0 - (if 0 > x2 then 0 else x2))))] (by kernel_rfl) fun a hs => ?_
  refine s_end ?_
  refine c_ret ?_
  obtain rfl := someE hk
  refine hQ _ _ (f_ret1 hs rfl (v := .int .i64 (IntKind.i64.wrap (x1.f0 - (if 0 > x2 then 0 else x2)))) (by kernel_rfl) ⟨rfl, hw.pick [1] (by kernel_rfl)⟩)
def slices_BinarySearchFunc_bag_item_int_bag_item_int_int_r4 (x148 : Int) (x163 : Bool) : Option (Int × Bool) :=
  some (x148, x163)
def slices_BinarySearchFunc_bag_item_int_bag_item_int_int_r5 (x1 : List M102) (x7 : Int) (x148 : Int) : Option (Int × Bool) :=
  (if (decide (x148 < (x1.length : Int))) = true then (
      (ix x1 x148).bind fun x168 =>
      (bag_Bag_int_Upto_1 x168 x7).bind fun y172 =>
      some (y172 == 0))
    else some false : Option Bool).bind fun s174 => slices_BinarySearchFunc_bag_item_int_bag_item_int_int_r4 x148 s174
def slices_BinarySearchFunc_bag_item_int_bag_item_int_int_l6 (x1 : List M102) (x7 : Int) : Nat → Int → Int → Option Int
  | 0, _, _ => none
  | j + 1, x132, x133 =>
    if (decide (x132 < x133)) = true then (
      (ix x1 (IntKind.i64.wrap ((IntKind.u64.wrap (IntKind.i64.wrap (x132 + x133))).fdiv (2 ^ 1)))).bind fun x186 =>
      (bag_Bag_int_Upto_1 x186 x7).bind fun y190 =>
      if (decide (y190 < 0)) = true then slices_BinarySearchFunc_bag_item_int_bag_item_int_int_l6 x1 x7 j (IntKind.i64.wrap ((IntKind.i64.wrap ((IntKind.u64.wrap (IntKind.i64.wrap (x132 + x133))).fdiv (2 ^ 1))) + 1)) x133
      else slices_BinarySearchFunc_bag_item_int_bag_item_int_int_l6 x1 x7 j x132 (IntKind.i64.wrap ((IntKind.u64.wrap (IntKind.i64.wrap (x132 + x133))).fdiv (2 ^ 1))))
    else some x132
def slices_BinarySearchFunc_bag_item_int_bag_item_int_int (k : Nat) (x1 : List M102) (x7 : Int) : Option (Int × Bool) :=
  (slices_BinarySearchFunc_bag_item_int_bag_item_int_int_l6 x1 x7 k 0 (x1.length : Int) : Option Int).bind fun s193 => slices_BinarySearchFunc_bag_item_int_bag_item_int_int_r5 x1 x7 s193
theorem slices_BinarySearchFunc_bag_item_int_bag_item_int_int_s {k : Nat} {x1 : List M102} {x7 : Int} {p2 : Option Addr} {c3 : Nat} {d5 : Ch} {r : Int × Bool} (hk : slices_BinarySearchFunc_bag_item_int_bag_item_int_int k x1 x7 = some r) {g w : World} {F : Ch} {ih : IH} (h4 : RSl e102 ih d5 p2 c3 x1) (h6 : ∀ q ∈ d5, q ∈ F) (hw : St g w [F] ih) :
    CallsR Try.prog 67 #[.slice p2 x1.length c3, .int .i64 x7, .func (.func 68) #[] #[]] w fun v w' => v = .tuple #[.int .i64 r.1, .bool r.2] ∧ St g w' [F] ih := by
  refine f_in (vs := [.slice p2 x1.length c3, .int .i64 x7, .func (.func 68) #[] #[]]) Try.func67 rfl 49 rfl (by kernel_rfl) [(0, .slice p2 x1.length c3), (1, .int .i64 x7), (2, .func (.func 68) #[] #[])] (by kernel_rfl) fun a Qf hQ hQn hs => ?_
  refine c_seq ?_
  refine c_region ?_
  refine pures hs 2 [0, 1, 2] [(0, .slice p2 x1.length c3), (1, .int .i64 x7), (2, .func (.func 68) #[] #[])] (by kernel_rfl) fun a hs => ?_
  refine s_end ?_
  refine c_seq ?_
  refine c_region ?_
  refine pures hs 3 [0, 1, 2, 8] [(0, .slice p2 x1.length c3), (1, .int .i64 x7), (2, .func (.func 68) #[] #[]), (8, .int .i64 (x1.length : Int))] (by kernel_rfl) fun a hs => ?_
  refine s_end ?_
  refine c_seq ?_
  refine c_region ?_
  refine pures hs 3 [0, 1, 2, 8, 9, 10] [(0, .slice p2 x1.length c3), (1, .int .i64 x7), (2, .func (.func 68) #[] #[]), (8, .int .i64 (x1.length : Int)), (9, .int .i64 0), (10, .int .i64 (x1.length : Int))] (by kernel_rfl) fun a hs => ?_
  refine s_end ?_
  refine c_seq ?_
  refine c_block ?_
  obtain ⟨y175, hx176, hk⟩ := bindE hk
  obtain ⟨J177, hJ177⟩ : ∃ J : Act → World → Prop, ∀ a w, J a w ↔ (∃ (x148 : Int), slices_BinarySearchFunc_bag_item_int_bag_item_int_int_r5 x1 x7 x148 = some r ∧ Sees a 49 [(0, .slice p2 x1.length c3), (1, .int .i64 x7), (2, .func (.func 68) #[] #[]), (8, .int .i64 (x1.length : Int)), (9, .int .i64 x148)] ∧ St g w [F] ih) := ⟨_, fun _ _ => Iff.rfl⟩
  obtain ⟨I178, hI178⟩ : ∃ J : Nat → Act → World → Prop, ∀ j a w, J j a w ↔ (∃ (x132 : Int) (x133 : Int), slices_BinarySearchFunc_bag_item_int_bag_item_int_int_l6 x1 x7 j x132 x133 = some y175 ∧ Sees a 49 [(0, .slice p2 x1.length c3), (1, .int .i64 x7), (2, .func (.func 68) #[] #[]), (8, .int .i64 (x1.length : Int)), (9, .int .i64 x132), (10, .int .i64 x133)] ∧ St g w [F] ih) := ⟨_, fun _ _ _ => Iff.rfl⟩
  refine c_exitJ 0 J177 ?_ ?_
  · refine c_loop I178 k ((hI178 _ _ _).2 ⟨0, (x1.length : Int), hx176, hs.cast [0, 1, 2, 8, 9, 10] (by kernel_rfl), hw.pick [0] (by kernel_rfl)⟩) (fun a w h0 => ?_) fun j a w hh => ?_
    · obtain ⟨_, _, h, _⟩ := (hI178 _ _ _).1 h0
      cases h
    · obtain ⟨x132, x133, hx176, hs, hw⟩ := (hI178 _ _ _).1 hh
      refine c_seq ?_
      refine c_seq ?_
      refine c_region ?_
      refine pures hs 3 [0, 1, 2, 8, 9, 10, 17] [(0, .slice p2 x1.length c3), (1, .int .i64 x7), (2, .func (.func 68) #[] #[]), (8, .int .i64 (x1.length : Int)), (9, .int .i64 x132), (10, .int .i64 x133), (17, .bool (decide (x132 < x133)))] (by kernel_rfl) fun a hs => ?_
      refine s_end ?_
      rcases ifbE hx176 with ⟨h179, hx176⟩ | ⟨h179, hx176⟩
      · refine c_cond1 hs (by kernel_rfl) (t := (decide (x132 < x133))) (by kernel_rfl) h179 ?_
        refine c_skip ?_
        refine c_block ?_
        refine c_seq ?_
        refine c_region ?_
        refine pures hs 7 [0, 1, 2, 8, 9, 10, 11] [(0, .slice p2 x1.length c3), (1, .int .i64 x7), (2, .func (.func 68) #[] #[]), (8, .int .i64 (x1.length : Int)), (9, .int .i64 x132), (10, .int .i64 x133), (11, .int .i64 (IntKind.i64.wrap ((IntKind.u64.wrap (IntKind.i64.wrap (x132 + x133))).fdiv (2 ^ 1))))] (by kernel_rfl) fun a hs => ?_
        refine s_end ?_
        refine c_seq ?_
        refine c_region ?_
        refine pures hs 3 [0, 1, 2, 8, 9, 10, 11, 24, 25, 26] [(0, .slice p2 x1.length c3), (1, .int .i64 x7), (2, .func (.func 68) #[] #[]), (8, .int .i64 (x1.length : Int)), (9, .int .i64 x132), (10, .int .i64 x133), (11, .int .i64 (IntKind.i64.wrap ((IntKind.u64.wrap (IntKind.i64.wrap (x132 + x133))).fdiv (2 ^ 1)))), (24, .func (.func 68) #[] #[]), (25, .slice p2 x1.length c3), (26, .int .i64 (IntKind.i64.wrap ((IntKind.u64.wrap (IntKind.i64.wrap (x132 + x133))).fdiv (2 ^ 1))))] (by kernel_rfl) fun a hs => ?_
        obtain ⟨x186, h187, hx176⟩ := bindE hx176
        refine s_index hs h4 (by kernel_rfl) (by kernel_rfl) (k := .i64) (by kernel_rfl) 102 (by kernel_rfl) (by kernel_rfl) h187 fun a r188 cs henc at189 hs => ?_
        obtain rfl := henc
        refine s_load hs (at189 _ (((hw.vw 0 rfl).sub h6).anti (Le.refl _))) 0 (by kernel_rfl) (by kernel_rfl) (v := .agg #[.int .i64 x186.f0, .int .i64 x186.f1]) (by kernel_rfl) fun a hs => ?_
        refine pures hs 1 [0, 1, 2, 8, 9, 10, 11, 24, 28, 29] [(0, .slice p2 x1.length c3), (1, .int .i64 x7), (2, .func (.func 68) #[] #[]), (8, .int .i64 (x1.length : Int)), (9, .int .i64 x132), (10, .int .i64 x133), (11, .int .i64 (IntKind.i64.wrap ((IntKind.u64.wrap (IntKind.i64.wrap (x132 + x133))).fdiv (2 ^ 1)))), (24, .func (.func 68) #[] #[]), (28, .agg #[.int .i64 x186.f0, .int .i64 x186.f1]), (29, .int .i64 x7)] (by kernel_rfl) fun a hs => ?_
        obtain ⟨y190, h191, hx176⟩ := bindE hx176
        refine s_call hs (by kernel_rfl) (by kernel_rfl) (bag_Bag_int_Upto_1_s h191 ((hw.pick [0] (by kernel_rfl)).pack 0)) fun a w v hv hs => ?_
        obtain ⟨rfl, hw⟩ := hv
        replace hw := hw.unpack 0 rfl
        refine pures hs 1 [0, 1, 2, 8, 9, 10, 11, 31] [(0, .slice p2 x1.length c3), (1, .int .i64 x7), (2, .func (.func 68) #[] #[]), (8, .int .i64 (x1.length : Int)), (9, .int .i64 x132), (10, .int .i64 x133), (11, .int .i64 (IntKind.i64.wrap ((IntKind.u64.wrap (IntKind.i64.wrap (x132 + x133))).fdiv (2 ^ 1)))), (31, .bool (decide (y190 < 0)))] (by kernel_rfl) fun a hs => ?_
        refine s_end ?_
        rcases ifbE hx176 with ⟨h192, hx176⟩ | ⟨h192, hx176⟩
        · refine c_cond1 hs (by kernel_rfl) (t := (decide (y190 < 0))) (by kernel_rfl) h192 ?_
          refine c_region ?_
          refine pures hs 3 [0, 1, 2, 8, 9, 10] [(0, .slice p2 x1.length c3), (1, .int .i64 x7), (2, .func (.func 68) #[] #[]), (8, .int .i64 (x1.length : Int)), (9, .int .i64 (IntKind.i64.wrap ((IntKind.i64.wrap ((IntKind.u64.wrap (IntKind.i64.wrap (x132 + x133))).fdiv (2 ^ 1))) + 1))), (10, .int .i64 x133)] (by kernel_rfl) fun a hs => ?_
          refine s_end ?_
          exact (hI178 _ _ _).2 ⟨(IntKind.i64.wrap ((IntKind.i64.wrap ((IntKind.u64.wrap (IntKind.i64.wrap (x132 + x133))).fdiv (2 ^ 1))) + 1)), x133, hx176, hs.cast [0, 1, 2, 8, 9, 10] (by kernel_rfl), hw.pick [0] (by kernel_rfl)⟩
        · refine c_cond0 hs (by kernel_rfl) (t := (decide (y190 < 0))) (by kernel_rfl) h192 ?_
          refine c_region ?_
          refine pures hs 2 [0, 1, 2, 8, 9, 10] [(0, .slice p2 x1.length c3), (1, .int .i64 x7), (2, .func (.func 68) #[] #[]), (8, .int .i64 (x1.length : Int)), (9, .int .i64 x132), (10, .int .i64 (IntKind.i64.wrap ((IntKind.u64.wrap (IntKind.i64.wrap (x132 + x133))).fdiv (2 ^ 1))))] (by kernel_rfl) fun a hs => ?_
          refine s_end ?_
          exact (hI178 _ _ _).2 ⟨x132, (IntKind.i64.wrap ((IntKind.u64.wrap (IntKind.i64.wrap (x132 + x133))).fdiv (2 ^ 1))), hx176, hs.cast [0, 1, 2, 8, 9, 10] (by kernel_rfl), hw.pick [0] (by kernel_rfl)⟩
      · refine c_cond0 hs (by kernel_rfl) (t := (decide (x132 < x133))) (by kernel_rfl) h179 ?_
        refine c_exit ?_
        obtain rfl := someE hx176
        exact (hJ177 _ _).2 ⟨x132, hk, hs.cast [0, 1, 2, 8, 9] (by kernel_rfl), hw.pick [0] (by kernel_rfl)⟩
  · intro a w hh
    obtain ⟨x148, hk, hs, hw⟩ := (hJ177 _ _).1 hh
    refine c_seq ?_
    obtain ⟨y164, hx165, hk⟩ := bindE hk
    obtain ⟨J166, hJ166⟩ : ∃ J : Act → World → Prop, ∀ a w, J a w ↔ (∃ (x163 : Bool), slices_BinarySearchFunc_bag_item_int_bag_item_int_int_r4 x148 x163 = some r ∧ Sees a 49 [(6, .int .i64 x148), (7, .bool x163)] ∧ St g w [F] ih) := ⟨_, fun _ _ => Iff.rfl⟩
    refine c_regJ J166 ?_ ?_
    · refine pures hs 5 [0, 1, 2, 9, 35, 39] [(0, .slice p2 x1.length c3), (1, .int .i64 x7), (2, .func (.func 68) #[] #[]), (9, .int .i64 x148), (35, .int .i64 x148), (39, .bool (decide (x148 < (x1.length : Int))))] (by kernel_rfl) fun a hs => ?_
      rcases ifbE hx165 with ⟨h167, hx165⟩ | ⟨h167, hx165⟩
      · replace hs := hs.altB 39 true (by kernel_rfl) h167
        refine pures hs 3 [1, 35, 39, 40, 41, 42] [(1, .int .i64 x7), (35, .int .i64 x148), (39, .bool true), (40, .func (.func 68) #[] #[]), (41, .slice p2 x1.length c3), (42, .int .i64 x148)] (by kernel_rfl) fun a hs => ?_
        obtain ⟨x168, h169, hx165⟩ := bindE hx165
        refine s_index hs h4 (by kernel_rfl) (by kernel_rfl) (k := .i64) (by kernel_rfl) 102 (by kernel_rfl) (by kernel_rfl) h169 fun a r170 cs henc at171 hs => ?_
        obtain rfl := henc
        refine s_load hs (at171 _ (((hw.vw 0 rfl).sub h6).anti (Le.refl _))) 0 (by kernel_rfl) (by kernel_rfl) (v := .agg #[.int .i64 x168.f0, .int .i64 x168.f1]) (by kernel_rfl) fun a hs => ?_
        refine pures hs 1 [35, 39, 40, 44, 45] [(35, .int .i64 x148), (39, .bool true), (40, .func (.func 68) #[] #[]), (44, .agg #[.int .i64 x168.f0, .int .i64 x168.f1]), (45, .int .i64 x7)] (by kernel_rfl) fun a hs => ?_
        obtain ⟨y172, h173, hx165⟩ := bindE hx165
        refine s_call hs (by kernel_rfl) (by kernel_rfl) (bag_Bag_int_Upto_1_s h173 ((hw.pick [0] (by kernel_rfl)).pack 0)) fun a w v hv hs => ?_
        obtain ⟨rfl, hw⟩ := hv
        replace hw := hw.unpack 0 rfl
        refine pures hs 4 [6, 7] [(6, .int .i64 x148), (7, .bool (y172 == 0))] (by kernel_rfl) fun a hs => ?_
        refine s_end ?_
        obtain rfl := someE hx165
        exact (hJ166 _ _).2 ⟨(y172 == 0), hk, hs.cast [6, 7] (by kernel_rfl), hw.pick [0] (by kernel_rfl)⟩
      · replace hs := hs.altB 39 false (by kernel_rfl) h167
        refine pures hs 11 [6, 7] [(6, .int .i64 x148), (7, .bool false)] (by kernel_rfl) fun a hs => ?_
        refine s_end ?_
        obtain rfl := someE hx165
        exact (hJ166 _ _).2 ⟨false, hk, hs.cast [6, 7] (by kernel_rfl), hw.pick [0] (by kernel_rfl)⟩
    · intro a w hh
      obtain ⟨x163, hk, hs, hw⟩ := (hJ166 _ _).1 hh
      refine c_ret ?_
      obtain rfl := someE hk
      refine hQ _ _ (f_retN hs [.tmp 6, .tmp 7] rfl [.int .i64 x148, .bool x163] (by kernel_rfl) (by kernel_rfl) ⟨rfl, hw.pick [0] (by kernel_rfl)⟩)
def bag_Bag_int_Upto_r2 (x30 : Int) : Option Int :=
  some x30
def bag_Bag_int_Upto (k : Nat) (x3 : Int) (x4 : Int) (x5 : List M102) (x11 : Int) : Option Int :=
  (slices_BinarySearchFunc_bag_item_int_bag_item_int_int k x5 x11).bind fun y27 =>
  (if y27.2 = true then some (IntKind.i64.wrap (y27.1 + 1))
    else some y27.1 : Option Int).bind fun s35 => bag_Bag_int_Upto_r2 s35
theorem bag_Bag_int_Upto_s {k : Nat} {x3 : Int} {x4 : Int} {x5 : List M102} {x11 : Int} {b2 : Nat} {p6 : Option Addr} {c7 : Nat} {d9 : Ch} {r : Int} (hk : bag_Bag_int_Upto k x3 x4 x5 x11 = some r) {g w : World} {F : Ch} {ih : IH} (h8 : OSl e102 ih p6 c7 x5 d9) (hw : St g w [bx b2 [.int .i64 x3, .int .i64 x4, .slice p6 x5.length c7] 88, d9, F] ih) :
    CallsR Try.prog 29 #[.pointer (some ⟨b2, 0, none⟩), .int .i64 x11] w fun v w' => v = .int .i64 r ∧ St g w' [bx b2 [.int .i64 x3, .int .i64 x4, .slice p6 x5.length c7] 88, d9, F] ih := by
  refine f_in (vs := [.pointer (some ⟨b2, 0, none⟩), .int .i64 x11]) Try.func29 rfl 22 rfl (by kernel_rfl) [(0, .pointer (some ⟨b2, 0, none⟩)), (1, .int .i64 x11)] (by kernel_rfl) fun a Qf hQ hQn hs => ?_
  refine c_seq ?_
  refine c_region ?_
  refine pures hs 1 [0, 1] [(0, .pointer (some ⟨b2, 0, none⟩)), (1, .int .i64 x11)] (by kernel_rfl) fun a hs => ?_
  refine s_end ?_
  refine c_seq ?_
  refine c_seq ?_
  refine c_region ?_
  refine pures hs 2 [0, 1, 8] [(0, .pointer (some ⟨b2, 0, none⟩)), (1, .int .i64 x11), (8, .bool false)] (by kernel_rfl) fun a hs => ?_
  refine s_end ?_
  refine c_condF hs (by kernel_rfl) (by kernel_rfl) ?_
  refine c_skip ?_
  refine c_seq ?_
  refine c_region ?_
  refine pures hs 3 [1, 12] [(1, .int .i64 x11), (12, .pointer (some ⟨b2, 2, none⟩))] (by kernel_rfl) fun a hs => ?_
  refine s_load hs (hw.at_ 0 rfl) 2 (by kernel_rfl) (by kernel_rfl) (v := .slice p6 x5.length c7) (by kernel_rfl) fun a hs => ?_
  refine pures hs 1 [13, 14] [(13, .slice p6 x5.length c7), (14, .int .i64 x11)] (by kernel_rfl) fun a hs => ?_
  obtain ⟨y27, h28, hk⟩ := bindE hk
  refine s_call hs (by kernel_rfl) (by kernel_rfl) (slices_BinarySearchFunc_bag_item_int_bag_item_int_int_s h28 h8.read (memF 1 rfl) ((hw.pick [0, 1, 2] (by kernel_rfl)).pack 0)) fun a w v hv hs => ?_
  obtain ⟨rfl, hw⟩ := hv
  replace hw := hw.unpack 0 rfl
  refine pures hs 5 [5, 6] [(5, .int .i64 y27.1), (6, .bool y27.2)] (by kernel_rfl) fun a hs => ?_
  refine s_end ?_
  obtain ⟨y31, hx32, hk⟩ := bindE hk
  obtain ⟨J33, hJ33⟩ : ∃ J : Act → World → Prop, ∀ a w, J a w ↔ (∃ (x30 : Int), bag_Bag_int_Upto_r2 x30 = some r ∧ Sees a 22 [(5, .int .i64 x30)] ∧ St g w [bx b2 [.int .i64 x3, .int .i64 x4, .slice p6 x5.length c7] 88, d9, F] ih) := ⟨_, fun _ _ => Iff.rfl⟩
  refine c_seqJ J33 ?_ ?_
  · refine c_seq ?_
    refine c_region ?_
    refine pures hs 1 [5, 18] [(5, .int .i64 y27.1), (18, .bool y27.2)] (by kernel_rfl) fun a hs => ?_
    refine s_end ?_
    rcases ifbE hx32 with ⟨h34, hx32⟩ | ⟨h34, hx32⟩
    · refine c_cond1 hs (by kernel_rfl) (t := y27.2) (by kernel_rfl) h34 ?_
      refine c_region ?_
      refine pures hs 3 [5] [(5, .int .i64 (IntKind.i64.wrap (y27.1 + 1)))] (by kernel_rfl) fun a hs => ?_
      refine s_end ?_
      obtain rfl := someE hx32
      exact (hJ33 _ _).2 ⟨(IntKind.i64.wrap (y27.1 + 1)), hk, hs.cast [5] (by kernel_rfl), hw.pick [0, 1, 2] (by kernel_rfl)⟩
    · refine c_cond0 hs (by kernel_rfl) (t := y27.2) (by kernel_rfl) h34 ?_
      refine c_skip ?_
      obtain rfl := someE hx32
      exact (hJ33 _ _).2 ⟨y27.1, hk, hs.cast [5] (by kernel_rfl), hw.pick [0, 1, 2] (by kernel_rfl)⟩
  · intro a w hh
    obtain ⟨x30, hk, hs, hw⟩ := (hJ33 _ _).1 hh
    refine c_seq ?_
    refine c_region ?_
    refine pures hs 2 [4] [(4, .int .i64 x30)] (by kernel_rfl) fun a hs => ?_
    refine s_end ?_
    refine c_ret ?_
    obtain rfl := someE hk
    refine hQ _ _ (f_ret1 hs rfl (v := .int .i64 x30) (by kernel_rfl) ⟨rfl, hw.pick [0, 1, 2] (by kernel_rfl)⟩)
def catenaryref06_Upto_r10 (x198 : Int) : Option Int :=
  some x198
def catenaryref06_Upto_r12 (rec_catenaryref06_Upto_l11 : Int → Int → Option Int) (x173 : Int) (x213 : Int) : Option Int :=
  rec_catenaryref06_Upto_l11 x213 (IntKind.i64.wrap (x173 + 1))
def catenaryref06_Upto_l11 (x1 : M41) (x5 : Int) : Nat → Int → Int → Option Int
  | 0, _, _ => none
  | j + 1, x172, x173 =>
    if (decide (x173 < (x1.f2.length : Int))) = true then (
      ((ix x1.f2 x173).bind fun x221 =>
        if (decide (x221.f0 ≤ x5)) = true then some (IntKind.i64.wrap (x172 + 1))
        else some x172 : Option Int).bind fun s226 => catenaryref06_Upto_r12 (catenaryref06_Upto_l11 x1 x5 j) x173 s226)
    else some x172
def catenaryref06_Upto (k : Nat) (x1 : M41) (x5 : Int) : Option Int :=
  (catenaryref06_Upto_l11 x1 x5 k 0 0 : Option Int).bind fun s227 => catenaryref06_Upto_r10 s227
theorem catenaryref06_Upto_s {k : Nat} {x1 : M41} {x5 : Int} {p2 : Option Addr} {c3 : Nat} {r : Int} (hk : catenaryref06_Upto k x1 x5 = some r) {g w : World} {F : Ch} {ih : IH} (h4 : RSl e92 ih [] p2 c3 x1.f2) (hw : St g w [F] ih) :
    CallsR Try.prog 62 #[.agg #[.int .i64 x1.f0, .int .i64 x1.f1, .slice p2 x1.f2.length c3], .int .i64 x5] w fun v w' => v = .int .i64 r ∧ St g w' [F] ih := by
  refine f_in (vs := [.agg #[.int .i64 x1.f0, .int .i64 x1.f1, .slice p2 x1.f2.length c3], .int .i64 x5]) Try.func62 rfl 25 rfl (by kernel_rfl) [(0, .agg #[.int .i64 x1.f0, .int .i64 x1.f1, .slice p2 x1.f2.length c3]), (1, .int .i64 x5)] (by kernel_rfl) fun a Qf hQ hQn hs => ?_
  refine c_seq ?_
  refine c_region ?_
  refine s_new hs hw [.int .i64 x1.f0, .int .i64 x1.f1, .slice p2 x1.f2.length c3] 41 (fun b => .pointer (some ⟨b, 0, none⟩)) (by kernel_rfl) (fun _ => by kernel_rfl) fun a w b120 hs hw => ?_
  refine pures hs 1 [1, 2] [(1, .int .i64 x5), (2, .pointer (some ⟨b120, 0, none⟩))] (by kernel_rfl) fun a hs => ?_
  refine s_end ?_
  refine c_seq ?_
  refine c_region ?_
  refine pures hs 1 [1, 2, 5] [(1, .int .i64 x5), (2, .pointer (some ⟨b120, 0, none⟩)), (5, .int .i64 0)] (by kernel_rfl) fun a hs => ?_
  refine s_end ?_
  refine c_seq ?_
  refine c_seq ?_
  refine c_region ?_
  refine pures hs 1 [1, 2, 5, 6] [(1, .int .i64 x5), (2, .pointer (some ⟨b120, 0, none⟩)), (5, .int .i64 0), (6, .int .i64 0)] (by kernel_rfl) fun a hs => ?_
  refine s_end ?_
  refine c_block ?_
  obtain ⟨y199, hx200, hk⟩ := bindE hk
  obtain ⟨J201, hJ201⟩ : ∃ J : Act → World → Prop, ∀ a w, J a w ↔ (∃ (x198 : Int), catenaryref06_Upto_r10 x198 = some r ∧ Sees a 25 [(5, .int .i64 x198)] ∧ St g w [F] ih) := ⟨_, fun _ _ => Iff.rfl⟩
  obtain ⟨I202, hI202⟩ : ∃ J : Nat → Act → World → Prop, ∀ j a w, J j a w ↔ (∃ (x172 : Int) (x173 : Int), catenaryref06_Upto_l11 x1 x5 j x172 x173 = some y199 ∧ Sees a 25 [(1, .int .i64 x5), (2, .pointer (some ⟨b120, 0, none⟩)), (5, .int .i64 x172), (6, .int .i64 x173)] ∧ St g w [bx b120 [.int .i64 x1.f0, .int .i64 x1.f1, .slice p2 x1.f2.length c3] 41, F] ih) := ⟨_, fun _ _ _ => Iff.rfl⟩
  refine c_exitJ 0 J201 ?_ ?_
  · refine c_loop I202 k ((hI202 _ _ _).2 ⟨0, 0, hx200, hs.cast [1, 2, 5, 6] (by kernel_rfl), hw.pick [0, 1] (by kernel_rfl)⟩) (fun a w h0 => ?_) fun j a w hh => ?_
    · obtain ⟨_, _, h, _⟩ := (hI202 _ _ _).1 h0
      cases h
    · obtain ⟨x172, x173, hx200, hs, hw⟩ := (hI202 _ _ _).1 hh
      refine c_seq ?_
      refine c_seq ?_
      refine c_region ?_
      refine pures hs 2 [1, 2, 5, 6, 7, 8] [(1, .int .i64 x5), (2, .pointer (some ⟨b120, 0, none⟩)), (5, .int .i64 x172), (6, .int .i64 x173), (7, .int .i64 x173), (8, .pointer (some ⟨b120, 2, none⟩))] (by kernel_rfl) fun a hs => ?_
      refine s_load hs (hw.at_ 0 rfl) 2 (by kernel_rfl) (by kernel_rfl) (v := .slice p2 x1.f2.length c3) (by kernel_rfl) fun a hs => ?_
      refine pures hs 2 [1, 2, 5, 6, 11] [(1, .int .i64 x5), (2, .pointer (some ⟨b120, 0, none⟩)), (5, .int .i64 x172), (6, .int .i64 x173), (11, .bool (decide (x173 < (x1.f2.length : Int))))] (by kernel_rfl) fun a hs => ?_
      refine s_end ?_
      rcases ifbE hx200 with ⟨h203, hx200⟩ | ⟨h203, hx200⟩
      · refine c_cond1 hs (by kernel_rfl) (t := (decide (x173 < (x1.f2.length : Int)))) (by kernel_rfl) h203 ?_
        refine c_skip ?_
        obtain ⟨y214, hx215, hx200⟩ := bindE hx200
        obtain ⟨J216, hJ216⟩ : ∃ J : Act → World → Prop, ∀ a w, J a w ↔ (∃ (x213 : Int), catenaryref06_Upto_r12 (catenaryref06_Upto_l11 x1 x5 j) x173 x213 = some y199 ∧ Sees a 25 [(1, .int .i64 x5), (2, .pointer (some ⟨b120, 0, none⟩)), (5, .int .i64 x213), (6, .int .i64 x173)] ∧ St g w [bx b120 [.int .i64 x1.f0, .int .i64 x1.f1, .slice p2 x1.f2.length c3] 41, F] ih) := ⟨_, fun _ _ => Iff.rfl⟩
        refine c_seqJ J216 ?_ ?_
        · refine c_block ?_
          refine c_seq ?_
          refine c_region ?_
          refine pures hs 1 [1, 2, 5, 6, 14] [(1, .int .i64 x5), (2, .pointer (some ⟨b120, 0, none⟩)), (5, .int .i64 x172), (6, .int .i64 x173), (14, .pointer (some ⟨b120, 2, none⟩))] (by kernel_rfl) fun a hs => ?_
          refine s_load hs (hw.at_ 0 rfl) 2 (by kernel_rfl) (by kernel_rfl) (v := .slice p2 x1.f2.length c3) (by kernel_rfl) fun a hs => ?_
          refine pures hs 1 [1, 2, 5, 6, 15, 16] [(1, .int .i64 x5), (2, .pointer (some ⟨b120, 0, none⟩)), (5, .int .i64 x172), (6, .int .i64 x173), (15, .slice p2 x1.f2.length c3), (16, .int .i64 x173)] (by kernel_rfl) fun a hs => ?_
          obtain ⟨x221, h222, hx215⟩ := bindE hx215
          refine s_index hs h4 (by kernel_rfl) (by kernel_rfl) (k := .i64) (by kernel_rfl) 92 (by kernel_rfl) (by kernel_rfl) h222 fun a r223 cs henc at224 hs => ?_
          obtain rfl := henc
          refine pures hs 1 [1, 2, 5, 6, 18] [(1, .int .i64 x5), (2, .pointer (some ⟨b120, 0, none⟩)), (5, .int .i64 x172), (6, .int .i64 x173), (18, .pointer (some r223))] (by kernel_rfl) fun a hs => ?_
          refine s_load hs (at224 _ (hw.vwAll.nil.anti (Le.refl _))) 0 (by kernel_rfl) (by kernel_rfl) (v := .int .i64 x221.f0) (by kernel_rfl) fun a hs => ?_
          refine pures hs 2 [1, 2, 5, 6, 21] [(1, .int .i64 x5), (2, .pointer (some ⟨b120, 0, none⟩)), (5, .int .i64 x172), (6, .int .i64 x173), (21, .bool (decide (x221.f0 ≤ x5)))] (by kernel_rfl) fun a hs => ?_
          refine s_end ?_
          rcases ifbE hx215 with ⟨h225, hx215⟩ | ⟨h225, hx215⟩
          · refine c_cond1 hs (by kernel_rfl) (t := (decide (x221.f0 ≤ x5))) (by kernel_rfl) h225 ?_
            refine c_region ?_
            refine pures hs 3 [1, 2, 5, 6] [(1, .int .i64 x5), (2, .pointer (some ⟨b120, 0, none⟩)), (5, .int .i64 (IntKind.i64.wrap (x172 + 1))), (6, .int .i64 x173)] (by kernel_rfl) fun a hs => ?_
            refine s_end ?_
            obtain rfl := someE hx215
            exact (hJ216 _ _).2 ⟨(IntKind.i64.wrap (x172 + 1)), hx200, hs.cast [1, 2, 5, 6] (by kernel_rfl), hw.pick [0, 1] (by kernel_rfl)⟩
          · refine c_cond0 hs (by kernel_rfl) (t := (decide (x221.f0 ≤ x5))) (by kernel_rfl) h225 ?_
            refine c_skip ?_
            obtain rfl := someE hx215
            exact (hJ216 _ _).2 ⟨x172, hx200, hs.cast [1, 2, 5, 6] (by kernel_rfl), hw.pick [0, 1] (by kernel_rfl)⟩
        · intro a w hh
          obtain ⟨x213, hx200, hs, hw⟩ := (hJ216 _ _).1 hh
          refine c_region ?_
          refine pures hs 3 [1, 2, 5, 6] [(1, .int .i64 x5), (2, .pointer (some ⟨b120, 0, none⟩)), (5, .int .i64 x213), (6, .int .i64 (IntKind.i64.wrap (x173 + 1)))] (by kernel_rfl) fun a hs => ?_
          refine s_end ?_
          exact (hI202 _ _ _).2 ⟨x213, (IntKind.i64.wrap (x173 + 1)), hx200, hs.cast [1, 2, 5, 6] (by kernel_rfl), hw.pick [0, 1] (by kernel_rfl)⟩
      · refine c_cond0 hs (by kernel_rfl) (t := (decide (x173 < (x1.f2.length : Int)))) (by kernel_rfl) h203 ?_
        refine c_exit ?_
        obtain rfl := someE hx200
        exact (hJ201 _ _).2 ⟨x172, hk, hs.cast [5] (by kernel_rfl), hw.pick [1] (by kernel_rfl)⟩
  · intro a w hh
    obtain ⟨x198, hk, hs, hw⟩ := (hJ201 _ _).1 hh
    refine c_seq ?_
    refine c_region ?_
    refine pures hs 2 [4] [(4, .int .i64 x198)] (by kernel_rfl) fun a hs => ?_
    refine s_end ?_
    refine c_ret ?_
    obtain rfl := someE hk
    refine hQ _ _ (f_ret1 hs rfl (v := .int .i64 x198) (by kernel_rfl) ⟨rfl, hw.pick [0] (by kernel_rfl)⟩)
end Go.Proofs.Ytfpllbnljlbepaa.Sx
