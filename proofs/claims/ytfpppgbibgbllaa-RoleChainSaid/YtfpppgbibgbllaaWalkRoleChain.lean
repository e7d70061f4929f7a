/- The walk of RoleChain: each Go function it calls, as a plain function, and the proof that the call computes it. Printed by the program gen.py.
   Conditions: those that each theorem states ahead of its colon, and no other. -/
import Derived.Test.YtfpppgbibgbllaaSx9
import Derived.Test.YtfpppgbibgbllaaProg
namespace Go.Proofs.Ytfpppgbibgbllaa.Sx
open Go Go.Proofs
set_option maxRecDepth 100000
set_option linter.unusedVariables false
@[reducible] def e3 : ET := eInt .i64 3
structure M53 where
  f0 : Int
  f1 : Int
  f2 : List Int
  f3 : Bool
  f4 : Int
@[reducible] def e53 : ET := ⟨M53, 5, 53, fun ih x cs => ∃ q0 k0, cs = [.int .i64 x.f0, .int .u64 x.f1, .slice q0 x.f2.length k0, .bool x.f3, .int .i64 x.f4] ∧ RSl e3 ih [] q0 k0 x.f2,
  fun ⟨_, _, h, g0⟩ => by rw [h]; rfl, fun ⟨_, _, h, g0⟩ => by rw [h]; rfl, fun ⟨p0, p1, h, g0⟩ hle => ⟨p0, p1, h, g0.mono hle⟩⟩
@[reducible] def e23 : ET := eInt .u64 23
@[reducible] def e40 : ET := eSl 40 e3
@[reducible] def e4 : ET := eBool 4
structure M56 where
  f0 : Bool
  f1 : Bool
  f2 : Bool
  f3 : Bool
  f4 : Bool
  f5 : Int
  f6 : Int
  f7 : Int
@[reducible] def e56 : ET := ⟨M56, 8, 56, fun ih x cs => cs = [.bool x.f0, .bool x.f1, .bool x.f2, .bool x.f3, .bool x.f4, .int .i64 x.f5, .int .i64 x.f6, .int .i64 x.f7],
  fun h => by rw [h]; rfl, fun h => by rw [h]; rfl, fun h hle => h⟩
theorem appT40 : AppT Try.prog 40 e3 := appT_of (by kernel_rfl)
def catenaryref09_Stands_r2 (x108 : List Int) : Option (List Int) :=
  some x108
def catenaryref09_Stands (x1 : M53) : Option (List Int) :=
  (app ([]) x1.f2).bind fun x85 =>
  (if (x1.f4 != 0) = true then (
      (app x85 [x1.f4]).bind fun x128 =>
      some x128)
    else some x85 : Option (List Int)).bind fun s134 => catenaryref09_Stands_r2 s134
theorem catenaryref09_Stands_s {x1 : M53} {p2 : Option Addr} {c3 : Nat} {r : (List Int)} (hk : catenaryref09_Stands x1 = some r) {g w : World} {F : Ch} {ih : IH} (h4 : RSl e3 ih [] p2 c3 x1.f2) (hw : St g w [F] ih) :
    CallsR Try.prog 79 #[.agg #[.int .i64 x1.f0, .int .u64 x1.f1, .slice p2 x1.f2.length c3, .bool x1.f3, .int .i64 x1.f4]] w fun v w' => ∃ (p135 : Option Addr) (c136 : Nat) (d137 : Ch), v = .slice p135 r.length c136 ∧ St g w' [d137, F] ih ∧ OSl e3 ih p135 c136 r d137 := by
  refine f_in (vs := [.agg #[.int .i64 x1.f0, .int .u64 x1.f1, .slice p2 x1.f2.length c3, .bool x1.f3, .int .i64 x1.f4]]) Try.func79 rfl 16 rfl (by kernel_rfl) [(0, .agg #[.int .i64 x1.f0, .int .u64 x1.f1, .slice p2 x1.f2.length c3, .bool x1.f3, .int .i64 x1.f4])] (by kernel_rfl) fun a Qf hQ hQn hs => ?_
  refine c_seq ?_
  refine c_region ?_
  refine s_new hs hw [.int .i64 x1.f0, .int .u64 x1.f1, .slice p2 x1.f2.length c3, .bool x1.f3, .int .i64 x1.f4] 53 (fun b => .pointer (some ⟨b, 0, none⟩)) (by kernel_rfl) (fun _ => by kernel_rfl) fun a w b73 hs hw => ?_
  refine pures hs 1 [1] [(1, .pointer (some ⟨b73, 0, none⟩))] (by kernel_rfl) fun a hs => ?_
  refine s_end ?_
  refine c_seq ?_
  refine c_region ?_
  refine pures hs 1 [1, 4] [(1, .pointer (some ⟨b73, 0, none⟩)), (4, .pointer (some ⟨b73, 2, none⟩))] (by kernel_rfl) fun a hs => ?_
  refine s_load hs (hw.at_ 0 rfl) 2 (by kernel_rfl) (by kernel_rfl) (v := .slice p2 x1.f2.length c3) (by kernel_rfl) fun a hs => ?_
  replace hw := hw.nil
  obtain ⟨x85, h86, hk⟩ := bindE hk
  refine s_appS hs hw (E := e3) appT40 0 rfl (OSl.nil _ _) (by kernel_rfl) (by kernel_rfl) (h4.mono (Le.refl _)) (hw.vwAll.nil.anti (Le.refl _)) (by kernel_rfl) h86 fun a w p87 c88 d89 h90 hw hs => ?_
  refine pures hs 1 [1, 3] [(1, .pointer (some ⟨b73, 0, none⟩)), (3, .slice p87 x85.length c88)] (by kernel_rfl) fun a hs => ?_
  refine s_end ?_
  obtain ⟨y114, hx115, hk⟩ := bindE hk
  obtain ⟨J116, hJ116⟩ : ∃ J : Act → World → Prop, ∀ a w, J a w ↔ (∃ (x108 : List Int) (p109 : Option Addr) (c110 : Nat) (d112 : Ch), catenaryref09_Stands_r2 x108 = some r ∧ Sees a 16 [(3, .slice p109 x108.length c110)] ∧ St g w [d112, F] ih ∧ OSl e3 ih p109 c110 x108 d112) := ⟨_, fun _ _ => Iff.rfl⟩
  refine c_seqJ J116 ?_ ?_
  · refine c_seq ?_
    refine c_region ?_
    refine pures hs 1 [1, 3, 7] [(1, .pointer (some ⟨b73, 0, none⟩)), (3, .slice p87 x85.length c88), (7, .pointer (some ⟨b73, 4, none⟩))] (by kernel_rfl) fun a hs => ?_
    refine s_load hs (hw.at_ 1 rfl) 4 (by kernel_rfl) (by kernel_rfl) (v := .int .i64 x1.f4) (by kernel_rfl) fun a hs => ?_
    refine pures hs 1 [1, 3, 9] [(1, .pointer (some ⟨b73, 0, none⟩)), (3, .slice p87 x85.length c88), (9, .bool (x1.f4 != 0))] (by kernel_rfl) fun a hs => ?_
    refine s_end ?_
    rcases ifbE hx115 with ⟨h117, hx115⟩ | ⟨h117, hx115⟩
    · refine c_cond1 hs (by kernel_rfl) (t := (x1.f4 != 0)) (by kernel_rfl) h117 ?_
      refine c_region ?_
      refine pures hs 2 [10, 11] [(10, .slice p87 x85.length c88), (11, .pointer (some ⟨b73, 4, none⟩))] (by kernel_rfl) fun a hs => ?_
      refine s_load hs (hw.at_ 1 rfl) 4 (by kernel_rfl) (by kernel_rfl) (v := .int .i64 x1.f4) (by kernel_rfl) fun a hs => ?_
      refine s_new hs hw [.int .i64 x1.f4] 3 (fun b => .slice (some ⟨b, 0, none⟩) 1 1) (by kernel_rfl) (fun _ => by kernel_rfl) fun a w b126 hs hw => ?_
      obtain ⟨x128, h129, hx115⟩ := bindE hx115
      refine s_app1 hs hw (E := e3) appT40 1 rfl h90 (by kernel_rfl) (by kernel_rfl) (c2 := 1) (by kernel_rfl) (hw.at_ 0 rfl) (z := x1.f4) rfl h129 fun a w p130 c131 d132 h133 hw hs => ?_
      refine pures hs 1 [3] [(3, .slice p130 x128.length c131)] (by kernel_rfl) fun a hs => ?_
      refine s_end ?_
      obtain rfl := someE hx115
      exact (hJ116 _ _).2 ⟨x128, p130, c131, d132, hk, hs.cast [3] (by kernel_rfl), hw.pick [1, 3] (by kernel_rfl), h133⟩
    · refine c_cond0 hs (by kernel_rfl) (t := (x1.f4 != 0)) (by kernel_rfl) h117 ?_
      refine wp_skip ?_
      obtain rfl := someE hx115
      exact (hJ116 _ _).2 ⟨x85, p87, c88, d89, hk, hs.cast [3] (by kernel_rfl), hw.pick [0, 2] (by kernel_rfl), h90⟩
  · intro a w hh
    obtain ⟨x108, p109, c110, d112, hk, hs, hw, h111⟩ := (hJ116 _ _).1 hh
    refine c_seq ?_
    refine c_region ?_
    refine pures hs 2 [2] [(2, .slice p109 x108.length c110)] (by kernel_rfl) fun a hs => ?_
    refine s_end ?_
    refine wp_ret ?_
    obtain rfl := someE hk
    refine hQ _ _ (f_ret1 hs rfl (v := .slice p109 x108.length c110) (by kernel_rfl) ⟨p109, c110, d112, rfl, hw.pick [0, 1] (by kernel_rfl), h111⟩)
def catenaryref04_Has_r3 : Option Bool :=
  some false
def catenaryref04_Has_l4 (x1 : List Int) (x7 : Int) : Nat → Int → Option (Sum Bool Unit)
  | 0, _ => none
  | j + 1, x78 =>
    if (decide (x78 < (x1.length : Int))) = true then (
      (ix x1 x78).bind fun x98 =>
      if (x98 == x7) = true then some (.inl true)
      else catenaryref04_Has_l4 x1 x7 j (IntKind.i64.wrap (x78 + 1)))
    else some (.inr ())
def catenaryref04_Has (k : Nat) (x1 : List Int) (x7 : Int) : Option Bool :=
  (catenaryref04_Has_l4 x1 x7 k 0 : Option (Sum Bool Unit)).bind fun
    | .inl z => some z
    | .inr _ => catenaryref04_Has_r3
theorem catenaryref04_Has_s {k : Nat} {x1 : List Int} {x7 : Int} {p2 : Option Addr} {c3 : Nat} {d5 : Ch} {r : Bool} (hk : catenaryref04_Has k x1 x7 = some r) {g w : World} {F : Ch} {ih : IH} (h4 : RSl e3 ih d5 p2 c3 x1) (h6 : ∀ q ∈ d5, q ∈ F) (hw : St g w [F] ih) :
    CallsR Try.prog 83 #[.slice p2 x1.length c3, .int .i64 x7] w fun v w' => v = .bool r ∧ St g w' [F] ih := by
  refine f_in (vs := [.slice p2 x1.length c3, .int .i64 x7]) Try.func83 rfl 18 rfl (by kernel_rfl) [(0, .slice p2 x1.length c3), (1, .int .i64 x7)] (by kernel_rfl) fun a Qf hQ hQn hs => ?_
  refine c_seq ?_
  refine c_region ?_
  refine pures hs 1 [0, 1] [(0, .slice p2 x1.length c3), (1, .int .i64 x7)] (by kernel_rfl) fun a hs => ?_
  refine s_end ?_
  refine c_seq ?_
  refine c_seq ?_
  refine c_region ?_
  refine pures hs 1 [0, 1, 5] [(0, .slice p2 x1.length c3), (1, .int .i64 x7), (5, .int .i64 0)] (by kernel_rfl) fun a hs => ?_
  refine s_end ?_
  refine c_block ?_
  obtain ⟨y89, hx90, hk⟩ := bindE hk
  obtain ⟨J91, hJ91⟩ : ∃ J : Act → World → Prop, ∀ a w, J a w ↔ (catenaryref04_Has_r3 = some r ∧ Sees a 18 [] ∧ St g w [F] ih) := ⟨_, fun _ _ => Iff.rfl⟩
  obtain ⟨I92, hI92⟩ : ∃ J : Nat → Act → World → Prop, ∀ j a w, J j a w ↔ (∃ (x78 : Int), catenaryref04_Has_l4 x1 x7 j x78 = some y89 ∧ Sees a 18 [(0, .slice p2 x1.length c3), (1, .int .i64 x7), (5, .int .i64 x78)] ∧ St g w [F] ih) := ⟨_, fun _ _ _ => Iff.rfl⟩
  refine c_exitJ 0 J91 ?_ ?_
  · refine c_loop I92 k ((hI92 _ _ _).2 ⟨0, hx90, hs.cast [0, 1, 5] (by kernel_rfl), hw.pick [0] (by kernel_rfl)⟩) (fun a w h0 => ?_) fun j a w hh => ?_
    · obtain ⟨_, h, _⟩ := (hI92 _ _ _).1 h0
      cases h
    · obtain ⟨x78, hx90, hs, hw⟩ := (hI92 _ _ _).1 hh
      refine c_seq ?_
      refine c_seq ?_
      refine c_region ?_
      refine pures hs 4 [0, 1, 5, 9] [(0, .slice p2 x1.length c3), (1, .int .i64 x7), (5, .int .i64 x78), (9, .bool (decide (x78 < (x1.length : Int))))] (by kernel_rfl) fun a hs => ?_
      refine s_end ?_
      rcases ifbE hx90 with ⟨h93, hx90⟩ | ⟨h93, hx90⟩
      · refine c_cond1 hs (by kernel_rfl) (t := (decide (x78 < (x1.length : Int)))) (by kernel_rfl) h93 ?_
        refine wp_skip ?_
        refine c_seq ?_
        refine c_block ?_
        refine c_seq ?_
        refine c_region ?_
        refine pures hs 2 [0, 1, 5, 12, 13] [(0, .slice p2 x1.length c3), (1, .int .i64 x7), (5, .int .i64 x78), (12, .slice p2 x1.length c3), (13, .int .i64 x78)] (by kernel_rfl) fun a hs => ?_
        obtain ⟨x98, h99, hx90⟩ := bindE hx90
        refine s_index hs h4 (by kernel_rfl) (by kernel_rfl) (k := .i64) (by kernel_rfl) 3 (by kernel_rfl) (by kernel_rfl) h99 fun a r100 cs henc at101 hs => ?_
        obtain rfl := henc
        refine s_load hs (at101 _ (((hw.vw 0 rfl).sub h6).anti (Le.refl _))) 0 (by kernel_rfl) (by kernel_rfl) (v := .int .i64 x98) (by kernel_rfl) fun a hs => ?_
        refine pures hs 2 [0, 1, 5, 17] [(0, .slice p2 x1.length c3), (1, .int .i64 x7), (5, .int .i64 x78), (17, .bool (x98 == x7))] (by kernel_rfl) fun a hs => ?_
        refine s_end ?_
        rcases ifbE hx90 with ⟨h102, hx90⟩ | ⟨h102, hx90⟩
        · refine c_cond1 hs (by kernel_rfl) (t := (x98 == x7)) (by kernel_rfl) h102 ?_
          refine c_seq ?_
          refine c_region ?_
          refine pures hs 1 [4] [(4, .bool true)] (by kernel_rfl) fun a hs => ?_
          refine s_end ?_
          refine wp_ret ?_
          obtain rfl := someE hx90
          obtain rfl := someE hk
          refine hQ _ _ (f_ret1 hs rfl (v := .bool true) (by kernel_rfl) ⟨rfl, hw.pick [0] (by kernel_rfl)⟩)
        · refine c_cond0 hs (by kernel_rfl) (t := (x98 == x7)) (by kernel_rfl) h102 ?_
          refine wp_skip ?_
          refine c_region ?_
          refine pures hs 3 [0, 1, 5] [(0, .slice p2 x1.length c3), (1, .int .i64 x7), (5, .int .i64 (IntKind.i64.wrap (x78 + 1)))] (by kernel_rfl) fun a hs => ?_
          refine s_end ?_
          exact (hI92 _ _ _).2 ⟨(IntKind.i64.wrap (x78 + 1)), hx90, hs.cast [0, 1, 5] (by kernel_rfl), hw.pick [0] (by kernel_rfl)⟩
      · refine c_cond0 hs (by kernel_rfl) (t := (decide (x78 < (x1.length : Int)))) (by kernel_rfl) h93 ?_
        refine wp_exit ?_
        obtain rfl := someE hx90
        exact (hJ91 _ _).2 ⟨hk, hs.cast [] (by kernel_rfl), hw.pick [0] (by kernel_rfl)⟩
  · intro a w hh
    obtain ⟨hk, hs, hw⟩ := (hJ91 _ _).1 hh
    refine c_seq ?_
    refine c_region ?_
    refine pures hs 1 [4] [(4, .bool false)] (by kernel_rfl) fun a hs => ?_
    refine s_end ?_
    refine wp_ret ?_
    obtain rfl := someE hk
    refine hQ _ _ (f_ret1 hs rfl (v := .bool false) (by kernel_rfl) ⟨rfl, hw.pick [0] (by kernel_rfl)⟩)
def catenaryref09_Unlike_r10 : Option Bool :=
  some true
def catenaryref09_Unlike_r12 (rec_catenaryref09_Unlike_l11 : Int → Option (Sum Bool Unit)) (x443 : Int) (x563 : Bool) : Option (Sum Bool Unit) :=
  if x563 = true then some (.inl false)
  else rec_catenaryref09_Unlike_l11 (IntKind.i64.wrap (x443 + 1))
def catenaryref09_Unlike_l11 (k : Nat) (x1 : List Int) : Nat → Int → Option (Sum Bool Unit)
  | 0, _ => none
  | j + 1, x443 =>
    if (decide (x443 < (x1.length : Int))) = true then (
      ((ix x1 x443).bind fun x568 =>
        if (decide (x568 < 1)) = true then some true
        else (ix x1 x443).bind fun x573 =>
        if (decide (x573 > 24)) = true then some true
        else (sl x1 0 x443).bind fun x578 =>
        (ix x1 x443).bind fun x583 =>
        (catenaryref04_Has k x578 x583).bind fun y587 =>
        some y587 : Option Bool).bind fun s589 => catenaryref09_Unlike_r12 (catenaryref09_Unlike_l11 k x1 j) x443 s589)
    else some (.inr ())
def catenaryref09_Unlike (k : Nat) (x1 : List Int) : Option Bool :=
  (catenaryref09_Unlike_l11 k x1 k 0 : Option (Sum Bool Unit)).bind fun
    | .inl z => some z
    | .inr _ => catenaryref09_Unlike_r10
theorem catenaryref09_Unlike_s {k : Nat} {x1 : List Int} {p2 : Option Addr} {c3 : Nat} {d5 : Ch} {r : Bool} (hk : catenaryref09_Unlike k x1 = some r) {g w : World} {F : Ch} {ih : IH} (h4 : RSl e3 ih d5 p2 c3 x1) (h6 : ∀ q ∈ d5, q ∈ F) (hw : St g w [F] ih) :
    CallsR Try.prog 78 #[.slice p2 x1.length c3] w fun v w' => v = .bool r ∧ St g w' [F] ih := by
  refine f_in (vs := [.slice p2 x1.length c3]) Try.func78 rfl 32 rfl (by kernel_rfl) [(0, .slice p2 x1.length c3)] (by kernel_rfl) fun a Qf hQ hQn hs => ?_
  refine c_seq ?_
  refine c_region ?_
  refine pures hs 1 [0] [(0, .slice p2 x1.length c3)] (by kernel_rfl) fun a hs => ?_
  refine s_end ?_
  refine c_seq ?_
  refine c_seq ?_
  refine c_region ?_
  refine pures hs 1 [0, 3] [(0, .slice p2 x1.length c3), (3, .int .i64 0)] (by kernel_rfl) fun a hs => ?_
  refine s_end ?_
  refine c_block ?_
  obtain ⟨y515, hx516, hk⟩ := bindE hk
  obtain ⟨J517, hJ517⟩ : ∃ J : Act → World → Prop, ∀ a w, J a w ↔ (catenaryref09_Unlike_r10 = some r ∧ Sees a 32 [] ∧ St g w [F] ih) := ⟨_, fun _ _ => Iff.rfl⟩
  obtain ⟨I518, hI518⟩ : ∃ J : Nat → Act → World → Prop, ∀ j a w, J j a w ↔ (∃ (x443 : Int), catenaryref09_Unlike_l11 k x1 j x443 = some y515 ∧ Sees a 32 [(0, .slice p2 x1.length c3), (3, .int .i64 x443)] ∧ St g w [F] ih) := ⟨_, fun _ _ _ => Iff.rfl⟩
  refine c_exitJ 0 J517 ?_ ?_
  · refine c_loop I518 k ((hI518 _ _ _).2 ⟨0, hx516, hs.cast [0, 3] (by kernel_rfl), hw.pick [0] (by kernel_rfl)⟩) (fun a w h0 => ?_) fun j a w hh => ?_
    · obtain ⟨_, h, _⟩ := (hI518 _ _ _).1 h0
      cases h
    · obtain ⟨x443, hx516, hs, hw⟩ := (hI518 _ _ _).1 hh
      refine c_seq ?_
      refine c_seq ?_
      refine c_region ?_
      refine pures hs 4 [0, 3, 7] [(0, .slice p2 x1.length c3), (3, .int .i64 x443), (7, .bool (decide (x443 < (x1.length : Int))))] (by kernel_rfl) fun a hs => ?_
      refine s_end ?_
      rcases ifbE hx516 with ⟨h519, hx516⟩ | ⟨h519, hx516⟩
      · refine c_cond1 hs (by kernel_rfl) (t := (decide (x443 < (x1.length : Int)))) (by kernel_rfl) h519 ?_
        refine wp_skip ?_
        refine c_seq ?_
        refine c_block ?_
        refine c_seq ?_
        obtain ⟨S520, hS520, kS520⟩ := mkSX (X := [([], F)]) (ih := ih) (K := []) rfl
        obtain ⟨y565, hx566, hx516⟩ := bindE hx516
        obtain ⟨J567, hJ567⟩ : ∃ J : Act → World → Prop, ∀ a w, J a w ↔ (∃ (x563 : Bool), catenaryref09_Unlike_r12 (catenaryref09_Unlike_l11 k x1 j) x443 x563 = some y515 ∧ Sees a 32 [(0, .slice p2 x1.length c3), (3, .int .i64 x443), (31, .bool x563)] ∧ St g w [F] ih) := ⟨_, fun _ _ => Iff.rfl⟩
        refine c_draw (by kernel_rfl) (N := 22) rfl S520 J567 ?_ ?_
        · have hw := hw.drew
          have hS : S520 (Array.replicate 22 false) _ := SX_now hS520 (hw.vws [0]) (by kernel_rfl)
          refine d_pures (fuel := 20) kS520 hs hS [0, 1] [0, 3, 10, 11] [(0, .slice p2 x1.length c3), (3, .int .i64 x443), (10, .slice p2 x1.length c3), (11, .int .i64 x443)] (by kernel_rfl) fun a hs hS => ?_
          obtain ⟨x568, h569, hx566⟩ := bindE hx566
          refine d_index (fuel := 19) kS520 hs hS 2 rfl (by kernel_rfl) h4 (by kernel_rfl) (by kernel_rfl) (k := .i64) (by kernel_rfl) 3 (by kernel_rfl) (by kernel_rfl) h569 fun a r570 cs henc at571 hs hS => ?_
          obtain rfl := henc
          refine d_load (fuel := 18) kS520 hs hS 3 rfl (by kernel_rfl) (fun l w hu hS => at571 w (((SX_ch hS520 0 rfl (by kernel_rfl) l w hu hS).sub h6).anti (Le.refl _))) 0 (by kernel_rfl) (by kernel_rfl) (v := .int .i64 x568) (by kernel_rfl) fun a hs hS => ?_
          refine d_pures (fuel := 16) kS520 hs hS [4, 5] [0, 3, 10, 11, 12, 13, 14, 15] [(0, .slice p2 x1.length c3), (3, .int .i64 x443), (10, .slice p2 x1.length c3), (11, .int .i64 x443), (12, .pointer (some r570)), (13, .int .i64 x568), (14, .bool (decide (x568 < 1))), (15, .bool (decide (x568 < 1)))] (by kernel_rfl) fun a hs hS => ?_
          rcases ifbE hx566 with ⟨h572, hx566⟩ | ⟨h572, hx566⟩
          · replace hs := hs.altB 15 true (by kernel_rfl) h572
            refine d_pures (fuel := 0) kS520 hs hS [6, 7, 8, 9, 10, 11, 12, 13, 14, 15, 16, 17, 18, 19, 20, 21] [0, 3, 10, 11, 12, 13, 14, 15, 16, 17, 18, 19, 20, 21, 22, 23, 24, 25, 26, 27, 28, 29, 30, 31] [(0, .slice p2 x1.length c3), (3, .int .i64 x443), (10, .slice p2 x1.length c3), (11, .int .i64 x443), (12, .pointer (some r570)), (13, .int .i64 x568), (14, .bool (decide (x568 < 1))), (15, .bool true), (16, undef), (17, undef), (18, undef), (19, undef), (20, undef), (21, .bool true), (22, .bool true), (23, undef), (24, undef), (25, undef), (26, undef), (27, undef), (28, undef), (29, undef), (30, undef), (31, .bool true)] (by kernel_rfl) fun a hs hS => ?_
            refine d_done (by kernel_rfl) ?_
            obtain rfl := someE hx566
            exact (hJ567 _ _).2 ⟨true, hx516, hs.cast [0, 3, 31] (by kernel_rfl), hw.pick [0] (by kernel_rfl)⟩
          · replace hs := hs.altB 15 false (by kernel_rfl) h572
            refine d_pures (fuel := 14) kS520 hs hS [6, 7] [0, 3, 10, 11, 12, 13, 14, 15, 16, 17] [(0, .slice p2 x1.length c3), (3, .int .i64 x443), (10, .slice p2 x1.length c3), (11, .int .i64 x443), (12, .pointer (some r570)), (13, .int .i64 x568), (14, .bool (decide (x568 < 1))), (15, .bool false), (16, .slice p2 x1.length c3), (17, .int .i64 x443)] (by kernel_rfl) fun a hs hS => ?_
            obtain ⟨x573, h574, hx566⟩ := bindE hx566
            refine d_index (fuel := 13) kS520 hs hS 8 rfl (by kernel_rfl) h4 (by kernel_rfl) (by kernel_rfl) (k := .i64) (by kernel_rfl) 3 (by kernel_rfl) (by kernel_rfl) h574 fun a r575 cs henc at576 hs hS => ?_
            obtain rfl := henc
            refine d_load (fuel := 12) kS520 hs hS 9 rfl (by kernel_rfl) (fun l w hu hS => at576 w (((SX_ch hS520 0 rfl (by kernel_rfl) l w hu hS).sub h6).anti (Le.refl _))) 0 (by kernel_rfl) (by kernel_rfl) (v := .int .i64 x573) (by kernel_rfl) fun a hs hS => ?_
            refine d_pures (fuel := 9) kS520 hs hS [10, 11, 12] [0, 3, 10, 11, 12, 13, 14, 15, 16, 17, 18, 19, 20, 21, 22] [(0, .slice p2 x1.length c3), (3, .int .i64 x443), (10, .slice p2 x1.length c3), (11, .int .i64 x443), (12, .pointer (some r570)), (13, .int .i64 x568), (14, .bool (decide (x568 < 1))), (15, .bool false), (16, .slice p2 x1.length c3), (17, .int .i64 x443), (18, .pointer (some r575)), (19, .int .i64 x573), (20, .bool (decide (x573 > 24))), (21, .bool (decide (x573 > 24))), (22, .bool (decide (x573 > 24)))] (by kernel_rfl) fun a hs hS => ?_
            rcases ifbE hx566 with ⟨h577, hx566⟩ | ⟨h577, hx566⟩
            · replace hs := hs.altB 22 true (by kernel_rfl) h577
              refine d_pures (fuel := 0) kS520 hs hS [13, 14, 15, 16, 17, 18, 19, 20, 21] [0, 3, 10, 11, 12, 13, 14, 15, 16, 17, 18, 19, 20, 21, 22, 23, 24, 25, 26, 27, 28, 29, 30, 31] [(0, .slice p2 x1.length c3), (3, .int .i64 x443), (10, .slice p2 x1.length c3), (11, .int .i64 x443), (12, .pointer (some r570)), (13, .int .i64 x568), (14, .bool (decide (x568 < 1))), (15, .bool false), (16, .slice p2 x1.length c3), (17, .int .i64 x443), (18, .pointer (some r575)), (19, .int .i64 x573), (20, .bool (decide (x573 > 24))), (21, .bool (decide (x573 > 24))), (22, .bool true), (23, undef), (24, undef), (25, undef), (26, undef), (27, undef), (28, undef), (29, undef), (30, undef), (31, .bool true)] (by kernel_rfl) fun a hs hS => ?_
              refine d_done (by kernel_rfl) ?_
              obtain rfl := someE hx566
              exact (hJ567 _ _).2 ⟨true, hx516, hs.cast [0, 3, 31] (by kernel_rfl), hw.pick [0] (by kernel_rfl)⟩
            · replace hs := hs.altB 22 false (by kernel_rfl) h577
              refine d_pures (fuel := 7) kS520 hs hS [13, 14] [0, 3, 10, 11, 12, 13, 14, 15, 16, 17, 18, 19, 20, 21, 22, 23, 24] [(0, .slice p2 x1.length c3), (3, .int .i64 x443), (10, .slice p2 x1.length c3), (11, .int .i64 x443), (12, .pointer (some r570)), (13, .int .i64 x568), (14, .bool (decide (x568 < 1))), (15, .bool false), (16, .slice p2 x1.length c3), (17, .int .i64 x443), (18, .pointer (some r575)), (19, .int .i64 x573), (20, .bool (decide (x573 > 24))), (21, .bool (decide (x573 > 24))), (22, .bool false), (23, .slice p2 x1.length c3), (24, .int .i64 x443)] (by kernel_rfl) fun a hs hS => ?_
              obtain ⟨x578, h579, hx566⟩ := bindE hx566
              refine d_slice (fuel := 6) kS520 hs hS 15 rfl (by kernel_rfl) h4 (by kernel_rfl) (by kernel_rfl) 3 (by kernel_rfl) (by kernel_rfl) (by kernel_rfl) (by kernel_rfl) (by kernel_rfl) h579 (.inl rfl) fun a p580 c581 h582 hs hS => ?_
              refine d_pures (fuel := 4) kS520 hs hS [16, 17] [0, 3, 10, 11, 12, 13, 14, 15, 16, 17, 18, 19, 20, 21, 22, 23, 24, 25, 26, 27] [(0, .slice p2 x1.length c3), (3, .int .i64 x443), (10, .slice p2 x1.length c3), (11, .int .i64 x443), (12, .pointer (some r570)), (13, .int .i64 x568), (14, .bool (decide (x568 < 1))), (15, .bool false), (16, .slice p2 x1.length c3), (17, .int .i64 x443), (18, .pointer (some r575)), (19, .int .i64 x573), (20, .bool (decide (x573 > 24))), (21, .bool (decide (x573 > 24))), (22, .bool false), (23, .slice p2 x1.length c3), (24, .int .i64 x443), (25, .slice p580 x578.length c581), (26, .slice p2 x1.length c3), (27, .int .i64 x443)] (by kernel_rfl) fun a hs hS => ?_
              obtain ⟨x583, h584, hx566⟩ := bindE hx566
              refine d_index (fuel := 3) kS520 hs hS 18 rfl (by kernel_rfl) h4 (by kernel_rfl) (by kernel_rfl) (k := .i64) (by kernel_rfl) 3 (by kernel_rfl) (by kernel_rfl) h584 fun a r585 cs henc at586 hs hS => ?_
              obtain rfl := henc
              refine d_load (fuel := 2) kS520 hs hS 19 rfl (by kernel_rfl) (fun l w hu hS => at586 w (((SX_ch hS520 0 rfl (by kernel_rfl) l w hu hS).sub h6).anti (Le.refl _))) 0 (by kernel_rfl) (by kernel_rfl) (v := .int .i64 x583) (by kernel_rfl) fun a hs hS => ?_
              refine d_all (fuel := 1) (rs := [20]) (by kernel_rfl) (by simp) (all1 ?_)
              obtain ⟨y587, h588, hx566⟩ := bindE hx566
              refine o_call hs rfl (by kernel_rfl) (by kernel_rfl) (catenaryref04_Has_s h588 h582 (fun q hq => memF 0 rfl q (h6 q hq)) ((hw.pick [0] (by kernel_rfl)).pack 0)) fun a w v hv hs => ?_
              obtain ⟨rfl, hw⟩ := hv
              replace hw := hw.unpack 0 rfl
              refine dg_next (SX_now hS520 ((hw.vws [0]).anti (Le.refl _)) (by kernel_rfl)) fun hS => ?_
              refine d_pures (fuel := 0) kS520 hs hS [21] [0, 3, 10, 11, 12, 13, 14, 15, 16, 17, 18, 19, 20, 21, 22, 23, 24, 25, 26, 27, 28, 29, 30, 31] [(0, .slice p2 x1.length c3), (3, .int .i64 x443), (10, .slice p2 x1.length c3), (11, .int .i64 x443), (12, .pointer (some r570)), (13, .int .i64 x568), (14, .bool (decide (x568 < 1))), (15, .bool false), (16, .slice p2 x1.length c3), (17, .int .i64 x443), (18, .pointer (some r575)), (19, .int .i64 x573), (20, .bool (decide (x573 > 24))), (21, .bool (decide (x573 > 24))), (22, .bool false), (23, .slice p2 x1.length c3), (24, .int .i64 x443), (25, .slice p580 x578.length c581), (26, .slice p2 x1.length c3), (27, .int .i64 x443), (28, .pointer (some r585)), (29, .int .i64 x583), (30, .bool y587), (31, .bool y587)] (by kernel_rfl) fun a hs hS => ?_
              refine d_done (by kernel_rfl) ?_
              obtain rfl := someE hx566
              exact (hJ567 _ _).2 ⟨y587, hx516, hs.cast [0, 3, 31] (by kernel_rfl), hw.pick [0] (by kernel_rfl)⟩
        · intro a w hh
          obtain ⟨x563, hx516, hs, hw⟩ := (hJ567 _ _).1 hh
          rcases ifbE hx516 with ⟨h564, hx516⟩ | ⟨h564, hx516⟩
          · refine c_cond1 hs (by kernel_rfl) (t := x563) (by kernel_rfl) h564 ?_
            refine c_seq ?_
            refine c_region ?_
            refine pures hs 1 [2] [(2, .bool false)] (by kernel_rfl) fun a hs => ?_
            refine s_end ?_
            refine wp_ret ?_
            obtain rfl := someE hx516
            obtain rfl := someE hk
            refine hQ _ _ (f_ret1 hs rfl (v := .bool false) (by kernel_rfl) ⟨rfl, hw.pick [0] (by kernel_rfl)⟩)
          · refine c_cond0 hs (by kernel_rfl) (t := x563) (by kernel_rfl) h564 ?_
            refine wp_skip ?_
            refine c_region ?_
            refine pures hs 3 [0, 3] [(0, .slice p2 x1.length c3), (3, .int .i64 (IntKind.i64.wrap (x443 + 1)))] (by kernel_rfl) fun a hs => ?_
            refine s_end ?_
            exact (hI518 _ _ _).2 ⟨(IntKind.i64.wrap (x443 + 1)), hx516, hs.cast [0, 3] (by kernel_rfl), hw.pick [0] (by kernel_rfl)⟩
      · refine c_cond0 hs (by kernel_rfl) (t := (decide (x443 < (x1.length : Int)))) (by kernel_rfl) h519 ?_
        refine wp_exit ?_
        obtain rfl := someE hx516
        exact (hJ517 _ _).2 ⟨hk, hs.cast [] (by kernel_rfl), hw.pick [0] (by kernel_rfl)⟩
  · intro a w hh
    obtain ⟨hk, hs, hw⟩ := (hJ517 _ _).1 hh
    refine c_seq ?_
    refine c_region ?_
    refine pures hs 1 [2] [(2, .bool true)] (by kernel_rfl) fun a hs => ?_
    refine s_end ?_
    refine wp_ret ?_
    obtain rfl := someE hk
    refine hQ _ _ (f_ret1 hs rfl (v := .bool true) (by kernel_rfl) ⟨rfl, hw.pick [0] (by kernel_rfl)⟩)
def catenaryref09_Right (k : Nat) (x1 : M53) : Option Bool :=
  if ((decide (x1.f0 < 0)) || ((decide (x1.f0 > 3)) || ((x1.f1 == 0) || (((x1.f2.length : Int) == 0) || (decide ((x1.f2.length : Int) > 5)))))) = true then some false
  else if (x1.f3 && (((x1.f2.length : Int) == 1) || (x1.f4 != 0))) = true then some false
  else (catenaryref09_Stands x1).bind fun y90 =>
  (catenaryref09_Unlike k y90).bind fun y97 =>
  some y97
theorem catenaryref09_Right_s {k : Nat} {x1 : M53} {p2 : Option Addr} {c3 : Nat} {r : Bool} (hk : catenaryref09_Right k x1 = some r) {g w : World} {F : Ch} {ih : IH} (h4 : RSl e3 ih [] p2 c3 x1.f2) (hw : St g w [F] ih) :
    CallsR Try.prog 31 #[.agg #[.int .i64 x1.f0, .int .u64 x1.f1, .slice p2 x1.f2.length c3, .bool x1.f3, .int .i64 x1.f4]] w fun v w' => v = .bool r ∧ St g w' [F] ih := by
  refine f_in (vs := [.agg #[.int .i64 x1.f0, .int .u64 x1.f1, .slice p2 x1.f2.length c3, .bool x1.f3, .int .i64 x1.f4]]) Try.func31 rfl 44 rfl (by kernel_rfl) [(0, .agg #[.int .i64 x1.f0, .int .u64 x1.f1, .slice p2 x1.f2.length c3, .bool x1.f3, .int .i64 x1.f4])] (by kernel_rfl) fun a Qf hQ hQn hs => ?_
  refine c_seq ?_
  refine c_region ?_
  refine s_new hs hw [.int .i64 x1.f0, .int .u64 x1.f1, .slice p2 x1.f2.length c3, .bool x1.f3, .int .i64 x1.f4] 53 (fun b => .pointer (some ⟨b, 0, none⟩)) (by kernel_rfl) (fun _ => by kernel_rfl) fun a w b55 hs hw => ?_
  refine pures hs 1 [1] [(1, .pointer (some ⟨b55, 0, none⟩))] (by kernel_rfl) fun a hs => ?_
  refine s_end ?_
  refine c_seq ?_
  refine c_seq ?_
  obtain ⟨J66, hJ66⟩ : ∃ J : Act → World → Prop, ∀ a w, J a w ↔ (Sees a 44 [(1, .pointer (some ⟨b55, 0, none⟩)), (27, .bool ((decide (x1.f0 < 0)) || ((decide (x1.f0 > 3)) || ((x1.f1 == 0) || (((x1.f2.length : Int) == 0) || (decide ((x1.f2.length : Int) > 5)))))))] ∧ St g w [bx b55 [.int .i64 x1.f0, .int .u64 x1.f1, .slice p2 x1.f2.length c3, .bool x1.f3, .int .i64 x1.f4] 53, F] ih) := ⟨_, fun _ _ => Iff.rfl⟩
  refine c_regJ J66 ?_ ?_
  · refine pures hs 1 [1, 3] [(1, .pointer (some ⟨b55, 0, none⟩)), (3, .pointer (some ⟨b55, 0, none⟩))] (by kernel_rfl) fun a hs => ?_
    refine s_load hs (hw.at_ 0 rfl) 0 (by kernel_rfl) (by kernel_rfl) (v := .int .i64 x1.f0) (by kernel_rfl) fun a hs => ?_
    refine pures hs 2 [1, 6] [(1, .pointer (some ⟨b55, 0, none⟩)), (6, .bool (decide (x1.f0 < 0)))] (by kernel_rfl) fun a hs => ?_
    rcases boolE (decide (x1.f0 < 0)) with h67 | h67
    · replace hs := hs.altB 6 true (by kernel_rfl) h67
      refine pures hs 21 [1, 27] [(1, .pointer (some ⟨b55, 0, none⟩)), (27, .bool true)] (by kernel_rfl) fun a hs => ?_
      refine s_end ?_
      exact (hJ66 _ _).2 ⟨(hs.altB 27 ((decide (x1.f0 < 0)) || ((decide (x1.f0 > 3)) || ((x1.f1 == 0) || (((x1.f2.length : Int) == 0) || (decide ((x1.f2.length : Int) > 5)))))) (by kernel_rfl) (by rw [h67] <;> rfl)).cast [1, 27] (by kernel_rfl), hw.pick [0, 1] (by kernel_rfl)⟩
    · replace hs := hs.altB 6 false (by kernel_rfl) h67
      refine pures hs 1 [1, 6, 7] [(1, .pointer (some ⟨b55, 0, none⟩)), (6, .bool false), (7, .pointer (some ⟨b55, 0, none⟩))] (by kernel_rfl) fun a hs => ?_
      refine s_load hs (hw.at_ 0 rfl) 0 (by kernel_rfl) (by kernel_rfl) (v := .int .i64 x1.f0) (by kernel_rfl) fun a hs => ?_
      refine pures hs 3 [1, 11] [(1, .pointer (some ⟨b55, 0, none⟩)), (11, .bool (decide (x1.f0 > 3)))] (by kernel_rfl) fun a hs => ?_
      rcases boolE (decide (x1.f0 > 3)) with h68 | h68
      · replace hs := hs.altB 11 true (by kernel_rfl) h68
        refine pures hs 16 [1, 27] [(1, .pointer (some ⟨b55, 0, none⟩)), (27, .bool true)] (by kernel_rfl) fun a hs => ?_
        refine s_end ?_
        exact (hJ66 _ _).2 ⟨(hs.altB 27 ((decide (x1.f0 < 0)) || ((decide (x1.f0 > 3)) || ((x1.f1 == 0) || (((x1.f2.length : Int) == 0) || (decide ((x1.f2.length : Int) > 5)))))) (by kernel_rfl) (by rw [h67, h68] <;> rfl)).cast [1, 27] (by kernel_rfl), hw.pick [0, 1] (by kernel_rfl)⟩
      · replace hs := hs.altB 11 false (by kernel_rfl) h68
        refine pures hs 1 [1, 11, 12] [(1, .pointer (some ⟨b55, 0, none⟩)), (11, .bool false), (12, .pointer (some ⟨b55, 1, none⟩))] (by kernel_rfl) fun a hs => ?_
        refine s_load hs (hw.at_ 0 rfl) 1 (by kernel_rfl) (by kernel_rfl) (v := .int .u64 x1.f1) (by kernel_rfl) fun a hs => ?_
        refine pures hs 3 [1, 16] [(1, .pointer (some ⟨b55, 0, none⟩)), (16, .bool (x1.f1 == 0))] (by kernel_rfl) fun a hs => ?_
        rcases boolE (x1.f1 == 0) with h69 | h69
        · replace hs := hs.altB 16 true (by kernel_rfl) h69
          refine pures hs 11 [1, 27] [(1, .pointer (some ⟨b55, 0, none⟩)), (27, .bool true)] (by kernel_rfl) fun a hs => ?_
          refine s_end ?_
          exact (hJ66 _ _).2 ⟨(hs.altB 27 ((decide (x1.f0 < 0)) || ((decide (x1.f0 > 3)) || ((x1.f1 == 0) || (((x1.f2.length : Int) == 0) || (decide ((x1.f2.length : Int) > 5)))))) (by kernel_rfl) (by rw [h67, h68, h69] <;> rfl)).cast [1, 27] (by kernel_rfl), hw.pick [0, 1] (by kernel_rfl)⟩
        · replace hs := hs.altB 16 false (by kernel_rfl) h69
          refine pures hs 1 [1, 16, 17] [(1, .pointer (some ⟨b55, 0, none⟩)), (16, .bool false), (17, .pointer (some ⟨b55, 2, none⟩))] (by kernel_rfl) fun a hs => ?_
          refine s_load hs (hw.at_ 0 rfl) 2 (by kernel_rfl) (by kernel_rfl) (v := .slice p2 x1.f2.length c3) (by kernel_rfl) fun a hs => ?_
          refine pures hs 4 [1, 22] [(1, .pointer (some ⟨b55, 0, none⟩)), (22, .bool ((x1.f2.length : Int) == 0))] (by kernel_rfl) fun a hs => ?_
          rcases boolE ((x1.f2.length : Int) == 0) with h70 | h70
          · replace hs := hs.altB 22 true (by kernel_rfl) h70
            refine pures hs 5 [1, 27] [(1, .pointer (some ⟨b55, 0, none⟩)), (27, .bool true)] (by kernel_rfl) fun a hs => ?_
            refine s_end ?_
            exact (hJ66 _ _).2 ⟨(hs.altB 27 ((decide (x1.f0 < 0)) || ((decide (x1.f0 > 3)) || ((x1.f1 == 0) || (((x1.f2.length : Int) == 0) || (decide ((x1.f2.length : Int) > 5)))))) (by kernel_rfl) (by rw [h67, h68, h69, h70] <;> rfl)).cast [1, 27] (by kernel_rfl), hw.pick [0, 1] (by kernel_rfl)⟩
          · replace hs := hs.altB 22 false (by kernel_rfl) h70
            refine pures hs 1 [1, 22, 23] [(1, .pointer (some ⟨b55, 0, none⟩)), (22, .bool false), (23, .pointer (some ⟨b55, 2, none⟩))] (by kernel_rfl) fun a hs => ?_
            refine s_load hs (hw.at_ 0 rfl) 2 (by kernel_rfl) (by kernel_rfl) (v := .slice p2 x1.f2.length c3) (by kernel_rfl) fun a hs => ?_
            refine pures hs 3 [1, 27] [(1, .pointer (some ⟨b55, 0, none⟩)), (27, .bool (decide ((x1.f2.length : Int) > 5)))] (by kernel_rfl) fun a hs => ?_
            refine s_end ?_
            exact (hJ66 _ _).2 ⟨(hs.altB 27 ((decide (x1.f0 < 0)) || ((decide (x1.f0 > 3)) || ((x1.f1 == 0) || (((x1.f2.length : Int) == 0) || (decide ((x1.f2.length : Int) > 5)))))) (by kernel_rfl) (by rw [h67, h68, h69, h70] <;> rfl)).cast [1, 27] (by kernel_rfl), hw.pick [0, 1] (by kernel_rfl)⟩
  · intro a w hh
    obtain ⟨hs, hw⟩ := (hJ66 _ _).1 hh
    rcases ifbE hk with ⟨h71, hk⟩ | ⟨h71, hk⟩
    · refine c_cond1 hs (by kernel_rfl) (t := ((decide (x1.f0 < 0)) || ((decide (x1.f0 > 3)) || ((x1.f1 == 0) || (((x1.f2.length : Int) == 0) || (decide ((x1.f2.length : Int) > 5))))))) (by kernel_rfl) h71 ?_
      refine c_seq ?_
      refine c_region ?_
      refine pures hs 1 [2] [(2, .bool false)] (by kernel_rfl) fun a hs => ?_
      refine s_end ?_
      refine wp_ret ?_
      obtain rfl := someE hk
      refine hQ _ _ (f_ret1 hs rfl (v := .bool false) (by kernel_rfl) ⟨rfl, hw.pick [1] (by kernel_rfl)⟩)
    · refine c_cond0 hs (by kernel_rfl) (t := ((decide (x1.f0 < 0)) || ((decide (x1.f0 > 3)) || ((x1.f1 == 0) || (((x1.f2.length : Int) == 0) || (decide ((x1.f2.length : Int) > 5))))))) (by kernel_rfl) h71 ?_
      refine wp_skip ?_
      refine c_seq ?_
      refine c_seq ?_
      obtain ⟨J77, hJ77⟩ : ∃ J : Act → World → Prop, ∀ a w, J a w ↔ (Sees a 44 [(1, .pointer (some ⟨b55, 0, none⟩)), (40, .bool (x1.f3 && (((x1.f2.length : Int) == 1) || (x1.f4 != 0))))] ∧ St g w [bx b55 [.int .i64 x1.f0, .int .u64 x1.f1, .slice p2 x1.f2.length c3, .bool x1.f3, .int .i64 x1.f4] 53, F] ih) := ⟨_, fun _ _ => Iff.rfl⟩
      refine c_regJ J77 ?_ ?_
      · refine pures hs 1 [1, 28] [(1, .pointer (some ⟨b55, 0, none⟩)), (28, .pointer (some ⟨b55, 3, none⟩))] (by kernel_rfl) fun a hs => ?_
        refine s_load hs (hw.at_ 0 rfl) 3 (by kernel_rfl) (by kernel_rfl) (v := .bool x1.f3) (by kernel_rfl) fun a hs => ?_
        refine pures hs 1 [1, 30] [(1, .pointer (some ⟨b55, 0, none⟩)), (30, .bool x1.f3)] (by kernel_rfl) fun a hs => ?_
        rcases boolE x1.f3 with h78 | h78
        · replace hs := hs.altB 30 true (by kernel_rfl) h78
          refine pures hs 1 [1, 30, 31] [(1, .pointer (some ⟨b55, 0, none⟩)), (30, .bool true), (31, .pointer (some ⟨b55, 2, none⟩))] (by kernel_rfl) fun a hs => ?_
          refine s_load hs (hw.at_ 0 rfl) 2 (by kernel_rfl) (by kernel_rfl) (v := .slice p2 x1.f2.length c3) (by kernel_rfl) fun a hs => ?_
          refine pures hs 3 [1, 30, 35] [(1, .pointer (some ⟨b55, 0, none⟩)), (30, .bool true), (35, .bool ((x1.f2.length : Int) == 1))] (by kernel_rfl) fun a hs => ?_
          rcases boolE ((x1.f2.length : Int) == 1) with h79 | h79
          · replace hs := hs.altB 35 true (by kernel_rfl) h79
            refine pures hs 5 [1, 40] [(1, .pointer (some ⟨b55, 0, none⟩)), (40, .bool true)] (by kernel_rfl) fun a hs => ?_
            refine s_end ?_
            exact (hJ77 _ _).2 ⟨(hs.altB 40 (x1.f3 && (((x1.f2.length : Int) == 1) || (x1.f4 != 0))) (by kernel_rfl) (by rw [h78, h79] <;> rfl)).cast [1, 40] (by kernel_rfl), hw.pick [0, 1] (by kernel_rfl)⟩
          · replace hs := hs.altB 35 false (by kernel_rfl) h79
            refine pures hs 1 [1, 30, 35, 36] [(1, .pointer (some ⟨b55, 0, none⟩)), (30, .bool true), (35, .bool false), (36, .pointer (some ⟨b55, 4, none⟩))] (by kernel_rfl) fun a hs => ?_
            refine s_load hs (hw.at_ 0 rfl) 4 (by kernel_rfl) (by kernel_rfl) (v := .int .i64 x1.f4) (by kernel_rfl) fun a hs => ?_
            refine pures hs 3 [1, 40] [(1, .pointer (some ⟨b55, 0, none⟩)), (40, .bool (x1.f4 != 0))] (by kernel_rfl) fun a hs => ?_
            refine s_end ?_
            exact (hJ77 _ _).2 ⟨(hs.altB 40 (x1.f3 && (((x1.f2.length : Int) == 1) || (x1.f4 != 0))) (by kernel_rfl) (by rw [h78, h79] <;> rfl)).cast [1, 40] (by kernel_rfl), hw.pick [0, 1] (by kernel_rfl)⟩
        · replace hs := hs.altB 30 false (by kernel_rfl) h78
          refine pures hs 10 [1, 40] [(1, .pointer (some ⟨b55, 0, none⟩)), (40, .bool false)] (by kernel_rfl) fun a hs => ?_
          refine s_end ?_
          exact (hJ77 _ _).2 ⟨(hs.altB 40 (x1.f3 && (((x1.f2.length : Int) == 1) || (x1.f4 != 0))) (by kernel_rfl) (by rw [h78] <;> rfl)).cast [1, 40] (by kernel_rfl), hw.pick [0, 1] (by kernel_rfl)⟩
      · intro a w hh
        obtain ⟨hs, hw⟩ := (hJ77 _ _).1 hh
        rcases ifbE hk with ⟨h80, hk⟩ | ⟨h80, hk⟩
        · refine c_cond1 hs (by kernel_rfl) (t := (x1.f3 && (((x1.f2.length : Int) == 1) || (x1.f4 != 0)))) (by kernel_rfl) h80 ?_
          refine c_seq ?_
          refine c_region ?_
          refine pures hs 1 [2] [(2, .bool false)] (by kernel_rfl) fun a hs => ?_
          refine s_end ?_
          refine wp_ret ?_
          obtain rfl := someE hk
          refine hQ _ _ (f_ret1 hs rfl (v := .bool false) (by kernel_rfl) ⟨rfl, hw.pick [1] (by kernel_rfl)⟩)
        · refine c_cond0 hs (by kernel_rfl) (t := (x1.f3 && (((x1.f2.length : Int) == 1) || (x1.f4 != 0)))) (by kernel_rfl) h80 ?_
          refine wp_skip ?_
          refine c_seq ?_
          refine c_region ?_
          refine s_load hs (hw.at_ 0 rfl) 0 (by kernel_rfl) (by kernel_rfl) (v := .agg #[.int .i64 x1.f0, .int .u64 x1.f1, .slice p2 x1.f2.length c3, .bool x1.f3, .int .i64 x1.f4]) (by kernel_rfl) fun a hs => ?_
          obtain ⟨y90, h91, hk⟩ := bindE hk
          refine s_call hs (by kernel_rfl) (by kernel_rfl) (catenaryref09_Stands_s h91 h4 ((hw.pick [1] (by kernel_rfl)).pack 0)) fun a w v hv hs => ?_
          obtain ⟨p92, c93, d95, rfl, hw, h94⟩ := hv
          replace hw := hw.unpack 1 rfl
          obtain ⟨y97, h98, hk⟩ := bindE hk
          refine s_call hs (by kernel_rfl) (by kernel_rfl) (catenaryref09_Unlike_s h98 h94.read (memF 0 rfl) ((hw.pick [0, 1] (by kernel_rfl)).pack 0)) fun a w v hv hs => ?_
          obtain ⟨rfl, hw⟩ := hv
          replace hw := hw.unpack 0 rfl
          refine pures hs 1 [2] [(2, .bool y97)] (by kernel_rfl) fun a hs => ?_
          refine s_end ?_
          refine wp_ret ?_
          obtain rfl := someE hk
          refine hQ _ _ (f_ret1 hs rfl (v := .bool y97) (by kernel_rfl) ⟨rfl, hw.pick [1] (by kernel_rfl)⟩)
def slices_Clone_int_int (x1 : List Int) : Option (List Int) :=
  (app [] x1).bind fun x => some x
theorem slices_Clone_int_int_s {x1 : List Int} {p2 : Option Addr} {c3 : Nat} {d5 : Ch} {r : List Int} (hk : slices_Clone_int_int x1 = some r) {g w : World} {F : Ch} {ih : IH} (h4 : RSl e3 ih d5 p2 c3 x1) (h6 : ∀ q ∈ d5, q ∈ F) (hw : St g w [F] ih) :
    CallsR Try.prog 114 #[.slice p2 x1.length c3] w fun v w' => ∃ (p : Option Addr) (c : Nat) (d : Ch), v = .slice p r.length c ∧ St g w' [d, F] ih ∧ OSl e3 ih p c r d := by
  rcases p2 with _ | q
  · obtain ⟨_, rfl, rfl⟩ := h4
    replace hk : some [] = some r := hk
    refine f_in (vs := [.slice none 0 0]) Try.func114 rfl 8 rfl (by kernel_rfl) [(0, .slice none 0 0)] (by kernel_rfl) fun a Qf hQ hQn hs => ?_
    refine c_seq ?_
    refine c_region ?_
    refine pures hs 1 [0] [(0, .slice none 0 0)] (by kernel_rfl) fun a hs => ?_
    refine s_end ?_
    refine c_seq ?_
    refine c_seq ?_
    refine c_region ?_
    refine pures hs 2 [0, 4] [(0, .slice none 0 0), (4, .bool true)] (by kernel_rfl) fun a hs => ?_
    refine s_end ?_
    refine c_condT hs (by kernel_rfl) (by kernel_rfl) ?_
    refine c_seq ?_
    refine c_region ?_
    refine pures hs 1 [2] [(2, .slice none 0 0)] (by kernel_rfl) fun a hs => ?_
    refine s_end ?_
    refine wp_ret ?_
    replace hw := hw.nil
    obtain rfl := someE hk
    refine hQ _ _ (f_ret1 hs rfl (v := .slice none 0 0) (by kernel_rfl) ⟨none, 0, ([]), rfl, hw.pick [0, 1] (by kernel_rfl), (OSl.nil _ _)⟩)
  · refine f_in (vs := [.slice (some q) x1.length c3]) Try.func114 rfl 8 rfl (by kernel_rfl) [(0, .slice (some q) x1.length c3)] (by kernel_rfl) fun a Qf hQ hQn hs => ?_
    refine c_seq ?_
    refine c_region ?_
    refine pures hs 1 [0] [(0, .slice (some q) x1.length c3)] (by kernel_rfl) fun a hs => ?_
    refine s_end ?_
    refine c_seq ?_
    refine c_seq ?_
    refine c_region ?_
    refine pures hs 2 [0, 4] [(0, .slice (some q) x1.length c3), (4, .bool false)] (by kernel_rfl) fun a hs => ?_
    refine s_end ?_
    refine c_condF hs (by kernel_rfl) (by kernel_rfl) ?_
    refine wp_skip ?_
    refine c_seq ?_
    refine c_region ?_
    refine s_new hs hw [] 3 (fun b => .slice (some ⟨b, 0, none⟩) 0 0) (by kernel_rfl) (fun _ => by kernel_rfl) fun a w b18 hs hw => ?_
    refine pures hs 1 [5, 6] [(5, .slice (some ⟨b18, 0, none⟩) 0 0), (6, .slice (some q) x1.length c3)] (by kernel_rfl) fun a hs => ?_
    obtain ⟨x20, h21, hk⟩ := bindE hk
    refine s_appS hs hw (E := e3) appT40 0 rfl OSl.of0 (by kernel_rfl) (by kernel_rfl) (h4.mono (Le.refl _)) (((hw.vw 1 rfl).sub h6).anti (Le.refl _)) (by kernel_rfl) h21 fun a w p22 c23 d24 h25 hw hs => ?_
    refine pures hs 1 [2] [(2, .slice p22 x20.length c23)] (by kernel_rfl) fun a hs => ?_
    refine s_end ?_
    refine wp_ret ?_
    obtain rfl := someE hk
    refine hQ _ _ (f_ret1 hs rfl (v := .slice p22 x20.length c23) (by kernel_rfl) ⟨p22, c23, d24, rfl, hw.pick [0, 1] (by kernel_rfl), h25⟩)
def conf_everybody_r2 (x207 : List Int) : Option (List Int) :=
  some x207
def conf_everybody (x1 : M53) : Option (List Int) :=
  if (x1.f4 == 0) = true then (
    (slices_Clone_int_int x1.f2).bind fun y139 =>
    some y139)
  else ((slices_Clone_int_int x1.f2).bind fun y216 =>
    (app y216 [x1.f4]).bind fun x225 =>
    some x225 : Option (List Int)).bind fun s246 => conf_everybody_r2 s246
theorem conf_everybody_s {x1 : M53} {p2 : Option Addr} {c3 : Nat} {r : (List Int)} (hk : conf_everybody x1 = some r) {g w : World} {F : Ch} {ih : IH} (h4 : RSl e3 ih [] p2 c3 x1.f2) (hw : St g w [F] ih) :
    CallsR Try.prog 109 #[.agg #[.int .i64 x1.f0, .int .u64 x1.f1, .slice p2 x1.f2.length c3, .bool x1.f3, .int .i64 x1.f4]] w fun v w' => ∃ (p247 : Option Addr) (c248 : Nat) (d249 : Ch), v = .slice p247 r.length c248 ∧ St g w' [d249, F] ih ∧ OSl e3 ih p247 c248 r d249 := by
  refine f_in (vs := [.agg #[.int .i64 x1.f0, .int .u64 x1.f1, .slice p2 x1.f2.length c3, .bool x1.f3, .int .i64 x1.f4]]) Try.func109 rfl 16 rfl (by kernel_rfl) [(0, .agg #[.int .i64 x1.f0, .int .u64 x1.f1, .slice p2 x1.f2.length c3, .bool x1.f3, .int .i64 x1.f4])] (by kernel_rfl) fun a Qf hQ hQn hs => ?_
  refine c_seq ?_
  refine c_region ?_
  refine s_new hs hw [.int .i64 x1.f0, .int .u64 x1.f1, .slice p2 x1.f2.length c3, .bool x1.f3, .int .i64 x1.f4] 53 (fun b => .pointer (some ⟨b, 0, none⟩)) (by kernel_rfl) (fun _ => by kernel_rfl) fun a w b129 hs hw => ?_
  refine pures hs 1 [1] [(1, .pointer (some ⟨b129, 0, none⟩))] (by kernel_rfl) fun a hs => ?_
  refine s_end ?_
  refine c_seq ?_
  refine c_seq ?_
  refine c_region ?_
  refine pures hs 1 [1, 3] [(1, .pointer (some ⟨b129, 0, none⟩)), (3, .pointer (some ⟨b129, 4, none⟩))] (by kernel_rfl) fun a hs => ?_
  refine s_load hs (hw.at_ 0 rfl) 4 (by kernel_rfl) (by kernel_rfl) (v := .int .i64 x1.f4) (by kernel_rfl) fun a hs => ?_
  refine pures hs 1 [1, 5] [(1, .pointer (some ⟨b129, 0, none⟩)), (5, .bool (x1.f4 == 0))] (by kernel_rfl) fun a hs => ?_
  refine s_end ?_
  rcases ifbE hk with ⟨h131, hk⟩ | ⟨h131, hk⟩
  · refine c_cond1 hs (by kernel_rfl) (t := (x1.f4 == 0)) (by kernel_rfl) h131 ?_
    refine c_seq ?_
    refine c_region ?_
    refine pures hs 1 [6] [(6, .pointer (some ⟨b129, 2, none⟩))] (by kernel_rfl) fun a hs => ?_
    refine s_load hs (hw.at_ 0 rfl) 2 (by kernel_rfl) (by kernel_rfl) (v := .slice p2 x1.f2.length c3) (by kernel_rfl) fun a hs => ?_
    obtain ⟨y139, h140, hk⟩ := bindE hk
    refine s_call hs (by kernel_rfl) (by kernel_rfl) (slices_Clone_int_int_s h140 h4 (nilSub _) ((hw.pick [1] (by kernel_rfl)).pack 0)) fun a w v hv hs => ?_
    obtain ⟨p141, c142, d144, rfl, hw, h143⟩ := hv
    replace hw := hw.unpack 1 rfl
    refine pures hs 1 [2] [(2, .slice p141 y139.length c142)] (by kernel_rfl) fun a hs => ?_
    refine s_end ?_
    refine wp_ret ?_
    obtain rfl := someE hk
    refine hQ _ _ (f_ret1 hs rfl (v := .slice p141 y139.length c142) (by kernel_rfl) ⟨p141, c142, d144, rfl, hw.pick [0, 1] (by kernel_rfl), h143⟩)
  · refine c_cond0 hs (by kernel_rfl) (t := (x1.f4 == 0)) (by kernel_rfl) h131 ?_
    refine wp_skip ?_
    refine c_seq ?_
    obtain ⟨S146, hS146, kS146⟩ := mkSX (X := [([], bx b129 [.int .i64 x1.f0, .int .u64 x1.f1, .slice p2 x1.f2.length c3, .bool x1.f3, .int .i64 x1.f4] 53), ([], F)]) (ih := ih) (K := []) rfl
    obtain ⟨y213, hx214, hk⟩ := bindE hk
    obtain ⟨J215, hJ215⟩ : ∃ J : Act → World → Prop, ∀ a w, J a w ↔ (∃ (x207 : List Int) (p208 : Option Addr) (c209 : Nat) (d211 : Ch), conf_everybody_r2 x207 = some r ∧ Sees a 16 [(2, .slice p208 x207.length c209)] ∧ St g w [d211, F] ih ∧ OSl e3 ih p208 c209 x207 d211) := ⟨_, fun _ _ => Iff.rfl⟩
    refine c_draw (by kernel_rfl) (N := 8) rfl S146 J215 ?_ ?_
    · have hw := hw.drew
      have hS : S146 (Array.replicate 8 false) _ := SX_now hS146 (hw.vws [0, 1]) (by kernel_rfl)
      refine d_pures (fuel := 7) kS146 hs hS [0] [1, 9] [(1, .pointer (some ⟨b129, 0, none⟩)), (9, .pointer (some ⟨b129, 2, none⟩))] (by kernel_rfl) fun a hs hS => ?_
      refine d_load (fuel := 6) kS146 hs hS 1 rfl (by kernel_rfl) (SX_box hS146 0 rfl (by kernel_rfl)) 2 (by kernel_rfl) (by kernel_rfl) (v := .slice p2 x1.f2.length c3) (by kernel_rfl) fun a hs hS => ?_
      refine d_pures (fuel := 5) kS146 hs hS [3] [1, 9, 10, 12] [(1, .pointer (some ⟨b129, 0, none⟩)), (9, .pointer (some ⟨b129, 2, none⟩)), (10, .slice p2 x1.f2.length c3), (12, .pointer (some ⟨b129, 4, none⟩))] (by kernel_rfl) fun a hs hS => ?_
      refine d_load (fuel := 4) kS146 hs hS 4 rfl (by kernel_rfl) (SX_box hS146 0 rfl (by kernel_rfl)) 4 (by kernel_rfl) (by kernel_rfl) (v := .int .i64 x1.f4) (by kernel_rfl) fun a hs hS => ?_
      refine d_all (fuel := 3) (rs := [2, 5]) (by kernel_rfl) (by simp) (all2 ?_ (all1 ?_))
      · obtain ⟨y216, h217, hx214⟩ := bindE hx214
        refine o_call hs rfl (by kernel_rfl) (by kernel_rfl) (slices_Clone_int_int_s h217 h4 (nilSub _) ((hw.pick [0, 1] (by kernel_rfl)).pack 0)) fun a w v hv hs => ?_
        obtain ⟨p218, c219, d221, rfl, hw, h220⟩ := hv
        replace hw := hw.unpack 1 rfl
        refine dg_next (SX_now hS146 ((hw.vws [1, 2]).anti (Le.refl _)) (by kernel_rfl)) fun hS => ?_
        refine d_all (fuel := 2) (rs := [5]) (by kernel_rfl) (by simp) (all1 ?_)
        refine o_new hs rfl hw [.int .i64 x1.f4] 3 (fun b => .slice (some ⟨b, 0, none⟩) 1 1) (by kernel_rfl) (fun _ => by kernel_rfl) fun a w b223 hs hw => ?_
        refine dg_next (SX_now hS146 ((hw.vws [2, 3]).anti (Le.refl _)) (by kernel_rfl)) fun hS => ?_
        refine d_all (fuel := 1) (rs := [6]) (by kernel_rfl) (by simp) (all1 ?_)
        obtain ⟨x225, h226, hx214⟩ := bindE hx214
        refine o_app1 hs rfl hw (E := e3) appT40 1 rfl h220 (by kernel_rfl) (by kernel_rfl) (c2 := 1) (by kernel_rfl) (hw.at_ 0 rfl) (z := x1.f4) rfl h226 fun a w p227 c228 d229 h230 hw hs => ?_
        refine dg_next (SX_now hS146 ((hw.vws [2, 3]).anti (Le.refl _)) (by kernel_rfl)) fun hS => ?_
        refine d_pures (fuel := 0) kS146 hs hS [7] [1, 9, 10, 12, 13, 14, 15, 2] [(1, .pointer (some ⟨b129, 0, none⟩)), (9, .pointer (some ⟨b129, 2, none⟩)), (10, .slice p2 x1.f2.length c3), (12, .pointer (some ⟨b129, 4, none⟩)), (13, .int .i64 x1.f4), (14, .slice (some ⟨b223, 0, none⟩) 1 1), (15, .slice p227 x225.length c228), (2, .slice p227 x225.length c228)] (by kernel_rfl) fun a hs hS => ?_
        refine d_done (by kernel_rfl) ?_
        obtain rfl := someE hx214
        exact (hJ215 _ _).2 ⟨x225, p227, c228, d229, hk, hs.cast [2] (by kernel_rfl), hw.pick [1, 3] (by kernel_rfl), h230⟩
      · refine o_new hs rfl hw [.int .i64 x1.f4] 3 (fun b => .slice (some ⟨b, 0, none⟩) 1 1) (by kernel_rfl) (fun _ => by kernel_rfl) fun a w b231 hs hw => ?_
        refine dg_next (SX_now hS146 ((hw.vws [1, 2]).anti (Le.refl _)) (by kernel_rfl)) fun hS => ?_
        refine d_all (fuel := 2) (rs := [2]) (by kernel_rfl) (by simp) (all1 ?_)
        obtain ⟨y233, h234, hx214⟩ := bindE hx214
        refine o_call hs rfl (by kernel_rfl) (by kernel_rfl) (slices_Clone_int_int_s h234 h4 (nilSub _) ((hw.pick [0, 1, 2] (by kernel_rfl)).pack 0)) fun a w v hv hs => ?_
        obtain ⟨p235, c236, d238, rfl, hw, h237⟩ := hv
        replace hw := hw.unpack 1 rfl
        refine dg_next (SX_now hS146 ((hw.vws [2, 3]).anti (Le.refl _)) (by kernel_rfl)) fun hS => ?_
        refine d_all (fuel := 1) (rs := [6]) (by kernel_rfl) (by simp) (all1 ?_)
        obtain ⟨x240, h241, hx214⟩ := bindE hx214
        refine o_app1 hs rfl hw (E := e3) appT40 0 rfl h237 (by kernel_rfl) (by kernel_rfl) (c2 := 1) (by kernel_rfl) (hw.at_ 1 rfl) (z := x1.f4) rfl h241 fun a w p242 c243 d244 h245 hw hs => ?_
        refine dg_next (SX_now hS146 ((hw.vws [2, 3]).anti (Le.refl _)) (by kernel_rfl)) fun hS => ?_
        refine d_pures (fuel := 0) kS146 hs hS [7] [1, 9, 10, 12, 13, 14, 15, 2] [(1, .pointer (some ⟨b129, 0, none⟩)), (9, .pointer (some ⟨b129, 2, none⟩)), (10, .slice p2 x1.f2.length c3), (12, .pointer (some ⟨b129, 4, none⟩)), (13, .int .i64 x1.f4), (14, .slice (some ⟨b231, 0, none⟩) 1 1), (15, .slice p242 x240.length c243), (2, .slice p242 x240.length c243)] (by kernel_rfl) fun a hs hS => ?_
        refine d_done (by kernel_rfl) ?_
        obtain rfl := someE hx214
        exact (hJ215 _ _).2 ⟨x240, p242, c243, d244, hk, hs.cast [2] (by kernel_rfl), hw.pick [0, 3] (by kernel_rfl), h245⟩
    · intro a w hh
      obtain ⟨x207, p208, c209, d211, hk, hs, hw, h210⟩ := (hJ215 _ _).1 hh
      refine wp_ret ?_
      obtain rfl := someE hk
      refine hQ _ _ (f_ret1 hs rfl (v := .slice p208 x207.length c209) (by kernel_rfl) ⟨p208, c209, d211, rfl, hw.pick [0, 1] (by kernel_rfl), h210⟩)
def conf_node (x1 : Int) : Option Bool :=
  some ((decide (x1 ≥ 1)) && (decide (x1 ≤ 24)))
theorem conf_node_s {x1 : Int} {r : Bool} (hk : conf_node x1 = some r) {g w : World} {F : Ch} {ih : IH} (hw : St g w [F] ih) :
    CallsR Try.prog 113 #[.int .i64 x1] w fun v w' => v = .bool r ∧ St g w' [F] ih := by
  refine f_in (vs := [.int .i64 x1]) Try.func113 rfl 9 rfl (by kernel_rfl) [(0, .int .i64 x1)] (by kernel_rfl) fun a Qf hQ hQn hs => ?_
  refine c_seq ?_
  refine c_region ?_
  refine pures hs 1 [0] [(0, .int .i64 x1)] (by kernel_rfl) fun a hs => ?_
  refine s_end ?_
  refine c_seq ?_
  obtain ⟨J12, hJ12⟩ : ∃ J : Act → World → Prop, ∀ a w, J a w ↔ (Sees a 9 [(2, .bool ((decide (x1 ≥ 1)) && (decide (x1 ≤ 24))))] ∧ St g w [F] ih) := ⟨_, fun _ _ => Iff.rfl⟩
  refine c_regJ J12 ?_ ?_
  · refine pures hs 3 [0, 5] [(0, .int .i64 x1), (5, .bool (decide (x1 ≥ 1)))] (by kernel_rfl) fun a hs => ?_
    rcases boolE (decide (x1 ≥ 1)) with h13 | h13
    · replace hs := hs.altB 5 true (by kernel_rfl) h13
      refine pures hs 4 [2] [(2, .bool (decide (x1 ≤ 24)))] (by kernel_rfl) fun a hs => ?_
      refine s_end ?_
      exact (hJ12 _ _).2 ⟨(hs.altB 2 ((decide (x1 ≥ 1)) && (decide (x1 ≤ 24))) (by kernel_rfl) (by rw [h13] <;> rfl)).cast [2] (by kernel_rfl), hw.pick [0] (by kernel_rfl)⟩
    · replace hs := hs.altB 5 false (by kernel_rfl) h13
      refine pures hs 4 [2] [(2, .bool false)] (by kernel_rfl) fun a hs => ?_
      refine s_end ?_
      exact (hJ12 _ _).2 ⟨(hs.altB 2 ((decide (x1 ≥ 1)) && (decide (x1 ≤ 24))) (by kernel_rfl) (by rw [h13] <;> rfl)).cast [2] (by kernel_rfl), hw.pick [0] (by kernel_rfl)⟩
  · intro a w hh
    obtain ⟨hs, hw⟩ := (hJ12 _ _).1 hh
    refine wp_ret ?_
    obtain rfl := someE hk
    refine hQ _ _ (f_ret1 hs rfl (v := .bool ((decide (x1 ≥ 1)) && (decide (x1 ≤ 24)))) (by kernel_rfl) ⟨rfl, hw.pick [0] (by kernel_rfl)⟩)
def slices_Index_int_int_r3 : Option Int :=
  some (-1)
def slices_Index_int_int_l4 (x1 : List Int) (x7 : Int) : Nat → Int → Option (Sum Int Unit)
  | 0, _ => none
  | j + 1, x78 =>
    if (decide (x78 < (x1.length : Int))) = true then (
      (ix x1 x78).bind fun x98 =>
      if (x7 == x98) = true then some (.inl x78)
      else slices_Index_int_int_l4 x1 x7 j (IntKind.i64.wrap (x78 + 1)))
    else some (.inr ())
def slices_Index_int_int (k : Nat) (x1 : List Int) (x7 : Int) : Option Int :=
  (slices_Index_int_int_l4 x1 x7 k 0 : Option (Sum Int Unit)).bind fun
    | .inl z => some z
    | .inr _ => slices_Index_int_int_r3
theorem slices_Index_int_int_s {k : Nat} {x1 : List Int} {x7 : Int} {p2 : Option Addr} {c3 : Nat} {d5 : Ch} {r : Int} (hk : slices_Index_int_int k x1 x7 = some r) {g w : World} {F : Ch} {ih : IH} (h4 : RSl e3 ih d5 p2 c3 x1) (h6 : ∀ q ∈ d5, q ∈ F) (hw : St g w [F] ih) :
    CallsR Try.prog 81 #[.slice p2 x1.length c3, .int .i64 x7] w fun v w' => v = .int .i64 r ∧ St g w' [F] ih := by
  refine f_in (vs := [.slice p2 x1.length c3, .int .i64 x7]) Try.func81 rfl 19 rfl (by kernel_rfl) [(0, .slice p2 x1.length c3), (1, .int .i64 x7)] (by kernel_rfl) fun a Qf hQ hQn hs => ?_
  refine c_seq ?_
  refine c_region ?_
  refine pures hs 1 [0, 1] [(0, .slice p2 x1.length c3), (1, .int .i64 x7)] (by kernel_rfl) fun a hs => ?_
  refine s_end ?_
  refine c_seq ?_
  refine c_seq ?_
  refine c_region ?_
  refine pures hs 3 [0, 1, 7, 8] [(0, .slice p2 x1.length c3), (1, .int .i64 x7), (7, .int .i64 (x1.length : Int)), (8, .int .i64 0)] (by kernel_rfl) fun a hs => ?_
  refine s_end ?_
  refine c_block ?_
  obtain ⟨y89, hx90, hk⟩ := bindE hk
  obtain ⟨J91, hJ91⟩ : ∃ J : Act → World → Prop, ∀ a w, J a w ↔ (slices_Index_int_int_r3 = some r ∧ Sees a 19 [] ∧ St g w [F] ih) := ⟨_, fun _ _ => Iff.rfl⟩
  obtain ⟨I92, hI92⟩ : ∃ J : Nat → Act → World → Prop, ∀ j a w, J j a w ↔ (∃ (x78 : Int), slices_Index_int_int_l4 x1 x7 j x78 = some y89 ∧ Sees a 19 [(0, .slice p2 x1.length c3), (1, .int .i64 x7), (7, .int .i64 (x1.length : Int)), (8, .int .i64 x78)] ∧ St g w [F] ih) := ⟨_, fun _ _ _ => Iff.rfl⟩
  refine c_exitJ 0 J91 ?_ ?_
  · refine c_loop I92 k ((hI92 _ _ _).2 ⟨0, hx90, hs.cast [0, 1, 7, 8] (by kernel_rfl), hw.pick [0] (by kernel_rfl)⟩) (fun a w h0 => ?_) fun j a w hh => ?_
    · obtain ⟨_, h, _⟩ := (hI92 _ _ _).1 h0
      cases h
    · obtain ⟨x78, hx90, hs, hw⟩ := (hI92 _ _ _).1 hh
      refine c_seq ?_
      refine c_region ?_
      refine pures hs 1 [0, 1, 7, 8, 9] [(0, .slice p2 x1.length c3), (1, .int .i64 x7), (7, .int .i64 (x1.length : Int)), (8, .int .i64 x78), (9, .bool (decide (x78 < (x1.length : Int))))] (by kernel_rfl) fun a hs => ?_
      refine s_end ?_
      refine c_seq ?_
      rcases ifbE hx90 with ⟨h93, hx90⟩ | ⟨h93, hx90⟩
      · refine c_cond1 hs (by kernel_rfl) (t := (decide (x78 < (x1.length : Int)))) (by kernel_rfl) h93 ?_
        refine wp_skip ?_
        refine c_seq ?_
        refine c_block ?_
        refine c_seq ?_
        refine c_region ?_
        refine pures hs 2 [0, 1, 7, 8, 5] [(0, .slice p2 x1.length c3), (1, .int .i64 x7), (7, .int .i64 (x1.length : Int)), (8, .int .i64 x78), (5, .int .i64 x78)] (by kernel_rfl) fun a hs => ?_
        refine s_end ?_
        refine c_seq ?_
        refine c_region ?_
        refine pures hs 3 [0, 1, 7, 8, 5, 11, 12, 13] [(0, .slice p2 x1.length c3), (1, .int .i64 x7), (7, .int .i64 (x1.length : Int)), (8, .int .i64 x78), (5, .int .i64 x78), (11, .int .i64 x7), (12, .slice p2 x1.length c3), (13, .int .i64 x78)] (by kernel_rfl) fun a hs => ?_
        obtain ⟨x98, h99, hx90⟩ := bindE hx90
        refine s_index hs h4 (by kernel_rfl) (by kernel_rfl) (k := .i64) (by kernel_rfl) 3 (by kernel_rfl) (by kernel_rfl) h99 fun a r100 cs henc at101 hs => ?_
        obtain rfl := henc
        refine s_load hs (at101 _ (((hw.vw 0 rfl).sub h6).anti (Le.refl _))) 0 (by kernel_rfl) (by kernel_rfl) (v := .int .i64 x98) (by kernel_rfl) fun a hs => ?_
        refine pures hs 1 [0, 1, 7, 8, 5, 16] [(0, .slice p2 x1.length c3), (1, .int .i64 x7), (7, .int .i64 (x1.length : Int)), (8, .int .i64 x78), (5, .int .i64 x78), (16, .bool (x7 == x98))] (by kernel_rfl) fun a hs => ?_
        refine s_end ?_
        rcases ifbE hx90 with ⟨h102, hx90⟩ | ⟨h102, hx90⟩
        · refine c_cond1 hs (by kernel_rfl) (t := (x7 == x98)) (by kernel_rfl) h102 ?_
          refine c_seq ?_
          refine c_region ?_
          refine pures hs 2 [4] [(4, .int .i64 x78)] (by kernel_rfl) fun a hs => ?_
          refine s_end ?_
          refine wp_ret ?_
          obtain rfl := someE hx90
          obtain rfl := someE hk
          refine hQ _ _ (f_ret1 hs rfl (v := .int .i64 x78) (by kernel_rfl) ⟨rfl, hw.pick [0] (by kernel_rfl)⟩)
        · refine c_cond0 hs (by kernel_rfl) (t := (x7 == x98)) (by kernel_rfl) h102 ?_
          refine wp_skip ?_
          refine c_region ?_
          refine pures hs 2 [0, 1, 7, 8] [(0, .slice p2 x1.length c3), (1, .int .i64 x7), (7, .int .i64 (x1.length : Int)), (8, .int .i64 (IntKind.i64.wrap (x78 + 1)))] (by kernel_rfl) fun a hs => ?_
          refine s_end ?_
          exact (hI92 _ _ _).2 ⟨(IntKind.i64.wrap (x78 + 1)), hx90, hs.cast [0, 1, 7, 8] (by kernel_rfl), hw.pick [0] (by kernel_rfl)⟩
      · refine c_cond0 hs (by kernel_rfl) (t := (decide (x78 < (x1.length : Int)))) (by kernel_rfl) h93 ?_
        refine wp_exit ?_
        obtain rfl := someE hx90
        exact (hJ91 _ _).2 ⟨hk, hs.cast [] (by kernel_rfl), hw.pick [0] (by kernel_rfl)⟩
  · intro a w hh
    obtain ⟨hk, hs, hw⟩ := (hJ91 _ _).1 hh
    refine c_seq ?_
    refine c_region ?_
    refine pures hs 1 [4] [(4, .int .i64 (-1))] (by kernel_rfl) fun a hs => ?_
    refine s_end ?_
    refine wp_ret ?_
    obtain rfl := someE hk
    refine hQ _ _ (f_ret1 hs rfl (v := .int .i64 (-1)) (by kernel_rfl) ⟨rfl, hw.pick [0] (by kernel_rfl)⟩)
def slices_Contains_int_int (k : Nat) (x1 : List Int) (x7 : Int) : Option Bool :=
  (slices_Index_int_int k x1 x7).bind fun y16 =>
  some (decide (y16 ≥ 0))
theorem slices_Contains_int_int_s {k : Nat} {x1 : List Int} {x7 : Int} {p2 : Option Addr} {c3 : Nat} {d5 : Ch} {r : Bool} (hk : slices_Contains_int_int k x1 x7 = some r) {g w : World} {F : Ch} {ih : IH} (h4 : RSl e3 ih d5 p2 c3 x1) (h6 : ∀ q ∈ d5, q ∈ F) (hw : St g w [F] ih) :
    CallsR Try.prog 82 #[.slice p2 x1.length c3, .int .i64 x7] w fun v w' => v = .bool r ∧ St g w' [F] ih := by
  refine f_in (vs := [.slice p2 x1.length c3, .int .i64 x7]) Try.func82 rfl 9 rfl (by kernel_rfl) [(0, .slice p2 x1.length c3), (1, .int .i64 x7)] (by kernel_rfl) fun a Qf hQ hQn hs => ?_
  refine c_seq ?_
  refine c_region ?_
  refine pures hs 1 [0, 1] [(0, .slice p2 x1.length c3), (1, .int .i64 x7)] (by kernel_rfl) fun a hs => ?_
  refine s_end ?_
  refine c_seq ?_
  refine c_region ?_
  refine pures hs 2 [5, 6] [(5, .slice p2 x1.length c3), (6, .int .i64 x7)] (by kernel_rfl) fun a hs => ?_
  obtain ⟨y16, h17, hk⟩ := bindE hk
  refine s_call hs (by kernel_rfl) (by kernel_rfl) (slices_Index_int_int_s h17 h4 (fun q hq => memF 0 rfl q (h6 q hq)) ((hw.pick [0] (by kernel_rfl)).pack 0)) fun a w v hv hs => ?_
  obtain ⟨rfl, hw⟩ := hv
  replace hw := hw.unpack 0 rfl
  refine pures hs 2 [4] [(4, .bool (decide (y16 ≥ 0)))] (by kernel_rfl) fun a hs => ?_
  refine s_end ?_
  refine wp_ret ?_
  obtain rfl := someE hk
  refine hQ _ _ (f_ret1 hs rfl (v := .bool (decide (y16 ≥ 0))) (by kernel_rfl) ⟨rfl, hw.pick [0] (by kernel_rfl)⟩)
def conf_unlike_r10 : Option Bool :=
  some true
def conf_unlike_r12 (rec_conf_unlike_l11 : Int → Option (Sum Bool Unit)) (x287 : Int) (x366 : Bool) : Option (Sum Bool Unit) :=
  if x366 = true then some (.inl false)
  else rec_conf_unlike_l11 (IntKind.i64.wrap (x287 + 1))
def conf_unlike_l11 (k : Nat) (x1 : List Int) : Nat → Int → Option (Sum Bool Unit)
  | 0, _ => none
  | j + 1, x287 =>
    if (decide (x287 < (x1.length : Int))) = true then (
      (ix x1 x287).bind fun x342 =>
      ((conf_node x342).bind fun y371 =>
        if (!y371) = true then some true
        else (sl x1 0 x287).bind fun x374 =>
        (slices_Contains_int_int k x374 x342).bind fun y379 =>
        some y379 : Option Bool).bind fun s381 => conf_unlike_r12 (conf_unlike_l11 k x1 j) x287 s381)
    else some (.inr ())
def conf_unlike (k : Nat) (x1 : List Int) : Option Bool :=
  (conf_unlike_l11 k x1 k 0 : Option (Sum Bool Unit)).bind fun
    | .inl z => some z
    | .inr _ => conf_unlike_r10
theorem conf_unlike_s {k : Nat} {x1 : List Int} {p2 : Option Addr} {c3 : Nat} {d5 : Ch} {r : Bool} (hk : conf_unlike k x1 = some r) {g w : World} {F : Ch} {ih : IH} (h4 : RSl e3 ih d5 p2 c3 x1) (h6 : ∀ q ∈ d5, q ∈ F) (hw : St g w [F] ih) :
    CallsR Try.prog 108 #[.slice p2 x1.length c3] w fun v w' => v = .bool r ∧ St g w' [F] ih := by
  refine f_in (vs := [.slice p2 x1.length c3]) Try.func108 rfl 23 rfl (by kernel_rfl) [(0, .slice p2 x1.length c3)] (by kernel_rfl) fun a Qf hQ hQn hs => ?_
  refine c_seq ?_
  refine c_region ?_
  refine pures hs 1 [0] [(0, .slice p2 x1.length c3)] (by kernel_rfl) fun a hs => ?_
  refine s_end ?_
  refine c_seq ?_
  refine c_seq ?_
  refine c_region ?_
  refine pures hs 3 [0, 5, 6, 7] [(0, .slice p2 x1.length c3), (5, .slice p2 x1.length c3), (6, .int .i64 (x1.length : Int)), (7, .int .i64 0)] (by kernel_rfl) fun a hs => ?_
  refine s_end ?_
  refine c_block ?_
  obtain ⟨y333, hx334, hk⟩ := bindE hk
  obtain ⟨J335, hJ335⟩ : ∃ J : Act → World → Prop, ∀ a w, J a w ↔ (conf_unlike_r10 = some r ∧ Sees a 23 [] ∧ St g w [F] ih) := ⟨_, fun _ _ => Iff.rfl⟩
  obtain ⟨I336, hI336⟩ : ∃ J : Nat → Act → World → Prop, ∀ j a w, J j a w ↔ (∃ (x287 : Int), conf_unlike_l11 k x1 j x287 = some y333 ∧ Sees a 23 [(0, .slice p2 x1.length c3), (5, .slice p2 x1.length c3), (6, .int .i64 (x1.length : Int)), (7, .int .i64 x287)] ∧ St g w [F] ih) := ⟨_, fun _ _ _ => Iff.rfl⟩
  refine c_exitJ 0 J335 ?_ ?_
  · refine c_loop I336 k ((hI336 _ _ _).2 ⟨0, hx334, hs.cast [0, 5, 6, 7] (by kernel_rfl), hw.pick [0] (by kernel_rfl)⟩) (fun a w h0 => ?_) fun j a w hh => ?_
    · obtain ⟨_, h, _⟩ := (hI336 _ _ _).1 h0
      cases h
    · obtain ⟨x287, hx334, hs, hw⟩ := (hI336 _ _ _).1 hh
      refine c_seq ?_
      refine c_region ?_
      refine pures hs 1 [0, 5, 6, 7, 8] [(0, .slice p2 x1.length c3), (5, .slice p2 x1.length c3), (6, .int .i64 (x1.length : Int)), (7, .int .i64 x287), (8, .bool (decide (x287 < (x1.length : Int))))] (by kernel_rfl) fun a hs => ?_
      refine s_end ?_
      refine c_seq ?_
      rcases ifbE hx334 with ⟨h337, hx334⟩ | ⟨h337, hx334⟩
      · refine c_cond1 hs (by kernel_rfl) (t := (decide (x287 < (x1.length : Int)))) (by kernel_rfl) h337 ?_
        refine wp_skip ?_
        refine c_seq ?_
        refine c_block ?_
        refine c_seq ?_
        refine c_region ?_
        refine pures hs 1 [0, 5, 6, 7, 9] [(0, .slice p2 x1.length c3), (5, .slice p2 x1.length c3), (6, .int .i64 (x1.length : Int)), (7, .int .i64 x287), (9, .int .i64 x287)] (by kernel_rfl) fun a hs => ?_
        obtain ⟨x342, h343, hx334⟩ := bindE hx334
        refine s_index hs h4 (by kernel_rfl) (by kernel_rfl) (k := .i64) (by kernel_rfl) 3 (by kernel_rfl) (by kernel_rfl) h343 fun a r344 cs henc at345 hs => ?_
        obtain rfl := henc
        refine s_load hs (at345 _ (((hw.vw 0 rfl).sub h6).anti (Le.refl _))) 0 (by kernel_rfl) (by kernel_rfl) (v := .int .i64 x342) (by kernel_rfl) fun a hs => ?_
        refine pures hs 2 [0, 5, 6, 7, 3, 4] [(0, .slice p2 x1.length c3), (5, .slice p2 x1.length c3), (6, .int .i64 (x1.length : Int)), (7, .int .i64 x287), (3, .int .i64 x287), (4, .int .i64 x342)] (by kernel_rfl) fun a hs => ?_
        refine s_end ?_
        refine c_seq ?_
        obtain ⟨y368, hx369, hx334⟩ := bindE hx334
        obtain ⟨J370, hJ370⟩ : ∃ J : Act → World → Prop, ∀ a w, J a w ↔ (∃ (x366 : Bool), conf_unlike_r12 (conf_unlike_l11 k x1 j) x287 x366 = some y333 ∧ Sees a 23 [(0, .slice p2 x1.length c3), (5, .slice p2 x1.length c3), (6, .int .i64 (x1.length : Int)), (7, .int .i64 x287), (21, .bool x366)] ∧ St g w [F] ih) := ⟨_, fun _ _ => Iff.rfl⟩
        refine c_regJ J370 ?_ ?_
        · refine pures hs 1 [0, 5, 6, 7, 3, 4, 12] [(0, .slice p2 x1.length c3), (5, .slice p2 x1.length c3), (6, .int .i64 (x1.length : Int)), (7, .int .i64 x287), (3, .int .i64 x287), (4, .int .i64 x342), (12, .int .i64 x342)] (by kernel_rfl) fun a hs => ?_
          obtain ⟨y371, h372, hx369⟩ := bindE hx369
          refine s_call hs (by kernel_rfl) (by kernel_rfl) (conf_node_s h372 ((hw.pick [0] (by kernel_rfl)).pack 0)) fun a w v hv hs => ?_
          obtain ⟨rfl, hw⟩ := hv
          replace hw := hw.unpack 0 rfl
          refine pures hs 2 [0, 5, 6, 7, 3, 4, 15] [(0, .slice p2 x1.length c3), (5, .slice p2 x1.length c3), (6, .int .i64 (x1.length : Int)), (7, .int .i64 x287), (3, .int .i64 x287), (4, .int .i64 x342), (15, .bool (!y371))] (by kernel_rfl) fun a hs => ?_
          rcases ifbE hx369 with ⟨h373, hx369⟩ | ⟨h373, hx369⟩
          · replace hs := hs.altB 15 true (by kernel_rfl) h373
            refine pures hs 6 [0, 5, 6, 7, 21] [(0, .slice p2 x1.length c3), (5, .slice p2 x1.length c3), (6, .int .i64 (x1.length : Int)), (7, .int .i64 x287), (21, .bool true)] (by kernel_rfl) fun a hs => ?_
            refine s_end ?_
            obtain rfl := someE hx369
            exact (hJ370 _ _).2 ⟨true, hx334, hs.cast [0, 5, 6, 7, 21] (by kernel_rfl), hw.pick [0] (by kernel_rfl)⟩
          · replace hs := hs.altB 15 false (by kernel_rfl) h373
            refine pures hs 2 [0, 5, 6, 7, 4, 15, 16, 17] [(0, .slice p2 x1.length c3), (5, .slice p2 x1.length c3), (6, .int .i64 (x1.length : Int)), (7, .int .i64 x287), (4, .int .i64 x342), (15, .bool false), (16, .slice p2 x1.length c3), (17, .int .i64 x287)] (by kernel_rfl) fun a hs => ?_
            obtain ⟨x374, h375, hx369⟩ := bindE hx369
            refine s_slice hs h4 (by kernel_rfl) (by kernel_rfl) 3 (by kernel_rfl) (by kernel_rfl) (by kernel_rfl) (by kernel_rfl) (by kernel_rfl) h375 (.inl rfl) fun a p376 c377 h378 hs => ?_
            refine pures hs 1 [0, 5, 6, 7, 15, 18, 19] [(0, .slice p2 x1.length c3), (5, .slice p2 x1.length c3), (6, .int .i64 (x1.length : Int)), (7, .int .i64 x287), (15, .bool false), (18, .slice p376 x374.length c377), (19, .int .i64 x342)] (by kernel_rfl) fun a hs => ?_
            obtain ⟨y379, h380, hx369⟩ := bindE hx369
            refine s_call hs (by kernel_rfl) (by kernel_rfl) (slices_Contains_int_int_s h380 h378 (fun q hq => memF 0 rfl q (h6 q hq)) ((hw.pick [0] (by kernel_rfl)).pack 0)) fun a w v hv hs => ?_
            obtain ⟨rfl, hw⟩ := hv
            replace hw := hw.unpack 0 rfl
            refine pures hs 1 [0, 5, 6, 7, 21] [(0, .slice p2 x1.length c3), (5, .slice p2 x1.length c3), (6, .int .i64 (x1.length : Int)), (7, .int .i64 x287), (21, .bool y379)] (by kernel_rfl) fun a hs => ?_
            refine s_end ?_
            obtain rfl := someE hx369
            exact (hJ370 _ _).2 ⟨y379, hx334, hs.cast [0, 5, 6, 7, 21] (by kernel_rfl), hw.pick [0] (by kernel_rfl)⟩
        · intro a w hh
          obtain ⟨x366, hx334, hs, hw⟩ := (hJ370 _ _).1 hh
          rcases ifbE hx334 with ⟨h367, hx334⟩ | ⟨h367, hx334⟩
          · refine c_cond1 hs (by kernel_rfl) (t := x366) (by kernel_rfl) h367 ?_
            refine c_seq ?_
            refine c_region ?_
            refine pures hs 1 [2] [(2, .bool false)] (by kernel_rfl) fun a hs => ?_
            refine s_end ?_
            refine wp_ret ?_
            obtain rfl := someE hx334
            obtain rfl := someE hk
            refine hQ _ _ (f_ret1 hs rfl (v := .bool false) (by kernel_rfl) ⟨rfl, hw.pick [0] (by kernel_rfl)⟩)
          · refine c_cond0 hs (by kernel_rfl) (t := x366) (by kernel_rfl) h367 ?_
            refine wp_skip ?_
            refine c_region ?_
            refine pures hs 2 [0, 5, 6, 7] [(0, .slice p2 x1.length c3), (5, .slice p2 x1.length c3), (6, .int .i64 (x1.length : Int)), (7, .int .i64 (IntKind.i64.wrap (x287 + 1)))] (by kernel_rfl) fun a hs => ?_
            refine s_end ?_
            exact (hI336 _ _ _).2 ⟨(IntKind.i64.wrap (x287 + 1)), hx334, hs.cast [0, 5, 6, 7] (by kernel_rfl), hw.pick [0] (by kernel_rfl)⟩
      · refine c_cond0 hs (by kernel_rfl) (t := (decide (x287 < (x1.length : Int)))) (by kernel_rfl) h337 ?_
        refine wp_exit ?_
        obtain rfl := someE hx334
        exact (hJ335 _ _).2 ⟨hk, hs.cast [] (by kernel_rfl), hw.pick [0] (by kernel_rfl)⟩
  · intro a w hh
    obtain ⟨hk, hs, hw⟩ := (hJ335 _ _).1 hh
    refine c_seq ?_
    refine c_region ?_
    refine pures hs 1 [2] [(2, .bool true)] (by kernel_rfl) fun a hs => ?_
    refine s_end ?_
    refine wp_ret ?_
    obtain rfl := someE hk
    refine hQ _ _ (f_ret1 hs rfl (v := .bool true) (by kernel_rfl) ⟨rfl, hw.pick [0] (by kernel_rfl)⟩)
def conf_Right (k : Nat) (x1 : M53) : Option Bool :=
  if ((decide (x1.f0 < 0)) || ((decide (x1.f0 ≥ 4)) || (decide (x1.f1 < 1)))) = true then some false
  else if ((decide ((x1.f2.length : Int) < 1)) || ((decide ((x1.f2.length : Int) > 5)) || (x1.f3 && ((decide ((x1.f2.length : Int) < 2)) || (x1.f4 != 0))))) = true then some false
  else (conf_everybody x1).bind fun y90 =>
  (conf_unlike k y90).bind fun y97 =>
  some y97
theorem conf_Right_s {k : Nat} {x1 : M53} {p2 : Option Addr} {c3 : Nat} {r : Bool} (hk : conf_Right k x1 = some r) {g w : World} {F : Ch} {ih : IH} (h4 : RSl e3 ih [] p2 c3 x1.f2) (hw : St g w [F] ih) :
    CallsR Try.prog 80 #[.agg #[.int .i64 x1.f0, .int .u64 x1.f1, .slice p2 x1.f2.length c3, .bool x1.f3, .int .i64 x1.f4]] w fun v w' => v = .bool r ∧ St g w' [F] ih := by
  refine f_in (vs := [.agg #[.int .i64 x1.f0, .int .u64 x1.f1, .slice p2 x1.f2.length c3, .bool x1.f3, .int .i64 x1.f4]]) Try.func80 rfl 44 rfl (by kernel_rfl) [(0, .agg #[.int .i64 x1.f0, .int .u64 x1.f1, .slice p2 x1.f2.length c3, .bool x1.f3, .int .i64 x1.f4])] (by kernel_rfl) fun a Qf hQ hQn hs => ?_
  refine c_seq ?_
  refine c_region ?_
  refine s_new hs hw [.int .i64 x1.f0, .int .u64 x1.f1, .slice p2 x1.f2.length c3, .bool x1.f3, .int .i64 x1.f4] 53 (fun b => .pointer (some ⟨b, 0, none⟩)) (by kernel_rfl) (fun _ => by kernel_rfl) fun a w b55 hs hw => ?_
  refine pures hs 1 [1] [(1, .pointer (some ⟨b55, 0, none⟩))] (by kernel_rfl) fun a hs => ?_
  refine s_end ?_
  refine c_seq ?_
  refine c_region ?_
  refine pures hs 1 [1, 4] [(1, .pointer (some ⟨b55, 0, none⟩)), (4, .pointer (some ⟨b55, 2, none⟩))] (by kernel_rfl) fun a hs => ?_
  refine s_load hs (hw.at_ 0 rfl) 2 (by kernel_rfl) (by kernel_rfl) (v := .slice p2 x1.f2.length c3) (by kernel_rfl) fun a hs => ?_
  refine pures hs 2 [1, 3] [(1, .pointer (some ⟨b55, 0, none⟩)), (3, .int .i64 (x1.f2.length : Int))] (by kernel_rfl) fun a hs => ?_
  refine s_end ?_
  refine c_seq ?_
  refine c_block ?_
  refine c_seq ?_
  obtain ⟨J62, hJ62⟩ : ∃ J : Act → World → Prop, ∀ a w, J a w ↔ (Sees a 44 [(1, .pointer (some ⟨b55, 0, none⟩)), (3, .int .i64 (x1.f2.length : Int)), (7, .bool ((decide (x1.f0 < 0)) || ((decide (x1.f0 ≥ 4)) || (decide (x1.f1 < 1)))))] ∧ St g w [bx b55 [.int .i64 x1.f0, .int .u64 x1.f1, .slice p2 x1.f2.length c3, .bool x1.f3, .int .i64 x1.f4] 53, F] ih) := ⟨_, fun _ _ => Iff.rfl⟩
  refine c_regJ J62 ?_ ?_
  · refine pures hs 1 [1, 3, 8] [(1, .pointer (some ⟨b55, 0, none⟩)), (3, .int .i64 (x1.f2.length : Int)), (8, .pointer (some ⟨b55, 0, none⟩))] (by kernel_rfl) fun a hs => ?_
    refine s_load hs (hw.at_ 0 rfl) 0 (by kernel_rfl) (by kernel_rfl) (v := .int .i64 x1.f0) (by kernel_rfl) fun a hs => ?_
    refine pures hs 2 [1, 3, 11] [(1, .pointer (some ⟨b55, 0, none⟩)), (3, .int .i64 (x1.f2.length : Int)), (11, .bool (decide (x1.f0 < 0)))] (by kernel_rfl) fun a hs => ?_
    rcases boolE (decide (x1.f0 < 0)) with h63 | h63
    · replace hs := hs.altB 11 true (by kernel_rfl) h63
      refine pures hs 10 [1, 3, 7] [(1, .pointer (some ⟨b55, 0, none⟩)), (3, .int .i64 (x1.f2.length : Int)), (7, .bool true)] (by kernel_rfl) fun a hs => ?_
      refine s_end ?_
      exact (hJ62 _ _).2 ⟨(hs.altB 7 ((decide (x1.f0 < 0)) || ((decide (x1.f0 ≥ 4)) || (decide (x1.f1 < 1)))) (by kernel_rfl) (by rw [h63] <;> rfl)).cast [1, 3, 7] (by kernel_rfl), hw.pick [0, 1] (by kernel_rfl)⟩
    · replace hs := hs.altB 11 false (by kernel_rfl) h63
      refine pures hs 1 [1, 3, 11, 12] [(1, .pointer (some ⟨b55, 0, none⟩)), (3, .int .i64 (x1.f2.length : Int)), (11, .bool false), (12, .pointer (some ⟨b55, 0, none⟩))] (by kernel_rfl) fun a hs => ?_
      refine s_load hs (hw.at_ 0 rfl) 0 (by kernel_rfl) (by kernel_rfl) (v := .int .i64 x1.f0) (by kernel_rfl) fun a hs => ?_
      refine pures hs 3 [1, 3, 16] [(1, .pointer (some ⟨b55, 0, none⟩)), (3, .int .i64 (x1.f2.length : Int)), (16, .bool (decide (x1.f0 ≥ 4)))] (by kernel_rfl) fun a hs => ?_
      rcases boolE (decide (x1.f0 ≥ 4)) with h64 | h64
      · replace hs := hs.altB 16 true (by kernel_rfl) h64
        refine pures hs 5 [1, 3, 7] [(1, .pointer (some ⟨b55, 0, none⟩)), (3, .int .i64 (x1.f2.length : Int)), (7, .bool true)] (by kernel_rfl) fun a hs => ?_
        refine s_end ?_
        exact (hJ62 _ _).2 ⟨(hs.altB 7 ((decide (x1.f0 < 0)) || ((decide (x1.f0 ≥ 4)) || (decide (x1.f1 < 1)))) (by kernel_rfl) (by rw [h63, h64] <;> rfl)).cast [1, 3, 7] (by kernel_rfl), hw.pick [0, 1] (by kernel_rfl)⟩
      · replace hs := hs.altB 16 false (by kernel_rfl) h64
        refine pures hs 1 [1, 3, 16, 17] [(1, .pointer (some ⟨b55, 0, none⟩)), (3, .int .i64 (x1.f2.length : Int)), (16, .bool false), (17, .pointer (some ⟨b55, 1, none⟩))] (by kernel_rfl) fun a hs => ?_
        refine s_load hs (hw.at_ 0 rfl) 1 (by kernel_rfl) (by kernel_rfl) (v := .int .u64 x1.f1) (by kernel_rfl) fun a hs => ?_
        refine pures hs 3 [1, 3, 7] [(1, .pointer (some ⟨b55, 0, none⟩)), (3, .int .i64 (x1.f2.length : Int)), (7, .bool (decide (x1.f1 < 1)))] (by kernel_rfl) fun a hs => ?_
        refine s_end ?_
        exact (hJ62 _ _).2 ⟨(hs.altB 7 ((decide (x1.f0 < 0)) || ((decide (x1.f0 ≥ 4)) || (decide (x1.f1 < 1)))) (by kernel_rfl) (by rw [h63, h64] <;> rfl)).cast [1, 3, 7] (by kernel_rfl), hw.pick [0, 1] (by kernel_rfl)⟩
  · intro a w hh
    obtain ⟨hs, hw⟩ := (hJ62 _ _).1 hh
    rcases ifbE hk with ⟨h65, hk⟩ | ⟨h65, hk⟩
    · refine c_cond1 hs (by kernel_rfl) (t := ((decide (x1.f0 < 0)) || ((decide (x1.f0 ≥ 4)) || (decide (x1.f1 < 1))))) (by kernel_rfl) h65 ?_
      refine c_seq ?_
      refine c_region ?_
      refine pures hs 1 [2] [(2, .bool false)] (by kernel_rfl) fun a hs => ?_
      refine s_end ?_
      refine wp_ret ?_
      obtain rfl := someE hk
      refine hQ _ _ (f_ret1 hs rfl (v := .bool false) (by kernel_rfl) ⟨rfl, hw.pick [1] (by kernel_rfl)⟩)
    · refine c_cond0 hs (by kernel_rfl) (t := ((decide (x1.f0 < 0)) || ((decide (x1.f0 ≥ 4)) || (decide (x1.f1 < 1))))) (by kernel_rfl) h65 ?_
      refine c_seq ?_
      obtain ⟨J75, hJ75⟩ : ∃ J : Act → World → Prop, ∀ a w, J a w ↔ (Sees a 44 [(1, .pointer (some ⟨b55, 0, none⟩)), (21, .bool ((decide ((x1.f2.length : Int) < 1)) || ((decide ((x1.f2.length : Int) > 5)) || (x1.f3 && ((decide ((x1.f2.length : Int) < 2)) || (x1.f4 != 0))))))] ∧ St g w [bx b55 [.int .i64 x1.f0, .int .u64 x1.f1, .slice p2 x1.f2.length c3, .bool x1.f3, .int .i64 x1.f4] 53, F] ih) := ⟨_, fun _ _ => Iff.rfl⟩
      refine c_regJ J75 ?_ ?_
      · refine pures hs 3 [1, 3, 24] [(1, .pointer (some ⟨b55, 0, none⟩)), (3, .int .i64 (x1.f2.length : Int)), (24, .bool (decide ((x1.f2.length : Int) < 1)))] (by kernel_rfl) fun a hs => ?_
        rcases boolE (decide ((x1.f2.length : Int) < 1)) with h76 | h76
        · replace hs := hs.altB 24 true (by kernel_rfl) h76
          refine pures hs 17 [1, 21] [(1, .pointer (some ⟨b55, 0, none⟩)), (21, .bool true)] (by kernel_rfl) fun a hs => ?_
          refine s_end ?_
          exact (hJ75 _ _).2 ⟨(hs.altB 21 ((decide ((x1.f2.length : Int) < 1)) || ((decide ((x1.f2.length : Int) > 5)) || (x1.f3 && ((decide ((x1.f2.length : Int) < 2)) || (x1.f4 != 0))))) (by kernel_rfl) (by rw [h76] <;> rfl)).cast [1, 21] (by kernel_rfl), hw.pick [0, 1] (by kernel_rfl)⟩
        · replace hs := hs.altB 24 false (by kernel_rfl) h76
          refine pures hs 4 [1, 3, 28] [(1, .pointer (some ⟨b55, 0, none⟩)), (3, .int .i64 (x1.f2.length : Int)), (28, .bool (decide ((x1.f2.length : Int) > 5)))] (by kernel_rfl) fun a hs => ?_
          rcases boolE (decide ((x1.f2.length : Int) > 5)) with h77 | h77
          · replace hs := hs.altB 28 true (by kernel_rfl) h77
            refine pures hs 13 [1, 21] [(1, .pointer (some ⟨b55, 0, none⟩)), (21, .bool true)] (by kernel_rfl) fun a hs => ?_
            refine s_end ?_
            exact (hJ75 _ _).2 ⟨(hs.altB 21 ((decide ((x1.f2.length : Int) < 1)) || ((decide ((x1.f2.length : Int) > 5)) || (x1.f3 && ((decide ((x1.f2.length : Int) < 2)) || (x1.f4 != 0))))) (by kernel_rfl) (by rw [h76, h77] <;> rfl)).cast [1, 21] (by kernel_rfl), hw.pick [0, 1] (by kernel_rfl)⟩
          · replace hs := hs.altB 28 false (by kernel_rfl) h77
            refine pures hs 1 [1, 3, 28, 29] [(1, .pointer (some ⟨b55, 0, none⟩)), (3, .int .i64 (x1.f2.length : Int)), (28, .bool false), (29, .pointer (some ⟨b55, 3, none⟩))] (by kernel_rfl) fun a hs => ?_
            refine s_load hs (hw.at_ 0 rfl) 3 (by kernel_rfl) (by kernel_rfl) (v := .bool x1.f3) (by kernel_rfl) fun a hs => ?_
            refine pures hs 1 [1, 3, 28, 31] [(1, .pointer (some ⟨b55, 0, none⟩)), (3, .int .i64 (x1.f2.length : Int)), (28, .bool false), (31, .bool x1.f3)] (by kernel_rfl) fun a hs => ?_
            rcases boolE x1.f3 with h78 | h78
            · replace hs := hs.altB 31 true (by kernel_rfl) h78
              refine pures hs 3 [1, 28, 31, 34] [(1, .pointer (some ⟨b55, 0, none⟩)), (28, .bool false), (31, .bool true), (34, .bool (decide ((x1.f2.length : Int) < 2)))] (by kernel_rfl) fun a hs => ?_
              rcases boolE (decide ((x1.f2.length : Int) < 2)) with h79 | h79
              · replace hs := hs.altB 34 true (by kernel_rfl) h79
                refine pures hs 7 [1, 21] [(1, .pointer (some ⟨b55, 0, none⟩)), (21, .bool true)] (by kernel_rfl) fun a hs => ?_
                refine s_end ?_
                exact (hJ75 _ _).2 ⟨(hs.altB 21 ((decide ((x1.f2.length : Int) < 1)) || ((decide ((x1.f2.length : Int) > 5)) || (x1.f3 && ((decide ((x1.f2.length : Int) < 2)) || (x1.f4 != 0))))) (by kernel_rfl) (by rw [h76, h77, h78, h79] <;> rfl)).cast [1, 21] (by kernel_rfl), hw.pick [0, 1] (by kernel_rfl)⟩
              · replace hs := hs.altB 34 false (by kernel_rfl) h79
                refine pures hs 1 [1, 28, 31, 34, 35] [(1, .pointer (some ⟨b55, 0, none⟩)), (28, .bool false), (31, .bool true), (34, .bool false), (35, .pointer (some ⟨b55, 4, none⟩))] (by kernel_rfl) fun a hs => ?_
                refine s_load hs (hw.at_ 0 rfl) 4 (by kernel_rfl) (by kernel_rfl) (v := .int .i64 x1.f4) (by kernel_rfl) fun a hs => ?_
                refine pures hs 5 [1, 21] [(1, .pointer (some ⟨b55, 0, none⟩)), (21, .bool (x1.f4 != 0))] (by kernel_rfl) fun a hs => ?_
                refine s_end ?_
                exact (hJ75 _ _).2 ⟨(hs.altB 21 ((decide ((x1.f2.length : Int) < 1)) || ((decide ((x1.f2.length : Int) > 5)) || (x1.f3 && ((decide ((x1.f2.length : Int) < 2)) || (x1.f4 != 0))))) (by kernel_rfl) (by rw [h76, h77, h78, h79] <;> rfl)).cast [1, 21] (by kernel_rfl), hw.pick [0, 1] (by kernel_rfl)⟩
            · replace hs := hs.altB 31 false (by kernel_rfl) h78
              refine pures hs 10 [1, 21] [(1, .pointer (some ⟨b55, 0, none⟩)), (21, .bool false)] (by kernel_rfl) fun a hs => ?_
              refine s_end ?_
              exact (hJ75 _ _).2 ⟨(hs.altB 21 ((decide ((x1.f2.length : Int) < 1)) || ((decide ((x1.f2.length : Int) > 5)) || (x1.f3 && ((decide ((x1.f2.length : Int) < 2)) || (x1.f4 != 0))))) (by kernel_rfl) (by rw [h76, h77, h78] <;> rfl)).cast [1, 21] (by kernel_rfl), hw.pick [0, 1] (by kernel_rfl)⟩
      · intro a w hh
        obtain ⟨hs, hw⟩ := (hJ75 _ _).1 hh
        rcases ifbE hk with ⟨h80, hk⟩ | ⟨h80, hk⟩
        · refine c_cond1 hs (by kernel_rfl) (t := ((decide ((x1.f2.length : Int) < 1)) || ((decide ((x1.f2.length : Int) > 5)) || (x1.f3 && ((decide ((x1.f2.length : Int) < 2)) || (x1.f4 != 0)))))) (by kernel_rfl) h80 ?_
          refine c_seq ?_
          refine c_region ?_
          refine pures hs 1 [2] [(2, .bool false)] (by kernel_rfl) fun a hs => ?_
          refine s_end ?_
          refine wp_ret ?_
          obtain rfl := someE hk
          refine hQ _ _ (f_ret1 hs rfl (v := .bool false) (by kernel_rfl) ⟨rfl, hw.pick [1] (by kernel_rfl)⟩)
        · refine c_cond0 hs (by kernel_rfl) (t := ((decide ((x1.f2.length : Int) < 1)) || ((decide ((x1.f2.length : Int) > 5)) || (x1.f3 && ((decide ((x1.f2.length : Int) < 2)) || (x1.f4 != 0)))))) (by kernel_rfl) h80 ?_
          refine wp_skip ?_
          refine c_seq ?_
          refine c_region ?_
          refine s_load hs (hw.at_ 0 rfl) 0 (by kernel_rfl) (by kernel_rfl) (v := .agg #[.int .i64 x1.f0, .int .u64 x1.f1, .slice p2 x1.f2.length c3, .bool x1.f3, .int .i64 x1.f4]) (by kernel_rfl) fun a hs => ?_
          obtain ⟨y90, h91, hk⟩ := bindE hk
          refine s_call hs (by kernel_rfl) (by kernel_rfl) (conf_everybody_s h91 h4 ((hw.pick [1] (by kernel_rfl)).pack 0)) fun a w v hv hs => ?_
          obtain ⟨p92, c93, d95, rfl, hw, h94⟩ := hv
          replace hw := hw.unpack 1 rfl
          obtain ⟨y97, h98, hk⟩ := bindE hk
          refine s_call hs (by kernel_rfl) (by kernel_rfl) (conf_unlike_s h98 h94.read (memF 0 rfl) ((hw.pick [0, 1] (by kernel_rfl)).pack 0)) fun a w v hv hs => ?_
          obtain ⟨rfl, hw⟩ := hv
          replace hw := hw.unpack 0 rfl
          refine pures hs 1 [2] [(2, .bool y97)] (by kernel_rfl) fun a hs => ?_
          refine s_end ?_
          refine wp_ret ?_
          obtain rfl := someE hk
          refine hQ _ _ (f_ret1 hs rfl (v := .bool y97) (by kernel_rfl) ⟨rfl, hw.pick [1] (by kernel_rfl)⟩)
def role_Tail (k : Nat) (x1 : M53) : Option Int :=
  (conf_Right k x1).bind fun y30 =>
  if (!y30) = true then some 0
  else (ix x1.f2 (IntKind.i64.wrap ((x1.f2.length : Int) - 1))).bind fun x37 =>
  some x37
theorem role_Tail_s {k : Nat} {x1 : M53} {p2 : Option Addr} {c3 : Nat} {r : Int} (hk : role_Tail k x1 = some r) {g w : World} {F : Ch} {ih : IH} (h4 : RSl e3 ih [] p2 c3 x1.f2) (hw : St g w [F] ih) :
    CallsR Try.prog 37 #[.agg #[.int .i64 x1.f0, .int .u64 x1.f1, .slice p2 x1.f2.length c3, .bool x1.f3, .int .i64 x1.f4]] w fun v w' => v = .int .i64 r ∧ St g w' [F] ih := by
  refine f_in (vs := [.agg #[.int .i64 x1.f0, .int .u64 x1.f1, .slice p2 x1.f2.length c3, .bool x1.f3, .int .i64 x1.f4]]) Try.func37 rfl 14 rfl (by kernel_rfl) [(0, .agg #[.int .i64 x1.f0, .int .u64 x1.f1, .slice p2 x1.f2.length c3, .bool x1.f3, .int .i64 x1.f4])] (by kernel_rfl) fun a Qf hQ hQn hs => ?_
  refine c_seq ?_
  refine c_region ?_
  refine s_new hs hw [.int .i64 x1.f0, .int .u64 x1.f1, .slice p2 x1.f2.length c3, .bool x1.f3, .int .i64 x1.f4] 53 (fun b => .pointer (some ⟨b, 0, none⟩)) (by kernel_rfl) (fun _ => by kernel_rfl) fun a w b26 hs hw => ?_
  refine pures hs 1 [1] [(1, .pointer (some ⟨b26, 0, none⟩))] (by kernel_rfl) fun a hs => ?_
  refine s_end ?_
  refine c_seq ?_
  refine c_seq ?_
  refine c_region ?_
  refine s_load hs (hw.at_ 0 rfl) 0 (by kernel_rfl) (by kernel_rfl) (v := .agg #[.int .i64 x1.f0, .int .u64 x1.f1, .slice p2 x1.f2.length c3, .bool x1.f3, .int .i64 x1.f4]) (by kernel_rfl) fun a hs => ?_
  obtain ⟨y30, h31, hk⟩ := bindE hk
  refine s_call hs (by kernel_rfl) (by kernel_rfl) (conf_Right_s h31 h4 ((hw.pick [0, 1] (by kernel_rfl)).pack 0)) fun a w v hv hs => ?_
  obtain ⟨rfl, hw⟩ := hv
  replace hw := hw.unpack 0 rfl
  refine pures hs 1 [1, 5] [(1, .pointer (some ⟨b26, 0, none⟩)), (5, .bool (!y30))] (by kernel_rfl) fun a hs => ?_
  refine s_end ?_
  rcases ifbE hk with ⟨h32, hk⟩ | ⟨h32, hk⟩
  · refine c_cond1 hs (by kernel_rfl) (t := (!y30)) (by kernel_rfl) h32 ?_
    refine c_seq ?_
    refine c_region ?_
    refine pures hs 1 [2] [(2, .int .i64 0)] (by kernel_rfl) fun a hs => ?_
    refine s_end ?_
    refine wp_ret ?_
    obtain rfl := someE hk
    refine hQ _ _ (f_ret1 hs rfl (v := .int .i64 0) (by kernel_rfl) ⟨rfl, hw.pick [1] (by kernel_rfl)⟩)
  · refine c_cond0 hs (by kernel_rfl) (t := (!y30)) (by kernel_rfl) h32 ?_
    refine wp_skip ?_
    refine c_seq ?_
    refine c_region ?_
    refine pures hs 1 [1, 6] [(1, .pointer (some ⟨b26, 0, none⟩)), (6, .pointer (some ⟨b26, 2, none⟩))] (by kernel_rfl) fun a hs => ?_
    refine s_load hs (hw.at_ 0 rfl) 2 (by kernel_rfl) (by kernel_rfl) (v := .slice p2 x1.f2.length c3) (by kernel_rfl) fun a hs => ?_
    refine pures hs 1 [7, 8] [(7, .slice p2 x1.f2.length c3), (8, .pointer (some ⟨b26, 2, none⟩))] (by kernel_rfl) fun a hs => ?_
    refine s_load hs (hw.at_ 0 rfl) 2 (by kernel_rfl) (by kernel_rfl) (v := .slice p2 x1.f2.length c3) (by kernel_rfl) fun a hs => ?_
    refine pures hs 2 [7, 11] [(7, .slice p2 x1.f2.length c3), (11, .int .i64 (IntKind.i64.wrap ((x1.f2.length : Int) - 1)))] (by kernel_rfl) fun a hs => ?_
    obtain ⟨x37, h38, hk⟩ := bindE hk
    refine s_index hs h4 (by kernel_rfl) (by kernel_rfl) (k := .i64) (by kernel_rfl) 3 (by kernel_rfl) (by kernel_rfl) h38 fun a r39 cs henc at40 hs => ?_
    obtain rfl := henc
    refine s_load hs (at40 _ (hw.vwAll.nil.anti (Le.refl _))) 0 (by kernel_rfl) (by kernel_rfl) (v := .int .i64 x37) (by kernel_rfl) fun a hs => ?_
    refine pures hs 1 [2] [(2, .int .i64 x37)] (by kernel_rfl) fun a hs => ?_
    refine s_end ?_
    refine wp_ret ?_
    obtain rfl := someE hk
    refine hQ _ _ (f_ret1 hs rfl (v := .int .i64 x37) (by kernel_rfl) ⟨rfl, hw.pick [1] (by kernel_rfl)⟩)
def role_Of_r6 (y151 : Int) (x173 : Bool) (x177 : Bool) (x187 : Int) (x197 : Int) : Option M56 :=
  some (M56.mk true false (y151 == 0) x173 x177 y151 x187 x197)
def role_Of_r7 (x173 : Bool) (x1 : M53) (y151 : Int) (x177 : Bool) (x187 : Int) : Option M56 :=
  (if (!x173) = true then (
      (ix x1.f2 (IntKind.i64.wrap (y151 + 1))).bind fun x206 =>
      some x206)
    else some x1.f4 : Option Int).bind fun s210 => role_Of_r6 y151 x173 x177 x187 s210
def role_Of_r8 (y151 : Int) (x1 : M53) (x173 : Bool) (x177 : Bool) : Option M56 :=
  (if (decide (y151 > 0)) = true then (
      (ix x1.f2 (IntKind.i64.wrap (y151 - 1))).bind fun x219 =>
      some x219)
    else some 0 : Option Int).bind fun s223 => role_Of_r7 x173 x1 y151 x177 s223
def role_Of_r9 (x1 : M53) (y151 : Int) (x173 : Bool) : Option M56 :=
  (if x173 = true then some x1.f3
    else some false : Option Bool).bind fun s228 => role_Of_r8 y151 x1 x173 s228
def role_Of_r10 (k : Nat) (x5 : Int) (x1 : M53) (x142 : Bool) : Option M56 :=
  if x142 = true then some (M56.mk false false false false false 0 0 0)
  else if (x5 == x1.f4) = true then (
    (role_Tail k x1).bind fun y147 =>
    some (M56.mk false true false false true 0 y147 0))
  else (slices_Index_int_int k x1.f2 x5).bind fun y151 =>
  if (decide (y151 < 0)) = true then some (M56.mk false false false false false 0 0 0)
  else ((role_Tail k x1).bind fun y232 =>
    some (x5 == y232) : Option Bool).bind fun s240 => role_Of_r9 x1 y151 s240
def role_Of (k : Nat) (x1 : M53) (x5 : Int) : Option M56 :=
  ((conf_Right k x1).bind fun y244 =>
    if (!y244) = true then some true
    else some (x5 == 0) : Option Bool).bind fun s247 => role_Of_r10 k x5 x1 s247
theorem role_Of_s {k : Nat} {x1 : M53} {x5 : Int} {p2 : Option Addr} {c3 : Nat} {r : M56} (hk : role_Of k x1 x5 = some r) {g w : World} {F : Ch} {ih : IH} (h4 : RSl e3 ih [] p2 c3 x1.f2) (hw : St g w [F] ih) :
    CallsR Try.prog 32 #[.agg #[.int .i64 x1.f0, .int .u64 x1.f1, .slice p2 x1.f2.length c3, .bool x1.f3, .int .i64 x1.f4], .int .i64 x5] w fun v w' => v = .agg #[.bool r.f0, .bool r.f1, .bool r.f2, .bool r.f3, .bool r.f4, .int .i64 r.f5, .int .i64 r.f6, .int .i64 r.f7] ∧ St g w' [F] ih := by
  refine f_in (vs := [.agg #[.int .i64 x1.f0, .int .u64 x1.f1, .slice p2 x1.f2.length c3, .bool x1.f3, .int .i64 x1.f4], .int .i64 x5]) Try.func32 rfl 66 rfl (by kernel_rfl) [(0, .agg #[.int .i64 x1.f0, .int .u64 x1.f1, .slice p2 x1.f2.length c3, .bool x1.f3, .int .i64 x1.f4]), (1, .int .i64 x5)] (by kernel_rfl) fun a Qf hQ hQn hs => ?_
  refine c_seq ?_
  refine c_region ?_
  refine s_new hs hw [.int .i64 x1.f0, .int .u64 x1.f1, .slice p2 x1.f2.length c3, .bool x1.f3, .int .i64 x1.f4] 53 (fun b => .pointer (some ⟨b, 0, none⟩)) (by kernel_rfl) (fun _ => by kernel_rfl) fun a w b132 hs hw => ?_
  refine s_new hs hw [.bool false, .bool false, .bool false, .bool false, .bool false, .int .i64 0, .int .i64 0, .int .i64 0] 56 (fun b => .pointer (some ⟨b, 0, none⟩)) (by kernel_rfl) (fun _ => by kernel_rfl) fun a w b134 hs hw => ?_
  refine s_end ?_
  refine c_seq ?_
  refine c_seq ?_
  obtain ⟨y241, hx242, hk⟩ := bindE hk
  obtain ⟨J243, hJ243⟩ : ∃ J : Act → World → Prop, ∀ a w, J a w ↔ (∃ (x142 : Bool), role_Of_r10 k x5 x1 x142 = some r ∧ Sees a 66 [(1, .int .i64 x5), (2, .pointer (some ⟨b132, 0, none⟩)), (4, .pointer (some ⟨b134, 0, none⟩)), (13, .bool x142)] ∧ St g w [bx b134 [.bool false, .bool false, .bool false, .bool false, .bool false, .int .i64 0, .int .i64 0, .int .i64 0] 56, bx b132 [.int .i64 x1.f0, .int .u64 x1.f1, .slice p2 x1.f2.length c3, .bool x1.f3, .int .i64 x1.f4] 53, F] ih) := ⟨_, fun _ _ => Iff.rfl⟩
  refine c_regJ J243 ?_ ?_
  · refine s_load hs (hw.at_ 1 rfl) 0 (by kernel_rfl) (by kernel_rfl) (v := .agg #[.int .i64 x1.f0, .int .u64 x1.f1, .slice p2 x1.f2.length c3, .bool x1.f3, .int .i64 x1.f4]) (by kernel_rfl) fun a hs => ?_
    obtain ⟨y244, h245, hx242⟩ := bindE hx242
    refine s_call hs (by kernel_rfl) (by kernel_rfl) (conf_Right_s h245 h4 ((hw.pick [0, 1, 2] (by kernel_rfl)).pack 0)) fun a w v hv hs => ?_
    obtain ⟨rfl, hw⟩ := hv
    replace hw := hw.unpack 0 rfl
    refine pures hs 2 [1, 2, 4, 10] [(1, .int .i64 x5), (2, .pointer (some ⟨b132, 0, none⟩)), (4, .pointer (some ⟨b134, 0, none⟩)), (10, .bool (!y244))] (by kernel_rfl) fun a hs => ?_
    rcases ifbE hx242 with ⟨h246, hx242⟩ | ⟨h246, hx242⟩
    · replace hs := hs.altB 10 true (by kernel_rfl) h246
      refine pures hs 3 [1, 2, 4, 13] [(1, .int .i64 x5), (2, .pointer (some ⟨b132, 0, none⟩)), (4, .pointer (some ⟨b134, 0, none⟩)), (13, .bool true)] (by kernel_rfl) fun a hs => ?_
      refine s_end ?_
      obtain rfl := someE hx242
      exact (hJ243 _ _).2 ⟨true, hk, hs.cast [1, 2, 4, 13] (by kernel_rfl), hw.pick [0, 1, 2] (by kernel_rfl)⟩
    · replace hs := hs.altB 10 false (by kernel_rfl) h246
      refine pures hs 3 [1, 2, 4, 13] [(1, .int .i64 x5), (2, .pointer (some ⟨b132, 0, none⟩)), (4, .pointer (some ⟨b134, 0, none⟩)), (13, .bool (x5 == 0))] (by kernel_rfl) fun a hs => ?_
      refine s_end ?_
      obtain rfl := someE hx242
      exact (hJ243 _ _).2 ⟨(x5 == 0), hk, hs.cast [1, 2, 4, 13] (by kernel_rfl), hw.pick [0, 1, 2] (by kernel_rfl)⟩
  · intro a w hh
    obtain ⟨x142, hk, hs, hw⟩ := (hJ243 _ _).1 hh
    rcases ifbE hk with ⟨h143, hk⟩ | ⟨h143, hk⟩
    · refine c_cond1 hs (by kernel_rfl) (t := x142) (by kernel_rfl) h143 ?_
      refine c_seq ?_
      refine c_region ?_
      refine pures hs 1 [4, 14] [(4, .pointer (some ⟨b134, 0, none⟩)), (14, .agg #[.bool false, .bool false, .bool false, .bool false, .bool false, .int .i64 0, .int .i64 0, .int .i64 0])] (by kernel_rfl) fun a hs => ?_
      refine s_store hs hw 0 rfl 0 (by kernel_rfl) (by kernel_rfl) (v := .agg #[.bool false, .bool false, .bool false, .bool false, .bool false, .int .i64 0, .int .i64 0, .int .i64 0]) (by kernel_rfl) (by kernel_rfl) (by kernel_rfl) (by kernel_rfl) fun a w hs hw => ?_
      refine s_end ?_
      refine wp_ret ?_
      obtain rfl := someE hk
      refine hQ _ _ (f_retC hs rfl (hw.at_ 0 rfl) (by kernel_rfl) (v := .agg #[.bool false, .bool false, .bool false, .bool false, .bool false, .int .i64 0, .int .i64 0, .int .i64 0]) (by kernel_rfl) ⟨rfl, hw.pick [2] (by kernel_rfl)⟩)
    · refine c_cond0 hs (by kernel_rfl) (t := x142) (by kernel_rfl) h143 ?_
      refine wp_skip ?_
      refine c_seq ?_
      refine c_seq ?_
      refine c_region ?_
      refine pures hs 2 [1, 2, 4, 15, 16] [(1, .int .i64 x5), (2, .pointer (some ⟨b132, 0, none⟩)), (4, .pointer (some ⟨b134, 0, none⟩)), (15, .int .i64 x5), (16, .pointer (some ⟨b132, 4, none⟩))] (by kernel_rfl) fun a hs => ?_
      refine s_load hs (hw.at_ 1 rfl) 4 (by kernel_rfl) (by kernel_rfl) (v := .int .i64 x1.f4) (by kernel_rfl) fun a hs => ?_
      refine pures hs 1 [1, 2, 4, 18] [(1, .int .i64 x5), (2, .pointer (some ⟨b132, 0, none⟩)), (4, .pointer (some ⟨b134, 0, none⟩)), (18, .bool (x5 == x1.f4))] (by kernel_rfl) fun a hs => ?_
      refine s_end ?_
      rcases ifbE hk with ⟨h144, hk⟩ | ⟨h144, hk⟩
      · refine c_cond1 hs (by kernel_rfl) (t := (x5 == x1.f4)) (by kernel_rfl) h144 ?_
        refine c_seq ?_
        refine c_region ?_
        refine s_load hs (hw.at_ 1 rfl) 0 (by kernel_rfl) (by kernel_rfl) (v := .agg #[.int .i64 x1.f0, .int .u64 x1.f1, .slice p2 x1.f2.length c3, .bool x1.f3, .int .i64 x1.f4]) (by kernel_rfl) fun a hs => ?_
        obtain ⟨y147, h148, hk⟩ := bindE hk
        refine s_call hs (by kernel_rfl) (by kernel_rfl) (role_Tail_s h148 h4 ((hw.pick [0, 2] (by kernel_rfl)).pack 0)) fun a w v hv hs => ?_
        obtain ⟨rfl, hw⟩ := hv
        replace hw := hw.unpack 0 rfl
        refine pures hs 1 [4, 21] [(4, .pointer (some ⟨b134, 0, none⟩)), (21, .agg #[.bool false, .bool true, .bool false, .bool false, .bool true, .int .i64 0, .int .i64 y147, .int .i64 0])] (by kernel_rfl) fun a hs => ?_
        refine s_store hs hw 0 rfl 0 (by kernel_rfl) (by kernel_rfl) (v := .agg #[.bool false, .bool true, .bool false, .bool false, .bool true, .int .i64 0, .int .i64 y147, .int .i64 0]) (by kernel_rfl) (by kernel_rfl) (by kernel_rfl) (by kernel_rfl) fun a w hs hw => ?_
        refine s_end ?_
        refine wp_ret ?_
        obtain rfl := someE hk
        refine hQ _ _ (f_retC hs rfl (hw.at_ 0 rfl) (by kernel_rfl) (v := .agg #[.bool false, .bool true, .bool false, .bool false, .bool true, .int .i64 0, .int .i64 y147, .int .i64 0]) (by kernel_rfl) ⟨rfl, hw.pick [1] (by kernel_rfl)⟩)
      · refine c_cond0 hs (by kernel_rfl) (t := (x5 == x1.f4)) (by kernel_rfl) h144 ?_
        refine wp_skip ?_
        refine c_seq ?_
        refine c_region ?_
        refine pures hs 1 [1, 2, 4, 22] [(1, .int .i64 x5), (2, .pointer (some ⟨b132, 0, none⟩)), (4, .pointer (some ⟨b134, 0, none⟩)), (22, .pointer (some ⟨b132, 2, none⟩))] (by kernel_rfl) fun a hs => ?_
        refine s_load hs (hw.at_ 1 rfl) 2 (by kernel_rfl) (by kernel_rfl) (v := .slice p2 x1.f2.length c3) (by kernel_rfl) fun a hs => ?_
        refine pures hs 1 [1, 2, 4, 23, 24] [(1, .int .i64 x5), (2, .pointer (some ⟨b132, 0, none⟩)), (4, .pointer (some ⟨b134, 0, none⟩)), (23, .slice p2 x1.f2.length c3), (24, .int .i64 x5)] (by kernel_rfl) fun a hs => ?_
        obtain ⟨y151, h152, hk⟩ := bindE hk
        refine s_call hs (by kernel_rfl) (by kernel_rfl) (slices_Index_int_int_s h152 h4 (nilSub _) ((hw.pick [0, 1, 2] (by kernel_rfl)).pack 0)) fun a w v hv hs => ?_
        obtain ⟨rfl, hw⟩ := hv
        replace hw := hw.unpack 0 rfl
        refine pures hs 1 [1, 2, 4, 5] [(1, .int .i64 x5), (2, .pointer (some ⟨b132, 0, none⟩)), (4, .pointer (some ⟨b134, 0, none⟩)), (5, .int .i64 y151)] (by kernel_rfl) fun a hs => ?_
        refine s_end ?_
        refine c_seq ?_
        refine c_seq ?_
        refine c_region ?_
        refine pures hs 2 [1, 2, 4, 5, 27] [(1, .int .i64 x5), (2, .pointer (some ⟨b132, 0, none⟩)), (4, .pointer (some ⟨b134, 0, none⟩)), (5, .int .i64 y151), (27, .bool (decide (y151 < 0)))] (by kernel_rfl) fun a hs => ?_
        refine s_end ?_
        rcases ifbE hk with ⟨h153, hk⟩ | ⟨h153, hk⟩
        · refine c_cond1 hs (by kernel_rfl) (t := (decide (y151 < 0))) (by kernel_rfl) h153 ?_
          refine c_seq ?_
          refine c_region ?_
          refine pures hs 1 [4, 28] [(4, .pointer (some ⟨b134, 0, none⟩)), (28, .agg #[.bool false, .bool false, .bool false, .bool false, .bool false, .int .i64 0, .int .i64 0, .int .i64 0])] (by kernel_rfl) fun a hs => ?_
          refine s_store hs hw 0 rfl 0 (by kernel_rfl) (by kernel_rfl) (v := .agg #[.bool false, .bool false, .bool false, .bool false, .bool false, .int .i64 0, .int .i64 0, .int .i64 0]) (by kernel_rfl) (by kernel_rfl) (by kernel_rfl) (by kernel_rfl) fun a w hs hw => ?_
          refine s_end ?_
          refine wp_ret ?_
          obtain rfl := someE hk
          refine hQ _ _ (f_retC hs rfl (hw.at_ 0 rfl) (by kernel_rfl) (v := .agg #[.bool false, .bool false, .bool false, .bool false, .bool false, .int .i64 0, .int .i64 0, .int .i64 0]) (by kernel_rfl) ⟨rfl, hw.pick [2] (by kernel_rfl)⟩)
        · refine c_cond0 hs (by kernel_rfl) (t := (decide (y151 < 0))) (by kernel_rfl) h153 ?_
          refine wp_skip ?_
          refine c_seq ?_
          obtain ⟨S154, hS154, kS154⟩ := mkSX (X := [([], bx b134 [.bool false, .bool false, .bool false, .bool false, .bool false, .int .i64 0, .int .i64 0, .int .i64 0] 56), ([], bx b132 [.int .i64 x1.f0, .int .u64 x1.f1, .slice p2 x1.f2.length c3, .bool x1.f3, .int .i64 x1.f4] 53), ([], F)]) (ih := ih) (K := []) rfl
          obtain ⟨y229, hx230, hk⟩ := bindE hk
          obtain ⟨J231, hJ231⟩ : ∃ J : Act → World → Prop, ∀ a w, J a w ↔ (∃ (x173 : Bool) (b171 : Nat), role_Of_r9 x1 y151 x173 = some r ∧ Sees a 66 [(2, .pointer (some ⟨b132, 0, none⟩)), (4, .pointer (some ⟨b134, 0, none⟩)), (5, .int .i64 y151), (6, .pointer (some ⟨b171, 0, none⟩))] ∧ St g w [bx b134 [.bool false, .bool false, .bool false, .bool false, .bool false, .int .i64 0, .int .i64 0, .int .i64 0] 56, bx b132 [.int .i64 x1.f0, .int .u64 x1.f1, .slice p2 x1.f2.length c3, .bool x1.f3, .int .i64 x1.f4] 53, bx b171 [.bool true, .bool false, .bool (y151 == 0), .bool x173, .bool false, .int .i64 y151, .int .i64 0, .int .i64 x1.f4] 56, F] ih) := ⟨_, fun _ _ => Iff.rfl⟩
          refine c_draw (by kernel_rfl) (N := 12) rfl S154 J231 ?_ ?_
          · have hw := hw.drew
            have hS : S154 (Array.replicate 12 false) _ := SX_now hS154 (hw.vws [0, 1, 2]) (by kernel_rfl)
            refine d_pures (fuel := 9) kS154 hs hS [0, 1, 2] [1, 2, 4, 5, 29, 30, 31] [(1, .int .i64 x5), (2, .pointer (some ⟨b132, 0, none⟩)), (4, .pointer (some ⟨b134, 0, none⟩)), (5, .int .i64 y151), (29, .int .i64 y151), (30, .bool (y151 == 0)), (31, .int .i64 x5)] (by kernel_rfl) fun a hs hS => ?_
            refine d_load (fuel := 8) kS154 hs hS 3 rfl (by kernel_rfl) (SX_box hS154 1 rfl (by kernel_rfl)) 0 (by kernel_rfl) (by kernel_rfl) (v := .agg #[.int .i64 x1.f0, .int .u64 x1.f1, .slice p2 x1.f2.length c3, .bool x1.f3, .int .i64 x1.f4]) (by kernel_rfl) fun a hs hS => ?_
            refine d_pures (fuel := 6) kS154 hs hS [6, 7] [1, 2, 4, 5, 29, 30, 31, 32, 35, 36] [(1, .int .i64 x5), (2, .pointer (some ⟨b132, 0, none⟩)), (4, .pointer (some ⟨b134, 0, none⟩)), (5, .int .i64 y151), (29, .int .i64 y151), (30, .bool (y151 == 0)), (31, .int .i64 x5), (32, .agg #[.int .i64 x1.f0, .int .u64 x1.f1, .slice p2 x1.f2.length c3, .bool x1.f3, .int .i64 x1.f4]), (35, .int .i64 y151), (36, .pointer (some ⟨b132, 4, none⟩))] (by kernel_rfl) fun a hs hS => ?_
            refine d_load (fuel := 5) kS154 hs hS 8 rfl (by kernel_rfl) (SX_box hS154 1 rfl (by kernel_rfl)) 4 (by kernel_rfl) (by kernel_rfl) (v := .int .i64 x1.f4) (by kernel_rfl) fun a hs hS => ?_
            refine d_all (fuel := 4) (rs := [4, 10]) (by kernel_rfl) (by simp) (all2 ?_ (all1 ?_))
            · obtain ⟨y232, h233, hx230⟩ := bindE hx230
              refine o_call hs rfl (by kernel_rfl) (by kernel_rfl) (role_Tail_s h233 h4 ((hw.pick [0, 1, 2] (by kernel_rfl)).pack 0)) fun a w v hv hs => ?_
              obtain ⟨rfl, hw⟩ := hv
              replace hw := hw.unpack 0 rfl
              refine dg_next (SX_now hS154 ((hw.vws [0, 1, 2]).anti (Le.refl _)) (by kernel_rfl)) fun hS => ?_
              refine d_pures (fuel := 2) kS154 hs hS [5, 9] [1, 2, 4, 5, 29, 30, 31, 32, 35, 36, 37, 33, 34, 38] [(1, .int .i64 x5), (2, .pointer (some ⟨b132, 0, none⟩)), (4, .pointer (some ⟨b134, 0, none⟩)), (5, .int .i64 y151), (29, .int .i64 y151), (30, .bool (y151 == 0)), (31, .int .i64 x5), (32, .agg #[.int .i64 x1.f0, .int .u64 x1.f1, .slice p2 x1.f2.length c3, .bool x1.f3, .int .i64 x1.f4]), (35, .int .i64 y151), (36, .pointer (some ⟨b132, 4, none⟩)), (37, .int .i64 x1.f4), (33, .int .i64 y232), (34, .bool (x5 == y232)), (38, .agg #[.bool true, .bool false, .bool (y151 == 0), .bool (x5 == y232), .bool false, .int .i64 y151, .int .i64 0, .int .i64 x1.f4])] (by kernel_rfl) fun a hs hS => ?_
              refine d_all (fuel := 1) (rs := [10]) (by kernel_rfl) (by simp) (all1 ?_)
              refine o_new hs rfl hw [.bool false, .bool false, .bool false, .bool false, .bool false, .int .i64 0, .int .i64 0, .int .i64 0] 56 (fun b => .pointer (some ⟨b, 0, none⟩)) (by kernel_rfl) (fun _ => by kernel_rfl) fun a w b234 hs hw => ?_
              refine dg_next (SX_now hS154 ((hw.vws [1, 2, 3]).anti (Le.refl _)) (by kernel_rfl)) fun hS => ?_
              refine d_all (fuel := 0) (rs := [11]) (by kernel_rfl) (by simp) (all1 ?_)
              refine o_store hs hw rfl 0 rfl 0 (by kernel_rfl) (by kernel_rfl) (v := .agg #[.bool true, .bool false, .bool (y151 == 0), .bool (x5 == y232), .bool false, .int .i64 y151, .int .i64 0, .int .i64 x1.f4]) (by kernel_rfl) (by kernel_rfl) (by kernel_rfl) (by kernel_rfl) fun a w hs hw => ?_
              refine dg_next (SX_now hS154 ((hw.vws [1, 2, 3]).anti (Le.refl _)) (by kernel_rfl)) fun hS => ?_
              refine d_done (by kernel_rfl) ?_
              obtain rfl := someE hx230
              exact (hJ231 _ _).2 ⟨(x5 == y232), b234, hk, hs.cast [2, 4, 5, 6] (by kernel_rfl), hw.pick [1, 2, 0, 3] (by kernel_rfl)⟩
            · refine o_new hs rfl hw [.bool false, .bool false, .bool false, .bool false, .bool false, .int .i64 0, .int .i64 0, .int .i64 0] 56 (fun b => .pointer (some ⟨b, 0, none⟩)) (by kernel_rfl) (fun _ => by kernel_rfl) fun a w b236 hs hw => ?_
              refine dg_next (SX_now hS154 ((hw.vws [1, 2, 3]).anti (Le.refl _)) (by kernel_rfl)) fun hS => ?_
              refine d_all (fuel := 3) (rs := [4]) (by kernel_rfl) (by simp) (all1 ?_)
              obtain ⟨y238, h239, hx230⟩ := bindE hx230
              refine o_call hs rfl (by kernel_rfl) (by kernel_rfl) (role_Tail_s h239 h4 ((hw.pick [0, 1, 2, 3] (by kernel_rfl)).pack 0)) fun a w v hv hs => ?_
              obtain ⟨rfl, hw⟩ := hv
              replace hw := hw.unpack 0 rfl
              refine dg_next (SX_now hS154 ((hw.vws [1, 2, 3]).anti (Le.refl _)) (by kernel_rfl)) fun hS => ?_
              refine d_pures (fuel := 1) kS154 hs hS [5, 9] [1, 2, 4, 5, 29, 30, 31, 32, 35, 36, 37, 6, 33, 34, 38] [(1, .int .i64 x5), (2, .pointer (some ⟨b132, 0, none⟩)), (4, .pointer (some ⟨b134, 0, none⟩)), (5, .int .i64 y151), (29, .int .i64 y151), (30, .bool (y151 == 0)), (31, .int .i64 x5), (32, .agg #[.int .i64 x1.f0, .int .u64 x1.f1, .slice p2 x1.f2.length c3, .bool x1.f3, .int .i64 x1.f4]), (35, .int .i64 y151), (36, .pointer (some ⟨b132, 4, none⟩)), (37, .int .i64 x1.f4), (6, .pointer (some ⟨b236, 0, none⟩)), (33, .int .i64 y238), (34, .bool (x5 == y238)), (38, .agg #[.bool true, .bool false, .bool (y151 == 0), .bool (x5 == y238), .bool false, .int .i64 y151, .int .i64 0, .int .i64 x1.f4])] (by kernel_rfl) fun a hs hS => ?_
              refine d_all (fuel := 0) (rs := [11]) (by kernel_rfl) (by simp) (all1 ?_)
              refine o_store hs hw rfl 0 rfl 0 (by kernel_rfl) (by kernel_rfl) (v := .agg #[.bool true, .bool false, .bool (y151 == 0), .bool (x5 == y238), .bool false, .int .i64 y151, .int .i64 0, .int .i64 x1.f4]) (by kernel_rfl) (by kernel_rfl) (by kernel_rfl) (by kernel_rfl) fun a w hs hw => ?_
              refine dg_next (SX_now hS154 ((hw.vws [1, 2, 3]).anti (Le.refl _)) (by kernel_rfl)) fun hS => ?_
              refine d_done (by kernel_rfl) ?_
              obtain rfl := someE hx230
              exact (hJ231 _ _).2 ⟨(x5 == y238), b236, hk, hs.cast [2, 4, 5, 6] (by kernel_rfl), hw.pick [1, 2, 0, 3] (by kernel_rfl)⟩
          · intro a w hh
            obtain ⟨x173, b171, hk, hs, hw⟩ := (hJ231 _ _).1 hh
            refine c_seq ?_
            obtain ⟨y224, hx225, hk⟩ := bindE hk
            obtain ⟨J226, hJ226⟩ : ∃ J : Act → World → Prop, ∀ a w, J a w ↔ (∃ (x177 : Bool), role_Of_r8 y151 x1 x173 x177 = some r ∧ Sees a 66 [(2, .pointer (some ⟨b132, 0, none⟩)), (4, .pointer (some ⟨b134, 0, none⟩)), (5, .int .i64 y151), (6, .pointer (some ⟨b171, 0, none⟩))] ∧ St g w [bx b134 [.bool false, .bool false, .bool false, .bool false, .bool false, .int .i64 0, .int .i64 0, .int .i64 0] 56, bx b132 [.int .i64 x1.f0, .int .u64 x1.f1, .slice p2 x1.f2.length c3, .bool x1.f3, .int .i64 x1.f4] 53, bx b171 [.bool true, .bool false, .bool (y151 == 0), .bool x173, .bool x177, .int .i64 y151, .int .i64 0, .int .i64 x1.f4] 56, F] ih) := ⟨_, fun _ _ => Iff.rfl⟩
            refine c_regJ J226 ?_ ?_
            · refine pures hs 1 [2, 4, 5, 6, 39] [(2, .pointer (some ⟨b132, 0, none⟩)), (4, .pointer (some ⟨b134, 0, none⟩)), (5, .int .i64 y151), (6, .pointer (some ⟨b171, 0, none⟩)), (39, .pointer (some ⟨b171, 3, none⟩))] (by kernel_rfl) fun a hs => ?_
              refine s_load hs (hw.at_ 2 rfl) 3 (by kernel_rfl) (by kernel_rfl) (v := .bool x173) (by kernel_rfl) fun a hs => ?_
              refine pures hs 1 [2, 4, 5, 6, 41] [(2, .pointer (some ⟨b132, 0, none⟩)), (4, .pointer (some ⟨b134, 0, none⟩)), (5, .int .i64 y151), (6, .pointer (some ⟨b171, 0, none⟩)), (41, .bool x173)] (by kernel_rfl) fun a hs => ?_
              rcases ifbE hx225 with ⟨h227, hx225⟩ | ⟨h227, hx225⟩
              · replace hs := hs.altB 41 true (by kernel_rfl) h227
                refine pures hs 1 [2, 4, 5, 6, 41, 42] [(2, .pointer (some ⟨b132, 0, none⟩)), (4, .pointer (some ⟨b134, 0, none⟩)), (5, .int .i64 y151), (6, .pointer (some ⟨b171, 0, none⟩)), (41, .bool true), (42, .pointer (some ⟨b132, 3, none⟩))] (by kernel_rfl) fun a hs => ?_
                refine s_load hs (hw.at_ 1 rfl) 3 (by kernel_rfl) (by kernel_rfl) (v := .bool x1.f3) (by kernel_rfl) fun a hs => ?_
                refine pures hs 2 [2, 4, 5, 6, 44, 45] [(2, .pointer (some ⟨b132, 0, none⟩)), (4, .pointer (some ⟨b134, 0, none⟩)), (5, .int .i64 y151), (6, .pointer (some ⟨b171, 0, none⟩)), (44, .bool x1.f3), (45, .pointer (some ⟨b171, 4, none⟩))] (by kernel_rfl) fun a hs => ?_
                refine s_store hs hw 2 rfl 4 (by kernel_rfl) (by kernel_rfl) (v := .bool x1.f3) (by kernel_rfl) (by kernel_rfl) (by kernel_rfl) (by kernel_rfl) fun a w hs hw => ?_
                refine s_end ?_
                obtain rfl := someE hx225
                exact (hJ226 _ _).2 ⟨x1.f3, hk, hs.cast [2, 4, 5, 6] (by kernel_rfl), hw.pick [0, 1, 2, 3] (by kernel_rfl)⟩
              · replace hs := hs.altB 41 false (by kernel_rfl) h227
                refine pures hs 4 [2, 4, 5, 6, 44, 45] [(2, .pointer (some ⟨b132, 0, none⟩)), (4, .pointer (some ⟨b134, 0, none⟩)), (5, .int .i64 y151), (6, .pointer (some ⟨b171, 0, none⟩)), (44, .bool false), (45, .pointer (some ⟨b171, 4, none⟩))] (by kernel_rfl) fun a hs => ?_
                refine s_store hs hw 2 rfl 4 (by kernel_rfl) (by kernel_rfl) (v := .bool false) (by kernel_rfl) (by kernel_rfl) (by kernel_rfl) (by kernel_rfl) fun a w hs hw => ?_
                refine s_end ?_
                obtain rfl := someE hx225
                exact (hJ226 _ _).2 ⟨false, hk, hs.cast [2, 4, 5, 6] (by kernel_rfl), hw.pick [0, 1, 2, 3] (by kernel_rfl)⟩
            · intro a w hh
              obtain ⟨x177, hk, hs, hw⟩ := (hJ226 _ _).1 hh
              obtain ⟨y211, hx212, hk⟩ := bindE hk
              obtain ⟨J213, hJ213⟩ : ∃ J : Act → World → Prop, ∀ a w, J a w ↔ (∃ (x187 : Int), role_Of_r7 x173 x1 y151 x177 x187 = some r ∧ Sees a 66 [(2, .pointer (some ⟨b132, 0, none⟩)), (4, .pointer (some ⟨b134, 0, none⟩)), (5, .int .i64 y151), (6, .pointer (some ⟨b171, 0, none⟩))] ∧ St g w [bx b134 [.bool false, .bool false, .bool false, .bool false, .bool false, .int .i64 0, .int .i64 0, .int .i64 0] 56, bx b132 [.int .i64 x1.f0, .int .u64 x1.f1, .slice p2 x1.f2.length c3, .bool x1.f3, .int .i64 x1.f4] 53, bx b171 [.bool true, .bool false, .bool (y151 == 0), .bool x173, .bool x177, .int .i64 y151, .int .i64 x187, .int .i64 x1.f4] 56, F] ih) := ⟨_, fun _ _ => Iff.rfl⟩
              refine c_seqJ J213 ?_ ?_
              · refine c_seq ?_
                refine c_region ?_
                refine pures hs 2 [2, 4, 5, 6, 47] [(2, .pointer (some ⟨b132, 0, none⟩)), (4, .pointer (some ⟨b134, 0, none⟩)), (5, .int .i64 y151), (6, .pointer (some ⟨b171, 0, none⟩)), (47, .bool (decide (y151 > 0)))] (by kernel_rfl) fun a hs => ?_
                refine s_end ?_
                rcases ifbE hx212 with ⟨h214, hx212⟩ | ⟨h214, hx212⟩
                · refine c_cond1 hs (by kernel_rfl) (t := (decide (y151 > 0))) (by kernel_rfl) h214 ?_
                  refine c_region ?_
                  refine pures hs 1 [2, 4, 5, 6, 48] [(2, .pointer (some ⟨b132, 0, none⟩)), (4, .pointer (some ⟨b134, 0, none⟩)), (5, .int .i64 y151), (6, .pointer (some ⟨b171, 0, none⟩)), (48, .pointer (some ⟨b132, 2, none⟩))] (by kernel_rfl) fun a hs => ?_
                  refine s_load hs (hw.at_ 1 rfl) 2 (by kernel_rfl) (by kernel_rfl) (v := .slice p2 x1.f2.length c3) (by kernel_rfl) fun a hs => ?_
                  refine pures hs 2 [2, 4, 5, 6, 49, 51] [(2, .pointer (some ⟨b132, 0, none⟩)), (4, .pointer (some ⟨b134, 0, none⟩)), (5, .int .i64 y151), (6, .pointer (some ⟨b171, 0, none⟩)), (49, .slice p2 x1.f2.length c3), (51, .int .i64 (IntKind.i64.wrap (y151 - 1)))] (by kernel_rfl) fun a hs => ?_
                  obtain ⟨x219, h220, hx212⟩ := bindE hx212
                  refine s_index hs h4 (by kernel_rfl) (by kernel_rfl) (k := .i64) (by kernel_rfl) 3 (by kernel_rfl) (by kernel_rfl) h220 fun a r221 cs henc at222 hs => ?_
                  obtain rfl := henc
                  refine s_load hs (at222 _ (hw.vwAll.nil.anti (Le.refl _))) 0 (by kernel_rfl) (by kernel_rfl) (v := .int .i64 x219) (by kernel_rfl) fun a hs => ?_
                  refine pures hs 1 [2, 4, 5, 6, 53, 54] [(2, .pointer (some ⟨b132, 0, none⟩)), (4, .pointer (some ⟨b134, 0, none⟩)), (5, .int .i64 y151), (6, .pointer (some ⟨b171, 0, none⟩)), (53, .int .i64 x219), (54, .pointer (some ⟨b171, 6, none⟩))] (by kernel_rfl) fun a hs => ?_
                  refine s_store hs hw 2 rfl 6 (by kernel_rfl) (by kernel_rfl) (v := .int .i64 x219) (by kernel_rfl) (by kernel_rfl) (by kernel_rfl) (by kernel_rfl) fun a w hs hw => ?_
                  refine s_end ?_
                  obtain rfl := someE hx212
                  exact (hJ213 _ _).2 ⟨x219, hk, hs.cast [2, 4, 5, 6] (by kernel_rfl), hw.pick [0, 1, 2, 3] (by kernel_rfl)⟩
                · refine c_cond0 hs (by kernel_rfl) (t := (decide (y151 > 0))) (by kernel_rfl) h214 ?_
                  refine wp_skip ?_
                  obtain rfl := someE hx212
                  exact (hJ213 _ _).2 ⟨0, hk, hs.cast [2, 4, 5, 6] (by kernel_rfl), hw.pick [0, 1, 2, 3] (by kernel_rfl)⟩
              · intro a w hh
                obtain ⟨x187, hk, hs, hw⟩ := (hJ213 _ _).1 hh
                obtain ⟨y198, hx199, hk⟩ := bindE hk
                obtain ⟨J200, hJ200⟩ : ∃ J : Act → World → Prop, ∀ a w, J a w ↔ (∃ (x197 : Int), role_Of_r6 y151 x173 x177 x187 x197 = some r ∧ Sees a 66 [(4, .pointer (some ⟨b134, 0, none⟩)), (6, .pointer (some ⟨b171, 0, none⟩))] ∧ St g w [bx b134 [.bool false, .bool false, .bool false, .bool false, .bool false, .int .i64 0, .int .i64 0, .int .i64 0] 56, bx b171 [.bool true, .bool false, .bool (y151 == 0), .bool x173, .bool x177, .int .i64 y151, .int .i64 x187, .int .i64 x197] 56, F] ih) := ⟨_, fun _ _ => Iff.rfl⟩
                refine c_seqJ J200 ?_ ?_
                · refine c_seq ?_
                  refine c_region ?_
                  refine pures hs 1 [2, 4, 5, 6, 55] [(2, .pointer (some ⟨b132, 0, none⟩)), (4, .pointer (some ⟨b134, 0, none⟩)), (5, .int .i64 y151), (6, .pointer (some ⟨b171, 0, none⟩)), (55, .pointer (some ⟨b171, 3, none⟩))] (by kernel_rfl) fun a hs => ?_
                  refine s_load hs (hw.at_ 2 rfl) 3 (by kernel_rfl) (by kernel_rfl) (v := .bool x173) (by kernel_rfl) fun a hs => ?_
                  refine pures hs 1 [2, 4, 5, 6, 57] [(2, .pointer (some ⟨b132, 0, none⟩)), (4, .pointer (some ⟨b134, 0, none⟩)), (5, .int .i64 y151), (6, .pointer (some ⟨b171, 0, none⟩)), (57, .bool (!x173))] (by kernel_rfl) fun a hs => ?_
                  refine s_end ?_
                  rcases ifbE hx199 with ⟨h201, hx199⟩ | ⟨h201, hx199⟩
                  · refine c_cond1 hs (by kernel_rfl) (t := (!x173)) (by kernel_rfl) h201 ?_
                    refine c_region ?_
                    refine pures hs 1 [4, 5, 6, 58] [(4, .pointer (some ⟨b134, 0, none⟩)), (5, .int .i64 y151), (6, .pointer (some ⟨b171, 0, none⟩)), (58, .pointer (some ⟨b132, 2, none⟩))] (by kernel_rfl) fun a hs => ?_
                    refine s_load hs (hw.at_ 1 rfl) 2 (by kernel_rfl) (by kernel_rfl) (v := .slice p2 x1.f2.length c3) (by kernel_rfl) fun a hs => ?_
                    refine pures hs 2 [4, 6, 59, 61] [(4, .pointer (some ⟨b134, 0, none⟩)), (6, .pointer (some ⟨b171, 0, none⟩)), (59, .slice p2 x1.f2.length c3), (61, .int .i64 (IntKind.i64.wrap (y151 + 1)))] (by kernel_rfl) fun a hs => ?_
                    obtain ⟨x206, h207, hx199⟩ := bindE hx199
                    refine s_index hs h4 (by kernel_rfl) (by kernel_rfl) (k := .i64) (by kernel_rfl) 3 (by kernel_rfl) (by kernel_rfl) h207 fun a r208 cs henc at209 hs => ?_
                    obtain rfl := henc
                    refine s_load hs (at209 _ (hw.vwAll.nil.anti (Le.refl _))) 0 (by kernel_rfl) (by kernel_rfl) (v := .int .i64 x206) (by kernel_rfl) fun a hs => ?_
                    refine pures hs 1 [4, 6, 63, 64] [(4, .pointer (some ⟨b134, 0, none⟩)), (6, .pointer (some ⟨b171, 0, none⟩)), (63, .int .i64 x206), (64, .pointer (some ⟨b171, 7, none⟩))] (by kernel_rfl) fun a hs => ?_
                    refine s_store hs hw 2 rfl 7 (by kernel_rfl) (by kernel_rfl) (v := .int .i64 x206) (by kernel_rfl) (by kernel_rfl) (by kernel_rfl) (by kernel_rfl) fun a w hs hw => ?_
                    refine s_end ?_
                    obtain rfl := someE hx199
                    exact (hJ200 _ _).2 ⟨x206, hk, hs.cast [4, 6] (by kernel_rfl), hw.pick [0, 2, 3] (by kernel_rfl)⟩
                  · refine c_cond0 hs (by kernel_rfl) (t := (!x173)) (by kernel_rfl) h201 ?_
                    refine wp_skip ?_
                    obtain rfl := someE hx199
                    exact (hJ200 _ _).2 ⟨x1.f4, hk, hs.cast [4, 6] (by kernel_rfl), hw.pick [0, 2, 3] (by kernel_rfl)⟩
                · intro a w hh
                  obtain ⟨x197, hk, hs, hw⟩ := (hJ200 _ _).1 hh
                  refine c_seq ?_
                  refine c_region ?_
                  refine s_load hs (hw.at_ 1 rfl) 0 (by kernel_rfl) (by kernel_rfl) (v := .agg #[.bool true, .bool false, .bool (y151 == 0), .bool x173, .bool x177, .int .i64 y151, .int .i64 x187, .int .i64 x197]) (by kernel_rfl) fun a hs => ?_
                  refine s_store hs hw 0 rfl 0 (by kernel_rfl) (by kernel_rfl) (v := .agg #[.bool true, .bool false, .bool (y151 == 0), .bool x173, .bool x177, .int .i64 y151, .int .i64 x187, .int .i64 x197]) (by kernel_rfl) (by kernel_rfl) (by kernel_rfl) (by kernel_rfl) fun a w hs hw => ?_
                  refine s_end ?_
                  refine wp_ret ?_
                  obtain rfl := someE hk
                  refine hQ _ _ (f_retC hs rfl (hw.at_ 0 rfl) (by kernel_rfl) (v := .agg #[.bool true, .bool false, .bool (y151 == 0), .bool x173, .bool x177, .int .i64 y151, .int .i64 x187, .int .i64 x197]) (by kernel_rfl) ⟨rfl, hw.pick [2] (by kernel_rfl)⟩)
def catenarylaw19_awake (k : Nat) : Option Bool :=
  (role_Of k (M53.mk 0 1 ([1, 2, 3]) false 4) 3).bind fun y49 =>
  some (y49.f3 && ((y49.f7 == 4) && ((y49.f6 == 2) && (y49.f0 && (!y49.f4)))))
theorem catenarylaw19_awake_s {k : Nat} {r : Bool} (hk : catenarylaw19_awake k = some r) {g w : World} {F : Ch} {ih : IH} (hw : St g w [F] ih) :
    CallsR Try.prog 33 #[] w fun v w' => ∃ (ih' : IH), v = .bool r ∧ St g w' [F] ih' ∧ Le ih ih' := by
  refine f_in (vs := []) Try.func33 rfl 26 rfl (by kernel_rfl) [] (by kernel_rfl) fun a Qf hQ hQn hs => ?_
  refine c_seq ?_
  refine c_region ?_
  refine pures hs 1 [] [] (by kernel_rfl) fun a hs => ?_
  refine s_end ?_
  refine c_seq ?_
  refine c_region ?_
  refine s_new hs hw [.int .i64 1, .int .i64 2, .int .i64 3] 3 (fun b => .slice (some ⟨b, 0, none⟩) 3 3) (by kernel_rfl) (fun _ => by kernel_rfl) fun a w b44 hs hw => ?_
  obtain ⟨ih46, hle47, hw, h48⟩ := (hw.pick [0, 1] (by kernel_rfl)).fz ((OSl.ofL (E := e3) (zs := [1, 2, 3]) (EL.cons (E := e3) (c1 := [.int .i64 1]) rfl (EL.cons (E := e3) (c1 := [.int .i64 2]) rfl (EL.cons (E := e3) (c1 := [.int .i64 3]) rfl EL.nil))) rfl (by simp [maxLen])).mono (Le.refl _))
  refine pures hs 1 [3] [(3, .agg #[.int .i64 0, .int .u64 1, .slice (some ⟨b44, 0, none⟩) ([1, 2, 3]).length 3, .bool false, .int .i64 4])] (by kernel_rfl) fun a hs => ?_
  obtain ⟨y49, h50, hk⟩ := bindE hk
  refine s_call hs (by kernel_rfl) (by kernel_rfl) (role_Of_s h50 h48 ((hw.pick [0] (by kernel_rfl)).pack 0)) fun a w v hv hs => ?_
  obtain ⟨rfl, hw⟩ := hv
  replace hw := hw.unpack 0 rfl
  refine s_new hs hw [.bool false, .bool false, .bool false, .bool false, .bool false, .int .i64 0, .int .i64 0, .int .i64 0] 56 (fun b => .pointer (some ⟨b, 0, none⟩)) (by kernel_rfl) (fun _ => by kernel_rfl) fun a w b51 hs hw => ?_
  refine s_store hs hw 0 rfl 0 (by kernel_rfl) (by kernel_rfl) (v := .agg #[.bool y49.f0, .bool y49.f1, .bool y49.f2, .bool y49.f3, .bool y49.f4, .int .i64 y49.f5, .int .i64 y49.f6, .int .i64 y49.f7]) (by kernel_rfl) (by kernel_rfl) (by kernel_rfl) (by kernel_rfl) fun a w hs hw => ?_
  refine s_end ?_
  refine c_seq ?_
  obtain ⟨J62, hJ62⟩ : ∃ J : Act → World → Prop, ∀ a w, J a w ↔ (Sees a 26 [(0, .bool (y49.f3 && ((y49.f7 == 4) && ((y49.f6 == 2) && (y49.f0 && (!y49.f4))))))] ∧ St g w [F] ih46) := ⟨_, fun _ _ => Iff.rfl⟩
  refine c_regJ J62 ?_ ?_
  · refine pures hs 1 [1, 5] [(1, .pointer (some ⟨b51, 0, none⟩)), (5, .pointer (some ⟨b51, 3, none⟩))] (by kernel_rfl) fun a hs => ?_
    refine s_load hs (hw.at_ 0 rfl) 3 (by kernel_rfl) (by kernel_rfl) (v := .bool y49.f3) (by kernel_rfl) fun a hs => ?_
    refine pures hs 1 [1, 7] [(1, .pointer (some ⟨b51, 0, none⟩)), (7, .bool y49.f3)] (by kernel_rfl) fun a hs => ?_
    rcases boolE y49.f3 with h63 | h63
    · replace hs := hs.altB 7 true (by kernel_rfl) h63
      refine pures hs 1 [1, 7, 8] [(1, .pointer (some ⟨b51, 0, none⟩)), (7, .bool true), (8, .pointer (some ⟨b51, 7, none⟩))] (by kernel_rfl) fun a hs => ?_
      refine s_load hs (hw.at_ 0 rfl) 7 (by kernel_rfl) (by kernel_rfl) (v := .int .i64 y49.f7) (by kernel_rfl) fun a hs => ?_
      refine pures hs 3 [1, 12] [(1, .pointer (some ⟨b51, 0, none⟩)), (12, .bool (y49.f7 == 4))] (by kernel_rfl) fun a hs => ?_
      rcases boolE (y49.f7 == 4) with h64 | h64
      · replace hs := hs.altB 12 true (by kernel_rfl) h64
        refine pures hs 1 [1, 12, 13] [(1, .pointer (some ⟨b51, 0, none⟩)), (12, .bool true), (13, .pointer (some ⟨b51, 6, none⟩))] (by kernel_rfl) fun a hs => ?_
        refine s_load hs (hw.at_ 0 rfl) 6 (by kernel_rfl) (by kernel_rfl) (v := .int .i64 y49.f6) (by kernel_rfl) fun a hs => ?_
        refine pures hs 3 [1, 17] [(1, .pointer (some ⟨b51, 0, none⟩)), (17, .bool (y49.f6 == 2))] (by kernel_rfl) fun a hs => ?_
        rcases boolE (y49.f6 == 2) with h65 | h65
        · replace hs := hs.altB 17 true (by kernel_rfl) h65
          refine pures hs 1 [1, 17, 18] [(1, .pointer (some ⟨b51, 0, none⟩)), (17, .bool true), (18, .pointer (some ⟨b51, 0, none⟩))] (by kernel_rfl) fun a hs => ?_
          refine s_load hs (hw.at_ 0 rfl) 0 (by kernel_rfl) (by kernel_rfl) (v := .bool y49.f0) (by kernel_rfl) fun a hs => ?_
          refine pures hs 2 [1, 21] [(1, .pointer (some ⟨b51, 0, none⟩)), (21, .bool y49.f0)] (by kernel_rfl) fun a hs => ?_
          rcases boolE y49.f0 with h66 | h66
          · replace hs := hs.altB 21 true (by kernel_rfl) h66
            refine pures hs 1 [21, 22] [(21, .bool true), (22, .pointer (some ⟨b51, 4, none⟩))] (by kernel_rfl) fun a hs => ?_
            refine s_load hs (hw.at_ 0 rfl) 4 (by kernel_rfl) (by kernel_rfl) (v := .bool y49.f4) (by kernel_rfl) fun a hs => ?_
            refine pures hs 3 [0] [(0, .bool (!y49.f4))] (by kernel_rfl) fun a hs => ?_
            refine s_end ?_
            exact (hJ62 _ _).2 ⟨(hs.altB 0 (y49.f3 && ((y49.f7 == 4) && ((y49.f6 == 2) && (y49.f0 && (!y49.f4))))) (by kernel_rfl) (by rw [h63, h64, h65, h66] <;> rfl)).cast [0] (by kernel_rfl), hw.pick [1] (by kernel_rfl)⟩
          · replace hs := hs.altB 21 false (by kernel_rfl) h66
            refine pures hs 5 [0] [(0, .bool false)] (by kernel_rfl) fun a hs => ?_
            refine s_end ?_
            exact (hJ62 _ _).2 ⟨(hs.altB 0 (y49.f3 && ((y49.f7 == 4) && ((y49.f6 == 2) && (y49.f0 && (!y49.f4))))) (by kernel_rfl) (by rw [h63, h64, h65, h66] <;> rfl)).cast [0] (by kernel_rfl), hw.pick [1] (by kernel_rfl)⟩
        · replace hs := hs.altB 17 false (by kernel_rfl) h65
          refine pures hs 9 [0] [(0, .bool false)] (by kernel_rfl) fun a hs => ?_
          refine s_end ?_
          exact (hJ62 _ _).2 ⟨(hs.altB 0 (y49.f3 && ((y49.f7 == 4) && ((y49.f6 == 2) && (y49.f0 && (!y49.f4))))) (by kernel_rfl) (by rw [h63, h64, h65] <;> rfl)).cast [0] (by kernel_rfl), hw.pick [1] (by kernel_rfl)⟩
      · replace hs := hs.altB 12 false (by kernel_rfl) h64
        refine pures hs 14 [0] [(0, .bool false)] (by kernel_rfl) fun a hs => ?_
        refine s_end ?_
        exact (hJ62 _ _).2 ⟨(hs.altB 0 (y49.f3 && ((y49.f7 == 4) && ((y49.f6 == 2) && (y49.f0 && (!y49.f4))))) (by kernel_rfl) (by rw [h63, h64] <;> rfl)).cast [0] (by kernel_rfl), hw.pick [1] (by kernel_rfl)⟩
    · replace hs := hs.altB 7 false (by kernel_rfl) h63
      refine pures hs 19 [0] [(0, .bool false)] (by kernel_rfl) fun a hs => ?_
      refine s_end ?_
      exact (hJ62 _ _).2 ⟨(hs.altB 0 (y49.f3 && ((y49.f7 == 4) && ((y49.f6 == 2) && (y49.f0 && (!y49.f4))))) (by kernel_rfl) (by rw [h63] <;> rfl)).cast [0] (by kernel_rfl), hw.pick [1] (by kernel_rfl)⟩
  · intro a w hh
    obtain ⟨hs, hw⟩ := (hJ62 _ _).1 hh
    refine wp_ret ?_
    obtain rfl := someE hk
    refine hQ _ _ (f_ret1 hs rfl (v := .bool (y49.f3 && ((y49.f7 == 4) && ((y49.f6 == 2) && (y49.f0 && (!y49.f4)))))) (by kernel_rfl) ⟨ih46, rfl, hw.pick [0] (by kernel_rfl), hle47⟩)
def role_Head (k : Nat) (x1 : M53) : Option Int :=
  (conf_Right k x1).bind fun y30 =>
  if (!y30) = true then some 0
  else (ix x1.f2 0).bind fun x37 =>
  some x37
theorem role_Head_s {k : Nat} {x1 : M53} {p2 : Option Addr} {c3 : Nat} {r : Int} (hk : role_Head k x1 = some r) {g w : World} {F : Ch} {ih : IH} (h4 : RSl e3 ih [] p2 c3 x1.f2) (hw : St g w [F] ih) :
    CallsR Try.prog 34 #[.agg #[.int .i64 x1.f0, .int .u64 x1.f1, .slice p2 x1.f2.length c3, .bool x1.f3, .int .i64 x1.f4]] w fun v w' => v = .int .i64 r ∧ St g w' [F] ih := by
  refine f_in (vs := [.agg #[.int .i64 x1.f0, .int .u64 x1.f1, .slice p2 x1.f2.length c3, .bool x1.f3, .int .i64 x1.f4]]) Try.func34 rfl 10 rfl (by kernel_rfl) [(0, .agg #[.int .i64 x1.f0, .int .u64 x1.f1, .slice p2 x1.f2.length c3, .bool x1.f3, .int .i64 x1.f4])] (by kernel_rfl) fun a Qf hQ hQn hs => ?_
  refine c_seq ?_
  refine c_region ?_
  refine s_new hs hw [.int .i64 x1.f0, .int .u64 x1.f1, .slice p2 x1.f2.length c3, .bool x1.f3, .int .i64 x1.f4] 53 (fun b => .pointer (some ⟨b, 0, none⟩)) (by kernel_rfl) (fun _ => by kernel_rfl) fun a w b26 hs hw => ?_
  refine pures hs 1 [1] [(1, .pointer (some ⟨b26, 0, none⟩))] (by kernel_rfl) fun a hs => ?_
  refine s_end ?_
  refine c_seq ?_
  refine c_seq ?_
  refine c_region ?_
  refine s_load hs (hw.at_ 0 rfl) 0 (by kernel_rfl) (by kernel_rfl) (v := .agg #[.int .i64 x1.f0, .int .u64 x1.f1, .slice p2 x1.f2.length c3, .bool x1.f3, .int .i64 x1.f4]) (by kernel_rfl) fun a hs => ?_
  obtain ⟨y30, h31, hk⟩ := bindE hk
  refine s_call hs (by kernel_rfl) (by kernel_rfl) (conf_Right_s h31 h4 ((hw.pick [0, 1] (by kernel_rfl)).pack 0)) fun a w v hv hs => ?_
  obtain ⟨rfl, hw⟩ := hv
  replace hw := hw.unpack 0 rfl
  refine pures hs 1 [1, 5] [(1, .pointer (some ⟨b26, 0, none⟩)), (5, .bool (!y30))] (by kernel_rfl) fun a hs => ?_
  refine s_end ?_
  rcases ifbE hk with ⟨h32, hk⟩ | ⟨h32, hk⟩
  · refine c_cond1 hs (by kernel_rfl) (t := (!y30)) (by kernel_rfl) h32 ?_
    refine c_seq ?_
    refine c_region ?_
    refine pures hs 1 [2] [(2, .int .i64 0)] (by kernel_rfl) fun a hs => ?_
    refine s_end ?_
    refine wp_ret ?_
    obtain rfl := someE hk
    refine hQ _ _ (f_ret1 hs rfl (v := .int .i64 0) (by kernel_rfl) ⟨rfl, hw.pick [1] (by kernel_rfl)⟩)
  · refine c_cond0 hs (by kernel_rfl) (t := (!y30)) (by kernel_rfl) h32 ?_
    refine wp_skip ?_
    refine c_seq ?_
    refine c_region ?_
    refine pures hs 1 [6] [(6, .pointer (some ⟨b26, 2, none⟩))] (by kernel_rfl) fun a hs => ?_
    refine s_load hs (hw.at_ 0 rfl) 2 (by kernel_rfl) (by kernel_rfl) (v := .slice p2 x1.f2.length c3) (by kernel_rfl) fun a hs => ?_
    obtain ⟨x37, h38, hk⟩ := bindE hk
    refine s_index hs h4 (by kernel_rfl) (by kernel_rfl) (k := .i64) (by kernel_rfl) 3 (by kernel_rfl) (by kernel_rfl) h38 fun a r39 cs henc at40 hs => ?_
    obtain rfl := henc
    refine s_load hs (at40 _ (hw.vwAll.nil.anti (Le.refl _))) 0 (by kernel_rfl) (by kernel_rfl) (v := .int .i64 x37) (by kernel_rfl) fun a hs => ?_
    refine pures hs 1 [2] [(2, .int .i64 x37)] (by kernel_rfl) fun a hs => ?_
    refine s_end ?_
    refine wp_ret ?_
    obtain rfl := someE hk
    refine hQ _ _ (f_ret1 hs rfl (v := .int .i64 x37) (by kernel_rfl) ⟨rfl, hw.pick [1] (by kernel_rfl)⟩)
def catenarylaw19_RoleChain_r27 (x629 : Bool) : Option Bool :=
  some x629
def catenarylaw19_RoleChain_r43 (x1053 : Bool) : Option Bool :=
  some x1053
def catenarylaw19_RoleChain_r44 (k : Nat) (x927 : Int) (x928 : Int) (x929 : Int) (x1 : M53) (x1034 : Int) : Option Bool :=
  (if (x927 == 1) = true then (
      if (x928 == 1) = true then (
        if (x929 == (x1.f2.length : Int)) = true then (
          if (x1034 == x1.f4) = true then (
            (catenarylaw19_awake k).bind fun y1061 =>
            some y1061)
          else some false)
        else some false)
      else some false)
    else some false : Option Bool).bind fun s1065 => catenarylaw19_RoleChain_r43 s1065
def catenarylaw19_RoleChain_r46 (k : Nat) (rec_catenarylaw19_RoleChain_l45 : Int → Int → Option (Sum Bool Int)) (x1 : M53) (x1000 : Int) (x1001 : Int) (x1085 : Bool) : Option (Sum Bool Int) :=
  if x1085 = true then some (.inl false)
  else (role_Of k x1 x1000).bind fun y1089 =>
  rec_catenarylaw19_RoleChain_l45 y1089.f7 (IntKind.i64.wrap (x1001 + 1))
def catenarylaw19_RoleChain_l45 (k : Nat) (x1 : M53) : Nat → Int → Int → Option (Sum Bool Int)
  | 0, _, _ => none
  | j + 1, x1000, x1001 =>
    if (decide (x1001 < (x1.f2.length : Int))) = true then (
      ((ix x1.f2 x1001).bind fun x1094 =>
        if (x1000 != x1094) = true then some true
        else (role_Of k x1 x1000).bind fun y1099 =>
        some (y1099.f5 != x1001) : Option Bool).bind fun s1101 => catenarylaw19_RoleChain_r46 k (catenarylaw19_RoleChain_l45 k x1 j) x1 x1000 x1001 s1101)
    else some (.inr x1000)
def catenarylaw19_RoleChain_r47 (k : Nat) (x1 : M53) (x927 : Int) (x928 : Int) (x929 : Int) : Option Bool :=
  (role_Head k x1).bind fun y932 =>
  (catenarylaw19_RoleChain_l45 k x1 k y932 0 : Option (Sum Bool Int)).bind fun
    | .inl z => some z
    | .inr s1102 => catenarylaw19_RoleChain_r44 k x927 x928 x929 x1 s1102
def catenarylaw19_RoleChain_r49 (rec_catenarylaw19_RoleChain_l48 : Int → Int → Int → Int → Option (Sum Bool (Int × Int × Int))) (y1112 : M56) (x1 : M53) (x1117 : Int) (x1119 : Int) (x1121 : Int) (x833 : Int) (x1154 : Bool) : Option (Sum Bool (Int × Int × Int)) :=
  if x1154 = true then some (.inl false)
  else if (y1112.f0 && ((!(y1112.f2 == (y1112.f6 == 0))) || (!(y1112.f3 == (y1112.f7 == x1.f4))))) = true then some (.inl false)
  else rec_catenarylaw19_RoleChain_l48 x1117 x1119 x1121 (IntKind.i64.wrap (x833 + 1))
def catenarylaw19_RoleChain_r50 (k : Nat) (rec_catenarylaw19_RoleChain_l48 : Int → Int → Int → Int → Option (Sum Bool (Int × Int × Int))) (y1112 : M56) (x1 : M53) (x833 : Int) (x1117 : Int) (x1119 : Int) (x1121 : Int) : Option (Sum Bool (Int × Int × Int)) :=
  (if (y1112.f6 != 0) = true then (
      (role_Of k x1 y1112.f6).bind fun y1169 =>
      if (y1169.f7 != x833) = true then some true
      else if (y1112.f7 != 0) = true then (
        (role_Of k x1 y1112.f7).bind fun y1173 =>
        if (y1173.f6 != x833) = true then some true
        else if y1112.f1 = true then some y1112.f0
        else some false)
      else if y1112.f1 = true then some y1112.f0
      else some false)
    else if (y1112.f7 != 0) = true then (
      (role_Of k x1 y1112.f7).bind fun y1179 =>
      if (y1179.f6 != x833) = true then some true
      else if y1112.f1 = true then some y1112.f0
      else some false)
    else if y1112.f1 = true then some y1112.f0
    else some false : Option Bool).bind fun s1184 => catenarylaw19_RoleChain_r49 (rec_catenarylaw19_RoleChain_l48) y1112 x1 x1117 x1119 x1121 x833 s1184
def catenarylaw19_RoleChain_r51 (k : Nat) (rec_catenarylaw19_RoleChain_l48 : Int → Int → Int → Int → Option (Sum Bool (Int × Int × Int))) (y1112 : M56) (x832 : Int) (x1 : M53) (x833 : Int) (x1117 : Int) (x1119 : Int) : Option (Sum Bool (Int × Int × Int)) :=
  (if y1112.f0 = true then some (IntKind.i64.wrap (x832 + 1))
    else some x832 : Option Int).bind fun s1189 => catenarylaw19_RoleChain_r50 k (rec_catenarylaw19_RoleChain_l48) y1112 x1 x833 x1117 x1119 s1189
def catenarylaw19_RoleChain_r52 (k : Nat) (rec_catenarylaw19_RoleChain_l48 : Int → Int → Int → Int → Option (Sum Bool (Int × Int × Int))) (y1112 : M56) (x831 : Int) (x832 : Int) (x1 : M53) (x833 : Int) (x1117 : Int) : Option (Sum Bool (Int × Int × Int)) :=
  (if y1112.f3 = true then some (IntKind.i64.wrap (x831 + 1))
    else some x831 : Option Int).bind fun s1194 => catenarylaw19_RoleChain_r51 k (rec_catenarylaw19_RoleChain_l48) y1112 x832 x1 x833 x1117 s1194
def catenarylaw19_RoleChain_l48 (k : Nat) (x1 : M53) : Nat → Int → Int → Int → Int → Option (Sum Bool (Int × Int × Int))
  | 0, _, _, _, _ => none
  | j + 1, x830, x831, x832, x833 =>
    if (decide (x833 ≤ 24)) = true then (
      (role_Of k x1 x833).bind fun y1112 =>
      (if y1112.f2 = true then some (IntKind.i64.wrap (x830 + 1))
        else some x830 : Option Int).bind fun s1199 => catenarylaw19_RoleChain_r52 k (catenarylaw19_RoleChain_l48 k x1 j) y1112 x831 x832 x1 x833 s1199)
    else some (.inr (x830, x831, x832))
def catenarylaw19_RoleChain (k : Nat) (x1 : M53) : Option Bool :=
  (catenaryref09_Right k x1).bind fun y610 =>
  if (!y610) = true then (
    ((role_Of k x1 1).bind fun y633 =>
      if ((y633.f0 == false) && ((y633.f1 == false) && ((y633.f2 == false) && ((y633.f3 == false) && ((y633.f4 == false) && ((y633.f5 == 0) && ((y633.f6 == 0) && ((y633.f7 == 0) && true)))))))) = true then (
        (catenarylaw19_awake k).bind fun y636 =>
        some y636)
      else some false : Option Bool).bind fun s640 => catenarylaw19_RoleChain_r27 s640)
  else (catenarylaw19_RoleChain_l48 k x1 k 0 0 0 1 : Option (Sum Bool (Int × Int × Int))).bind fun
    | .inl z => some z
    | .inr s1200 => catenarylaw19_RoleChain_r47 k x1 s1200.1 s1200.2.1 s1200.2.2
theorem catenarylaw19_RoleChain_s {k : Nat} {x1 : M53} {p2 : Option Addr} {c3 : Nat} {r : Bool} (hk : catenarylaw19_RoleChain k x1 = some r) {g w : World} {F : Ch} {ih : IH} (h4 : RSl e3 ih [] p2 c3 x1.f2) (hw : St g w [F] ih) :
    CallsR Try.prog 6 #[.agg #[.int .i64 x1.f0, .int .u64 x1.f1, .slice p2 x1.f2.length c3, .bool x1.f3, .int .i64 x1.f4]] w fun v w' => ∃ (ih' : IH), v = .bool r ∧ St g w' [F] ih' ∧ Le ih ih' := by
  refine f_in (vs := [.agg #[.int .i64 x1.f0, .int .u64 x1.f1, .slice p2 x1.f2.length c3, .bool x1.f3, .int .i64 x1.f4]]) Try.func6 rfl 143 rfl (by kernel_rfl) [(0, .agg #[.int .i64 x1.f0, .int .u64 x1.f1, .slice p2 x1.f2.length c3, .bool x1.f3, .int .i64 x1.f4])] (by kernel_rfl) fun a Qf hQ hQn hs => ?_
  refine c_seq ?_
  refine c_region ?_
  refine s_new hs hw [.int .i64 x1.f0, .int .u64 x1.f1, .slice p2 x1.f2.length c3, .bool x1.f3, .int .i64 x1.f4] 53 (fun b => .pointer (some ⟨b, 0, none⟩)) (by kernel_rfl) (fun _ => by kernel_rfl) fun a w b606 hs hw => ?_
  refine pures hs 1 [1] [(1, .pointer (some ⟨b606, 0, none⟩))] (by kernel_rfl) fun a hs => ?_
  refine s_end ?_
  refine c_seq ?_
  refine c_seq ?_
  refine c_region ?_
  refine s_load hs (hw.at_ 0 rfl) 0 (by kernel_rfl) (by kernel_rfl) (v := .agg #[.int .i64 x1.f0, .int .u64 x1.f1, .slice p2 x1.f2.length c3, .bool x1.f3, .int .i64 x1.f4]) (by kernel_rfl) fun a hs => ?_
  obtain ⟨y610, h611, hk⟩ := bindE hk
  refine s_call hs (by kernel_rfl) (by kernel_rfl) (catenaryref09_Right_s h611 h4 ((hw.pick [0, 1] (by kernel_rfl)).pack 0)) fun a w v hv hs => ?_
  obtain ⟨rfl, hw⟩ := hv
  replace hw := hw.unpack 0 rfl
  refine pures hs 1 [1, 12] [(1, .pointer (some ⟨b606, 0, none⟩)), (12, .bool (!y610))] (by kernel_rfl) fun a hs => ?_
  refine s_end ?_
  rcases ifbE hk with ⟨h612, hk⟩ | ⟨h612, hk⟩
  · refine c_cond1 hs (by kernel_rfl) (t := (!y610)) (by kernel_rfl) h612 ?_
    refine c_seq ?_
    obtain ⟨y630, hx631, hk⟩ := bindE hk
    obtain ⟨J632, hJ632⟩ : ∃ J : Act → World → Prop, ∀ a w, J a w ↔ (∃ (x629 : Bool) (ih627 : IH), catenarylaw19_RoleChain_r27 x629 = some r ∧ Sees a 143 [(2, .bool x629)] ∧ St g w [F] ih627 ∧ Le ih ih627) := ⟨_, fun _ _ => Iff.rfl⟩
    refine c_regJ J632 ?_ ?_
    · refine s_load hs (hw.at_ 0 rfl) 0 (by kernel_rfl) (by kernel_rfl) (v := .agg #[.int .i64 x1.f0, .int .u64 x1.f1, .slice p2 x1.f2.length c3, .bool x1.f3, .int .i64 x1.f4]) (by kernel_rfl) fun a hs => ?_
      obtain ⟨y633, h634, hx631⟩ := bindE hx631
      refine s_call hs (by kernel_rfl) (by kernel_rfl) (role_Of_s h634 h4 ((hw.pick [1] (by kernel_rfl)).pack 0)) fun a w v hv hs => ?_
      obtain ⟨rfl, hw⟩ := hv
      replace hw := hw.unpack 0 rfl
      refine pures hs 1 [14, 15] [(14, .agg #[.bool y633.f0, .bool y633.f1, .bool y633.f2, .bool y633.f3, .bool y633.f4, .int .i64 y633.f5, .int .i64 y633.f6, .int .i64 y633.f7]), (15, .agg #[.bool false, .bool false, .bool false, .bool false, .bool false, .int .i64 0, .int .i64 0, .int .i64 0])] (by kernel_rfl) fun a hs => ?_
      refine s_eq hs (c1 := [.bool y633.f0, .bool y633.f1, .bool y633.f2, .bool y633.f3, .bool y633.f4, .int .i64 y633.f5, .int .i64 y633.f6, .int .i64 y633.f7]) (c2 := [.bool false, .bool false, .bool false, .bool false, .bool false, .int .i64 0, .int .i64 0, .int .i64 0]) ((y633.f0 == false) && ((y633.f1 == false) && ((y633.f2 == false) && ((y633.f3 == false) && ((y633.f4 == false) && ((y633.f5 == 0) && ((y633.f6 == 0) && ((y633.f7 == 0) && true)))))))) (by kernel_rfl) (by kernel_rfl) (by kernel_rfl) (by kernel_rfl) (by kernel_rfl) fun a hs => ?_
      refine pures hs 1 [17] [(17, .bool ((y633.f0 == false) && ((y633.f1 == false) && ((y633.f2 == false) && ((y633.f3 == false) && ((y633.f4 == false) && ((y633.f5 == 0) && ((y633.f6 == 0) && ((y633.f7 == 0) && true)))))))))] (by kernel_rfl) fun a hs => ?_
      rcases ifbE hx631 with ⟨h635, hx631⟩ | ⟨h635, hx631⟩
      · replace hs := hs.altB 17 true (by kernel_rfl) h635
        obtain ⟨y636, h637, hx631⟩ := bindE hx631
        refine s_call hs (by kernel_rfl) (by kernel_rfl) (catenarylaw19_awake_s h637 ((hw.pick [0] (by kernel_rfl)).pack 0)) fun a w v hv hs => ?_
        obtain ⟨ih638, rfl, hw, hle639⟩ := hv
        replace hw := hw.unpack 0 rfl
        refine pures hs 2 [2] [(2, .bool y636)] (by kernel_rfl) fun a hs => ?_
        refine s_end ?_
        obtain rfl := someE hx631
        exact (hJ632 _ _).2 ⟨y636, ih638, hk, hs.cast [2] (by kernel_rfl), hw.pick [0] (by kernel_rfl), hle639⟩
      · replace hs := hs.altB 17 false (by kernel_rfl) h635
        refine pures hs 3 [2] [(2, .bool false)] (by kernel_rfl) fun a hs => ?_
        refine s_end ?_
        obtain rfl := someE hx631
        exact (hJ632 _ _).2 ⟨false, ih, hk, hs.cast [2] (by kernel_rfl), hw.pick [0] (by kernel_rfl), (Le.refl _)⟩
    · intro a w hh
      obtain ⟨x629, ih627, hk, hs, hw, hle628⟩ := (hJ632 _ _).1 hh
      refine wp_ret ?_
      obtain rfl := someE hk
      refine hQ _ _ (f_ret1 hs rfl (v := .bool x629) (by kernel_rfl) ⟨ih627, rfl, hw.pick [0] (by kernel_rfl), hle628⟩)
  · refine c_cond0 hs (by kernel_rfl) (t := (!y610)) (by kernel_rfl) h612 ?_
    refine wp_skip ?_
    refine c_seq ?_
    refine c_region ?_
    refine pures hs 3 [1, 3, 4, 5] [(1, .pointer (some ⟨b606, 0, none⟩)), (3, .int .i64 0), (4, .int .i64 0), (5, .int .i64 0)] (by kernel_rfl) fun a hs => ?_
    refine s_end ?_
    refine c_seq ?_
    refine c_seq ?_
    refine c_region ?_
    refine pures hs 1 [1, 3, 4, 5, 6] [(1, .pointer (some ⟨b606, 0, none⟩)), (3, .int .i64 0), (4, .int .i64 0), (5, .int .i64 0), (6, .int .i64 1)] (by kernel_rfl) fun a hs => ?_
    refine s_end ?_
    refine c_block ?_
    obtain ⟨y1103, hx1104, hk⟩ := bindE hk
    obtain ⟨J1105, hJ1105⟩ : ∃ J : Act → World → Prop, ∀ a w, J a w ↔ (∃ (x927 : Int) (x928 : Int) (x929 : Int), catenarylaw19_RoleChain_r47 k x1 x927 x928 x929 = some r ∧ Sees a 143 [(1, .pointer (some ⟨b606, 0, none⟩)), (3, .int .i64 x927), (4, .int .i64 x928), (5, .int .i64 x929)] ∧ St g w [bx b606 [.int .i64 x1.f0, .int .u64 x1.f1, .slice p2 x1.f2.length c3, .bool x1.f3, .int .i64 x1.f4] 53, F] ih) := ⟨_, fun _ _ => Iff.rfl⟩
    obtain ⟨I1106, hI1106⟩ : ∃ J : Nat → Act → World → Prop, ∀ j a w, J j a w ↔ (∃ (x830 : Int) (x831 : Int) (x832 : Int) (x833 : Int), catenarylaw19_RoleChain_l48 k x1 j x830 x831 x832 x833 = some y1103 ∧ Sees a 143 [(1, .pointer (some ⟨b606, 0, none⟩)), (3, .int .i64 x830), (4, .int .i64 x831), (5, .int .i64 x832), (6, .int .i64 x833)] ∧ St g w [bx b606 [.int .i64 x1.f0, .int .u64 x1.f1, .slice p2 x1.f2.length c3, .bool x1.f3, .int .i64 x1.f4] 53, F] ih) := ⟨_, fun _ _ _ => Iff.rfl⟩
    refine c_exitJ 0 J1105 ?_ ?_
    · refine c_loop I1106 k ((hI1106 _ _ _).2 ⟨0, 0, 0, 1, hx1104, hs.cast [1, 3, 4, 5, 6] (by kernel_rfl), hw.pick [0, 1] (by kernel_rfl)⟩) (fun a w h0 => ?_) fun j a w hh => ?_
      · obtain ⟨_, _, _, _, h, _⟩ := (hI1106 _ _ _).1 h0
        cases h
      · obtain ⟨x830, x831, x832, x833, hx1104, hs, hw⟩ := (hI1106 _ _ _).1 hh
        refine c_seq ?_
        refine c_seq ?_
        refine c_region ?_
        refine pures hs 2 [1, 3, 4, 5, 6, 21] [(1, .pointer (some ⟨b606, 0, none⟩)), (3, .int .i64 x830), (4, .int .i64 x831), (5, .int .i64 x832), (6, .int .i64 x833), (21, .bool (decide (x833 ≤ 24)))] (by kernel_rfl) fun a hs => ?_
        refine s_end ?_
        rcases ifbE hx1104 with ⟨h1107, hx1104⟩ | ⟨h1107, hx1104⟩
        · refine c_cond1 hs (by kernel_rfl) (t := (decide (x833 ≤ 24))) (by kernel_rfl) h1107 ?_
          refine wp_skip ?_
          refine c_seq ?_
          refine c_block ?_
          refine c_seq ?_
          refine c_region ?_
          refine s_load hs (hw.at_ 0 rfl) 0 (by kernel_rfl) (by kernel_rfl) (v := .agg #[.int .i64 x1.f0, .int .u64 x1.f1, .slice p2 x1.f2.length c3, .bool x1.f3, .int .i64 x1.f4]) (by kernel_rfl) fun a hs => ?_
          refine pures hs 1 [1, 3, 4, 5, 6, 24, 25] [(1, .pointer (some ⟨b606, 0, none⟩)), (3, .int .i64 x830), (4, .int .i64 x831), (5, .int .i64 x832), (6, .int .i64 x833), (24, .agg #[.int .i64 x1.f0, .int .u64 x1.f1, .slice p2 x1.f2.length c3, .bool x1.f3, .int .i64 x1.f4]), (25, .int .i64 x833)] (by kernel_rfl) fun a hs => ?_
          obtain ⟨y1112, h1113, hx1104⟩ := bindE hx1104
          refine s_call hs (by kernel_rfl) (by kernel_rfl) (role_Of_s h1113 h4 ((hw.pick [0, 1] (by kernel_rfl)).pack 0)) fun a w v hv hs => ?_
          obtain ⟨rfl, hw⟩ := hv
          replace hw := hw.unpack 0 rfl
          refine s_new hs hw [.bool false, .bool false, .bool false, .bool false, .bool false, .int .i64 0, .int .i64 0, .int .i64 0] 56 (fun b => .pointer (some ⟨b, 0, none⟩)) (by kernel_rfl) (fun _ => by kernel_rfl) fun a w b1114 hs hw => ?_
          refine s_store hs hw 0 rfl 0 (by kernel_rfl) (by kernel_rfl) (v := .agg #[.bool y1112.f0, .bool y1112.f1, .bool y1112.f2, .bool y1112.f3, .bool y1112.f4, .int .i64 y1112.f5, .int .i64 y1112.f6, .int .i64 y1112.f7]) (by kernel_rfl) (by kernel_rfl) (by kernel_rfl) (by kernel_rfl) fun a w hs hw => ?_
          refine s_end ?_
          obtain ⟨y1195, hx1196, hx1104⟩ := bindE hx1104
          obtain ⟨J1197, hJ1197⟩ : ∃ J : Act → World → Prop, ∀ a w, J a w ↔ (∃ (x1117 : Int), catenarylaw19_RoleChain_r52 k (catenarylaw19_RoleChain_l48 k x1 j) y1112 x831 x832 x1 x833 x1117 = some y1103 ∧ Sees a 143 [(1, .pointer (some ⟨b606, 0, none⟩)), (3, .int .i64 x1117), (4, .int .i64 x831), (5, .int .i64 x832), (6, .int .i64 x833), (7, .pointer (some ⟨b1114, 0, none⟩))] ∧ St g w [bx b1114 [.bool y1112.f0, .bool y1112.f1, .bool y1112.f2, .bool y1112.f3, .bool y1112.f4, .int .i64 y1112.f5, .int .i64 y1112.f6, .int .i64 y1112.f7] 56, bx b606 [.int .i64 x1.f0, .int .u64 x1.f1, .slice p2 x1.f2.length c3, .bool x1.f3, .int .i64 x1.f4] 53, F] ih) := ⟨_, fun _ _ => Iff.rfl⟩
          refine c_seqJ J1197 ?_ ?_
          · refine c_seq ?_
            refine c_region ?_
            refine pures hs 1 [1, 3, 4, 5, 6, 7, 27] [(1, .pointer (some ⟨b606, 0, none⟩)), (3, .int .i64 x830), (4, .int .i64 x831), (5, .int .i64 x832), (6, .int .i64 x833), (7, .pointer (some ⟨b1114, 0, none⟩)), (27, .pointer (some ⟨b1114, 2, none⟩))] (by kernel_rfl) fun a hs => ?_
            refine s_load hs (hw.at_ 0 rfl) 2 (by kernel_rfl) (by kernel_rfl) (v := .bool y1112.f2) (by kernel_rfl) fun a hs => ?_
            refine s_end ?_
            rcases ifbE hx1196 with ⟨h1198, hx1196⟩ | ⟨h1198, hx1196⟩
            · refine c_cond1 hs (by kernel_rfl) (t := y1112.f2) (by kernel_rfl) h1198 ?_
              refine c_region ?_
              refine pures hs 3 [1, 3, 4, 5, 6, 7] [(1, .pointer (some ⟨b606, 0, none⟩)), (3, .int .i64 (IntKind.i64.wrap (x830 + 1))), (4, .int .i64 x831), (5, .int .i64 x832), (6, .int .i64 x833), (7, .pointer (some ⟨b1114, 0, none⟩))] (by kernel_rfl) fun a hs => ?_
              refine s_end ?_
              obtain rfl := someE hx1196
              exact (hJ1197 _ _).2 ⟨(IntKind.i64.wrap (x830 + 1)), hx1104, hs.cast [1, 3, 4, 5, 6, 7] (by kernel_rfl), hw.pick [0, 1, 2] (by kernel_rfl)⟩
            · refine c_cond0 hs (by kernel_rfl) (t := y1112.f2) (by kernel_rfl) h1198 ?_
              refine wp_skip ?_
              obtain rfl := someE hx1196
              exact (hJ1197 _ _).2 ⟨x830, hx1104, hs.cast [1, 3, 4, 5, 6, 7] (by kernel_rfl), hw.pick [0, 1, 2] (by kernel_rfl)⟩
          · intro a w hh
            obtain ⟨x1117, hx1104, hs, hw⟩ := (hJ1197 _ _).1 hh
            obtain ⟨y1190, hx1191, hx1104⟩ := bindE hx1104
            obtain ⟨J1192, hJ1192⟩ : ∃ J : Act → World → Prop, ∀ a w, J a w ↔ (∃ (x1119 : Int), catenarylaw19_RoleChain_r51 k (catenarylaw19_RoleChain_l48 k x1 j) y1112 x832 x1 x833 x1117 x1119 = some y1103 ∧ Sees a 143 [(1, .pointer (some ⟨b606, 0, none⟩)), (3, .int .i64 x1117), (4, .int .i64 x1119), (5, .int .i64 x832), (6, .int .i64 x833), (7, .pointer (some ⟨b1114, 0, none⟩))] ∧ St g w [bx b1114 [.bool y1112.f0, .bool y1112.f1, .bool y1112.f2, .bool y1112.f3, .bool y1112.f4, .int .i64 y1112.f5, .int .i64 y1112.f6, .int .i64 y1112.f7] 56, bx b606 [.int .i64 x1.f0, .int .u64 x1.f1, .slice p2 x1.f2.length c3, .bool x1.f3, .int .i64 x1.f4] 53, F] ih) := ⟨_, fun _ _ => Iff.rfl⟩
            refine c_seqJ J1192 ?_ ?_
            · refine c_seq ?_
              refine c_region ?_
              refine pures hs 1 [1, 3, 4, 5, 6, 7, 31] [(1, .pointer (some ⟨b606, 0, none⟩)), (3, .int .i64 x1117), (4, .int .i64 x831), (5, .int .i64 x832), (6, .int .i64 x833), (7, .pointer (some ⟨b1114, 0, none⟩)), (31, .pointer (some ⟨b1114, 3, none⟩))] (by kernel_rfl) fun a hs => ?_
              refine s_load hs (hw.at_ 0 rfl) 3 (by kernel_rfl) (by kernel_rfl) (v := .bool y1112.f3) (by kernel_rfl) fun a hs => ?_
              refine s_end ?_
              rcases ifbE hx1191 with ⟨h1193, hx1191⟩ | ⟨h1193, hx1191⟩
              · refine c_cond1 hs (by kernel_rfl) (t := y1112.f3) (by kernel_rfl) h1193 ?_
                refine c_region ?_
                refine pures hs 3 [1, 3, 4, 5, 6, 7] [(1, .pointer (some ⟨b606, 0, none⟩)), (3, .int .i64 x1117), (4, .int .i64 (IntKind.i64.wrap (x831 + 1))), (5, .int .i64 x832), (6, .int .i64 x833), (7, .pointer (some ⟨b1114, 0, none⟩))] (by kernel_rfl) fun a hs => ?_
                refine s_end ?_
                obtain rfl := someE hx1191
                exact (hJ1192 _ _).2 ⟨(IntKind.i64.wrap (x831 + 1)), hx1104, hs.cast [1, 3, 4, 5, 6, 7] (by kernel_rfl), hw.pick [0, 1, 2] (by kernel_rfl)⟩
              · refine c_cond0 hs (by kernel_rfl) (t := y1112.f3) (by kernel_rfl) h1193 ?_
                refine wp_skip ?_
                obtain rfl := someE hx1191
                exact (hJ1192 _ _).2 ⟨x831, hx1104, hs.cast [1, 3, 4, 5, 6, 7] (by kernel_rfl), hw.pick [0, 1, 2] (by kernel_rfl)⟩
            · intro a w hh
              obtain ⟨x1119, hx1104, hs, hw⟩ := (hJ1192 _ _).1 hh
              obtain ⟨y1185, hx1186, hx1104⟩ := bindE hx1104
              obtain ⟨J1187, hJ1187⟩ : ∃ J : Act → World → Prop, ∀ a w, J a w ↔ (∃ (x1121 : Int), catenarylaw19_RoleChain_r50 k (catenarylaw19_RoleChain_l48 k x1 j) y1112 x1 x833 x1117 x1119 x1121 = some y1103 ∧ Sees a 143 [(1, .pointer (some ⟨b606, 0, none⟩)), (3, .int .i64 x1117), (4, .int .i64 x1119), (5, .int .i64 x1121), (6, .int .i64 x833), (7, .pointer (some ⟨b1114, 0, none⟩))] ∧ St g w [bx b1114 [.bool y1112.f0, .bool y1112.f1, .bool y1112.f2, .bool y1112.f3, .bool y1112.f4, .int .i64 y1112.f5, .int .i64 y1112.f6, .int .i64 y1112.f7] 56, bx b606 [.int .i64 x1.f0, .int .u64 x1.f1, .slice p2 x1.f2.length c3, .bool x1.f3, .int .i64 x1.f4] 53, F] ih) := ⟨_, fun _ _ => Iff.rfl⟩
              refine c_seqJ J1187 ?_ ?_
              · refine c_seq ?_
                refine c_region ?_
                refine pures hs 1 [1, 3, 4, 5, 6, 7, 35] [(1, .pointer (some ⟨b606, 0, none⟩)), (3, .int .i64 x1117), (4, .int .i64 x1119), (5, .int .i64 x832), (6, .int .i64 x833), (7, .pointer (some ⟨b1114, 0, none⟩)), (35, .pointer (some ⟨b1114, 0, none⟩))] (by kernel_rfl) fun a hs => ?_
                refine s_load hs (hw.at_ 0 rfl) 0 (by kernel_rfl) (by kernel_rfl) (v := .bool y1112.f0) (by kernel_rfl) fun a hs => ?_
                refine s_end ?_
                rcases ifbE hx1186 with ⟨h1188, hx1186⟩ | ⟨h1188, hx1186⟩
                · refine c_cond1 hs (by kernel_rfl) (t := y1112.f0) (by kernel_rfl) h1188 ?_
                  refine c_region ?_
                  refine pures hs 3 [1, 3, 4, 5, 6, 7] [(1, .pointer (some ⟨b606, 0, none⟩)), (3, .int .i64 x1117), (4, .int .i64 x1119), (5, .int .i64 (IntKind.i64.wrap (x832 + 1))), (6, .int .i64 x833), (7, .pointer (some ⟨b1114, 0, none⟩))] (by kernel_rfl) fun a hs => ?_
                  refine s_end ?_
                  obtain rfl := someE hx1186
                  exact (hJ1187 _ _).2 ⟨(IntKind.i64.wrap (x832 + 1)), hx1104, hs.cast [1, 3, 4, 5, 6, 7] (by kernel_rfl), hw.pick [0, 1, 2] (by kernel_rfl)⟩
                · refine c_cond0 hs (by kernel_rfl) (t := y1112.f0) (by kernel_rfl) h1188 ?_
                  refine wp_skip ?_
                  obtain rfl := someE hx1186
                  exact (hJ1187 _ _).2 ⟨x832, hx1104, hs.cast [1, 3, 4, 5, 6, 7] (by kernel_rfl), hw.pick [0, 1, 2] (by kernel_rfl)⟩
              · intro a w hh
                obtain ⟨x1121, hx1104, hs, hw⟩ := (hJ1187 _ _).1 hh
                refine c_seq ?_
                refine c_seq ?_
                obtain ⟨y1165, hx1166, hx1104⟩ := bindE hx1104
                obtain ⟨J1167, hJ1167⟩ : ∃ J : Act → World → Prop, ∀ a w, J a w ↔ (∃ (x1154 : Bool), catenarylaw19_RoleChain_r49 (catenarylaw19_RoleChain_l48 k x1 j) y1112 x1 x1117 x1119 x1121 x833 x1154 = some y1103 ∧ Sees a 143 [(1, .pointer (some ⟨b606, 0, none⟩)), (3, .int .i64 x1117), (4, .int .i64 x1119), (5, .int .i64 x1121), (6, .int .i64 x833), (7, .pointer (some ⟨b1114, 0, none⟩)), (72, .bool x1154)] ∧ St g w [bx b1114 [.bool y1112.f0, .bool y1112.f1, .bool y1112.f2, .bool y1112.f3, .bool y1112.f4, .int .i64 y1112.f5, .int .i64 y1112.f6, .int .i64 y1112.f7] 56, bx b606 [.int .i64 x1.f0, .int .u64 x1.f1, .slice p2 x1.f2.length c3, .bool x1.f3, .int .i64 x1.f4] 53, F] ih) := ⟨_, fun _ _ => Iff.rfl⟩
                refine c_regJ J1167 ?_ ?_
                · refine pures hs 1 [1, 3, 4, 5, 6, 7, 39] [(1, .pointer (some ⟨b606, 0, none⟩)), (3, .int .i64 x1117), (4, .int .i64 x1119), (5, .int .i64 x1121), (6, .int .i64 x833), (7, .pointer (some ⟨b1114, 0, none⟩)), (39, .pointer (some ⟨b1114, 6, none⟩))] (by kernel_rfl) fun a hs => ?_
                  refine s_load hs (hw.at_ 0 rfl) 6 (by kernel_rfl) (by kernel_rfl) (v := .int .i64 y1112.f6) (by kernel_rfl) fun a hs => ?_
                  refine pures hs 2 [1, 3, 4, 5, 6, 7, 42] [(1, .pointer (some ⟨b606, 0, none⟩)), (3, .int .i64 x1117), (4, .int .i64 x1119), (5, .int .i64 x1121), (6, .int .i64 x833), (7, .pointer (some ⟨b1114, 0, none⟩)), (42, .bool (y1112.f6 != 0))] (by kernel_rfl) fun a hs => ?_
                  rcases ifbE hx1166 with ⟨h1168, hx1166⟩ | ⟨h1168, hx1166⟩
                  · replace hs := hs.altB 42 true (by kernel_rfl) h1168
                    refine s_load hs (hw.at_ 1 rfl) 0 (by kernel_rfl) (by kernel_rfl) (v := .agg #[.int .i64 x1.f0, .int .u64 x1.f1, .slice p2 x1.f2.length c3, .bool x1.f3, .int .i64 x1.f4]) (by kernel_rfl) fun a hs => ?_
                    refine pures hs 1 [1, 3, 4, 5, 6, 7, 42, 43, 44] [(1, .pointer (some ⟨b606, 0, none⟩)), (3, .int .i64 x1117), (4, .int .i64 x1119), (5, .int .i64 x1121), (6, .int .i64 x833), (7, .pointer (some ⟨b1114, 0, none⟩)), (42, .bool true), (43, .agg #[.int .i64 x1.f0, .int .u64 x1.f1, .slice p2 x1.f2.length c3, .bool x1.f3, .int .i64 x1.f4]), (44, .pointer (some ⟨b1114, 6, none⟩))] (by kernel_rfl) fun a hs => ?_
                    refine s_load hs (hw.at_ 0 rfl) 6 (by kernel_rfl) (by kernel_rfl) (v := .int .i64 y1112.f6) (by kernel_rfl) fun a hs => ?_
                    obtain ⟨y1169, h1170, hx1166⟩ := bindE hx1166
                    refine s_call hs (by kernel_rfl) (by kernel_rfl) (role_Of_s h1170 h4 ((hw.pick [0, 1, 2] (by kernel_rfl)).pack 0)) fun a w v hv hs => ?_
                    obtain ⟨rfl, hw⟩ := hv
                    replace hw := hw.unpack 0 rfl
                    refine pures hs 5 [1, 3, 4, 5, 6, 7, 51] [(1, .pointer (some ⟨b606, 0, none⟩)), (3, .int .i64 x1117), (4, .int .i64 x1119), (5, .int .i64 x1121), (6, .int .i64 x833), (7, .pointer (some ⟨b1114, 0, none⟩)), (51, .bool (y1169.f7 != x833))] (by kernel_rfl) fun a hs => ?_
                    rcases ifbE hx1166 with ⟨h1171, hx1166⟩ | ⟨h1171, hx1166⟩
                    · replace hs := hs.altB 51 true (by kernel_rfl) h1171
                      refine pures hs 21 [1, 3, 4, 5, 6, 7, 72] [(1, .pointer (some ⟨b606, 0, none⟩)), (3, .int .i64 x1117), (4, .int .i64 x1119), (5, .int .i64 x1121), (6, .int .i64 x833), (7, .pointer (some ⟨b1114, 0, none⟩)), (72, .bool true)] (by kernel_rfl) fun a hs => ?_
                      refine s_end ?_
                      obtain rfl := someE hx1166
                      exact (hJ1167 _ _).2 ⟨true, hx1104, hs.cast [1, 3, 4, 5, 6, 7, 72] (by kernel_rfl), hw.pick [0, 1, 2] (by kernel_rfl)⟩
                    · replace hs := hs.altB 51 false (by kernel_rfl) h1171
                      refine pures hs 1 [1, 3, 4, 5, 6, 7, 51, 52] [(1, .pointer (some ⟨b606, 0, none⟩)), (3, .int .i64 x1117), (4, .int .i64 x1119), (5, .int .i64 x1121), (6, .int .i64 x833), (7, .pointer (some ⟨b1114, 0, none⟩)), (51, .bool false), (52, .pointer (some ⟨b1114, 7, none⟩))] (by kernel_rfl) fun a hs => ?_
                      refine s_load hs (hw.at_ 0 rfl) 7 (by kernel_rfl) (by kernel_rfl) (v := .int .i64 y1112.f7) (by kernel_rfl) fun a hs => ?_
                      refine pures hs 2 [1, 3, 4, 5, 6, 7, 51, 55] [(1, .pointer (some ⟨b606, 0, none⟩)), (3, .int .i64 x1117), (4, .int .i64 x1119), (5, .int .i64 x1121), (6, .int .i64 x833), (7, .pointer (some ⟨b1114, 0, none⟩)), (51, .bool false), (55, .bool (y1112.f7 != 0))] (by kernel_rfl) fun a hs => ?_
                      rcases ifbE hx1166 with ⟨h1172, hx1166⟩ | ⟨h1172, hx1166⟩
                      · replace hs := hs.altB 55 true (by kernel_rfl) h1172
                        refine s_load hs (hw.at_ 1 rfl) 0 (by kernel_rfl) (by kernel_rfl) (v := .agg #[.int .i64 x1.f0, .int .u64 x1.f1, .slice p2 x1.f2.length c3, .bool x1.f3, .int .i64 x1.f4]) (by kernel_rfl) fun a hs => ?_
                        refine pures hs 1 [1, 3, 4, 5, 6, 7, 51, 55, 56, 57] [(1, .pointer (some ⟨b606, 0, none⟩)), (3, .int .i64 x1117), (4, .int .i64 x1119), (5, .int .i64 x1121), (6, .int .i64 x833), (7, .pointer (some ⟨b1114, 0, none⟩)), (51, .bool false), (55, .bool true), (56, .agg #[.int .i64 x1.f0, .int .u64 x1.f1, .slice p2 x1.f2.length c3, .bool x1.f3, .int .i64 x1.f4]), (57, .pointer (some ⟨b1114, 7, none⟩))] (by kernel_rfl) fun a hs => ?_
                        refine s_load hs (hw.at_ 0 rfl) 7 (by kernel_rfl) (by kernel_rfl) (v := .int .i64 y1112.f7) (by kernel_rfl) fun a hs => ?_
                        obtain ⟨y1173, h1174, hx1166⟩ := bindE hx1166
                        refine s_call hs (by kernel_rfl) (by kernel_rfl) (role_Of_s h1174 h4 ((hw.pick [0, 1, 2] (by kernel_rfl)).pack 0)) fun a w v hv hs => ?_
                        obtain ⟨rfl, hw⟩ := hv
                        replace hw := hw.unpack 0 rfl
                        refine pures hs 6 [1, 3, 4, 5, 6, 7, 65] [(1, .pointer (some ⟨b606, 0, none⟩)), (3, .int .i64 x1117), (4, .int .i64 x1119), (5, .int .i64 x1121), (6, .int .i64 x833), (7, .pointer (some ⟨b1114, 0, none⟩)), (65, .bool (y1173.f6 != x833))] (by kernel_rfl) fun a hs => ?_
                        rcases ifbE hx1166 with ⟨h1175, hx1166⟩ | ⟨h1175, hx1166⟩
                        · replace hs := hs.altB 65 true (by kernel_rfl) h1175
                          refine pures hs 7 [1, 3, 4, 5, 6, 7, 72] [(1, .pointer (some ⟨b606, 0, none⟩)), (3, .int .i64 x1117), (4, .int .i64 x1119), (5, .int .i64 x1121), (6, .int .i64 x833), (7, .pointer (some ⟨b1114, 0, none⟩)), (72, .bool true)] (by kernel_rfl) fun a hs => ?_
                          refine s_end ?_
                          obtain rfl := someE hx1166
                          exact (hJ1167 _ _).2 ⟨true, hx1104, hs.cast [1, 3, 4, 5, 6, 7, 72] (by kernel_rfl), hw.pick [0, 1, 2] (by kernel_rfl)⟩
                        · replace hs := hs.altB 65 false (by kernel_rfl) h1175
                          refine pures hs 1 [1, 3, 4, 5, 6, 7, 65, 66] [(1, .pointer (some ⟨b606, 0, none⟩)), (3, .int .i64 x1117), (4, .int .i64 x1119), (5, .int .i64 x1121), (6, .int .i64 x833), (7, .pointer (some ⟨b1114, 0, none⟩)), (65, .bool false), (66, .pointer (some ⟨b1114, 1, none⟩))] (by kernel_rfl) fun a hs => ?_
                          refine s_load hs (hw.at_ 0 rfl) 1 (by kernel_rfl) (by kernel_rfl) (v := .bool y1112.f1) (by kernel_rfl) fun a hs => ?_
                          refine pures hs 1 [1, 3, 4, 5, 6, 7, 65, 68] [(1, .pointer (some ⟨b606, 0, none⟩)), (3, .int .i64 x1117), (4, .int .i64 x1119), (5, .int .i64 x1121), (6, .int .i64 x833), (7, .pointer (some ⟨b1114, 0, none⟩)), (65, .bool false), (68, .bool y1112.f1)] (by kernel_rfl) fun a hs => ?_
                          rcases ifbE hx1166 with ⟨h1176, hx1166⟩ | ⟨h1176, hx1166⟩
                          · replace hs := hs.altB 68 true (by kernel_rfl) h1176
                            refine pures hs 1 [1, 3, 4, 5, 6, 7, 65, 68, 69] [(1, .pointer (some ⟨b606, 0, none⟩)), (3, .int .i64 x1117), (4, .int .i64 x1119), (5, .int .i64 x1121), (6, .int .i64 x833), (7, .pointer (some ⟨b1114, 0, none⟩)), (65, .bool false), (68, .bool true), (69, .pointer (some ⟨b1114, 0, none⟩))] (by kernel_rfl) fun a hs => ?_
                            refine s_load hs (hw.at_ 0 rfl) 0 (by kernel_rfl) (by kernel_rfl) (v := .bool y1112.f0) (by kernel_rfl) fun a hs => ?_
                            refine pures hs 2 [1, 3, 4, 5, 6, 7, 72] [(1, .pointer (some ⟨b606, 0, none⟩)), (3, .int .i64 x1117), (4, .int .i64 x1119), (5, .int .i64 x1121), (6, .int .i64 x833), (7, .pointer (some ⟨b1114, 0, none⟩)), (72, .bool y1112.f0)] (by kernel_rfl) fun a hs => ?_
                            refine s_end ?_
                            obtain rfl := someE hx1166
                            exact (hJ1167 _ _).2 ⟨y1112.f0, hx1104, hs.cast [1, 3, 4, 5, 6, 7, 72] (by kernel_rfl), hw.pick [0, 1, 2] (by kernel_rfl)⟩
                          · replace hs := hs.altB 68 false (by kernel_rfl) h1176
                            refine pures hs 4 [1, 3, 4, 5, 6, 7, 72] [(1, .pointer (some ⟨b606, 0, none⟩)), (3, .int .i64 x1117), (4, .int .i64 x1119), (5, .int .i64 x1121), (6, .int .i64 x833), (7, .pointer (some ⟨b1114, 0, none⟩)), (72, .bool false)] (by kernel_rfl) fun a hs => ?_
                            refine s_end ?_
                            obtain rfl := someE hx1166
                            exact (hJ1167 _ _).2 ⟨false, hx1104, hs.cast [1, 3, 4, 5, 6, 7, 72] (by kernel_rfl), hw.pick [0, 1, 2] (by kernel_rfl)⟩
                      · replace hs := hs.altB 55 false (by kernel_rfl) h1172
                        refine pures hs 11 [1, 3, 4, 5, 6, 7, 65, 66] [(1, .pointer (some ⟨b606, 0, none⟩)), (3, .int .i64 x1117), (4, .int .i64 x1119), (5, .int .i64 x1121), (6, .int .i64 x833), (7, .pointer (some ⟨b1114, 0, none⟩)), (65, .bool false), (66, .pointer (some ⟨b1114, 1, none⟩))] (by kernel_rfl) fun a hs => ?_
                        refine s_load hs (hw.at_ 0 rfl) 1 (by kernel_rfl) (by kernel_rfl) (v := .bool y1112.f1) (by kernel_rfl) fun a hs => ?_
                        refine pures hs 1 [1, 3, 4, 5, 6, 7, 65, 68] [(1, .pointer (some ⟨b606, 0, none⟩)), (3, .int .i64 x1117), (4, .int .i64 x1119), (5, .int .i64 x1121), (6, .int .i64 x833), (7, .pointer (some ⟨b1114, 0, none⟩)), (65, .bool false), (68, .bool y1112.f1)] (by kernel_rfl) fun a hs => ?_
                        rcases ifbE hx1166 with ⟨h1177, hx1166⟩ | ⟨h1177, hx1166⟩
                        · replace hs := hs.altB 68 true (by kernel_rfl) h1177
                          refine pures hs 1 [1, 3, 4, 5, 6, 7, 65, 68, 69] [(1, .pointer (some ⟨b606, 0, none⟩)), (3, .int .i64 x1117), (4, .int .i64 x1119), (5, .int .i64 x1121), (6, .int .i64 x833), (7, .pointer (some ⟨b1114, 0, none⟩)), (65, .bool false), (68, .bool true), (69, .pointer (some ⟨b1114, 0, none⟩))] (by kernel_rfl) fun a hs => ?_
                          refine s_load hs (hw.at_ 0 rfl) 0 (by kernel_rfl) (by kernel_rfl) (v := .bool y1112.f0) (by kernel_rfl) fun a hs => ?_
                          refine pures hs 2 [1, 3, 4, 5, 6, 7, 72] [(1, .pointer (some ⟨b606, 0, none⟩)), (3, .int .i64 x1117), (4, .int .i64 x1119), (5, .int .i64 x1121), (6, .int .i64 x833), (7, .pointer (some ⟨b1114, 0, none⟩)), (72, .bool y1112.f0)] (by kernel_rfl) fun a hs => ?_
                          refine s_end ?_
                          obtain rfl := someE hx1166
                          exact (hJ1167 _ _).2 ⟨y1112.f0, hx1104, hs.cast [1, 3, 4, 5, 6, 7, 72] (by kernel_rfl), hw.pick [0, 1, 2] (by kernel_rfl)⟩
                        · replace hs := hs.altB 68 false (by kernel_rfl) h1177
                          refine pures hs 4 [1, 3, 4, 5, 6, 7, 72] [(1, .pointer (some ⟨b606, 0, none⟩)), (3, .int .i64 x1117), (4, .int .i64 x1119), (5, .int .i64 x1121), (6, .int .i64 x833), (7, .pointer (some ⟨b1114, 0, none⟩)), (72, .bool false)] (by kernel_rfl) fun a hs => ?_
                          refine s_end ?_
                          obtain rfl := someE hx1166
                          exact (hJ1167 _ _).2 ⟨false, hx1104, hs.cast [1, 3, 4, 5, 6, 7, 72] (by kernel_rfl), hw.pick [0, 1, 2] (by kernel_rfl)⟩
                  · replace hs := hs.altB 42 false (by kernel_rfl) h1168
                    refine pures hs 10 [1, 3, 4, 5, 6, 7, 51, 52] [(1, .pointer (some ⟨b606, 0, none⟩)), (3, .int .i64 x1117), (4, .int .i64 x1119), (5, .int .i64 x1121), (6, .int .i64 x833), (7, .pointer (some ⟨b1114, 0, none⟩)), (51, .bool false), (52, .pointer (some ⟨b1114, 7, none⟩))] (by kernel_rfl) fun a hs => ?_
                    refine s_load hs (hw.at_ 0 rfl) 7 (by kernel_rfl) (by kernel_rfl) (v := .int .i64 y1112.f7) (by kernel_rfl) fun a hs => ?_
                    refine pures hs 2 [1, 3, 4, 5, 6, 7, 51, 55] [(1, .pointer (some ⟨b606, 0, none⟩)), (3, .int .i64 x1117), (4, .int .i64 x1119), (5, .int .i64 x1121), (6, .int .i64 x833), (7, .pointer (some ⟨b1114, 0, none⟩)), (51, .bool false), (55, .bool (y1112.f7 != 0))] (by kernel_rfl) fun a hs => ?_
                    rcases ifbE hx1166 with ⟨h1178, hx1166⟩ | ⟨h1178, hx1166⟩
                    · replace hs := hs.altB 55 true (by kernel_rfl) h1178
                      refine s_load hs (hw.at_ 1 rfl) 0 (by kernel_rfl) (by kernel_rfl) (v := .agg #[.int .i64 x1.f0, .int .u64 x1.f1, .slice p2 x1.f2.length c3, .bool x1.f3, .int .i64 x1.f4]) (by kernel_rfl) fun a hs => ?_
                      refine pures hs 1 [1, 3, 4, 5, 6, 7, 51, 55, 56, 57] [(1, .pointer (some ⟨b606, 0, none⟩)), (3, .int .i64 x1117), (4, .int .i64 x1119), (5, .int .i64 x1121), (6, .int .i64 x833), (7, .pointer (some ⟨b1114, 0, none⟩)), (51, .bool false), (55, .bool true), (56, .agg #[.int .i64 x1.f0, .int .u64 x1.f1, .slice p2 x1.f2.length c3, .bool x1.f3, .int .i64 x1.f4]), (57, .pointer (some ⟨b1114, 7, none⟩))] (by kernel_rfl) fun a hs => ?_
                      refine s_load hs (hw.at_ 0 rfl) 7 (by kernel_rfl) (by kernel_rfl) (v := .int .i64 y1112.f7) (by kernel_rfl) fun a hs => ?_
                      obtain ⟨y1179, h1180, hx1166⟩ := bindE hx1166
                      refine s_call hs (by kernel_rfl) (by kernel_rfl) (role_Of_s h1180 h4 ((hw.pick [0, 1, 2] (by kernel_rfl)).pack 0)) fun a w v hv hs => ?_
                      obtain ⟨rfl, hw⟩ := hv
                      replace hw := hw.unpack 0 rfl
                      refine pures hs 6 [1, 3, 4, 5, 6, 7, 65] [(1, .pointer (some ⟨b606, 0, none⟩)), (3, .int .i64 x1117), (4, .int .i64 x1119), (5, .int .i64 x1121), (6, .int .i64 x833), (7, .pointer (some ⟨b1114, 0, none⟩)), (65, .bool (y1179.f6 != x833))] (by kernel_rfl) fun a hs => ?_
                      rcases ifbE hx1166 with ⟨h1181, hx1166⟩ | ⟨h1181, hx1166⟩
                      · replace hs := hs.altB 65 true (by kernel_rfl) h1181
                        refine pures hs 7 [1, 3, 4, 5, 6, 7, 72] [(1, .pointer (some ⟨b606, 0, none⟩)), (3, .int .i64 x1117), (4, .int .i64 x1119), (5, .int .i64 x1121), (6, .int .i64 x833), (7, .pointer (some ⟨b1114, 0, none⟩)), (72, .bool true)] (by kernel_rfl) fun a hs => ?_
                        refine s_end ?_
                        obtain rfl := someE hx1166
                        exact (hJ1167 _ _).2 ⟨true, hx1104, hs.cast [1, 3, 4, 5, 6, 7, 72] (by kernel_rfl), hw.pick [0, 1, 2] (by kernel_rfl)⟩
                      · replace hs := hs.altB 65 false (by kernel_rfl) h1181
                        refine pures hs 1 [1, 3, 4, 5, 6, 7, 65, 66] [(1, .pointer (some ⟨b606, 0, none⟩)), (3, .int .i64 x1117), (4, .int .i64 x1119), (5, .int .i64 x1121), (6, .int .i64 x833), (7, .pointer (some ⟨b1114, 0, none⟩)), (65, .bool false), (66, .pointer (some ⟨b1114, 1, none⟩))] (by kernel_rfl) fun a hs => ?_
                        refine s_load hs (hw.at_ 0 rfl) 1 (by kernel_rfl) (by kernel_rfl) (v := .bool y1112.f1) (by kernel_rfl) fun a hs => ?_
                        refine pures hs 1 [1, 3, 4, 5, 6, 7, 65, 68] [(1, .pointer (some ⟨b606, 0, none⟩)), (3, .int .i64 x1117), (4, .int .i64 x1119), (5, .int .i64 x1121), (6, .int .i64 x833), (7, .pointer (some ⟨b1114, 0, none⟩)), (65, .bool false), (68, .bool y1112.f1)] (by kernel_rfl) fun a hs => ?_
                        rcases ifbE hx1166 with ⟨h1182, hx1166⟩ | ⟨h1182, hx1166⟩
                        · replace hs := hs.altB 68 true (by kernel_rfl) h1182
                          refine pures hs 1 [1, 3, 4, 5, 6, 7, 65, 68, 69] [(1, .pointer (some ⟨b606, 0, none⟩)), (3, .int .i64 x1117), (4, .int .i64 x1119), (5, .int .i64 x1121), (6, .int .i64 x833), (7, .pointer (some ⟨b1114, 0, none⟩)), (65, .bool false), (68, .bool true), (69, .pointer (some ⟨b1114, 0, none⟩))] (by kernel_rfl) fun a hs => ?_
                          refine s_load hs (hw.at_ 0 rfl) 0 (by kernel_rfl) (by kernel_rfl) (v := .bool y1112.f0) (by kernel_rfl) fun a hs => ?_
                          refine pures hs 2 [1, 3, 4, 5, 6, 7, 72] [(1, .pointer (some ⟨b606, 0, none⟩)), (3, .int .i64 x1117), (4, .int .i64 x1119), (5, .int .i64 x1121), (6, .int .i64 x833), (7, .pointer (some ⟨b1114, 0, none⟩)), (72, .bool y1112.f0)] (by kernel_rfl) fun a hs => ?_
                          refine s_end ?_
                          obtain rfl := someE hx1166
                          exact (hJ1167 _ _).2 ⟨y1112.f0, hx1104, hs.cast [1, 3, 4, 5, 6, 7, 72] (by kernel_rfl), hw.pick [0, 1, 2] (by kernel_rfl)⟩
                        · replace hs := hs.altB 68 false (by kernel_rfl) h1182
                          refine pures hs 4 [1, 3, 4, 5, 6, 7, 72] [(1, .pointer (some ⟨b606, 0, none⟩)), (3, .int .i64 x1117), (4, .int .i64 x1119), (5, .int .i64 x1121), (6, .int .i64 x833), (7, .pointer (some ⟨b1114, 0, none⟩)), (72, .bool false)] (by kernel_rfl) fun a hs => ?_
                          refine s_end ?_
                          obtain rfl := someE hx1166
                          exact (hJ1167 _ _).2 ⟨false, hx1104, hs.cast [1, 3, 4, 5, 6, 7, 72] (by kernel_rfl), hw.pick [0, 1, 2] (by kernel_rfl)⟩
                    · replace hs := hs.altB 55 false (by kernel_rfl) h1178
                      refine pures hs 11 [1, 3, 4, 5, 6, 7, 65, 66] [(1, .pointer (some ⟨b606, 0, none⟩)), (3, .int .i64 x1117), (4, .int .i64 x1119), (5, .int .i64 x1121), (6, .int .i64 x833), (7, .pointer (some ⟨b1114, 0, none⟩)), (65, .bool false), (66, .pointer (some ⟨b1114, 1, none⟩))] (by kernel_rfl) fun a hs => ?_
                      refine s_load hs (hw.at_ 0 rfl) 1 (by kernel_rfl) (by kernel_rfl) (v := .bool y1112.f1) (by kernel_rfl) fun a hs => ?_
                      refine pures hs 1 [1, 3, 4, 5, 6, 7, 65, 68] [(1, .pointer (some ⟨b606, 0, none⟩)), (3, .int .i64 x1117), (4, .int .i64 x1119), (5, .int .i64 x1121), (6, .int .i64 x833), (7, .pointer (some ⟨b1114, 0, none⟩)), (65, .bool false), (68, .bool y1112.f1)] (by kernel_rfl) fun a hs => ?_
                      rcases ifbE hx1166 with ⟨h1183, hx1166⟩ | ⟨h1183, hx1166⟩
                      · replace hs := hs.altB 68 true (by kernel_rfl) h1183
                        refine pures hs 1 [1, 3, 4, 5, 6, 7, 65, 68, 69] [(1, .pointer (some ⟨b606, 0, none⟩)), (3, .int .i64 x1117), (4, .int .i64 x1119), (5, .int .i64 x1121), (6, .int .i64 x833), (7, .pointer (some ⟨b1114, 0, none⟩)), (65, .bool false), (68, .bool true), (69, .pointer (some ⟨b1114, 0, none⟩))] (by kernel_rfl) fun a hs => ?_
                        refine s_load hs (hw.at_ 0 rfl) 0 (by kernel_rfl) (by kernel_rfl) (v := .bool y1112.f0) (by kernel_rfl) fun a hs => ?_
                        refine pures hs 2 [1, 3, 4, 5, 6, 7, 72] [(1, .pointer (some ⟨b606, 0, none⟩)), (3, .int .i64 x1117), (4, .int .i64 x1119), (5, .int .i64 x1121), (6, .int .i64 x833), (7, .pointer (some ⟨b1114, 0, none⟩)), (72, .bool y1112.f0)] (by kernel_rfl) fun a hs => ?_
                        refine s_end ?_
                        obtain rfl := someE hx1166
                        exact (hJ1167 _ _).2 ⟨y1112.f0, hx1104, hs.cast [1, 3, 4, 5, 6, 7, 72] (by kernel_rfl), hw.pick [0, 1, 2] (by kernel_rfl)⟩
                      · replace hs := hs.altB 68 false (by kernel_rfl) h1183
                        refine pures hs 4 [1, 3, 4, 5, 6, 7, 72] [(1, .pointer (some ⟨b606, 0, none⟩)), (3, .int .i64 x1117), (4, .int .i64 x1119), (5, .int .i64 x1121), (6, .int .i64 x833), (7, .pointer (some ⟨b1114, 0, none⟩)), (72, .bool false)] (by kernel_rfl) fun a hs => ?_
                        refine s_end ?_
                        obtain rfl := someE hx1166
                        exact (hJ1167 _ _).2 ⟨false, hx1104, hs.cast [1, 3, 4, 5, 6, 7, 72] (by kernel_rfl), hw.pick [0, 1, 2] (by kernel_rfl)⟩
                · intro a w hh
                  obtain ⟨x1154, hx1104, hs, hw⟩ := (hJ1167 _ _).1 hh
                  rcases ifbE hx1104 with ⟨h1155, hx1104⟩ | ⟨h1155, hx1104⟩
                  · refine c_cond1 hs (by kernel_rfl) (t := x1154) (by kernel_rfl) h1155 ?_
                    refine c_seq ?_
                    refine c_region ?_
                    refine pures hs 1 [2] [(2, .bool false)] (by kernel_rfl) fun a hs => ?_
                    refine s_end ?_
                    refine wp_ret ?_
                    obtain rfl := someE hx1104
                    obtain rfl := someE hk
                    refine hQ _ _ (f_ret1 hs rfl (v := .bool false) (by kernel_rfl) ⟨ih, rfl, hw.pick [2] (by kernel_rfl), (Le.refl _)⟩)
                  · refine c_cond0 hs (by kernel_rfl) (t := x1154) (by kernel_rfl) h1155 ?_
                    refine wp_skip ?_
                    refine c_seq ?_
                    obtain ⟨J1161, hJ1161⟩ : ∃ J : Act → World → Prop, ∀ a w, J a w ↔ (Sees a 143 [(1, .pointer (some ⟨b606, 0, none⟩)), (3, .int .i64 x1117), (4, .int .i64 x1119), (5, .int .i64 x1121), (6, .int .i64 x833), (92, .bool (y1112.f0 && ((!(y1112.f2 == (y1112.f6 == 0))) || (!(y1112.f3 == (y1112.f7 == x1.f4))))))] ∧ St g w [bx b606 [.int .i64 x1.f0, .int .u64 x1.f1, .slice p2 x1.f2.length c3, .bool x1.f3, .int .i64 x1.f4] 53, F] ih) := ⟨_, fun _ _ => Iff.rfl⟩
                    refine c_regJ J1161 ?_ ?_
                    · refine pures hs 1 [1, 3, 4, 5, 6, 7, 73] [(1, .pointer (some ⟨b606, 0, none⟩)), (3, .int .i64 x1117), (4, .int .i64 x1119), (5, .int .i64 x1121), (6, .int .i64 x833), (7, .pointer (some ⟨b1114, 0, none⟩)), (73, .pointer (some ⟨b1114, 0, none⟩))] (by kernel_rfl) fun a hs => ?_
                      refine s_load hs (hw.at_ 0 rfl) 0 (by kernel_rfl) (by kernel_rfl) (v := .bool y1112.f0) (by kernel_rfl) fun a hs => ?_
                      refine pures hs 1 [1, 3, 4, 5, 6, 7, 75] [(1, .pointer (some ⟨b606, 0, none⟩)), (3, .int .i64 x1117), (4, .int .i64 x1119), (5, .int .i64 x1121), (6, .int .i64 x833), (7, .pointer (some ⟨b1114, 0, none⟩)), (75, .bool y1112.f0)] (by kernel_rfl) fun a hs => ?_
                      rcases boolE y1112.f0 with h1162 | h1162
                      · replace hs := hs.altB 75 true (by kernel_rfl) h1162
                        refine pures hs 1 [1, 3, 4, 5, 6, 7, 75, 76] [(1, .pointer (some ⟨b606, 0, none⟩)), (3, .int .i64 x1117), (4, .int .i64 x1119), (5, .int .i64 x1121), (6, .int .i64 x833), (7, .pointer (some ⟨b1114, 0, none⟩)), (75, .bool true), (76, .pointer (some ⟨b1114, 2, none⟩))] (by kernel_rfl) fun a hs => ?_
                        refine s_load hs (hw.at_ 0 rfl) 2 (by kernel_rfl) (by kernel_rfl) (v := .bool y1112.f2) (by kernel_rfl) fun a hs => ?_
                        refine pures hs 1 [1, 3, 4, 5, 6, 7, 75, 77, 78] [(1, .pointer (some ⟨b606, 0, none⟩)), (3, .int .i64 x1117), (4, .int .i64 x1119), (5, .int .i64 x1121), (6, .int .i64 x833), (7, .pointer (some ⟨b1114, 0, none⟩)), (75, .bool true), (77, .bool y1112.f2), (78, .pointer (some ⟨b1114, 6, none⟩))] (by kernel_rfl) fun a hs => ?_
                        refine s_load hs (hw.at_ 0 rfl) 6 (by kernel_rfl) (by kernel_rfl) (v := .int .i64 y1112.f6) (by kernel_rfl) fun a hs => ?_
                        refine pures hs 3 [1, 3, 4, 5, 6, 7, 75, 82] [(1, .pointer (some ⟨b606, 0, none⟩)), (3, .int .i64 x1117), (4, .int .i64 x1119), (5, .int .i64 x1121), (6, .int .i64 x833), (7, .pointer (some ⟨b1114, 0, none⟩)), (75, .bool true), (82, .bool (!(y1112.f2 == (y1112.f6 == 0))))] (by kernel_rfl) fun a hs => ?_
                        rcases boolE (!(y1112.f2 == (y1112.f6 == 0))) with h1163 | h1163
                        · replace hs := hs.altB 82 true (by kernel_rfl) h1163
                          refine pures hs 10 [1, 3, 4, 5, 6, 92] [(1, .pointer (some ⟨b606, 0, none⟩)), (3, .int .i64 x1117), (4, .int .i64 x1119), (5, .int .i64 x1121), (6, .int .i64 x833), (92, .bool true)] (by kernel_rfl) fun a hs => ?_
                          refine s_end ?_
                          exact (hJ1161 _ _).2 ⟨(hs.altB 92 (y1112.f0 && ((!(y1112.f2 == (y1112.f6 == 0))) || (!(y1112.f3 == (y1112.f7 == x1.f4))))) (by kernel_rfl) (by rw [h1162, h1163] <;> rfl)).cast [1, 3, 4, 5, 6, 92] (by kernel_rfl), hw.pick [1, 2] (by kernel_rfl)⟩
                        · replace hs := hs.altB 82 false (by kernel_rfl) h1163
                          refine pures hs 1 [1, 3, 4, 5, 6, 7, 75, 82, 83] [(1, .pointer (some ⟨b606, 0, none⟩)), (3, .int .i64 x1117), (4, .int .i64 x1119), (5, .int .i64 x1121), (6, .int .i64 x833), (7, .pointer (some ⟨b1114, 0, none⟩)), (75, .bool true), (82, .bool false), (83, .pointer (some ⟨b1114, 3, none⟩))] (by kernel_rfl) fun a hs => ?_
                          refine s_load hs (hw.at_ 0 rfl) 3 (by kernel_rfl) (by kernel_rfl) (v := .bool y1112.f3) (by kernel_rfl) fun a hs => ?_
                          refine pures hs 1 [1, 3, 4, 5, 6, 75, 82, 84, 85] [(1, .pointer (some ⟨b606, 0, none⟩)), (3, .int .i64 x1117), (4, .int .i64 x1119), (5, .int .i64 x1121), (6, .int .i64 x833), (75, .bool true), (82, .bool false), (84, .bool y1112.f3), (85, .pointer (some ⟨b1114, 7, none⟩))] (by kernel_rfl) fun a hs => ?_
                          refine s_load hs (hw.at_ 0 rfl) 7 (by kernel_rfl) (by kernel_rfl) (v := .int .i64 y1112.f7) (by kernel_rfl) fun a hs => ?_
                          refine pures hs 1 [1, 3, 4, 5, 6, 75, 82, 84, 86, 87] [(1, .pointer (some ⟨b606, 0, none⟩)), (3, .int .i64 x1117), (4, .int .i64 x1119), (5, .int .i64 x1121), (6, .int .i64 x833), (75, .bool true), (82, .bool false), (84, .bool y1112.f3), (86, .int .i64 y1112.f7), (87, .pointer (some ⟨b606, 4, none⟩))] (by kernel_rfl) fun a hs => ?_
                          refine s_load hs (hw.at_ 1 rfl) 4 (by kernel_rfl) (by kernel_rfl) (v := .int .i64 x1.f4) (by kernel_rfl) fun a hs => ?_
                          refine pures hs 4 [1, 3, 4, 5, 6, 92] [(1, .pointer (some ⟨b606, 0, none⟩)), (3, .int .i64 x1117), (4, .int .i64 x1119), (5, .int .i64 x1121), (6, .int .i64 x833), (92, .bool (!(y1112.f3 == (y1112.f7 == x1.f4))))] (by kernel_rfl) fun a hs => ?_
                          refine s_end ?_
                          exact (hJ1161 _ _).2 ⟨(hs.altB 92 (y1112.f0 && ((!(y1112.f2 == (y1112.f6 == 0))) || (!(y1112.f3 == (y1112.f7 == x1.f4))))) (by kernel_rfl) (by rw [h1162, h1163] <;> rfl)).cast [1, 3, 4, 5, 6, 92] (by kernel_rfl), hw.pick [1, 2] (by kernel_rfl)⟩
                      · replace hs := hs.altB 75 false (by kernel_rfl) h1162
                        refine pures hs 17 [1, 3, 4, 5, 6, 92] [(1, .pointer (some ⟨b606, 0, none⟩)), (3, .int .i64 x1117), (4, .int .i64 x1119), (5, .int .i64 x1121), (6, .int .i64 x833), (92, .bool false)] (by kernel_rfl) fun a hs => ?_
                        refine s_end ?_
                        exact (hJ1161 _ _).2 ⟨(hs.altB 92 (y1112.f0 && ((!(y1112.f2 == (y1112.f6 == 0))) || (!(y1112.f3 == (y1112.f7 == x1.f4))))) (by kernel_rfl) (by rw [h1162] <;> rfl)).cast [1, 3, 4, 5, 6, 92] (by kernel_rfl), hw.pick [1, 2] (by kernel_rfl)⟩
                    · intro a w hh
                      obtain ⟨hs, hw⟩ := (hJ1161 _ _).1 hh
                      rcases ifbE hx1104 with ⟨h1164, hx1104⟩ | ⟨h1164, hx1104⟩
                      · refine c_cond1 hs (by kernel_rfl) (t := (y1112.f0 && ((!(y1112.f2 == (y1112.f6 == 0))) || (!(y1112.f3 == (y1112.f7 == x1.f4)))))) (by kernel_rfl) h1164 ?_
                        refine c_seq ?_
                        refine c_region ?_
                        refine pures hs 1 [2] [(2, .bool false)] (by kernel_rfl) fun a hs => ?_
                        refine s_end ?_
                        refine wp_ret ?_
                        obtain rfl := someE hx1104
                        obtain rfl := someE hk
                        refine hQ _ _ (f_ret1 hs rfl (v := .bool false) (by kernel_rfl) ⟨ih, rfl, hw.pick [1] (by kernel_rfl), (Le.refl _)⟩)
                      · refine c_cond0 hs (by kernel_rfl) (t := (y1112.f0 && ((!(y1112.f2 == (y1112.f6 == 0))) || (!(y1112.f3 == (y1112.f7 == x1.f4)))))) (by kernel_rfl) h1164 ?_
                        refine wp_skip ?_
                        refine c_region ?_
                        refine pures hs 3 [1, 3, 4, 5, 6] [(1, .pointer (some ⟨b606, 0, none⟩)), (3, .int .i64 x1117), (4, .int .i64 x1119), (5, .int .i64 x1121), (6, .int .i64 (IntKind.i64.wrap (x833 + 1)))] (by kernel_rfl) fun a hs => ?_
                        refine s_end ?_
                        exact (hI1106 _ _ _).2 ⟨x1117, x1119, x1121, (IntKind.i64.wrap (x833 + 1)), hx1104, hs.cast [1, 3, 4, 5, 6] (by kernel_rfl), hw.pick [0, 1] (by kernel_rfl)⟩
        · refine c_cond0 hs (by kernel_rfl) (t := (decide (x833 ≤ 24))) (by kernel_rfl) h1107 ?_
          refine wp_exit ?_
          obtain rfl := someE hx1104
          exact (hJ1105 _ _).2 ⟨x830, x831, x832, hk, hs.cast [1, 3, 4, 5] (by kernel_rfl), hw.pick [0, 1] (by kernel_rfl)⟩
    · intro a w hh
      obtain ⟨x927, x928, x929, hk, hs, hw⟩ := (hJ1105 _ _).1 hh
      refine c_seq ?_
      refine c_region ?_
      refine s_load hs (hw.at_ 0 rfl) 0 (by kernel_rfl) (by kernel_rfl) (v := .agg #[.int .i64 x1.f0, .int .u64 x1.f1, .slice p2 x1.f2.length c3, .bool x1.f3, .int .i64 x1.f4]) (by kernel_rfl) fun a hs => ?_
      obtain ⟨y932, h933, hk⟩ := bindE hk
      refine s_call hs (by kernel_rfl) (by kernel_rfl) (role_Head_s h933 h4 ((hw.pick [0, 1] (by kernel_rfl)).pack 0)) fun a w v hv hs => ?_
      obtain ⟨rfl, hw⟩ := hv
      replace hw := hw.unpack 0 rfl
      refine pures hs 1 [1, 3, 4, 5, 8] [(1, .pointer (some ⟨b606, 0, none⟩)), (3, .int .i64 x927), (4, .int .i64 x928), (5, .int .i64 x929), (8, .int .i64 y932)] (by kernel_rfl) fun a hs => ?_
      refine s_end ?_
      refine c_seq ?_
      refine c_seq ?_
      refine c_region ?_
      refine pures hs 1 [1, 3, 4, 5, 8, 9] [(1, .pointer (some ⟨b606, 0, none⟩)), (3, .int .i64 x927), (4, .int .i64 x928), (5, .int .i64 x929), (8, .int .i64 y932), (9, .int .i64 0)] (by kernel_rfl) fun a hs => ?_
      refine s_end ?_
      refine c_block ?_
      obtain ⟨y1066, hx1067, hk⟩ := bindE hk
      obtain ⟨J1068, hJ1068⟩ : ∃ J : Act → World → Prop, ∀ a w, J a w ↔ (∃ (x1034 : Int), catenarylaw19_RoleChain_r44 k x927 x928 x929 x1 x1034 = some r ∧ Sees a 143 [(1, .pointer (some ⟨b606, 0, none⟩)), (3, .int .i64 x927), (4, .int .i64 x928), (5, .int .i64 x929), (8, .int .i64 x1034)] ∧ St g w [bx b606 [.int .i64 x1.f0, .int .u64 x1.f1, .slice p2 x1.f2.length c3, .bool x1.f3, .int .i64 x1.f4] 53, F] ih) := ⟨_, fun _ _ => Iff.rfl⟩
      obtain ⟨I1069, hI1069⟩ : ∃ J : Nat → Act → World → Prop, ∀ j a w, J j a w ↔ (∃ (x1000 : Int) (x1001 : Int), catenarylaw19_RoleChain_l45 k x1 j x1000 x1001 = some y1066 ∧ Sees a 143 [(1, .pointer (some ⟨b606, 0, none⟩)), (3, .int .i64 x927), (4, .int .i64 x928), (5, .int .i64 x929), (8, .int .i64 x1000), (9, .int .i64 x1001)] ∧ St g w [bx b606 [.int .i64 x1.f0, .int .u64 x1.f1, .slice p2 x1.f2.length c3, .bool x1.f3, .int .i64 x1.f4] 53, F] ih) := ⟨_, fun _ _ _ => Iff.rfl⟩
      refine c_exitJ 2 J1068 ?_ ?_
      · refine c_loop I1069 k ((hI1069 _ _ _).2 ⟨y932, 0, hx1067, hs.cast [1, 3, 4, 5, 8, 9] (by kernel_rfl), hw.pick [0, 1] (by kernel_rfl)⟩) (fun a w h0 => ?_) fun j a w hh => ?_
        · obtain ⟨_, _, h, _⟩ := (hI1069 _ _ _).1 h0
          cases h
        · obtain ⟨x1000, x1001, hx1067, hs, hw⟩ := (hI1069 _ _ _).1 hh
          refine c_seq ?_
          refine c_seq ?_
          refine c_region ?_
          refine pures hs 2 [1, 3, 4, 5, 8, 9, 95, 96] [(1, .pointer (some ⟨b606, 0, none⟩)), (3, .int .i64 x927), (4, .int .i64 x928), (5, .int .i64 x929), (8, .int .i64 x1000), (9, .int .i64 x1001), (95, .int .i64 x1001), (96, .pointer (some ⟨b606, 2, none⟩))] (by kernel_rfl) fun a hs => ?_
          refine s_load hs (hw.at_ 0 rfl) 2 (by kernel_rfl) (by kernel_rfl) (v := .slice p2 x1.f2.length c3) (by kernel_rfl) fun a hs => ?_
          refine pures hs 2 [1, 3, 4, 5, 8, 9, 99] [(1, .pointer (some ⟨b606, 0, none⟩)), (3, .int .i64 x927), (4, .int .i64 x928), (5, .int .i64 x929), (8, .int .i64 x1000), (9, .int .i64 x1001), (99, .bool (decide (x1001 < (x1.f2.length : Int))))] (by kernel_rfl) fun a hs => ?_
          refine s_end ?_
          rcases ifbE hx1067 with ⟨h1070, hx1067⟩ | ⟨h1070, hx1067⟩
          · refine c_cond1 hs (by kernel_rfl) (t := (decide (x1001 < (x1.f2.length : Int)))) (by kernel_rfl) h1070 ?_
            refine wp_skip ?_
            refine c_seq ?_
            refine c_block ?_
            refine c_seq ?_
            refine c_seq ?_
            obtain ⟨y1091, hx1092, hx1067⟩ := bindE hx1067
            obtain ⟨J1093, hJ1093⟩ : ∃ J : Act → World → Prop, ∀ a w, J a w ↔ (∃ (x1085 : Bool), catenarylaw19_RoleChain_r46 k (catenarylaw19_RoleChain_l45 k x1 j) x1 x1000 x1001 x1085 = some y1066 ∧ Sees a 143 [(1, .pointer (some ⟨b606, 0, none⟩)), (3, .int .i64 x927), (4, .int .i64 x928), (5, .int .i64 x929), (8, .int .i64 x1000), (9, .int .i64 x1001), (116, .bool x1085)] ∧ St g w [bx b606 [.int .i64 x1.f0, .int .u64 x1.f1, .slice p2 x1.f2.length c3, .bool x1.f3, .int .i64 x1.f4] 53, F] ih) := ⟨_, fun _ _ => Iff.rfl⟩
            refine c_regJ J1093 ?_ ?_
            · refine pures hs 2 [1, 3, 4, 5, 8, 9, 102, 103] [(1, .pointer (some ⟨b606, 0, none⟩)), (3, .int .i64 x927), (4, .int .i64 x928), (5, .int .i64 x929), (8, .int .i64 x1000), (9, .int .i64 x1001), (102, .int .i64 x1000), (103, .pointer (some ⟨b606, 2, none⟩))] (by kernel_rfl) fun a hs => ?_
              refine s_load hs (hw.at_ 0 rfl) 2 (by kernel_rfl) (by kernel_rfl) (v := .slice p2 x1.f2.length c3) (by kernel_rfl) fun a hs => ?_
              refine pures hs 1 [1, 3, 4, 5, 8, 9, 102, 104, 105] [(1, .pointer (some ⟨b606, 0, none⟩)), (3, .int .i64 x927), (4, .int .i64 x928), (5, .int .i64 x929), (8, .int .i64 x1000), (9, .int .i64 x1001), (102, .int .i64 x1000), (104, .slice p2 x1.f2.length c3), (105, .int .i64 x1001)] (by kernel_rfl) fun a hs => ?_
              obtain ⟨x1094, h1095, hx1092⟩ := bindE hx1092
              refine s_index hs h4 (by kernel_rfl) (by kernel_rfl) (k := .i64) (by kernel_rfl) 3 (by kernel_rfl) (by kernel_rfl) h1095 fun a r1096 cs henc at1097 hs => ?_
              obtain rfl := henc
              refine s_load hs (at1097 _ (hw.vwAll.nil.anti (Le.refl _))) 0 (by kernel_rfl) (by kernel_rfl) (v := .int .i64 x1094) (by kernel_rfl) fun a hs => ?_
              refine pures hs 2 [1, 3, 4, 5, 8, 9, 109] [(1, .pointer (some ⟨b606, 0, none⟩)), (3, .int .i64 x927), (4, .int .i64 x928), (5, .int .i64 x929), (8, .int .i64 x1000), (9, .int .i64 x1001), (109, .bool (x1000 != x1094))] (by kernel_rfl) fun a hs => ?_
              rcases ifbE hx1092 with ⟨h1098, hx1092⟩ | ⟨h1098, hx1092⟩
              · replace hs := hs.altB 109 true (by kernel_rfl) h1098
                refine pures hs 7 [1, 3, 4, 5, 8, 9, 116] [(1, .pointer (some ⟨b606, 0, none⟩)), (3, .int .i64 x927), (4, .int .i64 x928), (5, .int .i64 x929), (8, .int .i64 x1000), (9, .int .i64 x1001), (116, .bool true)] (by kernel_rfl) fun a hs => ?_
                refine s_end ?_
                obtain rfl := someE hx1092
                exact (hJ1093 _ _).2 ⟨true, hx1067, hs.cast [1, 3, 4, 5, 8, 9, 116] (by kernel_rfl), hw.pick [0, 1] (by kernel_rfl)⟩
              · replace hs := hs.altB 109 false (by kernel_rfl) h1098
                refine s_load hs (hw.at_ 0 rfl) 0 (by kernel_rfl) (by kernel_rfl) (v := .agg #[.int .i64 x1.f0, .int .u64 x1.f1, .slice p2 x1.f2.length c3, .bool x1.f3, .int .i64 x1.f4]) (by kernel_rfl) fun a hs => ?_
                refine pures hs 1 [1, 3, 4, 5, 8, 9, 109, 110, 111] [(1, .pointer (some ⟨b606, 0, none⟩)), (3, .int .i64 x927), (4, .int .i64 x928), (5, .int .i64 x929), (8, .int .i64 x1000), (9, .int .i64 x1001), (109, .bool false), (110, .agg #[.int .i64 x1.f0, .int .u64 x1.f1, .slice p2 x1.f2.length c3, .bool x1.f3, .int .i64 x1.f4]), (111, .int .i64 x1000)] (by kernel_rfl) fun a hs => ?_
                obtain ⟨y1099, h1100, hx1092⟩ := bindE hx1092
                refine s_call hs (by kernel_rfl) (by kernel_rfl) (role_Of_s h1100 h4 ((hw.pick [0, 1] (by kernel_rfl)).pack 0)) fun a w v hv hs => ?_
                obtain ⟨rfl, hw⟩ := hv
                replace hw := hw.unpack 0 rfl
                refine pures hs 4 [1, 3, 4, 5, 8, 9, 116] [(1, .pointer (some ⟨b606, 0, none⟩)), (3, .int .i64 x927), (4, .int .i64 x928), (5, .int .i64 x929), (8, .int .i64 x1000), (9, .int .i64 x1001), (116, .bool (y1099.f5 != x1001))] (by kernel_rfl) fun a hs => ?_
                refine s_end ?_
                obtain rfl := someE hx1092
                exact (hJ1093 _ _).2 ⟨(y1099.f5 != x1001), hx1067, hs.cast [1, 3, 4, 5, 8, 9, 116] (by kernel_rfl), hw.pick [0, 1] (by kernel_rfl)⟩
            · intro a w hh
              obtain ⟨x1085, hx1067, hs, hw⟩ := (hJ1093 _ _).1 hh
              rcases ifbE hx1067 with ⟨h1086, hx1067⟩ | ⟨h1086, hx1067⟩
              · refine c_cond1 hs (by kernel_rfl) (t := x1085) (by kernel_rfl) h1086 ?_
                refine c_seq ?_
                refine c_region ?_
                refine pures hs 1 [2] [(2, .bool false)] (by kernel_rfl) fun a hs => ?_
                refine s_end ?_
                refine wp_ret ?_
                obtain rfl := someE hx1067
                obtain rfl := someE hk
                refine hQ _ _ (f_ret1 hs rfl (v := .bool false) (by kernel_rfl) ⟨ih, rfl, hw.pick [1] (by kernel_rfl), (Le.refl _)⟩)
              · refine c_cond0 hs (by kernel_rfl) (t := x1085) (by kernel_rfl) h1086 ?_
                refine wp_skip ?_
                refine c_region ?_
                refine s_load hs (hw.at_ 0 rfl) 0 (by kernel_rfl) (by kernel_rfl) (v := .agg #[.int .i64 x1.f0, .int .u64 x1.f1, .slice p2 x1.f2.length c3, .bool x1.f3, .int .i64 x1.f4]) (by kernel_rfl) fun a hs => ?_
                refine pures hs 1 [1, 3, 4, 5, 9, 117, 118] [(1, .pointer (some ⟨b606, 0, none⟩)), (3, .int .i64 x927), (4, .int .i64 x928), (5, .int .i64 x929), (9, .int .i64 x1001), (117, .agg #[.int .i64 x1.f0, .int .u64 x1.f1, .slice p2 x1.f2.length c3, .bool x1.f3, .int .i64 x1.f4]), (118, .int .i64 x1000)] (by kernel_rfl) fun a hs => ?_
                obtain ⟨y1089, h1090, hx1067⟩ := bindE hx1067
                refine s_call hs (by kernel_rfl) (by kernel_rfl) (role_Of_s h1090 h4 ((hw.pick [0, 1] (by kernel_rfl)).pack 0)) fun a w v hv hs => ?_
                obtain ⟨rfl, hw⟩ := hv
                replace hw := hw.unpack 0 rfl
                refine pures hs 2 [1, 3, 4, 5, 9, 8] [(1, .pointer (some ⟨b606, 0, none⟩)), (3, .int .i64 x927), (4, .int .i64 x928), (5, .int .i64 x929), (9, .int .i64 x1001), (8, .int .i64 y1089.f7)] (by kernel_rfl) fun a hs => ?_
                refine s_end ?_
                refine c_region ?_
                refine pures hs 3 [1, 3, 4, 5, 9, 8] [(1, .pointer (some ⟨b606, 0, none⟩)), (3, .int .i64 x927), (4, .int .i64 x928), (5, .int .i64 x929), (9, .int .i64 (IntKind.i64.wrap (x1001 + 1))), (8, .int .i64 y1089.f7)] (by kernel_rfl) fun a hs => ?_
                refine s_end ?_
                exact (hI1069 _ _ _).2 ⟨y1089.f7, (IntKind.i64.wrap (x1001 + 1)), hx1067, hs.cast [1, 3, 4, 5, 8, 9] (by kernel_rfl), hw.pick [0, 1] (by kernel_rfl)⟩
          · refine c_cond0 hs (by kernel_rfl) (t := (decide (x1001 < (x1.f2.length : Int)))) (by kernel_rfl) h1070 ?_
            refine wp_exit ?_
            obtain rfl := someE hx1067
            exact (hJ1068 _ _).2 ⟨x1000, hk, hs.cast [1, 3, 4, 5, 8] (by kernel_rfl), hw.pick [0, 1] (by kernel_rfl)⟩
      · intro a w hh
        obtain ⟨x1034, hk, hs, hw⟩ := (hJ1068 _ _).1 hh
        refine c_seq ?_
        obtain ⟨y1054, hx1055, hk⟩ := bindE hk
        obtain ⟨J1056, hJ1056⟩ : ∃ J : Act → World → Prop, ∀ a w, J a w ↔ (∃ (x1053 : Bool) (ih1051 : IH), catenarylaw19_RoleChain_r43 x1053 = some r ∧ Sees a 143 [(2, .bool x1053)] ∧ St g w [F] ih1051 ∧ Le ih ih1051) := ⟨_, fun _ _ => Iff.rfl⟩
        refine c_regJ J1056 ?_ ?_
        · refine pures hs 3 [1, 4, 5, 8, 123] [(1, .pointer (some ⟨b606, 0, none⟩)), (4, .int .i64 x928), (5, .int .i64 x929), (8, .int .i64 x1034), (123, .bool (x927 == 1))] (by kernel_rfl) fun a hs => ?_
          rcases ifbE hx1055 with ⟨h1057, hx1055⟩ | ⟨h1057, hx1055⟩
          · replace hs := hs.altB 123 true (by kernel_rfl) h1057
            refine pures hs 4 [1, 5, 8, 127] [(1, .pointer (some ⟨b606, 0, none⟩)), (5, .int .i64 x929), (8, .int .i64 x1034), (127, .bool (x928 == 1))] (by kernel_rfl) fun a hs => ?_
            rcases ifbE hx1055 with ⟨h1058, hx1055⟩ | ⟨h1058, hx1055⟩
            · replace hs := hs.altB 127 true (by kernel_rfl) h1058
              refine pures hs 2 [1, 8, 127, 128, 129] [(1, .pointer (some ⟨b606, 0, none⟩)), (8, .int .i64 x1034), (127, .bool true), (128, .int .i64 x929), (129, .pointer (some ⟨b606, 2, none⟩))] (by kernel_rfl) fun a hs => ?_
              refine s_load hs (hw.at_ 0 rfl) 2 (by kernel_rfl) (by kernel_rfl) (v := .slice p2 x1.f2.length c3) (by kernel_rfl) fun a hs => ?_
              refine pures hs 4 [1, 8, 134] [(1, .pointer (some ⟨b606, 0, none⟩)), (8, .int .i64 x1034), (134, .bool (x929 == (x1.f2.length : Int)))] (by kernel_rfl) fun a hs => ?_
              rcases ifbE hx1055 with ⟨h1059, hx1055⟩ | ⟨h1059, hx1055⟩
              · replace hs := hs.altB 134 true (by kernel_rfl) h1059
                refine pures hs 2 [134, 135, 136] [(134, .bool true), (135, .int .i64 x1034), (136, .pointer (some ⟨b606, 4, none⟩))] (by kernel_rfl) fun a hs => ?_
                refine s_load hs (hw.at_ 0 rfl) 4 (by kernel_rfl) (by kernel_rfl) (v := .int .i64 x1.f4) (by kernel_rfl) fun a hs => ?_
                refine pures hs 3 [140] [(140, .bool (x1034 == x1.f4))] (by kernel_rfl) fun a hs => ?_
                rcases ifbE hx1055 with ⟨h1060, hx1055⟩ | ⟨h1060, hx1055⟩
                · replace hs := hs.altB 140 true (by kernel_rfl) h1060
                  obtain ⟨y1061, h1062, hx1055⟩ := bindE hx1055
                  refine s_call hs (by kernel_rfl) (by kernel_rfl) (catenarylaw19_awake_s h1062 ((hw.pick [1] (by kernel_rfl)).pack 0)) fun a w v hv hs => ?_
                  obtain ⟨ih1063, rfl, hw, hle1064⟩ := hv
                  replace hw := hw.unpack 0 rfl
                  refine pures hs 2 [2] [(2, .bool y1061)] (by kernel_rfl) fun a hs => ?_
                  refine s_end ?_
                  obtain rfl := someE hx1055
                  exact (hJ1056 _ _).2 ⟨y1061, ih1063, hk, hs.cast [2] (by kernel_rfl), hw.pick [0] (by kernel_rfl), hle1064⟩
                · replace hs := hs.altB 140 false (by kernel_rfl) h1060
                  refine pures hs 3 [2] [(2, .bool false)] (by kernel_rfl) fun a hs => ?_
                  refine s_end ?_
                  obtain rfl := someE hx1055
                  exact (hJ1056 _ _).2 ⟨false, ih, hk, hs.cast [2] (by kernel_rfl), hw.pick [1] (by kernel_rfl), (Le.refl _)⟩
              · replace hs := hs.altB 134 false (by kernel_rfl) h1059
                refine pures hs 9 [2] [(2, .bool false)] (by kernel_rfl) fun a hs => ?_
                refine s_end ?_
                obtain rfl := someE hx1055
                exact (hJ1056 _ _).2 ⟨false, ih, hk, hs.cast [2] (by kernel_rfl), hw.pick [1] (by kernel_rfl), (Le.refl _)⟩
            · replace hs := hs.altB 127 false (by kernel_rfl) h1058
              refine pures hs 16 [2] [(2, .bool false)] (by kernel_rfl) fun a hs => ?_
              refine s_end ?_
              obtain rfl := someE hx1055
              exact (hJ1056 _ _).2 ⟨false, ih, hk, hs.cast [2] (by kernel_rfl), hw.pick [1] (by kernel_rfl), (Le.refl _)⟩
          · replace hs := hs.altB 123 false (by kernel_rfl) h1057
            refine pures hs 20 [2] [(2, .bool false)] (by kernel_rfl) fun a hs => ?_
            refine s_end ?_
            obtain rfl := someE hx1055
            exact (hJ1056 _ _).2 ⟨false, ih, hk, hs.cast [2] (by kernel_rfl), hw.pick [1] (by kernel_rfl), (Le.refl _)⟩
        · intro a w hh
          obtain ⟨x1053, ih1051, hk, hs, hw, hle1052⟩ := (hJ1056 _ _).1 hh
          refine wp_ret ?_
          obtain rfl := someE hk
          refine hQ _ _ (f_ret1 hs rfl (v := .bool x1053) (by kernel_rfl) ⟨ih1051, rfl, hw.pick [0] (by kernel_rfl), hle1052⟩)
end Go.Proofs.Ytfpppgbibgbllaa.Sx
