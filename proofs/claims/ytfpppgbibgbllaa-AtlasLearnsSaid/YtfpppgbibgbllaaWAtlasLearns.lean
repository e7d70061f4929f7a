/- The walk of AtlasLearns: each Go function that it calls, as a plain function, and the proof that the call computes it. Printed by the program gen.py.
   Conditions: those that each theorem states ahead of its colon, and no other. -/
import Derived.Test.YtfpppgbibgbllaaWAtlasLearns0
namespace Go.Proofs.Ytfpppgbibgbllaa.Sx
open Go Go.Proofs
set_option maxRecDepth 100000
set_option linter.unusedVariables false
def catenaryref09_Same_r2 (x62 : Bool) : Option Bool :=
  some x62
def catenaryref09_Same (k : Nat) (x1 : M53) (x5 : M53) : Option Bool :=
  (if (x1.f0 == x5.f0) = true then (
      if (x1.f1 == x5.f1) = true then (
        if (x1.f3 == x5.f3) = true then (
          if (x1.f4 == x5.f4) = true then (
            (catenaryref04_Same k x1.f2 x5.f2).bind fun y70 =>
            some y70)
          else some false)
        else some false)
      else some false)
    else some false : Option Bool).bind fun s72 => catenaryref09_Same_r2 s72
theorem catenaryref09_Same_s {k : Nat} {x1 : M53} {x5 : M53} {p2 : Option Addr} {c3 : Nat} {p6 : Option Addr} {c7 : Nat} {r : Bool} (hk : catenaryref09_Same k x1 x5 = some r) {g w : World} {F : Ch} {ih : IH} (h4 : RSl e3 ih [] p2 c3 x1.f2) (h8 : RSl e3 ih [] p6 c7 x5.f2) (hw : St g w [F] ih) :
    CallsR Try.prog 62 #[.agg #[.int .i64 x1.f0, .int .u64 x1.f1, .slice p2 x1.f2.length c3, .bool x1.f3, .int .i64 x1.f4], .agg #[.int .i64 x5.f0, .int .u64 x5.f1, .slice p6 x5.f2.length c7, .bool x5.f3, .int .i64 x5.f4]] w fun v w' => v = .bool r ∧ St g w' [F] ih := by
  refine f_in (vs := [.agg #[.int .i64 x1.f0, .int .u64 x1.f1, .slice p2 x1.f2.length c3, .bool x1.f3, .int .i64 x1.f4], .agg #[.int .i64 x5.f0, .int .u64 x5.f1, .slice p6 x5.f2.length c7, .bool x5.f3, .int .i64 x5.f4]]) Try.func62 rfl 38 rfl (by kernel_rfl) [(0, .agg #[.int .i64 x1.f0, .int .u64 x1.f1, .slice p2 x1.f2.length c3, .bool x1.f3, .int .i64 x1.f4]), (1, .agg #[.int .i64 x5.f0, .int .u64 x5.f1, .slice p6 x5.f2.length c7, .bool x5.f3, .int .i64 x5.f4])] (by kernel_rfl) fun a Qf hQ hQn hs => ?_
  refine c_seq ?_
  refine c_region ?_
  refine s_new hs hw [.int .i64 x1.f0, .int .u64 x1.f1, .slice p2 x1.f2.length c3, .bool x1.f3, .int .i64 x1.f4] 53 (fun b => .pointer (some ⟨b, 0, none⟩)) (by kernel_rfl) (fun _ => by kernel_rfl) fun a w b46 hs hw => ?_
  refine s_new hs hw [.int .i64 x5.f0, .int .u64 x5.f1, .slice p6 x5.f2.length c7, .bool x5.f3, .int .i64 x5.f4] 53 (fun b => .pointer (some ⟨b, 0, none⟩)) (by kernel_rfl) (fun _ => by kernel_rfl) fun a w b48 hs hw => ?_
  refine pures hs 1 [2, 3] [(2, .pointer (some ⟨b46, 0, none⟩)), (3, .pointer (some ⟨b48, 0, none⟩))] (by kernel_rfl) fun a hs => ?_
  refine s_end ?_
  refine c_seq ?_
  obtain ⟨y63, hx64, hk⟩ := bindE hk
  obtain ⟨J65, hJ65⟩ : ∃ J : Act → World → Prop, ∀ a w, J a w ↔ (∃ (x62 : Bool), catenaryref09_Same_r2 x62 = some r ∧ Sees a 38 [(4, .bool x62)] ∧ St g w [F] ih) := ⟨_, fun _ _ => Iff.rfl⟩
  refine c_regJ J65 ?_ ?_
  · refine pures hs 1 [2, 3, 5] [(2, .pointer (some ⟨b46, 0, none⟩)), (3, .pointer (some ⟨b48, 0, none⟩)), (5, .pointer (some ⟨b46, 0, none⟩))] (by kernel_rfl) fun a hs => ?_
    refine s_load hs (hw.at_ 1 rfl) 0 (by kernel_rfl) (by kernel_rfl) (v := .int .i64 x1.f0) (by kernel_rfl) fun a hs => ?_
    refine pures hs 1 [2, 3, 6, 7] [(2, .pointer (some ⟨b46, 0, none⟩)), (3, .pointer (some ⟨b48, 0, none⟩)), (6, .int .i64 x1.f0), (7, .pointer (some ⟨b48, 0, none⟩))] (by kernel_rfl) fun a hs => ?_
    refine s_load hs (hw.at_ 0 rfl) 0 (by kernel_rfl) (by kernel_rfl) (v := .int .i64 x5.f0) (by kernel_rfl) fun a hs => ?_
    refine pures hs 2 [2, 3, 10] [(2, .pointer (some ⟨b46, 0, none⟩)), (3, .pointer (some ⟨b48, 0, none⟩)), (10, .bool (x1.f0 == x5.f0))] (by kernel_rfl) fun a hs => ?_
    rcases ifbE hx64 with ⟨h66, hx64⟩ | ⟨h66, hx64⟩
    · replace hs := hs.altB 10 true (by kernel_rfl) h66
      refine pures hs 1 [2, 3, 10, 11] [(2, .pointer (some ⟨b46, 0, none⟩)), (3, .pointer (some ⟨b48, 0, none⟩)), (10, .bool true), (11, .pointer (some ⟨b46, 1, none⟩))] (by kernel_rfl) fun a hs => ?_
      refine s_load hs (hw.at_ 1 rfl) 1 (by kernel_rfl) (by kernel_rfl) (v := .int .u64 x1.f1) (by kernel_rfl) fun a hs => ?_
      refine pures hs 1 [2, 3, 10, 12, 13] [(2, .pointer (some ⟨b46, 0, none⟩)), (3, .pointer (some ⟨b48, 0, none⟩)), (10, .bool true), (12, .int .u64 x1.f1), (13, .pointer (some ⟨b48, 1, none⟩))] (by kernel_rfl) fun a hs => ?_
      refine s_load hs (hw.at_ 0 rfl) 1 (by kernel_rfl) (by kernel_rfl) (v := .int .u64 x5.f1) (by kernel_rfl) fun a hs => ?_
      refine pures hs 3 [2, 3, 17] [(2, .pointer (some ⟨b46, 0, none⟩)), (3, .pointer (some ⟨b48, 0, none⟩)), (17, .bool (x1.f1 == x5.f1))] (by kernel_rfl) fun a hs => ?_
      rcases ifbE hx64 with ⟨h67, hx64⟩ | ⟨h67, hx64⟩
      · replace hs := hs.altB 17 true (by kernel_rfl) h67
        refine pures hs 1 [2, 3, 17, 18] [(2, .pointer (some ⟨b46, 0, none⟩)), (3, .pointer (some ⟨b48, 0, none⟩)), (17, .bool true), (18, .pointer (some ⟨b46, 3, none⟩))] (by kernel_rfl) fun a hs => ?_
        refine s_load hs (hw.at_ 1 rfl) 3 (by kernel_rfl) (by kernel_rfl) (v := .bool x1.f3) (by kernel_rfl) fun a hs => ?_
        refine pures hs 1 [2, 3, 17, 19, 20] [(2, .pointer (some ⟨b46, 0, none⟩)), (3, .pointer (some ⟨b48, 0, none⟩)), (17, .bool true), (19, .bool x1.f3), (20, .pointer (some ⟨b48, 3, none⟩))] (by kernel_rfl) fun a hs => ?_
        refine s_load hs (hw.at_ 0 rfl) 3 (by kernel_rfl) (by kernel_rfl) (v := .bool x5.f3) (by kernel_rfl) fun a hs => ?_
        refine pures hs 3 [2, 3, 24] [(2, .pointer (some ⟨b46, 0, none⟩)), (3, .pointer (some ⟨b48, 0, none⟩)), (24, .bool (x1.f3 == x5.f3))] (by kernel_rfl) fun a hs => ?_
        rcases ifbE hx64 with ⟨h68, hx64⟩ | ⟨h68, hx64⟩
        · replace hs := hs.altB 24 true (by kernel_rfl) h68
          refine pures hs 1 [2, 3, 24, 25] [(2, .pointer (some ⟨b46, 0, none⟩)), (3, .pointer (some ⟨b48, 0, none⟩)), (24, .bool true), (25, .pointer (some ⟨b46, 4, none⟩))] (by kernel_rfl) fun a hs => ?_
          refine s_load hs (hw.at_ 1 rfl) 4 (by kernel_rfl) (by kernel_rfl) (v := .int .i64 x1.f4) (by kernel_rfl) fun a hs => ?_
          refine pures hs 1 [2, 3, 24, 26, 27] [(2, .pointer (some ⟨b46, 0, none⟩)), (3, .pointer (some ⟨b48, 0, none⟩)), (24, .bool true), (26, .int .i64 x1.f4), (27, .pointer (some ⟨b48, 4, none⟩))] (by kernel_rfl) fun a hs => ?_
          refine s_load hs (hw.at_ 0 rfl) 4 (by kernel_rfl) (by kernel_rfl) (v := .int .i64 x5.f4) (by kernel_rfl) fun a hs => ?_
          refine pures hs 3 [2, 3, 31] [(2, .pointer (some ⟨b46, 0, none⟩)), (3, .pointer (some ⟨b48, 0, none⟩)), (31, .bool (x1.f4 == x5.f4))] (by kernel_rfl) fun a hs => ?_
          rcases ifbE hx64 with ⟨h69, hx64⟩ | ⟨h69, hx64⟩
          · replace hs := hs.altB 31 true (by kernel_rfl) h69
            refine pures hs 1 [3, 31, 32] [(3, .pointer (some ⟨b48, 0, none⟩)), (31, .bool true), (32, .pointer (some ⟨b46, 2, none⟩))] (by kernel_rfl) fun a hs => ?_
            refine s_load hs (hw.at_ 1 rfl) 2 (by kernel_rfl) (by kernel_rfl) (v := .slice p2 x1.f2.length c3) (by kernel_rfl) fun a hs => ?_
            refine pures hs 1 [31, 33, 34] [(31, .bool true), (33, .slice p2 x1.f2.length c3), (34, .pointer (some ⟨b48, 2, none⟩))] (by kernel_rfl) fun a hs => ?_
            refine s_load hs (hw.at_ 0 rfl) 2 (by kernel_rfl) (by kernel_rfl) (v := .slice p6 x5.f2.length c7) (by kernel_rfl) fun a hs => ?_
            obtain ⟨y70, h71, hx64⟩ := bindE hx64
            refine s_call hs (by kernel_rfl) (by kernel_rfl) (catenaryref04_Same_s h71 h4 (nilSub _) h8 (nilSub _) ((hw.pick [2] (by kernel_rfl)).pack 0)) fun a w v hv hs => ?_
            obtain ⟨rfl, hw⟩ := hv
            replace hw := hw.unpack 0 rfl
            refine pures hs 2 [4] [(4, .bool y70)] (by kernel_rfl) fun a hs => ?_
            refine s_end ?_
            obtain rfl := someE hx64
            exact (hJ65 _ _).2 ⟨y70, hk, hs.cast [4] (by kernel_rfl), hw.pick [0] (by kernel_rfl)⟩
          · replace hs := hs.altB 31 false (by kernel_rfl) h69
            refine pures hs 7 [4] [(4, .bool false)] (by kernel_rfl) fun a hs => ?_
            refine s_end ?_
            obtain rfl := someE hx64
            exact (hJ65 _ _).2 ⟨false, hk, hs.cast [4] (by kernel_rfl), hw.pick [2] (by kernel_rfl)⟩
        · replace hs := hs.altB 24 false (by kernel_rfl) h68
          refine pures hs 14 [4] [(4, .bool false)] (by kernel_rfl) fun a hs => ?_
          refine s_end ?_
          obtain rfl := someE hx64
          exact (hJ65 _ _).2 ⟨false, hk, hs.cast [4] (by kernel_rfl), hw.pick [2] (by kernel_rfl)⟩
      · replace hs := hs.altB 17 false (by kernel_rfl) h67
        refine pures hs 21 [4] [(4, .bool false)] (by kernel_rfl) fun a hs => ?_
        refine s_end ?_
        obtain rfl := someE hx64
        exact (hJ65 _ _).2 ⟨false, hk, hs.cast [4] (by kernel_rfl), hw.pick [2] (by kernel_rfl)⟩
    · replace hs := hs.altB 10 false (by kernel_rfl) h66
      refine pures hs 28 [4] [(4, .bool false)] (by kernel_rfl) fun a hs => ?_
      refine s_end ?_
      obtain rfl := someE hx64
      exact (hJ65 _ _).2 ⟨false, hk, hs.cast [4] (by kernel_rfl), hw.pick [2] (by kernel_rfl)⟩
  · intro a w hh
    obtain ⟨x62, hk, hs, hw⟩ := (hJ65 _ _).1 hh
    refine wp_ret ?_
    obtain rfl := someE hk
    refine hQ _ _ (f_ret1 hs rfl (v := .bool x62) (by kernel_rfl) ⟨rfl, hw.pick [0] (by kernel_rfl)⟩)
def catenaryref09_SameAll_r10 : Option Bool :=
  some true
def catenaryref09_SameAll_r12 (rec_catenaryref09_SameAll_l11 : Int → Option (Sum Bool Unit)) (x361 : Int) (x456 : Bool) : Option (Sum Bool Unit) :=
  if x456 = true then some (.inl false)
  else rec_catenaryref09_SameAll_l11 (IntKind.i64.wrap (x361 + 1))
def catenaryref09_SameAll_l11 (k : Nat) (x1 : List M53) (x7 : List M53) : Nat → Int → Option (Sum Bool Unit)
  | 0, _ => none
  | j + 1, x361 =>
    if (decide (x361 < (x1.length : Int))) = true then (
      ((ix x1 x361).bind fun x461 =>
        (ix x7 x361).bind fun x468 =>
        (catenaryref09_Same k x461 x468).bind fun y475 =>
        some (!y475) : Option Bool).bind fun s477 => catenaryref09_SameAll_r12 (catenaryref09_SameAll_l11 k x1 x7 j) x361 s477)
    else some (.inr ())
def catenaryref09_SameAll (k : Nat) (x1 : List M53) (x7 : List M53) : Option Bool :=
  if ((x1.length : Int) != (x7.length : Int)) = true then some false
  else (catenaryref09_SameAll_l11 k x1 x7 k 0 : Option (Sum Bool Unit)).bind fun
    | .inl z => some z
    | .inr _ => catenaryref09_SameAll_r10
theorem catenaryref09_SameAll_s {k : Nat} {x1 : List M53} {x7 : List M53} {p2 : Option Addr} {c3 : Nat} {d5 : Ch} {p8 : Option Addr} {c9 : Nat} {d11 : Ch} {r : Bool} (hk : catenaryref09_SameAll k x1 x7 = some r) {g w : World} {F : Ch} {ih : IH} (h4 : RSl e53 ih d5 p2 c3 x1) (h6 : ∀ q ∈ d5, q ∈ F) (h10 : RSl e53 ih d11 p8 c9 x7) (h12 : ∀ q ∈ d11, q ∈ F) (hw : St g w [F] ih) :
    CallsR Try.prog 60 #[.slice p2 x1.length c3, .slice p8 x7.length c9] w fun v w' => v = .bool r ∧ St g w' [F] ih := by
  refine f_in (vs := [.slice p2 x1.length c3, .slice p8 x7.length c9]) Try.func60 rfl 27 rfl (by kernel_rfl) [(0, .slice p2 x1.length c3), (1, .slice p8 x7.length c9)] (by kernel_rfl) fun a Qf hQ hQn hs => ?_
  refine c_seq ?_
  refine c_region ?_
  refine pures hs 1 [0, 1] [(0, .slice p2 x1.length c3), (1, .slice p8 x7.length c9)] (by kernel_rfl) fun a hs => ?_
  refine s_end ?_
  refine c_seq ?_
  refine c_seq ?_
  refine c_region ?_
  refine pures hs 5 [0, 1, 10] [(0, .slice p2 x1.length c3), (1, .slice p8 x7.length c9), (10, .bool ((x1.length : Int) != (x7.length : Int)))] (by kernel_rfl) fun a hs => ?_
  refine s_end ?_
  rcases ifbE hk with ⟨h247, hk⟩ | ⟨h247, hk⟩
  · refine c_cond1 hs (by kernel_rfl) (t := ((x1.length : Int) != (x7.length : Int))) (by kernel_rfl) h247 ?_
    refine c_seq ?_
    refine c_region ?_
    refine pures hs 1 [4] [(4, .bool false)] (by kernel_rfl) fun a hs => ?_
    refine s_end ?_
    refine wp_ret ?_
    obtain rfl := someE hk
    refine hQ _ _ (f_ret1 hs rfl (v := .bool false) (by kernel_rfl) ⟨rfl, hw.pick [0] (by kernel_rfl)⟩)
  · refine c_cond0 hs (by kernel_rfl) (t := ((x1.length : Int) != (x7.length : Int))) (by kernel_rfl) h247 ?_
    refine wp_skip ?_
    refine c_seq ?_
    refine c_seq ?_
    refine c_region ?_
    refine pures hs 1 [0, 1, 5] [(0, .slice p2 x1.length c3), (1, .slice p8 x7.length c9), (5, .int .i64 0)] (by kernel_rfl) fun a hs => ?_
    refine s_end ?_
    refine c_block ?_
    obtain ⟨y418, hx419, hk⟩ := bindE hk
    obtain ⟨J420, hJ420⟩ : ∃ J : Act → World → Prop, ∀ a w, J a w ↔ (catenaryref09_SameAll_r10 = some r ∧ Sees a 27 [] ∧ St g w [F] ih) := ⟨_, fun _ _ => Iff.rfl⟩
    obtain ⟨I421, hI421⟩ : ∃ J : Nat → Act → World → Prop, ∀ j a w, J j a w ↔ (∃ (x361 : Int), catenaryref09_SameAll_l11 k x1 x7 j x361 = some y418 ∧ Sees a 27 [(0, .slice p2 x1.length c3), (1, .slice p8 x7.length c9), (5, .int .i64 x361)] ∧ St g w [F] ih) := ⟨_, fun _ _ _ => Iff.rfl⟩
    refine c_exitJ 0 J420 ?_ ?_
    · refine c_loop I421 k ((hI421 _ _ _).2 ⟨0, hx419, hs.cast [0, 1, 5] (by kernel_rfl), hw.pick [0] (by kernel_rfl)⟩) (fun a w h0 => ?_) fun j a w hh => ?_
      · obtain ⟨_, h, _⟩ := (hI421 _ _ _).1 h0
        cases h
      · obtain ⟨x361, hx419, hs, hw⟩ := (hI421 _ _ _).1 hh
        refine c_seq ?_
        refine c_seq ?_
        refine c_region ?_
        refine pures hs 4 [0, 1, 5, 14] [(0, .slice p2 x1.length c3), (1, .slice p8 x7.length c9), (5, .int .i64 x361), (14, .bool (decide (x361 < (x1.length : Int))))] (by kernel_rfl) fun a hs => ?_
        refine s_end ?_
        rcases ifbE hx419 with ⟨h422, hx419⟩ | ⟨h422, hx419⟩
        · refine c_cond1 hs (by kernel_rfl) (t := (decide (x361 < (x1.length : Int)))) (by kernel_rfl) h422 ?_
          refine wp_skip ?_
          refine c_seq ?_
          refine c_block ?_
          refine c_seq ?_
          obtain ⟨S423, hS423, kS423⟩ := mkSX (X := [([], F)]) (ih := ih) (K := []) rfl
          obtain ⟨y458, hx459, hx419⟩ := bindE hx419
          obtain ⟨J460, hJ460⟩ : ∃ J : Act → World → Prop, ∀ a w, J a w ↔ (∃ (x456 : Bool), catenaryref09_SameAll_r12 (catenaryref09_SameAll_l11 k x1 x7 j) x361 x456 = some y418 ∧ Sees a 27 [(0, .slice p2 x1.length c3), (1, .slice p8 x7.length c9), (5, .int .i64 x361), (26, .bool x456)] ∧ St g w [F] ih) := ⟨_, fun _ _ => Iff.rfl⟩
          refine c_draw (by kernel_rfl) (N := 10) rfl S423 J460 ?_ ?_
          · have hw := hw.drew
            have hS : S423 (Array.replicate 10 false) _ := SX_now hS423 (hw.vws [0]) (by kernel_rfl)
            refine d_pures (fuel := 8) kS423 hs hS [0, 1] [0, 1, 5, 17, 18] [(0, .slice p2 x1.length c3), (1, .slice p8 x7.length c9), (5, .int .i64 x361), (17, .slice p2 x1.length c3), (18, .int .i64 x361)] (by kernel_rfl) fun a hs hS => ?_
            obtain ⟨x461, h462, hx459⟩ := bindE hx459
            refine d_index (fuel := 7) kS423 hs hS 2 rfl (by kernel_rfl) h4 (by kernel_rfl) (by kernel_rfl) (k := .i64) (by kernel_rfl) 53 (by kernel_rfl) (by kernel_rfl) h462 fun a r463 cs henc at464 hs hS => ?_
            obtain ⟨p465, c466, rfl, h467⟩ := henc
            refine d_load (fuel := 6) kS423 hs hS 3 rfl (by kernel_rfl) (fun l w hu hS => at464 w (((SX_ch hS423 0 rfl (by kernel_rfl) l w hu hS).sub h6).anti (Le.refl _))) 0 (by kernel_rfl) (by kernel_rfl) (v := .agg #[.int .i64 x461.f0, .int .u64 x461.f1, .slice p465 x461.f2.length c466, .bool x461.f3, .int .i64 x461.f4]) (by kernel_rfl) fun a hs hS => ?_
            refine d_pures (fuel := 4) kS423 hs hS [4, 5] [0, 1, 5, 17, 18, 19, 20, 21, 22] [(0, .slice p2 x1.length c3), (1, .slice p8 x7.length c9), (5, .int .i64 x361), (17, .slice p2 x1.length c3), (18, .int .i64 x361), (19, .pointer (some r463)), (20, .agg #[.int .i64 x461.f0, .int .u64 x461.f1, .slice p465 x461.f2.length c466, .bool x461.f3, .int .i64 x461.f4]), (21, .slice p8 x7.length c9), (22, .int .i64 x361)] (by kernel_rfl) fun a hs hS => ?_
            obtain ⟨x468, h469, hx459⟩ := bindE hx459
            refine d_index (fuel := 3) kS423 hs hS 6 rfl (by kernel_rfl) h10 (by kernel_rfl) (by kernel_rfl) (k := .i64) (by kernel_rfl) 53 (by kernel_rfl) (by kernel_rfl) h469 fun a r470 cs henc at471 hs hS => ?_
            obtain ⟨p472, c473, rfl, h474⟩ := henc
            refine d_load (fuel := 2) kS423 hs hS 7 rfl (by kernel_rfl) (fun l w hu hS => at471 w (((SX_ch hS423 0 rfl (by kernel_rfl) l w hu hS).sub h12).anti (Le.refl _))) 0 (by kernel_rfl) (by kernel_rfl) (v := .agg #[.int .i64 x468.f0, .int .u64 x468.f1, .slice p472 x468.f2.length c473, .bool x468.f3, .int .i64 x468.f4]) (by kernel_rfl) fun a hs hS => ?_
            refine d_all (fuel := 1) (rs := [8]) (by kernel_rfl) (by simp) (all1 ?_)
            obtain ⟨y475, h476, hx459⟩ := bindE hx459
            refine o_call hs rfl (by kernel_rfl) (by kernel_rfl) (catenaryref09_Same_s h476 h467 h474 ((hw.pick [0] (by kernel_rfl)).pack 0)) fun a w v hv hs => ?_
            obtain ⟨rfl, hw⟩ := hv
            replace hw := hw.unpack 0 rfl
            refine dg_next (SX_now hS423 ((hw.vws [0]).anti (Le.refl _)) (by kernel_rfl)) fun hS => ?_
            refine d_pures (fuel := 0) kS423 hs hS [9] [0, 1, 5, 17, 18, 19, 20, 21, 22, 23, 24, 25, 26] [(0, .slice p2 x1.length c3), (1, .slice p8 x7.length c9), (5, .int .i64 x361), (17, .slice p2 x1.length c3), (18, .int .i64 x361), (19, .pointer (some r463)), (20, .agg #[.int .i64 x461.f0, .int .u64 x461.f1, .slice p465 x461.f2.length c466, .bool x461.f3, .int .i64 x461.f4]), (21, .slice p8 x7.length c9), (22, .int .i64 x361), (23, .pointer (some r470)), (24, .agg #[.int .i64 x468.f0, .int .u64 x468.f1, .slice p472 x468.f2.length c473, .bool x468.f3, .int .i64 x468.f4]), (25, .bool y475), (26, .bool (!y475))] (by kernel_rfl) fun a hs hS => ?_
            refine d_done (by kernel_rfl) ?_
            obtain rfl := someE hx459
            exact (hJ460 _ _).2 ⟨(!y475), hx419, hs.cast [0, 1, 5, 26] (by kernel_rfl), hw.pick [0] (by kernel_rfl)⟩
          · intro a w hh
            obtain ⟨x456, hx419, hs, hw⟩ := (hJ460 _ _).1 hh
            rcases ifbE hx419 with ⟨h457, hx419⟩ | ⟨h457, hx419⟩
            · refine c_cond1 hs (by kernel_rfl) (t := x456) (by kernel_rfl) h457 ?_
              refine c_seq ?_
              refine c_region ?_
              refine pures hs 1 [4] [(4, .bool false)] (by kernel_rfl) fun a hs => ?_
              refine s_end ?_
              refine wp_ret ?_
              obtain rfl := someE hx419
              obtain rfl := someE hk
              refine hQ _ _ (f_ret1 hs rfl (v := .bool false) (by kernel_rfl) ⟨rfl, hw.pick [0] (by kernel_rfl)⟩)
            · refine c_cond0 hs (by kernel_rfl) (t := x456) (by kernel_rfl) h457 ?_
              refine wp_skip ?_
              refine c_region ?_
              refine pures hs 3 [0, 1, 5] [(0, .slice p2 x1.length c3), (1, .slice p8 x7.length c9), (5, .int .i64 (IntKind.i64.wrap (x361 + 1)))] (by kernel_rfl) fun a hs => ?_
              refine s_end ?_
              exact (hI421 _ _ _).2 ⟨(IntKind.i64.wrap (x361 + 1)), hx419, hs.cast [0, 1, 5] (by kernel_rfl), hw.pick [0] (by kernel_rfl)⟩
        · refine c_cond0 hs (by kernel_rfl) (t := (decide (x361 < (x1.length : Int)))) (by kernel_rfl) h422 ?_
          refine wp_exit ?_
          obtain rfl := someE hx419
          exact (hJ420 _ _).2 ⟨hk, hs.cast [] (by kernel_rfl), hw.pick [0] (by kernel_rfl)⟩
    · intro a w hh
      obtain ⟨hk, hs, hw⟩ := (hJ420 _ _).1 hh
      refine c_seq ?_
      refine c_region ?_
      refine pures hs 1 [4] [(4, .bool true)] (by kernel_rfl) fun a hs => ?_
      refine s_end ?_
      refine wp_ret ?_
      obtain rfl := someE hk
      refine hQ _ _ (f_ret1 hs rfl (v := .bool true) (by kernel_rfl) ⟨rfl, hw.pick [0] (by kernel_rfl)⟩)
def catenaryref25_Chain (x1 : Int) (x2 : Int) : Option Int :=
  if (decide (x2 < 1)) = true then some 0
  else if ((IntKind.u64.wrap (x2)) == 0) = true then none
  else some (IntKind.i64.wrap ((IntKind.u64.wrap (((IntKind.u64.wrap ((IntKind.u64.wrap (x1)) * 2654435761)).tmod 4294967296).tdiv 65536)).tmod (IntKind.u64.wrap (x2))))
theorem catenaryref25_Chain_s {x1 : Int} {x2 : Int} {r : Int} (hk : catenaryref25_Chain x1 x2 = some r) {g w : World} {F : Ch} {ih : IH} (hw : St g w [F] ih) :
    CallsR Try.prog 48 #[.int .u32 x1, .int .i64 x2] w fun v w' => v = .int .i64 r ∧ St g w' [F] ih := by
  refine f_in (vs := [.int .u32 x1, .int .i64 x2]) Try.func48 rfl 18 rfl (by kernel_rfl) [(0, .int .u32 x1), (1, .int .i64 x2)] (by kernel_rfl) fun a Qf hQ hQn hs => ?_
  refine c_seq ?_
  refine c_region ?_
  refine pures hs 1 [0, 1] [(0, .int .u32 x1), (1, .int .i64 x2)] (by kernel_rfl) fun a hs => ?_
  refine s_end ?_
  refine c_seq ?_
  refine c_seq ?_
  refine c_region ?_
  refine pures hs 2 [0, 1, 7] [(0, .int .u32 x1), (1, .int .i64 x2), (7, .bool (decide (x2 < 1)))] (by kernel_rfl) fun a hs => ?_
  refine s_end ?_
  rcases ifbE hk with ⟨h8, hk⟩ | ⟨h8, hk⟩
  · refine c_cond1 hs (by kernel_rfl) (t := (decide (x2 < 1))) (by kernel_rfl) h8 ?_
    refine c_seq ?_
    refine c_region ?_
    refine pures hs 1 [4] [(4, .int .i64 0)] (by kernel_rfl) fun a hs => ?_
    refine s_end ?_
    refine wp_ret ?_
    obtain rfl := someE hk
    refine hQ _ _ (f_ret1 hs rfl (v := .int .i64 0) (by kernel_rfl) ⟨rfl, hw.pick [0] (by kernel_rfl)⟩)
  · refine c_cond0 hs (by kernel_rfl) (t := (decide (x2 < 1))) (by kernel_rfl) h8 ?_
    refine wp_skip ?_
    refine c_seq ?_
    refine c_region ?_
    refine pures hs 5 [1, 5] [(1, .int .i64 x2), (5, .int .u64 ((IntKind.u64.wrap ((IntKind.u64.wrap (x1)) * 2654435761)).tmod 4294967296))] (by kernel_rfl) fun a hs => ?_
    refine s_end ?_
    refine c_seq ?_
    refine c_region ?_
    refine pures hs 4 [13, 15] [(13, .int .u64 (IntKind.u64.wrap (((IntKind.u64.wrap ((IntKind.u64.wrap (x1)) * 2654435761)).tmod 4294967296).tdiv 65536))), (15, .int .u64 (IntKind.u64.wrap (x2)))] (by kernel_rfl) fun a hs => ?_
    rcases ifbE hk with ⟨h10, hk⟩ | ⟨h10, hk⟩
    · cases hk
    · refine s_rem hs (by kernel_rfl) .u64 (i := IntKind.u64.wrap (((IntKind.u64.wrap ((IntKind.u64.wrap (x1)) * 2654435761)).tmod 4294967296).tdiv 65536)) (j := IntKind.u64.wrap (x2)) (by kernel_rfl) (by kernel_rfl) (by simpa using h10) fun a hs => ?_
      refine pures hs 2 [4] [(4, .int .i64 (IntKind.i64.wrap ((IntKind.u64.wrap (((IntKind.u64.wrap ((IntKind.u64.wrap (x1)) * 2654435761)).tmod 4294967296).tdiv 65536)).tmod (IntKind.u64.wrap (x2)))))] (by kernel_rfl) fun a hs => ?_
      refine s_end ?_
      refine wp_ret ?_
      obtain rfl := someE hk
      refine hQ _ _ (f_ret1 hs rfl (v := .int .i64 (IntKind.i64.wrap ((IntKind.u64.wrap (((IntKind.u64.wrap ((IntKind.u64.wrap (x1)) * 2654435761)).tmod 4294967296).tdiv 65536)).tmod (IntKind.u64.wrap (x2))))) (by kernel_rfl) ⟨rfl, hw.pick [0] (by kernel_rfl)⟩)
def catenaryref19_Head (k : Nat) (x1 : M53) : Option Int :=
  (catenaryref09_Right k x1).bind fun y30 =>
  if (!y30) = true then some 0
  else (ix x1.f2 0).bind fun x37 =>
  some x37
theorem catenaryref19_Head_s {k : Nat} {x1 : M53} {p2 : Option Addr} {c3 : Nat} {r : Int} (hk : catenaryref19_Head k x1 = some r) {g w : World} {F : Ch} {ih : IH} (h4 : RSl e3 ih [] p2 c3 x1.f2) (hw : St g w [F] ih) :
    CallsR Try.prog 36 #[.agg #[.int .i64 x1.f0, .int .u64 x1.f1, .slice p2 x1.f2.length c3, .bool x1.f3, .int .i64 x1.f4]] w fun v w' => v = .int .i64 r ∧ St g w' [F] ih := by
  refine f_in (vs := [.agg #[.int .i64 x1.f0, .int .u64 x1.f1, .slice p2 x1.f2.length c3, .bool x1.f3, .int .i64 x1.f4]]) Try.func36 rfl 10 rfl (by kernel_rfl) [(0, .agg #[.int .i64 x1.f0, .int .u64 x1.f1, .slice p2 x1.f2.length c3, .bool x1.f3, .int .i64 x1.f4])] (by kernel_rfl) fun a Qf hQ hQn hs => ?_
  refine c_seq ?_
  refine c_region ?_
  refine s_new hs hw [.int .i64 x1.f0, .int .u64 x1.f1, .slice p2 x1.f2.length c3, .bool x1.f3, .int .i64 x1.f4] 53 (fun b => .pointer (some ⟨b, 0, none⟩)) (by kernel_rfl) (fun _ => by kernel_rfl) fun a w b26 hs hw => ?_
  refine pures hs 1 [1] [(1, .pointer (some ⟨b26, 0, none⟩))] (by kernel_rfl) fun a hs => ?_
  refine s_end ?_
  refine c_seq ?_
  refine c_seq ?_
  refine c_region ?_
  refine s_load hs (hw.at_ 0 rfl) 0 (by kernel_rfl) (by kernel_rfl) (v := .agg #[.int .i64 x1.f0, .int .u64 x1.f1, .slice p2 x1.f2.length c3, .bool x1.f3, .int .i64 x1.f4]) (by kernel_rfl) fun a hs => ?_
  obtain ⟨y30, h31, hk⟩ := bindE hk
  refine s_call hs (by kernel_rfl) (by kernel_rfl) (catenaryref09_Right_s h31 h4 ((hw.pick [0, 1] (by kernel_rfl)).pack 0)) fun a w v hv hs => ?_
  obtain ⟨rfl, hw⟩ := hv
  replace hw := hw.unpack 0 rfl
  refine pures hs 1 [1, 5] [(1, .pointer (some ⟨b26, 0, none⟩)), (5, .bool (!y30))] (by kernel_rfl) fun a hs => ?_
  refine s_end ?_
  rcases ifbE hk with ⟨h32, hk⟩ | ⟨h32, hk⟩
  · refine c_cond1 hs (by kernel_rfl) (t := (!y30)) (by kernel_rfl) h32 ?_
    refine c_seq ?_
    refine c_region ?_
    refine pures hs 1 [2] [(2, .int .i64 0)] (by kernel_rfl) fun a hs => ?_
    refine s_end ?_
    refine wp_ret ?_
    obtain rfl := someE hk
    refine hQ _ _ (f_ret1 hs rfl (v := .int .i64 0) (by kernel_rfl) ⟨rfl, hw.pick [1] (by kernel_rfl)⟩)
  · refine c_cond0 hs (by kernel_rfl) (t := (!y30)) (by kernel_rfl) h32 ?_
    refine wp_skip ?_
    refine c_seq ?_
    refine c_region ?_
    refine pures hs 1 [6] [(6, .pointer (some ⟨b26, 2, none⟩))] (by kernel_rfl) fun a hs => ?_
    refine s_load hs (hw.at_ 0 rfl) 2 (by kernel_rfl) (by kernel_rfl) (v := .slice p2 x1.f2.length c3) (by kernel_rfl) fun a hs => ?_
    obtain ⟨x37, h38, hk⟩ := bindE hk
    refine s_index hs h4 (by kernel_rfl) (by kernel_rfl) (k := .i64) (by kernel_rfl) 3 (by kernel_rfl) (by kernel_rfl) h38 fun a r39 cs henc at40 hs => ?_
    obtain rfl := henc
    refine s_load hs (at40 _ (hw.vwAll.nil.anti (Le.refl _))) 0 (by kernel_rfl) (by kernel_rfl) (v := .int .i64 x37) (by kernel_rfl) fun a hs => ?_
    refine pures hs 1 [2] [(2, .int .i64 x37)] (by kernel_rfl) fun a hs => ?_
    refine s_end ?_
    refine wp_ret ?_
    obtain rfl := someE hk
    refine hQ _ _ (f_ret1 hs rfl (v := .int .i64 x37) (by kernel_rfl) ⟨rfl, hw.pick [1] (by kernel_rfl)⟩)
def catenaryref19_Reader_r2 (x76 : Int) : Option Int :=
  some x76
def catenaryref19_Reader (k : Nat) (x1 : M53) (x5 : Int) : Option Int :=
  (catenaryref09_Right k x1).bind fun y53 =>
  if (!y53) = true then some 0
  else if (decide (x5 < 0)) = true then (
    (ix x1.f2 0).bind fun x61 =>
    some x61)
  else (if ((x1.f2.length : Int) == 0) = true then none
    else (ix x1.f2 (x5.tmod (x1.f2.length : Int))).bind fun x81 =>
    some x81 : Option Int).bind fun s85 => catenaryref19_Reader_r2 s85
theorem catenaryref19_Reader_s {k : Nat} {x1 : M53} {x5 : Int} {p2 : Option Addr} {c3 : Nat} {r : Int} (hk : catenaryref19_Reader k x1 x5 = some r) {g w : World} {F : Ch} {ih : IH} (h4 : RSl e3 ih [] p2 c3 x1.f2) (hw : St g w [F] ih) :
    CallsR Try.prog 40 #[.agg #[.int .i64 x1.f0, .int .u64 x1.f1, .slice p2 x1.f2.length c3, .bool x1.f3, .int .i64 x1.f4], .int .i64 x5] w fun v w' => v = .int .i64 r ∧ St g w' [F] ih := by
  refine f_in (vs := [.agg #[.int .i64 x1.f0, .int .u64 x1.f1, .slice p2 x1.f2.length c3, .bool x1.f3, .int .i64 x1.f4], .int .i64 x5]) Try.func40 rfl 23 rfl (by kernel_rfl) [(0, .agg #[.int .i64 x1.f0, .int .u64 x1.f1, .slice p2 x1.f2.length c3, .bool x1.f3, .int .i64 x1.f4]), (1, .int .i64 x5)] (by kernel_rfl) fun a Qf hQ hQn hs => ?_
  refine c_seq ?_
  refine c_region ?_
  refine s_new hs hw [.int .i64 x1.f0, .int .u64 x1.f1, .slice p2 x1.f2.length c3, .bool x1.f3, .int .i64 x1.f4] 53 (fun b => .pointer (some ⟨b, 0, none⟩)) (by kernel_rfl) (fun _ => by kernel_rfl) fun a w b49 hs hw => ?_
  refine pures hs 1 [1, 2] [(1, .int .i64 x5), (2, .pointer (some ⟨b49, 0, none⟩))] (by kernel_rfl) fun a hs => ?_
  refine s_end ?_
  refine c_seq ?_
  refine c_seq ?_
  refine c_region ?_
  refine s_load hs (hw.at_ 0 rfl) 0 (by kernel_rfl) (by kernel_rfl) (v := .agg #[.int .i64 x1.f0, .int .u64 x1.f1, .slice p2 x1.f2.length c3, .bool x1.f3, .int .i64 x1.f4]) (by kernel_rfl) fun a hs => ?_
  obtain ⟨y53, h54, hk⟩ := bindE hk
  refine s_call hs (by kernel_rfl) (by kernel_rfl) (catenaryref09_Right_s h54 h4 ((hw.pick [0, 1] (by kernel_rfl)).pack 0)) fun a w v hv hs => ?_
  obtain ⟨rfl, hw⟩ := hv
  replace hw := hw.unpack 0 rfl
  refine pures hs 1 [1, 2, 7] [(1, .int .i64 x5), (2, .pointer (some ⟨b49, 0, none⟩)), (7, .bool (!y53))] (by kernel_rfl) fun a hs => ?_
  refine s_end ?_
  rcases ifbE hk with ⟨h55, hk⟩ | ⟨h55, hk⟩
  · refine c_cond1 hs (by kernel_rfl) (t := (!y53)) (by kernel_rfl) h55 ?_
    refine c_seq ?_
    refine c_region ?_
    refine pures hs 1 [4] [(4, .int .i64 0)] (by kernel_rfl) fun a hs => ?_
    refine s_end ?_
    refine wp_ret ?_
    obtain rfl := someE hk
    refine hQ _ _ (f_ret1 hs rfl (v := .int .i64 0) (by kernel_rfl) ⟨rfl, hw.pick [1] (by kernel_rfl)⟩)
  · refine c_cond0 hs (by kernel_rfl) (t := (!y53)) (by kernel_rfl) h55 ?_
    refine wp_skip ?_
    refine c_seq ?_
    refine c_seq ?_
    refine c_region ?_
    refine pures hs 2 [1, 2, 9] [(1, .int .i64 x5), (2, .pointer (some ⟨b49, 0, none⟩)), (9, .bool (decide (x5 < 0)))] (by kernel_rfl) fun a hs => ?_
    refine s_end ?_
    rcases ifbE hk with ⟨h56, hk⟩ | ⟨h56, hk⟩
    · refine c_cond1 hs (by kernel_rfl) (t := (decide (x5 < 0))) (by kernel_rfl) h56 ?_
      refine c_seq ?_
      refine c_region ?_
      refine pures hs 1 [10] [(10, .pointer (some ⟨b49, 2, none⟩))] (by kernel_rfl) fun a hs => ?_
      refine s_load hs (hw.at_ 0 rfl) 2 (by kernel_rfl) (by kernel_rfl) (v := .slice p2 x1.f2.length c3) (by kernel_rfl) fun a hs => ?_
      obtain ⟨x61, h62, hk⟩ := bindE hk
      refine s_index hs h4 (by kernel_rfl) (by kernel_rfl) (k := .i64) (by kernel_rfl) 3 (by kernel_rfl) (by kernel_rfl) h62 fun a r63 cs henc at64 hs => ?_
      obtain rfl := henc
      refine s_load hs (at64 _ (hw.vwAll.nil.anti (Le.refl _))) 0 (by kernel_rfl) (by kernel_rfl) (v := .int .i64 x61) (by kernel_rfl) fun a hs => ?_
      refine pures hs 1 [4] [(4, .int .i64 x61)] (by kernel_rfl) fun a hs => ?_
      refine s_end ?_
      refine wp_ret ?_
      obtain rfl := someE hk
      refine hQ _ _ (f_ret1 hs rfl (v := .int .i64 x61) (by kernel_rfl) ⟨rfl, hw.pick [1] (by kernel_rfl)⟩)
    · refine c_cond0 hs (by kernel_rfl) (t := (decide (x5 < 0))) (by kernel_rfl) h56 ?_
      refine wp_skip ?_
      refine c_seq ?_
      obtain ⟨S65, hS65, kS65⟩ := mkSX (X := [([], bx b49 [.int .i64 x1.f0, .int .u64 x1.f1, .slice p2 x1.f2.length c3, .bool x1.f3, .int .i64 x1.f4] 53), ([], F)]) (ih := ih) (K := []) rfl
      obtain ⟨y77, hx78, hk⟩ := bindE hk
      obtain ⟨J79, hJ79⟩ : ∃ J : Act → World → Prop, ∀ a w, J a w ↔ (∃ (x76 : Int), catenaryref19_Reader_r2 x76 = some r ∧ Sees a 23 [(4, .int .i64 x76)] ∧ St g w [F] ih) := ⟨_, fun _ _ => Iff.rfl⟩
      refine c_draw (by kernel_rfl) (N := 10) rfl S65 J79 ?_ ?_
      · have hw := hw.drew
        have hS : S65 (Array.replicate 10 false) _ := SX_now hS65 (hw.vws [0, 1]) (by kernel_rfl)
        refine d_pures (fuel := 9) kS65 hs hS [0] [1, 2, 14] [(1, .int .i64 x5), (2, .pointer (some ⟨b49, 0, none⟩)), (14, .pointer (some ⟨b49, 2, none⟩))] (by kernel_rfl) fun a hs hS => ?_
        refine d_load (fuel := 8) kS65 hs hS 1 rfl (by kernel_rfl) (SX_box hS65 0 rfl (by kernel_rfl)) 2 (by kernel_rfl) (by kernel_rfl) (v := .slice p2 x1.f2.length c3) (by kernel_rfl) fun a hs hS => ?_
        refine d_pures (fuel := 6) kS65 hs hS [2, 3] [1, 2, 14, 15, 16, 17] [(1, .int .i64 x5), (2, .pointer (some ⟨b49, 0, none⟩)), (14, .pointer (some ⟨b49, 2, none⟩)), (15, .slice p2 x1.f2.length c3), (16, .int .i64 x5), (17, .pointer (some ⟨b49, 2, none⟩))] (by kernel_rfl) fun a hs hS => ?_
        refine d_load (fuel := 5) kS65 hs hS 4 rfl (by kernel_rfl) (SX_box hS65 0 rfl (by kernel_rfl)) 2 (by kernel_rfl) (by kernel_rfl) (v := .slice p2 x1.f2.length c3) (by kernel_rfl) fun a hs hS => ?_
        refine d_pures (fuel := 4) kS65 hs hS [5] [1, 2, 14, 15, 16, 17, 18, 19] [(1, .int .i64 x5), (2, .pointer (some ⟨b49, 0, none⟩)), (14, .pointer (some ⟨b49, 2, none⟩)), (15, .slice p2 x1.f2.length c3), (16, .int .i64 x5), (17, .pointer (some ⟨b49, 2, none⟩)), (18, .slice p2 x1.f2.length c3), (19, .int .i64 (x1.f2.length : Int))] (by kernel_rfl) fun a hs hS => ?_
        rcases ifbE hx78 with ⟨h80, hx78⟩ | ⟨h80, hx78⟩
        · cases hx78
        · refine d_rem (fuel := 3) kS65 hs hS 6 rfl (by kernel_rfl) (by kernel_rfl) .i64 (i := x5) (j := (x1.f2.length : Int)) (by kernel_rfl) (by kernel_rfl) (by simpa using h80) fun a hs hS => ?_
          obtain ⟨x81, h82, hx78⟩ := bindE hx78
          refine d_index (fuel := 2) kS65 hs hS 7 rfl (by kernel_rfl) h4 (by kernel_rfl) (by kernel_rfl) (k := .i64) (by kernel_rfl) 3 (by kernel_rfl) (by kernel_rfl) h82 fun a r83 cs henc at84 hs hS => ?_
          obtain rfl := henc
          refine d_load (fuel := 1) kS65 hs hS 8 rfl (by kernel_rfl) (fun l w hu hS => at84 w ((SX_nil hS65 l w hu hS).anti (Le.refl _))) 0 (by kernel_rfl) (by kernel_rfl) (v := .int .i64 x81) (by kernel_rfl) fun a hs hS => ?_
          refine d_pures (fuel := 0) kS65 hs hS [9] [1, 2, 14, 15, 16, 17, 18, 19, 20, 21, 22, 4] [(1, .int .i64 x5), (2, .pointer (some ⟨b49, 0, none⟩)), (14, .pointer (some ⟨b49, 2, none⟩)), (15, .slice p2 x1.f2.length c3), (16, .int .i64 x5), (17, .pointer (some ⟨b49, 2, none⟩)), (18, .slice p2 x1.f2.length c3), (19, .int .i64 (x1.f2.length : Int)), (20, .int .i64 (x5.tmod (x1.f2.length : Int))), (21, .pointer (some r83)), (22, .int .i64 x81), (4, .int .i64 x81)] (by kernel_rfl) fun a hs hS => ?_
          refine d_done (by kernel_rfl) ?_
          obtain rfl := someE hx78
          exact (hJ79 _ _).2 ⟨x81, hk, hs.cast [4] (by kernel_rfl), hw.pick [1] (by kernel_rfl)⟩
      · intro a w hh
        obtain ⟨x76, hk, hs, hw⟩ := (hJ79 _ _).1 hh
        refine wp_ret ?_
        obtain rfl := someE hk
        refine hQ _ _ (f_ret1 hs rfl (v := .int .i64 x76) (by kernel_rfl) ⟨rfl, hw.pick [0] (by kernel_rfl)⟩)
def role_Newer_r2 (x52 : Bool) : Option Bool :=
  some x52
def role_Newer (k : Nat) (x1 : M53) (x5 : M53) : Option Bool :=
  ((conf_Right k x5).bind fun y56 =>
    if y56 = true then (
      if (x1.f0 == x5.f0) = true then some (decide (x1.f1 < x5.f1))
      else some false)
    else some false : Option Bool).bind fun s60 => role_Newer_r2 s60
theorem role_Newer_s {k : Nat} {x1 : M53} {x5 : M53} {p2 : Option Addr} {c3 : Nat} {p6 : Option Addr} {c7 : Nat} {r : Bool} (hk : role_Newer k x1 x5 = some r) {g w : World} {F : Ch} {ih : IH} (h4 : RSl e3 ih [] p2 c3 x1.f2) (h8 : RSl e3 ih [] p6 c7 x5.f2) (hw : St g w [F] ih) :
    CallsR Try.prog 43 #[.agg #[.int .i64 x1.f0, .int .u64 x1.f1, .slice p2 x1.f2.length c3, .bool x1.f3, .int .i64 x1.f4], .agg #[.int .i64 x5.f0, .int .u64 x5.f1, .slice p6 x5.f2.length c7, .bool x5.f3, .int .i64 x5.f4]] w fun v w' => v = .bool r ∧ St g w' [F] ih := by
  refine f_in (vs := [.agg #[.int .i64 x1.f0, .int .u64 x1.f1, .slice p2 x1.f2.length c3, .bool x1.f3, .int .i64 x1.f4], .agg #[.int .i64 x5.f0, .int .u64 x5.f1, .slice p6 x5.f2.length c7, .bool x5.f3, .int .i64 x5.f4]]) Try.func43 rfl 21 rfl (by kernel_rfl) [(0, .agg #[.int .i64 x1.f0, .int .u64 x1.f1, .slice p2 x1.f2.length c3, .bool x1.f3, .int .i64 x1.f4]), (1, .agg #[.int .i64 x5.f0, .int .u64 x5.f1, .slice p6 x5.f2.length c7, .bool x5.f3, .int .i64 x5.f4])] (by kernel_rfl) fun a Qf hQ hQn hs => ?_
  refine c_seq ?_
  refine c_region ?_
  refine s_new hs hw [.int .i64 x1.f0, .int .u64 x1.f1, .slice p2 x1.f2.length c3, .bool x1.f3, .int .i64 x1.f4] 53 (fun b => .pointer (some ⟨b, 0, none⟩)) (by kernel_rfl) (fun _ => by kernel_rfl) fun a w b40 hs hw => ?_
  refine s_new hs hw [.int .i64 x5.f0, .int .u64 x5.f1, .slice p6 x5.f2.length c7, .bool x5.f3, .int .i64 x5.f4] 53 (fun b => .pointer (some ⟨b, 0, none⟩)) (by kernel_rfl) (fun _ => by kernel_rfl) fun a w b42 hs hw => ?_
  refine pures hs 1 [2, 3] [(2, .pointer (some ⟨b40, 0, none⟩)), (3, .pointer (some ⟨b42, 0, none⟩))] (by kernel_rfl) fun a hs => ?_
  refine s_end ?_
  refine c_seq ?_
  obtain ⟨y53, hx54, hk⟩ := bindE hk
  obtain ⟨J55, hJ55⟩ : ∃ J : Act → World → Prop, ∀ a w, J a w ↔ (∃ (x52 : Bool), role_Newer_r2 x52 = some r ∧ Sees a 21 [(4, .bool x52)] ∧ St g w [F] ih) := ⟨_, fun _ _ => Iff.rfl⟩
  refine c_regJ J55 ?_ ?_
  · refine s_load hs (hw.at_ 0 rfl) 0 (by kernel_rfl) (by kernel_rfl) (v := .agg #[.int .i64 x5.f0, .int .u64 x5.f1, .slice p6 x5.f2.length c7, .bool x5.f3, .int .i64 x5.f4]) (by kernel_rfl) fun a hs => ?_
    obtain ⟨y56, h57, hx54⟩ := bindE hx54
    refine s_call hs (by kernel_rfl) (by kernel_rfl) (conf_Right_s h57 h8 ((hw.pick [0, 1, 2] (by kernel_rfl)).pack 0)) fun a w v hv hs => ?_
    obtain ⟨rfl, hw⟩ := hv
    replace hw := hw.unpack 0 rfl
    refine pures hs 1 [2, 3, 7] [(2, .pointer (some ⟨b40, 0, none⟩)), (3, .pointer (some ⟨b42, 0, none⟩)), (7, .bool y56)] (by kernel_rfl) fun a hs => ?_
    rcases ifbE hx54 with ⟨h58, hx54⟩ | ⟨h58, hx54⟩
    · replace hs := hs.altB 7 true (by kernel_rfl) h58
      refine pures hs 1 [2, 3, 7, 8] [(2, .pointer (some ⟨b40, 0, none⟩)), (3, .pointer (some ⟨b42, 0, none⟩)), (7, .bool true), (8, .pointer (some ⟨b40, 0, none⟩))] (by kernel_rfl) fun a hs => ?_
      refine s_load hs (hw.at_ 1 rfl) 0 (by kernel_rfl) (by kernel_rfl) (v := .int .i64 x1.f0) (by kernel_rfl) fun a hs => ?_
      refine pures hs 1 [2, 3, 7, 9, 10] [(2, .pointer (some ⟨b40, 0, none⟩)), (3, .pointer (some ⟨b42, 0, none⟩)), (7, .bool true), (9, .int .i64 x1.f0), (10, .pointer (some ⟨b42, 0, none⟩))] (by kernel_rfl) fun a hs => ?_
      refine s_load hs (hw.at_ 0 rfl) 0 (by kernel_rfl) (by kernel_rfl) (v := .int .i64 x5.f0) (by kernel_rfl) fun a hs => ?_
      refine pures hs 3 [2, 3, 14] [(2, .pointer (some ⟨b40, 0, none⟩)), (3, .pointer (some ⟨b42, 0, none⟩)), (14, .bool (x1.f0 == x5.f0))] (by kernel_rfl) fun a hs => ?_
      rcases ifbE hx54 with ⟨h59, hx54⟩ | ⟨h59, hx54⟩
      · replace hs := hs.altB 14 true (by kernel_rfl) h59
        refine pures hs 1 [3, 14, 15] [(3, .pointer (some ⟨b42, 0, none⟩)), (14, .bool true), (15, .pointer (some ⟨b40, 1, none⟩))] (by kernel_rfl) fun a hs => ?_
        refine s_load hs (hw.at_ 1 rfl) 1 (by kernel_rfl) (by kernel_rfl) (v := .int .u64 x1.f1) (by kernel_rfl) fun a hs => ?_
        refine pures hs 1 [14, 16, 17] [(14, .bool true), (16, .int .u64 x1.f1), (17, .pointer (some ⟨b42, 1, none⟩))] (by kernel_rfl) fun a hs => ?_
        refine s_load hs (hw.at_ 0 rfl) 1 (by kernel_rfl) (by kernel_rfl) (v := .int .u64 x5.f1) (by kernel_rfl) fun a hs => ?_
        refine pures hs 3 [4] [(4, .bool (decide (x1.f1 < x5.f1)))] (by kernel_rfl) fun a hs => ?_
        refine s_end ?_
        obtain rfl := someE hx54
        exact (hJ55 _ _).2 ⟨(decide (x1.f1 < x5.f1)), hk, hs.cast [4] (by kernel_rfl), hw.pick [2] (by kernel_rfl)⟩
      · replace hs := hs.altB 14 false (by kernel_rfl) h59
        refine pures hs 7 [4] [(4, .bool false)] (by kernel_rfl) fun a hs => ?_
        refine s_end ?_
        obtain rfl := someE hx54
        exact (hJ55 _ _).2 ⟨false, hk, hs.cast [4] (by kernel_rfl), hw.pick [2] (by kernel_rfl)⟩
    · replace hs := hs.altB 7 false (by kernel_rfl) h58
      refine pures hs 14 [4] [(4, .bool false)] (by kernel_rfl) fun a hs => ?_
      refine s_end ?_
      obtain rfl := someE hx54
      exact (hJ55 _ _).2 ⟨false, hk, hs.cast [4] (by kernel_rfl), hw.pick [2] (by kernel_rfl)⟩
  · intro a w hh
    obtain ⟨x52, hk, hs, hw⟩ := (hJ55 _ _).1 hh
    refine wp_ret ?_
    obtain rfl := someE hk
    refine hQ _ _ (f_ret1 hs rfl (v := .bool x52) (by kernel_rfl) ⟨rfl, hw.pick [0] (by kernel_rfl)⟩)
def atlas_Atlas_Learn_2_r3 (x289 : List M53) : Option (Bool × (List M53)) :=
  some (true, x289)
def atlas_Atlas_Learn_2_r4 (k : Nat) (x3 : List M53) (x24 : M53) (x222 : Bool) : Option (Bool × (List M53)) :=
  if x222 = true then some (false, x3)
  else ((conf_Copy k ([x24])).bind fun y300 =>
    (ix y300 0).bind fun x309 =>
    (ix x3 x24.f0).bind fun x317 =>
    some (x3.set x24.f0.toNat x309) : Option (List M53)).bind fun s329 => atlas_Atlas_Learn_2_r3 s329
def atlas_Atlas_Learn_2 (k : Nat) (x3 : List M53) (x11 : Int) (x12 : Int) (x13 : Int) (x16 : Int) (x17 : Int) (x18 : List (List Int)) (x24 : M53) : Option (Bool × (List M53)) :=
  (if (decide (x24.f0 < 0)) = true then some true
    else (atlas_Atlas_Chains_2 x3 x11 x12 x13 x16 x17 x18).bind fun y334 =>
    if (decide (x24.f0 ≥ y334)) = true then some true
    else (ix x3 x24.f0).bind fun x337 =>
    (role_Newer k x337 x24).bind fun y345 =>
    some (!y345) : Option Bool).bind fun s347 => atlas_Atlas_Learn_2_r4 k x3 x24 s347
theorem atlas_Atlas_Learn_2_s {k : Nat} {x3 : List M53} {x11 : Int} {x12 : Int} {x13 : Int} {x16 : Int} {x17 : Int} {x18 : List (List Int)} {x24 : M53} {b1 : Nat} {p4 : Option Addr} {c5 : Nat} {d7 : Ch} {b9 : Nat} {b14 : Nat} {p19 : Option Addr} {c20 : Nat} {d22 : Ch} {p25 : Option Addr} {c26 : Nat} {r : Bool × (List M53)} (hk : atlas_Atlas_Learn_2 k x3 x11 x12 x13 x16 x17 x18 x24 = some r) {g w : World} {F : Ch} {ih : IH} (h6 : OSl e53 ih p4 c5 x3 d7) (h21 : OSl e40 ih p19 c20 x18 d22) (h27 : RSl e3 ih [] p25 c26 x24.f2) (hw : St g w [bx b1 [.slice p4 x3.length c5, .pointer (some ⟨b9, 0, none⟩)] 125, d7, bx b9 [.int .u32 x11, .int .i32 x12, .int .u32 x13, .func (.func 93) #[] #[.pointer (some ⟨b14, 0, none⟩)], .int .i32 x17, .slice p19 x18.length c20] 157, bx b14 [.int .i64 x16] 3, d22, F] ih) :
    CallsR Try.prog 59 #[.pointer (some ⟨b1, 0, none⟩), .agg #[.int .i64 x24.f0, .int .u64 x24.f1, .slice p25 x24.f2.length c26, .bool x24.f3, .int .i64 x24.f4]] w fun v w' => ∃ (ih' : IH) (p348 : Option Addr) (c349 : Nat) (d350 : Ch), v = .bool r.1 ∧ St g w' [bx b1 [.slice p348 r.2.length c349, .pointer (some ⟨b9, 0, none⟩)] 125, d350, bx b9 [.int .u32 x11, .int .i32 x12, .int .u32 x13, .func (.func 93) #[] #[.pointer (some ⟨b14, 0, none⟩)], .int .i32 x17, .slice p19 x18.length c20] 157, bx b14 [.int .i64 x16] 3, d22, F] ih' ∧ Le ih ih' ∧ OSl e53 ih' p348 c349 r.2 d350 := by
  refine f_in (vs := [.pointer (some ⟨b1, 0, none⟩), .agg #[.int .i64 x24.f0, .int .u64 x24.f1, .slice p25 x24.f2.length c26, .bool x24.f3, .int .i64 x24.f4]]) Try.func59 rfl 40 rfl (by kernel_rfl) [(0, .pointer (some ⟨b1, 0, none⟩)), (1, .agg #[.int .i64 x24.f0, .int .u64 x24.f1, .slice p25 x24.f2.length c26, .bool x24.f3, .int .i64 x24.f4])] (by kernel_rfl) fun a Qf hQ hQn hs => ?_
  refine c_seq ?_
  refine c_region ?_
  refine s_new hs hw [.int .i64 x24.f0, .int .u64 x24.f1, .slice p25 x24.f2.length c26, .bool x24.f3, .int .i64 x24.f4] 53 (fun b => .pointer (some ⟨b, 0, none⟩)) (by kernel_rfl) (fun _ => by kernel_rfl) fun a w b191 hs hw => ?_
  refine pures hs 1 [0, 3] [(0, .pointer (some ⟨b1, 0, none⟩)), (3, .pointer (some ⟨b191, 0, none⟩))] (by kernel_rfl) fun a hs => ?_
  refine s_end ?_
  refine c_seq ?_
  refine c_seq ?_
  obtain ⟨S193, hS193, kS193⟩ := mkSX (X := [([], bx b191 [.int .i64 x24.f0, .int .u64 x24.f1, .slice p25 x24.f2.length c26, .bool x24.f3, .int .i64 x24.f4] 53), ([], bx b1 [.slice p4 x3.length c5, .pointer (some ⟨b9, 0, none⟩)] 125), ([], d7), ([], bx b9 [.int .u32 x11, .int .i32 x12, .int .u32 x13, .func (.func 93) #[] #[.pointer (some ⟨b14, 0, none⟩)], .int .i32 x17, .slice p19 x18.length c20] 157), ([], bx b14 [.int .i64 x16] 3), ([], d22), ([], F)]) (ih := ih) (K := []) rfl
  obtain ⟨y330, hx331, hk⟩ := bindE hk
  obtain ⟨J332, hJ332⟩ : ∃ J : Act → World → Prop, ∀ a w, J a w ↔ (∃ (x222 : Bool), atlas_Atlas_Learn_2_r4 k x3 x24 x222 = some r ∧ Sees a 40 [(0, .pointer (some ⟨b1, 0, none⟩)), (3, .pointer (some ⟨b191, 0, none⟩)), (27, .bool x222)] ∧ St g w [bx b191 [.int .i64 x24.f0, .int .u64 x24.f1, .slice p25 x24.f2.length c26, .bool x24.f3, .int .i64 x24.f4] 53, bx b1 [.slice p4 x3.length c5, .pointer (some ⟨b9, 0, none⟩)] 125, bx b9 [.int .u32 x11, .int .i32 x12, .int .u32 x13, .func (.func 93) #[] #[.pointer (some ⟨b14, 0, none⟩)], .int .i32 x17, .slice p19 x18.length c20] 157, bx b14 [.int .i64 x16] 3, d7, d22, F] ih) := ⟨_, fun _ _ => Iff.rfl⟩
  refine c_draw (by kernel_rfl) (N := 23) rfl S193 J332 ?_ ?_
  · have hw := hw.drew
    have hS : S193 (Array.replicate 23 false) _ := SX_now hS193 (hw.vws [0, 1, 2, 3, 4, 5, 6]) (by kernel_rfl)
    refine d_pures (fuel := 22) kS193 hs hS [0] [0, 3, 5] [(0, .pointer (some ⟨b1, 0, none⟩)), (3, .pointer (some ⟨b191, 0, none⟩)), (5, .pointer (some ⟨b191, 0, none⟩))] (by kernel_rfl) fun a hs hS => ?_
    refine d_load (fuel := 21) kS193 hs hS 1 rfl (by kernel_rfl) (SX_box hS193 0 rfl (by kernel_rfl)) 0 (by kernel_rfl) (by kernel_rfl) (v := .int .i64 x24.f0) (by kernel_rfl) fun a hs hS => ?_
    refine d_pures (fuel := 19) kS193 hs hS [2, 3] [0, 3, 5, 6, 7, 8] [(0, .pointer (some ⟨b1, 0, none⟩)), (3, .pointer (some ⟨b191, 0, none⟩)), (5, .pointer (some ⟨b191, 0, none⟩)), (6, .int .i64 x24.f0), (7, .bool (decide (x24.f0 < 0))), (8, .bool (decide (x24.f0 < 0)))] (by kernel_rfl) fun a hs hS => ?_
    rcases ifbE hx331 with ⟨h333, hx331⟩ | ⟨h333, hx331⟩
    · replace hs := hs.altB 8 true (by kernel_rfl) h333
      refine d_pures (fuel := 0) kS193 hs hS [4, 5, 6, 7, 8, 9, 10, 11, 12, 13, 14, 15, 16, 17, 18, 19, 20, 21, 22] [0, 3, 5, 6, 7, 8, 9, 10, 11, 12, 13, 14, 15, 16, 17, 18, 19, 20, 21, 22, 23, 24, 25, 26, 27] [(0, .pointer (some ⟨b1, 0, none⟩)), (3, .pointer (some ⟨b191, 0, none⟩)), (5, .pointer (some ⟨b191, 0, none⟩)), (6, .int .i64 x24.f0), (7, .bool (decide (x24.f0 < 0))), (8, .bool true), (9, undef), (10, undef), (11, undef), (12, undef), (13, undef), (14, .bool true), (15, .bool true), (16, undef), (17, undef), (18, undef), (19, undef), (20, undef), (21, undef), (22, undef), (23, undef), (24, undef), (25, undef), (26, undef), (27, .bool true)] (by kernel_rfl) fun a hs hS => ?_
      refine d_done (by kernel_rfl) ?_
      obtain rfl := someE hx331
      exact (hJ332 _ _).2 ⟨true, hk, hs.cast [0, 3, 27] (by kernel_rfl), hw.pick [0, 1, 3, 4, 2, 5, 6] (by kernel_rfl)⟩
    · replace hs := hs.altB 8 false (by kernel_rfl) h333
      refine d_pures (fuel := 18) kS193 hs hS [4] [0, 3, 5, 6, 7, 8, 9] [(0, .pointer (some ⟨b1, 0, none⟩)), (3, .pointer (some ⟨b191, 0, none⟩)), (5, .pointer (some ⟨b191, 0, none⟩)), (6, .int .i64 x24.f0), (7, .bool (decide (x24.f0 < 0))), (8, .bool false), (9, .pointer (some ⟨b191, 0, none⟩))] (by kernel_rfl) fun a hs hS => ?_
      refine d_load (fuel := 17) kS193 hs hS 5 rfl (by kernel_rfl) (SX_box hS193 0 rfl (by kernel_rfl)) 0 (by kernel_rfl) (by kernel_rfl) (v := .int .i64 x24.f0) (by kernel_rfl) fun a hs hS => ?_
      refine d_pures (fuel := 16) kS193 hs hS [6] [0, 3, 5, 6, 7, 8, 9, 10, 11] [(0, .pointer (some ⟨b1, 0, none⟩)), (3, .pointer (some ⟨b191, 0, none⟩)), (5, .pointer (some ⟨b191, 0, none⟩)), (6, .int .i64 x24.f0), (7, .bool (decide (x24.f0 < 0))), (8, .bool false), (9, .pointer (some ⟨b191, 0, none⟩)), (10, .int .i64 x24.f0), (11, .pointer (some ⟨b1, 0, none⟩))] (by kernel_rfl) fun a hs hS => ?_
      refine d_all (fuel := 15) (rs := [7]) (by kernel_rfl) (by simp) (all1 ?_)
      obtain ⟨y334, h335, hx331⟩ := bindE hx331
      refine o_call hs rfl (by kernel_rfl) (by kernel_rfl) (atlas_Atlas_Chains_2_s h335 h6 h21 ((hw.pick [1, 2, 3, 4, 5, 0, 6] (by kernel_rfl)).pack 5)) fun a w v hv hs => ?_
      obtain ⟨rfl, hw⟩ := hv
      replace hw := hw.unpack 5 rfl
      refine dg_next (SX_now hS193 ((hw.vws [5, 0, 1, 2, 3, 4, 6]).anti (Le.refl _)) (by kernel_rfl)) fun hS => ?_
      refine d_pures (fuel := 12) kS193 hs hS [8, 9, 10] [0, 3, 5, 6, 7, 8, 9, 10, 11, 12, 13, 14, 15] [(0, .pointer (some ⟨b1, 0, none⟩)), (3, .pointer (some ⟨b191, 0, none⟩)), (5, .pointer (some ⟨b191, 0, none⟩)), (6, .int .i64 x24.f0), (7, .bool (decide (x24.f0 < 0))), (8, .bool false), (9, .pointer (some ⟨b191, 0, none⟩)), (10, .int .i64 x24.f0), (11, .pointer (some ⟨b1, 0, none⟩)), (12, .int .i64 y334), (13, .bool (decide (x24.f0 ≥ y334))), (14, .bool (decide (x24.f0 ≥ y334))), (15, .bool (decide (x24.f0 ≥ y334)))] (by kernel_rfl) fun a hs hS => ?_
      rcases ifbE hx331 with ⟨h336, hx331⟩ | ⟨h336, hx331⟩
      · replace hs := hs.altB 15 true (by kernel_rfl) h336
        refine d_pures (fuel := 0) kS193 hs hS [11, 12, 13, 14, 15, 16, 17, 18, 19, 20, 21, 22] [0, 3, 5, 6, 7, 8, 9, 10, 11, 12, 13, 14, 15, 16, 17, 18, 19, 20, 21, 22, 23, 24, 25, 26, 27] [(0, .pointer (some ⟨b1, 0, none⟩)), (3, .pointer (some ⟨b191, 0, none⟩)), (5, .pointer (some ⟨b191, 0, none⟩)), (6, .int .i64 x24.f0), (7, .bool (decide (x24.f0 < 0))), (8, .bool false), (9, .pointer (some ⟨b191, 0, none⟩)), (10, .int .i64 x24.f0), (11, .pointer (some ⟨b1, 0, none⟩)), (12, .int .i64 y334), (13, .bool (decide (x24.f0 ≥ y334))), (14, .bool (decide (x24.f0 ≥ y334))), (15, .bool true), (16, undef), (17, undef), (18, undef), (19, undef), (20, undef), (21, undef), (22, undef), (23, undef), (24, undef), (25, undef), (26, undef), (27, .bool true)] (by kernel_rfl) fun a hs hS => ?_
        refine d_done (by kernel_rfl) ?_
        obtain rfl := someE hx331
        exact (hJ332 _ _).2 ⟨true, hk, hs.cast [0, 3, 27] (by kernel_rfl), hw.pick [5, 0, 2, 3, 1, 4, 6] (by kernel_rfl)⟩
      · replace hs := hs.altB 15 false (by kernel_rfl) h336
        refine d_pures (fuel := 9) kS193 hs hS [11, 12, 13] [0, 3, 5, 6, 7, 8, 9, 10, 11, 12, 13, 14, 15, 16, 17, 18] [(0, .pointer (some ⟨b1, 0, none⟩)), (3, .pointer (some ⟨b191, 0, none⟩)), (5, .pointer (some ⟨b191, 0, none⟩)), (6, .int .i64 x24.f0), (7, .bool (decide (x24.f0 < 0))), (8, .bool false), (9, .pointer (some ⟨b191, 0, none⟩)), (10, .int .i64 x24.f0), (11, .pointer (some ⟨b1, 0, none⟩)), (12, .int .i64 y334), (13, .bool (decide (x24.f0 ≥ y334))), (14, .bool (decide (x24.f0 ≥ y334))), (15, .bool false), (16, .pointer (some ⟨b1, 0, none⟩)), (17, .pointer (some ⟨b1, 0, none⟩)), (18, .pointer (some ⟨b1, 0, none⟩))] (by kernel_rfl) fun a hs hS => ?_
        refine d_load (fuel := 8) kS193 hs hS 14 rfl (by kernel_rfl) (SX_box hS193 1 rfl (by kernel_rfl)) 0 (by kernel_rfl) (by kernel_rfl) (v := .slice p4 x3.length c5) (by kernel_rfl) fun a hs hS => ?_
        refine d_pures (fuel := 7) kS193 hs hS [15] [0, 3, 5, 6, 7, 8, 9, 10, 11, 12, 13, 14, 15, 16, 17, 18, 19, 20] [(0, .pointer (some ⟨b1, 0, none⟩)), (3, .pointer (some ⟨b191, 0, none⟩)), (5, .pointer (some ⟨b191, 0, none⟩)), (6, .int .i64 x24.f0), (7, .bool (decide (x24.f0 < 0))), (8, .bool false), (9, .pointer (some ⟨b191, 0, none⟩)), (10, .int .i64 x24.f0), (11, .pointer (some ⟨b1, 0, none⟩)), (12, .int .i64 y334), (13, .bool (decide (x24.f0 ≥ y334))), (14, .bool (decide (x24.f0 ≥ y334))), (15, .bool false), (16, .pointer (some ⟨b1, 0, none⟩)), (17, .pointer (some ⟨b1, 0, none⟩)), (18, .pointer (some ⟨b1, 0, none⟩)), (19, .slice p4 x3.length c5), (20, .pointer (some ⟨b191, 0, none⟩))] (by kernel_rfl) fun a hs hS => ?_
        refine d_load (fuel := 6) kS193 hs hS 16 rfl (by kernel_rfl) (SX_box hS193 0 rfl (by kernel_rfl)) 0 (by kernel_rfl) (by kernel_rfl) (v := .int .i64 x24.f0) (by kernel_rfl) fun a hs hS => ?_
        obtain ⟨x337, h338, hx331⟩ := bindE hx331
        refine d_indexO (fuel := 5) kS193 hs hS 17 rfl (by kernel_rfl) h6 (by kernel_rfl) (by kernel_rfl) (k := .i64) (by kernel_rfl) 53 (by kernel_rfl) (by kernel_rfl) h338 fun a r339 cs henc at340 h344 hs hS => ?_
        obtain ⟨p341, c342, rfl, h343⟩ := henc
        refine d_load (fuel := 4) kS193 hs hS 18 rfl (by kernel_rfl) (fun l w hu hS => at340 w ((SX_ch hS193 2 rfl (by kernel_rfl) l w hu hS).anti (Le.refl _))) 0 (by kernel_rfl) (by kernel_rfl) (v := .agg #[.int .i64 x337.f0, .int .u64 x337.f1, .slice p341 x337.f2.length c342, .bool x337.f3, .int .i64 x337.f4]) (by kernel_rfl) fun a hs hS => ?_
        refine d_load (fuel := 3) kS193 hs hS 19 rfl (by kernel_rfl) (SX_box hS193 0 rfl (by kernel_rfl)) 0 (by kernel_rfl) (by kernel_rfl) (v := .agg #[.int .i64 x24.f0, .int .u64 x24.f1, .slice p25 x24.f2.length c26, .bool x24.f3, .int .i64 x24.f4]) (by kernel_rfl) fun a hs hS => ?_
        refine d_all (fuel := 2) (rs := [20]) (by kernel_rfl) (by simp) (all1 ?_)
        obtain ⟨y345, h346, hx331⟩ := bindE hx331
        refine o_call hs rfl (by kernel_rfl) (by kernel_rfl) (role_Newer_s h346 h343 h27 ((hw.pick [0, 1, 2, 3, 4, 5, 6] (by kernel_rfl)).pack 0)) fun a w v hv hs => ?_
        obtain ⟨rfl, hw⟩ := hv
        replace hw := hw.unpack 0 rfl
        refine dg_next (SX_now hS193 ((hw.vws [5, 0, 1, 2, 3, 4, 6]).anti (Le.refl _)) (by kernel_rfl)) fun hS => ?_
        refine d_pures (fuel := 0) kS193 hs hS [21, 22] [0, 3, 5, 6, 7, 8, 9, 10, 11, 12, 13, 14, 15, 16, 17, 18, 19, 20, 21, 22, 23, 24, 25, 26, 27] [(0, .pointer (some ⟨b1, 0, none⟩)), (3, .pointer (some ⟨b191, 0, none⟩)), (5, .pointer (some ⟨b191, 0, none⟩)), (6, .int .i64 x24.f0), (7, .bool (decide (x24.f0 < 0))), (8, .bool false), (9, .pointer (some ⟨b191, 0, none⟩)), (10, .int .i64 x24.f0), (11, .pointer (some ⟨b1, 0, none⟩)), (12, .int .i64 y334), (13, .bool (decide (x24.f0 ≥ y334))), (14, .bool (decide (x24.f0 ≥ y334))), (15, .bool false), (16, .pointer (some ⟨b1, 0, none⟩)), (17, .pointer (some ⟨b1, 0, none⟩)), (18, .pointer (some ⟨b1, 0, none⟩)), (19, .slice p4 x3.length c5), (20, .pointer (some ⟨b191, 0, none⟩)), (21, .int .i64 x24.f0), (22, .pointer (some r339)), (23, .agg #[.int .i64 x337.f0, .int .u64 x337.f1, .slice p341 x337.f2.length c342, .bool x337.f3, .int .i64 x337.f4]), (24, .agg #[.int .i64 x24.f0, .int .u64 x24.f1, .slice p25 x24.f2.length c26, .bool x24.f3, .int .i64 x24.f4]), (25, .bool y345), (26, .bool (!y345)), (27, .bool (!y345))] (by kernel_rfl) fun a hs hS => ?_
        refine d_done (by kernel_rfl) ?_
        obtain rfl := someE hx331
        exact (hJ332 _ _).2 ⟨(!y345), hk, hs.cast [0, 3, 27] (by kernel_rfl), hw.pick [5, 0, 2, 3, 1, 4, 6] (by kernel_rfl)⟩
  · intro a w hh
    obtain ⟨x222, hk, hs, hw⟩ := (hJ332 _ _).1 hh
    rcases ifbE hk with ⟨h223, hk⟩ | ⟨h223, hk⟩
    · refine c_cond1 hs (by kernel_rfl) (t := x222) (by kernel_rfl) h223 ?_
      refine c_seq ?_
      refine c_region ?_
      refine pures hs 1 [4] [(4, .bool false)] (by kernel_rfl) fun a hs => ?_
      refine s_end ?_
      refine wp_ret ?_
      obtain rfl := someE hk
      refine hQ _ _ (f_ret1 hs rfl (v := .bool false) (by kernel_rfl) ⟨ih, p4, c5, d7, rfl, hw.pick [1, 4, 2, 3, 5, 6] (by kernel_rfl), (Le.refl _), h6⟩)
    · refine c_cond0 hs (by kernel_rfl) (t := x222) (by kernel_rfl) h223 ?_
      refine wp_skip ?_
      refine c_seq ?_
      obtain ⟨S224, hS224, kS224⟩ := mkSX (X := [([], bx b191 [.int .i64 x24.f0, .int .u64 x24.f1, .slice p25 x24.f2.length c26, .bool x24.f3, .int .i64 x24.f4] 53), ([12], bx b1 [.slice p4 x3.length c5, .pointer (some ⟨b9, 0, none⟩)] 125), ([], bx b9 [.int .u32 x11, .int .i32 x12, .int .u32 x13, .func (.func 93) #[] #[.pointer (some ⟨b14, 0, none⟩)], .int .i32 x17, .slice p19 x18.length c20] 157), ([], bx b14 [.int .i64 x16] 3), ([12], d7), ([], d22), ([], F)]) (ih := ih) (K := [12, 12]) rfl
      obtain ⟨y295, hx296, hk⟩ := bindE hk
      obtain ⟨J297, hJ297⟩ : ∃ J : Act → World → Prop, ∀ a w, J a w ↔ (∃ (x289 : List M53) (p290 : Option Addr) (c291 : Nat) (d293 : Ch) (ih287 : IH), atlas_Atlas_Learn_2_r3 x289 = some r ∧ Sees a 40 [] ∧ St g w [bx b1 [.slice p290 x289.length c291, .pointer (some ⟨b9, 0, none⟩)] 125, bx b9 [.int .u32 x11, .int .i32 x12, .int .u32 x13, .func (.func 93) #[] #[.pointer (some ⟨b14, 0, none⟩)], .int .i32 x17, .slice p19 x18.length c20] 157, bx b14 [.int .i64 x16] 3, d293, d22, F] ih287 ∧ Le ih ih287 ∧ OSl e53 ih287 p290 c291 x289 d293) := ⟨_, fun _ _ => Iff.rfl⟩
      refine c_draw (by kernel_rfl) (N := 13) rfl S224 J297 ?_ ?_
      · have hw := hw.drew
        have hS : S224 (Array.replicate 13 false) _ := SX_now hS224 (hw.vws [0, 1, 2, 3, 4, 5, 6]) (by kernel_rfl)
        refine d_pures (fuel := 10) kS224 hs hS [0, 1, 2] [0, 3, 28, 29, 30] [(0, .pointer (some ⟨b1, 0, none⟩)), (3, .pointer (some ⟨b191, 0, none⟩)), (28, .pointer (some ⟨b1, 0, none⟩)), (29, .pointer (some ⟨b1, 0, none⟩)), (30, .pointer (some ⟨b1, 0, none⟩))] (by kernel_rfl) fun a hs hS => ?_
        refine d_load (fuel := 9) kS224 hs hS 3 rfl (by kernel_rfl) (SX_box hS224 1 rfl (by kernel_rfl)) 0 (by kernel_rfl) (by kernel_rfl) (v := .slice p4 x3.length c5) (by kernel_rfl) fun a hs hS => ?_
        refine d_pures (fuel := 8) kS224 hs hS [4] [0, 3, 28, 29, 30, 31, 32] [(0, .pointer (some ⟨b1, 0, none⟩)), (3, .pointer (some ⟨b191, 0, none⟩)), (28, .pointer (some ⟨b1, 0, none⟩)), (29, .pointer (some ⟨b1, 0, none⟩)), (30, .pointer (some ⟨b1, 0, none⟩)), (31, .slice p4 x3.length c5), (32, .pointer (some ⟨b191, 0, none⟩))] (by kernel_rfl) fun a hs hS => ?_
        refine d_load (fuel := 7) kS224 hs hS 5 rfl (by kernel_rfl) (SX_box hS224 0 rfl (by kernel_rfl)) 0 (by kernel_rfl) (by kernel_rfl) (v := .int .i64 x24.f0) (by kernel_rfl) fun a hs hS => ?_
        refine d_load (fuel := 6) kS224 hs hS 6 rfl (by kernel_rfl) (SX_box hS224 0 rfl (by kernel_rfl)) 0 (by kernel_rfl) (by kernel_rfl) (v := .agg #[.int .i64 x24.f0, .int .u64 x24.f1, .slice p25 x24.f2.length c26, .bool x24.f3, .int .i64 x24.f4]) (by kernel_rfl) fun a hs hS => ?_
        refine d_all (fuel := 5) (rs := [7]) (by kernel_rfl) (by simp) (all1 ?_)
        refine o_new hs rfl hw [.int .i64 x24.f0, .int .u64 x24.f1, .slice p25 x24.f2.length c26, .bool x24.f3, .int .i64 x24.f4] 53 (fun b => .slice (some ⟨b, 0, none⟩) 1 1) (by kernel_rfl) (fun _ => by kernel_rfl) fun a w b298 hs hw => ?_
        refine dg_next (SX_now hS224 ((hw.vws [1, 2, 3, 4, 5, 6, 7]).anti (Le.refl _)) (by kernel_rfl)) fun hS => ?_
        refine d_all (fuel := 4) (rs := [8]) (by kernel_rfl) (by simp) (all1 ?_)
        obtain ⟨y300, h301, hx296⟩ := bindE hx296
        refine o_call hs rfl (by kernel_rfl) (by kernel_rfl) (conf_Copy_s h301 ((OSl.of1 (E := e53) (z := x24) ⟨p25, c26, rfl, h27⟩ (by simp [maxLen])).read) (memF 0 rfl) ((hw.pick [0, 1, 2, 3, 4, 5, 6, 7] (by kernel_rfl)).pack 0)) fun a w v hv hs => ?_
        obtain ⟨ih302, p304, c305, d307, rfl, hw, hle303, h306⟩ := hv
        replace hw := hw.unpack 1 rfl
        refine dg_next (SX_now hS224 ((hw.vws [2, 3, 4, 5, 6, 7, 8]).anti hle303) (by kernel_rfl)) fun hS => ?_
        obtain ⟨x309, h310, hx296⟩ := bindE hx296
        refine d_indexO (fuel := 3) kS224 hs hS 9 rfl (by kernel_rfl) h306 (by kernel_rfl) (by kernel_rfl) (k := .i64) (by kernel_rfl) 53 (by kernel_rfl) (by kernel_rfl) h310 fun a r311 cs henc at312 h316 hs hS => ?_
        obtain ⟨p313, c314, rfl, h315⟩ := henc
        refine d_all (fuel := 2) (rs := [10]) (by kernel_rfl) (by simp) (all1 ?_)
        refine o_load hs rfl (at312 _ ((hw.vw 0 rfl).anti (Le.refl _))) 0 (by kernel_rfl) (by kernel_rfl) (v := .agg #[.int .i64 x309.f0, .int .u64 x309.f1, .slice p313 x309.f2.length c314, .bool x309.f3, .int .i64 x309.f4]) (by kernel_rfl) fun a hs => ?_
        refine dg_next (SX_now hS224 ((hw.vws [2, 3, 4, 5, 6, 7, 8]).anti hle303) (by kernel_rfl)) fun hS => ?_
        obtain ⟨x317, h318, hx296⟩ := bindE hx296
        refine d_indexO (fuel := 1) kS224 hs hS 11 rfl (by kernel_rfl) h6 (by kernel_rfl) (by kernel_rfl) (k := .i64) (by kernel_rfl) 53 (by kernel_rfl) (by kernel_rfl) h318 fun a r319 cs henc at320 h324 hs hS => ?_
        obtain ⟨p321, c322, rfl, h323⟩ := henc
        refine d_all (fuel := 0) (rs := [12]) (by kernel_rfl) (by simp) (all1 ?_)
        refine o_storeE hs hw 6 rfl (h6.mono hle303) h324 x309 h318 0 rfl (by kernel_rfl) (by kernel_rfl) (v := .agg #[.int .i64 x309.f0, .int .u64 x309.f1, .slice p313 x309.f2.length c314, .bool x309.f3, .int .i64 x309.f4]) (by kernel_rfl) (by kernel_rfl) (by kernel_rfl) (by kernel_rfl) ⟨p321, c322, rfl, (h323.mono hle303)⟩ (fun w hv => at320 w (hv.anti hle303)) ⟨p313, c314, rfl, h315⟩ fun a w d325 h326 hw hs => ?_
        have h328 : x3.length = (x3.set x24.f0.toNat x309).length := List.length_set.symm
        try rw [h328] at hs
        try rw [h328] at hw
        refine dg_next (SX_now hS224 ((hw.vws [2, 4, 5, 7, 8]).anti hle303) (by kernel_rfl)) fun hS => ?_
        refine d_done (by kernel_rfl) ?_
        obtain rfl := someE hx296
        exact (hJ297 _ _).2 ⟨(x3.set x24.f0.toNat x309), p4, c5, d325, ih302, hk, hs.cast [] (by kernel_rfl), hw.pick [3, 4, 5, 6, 7, 8] (by kernel_rfl), hle303, h326⟩
      · intro a w hh
        obtain ⟨x289, p290, c291, d293, ih287, hk, hs, hw, hle288, h292⟩ := (hJ297 _ _).1 hh
        refine c_seq ?_
        refine c_region ?_
        refine pures hs 1 [4] [(4, .bool true)] (by kernel_rfl) fun a hs => ?_
        refine s_end ?_
        refine wp_ret ?_
        obtain rfl := someE hk
        refine hQ _ _ (f_ret1 hs rfl (v := .bool true) (by kernel_rfl) ⟨ih287, p290, c291, d293, rfl, hw.pick [0, 3, 1, 2, 4, 5] (by kernel_rfl), hle288, h292⟩)
def catenarylaw25_AtlasLearns_2_r16 (x1832 : Bool) : Option Bool :=
  some x1832
def catenarylaw25_AtlasLearns_2_r20 (x2368 : Bool) : Option Bool :=
  some x2368
def catenarylaw25_AtlasLearns_2_r21 (k : Nat) (x9 : Int) (y1812 : Int) (x1 : List M53) (x2287 : List M53) : Option Bool :=
  (catenaryref25_Chain x9 (x2287.length : Int)).bind fun y2302 =>
  (ix x2287 y2302).bind fun x2304 =>
  (if (y1812 == 0) = true then (
      (atlas_Atlas_Of x9).bind fun y2373 =>
      (catenaryref09_Same k y2373 x2304).bind fun y2378 =>
      if y2378 = true then (
        (atlas_Atlas_Head k x9).bind fun y2381 =>
        (catenaryref19_Head k x2304).bind fun y2383 =>
        if (y2381 == y2383) = true then (
          (atlas_Atlas_Reader k x9 (IntKind.i64.wrap (x9))).bind fun y2386 =>
          (catenaryref19_Reader k x2304 (IntKind.i64.wrap (x9))).bind fun y2388 =>
          if (y2386 == y2388) = true then (
            (atlas_Atlas_Chains).bind fun y2391 =>
            if (y2391 == (x1.length : Int)) = true then (
              (catenarylaw25_awake k).bind fun y2394 =>
              some y2394)
            else some false)
          else some false)
        else some false)
      else some false)
    else some false : Option Bool).bind fun s2398 => catenarylaw25_AtlasLearns_2_r20 s2398
def catenarylaw25_AtlasLearns_2_r23 (rec_catenarylaw25_AtlasLearns_2_l22 : (List M53) → Int → Option (Sum Bool (List M53))) (y2458 : (List M53) × Bool) (x2141 : Int) (x2515 : Bool) : Option (Sum Bool (List M53)) :=
  if x2515 = true then some (.inl false)
  else rec_catenarylaw25_AtlasLearns_2_l22 y2458.1 (IntKind.i64.wrap (x2141 + 1))
def catenarylaw25_AtlasLearns_2_l22 (k : Nat) (x5 : List M53) (x9 : Int) : Nat → (List M53) → Int → Option (Sum Bool (List M53))
  | 0, _, _ => none
  | j + 1, x2137, x2141 =>
    if (decide (x2141 < (x5.length : Int))) = true then (
      (ix x5 x2141).bind fun x2411 =>
      if (decide ((x2411.f2.length : Int) > 30)) = true then (
        (catenarylaw25_awake k).bind fun y2423 =>
        some (.inl y2423))
      else (atlas_Atlas_Of x9).bind fun y2432 =>
      (ix x5 x2141).bind fun x2451 =>
      (catenaryref25_Learn_2 k x2137 x2451).bind fun y2458 =>
      ((ix x5 x2141).bind fun x2520 =>
        (atlas_Atlas_Learn x2520).bind fun y2527 =>
        if (!(y2527 == y2458.2)) = true then some true
        else (atlas_Atlas_Of x9).bind fun y2530 =>
        if (decide (y2530.f1 < y2432.f1)) = true then some true
        else (atlas_Atlas_Confs_2).bind fun y2536 =>
        (catenaryref09_SameAll k y2536 y2458.1).bind fun y2543 =>
        some (!y2543) : Option Bool).bind fun s2545 => catenarylaw25_AtlasLearns_2_r23 (catenarylaw25_AtlasLearns_2_l22 k x5 x9 j) y2458 x2141 s2545)
    else some (.inr x2137)
def catenarylaw25_AtlasLearns_2_r27 (x3253 : Bool) : Option Bool :=
  some x3253
def catenarylaw25_AtlasLearns_2_r28 (k : Nat) (x9 : Int) (y2547 : (List M53) × Int × Int × Int × Int × Int × (List (List Int)) × Int) (x1 : List M53) (x3154 : List M53) (x3158 : List M53) : Option Bool :=
  (catenaryref25_Chain x9 (x3154.length : Int)).bind fun y3175 =>
  (ix x3154 y3175).bind fun x3177 =>
  (if (y2547.2.2.2.2.2.2.2 == 0) = true then (
      (atlas_Atlas_Of_2 k x3158 y2547.2.1 y2547.2.2.1 y2547.2.2.2.1 y2547.2.2.2.2.1 y2547.2.2.2.2.2.1 y2547.2.2.2.2.2.2.1 x9).bind fun y3258 =>
      (catenaryref09_Same k y3258 x3177).bind fun y3265 =>
      if y3265 = true then (
        (atlas_Atlas_Head_2 k x3158 y2547.2.1 y2547.2.2.1 y2547.2.2.2.1 y2547.2.2.2.2.1 y2547.2.2.2.2.2.1 y2547.2.2.2.2.2.2.1 x9).bind fun y3268 =>
        (catenaryref19_Head k x3177).bind fun y3272 =>
        if (y3268 == y3272) = true then (
          (atlas_Atlas_Reader_2 k x3158 y2547.2.1 y2547.2.2.1 y2547.2.2.2.1 y2547.2.2.2.2.1 y2547.2.2.2.2.2.1 y2547.2.2.2.2.2.2.1 x9 (IntKind.i64.wrap (x9))).bind fun y3275 =>
          (catenaryref19_Reader k x3177 (IntKind.i64.wrap (x9))).bind fun y3279 =>
          if (y3275 == y3279) = true then (
            (atlas_Atlas_Chains_2 x3158 y2547.2.1 y2547.2.2.1 y2547.2.2.2.1 y2547.2.2.2.2.1 y2547.2.2.2.2.2.1 y2547.2.2.2.2.2.2.1).bind fun y3282 =>
            if (y3282 == (x1.length : Int)) = true then (
              (catenarylaw25_awake k).bind fun y3285 =>
              some y3285)
            else some false)
          else some false)
        else some false)
      else some false)
    else some false : Option Bool).bind fun s3289 => catenarylaw25_AtlasLearns_2_r27 s3289
def catenarylaw25_AtlasLearns_2_r30 (rec_catenarylaw25_AtlasLearns_2_l29 : (List M53) → Int → (List M53) → Option (Sum Bool ((List M53) × (List M53)))) (y3353 : (List M53) × Bool) (x2960 : Int) (x3432 : Bool) (x3433 : List M53) : Option (Sum Bool ((List M53) × (List M53))) :=
  if x3432 = true then some (.inl false)
  else rec_catenarylaw25_AtlasLearns_2_l29 y3353.1 (IntKind.i64.wrap (x2960 + 1)) x3433
def catenarylaw25_AtlasLearns_2_l29 (k : Nat) (x5 : List M53) (y2547 : (List M53) × Int × Int × Int × Int × Int × (List (List Int)) × Int) (x9 : Int) : Nat → (List M53) → Int → (List M53) → Option (Sum Bool ((List M53) × (List M53)))
  | 0, _, _, _ => none
  | j + 1, x2956, x2960, x2961 =>
    if (decide (x2960 < (x5.length : Int))) = true then (
      (ix x5 x2960).bind fun x3302 =>
      if (decide ((x3302.f2.length : Int) > 30)) = true then (
        (catenarylaw25_awake k).bind fun y3314 =>
        some (.inl y3314))
      else (atlas_Atlas_Of_2 k x2961 y2547.2.1 y2547.2.2.1 y2547.2.2.2.1 y2547.2.2.2.2.1 y2547.2.2.2.2.2.1 y2547.2.2.2.2.2.2.1 x9).bind fun y3325 =>
      (ix x5 x2960).bind fun x3346 =>
      (catenaryref25_Learn_2 k x2956 x3346).bind fun y3353 =>
      ((ix x5 x2960).bind fun x3443 =>
        (atlas_Atlas_Learn_2 k x2961 y2547.2.1 y2547.2.2.1 y2547.2.2.2.1 y2547.2.2.2.2.1 y2547.2.2.2.2.2.1 y2547.2.2.2.2.2.2.1 x3443).bind fun y3450 =>
        if (!(y3450.1 == y3353.2)) = true then some (true, y3450.2)
        else (atlas_Atlas_Of_2 k y3450.2 y2547.2.1 y2547.2.2.1 y2547.2.2.2.1 y2547.2.2.2.2.1 y2547.2.2.2.2.2.1 y2547.2.2.2.2.2.2.1 x9).bind fun y3459 =>
        if (decide (y3459.f1 < y3325.f1)) = true then some (true, y3450.2)
        else (atlas_Atlas_Confs k y3450.2 y2547.2.1 y2547.2.2.1 y2547.2.2.2.1 y2547.2.2.2.2.1 y2547.2.2.2.2.2.1 y2547.2.2.2.2.2.2.1).bind fun y3467 =>
        (catenaryref09_SameAll k y3467 y3353.1).bind fun y3476 =>
        some ((!y3476), y3450.2) : Option (Bool × (List M53))).bind fun s3478 => catenarylaw25_AtlasLearns_2_r30 (catenarylaw25_AtlasLearns_2_l29 k x5 y2547 x9 j) y3353 x2960 s3478.1 s3478.2)
    else some (.inr (x2956, x2961))
def catenarylaw25_AtlasLearns_2 (k : Nat) (x1 : List M53) (x5 : List M53) (x9 : Int) : Option Bool :=
  if ((decide ((x1.length : Int) > 6)) || (decide ((x5.length : Int) > 40))) = true then (
    (catenarylaw25_awake k).bind fun y1756 =>
    some y1756)
  else (atlas_New k x1).bind fun 
    | .inl y1812 =>
      (catenaryref09_All k x1).bind fun y1817 =>
      if (!y1817) = true then (
        (if (y1812 == 1) = true then (
            (catenarylaw25_awake k).bind fun y1837 =>
            some y1837)
          else some false : Option Bool).bind fun s1841 => catenarylaw25_AtlasLearns_2_r16 s1841)
      else (catenarylaw25_AtlasLearns_2_l22 k x5 x9 k x1 0 : Option (Sum Bool (List M53))).bind fun
        | .inl z => some z
        | .inr s2546 => catenarylaw25_AtlasLearns_2_r21 k x9 y1812 x1 s2546
    | .inr y2547 =>
      (catenaryref09_All k x1).bind fun y2568 =>
      if (!y2568) = true then some false
      else (catenarylaw25_AtlasLearns_2_l29 k x5 y2547 x9 k x1 0 y2547.1 : Option (Sum Bool ((List M53) × (List M53)))).bind fun
        | .inl z => some z
        | .inr s3479 => catenarylaw25_AtlasLearns_2_r28 k x9 y2547 x1 s3479.1 s3479.2
theorem catenarylaw25_AtlasLearns_2_s {k : Nat} {x1 : List M53} {x5 : List M53} {x9 : Int} {p2 : Option Addr} {c3 : Nat} {p6 : Option Addr} {c7 : Nat} {r : Bool} (hk : catenarylaw25_AtlasLearns_2 k x1 x5 x9 = some r) {g w : World} {F : Ch} {ih : IH} (h4 : RSl e53 ih [] p2 c3 x1) (h8 : RSl e53 ih [] p6 c7 x5) (hw : St g w [F] ih) :
    CallsR Try.prog 11 #[.slice p2 x1.length c3, .slice p6 x5.length c7, .int .u32 x9] w fun v w' => ∃ (ih' : IH), v = .bool r ∧ St g w' [F] ih' ∧ Le ih ih' := by
  refine f_in (vs := [.slice p2 x1.length c3, .slice p6 x5.length c7, .int .u32 x9]) Try.func11 rfl 139 rfl (by kernel_rfl) [(0, .slice p2 x1.length c3), (1, .slice p6 x5.length c7), (2, .int .u32 x9)] (by kernel_rfl) fun a Qf hQ hQn hs => ?_
  refine c_seq ?_
  refine c_region ?_
  refine pures hs 1 [0, 1, 2] [(0, .slice p2 x1.length c3), (1, .slice p6 x5.length c7), (2, .int .u32 x9)] (by kernel_rfl) fun a hs => ?_
  refine s_end ?_
  refine c_seq ?_
  refine c_seq ?_
  obtain ⟨J1749, hJ1749⟩ : ∃ J : Act → World → Prop, ∀ a w, J a w ↔ (Sees a 139 [(0, .slice p2 x1.length c3), (1, .slice p6 x5.length c7), (2, .int .u32 x9), (22, .bool ((decide ((x1.length : Int) > 6)) || (decide ((x5.length : Int) > 40))))] ∧ St g w [F] ih) := ⟨_, fun _ _ => Iff.rfl⟩
  refine c_regJ J1749 ?_ ?_
  · refine pures hs 4 [0, 1, 2, 18] [(0, .slice p2 x1.length c3), (1, .slice p6 x5.length c7), (2, .int .u32 x9), (18, .bool (decide ((x1.length : Int) > 6)))] (by kernel_rfl) fun a hs => ?_
    rcases boolE (decide ((x1.length : Int) > 6)) with h1750 | h1750
    · replace hs := hs.altB 18 true (by kernel_rfl) h1750
      refine pures hs 4 [0, 1, 2, 22] [(0, .slice p2 x1.length c3), (1, .slice p6 x5.length c7), (2, .int .u32 x9), (22, .bool true)] (by kernel_rfl) fun a hs => ?_
      refine s_end ?_
      exact (hJ1749 _ _).2 ⟨(hs.altB 22 ((decide ((x1.length : Int) > 6)) || (decide ((x5.length : Int) > 40))) (by kernel_rfl) (by rw [h1750] <;> rfl)).cast [0, 1, 2, 22] (by kernel_rfl), hw.pick [0] (by kernel_rfl)⟩
    · replace hs := hs.altB 18 false (by kernel_rfl) h1750
      refine pures hs 4 [0, 1, 2, 22] [(0, .slice p2 x1.length c3), (1, .slice p6 x5.length c7), (2, .int .u32 x9), (22, .bool (decide ((x5.length : Int) > 40)))] (by kernel_rfl) fun a hs => ?_
      refine s_end ?_
      exact (hJ1749 _ _).2 ⟨(hs.altB 22 ((decide ((x1.length : Int) > 6)) || (decide ((x5.length : Int) > 40))) (by kernel_rfl) (by rw [h1750] <;> rfl)).cast [0, 1, 2, 22] (by kernel_rfl), hw.pick [0] (by kernel_rfl)⟩
  · intro a w hh
    obtain ⟨hs, hw⟩ := (hJ1749 _ _).1 hh
    rcases ifbE hk with ⟨h1751, hk⟩ | ⟨h1751, hk⟩
    · refine c_cond1 hs (by kernel_rfl) (t := ((decide ((x1.length : Int) > 6)) || (decide ((x5.length : Int) > 40)))) (by kernel_rfl) h1751 ?_
      refine c_seq ?_
      refine c_region ?_
      obtain ⟨y1756, h1757, hk⟩ := bindE hk
      refine s_call hs (by kernel_rfl) (by kernel_rfl) (catenarylaw25_awake_s h1757 ((hw.pick [0] (by kernel_rfl)).pack 0)) fun a w v hv hs => ?_
      obtain ⟨ih1758, rfl, hw, hle1759⟩ := hv
      replace hw := hw.unpack 0 rfl
      refine pures hs 1 [6] [(6, .bool y1756)] (by kernel_rfl) fun a hs => ?_
      refine s_end ?_
      refine wp_ret ?_
      obtain rfl := someE hk
      refine hQ _ _ (f_ret1 hs rfl (v := .bool y1756) (by kernel_rfl) ⟨ih1758, rfl, hw.pick [0] (by kernel_rfl), hle1759⟩)
    · refine c_cond0 hs (by kernel_rfl) (t := ((decide ((x1.length : Int) > 6)) || (decide ((x5.length : Int) > 40)))) (by kernel_rfl) h1751 ?_
      refine wp_skip ?_
      refine c_seq ?_
      refine c_region ?_
      refine pures hs 1 [0, 1, 2, 25] [(0, .slice p2 x1.length c3), (1, .slice p6 x5.length c7), (2, .int .u32 x9), (25, .slice p2 x1.length c3)] (by kernel_rfl) fun a hs => ?_
      obtain ⟨y1810, h1811, hk⟩ := bindE hk
      refine s_call hs (by kernel_rfl) (by kernel_rfl) (atlas_New_s h1811 h4 (nilSub _) ((hw.pick [0] (by kernel_rfl)).pack 0)) fun a w v hv hs => ?_
      rcases hv with ⟨y1812, rfl, ⟨ih1813, rfl, hw, hle1814⟩⟩ | ⟨y2547, rfl, ⟨ih2548, b2550, p2552, c2553, d2555, b2557, b2559, p2561, c2562, d2564, rfl, hw, hle2549, h2554, h2563⟩⟩
      · dsimp only at hk
        replace hw := hw.unpack 0 rfl
        refine pures hs 5 [0, 1, 2, 7, 8] [(0, .slice p2 x1.length c3), (1, .slice p6 x5.length c7), (2, .int .u32 x9), (7, .pointer none), (8, .int .i64 y1812)] (by kernel_rfl) fun a hs => ?_
        refine s_end ?_
        refine c_seq ?_
        refine c_seq ?_
        refine c_region ?_
        refine pures hs 1 [0, 1, 2, 7, 8, 29] [(0, .slice p2 x1.length c3), (1, .slice p6 x5.length c7), (2, .int .u32 x9), (7, .pointer none), (8, .int .i64 y1812), (29, .slice p2 x1.length c3)] (by kernel_rfl) fun a hs => ?_
        obtain ⟨y1817, h1818, hk⟩ := bindE hk
        refine s_call hs (by kernel_rfl) (by kernel_rfl) (catenaryref09_All_s h1818 (h4.mono hle1814) (nilSub _) ((hw.pick [0] (by kernel_rfl)).pack 0)) fun a w v hv hs => ?_
        obtain ⟨rfl, hw⟩ := hv
        replace hw := hw.unpack 0 rfl
        refine pures hs 1 [0, 1, 2, 7, 8, 31] [(0, .slice p2 x1.length c3), (1, .slice p6 x5.length c7), (2, .int .u32 x9), (7, .pointer none), (8, .int .i64 y1812), (31, .bool (!y1817))] (by kernel_rfl) fun a hs => ?_
        refine s_end ?_
        rcases ifbE hk with ⟨h1819, hk⟩ | ⟨h1819, hk⟩
        · refine c_cond1 hs (by kernel_rfl) (t := (!y1817)) (by kernel_rfl) h1819 ?_
          refine c_seq ?_
          obtain ⟨y1833, hx1834, hk⟩ := bindE hk
          obtain ⟨J1835, hJ1835⟩ : ∃ J : Act → World → Prop, ∀ a w, J a w ↔ (∃ (x1832 : Bool) (ih1830 : IH), catenarylaw25_AtlasLearns_2_r16 x1832 = some r ∧ Sees a 139 [(6, .bool x1832)] ∧ St g w [F] ih1830 ∧ Le ih1813 ih1830) := ⟨_, fun _ _ => Iff.rfl⟩
          refine c_regJ J1835 ?_ ?_
          · refine pures hs 7 [38] [(38, .bool (y1812 == 1))] (by kernel_rfl) fun a hs => ?_
            rcases ifbE hx1834 with ⟨h1836, hx1834⟩ | ⟨h1836, hx1834⟩
            · replace hs := hs.altB 38 true (by kernel_rfl) h1836
              obtain ⟨y1837, h1838, hx1834⟩ := bindE hx1834
              refine s_call hs (by kernel_rfl) (by kernel_rfl) (catenarylaw25_awake_s h1838 ((hw.pick [0] (by kernel_rfl)).pack 0)) fun a w v hv hs => ?_
              obtain ⟨ih1839, rfl, hw, hle1840⟩ := hv
              replace hw := hw.unpack 0 rfl
              refine pures hs 2 [6] [(6, .bool y1837)] (by kernel_rfl) fun a hs => ?_
              refine s_end ?_
              obtain rfl := someE hx1834
              exact (hJ1835 _ _).2 ⟨y1837, ih1839, hk, hs.cast [6] (by kernel_rfl), hw.pick [0] (by kernel_rfl), hle1840⟩
            · replace hs := hs.altB 38 false (by kernel_rfl) h1836
              refine pures hs 3 [6] [(6, .bool false)] (by kernel_rfl) fun a hs => ?_
              refine s_end ?_
              obtain rfl := someE hx1834
              exact (hJ1835 _ _).2 ⟨false, ih1813, hk, hs.cast [6] (by kernel_rfl), hw.pick [0] (by kernel_rfl), (Le.refl _)⟩
          · intro a w hh
            obtain ⟨x1832, ih1830, hk, hs, hw, hle1831⟩ := (hJ1835 _ _).1 hh
            refine wp_ret ?_
            obtain rfl := someE hk
            refine hQ _ _ (f_ret1 hs rfl (v := .bool x1832) (by kernel_rfl) ⟨ih1830, rfl, hw.pick [0] (by kernel_rfl), (hle1814.trans hle1831)⟩)
        · refine c_cond0 hs (by kernel_rfl) (t := (!y1817)) (by kernel_rfl) h1819 ?_
          refine wp_skip ?_
          refine c_seq ?_
          refine c_region ?_
          refine pures hs 2 [0, 1, 2, 7, 8, 9] [(0, .slice p2 x1.length c3), (1, .slice p6 x5.length c7), (2, .int .u32 x9), (7, .pointer none), (8, .int .i64 y1812), (9, .slice p2 x1.length c3)] (by kernel_rfl) fun a hs => ?_
          refine s_end ?_
          refine c_seq ?_
          refine c_seq ?_
          refine c_region ?_
          refine pures hs 1 [0, 1, 2, 7, 8, 9, 10] [(0, .slice p2 x1.length c3), (1, .slice p6 x5.length c7), (2, .int .u32 x9), (7, .pointer none), (8, .int .i64 y1812), (9, .slice p2 x1.length c3), (10, .int .i64 0)] (by kernel_rfl) fun a hs => ?_
          refine s_end ?_
          refine c_block ?_
          obtain ⟨y2399, hx2400, hk⟩ := bindE hk
          obtain ⟨J2401, hJ2401⟩ : ∃ J : Act → World → Prop, ∀ a w, J a w ↔ (∃ (x2287 : List M53) (p2288 : Option Addr) (c2289 : Nat) (ih2285 : IH), catenarylaw25_AtlasLearns_2_r21 k x9 y1812 x1 x2287 = some r ∧ Sees a 139 [(0, .slice p2 x1.length c3), (2, .int .u32 x9), (7, .pointer none), (8, .int .i64 y1812), (9, .slice p2288 x2287.length c2289)] ∧ St g w [F] ih2285 ∧ Le ih1813 ih2285 ∧ RSl e53 ih2285 [] p2288 c2289 x2287) := ⟨_, fun _ _ => Iff.rfl⟩
          obtain ⟨I2402, hI2402⟩ : ∃ J : Nat → Act → World → Prop, ∀ j a w, J j a w ↔ (∃ (x2137 : List M53) (x2141 : Int) (p2138 : Option Addr) (c2139 : Nat) (ih2135 : IH), catenarylaw25_AtlasLearns_2_l22 k x5 x9 j x2137 x2141 = some y2399 ∧ Sees a 139 [(0, .slice p2 x1.length c3), (1, .slice p6 x5.length c7), (2, .int .u32 x9), (7, .pointer none), (8, .int .i64 y1812), (9, .slice p2138 x2137.length c2139), (10, .int .i64 x2141)] ∧ St g w [F] ih2135 ∧ Le ih1813 ih2135 ∧ RSl e53 ih2135 [] p2138 c2139 x2137) := ⟨_, fun _ _ _ => Iff.rfl⟩
          refine c_exitJ 0 J2401 ?_ ?_
          · refine c_loop I2402 k ((hI2402 _ _ _).2 ⟨x1, 0, p2, c3, ih1813, hx2400, hs.cast [0, 1, 2, 7, 8, 9, 10] (by kernel_rfl), hw.pick [0] (by kernel_rfl), (Le.refl _), (h4.mono hle1814)⟩) (fun a w h0 => ?_) fun j a w hh => ?_
            · obtain ⟨_, _, _, _, _, h, _⟩ := (hI2402 _ _ _).1 h0
              cases h
            · obtain ⟨x2137, x2141, p2138, c2139, ih2135, hx2400, hs, hw, hle2136, h2140⟩ := (hI2402 _ _ _).1 hh
              refine c_seq ?_
              refine c_seq ?_
              refine c_region ?_
              refine pures hs 4 [0, 1, 2, 7, 8, 9, 10, 45] [(0, .slice p2 x1.length c3), (1, .slice p6 x5.length c7), (2, .int .u32 x9), (7, .pointer none), (8, .int .i64 y1812), (9, .slice p2138 x2137.length c2139), (10, .int .i64 x2141), (45, .bool (decide (x2141 < (x5.length : Int))))] (by kernel_rfl) fun a hs => ?_
              refine s_end ?_
              rcases ifbE hx2400 with ⟨h2403, hx2400⟩ | ⟨h2403, hx2400⟩
              · refine c_cond1 hs (by kernel_rfl) (t := (decide (x2141 < (x5.length : Int)))) (by kernel_rfl) h2403 ?_
                refine wp_skip ?_
                refine c_seq ?_
                refine c_block ?_
                refine c_seq ?_
                refine c_seq ?_
                refine c_region ?_
                refine pures hs 2 [0, 1, 2, 7, 8, 9, 10, 48, 49] [(0, .slice p2 x1.length c3), (1, .slice p6 x5.length c7), (2, .int .u32 x9), (7, .pointer none), (8, .int .i64 y1812), (9, .slice p2138 x2137.length c2139), (10, .int .i64 x2141), (48, .slice p6 x5.length c7), (49, .int .i64 x2141)] (by kernel_rfl) fun a hs => ?_
                obtain ⟨x2411, h2412, hx2400⟩ := bindE hx2400
                refine s_index hs h8 (by kernel_rfl) (by kernel_rfl) (k := .i64) (by kernel_rfl) 53 (by kernel_rfl) (by kernel_rfl) h2412 fun a r2413 cs henc at2414 hs => ?_
                obtain ⟨p2415, c2416, rfl, h2417⟩ := henc
                refine pures hs 1 [0, 1, 2, 7, 8, 9, 10, 51] [(0, .slice p2 x1.length c3), (1, .slice p6 x5.length c7), (2, .int .u32 x9), (7, .pointer none), (8, .int .i64 y1812), (9, .slice p2138 x2137.length c2139), (10, .int .i64 x2141), (51, .pointer (some (r2413.add 2)))] (by kernel_rfl) fun a hs => ?_
                refine s_load hs (at2414 _ (hw.vwAll.nil.anti (hle1814.trans hle2136))) 2 (by kernel_rfl) (by kernel_rfl) (v := .slice p2415 x2411.f2.length c2416) (by kernel_rfl) fun a hs => ?_
                refine pures hs 2 [0, 1, 2, 7, 8, 9, 10, 54] [(0, .slice p2 x1.length c3), (1, .slice p6 x5.length c7), (2, .int .u32 x9), (7, .pointer none), (8, .int .i64 y1812), (9, .slice p2138 x2137.length c2139), (10, .int .i64 x2141), (54, .bool (decide ((x2411.f2.length : Int) > 30)))] (by kernel_rfl) fun a hs => ?_
                refine s_end ?_
                rcases ifbE hx2400 with ⟨h2418, hx2400⟩ | ⟨h2418, hx2400⟩
                · refine c_cond1 hs (by kernel_rfl) (t := (decide ((x2411.f2.length : Int) > 30))) (by kernel_rfl) h2418 ?_
                  refine c_seq ?_
                  refine c_region ?_
                  obtain ⟨y2423, h2424, hx2400⟩ := bindE hx2400
                  refine s_call hs (by kernel_rfl) (by kernel_rfl) (catenarylaw25_awake_s h2424 ((hw.pick [0] (by kernel_rfl)).pack 0)) fun a w v hv hs => ?_
                  obtain ⟨ih2425, rfl, hw, hle2426⟩ := hv
                  replace hw := hw.unpack 0 rfl
                  refine pures hs 1 [6] [(6, .bool y2423)] (by kernel_rfl) fun a hs => ?_
                  refine s_end ?_
                  refine wp_ret ?_
                  obtain rfl := someE hx2400
                  obtain rfl := someE hk
                  refine hQ _ _ (f_ret1 hs rfl (v := .bool y2423) (by kernel_rfl) ⟨ih2425, rfl, hw.pick [0] (by kernel_rfl), ((hle1814.trans hle2136).trans hle2426)⟩)
                · refine c_cond0 hs (by kernel_rfl) (t := (decide ((x2411.f2.length : Int) > 30))) (by kernel_rfl) h2418 ?_
                  refine wp_skip ?_
                  refine c_seq ?_
                  refine c_region ?_
                  refine pures hs 2 [0, 1, 2, 7, 8, 9, 10, 56, 57] [(0, .slice p2 x1.length c3), (1, .slice p6 x5.length c7), (2, .int .u32 x9), (7, .pointer none), (8, .int .i64 y1812), (9, .slice p2138 x2137.length c2139), (10, .int .i64 x2141), (56, .pointer none), (57, .int .u32 x9)] (by kernel_rfl) fun a hs => ?_
                  obtain ⟨y2432, h2433, hx2400⟩ := bindE hx2400
                  refine s_call hs (by kernel_rfl) (by kernel_rfl) (atlas_Atlas_Of_s h2433 ((hw.pick [0] (by kernel_rfl)).pack 0)) fun a w v hv hs => ?_
                  obtain ⟨p2434, c2435, rfl, hw, h2436⟩ := hv
                  replace hw := hw.unpack 0 rfl
                  refine pures hs 2 [0, 1, 2, 7, 8, 9, 10, 11] [(0, .slice p2 x1.length c3), (1, .slice p6 x5.length c7), (2, .int .u32 x9), (7, .pointer none), (8, .int .i64 y1812), (9, .slice p2138 x2137.length c2139), (10, .int .i64 x2141), (11, .int .u64 y2432.f1)] (by kernel_rfl) fun a hs => ?_
                  refine s_end ?_
                  refine c_seq ?_
                  refine c_region ?_
                  refine pures hs 3 [0, 1, 2, 7, 8, 10, 11, 61, 62, 63] [(0, .slice p2 x1.length c3), (1, .slice p6 x5.length c7), (2, .int .u32 x9), (7, .pointer none), (8, .int .i64 y1812), (10, .int .i64 x2141), (11, .int .u64 y2432.f1), (61, .slice p2138 x2137.length c2139), (62, .slice p6 x5.length c7), (63, .int .i64 x2141)] (by kernel_rfl) fun a hs => ?_
                  obtain ⟨x2451, h2452, hx2400⟩ := bindE hx2400
                  refine s_index hs h8 (by kernel_rfl) (by kernel_rfl) (k := .i64) (by kernel_rfl) 53 (by kernel_rfl) (by kernel_rfl) h2452 fun a r2453 cs henc at2454 hs => ?_
                  obtain ⟨p2455, c2456, rfl, h2457⟩ := henc
                  refine s_load hs (at2454 _ (hw.vwAll.nil.anti (hle1814.trans hle2136))) 0 (by kernel_rfl) (by kernel_rfl) (v := .agg #[.int .i64 x2451.f0, .int .u64 x2451.f1, .slice p2455 x2451.f2.length c2456, .bool x2451.f3, .int .i64 x2451.f4]) (by kernel_rfl) fun a hs => ?_
                  obtain ⟨y2458, h2459, hx2400⟩ := bindE hx2400
                  refine s_call hs (by kernel_rfl) (by kernel_rfl) (catenaryref25_Learn_2_s h2459 h2140 (h2457.mono (hle1814.trans hle2136)) ((hw.pick [0] (by kernel_rfl)).pack 0)) fun a w v hv hs => ?_
                  obtain ⟨ih2460, p2462, c2463, rfl, hw, hle2461, h2464⟩ := hv
                  replace hw := hw.unpack 0 rfl
                  refine pures hs 5 [0, 1, 2, 7, 8, 10, 11, 12, 13] [(0, .slice p2 x1.length c3), (1, .slice p6 x5.length c7), (2, .int .u32 x9), (7, .pointer none), (8, .int .i64 y1812), (10, .int .i64 x2141), (11, .int .u64 y2432.f1), (12, .slice p2462 y2458.1.length c2463), (13, .bool y2458.2)] (by kernel_rfl) fun a hs => ?_
                  refine s_end ?_
                  refine c_seq ?_
                  refine c_region ?_
                  refine pures hs 2 [0, 1, 2, 7, 8, 10, 11, 13, 9] [(0, .slice p2 x1.length c3), (1, .slice p6 x5.length c7), (2, .int .u32 x9), (7, .pointer none), (8, .int .i64 y1812), (10, .int .i64 x2141), (11, .int .u64 y2432.f1), (13, .bool y2458.2), (9, .slice p2462 y2458.1.length c2463)] (by kernel_rfl) fun a hs => ?_
                  refine s_end ?_
                  refine c_seq ?_
                  obtain ⟨y2517, hx2518, hx2400⟩ := bindE hx2400
                  obtain ⟨J2519, hJ2519⟩ : ∃ J : Act → World → Prop, ∀ a w, J a w ↔ (∃ (x2515 : Bool), catenarylaw25_AtlasLearns_2_r23 (catenarylaw25_AtlasLearns_2_l22 k x5 x9 j) y2458 x2141 x2515 = some y2399 ∧ Sees a 139 [(0, .slice p2 x1.length c3), (1, .slice p6 x5.length c7), (2, .int .u32 x9), (7, .pointer none), (8, .int .i64 y1812), (10, .int .i64 x2141), (9, .slice p2462 y2458.1.length c2463), (92, .bool x2515)] ∧ St g w [F] ih2460) := ⟨_, fun _ _ => Iff.rfl⟩
                  refine c_regJ J2519 ?_ ?_
                  · refine pures hs 3 [0, 1, 2, 7, 8, 10, 11, 13, 9, 70, 71, 72] [(0, .slice p2 x1.length c3), (1, .slice p6 x5.length c7), (2, .int .u32 x9), (7, .pointer none), (8, .int .i64 y1812), (10, .int .i64 x2141), (11, .int .u64 y2432.f1), (13, .bool y2458.2), (9, .slice p2462 y2458.1.length c2463), (70, .pointer none), (71, .slice p6 x5.length c7), (72, .int .i64 x2141)] (by kernel_rfl) fun a hs => ?_
                    obtain ⟨x2520, h2521, hx2518⟩ := bindE hx2518
                    refine s_index hs h8 (by kernel_rfl) (by kernel_rfl) (k := .i64) (by kernel_rfl) 53 (by kernel_rfl) (by kernel_rfl) h2521 fun a r2522 cs henc at2523 hs => ?_
                    obtain ⟨p2524, c2525, rfl, h2526⟩ := henc
                    refine s_load hs (at2523 _ (hw.vwAll.nil.anti ((hle1814.trans hle2136).trans hle2461))) 0 (by kernel_rfl) (by kernel_rfl) (v := .agg #[.int .i64 x2520.f0, .int .u64 x2520.f1, .slice p2524 x2520.f2.length c2525, .bool x2520.f3, .int .i64 x2520.f4]) (by kernel_rfl) fun a hs => ?_
                    obtain ⟨y2527, h2528, hx2518⟩ := bindE hx2518
                    refine s_call hs (by kernel_rfl) (by kernel_rfl) (atlas_Atlas_Learn_s h2528 (h2526.mono ((hle1814.trans hle2136).trans hle2461)) ((hw.pick [0] (by kernel_rfl)).pack 0)) fun a w v hv hs => ?_
                    obtain ⟨rfl, hw⟩ := hv
                    replace hw := hw.unpack 0 rfl
                    refine pures hs 3 [0, 1, 2, 7, 8, 10, 11, 9, 78] [(0, .slice p2 x1.length c3), (1, .slice p6 x5.length c7), (2, .int .u32 x9), (7, .pointer none), (8, .int .i64 y1812), (10, .int .i64 x2141), (11, .int .u64 y2432.f1), (9, .slice p2462 y2458.1.length c2463), (78, .bool (!(y2527 == y2458.2)))] (by kernel_rfl) fun a hs => ?_
                    rcases ifbE hx2518 with ⟨h2529, hx2518⟩ | ⟨h2529, hx2518⟩
                    · replace hs := hs.altB 78 true (by kernel_rfl) h2529
                      refine pures hs 14 [0, 1, 2, 7, 8, 10, 9, 92] [(0, .slice p2 x1.length c3), (1, .slice p6 x5.length c7), (2, .int .u32 x9), (7, .pointer none), (8, .int .i64 y1812), (10, .int .i64 x2141), (9, .slice p2462 y2458.1.length c2463), (92, .bool true)] (by kernel_rfl) fun a hs => ?_
                      refine s_end ?_
                      obtain rfl := someE hx2518
                      exact (hJ2519 _ _).2 ⟨true, hx2400, hs.cast [0, 1, 2, 7, 8, 10, 9, 92] (by kernel_rfl), hw.pick [0] (by kernel_rfl)⟩
                    · replace hs := hs.altB 78 false (by kernel_rfl) h2529
                      refine pures hs 2 [0, 1, 2, 7, 8, 10, 11, 9, 78, 79, 80] [(0, .slice p2 x1.length c3), (1, .slice p6 x5.length c7), (2, .int .u32 x9), (7, .pointer none), (8, .int .i64 y1812), (10, .int .i64 x2141), (11, .int .u64 y2432.f1), (9, .slice p2462 y2458.1.length c2463), (78, .bool false), (79, .pointer none), (80, .int .u32 x9)] (by kernel_rfl) fun a hs => ?_
                      obtain ⟨y2530, h2531, hx2518⟩ := bindE hx2518
                      refine s_call hs (by kernel_rfl) (by kernel_rfl) (atlas_Atlas_Of_s h2531 ((hw.pick [0] (by kernel_rfl)).pack 0)) fun a w v hv hs => ?_
                      obtain ⟨p2532, c2533, rfl, hw, h2534⟩ := hv
                      replace hw := hw.unpack 0 rfl
                      refine pures hs 5 [0, 1, 2, 7, 8, 10, 9, 86] [(0, .slice p2 x1.length c3), (1, .slice p6 x5.length c7), (2, .int .u32 x9), (7, .pointer none), (8, .int .i64 y1812), (10, .int .i64 x2141), (9, .slice p2462 y2458.1.length c2463), (86, .bool (decide (y2530.f1 < y2432.f1)))] (by kernel_rfl) fun a hs => ?_
                      rcases ifbE hx2518 with ⟨h2535, hx2518⟩ | ⟨h2535, hx2518⟩
                      · replace hs := hs.altB 86 true (by kernel_rfl) h2535
                        refine pures hs 6 [0, 1, 2, 7, 8, 10, 9, 92] [(0, .slice p2 x1.length c3), (1, .slice p6 x5.length c7), (2, .int .u32 x9), (7, .pointer none), (8, .int .i64 y1812), (10, .int .i64 x2141), (9, .slice p2462 y2458.1.length c2463), (92, .bool true)] (by kernel_rfl) fun a hs => ?_
                        refine s_end ?_
                        obtain rfl := someE hx2518
                        exact (hJ2519 _ _).2 ⟨true, hx2400, hs.cast [0, 1, 2, 7, 8, 10, 9, 92] (by kernel_rfl), hw.pick [0] (by kernel_rfl)⟩
                      · replace hs := hs.altB 86 false (by kernel_rfl) h2535
                        refine pures hs 1 [0, 1, 2, 7, 8, 10, 9, 86, 87] [(0, .slice p2 x1.length c3), (1, .slice p6 x5.length c7), (2, .int .u32 x9), (7, .pointer none), (8, .int .i64 y1812), (10, .int .i64 x2141), (9, .slice p2462 y2458.1.length c2463), (86, .bool false), (87, .pointer none)] (by kernel_rfl) fun a hs => ?_
                        obtain ⟨y2536, h2537, hx2518⟩ := bindE hx2518
                        refine s_call hs (by kernel_rfl) (by kernel_rfl) (atlas_Atlas_Confs_2_s h2537 ((hw.pick [0] (by kernel_rfl)).pack 0)) fun a w v hv hs => ?_
                        obtain ⟨p2538, c2539, d2541, rfl, hw, h2540⟩ := hv
                        replace hw := hw.unpack 1 rfl
                        refine pures hs 1 [0, 1, 2, 7, 8, 10, 9, 86, 88, 89] [(0, .slice p2 x1.length c3), (1, .slice p6 x5.length c7), (2, .int .u32 x9), (7, .pointer none), (8, .int .i64 y1812), (10, .int .i64 x2141), (9, .slice p2462 y2458.1.length c2463), (86, .bool false), (88, .slice p2538 y2536.length c2539), (89, .slice p2462 y2458.1.length c2463)] (by kernel_rfl) fun a hs => ?_
                        obtain ⟨y2543, h2544, hx2518⟩ := bindE hx2518
                        refine s_call hs (by kernel_rfl) (by kernel_rfl) (catenaryref09_SameAll_s h2544 h2540.read (memF 0 rfl) h2464 (nilSub _) ((hw.pick [0, 1] (by kernel_rfl)).pack 0)) fun a w v hv hs => ?_
                        obtain ⟨rfl, hw⟩ := hv
                        replace hw := hw.unpack 0 rfl
                        refine pures hs 2 [0, 1, 2, 7, 8, 10, 9, 92] [(0, .slice p2 x1.length c3), (1, .slice p6 x5.length c7), (2, .int .u32 x9), (7, .pointer none), (8, .int .i64 y1812), (10, .int .i64 x2141), (9, .slice p2462 y2458.1.length c2463), (92, .bool (!y2543))] (by kernel_rfl) fun a hs => ?_
                        refine s_end ?_
                        obtain rfl := someE hx2518
                        exact (hJ2519 _ _).2 ⟨(!y2543), hx2400, hs.cast [0, 1, 2, 7, 8, 10, 9, 92] (by kernel_rfl), hw.pick [1] (by kernel_rfl)⟩
                  · intro a w hh
                    obtain ⟨x2515, hx2400, hs, hw⟩ := (hJ2519 _ _).1 hh
                    rcases ifbE hx2400 with ⟨h2516, hx2400⟩ | ⟨h2516, hx2400⟩
                    · refine c_cond1 hs (by kernel_rfl) (t := x2515) (by kernel_rfl) h2516 ?_
                      refine c_seq ?_
                      refine c_region ?_
                      refine pures hs 1 [6] [(6, .bool false)] (by kernel_rfl) fun a hs => ?_
                      refine s_end ?_
                      refine wp_ret ?_
                      obtain rfl := someE hx2400
                      obtain rfl := someE hk
                      refine hQ _ _ (f_ret1 hs rfl (v := .bool false) (by kernel_rfl) ⟨ih2460, rfl, hw.pick [0] (by kernel_rfl), ((hle1814.trans hle2136).trans hle2461)⟩)
                    · refine c_cond0 hs (by kernel_rfl) (t := x2515) (by kernel_rfl) h2516 ?_
                      refine wp_skip ?_
                      refine c_region ?_
                      refine pures hs 3 [0, 1, 2, 7, 8, 10, 9] [(0, .slice p2 x1.length c3), (1, .slice p6 x5.length c7), (2, .int .u32 x9), (7, .pointer none), (8, .int .i64 y1812), (10, .int .i64 (IntKind.i64.wrap (x2141 + 1))), (9, .slice p2462 y2458.1.length c2463)] (by kernel_rfl) fun a hs => ?_
                      refine s_end ?_
                      exact (hI2402 _ _ _).2 ⟨y2458.1, (IntKind.i64.wrap (x2141 + 1)), p2462, c2463, ih2460, hx2400, hs.cast [0, 1, 2, 7, 8, 9, 10] (by kernel_rfl), hw.pick [0] (by kernel_rfl), (hle2136.trans hle2461), h2464⟩
              · refine c_cond0 hs (by kernel_rfl) (t := (decide (x2141 < (x5.length : Int)))) (by kernel_rfl) h2403 ?_
                refine wp_exit ?_
                obtain rfl := someE hx2400
                exact (hJ2401 _ _).2 ⟨x2137, p2138, c2139, ih2135, hk, hs.cast [0, 2, 7, 8, 9] (by kernel_rfl), hw.pick [0] (by kernel_rfl), hle2136, h2140⟩
          · intro a w hh
            obtain ⟨x2287, p2288, c2289, ih2285, hk, hs, hw, hle2286, h2290⟩ := (hJ2401 _ _).1 hh
            refine c_seq ?_
            refine c_region ?_
            refine pures hs 4 [0, 2, 7, 8, 93, 94, 96] [(0, .slice p2 x1.length c3), (2, .int .u32 x9), (7, .pointer none), (8, .int .i64 y1812), (93, .slice p2288 x2287.length c2289), (94, .int .u32 x9), (96, .int .i64 (x2287.length : Int))] (by kernel_rfl) fun a hs => ?_
            obtain ⟨y2302, h2303, hk⟩ := bindE hk
            refine s_call hs (by kernel_rfl) (by kernel_rfl) (catenaryref25_Chain_s h2303 ((hw.pick [0] (by kernel_rfl)).pack 0)) fun a w v hv hs => ?_
            obtain ⟨rfl, hw⟩ := hv
            replace hw := hw.unpack 0 rfl
            obtain ⟨x2304, h2305, hk⟩ := bindE hk
            refine s_index hs h2290 (by kernel_rfl) (by kernel_rfl) (k := .i64) (by kernel_rfl) 53 (by kernel_rfl) (by kernel_rfl) h2305 fun a r2306 cs henc at2307 hs => ?_
            obtain ⟨p2308, c2309, rfl, h2310⟩ := henc
            refine s_load hs (at2307 _ (hw.vwAll.nil.anti (Le.refl _))) 0 (by kernel_rfl) (by kernel_rfl) (v := .agg #[.int .i64 x2304.f0, .int .u64 x2304.f1, .slice p2308 x2304.f2.length c2309, .bool x2304.f3, .int .i64 x2304.f4]) (by kernel_rfl) fun a hs => ?_
            refine s_new hs hw [.int .i64 0, .int .u64 0, .slice none 0 0, .bool false, .int .i64 0] 53 (fun b => .pointer (some ⟨b, 0, none⟩)) (by kernel_rfl) (fun _ => by kernel_rfl) fun a w b2311 hs hw => ?_
            refine s_store hs hw 0 rfl 0 (by kernel_rfl) (by kernel_rfl) (v := .agg #[.int .i64 x2304.f0, .int .u64 x2304.f1, .slice p2308 x2304.f2.length c2309, .bool x2304.f3, .int .i64 x2304.f4]) (by kernel_rfl) (by kernel_rfl) (by kernel_rfl) (by kernel_rfl) fun a w hs hw => ?_
            refine s_end ?_
            refine c_seq ?_
            obtain ⟨S2313, hS2313, kS2313⟩ := mkSX (X := [([], bx b2311 [.int .i64 x2304.f0, .int .u64 x2304.f1, .slice p2308 x2304.f2.length c2309, .bool x2304.f3, .int .i64 x2304.f4] 53), ([], F)]) (ih := ih2285) (K := []) rfl
            obtain ⟨y2369, hx2370, hk⟩ := bindE hk
            obtain ⟨J2371, hJ2371⟩ : ∃ J : Act → World → Prop, ∀ a w, J a w ↔ (∃ (x2368 : Bool) (ih2366 : IH), catenarylaw25_AtlasLearns_2_r20 x2368 = some r ∧ Sees a 139 [(6, .bool x2368)] ∧ St g w [F] ih2366 ∧ Le ih2285 ih2366) := ⟨_, fun _ _ => Iff.rfl⟩
            refine c_draw (by kernel_rfl) (N := 40) rfl S2313 J2371 ?_ ?_
            · have hw := hw.drew
              have hS : S2313 (Array.replicate 40 false) _ := SX_now hS2313 (hw.vws [0, 1]) (by kernel_rfl)
              refine d_pures (fuel := 37) kS2313 hs hS [0, 1, 2] [0, 2, 7, 8, 14, 100, 101, 102] [(0, .slice p2 x1.length c3), (2, .int .u32 x9), (7, .pointer none), (8, .int .i64 y1812), (14, .pointer (some ⟨b2311, 0, none⟩)), (100, .int .i64 y1812), (101, .bool (y1812 == 0)), (102, .bool (y1812 == 0))] (by kernel_rfl) fun a hs hS => ?_
              rcases ifbE hx2370 with ⟨h2372, hx2370⟩ | ⟨h2372, hx2370⟩
              · replace hs := hs.altB 102 true (by kernel_rfl) h2372
                refine d_pures (fuel := 35) kS2313 hs hS [3, 4] [0, 2, 7, 8, 14, 100, 101, 102, 103, 104] [(0, .slice p2 x1.length c3), (2, .int .u32 x9), (7, .pointer none), (8, .int .i64 y1812), (14, .pointer (some ⟨b2311, 0, none⟩)), (100, .int .i64 y1812), (101, .bool (y1812 == 0)), (102, .bool true), (103, .pointer none), (104, .int .u32 x9)] (by kernel_rfl) fun a hs hS => ?_
                refine d_load (fuel := 34) kS2313 hs hS 6 rfl (by kernel_rfl) (SX_box hS2313 0 rfl (by kernel_rfl)) 0 (by kernel_rfl) (by kernel_rfl) (v := .agg #[.int .i64 x2304.f0, .int .u64 x2304.f1, .slice p2308 x2304.f2.length c2309, .bool x2304.f3, .int .i64 x2304.f4]) (by kernel_rfl) fun a hs hS => ?_
                refine d_all (fuel := 33) (rs := [5]) (by kernel_rfl) (by simp) (all1 ?_)
                obtain ⟨y2373, h2374, hx2370⟩ := bindE hx2370
                refine o_call hs rfl (by kernel_rfl) (by kernel_rfl) (atlas_Atlas_Of_s h2374 ((hw.pick [0, 1] (by kernel_rfl)).pack 0)) fun a w v hv hs => ?_
                obtain ⟨p2375, c2376, rfl, hw, h2377⟩ := hv
                replace hw := hw.unpack 0 rfl
                refine dg_next (SX_now hS2313 ((hw.vws [0, 1]).anti (Le.refl _)) (by kernel_rfl)) fun hS => ?_
                refine d_all (fuel := 32) (rs := [7]) (by kernel_rfl) (by simp) (all1 ?_)
                obtain ⟨y2378, h2379, hx2370⟩ := bindE hx2370
                refine o_call hs rfl (by kernel_rfl) (by kernel_rfl) (catenaryref09_Same_s h2379 h2377 h2310 ((hw.pick [0, 1] (by kernel_rfl)).pack 0)) fun a w v hv hs => ?_
                obtain ⟨rfl, hw⟩ := hv
                replace hw := hw.unpack 0 rfl
                refine dg_next (SX_now hS2313 ((hw.vws [0, 1]).anti (Le.refl _)) (by kernel_rfl)) fun hS => ?_
                refine d_pures (fuel := 30) kS2313 hs hS [8, 9] [0, 2, 7, 8, 14, 100, 101, 102, 103, 104, 106, 105, 107, 108, 109] [(0, .slice p2 x1.length c3), (2, .int .u32 x9), (7, .pointer none), (8, .int .i64 y1812), (14, .pointer (some ⟨b2311, 0, none⟩)), (100, .int .i64 y1812), (101, .bool (y1812 == 0)), (102, .bool true), (103, .pointer none), (104, .int .u32 x9), (106, .agg #[.int .i64 x2304.f0, .int .u64 x2304.f1, .slice p2308 x2304.f2.length c2309, .bool x2304.f3, .int .i64 x2304.f4]), (105, .agg #[.int .i64 y2373.f0, .int .u64 y2373.f1, .slice p2375 y2373.f2.length c2376, .bool y2373.f3, .int .i64 y2373.f4]), (107, .bool y2378), (108, .bool y2378), (109, .bool y2378)] (by kernel_rfl) fun a hs hS => ?_
                rcases ifbE hx2370 with ⟨h2380, hx2370⟩ | ⟨h2380, hx2370⟩
                · replace hs := hs.altB 109 true (by kernel_rfl) h2380
                  refine d_pures (fuel := 28) kS2313 hs hS [10, 11] [0, 2, 7, 8, 14, 100, 101, 102, 103, 104, 106, 105, 107, 108, 109, 110, 111] [(0, .slice p2 x1.length c3), (2, .int .u32 x9), (7, .pointer none), (8, .int .i64 y1812), (14, .pointer (some ⟨b2311, 0, none⟩)), (100, .int .i64 y1812), (101, .bool (y1812 == 0)), (102, .bool true), (103, .pointer none), (104, .int .u32 x9), (106, .agg #[.int .i64 x2304.f0, .int .u64 x2304.f1, .slice p2308 x2304.f2.length c2309, .bool x2304.f3, .int .i64 x2304.f4]), (105, .agg #[.int .i64 y2373.f0, .int .u64 y2373.f1, .slice p2375 y2373.f2.length c2376, .bool y2373.f3, .int .i64 y2373.f4]), (107, .bool y2378), (108, .bool y2378), (109, .bool true), (110, .pointer none), (111, .int .u32 x9)] (by kernel_rfl) fun a hs hS => ?_
                  refine d_load (fuel := 27) kS2313 hs hS 13 rfl (by kernel_rfl) (SX_box hS2313 0 rfl (by kernel_rfl)) 0 (by kernel_rfl) (by kernel_rfl) (v := .agg #[.int .i64 x2304.f0, .int .u64 x2304.f1, .slice p2308 x2304.f2.length c2309, .bool x2304.f3, .int .i64 x2304.f4]) (by kernel_rfl) fun a hs hS => ?_
                  refine d_all (fuel := 26) (rs := [12]) (by kernel_rfl) (by simp) (all1 ?_)
                  obtain ⟨y2381, h2382, hx2370⟩ := bindE hx2370
                  refine o_call hs rfl (by kernel_rfl) (by kernel_rfl) (atlas_Atlas_Head_s h2382 ((hw.pick [0, 1] (by kernel_rfl)).pack 0)) fun a w v hv hs => ?_
                  obtain ⟨rfl, hw⟩ := hv
                  replace hw := hw.unpack 0 rfl
                  refine dg_next (SX_now hS2313 ((hw.vws [0, 1]).anti (Le.refl _)) (by kernel_rfl)) fun hS => ?_
                  refine d_all (fuel := 25) (rs := [14]) (by kernel_rfl) (by simp) (all1 ?_)
                  obtain ⟨y2383, h2384, hx2370⟩ := bindE hx2370
                  refine o_call hs rfl (by kernel_rfl) (by kernel_rfl) (catenaryref19_Head_s h2384 h2310 ((hw.pick [0, 1] (by kernel_rfl)).pack 0)) fun a w v hv hs => ?_
                  obtain ⟨rfl, hw⟩ := hv
                  replace hw := hw.unpack 0 rfl
                  refine dg_next (SX_now hS2313 ((hw.vws [0, 1]).anti (Le.refl _)) (by kernel_rfl)) fun hS => ?_
                  refine d_pures (fuel := 22) kS2313 hs hS [15, 16, 17] [0, 2, 7, 8, 14, 100, 101, 102, 103, 104, 106, 105, 107, 108, 109, 110, 111, 113, 112, 114, 115, 116, 117] [(0, .slice p2 x1.length c3), (2, .int .u32 x9), (7, .pointer none), (8, .int .i64 y1812), (14, .pointer (some ⟨b2311, 0, none⟩)), (100, .int .i64 y1812), (101, .bool (y1812 == 0)), (102, .bool true), (103, .pointer none), (104, .int .u32 x9), (106, .agg #[.int .i64 x2304.f0, .int .u64 x2304.f1, .slice p2308 x2304.f2.length c2309, .bool x2304.f3, .int .i64 x2304.f4]), (105, .agg #[.int .i64 y2373.f0, .int .u64 y2373.f1, .slice p2375 y2373.f2.length c2376, .bool y2373.f3, .int .i64 y2373.f4]), (107, .bool y2378), (108, .bool y2378), (109, .bool true), (110, .pointer none), (111, .int .u32 x9), (113, .agg #[.int .i64 x2304.f0, .int .u64 x2304.f1, .slice p2308 x2304.f2.length c2309, .bool x2304.f3, .int .i64 x2304.f4]), (112, .int .i64 y2381), (114, .int .i64 y2383), (115, .bool (y2381 == y2383)), (116, .bool (y2381 == y2383)), (117, .bool (y2381 == y2383))] (by kernel_rfl) fun a hs hS => ?_
                  rcases ifbE hx2370 with ⟨h2385, hx2370⟩ | ⟨h2385, hx2370⟩
                  · replace hs := hs.altB 117 true (by kernel_rfl) h2385
                    refine d_pures (fuel := 18) kS2313 hs hS [18, 19, 20, 21] [0, 2, 7, 8, 14, 100, 101, 102, 103, 104, 106, 105, 107, 108, 109, 110, 111, 113, 112, 114, 115, 116, 117, 118, 119, 120, 121] [(0, .slice p2 x1.length c3), (2, .int .u32 x9), (7, .pointer none), (8, .int .i64 y1812), (14, .pointer (some ⟨b2311, 0, none⟩)), (100, .int .i64 y1812), (101, .bool (y1812 == 0)), (102, .bool true), (103, .pointer none), (104, .int .u32 x9), (106, .agg #[.int .i64 x2304.f0, .int .u64 x2304.f1, .slice p2308 x2304.f2.length c2309, .bool x2304.f3, .int .i64 x2304.f4]), (105, .agg #[.int .i64 y2373.f0, .int .u64 y2373.f1, .slice p2375 y2373.f2.length c2376, .bool y2373.f3, .int .i64 y2373.f4]), (107, .bool y2378), (108, .bool y2378), (109, .bool true), (110, .pointer none), (111, .int .u32 x9), (113, .agg #[.int .i64 x2304.f0, .int .u64 x2304.f1, .slice p2308 x2304.f2.length c2309, .bool x2304.f3, .int .i64 x2304.f4]), (112, .int .i64 y2381), (114, .int .i64 y2383), (115, .bool (y2381 == y2383)), (116, .bool (y2381 == y2383)), (117, .bool true), (118, .pointer none), (119, .int .u32 x9), (120, .int .u32 x9), (121, .int .i64 (IntKind.i64.wrap (x9)))] (by kernel_rfl) fun a hs hS => ?_
                    refine d_load (fuel := 17) kS2313 hs hS 23 rfl (by kernel_rfl) (SX_box hS2313 0 rfl (by kernel_rfl)) 0 (by kernel_rfl) (by kernel_rfl) (v := .agg #[.int .i64 x2304.f0, .int .u64 x2304.f1, .slice p2308 x2304.f2.length c2309, .bool x2304.f3, .int .i64 x2304.f4]) (by kernel_rfl) fun a hs hS => ?_
                    refine d_pures (fuel := 15) kS2313 hs hS [24, 25] [0, 2, 7, 8, 14, 100, 101, 102, 103, 104, 106, 105, 107, 108, 109, 110, 111, 113, 112, 114, 115, 116, 117, 118, 119, 120, 121, 123, 124, 125] [(0, .slice p2 x1.length c3), (2, .int .u32 x9), (7, .pointer none), (8, .int .i64 y1812), (14, .pointer (some ⟨b2311, 0, none⟩)), (100, .int .i64 y1812), (101, .bool (y1812 == 0)), (102, .bool true), (103, .pointer none), (104, .int .u32 x9), (106, .agg #[.int .i64 x2304.f0, .int .u64 x2304.f1, .slice p2308 x2304.f2.length c2309, .bool x2304.f3, .int .i64 x2304.f4]), (105, .agg #[.int .i64 y2373.f0, .int .u64 y2373.f1, .slice p2375 y2373.f2.length c2376, .bool y2373.f3, .int .i64 y2373.f4]), (107, .bool y2378), (108, .bool y2378), (109, .bool true), (110, .pointer none), (111, .int .u32 x9), (113, .agg #[.int .i64 x2304.f0, .int .u64 x2304.f1, .slice p2308 x2304.f2.length c2309, .bool x2304.f3, .int .i64 x2304.f4]), (112, .int .i64 y2381), (114, .int .i64 y2383), (115, .bool (y2381 == y2383)), (116, .bool (y2381 == y2383)), (117, .bool true), (118, .pointer none), (119, .int .u32 x9), (120, .int .u32 x9), (121, .int .i64 (IntKind.i64.wrap (x9))), (123, .agg #[.int .i64 x2304.f0, .int .u64 x2304.f1, .slice p2308 x2304.f2.length c2309, .bool x2304.f3, .int .i64 x2304.f4]), (124, .int .u32 x9), (125, .int .i64 (IntKind.i64.wrap (x9)))] (by kernel_rfl) fun a hs hS => ?_
                    refine d_all (fuel := 14) (rs := [22]) (by kernel_rfl) (by simp) (all1 ?_)
                    obtain ⟨y2386, h2387, hx2370⟩ := bindE hx2370
                    refine o_call hs rfl (by kernel_rfl) (by kernel_rfl) (atlas_Atlas_Reader_s h2387 ((hw.pick [0, 1] (by kernel_rfl)).pack 0)) fun a w v hv hs => ?_
                    obtain ⟨rfl, hw⟩ := hv
                    replace hw := hw.unpack 0 rfl
                    refine dg_next (SX_now hS2313 ((hw.vws [0, 1]).anti (Le.refl _)) (by kernel_rfl)) fun hS => ?_
                    refine d_all (fuel := 13) (rs := [26]) (by kernel_rfl) (by simp) (all1 ?_)
                    obtain ⟨y2388, h2389, hx2370⟩ := bindE hx2370
                    refine o_call hs rfl (by kernel_rfl) (by kernel_rfl) (catenaryref19_Reader_s h2389 h2310 ((hw.pick [0, 1] (by kernel_rfl)).pack 0)) fun a w v hv hs => ?_
                    obtain ⟨rfl, hw⟩ := hv
                    replace hw := hw.unpack 0 rfl
                    refine dg_next (SX_now hS2313 ((hw.vws [0, 1]).anti (Le.refl _)) (by kernel_rfl)) fun hS => ?_
                    refine d_pures (fuel := 10) kS2313 hs hS [27, 28, 29] [0, 2, 7, 8, 14, 100, 101, 102, 103, 104, 106, 105, 107, 108, 109, 110, 111, 113, 112, 114, 115, 116, 117, 118, 119, 120, 121, 123, 124, 125, 122, 126, 127, 128, 129] [(0, .slice p2 x1.length c3), (2, .int .u32 x9), (7, .pointer none), (8, .int .i64 y1812), (14, .pointer (some ⟨b2311, 0, none⟩)), (100, .int .i64 y1812), (101, .bool (y1812 == 0)), (102, .bool true), (103, .pointer none), (104, .int .u32 x9), (106, .agg #[.int .i64 x2304.f0, .int .u64 x2304.f1, .slice p2308 x2304.f2.length c2309, .bool x2304.f3, .int .i64 x2304.f4]), (105, .agg #[.int .i64 y2373.f0, .int .u64 y2373.f1, .slice p2375 y2373.f2.length c2376, .bool y2373.f3, .int .i64 y2373.f4]), (107, .bool y2378), (108, .bool y2378), (109, .bool true), (110, .pointer none), (111, .int .u32 x9), (113, .agg #[.int .i64 x2304.f0, .int .u64 x2304.f1, .slice p2308 x2304.f2.length c2309, .bool x2304.f3, .int .i64 x2304.f4]), (112, .int .i64 y2381), (114, .int .i64 y2383), (115, .bool (y2381 == y2383)), (116, .bool (y2381 == y2383)), (117, .bool true), (118, .pointer none), (119, .int .u32 x9), (120, .int .u32 x9), (121, .int .i64 (IntKind.i64.wrap (x9))), (123, .agg #[.int .i64 x2304.f0, .int .u64 x2304.f1, .slice p2308 x2304.f2.length c2309, .bool x2304.f3, .int .i64 x2304.f4]), (124, .int .u32 x9), (125, .int .i64 (IntKind.i64.wrap (x9))), (122, .int .i64 y2386), (126, .int .i64 y2388), (127, .bool (y2386 == y2388)), (128, .bool (y2386 == y2388)), (129, .bool (y2386 == y2388))] (by kernel_rfl) fun a hs hS => ?_
                    rcases ifbE hx2370 with ⟨h2390, hx2370⟩ | ⟨h2390, hx2370⟩
                    · replace hs := hs.altB 129 true (by kernel_rfl) h2390
                      refine d_pures (fuel := 7) kS2313 hs hS [30, 32, 33] [0, 2, 7, 8, 14, 100, 101, 102, 103, 104, 106, 105, 107, 108, 109, 110, 111, 113, 112, 114, 115, 116, 117, 118, 119, 120, 121, 123, 124, 125, 122, 126, 127, 128, 129, 130, 132, 133] [(0, .slice p2 x1.length c3), (2, .int .u32 x9), (7, .pointer none), (8, .int .i64 y1812), (14, .pointer (some ⟨b2311, 0, none⟩)), (100, .int .i64 y1812), (101, .bool (y1812 == 0)), (102, .bool true), (103, .pointer none), (104, .int .u32 x9), (106, .agg #[.int .i64 x2304.f0, .int .u64 x2304.f1, .slice p2308 x2304.f2.length c2309, .bool x2304.f3, .int .i64 x2304.f4]), (105, .agg #[.int .i64 y2373.f0, .int .u64 y2373.f1, .slice p2375 y2373.f2.length c2376, .bool y2373.f3, .int .i64 y2373.f4]), (107, .bool y2378), (108, .bool y2378), (109, .bool true), (110, .pointer none), (111, .int .u32 x9), (113, .agg #[.int .i64 x2304.f0, .int .u64 x2304.f1, .slice p2308 x2304.f2.length c2309, .bool x2304.f3, .int .i64 x2304.f4]), (112, .int .i64 y2381), (114, .int .i64 y2383), (115, .bool (y2381 == y2383)), (116, .bool (y2381 == y2383)), (117, .bool true), (118, .pointer none), (119, .int .u32 x9), (120, .int .u32 x9), (121, .int .i64 (IntKind.i64.wrap (x9))), (123, .agg #[.int .i64 x2304.f0, .int .u64 x2304.f1, .slice p2308 x2304.f2.length c2309, .bool x2304.f3, .int .i64 x2304.f4]), (124, .int .u32 x9), (125, .int .i64 (IntKind.i64.wrap (x9))), (122, .int .i64 y2386), (126, .int .i64 y2388), (127, .bool (y2386 == y2388)), (128, .bool (y2386 == y2388)), (129, .bool true), (130, .pointer none), (132, .slice p2 x1.length c3), (133, .int .i64 (x1.length : Int))] (by kernel_rfl) fun a hs hS => ?_
                      refine d_all (fuel := 6) (rs := [31]) (by kernel_rfl) (by simp) (all1 ?_)
                      obtain ⟨y2391, h2392, hx2370⟩ := bindE hx2370
                      refine o_call hs rfl (by kernel_rfl) (by kernel_rfl) (atlas_Atlas_Chains_s h2392 ((hw.pick [0, 1] (by kernel_rfl)).pack 0)) fun a w v hv hs => ?_
                      obtain ⟨rfl, hw⟩ := hv
                      replace hw := hw.unpack 0 rfl
                      refine dg_next (SX_now hS2313 ((hw.vws [0, 1]).anti (Le.refl _)) (by kernel_rfl)) fun hS => ?_
                      refine d_pures (fuel := 3) kS2313 hs hS [34, 35, 36] [0, 2, 7, 8, 14, 100, 101, 102, 103, 104, 106, 105, 107, 108, 109, 110, 111, 113, 112, 114, 115, 116, 117, 118, 119, 120, 121, 123, 124, 125, 122, 126, 127, 128, 129, 130, 132, 133, 131, 134, 135, 136] [(0, .slice p2 x1.length c3), (2, .int .u32 x9), (7, .pointer none), (8, .int .i64 y1812), (14, .pointer (some ⟨b2311, 0, none⟩)), (100, .int .i64 y1812), (101, .bool (y1812 == 0)), (102, .bool true), (103, .pointer none), (104, .int .u32 x9), (106, .agg #[.int .i64 x2304.f0, .int .u64 x2304.f1, .slice p2308 x2304.f2.length c2309, .bool x2304.f3, .int .i64 x2304.f4]), (105, .agg #[.int .i64 y2373.f0, .int .u64 y2373.f1, .slice p2375 y2373.f2.length c2376, .bool y2373.f3, .int .i64 y2373.f4]), (107, .bool y2378), (108, .bool y2378), (109, .bool true), (110, .pointer none), (111, .int .u32 x9), (113, .agg #[.int .i64 x2304.f0, .int .u64 x2304.f1, .slice p2308 x2304.f2.length c2309, .bool x2304.f3, .int .i64 x2304.f4]), (112, .int .i64 y2381), (114, .int .i64 y2383), (115, .bool (y2381 == y2383)), (116, .bool (y2381 == y2383)), (117, .bool true), (118, .pointer none), (119, .int .u32 x9), (120, .int .u32 x9), (121, .int .i64 (IntKind.i64.wrap (x9))), (123, .agg #[.int .i64 x2304.f0, .int .u64 x2304.f1, .slice p2308 x2304.f2.length c2309, .bool x2304.f3, .int .i64 x2304.f4]), (124, .int .u32 x9), (125, .int .i64 (IntKind.i64.wrap (x9))), (122, .int .i64 y2386), (126, .int .i64 y2388), (127, .bool (y2386 == y2388)), (128, .bool (y2386 == y2388)), (129, .bool true), (130, .pointer none), (132, .slice p2 x1.length c3), (133, .int .i64 (x1.length : Int)), (131, .int .i64 y2391), (134, .bool (y2391 == (x1.length : Int))), (135, .bool (y2391 == (x1.length : Int))), (136, .bool (y2391 == (x1.length : Int)))] (by kernel_rfl) fun a hs hS => ?_
                      rcases ifbE hx2370 with ⟨h2393, hx2370⟩ | ⟨h2393, hx2370⟩
                      · replace hs := hs.altB 136 true (by kernel_rfl) h2393
                        refine d_all (fuel := 2) (rs := [37]) (by kernel_rfl) (by simp) (all1 ?_)
                        obtain ⟨y2394, h2395, hx2370⟩ := bindE hx2370
                        refine o_call hs rfl (by kernel_rfl) (by kernel_rfl) (catenarylaw25_awake_s h2395 ((hw.pick [0, 1] (by kernel_rfl)).pack 0)) fun a w v hv hs => ?_
                        obtain ⟨ih2396, rfl, hw, hle2397⟩ := hv
                        replace hw := hw.unpack 0 rfl
                        refine dg_next (SX_now hS2313 ((hw.vws [0, 1]).anti hle2397) (by kernel_rfl)) fun hS => ?_
                        refine d_pures (fuel := 0) kS2313 hs hS [38, 39] [0, 2, 7, 8, 14, 100, 101, 102, 103, 104, 106, 105, 107, 108, 109, 110, 111, 113, 112, 114, 115, 116, 117, 118, 119, 120, 121, 123, 124, 125, 122, 126, 127, 128, 129, 130, 132, 133, 131, 134, 135, 136, 137, 138, 6] [(0, .slice p2 x1.length c3), (2, .int .u32 x9), (7, .pointer none), (8, .int .i64 y1812), (14, .pointer (some ⟨b2311, 0, none⟩)), (100, .int .i64 y1812), (101, .bool (y1812 == 0)), (102, .bool true), (103, .pointer none), (104, .int .u32 x9), (106, .agg #[.int .i64 x2304.f0, .int .u64 x2304.f1, .slice p2308 x2304.f2.length c2309, .bool x2304.f3, .int .i64 x2304.f4]), (105, .agg #[.int .i64 y2373.f0, .int .u64 y2373.f1, .slice p2375 y2373.f2.length c2376, .bool y2373.f3, .int .i64 y2373.f4]), (107, .bool y2378), (108, .bool y2378), (109, .bool true), (110, .pointer none), (111, .int .u32 x9), (113, .agg #[.int .i64 x2304.f0, .int .u64 x2304.f1, .slice p2308 x2304.f2.length c2309, .bool x2304.f3, .int .i64 x2304.f4]), (112, .int .i64 y2381), (114, .int .i64 y2383), (115, .bool (y2381 == y2383)), (116, .bool (y2381 == y2383)), (117, .bool true), (118, .pointer none), (119, .int .u32 x9), (120, .int .u32 x9), (121, .int .i64 (IntKind.i64.wrap (x9))), (123, .agg #[.int .i64 x2304.f0, .int .u64 x2304.f1, .slice p2308 x2304.f2.length c2309, .bool x2304.f3, .int .i64 x2304.f4]), (124, .int .u32 x9), (125, .int .i64 (IntKind.i64.wrap (x9))), (122, .int .i64 y2386), (126, .int .i64 y2388), (127, .bool (y2386 == y2388)), (128, .bool (y2386 == y2388)), (129, .bool true), (130, .pointer none), (132, .slice p2 x1.length c3), (133, .int .i64 (x1.length : Int)), (131, .int .i64 y2391), (134, .bool (y2391 == (x1.length : Int))), (135, .bool (y2391 == (x1.length : Int))), (136, .bool true), (137, .bool y2394), (138, .bool y2394), (6, .bool y2394)] (by kernel_rfl) fun a hs hS => ?_
                        refine d_done (by kernel_rfl) ?_
                        obtain rfl := someE hx2370
                        exact (hJ2371 _ _).2 ⟨y2394, ih2396, hk, hs.cast [6] (by kernel_rfl), hw.pick [1] (by kernel_rfl), hle2397⟩
                      · replace hs := hs.altB 136 false (by kernel_rfl) h2393
                        refine d_pures (fuel := 0) kS2313 hs hS [37, 38, 39] [0, 2, 7, 8, 14, 100, 101, 102, 103, 104, 106, 105, 107, 108, 109, 110, 111, 113, 112, 114, 115, 116, 117, 118, 119, 120, 121, 123, 124, 125, 122, 126, 127, 128, 129, 130, 132, 133, 131, 134, 135, 136, 137, 138, 6] [(0, .slice p2 x1.length c3), (2, .int .u32 x9), (7, .pointer none), (8, .int .i64 y1812), (14, .pointer (some ⟨b2311, 0, none⟩)), (100, .int .i64 y1812), (101, .bool (y1812 == 0)), (102, .bool true), (103, .pointer none), (104, .int .u32 x9), (106, .agg #[.int .i64 x2304.f0, .int .u64 x2304.f1, .slice p2308 x2304.f2.length c2309, .bool x2304.f3, .int .i64 x2304.f4]), (105, .agg #[.int .i64 y2373.f0, .int .u64 y2373.f1, .slice p2375 y2373.f2.length c2376, .bool y2373.f3, .int .i64 y2373.f4]), (107, .bool y2378), (108, .bool y2378), (109, .bool true), (110, .pointer none), (111, .int .u32 x9), (113, .agg #[.int .i64 x2304.f0, .int .u64 x2304.f1, .slice p2308 x2304.f2.length c2309, .bool x2304.f3, .int .i64 x2304.f4]), (112, .int .i64 y2381), (114, .int .i64 y2383), (115, .bool (y2381 == y2383)), (116, .bool (y2381 == y2383)), (117, .bool true), (118, .pointer none), (119, .int .u32 x9), (120, .int .u32 x9), (121, .int .i64 (IntKind.i64.wrap (x9))), (123, .agg #[.int .i64 x2304.f0, .int .u64 x2304.f1, .slice p2308 x2304.f2.length c2309, .bool x2304.f3, .int .i64 x2304.f4]), (124, .int .u32 x9), (125, .int .i64 (IntKind.i64.wrap (x9))), (122, .int .i64 y2386), (126, .int .i64 y2388), (127, .bool (y2386 == y2388)), (128, .bool (y2386 == y2388)), (129, .bool true), (130, .pointer none), (132, .slice p2 x1.length c3), (133, .int .i64 (x1.length : Int)), (131, .int .i64 y2391), (134, .bool (y2391 == (x1.length : Int))), (135, .bool (y2391 == (x1.length : Int))), (136, .bool false), (137, undef), (138, .bool false), (6, .bool false)] (by kernel_rfl) fun a hs hS => ?_
                        refine d_done (by kernel_rfl) ?_
                        obtain rfl := someE hx2370
                        exact (hJ2371 _ _).2 ⟨false, ih2285, hk, hs.cast [6] (by kernel_rfl), hw.pick [1] (by kernel_rfl), (Le.refl _)⟩
                    · replace hs := hs.altB 129 false (by kernel_rfl) h2390
                      refine d_pures (fuel := 0) kS2313 hs hS [30, 31, 32, 33, 34, 35, 36, 37, 38, 39] [0, 2, 7, 8, 14, 100, 101, 102, 103, 104, 106, 105, 107, 108, 109, 110, 111, 113, 112, 114, 115, 116, 117, 118, 119, 120, 121, 123, 124, 125, 122, 126, 127, 128, 129, 130, 131, 132, 133, 134, 135, 136, 137, 138, 6] [(0, .slice p2 x1.length c3), (2, .int .u32 x9), (7, .pointer none), (8, .int .i64 y1812), (14, .pointer (some ⟨b2311, 0, none⟩)), (100, .int .i64 y1812), (101, .bool (y1812 == 0)), (102, .bool true), (103, .pointer none), (104, .int .u32 x9), (106, .agg #[.int .i64 x2304.f0, .int .u64 x2304.f1, .slice p2308 x2304.f2.length c2309, .bool x2304.f3, .int .i64 x2304.f4]), (105, .agg #[.int .i64 y2373.f0, .int .u64 y2373.f1, .slice p2375 y2373.f2.length c2376, .bool y2373.f3, .int .i64 y2373.f4]), (107, .bool y2378), (108, .bool y2378), (109, .bool true), (110, .pointer none), (111, .int .u32 x9), (113, .agg #[.int .i64 x2304.f0, .int .u64 x2304.f1, .slice p2308 x2304.f2.length c2309, .bool x2304.f3, .int .i64 x2304.f4]), (112, .int .i64 y2381), (114, .int .i64 y2383), (115, .bool (y2381 == y2383)), (116, .bool (y2381 == y2383)), (117, .bool true), (118, .pointer none), (119, .int .u32 x9), (120, .int .u32 x9), (121, .int .i64 (IntKind.i64.wrap (x9))), (123, .agg #[.int .i64 x2304.f0, .int .u64 x2304.f1, .slice p2308 x2304.f2.length c2309, .bool x2304.f3, .int .i64 x2304.f4]), (124, .int .u32 x9), (125, .int .i64 (IntKind.i64.wrap (x9))), (122, .int .i64 y2386), (126, .int .i64 y2388), (127, .bool (y2386 == y2388)), (128, .bool (y2386 == y2388)), (129, .bool false), (130, undef), (131, undef), (132, undef), (133, undef), (134, undef), (135, .bool false), (136, .bool false), (137, undef), (138, .bool false), (6, .bool false)] (by kernel_rfl) fun a hs hS => ?_
                      refine d_done (by kernel_rfl) ?_
                      obtain rfl := someE hx2370
                      exact (hJ2371 _ _).2 ⟨false, ih2285, hk, hs.cast [6] (by kernel_rfl), hw.pick [1] (by kernel_rfl), (Le.refl _)⟩
                  · replace hs := hs.altB 117 false (by kernel_rfl) h2385
                    refine d_pures (fuel := 0) kS2313 hs hS [18, 19, 20, 21, 22, 23, 24, 25, 26, 27, 28, 29, 30, 31, 32, 33, 34, 35, 36, 37, 38, 39] [0, 2, 7, 8, 14, 100, 101, 102, 103, 104, 106, 105, 107, 108, 109, 110, 111, 113, 112, 114, 115, 116, 117, 118, 119, 120, 121, 122, 123, 124, 125, 126, 127, 128, 129, 130, 131, 132, 133, 134, 135, 136, 137, 138, 6] [(0, .slice p2 x1.length c3), (2, .int .u32 x9), (7, .pointer none), (8, .int .i64 y1812), (14, .pointer (some ⟨b2311, 0, none⟩)), (100, .int .i64 y1812), (101, .bool (y1812 == 0)), (102, .bool true), (103, .pointer none), (104, .int .u32 x9), (106, .agg #[.int .i64 x2304.f0, .int .u64 x2304.f1, .slice p2308 x2304.f2.length c2309, .bool x2304.f3, .int .i64 x2304.f4]), (105, .agg #[.int .i64 y2373.f0, .int .u64 y2373.f1, .slice p2375 y2373.f2.length c2376, .bool y2373.f3, .int .i64 y2373.f4]), (107, .bool y2378), (108, .bool y2378), (109, .bool true), (110, .pointer none), (111, .int .u32 x9), (113, .agg #[.int .i64 x2304.f0, .int .u64 x2304.f1, .slice p2308 x2304.f2.length c2309, .bool x2304.f3, .int .i64 x2304.f4]), (112, .int .i64 y2381), (114, .int .i64 y2383), (115, .bool (y2381 == y2383)), (116, .bool (y2381 == y2383)), (117, .bool false), (118, undef), (119, undef), (120, undef), (121, undef), (122, undef), (123, undef), (124, undef), (125, undef), (126, undef), (127, undef), (128, .bool false), (129, .bool false), (130, undef), (131, undef), (132, undef), (133, undef), (134, undef), (135, .bool false), (136, .bool false), (137, undef), (138, .bool false), (6, .bool false)] (by kernel_rfl) fun a hs hS => ?_
                    refine d_done (by kernel_rfl) ?_
                    obtain rfl := someE hx2370
                    exact (hJ2371 _ _).2 ⟨false, ih2285, hk, hs.cast [6] (by kernel_rfl), hw.pick [1] (by kernel_rfl), (Le.refl _)⟩
                · replace hs := hs.altB 109 false (by kernel_rfl) h2380
                  refine d_pures (fuel := 0) kS2313 hs hS [10, 11, 12, 13, 14, 15, 16, 17, 18, 19, 20, 21, 22, 23, 24, 25, 26, 27, 28, 29, 30, 31, 32, 33, 34, 35, 36, 37, 38, 39] [0, 2, 7, 8, 14, 100, 101, 102, 103, 104, 106, 105, 107, 108, 109, 110, 111, 112, 113, 114, 115, 116, 117, 118, 119, 120, 121, 122, 123, 124, 125, 126, 127, 128, 129, 130, 131, 132, 133, 134, 135, 136, 137, 138, 6] [(0, .slice p2 x1.length c3), (2, .int .u32 x9), (7, .pointer none), (8, .int .i64 y1812), (14, .pointer (some ⟨b2311, 0, none⟩)), (100, .int .i64 y1812), (101, .bool (y1812 == 0)), (102, .bool true), (103, .pointer none), (104, .int .u32 x9), (106, .agg #[.int .i64 x2304.f0, .int .u64 x2304.f1, .slice p2308 x2304.f2.length c2309, .bool x2304.f3, .int .i64 x2304.f4]), (105, .agg #[.int .i64 y2373.f0, .int .u64 y2373.f1, .slice p2375 y2373.f2.length c2376, .bool y2373.f3, .int .i64 y2373.f4]), (107, .bool y2378), (108, .bool y2378), (109, .bool false), (110, undef), (111, undef), (112, undef), (113, undef), (114, undef), (115, undef), (116, .bool false), (117, .bool false), (118, undef), (119, undef), (120, undef), (121, undef), (122, undef), (123, undef), (124, undef), (125, undef), (126, undef), (127, undef), (128, .bool false), (129, .bool false), (130, undef), (131, undef), (132, undef), (133, undef), (134, undef), (135, .bool false), (136, .bool false), (137, undef), (138, .bool false), (6, .bool false)] (by kernel_rfl) fun a hs hS => ?_
                  refine d_done (by kernel_rfl) ?_
                  obtain rfl := someE hx2370
                  exact (hJ2371 _ _).2 ⟨false, ih2285, hk, hs.cast [6] (by kernel_rfl), hw.pick [1] (by kernel_rfl), (Le.refl _)⟩
              · replace hs := hs.altB 102 false (by kernel_rfl) h2372
                refine d_pures (fuel := 0) kS2313 hs hS [3, 4, 5, 6, 7, 8, 9, 10, 11, 12, 13, 14, 15, 16, 17, 18, 19, 20, 21, 22, 23, 24, 25, 26, 27, 28, 29, 30, 31, 32, 33, 34, 35, 36, 37, 38, 39] [0, 2, 7, 8, 14, 100, 101, 102, 103, 104, 105, 106, 107, 108, 109, 110, 111, 112, 113, 114, 115, 116, 117, 118, 119, 120, 121, 122, 123, 124, 125, 126, 127, 128, 129, 130, 131, 132, 133, 134, 135, 136, 137, 138, 6] [(0, .slice p2 x1.length c3), (2, .int .u32 x9), (7, .pointer none), (8, .int .i64 y1812), (14, .pointer (some ⟨b2311, 0, none⟩)), (100, .int .i64 y1812), (101, .bool (y1812 == 0)), (102, .bool false), (103, undef), (104, undef), (105, undef), (106, undef), (107, undef), (108, .bool false), (109, .bool false), (110, undef), (111, undef), (112, undef), (113, undef), (114, undef), (115, undef), (116, .bool false), (117, .bool false), (118, undef), (119, undef), (120, undef), (121, undef), (122, undef), (123, undef), (124, undef), (125, undef), (126, undef), (127, undef), (128, .bool false), (129, .bool false), (130, undef), (131, undef), (132, undef), (133, undef), (134, undef), (135, .bool false), (136, .bool false), (137, undef), (138, .bool false), (6, .bool false)] (by kernel_rfl) fun a hs hS => ?_
                refine d_done (by kernel_rfl) ?_
                obtain rfl := someE hx2370
                exact (hJ2371 _ _).2 ⟨false, ih2285, hk, hs.cast [6] (by kernel_rfl), hw.pick [1] (by kernel_rfl), (Le.refl _)⟩
            · intro a w hh
              obtain ⟨x2368, ih2366, hk, hs, hw, hle2367⟩ := (hJ2371 _ _).1 hh
              refine wp_ret ?_
              obtain rfl := someE hk
              refine hQ _ _ (f_ret1 hs rfl (v := .bool x2368) (by kernel_rfl) ⟨ih2366, rfl, hw.pick [0] (by kernel_rfl), ((hle1814.trans hle2286).trans hle2367)⟩)
      · dsimp only at hk
        replace hw := hw.unpack 5 rfl
        refine pures hs 5 [0, 1, 2, 7, 8] [(0, .slice p2 x1.length c3), (1, .slice p6 x5.length c7), (2, .int .u32 x9), (7, .pointer (some ⟨b2550, 0, none⟩)), (8, .int .i64 y2547.2.2.2.2.2.2.2)] (by kernel_rfl) fun a hs => ?_
        refine s_end ?_
        refine c_seq ?_
        refine c_seq ?_
        refine c_region ?_
        refine pures hs 1 [0, 1, 2, 7, 8, 29] [(0, .slice p2 x1.length c3), (1, .slice p6 x5.length c7), (2, .int .u32 x9), (7, .pointer (some ⟨b2550, 0, none⟩)), (8, .int .i64 y2547.2.2.2.2.2.2.2), (29, .slice p2 x1.length c3)] (by kernel_rfl) fun a hs => ?_
        obtain ⟨y2568, h2569, hk⟩ := bindE hk
        refine s_call hs (by kernel_rfl) (by kernel_rfl) (catenaryref09_All_s h2569 (h4.mono hle2549) (nilSub _) ((hw.pick [0, 1, 2, 3, 4, 5] (by kernel_rfl)).pack 0)) fun a w v hv hs => ?_
        obtain ⟨rfl, hw⟩ := hv
        replace hw := hw.unpack 0 rfl
        refine pures hs 1 [0, 1, 2, 7, 8, 31] [(0, .slice p2 x1.length c3), (1, .slice p6 x5.length c7), (2, .int .u32 x9), (7, .pointer (some ⟨b2550, 0, none⟩)), (8, .int .i64 y2547.2.2.2.2.2.2.2), (31, .bool (!y2568))] (by kernel_rfl) fun a hs => ?_
        refine s_end ?_
        rcases ifbE hk with ⟨h2570, hk⟩ | ⟨h2570, hk⟩
        · refine c_cond1 hs (by kernel_rfl) (t := (!y2568)) (by kernel_rfl) h2570 ?_
          refine c_seq ?_
          refine c_region ?_
          refine pures hs 10 [6] [(6, .bool false)] (by kernel_rfl) fun a hs => ?_
          refine s_end ?_
          refine wp_ret ?_
          obtain rfl := someE hk
          refine hQ _ _ (f_ret1 hs rfl (v := .bool false) (by kernel_rfl) ⟨ih2548, rfl, hw.pick [5] (by kernel_rfl), hle2549⟩)
        · refine c_cond0 hs (by kernel_rfl) (t := (!y2568)) (by kernel_rfl) h2570 ?_
          refine wp_skip ?_
          refine c_seq ?_
          refine c_region ?_
          refine pures hs 2 [0, 1, 2, 7, 8, 9] [(0, .slice p2 x1.length c3), (1, .slice p6 x5.length c7), (2, .int .u32 x9), (7, .pointer (some ⟨b2550, 0, none⟩)), (8, .int .i64 y2547.2.2.2.2.2.2.2), (9, .slice p2 x1.length c3)] (by kernel_rfl) fun a hs => ?_
          refine s_end ?_
          refine c_seq ?_
          refine c_seq ?_
          refine c_region ?_
          refine pures hs 1 [0, 1, 2, 7, 8, 9, 10] [(0, .slice p2 x1.length c3), (1, .slice p6 x5.length c7), (2, .int .u32 x9), (7, .pointer (some ⟨b2550, 0, none⟩)), (8, .int .i64 y2547.2.2.2.2.2.2.2), (9, .slice p2 x1.length c3), (10, .int .i64 0)] (by kernel_rfl) fun a hs => ?_
          refine s_end ?_
          refine c_block ?_
          obtain ⟨y3290, hx3291, hk⟩ := bindE hk
          obtain ⟨J3292, hJ3292⟩ : ∃ J : Act → World → Prop, ∀ a w, J a w ↔ (∃ (x3154 : List M53) (x3158 : List M53) (p3155 : Option Addr) (c3156 : Nat) (p3159 : Option Addr) (c3160 : Nat) (d3162 : Ch) (ih3152 : IH), catenarylaw25_AtlasLearns_2_r28 k x9 y2547 x1 x3154 x3158 = some r ∧ Sees a 139 [(0, .slice p2 x1.length c3), (2, .int .u32 x9), (7, .pointer (some ⟨b2550, 0, none⟩)), (8, .int .i64 y2547.2.2.2.2.2.2.2), (9, .slice p3155 x3154.length c3156)] ∧ St g w [bx b2550 [.slice p3159 x3158.length c3160, .pointer (some ⟨b2557, 0, none⟩)] 125, bx b2557 [.int .u32 y2547.2.1, .int .i32 y2547.2.2.1, .int .u32 y2547.2.2.2.1, .func (.func 93) #[] #[.pointer (some ⟨b2559, 0, none⟩)], .int .i32 y2547.2.2.2.2.2.1, .slice p2561 y2547.2.2.2.2.2.2.1.length c2562] 157, bx b2559 [.int .i64 y2547.2.2.2.2.1] 3, d3162, d2564, F] ih3152 ∧ Le ih2548 ih3152 ∧ RSl e53 ih3152 [] p3155 c3156 x3154 ∧ OSl e53 ih3152 p3159 c3160 x3158 d3162) := ⟨_, fun _ _ => Iff.rfl⟩
          obtain ⟨I3293, hI3293⟩ : ∃ J : Nat → Act → World → Prop, ∀ j a w, J j a w ↔ (∃ (x2956 : List M53) (x2960 : Int) (x2961 : List M53) (p2957 : Option Addr) (c2958 : Nat) (p2962 : Option Addr) (c2963 : Nat) (d2965 : Ch) (ih2954 : IH), catenarylaw25_AtlasLearns_2_l29 k x5 y2547 x9 j x2956 x2960 x2961 = some y3290 ∧ Sees a 139 [(0, .slice p2 x1.length c3), (1, .slice p6 x5.length c7), (2, .int .u32 x9), (7, .pointer (some ⟨b2550, 0, none⟩)), (8, .int .i64 y2547.2.2.2.2.2.2.2), (9, .slice p2957 x2956.length c2958), (10, .int .i64 x2960)] ∧ St g w [bx b2550 [.slice p2962 x2961.length c2963, .pointer (some ⟨b2557, 0, none⟩)] 125, bx b2557 [.int .u32 y2547.2.1, .int .i32 y2547.2.2.1, .int .u32 y2547.2.2.2.1, .func (.func 93) #[] #[.pointer (some ⟨b2559, 0, none⟩)], .int .i32 y2547.2.2.2.2.2.1, .slice p2561 y2547.2.2.2.2.2.2.1.length c2562] 157, bx b2559 [.int .i64 y2547.2.2.2.2.1] 3, d2965, d2564, F] ih2954 ∧ Le ih2548 ih2954 ∧ RSl e53 ih2954 [] p2957 c2958 x2956 ∧ OSl e53 ih2954 p2962 c2963 x2961 d2965) := ⟨_, fun _ _ _ => Iff.rfl⟩
          refine c_exitJ 0 J3292 ?_ ?_
          · refine c_loop I3293 k ((hI3293 _ _ _).2 ⟨x1, 0, y2547.1, p2, c3, p2552, c2553, d2555, ih2548, hx3291, hs.cast [0, 1, 2, 7, 8, 9, 10] (by kernel_rfl), hw.pick [0, 2, 3, 1, 4, 5] (by kernel_rfl), (Le.refl _), (h4.mono hle2549), h2554⟩) (fun a w h0 => ?_) fun j a w hh => ?_
            · obtain ⟨_, _, _, _, _, _, _, _, _, h, _⟩ := (hI3293 _ _ _).1 h0
              cases h
            · obtain ⟨x2956, x2960, x2961, p2957, c2958, p2962, c2963, d2965, ih2954, hx3291, hs, hw, hle2955, h2959, h2964⟩ := (hI3293 _ _ _).1 hh
              refine c_seq ?_
              refine c_seq ?_
              refine c_region ?_
              refine pures hs 4 [0, 1, 2, 7, 8, 9, 10, 45] [(0, .slice p2 x1.length c3), (1, .slice p6 x5.length c7), (2, .int .u32 x9), (7, .pointer (some ⟨b2550, 0, none⟩)), (8, .int .i64 y2547.2.2.2.2.2.2.2), (9, .slice p2957 x2956.length c2958), (10, .int .i64 x2960), (45, .bool (decide (x2960 < (x5.length : Int))))] (by kernel_rfl) fun a hs => ?_
              refine s_end ?_
              rcases ifbE hx3291 with ⟨h3294, hx3291⟩ | ⟨h3294, hx3291⟩
              · refine c_cond1 hs (by kernel_rfl) (t := (decide (x2960 < (x5.length : Int)))) (by kernel_rfl) h3294 ?_
                refine wp_skip ?_
                refine c_seq ?_
                refine c_block ?_
                refine c_seq ?_
                refine c_seq ?_
                refine c_region ?_
                refine pures hs 2 [0, 1, 2, 7, 8, 9, 10, 48, 49] [(0, .slice p2 x1.length c3), (1, .slice p6 x5.length c7), (2, .int .u32 x9), (7, .pointer (some ⟨b2550, 0, none⟩)), (8, .int .i64 y2547.2.2.2.2.2.2.2), (9, .slice p2957 x2956.length c2958), (10, .int .i64 x2960), (48, .slice p6 x5.length c7), (49, .int .i64 x2960)] (by kernel_rfl) fun a hs => ?_
                obtain ⟨x3302, h3303, hx3291⟩ := bindE hx3291
                refine s_index hs h8 (by kernel_rfl) (by kernel_rfl) (k := .i64) (by kernel_rfl) 53 (by kernel_rfl) (by kernel_rfl) h3303 fun a r3304 cs henc at3305 hs => ?_
                obtain ⟨p3306, c3307, rfl, h3308⟩ := henc
                refine pures hs 1 [0, 1, 2, 7, 8, 9, 10, 51] [(0, .slice p2 x1.length c3), (1, .slice p6 x5.length c7), (2, .int .u32 x9), (7, .pointer (some ⟨b2550, 0, none⟩)), (8, .int .i64 y2547.2.2.2.2.2.2.2), (9, .slice p2957 x2956.length c2958), (10, .int .i64 x2960), (51, .pointer (some (r3304.add 2)))] (by kernel_rfl) fun a hs => ?_
                refine s_load hs (at3305 _ (hw.vwAll.nil.anti (hle2549.trans hle2955))) 2 (by kernel_rfl) (by kernel_rfl) (v := .slice p3306 x3302.f2.length c3307) (by kernel_rfl) fun a hs => ?_
                refine pures hs 2 [0, 1, 2, 7, 8, 9, 10, 54] [(0, .slice p2 x1.length c3), (1, .slice p6 x5.length c7), (2, .int .u32 x9), (7, .pointer (some ⟨b2550, 0, none⟩)), (8, .int .i64 y2547.2.2.2.2.2.2.2), (9, .slice p2957 x2956.length c2958), (10, .int .i64 x2960), (54, .bool (decide ((x3302.f2.length : Int) > 30)))] (by kernel_rfl) fun a hs => ?_
                refine s_end ?_
                rcases ifbE hx3291 with ⟨h3309, hx3291⟩ | ⟨h3309, hx3291⟩
                · refine c_cond1 hs (by kernel_rfl) (t := (decide ((x3302.f2.length : Int) > 30))) (by kernel_rfl) h3309 ?_
                  refine c_seq ?_
                  refine c_region ?_
                  obtain ⟨y3314, h3315, hx3291⟩ := bindE hx3291
                  refine s_call hs (by kernel_rfl) (by kernel_rfl) (catenarylaw25_awake_s h3315 ((hw.pick [5] (by kernel_rfl)).pack 0)) fun a w v hv hs => ?_
                  obtain ⟨ih3316, rfl, hw, hle3317⟩ := hv
                  replace hw := hw.unpack 0 rfl
                  refine pures hs 1 [6] [(6, .bool y3314)] (by kernel_rfl) fun a hs => ?_
                  refine s_end ?_
                  refine wp_ret ?_
                  obtain rfl := someE hx3291
                  obtain rfl := someE hk
                  refine hQ _ _ (f_ret1 hs rfl (v := .bool y3314) (by kernel_rfl) ⟨ih3316, rfl, hw.pick [0] (by kernel_rfl), ((hle2549.trans hle2955).trans hle3317)⟩)
                · refine c_cond0 hs (by kernel_rfl) (t := (decide ((x3302.f2.length : Int) > 30))) (by kernel_rfl) h3309 ?_
                  refine wp_skip ?_
                  refine c_seq ?_
                  refine c_region ?_
                  refine pures hs 2 [0, 1, 2, 7, 8, 9, 10, 56, 57] [(0, .slice p2 x1.length c3), (1, .slice p6 x5.length c7), (2, .int .u32 x9), (7, .pointer (some ⟨b2550, 0, none⟩)), (8, .int .i64 y2547.2.2.2.2.2.2.2), (9, .slice p2957 x2956.length c2958), (10, .int .i64 x2960), (56, .pointer (some ⟨b2550, 0, none⟩)), (57, .int .u32 x9)] (by kernel_rfl) fun a hs => ?_
                  obtain ⟨y3325, h3326, hx3291⟩ := bindE hx3291
                  refine s_call hs (by kernel_rfl) (by kernel_rfl) (atlas_Atlas_Of_2_s h3326 h2964 (h2563.mono hle2955) ((hw.pick [0, 3, 1, 2, 4, 5] (by kernel_rfl)).pack 5)) fun a w v hv hs => ?_
                  obtain ⟨ih3327, p3329, c3330, rfl, hw, hle3328, h3331⟩ := hv
                  replace hw := hw.unpack 5 rfl
                  refine pures hs 2 [0, 1, 2, 7, 8, 9, 10, 11] [(0, .slice p2 x1.length c3), (1, .slice p6 x5.length c7), (2, .int .u32 x9), (7, .pointer (some ⟨b2550, 0, none⟩)), (8, .int .i64 y2547.2.2.2.2.2.2.2), (9, .slice p2957 x2956.length c2958), (10, .int .i64 x2960), (11, .int .u64 y3325.f1)] (by kernel_rfl) fun a hs => ?_
                  refine s_end ?_
                  refine c_seq ?_
                  refine c_region ?_
                  refine pures hs 3 [0, 1, 2, 7, 8, 10, 11, 61, 62, 63] [(0, .slice p2 x1.length c3), (1, .slice p6 x5.length c7), (2, .int .u32 x9), (7, .pointer (some ⟨b2550, 0, none⟩)), (8, .int .i64 y2547.2.2.2.2.2.2.2), (10, .int .i64 x2960), (11, .int .u64 y3325.f1), (61, .slice p2957 x2956.length c2958), (62, .slice p6 x5.length c7), (63, .int .i64 x2960)] (by kernel_rfl) fun a hs => ?_
                  obtain ⟨x3346, h3347, hx3291⟩ := bindE hx3291
                  refine s_index hs h8 (by kernel_rfl) (by kernel_rfl) (k := .i64) (by kernel_rfl) 53 (by kernel_rfl) (by kernel_rfl) h3347 fun a r3348 cs henc at3349 hs => ?_
                  obtain ⟨p3350, c3351, rfl, h3352⟩ := henc
                  refine s_load hs (at3349 _ (hw.vwAll.nil.anti ((hle2549.trans hle2955).trans hle3328))) 0 (by kernel_rfl) (by kernel_rfl) (v := .agg #[.int .i64 x3346.f0, .int .u64 x3346.f1, .slice p3350 x3346.f2.length c3351, .bool x3346.f3, .int .i64 x3346.f4]) (by kernel_rfl) fun a hs => ?_
                  obtain ⟨y3353, h3354, hx3291⟩ := bindE hx3291
                  refine s_call hs (by kernel_rfl) (by kernel_rfl) (catenaryref25_Learn_2_s h3354 (h2959.mono hle3328) (h3352.mono ((hle2549.trans hle2955).trans hle3328)) ((hw.pick [0, 1, 2, 3, 4, 5] (by kernel_rfl)).pack 0)) fun a w v hv hs => ?_
                  obtain ⟨ih3355, p3357, c3358, rfl, hw, hle3356, h3359⟩ := hv
                  replace hw := hw.unpack 0 rfl
                  refine pures hs 5 [0, 1, 2, 7, 8, 10, 11, 12, 13] [(0, .slice p2 x1.length c3), (1, .slice p6 x5.length c7), (2, .int .u32 x9), (7, .pointer (some ⟨b2550, 0, none⟩)), (8, .int .i64 y2547.2.2.2.2.2.2.2), (10, .int .i64 x2960), (11, .int .u64 y3325.f1), (12, .slice p3357 y3353.1.length c3358), (13, .bool y3353.2)] (by kernel_rfl) fun a hs => ?_
                  refine s_end ?_
                  refine c_seq ?_
                  refine c_region ?_
                  refine pures hs 2 [0, 1, 2, 7, 8, 10, 11, 13, 9] [(0, .slice p2 x1.length c3), (1, .slice p6 x5.length c7), (2, .int .u32 x9), (7, .pointer (some ⟨b2550, 0, none⟩)), (8, .int .i64 y2547.2.2.2.2.2.2.2), (10, .int .i64 x2960), (11, .int .u64 y3325.f1), (13, .bool y3353.2), (9, .slice p3357 y3353.1.length c3358)] (by kernel_rfl) fun a hs => ?_
                  refine s_end ?_
                  refine c_seq ?_
                  obtain ⟨y3440, hx3441, hx3291⟩ := bindE hx3291
                  obtain ⟨J3442, hJ3442⟩ : ∃ J : Act → World → Prop, ∀ a w, J a w ↔ (∃ (x3432 : Bool) (x3433 : List M53) (p3434 : Option Addr) (c3435 : Nat) (d3437 : Ch) (ih3430 : IH), catenarylaw25_AtlasLearns_2_r30 (catenarylaw25_AtlasLearns_2_l29 k x5 y2547 x9 j) y3353 x2960 x3432 x3433 = some y3290 ∧ Sees a 139 [(0, .slice p2 x1.length c3), (1, .slice p6 x5.length c7), (2, .int .u32 x9), (7, .pointer (some ⟨b2550, 0, none⟩)), (8, .int .i64 y2547.2.2.2.2.2.2.2), (10, .int .i64 x2960), (9, .slice p3357 y3353.1.length c3358), (92, .bool x3432)] ∧ St g w [bx b2550 [.slice p3434 x3433.length c3435, .pointer (some ⟨b2557, 0, none⟩)] 125, bx b2557 [.int .u32 y2547.2.1, .int .i32 y2547.2.2.1, .int .u32 y2547.2.2.2.1, .func (.func 93) #[] #[.pointer (some ⟨b2559, 0, none⟩)], .int .i32 y2547.2.2.2.2.2.1, .slice p2561 y2547.2.2.2.2.2.2.1.length c2562] 157, bx b2559 [.int .i64 y2547.2.2.2.2.1] 3, d3437, d2564, F] ih3430 ∧ Le ih3355 ih3430 ∧ OSl e53 ih3430 p3434 c3435 x3433 d3437) := ⟨_, fun _ _ => Iff.rfl⟩
                  refine c_regJ J3442 ?_ ?_
                  · refine pures hs 3 [0, 1, 2, 7, 8, 10, 11, 13, 9, 70, 71, 72] [(0, .slice p2 x1.length c3), (1, .slice p6 x5.length c7), (2, .int .u32 x9), (7, .pointer (some ⟨b2550, 0, none⟩)), (8, .int .i64 y2547.2.2.2.2.2.2.2), (10, .int .i64 x2960), (11, .int .u64 y3325.f1), (13, .bool y3353.2), (9, .slice p3357 y3353.1.length c3358), (70, .pointer (some ⟨b2550, 0, none⟩)), (71, .slice p6 x5.length c7), (72, .int .i64 x2960)] (by kernel_rfl) fun a hs => ?_
                    obtain ⟨x3443, h3444, hx3441⟩ := bindE hx3441
                    refine s_index hs h8 (by kernel_rfl) (by kernel_rfl) (k := .i64) (by kernel_rfl) 53 (by kernel_rfl) (by kernel_rfl) h3444 fun a r3445 cs henc at3446 hs => ?_
                    obtain ⟨p3447, c3448, rfl, h3449⟩ := henc
                    refine s_load hs (at3446 _ (hw.vwAll.nil.anti (((hle2549.trans hle2955).trans hle3328).trans hle3356))) 0 (by kernel_rfl) (by kernel_rfl) (v := .agg #[.int .i64 x3443.f0, .int .u64 x3443.f1, .slice p3447 x3443.f2.length c3448, .bool x3443.f3, .int .i64 x3443.f4]) (by kernel_rfl) fun a hs => ?_
                    obtain ⟨y3450, h3451, hx3441⟩ := bindE hx3441
                    refine s_call hs (by kernel_rfl) (by kernel_rfl) (atlas_Atlas_Learn_2_s h3451 (h2964.mono (hle3328.trans hle3356)) (h2563.mono ((hle2955.trans hle3328).trans hle3356)) (h3449.mono (((hle2549.trans hle2955).trans hle3328).trans hle3356)) ((hw.pick [0, 1, 2, 3, 4, 5] (by kernel_rfl)).pack 5)) fun a w v hv hs => ?_
                    obtain ⟨ih3452, p3454, c3455, d3457, rfl, hw, hle3453, h3456⟩ := hv
                    replace hw := hw.unpack 5 rfl
                    refine pures hs 3 [0, 1, 2, 7, 8, 10, 11, 9, 78] [(0, .slice p2 x1.length c3), (1, .slice p6 x5.length c7), (2, .int .u32 x9), (7, .pointer (some ⟨b2550, 0, none⟩)), (8, .int .i64 y2547.2.2.2.2.2.2.2), (10, .int .i64 x2960), (11, .int .u64 y3325.f1), (9, .slice p3357 y3353.1.length c3358), (78, .bool (!(y3450.1 == y3353.2)))] (by kernel_rfl) fun a hs => ?_
                    rcases ifbE hx3441 with ⟨h3458, hx3441⟩ | ⟨h3458, hx3441⟩
                    · replace hs := hs.altB 78 true (by kernel_rfl) h3458
                      refine pures hs 14 [0, 1, 2, 7, 8, 10, 9, 92] [(0, .slice p2 x1.length c3), (1, .slice p6 x5.length c7), (2, .int .u32 x9), (7, .pointer (some ⟨b2550, 0, none⟩)), (8, .int .i64 y2547.2.2.2.2.2.2.2), (10, .int .i64 x2960), (9, .slice p3357 y3353.1.length c3358), (92, .bool true)] (by kernel_rfl) fun a hs => ?_
                      refine s_end ?_
                      obtain rfl := someE hx3441
                      exact (hJ3442 _ _).2 ⟨true, y3450.2, p3454, c3455, d3457, ih3452, hx3291, hs.cast [0, 1, 2, 7, 8, 10, 9, 92] (by kernel_rfl), hw.pick [0, 2, 3, 1, 4, 5] (by kernel_rfl), hle3453, h3456⟩
                    · replace hs := hs.altB 78 false (by kernel_rfl) h3458
                      refine pures hs 2 [0, 1, 2, 7, 8, 10, 11, 9, 78, 79, 80] [(0, .slice p2 x1.length c3), (1, .slice p6 x5.length c7), (2, .int .u32 x9), (7, .pointer (some ⟨b2550, 0, none⟩)), (8, .int .i64 y2547.2.2.2.2.2.2.2), (10, .int .i64 x2960), (11, .int .u64 y3325.f1), (9, .slice p3357 y3353.1.length c3358), (78, .bool false), (79, .pointer (some ⟨b2550, 0, none⟩)), (80, .int .u32 x9)] (by kernel_rfl) fun a hs => ?_
                      obtain ⟨y3459, h3460, hx3441⟩ := bindE hx3441
                      refine s_call hs (by kernel_rfl) (by kernel_rfl) (atlas_Atlas_Of_2_s h3460 h3456 (h2563.mono (((hle2955.trans hle3328).trans hle3356).trans hle3453)) ((hw.pick [0, 1, 2, 3, 4, 5] (by kernel_rfl)).pack 5)) fun a w v hv hs => ?_
                      obtain ⟨ih3461, p3463, c3464, rfl, hw, hle3462, h3465⟩ := hv
                      replace hw := hw.unpack 5 rfl
                      refine pures hs 5 [0, 1, 2, 7, 8, 10, 9, 86] [(0, .slice p2 x1.length c3), (1, .slice p6 x5.length c7), (2, .int .u32 x9), (7, .pointer (some ⟨b2550, 0, none⟩)), (8, .int .i64 y2547.2.2.2.2.2.2.2), (10, .int .i64 x2960), (9, .slice p3357 y3353.1.length c3358), (86, .bool (decide (y3459.f1 < y3325.f1)))] (by kernel_rfl) fun a hs => ?_
                      rcases ifbE hx3441 with ⟨h3466, hx3441⟩ | ⟨h3466, hx3441⟩
                      · replace hs := hs.altB 86 true (by kernel_rfl) h3466
                        refine pures hs 6 [0, 1, 2, 7, 8, 10, 9, 92] [(0, .slice p2 x1.length c3), (1, .slice p6 x5.length c7), (2, .int .u32 x9), (7, .pointer (some ⟨b2550, 0, none⟩)), (8, .int .i64 y2547.2.2.2.2.2.2.2), (10, .int .i64 x2960), (9, .slice p3357 y3353.1.length c3358), (92, .bool true)] (by kernel_rfl) fun a hs => ?_
                        refine s_end ?_
                        obtain rfl := someE hx3441
                        exact (hJ3442 _ _).2 ⟨true, y3450.2, p3454, c3455, d3457, ih3461, hx3291, hs.cast [0, 1, 2, 7, 8, 10, 9, 92] (by kernel_rfl), hw.pick [0, 2, 3, 1, 4, 5] (by kernel_rfl), (hle3453.trans hle3462), (h3456.mono hle3462)⟩
                      · replace hs := hs.altB 86 false (by kernel_rfl) h3466
                        refine pures hs 1 [0, 1, 2, 7, 8, 10, 9, 86, 87] [(0, .slice p2 x1.length c3), (1, .slice p6 x5.length c7), (2, .int .u32 x9), (7, .pointer (some ⟨b2550, 0, none⟩)), (8, .int .i64 y2547.2.2.2.2.2.2.2), (10, .int .i64 x2960), (9, .slice p3357 y3353.1.length c3358), (86, .bool false), (87, .pointer (some ⟨b2550, 0, none⟩))] (by kernel_rfl) fun a hs => ?_
                        obtain ⟨y3467, h3468, hx3441⟩ := bindE hx3441
                        refine s_call hs (by kernel_rfl) (by kernel_rfl) (atlas_Atlas_Confs_s h3468 (h3456.mono hle3462) (h2563.mono ((((hle2955.trans hle3328).trans hle3356).trans hle3453).trans hle3462)) ((hw.pick [0, 1, 2, 3, 4, 5] (by kernel_rfl)).pack 5)) fun a w v hv hs => ?_
                        obtain ⟨ih3469, p3471, c3472, d3474, rfl, hw, hle3470, h3473⟩ := hv
                        replace hw := hw.unpack 6 rfl
                        refine pures hs 1 [0, 1, 2, 7, 8, 10, 9, 86, 88, 89] [(0, .slice p2 x1.length c3), (1, .slice p6 x5.length c7), (2, .int .u32 x9), (7, .pointer (some ⟨b2550, 0, none⟩)), (8, .int .i64 y2547.2.2.2.2.2.2.2), (10, .int .i64 x2960), (9, .slice p3357 y3353.1.length c3358), (86, .bool false), (88, .slice p3471 y3467.length c3472), (89, .slice p3357 y3353.1.length c3358)] (by kernel_rfl) fun a hs => ?_
                        obtain ⟨y3476, h3477, hx3441⟩ := bindE hx3441
                        refine s_call hs (by kernel_rfl) (by kernel_rfl) (catenaryref09_SameAll_s h3477 h3473.read (memF 0 rfl) (h3359.mono ((hle3453.trans hle3462).trans hle3470)) (nilSub _) ((hw.pick [0, 1, 2, 3, 4, 5, 6] (by kernel_rfl)).pack 0)) fun a w v hv hs => ?_
                        obtain ⟨rfl, hw⟩ := hv
                        replace hw := hw.unpack 0 rfl
                        refine pures hs 2 [0, 1, 2, 7, 8, 10, 9, 92] [(0, .slice p2 x1.length c3), (1, .slice p6 x5.length c7), (2, .int .u32 x9), (7, .pointer (some ⟨b2550, 0, none⟩)), (8, .int .i64 y2547.2.2.2.2.2.2.2), (10, .int .i64 x2960), (9, .slice p3357 y3353.1.length c3358), (92, .bool (!y3476))] (by kernel_rfl) fun a hs => ?_
                        refine s_end ?_
                        obtain rfl := someE hx3441
                        exact (hJ3442 _ _).2 ⟨(!y3476), y3450.2, p3454, c3455, d3457, ih3469, hx3291, hs.cast [0, 1, 2, 7, 8, 10, 9, 92] (by kernel_rfl), hw.pick [1, 3, 4, 2, 5, 6] (by kernel_rfl), ((hle3453.trans hle3462).trans hle3470), (h3456.mono (hle3462.trans hle3470))⟩
                  · intro a w hh
                    obtain ⟨x3432, x3433, p3434, c3435, d3437, ih3430, hx3291, hs, hw, hle3431, h3436⟩ := (hJ3442 _ _).1 hh
                    rcases ifbE hx3291 with ⟨h3439, hx3291⟩ | ⟨h3439, hx3291⟩
                    · refine c_cond1 hs (by kernel_rfl) (t := x3432) (by kernel_rfl) h3439 ?_
                      refine c_seq ?_
                      refine c_region ?_
                      refine pures hs 1 [6] [(6, .bool false)] (by kernel_rfl) fun a hs => ?_
                      refine s_end ?_
                      refine wp_ret ?_
                      obtain rfl := someE hx3291
                      obtain rfl := someE hk
                      refine hQ _ _ (f_ret1 hs rfl (v := .bool false) (by kernel_rfl) ⟨ih3430, rfl, hw.pick [5] (by kernel_rfl), ((((hle2549.trans hle2955).trans hle3328).trans hle3356).trans hle3431)⟩)
                    · refine c_cond0 hs (by kernel_rfl) (t := x3432) (by kernel_rfl) h3439 ?_
                      refine wp_skip ?_
                      refine c_region ?_
                      refine pures hs 3 [0, 1, 2, 7, 8, 10, 9] [(0, .slice p2 x1.length c3), (1, .slice p6 x5.length c7), (2, .int .u32 x9), (7, .pointer (some ⟨b2550, 0, none⟩)), (8, .int .i64 y2547.2.2.2.2.2.2.2), (10, .int .i64 (IntKind.i64.wrap (x2960 + 1))), (9, .slice p3357 y3353.1.length c3358)] (by kernel_rfl) fun a hs => ?_
                      refine s_end ?_
                      exact (hI3293 _ _ _).2 ⟨y3353.1, (IntKind.i64.wrap (x2960 + 1)), x3433, p3357, c3358, p3434, c3435, d3437, ih3430, hx3291, hs.cast [0, 1, 2, 7, 8, 9, 10] (by kernel_rfl), hw.pick [0, 1, 2, 3, 4, 5] (by kernel_rfl), (((hle2955.trans hle3328).trans hle3356).trans hle3431), (h3359.mono hle3431), h3436⟩
              · refine c_cond0 hs (by kernel_rfl) (t := (decide (x2960 < (x5.length : Int)))) (by kernel_rfl) h3294 ?_
                refine wp_exit ?_
                obtain rfl := someE hx3291
                exact (hJ3292 _ _).2 ⟨x2956, x2961, p2957, c2958, p2962, c2963, d2965, ih2954, hk, hs.cast [0, 2, 7, 8, 9] (by kernel_rfl), hw.pick [0, 1, 2, 3, 4, 5] (by kernel_rfl), hle2955, h2959, h2964⟩
          · intro a w hh
            obtain ⟨x3154, x3158, p3155, c3156, p3159, c3160, d3162, ih3152, hk, hs, hw, hle3153, h3157, h3161⟩ := (hJ3292 _ _).1 hh
            refine c_seq ?_
            refine c_region ?_
            refine pures hs 4 [0, 2, 7, 8, 93, 94, 96] [(0, .slice p2 x1.length c3), (2, .int .u32 x9), (7, .pointer (some ⟨b2550, 0, none⟩)), (8, .int .i64 y2547.2.2.2.2.2.2.2), (93, .slice p3155 x3154.length c3156), (94, .int .u32 x9), (96, .int .i64 (x3154.length : Int))] (by kernel_rfl) fun a hs => ?_
            obtain ⟨y3175, h3176, hk⟩ := bindE hk
            refine s_call hs (by kernel_rfl) (by kernel_rfl) (catenaryref25_Chain_s h3176 ((hw.pick [0, 1, 2, 3, 4, 5] (by kernel_rfl)).pack 0)) fun a w v hv hs => ?_
            obtain ⟨rfl, hw⟩ := hv
            replace hw := hw.unpack 0 rfl
            obtain ⟨x3177, h3178, hk⟩ := bindE hk
            refine s_index hs h3157 (by kernel_rfl) (by kernel_rfl) (k := .i64) (by kernel_rfl) 53 (by kernel_rfl) (by kernel_rfl) h3178 fun a r3179 cs henc at3180 hs => ?_
            obtain ⟨p3181, c3182, rfl, h3183⟩ := henc
            refine s_load hs (at3180 _ (hw.vwAll.nil.anti (Le.refl _))) 0 (by kernel_rfl) (by kernel_rfl) (v := .agg #[.int .i64 x3177.f0, .int .u64 x3177.f1, .slice p3181 x3177.f2.length c3182, .bool x3177.f3, .int .i64 x3177.f4]) (by kernel_rfl) fun a hs => ?_
            refine s_new hs hw [.int .i64 0, .int .u64 0, .slice none 0 0, .bool false, .int .i64 0] 53 (fun b => .pointer (some ⟨b, 0, none⟩)) (by kernel_rfl) (fun _ => by kernel_rfl) fun a w b3184 hs hw => ?_
            refine s_store hs hw 0 rfl 0 (by kernel_rfl) (by kernel_rfl) (v := .agg #[.int .i64 x3177.f0, .int .u64 x3177.f1, .slice p3181 x3177.f2.length c3182, .bool x3177.f3, .int .i64 x3177.f4]) (by kernel_rfl) (by kernel_rfl) (by kernel_rfl) (by kernel_rfl) fun a w hs hw => ?_
            refine s_end ?_
            refine c_seq ?_
            obtain ⟨S3186, hS3186, kS3186⟩ := mkSX (X := [([], bx b3184 [.int .i64 x3177.f0, .int .u64 x3177.f1, .slice p3181 x3177.f2.length c3182, .bool x3177.f3, .int .i64 x3177.f4] 53), ([], bx b2550 [.slice p3159 x3158.length c3160, .pointer (some ⟨b2557, 0, none⟩)] 125), ([], bx b2557 [.int .u32 y2547.2.1, .int .i32 y2547.2.2.1, .int .u32 y2547.2.2.2.1, .func (.func 93) #[] #[.pointer (some ⟨b2559, 0, none⟩)], .int .i32 y2547.2.2.2.2.2.1, .slice p2561 y2547.2.2.2.2.2.2.1.length c2562] 157), ([], bx b2559 [.int .i64 y2547.2.2.2.2.1] 3), ([], d3162), ([], d2564), ([], F)]) (ih := ih3152) (K := []) rfl
            obtain ⟨y3254, hx3255, hk⟩ := bindE hk
            obtain ⟨J3256, hJ3256⟩ : ∃ J : Act → World → Prop, ∀ a w, J a w ↔ (∃ (x3253 : Bool) (ih3251 : IH), catenarylaw25_AtlasLearns_2_r27 x3253 = some r ∧ Sees a 139 [(6, .bool x3253)] ∧ St g w [F] ih3251 ∧ Le ih3152 ih3251) := ⟨_, fun _ _ => Iff.rfl⟩
            refine c_draw (by kernel_rfl) (N := 40) rfl S3186 J3256 ?_ ?_
            · have hw := hw.drew
              have hS : S3186 (Array.replicate 40 false) _ := SX_now hS3186 (hw.vws [0, 1, 2, 3, 4, 5, 6]) (by kernel_rfl)
              refine d_pures (fuel := 37) kS3186 hs hS [0, 1, 2] [0, 2, 7, 8, 14, 100, 101, 102] [(0, .slice p2 x1.length c3), (2, .int .u32 x9), (7, .pointer (some ⟨b2550, 0, none⟩)), (8, .int .i64 y2547.2.2.2.2.2.2.2), (14, .pointer (some ⟨b3184, 0, none⟩)), (100, .int .i64 y2547.2.2.2.2.2.2.2), (101, .bool (y2547.2.2.2.2.2.2.2 == 0)), (102, .bool (y2547.2.2.2.2.2.2.2 == 0))] (by kernel_rfl) fun a hs hS => ?_
              rcases ifbE hx3255 with ⟨h3257, hx3255⟩ | ⟨h3257, hx3255⟩
              · replace hs := hs.altB 102 true (by kernel_rfl) h3257
                refine d_pures (fuel := 35) kS3186 hs hS [3, 4] [0, 2, 7, 8, 14, 100, 101, 102, 103, 104] [(0, .slice p2 x1.length c3), (2, .int .u32 x9), (7, .pointer (some ⟨b2550, 0, none⟩)), (8, .int .i64 y2547.2.2.2.2.2.2.2), (14, .pointer (some ⟨b3184, 0, none⟩)), (100, .int .i64 y2547.2.2.2.2.2.2.2), (101, .bool (y2547.2.2.2.2.2.2.2 == 0)), (102, .bool true), (103, .pointer (some ⟨b2550, 0, none⟩)), (104, .int .u32 x9)] (by kernel_rfl) fun a hs hS => ?_
                refine d_load (fuel := 34) kS3186 hs hS 6 rfl (by kernel_rfl) (SX_box hS3186 0 rfl (by kernel_rfl)) 0 (by kernel_rfl) (by kernel_rfl) (v := .agg #[.int .i64 x3177.f0, .int .u64 x3177.f1, .slice p3181 x3177.f2.length c3182, .bool x3177.f3, .int .i64 x3177.f4]) (by kernel_rfl) fun a hs hS => ?_
                refine d_all (fuel := 33) (rs := [5]) (by kernel_rfl) (by simp) (all1 ?_)
                obtain ⟨y3258, h3259, hx3255⟩ := bindE hx3255
                refine o_call hs rfl (by kernel_rfl) (by kernel_rfl) (atlas_Atlas_Of_2_s h3259 h3161 (h2563.mono hle3153) ((hw.pick [1, 4, 2, 3, 5, 0, 6] (by kernel_rfl)).pack 5)) fun a w v hv hs => ?_
                obtain ⟨ih3260, p3262, c3263, rfl, hw, hle3261, h3264⟩ := hv
                replace hw := hw.unpack 5 rfl
                refine dg_next (SX_now hS3186 ((hw.vws [5, 0, 2, 3, 1, 4, 6]).anti hle3261) (by kernel_rfl)) fun hS => ?_
                refine d_all (fuel := 32) (rs := [7]) (by kernel_rfl) (by simp) (all1 ?_)
                obtain ⟨y3265, h3266, hx3255⟩ := bindE hx3255
                refine o_call hs rfl (by kernel_rfl) (by kernel_rfl) (catenaryref09_Same_s h3266 h3264 (h3183.mono hle3261) ((hw.pick [0, 1, 2, 3, 4, 5, 6] (by kernel_rfl)).pack 0)) fun a w v hv hs => ?_
                obtain ⟨rfl, hw⟩ := hv
                replace hw := hw.unpack 0 rfl
                refine dg_next (SX_now hS3186 ((hw.vws [5, 0, 2, 3, 1, 4, 6]).anti hle3261) (by kernel_rfl)) fun hS => ?_
                refine d_pures (fuel := 30) kS3186 hs hS [8, 9] [0, 2, 7, 8, 14, 100, 101, 102, 103, 104, 106, 105, 107, 108, 109] [(0, .slice p2 x1.length c3), (2, .int .u32 x9), (7, .pointer (some ⟨b2550, 0, none⟩)), (8, .int .i64 y2547.2.2.2.2.2.2.2), (14, .pointer (some ⟨b3184, 0, none⟩)), (100, .int .i64 y2547.2.2.2.2.2.2.2), (101, .bool (y2547.2.2.2.2.2.2.2 == 0)), (102, .bool true), (103, .pointer (some ⟨b2550, 0, none⟩)), (104, .int .u32 x9), (106, .agg #[.int .i64 x3177.f0, .int .u64 x3177.f1, .slice p3181 x3177.f2.length c3182, .bool x3177.f3, .int .i64 x3177.f4]), (105, .agg #[.int .i64 y3258.f0, .int .u64 y3258.f1, .slice p3262 y3258.f2.length c3263, .bool y3258.f3, .int .i64 y3258.f4]), (107, .bool y3265), (108, .bool y3265), (109, .bool y3265)] (by kernel_rfl) fun a hs hS => ?_
                rcases ifbE hx3255 with ⟨h3267, hx3255⟩ | ⟨h3267, hx3255⟩
                · replace hs := hs.altB 109 true (by kernel_rfl) h3267
                  refine d_pures (fuel := 28) kS3186 hs hS [10, 11] [0, 2, 7, 8, 14, 100, 101, 102, 103, 104, 106, 105, 107, 108, 109, 110, 111] [(0, .slice p2 x1.length c3), (2, .int .u32 x9), (7, .pointer (some ⟨b2550, 0, none⟩)), (8, .int .i64 y2547.2.2.2.2.2.2.2), (14, .pointer (some ⟨b3184, 0, none⟩)), (100, .int .i64 y2547.2.2.2.2.2.2.2), (101, .bool (y2547.2.2.2.2.2.2.2 == 0)), (102, .bool true), (103, .pointer (some ⟨b2550, 0, none⟩)), (104, .int .u32 x9), (106, .agg #[.int .i64 x3177.f0, .int .u64 x3177.f1, .slice p3181 x3177.f2.length c3182, .bool x3177.f3, .int .i64 x3177.f4]), (105, .agg #[.int .i64 y3258.f0, .int .u64 y3258.f1, .slice p3262 y3258.f2.length c3263, .bool y3258.f3, .int .i64 y3258.f4]), (107, .bool y3265), (108, .bool y3265), (109, .bool true), (110, .pointer (some ⟨b2550, 0, none⟩)), (111, .int .u32 x9)] (by kernel_rfl) fun a hs hS => ?_
                  refine d_load (fuel := 27) kS3186 hs hS 13 rfl (by kernel_rfl) (SX_box hS3186 0 rfl (by kernel_rfl)) 0 (by kernel_rfl) (by kernel_rfl) (v := .agg #[.int .i64 x3177.f0, .int .u64 x3177.f1, .slice p3181 x3177.f2.length c3182, .bool x3177.f3, .int .i64 x3177.f4]) (by kernel_rfl) fun a hs hS => ?_
                  refine d_all (fuel := 26) (rs := [12]) (by kernel_rfl) (by simp) (all1 ?_)
                  obtain ⟨y3268, h3269, hx3255⟩ := bindE hx3255
                  refine o_call hs rfl (by kernel_rfl) (by kernel_rfl) (atlas_Atlas_Head_2_s h3269 (h3161.mono hle3261) (h2563.mono (hle3153.trans hle3261)) ((hw.pick [0, 1, 2, 3, 4, 5, 6] (by kernel_rfl)).pack 5)) fun a w v hv hs => ?_
                  obtain ⟨ih3270, rfl, hw, hle3271⟩ := hv
                  replace hw := hw.unpack 5 rfl
                  refine dg_next (SX_now hS3186 ((hw.vws [5, 0, 2, 3, 1, 4, 6]).anti (hle3261.trans hle3271)) (by kernel_rfl)) fun hS => ?_
                  refine d_all (fuel := 25) (rs := [14]) (by kernel_rfl) (by simp) (all1 ?_)
                  obtain ⟨y3272, h3273, hx3255⟩ := bindE hx3255
                  refine o_call hs rfl (by kernel_rfl) (by kernel_rfl) (catenaryref19_Head_s h3273 (h3183.mono (hle3261.trans hle3271)) ((hw.pick [0, 1, 2, 3, 4, 5, 6] (by kernel_rfl)).pack 0)) fun a w v hv hs => ?_
                  obtain ⟨rfl, hw⟩ := hv
                  replace hw := hw.unpack 0 rfl
                  refine dg_next (SX_now hS3186 ((hw.vws [5, 0, 2, 3, 1, 4, 6]).anti (hle3261.trans hle3271)) (by kernel_rfl)) fun hS => ?_
                  refine d_pures (fuel := 22) kS3186 hs hS [15, 16, 17] [0, 2, 7, 8, 14, 100, 101, 102, 103, 104, 106, 105, 107, 108, 109, 110, 111, 113, 112, 114, 115, 116, 117] [(0, .slice p2 x1.length c3), (2, .int .u32 x9), (7, .pointer (some ⟨b2550, 0, none⟩)), (8, .int .i64 y2547.2.2.2.2.2.2.2), (14, .pointer (some ⟨b3184, 0, none⟩)), (100, .int .i64 y2547.2.2.2.2.2.2.2), (101, .bool (y2547.2.2.2.2.2.2.2 == 0)), (102, .bool true), (103, .pointer (some ⟨b2550, 0, none⟩)), (104, .int .u32 x9), (106, .agg #[.int .i64 x3177.f0, .int .u64 x3177.f1, .slice p3181 x3177.f2.length c3182, .bool x3177.f3, .int .i64 x3177.f4]), (105, .agg #[.int .i64 y3258.f0, .int .u64 y3258.f1, .slice p3262 y3258.f2.length c3263, .bool y3258.f3, .int .i64 y3258.f4]), (107, .bool y3265), (108, .bool y3265), (109, .bool true), (110, .pointer (some ⟨b2550, 0, none⟩)), (111, .int .u32 x9), (113, .agg #[.int .i64 x3177.f0, .int .u64 x3177.f1, .slice p3181 x3177.f2.length c3182, .bool x3177.f3, .int .i64 x3177.f4]), (112, .int .i64 y3268), (114, .int .i64 y3272), (115, .bool (y3268 == y3272)), (116, .bool (y3268 == y3272)), (117, .bool (y3268 == y3272))] (by kernel_rfl) fun a hs hS => ?_
                  rcases ifbE hx3255 with ⟨h3274, hx3255⟩ | ⟨h3274, hx3255⟩
                  · replace hs := hs.altB 117 true (by kernel_rfl) h3274
                    refine d_pures (fuel := 18) kS3186 hs hS [18, 19, 20, 21] [0, 2, 7, 8, 14, 100, 101, 102, 103, 104, 106, 105, 107, 108, 109, 110, 111, 113, 112, 114, 115, 116, 117, 118, 119, 120, 121] [(0, .slice p2 x1.length c3), (2, .int .u32 x9), (7, .pointer (some ⟨b2550, 0, none⟩)), (8, .int .i64 y2547.2.2.2.2.2.2.2), (14, .pointer (some ⟨b3184, 0, none⟩)), (100, .int .i64 y2547.2.2.2.2.2.2.2), (101, .bool (y2547.2.2.2.2.2.2.2 == 0)), (102, .bool true), (103, .pointer (some ⟨b2550, 0, none⟩)), (104, .int .u32 x9), (106, .agg #[.int .i64 x3177.f0, .int .u64 x3177.f1, .slice p3181 x3177.f2.length c3182, .bool x3177.f3, .int .i64 x3177.f4]), (105, .agg #[.int .i64 y3258.f0, .int .u64 y3258.f1, .slice p3262 y3258.f2.length c3263, .bool y3258.f3, .int .i64 y3258.f4]), (107, .bool y3265), (108, .bool y3265), (109, .bool true), (110, .pointer (some ⟨b2550, 0, none⟩)), (111, .int .u32 x9), (113, .agg #[.int .i64 x3177.f0, .int .u64 x3177.f1, .slice p3181 x3177.f2.length c3182, .bool x3177.f3, .int .i64 x3177.f4]), (112, .int .i64 y3268), (114, .int .i64 y3272), (115, .bool (y3268 == y3272)), (116, .bool (y3268 == y3272)), (117, .bool true), (118, .pointer (some ⟨b2550, 0, none⟩)), (119, .int .u32 x9), (120, .int .u32 x9), (121, .int .i64 (IntKind.i64.wrap (x9)))] (by kernel_rfl) fun a hs hS => ?_
                    refine d_load (fuel := 17) kS3186 hs hS 23 rfl (by kernel_rfl) (SX_box hS3186 0 rfl (by kernel_rfl)) 0 (by kernel_rfl) (by kernel_rfl) (v := .agg #[.int .i64 x3177.f0, .int .u64 x3177.f1, .slice p3181 x3177.f2.length c3182, .bool x3177.f3, .int .i64 x3177.f4]) (by kernel_rfl) fun a hs hS => ?_
                    refine d_pures (fuel := 15) kS3186 hs hS [24, 25] [0, 2, 7, 8, 14, 100, 101, 102, 103, 104, 106, 105, 107, 108, 109, 110, 111, 113, 112, 114, 115, 116, 117, 118, 119, 120, 121, 123, 124, 125] [(0, .slice p2 x1.length c3), (2, .int .u32 x9), (7, .pointer (some ⟨b2550, 0, none⟩)), (8, .int .i64 y2547.2.2.2.2.2.2.2), (14, .pointer (some ⟨b3184, 0, none⟩)), (100, .int .i64 y2547.2.2.2.2.2.2.2), (101, .bool (y2547.2.2.2.2.2.2.2 == 0)), (102, .bool true), (103, .pointer (some ⟨b2550, 0, none⟩)), (104, .int .u32 x9), (106, .agg #[.int .i64 x3177.f0, .int .u64 x3177.f1, .slice p3181 x3177.f2.length c3182, .bool x3177.f3, .int .i64 x3177.f4]), (105, .agg #[.int .i64 y3258.f0, .int .u64 y3258.f1, .slice p3262 y3258.f2.length c3263, .bool y3258.f3, .int .i64 y3258.f4]), (107, .bool y3265), (108, .bool y3265), (109, .bool true), (110, .pointer (some ⟨b2550, 0, none⟩)), (111, .int .u32 x9), (113, .agg #[.int .i64 x3177.f0, .int .u64 x3177.f1, .slice p3181 x3177.f2.length c3182, .bool x3177.f3, .int .i64 x3177.f4]), (112, .int .i64 y3268), (114, .int .i64 y3272), (115, .bool (y3268 == y3272)), (116, .bool (y3268 == y3272)), (117, .bool true), (118, .pointer (some ⟨b2550, 0, none⟩)), (119, .int .u32 x9), (120, .int .u32 x9), (121, .int .i64 (IntKind.i64.wrap (x9))), (123, .agg #[.int .i64 x3177.f0, .int .u64 x3177.f1, .slice p3181 x3177.f2.length c3182, .bool x3177.f3, .int .i64 x3177.f4]), (124, .int .u32 x9), (125, .int .i64 (IntKind.i64.wrap (x9)))] (by kernel_rfl) fun a hs hS => ?_
                    refine d_all (fuel := 14) (rs := [22]) (by kernel_rfl) (by simp) (all1 ?_)
                    obtain ⟨y3275, h3276, hx3255⟩ := bindE hx3255
                    refine o_call hs rfl (by kernel_rfl) (by kernel_rfl) (atlas_Atlas_Reader_2_s h3276 (h3161.mono (hle3261.trans hle3271)) (h2563.mono ((hle3153.trans hle3261).trans hle3271)) ((hw.pick [0, 1, 2, 3, 4, 5, 6] (by kernel_rfl)).pack 5)) fun a w v hv hs => ?_
                    obtain ⟨ih3277, rfl, hw, hle3278⟩ := hv
                    replace hw := hw.unpack 5 rfl
                    refine dg_next (SX_now hS3186 ((hw.vws [5, 0, 2, 3, 1, 4, 6]).anti ((hle3261.trans hle3271).trans hle3278)) (by kernel_rfl)) fun hS => ?_
                    refine d_all (fuel := 13) (rs := [26]) (by kernel_rfl) (by simp) (all1 ?_)
                    obtain ⟨y3279, h3280, hx3255⟩ := bindE hx3255
                    refine o_call hs rfl (by kernel_rfl) (by kernel_rfl) (catenaryref19_Reader_s h3280 (h3183.mono ((hle3261.trans hle3271).trans hle3278)) ((hw.pick [0, 1, 2, 3, 4, 5, 6] (by kernel_rfl)).pack 0)) fun a w v hv hs => ?_
                    obtain ⟨rfl, hw⟩ := hv
                    replace hw := hw.unpack 0 rfl
                    refine dg_next (SX_now hS3186 ((hw.vws [5, 0, 2, 3, 1, 4, 6]).anti ((hle3261.trans hle3271).trans hle3278)) (by kernel_rfl)) fun hS => ?_
                    refine d_pures (fuel := 10) kS3186 hs hS [27, 28, 29] [0, 2, 7, 8, 14, 100, 101, 102, 103, 104, 106, 105, 107, 108, 109, 110, 111, 113, 112, 114, 115, 116, 117, 118, 119, 120, 121, 123, 124, 125, 122, 126, 127, 128, 129] [(0, .slice p2 x1.length c3), (2, .int .u32 x9), (7, .pointer (some ⟨b2550, 0, none⟩)), (8, .int .i64 y2547.2.2.2.2.2.2.2), (14, .pointer (some ⟨b3184, 0, none⟩)), (100, .int .i64 y2547.2.2.2.2.2.2.2), (101, .bool (y2547.2.2.2.2.2.2.2 == 0)), (102, .bool true), (103, .pointer (some ⟨b2550, 0, none⟩)), (104, .int .u32 x9), (106, .agg #[.int .i64 x3177.f0, .int .u64 x3177.f1, .slice p3181 x3177.f2.length c3182, .bool x3177.f3, .int .i64 x3177.f4]), (105, .agg #[.int .i64 y3258.f0, .int .u64 y3258.f1, .slice p3262 y3258.f2.length c3263, .bool y3258.f3, .int .i64 y3258.f4]), (107, .bool y3265), (108, .bool y3265), (109, .bool true), (110, .pointer (some ⟨b2550, 0, none⟩)), (111, .int .u32 x9), (113, .agg #[.int .i64 x3177.f0, .int .u64 x3177.f1, .slice p3181 x3177.f2.length c3182, .bool x3177.f3, .int .i64 x3177.f4]), (112, .int .i64 y3268), (114, .int .i64 y3272), (115, .bool (y3268 == y3272)), (116, .bool (y3268 == y3272)), (117, .bool true), (118, .pointer (some ⟨b2550, 0, none⟩)), (119, .int .u32 x9), (120, .int .u32 x9), (121, .int .i64 (IntKind.i64.wrap (x9))), (123, .agg #[.int .i64 x3177.f0, .int .u64 x3177.f1, .slice p3181 x3177.f2.length c3182, .bool x3177.f3, .int .i64 x3177.f4]), (124, .int .u32 x9), (125, .int .i64 (IntKind.i64.wrap (x9))), (122, .int .i64 y3275), (126, .int .i64 y3279), (127, .bool (y3275 == y3279)), (128, .bool (y3275 == y3279)), (129, .bool (y3275 == y3279))] (by kernel_rfl) fun a hs hS => ?_
                    rcases ifbE hx3255 with ⟨h3281, hx3255⟩ | ⟨h3281, hx3255⟩
                    · replace hs := hs.altB 129 true (by kernel_rfl) h3281
                      refine d_pures (fuel := 7) kS3186 hs hS [30, 32, 33] [0, 2, 7, 8, 14, 100, 101, 102, 103, 104, 106, 105, 107, 108, 109, 110, 111, 113, 112, 114, 115, 116, 117, 118, 119, 120, 121, 123, 124, 125, 122, 126, 127, 128, 129, 130, 132, 133] [(0, .slice p2 x1.length c3), (2, .int .u32 x9), (7, .pointer (some ⟨b2550, 0, none⟩)), (8, .int .i64 y2547.2.2.2.2.2.2.2), (14, .pointer (some ⟨b3184, 0, none⟩)), (100, .int .i64 y2547.2.2.2.2.2.2.2), (101, .bool (y2547.2.2.2.2.2.2.2 == 0)), (102, .bool true), (103, .pointer (some ⟨b2550, 0, none⟩)), (104, .int .u32 x9), (106, .agg #[.int .i64 x3177.f0, .int .u64 x3177.f1, .slice p3181 x3177.f2.length c3182, .bool x3177.f3, .int .i64 x3177.f4]), (105, .agg #[.int .i64 y3258.f0, .int .u64 y3258.f1, .slice p3262 y3258.f2.length c3263, .bool y3258.f3, .int .i64 y3258.f4]), (107, .bool y3265), (108, .bool y3265), (109, .bool true), (110, .pointer (some ⟨b2550, 0, none⟩)), (111, .int .u32 x9), (113, .agg #[.int .i64 x3177.f0, .int .u64 x3177.f1, .slice p3181 x3177.f2.length c3182, .bool x3177.f3, .int .i64 x3177.f4]), (112, .int .i64 y3268), (114, .int .i64 y3272), (115, .bool (y3268 == y3272)), (116, .bool (y3268 == y3272)), (117, .bool true), (118, .pointer (some ⟨b2550, 0, none⟩)), (119, .int .u32 x9), (120, .int .u32 x9), (121, .int .i64 (IntKind.i64.wrap (x9))), (123, .agg #[.int .i64 x3177.f0, .int .u64 x3177.f1, .slice p3181 x3177.f2.length c3182, .bool x3177.f3, .int .i64 x3177.f4]), (124, .int .u32 x9), (125, .int .i64 (IntKind.i64.wrap (x9))), (122, .int .i64 y3275), (126, .int .i64 y3279), (127, .bool (y3275 == y3279)), (128, .bool (y3275 == y3279)), (129, .bool true), (130, .pointer (some ⟨b2550, 0, none⟩)), (132, .slice p2 x1.length c3), (133, .int .i64 (x1.length : Int))] (by kernel_rfl) fun a hs hS => ?_
                      refine d_all (fuel := 6) (rs := [31]) (by kernel_rfl) (by simp) (all1 ?_)
                      obtain ⟨y3282, h3283, hx3255⟩ := bindE hx3255
                      refine o_call hs rfl (by kernel_rfl) (by kernel_rfl) (atlas_Atlas_Chains_2_s h3283 (h3161.mono ((hle3261.trans hle3271).trans hle3278)) (h2563.mono (((hle3153.trans hle3261).trans hle3271).trans hle3278)) ((hw.pick [0, 1, 2, 3, 4, 5, 6] (by kernel_rfl)).pack 5)) fun a w v hv hs => ?_
                      obtain ⟨rfl, hw⟩ := hv
                      replace hw := hw.unpack 5 rfl
                      refine dg_next (SX_now hS3186 ((hw.vws [5, 0, 2, 3, 1, 4, 6]).anti ((hle3261.trans hle3271).trans hle3278)) (by kernel_rfl)) fun hS => ?_
                      refine d_pures (fuel := 3) kS3186 hs hS [34, 35, 36] [0, 2, 7, 8, 14, 100, 101, 102, 103, 104, 106, 105, 107, 108, 109, 110, 111, 113, 112, 114, 115, 116, 117, 118, 119, 120, 121, 123, 124, 125, 122, 126, 127, 128, 129, 130, 132, 133, 131, 134, 135, 136] [(0, .slice p2 x1.length c3), (2, .int .u32 x9), (7, .pointer (some ⟨b2550, 0, none⟩)), (8, .int .i64 y2547.2.2.2.2.2.2.2), (14, .pointer (some ⟨b3184, 0, none⟩)), (100, .int .i64 y2547.2.2.2.2.2.2.2), (101, .bool (y2547.2.2.2.2.2.2.2 == 0)), (102, .bool true), (103, .pointer (some ⟨b2550, 0, none⟩)), (104, .int .u32 x9), (106, .agg #[.int .i64 x3177.f0, .int .u64 x3177.f1, .slice p3181 x3177.f2.length c3182, .bool x3177.f3, .int .i64 x3177.f4]), (105, .agg #[.int .i64 y3258.f0, .int .u64 y3258.f1, .slice p3262 y3258.f2.length c3263, .bool y3258.f3, .int .i64 y3258.f4]), (107, .bool y3265), (108, .bool y3265), (109, .bool true), (110, .pointer (some ⟨b2550, 0, none⟩)), (111, .int .u32 x9), (113, .agg #[.int .i64 x3177.f0, .int .u64 x3177.f1, .slice p3181 x3177.f2.length c3182, .bool x3177.f3, .int .i64 x3177.f4]), (112, .int .i64 y3268), (114, .int .i64 y3272), (115, .bool (y3268 == y3272)), (116, .bool (y3268 == y3272)), (117, .bool true), (118, .pointer (some ⟨b2550, 0, none⟩)), (119, .int .u32 x9), (120, .int .u32 x9), (121, .int .i64 (IntKind.i64.wrap (x9))), (123, .agg #[.int .i64 x3177.f0, .int .u64 x3177.f1, .slice p3181 x3177.f2.length c3182, .bool x3177.f3, .int .i64 x3177.f4]), (124, .int .u32 x9), (125, .int .i64 (IntKind.i64.wrap (x9))), (122, .int .i64 y3275), (126, .int .i64 y3279), (127, .bool (y3275 == y3279)), (128, .bool (y3275 == y3279)), (129, .bool true), (130, .pointer (some ⟨b2550, 0, none⟩)), (132, .slice p2 x1.length c3), (133, .int .i64 (x1.length : Int)), (131, .int .i64 y3282), (134, .bool (y3282 == (x1.length : Int))), (135, .bool (y3282 == (x1.length : Int))), (136, .bool (y3282 == (x1.length : Int)))] (by kernel_rfl) fun a hs hS => ?_
                      rcases ifbE hx3255 with ⟨h3284, hx3255⟩ | ⟨h3284, hx3255⟩
                      · replace hs := hs.altB 136 true (by kernel_rfl) h3284
                        refine d_all (fuel := 2) (rs := [37]) (by kernel_rfl) (by simp) (all1 ?_)
                        obtain ⟨y3285, h3286, hx3255⟩ := bindE hx3255
                        refine o_call hs rfl (by kernel_rfl) (by kernel_rfl) (catenarylaw25_awake_s h3286 ((hw.pick [0, 1, 2, 3, 4, 5, 6] (by kernel_rfl)).pack 0)) fun a w v hv hs => ?_
                        obtain ⟨ih3287, rfl, hw, hle3288⟩ := hv
                        replace hw := hw.unpack 0 rfl
                        refine dg_next (SX_now hS3186 ((hw.vws [5, 0, 2, 3, 1, 4, 6]).anti (((hle3261.trans hle3271).trans hle3278).trans hle3288)) (by kernel_rfl)) fun hS => ?_
                        refine d_pures (fuel := 0) kS3186 hs hS [38, 39] [0, 2, 7, 8, 14, 100, 101, 102, 103, 104, 106, 105, 107, 108, 109, 110, 111, 113, 112, 114, 115, 116, 117, 118, 119, 120, 121, 123, 124, 125, 122, 126, 127, 128, 129, 130, 132, 133, 131, 134, 135, 136, 137, 138, 6] [(0, .slice p2 x1.length c3), (2, .int .u32 x9), (7, .pointer (some ⟨b2550, 0, none⟩)), (8, .int .i64 y2547.2.2.2.2.2.2.2), (14, .pointer (some ⟨b3184, 0, none⟩)), (100, .int .i64 y2547.2.2.2.2.2.2.2), (101, .bool (y2547.2.2.2.2.2.2.2 == 0)), (102, .bool true), (103, .pointer (some ⟨b2550, 0, none⟩)), (104, .int .u32 x9), (106, .agg #[.int .i64 x3177.f0, .int .u64 x3177.f1, .slice p3181 x3177.f2.length c3182, .bool x3177.f3, .int .i64 x3177.f4]), (105, .agg #[.int .i64 y3258.f0, .int .u64 y3258.f1, .slice p3262 y3258.f2.length c3263, .bool y3258.f3, .int .i64 y3258.f4]), (107, .bool y3265), (108, .bool y3265), (109, .bool true), (110, .pointer (some ⟨b2550, 0, none⟩)), (111, .int .u32 x9), (113, .agg #[.int .i64 x3177.f0, .int .u64 x3177.f1, .slice p3181 x3177.f2.length c3182, .bool x3177.f3, .int .i64 x3177.f4]), (112, .int .i64 y3268), (114, .int .i64 y3272), (115, .bool (y3268 == y3272)), (116, .bool (y3268 == y3272)), (117, .bool true), (118, .pointer (some ⟨b2550, 0, none⟩)), (119, .int .u32 x9), (120, .int .u32 x9), (121, .int .i64 (IntKind.i64.wrap (x9))), (123, .agg #[.int .i64 x3177.f0, .int .u64 x3177.f1, .slice p3181 x3177.f2.length c3182, .bool x3177.f3, .int .i64 x3177.f4]), (124, .int .u32 x9), (125, .int .i64 (IntKind.i64.wrap (x9))), (122, .int .i64 y3275), (126, .int .i64 y3279), (127, .bool (y3275 == y3279)), (128, .bool (y3275 == y3279)), (129, .bool true), (130, .pointer (some ⟨b2550, 0, none⟩)), (132, .slice p2 x1.length c3), (133, .int .i64 (x1.length : Int)), (131, .int .i64 y3282), (134, .bool (y3282 == (x1.length : Int))), (135, .bool (y3282 == (x1.length : Int))), (136, .bool true), (137, .bool y3285), (138, .bool y3285), (6, .bool y3285)] (by kernel_rfl) fun a hs hS => ?_
                        refine d_done (by kernel_rfl) ?_
                        obtain rfl := someE hx3255
                        exact (hJ3256 _ _).2 ⟨y3285, ih3287, hk, hs.cast [6] (by kernel_rfl), hw.pick [6] (by kernel_rfl), (((hle3261.trans hle3271).trans hle3278).trans hle3288)⟩
                      · replace hs := hs.altB 136 false (by kernel_rfl) h3284
                        refine d_pures (fuel := 0) kS3186 hs hS [37, 38, 39] [0, 2, 7, 8, 14, 100, 101, 102, 103, 104, 106, 105, 107, 108, 109, 110, 111, 113, 112, 114, 115, 116, 117, 118, 119, 120, 121, 123, 124, 125, 122, 126, 127, 128, 129, 130, 132, 133, 131, 134, 135, 136, 137, 138, 6] [(0, .slice p2 x1.length c3), (2, .int .u32 x9), (7, .pointer (some ⟨b2550, 0, none⟩)), (8, .int .i64 y2547.2.2.2.2.2.2.2), (14, .pointer (some ⟨b3184, 0, none⟩)), (100, .int .i64 y2547.2.2.2.2.2.2.2), (101, .bool (y2547.2.2.2.2.2.2.2 == 0)), (102, .bool true), (103, .pointer (some ⟨b2550, 0, none⟩)), (104, .int .u32 x9), (106, .agg #[.int .i64 x3177.f0, .int .u64 x3177.f1, .slice p3181 x3177.f2.length c3182, .bool x3177.f3, .int .i64 x3177.f4]), (105, .agg #[.int .i64 y3258.f0, .int .u64 y3258.f1, .slice p3262 y3258.f2.length c3263, .bool y3258.f3, .int .i64 y3258.f4]), (107, .bool y3265), (108, .bool y3265), (109, .bool true), (110, .pointer (some ⟨b2550, 0, none⟩)), (111, .int .u32 x9), (113, .agg #[.int .i64 x3177.f0, .int .u64 x3177.f1, .slice p3181 x3177.f2.length c3182, .bool x3177.f3, .int .i64 x3177.f4]), (112, .int .i64 y3268), (114, .int .i64 y3272), (115, .bool (y3268 == y3272)), (116, .bool (y3268 == y3272)), (117, .bool true), (118, .pointer (some ⟨b2550, 0, none⟩)), (119, .int .u32 x9), (120, .int .u32 x9), (121, .int .i64 (IntKind.i64.wrap (x9))), (123, .agg #[.int .i64 x3177.f0, .int .u64 x3177.f1, .slice p3181 x3177.f2.length c3182, .bool x3177.f3, .int .i64 x3177.f4]), (124, .int .u32 x9), (125, .int .i64 (IntKind.i64.wrap (x9))), (122, .int .i64 y3275), (126, .int .i64 y3279), (127, .bool (y3275 == y3279)), (128, .bool (y3275 == y3279)), (129, .bool true), (130, .pointer (some ⟨b2550, 0, none⟩)), (132, .slice p2 x1.length c3), (133, .int .i64 (x1.length : Int)), (131, .int .i64 y3282), (134, .bool (y3282 == (x1.length : Int))), (135, .bool (y3282 == (x1.length : Int))), (136, .bool false), (137, undef), (138, .bool false), (6, .bool false)] (by kernel_rfl) fun a hs hS => ?_
                        refine d_done (by kernel_rfl) ?_
                        obtain rfl := someE hx3255
                        exact (hJ3256 _ _).2 ⟨false, ih3277, hk, hs.cast [6] (by kernel_rfl), hw.pick [6] (by kernel_rfl), ((hle3261.trans hle3271).trans hle3278)⟩
                    · replace hs := hs.altB 129 false (by kernel_rfl) h3281
                      refine d_pures (fuel := 0) kS3186 hs hS [30, 31, 32, 33, 34, 35, 36, 37, 38, 39] [0, 2, 7, 8, 14, 100, 101, 102, 103, 104, 106, 105, 107, 108, 109, 110, 111, 113, 112, 114, 115, 116, 117, 118, 119, 120, 121, 123, 124, 125, 122, 126, 127, 128, 129, 130, 131, 132, 133, 134, 135, 136, 137, 138, 6] [(0, .slice p2 x1.length c3), (2, .int .u32 x9), (7, .pointer (some ⟨b2550, 0, none⟩)), (8, .int .i64 y2547.2.2.2.2.2.2.2), (14, .pointer (some ⟨b3184, 0, none⟩)), (100, .int .i64 y2547.2.2.2.2.2.2.2), (101, .bool (y2547.2.2.2.2.2.2.2 == 0)), (102, .bool true), (103, .pointer (some ⟨b2550, 0, none⟩)), (104, .int .u32 x9), (106, .agg #[.int .i64 x3177.f0, .int .u64 x3177.f1, .slice p3181 x3177.f2.length c3182, .bool x3177.f3, .int .i64 x3177.f4]), (105, .agg #[.int .i64 y3258.f0, .int .u64 y3258.f1, .slice p3262 y3258.f2.length c3263, .bool y3258.f3, .int .i64 y3258.f4]), (107, .bool y3265), (108, .bool y3265), (109, .bool true), (110, .pointer (some ⟨b2550, 0, none⟩)), (111, .int .u32 x9), (113, .agg #[.int .i64 x3177.f0, .int .u64 x3177.f1, .slice p3181 x3177.f2.length c3182, .bool x3177.f3, .int .i64 x3177.f4]), (112, .int .i64 y3268), (114, .int .i64 y3272), (115, .bool (y3268 == y3272)), (116, .bool (y3268 == y3272)), (117, .bool true), (118, .pointer (some ⟨b2550, 0, none⟩)), (119, .int .u32 x9), (120, .int .u32 x9), (121, .int .i64 (IntKind.i64.wrap (x9))), (123, .agg #[.int .i64 x3177.f0, .int .u64 x3177.f1, .slice p3181 x3177.f2.length c3182, .bool x3177.f3, .int .i64 x3177.f4]), (124, .int .u32 x9), (125, .int .i64 (IntKind.i64.wrap (x9))), (122, .int .i64 y3275), (126, .int .i64 y3279), (127, .bool (y3275 == y3279)), (128, .bool (y3275 == y3279)), (129, .bool false), (130, undef), (131, undef), (132, undef), (133, undef), (134, undef), (135, .bool false), (136, .bool false), (137, undef), (138, .bool false), (6, .bool false)] (by kernel_rfl) fun a hs hS => ?_
                      refine d_done (by kernel_rfl) ?_
                      obtain rfl := someE hx3255
                      exact (hJ3256 _ _).2 ⟨false, ih3277, hk, hs.cast [6] (by kernel_rfl), hw.pick [6] (by kernel_rfl), ((hle3261.trans hle3271).trans hle3278)⟩
                  · replace hs := hs.altB 117 false (by kernel_rfl) h3274
                    refine d_pures (fuel := 0) kS3186 hs hS [18, 19, 20, 21, 22, 23, 24, 25, 26, 27, 28, 29, 30, 31, 32, 33, 34, 35, 36, 37, 38, 39] [0, 2, 7, 8, 14, 100, 101, 102, 103, 104, 106, 105, 107, 108, 109, 110, 111, 113, 112, 114, 115, 116, 117, 118, 119, 120, 121, 122, 123, 124, 125, 126, 127, 128, 129, 130, 131, 132, 133, 134, 135, 136, 137, 138, 6] [(0, .slice p2 x1.length c3), (2, .int .u32 x9), (7, .pointer (some ⟨b2550, 0, none⟩)), (8, .int .i64 y2547.2.2.2.2.2.2.2), (14, .pointer (some ⟨b3184, 0, none⟩)), (100, .int .i64 y2547.2.2.2.2.2.2.2), (101, .bool (y2547.2.2.2.2.2.2.2 == 0)), (102, .bool true), (103, .pointer (some ⟨b2550, 0, none⟩)), (104, .int .u32 x9), (106, .agg #[.int .i64 x3177.f0, .int .u64 x3177.f1, .slice p3181 x3177.f2.length c3182, .bool x3177.f3, .int .i64 x3177.f4]), (105, .agg #[.int .i64 y3258.f0, .int .u64 y3258.f1, .slice p3262 y3258.f2.length c3263, .bool y3258.f3, .int .i64 y3258.f4]), (107, .bool y3265), (108, .bool y3265), (109, .bool true), (110, .pointer (some ⟨b2550, 0, none⟩)), (111, .int .u32 x9), (113, .agg #[.int .i64 x3177.f0, .int .u64 x3177.f1, .slice p3181 x3177.f2.length c3182, .bool x3177.f3, .int .i64 x3177.f4]), (112, .int .i64 y3268), (114, .int .i64 y3272), (115, .bool (y3268 == y3272)), (116, .bool (y3268 == y3272)), (117, .bool false), (118, undef), (119, undef), (120, undef), (121, undef), (122, undef), (123, undef), (124, undef), (125, undef), (126, undef), (127, undef), (128, .bool false), (129, .bool false), (130, undef), (131, undef), (132, undef), (133, undef), (134, undef), (135, .bool false), (136, .bool false), (137, undef), (138, .bool false), (6, .bool false)] (by kernel_rfl) fun a hs hS => ?_
                    refine d_done (by kernel_rfl) ?_
                    obtain rfl := someE hx3255
                    exact (hJ3256 _ _).2 ⟨false, ih3270, hk, hs.cast [6] (by kernel_rfl), hw.pick [6] (by kernel_rfl), (hle3261.trans hle3271)⟩
                · replace hs := hs.altB 109 false (by kernel_rfl) h3267
                  refine d_pures (fuel := 0) kS3186 hs hS [10, 11, 12, 13, 14, 15, 16, 17, 18, 19, 20, 21, 22, 23, 24, 25, 26, 27, 28, 29, 30, 31, 32, 33, 34, 35, 36, 37, 38, 39] [0, 2, 7, 8, 14, 100, 101, 102, 103, 104, 106, 105, 107, 108, 109, 110, 111, 112, 113, 114, 115, 116, 117, 118, 119, 120, 121, 122, 123, 124, 125, 126, 127, 128, 129, 130, 131, 132, 133, 134, 135, 136, 137, 138, 6] [(0, .slice p2 x1.length c3), (2, .int .u32 x9), (7, .pointer (some ⟨b2550, 0, none⟩)), (8, .int .i64 y2547.2.2.2.2.2.2.2), (14, .pointer (some ⟨b3184, 0, none⟩)), (100, .int .i64 y2547.2.2.2.2.2.2.2), (101, .bool (y2547.2.2.2.2.2.2.2 == 0)), (102, .bool true), (103, .pointer (some ⟨b2550, 0, none⟩)), (104, .int .u32 x9), (106, .agg #[.int .i64 x3177.f0, .int .u64 x3177.f1, .slice p3181 x3177.f2.length c3182, .bool x3177.f3, .int .i64 x3177.f4]), (105, .agg #[.int .i64 y3258.f0, .int .u64 y3258.f1, .slice p3262 y3258.f2.length c3263, .bool y3258.f3, .int .i64 y3258.f4]), (107, .bool y3265), (108, .bool y3265), (109, .bool false), (110, undef), (111, undef), (112, undef), (113, undef), (114, undef), (115, undef), (116, .bool false), (117, .bool false), (118, undef), (119, undef), (120, undef), (121, undef), (122, undef), (123, undef), (124, undef), (125, undef), (126, undef), (127, undef), (128, .bool false), (129, .bool false), (130, undef), (131, undef), (132, undef), (133, undef), (134, undef), (135, .bool false), (136, .bool false), (137, undef), (138, .bool false), (6, .bool false)] (by kernel_rfl) fun a hs hS => ?_
                  refine d_done (by kernel_rfl) ?_
                  obtain rfl := someE hx3255
                  exact (hJ3256 _ _).2 ⟨false, ih3260, hk, hs.cast [6] (by kernel_rfl), hw.pick [6] (by kernel_rfl), hle3261⟩
              · replace hs := hs.altB 102 false (by kernel_rfl) h3257
                refine d_pures (fuel := 0) kS3186 hs hS [3, 4, 5, 6, 7, 8, 9, 10, 11, 12, 13, 14, 15, 16, 17, 18, 19, 20, 21, 22, 23, 24, 25, 26, 27, 28, 29, 30, 31, 32, 33, 34, 35, 36, 37, 38, 39] [0, 2, 7, 8, 14, 100, 101, 102, 103, 104, 105, 106, 107, 108, 109, 110, 111, 112, 113, 114, 115, 116, 117, 118, 119, 120, 121, 122, 123, 124, 125, 126, 127, 128, 129, 130, 131, 132, 133, 134, 135, 136, 137, 138, 6] [(0, .slice p2 x1.length c3), (2, .int .u32 x9), (7, .pointer (some ⟨b2550, 0, none⟩)), (8, .int .i64 y2547.2.2.2.2.2.2.2), (14, .pointer (some ⟨b3184, 0, none⟩)), (100, .int .i64 y2547.2.2.2.2.2.2.2), (101, .bool (y2547.2.2.2.2.2.2.2 == 0)), (102, .bool false), (103, undef), (104, undef), (105, undef), (106, undef), (107, undef), (108, .bool false), (109, .bool false), (110, undef), (111, undef), (112, undef), (113, undef), (114, undef), (115, undef), (116, .bool false), (117, .bool false), (118, undef), (119, undef), (120, undef), (121, undef), (122, undef), (123, undef), (124, undef), (125, undef), (126, undef), (127, undef), (128, .bool false), (129, .bool false), (130, undef), (131, undef), (132, undef), (133, undef), (134, undef), (135, .bool false), (136, .bool false), (137, undef), (138, .bool false), (6, .bool false)] (by kernel_rfl) fun a hs hS => ?_
                refine d_done (by kernel_rfl) ?_
                obtain rfl := someE hx3255
                exact (hJ3256 _ _).2 ⟨false, ih3152, hk, hs.cast [6] (by kernel_rfl), hw.pick [6] (by kernel_rfl), (Le.refl _)⟩
            · intro a w hh
              obtain ⟨x3253, ih3251, hk, hs, hw, hle3252⟩ := (hJ3256 _ _).1 hh
              refine wp_ret ?_
              obtain rfl := someE hk
              refine hQ _ _ (f_ret1 hs rfl (v := .bool x3253) (by kernel_rfl) ⟨ih3251, rfl, hw.pick [0] (by kernel_rfl), ((hle2549.trans hle3153).trans hle3252)⟩)
end Go.Proofs.Ytfpppgbibgbllaa.Sx
