/- The walk of UpdateFits: each Go function it calls, as a plain function, and the proof that the call computes it. Printed by the program gen.py.
   Conditions: those that each theorem states ahead of its colon, and no other. -/
import Derived.Test.YtfpppgbibgbllaaSx9
import Derived.Test.YtfpppgbibgbllaaProg
namespace Go.Proofs.Ytfpppgbibgbllaa.Sx
open Go Go.Proofs
set_option maxRecDepth 100000
set_option linter.unusedVariables false
structure M34 where
  f0 : Int
  f1 : Int
  f2 : Int
  f3 : Int
  f4 : Int
  f5 : Int
  f6 : List Int
@[reducible] def e5 : ET := eInt .u8 5
@[reducible] def e34 : ET := ⟨M34, 7, 34, fun ih x cs => ∃ q0 k0, cs = [.int .u64 x.f0, .int .i64 x.f1, .int .u64 x.f2, .int .i64 x.f3, .int .u32 x.f4, .int .u64 x.f5, .slice q0 x.f6.length k0] ∧ RSl e5 ih [] q0 k0 x.f6,
  fun ⟨_, _, h, g0⟩ => by rw [h]; rfl, fun ⟨_, _, h, g0⟩ => by rw [h]; rfl, fun ⟨p0, p1, h, g0⟩ hle => ⟨p0, p1, h, g0.mono hle⟩⟩
@[reducible] def e23 : ET := eInt .u64 23
@[reducible] def e3 : ET := eInt .i64 3
@[reducible] def e31 : ET := eInt .u32 31
@[reducible] def e32 : ET := eSl 32 e5
theorem appT22 : AppT Try.prog 22 e34 := appT_of (by kernel_rfl)
theorem appT32 : AppT Try.prog 32 e5 := appT_of (by kernel_rfl)
def catenarylaw17_far_r3 (x1 : List M34) : Option Bool :=
  some (decide ((x1.length : Int) > 40))
def catenarylaw17_far_l4 (x1 : List M34) : Nat → Int → Option (Sum Bool Unit)
  | 0, _ => none
  | j + 1, x113 =>
    if (decide (x113 < (x1.length : Int))) = true then (
      (ix x1 x113).bind fun x142 =>
      if (decide ((x142.f6.length : Int) > 2100)) = true then some (.inl true)
      else catenarylaw17_far_l4 x1 j (IntKind.i64.wrap (x113 + 1)))
    else some (.inr ())
def catenarylaw17_far (k : Nat) (x1 : List M34) : Option Bool :=
  (catenarylaw17_far_l4 x1 k 0 : Option (Sum Bool Unit)).bind fun
    | .inl z => some z
    | .inr _ => catenarylaw17_far_r3 x1
theorem catenarylaw17_far_s {k : Nat} {x1 : List M34} {p2 : Option Addr} {c3 : Nat} {d5 : Ch} {r : Bool} (hk : catenarylaw17_far k x1 = some r) {g w : World} {F : Ch} {ih : IH} (h4 : RSl e34 ih d5 p2 c3 x1) (h6 : ∀ q ∈ d5, q ∈ F) (hw : St g w [F] ih) :
    CallsR Try.prog 13 #[.slice p2 x1.length c3] w fun v w' => v = .bool r ∧ St g w' [F] ih := by
  refine f_in (vs := [.slice p2 x1.length c3]) Try.func13 rfl 20 rfl (by kernel_rfl) [(0, .slice p2 x1.length c3)] (by kernel_rfl) fun a Qf hQ hQn hs => ?_
  refine c_seq ?_
  refine c_region ?_
  refine pures hs 1 [0] [(0, .slice p2 x1.length c3)] (by kernel_rfl) fun a hs => ?_
  refine s_end ?_
  refine c_seq ?_
  refine c_seq ?_
  refine c_region ?_
  refine pures hs 1 [0, 3] [(0, .slice p2 x1.length c3), (3, .int .i64 0)] (by kernel_rfl) fun a hs => ?_
  refine s_end ?_
  refine c_block ?_
  obtain ⟨y130, hx131, hk⟩ := bindE hk
  obtain ⟨J132, hJ132⟩ : ∃ J : Act → World → Prop, ∀ a w, J a w ↔ (catenarylaw17_far_r3 x1 = some r ∧ Sees a 20 [(0, .slice p2 x1.length c3)] ∧ St g w [F] ih) := ⟨_, fun _ _ => Iff.rfl⟩
  obtain ⟨I133, hI133⟩ : ∃ J : Nat → Act → World → Prop, ∀ j a w, J j a w ↔ (∃ (x113 : Int), catenarylaw17_far_l4 x1 j x113 = some y130 ∧ Sees a 20 [(0, .slice p2 x1.length c3), (3, .int .i64 x113)] ∧ St g w [F] ih) := ⟨_, fun _ _ _ => Iff.rfl⟩
  refine c_exitJ 0 J132 ?_ ?_
  · refine c_loop I133 k ((hI133 _ _ _).2 ⟨0, hx131, hs.cast [0, 3] (by kernel_rfl), hw.pick [0] (by kernel_rfl)⟩) (fun a w h0 => ?_) fun j a w hh => ?_
    · obtain ⟨_, h, _⟩ := (hI133 _ _ _).1 h0
      cases h
    · obtain ⟨x113, hx131, hs, hw⟩ := (hI133 _ _ _).1 hh
      refine c_seq ?_
      refine c_seq ?_
      refine c_region ?_
      refine pures hs 4 [0, 3, 7] [(0, .slice p2 x1.length c3), (3, .int .i64 x113), (7, .bool (decide (x113 < (x1.length : Int))))] (by kernel_rfl) fun a hs => ?_
      refine s_end ?_
      rcases ifbE hx131 with ⟨h134, hx131⟩ | ⟨h134, hx131⟩
      · refine c_cond1 hs (by kernel_rfl) (t := (decide (x113 < (x1.length : Int)))) (by kernel_rfl) h134 ?_
        refine wp_skip ?_
        refine c_seq ?_
        refine c_block ?_
        refine c_seq ?_
        refine c_region ?_
        refine pures hs 2 [0, 3, 10, 11] [(0, .slice p2 x1.length c3), (3, .int .i64 x113), (10, .slice p2 x1.length c3), (11, .int .i64 x113)] (by kernel_rfl) fun a hs => ?_
        obtain ⟨x142, h143, hx131⟩ := bindE hx131
        refine s_index hs h4 (by kernel_rfl) (by kernel_rfl) (k := .i64) (by kernel_rfl) 34 (by kernel_rfl) (by kernel_rfl) h143 fun a r144 cs henc at145 hs => ?_
        obtain ⟨p146, c147, rfl, h148⟩ := henc
        refine pures hs 1 [0, 3, 13] [(0, .slice p2 x1.length c3), (3, .int .i64 x113), (13, .pointer (some (r144.add 6)))] (by kernel_rfl) fun a hs => ?_
        refine s_load hs (at145 _ (((hw.vw 0 rfl).sub h6).anti (Le.refl _))) 6 (by kernel_rfl) (by kernel_rfl) (v := .slice p146 x142.f6.length c147) (by kernel_rfl) fun a hs => ?_
        refine pures hs 2 [0, 3, 16] [(0, .slice p2 x1.length c3), (3, .int .i64 x113), (16, .bool (decide ((x142.f6.length : Int) > 2100)))] (by kernel_rfl) fun a hs => ?_
        refine s_end ?_
        rcases ifbE hx131 with ⟨h149, hx131⟩ | ⟨h149, hx131⟩
        · refine c_cond1 hs (by kernel_rfl) (t := (decide ((x142.f6.length : Int) > 2100))) (by kernel_rfl) h149 ?_
          refine c_seq ?_
          refine c_region ?_
          refine pures hs 1 [2] [(2, .bool true)] (by kernel_rfl) fun a hs => ?_
          refine s_end ?_
          refine wp_ret ?_
          obtain rfl := someE hx131
          obtain rfl := someE hk
          refine hQ _ _ (f_ret1 hs rfl (v := .bool true) (by kernel_rfl) ⟨rfl, hw.pick [0] (by kernel_rfl)⟩)
        · refine c_cond0 hs (by kernel_rfl) (t := (decide ((x142.f6.length : Int) > 2100))) (by kernel_rfl) h149 ?_
          refine wp_skip ?_
          refine c_region ?_
          refine pures hs 3 [0, 3] [(0, .slice p2 x1.length c3), (3, .int .i64 (IntKind.i64.wrap (x113 + 1)))] (by kernel_rfl) fun a hs => ?_
          refine s_end ?_
          exact (hI133 _ _ _).2 ⟨(IntKind.i64.wrap (x113 + 1)), hx131, hs.cast [0, 3] (by kernel_rfl), hw.pick [0] (by kernel_rfl)⟩
      · refine c_cond0 hs (by kernel_rfl) (t := (decide (x113 < (x1.length : Int)))) (by kernel_rfl) h134 ?_
        refine wp_exit ?_
        obtain rfl := someE hx131
        exact (hJ132 _ _).2 ⟨hk, hs.cast [0] (by kernel_rfl), hw.pick [0] (by kernel_rfl)⟩
  · intro a w hh
    obtain ⟨hk, hs, hw⟩ := (hJ132 _ _).1 hh
    refine c_seq ?_
    refine c_region ?_
    refine pures hs 4 [2] [(2, .bool (decide ((x1.length : Int) > 40)))] (by kernel_rfl) fun a hs => ?_
    refine s_end ?_
    refine wp_ret ?_
    obtain rfl := someE hk
    refine hQ _ _ (f_ret1 hs rfl (v := .bool (decide ((x1.length : Int) > 40))) (by kernel_rfl) ⟨rfl, hw.pick [0] (by kernel_rfl)⟩)
def update_writes_r2 (x13 : Bool) : Option Bool :=
  if x13 = true then some true
  else some false
def update_writes (x1 : Int) : Option Bool :=
  (if (x1 == 2) = true then some (x1 == 2)
    else some (x1 == 3) : Option Bool).bind fun s19 => update_writes_r2 s19
theorem update_writes_s {x1 : Int} {r : Bool} (hk : update_writes x1 = some r) {g w : World} {F : Ch} {ih : IH} (hw : St g w [F] ih) :
    CallsR Try.prog 70 #[.int .i64 x1] w fun v w' => v = .bool r ∧ St g w' [F] ih := by
  refine f_in (vs := [.int .i64 x1]) Try.func70 rfl 7 rfl (by kernel_rfl) [(0, .int .i64 x1)] (by kernel_rfl) fun a Qf hQ hQn hs => ?_
  refine c_seq ?_
  refine c_region ?_
  refine pures hs 1 [0] [(0, .int .i64 x1)] (by kernel_rfl) fun a hs => ?_
  refine s_end ?_
  refine c_seq ?_
  refine c_region ?_
  refine pures hs 1 [3] [(3, .int .i64 x1)] (by kernel_rfl) fun a hs => ?_
  refine s_end ?_
  refine c_block ?_
  obtain ⟨y15, hx16, hk⟩ := bindE hk
  obtain ⟨J17, hJ17⟩ : ∃ J : Act → World → Prop, ∀ a w, J a w ↔ (∃ (x13 : Bool), update_writes_r2 x13 = some r ∧ Sees a 7 [(4, .bool x13)] ∧ St g w [F] ih) := ⟨_, fun _ _ => Iff.rfl⟩
  refine c_seqJ J17 ?_ ?_
  · refine c_seq ?_
    refine c_region ?_
    refine pures hs 2 [3, 4] [(3, .int .i64 x1), (4, .bool (x1 == 2))] (by kernel_rfl) fun a hs => ?_
    refine s_end ?_
    rcases ifbE hx16 with ⟨h18, hx16⟩ | ⟨h18, hx16⟩
    · refine c_cond1 hs (by kernel_rfl) (t := (x1 == 2)) (by kernel_rfl) h18 ?_
      refine wp_skip ?_
      obtain rfl := someE hx16
      exact (hJ17 _ _).2 ⟨(x1 == 2), hk, hs.cast [4] (by kernel_rfl), hw.pick [0] (by kernel_rfl)⟩
    · refine c_cond0 hs (by kernel_rfl) (t := (x1 == 2)) (by kernel_rfl) h18 ?_
      refine c_region ?_
      refine pures hs 2 [4] [(4, .bool (x1 == 3))] (by kernel_rfl) fun a hs => ?_
      refine s_end ?_
      obtain rfl := someE hx16
      exact (hJ17 _ _).2 ⟨(x1 == 3), hk, hs.cast [4] (by kernel_rfl), hw.pick [0] (by kernel_rfl)⟩
  · intro a w hh
    obtain ⟨x13, hk, hs, hw⟩ := (hJ17 _ _).1 hh
    rcases ifbE hk with ⟨h14, hk⟩ | ⟨h14, hk⟩
    · refine c_cond1 hs (by kernel_rfl) (t := x13) (by kernel_rfl) h14 ?_
      refine c_seq ?_
      refine c_region ?_
      refine pures hs 1 [2] [(2, .bool true)] (by kernel_rfl) fun a hs => ?_
      refine s_end ?_
      refine wp_ret ?_
      obtain rfl := someE hk
      refine hQ _ _ (f_ret1 hs rfl (v := .bool true) (by kernel_rfl) ⟨rfl, hw.pick [0] (by kernel_rfl)⟩)
    · refine c_cond0 hs (by kernel_rfl) (t := x13) (by kernel_rfl) h14 ?_
      refine c_seq ?_
      refine c_region ?_
      refine pures hs 1 [2] [(2, .bool false)] (by kernel_rfl) fun a hs => ?_
      refine s_end ?_
      refine wp_ret ?_
      obtain rfl := someE hk
      refine hQ _ _ (f_ret1 hs rfl (v := .bool false) (by kernel_rfl) ⟨rfl, hw.pick [0] (by kernel_rfl)⟩)
def update_Outcome (x1 : M34) (x5 : Int) (x6 : Bool) : Option (Int × Int × Bool) :=
  (update_writes x1.f3).bind fun y39 =>
  if (!y39) = true then some (1, x5, false)
  else if ((x1.f3 == 3) && (x1.f5 != x5)) = true then some (11, x5, false)
  else if (bif (x5 == 0) then ((!x6) || (x5 == 18446744073709551615)) else (x5 == 18446744073709551615)) = true then some (9, x5, false)
  else some (0, IntKind.u64.wrap (x5 + 1), true)
theorem update_Outcome_s {x1 : M34} {x5 : Int} {x6 : Bool} {p2 : Option Addr} {c3 : Nat} {r : Int × Int × Bool} (hk : update_Outcome x1 x5 x6 = some r) {g w : World} {F : Ch} {ih : IH} (h4 : RSl e5 ih [] p2 c3 x1.f6) (hw : St g w [F] ih) :
    CallsR Try.prog 17 #[.agg #[.int .u64 x1.f0, .int .i64 x1.f1, .int .u64 x1.f2, .int .i64 x1.f3, .int .u32 x1.f4, .int .u64 x1.f5, .slice p2 x1.f6.length c3], .int .u64 x5, .bool x6] w fun v w' => v = .tuple #[.int .i64 r.1, .int .u64 r.2.1, .bool r.2.2] ∧ St g w' [F] ih := by
  refine f_in (vs := [.agg #[.int .u64 x1.f0, .int .i64 x1.f1, .int .u64 x1.f2, .int .i64 x1.f3, .int .u32 x1.f4, .int .u64 x1.f5, .slice p2 x1.f6.length c3], .int .u64 x5, .bool x6]) Try.func17 rfl 40 rfl (by kernel_rfl) [(0, .agg #[.int .u64 x1.f0, .int .i64 x1.f1, .int .u64 x1.f2, .int .i64 x1.f3, .int .u32 x1.f4, .int .u64 x1.f5, .slice p2 x1.f6.length c3]), (1, .int .u64 x5), (2, .bool x6)] (by kernel_rfl) fun a Qf hQ hQn hs => ?_
  refine c_seq ?_
  refine c_region ?_
  refine s_new hs hw [.int .u64 x1.f0, .int .i64 x1.f1, .int .u64 x1.f2, .int .i64 x1.f3, .int .u32 x1.f4, .int .u64 x1.f5, .slice p2 x1.f6.length c3] 34 (fun b => .pointer (some ⟨b, 0, none⟩)) (by kernel_rfl) (fun _ => by kernel_rfl) fun a w b35 hs hw => ?_
  refine pures hs 3 [1, 2, 3] [(1, .int .u64 x5), (2, .bool x6), (3, .pointer (some ⟨b35, 0, none⟩))] (by kernel_rfl) fun a hs => ?_
  refine s_end ?_
  refine c_seq ?_
  refine c_block ?_
  refine c_seq ?_
  refine c_region ?_
  refine pures hs 1 [1, 2, 3, 10] [(1, .int .u64 x5), (2, .bool x6), (3, .pointer (some ⟨b35, 0, none⟩)), (10, .pointer (some ⟨b35, 3, none⟩))] (by kernel_rfl) fun a hs => ?_
  refine s_load hs (hw.at_ 0 rfl) 3 (by kernel_rfl) (by kernel_rfl) (v := .int .i64 x1.f3) (by kernel_rfl) fun a hs => ?_
  obtain ⟨y39, h40, hk⟩ := bindE hk
  refine s_call hs (by kernel_rfl) (by kernel_rfl) (update_writes_s h40 ((hw.pick [0, 1] (by kernel_rfl)).pack 0)) fun a w v hv hs => ?_
  obtain ⟨rfl, hw⟩ := hv
  replace hw := hw.unpack 0 rfl
  refine pures hs 2 [1, 2, 3, 9] [(1, .int .u64 x5), (2, .bool x6), (3, .pointer (some ⟨b35, 0, none⟩)), (9, .bool (!y39))] (by kernel_rfl) fun a hs => ?_
  refine s_end ?_
  rcases ifbE hk with ⟨h41, hk⟩ | ⟨h41, hk⟩
  · refine c_cond1 hs (by kernel_rfl) (t := (!y39)) (by kernel_rfl) h41 ?_
    refine c_seq ?_
    refine c_region ?_
    refine pures hs 4 [6, 7, 8] [(6, .int .i64 1), (7, .int .u64 x5), (8, .bool false)] (by kernel_rfl) fun a hs => ?_
    refine s_end ?_
    refine wp_ret ?_
    obtain rfl := someE hk
    refine hQ _ _ (f_retN hs [.tmp 6, .tmp 7, .tmp 8] rfl [.int .i64 1, .int .u64 x5, .bool false] (by kernel_rfl) (by kernel_rfl) ⟨rfl, hw.pick [1] (by kernel_rfl)⟩)
  · refine c_cond0 hs (by kernel_rfl) (t := (!y39)) (by kernel_rfl) h41 ?_
    refine c_seq ?_
    obtain ⟨J45, hJ45⟩ : ∃ J : Act → World → Prop, ∀ a w, J a w ↔ (Sees a 40 [(1, .int .u64 x5), (2, .bool x6), (15, .bool ((x1.f3 == 3) && (x1.f5 != x5)))] ∧ St g w [F] ih) := ⟨_, fun _ _ => Iff.rfl⟩
    refine c_regJ J45 ?_ ?_
    · refine pures hs 1 [1, 2, 3, 16] [(1, .int .u64 x5), (2, .bool x6), (3, .pointer (some ⟨b35, 0, none⟩)), (16, .pointer (some ⟨b35, 3, none⟩))] (by kernel_rfl) fun a hs => ?_
      refine s_load hs (hw.at_ 0 rfl) 3 (by kernel_rfl) (by kernel_rfl) (v := .int .i64 x1.f3) (by kernel_rfl) fun a hs => ?_
      refine pures hs 2 [1, 2, 3, 19] [(1, .int .u64 x5), (2, .bool x6), (3, .pointer (some ⟨b35, 0, none⟩)), (19, .bool (x1.f3 == 3))] (by kernel_rfl) fun a hs => ?_
      rcases boolE (x1.f3 == 3) with h46 | h46
      · replace hs := hs.altB 19 true (by kernel_rfl) h46
        refine pures hs 1 [1, 2, 19, 20] [(1, .int .u64 x5), (2, .bool x6), (19, .bool true), (20, .pointer (some ⟨b35, 5, none⟩))] (by kernel_rfl) fun a hs => ?_
        refine s_load hs (hw.at_ 0 rfl) 5 (by kernel_rfl) (by kernel_rfl) (v := .int .u64 x1.f5) (by kernel_rfl) fun a hs => ?_
        refine pures hs 4 [1, 2, 15] [(1, .int .u64 x5), (2, .bool x6), (15, .bool (x1.f5 != x5))] (by kernel_rfl) fun a hs => ?_
        refine s_end ?_
        exact (hJ45 _ _).2 ⟨(hs.altB 15 ((x1.f3 == 3) && (x1.f5 != x5)) (by kernel_rfl) (by rw [h46] <;> rfl)).cast [1, 2, 15] (by kernel_rfl), hw.pick [1] (by kernel_rfl)⟩
      · replace hs := hs.altB 19 false (by kernel_rfl) h46
        refine pures hs 6 [1, 2, 15] [(1, .int .u64 x5), (2, .bool x6), (15, .bool false)] (by kernel_rfl) fun a hs => ?_
        refine s_end ?_
        exact (hJ45 _ _).2 ⟨(hs.altB 15 ((x1.f3 == 3) && (x1.f5 != x5)) (by kernel_rfl) (by rw [h46] <;> rfl)).cast [1, 2, 15] (by kernel_rfl), hw.pick [1] (by kernel_rfl)⟩
    · intro a w hh
      obtain ⟨hs, hw⟩ := (hJ45 _ _).1 hh
      rcases ifbE hk with ⟨h47, hk⟩ | ⟨h47, hk⟩
      · refine c_cond1 hs (by kernel_rfl) (t := ((x1.f3 == 3) && (x1.f5 != x5))) (by kernel_rfl) h47 ?_
        refine c_seq ?_
        refine c_region ?_
        refine pures hs 4 [6, 7, 8] [(6, .int .i64 11), (7, .int .u64 x5), (8, .bool false)] (by kernel_rfl) fun a hs => ?_
        refine s_end ?_
        refine wp_ret ?_
        obtain rfl := someE hk
        refine hQ _ _ (f_retN hs [.tmp 6, .tmp 7, .tmp 8] rfl [.int .i64 11, .int .u64 x5, .bool false] (by kernel_rfl) (by kernel_rfl) ⟨rfl, hw.pick [0] (by kernel_rfl)⟩)
      · refine c_cond0 hs (by kernel_rfl) (t := ((x1.f3 == 3) && (x1.f5 != x5))) (by kernel_rfl) h47 ?_
        refine c_seq ?_
        obtain ⟨J53, hJ53⟩ : ∃ J : Act → World → Prop, ∀ a w, J a w ↔ (Sees a 40 [(1, .int .u64 x5), (26, .bool (bif (x5 == 0) then ((!x6) || (x5 == 18446744073709551615)) else (x5 == 18446744073709551615)))] ∧ St g w [F] ih) := ⟨_, fun _ _ => Iff.rfl⟩
        refine c_regJ J53 ?_ ?_
        · refine pures hs 3 [1, 2, 29] [(1, .int .u64 x5), (2, .bool x6), (29, .bool (x5 == 0))] (by kernel_rfl) fun a hs => ?_
          rcases boolE (x5 == 0) with h54 | h54
          · replace hs := hs.altB 29 true (by kernel_rfl) h54
            refine pures hs 4 [1, 33] [(1, .int .u64 x5), (33, .bool (!x6))] (by kernel_rfl) fun a hs => ?_
            rcases boolE (!x6) with h55 | h55
            · replace hs := hs.altB 33 true (by kernel_rfl) h55
              refine pures hs 4 [1, 26] [(1, .int .u64 x5), (26, .bool true)] (by kernel_rfl) fun a hs => ?_
              refine s_end ?_
              exact (hJ53 _ _).2 ⟨(hs.altB 26 (bif (x5 == 0) then ((!x6) || (x5 == 18446744073709551615)) else (x5 == 18446744073709551615)) (by kernel_rfl) (by rw [h54, h55] <;> rfl)).cast [1, 26] (by kernel_rfl), hw.pick [0] (by kernel_rfl)⟩
            · replace hs := hs.altB 33 false (by kernel_rfl) h55
              refine pures hs 4 [1, 26] [(1, .int .u64 x5), (26, .bool (x5 == 18446744073709551615))] (by kernel_rfl) fun a hs => ?_
              refine s_end ?_
              exact (hJ53 _ _).2 ⟨(hs.altB 26 (bif (x5 == 0) then ((!x6) || (x5 == 18446744073709551615)) else (x5 == 18446744073709551615)) (by kernel_rfl) (by rw [h54, h55] <;> rfl)).cast [1, 26] (by kernel_rfl), hw.pick [0] (by kernel_rfl)⟩
          · replace hs := hs.altB 29 false (by kernel_rfl) h54
            refine pures hs 8 [1, 26] [(1, .int .u64 x5), (26, .bool (x5 == 18446744073709551615))] (by kernel_rfl) fun a hs => ?_
            refine s_end ?_
            exact (hJ53 _ _).2 ⟨(hs.altB 26 (bif (x5 == 0) then ((!x6) || (x5 == 18446744073709551615)) else (x5 == 18446744073709551615)) (by kernel_rfl) (by rw [h54] <;> rfl)).cast [1, 26] (by kernel_rfl), hw.pick [0] (by kernel_rfl)⟩
        · intro a w hh
          obtain ⟨hs, hw⟩ := (hJ53 _ _).1 hh
          rcases ifbE hk with ⟨h56, hk⟩ | ⟨h56, hk⟩
          · refine c_cond1 hs (by kernel_rfl) (t := (bif (x5 == 0) then ((!x6) || (x5 == 18446744073709551615)) else (x5 == 18446744073709551615))) (by kernel_rfl) h56 ?_
            refine c_seq ?_
            refine c_region ?_
            refine pures hs 4 [6, 7, 8] [(6, .int .i64 9), (7, .int .u64 x5), (8, .bool false)] (by kernel_rfl) fun a hs => ?_
            refine s_end ?_
            refine wp_ret ?_
            obtain rfl := someE hk
            refine hQ _ _ (f_retN hs [.tmp 6, .tmp 7, .tmp 8] rfl [.int .i64 9, .int .u64 x5, .bool false] (by kernel_rfl) (by kernel_rfl) ⟨rfl, hw.pick [0] (by kernel_rfl)⟩)
          · refine c_cond0 hs (by kernel_rfl) (t := (bif (x5 == 0) then ((!x6) || (x5 == 18446744073709551615)) else (x5 == 18446744073709551615))) (by kernel_rfl) h56 ?_
            refine wp_skip ?_
            refine c_seq ?_
            refine c_region ?_
            refine pures hs 5 [6, 7, 8] [(6, .int .i64 0), (7, .int .u64 (IntKind.u64.wrap (x5 + 1))), (8, .bool true)] (by kernel_rfl) fun a hs => ?_
            refine s_end ?_
            refine wp_ret ?_
            obtain rfl := someE hk
            refine hQ _ _ (f_retN hs [.tmp 6, .tmp 7, .tmp 8] rfl [.int .i64 0, .int .u64 (IntKind.u64.wrap (x5 + 1)), .bool true] (by kernel_rfl) (by kernel_rfl) ⟨rfl, hw.pick [0] (by kernel_rfl)⟩)
def update_Runs_r3 : Option Bool :=
  some true
def update_Runs_l4 (x1 : List M34) (x7 : Int) : Nat → Int → Option (Sum Bool Unit)
  | 0, _ => none
  | j + 1, x168 =>
    if (decide (x168 < (x1.length : Int))) = true then (
      (ix x1 x168).bind fun x208 =>
      if ((x208.f0 == 0) || ((IntKind.u64.wrap (x208.f0 - 1)) != (IntKind.u64.wrap (x7 + (IntKind.u64.wrap (x168)))))) = true then some (.inl false)
      else update_Runs_l4 x1 x7 j (IntKind.i64.wrap (x168 + 1)))
    else some (.inr ())
def update_Runs (k : Nat) (x1 : List M34) (x7 : Int) : Option Bool :=
  (update_Runs_l4 x1 x7 k 0 : Option (Sum Bool Unit)).bind fun
    | .inl z => some z
    | .inr _ => update_Runs_r3
theorem update_Runs_s {k : Nat} {x1 : List M34} {x7 : Int} {p2 : Option Addr} {c3 : Nat} {d5 : Ch} {r : Bool} (hk : update_Runs k x1 x7 = some r) {g w : World} {F : Ch} {ih : IH} (h4 : RSl e34 ih d5 p2 c3 x1) (h6 : ∀ q ∈ d5, q ∈ F) (hw : St g w [F] ih) :
    CallsR Try.prog 16 #[.slice p2 x1.length c3, .int .u64 x7] w fun v w' => v = .bool r ∧ St g w' [F] ih := by
  refine f_in (vs := [.slice p2 x1.length c3, .int .u64 x7]) Try.func16 rfl 28 rfl (by kernel_rfl) [(0, .slice p2 x1.length c3), (1, .int .u64 x7)] (by kernel_rfl) fun a Qf hQ hQn hs => ?_
  refine c_seq ?_
  refine c_region ?_
  refine pures hs 1 [0, 1] [(0, .slice p2 x1.length c3), (1, .int .u64 x7)] (by kernel_rfl) fun a hs => ?_
  refine s_end ?_
  refine c_seq ?_
  refine c_seq ?_
  refine c_region ?_
  refine pures hs 3 [1, 7, 8, 9] [(1, .int .u64 x7), (7, .slice p2 x1.length c3), (8, .int .i64 (x1.length : Int)), (9, .int .i64 0)] (by kernel_rfl) fun a hs => ?_
  refine s_end ?_
  refine c_block ?_
  obtain ⟨y194, hx195, hk⟩ := bindE hk
  obtain ⟨J196, hJ196⟩ : ∃ J : Act → World → Prop, ∀ a w, J a w ↔ (update_Runs_r3 = some r ∧ Sees a 28 [] ∧ St g w [F] ih) := ⟨_, fun _ _ => Iff.rfl⟩
  obtain ⟨I197, hI197⟩ : ∃ J : Nat → Act → World → Prop, ∀ j a w, J j a w ↔ (∃ (x168 : Int), update_Runs_l4 x1 x7 j x168 = some y194 ∧ Sees a 28 [(1, .int .u64 x7), (7, .slice p2 x1.length c3), (8, .int .i64 (x1.length : Int)), (9, .int .i64 x168)] ∧ St g w [F] ih) := ⟨_, fun _ _ _ => Iff.rfl⟩
  refine c_exitJ 0 J196 ?_ ?_
  · refine c_loop I197 k ((hI197 _ _ _).2 ⟨0, hx195, hs.cast [1, 7, 8, 9] (by kernel_rfl), hw.pick [0] (by kernel_rfl)⟩) (fun a w h0 => ?_) fun j a w hh => ?_
    · obtain ⟨_, h, _⟩ := (hI197 _ _ _).1 h0
      cases h
    · obtain ⟨x168, hx195, hs, hw⟩ := (hI197 _ _ _).1 hh
      refine c_seq ?_
      refine c_region ?_
      refine pures hs 1 [1, 7, 8, 9, 10] [(1, .int .u64 x7), (7, .slice p2 x1.length c3), (8, .int .i64 (x1.length : Int)), (9, .int .i64 x168), (10, .bool (decide (x168 < (x1.length : Int))))] (by kernel_rfl) fun a hs => ?_
      refine s_end ?_
      refine c_seq ?_
      rcases ifbE hx195 with ⟨h198, hx195⟩ | ⟨h198, hx195⟩
      · refine c_cond1 hs (by kernel_rfl) (t := (decide (x168 < (x1.length : Int)))) (by kernel_rfl) h198 ?_
        refine wp_skip ?_
        refine c_seq ?_
        refine c_block ?_
        refine c_seq ?_
        refine c_region ?_
        refine pures hs 1 [1, 7, 8, 9, 11] [(1, .int .u64 x7), (7, .slice p2 x1.length c3), (8, .int .i64 (x1.length : Int)), (9, .int .i64 x168), (11, .int .i64 x168)] (by kernel_rfl) fun a hs => ?_
        obtain ⟨x208, h209, hx195⟩ := bindE hx195
        refine s_index hs h4 (by kernel_rfl) (by kernel_rfl) (k := .i64) (by kernel_rfl) 34 (by kernel_rfl) (by kernel_rfl) h209 fun a r210 cs henc at211 hs => ?_
        obtain ⟨p212, c213, rfl, h214⟩ := henc
        refine s_load hs (at211 _ (((hw.vw 0 rfl).sub h6).anti (Le.refl _))) 0 (by kernel_rfl) (by kernel_rfl) (v := .agg #[.int .u64 x208.f0, .int .i64 x208.f1, .int .u64 x208.f2, .int .i64 x208.f3, .int .u32 x208.f4, .int .u64 x208.f5, .slice p212 x208.f6.length c213]) (by kernel_rfl) fun a hs => ?_
        refine s_new hs hw [.int .u64 0, .int .i64 0, .int .u64 0, .int .i64 0, .int .u32 0, .int .u64 0, .slice none 0 0] 34 (fun b => .pointer (some ⟨b, 0, none⟩)) (by kernel_rfl) (fun _ => by kernel_rfl) fun a w b215 hs hw => ?_
        refine pures hs 1 [1, 7, 8, 9, 13, 6, 5] [(1, .int .u64 x7), (7, .slice p2 x1.length c3), (8, .int .i64 (x1.length : Int)), (9, .int .i64 x168), (13, .agg #[.int .u64 x208.f0, .int .i64 x208.f1, .int .u64 x208.f2, .int .i64 x208.f3, .int .u32 x208.f4, .int .u64 x208.f5, .slice p212 x208.f6.length c213]), (6, .pointer (some ⟨b215, 0, none⟩)), (5, .int .i64 x168)] (by kernel_rfl) fun a hs => ?_
        refine s_store hs hw 0 rfl 0 (by kernel_rfl) (by kernel_rfl) (v := .agg #[.int .u64 x208.f0, .int .i64 x208.f1, .int .u64 x208.f2, .int .i64 x208.f3, .int .u32 x208.f4, .int .u64 x208.f5, .slice p212 x208.f6.length c213]) (by kernel_rfl) (by kernel_rfl) (by kernel_rfl) (by kernel_rfl) fun a w hs hw => ?_
        refine s_end ?_
        refine c_seq ?_
        obtain ⟨J220, hJ220⟩ : ∃ J : Act → World → Prop, ∀ a w, J a w ↔ (Sees a 28 [(1, .int .u64 x7), (7, .slice p2 x1.length c3), (8, .int .i64 (x1.length : Int)), (9, .int .i64 x168), (26, .bool ((x208.f0 == 0) || ((IntKind.u64.wrap (x208.f0 - 1)) != (IntKind.u64.wrap (x7 + (IntKind.u64.wrap (x168)))))))] ∧ St g w [F] ih) := ⟨_, fun _ _ => Iff.rfl⟩
        refine c_regJ J220 ?_ ?_
        · refine pures hs 1 [1, 7, 8, 9, 6, 5, 14] [(1, .int .u64 x7), (7, .slice p2 x1.length c3), (8, .int .i64 (x1.length : Int)), (9, .int .i64 x168), (6, .pointer (some ⟨b215, 0, none⟩)), (5, .int .i64 x168), (14, .pointer (some ⟨b215, 0, none⟩))] (by kernel_rfl) fun a hs => ?_
          refine s_load hs (hw.at_ 0 rfl) 0 (by kernel_rfl) (by kernel_rfl) (v := .int .u64 x208.f0) (by kernel_rfl) fun a hs => ?_
          refine pures hs 2 [1, 7, 8, 9, 6, 5, 17] [(1, .int .u64 x7), (7, .slice p2 x1.length c3), (8, .int .i64 (x1.length : Int)), (9, .int .i64 x168), (6, .pointer (some ⟨b215, 0, none⟩)), (5, .int .i64 x168), (17, .bool (x208.f0 == 0))] (by kernel_rfl) fun a hs => ?_
          rcases boolE (x208.f0 == 0) with h221 | h221
          · replace hs := hs.altB 17 true (by kernel_rfl) h221
            refine pures hs 9 [1, 7, 8, 9, 26] [(1, .int .u64 x7), (7, .slice p2 x1.length c3), (8, .int .i64 (x1.length : Int)), (9, .int .i64 x168), (26, .bool true)] (by kernel_rfl) fun a hs => ?_
            refine s_end ?_
            exact (hJ220 _ _).2 ⟨(hs.altB 26 ((x208.f0 == 0) || ((IntKind.u64.wrap (x208.f0 - 1)) != (IntKind.u64.wrap (x7 + (IntKind.u64.wrap (x168)))))) (by kernel_rfl) (by rw [h221] <;> rfl)).cast [1, 7, 8, 9, 26] (by kernel_rfl), hw.pick [1] (by kernel_rfl)⟩
          · replace hs := hs.altB 17 false (by kernel_rfl) h221
            refine pures hs 1 [1, 7, 8, 9, 5, 17, 18] [(1, .int .u64 x7), (7, .slice p2 x1.length c3), (8, .int .i64 (x1.length : Int)), (9, .int .i64 x168), (5, .int .i64 x168), (17, .bool false), (18, .pointer (some ⟨b215, 0, none⟩))] (by kernel_rfl) fun a hs => ?_
            refine s_load hs (hw.at_ 0 rfl) 0 (by kernel_rfl) (by kernel_rfl) (v := .int .u64 x208.f0) (by kernel_rfl) fun a hs => ?_
            refine pures hs 7 [1, 7, 8, 9, 26] [(1, .int .u64 x7), (7, .slice p2 x1.length c3), (8, .int .i64 (x1.length : Int)), (9, .int .i64 x168), (26, .bool ((IntKind.u64.wrap (x208.f0 - 1)) != (IntKind.u64.wrap (x7 + (IntKind.u64.wrap (x168))))))] (by kernel_rfl) fun a hs => ?_
            refine s_end ?_
            exact (hJ220 _ _).2 ⟨(hs.altB 26 ((x208.f0 == 0) || ((IntKind.u64.wrap (x208.f0 - 1)) != (IntKind.u64.wrap (x7 + (IntKind.u64.wrap (x168)))))) (by kernel_rfl) (by rw [h221] <;> rfl)).cast [1, 7, 8, 9, 26] (by kernel_rfl), hw.pick [1] (by kernel_rfl)⟩
        · intro a w hh
          obtain ⟨hs, hw⟩ := (hJ220 _ _).1 hh
          rcases ifbE hx195 with ⟨h222, hx195⟩ | ⟨h222, hx195⟩
          · refine c_cond1 hs (by kernel_rfl) (t := ((x208.f0 == 0) || ((IntKind.u64.wrap (x208.f0 - 1)) != (IntKind.u64.wrap (x7 + (IntKind.u64.wrap (x168))))))) (by kernel_rfl) h222 ?_
            refine c_seq ?_
            refine c_region ?_
            refine pures hs 1 [4] [(4, .bool false)] (by kernel_rfl) fun a hs => ?_
            refine s_end ?_
            refine wp_ret ?_
            obtain rfl := someE hx195
            obtain rfl := someE hk
            refine hQ _ _ (f_ret1 hs rfl (v := .bool false) (by kernel_rfl) ⟨rfl, hw.pick [0] (by kernel_rfl)⟩)
          · refine c_cond0 hs (by kernel_rfl) (t := ((x208.f0 == 0) || ((IntKind.u64.wrap (x208.f0 - 1)) != (IntKind.u64.wrap (x7 + (IntKind.u64.wrap (x168))))))) (by kernel_rfl) h222 ?_
            refine wp_skip ?_
            refine c_region ?_
            refine pures hs 2 [1, 7, 8, 9] [(1, .int .u64 x7), (7, .slice p2 x1.length c3), (8, .int .i64 (x1.length : Int)), (9, .int .i64 (IntKind.i64.wrap (x168 + 1)))] (by kernel_rfl) fun a hs => ?_
            refine s_end ?_
            exact (hI197 _ _ _).2 ⟨(IntKind.i64.wrap (x168 + 1)), hx195, hs.cast [1, 7, 8, 9] (by kernel_rfl), hw.pick [0] (by kernel_rfl)⟩
      · refine c_cond0 hs (by kernel_rfl) (t := (decide (x168 < (x1.length : Int)))) (by kernel_rfl) h198 ?_
        refine wp_exit ?_
        obtain rfl := someE hx195
        exact (hJ196 _ _).2 ⟨hk, hs.cast [] (by kernel_rfl), hw.pick [0] (by kernel_rfl)⟩
  · intro a w hh
    obtain ⟨hk, hs, hw⟩ := (hJ196 _ _).1 hh
    refine c_seq ?_
    refine c_region ?_
    refine pures hs 1 [4] [(4, .bool true)] (by kernel_rfl) fun a hs => ?_
    refine s_end ?_
    refine wp_ret ?_
    obtain rfl := someE hk
    refine hQ _ _ (f_ret1 hs rfl (v := .bool true) (by kernel_rfl) ⟨rfl, hw.pick [0] (by kernel_rfl)⟩)
def catenarylaw17_awake_r2 (x41 : Bool) : Option Bool :=
  some x41
def catenarylaw17_awake (k : Nat) : Option Bool :=
  (update_Outcome (M34.mk 0 0 0 3 0 3 ([])) 4 true).bind fun y29 =>
  (if (y29.1 == 11) = true then (
      if (y29.2.1 == 4) = true then (
        if (!y29.2.2) = true then (
          (update_Runs k ([]) 9).bind fun y48 =>
          some y48)
        else some false)
      else some false)
    else some false : Option Bool).bind fun s50 => catenarylaw17_awake_r2 s50
theorem catenarylaw17_awake_s {k : Nat} {r : Bool} (hk : catenarylaw17_awake k = some r) {g w : World} {F : Ch} {ih : IH} (hw : St g w [F] ih) :
    CallsR Try.prog 14 #[] w fun v w' => v = .bool r ∧ St g w' [F] ih := by
  refine f_in (vs := []) Try.func14 rfl 23 rfl (by kernel_rfl) [] (by kernel_rfl) fun a Qf hQ hQn hs => ?_
  refine c_seq ?_
  refine c_region ?_
  refine pures hs 1 [] [] (by kernel_rfl) fun a hs => ?_
  refine s_end ?_
  refine c_seq ?_
  refine c_region ?_
  refine pures hs 1 [5] [(5, .agg #[.int .u64 0, .int .i64 0, .int .u64 0, .int .i64 3, .int .u32 0, .int .u64 3, .slice none 0 0])] (by kernel_rfl) fun a hs => ?_
  obtain ⟨y29, h30, hk⟩ := bindE hk
  refine s_call hs (by kernel_rfl) (by kernel_rfl) (update_Outcome_s h30 (RSl.nil _ _ _) ((hw.pick [0] (by kernel_rfl)).pack 0)) fun a w v hv hs => ?_
  obtain ⟨rfl, hw⟩ := hv
  replace hw := hw.unpack 0 rfl
  refine pures hs 7 [1, 2, 3] [(1, .int .i64 y29.1), (2, .int .u64 y29.2.1), (3, .bool y29.2.2)] (by kernel_rfl) fun a hs => ?_
  refine s_end ?_
  refine c_seq ?_
  obtain ⟨y42, hx43, hk⟩ := bindE hk
  obtain ⟨J44, hJ44⟩ : ∃ J : Act → World → Prop, ∀ a w, J a w ↔ (∃ (x41 : Bool), catenarylaw17_awake_r2 x41 = some r ∧ Sees a 23 [(0, .bool x41)] ∧ St g w [F] ih) := ⟨_, fun _ _ => Iff.rfl⟩
  refine c_regJ J44 ?_ ?_
  · refine pures hs 3 [2, 3, 12] [(2, .int .u64 y29.2.1), (3, .bool y29.2.2), (12, .bool (y29.1 == 11))] (by kernel_rfl) fun a hs => ?_
    rcases ifbE hx43 with ⟨h45, hx43⟩ | ⟨h45, hx43⟩
    · replace hs := hs.altB 12 true (by kernel_rfl) h45
      refine pures hs 4 [3, 16] [(3, .bool y29.2.2), (16, .bool (y29.2.1 == 4))] (by kernel_rfl) fun a hs => ?_
      rcases ifbE hx43 with ⟨h46, hx43⟩ | ⟨h46, hx43⟩
      · replace hs := hs.altB 16 true (by kernel_rfl) h46
        refine pures hs 4 [20] [(20, .bool (!y29.2.2))] (by kernel_rfl) fun a hs => ?_
        rcases ifbE hx43 with ⟨h47, hx43⟩ | ⟨h47, hx43⟩
        · replace hs := hs.altB 20 true (by kernel_rfl) h47
          obtain ⟨y48, h49, hx43⟩ := bindE hx43
          refine s_call hs (by kernel_rfl) (by kernel_rfl) (update_Runs_s h49 (RSl.nil _ _ _) (nilSub _) ((hw.pick [0] (by kernel_rfl)).pack 0)) fun a w v hv hs => ?_
          obtain ⟨rfl, hw⟩ := hv
          replace hw := hw.unpack 0 rfl
          refine pures hs 2 [0] [(0, .bool y48)] (by kernel_rfl) fun a hs => ?_
          refine s_end ?_
          obtain rfl := someE hx43
          exact (hJ44 _ _).2 ⟨y48, hk, hs.cast [0] (by kernel_rfl), hw.pick [0] (by kernel_rfl)⟩
        · replace hs := hs.altB 20 false (by kernel_rfl) h47
          refine pures hs 3 [0] [(0, .bool false)] (by kernel_rfl) fun a hs => ?_
          refine s_end ?_
          obtain rfl := someE hx43
          exact (hJ44 _ _).2 ⟨false, hk, hs.cast [0] (by kernel_rfl), hw.pick [0] (by kernel_rfl)⟩
      · replace hs := hs.altB 16 false (by kernel_rfl) h46
        refine pures hs 7 [0] [(0, .bool false)] (by kernel_rfl) fun a hs => ?_
        refine s_end ?_
        obtain rfl := someE hx43
        exact (hJ44 _ _).2 ⟨false, hk, hs.cast [0] (by kernel_rfl), hw.pick [0] (by kernel_rfl)⟩
    · replace hs := hs.altB 12 false (by kernel_rfl) h45
      refine pures hs 11 [0] [(0, .bool false)] (by kernel_rfl) fun a hs => ?_
      refine s_end ?_
      obtain rfl := someE hx43
      exact (hJ44 _ _).2 ⟨false, hk, hs.cast [0] (by kernel_rfl), hw.pick [0] (by kernel_rfl)⟩
  · intro a w hh
    obtain ⟨x41, hk, hs, hw⟩ := (hJ44 _ _).1 hh
    refine wp_ret ?_
    obtain rfl := someE hk
    refine hQ _ _ (f_ret1 hs rfl (v := .bool x41) (by kernel_rfl) ⟨rfl, hw.pick [0] (by kernel_rfl)⟩)
def update_Fits_1 (x1 : M34) (x7 : Int) : Option (Bool × Int) :=
  if ((x1.f0 == 0) || ((IntKind.u64.wrap (x1.f0 - 1)) != x7)) = true then some (false, x7)
  else some (true, x1.f0)
theorem update_Fits_1_s {x1 : M34} {x7 : Int} {p2 : Option Addr} {c3 : Nat} {b5 : Nat} {r : Bool × Int} (hk : update_Fits_1 x1 x7 = some r) {g w : World} {F : Ch} {ih : IH} (h4 : RSl e5 ih [] p2 c3 x1.f6) (hw : St g w [bx b5 [.int .u64 x7] 23, F] ih) :
    CallsR Try.prog 69 #[.agg #[.int .u64 x1.f0, .int .i64 x1.f1, .int .u64 x1.f2, .int .i64 x1.f3, .int .u32 x1.f4, .int .u64 x1.f5, .slice p2 x1.f6.length c3], .pointer (some ⟨b5, 0, none⟩)] w fun v w' => v = .bool r.1 ∧ St g w' [bx b5 [.int .u64 r.2] 23, F] ih := by
  refine f_in (vs := [.agg #[.int .u64 x1.f0, .int .i64 x1.f1, .int .u64 x1.f2, .int .i64 x1.f3, .int .u32 x1.f4, .int .u64 x1.f5, .slice p2 x1.f6.length c3], .pointer (some ⟨b5, 0, none⟩)]) Try.func69 rfl 16 rfl (by kernel_rfl) [(0, .agg #[.int .u64 x1.f0, .int .i64 x1.f1, .int .u64 x1.f2, .int .i64 x1.f3, .int .u32 x1.f4, .int .u64 x1.f5, .slice p2 x1.f6.length c3]), (1, .pointer (some ⟨b5, 0, none⟩))] (by kernel_rfl) fun a Qf hQ hQn hs => ?_
  refine c_seq ?_
  refine c_region ?_
  refine s_new hs hw [.int .u64 x1.f0, .int .i64 x1.f1, .int .u64 x1.f2, .int .i64 x1.f3, .int .u32 x1.f4, .int .u64 x1.f5, .slice p2 x1.f6.length c3] 34 (fun b => .pointer (some ⟨b, 0, none⟩)) (by kernel_rfl) (fun _ => by kernel_rfl) fun a w b22 hs hw => ?_
  refine pures hs 1 [1, 2] [(1, .pointer (some ⟨b5, 0, none⟩)), (2, .pointer (some ⟨b22, 0, none⟩))] (by kernel_rfl) fun a hs => ?_
  refine s_end ?_
  refine c_seq ?_
  refine c_seq ?_
  obtain ⟨J27, hJ27⟩ : ∃ J : Act → World → Prop, ∀ a w, J a w ↔ (Sees a 16 [(1, .pointer (some ⟨b5, 0, none⟩)), (2, .pointer (some ⟨b22, 0, none⟩)), (13, .bool ((x1.f0 == 0) || ((IntKind.u64.wrap (x1.f0 - 1)) != x7)))] ∧ St g w [bx b22 [.int .u64 x1.f0, .int .i64 x1.f1, .int .u64 x1.f2, .int .i64 x1.f3, .int .u32 x1.f4, .int .u64 x1.f5, .slice p2 x1.f6.length c3] 34, bx b5 [.int .u64 x7] 23, F] ih) := ⟨_, fun _ _ => Iff.rfl⟩
  refine c_regJ J27 ?_ ?_
  · refine pures hs 1 [1, 2, 4] [(1, .pointer (some ⟨b5, 0, none⟩)), (2, .pointer (some ⟨b22, 0, none⟩)), (4, .pointer (some ⟨b22, 0, none⟩))] (by kernel_rfl) fun a hs => ?_
    refine s_load hs (hw.at_ 0 rfl) 0 (by kernel_rfl) (by kernel_rfl) (v := .int .u64 x1.f0) (by kernel_rfl) fun a hs => ?_
    refine pures hs 2 [1, 2, 7] [(1, .pointer (some ⟨b5, 0, none⟩)), (2, .pointer (some ⟨b22, 0, none⟩)), (7, .bool (x1.f0 == 0))] (by kernel_rfl) fun a hs => ?_
    rcases boolE (x1.f0 == 0) with h28 | h28
    · replace hs := hs.altB 7 true (by kernel_rfl) h28
      refine pures hs 6 [1, 2, 13] [(1, .pointer (some ⟨b5, 0, none⟩)), (2, .pointer (some ⟨b22, 0, none⟩)), (13, .bool true)] (by kernel_rfl) fun a hs => ?_
      refine s_end ?_
      exact (hJ27 _ _).2 ⟨(hs.altB 13 ((x1.f0 == 0) || ((IntKind.u64.wrap (x1.f0 - 1)) != x7)) (by kernel_rfl) (by rw [h28] <;> rfl)).cast [1, 2, 13] (by kernel_rfl), hw.pick [0, 1, 2] (by kernel_rfl)⟩
    · replace hs := hs.altB 7 false (by kernel_rfl) h28
      refine pures hs 1 [1, 2, 7, 8] [(1, .pointer (some ⟨b5, 0, none⟩)), (2, .pointer (some ⟨b22, 0, none⟩)), (7, .bool false), (8, .pointer (some ⟨b22, 0, none⟩))] (by kernel_rfl) fun a hs => ?_
      refine s_load hs (hw.at_ 0 rfl) 0 (by kernel_rfl) (by kernel_rfl) (v := .int .u64 x1.f0) (by kernel_rfl) fun a hs => ?_
      refine pures hs 1 [1, 2, 7, 10] [(1, .pointer (some ⟨b5, 0, none⟩)), (2, .pointer (some ⟨b22, 0, none⟩)), (7, .bool false), (10, .int .u64 (IntKind.u64.wrap (x1.f0 - 1)))] (by kernel_rfl) fun a hs => ?_
      refine s_load hs (hw.at_ 1 rfl) 0 (by kernel_rfl) (by kernel_rfl) (v := .int .u64 x7) (by kernel_rfl) fun a hs => ?_
      refine pures hs 2 [1, 2, 13] [(1, .pointer (some ⟨b5, 0, none⟩)), (2, .pointer (some ⟨b22, 0, none⟩)), (13, .bool ((IntKind.u64.wrap (x1.f0 - 1)) != x7))] (by kernel_rfl) fun a hs => ?_
      refine s_end ?_
      exact (hJ27 _ _).2 ⟨(hs.altB 13 ((x1.f0 == 0) || ((IntKind.u64.wrap (x1.f0 - 1)) != x7)) (by kernel_rfl) (by rw [h28] <;> rfl)).cast [1, 2, 13] (by kernel_rfl), hw.pick [0, 1, 2] (by kernel_rfl)⟩
  · intro a w hh
    obtain ⟨hs, hw⟩ := (hJ27 _ _).1 hh
    rcases ifbE hk with ⟨h29, hk⟩ | ⟨h29, hk⟩
    · refine c_cond1 hs (by kernel_rfl) (t := ((x1.f0 == 0) || ((IntKind.u64.wrap (x1.f0 - 1)) != x7))) (by kernel_rfl) h29 ?_
      refine c_seq ?_
      refine c_region ?_
      refine pures hs 1 [3] [(3, .bool false)] (by kernel_rfl) fun a hs => ?_
      refine s_end ?_
      refine wp_ret ?_
      obtain rfl := someE hk
      refine hQ _ _ (f_ret1 hs rfl (v := .bool false) (by kernel_rfl) ⟨rfl, hw.pick [1, 2] (by kernel_rfl)⟩)
    · refine c_cond0 hs (by kernel_rfl) (t := ((x1.f0 == 0) || ((IntKind.u64.wrap (x1.f0 - 1)) != x7))) (by kernel_rfl) h29 ?_
      refine wp_skip ?_
      refine c_seq ?_
      refine c_region ?_
      refine pures hs 1 [1, 14] [(1, .pointer (some ⟨b5, 0, none⟩)), (14, .pointer (some ⟨b22, 0, none⟩))] (by kernel_rfl) fun a hs => ?_
      refine s_load hs (hw.at_ 0 rfl) 0 (by kernel_rfl) (by kernel_rfl) (v := .int .u64 x1.f0) (by kernel_rfl) fun a hs => ?_
      refine s_store hs hw 1 rfl 0 (by kernel_rfl) (by kernel_rfl) (v := .int .u64 x1.f0) (by kernel_rfl) (by kernel_rfl) (by kernel_rfl) (by kernel_rfl) fun a w hs hw => ?_
      refine s_end ?_
      refine c_seq ?_
      refine c_region ?_
      refine pures hs 1 [3] [(3, .bool true)] (by kernel_rfl) fun a hs => ?_
      refine s_end ?_
      refine wp_ret ?_
      obtain rfl := someE hk
      refine hQ _ _ (f_ret1 hs rfl (v := .bool true) (by kernel_rfl) ⟨rfl, hw.pick [1, 2] (by kernel_rfl)⟩)
def bytes_Clone (x1 : List Int) : Option (List Int) :=
  (app [] x1).bind fun x => some x
theorem bytes_Clone_s {x1 : List Int} {p2 : Option Addr} {c3 : Nat} {d5 : Ch} {r : List Int} (hk : bytes_Clone x1 = some r) {g w : World} {F : Ch} {ih : IH} (h4 : RSl e5 ih d5 p2 c3 x1) (h6 : ∀ q ∈ d5, q ∈ F) (hw : St g w [F] ih) :
    CallsR Try.prog 106 #[.slice p2 x1.length c3] w fun v w' => ∃ (p : Option Addr) (c : Nat) (d : Ch), v = .slice p r.length c ∧ St g w' [d, F] ih ∧ OSl e5 ih p c r d := by
  rcases p2 with _ | q
  · obtain ⟨_, rfl, rfl⟩ := h4
    replace hk : some [] = some r := hk
    refine f_in (vs := [.slice none 0 0]) Try.func106 rfl 8 rfl (by kernel_rfl) [(0, .slice none 0 0)] (by kernel_rfl) fun a Qf hQ hQn hs => ?_
    refine c_seq ?_
    refine c_region ?_
    refine pures hs 1 [0] [(0, .slice none 0 0)] (by kernel_rfl) fun a hs => ?_
    refine s_end ?_
    refine c_seq ?_
    refine c_seq ?_
    refine c_region ?_
    refine pures hs 2 [0, 4] [(0, .slice none 0 0), (4, .bool true)] (by kernel_rfl) fun a hs => ?_
    refine s_end ?_
    refine c_condT hs (by kernel_rfl) (by kernel_rfl) ?_
    refine c_seq ?_
    refine c_region ?_
    refine pures hs 1 [2] [(2, .slice none 0 0)] (by kernel_rfl) fun a hs => ?_
    refine s_end ?_
    refine wp_ret ?_
    replace hw := hw.nil
    obtain rfl := someE hk
    refine hQ _ _ (f_ret1 hs rfl (v := .slice none 0 0) (by kernel_rfl) ⟨none, 0, ([]), rfl, hw.pick [0, 1] (by kernel_rfl), (OSl.nil _ _)⟩)
  · refine f_in (vs := [.slice (some q) x1.length c3]) Try.func106 rfl 8 rfl (by kernel_rfl) [(0, .slice (some q) x1.length c3)] (by kernel_rfl) fun a Qf hQ hQn hs => ?_
    refine c_seq ?_
    refine c_region ?_
    refine pures hs 1 [0] [(0, .slice (some q) x1.length c3)] (by kernel_rfl) fun a hs => ?_
    refine s_end ?_
    refine c_seq ?_
    refine c_seq ?_
    refine c_region ?_
    refine pures hs 2 [0, 4] [(0, .slice (some q) x1.length c3), (4, .bool false)] (by kernel_rfl) fun a hs => ?_
    refine s_end ?_
    refine c_condF hs (by kernel_rfl) (by kernel_rfl) ?_
    refine wp_skip ?_
    refine c_seq ?_
    refine c_region ?_
    refine s_new hs hw [] 5 (fun b => .slice (some ⟨b, 0, none⟩) 0 0) (by kernel_rfl) (fun _ => by kernel_rfl) fun a w b18 hs hw => ?_
    refine pures hs 1 [5, 6] [(5, .slice (some ⟨b18, 0, none⟩) 0 0), (6, .slice (some q) x1.length c3)] (by kernel_rfl) fun a hs => ?_
    obtain ⟨x20, h21, hk⟩ := bindE hk
    refine s_appS hs hw (E := e5) appT32 0 rfl OSl.of0 (by kernel_rfl) (by kernel_rfl) (h4.mono (Le.refl _)) (((hw.vw 1 rfl).sub h6).anti (Le.refl _)) (by kernel_rfl) h21 fun a w p22 c23 d24 h25 hw hs => ?_
    refine pures hs 1 [2] [(2, .slice p22 x20.length c23)] (by kernel_rfl) fun a hs => ?_
    refine s_end ?_
    refine wp_ret ?_
    obtain rfl := someE hk
    refine hQ _ _ (f_ret1 hs rfl (v := .slice p22 x20.length c23) (by kernel_rfl) ⟨p22, c23, d24, rfl, hw.pick [0, 1] (by kernel_rfl), h25⟩)
def update_pick_r10 (x1014 : List M34) (x1020 : Int) : Option ((List M34) × Int) :=
  some (x1014, x1020)
def update_pick_r12 (rec_update_pick_l11 : (List M34) → Int → Int → Option ((List M34) × Int)) (x878 : Int) (x1087 : List M34) (x1093 : Int) : Option ((List M34) × Int) :=
  rec_update_pick_l11 x1087 (IntKind.i64.wrap (x878 + 1)) x1093
def update_pick_l11 (x1 : List M34) : Nat → (List M34) → Int → Int → Option ((List M34) × Int)
  | 0, _, _, _ => none
  | j + 1, x872, x878, x879 =>
    if (decide (x878 < (x1.length : Int))) = true then (
      ((ix x1 x878).bind fun x1106 =>
        (update_Fits_1 x1106 x879).bind fun y1117 =>
        if y1117.1 = true then (
          (bytes_Clone x1106.f6).bind fun y1127 =>
          (app x872 [(M34.mk x1106.f0 x1106.f1 x1106.f2 x1106.f3 x1106.f4 x1106.f5 y1127)]).bind fun x1150 =>
          some (x1150, y1117.2))
        else some (x872, y1117.2) : Option ((List M34) × Int)).bind fun s1156 => update_pick_r12 (update_pick_l11 x1 j) x878 s1156.1 s1156.2)
    else some (x872, x879)
def update_pick (k : Nat) (x1 : List M34) (x9 : Int) : Option ((List M34) × Int) :=
  (update_pick_l11 x1 k ([]) 0 x9 : Option ((List M34) × Int)).bind fun s1159 => update_pick_r10 s1159.1 s1159.2
theorem update_pick_s {k : Nat} {x1 : List M34} {x9 : Int} {p2 : Option Addr} {c3 : Nat} {d5 : Ch} {b7 : Nat} {r : (List M34) × Int} (hk : update_pick k x1 x9 = some r) {g w : World} {F : Ch} {ih : IH} (h4 : RSl e34 ih d5 p2 c3 x1) (h6 : ∀ q ∈ d5, q ∈ F) (hw : St g w [bx b7 [.int .u64 x9] 23, F] ih) :
    CallsR Try.prog 68 #[.slice p2 x1.length c3, .func (.func 69) #[] #[.pointer (some ⟨b7, 0, none⟩)]] w fun v w' => ∃ (ih' : IH) (p1160 : Option Addr) (c1161 : Nat) (d1162 : Ch), v = .slice p1160 r.1.length c1161 ∧ St g w' [d1162, bx b7 [.int .u64 r.2] 23, F] ih' ∧ Le ih ih' ∧ OSl e34 ih' p1160 c1161 r.1 d1162 := by
  refine f_in (vs := [.slice p2 x1.length c3, .func (.func 69) #[] #[.pointer (some ⟨b7, 0, none⟩)]]) Try.func68 rfl 27 rfl (by kernel_rfl) [(0, .slice p2 x1.length c3), (1, .func (.func 69) #[] #[.pointer (some ⟨b7, 0, none⟩)])] (by kernel_rfl) fun a Qf hQ hQn hs => ?_
  refine c_seq ?_
  refine c_region ?_
  refine pures hs 1 [0, 1] [(0, .slice p2 x1.length c3), (1, .func (.func 69) #[] #[.pointer (some ⟨b7, 0, none⟩)])] (by kernel_rfl) fun a hs => ?_
  refine s_end ?_
  refine c_seq ?_
  refine c_region ?_
  refine pures hs 1 [0, 1, 5] [(0, .slice p2 x1.length c3), (1, .func (.func 69) #[] #[.pointer (some ⟨b7, 0, none⟩)]), (5, .slice none 0 0)] (by kernel_rfl) fun a hs => ?_
  refine s_end ?_
  refine c_seq ?_
  refine c_seq ?_
  refine c_region ?_
  refine pures hs 3 [1, 5, 8, 9, 10] [(1, .func (.func 69) #[] #[.pointer (some ⟨b7, 0, none⟩)]), (5, .slice none 0 0), (8, .slice p2 x1.length c3), (9, .int .i64 (x1.length : Int)), (10, .int .i64 0)] (by kernel_rfl) fun a hs => ?_
  refine s_end ?_
  refine c_block ?_
  obtain ⟨y1021, hx1022, hk⟩ := bindE hk
  replace hw := hw.nil
  obtain ⟨J1023, hJ1023⟩ : ∃ J : Act → World → Prop, ∀ a w, J a w ↔ (∃ (x1014 : List M34) (x1020 : Int) (p1015 : Option Addr) (c1016 : Nat) (d1018 : Ch) (ih1012 : IH), update_pick_r10 x1014 x1020 = some r ∧ Sees a 27 [(5, .slice p1015 x1014.length c1016)] ∧ St g w [bx b7 [.int .u64 x1020] 23, d1018, F] ih1012 ∧ Le ih ih1012 ∧ OSl e34 ih1012 p1015 c1016 x1014 d1018) := ⟨_, fun _ _ => Iff.rfl⟩
  obtain ⟨I1024, hI1024⟩ : ∃ J : Nat → Act → World → Prop, ∀ j a w, J j a w ↔ (∃ (x872 : List M34) (x878 : Int) (x879 : Int) (p873 : Option Addr) (c874 : Nat) (d876 : Ch) (ih870 : IH), update_pick_l11 x1 j x872 x878 x879 = some y1021 ∧ Sees a 27 [(1, .func (.func 69) #[] #[.pointer (some ⟨b7, 0, none⟩)]), (5, .slice p873 x872.length c874), (8, .slice p2 x1.length c3), (9, .int .i64 (x1.length : Int)), (10, .int .i64 x878)] ∧ St g w [bx b7 [.int .u64 x879] 23, d876, F] ih870 ∧ Le ih ih870 ∧ OSl e34 ih870 p873 c874 x872 d876) := ⟨_, fun _ _ _ => Iff.rfl⟩
  refine c_exitJ 0 J1023 ?_ ?_
  · refine c_loop I1024 k ((hI1024 _ _ _).2 ⟨([]), 0, x9, none, 0, ([]), ih, hx1022, hs.cast [1, 5, 8, 9, 10] (by kernel_rfl), hw.pick [1, 0, 2] (by kernel_rfl), (Le.refl _), (OSl.nil _ _)⟩) (fun a w h0 => ?_) fun j a w hh => ?_
    · obtain ⟨_, _, _, _, _, _, _, h, _⟩ := (hI1024 _ _ _).1 h0
      cases h
    · obtain ⟨x872, x878, x879, p873, c874, d876, ih870, hx1022, hs, hw, hle871, h875⟩ := (hI1024 _ _ _).1 hh
      refine c_seq ?_
      refine c_region ?_
      refine pures hs 1 [1, 5, 8, 9, 10, 11] [(1, .func (.func 69) #[] #[.pointer (some ⟨b7, 0, none⟩)]), (5, .slice p873 x872.length c874), (8, .slice p2 x1.length c3), (9, .int .i64 (x1.length : Int)), (10, .int .i64 x878), (11, .bool (decide (x878 < (x1.length : Int))))] (by kernel_rfl) fun a hs => ?_
      refine s_end ?_
      refine c_seq ?_
      rcases ifbE hx1022 with ⟨h1025, hx1022⟩ | ⟨h1025, hx1022⟩
      · refine c_cond1 hs (by kernel_rfl) (t := (decide (x878 < (x1.length : Int)))) (by kernel_rfl) h1025 ?_
        refine wp_skip ?_
        obtain ⟨y1094, hx1095, hx1022⟩ := bindE hx1022
        obtain ⟨J1096, hJ1096⟩ : ∃ J : Act → World → Prop, ∀ a w, J a w ↔ (∃ (x1087 : List M34) (x1093 : Int) (p1088 : Option Addr) (c1089 : Nat) (d1091 : Ch) (ih1085 : IH), update_pick_r12 (update_pick_l11 x1 j) x878 x1087 x1093 = some y1021 ∧ Sees a 27 [(1, .func (.func 69) #[] #[.pointer (some ⟨b7, 0, none⟩)]), (8, .slice p2 x1.length c3), (9, .int .i64 (x1.length : Int)), (10, .int .i64 x878), (5, .slice p1088 x1087.length c1089)] ∧ St g w [bx b7 [.int .u64 x1093] 23, d1091, F] ih1085 ∧ Le ih870 ih1085 ∧ OSl e34 ih1085 p1088 c1089 x1087 d1091) := ⟨_, fun _ _ => Iff.rfl⟩
        refine c_seqJ J1096 ?_ ?_
        · refine c_block ?_
          refine c_seq ?_
          refine c_region ?_
          obtain ⟨x1106, h1107, hx1095⟩ := bindE hx1095
          refine s_index hs h4 (by kernel_rfl) (by kernel_rfl) (k := .i64) (by kernel_rfl) 34 (by kernel_rfl) (by kernel_rfl) h1107 fun a r1108 cs henc at1109 hs => ?_
          obtain ⟨p1110, c1111, rfl, h1112⟩ := henc
          refine s_load hs (at1109 _ (((hw.vw 2 rfl).sub h6).anti hle871)) 0 (by kernel_rfl) (by kernel_rfl) (v := .agg #[.int .u64 x1106.f0, .int .i64 x1106.f1, .int .u64 x1106.f2, .int .i64 x1106.f3, .int .u32 x1106.f4, .int .u64 x1106.f5, .slice p1110 x1106.f6.length c1111]) (by kernel_rfl) fun a hs => ?_
          refine s_new hs hw [.int .u64 0, .int .i64 0, .int .u64 0, .int .i64 0, .int .u32 0, .int .u64 0, .slice none 0 0] 34 (fun b => .pointer (some ⟨b, 0, none⟩)) (by kernel_rfl) (fun _ => by kernel_rfl) fun a w b1113 hs hw => ?_
          refine s_store hs hw 0 rfl 0 (by kernel_rfl) (by kernel_rfl) (v := .agg #[.int .u64 x1106.f0, .int .i64 x1106.f1, .int .u64 x1106.f2, .int .i64 x1106.f3, .int .u32 x1106.f4, .int .u64 x1106.f5, .slice p1110 x1106.f6.length c1111]) (by kernel_rfl) (by kernel_rfl) (by kernel_rfl) (by kernel_rfl) fun a w hs hw => ?_
          refine s_end ?_
          refine c_seq ?_
          refine c_region ?_
          refine pures hs 1 [1, 5, 8, 9, 10, 7, 14] [(1, .func (.func 69) #[] #[.pointer (some ⟨b7, 0, none⟩)]), (5, .slice p873 x872.length c874), (8, .slice p2 x1.length c3), (9, .int .i64 (x1.length : Int)), (10, .int .i64 x878), (7, .pointer (some ⟨b1113, 0, none⟩)), (14, .func (.func 69) #[] #[.pointer (some ⟨b7, 0, none⟩)])] (by kernel_rfl) fun a hs => ?_
          refine s_load hs (hw.at_ 0 rfl) 0 (by kernel_rfl) (by kernel_rfl) (v := .agg #[.int .u64 x1106.f0, .int .i64 x1106.f1, .int .u64 x1106.f2, .int .i64 x1106.f3, .int .u32 x1106.f4, .int .u64 x1106.f5, .slice p1110 x1106.f6.length c1111]) (by kernel_rfl) fun a hs => ?_
          obtain ⟨y1117, h1118, hx1095⟩ := bindE hx1095
          refine s_call hs (by kernel_rfl) (by kernel_rfl) (update_Fits_1_s h1118 (h1112.mono hle871) ((hw.pick [1, 0, 2, 3] (by kernel_rfl)).pack 1)) fun a w v hv hs => ?_
          obtain ⟨rfl, hw⟩ := hv
          replace hw := hw.unpack 1 rfl
          refine s_end ?_
          rcases ifbE hx1095 with ⟨h1119, hx1095⟩ | ⟨h1119, hx1095⟩
          · refine c_cond1 hs (by kernel_rfl) (t := y1117.1) (by kernel_rfl) h1119 ?_
            refine c_seq ?_
            refine c_region ?_
            refine pures hs 1 [1, 5, 8, 9, 10, 7, 17] [(1, .func (.func 69) #[] #[.pointer (some ⟨b7, 0, none⟩)]), (5, .slice p873 x872.length c874), (8, .slice p2 x1.length c3), (9, .int .i64 (x1.length : Int)), (10, .int .i64 x878), (7, .pointer (some ⟨b1113, 0, none⟩)), (17, .pointer (some ⟨b1113, 6, none⟩))] (by kernel_rfl) fun a hs => ?_
            refine s_load hs (hw.at_ 1 rfl) 6 (by kernel_rfl) (by kernel_rfl) (v := .slice p1110 x1106.f6.length c1111) (by kernel_rfl) fun a hs => ?_
            obtain ⟨y1127, h1128, hx1095⟩ := bindE hx1095
            refine s_call hs (by kernel_rfl) (by kernel_rfl) (bytes_Clone_s h1128 (h1112.mono hle871) (nilSub _) ((hw.pick [0, 1, 2, 3] (by kernel_rfl)).pack 0)) fun a w v hv hs => ?_
            obtain ⟨p1129, c1130, d1132, rfl, hw, h1131⟩ := hv
            replace hw := hw.unpack 1 rfl
            refine pures hs 1 [1, 5, 8, 9, 10, 7, 19, 20] [(1, .func (.func 69) #[] #[.pointer (some ⟨b7, 0, none⟩)]), (5, .slice p873 x872.length c874), (8, .slice p2 x1.length c3), (9, .int .i64 (x1.length : Int)), (10, .int .i64 x878), (7, .pointer (some ⟨b1113, 0, none⟩)), (19, .slice p1129 y1127.length c1130), (20, .pointer (some ⟨b1113, 6, none⟩))] (by kernel_rfl) fun a hs => ?_
            refine s_store hs hw 2 rfl 6 (by kernel_rfl) (by kernel_rfl) (v := .slice p1129 y1127.length c1130) (by kernel_rfl) (by kernel_rfl) (by kernel_rfl) (by kernel_rfl) fun a w hs hw => ?_
            refine s_end ?_
            refine c_region ?_
            refine pures hs 1 [1, 8, 9, 10, 7, 21] [(1, .func (.func 69) #[] #[.pointer (some ⟨b7, 0, none⟩)]), (8, .slice p2 x1.length c3), (9, .int .i64 (x1.length : Int)), (10, .int .i64 x878), (7, .pointer (some ⟨b1113, 0, none⟩)), (21, .slice p873 x872.length c874)] (by kernel_rfl) fun a hs => ?_
            refine s_load hs (hw.at_ 2 rfl) 0 (by kernel_rfl) (by kernel_rfl) (v := .agg #[.int .u64 x1106.f0, .int .i64 x1106.f1, .int .u64 x1106.f2, .int .i64 x1106.f3, .int .u32 x1106.f4, .int .u64 x1106.f5, .slice p1129 y1127.length c1130]) (by kernel_rfl) fun a hs => ?_
            obtain ⟨ih1145, hle1146, hw, h1147⟩ := (hw.pick [0, 1, 2, 3, 4] (by kernel_rfl)).fz (h1131.mono (Le.refl _))
            refine s_new hs hw [.int .u64 x1106.f0, .int .i64 x1106.f1, .int .u64 x1106.f2, .int .i64 x1106.f3, .int .u32 x1106.f4, .int .u64 x1106.f5, .slice p1129 y1127.length c1130] 34 (fun b => .slice (some ⟨b, 0, none⟩) 1 1) (by kernel_rfl) (fun _ => by kernel_rfl) fun a w b1148 hs hw => ?_
            obtain ⟨x1150, h1151, hx1095⟩ := bindE hx1095
            refine s_app1 hs hw (E := e34) appT22 3 rfl (h875.mono hle1146) (by kernel_rfl) (by kernel_rfl) (c2 := 1) (by kernel_rfl) (hw.at_ 0 rfl) (z := (M34.mk x1106.f0 x1106.f1 x1106.f2 x1106.f3 x1106.f4 x1106.f5 y1127)) ⟨p1129, c1130, rfl, h1147⟩ h1151 fun a w p1152 c1153 d1154 h1155 hw hs => ?_
            refine pures hs 1 [1, 8, 9, 10, 5] [(1, .func (.func 69) #[] #[.pointer (some ⟨b7, 0, none⟩)]), (8, .slice p2 x1.length c3), (9, .int .i64 (x1.length : Int)), (10, .int .i64 x878), (5, .slice p1152 x1150.length c1153)] (by kernel_rfl) fun a hs => ?_
            refine s_end ?_
            obtain rfl := someE hx1095
            exact (hJ1096 _ _).2 ⟨x1150, y1117.2, p1152, c1153, d1154, ih1145, hx1022, hs.cast [1, 8, 9, 10, 5] (by kernel_rfl), hw.pick [1, 3, 4] (by kernel_rfl), hle1146, h1155⟩
          · refine c_cond0 hs (by kernel_rfl) (t := y1117.1) (by kernel_rfl) h1119 ?_
            refine wp_skip ?_
            obtain rfl := someE hx1095
            exact (hJ1096 _ _).2 ⟨x872, y1117.2, p873, c874, d876, ih870, hx1022, hs.cast [1, 8, 9, 10, 5] (by kernel_rfl), hw.pick [0, 2, 3] (by kernel_rfl), (Le.refl _), h875⟩
        · intro a w hh
          obtain ⟨x1087, x1093, p1088, c1089, d1091, ih1085, hx1022, hs, hw, hle1086, h1090⟩ := (hJ1096 _ _).1 hh
          refine c_region ?_
          refine pures hs 2 [1, 8, 9, 10, 5] [(1, .func (.func 69) #[] #[.pointer (some ⟨b7, 0, none⟩)]), (8, .slice p2 x1.length c3), (9, .int .i64 (x1.length : Int)), (10, .int .i64 (IntKind.i64.wrap (x878 + 1))), (5, .slice p1088 x1087.length c1089)] (by kernel_rfl) fun a hs => ?_
          refine s_end ?_
          exact (hI1024 _ _ _).2 ⟨x1087, (IntKind.i64.wrap (x878 + 1)), x1093, p1088, c1089, d1091, ih1085, hx1022, hs.cast [1, 5, 8, 9, 10] (by kernel_rfl), hw.pick [0, 1, 2] (by kernel_rfl), (hle871.trans hle1086), h1090⟩
      · refine c_cond0 hs (by kernel_rfl) (t := (decide (x878 < (x1.length : Int)))) (by kernel_rfl) h1025 ?_
        refine wp_exit ?_
        obtain rfl := someE hx1022
        exact (hJ1023 _ _).2 ⟨x872, x879, p873, c874, d876, ih870, hk, hs.cast [5] (by kernel_rfl), hw.pick [0, 1, 2] (by kernel_rfl), hle871, h875⟩
  · intro a w hh
    obtain ⟨x1014, x1020, p1015, c1016, d1018, ih1012, hk, hs, hw, hle1013, h1017⟩ := (hJ1023 _ _).1 hh
    refine c_seq ?_
    refine c_region ?_
    refine pures hs 2 [4] [(4, .slice p1015 x1014.length c1016)] (by kernel_rfl) fun a hs => ?_
    refine s_end ?_
    refine wp_ret ?_
    obtain rfl := someE hk
    refine hQ _ _ (f_ret1 hs rfl (v := .slice p1015 x1014.length c1016) (by kernel_rfl) ⟨ih1012, p1015, c1016, d1018, rfl, hw.pick [1, 0, 2] (by kernel_rfl), hle1013, h1017⟩)
def update_Fits (k : Nat) (x1 : List M34) (x7 : Int) : Option (List M34) :=
  (update_pick k x1 x7).bind fun y45 =>
  some y45.1
theorem update_Fits_s {k : Nat} {x1 : List M34} {x7 : Int} {p2 : Option Addr} {c3 : Nat} {d5 : Ch} {r : (List M34)} (hk : update_Fits k x1 x7 = some r) {g w : World} {F : Ch} {ih : IH} (h4 : RSl e34 ih d5 p2 c3 x1) (h6 : ∀ q ∈ d5, q ∈ F) (hw : St g w [F] ih) :
    CallsR Try.prog 15 #[.slice p2 x1.length c3, .int .u64 x7] w fun v w' => ∃ (ih' : IH) (p54 : Option Addr) (c55 : Nat) (d56 : Ch), v = .slice p54 r.length c55 ∧ St g w' [d56, F] ih' ∧ Le ih ih' ∧ OSl e34 ih' p54 c55 r d56 := by
  refine f_in (vs := [.slice p2 x1.length c3, .int .u64 x7]) Try.func15 rfl 8 rfl (by kernel_rfl) [(0, .slice p2 x1.length c3), (1, .int .u64 x7)] (by kernel_rfl) fun a Qf hQ hQn hs => ?_
  refine c_seq ?_
  refine c_region ?_
  refine s_new hs hw [.int .u64 x7] 23 (fun b => .pointer (some ⟨b, 0, none⟩)) (by kernel_rfl) (fun _ => by kernel_rfl) fun a w b34 hs hw => ?_
  refine pures hs 1 [0, 3] [(0, .slice p2 x1.length c3), (3, .pointer (some ⟨b34, 0, none⟩))] (by kernel_rfl) fun a hs => ?_
  refine s_end ?_
  refine c_seq ?_
  refine c_region ?_
  refine pures hs 2 [5, 6] [(5, .slice p2 x1.length c3), (6, .func (.func 69) #[] #[.pointer (some ⟨b34, 0, none⟩)])] (by kernel_rfl) fun a hs => ?_
  obtain ⟨y45, h46, hk⟩ := bindE hk
  refine s_call hs (by kernel_rfl) (by kernel_rfl) (update_pick_s h46 h4 (fun q hq => memF 0 rfl q (h6 q hq)) ((hw.pick [0, 1] (by kernel_rfl)).pack 1)) fun a w v hv hs => ?_
  obtain ⟨ih47, p49, c50, d52, rfl, hw, hle48, h51⟩ := hv
  replace hw := hw.unpack 2 rfl
  refine pures hs 1 [4] [(4, .slice p49 y45.1.length c50)] (by kernel_rfl) fun a hs => ?_
  refine s_end ?_
  refine wp_ret ?_
  obtain rfl := someE hk
  refine hQ _ _ (f_ret1 hs rfl (v := .slice p49 y45.1.length c50) (by kernel_rfl) ⟨ih47, p49, c50, d52, rfl, hw.pick [0, 2] (by kernel_rfl), hle48, h51⟩)
def catenarylaw17_UpdateFits_r5 (x180 : Bool) : Option Bool :=
  some x180
def catenarylaw17_UpdateFits_r6 (x200 : Bool) : Option Bool :=
  some x200
def catenarylaw17_UpdateFits_r7 (x220 : Bool) : Option Bool :=
  some x220
def catenarylaw17_UpdateFits_r8 (k : Nat) (x8 : Int) (x165 : Bool) : Option Bool :=
  if x165 = true then some false
  else (update_Outcome (M34.mk 0 0 0 2 0 0 ([])) x8 true).bind fun y169 =>
  if (y169.1 != 0) = true then (
    (if (!y169.2.2) = true then (
        if (y169.2.1 == x8) = true then (
          (catenarylaw17_awake k).bind fun y186 =>
          some y186)
        else some false)
      else some false : Option Bool).bind fun s188 => catenarylaw17_UpdateFits_r5 s188)
  else (update_Outcome (M34.mk 0 0 0 3 0 y169.2.1 ([])) y169.2.1 false).bind fun y191 =>
  if (y169.2.1 == 18446744073709551615) = true then (
    (if (y191.1 == 9) = true then (
        (catenarylaw17_awake k).bind fun y205 =>
        some y205)
      else some false : Option Bool).bind fun s207 => catenarylaw17_UpdateFits_r6 s207)
  else (if y169.2.2 = true then (
      if (y191.1 == 0) = true then (
        if y191.2.2 = true then (
          if (y191.2.1 == (IntKind.u64.wrap (y169.2.1 + 1))) = true then (
            (catenarylaw17_awake k).bind fun y228 =>
            some y228)
          else some false)
        else some false)
      else some false)
    else some false : Option Bool).bind fun s230 => catenarylaw17_UpdateFits_r7 s230
def catenarylaw17_UpdateFits (k : Nat) (x1 : List M34) (x7 : Int) (x8 : Int) : Option Bool :=
  (catenarylaw17_far k x1).bind fun y128 =>
  if y128 = true then (
    (catenarylaw17_awake k).bind fun y133 =>
    some y133)
  else (update_Fits k x1 x7).bind fun y144 =>
  ((update_Runs k y144 x7).bind fun y234 =>
    if (!y234) = true then some true
    else (update_Runs k x1 x7).bind fun y237 =>
    if y237 = true then some ((y144.length : Int) != (x1.length : Int))
    else some false : Option Bool).bind fun s240 => catenarylaw17_UpdateFits_r8 k x8 s240
theorem catenarylaw17_UpdateFits_s {k : Nat} {x1 : List M34} {x7 : Int} {x8 : Int} {p2 : Option Addr} {c3 : Nat} {d5 : Ch} {r : Bool} (hk : catenarylaw17_UpdateFits k x1 x7 x8 = some r) {g w : World} {F : Ch} {ih : IH} (h4 : RSl e34 ih d5 p2 c3 x1) (h6 : ∀ q ∈ d5, q ∈ F) (hw : St g w [F] ih) :
    CallsR Try.prog 3 #[.slice p2 x1.length c3, .int .u64 x7, .int .u64 x8] w fun v w' => ∃ (ih' : IH), v = .bool r ∧ St g w' [F] ih' ∧ Le ih ih' := by
  refine f_in (vs := [.slice p2 x1.length c3, .int .u64 x7, .int .u64 x8]) Try.func3 rfl 87 rfl (by kernel_rfl) [(0, .slice p2 x1.length c3), (1, .int .u64 x7), (2, .int .u64 x8)] (by kernel_rfl) fun a Qf hQ hQn hs => ?_
  refine c_seq ?_
  refine c_region ?_
  refine pures hs 1 [0, 1, 2] [(0, .slice p2 x1.length c3), (1, .int .u64 x7), (2, .int .u64 x8)] (by kernel_rfl) fun a hs => ?_
  refine s_end ?_
  refine c_seq ?_
  refine c_seq ?_
  refine c_region ?_
  refine pures hs 1 [0, 1, 2, 14] [(0, .slice p2 x1.length c3), (1, .int .u64 x7), (2, .int .u64 x8), (14, .slice p2 x1.length c3)] (by kernel_rfl) fun a hs => ?_
  obtain ⟨y128, h129, hk⟩ := bindE hk
  refine s_call hs (by kernel_rfl) (by kernel_rfl) (catenarylaw17_far_s h129 h4 (fun q hq => memF 0 rfl q (h6 q hq)) ((hw.pick [0] (by kernel_rfl)).pack 0)) fun a w v hv hs => ?_
  obtain ⟨rfl, hw⟩ := hv
  replace hw := hw.unpack 0 rfl
  refine s_end ?_
  rcases ifbE hk with ⟨h130, hk⟩ | ⟨h130, hk⟩
  · refine c_cond1 hs (by kernel_rfl) (t := y128) (by kernel_rfl) h130 ?_
    refine c_seq ?_
    refine c_region ?_
    obtain ⟨y133, h134, hk⟩ := bindE hk
    refine s_call hs (by kernel_rfl) (by kernel_rfl) (catenarylaw17_awake_s h134 ((hw.pick [0] (by kernel_rfl)).pack 0)) fun a w v hv hs => ?_
    obtain ⟨rfl, hw⟩ := hv
    replace hw := hw.unpack 0 rfl
    refine pures hs 1 [6] [(6, .bool y133)] (by kernel_rfl) fun a hs => ?_
    refine s_end ?_
    refine wp_ret ?_
    obtain rfl := someE hk
    refine hQ _ _ (f_ret1 hs rfl (v := .bool y133) (by kernel_rfl) ⟨ih, rfl, hw.pick [0] (by kernel_rfl), (Le.refl _)⟩)
  · refine c_cond0 hs (by kernel_rfl) (t := y128) (by kernel_rfl) h130 ?_
    refine wp_skip ?_
    refine c_seq ?_
    refine c_region ?_
    refine pures hs 2 [0, 1, 2, 17, 18] [(0, .slice p2 x1.length c3), (1, .int .u64 x7), (2, .int .u64 x8), (17, .slice p2 x1.length c3), (18, .int .u64 x7)] (by kernel_rfl) fun a hs => ?_
    obtain ⟨y144, h145, hk⟩ := bindE hk
    refine s_call hs (by kernel_rfl) (by kernel_rfl) (update_Fits_s h145 h4 (fun q hq => memF 0 rfl q (h6 q hq)) ((hw.pick [0] (by kernel_rfl)).pack 0)) fun a w v hv hs => ?_
    obtain ⟨ih146, p148, c149, d151, rfl, hw, hle147, h150⟩ := hv
    replace hw := hw.unpack 1 rfl
    refine pures hs 1 [0, 1, 2, 7] [(0, .slice p2 x1.length c3), (1, .int .u64 x7), (2, .int .u64 x8), (7, .slice p148 y144.length c149)] (by kernel_rfl) fun a hs => ?_
    refine s_end ?_
    refine c_seq ?_
    refine c_seq ?_
    obtain ⟨y231, hx232, hk⟩ := bindE hk
    obtain ⟨J233, hJ233⟩ : ∃ J : Act → World → Prop, ∀ a w, J a w ↔ (∃ (x165 : Bool), catenarylaw17_UpdateFits_r8 k x8 x165 = some r ∧ Sees a 87 [(2, .int .u64 x8), (35, .bool x165)] ∧ St g w [F] ih146) := ⟨_, fun _ _ => Iff.rfl⟩
    refine c_regJ J233 ?_ ?_
    · refine pures hs 2 [0, 1, 2, 7, 20, 21] [(0, .slice p2 x1.length c3), (1, .int .u64 x7), (2, .int .u64 x8), (7, .slice p148 y144.length c149), (20, .slice p148 y144.length c149), (21, .int .u64 x7)] (by kernel_rfl) fun a hs => ?_
      obtain ⟨y234, h235, hx232⟩ := bindE hx232
      refine s_call hs (by kernel_rfl) (by kernel_rfl) (update_Runs_s h235 h150.read (memF 0 rfl) ((hw.pick [0, 1] (by kernel_rfl)).pack 0)) fun a w v hv hs => ?_
      obtain ⟨rfl, hw⟩ := hv
      replace hw := hw.unpack 0 rfl
      refine pures hs 2 [0, 1, 2, 7, 24] [(0, .slice p2 x1.length c3), (1, .int .u64 x7), (2, .int .u64 x8), (7, .slice p148 y144.length c149), (24, .bool (!y234))] (by kernel_rfl) fun a hs => ?_
      rcases ifbE hx232 with ⟨h236, hx232⟩ | ⟨h236, hx232⟩
      · replace hs := hs.altB 24 true (by kernel_rfl) h236
        refine pures hs 11 [2, 35] [(2, .int .u64 x8), (35, .bool true)] (by kernel_rfl) fun a hs => ?_
        refine s_end ?_
        obtain rfl := someE hx232
        exact (hJ233 _ _).2 ⟨true, hk, hs.cast [2, 35] (by kernel_rfl), hw.pick [1] (by kernel_rfl)⟩
      · replace hs := hs.altB 24 false (by kernel_rfl) h236
        refine pures hs 2 [0, 2, 7, 24, 25, 26] [(0, .slice p2 x1.length c3), (2, .int .u64 x8), (7, .slice p148 y144.length c149), (24, .bool false), (25, .slice p2 x1.length c3), (26, .int .u64 x7)] (by kernel_rfl) fun a hs => ?_
        obtain ⟨y237, h238, hx232⟩ := bindE hx232
        refine s_call hs (by kernel_rfl) (by kernel_rfl) (update_Runs_s h238 (h4.mono hle147) (fun q hq => memF 1 rfl q (h6 q hq)) ((hw.pick [0, 1] (by kernel_rfl)).pack 0)) fun a w v hv hs => ?_
        obtain ⟨rfl, hw⟩ := hv
        replace hw := hw.unpack 0 rfl
        refine pures hs 1 [0, 2, 7, 24, 28] [(0, .slice p2 x1.length c3), (2, .int .u64 x8), (7, .slice p148 y144.length c149), (24, .bool false), (28, .bool y237)] (by kernel_rfl) fun a hs => ?_
        rcases ifbE hx232 with ⟨h239, hx232⟩ | ⟨h239, hx232⟩
        · replace hs := hs.altB 28 true (by kernel_rfl) h239
          refine pures hs 7 [2, 35] [(2, .int .u64 x8), (35, .bool ((y144.length : Int) != (x1.length : Int)))] (by kernel_rfl) fun a hs => ?_
          refine s_end ?_
          obtain rfl := someE hx232
          exact (hJ233 _ _).2 ⟨((y144.length : Int) != (x1.length : Int)), hk, hs.cast [2, 35] (by kernel_rfl), hw.pick [1] (by kernel_rfl)⟩
        · replace hs := hs.altB 28 false (by kernel_rfl) h239
          refine pures hs 7 [2, 35] [(2, .int .u64 x8), (35, .bool false)] (by kernel_rfl) fun a hs => ?_
          refine s_end ?_
          obtain rfl := someE hx232
          exact (hJ233 _ _).2 ⟨false, hk, hs.cast [2, 35] (by kernel_rfl), hw.pick [1] (by kernel_rfl)⟩
    · intro a w hh
      obtain ⟨x165, hk, hs, hw⟩ := (hJ233 _ _).1 hh
      rcases ifbE hk with ⟨h166, hk⟩ | ⟨h166, hk⟩
      · refine c_cond1 hs (by kernel_rfl) (t := x165) (by kernel_rfl) h166 ?_
        refine c_seq ?_
        refine c_region ?_
        refine pures hs 1 [6] [(6, .bool false)] (by kernel_rfl) fun a hs => ?_
        refine s_end ?_
        refine wp_ret ?_
        obtain rfl := someE hk
        refine hQ _ _ (f_ret1 hs rfl (v := .bool false) (by kernel_rfl) ⟨ih146, rfl, hw.pick [0] (by kernel_rfl), hle147⟩)
      · refine c_cond0 hs (by kernel_rfl) (t := x165) (by kernel_rfl) h166 ?_
        refine wp_skip ?_
        refine c_seq ?_
        refine c_region ?_
        refine pures hs 2 [2, 37, 38] [(2, .int .u64 x8), (37, .agg #[.int .u64 0, .int .i64 0, .int .u64 0, .int .i64 2, .int .u32 0, .int .u64 0, .slice none 0 0]), (38, .int .u64 x8)] (by kernel_rfl) fun a hs => ?_
        obtain ⟨y169, h170, hk⟩ := bindE hk
        refine s_call hs (by kernel_rfl) (by kernel_rfl) (update_Outcome_s h170 (RSl.nil _ _ _) ((hw.pick [0] (by kernel_rfl)).pack 0)) fun a w v hv hs => ?_
        obtain ⟨rfl, hw⟩ := hv
        replace hw := hw.unpack 0 rfl
        refine pures hs 7 [2, 8, 9, 10] [(2, .int .u64 x8), (8, .int .i64 y169.1), (9, .int .u64 y169.2.1), (10, .bool y169.2.2)] (by kernel_rfl) fun a hs => ?_
        refine s_end ?_
        refine c_seq ?_
        refine c_seq ?_
        refine c_region ?_
        refine pures hs 2 [2, 9, 10, 44] [(2, .int .u64 x8), (9, .int .u64 y169.2.1), (10, .bool y169.2.2), (44, .bool (y169.1 != 0))] (by kernel_rfl) fun a hs => ?_
        refine s_end ?_
        rcases ifbE hk with ⟨h171, hk⟩ | ⟨h171, hk⟩
        · refine c_cond1 hs (by kernel_rfl) (t := (y169.1 != 0)) (by kernel_rfl) h171 ?_
          refine c_seq ?_
          obtain ⟨y181, hx182, hk⟩ := bindE hk
          obtain ⟨J183, hJ183⟩ : ∃ J : Act → World → Prop, ∀ a w, J a w ↔ (∃ (x180 : Bool), catenarylaw17_UpdateFits_r5 x180 = some r ∧ Sees a 87 [(6, .bool x180)] ∧ St g w [F] ih146) := ⟨_, fun _ _ => Iff.rfl⟩
          refine c_regJ J183 ?_ ?_
          · refine pures hs 3 [2, 9, 47] [(2, .int .u64 x8), (9, .int .u64 y169.2.1), (47, .bool (!y169.2.2))] (by kernel_rfl) fun a hs => ?_
            rcases ifbE hx182 with ⟨h184, hx182⟩ | ⟨h184, hx182⟩
            · replace hs := hs.altB 47 true (by kernel_rfl) h184
              refine pures hs 5 [52] [(52, .bool (y169.2.1 == x8))] (by kernel_rfl) fun a hs => ?_
              rcases ifbE hx182 with ⟨h185, hx182⟩ | ⟨h185, hx182⟩
              · replace hs := hs.altB 52 true (by kernel_rfl) h185
                obtain ⟨y186, h187, hx182⟩ := bindE hx182
                refine s_call hs (by kernel_rfl) (by kernel_rfl) (catenarylaw17_awake_s h187 ((hw.pick [0] (by kernel_rfl)).pack 0)) fun a w v hv hs => ?_
                obtain ⟨rfl, hw⟩ := hv
                replace hw := hw.unpack 0 rfl
                refine pures hs 2 [6] [(6, .bool y186)] (by kernel_rfl) fun a hs => ?_
                refine s_end ?_
                obtain rfl := someE hx182
                exact (hJ183 _ _).2 ⟨y186, hk, hs.cast [6] (by kernel_rfl), hw.pick [0] (by kernel_rfl)⟩
              · replace hs := hs.altB 52 false (by kernel_rfl) h185
                refine pures hs 3 [6] [(6, .bool false)] (by kernel_rfl) fun a hs => ?_
                refine s_end ?_
                obtain rfl := someE hx182
                exact (hJ183 _ _).2 ⟨false, hk, hs.cast [6] (by kernel_rfl), hw.pick [0] (by kernel_rfl)⟩
            · replace hs := hs.altB 47 false (by kernel_rfl) h184
              refine pures hs 8 [6] [(6, .bool false)] (by kernel_rfl) fun a hs => ?_
              refine s_end ?_
              obtain rfl := someE hx182
              exact (hJ183 _ _).2 ⟨false, hk, hs.cast [6] (by kernel_rfl), hw.pick [0] (by kernel_rfl)⟩
          · intro a w hh
            obtain ⟨x180, hk, hs, hw⟩ := (hJ183 _ _).1 hh
            refine wp_ret ?_
            obtain rfl := someE hk
            refine hQ _ _ (f_ret1 hs rfl (v := .bool x180) (by kernel_rfl) ⟨ih146, rfl, hw.pick [0] (by kernel_rfl), hle147⟩)
        · refine c_cond0 hs (by kernel_rfl) (t := (y169.1 != 0)) (by kernel_rfl) h171 ?_
          refine wp_skip ?_
          refine c_seq ?_
          refine c_region ?_
          refine pures hs 3 [9, 10, 57, 58] [(9, .int .u64 y169.2.1), (10, .bool y169.2.2), (57, .agg #[.int .u64 0, .int .i64 0, .int .u64 0, .int .i64 3, .int .u32 0, .int .u64 y169.2.1, .slice none 0 0]), (58, .int .u64 y169.2.1)] (by kernel_rfl) fun a hs => ?_
          obtain ⟨y191, h192, hk⟩ := bindE hk
          refine s_call hs (by kernel_rfl) (by kernel_rfl) (update_Outcome_s h192 (RSl.nil _ _ _) ((hw.pick [0] (by kernel_rfl)).pack 0)) fun a w v hv hs => ?_
          obtain ⟨rfl, hw⟩ := hv
          replace hw := hw.unpack 0 rfl
          refine pures hs 7 [9, 10, 11, 12, 13] [(9, .int .u64 y169.2.1), (10, .bool y169.2.2), (11, .int .i64 y191.1), (12, .int .u64 y191.2.1), (13, .bool y191.2.2)] (by kernel_rfl) fun a hs => ?_
          refine s_end ?_
          refine c_seq ?_
          refine c_seq ?_
          refine c_region ?_
          refine pures hs 2 [9, 10, 11, 12, 13, 64] [(9, .int .u64 y169.2.1), (10, .bool y169.2.2), (11, .int .i64 y191.1), (12, .int .u64 y191.2.1), (13, .bool y191.2.2), (64, .bool (y169.2.1 == 18446744073709551615))] (by kernel_rfl) fun a hs => ?_
          refine s_end ?_
          rcases ifbE hk with ⟨h193, hk⟩ | ⟨h193, hk⟩
          · refine c_cond1 hs (by kernel_rfl) (t := (y169.2.1 == 18446744073709551615)) (by kernel_rfl) h193 ?_
            refine c_seq ?_
            obtain ⟨y201, hx202, hk⟩ := bindE hk
            obtain ⟨J203, hJ203⟩ : ∃ J : Act → World → Prop, ∀ a w, J a w ↔ (∃ (x200 : Bool), catenarylaw17_UpdateFits_r6 x200 = some r ∧ Sees a 87 [(6, .bool x200)] ∧ St g w [F] ih146) := ⟨_, fun _ _ => Iff.rfl⟩
            refine c_regJ J203 ?_ ?_
            · refine pures hs 3 [67] [(67, .bool (y191.1 == 9))] (by kernel_rfl) fun a hs => ?_
              rcases ifbE hx202 with ⟨h204, hx202⟩ | ⟨h204, hx202⟩
              · replace hs := hs.altB 67 true (by kernel_rfl) h204
                obtain ⟨y205, h206, hx202⟩ := bindE hx202
                refine s_call hs (by kernel_rfl) (by kernel_rfl) (catenarylaw17_awake_s h206 ((hw.pick [0] (by kernel_rfl)).pack 0)) fun a w v hv hs => ?_
                obtain ⟨rfl, hw⟩ := hv
                replace hw := hw.unpack 0 rfl
                refine pures hs 2 [6] [(6, .bool y205)] (by kernel_rfl) fun a hs => ?_
                refine s_end ?_
                obtain rfl := someE hx202
                exact (hJ203 _ _).2 ⟨y205, hk, hs.cast [6] (by kernel_rfl), hw.pick [0] (by kernel_rfl)⟩
              · replace hs := hs.altB 67 false (by kernel_rfl) h204
                refine pures hs 3 [6] [(6, .bool false)] (by kernel_rfl) fun a hs => ?_
                refine s_end ?_
                obtain rfl := someE hx202
                exact (hJ203 _ _).2 ⟨false, hk, hs.cast [6] (by kernel_rfl), hw.pick [0] (by kernel_rfl)⟩
            · intro a w hh
              obtain ⟨x200, hk, hs, hw⟩ := (hJ203 _ _).1 hh
              refine wp_ret ?_
              obtain rfl := someE hk
              refine hQ _ _ (f_ret1 hs rfl (v := .bool x200) (by kernel_rfl) ⟨ih146, rfl, hw.pick [0] (by kernel_rfl), hle147⟩)
          · refine c_cond0 hs (by kernel_rfl) (t := (y169.2.1 == 18446744073709551615)) (by kernel_rfl) h193 ?_
            refine wp_skip ?_
            refine c_seq ?_
            obtain ⟨y221, hx222, hk⟩ := bindE hk
            obtain ⟨J223, hJ223⟩ : ∃ J : Act → World → Prop, ∀ a w, J a w ↔ (∃ (x220 : Bool), catenarylaw17_UpdateFits_r7 x220 = some r ∧ Sees a 87 [(6, .bool x220)] ∧ St g w [F] ih146) := ⟨_, fun _ _ => Iff.rfl⟩
            refine c_regJ J223 ?_ ?_
            · refine pures hs 2 [9, 11, 12, 13, 71] [(9, .int .u64 y169.2.1), (11, .int .i64 y191.1), (12, .int .u64 y191.2.1), (13, .bool y191.2.2), (71, .bool y169.2.2)] (by kernel_rfl) fun a hs => ?_
              rcases ifbE hx222 with ⟨h224, hx222⟩ | ⟨h224, hx222⟩
              · replace hs := hs.altB 71 true (by kernel_rfl) h224
                refine pures hs 4 [9, 12, 13, 75] [(9, .int .u64 y169.2.1), (12, .int .u64 y191.2.1), (13, .bool y191.2.2), (75, .bool (y191.1 == 0))] (by kernel_rfl) fun a hs => ?_
                rcases ifbE hx222 with ⟨h225, hx222⟩ | ⟨h225, hx222⟩
                · replace hs := hs.altB 75 true (by kernel_rfl) h225
                  refine pures hs 3 [9, 12, 78] [(9, .int .u64 y169.2.1), (12, .int .u64 y191.2.1), (78, .bool y191.2.2)] (by kernel_rfl) fun a hs => ?_
                  rcases ifbE hx222 with ⟨h226, hx222⟩ | ⟨h226, hx222⟩
                  · replace hs := hs.altB 78 true (by kernel_rfl) h226
                    refine pures hs 6 [84] [(84, .bool (y191.2.1 == (IntKind.u64.wrap (y169.2.1 + 1))))] (by kernel_rfl) fun a hs => ?_
                    rcases ifbE hx222 with ⟨h227, hx222⟩ | ⟨h227, hx222⟩
                    · replace hs := hs.altB 84 true (by kernel_rfl) h227
                      obtain ⟨y228, h229, hx222⟩ := bindE hx222
                      refine s_call hs (by kernel_rfl) (by kernel_rfl) (catenarylaw17_awake_s h229 ((hw.pick [0] (by kernel_rfl)).pack 0)) fun a w v hv hs => ?_
                      obtain ⟨rfl, hw⟩ := hv
                      replace hw := hw.unpack 0 rfl
                      refine pures hs 2 [6] [(6, .bool y228)] (by kernel_rfl) fun a hs => ?_
                      refine s_end ?_
                      obtain rfl := someE hx222
                      exact (hJ223 _ _).2 ⟨y228, hk, hs.cast [6] (by kernel_rfl), hw.pick [0] (by kernel_rfl)⟩
                    · replace hs := hs.altB 84 false (by kernel_rfl) h227
                      refine pures hs 3 [6] [(6, .bool false)] (by kernel_rfl) fun a hs => ?_
                      refine s_end ?_
                      obtain rfl := someE hx222
                      exact (hJ223 _ _).2 ⟨false, hk, hs.cast [6] (by kernel_rfl), hw.pick [0] (by kernel_rfl)⟩
                  · replace hs := hs.altB 78 false (by kernel_rfl) h226
                    refine pures hs 9 [6] [(6, .bool false)] (by kernel_rfl) fun a hs => ?_
                    refine s_end ?_
                    obtain rfl := someE hx222
                    exact (hJ223 _ _).2 ⟨false, hk, hs.cast [6] (by kernel_rfl), hw.pick [0] (by kernel_rfl)⟩
                · replace hs := hs.altB 75 false (by kernel_rfl) h225
                  refine pures hs 12 [6] [(6, .bool false)] (by kernel_rfl) fun a hs => ?_
                  refine s_end ?_
                  obtain rfl := someE hx222
                  exact (hJ223 _ _).2 ⟨false, hk, hs.cast [6] (by kernel_rfl), hw.pick [0] (by kernel_rfl)⟩
              · replace hs := hs.altB 71 false (by kernel_rfl) h224
                refine pures hs 16 [6] [(6, .bool false)] (by kernel_rfl) fun a hs => ?_
                refine s_end ?_
                obtain rfl := someE hx222
                exact (hJ223 _ _).2 ⟨false, hk, hs.cast [6] (by kernel_rfl), hw.pick [0] (by kernel_rfl)⟩
            · intro a w hh
              obtain ⟨x220, hk, hs, hw⟩ := (hJ223 _ _).1 hh
              refine wp_ret ?_
              obtain rfl := someE hk
              refine hQ _ _ (f_ret1 hs rfl (v := .bool x220) (by kernel_rfl) ⟨ih146, rfl, hw.pick [0] (by kernel_rfl), hle147⟩)
end Go.Proofs.Ytfpppgbibgbllaa.Sx
