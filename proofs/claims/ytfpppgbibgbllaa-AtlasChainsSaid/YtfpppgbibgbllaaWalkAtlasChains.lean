/- The walk of AtlasChains: each Go function it calls, as a plain function, and the proof that the call computes it. Printed by the program gen.py.
   Conditions: those that each theorem states ahead of its colon, and no other. -/
import Derived.Test.YtfpppgbibgbllaaSx9
import Derived.Test.YtfpppgbibgbllaaProg
namespace Go.Proofs.Ytfpppgbibgbllaa.Sx
open Go Go.Proofs
set_option maxRecDepth 100000
set_option linter.unusedVariables false
@[reducible] def e3 : ET := eInt .i64 3
structure M53 where
  f0 : Int
  f1 : Int
  f2 : List Int
  f3 : Bool
  f4 : Int
@[reducible] def e53 : ET := ⟨M53, 5, 53, fun ih x cs => ∃ q0 k0, cs = [.int .i64 x.f0, .int .u64 x.f1, .slice q0 x.f2.length k0, .bool x.f3, .int .i64 x.f4] ∧ RSl e3 ih [] q0 k0 x.f2,
  fun ⟨_, _, h, g0⟩ => by rw [h]; rfl, fun ⟨_, _, h, g0⟩ => by rw [h]; rfl, fun ⟨p0, p1, h, g0⟩ hle => ⟨p0, p1, h, g0.mono hle⟩⟩
@[reducible] def e23 : ET := eInt .u64 23
@[reducible] def e40 : ET := eSl 40 e3
@[reducible] def e4 : ET := eBool 4
theorem appT40 : AppT Try.prog 40 e3 := appT_of (by kernel_rfl)
theorem appT79 : AppT Try.prog 79 e53 := appT_of (by kernel_rfl)
def atlas_Chain (x1 : Int) (x2 : Int) : Option Int :=
  if (decide (x2 < 1)) = true then some 0
  else if (x2 == 0) = true then none
  else some ((IntKind.i64.wrap ((IntKind.u32.wrap (x1 * 2654435761)).fdiv (2 ^ 16))).tmod x2)
theorem atlas_Chain_s {x1 : Int} {x2 : Int} {r : Int} (hk : atlas_Chain x1 x2 = some r) {g w : World} {F : Ch} {ih : IH} (hw : St g w [F] ih) :
    CallsR Try.prog 47 #[.int .u32 x1, .int .i64 x2] w fun v w' => v = .int .i64 r ∧ St g w' [F] ih := by
  refine f_in (vs := [.int .u32 x1, .int .i64 x2]) Try.func47 rfl 13 rfl (by kernel_rfl) [(0, .int .u32 x1), (1, .int .i64 x2)] (by kernel_rfl) fun a Qf hQ hQn hs => ?_
  refine c_seq ?_
  refine c_region ?_
  refine pures hs 1 [0, 1] [(0, .int .u32 x1), (1, .int .i64 x2)] (by kernel_rfl) fun a hs => ?_
  refine s_end ?_
  refine c_seq ?_
  refine c_seq ?_
  refine c_region ?_
  refine pures hs 2 [0, 1, 6] [(0, .int .u32 x1), (1, .int .i64 x2), (6, .bool (decide (x2 < 1)))] (by kernel_rfl) fun a hs => ?_
  refine s_end ?_
  rcases ifbE hk with ⟨h8, hk⟩ | ⟨h8, hk⟩
  · refine c_cond1 hs (by kernel_rfl) (t := (decide (x2 < 1))) (by kernel_rfl) h8 ?_
    refine c_seq ?_
    refine c_region ?_
    refine pures hs 1 [4] [(4, .int .i64 0)] (by kernel_rfl) fun a hs => ?_
    refine s_end ?_
    refine wp_ret ?_
    obtain rfl := someE hk
    refine hQ _ _ (f_ret1 hs rfl (v := .int .i64 0) (by kernel_rfl) ⟨rfl, hw.pick [0] (by kernel_rfl)⟩)
  · refine c_cond0 hs (by kernel_rfl) (t := (decide (x2 < 1))) (by kernel_rfl) h8 ?_
    refine wp_skip ?_
    refine c_seq ?_
    refine c_region ?_
    refine pures hs 5 [10, 11] [(10, .int .i64 (IntKind.i64.wrap ((IntKind.u32.wrap (x1 * 2654435761)).fdiv (2 ^ 16)))), (11, .int .i64 x2)] (by kernel_rfl) fun a hs => ?_
    rcases ifbE hk with ⟨h10, hk⟩ | ⟨h10, hk⟩
    · cases hk
    · refine s_rem hs (by kernel_rfl) .i64 (i := IntKind.i64.wrap ((IntKind.u32.wrap (x1 * 2654435761)).fdiv (2 ^ 16))) (j := x2) (by kernel_rfl) (by kernel_rfl) (by simpa using h10) fun a hs => ?_
      refine pures hs 1 [4] [(4, .int .i64 ((IntKind.i64.wrap ((IntKind.u32.wrap (x1 * 2654435761)).fdiv (2 ^ 16))).tmod x2))] (by kernel_rfl) fun a hs => ?_
      refine s_end ?_
      refine wp_ret ?_
      obtain rfl := someE hk
      refine hQ _ _ (f_ret1 hs rfl (v := .int .i64 ((IntKind.i64.wrap ((IntKind.u32.wrap (x1 * 2654435761)).fdiv (2 ^ 16))).tmod x2)) (by kernel_rfl) ⟨rfl, hw.pick [0] (by kernel_rfl)⟩)
def catenaryref25_Chain (x1 : Int) (x2 : Int) : Option Int :=
  if (decide (x2 < 1)) = true then some 0
  else if ((IntKind.u64.wrap (x2)) == 0) = true then none
  else some (IntKind.i64.wrap ((IntKind.u64.wrap (((IntKind.u64.wrap ((IntKind.u64.wrap (x1)) * 2654435761)).tmod 4294967296).tdiv 65536)).tmod (IntKind.u64.wrap (x2))))
theorem catenaryref25_Chain_s {x1 : Int} {x2 : Int} {r : Int} (hk : catenaryref25_Chain x1 x2 = some r) {g w : World} {F : Ch} {ih : IH} (hw : St g w [F] ih) :
    CallsR Try.prog 48 #[.int .u32 x1, .int .i64 x2] w fun v w' => v = .int .i64 r ∧ St g w' [F] ih := by
  refine f_in (vs := [.int .u32 x1, .int .i64 x2]) Try.func48 rfl 18 rfl (by kernel_rfl) [(0, .int .u32 x1), (1, .int .i64 x2)] (by kernel_rfl) fun a Qf hQ hQn hs => ?_
  refine c_seq ?_
  refine c_region ?_
  refine pures hs 1 [0, 1] [(0, .int .u32 x1), (1, .int .i64 x2)] (by kernel_rfl) fun a hs => ?_
  refine s_end ?_
  refine c_seq ?_
  refine c_seq ?_
  refine c_region ?_
  refine pures hs 2 [0, 1, 7] [(0, .int .u32 x1), (1, .int .i64 x2), (7, .bool (decide (x2 < 1)))] (by kernel_rfl) fun a hs => ?_
  refine s_end ?_
  rcases ifbE hk with ⟨h8, hk⟩ | ⟨h8, hk⟩
  · refine c_cond1 hs (by kernel_rfl) (t := (decide (x2 < 1))) (by kernel_rfl) h8 ?_
    refine c_seq ?_
    refine c_region ?_
    refine pures hs 1 [4] [(4, .int .i64 0)] (by kernel_rfl) fun a hs => ?_
    refine s_end ?_
    refine wp_ret ?_
    obtain rfl := someE hk
    refine hQ _ _ (f_ret1 hs rfl (v := .int .i64 0) (by kernel_rfl) ⟨rfl, hw.pick [0] (by kernel_rfl)⟩)
  · refine c_cond0 hs (by kernel_rfl) (t := (decide (x2 < 1))) (by kernel_rfl) h8 ?_
    refine wp_skip ?_
    refine c_seq ?_
    refine c_region ?_
    refine pures hs 5 [1, 5] [(1, .int .i64 x2), (5, .int .u64 ((IntKind.u64.wrap ((IntKind.u64.wrap (x1)) * 2654435761)).tmod 4294967296))] (by kernel_rfl) fun a hs => ?_
    refine s_end ?_
    refine c_seq ?_
    refine c_region ?_
    refine pures hs 4 [13, 15] [(13, .int .u64 (IntKind.u64.wrap (((IntKind.u64.wrap ((IntKind.u64.wrap (x1)) * 2654435761)).tmod 4294967296).tdiv 65536))), (15, .int .u64 (IntKind.u64.wrap (x2)))] (by kernel_rfl) fun a hs => ?_
    rcases ifbE hk with ⟨h10, hk⟩ | ⟨h10, hk⟩
    · cases hk
    · refine s_rem hs (by kernel_rfl) .u64 (i := IntKind.u64.wrap (((IntKind.u64.wrap ((IntKind.u64.wrap (x1)) * 2654435761)).tmod 4294967296).tdiv 65536)) (j := IntKind.u64.wrap (x2)) (by kernel_rfl) (by kernel_rfl) (by simpa using h10) fun a hs => ?_
      refine pures hs 2 [4] [(4, .int .i64 (IntKind.i64.wrap ((IntKind.u64.wrap (((IntKind.u64.wrap ((IntKind.u64.wrap (x1)) * 2654435761)).tmod 4294967296).tdiv 65536)).tmod (IntKind.u64.wrap (x2)))))] (by kernel_rfl) fun a hs => ?_
      refine s_end ?_
      refine wp_ret ?_
      obtain rfl := someE hk
      refine hQ _ _ (f_ret1 hs rfl (v := .int .i64 (IntKind.i64.wrap ((IntKind.u64.wrap (((IntKind.u64.wrap ((IntKind.u64.wrap (x1)) * 2654435761)).tmod 4294967296).tdiv 65536)).tmod (IntKind.u64.wrap (x2))))) (by kernel_rfl) ⟨rfl, hw.pick [0] (by kernel_rfl)⟩)
def catenaryref09_Begin_r17 (x1001 : List M53) (x1007 : Int) : Option ((List M53) × Int) :=
  if (decide (x1007 > 24)) = true then some ([], 9)
  else some (x1001, 0)
def catenaryref09_Begin_r19 (rec_catenaryref09_Begin_l18 : (List M53) → Int → Int → Option ((List M53) × Int)) (x862 : List M53) (x869 : Int) (x1091 : Int) (x1092 : List Int) : Option ((List M53) × Int) :=
  (app x862 [(M53.mk x869 1 x1092 false 0)]).bind fun x1114 =>
  rec_catenaryref09_Begin_l18 x1114 x1091 (IntKind.i64.wrap (x869 + 1))
def catenaryref09_Begin_l20 (x2 : Int) : Nat → Int → Int → (List Int) → Option (Int × (List Int))
  | 0, _, _, _ => none
  | j + 1, x1066, x1067, x1068 =>
    if (decide (x1067 < x2)) = true then (
      (app x1068 [(IntKind.i64.wrap (x1066 + 1))]).bind fun x1135 =>
      catenaryref09_Begin_l20 x2 j (IntKind.i64.wrap (x1066 + 1)) (IntKind.i64.wrap (x1067 + 1)) x1135)
    else some (x1066, x1068)
def catenaryref09_Begin_l18 (k : Nat) (x1 : Int) (x2 : Int) : Nat → (List M53) → Int → Int → Option ((List M53) × Int)
  | 0, _, _, _ => none
  | j + 1, x862, x868, x869 =>
    if (decide (x869 < x1)) = true then (catenaryref09_Begin_l20 x2 k x868 0 ([]) : Option (Int × (List Int))).bind fun s1143 => catenaryref09_Begin_r19 (catenaryref09_Begin_l18 k x1 x2 j) x862 x869 s1143.1 s1143.2
    else some (x862, x868)
def catenaryref09_Begin (k : Nat) (x1 : Int) (x2 : Int) : Option ((List M53) × Int) :=
  if ((decide (x1 < 1)) || ((decide (x1 > 4)) || ((decide (x2 < 1)) || (decide (x2 > 5))))) = true then some ([], 1)
  else (catenaryref09_Begin_l18 k x1 x2 k ([]) 0 0 : Option ((List M53) × Int)).bind fun s1146 => catenaryref09_Begin_r17 s1146.1 s1146.2
theorem catenaryref09_Begin_s {k : Nat} {x1 : Int} {x2 : Int} {r : (List M53) × Int} (hk : catenaryref09_Begin k x1 x2 = some r) {g w : World} {F : Ch} {ih : IH} (hw : St g w [F] ih) :
    CallsR Try.prog 88 #[.int .i64 x1, .int .i64 x2] w fun v w' => ∃ (ih' : IH) (p1147 : Option Addr) (c1148 : Nat) (d1149 : Ch), v = .tuple #[.slice p1147 r.1.length c1148, .int .i64 r.2] ∧ St g w' [d1149, F] ih' ∧ Le ih ih' ∧ OSl e53 ih' p1147 c1148 r.1 d1149 := by
  refine f_in (vs := [.int .i64 x1, .int .i64 x2]) Try.func88 rfl 52 rfl (by kernel_rfl) [(0, .int .i64 x1), (1, .int .i64 x2)] (by kernel_rfl) fun a Qf hQ hQn hs => ?_
  refine c_seq ?_
  refine c_region ?_
  refine pures hs 2 [0, 1] [(0, .int .i64 x1), (1, .int .i64 x2)] (by kernel_rfl) fun a hs => ?_
  refine s_end ?_
  refine c_seq ?_
  refine c_seq ?_
  obtain ⟨J581, hJ581⟩ : ∃ J : Act → World → Prop, ∀ a w, J a w ↔ (Sees a 52 [(0, .int .i64 x1), (1, .int .i64 x2), (24, .bool ((decide (x1 < 1)) || ((decide (x1 > 4)) || ((decide (x2 < 1)) || (decide (x2 > 5))))))] ∧ St g w [F] ih) := ⟨_, fun _ _ => Iff.rfl⟩
  refine c_regJ J581 ?_ ?_
  · refine pures hs 3 [0, 1, 13] [(0, .int .i64 x1), (1, .int .i64 x2), (13, .bool (decide (x1 < 1)))] (by kernel_rfl) fun a hs => ?_
    rcases boolE (decide (x1 < 1)) with h582 | h582
    · replace hs := hs.altB 13 true (by kernel_rfl) h582
      refine pures hs 11 [0, 1, 24] [(0, .int .i64 x1), (1, .int .i64 x2), (24, .bool true)] (by kernel_rfl) fun a hs => ?_
      refine s_end ?_
      exact (hJ581 _ _).2 ⟨(hs.altB 24 ((decide (x1 < 1)) || ((decide (x1 > 4)) || ((decide (x2 < 1)) || (decide (x2 > 5))))) (by kernel_rfl) (by rw [h582] <;> rfl)).cast [0, 1, 24] (by kernel_rfl), hw.pick [0] (by kernel_rfl)⟩
    · replace hs := hs.altB 13 false (by kernel_rfl) h582
      refine pures hs 4 [0, 1, 17] [(0, .int .i64 x1), (1, .int .i64 x2), (17, .bool (decide (x1 > 4)))] (by kernel_rfl) fun a hs => ?_
      rcases boolE (decide (x1 > 4)) with h583 | h583
      · replace hs := hs.altB 17 true (by kernel_rfl) h583
        refine pures hs 7 [0, 1, 24] [(0, .int .i64 x1), (1, .int .i64 x2), (24, .bool true)] (by kernel_rfl) fun a hs => ?_
        refine s_end ?_
        exact (hJ581 _ _).2 ⟨(hs.altB 24 ((decide (x1 < 1)) || ((decide (x1 > 4)) || ((decide (x2 < 1)) || (decide (x2 > 5))))) (by kernel_rfl) (by rw [h582, h583] <;> rfl)).cast [0, 1, 24] (by kernel_rfl), hw.pick [0] (by kernel_rfl)⟩
      · replace hs := hs.altB 17 false (by kernel_rfl) h583
        refine pures hs 4 [0, 1, 21] [(0, .int .i64 x1), (1, .int .i64 x2), (21, .bool (decide (x2 < 1)))] (by kernel_rfl) fun a hs => ?_
        rcases boolE (decide (x2 < 1)) with h584 | h584
        · replace hs := hs.altB 21 true (by kernel_rfl) h584
          refine pures hs 3 [0, 1, 24] [(0, .int .i64 x1), (1, .int .i64 x2), (24, .bool true)] (by kernel_rfl) fun a hs => ?_
          refine s_end ?_
          exact (hJ581 _ _).2 ⟨(hs.altB 24 ((decide (x1 < 1)) || ((decide (x1 > 4)) || ((decide (x2 < 1)) || (decide (x2 > 5))))) (by kernel_rfl) (by rw [h582, h583, h584] <;> rfl)).cast [0, 1, 24] (by kernel_rfl), hw.pick [0] (by kernel_rfl)⟩
        · replace hs := hs.altB 21 false (by kernel_rfl) h584
          refine pures hs 3 [0, 1, 24] [(0, .int .i64 x1), (1, .int .i64 x2), (24, .bool (decide (x2 > 5)))] (by kernel_rfl) fun a hs => ?_
          refine s_end ?_
          exact (hJ581 _ _).2 ⟨(hs.altB 24 ((decide (x1 < 1)) || ((decide (x1 > 4)) || ((decide (x2 < 1)) || (decide (x2 > 5))))) (by kernel_rfl) (by rw [h582, h583, h584] <;> rfl)).cast [0, 1, 24] (by kernel_rfl), hw.pick [0] (by kernel_rfl)⟩
  · intro a w hh
    obtain ⟨hs, hw⟩ := (hJ581 _ _).1 hh
    rcases ifbE hk with ⟨h585, hk⟩ | ⟨h585, hk⟩
    · refine c_cond1 hs (by kernel_rfl) (t := ((decide (x1 < 1)) || ((decide (x1 > 4)) || ((decide (x2 < 1)) || (decide (x2 > 5)))))) (by kernel_rfl) h585 ?_
      refine c_seq ?_
      refine c_region ?_
      refine pures hs 2 [4, 5] [(4, .slice none 0 0), (5, .int .i64 1)] (by kernel_rfl) fun a hs => ?_
      refine s_end ?_
      refine wp_ret ?_
      replace hw := hw.nil
      obtain rfl := someE hk
      refine hQ _ _ (f_retN hs [.tmp 4, .tmp 5] rfl [.slice none 0 0, .int .i64 1] (by kernel_rfl) (by kernel_rfl) ⟨ih, none, 0, ([]), rfl, hw.pick [0, 1] (by kernel_rfl), (Le.refl _), (OSl.nil _ _)⟩)
    · refine c_cond0 hs (by kernel_rfl) (t := ((decide (x1 < 1)) || ((decide (x1 > 4)) || ((decide (x2 < 1)) || (decide (x2 > 5)))))) (by kernel_rfl) h585 ?_
      refine wp_skip ?_
      refine c_seq ?_
      refine c_region ?_
      refine pures hs 1 [0, 1, 6] [(0, .int .i64 x1), (1, .int .i64 x2), (6, .slice none 0 0)] (by kernel_rfl) fun a hs => ?_
      refine s_end ?_
      refine c_seq ?_
      refine c_region ?_
      refine pures hs 1 [0, 1, 6, 7] [(0, .int .i64 x1), (1, .int .i64 x2), (6, .slice none 0 0), (7, .int .i64 0)] (by kernel_rfl) fun a hs => ?_
      refine s_end ?_
      refine c_seq ?_
      refine c_seq ?_
      refine c_region ?_
      refine pures hs 1 [0, 1, 6, 7, 8] [(0, .int .i64 x1), (1, .int .i64 x2), (6, .slice none 0 0), (7, .int .i64 0), (8, .int .i64 0)] (by kernel_rfl) fun a hs => ?_
      refine s_end ?_
      refine c_block ?_
      obtain ⟨y1011, hx1012, hk⟩ := bindE hk
      replace hw := hw.nil
      obtain ⟨J1013, hJ1013⟩ : ∃ J : Act → World → Prop, ∀ a w, J a w ↔ (∃ (x1001 : List M53) (x1007 : Int) (p1002 : Option Addr) (c1003 : Nat) (d1005 : Ch) (ih999 : IH), catenaryref09_Begin_r17 x1001 x1007 = some r ∧ Sees a 52 [(6, .slice p1002 x1001.length c1003), (7, .int .i64 x1007)] ∧ St g w [d1005, F] ih999 ∧ Le ih ih999 ∧ OSl e53 ih999 p1002 c1003 x1001 d1005) := ⟨_, fun _ _ => Iff.rfl⟩
      obtain ⟨I1014, hI1014⟩ : ∃ J : Nat → Act → World → Prop, ∀ j a w, J j a w ↔ (∃ (x862 : List M53) (x868 : Int) (x869 : Int) (p863 : Option Addr) (c864 : Nat) (d866 : Ch) (ih860 : IH), catenaryref09_Begin_l18 k x1 x2 j x862 x868 x869 = some y1011 ∧ Sees a 52 [(0, .int .i64 x1), (1, .int .i64 x2), (6, .slice p863 x862.length c864), (7, .int .i64 x868), (8, .int .i64 x869)] ∧ St g w [d866, F] ih860 ∧ Le ih ih860 ∧ OSl e53 ih860 p863 c864 x862 d866) := ⟨_, fun _ _ _ => Iff.rfl⟩
      refine c_exitJ 0 J1013 ?_ ?_
      · refine c_loop I1014 k ((hI1014 _ _ _).2 ⟨([]), 0, 0, none, 0, ([]), ih, hx1012, hs.cast [0, 1, 6, 7, 8] (by kernel_rfl), hw.pick [0, 1] (by kernel_rfl), (Le.refl _), (OSl.nil _ _)⟩) (fun a w h0 => ?_) fun j a w hh => ?_
        · obtain ⟨_, _, _, _, _, _, _, h, _⟩ := (hI1014 _ _ _).1 h0
          cases h
        · obtain ⟨x862, x868, x869, p863, c864, d866, ih860, hx1012, hs, hw, hle861, h865⟩ := (hI1014 _ _ _).1 hh
          refine c_seq ?_
          refine c_seq ?_
          refine c_region ?_
          refine pures hs 3 [0, 1, 6, 7, 8, 27] [(0, .int .i64 x1), (1, .int .i64 x2), (6, .slice p863 x862.length c864), (7, .int .i64 x868), (8, .int .i64 x869), (27, .bool (decide (x869 < x1)))] (by kernel_rfl) fun a hs => ?_
          refine s_end ?_
          rcases ifbE hx1012 with ⟨h1015, hx1012⟩ | ⟨h1015, hx1012⟩
          · refine c_cond1 hs (by kernel_rfl) (t := (decide (x869 < x1))) (by kernel_rfl) h1015 ?_
            refine wp_skip ?_
            refine c_seq ?_
            refine c_block ?_
            refine c_seq ?_
            refine c_region ?_
            refine pures hs 2 [0, 1, 6, 7, 8, 31] [(0, .int .i64 x1), (1, .int .i64 x2), (6, .slice p863 x862.length c864), (7, .int .i64 x868), (8, .int .i64 x869), (31, .agg #[.int .i64 x869, .int .u64 1, .slice none 0 0, .bool false, .int .i64 0])] (by kernel_rfl) fun a hs => ?_
            refine s_new hs hw [.int .i64 0, .int .u64 0, .slice none 0 0, .bool false, .int .i64 0] 53 (fun b => .pointer (some ⟨b, 0, none⟩)) (by kernel_rfl) (fun _ => by kernel_rfl) fun a w b1018 hs hw => ?_
            refine s_store hs hw 0 rfl 0 (by kernel_rfl) (by kernel_rfl) (v := .agg #[.int .i64 x869, .int .u64 1, .slice none 0 0, .bool false, .int .i64 0]) (by kernel_rfl) (by kernel_rfl) (by kernel_rfl) (by kernel_rfl) fun a w hs hw => ?_
            refine s_end ?_
            refine c_seq ?_
            refine c_seq ?_
            refine c_region ?_
            refine pures hs 1 [0, 1, 6, 7, 8, 9, 10] [(0, .int .i64 x1), (1, .int .i64 x2), (6, .slice p863 x862.length c864), (7, .int .i64 x868), (8, .int .i64 x869), (9, .pointer (some ⟨b1018, 0, none⟩)), (10, .int .i64 0)] (by kernel_rfl) fun a hs => ?_
            refine s_end ?_
            refine c_block ?_
            obtain ⟨y1120, hx1121, hx1012⟩ := bindE hx1012
            replace hw := hw.nil
            obtain ⟨J1122, hJ1122⟩ : ∃ J : Act → World → Prop, ∀ a w, J a w ↔ (∃ (x1091 : Int) (x1092 : List Int) (p1093 : Option Addr) (c1094 : Nat) (d1096 : Ch), catenaryref09_Begin_r19 (catenaryref09_Begin_l18 k x1 x2 j) x862 x869 x1091 x1092 = some y1011 ∧ Sees a 52 [(0, .int .i64 x1), (1, .int .i64 x2), (6, .slice p863 x862.length c864), (7, .int .i64 x1091), (8, .int .i64 x869), (9, .pointer (some ⟨b1018, 0, none⟩))] ∧ St g w [bx b1018 [.int .i64 x869, .int .u64 1, .slice p1093 x1092.length c1094, .bool false, .int .i64 0] 53, d866, d1096, F] ih860 ∧ OSl e3 ih860 p1093 c1094 x1092 d1096) := ⟨_, fun _ _ => Iff.rfl⟩
            obtain ⟨I1123, hI1123⟩ : ∃ J : Nat → Act → World → Prop, ∀ j a w, J j a w ↔ (∃ (x1066 : Int) (x1067 : Int) (x1068 : List Int) (p1069 : Option Addr) (c1070 : Nat) (d1072 : Ch), catenaryref09_Begin_l20 x2 j x1066 x1067 x1068 = some y1120 ∧ Sees a 52 [(0, .int .i64 x1), (1, .int .i64 x2), (6, .slice p863 x862.length c864), (7, .int .i64 x1066), (8, .int .i64 x869), (9, .pointer (some ⟨b1018, 0, none⟩)), (10, .int .i64 x1067)] ∧ St g w [bx b1018 [.int .i64 x869, .int .u64 1, .slice p1069 x1068.length c1070, .bool false, .int .i64 0] 53, d866, d1072, F] ih860 ∧ OSl e3 ih860 p1069 c1070 x1068 d1072) := ⟨_, fun _ _ _ => Iff.rfl⟩
            refine c_exitJ 2 J1122 ?_ ?_
            · refine c_loop I1123 k ((hI1123 _ _ _).2 ⟨x868, 0, ([]), none, 0, ([]), hx1121, hs.cast [0, 1, 6, 7, 8, 9, 10] (by kernel_rfl), hw.pick [1, 2, 0, 3] (by kernel_rfl), (OSl.nil _ _)⟩) (fun a w h0 => ?_) fun j a w hh => ?_
              · obtain ⟨_, _, _, _, _, _, h, _⟩ := (hI1123 _ _ _).1 h0
                cases h
              · obtain ⟨x1066, x1067, x1068, p1069, c1070, d1072, hx1121, hs, hw, h1071⟩ := (hI1123 _ _ _).1 hh
                refine c_seq ?_
                refine c_seq ?_
                refine c_region ?_
                refine pures hs 3 [0, 1, 6, 7, 8, 9, 10, 34] [(0, .int .i64 x1), (1, .int .i64 x2), (6, .slice p863 x862.length c864), (7, .int .i64 x1066), (8, .int .i64 x869), (9, .pointer (some ⟨b1018, 0, none⟩)), (10, .int .i64 x1067), (34, .bool (decide (x1067 < x2)))] (by kernel_rfl) fun a hs => ?_
                refine s_end ?_
                rcases ifbE hx1121 with ⟨h1124, hx1121⟩ | ⟨h1124, hx1121⟩
                · refine c_cond1 hs (by kernel_rfl) (t := (decide (x1067 < x2))) (by kernel_rfl) h1124 ?_
                  refine wp_skip ?_
                  refine c_seq ?_
                  refine c_block ?_
                  refine c_seq ?_
                  refine c_region ?_
                  refine pures hs 3 [0, 1, 6, 7, 8, 9, 10] [(0, .int .i64 x1), (1, .int .i64 x2), (6, .slice p863 x862.length c864), (7, .int .i64 (IntKind.i64.wrap (x1066 + 1))), (8, .int .i64 x869), (9, .pointer (some ⟨b1018, 0, none⟩)), (10, .int .i64 x1067)] (by kernel_rfl) fun a hs => ?_
                  refine s_end ?_
                  refine c_region ?_
                  refine pures hs 1 [0, 1, 6, 7, 8, 9, 10, 39] [(0, .int .i64 x1), (1, .int .i64 x2), (6, .slice p863 x862.length c864), (7, .int .i64 (IntKind.i64.wrap (x1066 + 1))), (8, .int .i64 x869), (9, .pointer (some ⟨b1018, 0, none⟩)), (10, .int .i64 x1067), (39, .pointer (some ⟨b1018, 2, none⟩))] (by kernel_rfl) fun a hs => ?_
                  refine s_load hs (hw.at_ 0 rfl) 2 (by kernel_rfl) (by kernel_rfl) (v := .slice p1069 x1068.length c1070) (by kernel_rfl) fun a hs => ?_
                  refine pures hs 1 [0, 1, 6, 7, 8, 9, 10, 40, 41] [(0, .int .i64 x1), (1, .int .i64 x2), (6, .slice p863 x862.length c864), (7, .int .i64 (IntKind.i64.wrap (x1066 + 1))), (8, .int .i64 x869), (9, .pointer (some ⟨b1018, 0, none⟩)), (10, .int .i64 x1067), (40, .slice p1069 x1068.length c1070), (41, .int .i64 (IntKind.i64.wrap (x1066 + 1)))] (by kernel_rfl) fun a hs => ?_
                  refine s_new hs hw [.int .i64 (IntKind.i64.wrap (x1066 + 1))] 3 (fun b => .slice (some ⟨b, 0, none⟩) 1 1) (by kernel_rfl) (fun _ => by kernel_rfl) fun a w b1133 hs hw => ?_
                  obtain ⟨x1135, h1136, hx1121⟩ := bindE hx1121
                  refine s_app1 hs hw (E := e3) appT40 3 rfl h1071 (by kernel_rfl) (by kernel_rfl) (c2 := 1) (by kernel_rfl) (hw.at_ 0 rfl) (z := (IntKind.i64.wrap (x1066 + 1))) rfl h1136 fun a w p1137 c1138 d1139 h1140 hw hs => ?_
                  refine pures hs 1 [0, 1, 6, 7, 8, 9, 10, 43, 44] [(0, .int .i64 x1), (1, .int .i64 x2), (6, .slice p863 x862.length c864), (7, .int .i64 (IntKind.i64.wrap (x1066 + 1))), (8, .int .i64 x869), (9, .pointer (some ⟨b1018, 0, none⟩)), (10, .int .i64 x1067), (43, .slice p1137 x1135.length c1138), (44, .pointer (some ⟨b1018, 2, none⟩))] (by kernel_rfl) fun a hs => ?_
                  refine s_store hs hw 1 rfl 2 (by kernel_rfl) (by kernel_rfl) (v := .slice p1137 x1135.length c1138) (by kernel_rfl) (by kernel_rfl) (by kernel_rfl) (by kernel_rfl) fun a w hs hw => ?_
                  refine s_end ?_
                  refine c_region ?_
                  refine pures hs 3 [0, 1, 6, 7, 8, 9, 10] [(0, .int .i64 x1), (1, .int .i64 x2), (6, .slice p863 x862.length c864), (7, .int .i64 (IntKind.i64.wrap (x1066 + 1))), (8, .int .i64 x869), (9, .pointer (some ⟨b1018, 0, none⟩)), (10, .int .i64 (IntKind.i64.wrap (x1067 + 1)))] (by kernel_rfl) fun a hs => ?_
                  refine s_end ?_
                  exact (hI1123 _ _ _).2 ⟨(IntKind.i64.wrap (x1066 + 1)), (IntKind.i64.wrap (x1067 + 1)), x1135, p1137, c1138, d1139, hx1121, hs.cast [0, 1, 6, 7, 8, 9, 10] (by kernel_rfl), hw.pick [1, 2, 3, 4] (by kernel_rfl), h1140⟩
                · refine c_cond0 hs (by kernel_rfl) (t := (decide (x1067 < x2))) (by kernel_rfl) h1124 ?_
                  refine wp_exit ?_
                  obtain rfl := someE hx1121
                  exact (hJ1122 _ _).2 ⟨x1066, x1068, p1069, c1070, d1072, hx1012, hs.cast [0, 1, 6, 7, 8, 9] (by kernel_rfl), hw.pick [0, 1, 2, 3] (by kernel_rfl), h1071⟩
            · intro a w hh
              obtain ⟨x1091, x1092, p1093, c1094, d1096, hx1012, hs, hw, h1095⟩ := (hJ1122 _ _).1 hh
              refine c_region ?_
              refine pures hs 1 [0, 1, 7, 8, 9, 45] [(0, .int .i64 x1), (1, .int .i64 x2), (7, .int .i64 x1091), (8, .int .i64 x869), (9, .pointer (some ⟨b1018, 0, none⟩)), (45, .slice p863 x862.length c864)] (by kernel_rfl) fun a hs => ?_
              refine s_load hs (hw.at_ 0 rfl) 0 (by kernel_rfl) (by kernel_rfl) (v := .agg #[.int .i64 x869, .int .u64 1, .slice p1093 x1092.length c1094, .bool false, .int .i64 0]) (by kernel_rfl) fun a hs => ?_
              obtain ⟨ih1109, hle1110, hw, h1111⟩ := (hw.pick [2, 0, 1, 3] (by kernel_rfl)).fz (h1095.mono (Le.refl _))
              refine s_new hs hw [.int .i64 x869, .int .u64 1, .slice p1093 x1092.length c1094, .bool false, .int .i64 0] 53 (fun b => .slice (some ⟨b, 0, none⟩) 1 1) (by kernel_rfl) (fun _ => by kernel_rfl) fun a w b1112 hs hw => ?_
              obtain ⟨x1114, h1115, hx1012⟩ := bindE hx1012
              refine s_app1 hs hw (E := e53) appT79 2 rfl (h865.mono hle1110) (by kernel_rfl) (by kernel_rfl) (c2 := 1) (by kernel_rfl) (hw.at_ 0 rfl) (z := (M53.mk x869 1 x1092 false 0)) ⟨p1093, c1094, rfl, h1111⟩ h1115 fun a w p1116 c1117 d1118 h1119 hw hs => ?_
              refine pures hs 1 [0, 1, 7, 8, 6] [(0, .int .i64 x1), (1, .int .i64 x2), (7, .int .i64 x1091), (8, .int .i64 x869), (6, .slice p1116 x1114.length c1117)] (by kernel_rfl) fun a hs => ?_
              refine s_end ?_
              refine c_region ?_
              refine pures hs 3 [0, 1, 7, 8, 6] [(0, .int .i64 x1), (1, .int .i64 x2), (7, .int .i64 x1091), (8, .int .i64 (IntKind.i64.wrap (x869 + 1))), (6, .slice p1116 x1114.length c1117)] (by kernel_rfl) fun a hs => ?_
              refine s_end ?_
              exact (hI1014 _ _ _).2 ⟨x1114, x1091, (IntKind.i64.wrap (x869 + 1)), p1116, c1117, d1118, ih1109, hx1012, hs.cast [0, 1, 6, 7, 8] (by kernel_rfl), hw.pick [2, 3] (by kernel_rfl), (hle861.trans hle1110), h1119⟩
          · refine c_cond0 hs (by kernel_rfl) (t := (decide (x869 < x1))) (by kernel_rfl) h1015 ?_
            refine wp_exit ?_
            obtain rfl := someE hx1012
            exact (hJ1013 _ _).2 ⟨x862, x868, p863, c864, d866, ih860, hk, hs.cast [6, 7] (by kernel_rfl), hw.pick [0, 1] (by kernel_rfl), hle861, h865⟩
      · intro a w hh
        obtain ⟨x1001, x1007, p1002, c1003, d1005, ih999, hk, hs, hw, hle1000, h1004⟩ := (hJ1013 _ _).1 hh
        refine c_seq ?_
        refine c_seq ?_
        refine c_region ?_
        refine pures hs 2 [6, 50] [(6, .slice p1002 x1001.length c1003), (50, .bool (decide (x1007 > 24)))] (by kernel_rfl) fun a hs => ?_
        refine s_end ?_
        rcases ifbE hk with ⟨h1008, hk⟩ | ⟨h1008, hk⟩
        · refine c_cond1 hs (by kernel_rfl) (t := (decide (x1007 > 24))) (by kernel_rfl) h1008 ?_
          refine c_seq ?_
          refine c_region ?_
          refine pures hs 2 [4, 5] [(4, .slice none 0 0), (5, .int .i64 9)] (by kernel_rfl) fun a hs => ?_
          refine s_end ?_
          refine wp_ret ?_
          replace hw := hw.nil
          obtain rfl := someE hk
          refine hQ _ _ (f_retN hs [.tmp 4, .tmp 5] rfl [.slice none 0 0, .int .i64 9] (by kernel_rfl) (by kernel_rfl) ⟨ih999, none, 0, ([]), rfl, hw.pick [0, 2] (by kernel_rfl), hle1000, (OSl.nil _ _)⟩)
        · refine c_cond0 hs (by kernel_rfl) (t := (decide (x1007 > 24))) (by kernel_rfl) h1008 ?_
          refine wp_skip ?_
          refine c_seq ?_
          refine c_region ?_
          refine pures hs 3 [4, 5] [(4, .slice p1002 x1001.length c1003), (5, .int .i64 0)] (by kernel_rfl) fun a hs => ?_
          refine s_end ?_
          refine wp_ret ?_
          obtain rfl := someE hk
          refine hQ _ _ (f_retN hs [.tmp 4, .tmp 5] rfl [.slice p1002 x1001.length c1003, .int .i64 0] (by kernel_rfl) (by kernel_rfl) ⟨ih999, p1002, c1003, d1005, rfl, hw.pick [0, 1] (by kernel_rfl), hle1000, h1004⟩)
def slices_Clone_int_int (x1 : List Int) : Option (List Int) :=
  (app [] x1).bind fun x => some x
theorem slices_Clone_int_int_s {x1 : List Int} {p2 : Option Addr} {c3 : Nat} {d5 : Ch} {r : List Int} (hk : slices_Clone_int_int x1 = some r) {g w : World} {F : Ch} {ih : IH} (h4 : RSl e3 ih d5 p2 c3 x1) (h6 : ∀ q ∈ d5, q ∈ F) (hw : St g w [F] ih) :
    CallsR Try.prog 114 #[.slice p2 x1.length c3] w fun v w' => ∃ (p : Option Addr) (c : Nat) (d : Ch), v = .slice p r.length c ∧ St g w' [d, F] ih ∧ OSl e3 ih p c r d := by
  rcases p2 with _ | q
  · obtain ⟨_, rfl, rfl⟩ := h4
    replace hk : some [] = some r := hk
    refine f_in (vs := [.slice none 0 0]) Try.func114 rfl 8 rfl (by kernel_rfl) [(0, .slice none 0 0)] (by kernel_rfl) fun a Qf hQ hQn hs => ?_
    refine c_seq ?_
    refine c_region ?_
    refine pures hs 1 [0] [(0, .slice none 0 0)] (by kernel_rfl) fun a hs => ?_
    refine s_end ?_
    refine c_seq ?_
    refine c_seq ?_
    refine c_region ?_
    refine pures hs 2 [0, 4] [(0, .slice none 0 0), (4, .bool true)] (by kernel_rfl) fun a hs => ?_
    refine s_end ?_
    refine c_condT hs (by kernel_rfl) (by kernel_rfl) ?_
    refine c_seq ?_
    refine c_region ?_
    refine pures hs 1 [2] [(2, .slice none 0 0)] (by kernel_rfl) fun a hs => ?_
    refine s_end ?_
    refine wp_ret ?_
    replace hw := hw.nil
    obtain rfl := someE hk
    refine hQ _ _ (f_ret1 hs rfl (v := .slice none 0 0) (by kernel_rfl) ⟨none, 0, ([]), rfl, hw.pick [0, 1] (by kernel_rfl), (OSl.nil _ _)⟩)
  · refine f_in (vs := [.slice (some q) x1.length c3]) Try.func114 rfl 8 rfl (by kernel_rfl) [(0, .slice (some q) x1.length c3)] (by kernel_rfl) fun a Qf hQ hQn hs => ?_
    refine c_seq ?_
    refine c_region ?_
    refine pures hs 1 [0] [(0, .slice (some q) x1.length c3)] (by kernel_rfl) fun a hs => ?_
    refine s_end ?_
    refine c_seq ?_
    refine c_seq ?_
    refine c_region ?_
    refine pures hs 2 [0, 4] [(0, .slice (some q) x1.length c3), (4, .bool false)] (by kernel_rfl) fun a hs => ?_
    refine s_end ?_
    refine c_condF hs (by kernel_rfl) (by kernel_rfl) ?_
    refine wp_skip ?_
    refine c_seq ?_
    refine c_region ?_
    refine s_new hs hw [] 3 (fun b => .slice (some ⟨b, 0, none⟩) 0 0) (by kernel_rfl) (fun _ => by kernel_rfl) fun a w b18 hs hw => ?_
    refine pures hs 1 [5, 6] [(5, .slice (some ⟨b18, 0, none⟩) 0 0), (6, .slice (some q) x1.length c3)] (by kernel_rfl) fun a hs => ?_
    obtain ⟨x20, h21, hk⟩ := bindE hk
    refine s_appS hs hw (E := e3) appT40 0 rfl OSl.of0 (by kernel_rfl) (by kernel_rfl) (h4.mono (Le.refl _)) (((hw.vw 1 rfl).sub h6).anti (Le.refl _)) (by kernel_rfl) h21 fun a w p22 c23 d24 h25 hw hs => ?_
    refine pures hs 1 [2] [(2, .slice p22 x20.length c23)] (by kernel_rfl) fun a hs => ?_
    refine s_end ?_
    refine wp_ret ?_
    obtain rfl := someE hk
    refine hQ _ _ (f_ret1 hs rfl (v := .slice p22 x20.length c23) (by kernel_rfl) ⟨p22, c23, d24, rfl, hw.pick [0, 1] (by kernel_rfl), h25⟩)
def conf_everybody_r2 (x207 : List Int) : Option (List Int) :=
  some x207
def conf_everybody (x1 : M53) : Option (List Int) :=
  if (x1.f4 == 0) = true then (
    (slices_Clone_int_int x1.f2).bind fun y139 =>
    some y139)
  else ((slices_Clone_int_int x1.f2).bind fun y216 =>
    (app y216 [x1.f4]).bind fun x225 =>
    some x225 : Option (List Int)).bind fun s246 => conf_everybody_r2 s246
theorem conf_everybody_s {x1 : M53} {p2 : Option Addr} {c3 : Nat} {r : (List Int)} (hk : conf_everybody x1 = some r) {g w : World} {F : Ch} {ih : IH} (h4 : RSl e3 ih [] p2 c3 x1.f2) (hw : St g w [F] ih) :
    CallsR Try.prog 109 #[.agg #[.int .i64 x1.f0, .int .u64 x1.f1, .slice p2 x1.f2.length c3, .bool x1.f3, .int .i64 x1.f4]] w fun v w' => ∃ (p247 : Option Addr) (c248 : Nat) (d249 : Ch), v = .slice p247 r.length c248 ∧ St g w' [d249, F] ih ∧ OSl e3 ih p247 c248 r d249 := by
  refine f_in (vs := [.agg #[.int .i64 x1.f0, .int .u64 x1.f1, .slice p2 x1.f2.length c3, .bool x1.f3, .int .i64 x1.f4]]) Try.func109 rfl 16 rfl (by kernel_rfl) [(0, .agg #[.int .i64 x1.f0, .int .u64 x1.f1, .slice p2 x1.f2.length c3, .bool x1.f3, .int .i64 x1.f4])] (by kernel_rfl) fun a Qf hQ hQn hs => ?_
  refine c_seq ?_
  refine c_region ?_
  refine s_new hs hw [.int .i64 x1.f0, .int .u64 x1.f1, .slice p2 x1.f2.length c3, .bool x1.f3, .int .i64 x1.f4] 53 (fun b => .pointer (some ⟨b, 0, none⟩)) (by kernel_rfl) (fun _ => by kernel_rfl) fun a w b129 hs hw => ?_
  refine pures hs 1 [1] [(1, .pointer (some ⟨b129, 0, none⟩))] (by kernel_rfl) fun a hs => ?_
  refine s_end ?_
  refine c_seq ?_
  refine c_seq ?_
  refine c_region ?_
  refine pures hs 1 [1, 3] [(1, .pointer (some ⟨b129, 0, none⟩)), (3, .pointer (some ⟨b129, 4, none⟩))] (by kernel_rfl) fun a hs => ?_
  refine s_load hs (hw.at_ 0 rfl) 4 (by kernel_rfl) (by kernel_rfl) (v := .int .i64 x1.f4) (by kernel_rfl) fun a hs => ?_
  refine pures hs 1 [1, 5] [(1, .pointer (some ⟨b129, 0, none⟩)), (5, .bool (x1.f4 == 0))] (by kernel_rfl) fun a hs => ?_
  refine s_end ?_
  rcases ifbE hk with ⟨h131, hk⟩ | ⟨h131, hk⟩
  · refine c_cond1 hs (by kernel_rfl) (t := (x1.f4 == 0)) (by kernel_rfl) h131 ?_
    refine c_seq ?_
    refine c_region ?_
    refine pures hs 1 [6] [(6, .pointer (some ⟨b129, 2, none⟩))] (by kernel_rfl) fun a hs => ?_
    refine s_load hs (hw.at_ 0 rfl) 2 (by kernel_rfl) (by kernel_rfl) (v := .slice p2 x1.f2.length c3) (by kernel_rfl) fun a hs => ?_
    obtain ⟨y139, h140, hk⟩ := bindE hk
    refine s_call hs (by kernel_rfl) (by kernel_rfl) (slices_Clone_int_int_s h140 h4 (nilSub _) ((hw.pick [1] (by kernel_rfl)).pack 0)) fun a w v hv hs => ?_
    obtain ⟨p141, c142, d144, rfl, hw, h143⟩ := hv
    replace hw := hw.unpack 1 rfl
    refine pures hs 1 [2] [(2, .slice p141 y139.length c142)] (by kernel_rfl) fun a hs => ?_
    refine s_end ?_
    refine wp_ret ?_
    obtain rfl := someE hk
    refine hQ _ _ (f_ret1 hs rfl (v := .slice p141 y139.length c142) (by kernel_rfl) ⟨p141, c142, d144, rfl, hw.pick [0, 1] (by kernel_rfl), h143⟩)
  · refine c_cond0 hs (by kernel_rfl) (t := (x1.f4 == 0)) (by kernel_rfl) h131 ?_
    refine wp_skip ?_
    refine c_seq ?_
    obtain ⟨S146, hS146, kS146⟩ := mkSX (X := [([], bx b129 [.int .i64 x1.f0, .int .u64 x1.f1, .slice p2 x1.f2.length c3, .bool x1.f3, .int .i64 x1.f4] 53), ([], F)]) (ih := ih) (K := []) rfl
    obtain ⟨y213, hx214, hk⟩ := bindE hk
    obtain ⟨J215, hJ215⟩ : ∃ J : Act → World → Prop, ∀ a w, J a w ↔ (∃ (x207 : List Int) (p208 : Option Addr) (c209 : Nat) (d211 : Ch), conf_everybody_r2 x207 = some r ∧ Sees a 16 [(2, .slice p208 x207.length c209)] ∧ St g w [d211, F] ih ∧ OSl e3 ih p208 c209 x207 d211) := ⟨_, fun _ _ => Iff.rfl⟩
    refine c_draw (by kernel_rfl) (N := 8) rfl S146 J215 ?_ ?_
    · have hw := hw.drew
      have hS : S146 (Array.replicate 8 false) _ := SX_now hS146 (hw.vws [0, 1]) (by kernel_rfl)
      refine d_pures (fuel := 7) kS146 hs hS [0] [1, 9] [(1, .pointer (some ⟨b129, 0, none⟩)), (9, .pointer (some ⟨b129, 2, none⟩))] (by kernel_rfl) fun a hs hS => ?_
      refine d_load (fuel := 6) kS146 hs hS 1 rfl (by kernel_rfl) (SX_box hS146 0 rfl (by kernel_rfl)) 2 (by kernel_rfl) (by kernel_rfl) (v := .slice p2 x1.f2.length c3) (by kernel_rfl) fun a hs hS => ?_
      refine d_pures (fuel := 5) kS146 hs hS [3] [1, 9, 10, 12] [(1, .pointer (some ⟨b129, 0, none⟩)), (9, .pointer (some ⟨b129, 2, none⟩)), (10, .slice p2 x1.f2.length c3), (12, .pointer (some ⟨b129, 4, none⟩))] (by kernel_rfl) fun a hs hS => ?_
      refine d_load (fuel := 4) kS146 hs hS 4 rfl (by kernel_rfl) (SX_box hS146 0 rfl (by kernel_rfl)) 4 (by kernel_rfl) (by kernel_rfl) (v := .int .i64 x1.f4) (by kernel_rfl) fun a hs hS => ?_
      refine d_all (fuel := 3) (rs := [2, 5]) (by kernel_rfl) (by simp) (all2 ?_ (all1 ?_))
      · obtain ⟨y216, h217, hx214⟩ := bindE hx214
        refine o_call hs rfl (by kernel_rfl) (by kernel_rfl) (slices_Clone_int_int_s h217 h4 (nilSub _) ((hw.pick [0, 1] (by kernel_rfl)).pack 0)) fun a w v hv hs => ?_
        obtain ⟨p218, c219, d221, rfl, hw, h220⟩ := hv
        replace hw := hw.unpack 1 rfl
        refine dg_next (SX_now hS146 ((hw.vws [1, 2]).anti (Le.refl _)) (by kernel_rfl)) fun hS => ?_
        refine d_all (fuel := 2) (rs := [5]) (by kernel_rfl) (by simp) (all1 ?_)
        refine o_new hs rfl hw [.int .i64 x1.f4] 3 (fun b => .slice (some ⟨b, 0, none⟩) 1 1) (by kernel_rfl) (fun _ => by kernel_rfl) fun a w b223 hs hw => ?_
        refine dg_next (SX_now hS146 ((hw.vws [2, 3]).anti (Le.refl _)) (by kernel_rfl)) fun hS => ?_
        refine d_all (fuel := 1) (rs := [6]) (by kernel_rfl) (by simp) (all1 ?_)
        obtain ⟨x225, h226, hx214⟩ := bindE hx214
        refine o_app1 hs rfl hw (E := e3) appT40 1 rfl h220 (by kernel_rfl) (by kernel_rfl) (c2 := 1) (by kernel_rfl) (hw.at_ 0 rfl) (z := x1.f4) rfl h226 fun a w p227 c228 d229 h230 hw hs => ?_
        refine dg_next (SX_now hS146 ((hw.vws [2, 3]).anti (Le.refl _)) (by kernel_rfl)) fun hS => ?_
        refine d_pures (fuel := 0) kS146 hs hS [7] [1, 9, 10, 12, 13, 14, 15, 2] [(1, .pointer (some ⟨b129, 0, none⟩)), (9, .pointer (some ⟨b129, 2, none⟩)), (10, .slice p2 x1.f2.length c3), (12, .pointer (some ⟨b129, 4, none⟩)), (13, .int .i64 x1.f4), (14, .slice (some ⟨b223, 0, none⟩) 1 1), (15, .slice p227 x225.length c228), (2, .slice p227 x225.length c228)] (by kernel_rfl) fun a hs hS => ?_
        refine d_done (by kernel_rfl) ?_
        obtain rfl := someE hx214
        exact (hJ215 _ _).2 ⟨x225, p227, c228, d229, hk, hs.cast [2] (by kernel_rfl), hw.pick [1, 3] (by kernel_rfl), h230⟩
      · refine o_new hs rfl hw [.int .i64 x1.f4] 3 (fun b => .slice (some ⟨b, 0, none⟩) 1 1) (by kernel_rfl) (fun _ => by kernel_rfl) fun a w b231 hs hw => ?_
        refine dg_next (SX_now hS146 ((hw.vws [1, 2]).anti (Le.refl _)) (by kernel_rfl)) fun hS => ?_
        refine d_all (fuel := 2) (rs := [2]) (by kernel_rfl) (by simp) (all1 ?_)
        obtain ⟨y233, h234, hx214⟩ := bindE hx214
        refine o_call hs rfl (by kernel_rfl) (by kernel_rfl) (slices_Clone_int_int_s h234 h4 (nilSub _) ((hw.pick [0, 1, 2] (by kernel_rfl)).pack 0)) fun a w v hv hs => ?_
        obtain ⟨p235, c236, d238, rfl, hw, h237⟩ := hv
        replace hw := hw.unpack 1 rfl
        refine dg_next (SX_now hS146 ((hw.vws [2, 3]).anti (Le.refl _)) (by kernel_rfl)) fun hS => ?_
        refine d_all (fuel := 1) (rs := [6]) (by kernel_rfl) (by simp) (all1 ?_)
        obtain ⟨x240, h241, hx214⟩ := bindE hx214
        refine o_app1 hs rfl hw (E := e3) appT40 0 rfl h237 (by kernel_rfl) (by kernel_rfl) (c2 := 1) (by kernel_rfl) (hw.at_ 1 rfl) (z := x1.f4) rfl h241 fun a w p242 c243 d244 h245 hw hs => ?_
        refine dg_next (SX_now hS146 ((hw.vws [2, 3]).anti (Le.refl _)) (by kernel_rfl)) fun hS => ?_
        refine d_pures (fuel := 0) kS146 hs hS [7] [1, 9, 10, 12, 13, 14, 15, 2] [(1, .pointer (some ⟨b129, 0, none⟩)), (9, .pointer (some ⟨b129, 2, none⟩)), (10, .slice p2 x1.f2.length c3), (12, .pointer (some ⟨b129, 4, none⟩)), (13, .int .i64 x1.f4), (14, .slice (some ⟨b231, 0, none⟩) 1 1), (15, .slice p242 x240.length c243), (2, .slice p242 x240.length c243)] (by kernel_rfl) fun a hs hS => ?_
        refine d_done (by kernel_rfl) ?_
        obtain rfl := someE hx214
        exact (hJ215 _ _).2 ⟨x240, p242, c243, d244, hk, hs.cast [2] (by kernel_rfl), hw.pick [0, 3] (by kernel_rfl), h245⟩
    · intro a w hh
      obtain ⟨x207, p208, c209, d211, hk, hs, hw, h210⟩ := (hJ215 _ _).1 hh
      refine wp_ret ?_
      obtain rfl := someE hk
      refine hQ _ _ (f_ret1 hs rfl (v := .slice p208 x207.length c209) (by kernel_rfl) ⟨p208, c209, d211, rfl, hw.pick [0, 1] (by kernel_rfl), h210⟩)
def conf_node (x1 : Int) : Option Bool :=
  some ((decide (x1 ≥ 1)) && (decide (x1 ≤ 24)))
theorem conf_node_s {x1 : Int} {r : Bool} (hk : conf_node x1 = some r) {g w : World} {F : Ch} {ih : IH} (hw : St g w [F] ih) :
    CallsR Try.prog 113 #[.int .i64 x1] w fun v w' => v = .bool r ∧ St g w' [F] ih := by
  refine f_in (vs := [.int .i64 x1]) Try.func113 rfl 9 rfl (by kernel_rfl) [(0, .int .i64 x1)] (by kernel_rfl) fun a Qf hQ hQn hs => ?_
  refine c_seq ?_
  refine c_region ?_
  refine pures hs 1 [0] [(0, .int .i64 x1)] (by kernel_rfl) fun a hs => ?_
  refine s_end ?_
  refine c_seq ?_
  obtain ⟨J12, hJ12⟩ : ∃ J : Act → World → Prop, ∀ a w, J a w ↔ (Sees a 9 [(2, .bool ((decide (x1 ≥ 1)) && (decide (x1 ≤ 24))))] ∧ St g w [F] ih) := ⟨_, fun _ _ => Iff.rfl⟩
  refine c_regJ J12 ?_ ?_
  · refine pures hs 3 [0, 5] [(0, .int .i64 x1), (5, .bool (decide (x1 ≥ 1)))] (by kernel_rfl) fun a hs => ?_
    rcases boolE (decide (x1 ≥ 1)) with h13 | h13
    · replace hs := hs.altB 5 true (by kernel_rfl) h13
      refine pures hs 4 [2] [(2, .bool (decide (x1 ≤ 24)))] (by kernel_rfl) fun a hs => ?_
      refine s_end ?_
      exact (hJ12 _ _).2 ⟨(hs.altB 2 ((decide (x1 ≥ 1)) && (decide (x1 ≤ 24))) (by kernel_rfl) (by rw [h13] <;> rfl)).cast [2] (by kernel_rfl), hw.pick [0] (by kernel_rfl)⟩
    · replace hs := hs.altB 5 false (by kernel_rfl) h13
      refine pures hs 4 [2] [(2, .bool false)] (by kernel_rfl) fun a hs => ?_
      refine s_end ?_
      exact (hJ12 _ _).2 ⟨(hs.altB 2 ((decide (x1 ≥ 1)) && (decide (x1 ≤ 24))) (by kernel_rfl) (by rw [h13] <;> rfl)).cast [2] (by kernel_rfl), hw.pick [0] (by kernel_rfl)⟩
  · intro a w hh
    obtain ⟨hs, hw⟩ := (hJ12 _ _).1 hh
    refine wp_ret ?_
    obtain rfl := someE hk
    refine hQ _ _ (f_ret1 hs rfl (v := .bool ((decide (x1 ≥ 1)) && (decide (x1 ≤ 24)))) (by kernel_rfl) ⟨rfl, hw.pick [0] (by kernel_rfl)⟩)
def slices_Index_int_int_r3 : Option Int :=
  some (-1)
def slices_Index_int_int_l4 (x1 : List Int) (x7 : Int) : Nat → Int → Option (Sum Int Unit)
  | 0, _ => none
  | j + 1, x78 =>
    if (decide (x78 < (x1.length : Int))) = true then (
      (ix x1 x78).bind fun x98 =>
      if (x7 == x98) = true then some (.inl x78)
      else slices_Index_int_int_l4 x1 x7 j (IntKind.i64.wrap (x78 + 1)))
    else some (.inr ())
def slices_Index_int_int (k : Nat) (x1 : List Int) (x7 : Int) : Option Int :=
  (slices_Index_int_int_l4 x1 x7 k 0 : Option (Sum Int Unit)).bind fun
    | .inl z => some z
    | .inr _ => slices_Index_int_int_r3
theorem slices_Index_int_int_s {k : Nat} {x1 : List Int} {x7 : Int} {p2 : Option Addr} {c3 : Nat} {d5 : Ch} {r : Int} (hk : slices_Index_int_int k x1 x7 = some r) {g w : World} {F : Ch} {ih : IH} (h4 : RSl e3 ih d5 p2 c3 x1) (h6 : ∀ q ∈ d5, q ∈ F) (hw : St g w [F] ih) :
    CallsR Try.prog 81 #[.slice p2 x1.length c3, .int .i64 x7] w fun v w' => v = .int .i64 r ∧ St g w' [F] ih := by
  refine f_in (vs := [.slice p2 x1.length c3, .int .i64 x7]) Try.func81 rfl 19 rfl (by kernel_rfl) [(0, .slice p2 x1.length c3), (1, .int .i64 x7)] (by kernel_rfl) fun a Qf hQ hQn hs => ?_
  refine c_seq ?_
  refine c_region ?_
  refine pures hs 1 [0, 1] [(0, .slice p2 x1.length c3), (1, .int .i64 x7)] (by kernel_rfl) fun a hs => ?_
  refine s_end ?_
  refine c_seq ?_
  refine c_seq ?_
  refine c_region ?_
  refine pures hs 3 [0, 1, 7, 8] [(0, .slice p2 x1.length c3), (1, .int .i64 x7), (7, .int .i64 (x1.length : Int)), (8, .int .i64 0)] (by kernel_rfl) fun a hs => ?_
  refine s_end ?_
  refine c_block ?_
  obtain ⟨y89, hx90, hk⟩ := bindE hk
  obtain ⟨J91, hJ91⟩ : ∃ J : Act → World → Prop, ∀ a w, J a w ↔ (slices_Index_int_int_r3 = some r ∧ Sees a 19 [] ∧ St g w [F] ih) := ⟨_, fun _ _ => Iff.rfl⟩
  obtain ⟨I92, hI92⟩ : ∃ J : Nat → Act → World → Prop, ∀ j a w, J j a w ↔ (∃ (x78 : Int), slices_Index_int_int_l4 x1 x7 j x78 = some y89 ∧ Sees a 19 [(0, .slice p2 x1.length c3), (1, .int .i64 x7), (7, .int .i64 (x1.length : Int)), (8, .int .i64 x78)] ∧ St g w [F] ih) := ⟨_, fun _ _ _ => Iff.rfl⟩
  refine c_exitJ 0 J91 ?_ ?_
  · refine c_loop I92 k ((hI92 _ _ _).2 ⟨0, hx90, hs.cast [0, 1, 7, 8] (by kernel_rfl), hw.pick [0] (by kernel_rfl)⟩) (fun a w h0 => ?_) fun j a w hh => ?_
    · obtain ⟨_, h, _⟩ := (hI92 _ _ _).1 h0
      cases h
    · obtain ⟨x78, hx90, hs, hw⟩ := (hI92 _ _ _).1 hh
      refine c_seq ?_
      refine c_region ?_
      refine pures hs 1 [0, 1, 7, 8, 9] [(0, .slice p2 x1.length c3), (1, .int .i64 x7), (7, .int .i64 (x1.length : Int)), (8, .int .i64 x78), (9, .bool (decide (x78 < (x1.length : Int))))] (by kernel_rfl) fun a hs => ?_
      refine s_end ?_
      refine c_seq ?_
      rcases ifbE hx90 with ⟨h93, hx90⟩ | ⟨h93, hx90⟩
      · refine c_cond1 hs (by kernel_rfl) (t := (decide (x78 < (x1.length : Int)))) (by kernel_rfl) h93 ?_
        refine wp_skip ?_
        refine c_seq ?_
        refine c_block ?_
        refine c_seq ?_
        refine c_region ?_
        refine pures hs 2 [0, 1, 7, 8, 5] [(0, .slice p2 x1.length c3), (1, .int .i64 x7), (7, .int .i64 (x1.length : Int)), (8, .int .i64 x78), (5, .int .i64 x78)] (by kernel_rfl) fun a hs => ?_
        refine s_end ?_
        refine c_seq ?_
        refine c_region ?_
        refine pures hs 3 [0, 1, 7, 8, 5, 11, 12, 13] [(0, .slice p2 x1.length c3), (1, .int .i64 x7), (7, .int .i64 (x1.length : Int)), (8, .int .i64 x78), (5, .int .i64 x78), (11, .int .i64 x7), (12, .slice p2 x1.length c3), (13, .int .i64 x78)] (by kernel_rfl) fun a hs => ?_
        obtain ⟨x98, h99, hx90⟩ := bindE hx90
        refine s_index hs h4 (by kernel_rfl) (by kernel_rfl) (k := .i64) (by kernel_rfl) 3 (by kernel_rfl) (by kernel_rfl) h99 fun a r100 cs henc at101 hs => ?_
        obtain rfl := henc
        refine s_load hs (at101 _ (((hw.vw 0 rfl).sub h6).anti (Le.refl _))) 0 (by kernel_rfl) (by kernel_rfl) (v := .int .i64 x98) (by kernel_rfl) fun a hs => ?_
        refine pures hs 1 [0, 1, 7, 8, 5, 16] [(0, .slice p2 x1.length c3), (1, .int .i64 x7), (7, .int .i64 (x1.length : Int)), (8, .int .i64 x78), (5, .int .i64 x78), (16, .bool (x7 == x98))] (by kernel_rfl) fun a hs => ?_
        refine s_end ?_
        rcases ifbE hx90 with ⟨h102, hx90⟩ | ⟨h102, hx90⟩
        · refine c_cond1 hs (by kernel_rfl) (t := (x7 == x98)) (by kernel_rfl) h102 ?_
          refine c_seq ?_
          refine c_region ?_
          refine pures hs 2 [4] [(4, .int .i64 x78)] (by kernel_rfl) fun a hs => ?_
          refine s_end ?_
          refine wp_ret ?_
          obtain rfl := someE hx90
          obtain rfl := someE hk
          refine hQ _ _ (f_ret1 hs rfl (v := .int .i64 x78) (by kernel_rfl) ⟨rfl, hw.pick [0] (by kernel_rfl)⟩)
        · refine c_cond0 hs (by kernel_rfl) (t := (x7 == x98)) (by kernel_rfl) h102 ?_
          refine wp_skip ?_
          refine c_region ?_
          refine pures hs 2 [0, 1, 7, 8] [(0, .slice p2 x1.length c3), (1, .int .i64 x7), (7, .int .i64 (x1.length : Int)), (8, .int .i64 (IntKind.i64.wrap (x78 + 1)))] (by kernel_rfl) fun a hs => ?_
          refine s_end ?_
          exact (hI92 _ _ _).2 ⟨(IntKind.i64.wrap (x78 + 1)), hx90, hs.cast [0, 1, 7, 8] (by kernel_rfl), hw.pick [0] (by kernel_rfl)⟩
      · refine c_cond0 hs (by kernel_rfl) (t := (decide (x78 < (x1.length : Int)))) (by kernel_rfl) h93 ?_
        refine wp_exit ?_
        obtain rfl := someE hx90
        exact (hJ91 _ _).2 ⟨hk, hs.cast [] (by kernel_rfl), hw.pick [0] (by kernel_rfl)⟩
  · intro a w hh
    obtain ⟨hk, hs, hw⟩ := (hJ91 _ _).1 hh
    refine c_seq ?_
    refine c_region ?_
    refine pures hs 1 [4] [(4, .int .i64 (-1))] (by kernel_rfl) fun a hs => ?_
    refine s_end ?_
    refine wp_ret ?_
    obtain rfl := someE hk
    refine hQ _ _ (f_ret1 hs rfl (v := .int .i64 (-1)) (by kernel_rfl) ⟨rfl, hw.pick [0] (by kernel_rfl)⟩)
def slices_Contains_int_int (k : Nat) (x1 : List Int) (x7 : Int) : Option Bool :=
  (slices_Index_int_int k x1 x7).bind fun y16 =>
  some (decide (y16 ≥ 0))
theorem slices_Contains_int_int_s {k : Nat} {x1 : List Int} {x7 : Int} {p2 : Option Addr} {c3 : Nat} {d5 : Ch} {r : Bool} (hk : slices_Contains_int_int k x1 x7 = some r) {g w : World} {F : Ch} {ih : IH} (h4 : RSl e3 ih d5 p2 c3 x1) (h6 : ∀ q ∈ d5, q ∈ F) (hw : St g w [F] ih) :
    CallsR Try.prog 82 #[.slice p2 x1.length c3, .int .i64 x7] w fun v w' => v = .bool r ∧ St g w' [F] ih := by
  refine f_in (vs := [.slice p2 x1.length c3, .int .i64 x7]) Try.func82 rfl 9 rfl (by kernel_rfl) [(0, .slice p2 x1.length c3), (1, .int .i64 x7)] (by kernel_rfl) fun a Qf hQ hQn hs => ?_
  refine c_seq ?_
  refine c_region ?_
  refine pures hs 1 [0, 1] [(0, .slice p2 x1.length c3), (1, .int .i64 x7)] (by kernel_rfl) fun a hs => ?_
  refine s_end ?_
  refine c_seq ?_
  refine c_region ?_
  refine pures hs 2 [5, 6] [(5, .slice p2 x1.length c3), (6, .int .i64 x7)] (by kernel_rfl) fun a hs => ?_
  obtain ⟨y16, h17, hk⟩ := bindE hk
  refine s_call hs (by kernel_rfl) (by kernel_rfl) (slices_Index_int_int_s h17 h4 (fun q hq => memF 0 rfl q (h6 q hq)) ((hw.pick [0] (by kernel_rfl)).pack 0)) fun a w v hv hs => ?_
  obtain ⟨rfl, hw⟩ := hv
  replace hw := hw.unpack 0 rfl
  refine pures hs 2 [4] [(4, .bool (decide (y16 ≥ 0)))] (by kernel_rfl) fun a hs => ?_
  refine s_end ?_
  refine wp_ret ?_
  obtain rfl := someE hk
  refine hQ _ _ (f_ret1 hs rfl (v := .bool (decide (y16 ≥ 0))) (by kernel_rfl) ⟨rfl, hw.pick [0] (by kernel_rfl)⟩)
def conf_unlike_r10 : Option Bool :=
  some true
def conf_unlike_r12 (rec_conf_unlike_l11 : Int → Option (Sum Bool Unit)) (x287 : Int) (x366 : Bool) : Option (Sum Bool Unit) :=
  if x366 = true then some (.inl false)
  else rec_conf_unlike_l11 (IntKind.i64.wrap (x287 + 1))
def conf_unlike_l11 (k : Nat) (x1 : List Int) : Nat → Int → Option (Sum Bool Unit)
  | 0, _ => none
  | j + 1, x287 =>
    if (decide (x287 < (x1.length : Int))) = true then (
      (ix x1 x287).bind fun x342 =>
      ((conf_node x342).bind fun y371 =>
        if (!y371) = true then some true
        else (sl x1 0 x287).bind fun x374 =>
        (slices_Contains_int_int k x374 x342).bind fun y379 =>
        some y379 : Option Bool).bind fun s381 => conf_unlike_r12 (conf_unlike_l11 k x1 j) x287 s381)
    else some (.inr ())
def conf_unlike (k : Nat) (x1 : List Int) : Option Bool :=
  (conf_unlike_l11 k x1 k 0 : Option (Sum Bool Unit)).bind fun
    | .inl z => some z
    | .inr _ => conf_unlike_r10
theorem conf_unlike_s {k : Nat} {x1 : List Int} {p2 : Option Addr} {c3 : Nat} {d5 : Ch} {r : Bool} (hk : conf_unlike k x1 = some r) {g w : World} {F : Ch} {ih : IH} (h4 : RSl e3 ih d5 p2 c3 x1) (h6 : ∀ q ∈ d5, q ∈ F) (hw : St g w [F] ih) :
    CallsR Try.prog 108 #[.slice p2 x1.length c3] w fun v w' => v = .bool r ∧ St g w' [F] ih := by
  refine f_in (vs := [.slice p2 x1.length c3]) Try.func108 rfl 23 rfl (by kernel_rfl) [(0, .slice p2 x1.length c3)] (by kernel_rfl) fun a Qf hQ hQn hs => ?_
  refine c_seq ?_
  refine c_region ?_
  refine pures hs 1 [0] [(0, .slice p2 x1.length c3)] (by kernel_rfl) fun a hs => ?_
  refine s_end ?_
  refine c_seq ?_
  refine c_seq ?_
  refine c_region ?_
  refine pures hs 3 [0, 5, 6, 7] [(0, .slice p2 x1.length c3), (5, .slice p2 x1.length c3), (6, .int .i64 (x1.length : Int)), (7, .int .i64 0)] (by kernel_rfl) fun a hs => ?_
  refine s_end ?_
  refine c_block ?_
  obtain ⟨y333, hx334, hk⟩ := bindE hk
  obtain ⟨J335, hJ335⟩ : ∃ J : Act → World → Prop, ∀ a w, J a w ↔ (conf_unlike_r10 = some r ∧ Sees a 23 [] ∧ St g w [F] ih) := ⟨_, fun _ _ => Iff.rfl⟩
  obtain ⟨I336, hI336⟩ : ∃ J : Nat → Act → World → Prop, ∀ j a w, J j a w ↔ (∃ (x287 : Int), conf_unlike_l11 k x1 j x287 = some y333 ∧ Sees a 23 [(0, .slice p2 x1.length c3), (5, .slice p2 x1.length c3), (6, .int .i64 (x1.length : Int)), (7, .int .i64 x287)] ∧ St g w [F] ih) := ⟨_, fun _ _ _ => Iff.rfl⟩
  refine c_exitJ 0 J335 ?_ ?_
  · refine c_loop I336 k ((hI336 _ _ _).2 ⟨0, hx334, hs.cast [0, 5, 6, 7] (by kernel_rfl), hw.pick [0] (by kernel_rfl)⟩) (fun a w h0 => ?_) fun j a w hh => ?_
    · obtain ⟨_, h, _⟩ := (hI336 _ _ _).1 h0
      cases h
    · obtain ⟨x287, hx334, hs, hw⟩ := (hI336 _ _ _).1 hh
      refine c_seq ?_
      refine c_region ?_
      refine pures hs 1 [0, 5, 6, 7, 8] [(0, .slice p2 x1.length c3), (5, .slice p2 x1.length c3), (6, .int .i64 (x1.length : Int)), (7, .int .i64 x287), (8, .bool (decide (x287 < (x1.length : Int))))] (by kernel_rfl) fun a hs => ?_
      refine s_end ?_
      refine c_seq ?_
      rcases ifbE hx334 with ⟨h337, hx334⟩ | ⟨h337, hx334⟩
      · refine c_cond1 hs (by kernel_rfl) (t := (decide (x287 < (x1.length : Int)))) (by kernel_rfl) h337 ?_
        refine wp_skip ?_
        refine c_seq ?_
        refine c_block ?_
        refine c_seq ?_
        refine c_region ?_
        refine pures hs 1 [0, 5, 6, 7, 9] [(0, .slice p2 x1.length c3), (5, .slice p2 x1.length c3), (6, .int .i64 (x1.length : Int)), (7, .int .i64 x287), (9, .int .i64 x287)] (by kernel_rfl) fun a hs => ?_
        obtain ⟨x342, h343, hx334⟩ := bindE hx334
        refine s_index hs h4 (by kernel_rfl) (by kernel_rfl) (k := .i64) (by kernel_rfl) 3 (by kernel_rfl) (by kernel_rfl) h343 fun a r344 cs henc at345 hs => ?_
        obtain rfl := henc
        refine s_load hs (at345 _ (((hw.vw 0 rfl).sub h6).anti (Le.refl _))) 0 (by kernel_rfl) (by kernel_rfl) (v := .int .i64 x342) (by kernel_rfl) fun a hs => ?_
        refine pures hs 2 [0, 5, 6, 7, 3, 4] [(0, .slice p2 x1.length c3), (5, .slice p2 x1.length c3), (6, .int .i64 (x1.length : Int)), (7, .int .i64 x287), (3, .int .i64 x287), (4, .int .i64 x342)] (by kernel_rfl) fun a hs => ?_
        refine s_end ?_
        refine c_seq ?_
        obtain ⟨y368, hx369, hx334⟩ := bindE hx334
        obtain ⟨J370, hJ370⟩ : ∃ J : Act → World → Prop, ∀ a w, J a w ↔ (∃ (x366 : Bool), conf_unlike_r12 (conf_unlike_l11 k x1 j) x287 x366 = some y333 ∧ Sees a 23 [(0, .slice p2 x1.length c3), (5, .slice p2 x1.length c3), (6, .int .i64 (x1.length : Int)), (7, .int .i64 x287), (21, .bool x366)] ∧ St g w [F] ih) := ⟨_, fun _ _ => Iff.rfl⟩
        refine c_regJ J370 ?_ ?_
        · refine pures hs 1 [0, 5, 6, 7, 3, 4, 12] [(0, .slice p2 x1.length c3), (5, .slice p2 x1.length c3), (6, .int .i64 (x1.length : Int)), (7, .int .i64 x287), (3, .int .i64 x287), (4, .int .i64 x342), (12, .int .i64 x342)] (by kernel_rfl) fun a hs => ?_
          obtain ⟨y371, h372, hx369⟩ := bindE hx369
          refine s_call hs (by kernel_rfl) (by kernel_rfl) (conf_node_s h372 ((hw.pick [0] (by kernel_rfl)).pack 0)) fun a w v hv hs => ?_
          obtain ⟨rfl, hw⟩ := hv
          replace hw := hw.unpack 0 rfl
          refine pures hs 2 [0, 5, 6, 7, 3, 4, 15] [(0, .slice p2 x1.length c3), (5, .slice p2 x1.length c3), (6, .int .i64 (x1.length : Int)), (7, .int .i64 x287), (3, .int .i64 x287), (4, .int .i64 x342), (15, .bool (!y371))] (by kernel_rfl) fun a hs => ?_
          rcases ifbE hx369 with ⟨h373, hx369⟩ | ⟨h373, hx369⟩
          · replace hs := hs.altB 15 true (by kernel_rfl) h373
            refine pures hs 6 [0, 5, 6, 7, 21] [(0, .slice p2 x1.length c3), (5, .slice p2 x1.length c3), (6, .int .i64 (x1.length : Int)), (7, .int .i64 x287), (21, .bool true)] (by kernel_rfl) fun a hs => ?_
            refine s_end ?_
            obtain rfl := someE hx369
            exact (hJ370 _ _).2 ⟨true, hx334, hs.cast [0, 5, 6, 7, 21] (by kernel_rfl), hw.pick [0] (by kernel_rfl)⟩
          · replace hs := hs.altB 15 false (by kernel_rfl) h373
            refine pures hs 2 [0, 5, 6, 7, 4, 15, 16, 17] [(0, .slice p2 x1.length c3), (5, .slice p2 x1.length c3), (6, .int .i64 (x1.length : Int)), (7, .int .i64 x287), (4, .int .i64 x342), (15, .bool false), (16, .slice p2 x1.length c3), (17, .int .i64 x287)] (by kernel_rfl) fun a hs => ?_
            obtain ⟨x374, h375, hx369⟩ := bindE hx369
            refine s_slice hs h4 (by kernel_rfl) (by kernel_rfl) 3 (by kernel_rfl) (by kernel_rfl) (by kernel_rfl) (by kernel_rfl) (by kernel_rfl) h375 (.inl rfl) fun a p376 c377 h378 hs => ?_
            refine pures hs 1 [0, 5, 6, 7, 15, 18, 19] [(0, .slice p2 x1.length c3), (5, .slice p2 x1.length c3), (6, .int .i64 (x1.length : Int)), (7, .int .i64 x287), (15, .bool false), (18, .slice p376 x374.length c377), (19, .int .i64 x342)] (by kernel_rfl) fun a hs => ?_
            obtain ⟨y379, h380, hx369⟩ := bindE hx369
            refine s_call hs (by kernel_rfl) (by kernel_rfl) (slices_Contains_int_int_s h380 h378 (fun q hq => memF 0 rfl q (h6 q hq)) ((hw.pick [0] (by kernel_rfl)).pack 0)) fun a w v hv hs => ?_
            obtain ⟨rfl, hw⟩ := hv
            replace hw := hw.unpack 0 rfl
            refine pures hs 1 [0, 5, 6, 7, 21] [(0, .slice p2 x1.length c3), (5, .slice p2 x1.length c3), (6, .int .i64 (x1.length : Int)), (7, .int .i64 x287), (21, .bool y379)] (by kernel_rfl) fun a hs => ?_
            refine s_end ?_
            obtain rfl := someE hx369
            exact (hJ370 _ _).2 ⟨y379, hx334, hs.cast [0, 5, 6, 7, 21] (by kernel_rfl), hw.pick [0] (by kernel_rfl)⟩
        · intro a w hh
          obtain ⟨x366, hx334, hs, hw⟩ := (hJ370 _ _).1 hh
          rcases ifbE hx334 with ⟨h367, hx334⟩ | ⟨h367, hx334⟩
          · refine c_cond1 hs (by kernel_rfl) (t := x366) (by kernel_rfl) h367 ?_
            refine c_seq ?_
            refine c_region ?_
            refine pures hs 1 [2] [(2, .bool false)] (by kernel_rfl) fun a hs => ?_
            refine s_end ?_
            refine wp_ret ?_
            obtain rfl := someE hx334
            obtain rfl := someE hk
            refine hQ _ _ (f_ret1 hs rfl (v := .bool false) (by kernel_rfl) ⟨rfl, hw.pick [0] (by kernel_rfl)⟩)
          · refine c_cond0 hs (by kernel_rfl) (t := x366) (by kernel_rfl) h367 ?_
            refine wp_skip ?_
            refine c_region ?_
            refine pures hs 2 [0, 5, 6, 7] [(0, .slice p2 x1.length c3), (5, .slice p2 x1.length c3), (6, .int .i64 (x1.length : Int)), (7, .int .i64 (IntKind.i64.wrap (x287 + 1)))] (by kernel_rfl) fun a hs => ?_
            refine s_end ?_
            exact (hI336 _ _ _).2 ⟨(IntKind.i64.wrap (x287 + 1)), hx334, hs.cast [0, 5, 6, 7] (by kernel_rfl), hw.pick [0] (by kernel_rfl)⟩
      · refine c_cond0 hs (by kernel_rfl) (t := (decide (x287 < (x1.length : Int)))) (by kernel_rfl) h337 ?_
        refine wp_exit ?_
        obtain rfl := someE hx334
        exact (hJ335 _ _).2 ⟨hk, hs.cast [] (by kernel_rfl), hw.pick [0] (by kernel_rfl)⟩
  · intro a w hh
    obtain ⟨hk, hs, hw⟩ := (hJ335 _ _).1 hh
    refine c_seq ?_
    refine c_region ?_
    refine pures hs 1 [2] [(2, .bool true)] (by kernel_rfl) fun a hs => ?_
    refine s_end ?_
    refine wp_ret ?_
    obtain rfl := someE hk
    refine hQ _ _ (f_ret1 hs rfl (v := .bool true) (by kernel_rfl) ⟨rfl, hw.pick [0] (by kernel_rfl)⟩)
def conf_Right (k : Nat) (x1 : M53) : Option Bool :=
  if ((decide (x1.f0 < 0)) || ((decide (x1.f0 ≥ 4)) || (decide (x1.f1 < 1)))) = true then some false
  else if ((decide ((x1.f2.length : Int) < 1)) || ((decide ((x1.f2.length : Int) > 5)) || (x1.f3 && ((decide ((x1.f2.length : Int) < 2)) || (x1.f4 != 0))))) = true then some false
  else (conf_everybody x1).bind fun y90 =>
  (conf_unlike k y90).bind fun y97 =>
  some y97
theorem conf_Right_s {k : Nat} {x1 : M53} {p2 : Option Addr} {c3 : Nat} {r : Bool} (hk : conf_Right k x1 = some r) {g w : World} {F : Ch} {ih : IH} (h4 : RSl e3 ih [] p2 c3 x1.f2) (hw : St g w [F] ih) :
    CallsR Try.prog 80 #[.agg #[.int .i64 x1.f0, .int .u64 x1.f1, .slice p2 x1.f2.length c3, .bool x1.f3, .int .i64 x1.f4]] w fun v w' => v = .bool r ∧ St g w' [F] ih := by
  refine f_in (vs := [.agg #[.int .i64 x1.f0, .int .u64 x1.f1, .slice p2 x1.f2.length c3, .bool x1.f3, .int .i64 x1.f4]]) Try.func80 rfl 44 rfl (by kernel_rfl) [(0, .agg #[.int .i64 x1.f0, .int .u64 x1.f1, .slice p2 x1.f2.length c3, .bool x1.f3, .int .i64 x1.f4])] (by kernel_rfl) fun a Qf hQ hQn hs => ?_
  refine c_seq ?_
  refine c_region ?_
  refine s_new hs hw [.int .i64 x1.f0, .int .u64 x1.f1, .slice p2 x1.f2.length c3, .bool x1.f3, .int .i64 x1.f4] 53 (fun b => .pointer (some ⟨b, 0, none⟩)) (by kernel_rfl) (fun _ => by kernel_rfl) fun a w b55 hs hw => ?_
  refine pures hs 1 [1] [(1, .pointer (some ⟨b55, 0, none⟩))] (by kernel_rfl) fun a hs => ?_
  refine s_end ?_
  refine c_seq ?_
  refine c_region ?_
  refine pures hs 1 [1, 4] [(1, .pointer (some ⟨b55, 0, none⟩)), (4, .pointer (some ⟨b55, 2, none⟩))] (by kernel_rfl) fun a hs => ?_
  refine s_load hs (hw.at_ 0 rfl) 2 (by kernel_rfl) (by kernel_rfl) (v := .slice p2 x1.f2.length c3) (by kernel_rfl) fun a hs => ?_
  refine pures hs 2 [1, 3] [(1, .pointer (some ⟨b55, 0, none⟩)), (3, .int .i64 (x1.f2.length : Int))] (by kernel_rfl) fun a hs => ?_
  refine s_end ?_
  refine c_seq ?_
  refine c_block ?_
  refine c_seq ?_
  obtain ⟨J62, hJ62⟩ : ∃ J : Act → World → Prop, ∀ a w, J a w ↔ (Sees a 44 [(1, .pointer (some ⟨b55, 0, none⟩)), (3, .int .i64 (x1.f2.length : Int)), (7, .bool ((decide (x1.f0 < 0)) || ((decide (x1.f0 ≥ 4)) || (decide (x1.f1 < 1)))))] ∧ St g w [bx b55 [.int .i64 x1.f0, .int .u64 x1.f1, .slice p2 x1.f2.length c3, .bool x1.f3, .int .i64 x1.f4] 53, F] ih) := ⟨_, fun _ _ => Iff.rfl⟩
  refine c_regJ J62 ?_ ?_
  · refine pures hs 1 [1, 3, 8] [(1, .pointer (some ⟨b55, 0, none⟩)), (3, .int .i64 (x1.f2.length : Int)), (8, .pointer (some ⟨b55, 0, none⟩))] (by kernel_rfl) fun a hs => ?_
    refine s_load hs (hw.at_ 0 rfl) 0 (by kernel_rfl) (by kernel_rfl) (v := .int .i64 x1.f0) (by kernel_rfl) fun a hs => ?_
    refine pures hs 2 [1, 3, 11] [(1, .pointer (some ⟨b55, 0, none⟩)), (3, .int .i64 (x1.f2.length : Int)), (11, .bool (decide (x1.f0 < 0)))] (by kernel_rfl) fun a hs => ?_
    rcases boolE (decide (x1.f0 < 0)) with h63 | h63
    · replace hs := hs.altB 11 true (by kernel_rfl) h63
      refine pures hs 10 [1, 3, 7] [(1, .pointer (some ⟨b55, 0, none⟩)), (3, .int .i64 (x1.f2.length : Int)), (7, .bool true)] (by kernel_rfl) fun a hs => ?_
      refine s_end ?_
      exact (hJ62 _ _).2 ⟨(hs.altB 7 ((decide (x1.f0 < 0)) || ((decide (x1.f0 ≥ 4)) || (decide (x1.f1 < 1)))) (by kernel_rfl) (by rw [h63] <;> rfl)).cast [1, 3, 7] (by kernel_rfl), hw.pick [0, 1] (by kernel_rfl)⟩
    · replace hs := hs.altB 11 false (by kernel_rfl) h63
      refine pures hs 1 [1, 3, 11, 12] [(1, .pointer (some ⟨b55, 0, none⟩)), (3, .int .i64 (x1.f2.length : Int)), (11, .bool false), (12, .pointer (some ⟨b55, 0, none⟩))] (by kernel_rfl) fun a hs => ?_
      refine s_load hs (hw.at_ 0 rfl) 0 (by kernel_rfl) (by kernel_rfl) (v := .int .i64 x1.f0) (by kernel_rfl) fun a hs => ?_
      refine pures hs 3 [1, 3, 16] [(1, .pointer (some ⟨b55, 0, none⟩)), (3, .int .i64 (x1.f2.length : Int)), (16, .bool (decide (x1.f0 ≥ 4)))] (by kernel_rfl) fun a hs => ?_
      rcases boolE (decide (x1.f0 ≥ 4)) with h64 | h64
      · replace hs := hs.altB 16 true (by kernel_rfl) h64
        refine pures hs 5 [1, 3, 7] [(1, .pointer (some ⟨b55, 0, none⟩)), (3, .int .i64 (x1.f2.length : Int)), (7, .bool true)] (by kernel_rfl) fun a hs => ?_
        refine s_end ?_
        exact (hJ62 _ _).2 ⟨(hs.altB 7 ((decide (x1.f0 < 0)) || ((decide (x1.f0 ≥ 4)) || (decide (x1.f1 < 1)))) (by kernel_rfl) (by rw [h63, h64] <;> rfl)).cast [1, 3, 7] (by kernel_rfl), hw.pick [0, 1] (by kernel_rfl)⟩
      · replace hs := hs.altB 16 false (by kernel_rfl) h64
        refine pures hs 1 [1, 3, 16, 17] [(1, .pointer (some ⟨b55, 0, none⟩)), (3, .int .i64 (x1.f2.length : Int)), (16, .bool false), (17, .pointer (some ⟨b55, 1, none⟩))] (by kernel_rfl) fun a hs => ?_
        refine s_load hs (hw.at_ 0 rfl) 1 (by kernel_rfl) (by kernel_rfl) (v := .int .u64 x1.f1) (by kernel_rfl) fun a hs => ?_
        refine pures hs 3 [1, 3, 7] [(1, .pointer (some ⟨b55, 0, none⟩)), (3, .int .i64 (x1.f2.length : Int)), (7, .bool (decide (x1.f1 < 1)))] (by kernel_rfl) fun a hs => ?_
        refine s_end ?_
        exact (hJ62 _ _).2 ⟨(hs.altB 7 ((decide (x1.f0 < 0)) || ((decide (x1.f0 ≥ 4)) || (decide (x1.f1 < 1)))) (by kernel_rfl) (by rw [h63, h64] <;> rfl)).cast [1, 3, 7] (by kernel_rfl), hw.pick [0, 1] (by kernel_rfl)⟩
  · intro a w hh
    obtain ⟨hs, hw⟩ := (hJ62 _ _).1 hh
    rcases ifbE hk with ⟨h65, hk⟩ | ⟨h65, hk⟩
    · refine c_cond1 hs (by kernel_rfl) (t := ((decide (x1.f0 < 0)) || ((decide (x1.f0 ≥ 4)) || (decide (x1.f1 < 1))))) (by kernel_rfl) h65 ?_
      refine c_seq ?_
      refine c_region ?_
      refine pures hs 1 [2] [(2, .bool false)] (by kernel_rfl) fun a hs => ?_
      refine s_end ?_
      refine wp_ret ?_
      obtain rfl := someE hk
      refine hQ _ _ (f_ret1 hs rfl (v := .bool false) (by kernel_rfl) ⟨rfl, hw.pick [1] (by kernel_rfl)⟩)
    · refine c_cond0 hs (by kernel_rfl) (t := ((decide (x1.f0 < 0)) || ((decide (x1.f0 ≥ 4)) || (decide (x1.f1 < 1))))) (by kernel_rfl) h65 ?_
      refine c_seq ?_
      obtain ⟨J75, hJ75⟩ : ∃ J : Act → World → Prop, ∀ a w, J a w ↔ (Sees a 44 [(1, .pointer (some ⟨b55, 0, none⟩)), (21, .bool ((decide ((x1.f2.length : Int) < 1)) || ((decide ((x1.f2.length : Int) > 5)) || (x1.f3 && ((decide ((x1.f2.length : Int) < 2)) || (x1.f4 != 0))))))] ∧ St g w [bx b55 [.int .i64 x1.f0, .int .u64 x1.f1, .slice p2 x1.f2.length c3, .bool x1.f3, .int .i64 x1.f4] 53, F] ih) := ⟨_, fun _ _ => Iff.rfl⟩
      refine c_regJ J75 ?_ ?_
      · refine pures hs 3 [1, 3, 24] [(1, .pointer (some ⟨b55, 0, none⟩)), (3, .int .i64 (x1.f2.length : Int)), (24, .bool (decide ((x1.f2.length : Int) < 1)))] (by kernel_rfl) fun a hs => ?_
        rcases boolE (decide ((x1.f2.length : Int) < 1)) with h76 | h76
        · replace hs := hs.altB 24 true (by kernel_rfl) h76
          refine pures hs 17 [1, 21] [(1, .pointer (some ⟨b55, 0, none⟩)), (21, .bool true)] (by kernel_rfl) fun a hs => ?_
          refine s_end ?_
          exact (hJ75 _ _).2 ⟨(hs.altB 21 ((decide ((x1.f2.length : Int) < 1)) || ((decide ((x1.f2.length : Int) > 5)) || (x1.f3 && ((decide ((x1.f2.length : Int) < 2)) || (x1.f4 != 0))))) (by kernel_rfl) (by rw [h76] <;> rfl)).cast [1, 21] (by kernel_rfl), hw.pick [0, 1] (by kernel_rfl)⟩
        · replace hs := hs.altB 24 false (by kernel_rfl) h76
          refine pures hs 4 [1, 3, 28] [(1, .pointer (some ⟨b55, 0, none⟩)), (3, .int .i64 (x1.f2.length : Int)), (28, .bool (decide ((x1.f2.length : Int) > 5)))] (by kernel_rfl) fun a hs => ?_
          rcases boolE (decide ((x1.f2.length : Int) > 5)) with h77 | h77
          · replace hs := hs.altB 28 true (by kernel_rfl) h77
            refine pures hs 13 [1, 21] [(1, .pointer (some ⟨b55, 0, none⟩)), (21, .bool true)] (by kernel_rfl) fun a hs => ?_
            refine s_end ?_
            exact (hJ75 _ _).2 ⟨(hs.altB 21 ((decide ((x1.f2.length : Int) < 1)) || ((decide ((x1.f2.length : Int) > 5)) || (x1.f3 && ((decide ((x1.f2.length : Int) < 2)) || (x1.f4 != 0))))) (by kernel_rfl) (by rw [h76, h77] <;> rfl)).cast [1, 21] (by kernel_rfl), hw.pick [0, 1] (by kernel_rfl)⟩
          · replace hs := hs.altB 28 false (by kernel_rfl) h77
            refine pures hs 1 [1, 3, 28, 29] [(1, .pointer (some ⟨b55, 0, none⟩)), (3, .int .i64 (x1.f2.length : Int)), (28, .bool false), (29, .pointer (some ⟨b55, 3, none⟩))] (by kernel_rfl) fun a hs => ?_
            refine s_load hs (hw.at_ 0 rfl) 3 (by kernel_rfl) (by kernel_rfl) (v := .bool x1.f3) (by kernel_rfl) fun a hs => ?_
            refine pures hs 1 [1, 3, 28, 31] [(1, .pointer (some ⟨b55, 0, none⟩)), (3, .int .i64 (x1.f2.length : Int)), (28, .bool false), (31, .bool x1.f3)] (by kernel_rfl) fun a hs => ?_
            rcases boolE x1.f3 with h78 | h78
            · replace hs := hs.altB 31 true (by kernel_rfl) h78
              refine pures hs 3 [1, 28, 31, 34] [(1, .pointer (some ⟨b55, 0, none⟩)), (28, .bool false), (31, .bool true), (34, .bool (decide ((x1.f2.length : Int) < 2)))] (by kernel_rfl) fun a hs => ?_
              rcases boolE (decide ((x1.f2.length : Int) < 2)) with h79 | h79
              · replace hs := hs.altB 34 true (by kernel_rfl) h79
                refine pures hs 7 [1, 21] [(1, .pointer (some ⟨b55, 0, none⟩)), (21, .bool true)] (by kernel_rfl) fun a hs => ?_
                refine s_end ?_
                exact (hJ75 _ _).2 ⟨(hs.altB 21 ((decide ((x1.f2.length : Int) < 1)) || ((decide ((x1.f2.length : Int) > 5)) || (x1.f3 && ((decide ((x1.f2.length : Int) < 2)) || (x1.f4 != 0))))) (by kernel_rfl) (by rw [h76, h77, h78, h79] <;> rfl)).cast [1, 21] (by kernel_rfl), hw.pick [0, 1] (by kernel_rfl)⟩
              · replace hs := hs.altB 34 false (by kernel_rfl) h79
                refine pures hs 1 [1, 28, 31, 34, 35] [(1, .pointer (some ⟨b55, 0, none⟩)), (28, .bool false), (31, .bool true), (34, .bool false), (35, .pointer (some ⟨b55, 4, none⟩))] (by kernel_rfl) fun a hs => ?_
                refine s_load hs (hw.at_ 0 rfl) 4 (by kernel_rfl) (by kernel_rfl) (v := .int .i64 x1.f4) (by kernel_rfl) fun a hs => ?_
                refine pures hs 5 [1, 21] [(1, .pointer (some ⟨b55, 0, none⟩)), (21, .bool (x1.f4 != 0))] (by kernel_rfl) fun a hs => ?_
                refine s_end ?_
                exact (hJ75 _ _).2 ⟨(hs.altB 21 ((decide ((x1.f2.length : Int) < 1)) || ((decide ((x1.f2.length : Int) > 5)) || (x1.f3 && ((decide ((x1.f2.length : Int) < 2)) || (x1.f4 != 0))))) (by kernel_rfl) (by rw [h76, h77, h78, h79] <;> rfl)).cast [1, 21] (by kernel_rfl), hw.pick [0, 1] (by kernel_rfl)⟩
            · replace hs := hs.altB 31 false (by kernel_rfl) h78
              refine pures hs 10 [1, 21] [(1, .pointer (some ⟨b55, 0, none⟩)), (21, .bool false)] (by kernel_rfl) fun a hs => ?_
              refine s_end ?_
              exact (hJ75 _ _).2 ⟨(hs.altB 21 ((decide ((x1.f2.length : Int) < 1)) || ((decide ((x1.f2.length : Int) > 5)) || (x1.f3 && ((decide ((x1.f2.length : Int) < 2)) || (x1.f4 != 0))))) (by kernel_rfl) (by rw [h76, h77, h78] <;> rfl)).cast [1, 21] (by kernel_rfl), hw.pick [0, 1] (by kernel_rfl)⟩
      · intro a w hh
        obtain ⟨hs, hw⟩ := (hJ75 _ _).1 hh
        rcases ifbE hk with ⟨h80, hk⟩ | ⟨h80, hk⟩
        · refine c_cond1 hs (by kernel_rfl) (t := ((decide ((x1.f2.length : Int) < 1)) || ((decide ((x1.f2.length : Int) > 5)) || (x1.f3 && ((decide ((x1.f2.length : Int) < 2)) || (x1.f4 != 0)))))) (by kernel_rfl) h80 ?_
          refine c_seq ?_
          refine c_region ?_
          refine pures hs 1 [2] [(2, .bool false)] (by kernel_rfl) fun a hs => ?_
          refine s_end ?_
          refine wp_ret ?_
          obtain rfl := someE hk
          refine hQ _ _ (f_ret1 hs rfl (v := .bool false) (by kernel_rfl) ⟨rfl, hw.pick [1] (by kernel_rfl)⟩)
        · refine c_cond0 hs (by kernel_rfl) (t := ((decide ((x1.f2.length : Int) < 1)) || ((decide ((x1.f2.length : Int) > 5)) || (x1.f3 && ((decide ((x1.f2.length : Int) < 2)) || (x1.f4 != 0)))))) (by kernel_rfl) h80 ?_
          refine wp_skip ?_
          refine c_seq ?_
          refine c_region ?_
          refine s_load hs (hw.at_ 0 rfl) 0 (by kernel_rfl) (by kernel_rfl) (v := .agg #[.int .i64 x1.f0, .int .u64 x1.f1, .slice p2 x1.f2.length c3, .bool x1.f3, .int .i64 x1.f4]) (by kernel_rfl) fun a hs => ?_
          obtain ⟨y90, h91, hk⟩ := bindE hk
          refine s_call hs (by kernel_rfl) (by kernel_rfl) (conf_everybody_s h91 h4 ((hw.pick [1] (by kernel_rfl)).pack 0)) fun a w v hv hs => ?_
          obtain ⟨p92, c93, d95, rfl, hw, h94⟩ := hv
          replace hw := hw.unpack 1 rfl
          obtain ⟨y97, h98, hk⟩ := bindE hk
          refine s_call hs (by kernel_rfl) (by kernel_rfl) (conf_unlike_s h98 h94.read (memF 0 rfl) ((hw.pick [0, 1] (by kernel_rfl)).pack 0)) fun a w v hv hs => ?_
          obtain ⟨rfl, hw⟩ := hv
          replace hw := hw.unpack 0 rfl
          refine pures hs 1 [2] [(2, .bool y97)] (by kernel_rfl) fun a hs => ?_
          refine s_end ?_
          refine wp_ret ?_
          obtain rfl := someE hk
          refine hQ _ _ (f_ret1 hs rfl (v := .bool y97) (by kernel_rfl) ⟨rfl, hw.pick [1] (by kernel_rfl)⟩)
def conf_All_r10 (k : Nat) (x494 : List Int) : Option Bool :=
  (conf_unlike k x494).bind fun y502 =>
  some y502
def conf_All_r12 (rec_conf_All_l11 : (List Int) → Int → Option (Sum Bool (List Int))) (x518 : M53) (x427 : List Int) (x433 : Int) (x533 : Bool) : Option (Sum Bool (List Int)) :=
  if x533 = true then some (.inl false)
  else (conf_everybody x518).bind fun y548 =>
  (app x427 y548).bind fun x555 =>
  rec_conf_All_l11 x555 (IntKind.i64.wrap (x433 + 1))
def conf_All_l11 (k : Nat) (x1 : List M53) : Nat → (List Int) → Int → Option (Sum Bool (List Int))
  | 0, _, _ => none
  | j + 1, x427, x433 =>
    if (decide (x433 < (x1.length : Int))) = true then (
      (ix x1 x433).bind fun x518 =>
      (if (x518.f0 != x433) = true then some true
        else (conf_Right k x518).bind fun y565 =>
        some (!y565) : Option Bool).bind fun s567 => conf_All_r12 (conf_All_l11 k x1 j) x518 x427 x433 s567)
    else some (.inr x427)
def conf_All (k : Nat) (x1 : List M53) : Option Bool :=
  if ((decide ((x1.length : Int) < 1)) || (decide ((x1.length : Int) > 4))) = true then some false
  else (conf_All_l11 k x1 k ([]) 0 : Option (Sum Bool (List Int))).bind fun
    | .inl z => some z
    | .inr s570 => conf_All_r10 k s570
theorem conf_All_s {k : Nat} {x1 : List M53} {p2 : Option Addr} {c3 : Nat} {d5 : Ch} {r : Bool} (hk : conf_All k x1 = some r) {g w : World} {F : Ch} {ih : IH} (h4 : RSl e53 ih d5 p2 c3 x1) (h6 : ∀ q ∈ d5, q ∈ F) (hw : St g w [F] ih) :
    CallsR Try.prog 92 #[.slice p2 x1.length c3] w fun v w' => v = .bool r ∧ St g w' [F] ih := by
  refine f_in (vs := [.slice p2 x1.length c3]) Try.func92 rfl 37 rfl (by kernel_rfl) [(0, .slice p2 x1.length c3)] (by kernel_rfl) fun a Qf hQ hQn hs => ?_
  refine c_seq ?_
  refine c_region ?_
  refine pures hs 1 [0] [(0, .slice p2 x1.length c3)] (by kernel_rfl) fun a hs => ?_
  refine s_end ?_
  refine c_seq ?_
  refine c_seq ?_
  obtain ⟨J293, hJ293⟩ : ∃ J : Act → World → Prop, ∀ a w, J a w ↔ (Sees a 37 [(0, .slice p2 x1.length c3), (13, .bool ((decide ((x1.length : Int) < 1)) || (decide ((x1.length : Int) > 4))))] ∧ St g w [F] ih) := ⟨_, fun _ _ => Iff.rfl⟩
  refine c_regJ J293 ?_ ?_
  · refine pures hs 4 [0, 9] [(0, .slice p2 x1.length c3), (9, .bool (decide ((x1.length : Int) < 1)))] (by kernel_rfl) fun a hs => ?_
    rcases boolE (decide ((x1.length : Int) < 1)) with h294 | h294
    · replace hs := hs.altB 9 true (by kernel_rfl) h294
      refine pures hs 4 [0, 13] [(0, .slice p2 x1.length c3), (13, .bool true)] (by kernel_rfl) fun a hs => ?_
      refine s_end ?_
      exact (hJ293 _ _).2 ⟨(hs.altB 13 ((decide ((x1.length : Int) < 1)) || (decide ((x1.length : Int) > 4))) (by kernel_rfl) (by rw [h294] <;> rfl)).cast [0, 13] (by kernel_rfl), hw.pick [0] (by kernel_rfl)⟩
    · replace hs := hs.altB 9 false (by kernel_rfl) h294
      refine pures hs 4 [0, 13] [(0, .slice p2 x1.length c3), (13, .bool (decide ((x1.length : Int) > 4)))] (by kernel_rfl) fun a hs => ?_
      refine s_end ?_
      exact (hJ293 _ _).2 ⟨(hs.altB 13 ((decide ((x1.length : Int) < 1)) || (decide ((x1.length : Int) > 4))) (by kernel_rfl) (by rw [h294] <;> rfl)).cast [0, 13] (by kernel_rfl), hw.pick [0] (by kernel_rfl)⟩
  · intro a w hh
    obtain ⟨hs, hw⟩ := (hJ293 _ _).1 hh
    rcases ifbE hk with ⟨h295, hk⟩ | ⟨h295, hk⟩
    · refine c_cond1 hs (by kernel_rfl) (t := ((decide ((x1.length : Int) < 1)) || (decide ((x1.length : Int) > 4)))) (by kernel_rfl) h295 ?_
      refine c_seq ?_
      refine c_region ?_
      refine pures hs 1 [2] [(2, .bool false)] (by kernel_rfl) fun a hs => ?_
      refine s_end ?_
      refine wp_ret ?_
      obtain rfl := someE hk
      refine hQ _ _ (f_ret1 hs rfl (v := .bool false) (by kernel_rfl) ⟨rfl, hw.pick [0] (by kernel_rfl)⟩)
    · refine c_cond0 hs (by kernel_rfl) (t := ((decide ((x1.length : Int) < 1)) || (decide ((x1.length : Int) > 4)))) (by kernel_rfl) h295 ?_
      refine wp_skip ?_
      refine c_seq ?_
      refine c_region ?_
      refine pures hs 1 [0, 3] [(0, .slice p2 x1.length c3), (3, .slice none 0 0)] (by kernel_rfl) fun a hs => ?_
      refine s_end ?_
      refine c_seq ?_
      refine c_seq ?_
      refine c_region ?_
      refine pures hs 3 [3, 14, 15, 16] [(3, .slice none 0 0), (14, .slice p2 x1.length c3), (15, .int .i64 (x1.length : Int)), (16, .int .i64 0)] (by kernel_rfl) fun a hs => ?_
      refine s_end ?_
      refine c_block ?_
      obtain ⟨y504, hx505, hk⟩ := bindE hk
      replace hw := hw.nil
      obtain ⟨J506, hJ506⟩ : ∃ J : Act → World → Prop, ∀ a w, J a w ↔ (∃ (x494 : List Int) (p495 : Option Addr) (c496 : Nat) (d498 : Ch), conf_All_r10 k x494 = some r ∧ Sees a 37 [(3, .slice p495 x494.length c496)] ∧ St g w [d498, F] ih ∧ OSl e3 ih p495 c496 x494 d498) := ⟨_, fun _ _ => Iff.rfl⟩
      obtain ⟨I507, hI507⟩ : ∃ J : Nat → Act → World → Prop, ∀ j a w, J j a w ↔ (∃ (x427 : List Int) (x433 : Int) (p428 : Option Addr) (c429 : Nat) (d431 : Ch), conf_All_l11 k x1 j x427 x433 = some y504 ∧ Sees a 37 [(3, .slice p428 x427.length c429), (14, .slice p2 x1.length c3), (15, .int .i64 (x1.length : Int)), (16, .int .i64 x433)] ∧ St g w [d431, F] ih ∧ OSl e3 ih p428 c429 x427 d431) := ⟨_, fun _ _ _ => Iff.rfl⟩
      refine c_exitJ 0 J506 ?_ ?_
      · refine c_loop I507 k ((hI507 _ _ _).2 ⟨([]), 0, none, 0, ([]), hx505, hs.cast [3, 14, 15, 16] (by kernel_rfl), hw.pick [0, 1] (by kernel_rfl), (OSl.nil _ _)⟩) (fun a w h0 => ?_) fun j a w hh => ?_
        · obtain ⟨_, _, _, _, _, h, _⟩ := (hI507 _ _ _).1 h0
          cases h
        · obtain ⟨x427, x433, p428, c429, d431, hx505, hs, hw, h430⟩ := (hI507 _ _ _).1 hh
          refine c_seq ?_
          refine c_region ?_
          refine pures hs 1 [3, 14, 15, 16, 17] [(3, .slice p428 x427.length c429), (14, .slice p2 x1.length c3), (15, .int .i64 (x1.length : Int)), (16, .int .i64 x433), (17, .bool (decide (x433 < (x1.length : Int))))] (by kernel_rfl) fun a hs => ?_
          refine s_end ?_
          refine c_seq ?_
          rcases ifbE hx505 with ⟨h508, hx505⟩ | ⟨h508, hx505⟩
          · refine c_cond1 hs (by kernel_rfl) (t := (decide (x433 < (x1.length : Int)))) (by kernel_rfl) h508 ?_
            refine wp_skip ?_
            refine c_seq ?_
            refine c_block ?_
            refine c_seq ?_
            refine c_region ?_
            refine pures hs 1 [3, 14, 15, 16, 18] [(3, .slice p428 x427.length c429), (14, .slice p2 x1.length c3), (15, .int .i64 (x1.length : Int)), (16, .int .i64 x433), (18, .int .i64 x433)] (by kernel_rfl) fun a hs => ?_
            obtain ⟨x518, h519, hx505⟩ := bindE hx505
            refine s_index hs h4 (by kernel_rfl) (by kernel_rfl) (k := .i64) (by kernel_rfl) 53 (by kernel_rfl) (by kernel_rfl) h519 fun a r520 cs henc at521 hs => ?_
            obtain ⟨p522, c523, rfl, h524⟩ := henc
            refine s_load hs (at521 _ (((hw.vw 1 rfl).sub h6).anti (Le.refl _))) 0 (by kernel_rfl) (by kernel_rfl) (v := .agg #[.int .i64 x518.f0, .int .u64 x518.f1, .slice p522 x518.f2.length c523, .bool x518.f3, .int .i64 x518.f4]) (by kernel_rfl) fun a hs => ?_
            refine s_new hs hw [.int .i64 0, .int .u64 0, .slice none 0 0, .bool false, .int .i64 0] 53 (fun b => .pointer (some ⟨b, 0, none⟩)) (by kernel_rfl) (fun _ => by kernel_rfl) fun a w b525 hs hw => ?_
            refine pures hs 1 [3, 14, 15, 16, 20, 5, 4] [(3, .slice p428 x427.length c429), (14, .slice p2 x1.length c3), (15, .int .i64 (x1.length : Int)), (16, .int .i64 x433), (20, .agg #[.int .i64 x518.f0, .int .u64 x518.f1, .slice p522 x518.f2.length c523, .bool x518.f3, .int .i64 x518.f4]), (5, .pointer (some ⟨b525, 0, none⟩)), (4, .int .i64 x433)] (by kernel_rfl) fun a hs => ?_
            refine s_store hs hw 0 rfl 0 (by kernel_rfl) (by kernel_rfl) (v := .agg #[.int .i64 x518.f0, .int .u64 x518.f1, .slice p522 x518.f2.length c523, .bool x518.f3, .int .i64 x518.f4]) (by kernel_rfl) (by kernel_rfl) (by kernel_rfl) (by kernel_rfl) fun a w hs hw => ?_
            refine s_end ?_
            refine c_seq ?_
            refine c_seq ?_
            obtain ⟨y561, hx562, hx505⟩ := bindE hx505
            obtain ⟨J563, hJ563⟩ : ∃ J : Act → World → Prop, ∀ a w, J a w ↔ (∃ (x533 : Bool), conf_All_r12 (conf_All_l11 k x1 j) x518 x427 x433 x533 = some y504 ∧ Sees a 37 [(3, .slice p428 x427.length c429), (14, .slice p2 x1.length c3), (15, .int .i64 (x1.length : Int)), (16, .int .i64 x433), (5, .pointer (some ⟨b525, 0, none⟩)), (29, .bool x533)] ∧ St g w [bx b525 [.int .i64 x518.f0, .int .u64 x518.f1, .slice p522 x518.f2.length c523, .bool x518.f3, .int .i64 x518.f4] 53, d431, F] ih) := ⟨_, fun _ _ => Iff.rfl⟩
            refine c_regJ J563 ?_ ?_
            · refine pures hs 1 [3, 14, 15, 16, 5, 4, 21] [(3, .slice p428 x427.length c429), (14, .slice p2 x1.length c3), (15, .int .i64 (x1.length : Int)), (16, .int .i64 x433), (5, .pointer (some ⟨b525, 0, none⟩)), (4, .int .i64 x433), (21, .pointer (some ⟨b525, 0, none⟩))] (by kernel_rfl) fun a hs => ?_
              refine s_load hs (hw.at_ 0 rfl) 0 (by kernel_rfl) (by kernel_rfl) (v := .int .i64 x518.f0) (by kernel_rfl) fun a hs => ?_
              refine pures hs 3 [3, 14, 15, 16, 5, 25] [(3, .slice p428 x427.length c429), (14, .slice p2 x1.length c3), (15, .int .i64 (x1.length : Int)), (16, .int .i64 x433), (5, .pointer (some ⟨b525, 0, none⟩)), (25, .bool (x518.f0 != x433))] (by kernel_rfl) fun a hs => ?_
              rcases ifbE hx562 with ⟨h564, hx562⟩ | ⟨h564, hx562⟩
              · replace hs := hs.altB 25 true (by kernel_rfl) h564
                refine pures hs 4 [3, 14, 15, 16, 5, 29] [(3, .slice p428 x427.length c429), (14, .slice p2 x1.length c3), (15, .int .i64 (x1.length : Int)), (16, .int .i64 x433), (5, .pointer (some ⟨b525, 0, none⟩)), (29, .bool true)] (by kernel_rfl) fun a hs => ?_
                refine s_end ?_
                obtain rfl := someE hx562
                exact (hJ563 _ _).2 ⟨true, hx505, hs.cast [3, 14, 15, 16, 5, 29] (by kernel_rfl), hw.pick [0, 1, 2] (by kernel_rfl)⟩
              · replace hs := hs.altB 25 false (by kernel_rfl) h564
                refine s_load hs (hw.at_ 0 rfl) 0 (by kernel_rfl) (by kernel_rfl) (v := .agg #[.int .i64 x518.f0, .int .u64 x518.f1, .slice p522 x518.f2.length c523, .bool x518.f3, .int .i64 x518.f4]) (by kernel_rfl) fun a hs => ?_
                obtain ⟨y565, h566, hx562⟩ := bindE hx562
                refine s_call hs (by kernel_rfl) (by kernel_rfl) (conf_Right_s h566 h524 ((hw.pick [0, 1, 2] (by kernel_rfl)).pack 0)) fun a w v hv hs => ?_
                obtain ⟨rfl, hw⟩ := hv
                replace hw := hw.unpack 0 rfl
                refine pures hs 2 [3, 14, 15, 16, 5, 29] [(3, .slice p428 x427.length c429), (14, .slice p2 x1.length c3), (15, .int .i64 (x1.length : Int)), (16, .int .i64 x433), (5, .pointer (some ⟨b525, 0, none⟩)), (29, .bool (!y565))] (by kernel_rfl) fun a hs => ?_
                refine s_end ?_
                obtain rfl := someE hx562
                exact (hJ563 _ _).2 ⟨(!y565), hx505, hs.cast [3, 14, 15, 16, 5, 29] (by kernel_rfl), hw.pick [0, 1, 2] (by kernel_rfl)⟩
            · intro a w hh
              obtain ⟨x533, hx505, hs, hw⟩ := (hJ563 _ _).1 hh
              rcases ifbE hx505 with ⟨h534, hx505⟩ | ⟨h534, hx505⟩
              · refine c_cond1 hs (by kernel_rfl) (t := x533) (by kernel_rfl) h534 ?_
                refine c_seq ?_
                refine c_region ?_
                refine pures hs 1 [2] [(2, .bool false)] (by kernel_rfl) fun a hs => ?_
                refine s_end ?_
                refine wp_ret ?_
                obtain rfl := someE hx505
                obtain rfl := someE hk
                refine hQ _ _ (f_ret1 hs rfl (v := .bool false) (by kernel_rfl) ⟨rfl, hw.pick [2] (by kernel_rfl)⟩)
              · refine c_cond0 hs (by kernel_rfl) (t := x533) (by kernel_rfl) h534 ?_
                refine wp_skip ?_
                refine c_region ?_
                refine pures hs 1 [14, 15, 16, 5, 30] [(14, .slice p2 x1.length c3), (15, .int .i64 (x1.length : Int)), (16, .int .i64 x433), (5, .pointer (some ⟨b525, 0, none⟩)), (30, .slice p428 x427.length c429)] (by kernel_rfl) fun a hs => ?_
                refine s_load hs (hw.at_ 0 rfl) 0 (by kernel_rfl) (by kernel_rfl) (v := .agg #[.int .i64 x518.f0, .int .u64 x518.f1, .slice p522 x518.f2.length c523, .bool x518.f3, .int .i64 x518.f4]) (by kernel_rfl) fun a hs => ?_
                obtain ⟨y548, h549, hx505⟩ := bindE hx505
                refine s_call hs (by kernel_rfl) (by kernel_rfl) (conf_everybody_s h549 h524 ((hw.pick [1, 2] (by kernel_rfl)).pack 0)) fun a w v hv hs => ?_
                obtain ⟨p550, c551, d553, rfl, hw, h552⟩ := hv
                replace hw := hw.unpack 1 rfl
                obtain ⟨x555, h556, hx505⟩ := bindE hx505
                refine s_appS hs hw (E := e3) appT40 1 rfl h430 (by kernel_rfl) (by kernel_rfl) (h552.read.mono (Le.refl _)) ((hw.vw 0 rfl).anti (Le.refl _)) (by kernel_rfl) h556 fun a w p557 c558 d559 h560 hw hs => ?_
                refine pures hs 1 [14, 15, 16, 3] [(14, .slice p2 x1.length c3), (15, .int .i64 (x1.length : Int)), (16, .int .i64 x433), (3, .slice p557 x555.length c558)] (by kernel_rfl) fun a hs => ?_
                refine s_end ?_
                refine c_region ?_
                refine pures hs 2 [14, 15, 16, 3] [(14, .slice p2 x1.length c3), (15, .int .i64 (x1.length : Int)), (16, .int .i64 (IntKind.i64.wrap (x433 + 1))), (3, .slice p557 x555.length c558)] (by kernel_rfl) fun a hs => ?_
                refine s_end ?_
                exact (hI507 _ _ _).2 ⟨x555, (IntKind.i64.wrap (x433 + 1)), p557, c558, d559, hx505, hs.cast [3, 14, 15, 16] (by kernel_rfl), hw.pick [1, 2] (by kernel_rfl), h560⟩
          · refine c_cond0 hs (by kernel_rfl) (t := (decide (x433 < (x1.length : Int)))) (by kernel_rfl) h508 ?_
            refine wp_exit ?_
            obtain rfl := someE hx505
            exact (hJ506 _ _).2 ⟨x427, p428, c429, d431, hk, hs.cast [3] (by kernel_rfl), hw.pick [0, 1] (by kernel_rfl), h430⟩
      · intro a w hh
        obtain ⟨x494, p495, c496, d498, hk, hs, hw, h497⟩ := (hJ506 _ _).1 hh
        refine c_seq ?_
        refine c_region ?_
        refine pures hs 1 [35] [(35, .slice p495 x494.length c496)] (by kernel_rfl) fun a hs => ?_
        obtain ⟨y502, h503, hk⟩ := bindE hk
        refine s_call hs (by kernel_rfl) (by kernel_rfl) (conf_unlike_s h503 h497.read (memF 0 rfl) ((hw.pick [0, 1] (by kernel_rfl)).pack 0)) fun a w v hv hs => ?_
        obtain ⟨rfl, hw⟩ := hv
        replace hw := hw.unpack 0 rfl
        refine pures hs 1 [2] [(2, .bool y502)] (by kernel_rfl) fun a hs => ?_
        refine s_end ?_
        refine wp_ret ?_
        obtain rfl := someE hk
        refine hQ _ _ (f_ret1 hs rfl (v := .bool y502) (by kernel_rfl) ⟨rfl, hw.pick [1] (by kernel_rfl)⟩)
def conf_own (x1 : M53) : Option M53 :=
  (slices_Clone_int_int x1.f2).bind fun y44 =>
  some (M53.mk x1.f0 x1.f1 y44 x1.f3 x1.f4)
theorem conf_own_s {x1 : M53} {p2 : Option Addr} {c3 : Nat} {r : M53} (hk : conf_own x1 = some r) {g w : World} {F : Ch} {ih : IH} (h4 : RSl e3 ih [] p2 c3 x1.f2) (hw : St g w [F] ih) :
    CallsR Try.prog 112 #[.agg #[.int .i64 x1.f0, .int .u64 x1.f1, .slice p2 x1.f2.length c3, .bool x1.f3, .int .i64 x1.f4]] w fun v w' => ∃ (ih' : IH) (p54 : Option Addr) (c55 : Nat), v = .agg #[.int .i64 r.f0, .int .u64 r.f1, .slice p54 r.f2.length c55, .bool r.f3, .int .i64 r.f4] ∧ St g w' [F] ih' ∧ Le ih ih' ∧ RSl e3 ih' [] p54 c55 r.f2 := by
  refine f_in (vs := [.agg #[.int .i64 x1.f0, .int .u64 x1.f1, .slice p2 x1.f2.length c3, .bool x1.f3, .int .i64 x1.f4]]) Try.func112 rfl 8 rfl (by kernel_rfl) [(0, .agg #[.int .i64 x1.f0, .int .u64 x1.f1, .slice p2 x1.f2.length c3, .bool x1.f3, .int .i64 x1.f4])] (by kernel_rfl) fun a Qf hQ hQn hs => ?_
  refine c_seq ?_
  refine c_region ?_
  refine s_new hs hw [.int .i64 x1.f0, .int .u64 x1.f1, .slice p2 x1.f2.length c3, .bool x1.f3, .int .i64 x1.f4] 53 (fun b => .pointer (some ⟨b, 0, none⟩)) (by kernel_rfl) (fun _ => by kernel_rfl) fun a w b33 hs hw => ?_
  refine s_new hs hw [.int .i64 0, .int .u64 0, .slice none 0 0, .bool false, .int .i64 0] 53 (fun b => .pointer (some ⟨b, 0, none⟩)) (by kernel_rfl) (fun _ => by kernel_rfl) fun a w b35 hs hw => ?_
  refine s_end ?_
  refine c_seq ?_
  refine c_region ?_
  refine pures hs 1 [1, 2, 3] [(1, .pointer (some ⟨b33, 0, none⟩)), (2, .pointer (some ⟨b35, 0, none⟩)), (3, .pointer (some ⟨b33, 2, none⟩))] (by kernel_rfl) fun a hs => ?_
  refine s_load hs (hw.at_ 1 rfl) 2 (by kernel_rfl) (by kernel_rfl) (v := .slice p2 x1.f2.length c3) (by kernel_rfl) fun a hs => ?_
  obtain ⟨y44, h45, hk⟩ := bindE hk
  refine s_call hs (by kernel_rfl) (by kernel_rfl) (slices_Clone_int_int_s h45 h4 (nilSub _) ((hw.pick [0, 1, 2] (by kernel_rfl)).pack 0)) fun a w v hv hs => ?_
  obtain ⟨p46, c47, d49, rfl, hw, h48⟩ := hv
  replace hw := hw.unpack 1 rfl
  refine pures hs 1 [1, 2, 5, 6] [(1, .pointer (some ⟨b33, 0, none⟩)), (2, .pointer (some ⟨b35, 0, none⟩)), (5, .slice p46 y44.length c47), (6, .pointer (some ⟨b33, 2, none⟩))] (by kernel_rfl) fun a hs => ?_
  refine s_store hs hw 2 rfl 2 (by kernel_rfl) (by kernel_rfl) (v := .slice p46 y44.length c47) (by kernel_rfl) (by kernel_rfl) (by kernel_rfl) (by kernel_rfl) fun a w hs hw => ?_
  refine s_end ?_
  refine c_seq ?_
  refine c_region ?_
  refine s_load hs (hw.at_ 2 rfl) 0 (by kernel_rfl) (by kernel_rfl) (v := .agg #[.int .i64 x1.f0, .int .u64 x1.f1, .slice p46 y44.length c47, .bool x1.f3, .int .i64 x1.f4]) (by kernel_rfl) fun a hs => ?_
  refine s_store hs hw 1 rfl 0 (by kernel_rfl) (by kernel_rfl) (v := .agg #[.int .i64 x1.f0, .int .u64 x1.f1, .slice p46 y44.length c47, .bool x1.f3, .int .i64 x1.f4]) (by kernel_rfl) (by kernel_rfl) (by kernel_rfl) (by kernel_rfl) fun a w hs hw => ?_
  refine s_end ?_
  refine wp_ret ?_
  obtain ⟨ih51, hle52, hw, h53⟩ := (hw.pick [0, 1, 2, 3] (by kernel_rfl)).fz (h48.mono (Le.refl _))
  obtain rfl := someE hk
  refine hQ _ _ (f_retC hs rfl (hw.at_ 0 rfl) (by kernel_rfl) (v := .agg #[.int .i64 x1.f0, .int .u64 x1.f1, .slice p46 y44.length c47, .bool x1.f3, .int .i64 x1.f4]) (by kernel_rfl) ⟨ih51, p46, c47, rfl, hw.pick [2] (by kernel_rfl), hle52, h53⟩)
def conf_Copy_r3 (x487 : List M53) : Option (List M53) :=
  some x487
def conf_Copy_l4 (x1 : List M53) : Nat → (List M53) → Int → Option (List M53)
  | 0, _, _ => none
  | j + 1, x421, x427 =>
    if (decide (x427 < (x1.length : Int))) = true then (
      (ix x1 x427).bind fun x507 =>
      (conf_own x507).bind fun y535 =>
      (ix x421 x427).bind fun x542 =>
      conf_Copy_l4 x1 j (x421.set x427.toNat y535) (IntKind.i64.wrap (x427 + 1)))
    else some x421
def conf_Copy (k : Nat) (x1 : List M53) : Option (List M53) :=
  (mkS (M53.mk 0 0 ([]) false 0) (x1.length : Int)).bind fun x289 =>
  (conf_Copy_l4 x1 k x289 0 : Option (List M53)).bind fun s554 => conf_Copy_r3 s554
theorem conf_Copy_s {k : Nat} {x1 : List M53} {p2 : Option Addr} {c3 : Nat} {d5 : Ch} {r : (List M53)} (hk : conf_Copy k x1 = some r) {g w : World} {F : Ch} {ih : IH} (h4 : RSl e53 ih d5 p2 c3 x1) (h6 : ∀ q ∈ d5, q ∈ F) (hw : St g w [F] ih) :
    CallsR Try.prog 94 #[.slice p2 x1.length c3] w fun v w' => ∃ (ih' : IH) (p555 : Option Addr) (c556 : Nat) (d557 : Ch), v = .slice p555 r.length c556 ∧ St g w' [d557, F] ih' ∧ Le ih ih' ∧ OSl e53 ih' p555 c556 r d557 := by
  refine f_in (vs := [.slice p2 x1.length c3]) Try.func94 rfl 23 rfl (by kernel_rfl) [(0, .slice p2 x1.length c3)] (by kernel_rfl) fun a Qf hQ hQn hs => ?_
  refine c_seq ?_
  refine c_region ?_
  refine pures hs 1 [0] [(0, .slice p2 x1.length c3)] (by kernel_rfl) fun a hs => ?_
  refine s_end ?_
  refine c_seq ?_
  refine c_region ?_
  refine pures hs 2 [0, 7] [(0, .slice p2 x1.length c3), (7, .int .i64 (x1.length : Int))] (by kernel_rfl) fun a hs => ?_
  obtain ⟨x289, h290, hk⟩ := bindE hk
  refine s_make hs hw (E := e53) appT79 (by kernel_rfl) (k := .i64) (k' := .i64) (by kernel_rfl) (by kernel_rfl) (z := .agg #[.int .i64 0, .int .u64 0, .slice none 0 0, .bool false, .int .i64 0]) (by kernel_rfl) (u := (M53.mk 0 0 ([]) false 0)) ⟨none, 0, rfl, (RSl.nil _ _ _)⟩ h290 fun a w p291 c292 d293 h294 hw hs => ?_
  refine pures hs 1 [0, 3] [(0, .slice p2 x1.length c3), (3, .slice p291 x289.length c292)] (by kernel_rfl) fun a hs => ?_
  refine s_end ?_
  refine c_seq ?_
  refine c_seq ?_
  refine c_region ?_
  refine pures hs 3 [3, 9, 10, 11] [(3, .slice p291 x289.length c292), (9, .slice p2 x1.length c3), (10, .int .i64 (x1.length : Int)), (11, .int .i64 0)] (by kernel_rfl) fun a hs => ?_
  refine s_end ?_
  refine c_block ?_
  obtain ⟨y493, hx494, hk⟩ := bindE hk
  obtain ⟨J495, hJ495⟩ : ∃ J : Act → World → Prop, ∀ a w, J a w ↔ (∃ (x487 : List M53) (p488 : Option Addr) (c489 : Nat) (d491 : Ch) (ih485 : IH), conf_Copy_r3 x487 = some r ∧ Sees a 23 [(3, .slice p488 x487.length c489)] ∧ St g w [d491, F] ih485 ∧ Le ih ih485 ∧ OSl e53 ih485 p488 c489 x487 d491) := ⟨_, fun _ _ => Iff.rfl⟩
  obtain ⟨I496, hI496⟩ : ∃ J : Nat → Act → World → Prop, ∀ j a w, J j a w ↔ (∃ (x421 : List M53) (x427 : Int) (p422 : Option Addr) (c423 : Nat) (d425 : Ch) (ih419 : IH), conf_Copy_l4 x1 j x421 x427 = some y493 ∧ Sees a 23 [(3, .slice p422 x421.length c423), (9, .slice p2 x1.length c3), (10, .int .i64 (x1.length : Int)), (11, .int .i64 x427)] ∧ St g w [d425, F] ih419 ∧ Le ih ih419 ∧ OSl e53 ih419 p422 c423 x421 d425) := ⟨_, fun _ _ _ => Iff.rfl⟩
  refine c_exitJ 0 J495 ?_ ?_
  · refine c_loop I496 k ((hI496 _ _ _).2 ⟨x289, 0, p291, c292, d293, ih, hx494, hs.cast [3, 9, 10, 11] (by kernel_rfl), hw.pick [0, 1] (by kernel_rfl), (Le.refl _), h294⟩) (fun a w h0 => ?_) fun j a w hh => ?_
    · obtain ⟨_, _, _, _, _, _, h, _⟩ := (hI496 _ _ _).1 h0
      cases h
    · obtain ⟨x421, x427, p422, c423, d425, ih419, hx494, hs, hw, hle420, h424⟩ := (hI496 _ _ _).1 hh
      refine c_seq ?_
      refine c_region ?_
      refine pures hs 1 [3, 9, 10, 11, 12] [(3, .slice p422 x421.length c423), (9, .slice p2 x1.length c3), (10, .int .i64 (x1.length : Int)), (11, .int .i64 x427), (12, .bool (decide (x427 < (x1.length : Int))))] (by kernel_rfl) fun a hs => ?_
      refine s_end ?_
      refine c_seq ?_
      rcases ifbE hx494 with ⟨h497, hx494⟩ | ⟨h497, hx494⟩
      · refine c_cond1 hs (by kernel_rfl) (t := (decide (x427 < (x1.length : Int)))) (by kernel_rfl) h497 ?_
        refine wp_skip ?_
        refine c_seq ?_
        refine c_block ?_
        refine c_seq ?_
        refine c_region ?_
        refine pures hs 1 [3, 9, 10, 11, 13] [(3, .slice p422 x421.length c423), (9, .slice p2 x1.length c3), (10, .int .i64 (x1.length : Int)), (11, .int .i64 x427), (13, .int .i64 x427)] (by kernel_rfl) fun a hs => ?_
        obtain ⟨x507, h508, hx494⟩ := bindE hx494
        refine s_index hs h4 (by kernel_rfl) (by kernel_rfl) (k := .i64) (by kernel_rfl) 53 (by kernel_rfl) (by kernel_rfl) h508 fun a r509 cs henc at510 hs => ?_
        obtain ⟨p511, c512, rfl, h513⟩ := henc
        refine s_load hs (at510 _ (((hw.vw 1 rfl).sub h6).anti hle420)) 0 (by kernel_rfl) (by kernel_rfl) (v := .agg #[.int .i64 x507.f0, .int .u64 x507.f1, .slice p511 x507.f2.length c512, .bool x507.f3, .int .i64 x507.f4]) (by kernel_rfl) fun a hs => ?_
        refine s_new hs hw [.int .i64 0, .int .u64 0, .slice none 0 0, .bool false, .int .i64 0] 53 (fun b => .pointer (some ⟨b, 0, none⟩)) (by kernel_rfl) (fun _ => by kernel_rfl) fun a w b514 hs hw => ?_
        refine pures hs 1 [3, 9, 10, 11, 15, 5, 4] [(3, .slice p422 x421.length c423), (9, .slice p2 x1.length c3), (10, .int .i64 (x1.length : Int)), (11, .int .i64 x427), (15, .agg #[.int .i64 x507.f0, .int .u64 x507.f1, .slice p511 x507.f2.length c512, .bool x507.f3, .int .i64 x507.f4]), (5, .pointer (some ⟨b514, 0, none⟩)), (4, .int .i64 x427)] (by kernel_rfl) fun a hs => ?_
        refine s_store hs hw 0 rfl 0 (by kernel_rfl) (by kernel_rfl) (v := .agg #[.int .i64 x507.f0, .int .u64 x507.f1, .slice p511 x507.f2.length c512, .bool x507.f3, .int .i64 x507.f4]) (by kernel_rfl) (by kernel_rfl) (by kernel_rfl) (by kernel_rfl) fun a w hs hw => ?_
        refine s_end ?_
        refine c_region ?_
        refine pures hs 2 [3, 9, 10, 11, 5, 16, 17] [(3, .slice p422 x421.length c423), (9, .slice p2 x1.length c3), (10, .int .i64 (x1.length : Int)), (11, .int .i64 x427), (5, .pointer (some ⟨b514, 0, none⟩)), (16, .slice p422 x421.length c423), (17, .int .i64 x427)] (by kernel_rfl) fun a hs => ?_
        refine s_load hs (hw.at_ 0 rfl) 0 (by kernel_rfl) (by kernel_rfl) (v := .agg #[.int .i64 x507.f0, .int .u64 x507.f1, .slice p511 x507.f2.length c512, .bool x507.f3, .int .i64 x507.f4]) (by kernel_rfl) fun a hs => ?_
        obtain ⟨y535, h536, hx494⟩ := bindE hx494
        refine s_call hs (by kernel_rfl) (by kernel_rfl) (conf_own_s h536 (h513.mono hle420) ((hw.pick [1, 2] (by kernel_rfl)).pack 0)) fun a w v hv hs => ?_
        obtain ⟨ih537, p539, c540, rfl, hw, hle538, h541⟩ := hv
        replace hw := hw.unpack 0 rfl
        obtain ⟨x542, h543, hx494⟩ := bindE hx494
        refine s_indexO hs h424 (by kernel_rfl) (by kernel_rfl) (k := .i64) (by kernel_rfl) 53 (by kernel_rfl) (by kernel_rfl) h543 fun a r544 cs henc at545 h549 hs => ?_
        obtain ⟨p546, c547, rfl, h548⟩ := henc
        refine s_storeE hs hw 0 rfl (h424.mono hle538) h549 y535 h543 0 (by kernel_rfl) (by kernel_rfl) (v := .agg #[.int .i64 y535.f0, .int .u64 y535.f1, .slice p539 y535.f2.length c540, .bool y535.f3, .int .i64 y535.f4]) (by kernel_rfl) (by kernel_rfl) (by kernel_rfl) (by kernel_rfl) ⟨p546, c547, rfl, (h548.mono hle538)⟩ (fun w hv => at545 w (hv.anti hle538)) ⟨p539, c540, rfl, h541⟩ fun a w d550 h551 hw hs => ?_
        have h553 : x421.length = (x421.set x427.toNat y535).length := List.length_set.symm
        try rw [h553] at hs
        try rw [h553] at hw
        refine s_end ?_
        refine c_region ?_
        refine pures hs 2 [3, 9, 10, 11] [(3, .slice p422 (x421.set x427.toNat y535).length c423), (9, .slice p2 x1.length c3), (10, .int .i64 (x1.length : Int)), (11, .int .i64 (IntKind.i64.wrap (x427 + 1)))] (by kernel_rfl) fun a hs => ?_
        refine s_end ?_
        exact (hI496 _ _ _).2 ⟨(x421.set x427.toNat y535), (IntKind.i64.wrap (x427 + 1)), p422, c423, d550, ih537, hx494, hs.cast [3, 9, 10, 11] (by kernel_rfl), hw.pick [0, 1] (by kernel_rfl), (hle420.trans hle538), h551⟩
      · refine c_cond0 hs (by kernel_rfl) (t := (decide (x427 < (x1.length : Int)))) (by kernel_rfl) h497 ?_
        refine wp_exit ?_
        obtain rfl := someE hx494
        exact (hJ495 _ _).2 ⟨x421, p422, c423, d425, ih419, hk, hs.cast [3] (by kernel_rfl), hw.pick [0, 1] (by kernel_rfl), hle420, h424⟩
  · intro a w hh
    obtain ⟨x487, p488, c489, d491, ih485, hk, hs, hw, hle486, h490⟩ := (hJ495 _ _).1 hh
    refine c_seq ?_
    refine c_region ?_
    refine pures hs 2 [2] [(2, .slice p488 x487.length c489)] (by kernel_rfl) fun a hs => ?_
    refine s_end ?_
    refine wp_ret ?_
    obtain rfl := someE hk
    refine hQ _ _ (f_ret1 hs rfl (v := .slice p488 x487.length c489) (by kernel_rfl) ⟨ih485, p488, c489, d491, rfl, hw.pick [0, 1] (by kernel_rfl), hle486, h490⟩)
def latch_Of_int (x3 : Int) : Option (Int × Int × Int × Int × (List (List Int))) :=
  some (0, 0, 0, 0, [])
theorem latch_Of_int_s {x3 : Int} {b1 : Nat} {r : Int × Int × Int × Int × (List (List Int))} (hk : latch_Of_int x3 = some r) {g w : World} {F : Ch} {ih : IH} (hw : St g w [bx b1 [.int .i64 x3] 3, F] ih) :
    CallsR Try.prog 95 #[.func (.func 93) #[] #[.pointer (some ⟨b1, 0, none⟩)]] w fun v w' => ∃ (b16 : Nat) (p17 : Option Addr) (c18 : Nat) (d19 : Ch), v = .pointer (some ⟨b16, 0, none⟩) ∧ St g w' [bx b16 [.int .u32 r.1, .int .i32 r.2.1, .int .u32 r.2.2.1, .func (.func 93) #[] #[.pointer (some ⟨b1, 0, none⟩)], .int .i32 r.2.2.2.1, .slice p17 r.2.2.2.2.length c18] 157, d19, bx b1 [.int .i64 x3] 3, F] ih ∧ OSl e40 ih p17 c18 r.2.2.2.2 d19 := by
  refine f_in (vs := [.func (.func 93) #[] #[.pointer (some ⟨b1, 0, none⟩)]]) Try.func95 rfl 6 rfl (by kernel_rfl) [(0, .func (.func 93) #[] #[.pointer (some ⟨b1, 0, none⟩)])] (by kernel_rfl) fun a Qf hQ hQn hs => ?_
  refine c_seq ?_
  refine c_region ?_
  refine pures hs 1 [0] [(0, .func (.func 93) #[] #[.pointer (some ⟨b1, 0, none⟩)])] (by kernel_rfl) fun a hs => ?_
  refine s_end ?_
  refine c_seq ?_
  refine c_region ?_
  refine pures hs 2 [4] [(4, .agg #[.int .u32 0, .int .i32 0, .int .u32 0, .func (.func 93) #[] #[.pointer (some ⟨b1, 0, none⟩)], .int .i32 0, .slice none 0 0])] (by kernel_rfl) fun a hs => ?_
  refine s_new hs hw [.int .u32 0, .int .i32 0, .int .u32 0, .func (.func 93) #[] #[.pointer (some ⟨b1, 0, none⟩)], .int .i32 0, .slice none 0 0] 157 (fun b => .pointer (some ⟨b, 0, none⟩)) (by kernel_rfl) (fun _ => by kernel_rfl) fun a w b12 hs hw => ?_
  refine pures hs 1 [2] [(2, .pointer (some ⟨b12, 0, none⟩))] (by kernel_rfl) fun a hs => ?_
  refine s_end ?_
  refine wp_ret ?_
  replace hw := hw.nil
  obtain rfl := someE hk
  refine hQ _ _ (f_ret1 hs rfl (v := .pointer (some ⟨b12, 0, none⟩)) (by kernel_rfl) ⟨b12, none, 0, ([]), rfl, hw.pick [1, 0, 2, 3] (by kernel_rfl), (OSl.nil _ _)⟩)
def atlas_New (k : Nat) (x1 : List M53) : Option (Sum Int ((List M53) × Int × Int × Int × Int × Int × (List (List Int)) × Int)) :=
  (conf_All k x1).bind fun y66 =>
  if (!y66) = true then some (.inl 1)
  else (conf_Copy k x1).bind fun y96 =>
  (latch_Of_int (x1.length : Int)).bind fun y105 =>
  some (.inr (y96, y105.1, y105.2.1, y105.2.2.1, (x1.length : Int), y105.2.2.2.1, y105.2.2.2.2, 0))
theorem atlas_New_s {k : Nat} {x1 : List M53} {p2 : Option Addr} {c3 : Nat} {d5 : Ch} {r : Sum Int ((List M53) × Int × Int × Int × Int × Int × (List (List Int)) × Int)} (hk : atlas_New k x1 = some r) {g w : World} {F : Ch} {ih : IH} (h4 : RSl e53 ih d5 p2 c3 x1) (h6 : ∀ q ∈ d5, q ∈ F) (hw : St g w [F] ih) :
    CallsR Try.prog 55 #[.slice p2 x1.length c3] w fun v w' => (∃ r0 : Int, r = .inl r0 ∧ ∃ (ih' : IH), v = .tuple #[.pointer none, .int .i64 r0] ∧ St g w' [F] ih' ∧ Le ih ih') ∨ (∃ r1 : (List M53) × Int × Int × Int × Int × Int × (List (List Int)) × Int, r = .inr r1 ∧ ∃ (ih' : IH) (b119 : Nat) (p120 : Option Addr) (c121 : Nat) (b122 : Nat) (b123 : Nat) (p124 : Option Addr) (c125 : Nat) (d126 : Ch), v = .tuple #[.pointer (some ⟨b119, 0, none⟩), .int .i64 r1.2.2.2.2.2.2.2] ∧ St g w' [bx b119 [.slice p120 r1.1.length c121, .pointer (some ⟨b122, 0, none⟩)] 125, bx b122 [.int .u32 r1.2.1, .int .i32 r1.2.2.1, .int .u32 r1.2.2.2.1, .func (.func 93) #[] #[.pointer (some ⟨b123, 0, none⟩)], .int .i32 r1.2.2.2.2.2.1, .slice p124 r1.2.2.2.2.2.2.1.length c125] 157, bx b123 [.int .i64 r1.2.2.2.2.1] 3, d126, F] ih' ∧ Le ih ih' ∧ RSl e53 ih' [] p120 c121 r1.1 ∧ OSl e40 ih' p124 c125 r1.2.2.2.2.2.2.1 d126) := by
  refine f_in (vs := [.slice p2 x1.length c3]) Try.func55 rfl 18 rfl (by kernel_rfl) [(0, .slice p2 x1.length c3)] (by kernel_rfl) fun a Qf hQ hQn hs => ?_
  refine c_seq ?_
  refine c_region ?_
  refine pures hs 2 [0] [(0, .slice p2 x1.length c3)] (by kernel_rfl) fun a hs => ?_
  refine s_end ?_
  refine c_seq ?_
  refine c_seq ?_
  refine c_region ?_
  refine pures hs 1 [0, 6] [(0, .slice p2 x1.length c3), (6, .slice p2 x1.length c3)] (by kernel_rfl) fun a hs => ?_
  obtain ⟨y66, h67, hk⟩ := bindE hk
  refine s_call hs (by kernel_rfl) (by kernel_rfl) (conf_All_s h67 h4 (fun q hq => memF 0 rfl q (h6 q hq)) ((hw.pick [0] (by kernel_rfl)).pack 0)) fun a w v hv hs => ?_
  obtain ⟨rfl, hw⟩ := hv
  replace hw := hw.unpack 0 rfl
  refine pures hs 1 [0, 8] [(0, .slice p2 x1.length c3), (8, .bool (!y66))] (by kernel_rfl) fun a hs => ?_
  refine s_end ?_
  rcases ifbE hk with ⟨h68, hk⟩ | ⟨h68, hk⟩
  · refine c_cond1 hs (by kernel_rfl) (t := (!y66)) (by kernel_rfl) h68 ?_
    refine c_seq ?_
    refine c_region ?_
    refine pures hs 2 [2, 3] [(2, .pointer none), (3, .int .i64 1)] (by kernel_rfl) fun a hs => ?_
    refine s_end ?_
    refine wp_ret ?_
    obtain rfl := someE hk
    refine hQ _ _ (f_retN hs [.tmp 2, .tmp 3] rfl [.pointer none, .int .i64 1] (by kernel_rfl) (by kernel_rfl) (.inl ⟨_, rfl, ⟨ih, rfl, hw.pick [0] (by kernel_rfl), (Le.refl _)⟩⟩))
  · refine c_cond0 hs (by kernel_rfl) (t := (!y66)) (by kernel_rfl) h68 ?_
    refine wp_skip ?_
    refine c_seq ?_
    refine c_region ?_
    refine pures hs 2 [0, 10] [(0, .slice p2 x1.length c3), (10, .int .i64 (x1.length : Int))] (by kernel_rfl) fun a hs => ?_
    refine s_new hs hw [.int .i64 0] 3 (fun b => .pointer (some ⟨b, 0, none⟩)) (by kernel_rfl) (fun _ => by kernel_rfl) fun a w b71 hs hw => ?_
    refine s_store hs hw 0 rfl 0 (by kernel_rfl) (by kernel_rfl) (v := .int .i64 (x1.length : Int)) (by kernel_rfl) (by kernel_rfl) (by kernel_rfl) (by kernel_rfl) fun a w hs hw => ?_
    refine s_end ?_
    refine c_seq ?_
    refine c_region ?_
    refine pures hs 2 [0, 5] [(0, .slice p2 x1.length c3), (5, .func (.func 93) #[] #[.pointer (some ⟨b71, 0, none⟩)])] (by kernel_rfl) fun a hs => ?_
    refine s_end ?_
    refine c_seq ?_
    refine c_region ?_
    refine pures hs 1 [5, 12] [(5, .func (.func 93) #[] #[.pointer (some ⟨b71, 0, none⟩)]), (12, .slice p2 x1.length c3)] (by kernel_rfl) fun a hs => ?_
    obtain ⟨y96, h97, hk⟩ := bindE hk
    refine s_call hs (by kernel_rfl) (by kernel_rfl) (conf_Copy_s h97 h4 (fun q hq => memF 1 rfl q (h6 q hq)) ((hw.pick [0, 1] (by kernel_rfl)).pack 0)) fun a w v hv hs => ?_
    obtain ⟨ih98, p100, c101, d103, rfl, hw, hle99, h102⟩ := hv
    replace hw := hw.unpack 1 rfl
    refine pures hs 1 [13, 14] [(13, .slice p100 y96.length c101), (14, .func (.func 93) #[] #[.pointer (some ⟨b71, 0, none⟩)])] (by kernel_rfl) fun a hs => ?_
    obtain ⟨y105, h106, hk⟩ := bindE hk
    refine s_call hs (by kernel_rfl) (by kernel_rfl) (latch_Of_int_s h106 ((hw.pick [1, 0, 2] (by kernel_rfl)).pack 1)) fun a w v hv hs => ?_
    obtain ⟨b107, p109, c110, d112, rfl, hw, h111⟩ := hv
    replace hw := hw.unpack 3 rfl
    obtain ⟨ih114, hle115, hw, h116⟩ := (hw.pick [3, 0, 1, 2, 4] (by kernel_rfl)).fz (h102.mono (Le.refl _))
    refine pures hs 1 [16] [(16, .agg #[.slice p100 y96.length c101, .pointer (some ⟨b107, 0, none⟩)])] (by kernel_rfl) fun a hs => ?_
    refine s_new hs hw [.slice p100 y96.length c101, .pointer (some ⟨b107, 0, none⟩)] 125 (fun b => .pointer (some ⟨b, 0, none⟩)) (by kernel_rfl) (fun _ => by kernel_rfl) fun a w b117 hs hw => ?_
    refine pures hs 2 [2, 3] [(2, .pointer (some ⟨b117, 0, none⟩)), (3, .int .i64 0)] (by kernel_rfl) fun a hs => ?_
    refine s_end ?_
    refine wp_ret ?_
    obtain rfl := someE hk
    refine hQ _ _ (f_retN hs [.tmp 2, .tmp 3] rfl [.pointer (some ⟨b117, 0, none⟩), .int .i64 0] (by kernel_rfl) (by kernel_rfl) (.inr ⟨_, rfl, ⟨ih114, b117, p100, c101, b107, b71, p109, c110, d112, rfl, hw.pick [0, 1, 3, 2, 4] (by kernel_rfl), (hle99.trans hle115), h116, (h111.mono hle115)⟩⟩))
def atlas_Atlas_Of (x1 : Int) : Option M53 :=
  some (M53.mk 0 0 ([]) false 0)
theorem atlas_Atlas_Of_s {x1 : Int} {r : M53} (hk : atlas_Atlas_Of x1 = some r) {g w : World} {F : Ch} {ih : IH} (hw : St g w [F] ih) :
    CallsR Try.prog 57 #[.pointer none, .int .u32 x1] w fun v w' => ∃ (p12 : Option Addr) (c13 : Nat), v = .agg #[.int .i64 r.f0, .int .u64 r.f1, .slice p12 r.f2.length c13, .bool r.f3, .int .i64 r.f4] ∧ St g w' [F] ih ∧ RSl e3 ih [] p12 c13 r.f2 := by
  refine f_in (vs := [.pointer none, .int .u32 x1]) Try.func57 rfl 16 rfl (by kernel_rfl) [(0, .pointer none), (1, .int .u32 x1)] (by kernel_rfl) fun a Qf hQ hQn hs => ?_
  refine c_seq ?_
  refine c_region ?_
  refine s_new hs hw [.int .i64 0, .int .u64 0, .slice none 0 0, .bool false, .int .i64 0] 53 (fun b => .pointer (some ⟨b, 0, none⟩)) (by kernel_rfl) (fun _ => by kernel_rfl) fun a w b10 hs hw => ?_
  refine s_end ?_
  refine c_seq ?_
  refine c_seq ?_
  refine c_region ?_
  refine pures hs 2 [0, 1, 4, 6] [(0, .pointer none), (1, .int .u32 x1), (4, .pointer (some ⟨b10, 0, none⟩)), (6, .bool true)] (by kernel_rfl) fun a hs => ?_
  refine s_end ?_
  refine c_condT hs (by kernel_rfl) (by kernel_rfl) ?_
  refine c_seq ?_
  refine c_region ?_
  refine pures hs 1 [4, 7] [(4, .pointer (some ⟨b10, 0, none⟩)), (7, .agg #[.int .i64 0, .int .u64 0, .slice none 0 0, .bool false, .int .i64 0])] (by kernel_rfl) fun a hs => ?_
  refine s_store hs hw 0 rfl 0 (by kernel_rfl) (by kernel_rfl) (v := .agg #[.int .i64 0, .int .u64 0, .slice none 0 0, .bool false, .int .i64 0]) (by kernel_rfl) (by kernel_rfl) (by kernel_rfl) (by kernel_rfl) fun a w hs hw => ?_
  refine s_end ?_
  refine wp_ret ?_
  obtain rfl := someE hk
  refine hQ _ _ (f_retC hs rfl (hw.at_ 0 rfl) (by kernel_rfl) (v := .agg #[.int .i64 0, .int .u64 0, .slice none 0 0, .bool false, .int .i64 0]) (by kernel_rfl) ⟨none, 0, rfl, hw.pick [1] (by kernel_rfl), (RSl.nil _ _ _)⟩)
def role_Head (k : Nat) (x1 : M53) : Option Int :=
  (conf_Right k x1).bind fun y30 =>
  if (!y30) = true then some 0
  else (ix x1.f2 0).bind fun x37 =>
  some x37
theorem role_Head_s {k : Nat} {x1 : M53} {p2 : Option Addr} {c3 : Nat} {r : Int} (hk : role_Head k x1 = some r) {g w : World} {F : Ch} {ih : IH} (h4 : RSl e3 ih [] p2 c3 x1.f2) (hw : St g w [F] ih) :
    CallsR Try.prog 34 #[.agg #[.int .i64 x1.f0, .int .u64 x1.f1, .slice p2 x1.f2.length c3, .bool x1.f3, .int .i64 x1.f4]] w fun v w' => v = .int .i64 r ∧ St g w' [F] ih := by
  refine f_in (vs := [.agg #[.int .i64 x1.f0, .int .u64 x1.f1, .slice p2 x1.f2.length c3, .bool x1.f3, .int .i64 x1.f4]]) Try.func34 rfl 10 rfl (by kernel_rfl) [(0, .agg #[.int .i64 x1.f0, .int .u64 x1.f1, .slice p2 x1.f2.length c3, .bool x1.f3, .int .i64 x1.f4])] (by kernel_rfl) fun a Qf hQ hQn hs => ?_
  refine c_seq ?_
  refine c_region ?_
  refine s_new hs hw [.int .i64 x1.f0, .int .u64 x1.f1, .slice p2 x1.f2.length c3, .bool x1.f3, .int .i64 x1.f4] 53 (fun b => .pointer (some ⟨b, 0, none⟩)) (by kernel_rfl) (fun _ => by kernel_rfl) fun a w b26 hs hw => ?_
  refine pures hs 1 [1] [(1, .pointer (some ⟨b26, 0, none⟩))] (by kernel_rfl) fun a hs => ?_
  refine s_end ?_
  refine c_seq ?_
  refine c_seq ?_
  refine c_region ?_
  refine s_load hs (hw.at_ 0 rfl) 0 (by kernel_rfl) (by kernel_rfl) (v := .agg #[.int .i64 x1.f0, .int .u64 x1.f1, .slice p2 x1.f2.length c3, .bool x1.f3, .int .i64 x1.f4]) (by kernel_rfl) fun a hs => ?_
  obtain ⟨y30, h31, hk⟩ := bindE hk
  refine s_call hs (by kernel_rfl) (by kernel_rfl) (conf_Right_s h31 h4 ((hw.pick [0, 1] (by kernel_rfl)).pack 0)) fun a w v hv hs => ?_
  obtain ⟨rfl, hw⟩ := hv
  replace hw := hw.unpack 0 rfl
  refine pures hs 1 [1, 5] [(1, .pointer (some ⟨b26, 0, none⟩)), (5, .bool (!y30))] (by kernel_rfl) fun a hs => ?_
  refine s_end ?_
  rcases ifbE hk with ⟨h32, hk⟩ | ⟨h32, hk⟩
  · refine c_cond1 hs (by kernel_rfl) (t := (!y30)) (by kernel_rfl) h32 ?_
    refine c_seq ?_
    refine c_region ?_
    refine pures hs 1 [2] [(2, .int .i64 0)] (by kernel_rfl) fun a hs => ?_
    refine s_end ?_
    refine wp_ret ?_
    obtain rfl := someE hk
    refine hQ _ _ (f_ret1 hs rfl (v := .int .i64 0) (by kernel_rfl) ⟨rfl, hw.pick [1] (by kernel_rfl)⟩)
  · refine c_cond0 hs (by kernel_rfl) (t := (!y30)) (by kernel_rfl) h32 ?_
    refine wp_skip ?_
    refine c_seq ?_
    refine c_region ?_
    refine pures hs 1 [6] [(6, .pointer (some ⟨b26, 2, none⟩))] (by kernel_rfl) fun a hs => ?_
    refine s_load hs (hw.at_ 0 rfl) 2 (by kernel_rfl) (by kernel_rfl) (v := .slice p2 x1.f2.length c3) (by kernel_rfl) fun a hs => ?_
    obtain ⟨x37, h38, hk⟩ := bindE hk
    refine s_index hs h4 (by kernel_rfl) (by kernel_rfl) (k := .i64) (by kernel_rfl) 3 (by kernel_rfl) (by kernel_rfl) h38 fun a r39 cs henc at40 hs => ?_
    obtain rfl := henc
    refine s_load hs (at40 _ (hw.vwAll.nil.anti (Le.refl _))) 0 (by kernel_rfl) (by kernel_rfl) (v := .int .i64 x37) (by kernel_rfl) fun a hs => ?_
    refine pures hs 1 [2] [(2, .int .i64 x37)] (by kernel_rfl) fun a hs => ?_
    refine s_end ?_
    refine wp_ret ?_
    obtain rfl := someE hk
    refine hQ _ _ (f_ret1 hs rfl (v := .int .i64 x37) (by kernel_rfl) ⟨rfl, hw.pick [1] (by kernel_rfl)⟩)
def atlas_Atlas_Head (k : Nat) (x1 : Int) : Option Int :=
  (atlas_Atlas_Of x1).bind fun y25 =>
  (role_Head k y25).bind fun y30 =>
  some y30
theorem atlas_Atlas_Head_s {k : Nat} {x1 : Int} {r : Int} (hk : atlas_Atlas_Head k x1 = some r) {g w : World} {F : Ch} {ih : IH} (hw : St g w [F] ih) :
    CallsR Try.prog 63 #[.pointer none, .int .u32 x1] w fun v w' => v = .int .i64 r ∧ St g w' [F] ih := by
  refine f_in (vs := [.pointer none, .int .u32 x1]) Try.func63 rfl 9 rfl (by kernel_rfl) [(0, .pointer none), (1, .int .u32 x1)] (by kernel_rfl) fun a Qf hQ hQn hs => ?_
  refine c_seq ?_
  refine c_region ?_
  refine pures hs 1 [0, 1] [(0, .pointer none), (1, .int .u32 x1)] (by kernel_rfl) fun a hs => ?_
  refine s_end ?_
  refine c_seq ?_
  refine c_region ?_
  refine pures hs 2 [5, 6] [(5, .pointer none), (6, .int .u32 x1)] (by kernel_rfl) fun a hs => ?_
  obtain ⟨y25, h26, hk⟩ := bindE hk
  refine s_call hs (by kernel_rfl) (by kernel_rfl) (atlas_Atlas_Of_s h26 ((hw.pick [0] (by kernel_rfl)).pack 0)) fun a w v hv hs => ?_
  obtain ⟨p27, c28, rfl, hw, h29⟩ := hv
  replace hw := hw.unpack 0 rfl
  obtain ⟨y30, h31, hk⟩ := bindE hk
  refine s_call hs (by kernel_rfl) (by kernel_rfl) (role_Head_s h31 h29 ((hw.pick [0] (by kernel_rfl)).pack 0)) fun a w v hv hs => ?_
  obtain ⟨rfl, hw⟩ := hv
  replace hw := hw.unpack 0 rfl
  refine pures hs 1 [4] [(4, .int .i64 y30)] (by kernel_rfl) fun a hs => ?_
  refine s_end ?_
  refine wp_ret ?_
  obtain rfl := someE hk
  refine hQ _ _ (f_ret1 hs rfl (v := .int .i64 y30) (by kernel_rfl) ⟨rfl, hw.pick [0] (by kernel_rfl)⟩)
def role_Reader_r2 (x58 : Int) : Option Int :=
  some x58
def role_Reader (k : Nat) (x1 : M53) (x5 : Int) : Option Int :=
  (conf_Right k x1).bind fun y44 =>
  if (!y44) = true then some 0
  else (if ((x1.f2.length : Int) == 0) = true then none
    else (ix x1.f2 ((if 0 > x5 then 0 else x5).tmod (x1.f2.length : Int))).bind fun x63 =>
    some x63 : Option Int).bind fun s67 => role_Reader_r2 s67
theorem role_Reader_s {k : Nat} {x1 : M53} {x5 : Int} {p2 : Option Addr} {c3 : Nat} {r : Int} (hk : role_Reader k x1 x5 = some r) {g w : World} {F : Ch} {ih : IH} (h4 : RSl e3 ih [] p2 c3 x1.f2) (hw : St g w [F] ih) :
    CallsR Try.prog 39 #[.agg #[.int .i64 x1.f0, .int .u64 x1.f1, .slice p2 x1.f2.length c3, .bool x1.f3, .int .i64 x1.f4], .int .i64 x5] w fun v w' => v = .int .i64 r ∧ St g w' [F] ih := by
  refine f_in (vs := [.agg #[.int .i64 x1.f0, .int .u64 x1.f1, .slice p2 x1.f2.length c3, .bool x1.f3, .int .i64 x1.f4], .int .i64 x5]) Try.func39 rfl 18 rfl (by kernel_rfl) [(0, .agg #[.int .i64 x1.f0, .int .u64 x1.f1, .slice p2 x1.f2.length c3, .bool x1.f3, .int .i64 x1.f4]), (1, .int .i64 x5)] (by kernel_rfl) fun a Qf hQ hQn hs => ?_
  refine c_seq ?_
  refine c_region ?_
  refine s_new hs hw [.int .i64 x1.f0, .int .u64 x1.f1, .slice p2 x1.f2.length c3, .bool x1.f3, .int .i64 x1.f4] 53 (fun b => .pointer (some ⟨b, 0, none⟩)) (by kernel_rfl) (fun _ => by kernel_rfl) fun a w b40 hs hw => ?_
  refine pures hs 1 [1, 2] [(1, .int .i64 x5), (2, .pointer (some ⟨b40, 0, none⟩))] (by kernel_rfl) fun a hs => ?_
  refine s_end ?_
  refine c_seq ?_
  refine c_seq ?_
  refine c_region ?_
  refine s_load hs (hw.at_ 0 rfl) 0 (by kernel_rfl) (by kernel_rfl) (v := .agg #[.int .i64 x1.f0, .int .u64 x1.f1, .slice p2 x1.f2.length c3, .bool x1.f3, .int .i64 x1.f4]) (by kernel_rfl) fun a hs => ?_
  obtain ⟨y44, h45, hk⟩ := bindE hk
  refine s_call hs (by kernel_rfl) (by kernel_rfl) (conf_Right_s h45 h4 ((hw.pick [0, 1] (by kernel_rfl)).pack 0)) fun a w v hv hs => ?_
  obtain ⟨rfl, hw⟩ := hv
  replace hw := hw.unpack 0 rfl
  refine pures hs 1 [1, 2, 7] [(1, .int .i64 x5), (2, .pointer (some ⟨b40, 0, none⟩)), (7, .bool (!y44))] (by kernel_rfl) fun a hs => ?_
  refine s_end ?_
  rcases ifbE hk with ⟨h46, hk⟩ | ⟨h46, hk⟩
  · refine c_cond1 hs (by kernel_rfl) (t := (!y44)) (by kernel_rfl) h46 ?_
    refine c_seq ?_
    refine c_region ?_
    refine pures hs 1 [4] [(4, .int .i64 0)] (by kernel_rfl) fun a hs => ?_
    refine s_end ?_
    refine wp_ret ?_
    obtain rfl := someE hk
    refine hQ _ _ (f_ret1 hs rfl (v := .int .i64 0) (by kernel_rfl) ⟨rfl, hw.pick [1] (by kernel_rfl)⟩)
  · refine c_cond0 hs (by kernel_rfl) (t := (!y44)) (by kernel_rfl) h46 ?_
    refine wp_skip ?_
    refine c_seq ?_
    obtain ⟨S47, hS47, kS47⟩ := mkSX (X := [([], bx b40 [.int .i64 x1.f0, .int .u64 x1.f1, .slice p2 x1.f2.length c3, .bool x1.f3, .int .i64 x1.f4] 53), ([], F)]) (ih := ih) (K := []) rfl
    obtain ⟨y59, hx60, hk⟩ := bindE hk
    obtain ⟨J61, hJ61⟩ : ∃ J : Act → World → Prop, ∀ a w, J a w ↔ (∃ (x58 : Int), role_Reader_r2 x58 = some r ∧ Sees a 18 [(4, .int .i64 x58)] ∧ St g w [F] ih) := ⟨_, fun _ _ => Iff.rfl⟩
    refine c_draw (by kernel_rfl) (N := 11) rfl S47 J61 ?_ ?_
    · have hw := hw.drew
      have hS : S47 (Array.replicate 11 false) _ := SX_now hS47 (hw.vws [0, 1]) (by kernel_rfl)
      refine d_pures (fuel := 10) kS47 hs hS [0] [1, 2, 8] [(1, .int .i64 x5), (2, .pointer (some ⟨b40, 0, none⟩)), (8, .pointer (some ⟨b40, 2, none⟩))] (by kernel_rfl) fun a hs hS => ?_
      refine d_load (fuel := 9) kS47 hs hS 1 rfl (by kernel_rfl) (SX_box hS47 0 rfl (by kernel_rfl)) 2 (by kernel_rfl) (by kernel_rfl) (v := .slice p2 x1.f2.length c3) (by kernel_rfl) fun a hs hS => ?_
      refine d_pures (fuel := 6) kS47 hs hS [2, 3, 4] [1, 2, 8, 9, 10, 11, 12] [(1, .int .i64 x5), (2, .pointer (some ⟨b40, 0, none⟩)), (8, .pointer (some ⟨b40, 2, none⟩)), (9, .slice p2 x1.f2.length c3), (10, .int .i64 x5), (11, .int .i64 (if 0 > x5 then 0 else x5)), (12, .pointer (some ⟨b40, 2, none⟩))] (by kernel_rfl) fun a hs hS => ?_
      refine d_load (fuel := 5) kS47 hs hS 5 rfl (by kernel_rfl) (SX_box hS47 0 rfl (by kernel_rfl)) 2 (by kernel_rfl) (by kernel_rfl) (v := .slice p2 x1.f2.length c3) (by kernel_rfl) fun a hs hS => ?_
      refine d_pures (fuel := 4) kS47 hs hS [6] [1, 2, 8, 9, 10, 11, 12, 13, 14] [(1, .int .i64 x5), (2, .pointer (some ⟨b40, 0, none⟩)), (8, .pointer (some ⟨b40, 2, none⟩)), (9, .slice p2 x1.f2.length c3), (10, .int .i64 x5), (11, .int .i64 (if 0 > x5 then 0 else x5)), (12, .pointer (some ⟨b40, 2, none⟩)), (13, .slice p2 x1.f2.length c3), (14, .int .i64 (x1.f2.length : Int))] (by kernel_rfl) fun a hs hS => ?_
      rcases ifbE hx60 with ⟨h62, hx60⟩ | ⟨h62, hx60⟩
      · cases hx60
      · refine d_rem (fuel := 3) kS47 hs hS 7 rfl (by kernel_rfl) (by kernel_rfl) .i64 (i := (if 0 > x5 then 0 else x5)) (j := (x1.f2.length : Int)) (by kernel_rfl) (by kernel_rfl) (by simpa using h62) fun a hs hS => ?_
        obtain ⟨x63, h64, hx60⟩ := bindE hx60
        refine d_index (fuel := 2) kS47 hs hS 8 rfl (by kernel_rfl) h4 (by kernel_rfl) (by kernel_rfl) (k := .i64) (by kernel_rfl) 3 (by kernel_rfl) (by kernel_rfl) h64 fun a r65 cs henc at66 hs hS => ?_
        obtain rfl := henc
        refine d_load (fuel := 1) kS47 hs hS 9 rfl (by kernel_rfl) (fun l w hu hS => at66 w ((SX_nil hS47 l w hu hS).anti (Le.refl _))) 0 (by kernel_rfl) (by kernel_rfl) (v := .int .i64 x63) (by kernel_rfl) fun a hs hS => ?_
        refine d_pures (fuel := 0) kS47 hs hS [10] [1, 2, 8, 9, 10, 11, 12, 13, 14, 15, 16, 17, 4] [(1, .int .i64 x5), (2, .pointer (some ⟨b40, 0, none⟩)), (8, .pointer (some ⟨b40, 2, none⟩)), (9, .slice p2 x1.f2.length c3), (10, .int .i64 x5), (11, .int .i64 (if 0 > x5 then 0 else x5)), (12, .pointer (some ⟨b40, 2, none⟩)), (13, .slice p2 x1.f2.length c3), (14, .int .i64 (x1.f2.length : Int)), (15, .int .i64 ((if 0 > x5 then 0 else x5).tmod (x1.f2.length : Int))), (16, .pointer (some r65)), (17, .int .i64 x63), (4, .int .i64 x63)] (by kernel_rfl) fun a hs hS => ?_
        refine d_done (by kernel_rfl) ?_
        obtain rfl := someE hx60
        exact (hJ61 _ _).2 ⟨x63, hk, hs.cast [4] (by kernel_rfl), hw.pick [1] (by kernel_rfl)⟩
    · intro a w hh
      obtain ⟨x58, hk, hs, hw⟩ := (hJ61 _ _).1 hh
      refine wp_ret ?_
      obtain rfl := someE hk
      refine hQ _ _ (f_ret1 hs rfl (v := .int .i64 x58) (by kernel_rfl) ⟨rfl, hw.pick [0] (by kernel_rfl)⟩)
def atlas_Atlas_Reader (k : Nat) (x1 : Int) (x2 : Int) : Option Int :=
  (atlas_Atlas_Of x1).bind fun y26 =>
  (role_Reader k y26 x2).bind fun y31 =>
  some y31
theorem atlas_Atlas_Reader_s {k : Nat} {x1 : Int} {x2 : Int} {r : Int} (hk : atlas_Atlas_Reader k x1 x2 = some r) {g w : World} {F : Ch} {ih : IH} (hw : St g w [F] ih) :
    CallsR Try.prog 64 #[.pointer none, .int .u32 x1, .int .i64 x2] w fun v w' => v = .int .i64 r ∧ St g w' [F] ih := by
  refine f_in (vs := [.pointer none, .int .u32 x1, .int .i64 x2]) Try.func64 rfl 12 rfl (by kernel_rfl) [(0, .pointer none), (1, .int .u32 x1), (2, .int .i64 x2)] (by kernel_rfl) fun a Qf hQ hQn hs => ?_
  refine c_seq ?_
  refine c_region ?_
  refine pures hs 1 [0, 1, 2] [(0, .pointer none), (1, .int .u32 x1), (2, .int .i64 x2)] (by kernel_rfl) fun a hs => ?_
  refine s_end ?_
  refine c_seq ?_
  refine c_region ?_
  refine pures hs 2 [2, 7, 8] [(2, .int .i64 x2), (7, .pointer none), (8, .int .u32 x1)] (by kernel_rfl) fun a hs => ?_
  obtain ⟨y26, h27, hk⟩ := bindE hk
  refine s_call hs (by kernel_rfl) (by kernel_rfl) (atlas_Atlas_Of_s h27 ((hw.pick [0] (by kernel_rfl)).pack 0)) fun a w v hv hs => ?_
  obtain ⟨p28, c29, rfl, hw, h30⟩ := hv
  replace hw := hw.unpack 0 rfl
  refine pures hs 1 [9, 10] [(9, .agg #[.int .i64 y26.f0, .int .u64 y26.f1, .slice p28 y26.f2.length c29, .bool y26.f3, .int .i64 y26.f4]), (10, .int .i64 x2)] (by kernel_rfl) fun a hs => ?_
  obtain ⟨y31, h32, hk⟩ := bindE hk
  refine s_call hs (by kernel_rfl) (by kernel_rfl) (role_Reader_s h32 h30 ((hw.pick [0] (by kernel_rfl)).pack 0)) fun a w v hv hs => ?_
  obtain ⟨rfl, hw⟩ := hv
  replace hw := hw.unpack 0 rfl
  refine pures hs 1 [6] [(6, .int .i64 y31)] (by kernel_rfl) fun a hs => ?_
  refine s_end ?_
  refine wp_ret ?_
  obtain rfl := someE hk
  refine hQ _ _ (f_ret1 hs rfl (v := .int .i64 y31) (by kernel_rfl) ⟨rfl, hw.pick [0] (by kernel_rfl)⟩)
def atlas_Atlas_Chains : Option Int :=
  some 0
theorem atlas_Atlas_Chains_s {r : Int} (hk : atlas_Atlas_Chains = some r) {g w : World} {F : Ch} {ih : IH} (hw : St g w [F] ih) :
    CallsR Try.prog 65 #[.pointer none] w fun v w' => v = .int .i64 r ∧ St g w' [F] ih := by
  refine f_in (vs := [.pointer none]) Try.func65 rfl 10 rfl (by kernel_rfl) [(0, .pointer none)] (by kernel_rfl) fun a Qf hQ hQn hs => ?_
  refine c_seq ?_
  refine c_region ?_
  refine pures hs 1 [0] [(0, .pointer none)] (by kernel_rfl) fun a hs => ?_
  refine s_end ?_
  refine c_seq ?_
  refine c_seq ?_
  refine c_region ?_
  refine pures hs 2 [0, 4] [(0, .pointer none), (4, .bool true)] (by kernel_rfl) fun a hs => ?_
  refine s_end ?_
  refine c_condT hs (by kernel_rfl) (by kernel_rfl) ?_
  refine c_seq ?_
  refine c_region ?_
  refine pures hs 1 [2] [(2, .int .i64 0)] (by kernel_rfl) fun a hs => ?_
  refine s_end ?_
  refine wp_ret ?_
  obtain rfl := someE hk
  refine hQ _ _ (f_ret1 hs rfl (v := .int .i64 0) (by kernel_rfl) ⟨rfl, hw.pick [0] (by kernel_rfl)⟩)
def atlas_Atlas_Confs (k : Nat) (x3 : List M53) (x9 : Int) (x10 : Int) (x11 : Int) (x14 : Int) (x15 : Int) (x16 : List (List Int)) : Option (List M53) :=
  (conf_Copy k x3).bind fun y51 =>
  some y51
theorem atlas_Atlas_Confs_s {k : Nat} {x3 : List M53} {x9 : Int} {x10 : Int} {x11 : Int} {x14 : Int} {x15 : Int} {x16 : List (List Int)} {b1 : Nat} {p4 : Option Addr} {c5 : Nat} {b7 : Nat} {b12 : Nat} {p17 : Option Addr} {c18 : Nat} {d20 : Ch} {r : (List M53)} (hk : atlas_Atlas_Confs k x3 x9 x10 x11 x14 x15 x16 = some r) {g w : World} {F : Ch} {ih : IH} (h6 : RSl e53 ih [] p4 c5 x3) (h19 : OSl e40 ih p17 c18 x16 d20) (hw : St g w [bx b1 [.slice p4 x3.length c5, .pointer (some ⟨b7, 0, none⟩)] 125, bx b7 [.int .u32 x9, .int .i32 x10, .int .u32 x11, .func (.func 93) #[] #[.pointer (some ⟨b12, 0, none⟩)], .int .i32 x15, .slice p17 x16.length c18] 157, bx b12 [.int .i64 x14] 3, d20, F] ih) :
    CallsR Try.prog 61 #[.pointer (some ⟨b1, 0, none⟩)] w fun v w' => ∃ (ih' : IH) (p60 : Option Addr) (c61 : Nat) (d62 : Ch), v = .slice p60 r.length c61 ∧ St g w' [d62, bx b1 [.slice p4 x3.length c5, .pointer (some ⟨b7, 0, none⟩)] 125, bx b7 [.int .u32 x9, .int .i32 x10, .int .u32 x11, .func (.func 93) #[] #[.pointer (some ⟨b12, 0, none⟩)], .int .i32 x15, .slice p17 x16.length c18] 157, bx b12 [.int .i64 x14] 3, d20, F] ih' ∧ Le ih ih' ∧ OSl e53 ih' p60 c61 r d62 := by
  refine f_in (vs := [.pointer (some ⟨b1, 0, none⟩)]) Try.func61 rfl 10 rfl (by kernel_rfl) [(0, .pointer (some ⟨b1, 0, none⟩))] (by kernel_rfl) fun a Qf hQ hQn hs => ?_
  refine c_seq ?_
  refine c_region ?_
  refine pures hs 1 [0] [(0, .pointer (some ⟨b1, 0, none⟩))] (by kernel_rfl) fun a hs => ?_
  refine s_end ?_
  refine c_seq ?_
  refine c_seq ?_
  refine c_region ?_
  refine pures hs 2 [0, 4] [(0, .pointer (some ⟨b1, 0, none⟩)), (4, .bool false)] (by kernel_rfl) fun a hs => ?_
  refine s_end ?_
  refine c_condF hs (by kernel_rfl) (by kernel_rfl) ?_
  refine wp_skip ?_
  refine c_seq ?_
  refine c_region ?_
  refine pures hs 3 [7] [(7, .pointer (some ⟨b1, 0, none⟩))] (by kernel_rfl) fun a hs => ?_
  refine s_load hs (hw.at_ 0 rfl) 0 (by kernel_rfl) (by kernel_rfl) (v := .slice p4 x3.length c5) (by kernel_rfl) fun a hs => ?_
  obtain ⟨y51, h52, hk⟩ := bindE hk
  refine s_call hs (by kernel_rfl) (by kernel_rfl) (conf_Copy_s h52 h6 (nilSub _) ((hw.pick [0, 1, 2, 3, 4] (by kernel_rfl)).pack 0)) fun a w v hv hs => ?_
  obtain ⟨ih53, p55, c56, d58, rfl, hw, hle54, h57⟩ := hv
  replace hw := hw.unpack 1 rfl
  refine pures hs 1 [2] [(2, .slice p55 y51.length c56)] (by kernel_rfl) fun a hs => ?_
  refine s_end ?_
  refine wp_ret ?_
  obtain rfl := someE hk
  refine hQ _ _ (f_ret1 hs rfl (v := .slice p55 y51.length c56) (by kernel_rfl) ⟨ih53, p55, c56, d58, rfl, hw.pick [0, 1, 2, 3, 4, 5] (by kernel_rfl), hle54, h57⟩)
def atlas_Atlas_Chains_2 (x3 : List M53) (x9 : Int) (x10 : Int) (x11 : Int) (x14 : Int) (x15 : Int) (x16 : List (List Int)) : Option Int :=
  some (x3.length : Int)
theorem atlas_Atlas_Chains_2_s {x3 : List M53} {x9 : Int} {x10 : Int} {x11 : Int} {x14 : Int} {x15 : Int} {x16 : List (List Int)} {b1 : Nat} {p4 : Option Addr} {c5 : Nat} {b7 : Nat} {b12 : Nat} {p17 : Option Addr} {c18 : Nat} {d20 : Ch} {r : Int} (hk : atlas_Atlas_Chains_2 x3 x9 x10 x11 x14 x15 x16 = some r) {g w : World} {F : Ch} {ih : IH} (h6 : RSl e53 ih [] p4 c5 x3) (h19 : OSl e40 ih p17 c18 x16 d20) (hw : St g w [bx b1 [.slice p4 x3.length c5, .pointer (some ⟨b7, 0, none⟩)] 125, bx b7 [.int .u32 x9, .int .i32 x10, .int .u32 x11, .func (.func 93) #[] #[.pointer (some ⟨b12, 0, none⟩)], .int .i32 x15, .slice p17 x16.length c18] 157, bx b12 [.int .i64 x14] 3, d20, F] ih) :
    CallsR Try.prog 65 #[.pointer (some ⟨b1, 0, none⟩)] w fun v w' => v = .int .i64 r ∧ St g w' [bx b1 [.slice p4 x3.length c5, .pointer (some ⟨b7, 0, none⟩)] 125, bx b7 [.int .u32 x9, .int .i32 x10, .int .u32 x11, .func (.func 93) #[] #[.pointer (some ⟨b12, 0, none⟩)], .int .i32 x15, .slice p17 x16.length c18] 157, bx b12 [.int .i64 x14] 3, d20, F] ih := by
  refine f_in (vs := [.pointer (some ⟨b1, 0, none⟩)]) Try.func65 rfl 10 rfl (by kernel_rfl) [(0, .pointer (some ⟨b1, 0, none⟩))] (by kernel_rfl) fun a Qf hQ hQn hs => ?_
  refine c_seq ?_
  refine c_region ?_
  refine pures hs 1 [0] [(0, .pointer (some ⟨b1, 0, none⟩))] (by kernel_rfl) fun a hs => ?_
  refine s_end ?_
  refine c_seq ?_
  refine c_seq ?_
  refine c_region ?_
  refine pures hs 2 [0, 4] [(0, .pointer (some ⟨b1, 0, none⟩)), (4, .bool false)] (by kernel_rfl) fun a hs => ?_
  refine s_end ?_
  refine c_condF hs (by kernel_rfl) (by kernel_rfl) ?_
  refine wp_skip ?_
  refine c_seq ?_
  refine c_region ?_
  refine pures hs 3 [7] [(7, .pointer (some ⟨b1, 0, none⟩))] (by kernel_rfl) fun a hs => ?_
  refine s_load hs (hw.at_ 0 rfl) 0 (by kernel_rfl) (by kernel_rfl) (v := .slice p4 x3.length c5) (by kernel_rfl) fun a hs => ?_
  refine pures hs 2 [2] [(2, .int .i64 (x3.length : Int))] (by kernel_rfl) fun a hs => ?_
  refine s_end ?_
  refine wp_ret ?_
  obtain rfl := someE hk
  refine hQ _ _ (f_ret1 hs rfl (v := .int .i64 (x3.length : Int)) (by kernel_rfl) ⟨rfl, hw.pick [0, 1, 2, 3, 4] (by kernel_rfl)⟩)
def atlas_Atlas_Of_2 (k : Nat) (x3 : List M53) (x9 : Int) (x10 : Int) (x11 : Int) (x14 : Int) (x15 : Int) (x16 : List (List Int)) (x22 : Int) : Option M53 :=
  (atlas_Atlas_Confs k x3 x9 x10 x11 x14 x15 x16).bind fun y96 =>
  (atlas_Atlas_Chains_2 x3 x9 x10 x11 x14 x15 x16).bind fun y105 =>
  (atlas_Chain x22 y105).bind fun y107 =>
  (ix y96 y107).bind fun x109 =>
  some x109
theorem atlas_Atlas_Of_2_s {k : Nat} {x3 : List M53} {x9 : Int} {x10 : Int} {x11 : Int} {x14 : Int} {x15 : Int} {x16 : List (List Int)} {x22 : Int} {b1 : Nat} {p4 : Option Addr} {c5 : Nat} {b7 : Nat} {b12 : Nat} {p17 : Option Addr} {c18 : Nat} {d20 : Ch} {r : M53} (hk : atlas_Atlas_Of_2 k x3 x9 x10 x11 x14 x15 x16 x22 = some r) {g w : World} {F : Ch} {ih : IH} (h6 : RSl e53 ih [] p4 c5 x3) (h19 : OSl e40 ih p17 c18 x16 d20) (hw : St g w [bx b1 [.slice p4 x3.length c5, .pointer (some ⟨b7, 0, none⟩)] 125, bx b7 [.int .u32 x9, .int .i32 x10, .int .u32 x11, .func (.func 93) #[] #[.pointer (some ⟨b12, 0, none⟩)], .int .i32 x15, .slice p17 x16.length c18] 157, bx b12 [.int .i64 x14] 3, d20, F] ih) :
    CallsR Try.prog 57 #[.pointer (some ⟨b1, 0, none⟩), .int .u32 x22] w fun v w' => ∃ (ih' : IH) (p117 : Option Addr) (c118 : Nat), v = .agg #[.int .i64 r.f0, .int .u64 r.f1, .slice p117 r.f2.length c118, .bool r.f3, .int .i64 r.f4] ∧ St g w' [bx b1 [.slice p4 x3.length c5, .pointer (some ⟨b7, 0, none⟩)] 125, bx b7 [.int .u32 x9, .int .i32 x10, .int .u32 x11, .func (.func 93) #[] #[.pointer (some ⟨b12, 0, none⟩)], .int .i32 x15, .slice p17 x16.length c18] 157, bx b12 [.int .i64 x14] 3, d20, F] ih' ∧ Le ih ih' ∧ RSl e3 ih' [] p117 c118 r.f2 := by
  refine f_in (vs := [.pointer (some ⟨b1, 0, none⟩), .int .u32 x22]) Try.func57 rfl 16 rfl (by kernel_rfl) [(0, .pointer (some ⟨b1, 0, none⟩)), (1, .int .u32 x22)] (by kernel_rfl) fun a Qf hQ hQn hs => ?_
  refine c_seq ?_
  refine c_region ?_
  refine s_new hs hw [.int .i64 0, .int .u64 0, .slice none 0 0, .bool false, .int .i64 0] 53 (fun b => .pointer (some ⟨b, 0, none⟩)) (by kernel_rfl) (fun _ => by kernel_rfl) fun a w b73 hs hw => ?_
  refine s_end ?_
  refine c_seq ?_
  refine c_seq ?_
  refine c_region ?_
  refine pures hs 2 [0, 1, 4, 6] [(0, .pointer (some ⟨b1, 0, none⟩)), (1, .int .u32 x22), (4, .pointer (some ⟨b73, 0, none⟩)), (6, .bool false)] (by kernel_rfl) fun a hs => ?_
  refine s_end ?_
  refine c_condF hs (by kernel_rfl) (by kernel_rfl) ?_
  refine wp_skip ?_
  refine c_seq ?_
  refine c_region ?_
  refine pures hs 1 [0, 1, 4, 8] [(0, .pointer (some ⟨b1, 0, none⟩)), (1, .int .u32 x22), (4, .pointer (some ⟨b73, 0, none⟩)), (8, .pointer (some ⟨b1, 0, none⟩))] (by kernel_rfl) fun a hs => ?_
  obtain ⟨y96, h97, hk⟩ := bindE hk
  refine s_call hs (by kernel_rfl) (by kernel_rfl) (atlas_Atlas_Confs_s h97 h6 h19 ((hw.pick [1, 2, 3, 4, 0, 5] (by kernel_rfl)).pack 4)) fun a w v hv hs => ?_
  obtain ⟨ih98, p100, c101, d103, rfl, hw, hle99, h102⟩ := hv
  replace hw := hw.unpack 5 rfl
  refine pures hs 2 [4, 9, 10, 11] [(4, .pointer (some ⟨b73, 0, none⟩)), (9, .slice p100 y96.length c101), (10, .int .u32 x22), (11, .pointer (some ⟨b1, 0, none⟩))] (by kernel_rfl) fun a hs => ?_
  obtain ⟨y105, h106, hk⟩ := bindE hk
  refine s_call hs (by kernel_rfl) (by kernel_rfl) (atlas_Atlas_Chains_2_s h106 (h6.mono hle99) (h19.mono hle99) ((hw.pick [1, 2, 3, 4, 0, 5, 6] (by kernel_rfl)).pack 4)) fun a w v hv hs => ?_
  obtain ⟨rfl, hw⟩ := hv
  replace hw := hw.unpack 4 rfl
  obtain ⟨y107, h108, hk⟩ := bindE hk
  refine s_call hs (by kernel_rfl) (by kernel_rfl) (atlas_Chain_s h108 ((hw.pick [0, 1, 2, 3, 4, 5, 6] (by kernel_rfl)).pack 0)) fun a w v hv hs => ?_
  obtain ⟨rfl, hw⟩ := hv
  replace hw := hw.unpack 0 rfl
  obtain ⟨x109, h110, hk⟩ := bindE hk
  refine s_indexO hs h102 (by kernel_rfl) (by kernel_rfl) (k := .i64) (by kernel_rfl) 53 (by kernel_rfl) (by kernel_rfl) h110 fun a r111 cs henc at112 h116 hs => ?_
  obtain ⟨p113, c114, rfl, h115⟩ := henc
  refine s_load hs (at112 _ ((hw.vw 4 rfl).anti (Le.refl _))) 0 (by kernel_rfl) (by kernel_rfl) (v := .agg #[.int .i64 x109.f0, .int .u64 x109.f1, .slice p113 x109.f2.length c114, .bool x109.f3, .int .i64 x109.f4]) (by kernel_rfl) fun a hs => ?_
  refine s_store hs hw 5 rfl 0 (by kernel_rfl) (by kernel_rfl) (v := .agg #[.int .i64 x109.f0, .int .u64 x109.f1, .slice p113 x109.f2.length c114, .bool x109.f3, .int .i64 x109.f4]) (by kernel_rfl) (by kernel_rfl) (by kernel_rfl) (by kernel_rfl) fun a w hs hw => ?_
  refine s_end ?_
  refine wp_ret ?_
  obtain rfl := someE hk
  refine hQ _ _ (f_retC hs rfl (hw.at_ 5 rfl) (by kernel_rfl) (v := .agg #[.int .i64 x109.f0, .int .u64 x109.f1, .slice p113 x109.f2.length c114, .bool x109.f3, .int .i64 x109.f4]) (by kernel_rfl) ⟨ih98, p113, c114, rfl, hw.pick [0, 1, 2, 3, 6] (by kernel_rfl), hle99, h115⟩)
def atlas_Atlas_Head_2 (k : Nat) (x3 : List M53) (x9 : Int) (x10 : Int) (x11 : Int) (x14 : Int) (x15 : Int) (x16 : List (List Int)) (x22 : Int) : Option Int :=
  (atlas_Atlas_Of_2 k x3 x9 x10 x11 x14 x15 x16 x22).bind fun y52 =>
  (role_Head k y52).bind fun y59 =>
  some y59
theorem atlas_Atlas_Head_2_s {k : Nat} {x3 : List M53} {x9 : Int} {x10 : Int} {x11 : Int} {x14 : Int} {x15 : Int} {x16 : List (List Int)} {x22 : Int} {b1 : Nat} {p4 : Option Addr} {c5 : Nat} {b7 : Nat} {b12 : Nat} {p17 : Option Addr} {c18 : Nat} {d20 : Ch} {r : Int} (hk : atlas_Atlas_Head_2 k x3 x9 x10 x11 x14 x15 x16 x22 = some r) {g w : World} {F : Ch} {ih : IH} (h6 : RSl e53 ih [] p4 c5 x3) (h19 : OSl e40 ih p17 c18 x16 d20) (hw : St g w [bx b1 [.slice p4 x3.length c5, .pointer (some ⟨b7, 0, none⟩)] 125, bx b7 [.int .u32 x9, .int .i32 x10, .int .u32 x11, .func (.func 93) #[] #[.pointer (some ⟨b12, 0, none⟩)], .int .i32 x15, .slice p17 x16.length c18] 157, bx b12 [.int .i64 x14] 3, d20, F] ih) :
    CallsR Try.prog 63 #[.pointer (some ⟨b1, 0, none⟩), .int .u32 x22] w fun v w' => ∃ (ih' : IH), v = .int .i64 r ∧ St g w' [bx b1 [.slice p4 x3.length c5, .pointer (some ⟨b7, 0, none⟩)] 125, bx b7 [.int .u32 x9, .int .i32 x10, .int .u32 x11, .func (.func 93) #[] #[.pointer (some ⟨b12, 0, none⟩)], .int .i32 x15, .slice p17 x16.length c18] 157, bx b12 [.int .i64 x14] 3, d20, F] ih' ∧ Le ih ih' := by
  refine f_in (vs := [.pointer (some ⟨b1, 0, none⟩), .int .u32 x22]) Try.func63 rfl 9 rfl (by kernel_rfl) [(0, .pointer (some ⟨b1, 0, none⟩)), (1, .int .u32 x22)] (by kernel_rfl) fun a Qf hQ hQn hs => ?_
  refine c_seq ?_
  refine c_region ?_
  refine pures hs 1 [0, 1] [(0, .pointer (some ⟨b1, 0, none⟩)), (1, .int .u32 x22)] (by kernel_rfl) fun a hs => ?_
  refine s_end ?_
  refine c_seq ?_
  refine c_region ?_
  refine pures hs 2 [5, 6] [(5, .pointer (some ⟨b1, 0, none⟩)), (6, .int .u32 x22)] (by kernel_rfl) fun a hs => ?_
  obtain ⟨y52, h53, hk⟩ := bindE hk
  refine s_call hs (by kernel_rfl) (by kernel_rfl) (atlas_Atlas_Of_2_s h53 h6 h19 ((hw.pick [0, 1, 2, 3, 4] (by kernel_rfl)).pack 4)) fun a w v hv hs => ?_
  obtain ⟨ih54, p56, c57, rfl, hw, hle55, h58⟩ := hv
  replace hw := hw.unpack 4 rfl
  obtain ⟨y59, h60, hk⟩ := bindE hk
  refine s_call hs (by kernel_rfl) (by kernel_rfl) (role_Head_s h60 h58 ((hw.pick [0, 1, 2, 3, 4] (by kernel_rfl)).pack 0)) fun a w v hv hs => ?_
  obtain ⟨rfl, hw⟩ := hv
  replace hw := hw.unpack 0 rfl
  refine pures hs 1 [4] [(4, .int .i64 y59)] (by kernel_rfl) fun a hs => ?_
  refine s_end ?_
  refine wp_ret ?_
  obtain rfl := someE hk
  refine hQ _ _ (f_ret1 hs rfl (v := .int .i64 y59) (by kernel_rfl) ⟨ih54, rfl, hw.pick [0, 1, 2, 3, 4] (by kernel_rfl), hle55⟩)
def atlas_Atlas_Reader_2 (k : Nat) (x3 : List M53) (x9 : Int) (x10 : Int) (x11 : Int) (x14 : Int) (x15 : Int) (x16 : List (List Int)) (x22 : Int) (x23 : Int) : Option Int :=
  (atlas_Atlas_Of_2 k x3 x9 x10 x11 x14 x15 x16 x22).bind fun y53 =>
  (role_Reader k y53 x23).bind fun y60 =>
  some y60
theorem atlas_Atlas_Reader_2_s {k : Nat} {x3 : List M53} {x9 : Int} {x10 : Int} {x11 : Int} {x14 : Int} {x15 : Int} {x16 : List (List Int)} {x22 : Int} {x23 : Int} {b1 : Nat} {p4 : Option Addr} {c5 : Nat} {b7 : Nat} {b12 : Nat} {p17 : Option Addr} {c18 : Nat} {d20 : Ch} {r : Int} (hk : atlas_Atlas_Reader_2 k x3 x9 x10 x11 x14 x15 x16 x22 x23 = some r) {g w : World} {F : Ch} {ih : IH} (h6 : RSl e53 ih [] p4 c5 x3) (h19 : OSl e40 ih p17 c18 x16 d20) (hw : St g w [bx b1 [.slice p4 x3.length c5, .pointer (some ⟨b7, 0, none⟩)] 125, bx b7 [.int .u32 x9, .int .i32 x10, .int .u32 x11, .func (.func 93) #[] #[.pointer (some ⟨b12, 0, none⟩)], .int .i32 x15, .slice p17 x16.length c18] 157, bx b12 [.int .i64 x14] 3, d20, F] ih) :
    CallsR Try.prog 64 #[.pointer (some ⟨b1, 0, none⟩), .int .u32 x22, .int .i64 x23] w fun v w' => ∃ (ih' : IH), v = .int .i64 r ∧ St g w' [bx b1 [.slice p4 x3.length c5, .pointer (some ⟨b7, 0, none⟩)] 125, bx b7 [.int .u32 x9, .int .i32 x10, .int .u32 x11, .func (.func 93) #[] #[.pointer (some ⟨b12, 0, none⟩)], .int .i32 x15, .slice p17 x16.length c18] 157, bx b12 [.int .i64 x14] 3, d20, F] ih' ∧ Le ih ih' := by
  refine f_in (vs := [.pointer (some ⟨b1, 0, none⟩), .int .u32 x22, .int .i64 x23]) Try.func64 rfl 12 rfl (by kernel_rfl) [(0, .pointer (some ⟨b1, 0, none⟩)), (1, .int .u32 x22), (2, .int .i64 x23)] (by kernel_rfl) fun a Qf hQ hQn hs => ?_
  refine c_seq ?_
  refine c_region ?_
  refine pures hs 1 [0, 1, 2] [(0, .pointer (some ⟨b1, 0, none⟩)), (1, .int .u32 x22), (2, .int .i64 x23)] (by kernel_rfl) fun a hs => ?_
  refine s_end ?_
  refine c_seq ?_
  refine c_region ?_
  refine pures hs 2 [2, 7, 8] [(2, .int .i64 x23), (7, .pointer (some ⟨b1, 0, none⟩)), (8, .int .u32 x22)] (by kernel_rfl) fun a hs => ?_
  obtain ⟨y53, h54, hk⟩ := bindE hk
  refine s_call hs (by kernel_rfl) (by kernel_rfl) (atlas_Atlas_Of_2_s h54 h6 h19 ((hw.pick [0, 1, 2, 3, 4] (by kernel_rfl)).pack 4)) fun a w v hv hs => ?_
  obtain ⟨ih55, p57, c58, rfl, hw, hle56, h59⟩ := hv
  replace hw := hw.unpack 4 rfl
  refine pures hs 1 [9, 10] [(9, .agg #[.int .i64 y53.f0, .int .u64 y53.f1, .slice p57 y53.f2.length c58, .bool y53.f3, .int .i64 y53.f4]), (10, .int .i64 x23)] (by kernel_rfl) fun a hs => ?_
  obtain ⟨y60, h61, hk⟩ := bindE hk
  refine s_call hs (by kernel_rfl) (by kernel_rfl) (role_Reader_s h61 h59 ((hw.pick [0, 1, 2, 3, 4] (by kernel_rfl)).pack 0)) fun a w v hv hs => ?_
  obtain ⟨rfl, hw⟩ := hv
  replace hw := hw.unpack 0 rfl
  refine pures hs 1 [6] [(6, .int .i64 y60)] (by kernel_rfl) fun a hs => ?_
  refine s_end ?_
  refine wp_ret ?_
  obtain rfl := someE hk
  refine hQ _ _ (f_ret1 hs rfl (v := .int .i64 y60) (by kernel_rfl) ⟨ih55, rfl, hw.pick [0, 1, 2, 3, 4] (by kernel_rfl), hle56⟩)
def catenarylaw25_awake_r3 (x278 : Bool) : Option Bool :=
  some x278
def catenarylaw25_awake_r4 (x346 : Bool) : Option Bool :=
  some x346
def catenarylaw25_awake (k : Nat) : Option Bool :=
  (catenaryref09_Begin k 2 3).bind fun y194 =>
  (atlas_New k y194.1).bind fun 
    | .inl y251 =>
      (if (y251 == 0) = true then (
          (atlas_Chain 1 2).bind fun y283 =>
          if (y283 == 1) = true then (
            (atlas_Atlas_Head k 1).bind fun y286 =>
            if (y286 == 4) = true then (
              (atlas_Atlas_Reader k 1 4).bind fun y289 =>
              if (y289 == 5) = true then (
                (atlas_Atlas_Chains).bind fun y292 =>
                some (y292 == 2))
              else some false)
            else some false)
          else some false)
        else some false : Option Bool).bind fun s294 => catenarylaw25_awake_r3 s294
    | .inr y295 =>
      (if (y295.2.2.2.2.2.2.2 == 0) = true then (
          (atlas_Chain 1 2).bind fun y351 =>
          if (y351 == 1) = true then (
            (atlas_Atlas_Head_2 k y295.1 y295.2.1 y295.2.2.1 y295.2.2.2.1 y295.2.2.2.2.1 y295.2.2.2.2.2.1 y295.2.2.2.2.2.2.1 1).bind fun y354 =>
            if (y354 == 4) = true then (
              (atlas_Atlas_Reader_2 k y295.1 y295.2.1 y295.2.2.1 y295.2.2.2.1 y295.2.2.2.2.1 y295.2.2.2.2.2.1 y295.2.2.2.2.2.2.1 1 4).bind fun y359 =>
              if (y359 == 5) = true then (
                (atlas_Atlas_Chains_2 y295.1 y295.2.1 y295.2.2.1 y295.2.2.2.1 y295.2.2.2.2.1 y295.2.2.2.2.2.1 y295.2.2.2.2.2.2.1).bind fun y364 =>
                some (y364 == 2))
              else some false)
            else some false)
          else some false)
        else some false : Option Bool).bind fun s366 => catenarylaw25_awake_r4 s366
theorem catenarylaw25_awake_s {k : Nat} {r : Bool} (hk : catenarylaw25_awake k = some r) {g w : World} {F : Ch} {ih : IH} (hw : St g w [F] ih) :
    CallsR Try.prog 49 #[] w fun v w' => ∃ (ih' : IH), v = .bool r ∧ St g w' [F] ih' ∧ Le ih ih' := by
  refine f_in (vs := []) Try.func49 rfl 35 rfl (by kernel_rfl) [] (by kernel_rfl) fun a Qf hQ hQn hs => ?_
  refine c_seq ?_
  refine c_region ?_
  refine pures hs 1 [] [] (by kernel_rfl) fun a hs => ?_
  refine s_end ?_
  refine c_seq ?_
  refine c_region ?_
  obtain ⟨y194, h195, hk⟩ := bindE hk
  refine s_call hs (by kernel_rfl) (by kernel_rfl) (catenaryref09_Begin_s h195 ((hw.pick [0] (by kernel_rfl)).pack 0)) fun a w v hv hs => ?_
  obtain ⟨ih196, p198, c199, d201, rfl, hw, hle197, h200⟩ := hv
  replace hw := hw.unpack 1 rfl
  refine pures hs 5 [1] [(1, .slice p198 y194.1.length c199)] (by kernel_rfl) fun a hs => ?_
  refine s_end ?_
  refine c_seq ?_
  refine c_region ?_
  refine pures hs 1 [10] [(10, .slice p198 y194.1.length c199)] (by kernel_rfl) fun a hs => ?_
  obtain ⟨y249, h250, hk⟩ := bindE hk
  refine s_call hs (by kernel_rfl) (by kernel_rfl) (atlas_New_s h250 h200.read (memF 0 rfl) ((hw.pick [0, 1] (by kernel_rfl)).pack 0)) fun a w v hv hs => ?_
  rcases hv with ⟨y251, rfl, ⟨ih252, rfl, hw, hle253⟩⟩ | ⟨y295, rfl, ⟨ih296, b298, p300, c301, b303, b305, p307, c308, d310, rfl, hw, hle297, h302, h309⟩⟩
  · dsimp only at hk
    replace hw := hw.unpack 0 rfl
    refine pures hs 5 [3, 4] [(3, .pointer none), (4, .int .i64 y251)] (by kernel_rfl) fun a hs => ?_
    refine s_end ?_
    refine c_seq ?_
    obtain ⟨y279, hx280, hk⟩ := bindE hk
    obtain ⟨J281, hJ281⟩ : ∃ J : Act → World → Prop, ∀ a w, J a w ↔ (∃ (x278 : Bool), catenarylaw25_awake_r3 x278 = some r ∧ Sees a 35 [(0, .bool x278)] ∧ St g w [F] ih252) := ⟨_, fun _ _ => Iff.rfl⟩
    refine c_regJ J281 ?_ ?_
    · refine pures hs 3 [3, 16] [(3, .pointer none), (16, .bool (y251 == 0))] (by kernel_rfl) fun a hs => ?_
      rcases ifbE hx280 with ⟨h282, hx280⟩ | ⟨h282, hx280⟩
      · replace hs := hs.altB 16 true (by kernel_rfl) h282
        obtain ⟨y283, h284, hx280⟩ := bindE hx280
        refine s_call hs (by kernel_rfl) (by kernel_rfl) (atlas_Chain_s h284 ((hw.pick [1] (by kernel_rfl)).pack 0)) fun a w v hv hs => ?_
        obtain ⟨rfl, hw⟩ := hv
        replace hw := hw.unpack 0 rfl
        refine pures hs 3 [3, 20] [(3, .pointer none), (20, .bool (y283 == 1))] (by kernel_rfl) fun a hs => ?_
        rcases ifbE hx280 with ⟨h285, hx280⟩ | ⟨h285, hx280⟩
        · replace hs := hs.altB 20 true (by kernel_rfl) h285
          refine pures hs 1 [3, 20, 21] [(3, .pointer none), (20, .bool true), (21, .pointer none)] (by kernel_rfl) fun a hs => ?_
          obtain ⟨y286, h287, hx280⟩ := bindE hx280
          refine s_call hs (by kernel_rfl) (by kernel_rfl) (atlas_Atlas_Head_s h287 ((hw.pick [0] (by kernel_rfl)).pack 0)) fun a w v hv hs => ?_
          obtain ⟨rfl, hw⟩ := hv
          replace hw := hw.unpack 0 rfl
          refine pures hs 3 [3, 25] [(3, .pointer none), (25, .bool (y286 == 4))] (by kernel_rfl) fun a hs => ?_
          rcases ifbE hx280 with ⟨h288, hx280⟩ | ⟨h288, hx280⟩
          · replace hs := hs.altB 25 true (by kernel_rfl) h288
            refine pures hs 1 [3, 25, 26] [(3, .pointer none), (25, .bool true), (26, .pointer none)] (by kernel_rfl) fun a hs => ?_
            obtain ⟨y289, h290, hx280⟩ := bindE hx280
            refine s_call hs (by kernel_rfl) (by kernel_rfl) (atlas_Atlas_Reader_s h290 ((hw.pick [0] (by kernel_rfl)).pack 0)) fun a w v hv hs => ?_
            obtain ⟨rfl, hw⟩ := hv
            replace hw := hw.unpack 0 rfl
            refine pures hs 3 [3, 30] [(3, .pointer none), (30, .bool (y289 == 5))] (by kernel_rfl) fun a hs => ?_
            rcases ifbE hx280 with ⟨h291, hx280⟩ | ⟨h291, hx280⟩
            · replace hs := hs.altB 30 true (by kernel_rfl) h291
              refine pures hs 1 [30, 31] [(30, .bool true), (31, .pointer none)] (by kernel_rfl) fun a hs => ?_
              obtain ⟨y292, h293, hx280⟩ := bindE hx280
              refine s_call hs (by kernel_rfl) (by kernel_rfl) (atlas_Atlas_Chains_s h293 ((hw.pick [0] (by kernel_rfl)).pack 0)) fun a w v hv hs => ?_
              obtain ⟨rfl, hw⟩ := hv
              replace hw := hw.unpack 0 rfl
              refine pures hs 3 [0] [(0, .bool (y292 == 2))] (by kernel_rfl) fun a hs => ?_
              refine s_end ?_
              obtain rfl := someE hx280
              exact (hJ281 _ _).2 ⟨(y292 == 2), hk, hs.cast [0] (by kernel_rfl), hw.pick [0] (by kernel_rfl)⟩
            · replace hs := hs.altB 30 false (by kernel_rfl) h291
              refine pures hs 5 [0] [(0, .bool false)] (by kernel_rfl) fun a hs => ?_
              refine s_end ?_
              obtain rfl := someE hx280
              exact (hJ281 _ _).2 ⟨false, hk, hs.cast [0] (by kernel_rfl), hw.pick [0] (by kernel_rfl)⟩
          · replace hs := hs.altB 25 false (by kernel_rfl) h288
            refine pures hs 10 [0] [(0, .bool false)] (by kernel_rfl) fun a hs => ?_
            refine s_end ?_
            obtain rfl := someE hx280
            exact (hJ281 _ _).2 ⟨false, hk, hs.cast [0] (by kernel_rfl), hw.pick [0] (by kernel_rfl)⟩
        · replace hs := hs.altB 20 false (by kernel_rfl) h285
          refine pures hs 15 [0] [(0, .bool false)] (by kernel_rfl) fun a hs => ?_
          refine s_end ?_
          obtain rfl := someE hx280
          exact (hJ281 _ _).2 ⟨false, hk, hs.cast [0] (by kernel_rfl), hw.pick [0] (by kernel_rfl)⟩
      · replace hs := hs.altB 16 false (by kernel_rfl) h282
        refine pures hs 19 [0] [(0, .bool false)] (by kernel_rfl) fun a hs => ?_
        refine s_end ?_
        obtain rfl := someE hx280
        exact (hJ281 _ _).2 ⟨false, hk, hs.cast [0] (by kernel_rfl), hw.pick [1] (by kernel_rfl)⟩
    · intro a w hh
      obtain ⟨x278, hk, hs, hw⟩ := (hJ281 _ _).1 hh
      refine wp_ret ?_
      obtain rfl := someE hk
      refine hQ _ _ (f_ret1 hs rfl (v := .bool x278) (by kernel_rfl) ⟨ih252, rfl, hw.pick [0] (by kernel_rfl), (hle197.trans hle253)⟩)
  · dsimp only at hk
    replace hw := hw.unpack 4 rfl
    refine pures hs 5 [3, 4] [(3, .pointer (some ⟨b298, 0, none⟩)), (4, .int .i64 y295.2.2.2.2.2.2.2)] (by kernel_rfl) fun a hs => ?_
    refine s_end ?_
    refine c_seq ?_
    obtain ⟨y347, hx348, hk⟩ := bindE hk
    obtain ⟨J349, hJ349⟩ : ∃ J : Act → World → Prop, ∀ a w, J a w ↔ (∃ (x346 : Bool) (ih344 : IH), catenarylaw25_awake_r4 x346 = some r ∧ Sees a 35 [(0, .bool x346)] ∧ St g w [F] ih344 ∧ Le ih296 ih344) := ⟨_, fun _ _ => Iff.rfl⟩
    refine c_regJ J349 ?_ ?_
    · refine pures hs 3 [3, 16] [(3, .pointer (some ⟨b298, 0, none⟩)), (16, .bool (y295.2.2.2.2.2.2.2 == 0))] (by kernel_rfl) fun a hs => ?_
      rcases ifbE hx348 with ⟨h350, hx348⟩ | ⟨h350, hx348⟩
      · replace hs := hs.altB 16 true (by kernel_rfl) h350
        obtain ⟨y351, h352, hx348⟩ := bindE hx348
        refine s_call hs (by kernel_rfl) (by kernel_rfl) (atlas_Chain_s h352 ((hw.pick [0, 1, 2, 3, 5] (by kernel_rfl)).pack 0)) fun a w v hv hs => ?_
        obtain ⟨rfl, hw⟩ := hv
        replace hw := hw.unpack 0 rfl
        refine pures hs 3 [3, 20] [(3, .pointer (some ⟨b298, 0, none⟩)), (20, .bool (y351 == 1))] (by kernel_rfl) fun a hs => ?_
        rcases ifbE hx348 with ⟨h353, hx348⟩ | ⟨h353, hx348⟩
        · replace hs := hs.altB 20 true (by kernel_rfl) h353
          refine pures hs 1 [3, 20, 21] [(3, .pointer (some ⟨b298, 0, none⟩)), (20, .bool true), (21, .pointer (some ⟨b298, 0, none⟩))] (by kernel_rfl) fun a hs => ?_
          obtain ⟨y354, h355, hx348⟩ := bindE hx348
          refine s_call hs (by kernel_rfl) (by kernel_rfl) (atlas_Atlas_Head_2_s h355 h302 h309 ((hw.pick [0, 1, 2, 3, 4] (by kernel_rfl)).pack 4)) fun a w v hv hs => ?_
          obtain ⟨ih356, rfl, hw, hle357⟩ := hv
          replace hw := hw.unpack 4 rfl
          refine pures hs 3 [3, 25] [(3, .pointer (some ⟨b298, 0, none⟩)), (25, .bool (y354 == 4))] (by kernel_rfl) fun a hs => ?_
          rcases ifbE hx348 with ⟨h358, hx348⟩ | ⟨h358, hx348⟩
          · replace hs := hs.altB 25 true (by kernel_rfl) h358
            refine pures hs 1 [3, 25, 26] [(3, .pointer (some ⟨b298, 0, none⟩)), (25, .bool true), (26, .pointer (some ⟨b298, 0, none⟩))] (by kernel_rfl) fun a hs => ?_
            obtain ⟨y359, h360, hx348⟩ := bindE hx348
            refine s_call hs (by kernel_rfl) (by kernel_rfl) (atlas_Atlas_Reader_2_s h360 (h302.mono hle357) (h309.mono hle357) ((hw.pick [0, 1, 2, 3, 4] (by kernel_rfl)).pack 4)) fun a w v hv hs => ?_
            obtain ⟨ih361, rfl, hw, hle362⟩ := hv
            replace hw := hw.unpack 4 rfl
            refine pures hs 3 [3, 30] [(3, .pointer (some ⟨b298, 0, none⟩)), (30, .bool (y359 == 5))] (by kernel_rfl) fun a hs => ?_
            rcases ifbE hx348 with ⟨h363, hx348⟩ | ⟨h363, hx348⟩
            · replace hs := hs.altB 30 true (by kernel_rfl) h363
              refine pures hs 1 [30, 31] [(30, .bool true), (31, .pointer (some ⟨b298, 0, none⟩))] (by kernel_rfl) fun a hs => ?_
              obtain ⟨y364, h365, hx348⟩ := bindE hx348
              refine s_call hs (by kernel_rfl) (by kernel_rfl) (atlas_Atlas_Chains_2_s h365 (h302.mono (hle357.trans hle362)) (h309.mono (hle357.trans hle362)) ((hw.pick [0, 1, 2, 3, 4] (by kernel_rfl)).pack 4)) fun a w v hv hs => ?_
              obtain ⟨rfl, hw⟩ := hv
              replace hw := hw.unpack 4 rfl
              refine pures hs 3 [0] [(0, .bool (y364 == 2))] (by kernel_rfl) fun a hs => ?_
              refine s_end ?_
              obtain rfl := someE hx348
              exact (hJ349 _ _).2 ⟨(y364 == 2), ih361, hk, hs.cast [0] (by kernel_rfl), hw.pick [4] (by kernel_rfl), (hle357.trans hle362)⟩
            · replace hs := hs.altB 30 false (by kernel_rfl) h363
              refine pures hs 5 [0] [(0, .bool false)] (by kernel_rfl) fun a hs => ?_
              refine s_end ?_
              obtain rfl := someE hx348
              exact (hJ349 _ _).2 ⟨false, ih361, hk, hs.cast [0] (by kernel_rfl), hw.pick [4] (by kernel_rfl), (hle357.trans hle362)⟩
          · replace hs := hs.altB 25 false (by kernel_rfl) h358
            refine pures hs 10 [0] [(0, .bool false)] (by kernel_rfl) fun a hs => ?_
            refine s_end ?_
            obtain rfl := someE hx348
            exact (hJ349 _ _).2 ⟨false, ih356, hk, hs.cast [0] (by kernel_rfl), hw.pick [4] (by kernel_rfl), hle357⟩
        · replace hs := hs.altB 20 false (by kernel_rfl) h353
          refine pures hs 15 [0] [(0, .bool false)] (by kernel_rfl) fun a hs => ?_
          refine s_end ?_
          obtain rfl := someE hx348
          exact (hJ349 _ _).2 ⟨false, ih296, hk, hs.cast [0] (by kernel_rfl), hw.pick [4] (by kernel_rfl), (Le.refl _)⟩
      · replace hs := hs.altB 16 false (by kernel_rfl) h350
        refine pures hs 19 [0] [(0, .bool false)] (by kernel_rfl) fun a hs => ?_
        refine s_end ?_
        obtain rfl := someE hx348
        exact (hJ349 _ _).2 ⟨false, ih296, hk, hs.cast [0] (by kernel_rfl), hw.pick [5] (by kernel_rfl), (Le.refl _)⟩
    · intro a w hh
      obtain ⟨x346, ih344, hk, hs, hw, hle345⟩ := (hJ349 _ _).1 hh
      refine wp_ret ?_
      obtain rfl := someE hk
      refine hQ _ _ (f_ret1 hs rfl (v := .bool x346) (by kernel_rfl) ⟨ih344, rfl, hw.pick [0] (by kernel_rfl), ((hle197.trans hle297).trans hle345)⟩)
def catenarylaw25_AtlasChains_r2 (x97 : Bool) : Option Bool :=
  some x97
def catenarylaw25_AtlasChains (k : Nat) (x1 : Int) (x2 : Int) : Option Bool :=
  (atlas_Chain x1 x2).bind fun y63 =>
  ((catenaryref25_Chain x1 x2).bind fun y101 =>
    if (y63 == y101) = true then (
      if (decide (y63 ≥ 0)) = true then (
        if (decide (y63 < x2)) = true then (
          (catenarylaw25_awake k).bind fun y106 =>
          some y106)
        else if (decide (x2 < 1)) = true then (
          if (y63 == 0) = true then (
            (catenarylaw25_awake k).bind fun y112 =>
            some y112)
          else some false)
        else some false)
      else some false)
    else some false : Option Bool).bind fun s116 => catenarylaw25_AtlasChains_r2 s116
theorem catenarylaw25_AtlasChains_s {k : Nat} {x1 : Int} {x2 : Int} {r : Bool} (hk : catenarylaw25_AtlasChains k x1 x2 = some r) {g w : World} {F : Ch} {ih : IH} (hw : St g w [F] ih) :
    CallsR Try.prog 9 #[.int .u32 x1, .int .i64 x2] w fun v w' => ∃ (ih' : IH), v = .bool r ∧ St g w' [F] ih' ∧ Le ih ih' := by
  refine f_in (vs := [.int .u32 x1, .int .i64 x2]) Try.func9 rfl 34 rfl (by kernel_rfl) [(0, .int .u32 x1), (1, .int .i64 x2)] (by kernel_rfl) fun a Qf hQ hQn hs => ?_
  refine c_seq ?_
  refine c_region ?_
  refine pures hs 1 [0, 1] [(0, .int .u32 x1), (1, .int .i64 x2)] (by kernel_rfl) fun a hs => ?_
  refine s_end ?_
  refine c_seq ?_
  refine c_region ?_
  refine pures hs 2 [0, 1, 6, 7] [(0, .int .u32 x1), (1, .int .i64 x2), (6, .int .u32 x1), (7, .int .i64 x2)] (by kernel_rfl) fun a hs => ?_
  obtain ⟨y63, h64, hk⟩ := bindE hk
  refine s_call hs (by kernel_rfl) (by kernel_rfl) (atlas_Chain_s h64 ((hw.pick [0] (by kernel_rfl)).pack 0)) fun a w v hv hs => ?_
  obtain ⟨rfl, hw⟩ := hv
  replace hw := hw.unpack 0 rfl
  refine pures hs 1 [0, 1, 5] [(0, .int .u32 x1), (1, .int .i64 x2), (5, .int .i64 y63)] (by kernel_rfl) fun a hs => ?_
  refine s_end ?_
  refine c_seq ?_
  obtain ⟨y98, hx99, hk⟩ := bindE hk
  obtain ⟨J100, hJ100⟩ : ∃ J : Act → World → Prop, ∀ a w, J a w ↔ (∃ (x97 : Bool) (ih95 : IH), catenarylaw25_AtlasChains_r2 x97 = some r ∧ Sees a 34 [(4, .bool x97)] ∧ St g w [F] ih95 ∧ Le ih ih95) := ⟨_, fun _ _ => Iff.rfl⟩
  refine c_regJ J100 ?_ ?_
  · refine pures hs 3 [1, 5, 9, 10, 11] [(1, .int .i64 x2), (5, .int .i64 y63), (9, .int .i64 y63), (10, .int .u32 x1), (11, .int .i64 x2)] (by kernel_rfl) fun a hs => ?_
    obtain ⟨y101, h102, hx99⟩ := bindE hx99
    refine s_call hs (by kernel_rfl) (by kernel_rfl) (catenaryref25_Chain_s h102 ((hw.pick [0] (by kernel_rfl)).pack 0)) fun a w v hv hs => ?_
    obtain ⟨rfl, hw⟩ := hv
    replace hw := hw.unpack 0 rfl
    refine pures hs 2 [1, 5, 14] [(1, .int .i64 x2), (5, .int .i64 y63), (14, .bool (y63 == y101))] (by kernel_rfl) fun a hs => ?_
    rcases ifbE hx99 with ⟨h103, hx99⟩ | ⟨h103, hx99⟩
    · replace hs := hs.altB 14 true (by kernel_rfl) h103
      refine pures hs 4 [1, 5, 18] [(1, .int .i64 x2), (5, .int .i64 y63), (18, .bool (decide (y63 ≥ 0)))] (by kernel_rfl) fun a hs => ?_
      rcases ifbE hx99 with ⟨h104, hx99⟩ | ⟨h104, hx99⟩
      · replace hs := hs.altB 18 true (by kernel_rfl) h104
        refine pures hs 4 [1, 5, 18, 22] [(1, .int .i64 x2), (5, .int .i64 y63), (18, .bool true), (22, .bool (decide (y63 < x2)))] (by kernel_rfl) fun a hs => ?_
        rcases ifbE hx99 with ⟨h105, hx99⟩ | ⟨h105, hx99⟩
        · replace hs := hs.altB 22 true (by kernel_rfl) h105
          refine pures hs 9 [31] [(31, .bool true)] (by kernel_rfl) fun a hs => ?_
          obtain ⟨y106, h107, hx99⟩ := bindE hx99
          refine s_call hs (by kernel_rfl) (by kernel_rfl) (catenarylaw25_awake_s h107 ((hw.pick [0] (by kernel_rfl)).pack 0)) fun a w v hv hs => ?_
          obtain ⟨ih108, rfl, hw, hle109⟩ := hv
          replace hw := hw.unpack 0 rfl
          refine pures hs 2 [4] [(4, .bool y106)] (by kernel_rfl) fun a hs => ?_
          refine s_end ?_
          obtain rfl := someE hx99
          exact (hJ100 _ _).2 ⟨y106, ih108, hk, hs.cast [4] (by kernel_rfl), hw.pick [0] (by kernel_rfl), hle109⟩
        · replace hs := hs.altB 22 false (by kernel_rfl) h105
          refine pures hs 3 [5, 18, 22, 25] [(5, .int .i64 y63), (18, .bool true), (22, .bool false), (25, .bool (decide (x2 < 1)))] (by kernel_rfl) fun a hs => ?_
          rcases ifbE hx99 with ⟨h110, hx99⟩ | ⟨h110, hx99⟩
          · replace hs := hs.altB 25 true (by kernel_rfl) h110
            refine pures hs 6 [31] [(31, .bool (y63 == 0))] (by kernel_rfl) fun a hs => ?_
            rcases ifbE hx99 with ⟨h111, hx99⟩ | ⟨h111, hx99⟩
            · replace hs := hs.altB 31 true (by kernel_rfl) h111
              obtain ⟨y112, h113, hx99⟩ := bindE hx99
              refine s_call hs (by kernel_rfl) (by kernel_rfl) (catenarylaw25_awake_s h113 ((hw.pick [0] (by kernel_rfl)).pack 0)) fun a w v hv hs => ?_
              obtain ⟨ih114, rfl, hw, hle115⟩ := hv
              replace hw := hw.unpack 0 rfl
              refine pures hs 2 [4] [(4, .bool y112)] (by kernel_rfl) fun a hs => ?_
              refine s_end ?_
              obtain rfl := someE hx99
              exact (hJ100 _ _).2 ⟨y112, ih114, hk, hs.cast [4] (by kernel_rfl), hw.pick [0] (by kernel_rfl), hle115⟩
            · replace hs := hs.altB 31 false (by kernel_rfl) h111
              refine pures hs 3 [4] [(4, .bool false)] (by kernel_rfl) fun a hs => ?_
              refine s_end ?_
              obtain rfl := someE hx99
              exact (hJ100 _ _).2 ⟨false, ih, hk, hs.cast [4] (by kernel_rfl), hw.pick [0] (by kernel_rfl), (Le.refl _)⟩
          · replace hs := hs.altB 25 false (by kernel_rfl) h110
            refine pures hs 9 [4] [(4, .bool false)] (by kernel_rfl) fun a hs => ?_
            refine s_end ?_
            obtain rfl := someE hx99
            exact (hJ100 _ _).2 ⟨false, ih, hk, hs.cast [4] (by kernel_rfl), hw.pick [0] (by kernel_rfl), (Le.refl _)⟩
      · replace hs := hs.altB 18 false (by kernel_rfl) h104
        refine pures hs 16 [4] [(4, .bool false)] (by kernel_rfl) fun a hs => ?_
        refine s_end ?_
        obtain rfl := someE hx99
        exact (hJ100 _ _).2 ⟨false, ih, hk, hs.cast [4] (by kernel_rfl), hw.pick [0] (by kernel_rfl), (Le.refl _)⟩
    · replace hs := hs.altB 14 false (by kernel_rfl) h103
      refine pures hs 20 [4] [(4, .bool false)] (by kernel_rfl) fun a hs => ?_
      refine s_end ?_
      obtain rfl := someE hx99
      exact (hJ100 _ _).2 ⟨false, ih, hk, hs.cast [4] (by kernel_rfl), hw.pick [0] (by kernel_rfl), (Le.refl _)⟩
  · intro a w hh
    obtain ⟨x97, ih95, hk, hs, hw, hle96⟩ := (hJ100 _ _).1 hh
    refine wp_ret ?_
    obtain rfl := someE hk
    refine hQ _ _ (f_ret1 hs rfl (v := .bool x97) (by kernel_rfl) ⟨ih95, rfl, hw.pick [0] (by kernel_rfl), hle96⟩)
end Go.Proofs.Ytfpppgbibgbllaa.Sx
