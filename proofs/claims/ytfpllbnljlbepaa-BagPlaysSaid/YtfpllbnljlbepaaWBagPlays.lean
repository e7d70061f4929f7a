/- The walk of BagPlays: each Go function that it calls, as a plain function, and the proof that the call computes it. Printed by the program gen.py.
   Conditions: those that each theorem states ahead of its colon, and no other. -/
import Derived.Test.YtfpllbnljlbepaaWBagPlays0
namespace Go.Proofs.Ytfpllbnljlbepaa.Sx
open Go Go.Proofs
set_option maxRecDepth 100000
set_option linter.unusedVariables false
def catenarylaw06_step_r5 (x4 : Int) (y420 : Int × Bool × (List M102)) (x445 : Bool) (x446 : Int) (x447 : Int) (x448 : List M92) : Option (M41 × Bool × Int × (List M102)) :=
  some ((M41.mk x446 x447 x448), x445, x4, y420.2.2)
def catenarylaw06_step_r6 (x4 : Int) (x498 : Bool) (x499 : Int) (x500 : Int) (x501 : List M92) (x505 : List M102) : Option (M41 × Bool × Int × (List M102)) :=
  some ((M41.mk x499 x500 x501), x498, x4, x505)
def catenarylaw06_step_r7 (y540 : M41 × Int) (x4 : Int) (x562 : Bool) (x563 : List M102) : Option (M41 × Bool × Int × (List M102)) :=
  some ((M41.mk y540.1.f0 y540.1.f1 y540.1.f2), x562, x4, x563)
def catenarylaw06_step_r8 (x11 : M41) (x4 : Int) (x5 : List M102) (x610 : Bool) : Option (M41 × Bool × Int × (List M102)) :=
  some (x11, x610, x4, x5)
def catenarylaw06_step (k : Nat) (x3 : Int) (x4 : Int) (x5 : List M102) (x11 : M41) (x15 : M45) : Option (M41 × Bool × Int × (List M102)) :=
  if (x15.f0 == 0) = true then (
    (catenaryref06_Put x11 x15.f2).bind fun y343 =>
    (bag_Bag_int_Put x3 x4 x5 x15.f2).bind fun y358 =>
    some ((M41.mk y343.1.f0 y343.1.f1 y343.1.f2), ((y343.2.1 == y358.1) && (y343.2.2 == y358.2.1)), y358.2.2.1, y358.2.2.2))
  else if (x15.f0 == 1) = true then (
    (catenaryref06_Twice x11 x15.f1).bind fun y379 =>
    (bag_Bag_int_Twice x3 x4 x5 x15.f1).bind fun y394 =>
    some ((M41.mk y379.1.f0 y379.1.f1 y379.1.f2), ((y379.2.1 == y394.1) && (y379.2.2 == y394.2.1)), y394.2.2.1, y394.2.2.2))
  else if (x15.f0 == 2) = true then (
    (catenaryref06_At x11 x15.f1).bind fun y410 =>
    (bag_Bag_int_Take x3 x4 x5 x15.f1).bind fun y420 =>
    ((catenaryref06_Take x11 x15.f1).bind fun y455 =>
      if (y420.1 == y410.1.f1) = true then some ((y420.2.1 == y410.2), y455.f0, y455.f1, y455.f2)
      else some (false, y455.f0, y455.f1, y455.f2) : Option (Bool × Int × Int × (List M92))).bind fun s463 => catenarylaw06_step_r5 x4 y420 s463.1 s463.2.1 s463.2.2.1 s463.2.2.2)
  else if (x15.f0 == 3) = true then (
    ((catenaryref06_Set x11 x15.f1 x15.f2).bind fun y514 =>
      (bag_Bag_int_Set x3 x4 x5 x15.f1 x15.f2).bind fun y521 =>
      (catenaryref06_Has x11 x15.f1).bind fun y527 =>
      some ((y521.1 == y527), y514.f0, y514.f1, y514.f2, y521.2) : Option (Bool × Int × Int × (List M92) × (List M102))).bind fun s529 => catenarylaw06_step_r6 x4 s529.1 s529.2.1 s529.2.2.1 s529.2.2.2.1 s529.2.2.2.2)
  else if (x15.f0 == 4) = true then (
    (catenaryref06_Odd k x11).bind fun y540 =>
    ((bag_Bag_int_Keep k x3 x4 x5).bind fun y572 =>
      some ((y572.1 == y540.2), y572.2) : Option (Bool × (List M102))).bind fun s578 => catenarylaw06_step_r7 y540 x4 s578.1 s578.2)
  else (catenaryref06_At x11 x15.f1).bind fun y583 =>
  (bag_Bag_int_At x3 x4 x5 x15.f1).bind fun y589 =>
  (if (y589.1 == y583.1.f1) = true then (
      if (y589.2 == y583.2) = true then (
        (bag_Bag_int_No x3 x4 x5 x15.f1).bind fun y616 =>
        if (y616 == y583.1.f0) = true then (
          (bag_Bag_int_Upto k x3 x4 x5 x15.f2).bind fun y619 =>
          (catenaryref06_Upto k x11 x15.f2).bind fun y621 =>
          some (y619 == y621))
        else some false)
      else some false)
    else some false : Option Bool).bind fun s623 => catenarylaw06_step_r8 x11 x4 x5 s623
theorem catenarylaw06_step_s {k : Nat} {x3 : Int} {x4 : Int} {x5 : List M102} {x11 : M41} {x15 : M45} {b2 : Nat} {p6 : Option Addr} {c7 : Nat} {d9 : Ch} {p12 : Option Addr} {c13 : Nat} {r : M41 × Bool × Int × (List M102)} (hk : catenarylaw06_step k x3 x4 x5 x11 x15 = some r) {g w : World} {F : Ch} {ih : IH} (h8 : OSl e102 ih p6 c7 x5 d9) (h14 : RSl e92 ih [] p12 c13 x11.f2) (hw : St g w [bx b2 [.int .i64 x3, .int .i64 x4, .slice p6 x5.length c7] 88, d9, F] ih) :
    CallsR Try.prog 18 #[.pointer (some ⟨b2, 0, none⟩), .agg #[.int .i64 x11.f0, .int .i64 x11.f1, .slice p12 x11.f2.length c13], .agg #[.int .i64 x15.f0, .int .i64 x15.f1, .int .i64 x15.f2]] w fun v w' => ∃ (ih' : IH) (p624 : Option Addr) (c625 : Nat) (p627 : Option Addr) (c628 : Nat) (d629 : Ch), v = .tuple #[.agg #[.int .i64 r.1.f0, .int .i64 r.1.f1, .slice p624 r.1.f2.length c625], .bool r.2.1] ∧ St g w' [bx b2 [.int .i64 x3, .int .i64 r.2.2.1, .slice p627 r.2.2.2.length c628] 88, d629, F] ih' ∧ Le ih ih' ∧ RSl e92 ih' [] p624 c625 r.1.f2 ∧ OSl e102 ih' p627 c628 r.2.2.2 d629 := by
  refine f_in (vs := [.pointer (some ⟨b2, 0, none⟩), .agg #[.int .i64 x11.f0, .int .i64 x11.f1, .slice p12 x11.f2.length c13], .agg #[.int .i64 x15.f0, .int .i64 x15.f1, .int .i64 x15.f2]]) Try.func18 rfl 186 rfl (by kernel_rfl) [(0, .pointer (some ⟨b2, 0, none⟩)), (1, .agg #[.int .i64 x11.f0, .int .i64 x11.f1, .slice p12 x11.f2.length c13]), (2, .agg #[.int .i64 x15.f0, .int .i64 x15.f1, .int .i64 x15.f2])] (by kernel_rfl) fun a Qf hQ hQn hs => ?_
  refine c_seq ?_
  refine c_region ?_
  refine s_new hs hw [.int .i64 x11.f0, .int .i64 x11.f1, .slice p12 x11.f2.length c13] 41 (fun b => .pointer (some ⟨b, 0, none⟩)) (by kernel_rfl) (fun _ => by kernel_rfl) fun a w b327 hs hw => ?_
  refine s_new hs hw [.int .i64 x15.f0, .int .i64 x15.f1, .int .i64 x15.f2] 45 (fun b => .pointer (some ⟨b, 0, none⟩)) (by kernel_rfl) (fun _ => by kernel_rfl) fun a w b329 hs hw => ?_
  refine s_new hs hw [.int .i64 0, .int .i64 0, .slice none 0 0] 41 (fun b => .pointer (some ⟨b, 0, none⟩)) (by kernel_rfl) (fun _ => by kernel_rfl) fun a w b331 hs hw => ?_
  refine pures hs 1 [0, 4, 5, 6] [(0, .pointer (some ⟨b2, 0, none⟩)), (4, .pointer (some ⟨b327, 0, none⟩)), (5, .pointer (some ⟨b329, 0, none⟩)), (6, .pointer (some ⟨b331, 0, none⟩))] (by kernel_rfl) fun a hs => ?_
  refine s_end ?_
  refine c_seq ?_
  refine c_seq ?_
  refine c_region ?_
  refine pures hs 1 [0, 4, 5, 6, 28] [(0, .pointer (some ⟨b2, 0, none⟩)), (4, .pointer (some ⟨b327, 0, none⟩)), (5, .pointer (some ⟨b329, 0, none⟩)), (6, .pointer (some ⟨b331, 0, none⟩)), (28, .pointer (some ⟨b329, 0, none⟩))] (by kernel_rfl) fun a hs => ?_
  refine s_load hs (hw.at_ 1 rfl) 0 (by kernel_rfl) (by kernel_rfl) (v := .int .i64 x15.f0) (by kernel_rfl) fun a hs => ?_
  refine s_end ?_
  refine c_block ?_
  refine c_seq ?_
  refine c_region ?_
  refine pures hs 2 [0, 4, 5, 6, 29, 30] [(0, .pointer (some ⟨b2, 0, none⟩)), (4, .pointer (some ⟨b327, 0, none⟩)), (5, .pointer (some ⟨b329, 0, none⟩)), (6, .pointer (some ⟨b331, 0, none⟩)), (29, .int .i64 x15.f0), (30, .bool (x15.f0 == 0))] (by kernel_rfl) fun a hs => ?_
  refine s_end ?_
  rcases ifbE hk with ⟨h333, hk⟩ | ⟨h333, hk⟩
  · refine c_cond1 hs (by kernel_rfl) (t := (x15.f0 == 0)) (by kernel_rfl) h333 ?_
    refine c_seq ?_
    refine c_region ?_
    refine s_load hs (hw.at_ 2 rfl) 0 (by kernel_rfl) (by kernel_rfl) (v := .agg #[.int .i64 x11.f0, .int .i64 x11.f1, .slice p12 x11.f2.length c13]) (by kernel_rfl) fun a hs => ?_
    refine pures hs 1 [0, 5, 6, 33, 34] [(0, .pointer (some ⟨b2, 0, none⟩)), (5, .pointer (some ⟨b329, 0, none⟩)), (6, .pointer (some ⟨b331, 0, none⟩)), (33, .agg #[.int .i64 x11.f0, .int .i64 x11.f1, .slice p12 x11.f2.length c13]), (34, .pointer (some ⟨b329, 2, none⟩))] (by kernel_rfl) fun a hs => ?_
    refine s_load hs (hw.at_ 1 rfl) 2 (by kernel_rfl) (by kernel_rfl) (v := .int .i64 x15.f2) (by kernel_rfl) fun a hs => ?_
    obtain ⟨y343, h344, hk⟩ := bindE hk
    refine s_call hs (by kernel_rfl) (by kernel_rfl) (catenaryref06_Put_s h344 h14 ((hw.pick [0, 1, 3, 4, 5] (by kernel_rfl)).pack 0)) fun a w v hv hs => ?_
    obtain ⟨ih345, p347, c348, rfl, hw, hle346, h349⟩ := hv
    replace hw := hw.unpack 0 rfl
    refine pures hs 4 [0, 5, 6, 37, 38, 39] [(0, .pointer (some ⟨b2, 0, none⟩)), (5, .pointer (some ⟨b329, 0, none⟩)), (6, .pointer (some ⟨b331, 0, none⟩)), (37, .agg #[.int .i64 y343.1.f0, .int .i64 y343.1.f1, .slice p347 y343.1.f2.length c348]), (38, .int .i64 y343.2.1), (39, .int .i64 y343.2.2)] (by kernel_rfl) fun a hs => ?_
    refine s_new hs hw [.int .i64 0, .int .i64 0, .slice none 0 0] 41 (fun b => .pointer (some ⟨b, 0, none⟩)) (by kernel_rfl) (fun _ => by kernel_rfl) fun a w b350 hs hw => ?_
    refine s_store hs hw 0 rfl 0 (by kernel_rfl) (by kernel_rfl) (v := .agg #[.int .i64 y343.1.f0, .int .i64 y343.1.f1, .slice p347 y343.1.f2.length c348]) (by kernel_rfl) (by kernel_rfl) (by kernel_rfl) (by kernel_rfl) fun a w hs hw => ?_
    refine pures hs 2 [0, 5, 6, 8, 9, 10] [(0, .pointer (some ⟨b2, 0, none⟩)), (5, .pointer (some ⟨b329, 0, none⟩)), (6, .pointer (some ⟨b331, 0, none⟩)), (8, .pointer (some ⟨b350, 0, none⟩)), (9, .int .i64 y343.2.1), (10, .int .i64 y343.2.2)] (by kernel_rfl) fun a hs => ?_
    refine s_end ?_
    refine c_seq ?_
    refine c_region ?_
    refine pures hs 2 [6, 8, 9, 10, 41, 42] [(6, .pointer (some ⟨b331, 0, none⟩)), (8, .pointer (some ⟨b350, 0, none⟩)), (9, .int .i64 y343.2.1), (10, .int .i64 y343.2.2), (41, .pointer (some ⟨b2, 0, none⟩)), (42, .pointer (some ⟨b329, 2, none⟩))] (by kernel_rfl) fun a hs => ?_
    refine s_load hs (hw.at_ 2 rfl) 2 (by kernel_rfl) (by kernel_rfl) (v := .int .i64 x15.f2) (by kernel_rfl) fun a hs => ?_
    obtain ⟨y358, h359, hk⟩ := bindE hk
    refine s_call hs (by kernel_rfl) (by kernel_rfl) (bag_Bag_int_Put_s h359 (h8.mono hle346) ((hw.pick [3, 4, 0, 1, 5] (by kernel_rfl)).pack 2)) fun a w v hv hs => ?_
    obtain ⟨p360, c361, d363, rfl, hw, h362⟩ := hv
    replace hw := hw.unpack 2 rfl
    refine pures hs 5 [6, 8, 9, 10, 11, 12] [(6, .pointer (some ⟨b331, 0, none⟩)), (8, .pointer (some ⟨b350, 0, none⟩)), (9, .int .i64 y343.2.1), (10, .int .i64 y343.2.2), (11, .int .i64 y358.1), (12, .int .i64 y358.2.1)] (by kernel_rfl) fun a hs => ?_
    refine s_end ?_
    refine c_seq ?_
    obtain ⟨J367, hJ367⟩ : ∃ J : Act → World → Prop, ∀ a w, J a w ↔ (Sees a 186 [(6, .pointer (some ⟨b331, 0, none⟩)), (7, .bool ((y343.2.1 == y358.1) && (y343.2.2 == y358.2.1)))] ∧ St g w [bx b2 [.int .i64 x3, .int .i64 y358.2.2.1, .slice p360 y358.2.2.2.length c361] 88, bx b331 [.int .i64 y343.1.f0, .int .i64 y343.1.f1, .slice p347 y343.1.f2.length c348] 41, d363, F] ih345) := ⟨_, fun _ _ => Iff.rfl⟩
    refine c_regJ J367 ?_ ?_
    · refine s_load hs (hw.at_ 2 rfl) 0 (by kernel_rfl) (by kernel_rfl) (v := .agg #[.int .i64 y343.1.f0, .int .i64 y343.1.f1, .slice p347 y343.1.f2.length c348]) (by kernel_rfl) fun a hs => ?_
      refine pures hs 4 [6, 10, 12, 47, 51] [(6, .pointer (some ⟨b331, 0, none⟩)), (10, .int .i64 y343.2.2), (12, .int .i64 y358.2.1), (47, .agg #[.int .i64 y343.1.f0, .int .i64 y343.1.f1, .slice p347 y343.1.f2.length c348]), (51, .bool (y343.2.1 == y358.1))] (by kernel_rfl) fun a hs => ?_
      rcases boolE (y343.2.1 == y358.1) with h368 | h368
      · replace hs := hs.altB 51 true (by kernel_rfl) h368
        refine pures hs 4 [6, 47, 55] [(6, .pointer (some ⟨b331, 0, none⟩)), (47, .agg #[.int .i64 y343.1.f0, .int .i64 y343.1.f1, .slice p347 y343.1.f2.length c348]), (55, .bool (y343.2.2 == y358.2.1))] (by kernel_rfl) fun a hs => ?_
        refine s_store hs hw 3 rfl 0 (by kernel_rfl) (by kernel_rfl) (v := .agg #[.int .i64 y343.1.f0, .int .i64 y343.1.f1, .slice p347 y343.1.f2.length c348]) (by kernel_rfl) (by kernel_rfl) (by kernel_rfl) (by kernel_rfl) fun a w hs hw => ?_
        refine pures hs 1 [6, 7] [(6, .pointer (some ⟨b331, 0, none⟩)), (7, .bool (y343.2.2 == y358.2.1))] (by kernel_rfl) fun a hs => ?_
        refine s_end ?_
        exact (hJ367 _ _).2 ⟨(hs.altB 7 ((y343.2.1 == y358.1) && (y343.2.2 == y358.2.1)) (by kernel_rfl) (by rw [h368] <;> rfl)).cast [6, 7] (by kernel_rfl), hw.pick [0, 3, 1, 4] (by kernel_rfl)⟩
      · replace hs := hs.altB 51 false (by kernel_rfl) h368
        refine pures hs 4 [6, 47, 55] [(6, .pointer (some ⟨b331, 0, none⟩)), (47, .agg #[.int .i64 y343.1.f0, .int .i64 y343.1.f1, .slice p347 y343.1.f2.length c348]), (55, .bool false)] (by kernel_rfl) fun a hs => ?_
        refine s_store hs hw 3 rfl 0 (by kernel_rfl) (by kernel_rfl) (v := .agg #[.int .i64 y343.1.f0, .int .i64 y343.1.f1, .slice p347 y343.1.f2.length c348]) (by kernel_rfl) (by kernel_rfl) (by kernel_rfl) (by kernel_rfl) fun a w hs hw => ?_
        refine pures hs 1 [6, 7] [(6, .pointer (some ⟨b331, 0, none⟩)), (7, .bool false)] (by kernel_rfl) fun a hs => ?_
        refine s_end ?_
        exact (hJ367 _ _).2 ⟨(hs.altB 7 ((y343.2.1 == y358.1) && (y343.2.2 == y358.2.1)) (by kernel_rfl) (by rw [h368] <;> rfl)).cast [6, 7] (by kernel_rfl), hw.pick [0, 3, 1, 4] (by kernel_rfl)⟩
    · intro a w hh
      obtain ⟨hs, hw⟩ := (hJ367 _ _).1 hh
      refine c_ret ?_
      obtain rfl := someE hk
      refine hQ _ _ (f_retG hs (l := [.cell 6 41, .tmp 7]) (vs := [.agg #[.int .i64 y343.1.f0, .int .i64 y343.1.f1, .slice p347 y343.1.f2.length c348], .bool ((y343.2.1 == y358.1) && (y343.2.2 == y358.2.1))]) rfl (⟨res_cell hs (hw.at_ 1 rfl) (by kernel_rfl) (v := .agg #[.int .i64 y343.1.f0, .int .i64 y343.1.f1, .slice p347 y343.1.f2.length c348]) (by kernel_rfl), ⟨res_tmp hs (v := .bool ((y343.2.1 == y358.1) && (y343.2.2 == y358.2.1))) (by kernel_rfl), trivial⟩⟩) (by kernel_rfl) ⟨ih345, p347, c348, p360, c361, d363, rfl, hw.pick [0, 2, 3] (by kernel_rfl), hle346, h349, h362⟩)
  · refine c_cond0 hs (by kernel_rfl) (t := (x15.f0 == 0)) (by kernel_rfl) h333 ?_
    refine c_seq ?_
    refine c_region ?_
    refine pures hs 2 [0, 4, 5, 6, 29, 56] [(0, .pointer (some ⟨b2, 0, none⟩)), (4, .pointer (some ⟨b327, 0, none⟩)), (5, .pointer (some ⟨b329, 0, none⟩)), (6, .pointer (some ⟨b331, 0, none⟩)), (29, .int .i64 x15.f0), (56, .bool (x15.f0 == 1))] (by kernel_rfl) fun a hs => ?_
    refine s_end ?_
    rcases ifbE hk with ⟨h369, hk⟩ | ⟨h369, hk⟩
    · refine c_cond1 hs (by kernel_rfl) (t := (x15.f0 == 1)) (by kernel_rfl) h369 ?_
      refine c_seq ?_
      refine c_region ?_
      refine s_load hs (hw.at_ 2 rfl) 0 (by kernel_rfl) (by kernel_rfl) (v := .agg #[.int .i64 x11.f0, .int .i64 x11.f1, .slice p12 x11.f2.length c13]) (by kernel_rfl) fun a hs => ?_
      refine pures hs 1 [0, 5, 6, 59, 60] [(0, .pointer (some ⟨b2, 0, none⟩)), (5, .pointer (some ⟨b329, 0, none⟩)), (6, .pointer (some ⟨b331, 0, none⟩)), (59, .agg #[.int .i64 x11.f0, .int .i64 x11.f1, .slice p12 x11.f2.length c13]), (60, .pointer (some ⟨b329, 1, none⟩))] (by kernel_rfl) fun a hs => ?_
      refine s_load hs (hw.at_ 1 rfl) 1 (by kernel_rfl) (by kernel_rfl) (v := .int .i64 x15.f1) (by kernel_rfl) fun a hs => ?_
      obtain ⟨y379, h380, hk⟩ := bindE hk
      refine s_call hs (by kernel_rfl) (by kernel_rfl) (catenaryref06_Twice_s h380 h14 ((hw.pick [0, 1, 3, 4, 5] (by kernel_rfl)).pack 0)) fun a w v hv hs => ?_
      obtain ⟨ih381, p383, c384, rfl, hw, hle382, h385⟩ := hv
      replace hw := hw.unpack 0 rfl
      refine pures hs 4 [0, 5, 6, 63, 64, 65] [(0, .pointer (some ⟨b2, 0, none⟩)), (5, .pointer (some ⟨b329, 0, none⟩)), (6, .pointer (some ⟨b331, 0, none⟩)), (63, .agg #[.int .i64 y379.1.f0, .int .i64 y379.1.f1, .slice p383 y379.1.f2.length c384]), (64, .int .i64 y379.2.1), (65, .int .i64 y379.2.2)] (by kernel_rfl) fun a hs => ?_
      refine s_new hs hw [.int .i64 0, .int .i64 0, .slice none 0 0] 41 (fun b => .pointer (some ⟨b, 0, none⟩)) (by kernel_rfl) (fun _ => by kernel_rfl) fun a w b386 hs hw => ?_
      refine s_store hs hw 0 rfl 0 (by kernel_rfl) (by kernel_rfl) (v := .agg #[.int .i64 y379.1.f0, .int .i64 y379.1.f1, .slice p383 y379.1.f2.length c384]) (by kernel_rfl) (by kernel_rfl) (by kernel_rfl) (by kernel_rfl) fun a w hs hw => ?_
      refine pures hs 2 [0, 5, 6, 13, 14, 15] [(0, .pointer (some ⟨b2, 0, none⟩)), (5, .pointer (some ⟨b329, 0, none⟩)), (6, .pointer (some ⟨b331, 0, none⟩)), (13, .pointer (some ⟨b386, 0, none⟩)), (14, .int .i64 y379.2.1), (15, .int .i64 y379.2.2)] (by kernel_rfl) fun a hs => ?_
      refine s_end ?_
      refine c_seq ?_
      refine c_region ?_
      refine pures hs 2 [6, 13, 14, 15, 67, 68] [(6, .pointer (some ⟨b331, 0, none⟩)), (13, .pointer (some ⟨b386, 0, none⟩)), (14, .int .i64 y379.2.1), (15, .int .i64 y379.2.2), (67, .pointer (some ⟨b2, 0, none⟩)), (68, .pointer (some ⟨b329, 1, none⟩))] (by kernel_rfl) fun a hs => ?_
      refine s_load hs (hw.at_ 2 rfl) 1 (by kernel_rfl) (by kernel_rfl) (v := .int .i64 x15.f1) (by kernel_rfl) fun a hs => ?_
      obtain ⟨y394, h395, hk⟩ := bindE hk
      refine s_call hs (by kernel_rfl) (by kernel_rfl) (bag_Bag_int_Twice_s h395 (h8.mono hle382) ((hw.pick [3, 4, 0, 1, 5] (by kernel_rfl)).pack 2)) fun a w v hv hs => ?_
      obtain ⟨p396, c397, d399, rfl, hw, h398⟩ := hv
      replace hw := hw.unpack 2 rfl
      refine pures hs 5 [6, 13, 14, 15, 16, 17] [(6, .pointer (some ⟨b331, 0, none⟩)), (13, .pointer (some ⟨b386, 0, none⟩)), (14, .int .i64 y379.2.1), (15, .int .i64 y379.2.2), (16, .int .i64 y394.1), (17, .int .i64 y394.2.1)] (by kernel_rfl) fun a hs => ?_
      refine s_end ?_
      refine c_seq ?_
      obtain ⟨J403, hJ403⟩ : ∃ J : Act → World → Prop, ∀ a w, J a w ↔ (Sees a 186 [(6, .pointer (some ⟨b331, 0, none⟩)), (7, .bool ((y379.2.1 == y394.1) && (y379.2.2 == y394.2.1)))] ∧ St g w [bx b2 [.int .i64 x3, .int .i64 y394.2.2.1, .slice p396 y394.2.2.2.length c397] 88, bx b331 [.int .i64 y379.1.f0, .int .i64 y379.1.f1, .slice p383 y379.1.f2.length c384] 41, d399, F] ih381) := ⟨_, fun _ _ => Iff.rfl⟩
      refine c_regJ J403 ?_ ?_
      · refine s_load hs (hw.at_ 2 rfl) 0 (by kernel_rfl) (by kernel_rfl) (v := .agg #[.int .i64 y379.1.f0, .int .i64 y379.1.f1, .slice p383 y379.1.f2.length c384]) (by kernel_rfl) fun a hs => ?_
        refine pures hs 4 [6, 15, 17, 73, 77] [(6, .pointer (some ⟨b331, 0, none⟩)), (15, .int .i64 y379.2.2), (17, .int .i64 y394.2.1), (73, .agg #[.int .i64 y379.1.f0, .int .i64 y379.1.f1, .slice p383 y379.1.f2.length c384]), (77, .bool (y379.2.1 == y394.1))] (by kernel_rfl) fun a hs => ?_
        rcases boolE (y379.2.1 == y394.1) with h404 | h404
        · replace hs := hs.altB 77 true (by kernel_rfl) h404
          refine pures hs 4 [6, 73, 81] [(6, .pointer (some ⟨b331, 0, none⟩)), (73, .agg #[.int .i64 y379.1.f0, .int .i64 y379.1.f1, .slice p383 y379.1.f2.length c384]), (81, .bool (y379.2.2 == y394.2.1))] (by kernel_rfl) fun a hs => ?_
          refine s_store hs hw 3 rfl 0 (by kernel_rfl) (by kernel_rfl) (v := .agg #[.int .i64 y379.1.f0, .int .i64 y379.1.f1, .slice p383 y379.1.f2.length c384]) (by kernel_rfl) (by kernel_rfl) (by kernel_rfl) (by kernel_rfl) fun a w hs hw => ?_
          refine pures hs 1 [6, 7] [(6, .pointer (some ⟨b331, 0, none⟩)), (7, .bool (y379.2.2 == y394.2.1))] (by kernel_rfl) fun a hs => ?_
          refine s_end ?_
          exact (hJ403 _ _).2 ⟨(hs.altB 7 ((y379.2.1 == y394.1) && (y379.2.2 == y394.2.1)) (by kernel_rfl) (by rw [h404] <;> rfl)).cast [6, 7] (by kernel_rfl), hw.pick [0, 3, 1, 4] (by kernel_rfl)⟩
        · replace hs := hs.altB 77 false (by kernel_rfl) h404
          refine pures hs 4 [6, 73, 81] [(6, .pointer (some ⟨b331, 0, none⟩)), (73, .agg #[.int .i64 y379.1.f0, .int .i64 y379.1.f1, .slice p383 y379.1.f2.length c384]), (81, .bool false)] (by kernel_rfl) fun a hs => ?_
          refine s_store hs hw 3 rfl 0 (by kernel_rfl) (by kernel_rfl) (v := .agg #[.int .i64 y379.1.f0, .int .i64 y379.1.f1, .slice p383 y379.1.f2.length c384]) (by kernel_rfl) (by kernel_rfl) (by kernel_rfl) (by kernel_rfl) fun a w hs hw => ?_
          refine pures hs 1 [6, 7] [(6, .pointer (some ⟨b331, 0, none⟩)), (7, .bool false)] (by kernel_rfl) fun a hs => ?_
          refine s_end ?_
          exact (hJ403 _ _).2 ⟨(hs.altB 7 ((y379.2.1 == y394.1) && (y379.2.2 == y394.2.1)) (by kernel_rfl) (by rw [h404] <;> rfl)).cast [6, 7] (by kernel_rfl), hw.pick [0, 3, 1, 4] (by kernel_rfl)⟩
      · intro a w hh
        obtain ⟨hs, hw⟩ := (hJ403 _ _).1 hh
        refine c_ret ?_
        obtain rfl := someE hk
        refine hQ _ _ (f_retG hs (l := [.cell 6 41, .tmp 7]) (vs := [.agg #[.int .i64 y379.1.f0, .int .i64 y379.1.f1, .slice p383 y379.1.f2.length c384], .bool ((y379.2.1 == y394.1) && (y379.2.2 == y394.2.1))]) rfl (⟨res_cell hs (hw.at_ 1 rfl) (by kernel_rfl) (v := .agg #[.int .i64 y379.1.f0, .int .i64 y379.1.f1, .slice p383 y379.1.f2.length c384]) (by kernel_rfl), ⟨res_tmp hs (v := .bool ((y379.2.1 == y394.1) && (y379.2.2 == y394.2.1))) (by kernel_rfl), trivial⟩⟩) (by kernel_rfl) ⟨ih381, p383, c384, p396, c397, d399, rfl, hw.pick [0, 2, 3] (by kernel_rfl), hle382, h385, h398⟩)
    · refine c_cond0 hs (by kernel_rfl) (t := (x15.f0 == 1)) (by kernel_rfl) h369 ?_
      refine c_seq ?_
      refine c_region ?_
      refine pures hs 2 [0, 4, 5, 6, 29, 82] [(0, .pointer (some ⟨b2, 0, none⟩)), (4, .pointer (some ⟨b327, 0, none⟩)), (5, .pointer (some ⟨b329, 0, none⟩)), (6, .pointer (some ⟨b331, 0, none⟩)), (29, .int .i64 x15.f0), (82, .bool (x15.f0 == 2))] (by kernel_rfl) fun a hs => ?_
      refine s_end ?_
      rcases ifbE hk with ⟨h405, hk⟩ | ⟨h405, hk⟩
      · refine c_cond1 hs (by kernel_rfl) (t := (x15.f0 == 2)) (by kernel_rfl) h405 ?_
        refine c_seq ?_
        refine c_region ?_
        refine s_load hs (hw.at_ 2 rfl) 0 (by kernel_rfl) (by kernel_rfl) (v := .agg #[.int .i64 x11.f0, .int .i64 x11.f1, .slice p12 x11.f2.length c13]) (by kernel_rfl) fun a hs => ?_
        refine pures hs 1 [0, 4, 5, 6, 85, 86] [(0, .pointer (some ⟨b2, 0, none⟩)), (4, .pointer (some ⟨b327, 0, none⟩)), (5, .pointer (some ⟨b329, 0, none⟩)), (6, .pointer (some ⟨b331, 0, none⟩)), (85, .agg #[.int .i64 x11.f0, .int .i64 x11.f1, .slice p12 x11.f2.length c13]), (86, .pointer (some ⟨b329, 1, none⟩))] (by kernel_rfl) fun a hs => ?_
        refine s_load hs (hw.at_ 1 rfl) 1 (by kernel_rfl) (by kernel_rfl) (v := .int .i64 x15.f1) (by kernel_rfl) fun a hs => ?_
        obtain ⟨y410, h411, hk⟩ := bindE hk
        refine s_call hs (by kernel_rfl) (by kernel_rfl) (catenaryref06_At_s h411 h14 ((hw.pick [0, 1, 2, 3, 4, 5] (by kernel_rfl)).pack 0)) fun a w v hv hs => ?_
        obtain ⟨rfl, hw⟩ := hv
        replace hw := hw.unpack 0 rfl
        refine pures hs 3 [0, 4, 5, 6, 89, 90] [(0, .pointer (some ⟨b2, 0, none⟩)), (4, .pointer (some ⟨b327, 0, none⟩)), (5, .pointer (some ⟨b329, 0, none⟩)), (6, .pointer (some ⟨b331, 0, none⟩)), (89, .agg #[.int .i64 y410.1.f0, .int .i64 y410.1.f1]), (90, .bool y410.2)] (by kernel_rfl) fun a hs => ?_
        refine s_new hs hw [.int .i64 0, .int .i64 0] 92 (fun b => .pointer (some ⟨b, 0, none⟩)) (by kernel_rfl) (fun _ => by kernel_rfl) fun a w b412 hs hw => ?_
        refine s_store hs hw 0 rfl 0 (by kernel_rfl) (by kernel_rfl) (v := .agg #[.int .i64 y410.1.f0, .int .i64 y410.1.f1]) (by kernel_rfl) (by kernel_rfl) (by kernel_rfl) (by kernel_rfl) fun a w hs hw => ?_
        refine pures hs 1 [0, 4, 5, 6, 18, 19] [(0, .pointer (some ⟨b2, 0, none⟩)), (4, .pointer (some ⟨b327, 0, none⟩)), (5, .pointer (some ⟨b329, 0, none⟩)), (6, .pointer (some ⟨b331, 0, none⟩)), (18, .pointer (some ⟨b412, 0, none⟩)), (19, .bool y410.2)] (by kernel_rfl) fun a hs => ?_
        refine s_end ?_
        refine c_seq ?_
        refine c_region ?_
        refine pures hs 2 [4, 5, 6, 18, 19, 92, 93] [(4, .pointer (some ⟨b327, 0, none⟩)), (5, .pointer (some ⟨b329, 0, none⟩)), (6, .pointer (some ⟨b331, 0, none⟩)), (18, .pointer (some ⟨b412, 0, none⟩)), (19, .bool y410.2), (92, .pointer (some ⟨b2, 0, none⟩)), (93, .pointer (some ⟨b329, 1, none⟩))] (by kernel_rfl) fun a hs => ?_
        refine s_load hs (hw.at_ 2 rfl) 1 (by kernel_rfl) (by kernel_rfl) (v := .int .i64 x15.f1) (by kernel_rfl) fun a hs => ?_
        obtain ⟨y420, h421, hk⟩ := bindE hk
        refine s_call hs (by kernel_rfl) (by kernel_rfl) (bag_Bag_int_Take_s h421 h8 ((hw.pick [4, 5, 0, 1, 2, 3, 6] (by kernel_rfl)).pack 2)) fun a w v hv hs => ?_
        obtain ⟨p422, c423, d425, rfl, hw, h424⟩ := hv
        replace hw := hw.unpack 2 rfl
        refine pures hs 5 [4, 5, 6, 18, 19, 20, 21] [(4, .pointer (some ⟨b327, 0, none⟩)), (5, .pointer (some ⟨b329, 0, none⟩)), (6, .pointer (some ⟨b331, 0, none⟩)), (18, .pointer (some ⟨b412, 0, none⟩)), (19, .bool y410.2), (20, .int .i64 y420.1), (21, .bool y420.2.1)] (by kernel_rfl) fun a hs => ?_
        refine s_end ?_
        refine c_seq ?_
        obtain ⟨S426, hS426, kS426⟩ := mkSX (X := [([], bx b2 [.int .i64 x3, .int .i64 x4, .slice p422 y420.2.2.length c423] 88), ([], d425), ([], bx b412 [.int .i64 y410.1.f0, .int .i64 y410.1.f1] 92), ([13], bx b331 [.int .i64 0, .int .i64 0, .slice none 0 0] 41), ([], bx b329 [.int .i64 x15.f0, .int .i64 x15.f1, .int .i64 x15.f2] 45), ([], bx b327 [.int .i64 x11.f0, .int .i64 x11.f1, .slice p12 x11.f2.length c13] 41), ([], F)]) (ih := ih) (K := [13]) rfl
        obtain ⟨y452, hx453, hk⟩ := bindE hk
        obtain ⟨J454, hJ454⟩ : ∃ J : Act → World → Prop, ∀ a w, J a w ↔ (∃ (x445 : Bool) (x446 : Int) (x447 : Int) (x448 : List M92) (p449 : Option Addr) (c450 : Nat) (ih443 : IH), catenarylaw06_step_r5 x4 y420 x445 x446 x447 x448 = some r ∧ Sees a 186 [(6, .pointer (some ⟨b331, 0, none⟩)), (7, .bool x445)] ∧ St g w [bx b2 [.int .i64 x3, .int .i64 x4, .slice p422 y420.2.2.length c423] 88, bx b331 [.int .i64 x446, .int .i64 x447, .slice p449 x448.length c450] 41, d425, F] ih443 ∧ Le ih ih443 ∧ RSl e92 ih443 [] p449 c450 x448) := ⟨_, fun _ _ => Iff.rfl⟩
        refine c_draw (by kernel_rfl) (N := 15) rfl S426 J454 ?_ ?_
        · have hw := hw.drew
          have hS : S426 (Array.replicate 15 false) _ := SX_now hS426 (hw.vws [0, 1, 2, 3, 4, 5, 6]) (by kernel_rfl)
          refine d_load (fuel := 14) kS426 hs hS 0 rfl (by kernel_rfl) (SX_box hS426 5 rfl (by kernel_rfl)) 0 (by kernel_rfl) (by kernel_rfl) (v := .agg #[.int .i64 x11.f0, .int .i64 x11.f1, .slice p12 x11.f2.length c13]) (by kernel_rfl) fun a hs hS => ?_
          refine d_pures (fuel := 13) kS426 hs hS [1] [4, 5, 6, 18, 19, 20, 21, 98, 99] [(4, .pointer (some ⟨b327, 0, none⟩)), (5, .pointer (some ⟨b329, 0, none⟩)), (6, .pointer (some ⟨b331, 0, none⟩)), (18, .pointer (some ⟨b412, 0, none⟩)), (19, .bool y410.2), (20, .int .i64 y420.1), (21, .bool y420.2.1), (98, .agg #[.int .i64 x11.f0, .int .i64 x11.f1, .slice p12 x11.f2.length c13]), (99, .pointer (some ⟨b329, 1, none⟩))] (by kernel_rfl) fun a hs hS => ?_
          refine d_load (fuel := 12) kS426 hs hS 2 rfl (by kernel_rfl) (SX_box hS426 4 rfl (by kernel_rfl)) 1 (by kernel_rfl) (by kernel_rfl) (v := .int .i64 x15.f1) (by kernel_rfl) fun a hs hS => ?_
          refine d_pures (fuel := 10) kS426 hs hS [4, 5] [4, 5, 6, 18, 19, 20, 21, 98, 99, 100, 102, 103] [(4, .pointer (some ⟨b327, 0, none⟩)), (5, .pointer (some ⟨b329, 0, none⟩)), (6, .pointer (some ⟨b331, 0, none⟩)), (18, .pointer (some ⟨b412, 0, none⟩)), (19, .bool y410.2), (20, .int .i64 y420.1), (21, .bool y420.2.1), (98, .agg #[.int .i64 x11.f0, .int .i64 x11.f1, .slice p12 x11.f2.length c13]), (99, .pointer (some ⟨b329, 1, none⟩)), (100, .int .i64 x15.f1), (102, .int .i64 y420.1), (103, .pointer (some ⟨b412, 1, none⟩))] (by kernel_rfl) fun a hs hS => ?_
          refine d_load (fuel := 9) kS426 hs hS 6 rfl (by kernel_rfl) (SX_box hS426 2 rfl (by kernel_rfl)) 1 (by kernel_rfl) (by kernel_rfl) (v := .int .i64 y410.1.f1) (by kernel_rfl) fun a hs hS => ?_
          refine d_pures (fuel := 8) kS426 hs hS [7] [4, 5, 6, 18, 19, 20, 21, 98, 99, 100, 102, 103, 104, 105] [(4, .pointer (some ⟨b327, 0, none⟩)), (5, .pointer (some ⟨b329, 0, none⟩)), (6, .pointer (some ⟨b331, 0, none⟩)), (18, .pointer (some ⟨b412, 0, none⟩)), (19, .bool y410.2), (20, .int .i64 y420.1), (21, .bool y420.2.1), (98, .agg #[.int .i64 x11.f0, .int .i64 x11.f1, .slice p12 x11.f2.length c13]), (99, .pointer (some ⟨b329, 1, none⟩)), (100, .int .i64 x15.f1), (102, .int .i64 y420.1), (103, .pointer (some ⟨b412, 1, none⟩)), (104, .int .i64 y410.1.f1), (105, .bool (y420.1 == y410.1.f1))] (by kernel_rfl) fun a hs hS => ?_
          refine d_all (fuel := 7) (rs := [3]) (by kernel_rfl) (by simp) (all1 ?_)
          obtain ⟨y455, h456, hx453⟩ := bindE hx453
          refine o_call hs rfl (by kernel_rfl) (by kernel_rfl) (catenaryref06_Take_s h456 h14 ((hw.pick [0, 1, 2, 3, 4, 5, 6] (by kernel_rfl)).pack 0)) fun a w v hv hs => ?_
          obtain ⟨ih457, p459, c460, rfl, hw, hle458, h461⟩ := hv
          replace hw := hw.unpack 0 rfl
          refine dg_next (SX_now hS426 ((hw.vws [0, 1, 2, 3, 4, 5, 6]).anti hle458) (by kernel_rfl)) fun hS => ?_
          refine d_pures (fuel := 6) kS426 hs hS [8] [4, 5, 6, 18, 19, 20, 21, 98, 99, 100, 102, 103, 104, 105, 101, 106] [(4, .pointer (some ⟨b327, 0, none⟩)), (5, .pointer (some ⟨b329, 0, none⟩)), (6, .pointer (some ⟨b331, 0, none⟩)), (18, .pointer (some ⟨b412, 0, none⟩)), (19, .bool y410.2), (20, .int .i64 y420.1), (21, .bool y420.2.1), (98, .agg #[.int .i64 x11.f0, .int .i64 x11.f1, .slice p12 x11.f2.length c13]), (99, .pointer (some ⟨b329, 1, none⟩)), (100, .int .i64 x15.f1), (102, .int .i64 y420.1), (103, .pointer (some ⟨b412, 1, none⟩)), (104, .int .i64 y410.1.f1), (105, .bool (y420.1 == y410.1.f1)), (101, .agg #[.int .i64 y455.f0, .int .i64 y455.f1, .slice p459 y455.f2.length c460]), (106, .bool (y420.1 == y410.1.f1))] (by kernel_rfl) fun a hs hS => ?_
          rcases ifbE hx453 with ⟨h462, hx453⟩ | ⟨h462, hx453⟩
          · replace hs := hs.altB 106 true (by kernel_rfl) h462
            refine d_pures (fuel := 2) kS426 hs hS [9, 10, 11, 12] [4, 5, 6, 18, 19, 20, 21, 98, 99, 100, 102, 103, 104, 105, 101, 106, 107, 108, 109, 110] [(4, .pointer (some ⟨b327, 0, none⟩)), (5, .pointer (some ⟨b329, 0, none⟩)), (6, .pointer (some ⟨b331, 0, none⟩)), (18, .pointer (some ⟨b412, 0, none⟩)), (19, .bool y410.2), (20, .int .i64 y420.1), (21, .bool y420.2.1), (98, .agg #[.int .i64 x11.f0, .int .i64 x11.f1, .slice p12 x11.f2.length c13]), (99, .pointer (some ⟨b329, 1, none⟩)), (100, .int .i64 x15.f1), (102, .int .i64 y420.1), (103, .pointer (some ⟨b412, 1, none⟩)), (104, .int .i64 y410.1.f1), (105, .bool (y420.1 == y410.1.f1)), (101, .agg #[.int .i64 y455.f0, .int .i64 y455.f1, .slice p459 y455.f2.length c460]), (106, .bool true), (107, .bool y420.2.1), (108, .bool y410.2), (109, .bool (y420.2.1 == y410.2)), (110, .bool (y420.2.1 == y410.2))] (by kernel_rfl) fun a hs hS => ?_
            refine d_all (fuel := 1) (rs := [13]) (by kernel_rfl) (by simp) (all1 ?_)
            refine o_store hs hw rfl 3 rfl 0 (by kernel_rfl) (by kernel_rfl) (v := .agg #[.int .i64 y455.f0, .int .i64 y455.f1, .slice p459 y455.f2.length c460]) (by kernel_rfl) (by kernel_rfl) (by kernel_rfl) (by kernel_rfl) fun a w hs hw => ?_
            refine dg_next (SX_now hS426 ((hw.vws [0, 1, 2, 4, 5, 6]).anti hle458) (by kernel_rfl)) fun hS => ?_
            refine d_pures (fuel := 0) kS426 hs hS [14] [4, 5, 6, 18, 19, 20, 21, 98, 99, 100, 102, 103, 104, 105, 101, 106, 107, 108, 109, 110, 7] [(4, .pointer (some ⟨b327, 0, none⟩)), (5, .pointer (some ⟨b329, 0, none⟩)), (6, .pointer (some ⟨b331, 0, none⟩)), (18, .pointer (some ⟨b412, 0, none⟩)), (19, .bool y410.2), (20, .int .i64 y420.1), (21, .bool y420.2.1), (98, .agg #[.int .i64 x11.f0, .int .i64 x11.f1, .slice p12 x11.f2.length c13]), (99, .pointer (some ⟨b329, 1, none⟩)), (100, .int .i64 x15.f1), (102, .int .i64 y420.1), (103, .pointer (some ⟨b412, 1, none⟩)), (104, .int .i64 y410.1.f1), (105, .bool (y420.1 == y410.1.f1)), (101, .agg #[.int .i64 y455.f0, .int .i64 y455.f1, .slice p459 y455.f2.length c460]), (106, .bool true), (107, .bool y420.2.1), (108, .bool y410.2), (109, .bool (y420.2.1 == y410.2)), (110, .bool (y420.2.1 == y410.2)), (7, .bool (y420.2.1 == y410.2))] (by kernel_rfl) fun a hs hS => ?_
            refine d_done (by kernel_rfl) ?_
            obtain rfl := someE hx453
            exact (hJ454 _ _).2 ⟨(y420.2.1 == y410.2), y455.f0, y455.f1, y455.f2, p459, c460, ih457, hk, hs.cast [6, 7] (by kernel_rfl), hw.pick [0, 3, 1, 6] (by kernel_rfl), hle458, h461⟩
          · replace hs := hs.altB 106 false (by kernel_rfl) h462
            refine d_pures (fuel := 2) kS426 hs hS [9, 10, 11, 12] [4, 5, 6, 18, 19, 20, 21, 98, 99, 100, 102, 103, 104, 105, 101, 106, 107, 108, 109, 110] [(4, .pointer (some ⟨b327, 0, none⟩)), (5, .pointer (some ⟨b329, 0, none⟩)), (6, .pointer (some ⟨b331, 0, none⟩)), (18, .pointer (some ⟨b412, 0, none⟩)), (19, .bool y410.2), (20, .int .i64 y420.1), (21, .bool y420.2.1), (98, .agg #[.int .i64 x11.f0, .int .i64 x11.f1, .slice p12 x11.f2.length c13]), (99, .pointer (some ⟨b329, 1, none⟩)), (100, .int .i64 x15.f1), (102, .int .i64 y420.1), (103, .pointer (some ⟨b412, 1, none⟩)), (104, .int .i64 y410.1.f1), (105, .bool (y420.1 == y410.1.f1)), (101, .agg #[.int .i64 y455.f0, .int .i64 y455.f1, .slice p459 y455.f2.length c460]), (106, .bool false), (107, undef), (108, undef), (109, undef), (110, .bool false)] (by kernel_rfl) fun a hs hS => ?_
            refine d_all (fuel := 1) (rs := [13]) (by kernel_rfl) (by simp) (all1 ?_)
            refine o_store hs hw rfl 3 rfl 0 (by kernel_rfl) (by kernel_rfl) (v := .agg #[.int .i64 y455.f0, .int .i64 y455.f1, .slice p459 y455.f2.length c460]) (by kernel_rfl) (by kernel_rfl) (by kernel_rfl) (by kernel_rfl) fun a w hs hw => ?_
            refine dg_next (SX_now hS426 ((hw.vws [0, 1, 2, 4, 5, 6]).anti hle458) (by kernel_rfl)) fun hS => ?_
            refine d_pures (fuel := 0) kS426 hs hS [14] [4, 5, 6, 18, 19, 20, 21, 98, 99, 100, 102, 103, 104, 105, 101, 106, 107, 108, 109, 110, 7] [(4, .pointer (some ⟨b327, 0, none⟩)), (5, .pointer (some ⟨b329, 0, none⟩)), (6, .pointer (some ⟨b331, 0, none⟩)), (18, .pointer (some ⟨b412, 0, none⟩)), (19, .bool y410.2), (20, .int .i64 y420.1), (21, .bool y420.2.1), (98, .agg #[.int .i64 x11.f0, .int .i64 x11.f1, .slice p12 x11.f2.length c13]), (99, .pointer (some ⟨b329, 1, none⟩)), (100, .int .i64 x15.f1), (102, .int .i64 y420.1), (103, .pointer (some ⟨b412, 1, none⟩)), (104, .int .i64 y410.1.f1), (105, .bool (y420.1 == y410.1.f1)), (101, .agg #[.int .i64 y455.f0, .int .i64 y455.f1, .slice p459 y455.f2.length c460]), (106, .bool false), (107, undef), (108, undef), (109, undef), (110, .bool false), (7, .bool false)] (by kernel_rfl) fun a hs hS => ?_
            refine d_done (by kernel_rfl) ?_
            obtain rfl := someE hx453
            exact (hJ454 _ _).2 ⟨false, y455.f0, y455.f1, y455.f2, p459, c460, ih457, hk, hs.cast [6, 7] (by kernel_rfl), hw.pick [0, 3, 1, 6] (by kernel_rfl), hle458, h461⟩
        · intro a w hh
          obtain ⟨x445, x446, x447, x448, p449, c450, ih443, hk, hs, hw, hle444, h451⟩ := (hJ454 _ _).1 hh
          refine c_ret ?_
          obtain rfl := someE hk
          refine hQ _ _ (f_retG hs (l := [.cell 6 41, .tmp 7]) (vs := [.agg #[.int .i64 x446, .int .i64 x447, .slice p449 x448.length c450], .bool x445]) rfl (⟨res_cell hs (hw.at_ 1 rfl) (by kernel_rfl) (v := .agg #[.int .i64 x446, .int .i64 x447, .slice p449 x448.length c450]) (by kernel_rfl), ⟨res_tmp hs (v := .bool x445) (by kernel_rfl), trivial⟩⟩) (by kernel_rfl) ⟨ih443, p449, c450, p422, c423, d425, rfl, hw.pick [0, 2, 3] (by kernel_rfl), hle444, h451, (h424.mono hle444)⟩)
      · refine c_cond0 hs (by kernel_rfl) (t := (x15.f0 == 2)) (by kernel_rfl) h405 ?_
        refine c_seq ?_
        refine c_region ?_
        refine pures hs 2 [0, 4, 5, 6, 29, 111] [(0, .pointer (some ⟨b2, 0, none⟩)), (4, .pointer (some ⟨b327, 0, none⟩)), (5, .pointer (some ⟨b329, 0, none⟩)), (6, .pointer (some ⟨b331, 0, none⟩)), (29, .int .i64 x15.f0), (111, .bool (x15.f0 == 3))] (by kernel_rfl) fun a hs => ?_
        refine s_end ?_
        rcases ifbE hk with ⟨h464, hk⟩ | ⟨h464, hk⟩
        · refine c_cond1 hs (by kernel_rfl) (t := (x15.f0 == 3)) (by kernel_rfl) h464 ?_
          refine c_seq ?_
          obtain ⟨S465, hS465, kS465⟩ := mkSX (X := [([17], bx b331 [.int .i64 0, .int .i64 0, .slice none 0 0] 41), ([], bx b329 [.int .i64 x15.f0, .int .i64 x15.f1, .int .i64 x15.f2] 45), ([], bx b327 [.int .i64 x11.f0, .int .i64 x11.f1, .slice p12 x11.f2.length c13] 41), ([11], bx b2 [.int .i64 x3, .int .i64 x4, .slice p6 x5.length c7] 88), ([11], d9), ([], F)]) (ih := ih) (K := [17, 11, 11]) rfl
          obtain ⟨y511, hx512, hk⟩ := bindE hk
          obtain ⟨J513, hJ513⟩ : ∃ J : Act → World → Prop, ∀ a w, J a w ↔ (∃ (x498 : Bool) (x499 : Int) (x500 : Int) (x501 : List M92) (x505 : List M102) (p502 : Option Addr) (c503 : Nat) (p506 : Option Addr) (c507 : Nat) (d509 : Ch) (ih496 : IH), catenarylaw06_step_r6 x4 x498 x499 x500 x501 x505 = some r ∧ Sees a 186 [(6, .pointer (some ⟨b331, 0, none⟩)), (7, .bool x498)] ∧ St g w [bx b331 [.int .i64 x499, .int .i64 x500, .slice p502 x501.length c503] 41, bx b2 [.int .i64 x3, .int .i64 x4, .slice p506 x505.length c507] 88, d509, F] ih496 ∧ Le ih ih496 ∧ RSl e92 ih496 [] p502 c503 x501 ∧ OSl e102 ih496 p506 c507 x505 d509) := ⟨_, fun _ _ => Iff.rfl⟩
          refine c_draw (by kernel_rfl) (N := 19) rfl S465 J513 ?_ ?_
          · have hw := hw.drew
            have hS : S465 (Array.replicate 19 false) _ := SX_now hS465 (hw.vws [0, 1, 2, 3, 4, 5]) (by kernel_rfl)
            refine d_load (fuel := 18) kS465 hs hS 0 rfl (by kernel_rfl) (SX_box hS465 2 rfl (by kernel_rfl)) 0 (by kernel_rfl) (by kernel_rfl) (v := .agg #[.int .i64 x11.f0, .int .i64 x11.f1, .slice p12 x11.f2.length c13]) (by kernel_rfl) fun a hs hS => ?_
            refine d_pures (fuel := 17) kS465 hs hS [1] [0, 4, 5, 6, 113, 114] [(0, .pointer (some ⟨b2, 0, none⟩)), (4, .pointer (some ⟨b327, 0, none⟩)), (5, .pointer (some ⟨b329, 0, none⟩)), (6, .pointer (some ⟨b331, 0, none⟩)), (113, .agg #[.int .i64 x11.f0, .int .i64 x11.f1, .slice p12 x11.f2.length c13]), (114, .pointer (some ⟨b329, 1, none⟩))] (by kernel_rfl) fun a hs hS => ?_
            refine d_load (fuel := 16) kS465 hs hS 2 rfl (by kernel_rfl) (SX_box hS465 1 rfl (by kernel_rfl)) 1 (by kernel_rfl) (by kernel_rfl) (v := .int .i64 x15.f1) (by kernel_rfl) fun a hs hS => ?_
            refine d_pures (fuel := 15) kS465 hs hS [3] [0, 4, 5, 6, 113, 114, 115, 116] [(0, .pointer (some ⟨b2, 0, none⟩)), (4, .pointer (some ⟨b327, 0, none⟩)), (5, .pointer (some ⟨b329, 0, none⟩)), (6, .pointer (some ⟨b331, 0, none⟩)), (113, .agg #[.int .i64 x11.f0, .int .i64 x11.f1, .slice p12 x11.f2.length c13]), (114, .pointer (some ⟨b329, 1, none⟩)), (115, .int .i64 x15.f1), (116, .pointer (some ⟨b329, 2, none⟩))] (by kernel_rfl) fun a hs hS => ?_
            refine d_load (fuel := 14) kS465 hs hS 4 rfl (by kernel_rfl) (SX_box hS465 1 rfl (by kernel_rfl)) 2 (by kernel_rfl) (by kernel_rfl) (v := .int .i64 x15.f2) (by kernel_rfl) fun a hs hS => ?_
            refine d_pures (fuel := 12) kS465 hs hS [6, 7] [0, 4, 5, 6, 113, 114, 115, 116, 117, 119, 120] [(0, .pointer (some ⟨b2, 0, none⟩)), (4, .pointer (some ⟨b327, 0, none⟩)), (5, .pointer (some ⟨b329, 0, none⟩)), (6, .pointer (some ⟨b331, 0, none⟩)), (113, .agg #[.int .i64 x11.f0, .int .i64 x11.f1, .slice p12 x11.f2.length c13]), (114, .pointer (some ⟨b329, 1, none⟩)), (115, .int .i64 x15.f1), (116, .pointer (some ⟨b329, 2, none⟩)), (117, .int .i64 x15.f2), (119, .pointer (some ⟨b2, 0, none⟩)), (120, .pointer (some ⟨b329, 1, none⟩))] (by kernel_rfl) fun a hs hS => ?_
            refine d_load (fuel := 11) kS465 hs hS 8 rfl (by kernel_rfl) (SX_box hS465 1 rfl (by kernel_rfl)) 1 (by kernel_rfl) (by kernel_rfl) (v := .int .i64 x15.f1) (by kernel_rfl) fun a hs hS => ?_
            refine d_pures (fuel := 10) kS465 hs hS [9] [0, 4, 5, 6, 113, 114, 115, 116, 117, 119, 120, 121, 122] [(0, .pointer (some ⟨b2, 0, none⟩)), (4, .pointer (some ⟨b327, 0, none⟩)), (5, .pointer (some ⟨b329, 0, none⟩)), (6, .pointer (some ⟨b331, 0, none⟩)), (113, .agg #[.int .i64 x11.f0, .int .i64 x11.f1, .slice p12 x11.f2.length c13]), (114, .pointer (some ⟨b329, 1, none⟩)), (115, .int .i64 x15.f1), (116, .pointer (some ⟨b329, 2, none⟩)), (117, .int .i64 x15.f2), (119, .pointer (some ⟨b2, 0, none⟩)), (120, .pointer (some ⟨b329, 1, none⟩)), (121, .int .i64 x15.f1), (122, .pointer (some ⟨b329, 2, none⟩))] (by kernel_rfl) fun a hs hS => ?_
            refine d_load (fuel := 9) kS465 hs hS 10 rfl (by kernel_rfl) (SX_box hS465 1 rfl (by kernel_rfl)) 2 (by kernel_rfl) (by kernel_rfl) (v := .int .i64 x15.f2) (by kernel_rfl) fun a hs hS => ?_
            refine d_load (fuel := 8) kS465 hs hS 12 rfl (by kernel_rfl) (SX_box hS465 2 rfl (by kernel_rfl)) 0 (by kernel_rfl) (by kernel_rfl) (v := .agg #[.int .i64 x11.f0, .int .i64 x11.f1, .slice p12 x11.f2.length c13]) (by kernel_rfl) fun a hs hS => ?_
            refine d_pures (fuel := 7) kS465 hs hS [13] [0, 4, 5, 6, 113, 114, 115, 116, 117, 119, 120, 121, 122, 123, 125, 126] [(0, .pointer (some ⟨b2, 0, none⟩)), (4, .pointer (some ⟨b327, 0, none⟩)), (5, .pointer (some ⟨b329, 0, none⟩)), (6, .pointer (some ⟨b331, 0, none⟩)), (113, .agg #[.int .i64 x11.f0, .int .i64 x11.f1, .slice p12 x11.f2.length c13]), (114, .pointer (some ⟨b329, 1, none⟩)), (115, .int .i64 x15.f1), (116, .pointer (some ⟨b329, 2, none⟩)), (117, .int .i64 x15.f2), (119, .pointer (some ⟨b2, 0, none⟩)), (120, .pointer (some ⟨b329, 1, none⟩)), (121, .int .i64 x15.f1), (122, .pointer (some ⟨b329, 2, none⟩)), (123, .int .i64 x15.f2), (125, .agg #[.int .i64 x11.f0, .int .i64 x11.f1, .slice p12 x11.f2.length c13]), (126, .pointer (some ⟨b329, 1, none⟩))] (by kernel_rfl) fun a hs hS => ?_
            refine d_load (fuel := 6) kS465 hs hS 14 rfl (by kernel_rfl) (SX_box hS465 1 rfl (by kernel_rfl)) 1 (by kernel_rfl) (by kernel_rfl) (v := .int .i64 x15.f1) (by kernel_rfl) fun a hs hS => ?_
            refine d_all (fuel := 5) (rs := [5]) (by kernel_rfl) (by simp) (all1 ?_)
            obtain ⟨y514, h515, hx512⟩ := bindE hx512
            refine o_call hs rfl (by kernel_rfl) (by kernel_rfl) (catenaryref06_Set_s h515 h14 ((hw.pick [0, 1, 2, 3, 4, 5] (by kernel_rfl)).pack 0)) fun a w v hv hs => ?_
            obtain ⟨ih516, p518, c519, rfl, hw, hle517, h520⟩ := hv
            replace hw := hw.unpack 0 rfl
            refine dg_next (SX_now hS465 ((hw.vws [0, 1, 2, 3, 4, 5]).anti hle517) (by kernel_rfl)) fun hS => ?_
            refine d_all (fuel := 4) (rs := [11]) (by kernel_rfl) (by simp) (all1 ?_)
            obtain ⟨y521, h522, hx512⟩ := bindE hx512
            refine o_call hs rfl (by kernel_rfl) (by kernel_rfl) (bag_Bag_int_Set_s h522 (h8.mono hle517) ((hw.pick [3, 4, 0, 1, 2, 5] (by kernel_rfl)).pack 2)) fun a w v hv hs => ?_
            obtain ⟨p523, c524, d526, rfl, hw, h525⟩ := hv
            replace hw := hw.unpack 2 rfl
            refine dg_next (SX_now hS465 ((hw.vws [2, 3, 4, 5]).anti hle517) (by kernel_rfl)) fun hS => ?_
            refine d_all (fuel := 3) (rs := [15]) (by kernel_rfl) (by simp) (all1 ?_)
            obtain ⟨y527, h528, hx512⟩ := bindE hx512
            refine o_call hs rfl (by kernel_rfl) (by kernel_rfl) (catenaryref06_Has_s h528 (h14.mono hle517) ((hw.pick [0, 1, 2, 3, 4, 5] (by kernel_rfl)).pack 0)) fun a w v hv hs => ?_
            obtain ⟨rfl, hw⟩ := hv
            replace hw := hw.unpack 0 rfl
            refine dg_next (SX_now hS465 ((hw.vws [2, 3, 4, 5]).anti hle517) (by kernel_rfl)) fun hS => ?_
            refine d_pures (fuel := 2) kS465 hs hS [16] [0, 4, 5, 6, 113, 114, 115, 116, 117, 119, 120, 121, 122, 123, 125, 126, 127, 118, 124, 128, 129] [(0, .pointer (some ⟨b2, 0, none⟩)), (4, .pointer (some ⟨b327, 0, none⟩)), (5, .pointer (some ⟨b329, 0, none⟩)), (6, .pointer (some ⟨b331, 0, none⟩)), (113, .agg #[.int .i64 x11.f0, .int .i64 x11.f1, .slice p12 x11.f2.length c13]), (114, .pointer (some ⟨b329, 1, none⟩)), (115, .int .i64 x15.f1), (116, .pointer (some ⟨b329, 2, none⟩)), (117, .int .i64 x15.f2), (119, .pointer (some ⟨b2, 0, none⟩)), (120, .pointer (some ⟨b329, 1, none⟩)), (121, .int .i64 x15.f1), (122, .pointer (some ⟨b329, 2, none⟩)), (123, .int .i64 x15.f2), (125, .agg #[.int .i64 x11.f0, .int .i64 x11.f1, .slice p12 x11.f2.length c13]), (126, .pointer (some ⟨b329, 1, none⟩)), (127, .int .i64 x15.f1), (118, .agg #[.int .i64 y514.f0, .int .i64 y514.f1, .slice p518 y514.f2.length c519]), (124, .bool y521.1), (128, .bool y527), (129, .bool (y521.1 == y527))] (by kernel_rfl) fun a hs hS => ?_
            refine d_all (fuel := 1) (rs := [17]) (by kernel_rfl) (by simp) (all1 ?_)
            refine o_store hs hw rfl 2 rfl 0 (by kernel_rfl) (by kernel_rfl) (v := .agg #[.int .i64 y514.f0, .int .i64 y514.f1, .slice p518 y514.f2.length c519]) (by kernel_rfl) (by kernel_rfl) (by kernel_rfl) (by kernel_rfl) fun a w hs hw => ?_
            refine dg_next (SX_now hS465 ((hw.vws [3, 4, 5]).anti hle517) (by kernel_rfl)) fun hS => ?_
            refine d_pures (fuel := 0) kS465 hs hS [18] [0, 4, 5, 6, 113, 114, 115, 116, 117, 119, 120, 121, 122, 123, 125, 126, 127, 118, 124, 128, 129, 7] [(0, .pointer (some ⟨b2, 0, none⟩)), (4, .pointer (some ⟨b327, 0, none⟩)), (5, .pointer (some ⟨b329, 0, none⟩)), (6, .pointer (some ⟨b331, 0, none⟩)), (113, .agg #[.int .i64 x11.f0, .int .i64 x11.f1, .slice p12 x11.f2.length c13]), (114, .pointer (some ⟨b329, 1, none⟩)), (115, .int .i64 x15.f1), (116, .pointer (some ⟨b329, 2, none⟩)), (117, .int .i64 x15.f2), (119, .pointer (some ⟨b2, 0, none⟩)), (120, .pointer (some ⟨b329, 1, none⟩)), (121, .int .i64 x15.f1), (122, .pointer (some ⟨b329, 2, none⟩)), (123, .int .i64 x15.f2), (125, .agg #[.int .i64 x11.f0, .int .i64 x11.f1, .slice p12 x11.f2.length c13]), (126, .pointer (some ⟨b329, 1, none⟩)), (127, .int .i64 x15.f1), (118, .agg #[.int .i64 y514.f0, .int .i64 y514.f1, .slice p518 y514.f2.length c519]), (124, .bool y521.1), (128, .bool y527), (129, .bool (y521.1 == y527)), (7, .bool (y521.1 == y527))] (by kernel_rfl) fun a hs hS => ?_
            refine d_done (by kernel_rfl) ?_
            obtain rfl := someE hx512
            exact (hJ513 _ _).2 ⟨(y521.1 == y527), y514.f0, y514.f1, y514.f2, y521.2, p518, c519, p523, c524, d526, ih516, hk, hs.cast [6, 7] (by kernel_rfl), hw.pick [2, 0, 1, 5] (by kernel_rfl), hle517, h520, h525⟩
          · intro a w hh
            obtain ⟨x498, x499, x500, x501, x505, p502, c503, p506, c507, d509, ih496, hk, hs, hw, hle497, h504, h508⟩ := (hJ513 _ _).1 hh
            refine c_ret ?_
            obtain rfl := someE hk
            refine hQ _ _ (f_retG hs (l := [.cell 6 41, .tmp 7]) (vs := [.agg #[.int .i64 x499, .int .i64 x500, .slice p502 x501.length c503], .bool x498]) rfl (⟨res_cell hs (hw.at_ 0 rfl) (by kernel_rfl) (v := .agg #[.int .i64 x499, .int .i64 x500, .slice p502 x501.length c503]) (by kernel_rfl), ⟨res_tmp hs (v := .bool x498) (by kernel_rfl), trivial⟩⟩) (by kernel_rfl) ⟨ih496, p502, c503, p506, c507, d509, rfl, hw.pick [1, 2, 3] (by kernel_rfl), hle497, h504, h508⟩)
        · refine c_cond0 hs (by kernel_rfl) (t := (x15.f0 == 3)) (by kernel_rfl) h464 ?_
          refine c_seq ?_
          refine c_region ?_
          refine pures hs 2 [0, 4, 5, 6, 130] [(0, .pointer (some ⟨b2, 0, none⟩)), (4, .pointer (some ⟨b327, 0, none⟩)), (5, .pointer (some ⟨b329, 0, none⟩)), (6, .pointer (some ⟨b331, 0, none⟩)), (130, .bool (x15.f0 == 4))] (by kernel_rfl) fun a hs => ?_
          refine s_end ?_
          rcases ifbE hk with ⟨h530, hk⟩ | ⟨h530, hk⟩
          · refine c_cond1 hs (by kernel_rfl) (t := (x15.f0 == 4)) (by kernel_rfl) h530 ?_
            refine c_seq ?_
            refine c_region ?_
            refine s_load hs (hw.at_ 2 rfl) 0 (by kernel_rfl) (by kernel_rfl) (v := .agg #[.int .i64 x11.f0, .int .i64 x11.f1, .slice p12 x11.f2.length c13]) (by kernel_rfl) fun a hs => ?_
            obtain ⟨y540, h541, hk⟩ := bindE hk
            refine s_call hs (by kernel_rfl) (by kernel_rfl) (catenaryref06_Odd_s h541 h14 ((hw.pick [0, 3, 4, 5] (by kernel_rfl)).pack 0)) fun a w v hv hs => ?_
            obtain ⟨ih542, p544, c545, rfl, hw, hle543, h546⟩ := hv
            replace hw := hw.unpack 0 rfl
            refine pures hs 3 [0, 6, 135, 136] [(0, .pointer (some ⟨b2, 0, none⟩)), (6, .pointer (some ⟨b331, 0, none⟩)), (135, .agg #[.int .i64 y540.1.f0, .int .i64 y540.1.f1, .slice p544 y540.1.f2.length c545]), (136, .int .i64 y540.2)] (by kernel_rfl) fun a hs => ?_
            refine s_new hs hw [.int .i64 0, .int .i64 0, .slice none 0 0] 41 (fun b => .pointer (some ⟨b, 0, none⟩)) (by kernel_rfl) (fun _ => by kernel_rfl) fun a w b547 hs hw => ?_
            refine s_store hs hw 0 rfl 0 (by kernel_rfl) (by kernel_rfl) (v := .agg #[.int .i64 y540.1.f0, .int .i64 y540.1.f1, .slice p544 y540.1.f2.length c545]) (by kernel_rfl) (by kernel_rfl) (by kernel_rfl) (by kernel_rfl) fun a w hs hw => ?_
            refine pures hs 1 [0, 6, 22, 23] [(0, .pointer (some ⟨b2, 0, none⟩)), (6, .pointer (some ⟨b331, 0, none⟩)), (22, .pointer (some ⟨b547, 0, none⟩)), (23, .int .i64 y540.2)] (by kernel_rfl) fun a hs => ?_
            refine s_end ?_
            refine c_seq ?_
            obtain ⟨S549, hS549, kS549⟩ := mkSX (X := [([], bx b547 [.int .i64 y540.1.f0, .int .i64 y540.1.f1, .slice p544 y540.1.f2.length c545] 41), ([5], bx b331 [.int .i64 0, .int .i64 0, .slice none 0 0] 41), ([2], bx b2 [.int .i64 x3, .int .i64 x4, .slice p6 x5.length c7] 88), ([2], d9), ([], F)]) (ih := ih542) (K := [5, 2, 2]) rfl
            obtain ⟨y569, hx570, hk⟩ := bindE hk
            obtain ⟨J571, hJ571⟩ : ∃ J : Act → World → Prop, ∀ a w, J a w ↔ (∃ (x562 : Bool) (x563 : List M102) (p564 : Option Addr) (c565 : Nat) (d567 : Ch), catenarylaw06_step_r7 y540 x4 x562 x563 = some r ∧ Sees a 186 [(6, .pointer (some ⟨b331, 0, none⟩)), (7, .bool x562)] ∧ St g w [bx b331 [.int .i64 y540.1.f0, .int .i64 y540.1.f1, .slice p544 y540.1.f2.length c545] 41, bx b2 [.int .i64 x3, .int .i64 x4, .slice p564 x563.length c565] 88, d567, F] ih542 ∧ OSl e102 ih542 p564 c565 x563 d567) := ⟨_, fun _ _ => Iff.rfl⟩
            refine c_draw (by kernel_rfl) (N := 7) rfl S549 J571 ?_ ?_
            · have hw := hw.drew
              have hS : S549 (Array.replicate 7 false) _ := SX_now hS549 (hw.vws [0, 1, 2, 3, 4]) (by kernel_rfl)
              refine d_load (fuel := 6) kS549 hs hS 0 rfl (by kernel_rfl) (SX_box hS549 0 rfl (by kernel_rfl)) 0 (by kernel_rfl) (by kernel_rfl) (v := .agg #[.int .i64 y540.1.f0, .int .i64 y540.1.f1, .slice p544 y540.1.f2.length c545]) (by kernel_rfl) fun a hs hS => ?_
              refine d_pures (fuel := 4) kS549 hs hS [1, 3] [0, 6, 22, 23, 137, 138, 140] [(0, .pointer (some ⟨b2, 0, none⟩)), (6, .pointer (some ⟨b331, 0, none⟩)), (22, .pointer (some ⟨b547, 0, none⟩)), (23, .int .i64 y540.2), (137, .agg #[.int .i64 y540.1.f0, .int .i64 y540.1.f1, .slice p544 y540.1.f2.length c545]), (138, .pointer (some ⟨b2, 0, none⟩)), (140, .int .i64 y540.2)] (by kernel_rfl) fun a hs hS => ?_
              refine d_all (fuel := 3) (rs := [2]) (by kernel_rfl) (by simp) (all1 ?_)
              obtain ⟨y572, h573, hx570⟩ := bindE hx570
              refine o_call hs rfl (by kernel_rfl) (by kernel_rfl) (bag_Bag_int_Keep_s h573 (h8.mono hle543) ((hw.pick [2, 3, 0, 1, 4] (by kernel_rfl)).pack 2)) fun a w v hv hs => ?_
              obtain ⟨p574, c575, d577, rfl, hw, h576⟩ := hv
              replace hw := hw.unpack 2 rfl
              refine dg_next (SX_now hS549 ((hw.vws [2, 3, 4]).anti (Le.refl _)) (by kernel_rfl)) fun hS => ?_
              refine d_pures (fuel := 2) kS549 hs hS [4] [0, 6, 22, 23, 137, 138, 140, 139, 141] [(0, .pointer (some ⟨b2, 0, none⟩)), (6, .pointer (some ⟨b331, 0, none⟩)), (22, .pointer (some ⟨b547, 0, none⟩)), (23, .int .i64 y540.2), (137, .agg #[.int .i64 y540.1.f0, .int .i64 y540.1.f1, .slice p544 y540.1.f2.length c545]), (138, .pointer (some ⟨b2, 0, none⟩)), (140, .int .i64 y540.2), (139, .int .i64 y572.1), (141, .bool (y572.1 == y540.2))] (by kernel_rfl) fun a hs hS => ?_
              refine d_all (fuel := 1) (rs := [5]) (by kernel_rfl) (by simp) (all1 ?_)
              refine o_store hs hw rfl 3 rfl 0 (by kernel_rfl) (by kernel_rfl) (v := .agg #[.int .i64 y540.1.f0, .int .i64 y540.1.f1, .slice p544 y540.1.f2.length c545]) (by kernel_rfl) (by kernel_rfl) (by kernel_rfl) (by kernel_rfl) fun a w hs hw => ?_
              refine dg_next (SX_now hS549 ((hw.vws [2, 4]).anti (Le.refl _)) (by kernel_rfl)) fun hS => ?_
              refine d_pures (fuel := 0) kS549 hs hS [6] [0, 6, 22, 23, 137, 138, 140, 139, 141, 7] [(0, .pointer (some ⟨b2, 0, none⟩)), (6, .pointer (some ⟨b331, 0, none⟩)), (22, .pointer (some ⟨b547, 0, none⟩)), (23, .int .i64 y540.2), (137, .agg #[.int .i64 y540.1.f0, .int .i64 y540.1.f1, .slice p544 y540.1.f2.length c545]), (138, .pointer (some ⟨b2, 0, none⟩)), (140, .int .i64 y540.2), (139, .int .i64 y572.1), (141, .bool (y572.1 == y540.2)), (7, .bool (y572.1 == y540.2))] (by kernel_rfl) fun a hs hS => ?_
              refine d_done (by kernel_rfl) ?_
              obtain rfl := someE hx570
              exact (hJ571 _ _).2 ⟨(y572.1 == y540.2), y572.2, p574, c575, d577, hk, hs.cast [6, 7] (by kernel_rfl), hw.pick [3, 0, 1, 4] (by kernel_rfl), h576⟩
            · intro a w hh
              obtain ⟨x562, x563, p564, c565, d567, hk, hs, hw, h566⟩ := (hJ571 _ _).1 hh
              refine c_ret ?_
              obtain rfl := someE hk
              refine hQ _ _ (f_retG hs (l := [.cell 6 41, .tmp 7]) (vs := [.agg #[.int .i64 y540.1.f0, .int .i64 y540.1.f1, .slice p544 y540.1.f2.length c545], .bool x562]) rfl (⟨res_cell hs (hw.at_ 0 rfl) (by kernel_rfl) (v := .agg #[.int .i64 y540.1.f0, .int .i64 y540.1.f1, .slice p544 y540.1.f2.length c545]) (by kernel_rfl), ⟨res_tmp hs (v := .bool x562) (by kernel_rfl), trivial⟩⟩) (by kernel_rfl) ⟨ih542, p544, c545, p564, c565, d567, rfl, hw.pick [1, 2, 3] (by kernel_rfl), hle543, h546, h566⟩)
          · refine c_cond0 hs (by kernel_rfl) (t := (x15.f0 == 4)) (by kernel_rfl) h530 ?_
            refine c_skip ?_
            refine c_seq ?_
            refine c_region ?_
            refine s_load hs (hw.at_ 2 rfl) 0 (by kernel_rfl) (by kernel_rfl) (v := .agg #[.int .i64 x11.f0, .int .i64 x11.f1, .slice p12 x11.f2.length c13]) (by kernel_rfl) fun a hs => ?_
            refine pures hs 1 [0, 4, 5, 6, 143, 144] [(0, .pointer (some ⟨b2, 0, none⟩)), (4, .pointer (some ⟨b327, 0, none⟩)), (5, .pointer (some ⟨b329, 0, none⟩)), (6, .pointer (some ⟨b331, 0, none⟩)), (143, .agg #[.int .i64 x11.f0, .int .i64 x11.f1, .slice p12 x11.f2.length c13]), (144, .pointer (some ⟨b329, 1, none⟩))] (by kernel_rfl) fun a hs => ?_
            refine s_load hs (hw.at_ 1 rfl) 1 (by kernel_rfl) (by kernel_rfl) (v := .int .i64 x15.f1) (by kernel_rfl) fun a hs => ?_
            obtain ⟨y583, h584, hk⟩ := bindE hk
            refine s_call hs (by kernel_rfl) (by kernel_rfl) (catenaryref06_At_s h584 h14 ((hw.pick [0, 1, 2, 3, 4, 5] (by kernel_rfl)).pack 0)) fun a w v hv hs => ?_
            obtain ⟨rfl, hw⟩ := hv
            replace hw := hw.unpack 0 rfl
            refine pures hs 3 [0, 4, 5, 6, 147, 148] [(0, .pointer (some ⟨b2, 0, none⟩)), (4, .pointer (some ⟨b327, 0, none⟩)), (5, .pointer (some ⟨b329, 0, none⟩)), (6, .pointer (some ⟨b331, 0, none⟩)), (147, .agg #[.int .i64 y583.1.f0, .int .i64 y583.1.f1]), (148, .bool y583.2)] (by kernel_rfl) fun a hs => ?_
            refine s_new hs hw [.int .i64 0, .int .i64 0] 92 (fun b => .pointer (some ⟨b, 0, none⟩)) (by kernel_rfl) (fun _ => by kernel_rfl) fun a w b585 hs hw => ?_
            refine s_store hs hw 0 rfl 0 (by kernel_rfl) (by kernel_rfl) (v := .agg #[.int .i64 y583.1.f0, .int .i64 y583.1.f1]) (by kernel_rfl) (by kernel_rfl) (by kernel_rfl) (by kernel_rfl) fun a w hs hw => ?_
            refine pures hs 1 [0, 4, 5, 6, 24, 25] [(0, .pointer (some ⟨b2, 0, none⟩)), (4, .pointer (some ⟨b327, 0, none⟩)), (5, .pointer (some ⟨b329, 0, none⟩)), (6, .pointer (some ⟨b331, 0, none⟩)), (24, .pointer (some ⟨b585, 0, none⟩)), (25, .bool y583.2)] (by kernel_rfl) fun a hs => ?_
            refine s_end ?_
            refine c_seq ?_
            refine c_region ?_
            refine pures hs 2 [0, 4, 5, 6, 24, 25, 150, 151] [(0, .pointer (some ⟨b2, 0, none⟩)), (4, .pointer (some ⟨b327, 0, none⟩)), (5, .pointer (some ⟨b329, 0, none⟩)), (6, .pointer (some ⟨b331, 0, none⟩)), (24, .pointer (some ⟨b585, 0, none⟩)), (25, .bool y583.2), (150, .pointer (some ⟨b2, 0, none⟩)), (151, .pointer (some ⟨b329, 1, none⟩))] (by kernel_rfl) fun a hs => ?_
            refine s_load hs (hw.at_ 2 rfl) 1 (by kernel_rfl) (by kernel_rfl) (v := .int .i64 x15.f1) (by kernel_rfl) fun a hs => ?_
            obtain ⟨y589, h590, hk⟩ := bindE hk
            refine s_call hs (by kernel_rfl) (by kernel_rfl) (bag_Bag_int_At_s h590 h8 ((hw.pick [4, 5, 0, 1, 2, 3, 6] (by kernel_rfl)).pack 2)) fun a w v hv hs => ?_
            obtain ⟨rfl, hw⟩ := hv
            replace hw := hw.unpack 2 rfl
            refine pures hs 5 [0, 4, 5, 6, 24, 25, 26, 27] [(0, .pointer (some ⟨b2, 0, none⟩)), (4, .pointer (some ⟨b327, 0, none⟩)), (5, .pointer (some ⟨b329, 0, none⟩)), (6, .pointer (some ⟨b331, 0, none⟩)), (24, .pointer (some ⟨b585, 0, none⟩)), (25, .bool y583.2), (26, .int .i64 y589.1), (27, .bool y589.2)] (by kernel_rfl) fun a hs => ?_
            refine s_end ?_
            refine c_seq ?_
            obtain ⟨S591, hS591, kS591⟩ := mkSX (X := [([], bx b2 [.int .i64 x3, .int .i64 x4, .slice p6 x5.length c7] 88), ([], d9), ([], bx b585 [.int .i64 y583.1.f0, .int .i64 y583.1.f1] 92), ([30], bx b331 [.int .i64 0, .int .i64 0, .slice none 0 0] 41), ([], bx b329 [.int .i64 x15.f0, .int .i64 x15.f1, .int .i64 x15.f2] 45), ([], bx b327 [.int .i64 x11.f0, .int .i64 x11.f1, .slice p12 x11.f2.length c13] 41), ([], F)]) (ih := ih) (K := [30]) rfl
            obtain ⟨y611, hx612, hk⟩ := bindE hk
            obtain ⟨J613, hJ613⟩ : ∃ J : Act → World → Prop, ∀ a w, J a w ↔ (∃ (x610 : Bool), catenarylaw06_step_r8 x11 x4 x5 x610 = some r ∧ Sees a 186 [(6, .pointer (some ⟨b331, 0, none⟩)), (7, .bool x610)] ∧ St g w [bx b2 [.int .i64 x3, .int .i64 x4, .slice p6 x5.length c7] 88, bx b331 [.int .i64 x11.f0, .int .i64 x11.f1, .slice p12 x11.f2.length c13] 41, d9, F] ih) := ⟨_, fun _ _ => Iff.rfl⟩
            refine c_draw (by kernel_rfl) (N := 32) rfl S591 J613 ?_ ?_
            · have hw := hw.drew
              have hS : S591 (Array.replicate 32 false) _ := SX_now hS591 (hw.vws [0, 1, 2, 3, 4, 5, 6]) (by kernel_rfl)
              refine d_load (fuel := 31) kS591 hs hS 0 rfl (by kernel_rfl) (SX_box hS591 5 rfl (by kernel_rfl)) 0 (by kernel_rfl) (by kernel_rfl) (v := .agg #[.int .i64 x11.f0, .int .i64 x11.f1, .slice p12 x11.f2.length c13]) (by kernel_rfl) fun a hs hS => ?_
              refine d_pures (fuel := 29) kS591 hs hS [1, 2] [0, 4, 5, 6, 24, 25, 26, 27, 156, 157, 158] [(0, .pointer (some ⟨b2, 0, none⟩)), (4, .pointer (some ⟨b327, 0, none⟩)), (5, .pointer (some ⟨b329, 0, none⟩)), (6, .pointer (some ⟨b331, 0, none⟩)), (24, .pointer (some ⟨b585, 0, none⟩)), (25, .bool y583.2), (26, .int .i64 y589.1), (27, .bool y589.2), (156, .agg #[.int .i64 x11.f0, .int .i64 x11.f1, .slice p12 x11.f2.length c13]), (157, .int .i64 y589.1), (158, .pointer (some ⟨b585, 1, none⟩))] (by kernel_rfl) fun a hs hS => ?_
              refine d_load (fuel := 28) kS591 hs hS 3 rfl (by kernel_rfl) (SX_box hS591 2 rfl (by kernel_rfl)) 1 (by kernel_rfl) (by kernel_rfl) (v := .int .i64 y583.1.f1) (by kernel_rfl) fun a hs hS => ?_
              refine d_pures (fuel := 26) kS591 hs hS [4, 5] [0, 4, 5, 6, 24, 25, 26, 27, 156, 157, 158, 159, 160, 161] [(0, .pointer (some ⟨b2, 0, none⟩)), (4, .pointer (some ⟨b327, 0, none⟩)), (5, .pointer (some ⟨b329, 0, none⟩)), (6, .pointer (some ⟨b331, 0, none⟩)), (24, .pointer (some ⟨b585, 0, none⟩)), (25, .bool y583.2), (26, .int .i64 y589.1), (27, .bool y589.2), (156, .agg #[.int .i64 x11.f0, .int .i64 x11.f1, .slice p12 x11.f2.length c13]), (157, .int .i64 y589.1), (158, .pointer (some ⟨b585, 1, none⟩)), (159, .int .i64 y583.1.f1), (160, .bool (y589.1 == y583.1.f1)), (161, .bool (y589.1 == y583.1.f1))] (by kernel_rfl) fun a hs hS => ?_
              rcases ifbE hx612 with ⟨h614, hx612⟩ | ⟨h614, hx612⟩
              · replace hs := hs.altB 161 true (by kernel_rfl) h614
                refine d_pures (fuel := 21) kS591 hs hS [6, 7, 8, 9, 10] [0, 4, 5, 6, 24, 25, 26, 27, 156, 157, 158, 159, 160, 161, 162, 163, 164, 165, 166] [(0, .pointer (some ⟨b2, 0, none⟩)), (4, .pointer (some ⟨b327, 0, none⟩)), (5, .pointer (some ⟨b329, 0, none⟩)), (6, .pointer (some ⟨b331, 0, none⟩)), (24, .pointer (some ⟨b585, 0, none⟩)), (25, .bool y583.2), (26, .int .i64 y589.1), (27, .bool y589.2), (156, .agg #[.int .i64 x11.f0, .int .i64 x11.f1, .slice p12 x11.f2.length c13]), (157, .int .i64 y589.1), (158, .pointer (some ⟨b585, 1, none⟩)), (159, .int .i64 y583.1.f1), (160, .bool (y589.1 == y583.1.f1)), (161, .bool true), (162, .bool y589.2), (163, .bool y583.2), (164, .bool (y589.2 == y583.2)), (165, .bool (y589.2 == y583.2)), (166, .bool (y589.2 == y583.2))] (by kernel_rfl) fun a hs hS => ?_
                rcases ifbE hx612 with ⟨h615, hx612⟩ | ⟨h615, hx612⟩
                · replace hs := hs.altB 166 true (by kernel_rfl) h615
                  refine d_pures (fuel := 19) kS591 hs hS [11, 12] [0, 4, 5, 6, 24, 25, 26, 27, 156, 157, 158, 159, 160, 161, 162, 163, 164, 165, 166, 167, 168] [(0, .pointer (some ⟨b2, 0, none⟩)), (4, .pointer (some ⟨b327, 0, none⟩)), (5, .pointer (some ⟨b329, 0, none⟩)), (6, .pointer (some ⟨b331, 0, none⟩)), (24, .pointer (some ⟨b585, 0, none⟩)), (25, .bool y583.2), (26, .int .i64 y589.1), (27, .bool y589.2), (156, .agg #[.int .i64 x11.f0, .int .i64 x11.f1, .slice p12 x11.f2.length c13]), (157, .int .i64 y589.1), (158, .pointer (some ⟨b585, 1, none⟩)), (159, .int .i64 y583.1.f1), (160, .bool (y589.1 == y583.1.f1)), (161, .bool true), (162, .bool y589.2), (163, .bool y583.2), (164, .bool (y589.2 == y583.2)), (165, .bool (y589.2 == y583.2)), (166, .bool true), (167, .pointer (some ⟨b2, 0, none⟩)), (168, .pointer (some ⟨b329, 1, none⟩))] (by kernel_rfl) fun a hs hS => ?_
                  refine d_load (fuel := 18) kS591 hs hS 13 rfl (by kernel_rfl) (SX_box hS591 4 rfl (by kernel_rfl)) 1 (by kernel_rfl) (by kernel_rfl) (v := .int .i64 x15.f1) (by kernel_rfl) fun a hs hS => ?_
                  refine d_pures (fuel := 17) kS591 hs hS [15] [0, 4, 5, 6, 24, 25, 26, 27, 156, 157, 158, 159, 160, 161, 162, 163, 164, 165, 166, 167, 168, 169, 171] [(0, .pointer (some ⟨b2, 0, none⟩)), (4, .pointer (some ⟨b327, 0, none⟩)), (5, .pointer (some ⟨b329, 0, none⟩)), (6, .pointer (some ⟨b331, 0, none⟩)), (24, .pointer (some ⟨b585, 0, none⟩)), (25, .bool y583.2), (26, .int .i64 y589.1), (27, .bool y589.2), (156, .agg #[.int .i64 x11.f0, .int .i64 x11.f1, .slice p12 x11.f2.length c13]), (157, .int .i64 y589.1), (158, .pointer (some ⟨b585, 1, none⟩)), (159, .int .i64 y583.1.f1), (160, .bool (y589.1 == y583.1.f1)), (161, .bool true), (162, .bool y589.2), (163, .bool y583.2), (164, .bool (y589.2 == y583.2)), (165, .bool (y589.2 == y583.2)), (166, .bool true), (167, .pointer (some ⟨b2, 0, none⟩)), (168, .pointer (some ⟨b329, 1, none⟩)), (169, .int .i64 x15.f1), (171, .pointer (some ⟨b585, 0, none⟩))] (by kernel_rfl) fun a hs hS => ?_
                  refine d_load (fuel := 16) kS591 hs hS 16 rfl (by kernel_rfl) (SX_box hS591 2 rfl (by kernel_rfl)) 0 (by kernel_rfl) (by kernel_rfl) (v := .int .i64 y583.1.f0) (by kernel_rfl) fun a hs hS => ?_
                  refine d_all (fuel := 15) (rs := [14]) (by kernel_rfl) (by simp) (all1 ?_)
                  obtain ⟨y616, h617, hx612⟩ := bindE hx612
                  refine o_call hs rfl (by kernel_rfl) (by kernel_rfl) (bag_Bag_int_No_s h617 h8 ((hw.pick [0, 1, 2, 3, 4, 5, 6] (by kernel_rfl)).pack 2)) fun a w v hv hs => ?_
                  obtain ⟨rfl, hw⟩ := hv
                  replace hw := hw.unpack 2 rfl
                  refine dg_next (SX_now hS591 ((hw.vws [0, 1, 2, 3, 4, 5, 6]).anti (Le.refl _)) (by kernel_rfl)) fun hS => ?_
                  refine d_pures (fuel := 12) kS591 hs hS [17, 18, 19] [0, 4, 5, 6, 24, 25, 26, 27, 156, 157, 158, 159, 160, 161, 162, 163, 164, 165, 166, 167, 168, 169, 171, 172, 170, 173, 174, 175] [(0, .pointer (some ⟨b2, 0, none⟩)), (4, .pointer (some ⟨b327, 0, none⟩)), (5, .pointer (some ⟨b329, 0, none⟩)), (6, .pointer (some ⟨b331, 0, none⟩)), (24, .pointer (some ⟨b585, 0, none⟩)), (25, .bool y583.2), (26, .int .i64 y589.1), (27, .bool y589.2), (156, .agg #[.int .i64 x11.f0, .int .i64 x11.f1, .slice p12 x11.f2.length c13]), (157, .int .i64 y589.1), (158, .pointer (some ⟨b585, 1, none⟩)), (159, .int .i64 y583.1.f1), (160, .bool (y589.1 == y583.1.f1)), (161, .bool true), (162, .bool y589.2), (163, .bool y583.2), (164, .bool (y589.2 == y583.2)), (165, .bool (y589.2 == y583.2)), (166, .bool true), (167, .pointer (some ⟨b2, 0, none⟩)), (168, .pointer (some ⟨b329, 1, none⟩)), (169, .int .i64 x15.f1), (171, .pointer (some ⟨b585, 0, none⟩)), (172, .int .i64 y583.1.f0), (170, .int .i64 y616), (173, .bool (y616 == y583.1.f0)), (174, .bool (y616 == y583.1.f0)), (175, .bool (y616 == y583.1.f0))] (by kernel_rfl) fun a hs hS => ?_
                  rcases ifbE hx612 with ⟨h618, hx612⟩ | ⟨h618, hx612⟩
                  · replace hs := hs.altB 175 true (by kernel_rfl) h618
                    refine d_pures (fuel := 10) kS591 hs hS [20, 21] [0, 4, 5, 6, 24, 25, 26, 27, 156, 157, 158, 159, 160, 161, 162, 163, 164, 165, 166, 167, 168, 169, 171, 172, 170, 173, 174, 175, 176, 177] [(0, .pointer (some ⟨b2, 0, none⟩)), (4, .pointer (some ⟨b327, 0, none⟩)), (5, .pointer (some ⟨b329, 0, none⟩)), (6, .pointer (some ⟨b331, 0, none⟩)), (24, .pointer (some ⟨b585, 0, none⟩)), (25, .bool y583.2), (26, .int .i64 y589.1), (27, .bool y589.2), (156, .agg #[.int .i64 x11.f0, .int .i64 x11.f1, .slice p12 x11.f2.length c13]), (157, .int .i64 y589.1), (158, .pointer (some ⟨b585, 1, none⟩)), (159, .int .i64 y583.1.f1), (160, .bool (y589.1 == y583.1.f1)), (161, .bool true), (162, .bool y589.2), (163, .bool y583.2), (164, .bool (y589.2 == y583.2)), (165, .bool (y589.2 == y583.2)), (166, .bool true), (167, .pointer (some ⟨b2, 0, none⟩)), (168, .pointer (some ⟨b329, 1, none⟩)), (169, .int .i64 x15.f1), (171, .pointer (some ⟨b585, 0, none⟩)), (172, .int .i64 y583.1.f0), (170, .int .i64 y616), (173, .bool (y616 == y583.1.f0)), (174, .bool (y616 == y583.1.f0)), (175, .bool true), (176, .pointer (some ⟨b2, 0, none⟩)), (177, .pointer (some ⟨b329, 2, none⟩))] (by kernel_rfl) fun a hs hS => ?_
                    refine d_load (fuel := 9) kS591 hs hS 22 rfl (by kernel_rfl) (SX_box hS591 4 rfl (by kernel_rfl)) 2 (by kernel_rfl) (by kernel_rfl) (v := .int .i64 x15.f2) (by kernel_rfl) fun a hs hS => ?_
                    refine d_load (fuel := 8) kS591 hs hS 24 rfl (by kernel_rfl) (SX_box hS591 5 rfl (by kernel_rfl)) 0 (by kernel_rfl) (by kernel_rfl) (v := .agg #[.int .i64 x11.f0, .int .i64 x11.f1, .slice p12 x11.f2.length c13]) (by kernel_rfl) fun a hs hS => ?_
                    refine d_pures (fuel := 7) kS591 hs hS [25] [0, 4, 5, 6, 24, 25, 26, 27, 156, 157, 158, 159, 160, 161, 162, 163, 164, 165, 166, 167, 168, 169, 171, 172, 170, 173, 174, 175, 176, 177, 178, 180, 181] [(0, .pointer (some ⟨b2, 0, none⟩)), (4, .pointer (some ⟨b327, 0, none⟩)), (5, .pointer (some ⟨b329, 0, none⟩)), (6, .pointer (some ⟨b331, 0, none⟩)), (24, .pointer (some ⟨b585, 0, none⟩)), (25, .bool y583.2), (26, .int .i64 y589.1), (27, .bool y589.2), (156, .agg #[.int .i64 x11.f0, .int .i64 x11.f1, .slice p12 x11.f2.length c13]), (157, .int .i64 y589.1), (158, .pointer (some ⟨b585, 1, none⟩)), (159, .int .i64 y583.1.f1), (160, .bool (y589.1 == y583.1.f1)), (161, .bool true), (162, .bool y589.2), (163, .bool y583.2), (164, .bool (y589.2 == y583.2)), (165, .bool (y589.2 == y583.2)), (166, .bool true), (167, .pointer (some ⟨b2, 0, none⟩)), (168, .pointer (some ⟨b329, 1, none⟩)), (169, .int .i64 x15.f1), (171, .pointer (some ⟨b585, 0, none⟩)), (172, .int .i64 y583.1.f0), (170, .int .i64 y616), (173, .bool (y616 == y583.1.f0)), (174, .bool (y616 == y583.1.f0)), (175, .bool true), (176, .pointer (some ⟨b2, 0, none⟩)), (177, .pointer (some ⟨b329, 2, none⟩)), (178, .int .i64 x15.f2), (180, .agg #[.int .i64 x11.f0, .int .i64 x11.f1, .slice p12 x11.f2.length c13]), (181, .pointer (some ⟨b329, 2, none⟩))] (by kernel_rfl) fun a hs hS => ?_
                    refine d_load (fuel := 6) kS591 hs hS 26 rfl (by kernel_rfl) (SX_box hS591 4 rfl (by kernel_rfl)) 2 (by kernel_rfl) (by kernel_rfl) (v := .int .i64 x15.f2) (by kernel_rfl) fun a hs hS => ?_
                    refine d_all (fuel := 5) (rs := [23]) (by kernel_rfl) (by simp) (all1 ?_)
                    obtain ⟨y619, h620, hx612⟩ := bindE hx612
                    refine o_call hs rfl (by kernel_rfl) (by kernel_rfl) (bag_Bag_int_Upto_s h620 h8 ((hw.pick [0, 1, 2, 3, 4, 5, 6] (by kernel_rfl)).pack 2)) fun a w v hv hs => ?_
                    obtain ⟨rfl, hw⟩ := hv
                    replace hw := hw.unpack 2 rfl
                    refine dg_next (SX_now hS591 ((hw.vws [0, 1, 2, 3, 4, 5, 6]).anti (Le.refl _)) (by kernel_rfl)) fun hS => ?_
                    refine d_all (fuel := 4) (rs := [27]) (by kernel_rfl) (by simp) (all1 ?_)
                    obtain ⟨y621, h622, hx612⟩ := bindE hx612
                    refine o_call hs rfl (by kernel_rfl) (by kernel_rfl) (catenaryref06_Upto_s h622 h14 ((hw.pick [0, 1, 2, 3, 4, 5, 6] (by kernel_rfl)).pack 0)) fun a w v hv hs => ?_
                    obtain ⟨rfl, hw⟩ := hv
                    replace hw := hw.unpack 0 rfl
                    refine dg_next (SX_now hS591 ((hw.vws [0, 1, 2, 3, 4, 5, 6]).anti (Le.refl _)) (by kernel_rfl)) fun hS => ?_
                    refine d_pures (fuel := 2) kS591 hs hS [28, 29] [0, 4, 5, 6, 24, 25, 26, 27, 156, 157, 158, 159, 160, 161, 162, 163, 164, 165, 166, 167, 168, 169, 171, 172, 170, 173, 174, 175, 176, 177, 178, 180, 181, 182, 179, 183, 184, 185] [(0, .pointer (some ⟨b2, 0, none⟩)), (4, .pointer (some ⟨b327, 0, none⟩)), (5, .pointer (some ⟨b329, 0, none⟩)), (6, .pointer (some ⟨b331, 0, none⟩)), (24, .pointer (some ⟨b585, 0, none⟩)), (25, .bool y583.2), (26, .int .i64 y589.1), (27, .bool y589.2), (156, .agg #[.int .i64 x11.f0, .int .i64 x11.f1, .slice p12 x11.f2.length c13]), (157, .int .i64 y589.1), (158, .pointer (some ⟨b585, 1, none⟩)), (159, .int .i64 y583.1.f1), (160, .bool (y589.1 == y583.1.f1)), (161, .bool true), (162, .bool y589.2), (163, .bool y583.2), (164, .bool (y589.2 == y583.2)), (165, .bool (y589.2 == y583.2)), (166, .bool true), (167, .pointer (some ⟨b2, 0, none⟩)), (168, .pointer (some ⟨b329, 1, none⟩)), (169, .int .i64 x15.f1), (171, .pointer (some ⟨b585, 0, none⟩)), (172, .int .i64 y583.1.f0), (170, .int .i64 y616), (173, .bool (y616 == y583.1.f0)), (174, .bool (y616 == y583.1.f0)), (175, .bool true), (176, .pointer (some ⟨b2, 0, none⟩)), (177, .pointer (some ⟨b329, 2, none⟩)), (178, .int .i64 x15.f2), (180, .agg #[.int .i64 x11.f0, .int .i64 x11.f1, .slice p12 x11.f2.length c13]), (181, .pointer (some ⟨b329, 2, none⟩)), (182, .int .i64 x15.f2), (179, .int .i64 y619), (183, .int .i64 y621), (184, .bool (y619 == y621)), (185, .bool (y619 == y621))] (by kernel_rfl) fun a hs hS => ?_
                    refine d_all (fuel := 1) (rs := [30]) (by kernel_rfl) (by simp) (all1 ?_)
                    refine o_store hs hw rfl 3 rfl 0 (by kernel_rfl) (by kernel_rfl) (v := .agg #[.int .i64 x11.f0, .int .i64 x11.f1, .slice p12 x11.f2.length c13]) (by kernel_rfl) (by kernel_rfl) (by kernel_rfl) (by kernel_rfl) fun a w hs hw => ?_
                    refine dg_next (SX_now hS591 ((hw.vws [0, 1, 2, 4, 5, 6]).anti (Le.refl _)) (by kernel_rfl)) fun hS => ?_
                    refine d_pures (fuel := 0) kS591 hs hS [31] [0, 4, 5, 6, 24, 25, 26, 27, 156, 157, 158, 159, 160, 161, 162, 163, 164, 165, 166, 167, 168, 169, 171, 172, 170, 173, 174, 175, 176, 177, 178, 180, 181, 182, 179, 183, 184, 185, 7] [(0, .pointer (some ⟨b2, 0, none⟩)), (4, .pointer (some ⟨b327, 0, none⟩)), (5, .pointer (some ⟨b329, 0, none⟩)), (6, .pointer (some ⟨b331, 0, none⟩)), (24, .pointer (some ⟨b585, 0, none⟩)), (25, .bool y583.2), (26, .int .i64 y589.1), (27, .bool y589.2), (156, .agg #[.int .i64 x11.f0, .int .i64 x11.f1, .slice p12 x11.f2.length c13]), (157, .int .i64 y589.1), (158, .pointer (some ⟨b585, 1, none⟩)), (159, .int .i64 y583.1.f1), (160, .bool (y589.1 == y583.1.f1)), (161, .bool true), (162, .bool y589.2), (163, .bool y583.2), (164, .bool (y589.2 == y583.2)), (165, .bool (y589.2 == y583.2)), (166, .bool true), (167, .pointer (some ⟨b2, 0, none⟩)), (168, .pointer (some ⟨b329, 1, none⟩)), (169, .int .i64 x15.f1), (171, .pointer (some ⟨b585, 0, none⟩)), (172, .int .i64 y583.1.f0), (170, .int .i64 y616), (173, .bool (y616 == y583.1.f0)), (174, .bool (y616 == y583.1.f0)), (175, .bool true), (176, .pointer (some ⟨b2, 0, none⟩)), (177, .pointer (some ⟨b329, 2, none⟩)), (178, .int .i64 x15.f2), (180, .agg #[.int .i64 x11.f0, .int .i64 x11.f1, .slice p12 x11.f2.length c13]), (181, .pointer (some ⟨b329, 2, none⟩)), (182, .int .i64 x15.f2), (179, .int .i64 y619), (183, .int .i64 y621), (184, .bool (y619 == y621)), (185, .bool (y619 == y621)), (7, .bool (y619 == y621))] (by kernel_rfl) fun a hs hS => ?_
                    refine d_done (by kernel_rfl) ?_
                    obtain rfl := someE hx612
                    exact (hJ613 _ _).2 ⟨(y619 == y621), hk, hs.cast [6, 7] (by kernel_rfl), hw.pick [0, 3, 1, 6] (by kernel_rfl)⟩
                  · replace hs := hs.altB 175 false (by kernel_rfl) h618
                    refine d_pures (fuel := 2) kS591 hs hS [20, 21, 22, 23, 24, 25, 26, 27, 28, 29] [0, 4, 5, 6, 24, 25, 26, 27, 156, 157, 158, 159, 160, 161, 162, 163, 164, 165, 166, 167, 168, 169, 171, 172, 170, 173, 174, 175, 176, 177, 178, 179, 180, 181, 182, 183, 184, 185] [(0, .pointer (some ⟨b2, 0, none⟩)), (4, .pointer (some ⟨b327, 0, none⟩)), (5, .pointer (some ⟨b329, 0, none⟩)), (6, .pointer (some ⟨b331, 0, none⟩)), (24, .pointer (some ⟨b585, 0, none⟩)), (25, .bool y583.2), (26, .int .i64 y589.1), (27, .bool y589.2), (156, .agg #[.int .i64 x11.f0, .int .i64 x11.f1, .slice p12 x11.f2.length c13]), (157, .int .i64 y589.1), (158, .pointer (some ⟨b585, 1, none⟩)), (159, .int .i64 y583.1.f1), (160, .bool (y589.1 == y583.1.f1)), (161, .bool true), (162, .bool y589.2), (163, .bool y583.2), (164, .bool (y589.2 == y583.2)), (165, .bool (y589.2 == y583.2)), (166, .bool true), (167, .pointer (some ⟨b2, 0, none⟩)), (168, .pointer (some ⟨b329, 1, none⟩)), (169, .int .i64 x15.f1), (171, .pointer (some ⟨b585, 0, none⟩)), (172, .int .i64 y583.1.f0), (170, .int .i64 y616), (173, .bool (y616 == y583.1.f0)), (174, .bool (y616 == y583.1.f0)), (175, .bool false), (176, undef), (177, undef), (178, undef), (179, undef), (180, undef), (181, undef), (182, undef), (183, undef), (184, undef), (185, .bool false)] (by kernel_rfl) fun a hs hS => ?_
                    refine d_all (fuel := 1) (rs := [30]) (by kernel_rfl) (by simp) (all1 ?_)
                    refine o_store hs hw rfl 3 rfl 0 (by kernel_rfl) (by kernel_rfl) (v := .agg #[.int .i64 x11.f0, .int .i64 x11.f1, .slice p12 x11.f2.length c13]) (by kernel_rfl) (by kernel_rfl) (by kernel_rfl) (by kernel_rfl) fun a w hs hw => ?_
                    refine dg_next (SX_now hS591 ((hw.vws [0, 1, 2, 4, 5, 6]).anti (Le.refl _)) (by kernel_rfl)) fun hS => ?_
                    refine d_pures (fuel := 0) kS591 hs hS [31] [0, 4, 5, 6, 24, 25, 26, 27, 156, 157, 158, 159, 160, 161, 162, 163, 164, 165, 166, 167, 168, 169, 171, 172, 170, 173, 174, 175, 176, 177, 178, 179, 180, 181, 182, 183, 184, 185, 7] [(0, .pointer (some ⟨b2, 0, none⟩)), (4, .pointer (some ⟨b327, 0, none⟩)), (5, .pointer (some ⟨b329, 0, none⟩)), (6, .pointer (some ⟨b331, 0, none⟩)), (24, .pointer (some ⟨b585, 0, none⟩)), (25, .bool y583.2), (26, .int .i64 y589.1), (27, .bool y589.2), (156, .agg #[.int .i64 x11.f0, .int .i64 x11.f1, .slice p12 x11.f2.length c13]), (157, .int .i64 y589.1), (158, .pointer (some ⟨b585, 1, none⟩)), (159, .int .i64 y583.1.f1), (160, .bool (y589.1 == y583.1.f1)), (161, .bool true), (162, .bool y589.2), (163, .bool y583.2), (164, .bool (y589.2 == y583.2)), (165, .bool (y589.2 == y583.2)), (166, .bool true), (167, .pointer (some ⟨b2, 0, none⟩)), (168, .pointer (some ⟨b329, 1, none⟩)), (169, .int .i64 x15.f1), (171, .pointer (some ⟨b585, 0, none⟩)), (172, .int .i64 y583.1.f0), (170, .int .i64 y616), (173, .bool (y616 == y583.1.f0)), (174, .bool (y616 == y583.1.f0)), (175, .bool false), (176, undef), (177, undef), (178, undef), (179, undef), (180, undef), (181, undef), (182, undef), (183, undef), (184, undef), (185, .bool false), (7, .bool false)] (by kernel_rfl) fun a hs hS => ?_
                    refine d_done (by kernel_rfl) ?_
                    obtain rfl := someE hx612
                    exact (hJ613 _ _).2 ⟨false, hk, hs.cast [6, 7] (by kernel_rfl), hw.pick [0, 3, 1, 6] (by kernel_rfl)⟩
                · replace hs := hs.altB 166 false (by kernel_rfl) h615
                  refine d_pures (fuel := 2) kS591 hs hS [11, 12, 13, 14, 15, 16, 17, 18, 19, 20, 21, 22, 23, 24, 25, 26, 27, 28, 29] [0, 4, 5, 6, 24, 25, 26, 27, 156, 157, 158, 159, 160, 161, 162, 163, 164, 165, 166, 167, 168, 169, 170, 171, 172, 173, 174, 175, 176, 177, 178, 179, 180, 181, 182, 183, 184, 185] [(0, .pointer (some ⟨b2, 0, none⟩)), (4, .pointer (some ⟨b327, 0, none⟩)), (5, .pointer (some ⟨b329, 0, none⟩)), (6, .pointer (some ⟨b331, 0, none⟩)), (24, .pointer (some ⟨b585, 0, none⟩)), (25, .bool y583.2), (26, .int .i64 y589.1), (27, .bool y589.2), (156, .agg #[.int .i64 x11.f0, .int .i64 x11.f1, .slice p12 x11.f2.length c13]), (157, .int .i64 y589.1), (158, .pointer (some ⟨b585, 1, none⟩)), (159, .int .i64 y583.1.f1), (160, .bool (y589.1 == y583.1.f1)), (161, .bool true), (162, .bool y589.2), (163, .bool y583.2), (164, .bool (y589.2 == y583.2)), (165, .bool (y589.2 == y583.2)), (166, .bool false), (167, undef), (168, undef), (169, undef), (170, undef), (171, undef), (172, undef), (173, undef), (174, .bool false), (175, .bool false), (176, undef), (177, undef), (178, undef), (179, undef), (180, undef), (181, undef), (182, undef), (183, undef), (184, undef), (185, .bool false)] (by kernel_rfl) fun a hs hS => ?_
                  refine d_all (fuel := 1) (rs := [30]) (by kernel_rfl) (by simp) (all1 ?_)
                  refine o_store hs hw rfl 3 rfl 0 (by kernel_rfl) (by kernel_rfl) (v := .agg #[.int .i64 x11.f0, .int .i64 x11.f1, .slice p12 x11.f2.length c13]) (by kernel_rfl) (by kernel_rfl) (by kernel_rfl) (by kernel_rfl) fun a w hs hw => ?_
                  refine dg_next (SX_now hS591 ((hw.vws [0, 1, 2, 4, 5, 6]).anti (Le.refl _)) (by kernel_rfl)) fun hS => ?_
                  refine d_pures (fuel := 0) kS591 hs hS [31] [0, 4, 5, 6, 24, 25, 26, 27, 156, 157, 158, 159, 160, 161, 162, 163, 164, 165, 166, 167, 168, 169, 170, 171, 172, 173, 174, 175, 176, 177, 178, 179, 180, 181, 182, 183, 184, 185, 7] [(0, .pointer (some ⟨b2, 0, none⟩)), (4, .pointer (some ⟨b327, 0, none⟩)), (5, .pointer (some ⟨b329, 0, none⟩)), (6, .pointer (some ⟨b331, 0, none⟩)), (24, .pointer (some ⟨b585, 0, none⟩)), (25, .bool y583.2), (26, .int .i64 y589.1), (27, .bool y589.2), (156, .agg #[.int .i64 x11.f0, .int .i64 x11.f1, .slice p12 x11.f2.length c13]), (157, .int .i64 y589.1), (158, .pointer (some ⟨b585, 1, none⟩)), (159, .int .i64 y583.1.f1), (160, .bool (y589.1 == y583.1.f1)), (161, .bool true), (162, .bool y589.2), (163, .bool y583.2), (164, .bool (y589.2 == y583.2)), (165, .bool (y589.2 == y583.2)), (166, .bool false), (167, undef), (168, undef), (169, undef), (170, undef), (171, undef), (172, undef), (173, undef), (174, .bool false), (175, .bool false), (176, undef), (177, undef), (178, undef), (179, undef), (180, undef), (181, undef), (182, undef), (183, undef), (184, undef), (185, .bool false), (7, .bool false)] (by kernel_rfl) fun a hs hS => ?_
                  refine d_done (by kernel_rfl) ?_
                  obtain rfl := someE hx612
                  exact (hJ613 _ _).2 ⟨false, hk, hs.cast [6, 7] (by kernel_rfl), hw.pick [0, 3, 1, 6] (by kernel_rfl)⟩
              · replace hs := hs.altB 161 false (by kernel_rfl) h614
                refine d_pures (fuel := 2) kS591 hs hS [6, 7, 8, 9, 10, 11, 12, 13, 14, 15, 16, 17, 18, 19, 20, 21, 22, 23, 24, 25, 26, 27, 28, 29] [0, 4, 5, 6, 24, 25, 26, 27, 156, 157, 158, 159, 160, 161, 162, 163, 164, 165, 166, 167, 168, 169, 170, 171, 172, 173, 174, 175, 176, 177, 178, 179, 180, 181, 182, 183, 184, 185] [(0, .pointer (some ⟨b2, 0, none⟩)), (4, .pointer (some ⟨b327, 0, none⟩)), (5, .pointer (some ⟨b329, 0, none⟩)), (6, .pointer (some ⟨b331, 0, none⟩)), (24, .pointer (some ⟨b585, 0, none⟩)), (25, .bool y583.2), (26, .int .i64 y589.1), (27, .bool y589.2), (156, .agg #[.int .i64 x11.f0, .int .i64 x11.f1, .slice p12 x11.f2.length c13]), (157, .int .i64 y589.1), (158, .pointer (some ⟨b585, 1, none⟩)), (159, .int .i64 y583.1.f1), (160, .bool (y589.1 == y583.1.f1)), (161, .bool false), (162, undef), (163, undef), (164, undef), (165, .bool false), (166, .bool false), (167, undef), (168, undef), (169, undef), (170, undef), (171, undef), (172, undef), (173, undef), (174, .bool false), (175, .bool false), (176, undef), (177, undef), (178, undef), (179, undef), (180, undef), (181, undef), (182, undef), (183, undef), (184, undef), (185, .bool false)] (by kernel_rfl) fun a hs hS => ?_
                refine d_all (fuel := 1) (rs := [30]) (by kernel_rfl) (by simp) (all1 ?_)
                refine o_store hs hw rfl 3 rfl 0 (by kernel_rfl) (by kernel_rfl) (v := .agg #[.int .i64 x11.f0, .int .i64 x11.f1, .slice p12 x11.f2.length c13]) (by kernel_rfl) (by kernel_rfl) (by kernel_rfl) (by kernel_rfl) fun a w hs hw => ?_
                refine dg_next (SX_now hS591 ((hw.vws [0, 1, 2, 4, 5, 6]).anti (Le.refl _)) (by kernel_rfl)) fun hS => ?_
                refine d_pures (fuel := 0) kS591 hs hS [31] [0, 4, 5, 6, 24, 25, 26, 27, 156, 157, 158, 159, 160, 161, 162, 163, 164, 165, 166, 167, 168, 169, 170, 171, 172, 173, 174, 175, 176, 177, 178, 179, 180, 181, 182, 183, 184, 185, 7] [(0, .pointer (some ⟨b2, 0, none⟩)), (4, .pointer (some ⟨b327, 0, none⟩)), (5, .pointer (some ⟨b329, 0, none⟩)), (6, .pointer (some ⟨b331, 0, none⟩)), (24, .pointer (some ⟨b585, 0, none⟩)), (25, .bool y583.2), (26, .int .i64 y589.1), (27, .bool y589.2), (156, .agg #[.int .i64 x11.f0, .int .i64 x11.f1, .slice p12 x11.f2.length c13]), (157, .int .i64 y589.1), (158, .pointer (some ⟨b585, 1, none⟩)), (159, .int .i64 y583.1.f1), (160, .bool (y589.1 == y583.1.f1)), (161, .bool false), (162, undef), (163, undef), (164, undef), (165, .bool false), (166, .bool false), (167, undef), (168, undef), (169, undef), (170, undef), (171, undef), (172, undef), (173, undef), (174, .bool false), (175, .bool false), (176, undef), (177, undef), (178, undef), (179, undef), (180, undef), (181, undef), (182, undef), (183, undef), (184, undef), (185, .bool false), (7, .bool false)] (by kernel_rfl) fun a hs hS => ?_
                refine d_done (by kernel_rfl) ?_
                obtain rfl := someE hx612
                exact (hJ613 _ _).2 ⟨false, hk, hs.cast [6, 7] (by kernel_rfl), hw.pick [0, 3, 1, 6] (by kernel_rfl)⟩
            · intro a w hh
              obtain ⟨x610, hk, hs, hw⟩ := (hJ613 _ _).1 hh
              refine c_ret ?_
              obtain rfl := someE hk
              refine hQ _ _ (f_retG hs (l := [.cell 6 41, .tmp 7]) (vs := [.agg #[.int .i64 x11.f0, .int .i64 x11.f1, .slice p12 x11.f2.length c13], .bool x610]) rfl (⟨res_cell hs (hw.at_ 1 rfl) (by kernel_rfl) (v := .agg #[.int .i64 x11.f0, .int .i64 x11.f1, .slice p12 x11.f2.length c13]) (by kernel_rfl), ⟨res_tmp hs (v := .bool x610) (by kernel_rfl), trivial⟩⟩) (by kernel_rfl) ⟨ih, p12, c13, p6, c7, d9, rfl, hw.pick [0, 2, 3] (by kernel_rfl), (Le.refl _), h14, h8⟩)
def bag_Bag_int_Len (x3 : Int) (x4 : Int) (x5 : List M102) : Option Int :=
  some (x5.length : Int)
theorem bag_Bag_int_Len_s {x3 : Int} {x4 : Int} {x5 : List M102} {b2 : Nat} {p6 : Option Addr} {c7 : Nat} {d9 : Ch} {r : Int} (hk : bag_Bag_int_Len x3 x4 x5 = some r) {g w : World} {F : Ch} {ih : IH} (h8 : OSl e102 ih p6 c7 x5 d9) (hw : St g w [bx b2 [.int .i64 x3, .int .i64 x4, .slice p6 x5.length c7] 88, d9, F] ih) :
    CallsR Try.prog 28 #[.pointer (some ⟨b2, 0, none⟩)] w fun v w' => v = .int .i64 r ∧ St g w' [bx b2 [.int .i64 x3, .int .i64 x4, .slice p6 x5.length c7] 88, d9, F] ih := by
  refine f_in (vs := [.pointer (some ⟨b2, 0, none⟩)]) Try.func28 rfl 10 rfl (by kernel_rfl) [(0, .pointer (some ⟨b2, 0, none⟩))] (by kernel_rfl) fun a Qf hQ hQn hs => ?_
  refine c_seq ?_
  refine c_region ?_
  refine pures hs 1 [0] [(0, .pointer (some ⟨b2, 0, none⟩))] (by kernel_rfl) fun a hs => ?_
  refine s_end ?_
  refine c_seq ?_
  refine c_seq ?_
  refine c_region ?_
  refine pures hs 2 [0, 4] [(0, .pointer (some ⟨b2, 0, none⟩)), (4, .bool false)] (by kernel_rfl) fun a hs => ?_
  refine s_end ?_
  refine c_condF hs (by kernel_rfl) (by kernel_rfl) ?_
  refine c_skip ?_
  refine c_seq ?_
  refine c_region ?_
  refine pures hs 3 [7] [(7, .pointer (some ⟨b2, 2, none⟩))] (by kernel_rfl) fun a hs => ?_
  refine s_load hs (hw.at_ 0 rfl) 2 (by kernel_rfl) (by kernel_rfl) (v := .slice p6 x5.length c7) (by kernel_rfl) fun a hs => ?_
  refine pures hs 2 [2] [(2, .int .i64 (x5.length : Int))] (by kernel_rfl) fun a hs => ?_
  refine s_end ?_
  refine c_ret ?_
  obtain rfl := someE hk
  refine hQ _ _ (f_ret1 hs rfl (v := .int .i64 (x5.length : Int)) (by kernel_rfl) ⟨rfl, hw.pick [0, 1, 2] (by kernel_rfl)⟩)
def bag_Bag_int_Last (x3 : Int) (x4 : Int) (x5 : List M102) : Option Int :=
  some x4
theorem bag_Bag_int_Last_s {x3 : Int} {x4 : Int} {x5 : List M102} {b2 : Nat} {p6 : Option Addr} {c7 : Nat} {d9 : Ch} {r : Int} (hk : bag_Bag_int_Last x3 x4 x5 = some r) {g w : World} {F : Ch} {ih : IH} (h8 : OSl e102 ih p6 c7 x5 d9) (hw : St g w [bx b2 [.int .i64 x3, .int .i64 x4, .slice p6 x5.length c7] 88, d9, F] ih) :
    CallsR Try.prog 32 #[.pointer (some ⟨b2, 0, none⟩)] w fun v w' => v = .int .i64 r ∧ St g w' [bx b2 [.int .i64 x3, .int .i64 x4, .slice p6 x5.length c7] 88, d9, F] ih := by
  refine f_in (vs := [.pointer (some ⟨b2, 0, none⟩)]) Try.func32 rfl 9 rfl (by kernel_rfl) [(0, .pointer (some ⟨b2, 0, none⟩))] (by kernel_rfl) fun a Qf hQ hQn hs => ?_
  refine c_seq ?_
  refine c_region ?_
  refine pures hs 1 [0] [(0, .pointer (some ⟨b2, 0, none⟩))] (by kernel_rfl) fun a hs => ?_
  refine s_end ?_
  refine c_seq ?_
  refine c_seq ?_
  refine c_region ?_
  refine pures hs 2 [0, 4] [(0, .pointer (some ⟨b2, 0, none⟩)), (4, .bool false)] (by kernel_rfl) fun a hs => ?_
  refine s_end ?_
  refine c_condF hs (by kernel_rfl) (by kernel_rfl) ?_
  refine c_skip ?_
  refine c_seq ?_
  refine c_region ?_
  refine pures hs 3 [7] [(7, .pointer (some ⟨b2, 1, none⟩))] (by kernel_rfl) fun a hs => ?_
  refine s_load hs (hw.at_ 0 rfl) 1 (by kernel_rfl) (by kernel_rfl) (v := .int .i64 x4) (by kernel_rfl) fun a hs => ?_
  refine pures hs 1 [2] [(2, .int .i64 x4)] (by kernel_rfl) fun a hs => ?_
  refine s_end ?_
  refine c_ret ?_
  obtain rfl := someE hk
  refine hQ _ _ (f_ret1 hs rfl (v := .int .i64 x4) (by kernel_rfl) ⟨rfl, hw.pick [0, 1, 2] (by kernel_rfl)⟩)
def catenarylaw06_same_round_r2 (x50028 : Int) (x50025 : Bool) (x50105 : Bool) : Option (Bool × Bool × Int × Int) :=
  if x50105 = true then some (false, false, x50028, 1)
  else some (true, x50025, IntKind.i64.wrap (x50028 + 1), 0)
def catenarylaw06_same_round (x50001 : Int) (x50002 : Int) (x50007 : Int) (x50008 : Int) (x50009 : List M102) (x50017 : Int) (x50018 : Int) (x50019 : List M92) (x50025 : Bool) (x50028 : Int) : Option (Bool × Bool × Int × Int) :=
  (if (decide (x50028 ≥ (x50019.length : Int))) = true then some true
    else (ix x50019 x50028).bind fun x50111 =>
    if (x50111.f0 != x50001) = true then some true
    else (ix x50019 x50028).bind fun x50116 =>
    if (x50116.f1 != x50002) = true then some true
    else (bag_Bag_int_No x50007 x50008 x50009 x50028).bind fun y50121 =>
    some (y50121 != x50001) : Option Bool).bind fun s50123 => catenarylaw06_same_round_r2 x50028 x50025 s50123
def catenarylaw06_same_round_C (n50030 : Nat) (q50031 : Lp) (b50004 : Nat) (b50016 : Nat) (b50024 : Nat) (b50027 : Nat) : Prop := ∀ {x50001 : Int} {x50002 : Int} {x50007 : Int} {x50008 : Int} {x50009 : List M102} {x50017 : Int} {x50018 : Int} {x50019 : List M92} {x50025 : Bool} {x50028 : Int} {b50006 : Nat} {p50010 : Option Addr} {c50011 : Nat} {d50013 : Ch} {p50020 : Option Addr} {c50021 : Nat} {r : Bool × Bool × Int × Int}, catenarylaw06_same_round x50001 x50002 x50007 x50008 x50009 x50017 x50018 x50019 x50025 x50028 = some r → ∀ {g w : World} {F : Ch} {ih : IH}, (OSl e102 ih p50010 c50011 x50009 d50013) → (RSl e92 ih [] p50020 c50021 x50019) → St g w [bx b50004 [.pointer (some ⟨b50006, 0, none⟩)] 37, bx b50006 [.int .i64 x50007, .int .i64 x50008, .slice p50010 x50009.length c50011] 88, d50013, bx b50016 [.int .i64 x50017, .int .i64 x50018, .slice p50020 x50019.length c50021] 41, bx b50024 [.bool x50025] 4, bx b50027 [.int .i64 x50028] 3, lpo n50030 q50031 [.ret] 0, F] ih →
    RoundR Try.prog n50030 q50031 #[.int .i64 x50001, .int .i64 x50002] w fun v w' => v = .bool r.1 ∧ St g w' [bx b50004 [.pointer (some ⟨b50006, 0, none⟩)] 37, bx b50006 [.int .i64 x50007, .int .i64 x50008, .slice p50010 x50009.length c50011] 88, d50013, bx b50016 [.int .i64 x50017, .int .i64 x50018, .slice p50020 x50019.length c50021] 41, bx b50024 [.bool r.2.1] 4, bx b50027 [.int .i64 r.2.2.1] 3, lpo n50030 q50031 [.ret] r.2.2.2, F] ih
def bag_Bag_int_All_1_2_r3 (x242 : Bool) (x243 : Int) (x244 : Int) : Option (Bool × Int × Int) :=
  some (x242, x243, x244)
def bag_Bag_int_All_1_2_l4 (y161 : List M102) (x5 : Int) (x6 : Int) (x7 : List M102) (x15 : Int) (x16 : Int) (x17 : List M92) : Nat → Int → Bool → Int → Int → Option (Sum (Bool × Int × Int) (Bool × Int × Int))
  | 0, _, _, _, _ => none
  | j + 1, x216, x217, x218, x219 =>
    if (decide (x216 < (y161.length : Int))) = true then (
      (ix y161 x216).bind fun x257 =>
      if (x219 != 0) = true then none
      else (catenarylaw06_same_round x257.f0 x257.f1 x5 x6 x7 x15 x16 x17 x217 x218).bind fun y268 =>
      if (!y268.1) = true then some (.inl (y268.2.1, y268.2.2.1, y268.2.2.2))
      else bag_Bag_int_All_1_2_l4 y161 x5 x6 x7 x15 x16 x17 j (IntKind.i64.wrap (x216 + 1)) y268.2.1 y268.2.2.1 y268.2.2.2)
    else some (.inr (x217, x218, x219))
def bag_Bag_int_All_1_2 (k : Nat) (x5 : Int) (x6 : Int) (x7 : List M102) (x15 : Int) (x16 : Int) (x17 : List M92) (x23 : Bool) (x26 : Int) (x30 : Int) : Option (Bool × Int × Int) :=
  (slices_Clone_bag_item_int_bag_item_int x7).bind fun y161 =>
  (bag_Bag_int_All_1_2_l4 y161 x5 x6 x7 x15 x16 x17 k 0 x23 x26 x30 : Option (Sum (Bool × Int × Int) (Bool × Int × Int))).bind fun
    | .inl z => some z
    | .inr s271 => bag_Bag_int_All_1_2_r3 s271.1 s271.2.1 s271.2.2
theorem bag_Bag_int_All_1_2_s {k : Nat} {x5 : Int} {x6 : Int} {x7 : List M102} {x15 : Int} {x16 : Int} {x17 : List M92} {x23 : Bool} {x26 : Int} {x30 : Int} {b2 : Nat} {b4 : Nat} {p8 : Option Addr} {c9 : Nat} {d11 : Ch} {b14 : Nat} {p18 : Option Addr} {c19 : Nat} {b22 : Nat} {b25 : Nat} {n28 : Nat} {q29 : Lp} {b33 : Nat} {r : Bool × Int × Int} (hk : bag_Bag_int_All_1_2 k x5 x6 x7 x15 x16 x17 x23 x26 x30 = some r) {g w : World} {F : Ch} {ih : IH} (h10 : OSl e102 ih p8 c9 x7 d11) (h20 : RSl e92 ih [] p18 c19 x17) (h31 : catenarylaw06_same_round_C n28 q29 b2 b14 b22 b25) (hw : St g w [bx b2 [.pointer (some ⟨b4, 0, none⟩)] 37, bx b4 [.int .i64 x5, .int .i64 x6, .slice p8 x7.length c9] 88, d11, bx b14 [.int .i64 x15, .int .i64 x16, .slice p18 x17.length c19] 41, bx b22 [.bool x23] 4, bx b25 [.int .i64 x26] 3, lpo n28 q29 [.ret] x30, bx b33 [.pointer (some ⟨b4, 0, none⟩)] 37, F] ih) :
    CallsR Try.prog 65 #[.func (.yield n28) #[] #[], .pointer (some ⟨b33, 0, none⟩)] w fun v w' => v = .tuple #[] ∧ St g w' [bx b2 [.pointer (some ⟨b4, 0, none⟩)] 37, bx b4 [.int .i64 x5, .int .i64 x6, .slice p8 x7.length c9] 88, d11, bx b14 [.int .i64 x15, .int .i64 x16, .slice p18 x17.length c19] 41, bx b22 [.bool r.1] 4, bx b25 [.int .i64 r.2.1] 3, lpo n28 q29 [.ret] r.2.2, bx b33 [.pointer (some ⟨b4, 0, none⟩)] 37, F] ih := by
  refine f_in (vs := [.func (.yield n28) #[] #[], .pointer (some ⟨b33, 0, none⟩)]) Try.func65 rfl 25 rfl (by kernel_rfl) [(0, .func (.yield n28) #[] #[]), (1, .pointer (some ⟨b33, 0, none⟩))] (by kernel_rfl) fun a Qf hQ hQn hs => ?_
  refine c_seq ?_
  refine c_seq ?_
  refine c_region ?_
  refine s_load hs (hw.at_ 7 rfl) 0 (by kernel_rfl) (by kernel_rfl) (v := .pointer (some ⟨b4, 0, none⟩)) (by kernel_rfl) fun a hs => ?_
  refine pures hs 1 [0, 1, 6] [(0, .func (.yield n28) #[] #[]), (1, .pointer (some ⟨b33, 0, none⟩)), (6, .bool false)] (by kernel_rfl) fun a hs => ?_
  refine s_end ?_
  refine c_condF hs (by kernel_rfl) (by kernel_rfl) ?_
  refine c_skip ?_
  refine c_seq ?_
  refine c_region ?_
  refine s_load hs (hw.at_ 7 rfl) 0 (by kernel_rfl) (by kernel_rfl) (v := .pointer (some ⟨b4, 0, none⟩)) (by kernel_rfl) fun a hs => ?_
  refine pures hs 2 [0, 9] [(0, .func (.yield n28) #[] #[]), (9, .pointer (some ⟨b4, 2, none⟩))] (by kernel_rfl) fun a hs => ?_
  refine s_load hs (hw.at_ 1 rfl) 2 (by kernel_rfl) (by kernel_rfl) (v := .slice p8 x7.length c9) (by kernel_rfl) fun a hs => ?_
  obtain ⟨y161, h162, hk⟩ := bindE hk
  refine s_call hs (by kernel_rfl) (by kernel_rfl) (slices_Clone_bag_item_int_bag_item_int_s h162 h10.read (memF 2 rfl) ((hw.pick [0, 1, 2, 3, 4, 5, 6, 7, 8] (by kernel_rfl)).pack 0)) fun a w v hv hs => ?_
  obtain ⟨p163, c164, d166, rfl, hw, h165⟩ := hv
  replace hw := hw.unpack 1 rfl
  refine pures hs 2 [0, 11, 12, 13] [(0, .func (.yield n28) #[] #[]), (11, .slice p163 y161.length c164), (12, .int .i64 (y161.length : Int)), (13, .int .i64 0)] (by kernel_rfl) fun a hs => ?_
  refine s_end ?_
  refine c_block ?_
  obtain ⟨y245, hx246, hk⟩ := bindE hk
  obtain ⟨J247, hJ247⟩ : ∃ J : Act → World → Prop, ∀ a w, J a w ↔ (∃ (x242 : Bool) (x243 : Int) (x244 : Int), bag_Bag_int_All_1_2_r3 x242 x243 x244 = some r ∧ Sees a 25 [] ∧ St g w [bx b2 [.pointer (some ⟨b4, 0, none⟩)] 37, bx b4 [.int .i64 x5, .int .i64 x6, .slice p8 x7.length c9] 88, bx b14 [.int .i64 x15, .int .i64 x16, .slice p18 x17.length c19] 41, bx b22 [.bool x242] 4, bx b25 [.int .i64 x243] 3, lpo n28 q29 [.ret] x244, bx b33 [.pointer (some ⟨b4, 0, none⟩)] 37, d11, F] ih) := ⟨_, fun _ _ => Iff.rfl⟩
  obtain ⟨I248, hI248⟩ : ∃ J : Nat → Act → World → Prop, ∀ j a w, J j a w ↔ (∃ (x216 : Int) (x217 : Bool) (x218 : Int) (x219 : Int), bag_Bag_int_All_1_2_l4 y161 x5 x6 x7 x15 x16 x17 j x216 x217 x218 x219 = some y245 ∧ Sees a 25 [(0, .func (.yield n28) #[] #[]), (11, .slice p163 y161.length c164), (12, .int .i64 (y161.length : Int)), (13, .int .i64 x216)] ∧ St g w [bx b2 [.pointer (some ⟨b4, 0, none⟩)] 37, bx b4 [.int .i64 x5, .int .i64 x6, .slice p8 x7.length c9] 88, bx b14 [.int .i64 x15, .int .i64 x16, .slice p18 x17.length c19] 41, bx b22 [.bool x217] 4, bx b25 [.int .i64 x218] 3, lpo n28 q29 [.ret] x219, bx b33 [.pointer (some ⟨b4, 0, none⟩)] 37, d166, d11, F] ih) := ⟨_, fun _ _ _ => Iff.rfl⟩
  refine c_exitJ 0 J247 ?_ ?_
  · refine c_loop I248 k ((hI248 _ _ _).2 ⟨0, x23, x26, x30, hx246, hs.cast [0, 11, 12, 13] (by kernel_rfl), hw.pick [1, 2, 4, 5, 6, 7, 8, 0, 3, 9] (by kernel_rfl)⟩) (fun a w h0 => ?_) fun j a w hh => ?_
    · obtain ⟨_, _, _, _, h, _⟩ := (hI248 _ _ _).1 h0
      cases h
    · obtain ⟨x216, x217, x218, x219, hx246, hs, hw⟩ := (hI248 _ _ _).1 hh
      refine c_seq ?_
      refine c_region ?_
      refine pures hs 1 [0, 11, 12, 13, 14] [(0, .func (.yield n28) #[] #[]), (11, .slice p163 y161.length c164), (12, .int .i64 (y161.length : Int)), (13, .int .i64 x216), (14, .bool (decide (x216 < (y161.length : Int))))] (by kernel_rfl) fun a hs => ?_
      refine s_end ?_
      refine c_seq ?_
      rcases ifbE hx246 with ⟨h249, hx246⟩ | ⟨h249, hx246⟩
      · refine c_cond1 hs (by kernel_rfl) (t := (decide (x216 < (y161.length : Int)))) (by kernel_rfl) h249 ?_
        refine c_skip ?_
        refine c_seq ?_
        refine c_block ?_
        refine c_seq ?_
        refine c_region ?_
        obtain ⟨x257, h258, hx246⟩ := bindE hx246
        refine s_indexO hs h165 (by kernel_rfl) (by kernel_rfl) (k := .i64) (by kernel_rfl) 102 (by kernel_rfl) (by kernel_rfl) h258 fun a r259 cs henc at260 h261 hs => ?_
        obtain rfl := henc
        refine s_load hs (at260 _ ((hw.vw 7 rfl).anti (Le.refl _))) 0 (by kernel_rfl) (by kernel_rfl) (v := .agg #[.int .i64 x257.f0, .int .i64 x257.f1]) (by kernel_rfl) fun a hs => ?_
        refine s_new hs hw [.int .i64 0, .int .i64 0] 102 (fun b => .pointer (some ⟨b, 0, none⟩)) (by kernel_rfl) (fun _ => by kernel_rfl) fun a w b262 hs hw => ?_
        refine s_store hs hw 0 rfl 0 (by kernel_rfl) (by kernel_rfl) (v := .agg #[.int .i64 x257.f0, .int .i64 x257.f1]) (by kernel_rfl) (by kernel_rfl) (by kernel_rfl) (by kernel_rfl) fun a w hs hw => ?_
        refine s_end ?_
        refine c_seq ?_
        refine c_region ?_
        refine pures hs 2 [0, 11, 12, 13, 4, 17, 18] [(0, .func (.yield n28) #[] #[]), (11, .slice p163 y161.length c164), (12, .int .i64 (y161.length : Int)), (13, .int .i64 x216), (4, .pointer (some ⟨b262, 0, none⟩)), (17, .func (.yield n28) #[] #[]), (18, .pointer (some ⟨b262, 0, none⟩))] (by kernel_rfl) fun a hs => ?_
        refine s_load hs (hw.at_ 0 rfl) 0 (by kernel_rfl) (by kernel_rfl) (v := .int .i64 x257.f0) (by kernel_rfl) fun a hs => ?_
        refine pures hs 1 [0, 11, 12, 13, 17, 19, 20] [(0, .func (.yield n28) #[] #[]), (11, .slice p163 y161.length c164), (12, .int .i64 (y161.length : Int)), (13, .int .i64 x216), (17, .func (.yield n28) #[] #[]), (19, .int .i64 x257.f0), (20, .pointer (some ⟨b262, 1, none⟩))] (by kernel_rfl) fun a hs => ?_
        refine s_load hs (hw.at_ 0 rfl) 1 (by kernel_rfl) (by kernel_rfl) (v := .int .i64 x257.f1) (by kernel_rfl) fun a hs => ?_
        rcases ifbE hx246 with ⟨h267, hx246⟩ | ⟨h267, hx246⟩
        · cases hx246
        · rw [show x219 = 0 by simpa using h267] at hw
          obtain ⟨y268, h269, hx246⟩ := bindE hx246
          refine s_round hs (by kernel_rfl) (by kernel_rfl) hw 6 rfl (args := #[.int .i64 x257.f0, .int .i64 x257.f1]) (by kernel_rfl) (h31 h269 h10 h20 ((hw.pick [1, 2, 9, 3, 4, 5, 6, 7, 8, 10] (by kernel_rfl)).pack 7)) fun a w v hv hs => ?_
          obtain ⟨rfl, hw⟩ := hv
          replace hw := hw.unpack 7 rfl
          refine pures hs 1 [0, 11, 12, 13, 23] [(0, .func (.yield n28) #[] #[]), (11, .slice p163 y161.length c164), (12, .int .i64 (y161.length : Int)), (13, .int .i64 x216), (23, .bool (!y268.1))] (by kernel_rfl) fun a hs => ?_
          refine s_end ?_
          rcases ifbE hx246 with ⟨h270, hx246⟩ | ⟨h270, hx246⟩
          · refine c_cond1 hs (by kernel_rfl) (t := (!y268.1)) (by kernel_rfl) h270 ?_
            refine c_ret ?_
            obtain rfl := someE hx246
            obtain rfl := someE hk
            refine hQ _ _ (f_retN hs [] rfl [] (by kernel_rfl) (by kernel_rfl) ⟨rfl, hw.pick [0, 1, 2, 3, 4, 5, 6, 7, 9] (by kernel_rfl)⟩)
          · refine c_cond0 hs (by kernel_rfl) (t := (!y268.1)) (by kernel_rfl) h270 ?_
            refine c_skip ?_
            refine c_region ?_
            refine pures hs 2 [0, 11, 12, 13] [(0, .func (.yield n28) #[] #[]), (11, .slice p163 y161.length c164), (12, .int .i64 (y161.length : Int)), (13, .int .i64 (IntKind.i64.wrap (x216 + 1)))] (by kernel_rfl) fun a hs => ?_
            refine s_end ?_
            exact (hI248 _ _ _).2 ⟨(IntKind.i64.wrap (x216 + 1)), y268.2.1, y268.2.2.1, y268.2.2.2, hx246, hs.cast [0, 11, 12, 13] (by kernel_rfl), hw.pick [0, 1, 3, 4, 5, 6, 7, 8, 2, 9] (by kernel_rfl)⟩
      · refine c_cond0 hs (by kernel_rfl) (t := (decide (x216 < (y161.length : Int)))) (by kernel_rfl) h249 ?_
        refine c_exit ?_
        obtain rfl := someE hx246
        exact (hJ247 _ _).2 ⟨x217, x218, x219, hk, hs.cast [] (by kernel_rfl), hw.pick [0, 1, 2, 3, 4, 5, 6, 8, 9] (by kernel_rfl)⟩
  · intro a w hh
    obtain ⟨x242, x243, x244, hk, hs, hw⟩ := (hJ247 _ _).1 hh
    obtain rfl := someE hk
    refine hQn _ _ (f_retN hs [] rfl [] (by kernel_rfl) (by kernel_rfl) ⟨rfl, hw.pick [0, 1, 7, 2, 3, 4, 5, 6, 8] (by kernel_rfl)⟩)
def catenarylaw06_same_r2 (k : Nat) (x3 : Int) (x4 : Int) (x5 : List M102) (x11 : M41) (x108 : Bool) : Option Bool :=
  if x108 = true then some false
  else (bag_Bag_int_All_1_2 k x3 x4 x5 x11.f0 x11.f1 x11.f2 false 0 0).bind fun y119 =>
  if (y119.2.2 == 0) = true then some (y119.2.1 == (x11.f2.length : Int))
  else if (y119.2.2 == 1) = true then some y119.1
  else none
def catenarylaw06_same (k : Nat) (x3 : Int) (x4 : Int) (x5 : List M102) (x11 : M41) : Option Bool :=
  (bag_Bag_int_All x3 x4 x5).bind fun _ =>
  ((bag_Bag_int_Len x3 x4 x5).bind fun y126 =>
    if (y126 != (x11.f2.length : Int)) = true then some true
    else (bag_Bag_int_Last x3 x4 x5).bind fun y129 =>
    if (y129 != x11.f1) = true then some true
    else some false : Option Bool).bind fun s132 => catenarylaw06_same_r2 k x3 x4 x5 x11 s132
theorem catenarylaw06_same_s {k : Nat} {x3 : Int} {x4 : Int} {x5 : List M102} {x11 : M41} {b2 : Nat} {p6 : Option Addr} {c7 : Nat} {d9 : Ch} {p12 : Option Addr} {c13 : Nat} {r : Bool} (hk : catenarylaw06_same k x3 x4 x5 x11 = some r) {g w : World} {F : Ch} {ih : IH} (h8 : OSl e102 ih p6 c7 x5 d9) (h14 : RSl e92 ih [] p12 c13 x11.f2) (hw : St g w [bx b2 [.int .i64 x3, .int .i64 x4, .slice p6 x5.length c7] 88, d9, F] ih) :
    CallsR Try.prog 19 #[.pointer (some ⟨b2, 0, none⟩), .agg #[.int .i64 x11.f0, .int .i64 x11.f1, .slice p12 x11.f2.length c13]] w fun v w' => v = .bool r ∧ St g w' [bx b2 [.int .i64 x3, .int .i64 x4, .slice p6 x5.length c7] 88, d9, F] ih := by
  refine f_inM (vs := [.pointer (some ⟨b2, 0, none⟩), .agg #[.int .i64 x11.f0, .int .i64 x11.f1, .slice p12 x11.f2.length c13]]) Try.func19 rfl 70 rfl (by kernel_rfl) [(0, .pointer (some ⟨b2, 0, none⟩)), (1, .agg #[.int .i64 x11.f0, .int .i64 x11.f1, .slice p12 x11.f2.length c13])] (by kernel_rfl) fun a Qf hQ hQn hs => ?_
  refine c_seq ?_
  refine c_region ?_
  refine s_new hs hw [.pointer (some ⟨b2, 0, none⟩)] 37 (fun b => .pointer (some ⟨b, 0, none⟩)) (by kernel_rfl) (fun _ => by kernel_rfl) fun a w b81 hs hw => ?_
  refine s_new hs hw [.int .i64 x11.f0, .int .i64 x11.f1, .slice p12 x11.f2.length c13] 41 (fun b => .pointer (some ⟨b, 0, none⟩)) (by kernel_rfl) (fun _ => by kernel_rfl) fun a w b83 hs hw => ?_
  refine s_new hs hw [.bool false] 4 (fun b => .pointer (some ⟨b, 0, none⟩)) (by kernel_rfl) (fun _ => by kernel_rfl) fun a w b85 hs hw => ?_
  refine s_end ?_
  refine c_seq ?_
  refine c_region ?_
  refine s_load hs (hw.at_ 2 rfl) 0 (by kernel_rfl) (by kernel_rfl) (v := .pointer (some ⟨b2, 0, none⟩)) (by kernel_rfl) fun a hs => ?_
  obtain ⟨y91, h92, hk⟩ := bindE hk
  refine s_call hs (by kernel_rfl) (by kernel_rfl) (bag_Bag_int_All_s h92 h8 ((hw.pick [3, 4, 0, 1, 2, 5] (by kernel_rfl)).pack 2)) fun a w v hv hs => ?_
  obtain ⟨b93, rfl, hw⟩ := hv
  replace hw := hw.unpack 3 rfl
  refine pures hs 1 [2, 3, 4, 5] [(2, .pointer (some ⟨b81, 0, none⟩)), (3, .pointer (some ⟨b83, 0, none⟩)), (4, .pointer (some ⟨b85, 0, none⟩)), (5, .func (.func 65) #[] #[.pointer (some ⟨b93, 0, none⟩)])] (by kernel_rfl) fun a hs => ?_
  refine s_end ?_
  refine c_seq ?_
  refine c_seq ?_
  obtain ⟨S95, hS95, kS95⟩ := mkSX (X := [([], bx b93 [.pointer (some ⟨b2, 0, none⟩)] 37), ([], bx b2 [.int .i64 x3, .int .i64 x4, .slice p6 x5.length c7] 88), ([], d9), ([], bx b85 [.bool false] 4), ([], bx b83 [.int .i64 x11.f0, .int .i64 x11.f1, .slice p12 x11.f2.length c13] 41), ([], bx b81 [.pointer (some ⟨b2, 0, none⟩)] 37), ([], F)]) (ih := ih) (K := []) rfl
  obtain ⟨y123, hx124, hk⟩ := bindE hk
  obtain ⟨J125, hJ125⟩ : ∃ J : Act → World → Prop, ∀ a w, J a w ↔ (∃ (x108 : Bool), catenarylaw06_same_r2 k x3 x4 x5 x11 x108 = some r ∧ Sees a 70 [(2, .pointer (some ⟨b81, 0, none⟩)), (3, .pointer (some ⟨b83, 0, none⟩)), (4, .pointer (some ⟨b85, 0, none⟩)), (5, .func (.func 65) #[] #[.pointer (some ⟨b93, 0, none⟩)]), (27, .bool x108)] ∧ St g w [bx b93 [.pointer (some ⟨b2, 0, none⟩)] 37, bx b2 [.int .i64 x3, .int .i64 x4, .slice p6 x5.length c7] 88, bx b85 [.bool false] 4, bx b83 [.int .i64 x11.f0, .int .i64 x11.f1, .slice p12 x11.f2.length c13] 41, bx b81 [.pointer (some ⟨b2, 0, none⟩)] 37, d9, F] ih) := ⟨_, fun _ _ => Iff.rfl⟩
  refine c_draw (by kernel_rfl) (N := 17) rfl S95 J125 ?_ ?_
  · have hw := hw.drew
    have hS : S95 (Array.replicate 17 false) _ := SX_now hS95 (hw.vws [0, 1, 2, 3, 4, 5, 6]) (by kernel_rfl)
    refine d_load (fuel := 16) kS95 hs hS 0 rfl (by kernel_rfl) (SX_box hS95 5 rfl (by kernel_rfl)) 0 (by kernel_rfl) (by kernel_rfl) (v := .pointer (some ⟨b2, 0, none⟩)) (by kernel_rfl) fun a hs hS => ?_
    refine d_pures (fuel := 15) kS95 hs hS [2] [2, 3, 4, 5, 11, 13] [(2, .pointer (some ⟨b81, 0, none⟩)), (3, .pointer (some ⟨b83, 0, none⟩)), (4, .pointer (some ⟨b85, 0, none⟩)), (5, .func (.func 65) #[] #[.pointer (some ⟨b93, 0, none⟩)]), (11, .pointer (some ⟨b2, 0, none⟩)), (13, .pointer (some ⟨b83, 2, none⟩))] (by kernel_rfl) fun a hs hS => ?_
    refine d_load (fuel := 14) kS95 hs hS 3 rfl (by kernel_rfl) (SX_box hS95 4 rfl (by kernel_rfl)) 2 (by kernel_rfl) (by kernel_rfl) (v := .slice p12 x11.f2.length c13) (by kernel_rfl) fun a hs hS => ?_
    refine d_pures (fuel := 13) kS95 hs hS [4] [2, 3, 4, 5, 11, 13, 14, 15] [(2, .pointer (some ⟨b81, 0, none⟩)), (3, .pointer (some ⟨b83, 0, none⟩)), (4, .pointer (some ⟨b85, 0, none⟩)), (5, .func (.func 65) #[] #[.pointer (some ⟨b93, 0, none⟩)]), (11, .pointer (some ⟨b2, 0, none⟩)), (13, .pointer (some ⟨b83, 2, none⟩)), (14, .slice p12 x11.f2.length c13), (15, .int .i64 (x11.f2.length : Int))] (by kernel_rfl) fun a hs hS => ?_
    refine d_all (fuel := 12) (rs := [1]) (by kernel_rfl) (by simp) (all1 ?_)
    obtain ⟨y126, h127, hx124⟩ := bindE hx124
    refine o_call hs rfl (by kernel_rfl) (by kernel_rfl) (bag_Bag_int_Len_s h127 h8 ((hw.pick [1, 2, 0, 3, 4, 5, 6] (by kernel_rfl)).pack 2)) fun a w v hv hs => ?_
    obtain ⟨rfl, hw⟩ := hv
    replace hw := hw.unpack 2 rfl
    refine dg_next (SX_now hS95 ((hw.vws [2, 0, 1, 3, 4, 5, 6]).anti (Le.refl _)) (by kernel_rfl)) fun hS => ?_
    refine d_pures (fuel := 10) kS95 hs hS [5, 6] [2, 3, 4, 5, 11, 13, 14, 15, 12, 16, 17] [(2, .pointer (some ⟨b81, 0, none⟩)), (3, .pointer (some ⟨b83, 0, none⟩)), (4, .pointer (some ⟨b85, 0, none⟩)), (5, .func (.func 65) #[] #[.pointer (some ⟨b93, 0, none⟩)]), (11, .pointer (some ⟨b2, 0, none⟩)), (13, .pointer (some ⟨b83, 2, none⟩)), (14, .slice p12 x11.f2.length c13), (15, .int .i64 (x11.f2.length : Int)), (12, .int .i64 y126), (16, .bool (y126 != (x11.f2.length : Int))), (17, .bool (y126 != (x11.f2.length : Int)))] (by kernel_rfl) fun a hs hS => ?_
    rcases ifbE hx124 with ⟨h128, hx124⟩ | ⟨h128, hx124⟩
    · replace hs := hs.altB 17 true (by kernel_rfl) h128
      refine d_pures (fuel := 0) kS95 hs hS [7, 8, 9, 10, 11, 12, 13, 14, 15, 16] [2, 3, 4, 5, 11, 13, 14, 15, 12, 16, 17, 18, 19, 20, 21, 22, 23, 24, 25, 26, 27] [(2, .pointer (some ⟨b81, 0, none⟩)), (3, .pointer (some ⟨b83, 0, none⟩)), (4, .pointer (some ⟨b85, 0, none⟩)), (5, .func (.func 65) #[] #[.pointer (some ⟨b93, 0, none⟩)]), (11, .pointer (some ⟨b2, 0, none⟩)), (13, .pointer (some ⟨b83, 2, none⟩)), (14, .slice p12 x11.f2.length c13), (15, .int .i64 (x11.f2.length : Int)), (12, .int .i64 y126), (16, .bool (y126 != (x11.f2.length : Int))), (17, .bool true), (18, undef), (19, undef), (20, undef), (21, undef), (22, undef), (23, .bool true), (24, .bool true), (25, undef), (26, undef), (27, .bool true)] (by kernel_rfl) fun a hs hS => ?_
      refine d_done (by kernel_rfl) ?_
      obtain rfl := someE hx124
      exact (hJ125 _ _).2 ⟨true, hk, hs.cast [2, 3, 4, 5, 27] (by kernel_rfl), hw.pick [2, 0, 3, 4, 5, 1, 6] (by kernel_rfl)⟩
    · replace hs := hs.altB 17 false (by kernel_rfl) h128
      refine d_load (fuel := 9) kS95 hs hS 7 rfl (by kernel_rfl) (SX_box hS95 5 rfl (by kernel_rfl)) 0 (by kernel_rfl) (by kernel_rfl) (v := .pointer (some ⟨b2, 0, none⟩)) (by kernel_rfl) fun a hs hS => ?_
      refine d_pures (fuel := 8) kS95 hs hS [9] [2, 3, 4, 5, 11, 13, 14, 15, 12, 16, 17, 18, 20] [(2, .pointer (some ⟨b81, 0, none⟩)), (3, .pointer (some ⟨b83, 0, none⟩)), (4, .pointer (some ⟨b85, 0, none⟩)), (5, .func (.func 65) #[] #[.pointer (some ⟨b93, 0, none⟩)]), (11, .pointer (some ⟨b2, 0, none⟩)), (13, .pointer (some ⟨b83, 2, none⟩)), (14, .slice p12 x11.f2.length c13), (15, .int .i64 (x11.f2.length : Int)), (12, .int .i64 y126), (16, .bool (y126 != (x11.f2.length : Int))), (17, .bool false), (18, .pointer (some ⟨b2, 0, none⟩)), (20, .pointer (some ⟨b83, 1, none⟩))] (by kernel_rfl) fun a hs hS => ?_
      refine d_load (fuel := 7) kS95 hs hS 10 rfl (by kernel_rfl) (SX_box hS95 4 rfl (by kernel_rfl)) 1 (by kernel_rfl) (by kernel_rfl) (v := .int .i64 x11.f1) (by kernel_rfl) fun a hs hS => ?_
      refine d_all (fuel := 6) (rs := [8]) (by kernel_rfl) (by simp) (all1 ?_)
      obtain ⟨y129, h130, hx124⟩ := bindE hx124
      refine o_call hs rfl (by kernel_rfl) (by kernel_rfl) (bag_Bag_int_Last_s h130 h8 ((hw.pick [0, 1, 2, 3, 4, 5, 6] (by kernel_rfl)).pack 2)) fun a w v hv hs => ?_
      obtain ⟨rfl, hw⟩ := hv
      replace hw := hw.unpack 2 rfl
      refine dg_next (SX_now hS95 ((hw.vws [2, 0, 1, 3, 4, 5, 6]).anti (Le.refl _)) (by kernel_rfl)) fun hS => ?_
      refine d_pures (fuel := 3) kS95 hs hS [11, 12, 13] [2, 3, 4, 5, 11, 13, 14, 15, 12, 16, 17, 18, 20, 21, 19, 22, 23, 24] [(2, .pointer (some ⟨b81, 0, none⟩)), (3, .pointer (some ⟨b83, 0, none⟩)), (4, .pointer (some ⟨b85, 0, none⟩)), (5, .func (.func 65) #[] #[.pointer (some ⟨b93, 0, none⟩)]), (11, .pointer (some ⟨b2, 0, none⟩)), (13, .pointer (some ⟨b83, 2, none⟩)), (14, .slice p12 x11.f2.length c13), (15, .int .i64 (x11.f2.length : Int)), (12, .int .i64 y126), (16, .bool (y126 != (x11.f2.length : Int))), (17, .bool false), (18, .pointer (some ⟨b2, 0, none⟩)), (20, .pointer (some ⟨b83, 1, none⟩)), (21, .int .i64 x11.f1), (19, .int .i64 y129), (22, .bool (y129 != x11.f1)), (23, .bool (y129 != x11.f1)), (24, .bool (y129 != x11.f1))] (by kernel_rfl) fun a hs hS => ?_
      rcases ifbE hx124 with ⟨h131, hx124⟩ | ⟨h131, hx124⟩
      · replace hs := hs.altB 24 true (by kernel_rfl) h131
        refine d_pures (fuel := 0) kS95 hs hS [14, 15, 16] [2, 3, 4, 5, 11, 13, 14, 15, 12, 16, 17, 18, 20, 21, 19, 22, 23, 24, 25, 26, 27] [(2, .pointer (some ⟨b81, 0, none⟩)), (3, .pointer (some ⟨b83, 0, none⟩)), (4, .pointer (some ⟨b85, 0, none⟩)), (5, .func (.func 65) #[] #[.pointer (some ⟨b93, 0, none⟩)]), (11, .pointer (some ⟨b2, 0, none⟩)), (13, .pointer (some ⟨b83, 2, none⟩)), (14, .slice p12 x11.f2.length c13), (15, .int .i64 (x11.f2.length : Int)), (12, .int .i64 y126), (16, .bool (y126 != (x11.f2.length : Int))), (17, .bool false), (18, .pointer (some ⟨b2, 0, none⟩)), (20, .pointer (some ⟨b83, 1, none⟩)), (21, .int .i64 x11.f1), (19, .int .i64 y129), (22, .bool (y129 != x11.f1)), (23, .bool (y129 != x11.f1)), (24, .bool true), (25, undef), (26, undef), (27, .bool true)] (by kernel_rfl) fun a hs hS => ?_
        refine d_done (by kernel_rfl) ?_
        obtain rfl := someE hx124
        exact (hJ125 _ _).2 ⟨true, hk, hs.cast [2, 3, 4, 5, 27] (by kernel_rfl), hw.pick [2, 0, 3, 4, 5, 1, 6] (by kernel_rfl)⟩
      · replace hs := hs.altB 24 false (by kernel_rfl) h131
        refine d_pures (fuel := 0) kS95 hs hS [14, 15, 16] [2, 3, 4, 5, 11, 13, 14, 15, 12, 16, 17, 18, 20, 21, 19, 22, 23, 24, 25, 26, 27] [(2, .pointer (some ⟨b81, 0, none⟩)), (3, .pointer (some ⟨b83, 0, none⟩)), (4, .pointer (some ⟨b85, 0, none⟩)), (5, .func (.func 65) #[] #[.pointer (some ⟨b93, 0, none⟩)]), (11, .pointer (some ⟨b2, 0, none⟩)), (13, .pointer (some ⟨b83, 2, none⟩)), (14, .slice p12 x11.f2.length c13), (15, .int .i64 (x11.f2.length : Int)), (12, .int .i64 y126), (16, .bool (y126 != (x11.f2.length : Int))), (17, .bool false), (18, .pointer (some ⟨b2, 0, none⟩)), (20, .pointer (some ⟨b83, 1, none⟩)), (21, .int .i64 x11.f1), (19, .int .i64 y129), (22, .bool (y129 != x11.f1)), (23, .bool (y129 != x11.f1)), (24, .bool false), (25, .func (.func 65) #[] #[.pointer (some ⟨b93, 0, none⟩)]), (26, .bool false), (27, .bool false)] (by kernel_rfl) fun a hs hS => ?_
        refine d_done (by kernel_rfl) ?_
        obtain rfl := someE hx124
        exact (hJ125 _ _).2 ⟨false, hk, hs.cast [2, 3, 4, 5, 27] (by kernel_rfl), hw.pick [2, 0, 3, 4, 5, 1, 6] (by kernel_rfl)⟩
  · intro a w hh
    obtain ⟨x108, hk, hs, hw⟩ := (hJ125 _ _).1 hh
    rcases ifbE hk with ⟨h109, hk⟩ | ⟨h109, hk⟩
    · refine c_cond1 hs (by kernel_rfl) (t := x108) (by kernel_rfl) h109 ?_
      refine c_seq ?_
      refine c_region ?_
      refine s_store hs hw 2 rfl 0 (by kernel_rfl) (by kernel_rfl) (v := .bool false) (by kernel_rfl) (by kernel_rfl) (by kernel_rfl) (by kernel_rfl) fun a w hs hw => ?_
      refine s_end ?_
      refine c_ret ?_
      obtain rfl := someE hk
      refine hQ _ _ (f_ret0 hs (f_retC hs rfl (hw.at_ 2 rfl) (by kernel_rfl) (v := .bool false) (by kernel_rfl) ⟨rfl, hw.pick [1, 5, 6] (by kernel_rfl)⟩))
    · refine c_cond0 hs (by kernel_rfl) (t := x108) (by kernel_rfl) h109 ?_
      refine c_skip ?_
      refine c_seq ?_
      refine c_region ?_
      refine s_new hs hw [.int .i64 0] 3 (fun b => .pointer (some ⟨b, 0, none⟩)) (by kernel_rfl) (fun _ => by kernel_rfl) fun a w b112 hs hw => ?_
      refine s_store hs hw 0 rfl 0 (by kernel_rfl) (by kernel_rfl) (v := .int .i64 0) (by kernel_rfl) (by kernel_rfl) (by kernel_rfl) (by kernel_rfl) fun a w hs hw => ?_
      refine s_end ?_
      refine c_seq ?_
      refine c_seq ?_
      refine c_region ?_
      refine pures hs 1 [2, 3, 4, 6, 28] [(2, .pointer (some ⟨b81, 0, none⟩)), (3, .pointer (some ⟨b83, 0, none⟩)), (4, .pointer (some ⟨b85, 0, none⟩)), (6, .pointer (some ⟨b112, 0, none⟩)), (28, .func (.func 65) #[] #[.pointer (some ⟨b93, 0, none⟩)])] (by kernel_rfl) fun a hs => ?_
      refine s_end ?_
      refine c_block ?_
      obtain ⟨y119, h120, hk⟩ := bindE hk
      refine c_range hs (by kernel_rfl) (gf := 65) (cap := #[.pointer (some ⟨b93, 0, none⟩)]) (by kernel_rfl) (fun l => #[.func (.yield l) #[] #[], .pointer (some ⟨b93, 0, none⟩)]) (fun _ => rfl) (fun _ _ => rfl) hw [.ret] ?_
      intro n115 q116 w ht hps hasg hbdy hw
      refine have_then (p := catenarylaw06_same_round_C n115 q116 b81 b83 b85 b112) ?_ fun h118 => ?_
      · intro x50001 x50002 x50007 x50008 x50009 x50017 x50018 x50019 x50025 x50028 b50006 p50010 c50011 d50013 p50020 c50021 r hk g w F ih h50012 h50022 hw
        refine f_round hs ht [29, 30] hps (by kernel_rfl) (by kernel_rfl) [29, 30, 2, 3, 4, 6] (e := [(29, .int .i64 x50001), (30, .int .i64 x50002), (2, .pointer (some ⟨b81, 0, none⟩)), (3, .pointer (some ⟨b83, 0, none⟩)), (4, .pointer (some ⟨b85, 0, none⟩)), (6, .pointer (some ⟨b112, 0, none⟩))]) (by kernel_rfl) hw 6 rfl fun a Qr hQr hs => ?_
        rw [hasg, hbdy]
        refine c_seq ?_
        refine c_region ?_
        refine pures hs 1 [30, 2, 3, 4, 6, 7] [(30, .int .i64 x50002), (2, .pointer (some ⟨b81, 0, none⟩)), (3, .pointer (some ⟨b83, 0, none⟩)), (4, .pointer (some ⟨b85, 0, none⟩)), (6, .pointer (some ⟨b112, 0, none⟩)), (7, .int .i64 x50001)] (by kernel_rfl) fun a hs => ?_
        refine s_end ?_
        refine c_region ?_
        refine pures hs 1 [2, 3, 4, 6, 7, 8] [(2, .pointer (some ⟨b81, 0, none⟩)), (3, .pointer (some ⟨b83, 0, none⟩)), (4, .pointer (some ⟨b85, 0, none⟩)), (6, .pointer (some ⟨b112, 0, none⟩)), (7, .int .i64 x50001), (8, .int .i64 x50002)] (by kernel_rfl) fun a hs => ?_
        refine s_end ?_
        refine begin_round hw 6 rfl fun w hw => ?_
        refine c_block ?_
        refine c_seq ?_
        refine c_seq ?_
        obtain ⟨y50107, hx50108, hk⟩ := bindE hk
        obtain ⟨J50109, hJ50109⟩ : ∃ J : Act → World → Prop, ∀ a w, J a w ↔ (∃ (x50105 : Bool), catenarylaw06_same_round_r2 x50028 x50025 x50105 = some r ∧ Sees a 70 [(4, .pointer (some ⟨b85, 0, none⟩)), (6, .pointer (some ⟨b112, 0, none⟩)), (62, .bool x50105)] ∧ St g w [bx b81 [.pointer (some ⟨b50006, 0, none⟩)] 37, bx b50006 [.int .i64 x50007, .int .i64 x50008, .slice p50010 x50009.length c50011] 88, bx b83 [.int .i64 x50017, .int .i64 x50018, .slice p50020 x50019.length c50021] 41, bx b85 [.bool x50025] 4, bx b112 [.int .i64 x50028] 3, lpb n115 q116, d50013, F] ih) := ⟨_, fun _ _ => Iff.rfl⟩
        refine c_regJ J50109 ?_ ?_
        · refine s_load hs (hw.at_ 5 rfl) 0 (by kernel_rfl) (by kernel_rfl) (v := .int .i64 x50028) (by kernel_rfl) fun a hs => ?_
          refine pures hs 1 [2, 3, 4, 6, 7, 8, 31, 32] [(2, .pointer (some ⟨b81, 0, none⟩)), (3, .pointer (some ⟨b83, 0, none⟩)), (4, .pointer (some ⟨b85, 0, none⟩)), (6, .pointer (some ⟨b112, 0, none⟩)), (7, .int .i64 x50001), (8, .int .i64 x50002), (31, .int .i64 x50028), (32, .pointer (some ⟨b83, 2, none⟩))] (by kernel_rfl) fun a hs => ?_
          refine s_load hs (hw.at_ 3 rfl) 2 (by kernel_rfl) (by kernel_rfl) (v := .slice p50020 x50019.length c50021) (by kernel_rfl) fun a hs => ?_
          refine pures hs 3 [2, 3, 4, 6, 7, 8, 36] [(2, .pointer (some ⟨b81, 0, none⟩)), (3, .pointer (some ⟨b83, 0, none⟩)), (4, .pointer (some ⟨b85, 0, none⟩)), (6, .pointer (some ⟨b112, 0, none⟩)), (7, .int .i64 x50001), (8, .int .i64 x50002), (36, .bool (decide (x50028 ≥ (x50019.length : Int))))] (by kernel_rfl) fun a hs => ?_
          rcases ifbE hx50108 with ⟨h50110, hx50108⟩ | ⟨h50110, hx50108⟩
          · replace hs := hs.altB 36 true (by kernel_rfl) h50110
            refine pures hs 26 [4, 6, 62] [(4, .pointer (some ⟨b85, 0, none⟩)), (6, .pointer (some ⟨b112, 0, none⟩)), (62, .bool true)] (by kernel_rfl) fun a hs => ?_
            refine s_end ?_
            obtain rfl := someE hx50108
            exact (hJ50109 _ _).2 ⟨true, hk, hs.cast [4, 6, 62] (by kernel_rfl), hw.pick [0, 1, 3, 4, 5, 6, 2, 7] (by kernel_rfl)⟩
          · replace hs := hs.altB 36 false (by kernel_rfl) h50110
            refine pures hs 1 [2, 3, 4, 6, 7, 8, 36, 37] [(2, .pointer (some ⟨b81, 0, none⟩)), (3, .pointer (some ⟨b83, 0, none⟩)), (4, .pointer (some ⟨b85, 0, none⟩)), (6, .pointer (some ⟨b112, 0, none⟩)), (7, .int .i64 x50001), (8, .int .i64 x50002), (36, .bool false), (37, .pointer (some ⟨b83, 2, none⟩))] (by kernel_rfl) fun a hs => ?_
            refine s_load hs (hw.at_ 3 rfl) 2 (by kernel_rfl) (by kernel_rfl) (v := .slice p50020 x50019.length c50021) (by kernel_rfl) fun a hs => ?_
            refine s_load hs (hw.at_ 5 rfl) 0 (by kernel_rfl) (by kernel_rfl) (v := .int .i64 x50028) (by kernel_rfl) fun a hs => ?_
            obtain ⟨x50111, h50112, hx50108⟩ := bindE hx50108
            refine s_index hs h50022 (by kernel_rfl) (by kernel_rfl) (k := .i64) (by kernel_rfl) 92 (by kernel_rfl) (by kernel_rfl) h50112 fun a r50113 cs henc at50114 hs => ?_
            obtain rfl := henc
            refine pures hs 1 [2, 3, 4, 6, 7, 8, 36, 41] [(2, .pointer (some ⟨b81, 0, none⟩)), (3, .pointer (some ⟨b83, 0, none⟩)), (4, .pointer (some ⟨b85, 0, none⟩)), (6, .pointer (some ⟨b112, 0, none⟩)), (7, .int .i64 x50001), (8, .int .i64 x50002), (36, .bool false), (41, .pointer (some r50113))] (by kernel_rfl) fun a hs => ?_
            refine s_load hs (at50114 _ (hw.vwAll.nil.anti (Le.refl _))) 0 (by kernel_rfl) (by kernel_rfl) (v := .int .i64 x50111.f0) (by kernel_rfl) fun a hs => ?_
            refine pures hs 4 [2, 3, 4, 6, 7, 8, 46] [(2, .pointer (some ⟨b81, 0, none⟩)), (3, .pointer (some ⟨b83, 0, none⟩)), (4, .pointer (some ⟨b85, 0, none⟩)), (6, .pointer (some ⟨b112, 0, none⟩)), (7, .int .i64 x50001), (8, .int .i64 x50002), (46, .bool (x50111.f0 != x50001))] (by kernel_rfl) fun a hs => ?_
            rcases ifbE hx50108 with ⟨h50115, hx50108⟩ | ⟨h50115, hx50108⟩
            · replace hs := hs.altB 46 true (by kernel_rfl) h50115
              refine pures hs 16 [4, 6, 62] [(4, .pointer (some ⟨b85, 0, none⟩)), (6, .pointer (some ⟨b112, 0, none⟩)), (62, .bool true)] (by kernel_rfl) fun a hs => ?_
              refine s_end ?_
              obtain rfl := someE hx50108
              exact (hJ50109 _ _).2 ⟨true, hk, hs.cast [4, 6, 62] (by kernel_rfl), hw.pick [0, 1, 3, 4, 5, 6, 2, 7] (by kernel_rfl)⟩
            · replace hs := hs.altB 46 false (by kernel_rfl) h50115
              refine pures hs 1 [2, 4, 6, 7, 8, 46, 47] [(2, .pointer (some ⟨b81, 0, none⟩)), (4, .pointer (some ⟨b85, 0, none⟩)), (6, .pointer (some ⟨b112, 0, none⟩)), (7, .int .i64 x50001), (8, .int .i64 x50002), (46, .bool false), (47, .pointer (some ⟨b83, 2, none⟩))] (by kernel_rfl) fun a hs => ?_
              refine s_load hs (hw.at_ 3 rfl) 2 (by kernel_rfl) (by kernel_rfl) (v := .slice p50020 x50019.length c50021) (by kernel_rfl) fun a hs => ?_
              refine s_load hs (hw.at_ 5 rfl) 0 (by kernel_rfl) (by kernel_rfl) (v := .int .i64 x50028) (by kernel_rfl) fun a hs => ?_
              obtain ⟨x50116, h50117, hx50108⟩ := bindE hx50108
              refine s_index hs h50022 (by kernel_rfl) (by kernel_rfl) (k := .i64) (by kernel_rfl) 92 (by kernel_rfl) (by kernel_rfl) h50117 fun a r50118 cs henc at50119 hs => ?_
              obtain rfl := henc
              refine pures hs 1 [2, 4, 6, 7, 8, 46, 51] [(2, .pointer (some ⟨b81, 0, none⟩)), (4, .pointer (some ⟨b85, 0, none⟩)), (6, .pointer (some ⟨b112, 0, none⟩)), (7, .int .i64 x50001), (8, .int .i64 x50002), (46, .bool false), (51, .pointer (some (r50118.add 1)))] (by kernel_rfl) fun a hs => ?_
              refine s_load hs (at50119 _ (hw.vwAll.nil.anti (Le.refl _))) 1 (by kernel_rfl) (by kernel_rfl) (v := .int .i64 x50116.f1) (by kernel_rfl) fun a hs => ?_
              refine pures hs 4 [2, 4, 6, 7, 56] [(2, .pointer (some ⟨b81, 0, none⟩)), (4, .pointer (some ⟨b85, 0, none⟩)), (6, .pointer (some ⟨b112, 0, none⟩)), (7, .int .i64 x50001), (56, .bool (x50116.f1 != x50002))] (by kernel_rfl) fun a hs => ?_
              rcases ifbE hx50108 with ⟨h50120, hx50108⟩ | ⟨h50120, hx50108⟩
              · replace hs := hs.altB 56 true (by kernel_rfl) h50120
                refine pures hs 6 [4, 6, 62] [(4, .pointer (some ⟨b85, 0, none⟩)), (6, .pointer (some ⟨b112, 0, none⟩)), (62, .bool true)] (by kernel_rfl) fun a hs => ?_
                refine s_end ?_
                obtain rfl := someE hx50108
                exact (hJ50109 _ _).2 ⟨true, hk, hs.cast [4, 6, 62] (by kernel_rfl), hw.pick [0, 1, 3, 4, 5, 6, 2, 7] (by kernel_rfl)⟩
              · replace hs := hs.altB 56 false (by kernel_rfl) h50120
                refine s_load hs (hw.at_ 0 rfl) 0 (by kernel_rfl) (by kernel_rfl) (v := .pointer (some ⟨b50006, 0, none⟩)) (by kernel_rfl) fun a hs => ?_
                refine s_load hs (hw.at_ 5 rfl) 0 (by kernel_rfl) (by kernel_rfl) (v := .int .i64 x50028) (by kernel_rfl) fun a hs => ?_
                obtain ⟨y50121, h50122, hx50108⟩ := bindE hx50108
                refine s_call hs (by kernel_rfl) (by kernel_rfl) (bag_Bag_int_No_s h50122 h50012 ((hw.pick [1, 2, 0, 3, 4, 5, 6, 7] (by kernel_rfl)).pack 2)) fun a w v hv hs => ?_
                obtain ⟨rfl, hw⟩ := hv
                replace hw := hw.unpack 2 rfl
                refine pures hs 3 [4, 6, 62] [(4, .pointer (some ⟨b85, 0, none⟩)), (6, .pointer (some ⟨b112, 0, none⟩)), (62, .bool (y50121 != x50001))] (by kernel_rfl) fun a hs => ?_
                refine s_end ?_
                obtain rfl := someE hx50108
                exact (hJ50109 _ _).2 ⟨(y50121 != x50001), hk, hs.cast [4, 6, 62] (by kernel_rfl), hw.pick [2, 0, 3, 4, 5, 6, 1, 7] (by kernel_rfl)⟩
        · intro a w hh
          obtain ⟨x50105, hk, hs, hw⟩ := (hJ50109 _ _).1 hh
          rcases ifbE hk with ⟨h50106, hk⟩ | ⟨h50106, hk⟩
          · refine c_cond1 hs (by kernel_rfl) (t := x50105) (by kernel_rfl) h50106 ?_
            refine c_seq ?_
            refine c_region ?_
            refine s_store hs hw 3 rfl 0 (by kernel_rfl) (by kernel_rfl) (v := .bool false) (by kernel_rfl) (by kernel_rfl) (by kernel_rfl) (by kernel_rfl) fun a w hs hw => ?_
            refine s_end ?_
            refine c_ret ?_
            obtain rfl := someE hk
            exact hQr _ _ _ (end_ret [.ret] 1 (by rfl) (by rfl) hw 5 rfl fun w hw => ⟨rfl, hw.pick [0, 1, 6, 2, 3, 4, 5, 7] (by kernel_rfl)⟩)
          · refine c_cond0 hs (by kernel_rfl) (t := x50105) (by kernel_rfl) h50106 ?_
            refine c_skip ?_
            refine c_region ?_
            refine s_load hs (hw.at_ 4 rfl) 0 (by kernel_rfl) (by kernel_rfl) (v := .int .i64 x50028) (by kernel_rfl) fun a hs => ?_
            refine pures hs 1 [6, 64] [(6, .pointer (some ⟨b112, 0, none⟩)), (64, .int .i64 (IntKind.i64.wrap (x50028 + 1)))] (by kernel_rfl) fun a hs => ?_
            refine s_store hs hw 4 rfl 0 (by kernel_rfl) (by kernel_rfl) (v := .int .i64 (IntKind.i64.wrap (x50028 + 1))) (by kernel_rfl) (by kernel_rfl) (by kernel_rfl) (by kernel_rfl) fun a w hs hw => ?_
            refine s_end ?_
            obtain rfl := someE hk
            exact hQr _ _ _ (end_round [.ret] hw 5 rfl fun w hw => ⟨rfl, hw.pick [0, 1, 6, 2, 3, 4, 5, 7] (by kernel_rfl)⟩)
      · refine CallsR.mono (bag_Bag_int_All_1_2_s h120 h8 h14 h118 ((hw.pick [7, 4, 8, 6, 5, 2, 0, 3, 1, 9] (by kernel_rfl)).pack 8)) fun v w hv => ?_
        obtain ⟨rfl, hw⟩ := hv
        replace hw := hw.unpack 8 rfl
        refine ⟨y119.2.2, [bx b81 [.pointer (some ⟨b2, 0, none⟩)] 37, bx b2 [.int .i64 x3, .int .i64 x4, .slice p6 x5.length c7] 88, d9, bx b83 [.int .i64 x11.f0, .int .i64 x11.f1, .slice p12 x11.f2.length c13] 41, bx b85 [.bool y119.1] 4, bx b112 [.int .i64 y119.2.1] 3, lpo n115 q116 [.ret] y119.2.2, bx b93 [.pointer (some ⟨b2, 0, none⟩)] 37, dfo q116.df, F], ih, 6, hw, rfl, fun a w hs hw => ?_⟩
        replace hw := hw.pick [0, 1, 2, 3, 4, 5, 7, 8, 9] (by kernel_rfl)
        rcases ifbE hk with ⟨h121, hk⟩ | ⟨h121, hk⟩
        · refine range_none h121 ?_
          refine c_seq ?_
          refine c_region ?_
          refine s_load hs (hw.at_ 5 rfl) 0 (by kernel_rfl) (by kernel_rfl) (v := .int .i64 y119.2.1) (by kernel_rfl) fun a hs => ?_
          refine pures hs 1 [4, 65, 66] [(4, .pointer (some ⟨b85, 0, none⟩)), (65, .int .i64 y119.2.1), (66, .pointer (some ⟨b83, 2, none⟩))] (by kernel_rfl) fun a hs => ?_
          refine s_load hs (hw.at_ 3 rfl) 2 (by kernel_rfl) (by kernel_rfl) (v := .slice p12 x11.f2.length c13) (by kernel_rfl) fun a hs => ?_
          refine pures hs 2 [4, 69] [(4, .pointer (some ⟨b85, 0, none⟩)), (69, .bool (y119.2.1 == (x11.f2.length : Int)))] (by kernel_rfl) fun a hs => ?_
          refine s_store hs hw 4 rfl 0 (by kernel_rfl) (by kernel_rfl) (v := .bool (y119.2.1 == (x11.f2.length : Int))) (by kernel_rfl) (by kernel_rfl) (by kernel_rfl) (by kernel_rfl) fun a w hs hw => ?_
          refine s_end ?_
          refine c_ret ?_
          obtain rfl := someE hk
          refine hQ _ _ (f_retM hs hw 7 rfl fun a w hs hw => (f_retC hs rfl (hw.at_ 4 rfl) (by kernel_rfl) (v := .bool (y119.2.1 == (x11.f2.length : Int))) (by kernel_rfl) ⟨rfl, hw.pick [1, 2, 8] (by kernel_rfl)⟩))
        · rcases ifbE hk with ⟨h122, hk⟩ | ⟨h122, hk⟩
          · refine range_some 1 h122 rfl ?_
            refine c_ret ?_
            obtain rfl := someE hk
            refine hQ _ _ (f_retM hs hw 7 rfl fun a w hs hw => (f_retC hs rfl (hw.at_ 4 rfl) (by kernel_rfl) (v := .bool y119.1) (by kernel_rfl) ⟨rfl, hw.pick [1, 2, 8] (by kernel_rfl)⟩))
          · cases hk
def catenarylaw06_awake_r2 (x190 : Bool) : Option Bool :=
  some x190
def catenarylaw06_awake : Option Bool :=
  (bag_New_int 9).bind fun y113 =>
  (bag_Bag_int_Put y113.1 y113.2.1 y113.2.2 7).bind fun y128 =>
  (bag_Bag_int_Put y113.1 y128.2.2.1 y128.2.2.2 8).bind fun y140 =>
  (bag_Bag_int_Put y113.1 y140.2.2.1 y140.2.2.2 9).bind fun y152 =>
  (bag_Bag_int_Take y113.1 y152.2.2.1 y152.2.2.2 1).bind fun y164 =>
  (if (y164.1 == 8) = true then (
      if y164.2.1 = true then (
        (bag_Bag_int_Len y113.1 y152.2.2.1 y164.2.2).bind fun y196 =>
        if (y196 == 2) = true then (
          (bag_Bag_int_No y113.1 y152.2.2.1 y164.2.2 0).bind fun y199 =>
          if (y199 == 1) = true then (
            (bag_Bag_int_No y113.1 y152.2.2.1 y164.2.2 1).bind fun y202 =>
            some (y202 == 3))
          else some false)
        else some false)
      else some false)
    else some false : Option Bool).bind fun s204 => catenarylaw06_awake_r2 s204
theorem catenarylaw06_awake_s {r : Bool} (hk : catenarylaw06_awake = some r) {g w : World} {F : Ch} {ih : IH} (hw : St g w [F] ih) :
    CallsR Try.prog 20 #[] w fun v w' => v = .bool r ∧ St g w' [F] ih := by
  refine f_in (vs := []) Try.func20 rfl 36 rfl (by kernel_rfl) [] (by kernel_rfl) fun a Qf hQ hQn hs => ?_
  refine c_seq ?_
  refine c_region ?_
  refine pures hs 1 [] [] (by kernel_rfl) fun a hs => ?_
  refine s_end ?_
  refine c_seq ?_
  refine c_region ?_
  obtain ⟨y113, h114, hk⟩ := bindE hk
  refine s_call hs (by kernel_rfl) (by kernel_rfl) (bag_New_int_s h114 ((hw.pick [0] (by kernel_rfl)).pack 0)) fun a w v hv hs => ?_
  obtain ⟨b115, p117, c118, d120, rfl, hw, h119⟩ := hv
  replace hw := hw.unpack 2 rfl
  refine pures hs 1 [1] [(1, .pointer (some ⟨b115, 0, none⟩))] (by kernel_rfl) fun a hs => ?_
  refine s_end ?_
  refine c_seq ?_
  refine c_region ?_
  refine pures hs 1 [1, 5] [(1, .pointer (some ⟨b115, 0, none⟩)), (5, .pointer (some ⟨b115, 0, none⟩))] (by kernel_rfl) fun a hs => ?_
  obtain ⟨y128, h129, hk⟩ := bindE hk
  refine s_call hs (by kernel_rfl) (by kernel_rfl) (bag_Bag_int_Put_s h129 h119 ((hw.pick [0, 1, 2] (by kernel_rfl)).pack 2)) fun a w v hv hs => ?_
  obtain ⟨p130, c131, d133, rfl, hw, h132⟩ := hv
  replace hw := hw.unpack 2 rfl
  refine s_end ?_
  refine c_seq ?_
  refine c_region ?_
  refine pures hs 1 [1, 7] [(1, .pointer (some ⟨b115, 0, none⟩)), (7, .pointer (some ⟨b115, 0, none⟩))] (by kernel_rfl) fun a hs => ?_
  obtain ⟨y140, h141, hk⟩ := bindE hk
  refine s_call hs (by kernel_rfl) (by kernel_rfl) (bag_Bag_int_Put_s h141 h132 ((hw.pick [0, 1, 2] (by kernel_rfl)).pack 2)) fun a w v hv hs => ?_
  obtain ⟨p142, c143, d145, rfl, hw, h144⟩ := hv
  replace hw := hw.unpack 2 rfl
  refine s_end ?_
  refine c_seq ?_
  refine c_region ?_
  refine pures hs 1 [1, 9] [(1, .pointer (some ⟨b115, 0, none⟩)), (9, .pointer (some ⟨b115, 0, none⟩))] (by kernel_rfl) fun a hs => ?_
  obtain ⟨y152, h153, hk⟩ := bindE hk
  refine s_call hs (by kernel_rfl) (by kernel_rfl) (bag_Bag_int_Put_s h153 h144 ((hw.pick [0, 1, 2] (by kernel_rfl)).pack 2)) fun a w v hv hs => ?_
  obtain ⟨p154, c155, d157, rfl, hw, h156⟩ := hv
  replace hw := hw.unpack 2 rfl
  refine s_end ?_
  refine c_seq ?_
  refine c_region ?_
  refine pures hs 1 [1, 12] [(1, .pointer (some ⟨b115, 0, none⟩)), (12, .pointer (some ⟨b115, 0, none⟩))] (by kernel_rfl) fun a hs => ?_
  obtain ⟨y164, h165, hk⟩ := bindE hk
  refine s_call hs (by kernel_rfl) (by kernel_rfl) (bag_Bag_int_Take_s h165 h156 ((hw.pick [0, 1, 2] (by kernel_rfl)).pack 2)) fun a w v hv hs => ?_
  obtain ⟨p166, c167, d169, rfl, hw, h168⟩ := hv
  replace hw := hw.unpack 2 rfl
  refine pures hs 5 [1, 2, 3] [(1, .pointer (some ⟨b115, 0, none⟩)), (2, .int .i64 y164.1), (3, .bool y164.2.1)] (by kernel_rfl) fun a hs => ?_
  refine s_end ?_
  refine c_seq ?_
  obtain ⟨y191, hx192, hk⟩ := bindE hk
  obtain ⟨J193, hJ193⟩ : ∃ J : Act → World → Prop, ∀ a w, J a w ↔ (∃ (x190 : Bool), catenarylaw06_awake_r2 x190 = some r ∧ Sees a 36 [(0, .bool x190)] ∧ St g w [F] ih) := ⟨_, fun _ _ => Iff.rfl⟩
  refine c_regJ J193 ?_ ?_
  · refine pures hs 3 [1, 3, 18] [(1, .pointer (some ⟨b115, 0, none⟩)), (3, .bool y164.2.1), (18, .bool (y164.1 == 8))] (by kernel_rfl) fun a hs => ?_
    rcases ifbE hx192 with ⟨h194, hx192⟩ | ⟨h194, hx192⟩
    · replace hs := hs.altB 18 true (by kernel_rfl) h194
      refine pures hs 3 [1, 21] [(1, .pointer (some ⟨b115, 0, none⟩)), (21, .bool y164.2.1)] (by kernel_rfl) fun a hs => ?_
      rcases ifbE hx192 with ⟨h195, hx192⟩ | ⟨h195, hx192⟩
      · replace hs := hs.altB 21 true (by kernel_rfl) h195
        refine pures hs 1 [1, 21, 22] [(1, .pointer (some ⟨b115, 0, none⟩)), (21, .bool true), (22, .pointer (some ⟨b115, 0, none⟩))] (by kernel_rfl) fun a hs => ?_
        obtain ⟨y196, h197, hx192⟩ := bindE hx192
        refine s_call hs (by kernel_rfl) (by kernel_rfl) (bag_Bag_int_Len_s h197 h168 ((hw.pick [0, 1, 2] (by kernel_rfl)).pack 2)) fun a w v hv hs => ?_
        obtain ⟨rfl, hw⟩ := hv
        replace hw := hw.unpack 2 rfl
        refine pures hs 3 [1, 26] [(1, .pointer (some ⟨b115, 0, none⟩)), (26, .bool (y196 == 2))] (by kernel_rfl) fun a hs => ?_
        rcases ifbE hx192 with ⟨h198, hx192⟩ | ⟨h198, hx192⟩
        · replace hs := hs.altB 26 true (by kernel_rfl) h198
          refine pures hs 1 [1, 26, 27] [(1, .pointer (some ⟨b115, 0, none⟩)), (26, .bool true), (27, .pointer (some ⟨b115, 0, none⟩))] (by kernel_rfl) fun a hs => ?_
          obtain ⟨y199, h200, hx192⟩ := bindE hx192
          refine s_call hs (by kernel_rfl) (by kernel_rfl) (bag_Bag_int_No_s h200 h168 ((hw.pick [0, 1, 2] (by kernel_rfl)).pack 2)) fun a w v hv hs => ?_
          obtain ⟨rfl, hw⟩ := hv
          replace hw := hw.unpack 2 rfl
          refine pures hs 3 [1, 31] [(1, .pointer (some ⟨b115, 0, none⟩)), (31, .bool (y199 == 1))] (by kernel_rfl) fun a hs => ?_
          rcases ifbE hx192 with ⟨h201, hx192⟩ | ⟨h201, hx192⟩
          · replace hs := hs.altB 31 true (by kernel_rfl) h201
            refine pures hs 1 [31, 32] [(31, .bool true), (32, .pointer (some ⟨b115, 0, none⟩))] (by kernel_rfl) fun a hs => ?_
            obtain ⟨y202, h203, hx192⟩ := bindE hx192
            refine s_call hs (by kernel_rfl) (by kernel_rfl) (bag_Bag_int_No_s h203 h168 ((hw.pick [0, 1, 2] (by kernel_rfl)).pack 2)) fun a w v hv hs => ?_
            obtain ⟨rfl, hw⟩ := hv
            replace hw := hw.unpack 2 rfl
            refine pures hs 3 [0] [(0, .bool (y202 == 3))] (by kernel_rfl) fun a hs => ?_
            refine s_end ?_
            obtain rfl := someE hx192
            exact (hJ193 _ _).2 ⟨(y202 == 3), hk, hs.cast [0] (by kernel_rfl), hw.pick [2] (by kernel_rfl)⟩
          · replace hs := hs.altB 31 false (by kernel_rfl) h201
            refine pures hs 5 [0] [(0, .bool false)] (by kernel_rfl) fun a hs => ?_
            refine s_end ?_
            obtain rfl := someE hx192
            exact (hJ193 _ _).2 ⟨false, hk, hs.cast [0] (by kernel_rfl), hw.pick [2] (by kernel_rfl)⟩
        · replace hs := hs.altB 26 false (by kernel_rfl) h198
          refine pures hs 10 [0] [(0, .bool false)] (by kernel_rfl) fun a hs => ?_
          refine s_end ?_
          obtain rfl := someE hx192
          exact (hJ193 _ _).2 ⟨false, hk, hs.cast [0] (by kernel_rfl), hw.pick [2] (by kernel_rfl)⟩
      · replace hs := hs.altB 21 false (by kernel_rfl) h195
        refine pures hs 15 [0] [(0, .bool false)] (by kernel_rfl) fun a hs => ?_
        refine s_end ?_
        obtain rfl := someE hx192
        exact (hJ193 _ _).2 ⟨false, hk, hs.cast [0] (by kernel_rfl), hw.pick [2] (by kernel_rfl)⟩
    · replace hs := hs.altB 18 false (by kernel_rfl) h194
      refine pures hs 18 [0] [(0, .bool false)] (by kernel_rfl) fun a hs => ?_
      refine s_end ?_
      obtain rfl := someE hx192
      exact (hJ193 _ _).2 ⟨false, hk, hs.cast [0] (by kernel_rfl), hw.pick [2] (by kernel_rfl)⟩
  · intro a w hh
    obtain ⟨x190, hk, hs, hw⟩ := (hJ193 _ _).1 hh
    refine c_ret ?_
    obtain rfl := someE hk
    refine hQ _ _ (f_ret1 hs rfl (v := .bool x190) (by kernel_rfl) ⟨rfl, hw.pick [0] (by kernel_rfl)⟩)
def catenarylaw06_BagPlays_r17 : Option Bool :=
  (catenarylaw06_awake).bind fun y1071 =>
  some y1071
def catenarylaw06_BagPlays_r19 (rec_catenarylaw06_BagPlays_l18 : Int → Int → Int → (List M92) → Int → (List M102) → Option (Sum Bool Unit)) (x919 : Int) (x1148 : Int) (x1149 : Int) (x1150 : List M92) (x1155 : Int) (x1156 : List M102) (x1168 : Bool) : Option (Sum Bool Unit) :=
  if x1168 = true then some (.inl false)
  else rec_catenarylaw06_BagPlays_l18 (IntKind.i64.wrap (x919 + 1)) x1148 x1149 x1150 x1155 x1156
def catenarylaw06_BagPlays_r20 (k : Nat) (rec_catenarylaw06_BagPlays_l18 : Int → Int → Int → (List M92) → Int → (List M102) → Option (Sum Bool Unit)) (y620 : Int × Int × (List M102)) (x919 : Int) (x1148 : Int) (x1149 : Int) (x1150 : List M92) (x1154 : Bool) (x1155 : Int) (x1156 : List M102) : Option (Sum Bool Unit) :=
  (if (!x1154) = true then some true
    else (catenarylaw06_same k y620.1 x1155 x1156 (M41.mk x1148 x1149 x1150)).bind fun y1174 =>
    some (!y1174) : Option Bool).bind fun s1176 => catenarylaw06_BagPlays_r19 (rec_catenarylaw06_BagPlays_l18) x919 x1148 x1149 x1150 x1155 x1156 s1176
def catenarylaw06_BagPlays_l18 (k : Nat) (x2 : List M45) (y620 : Int × Int × (List M102)) : Nat → Int → Int → Int → (List M92) → Int → (List M102) → Option (Sum Bool Unit)
  | 0, _, _, _, _, _, _ => none
  | j + 1, x919, x920, x921, x922, x926, x927 =>
    if ((decide (x919 < (x2.length : Int))) && (decide (x919 < 60))) = true then (
      ((ix x2 x919).bind fun x1180 =>
        (catenarylaw06_step k y620.1 x926 x927 (M41.mk x920 x921 x922) x1180).bind fun y1184 =>
        some (y1184.1.f0, y1184.1.f1, y1184.1.f2, y1184.2.1, y1184.2.2.1, y1184.2.2.2) : Option (Int × Int × (List M92) × Bool × Int × (List M102))).bind fun s1210 => catenarylaw06_BagPlays_r20 k (catenarylaw06_BagPlays_l18 k x2 y620 j) y620 x919 s1210.1 s1210.2.1 s1210.2.2.1 s1210.2.2.2.1 s1210.2.2.2.2.1 s1210.2.2.2.2.2)
    else some (.inr ())
def catenarylaw06_BagPlays (k : Nat) (x1 : Int) (x2 : List M45) : Option Bool :=
  (bag_New_int x1).bind fun y620 =>
  (catenarylaw06_BagPlays_l18 k x2 y620 k 0 x1 0 ([]) y620.2.1 y620.2.2 : Option (Sum Bool Unit)).bind fun
    | .inl z => some z
    | .inr _ => catenarylaw06_BagPlays_r17
theorem catenarylaw06_BagPlays_s {k : Nat} {x1 : Int} {x2 : List M45} {p3 : Option Addr} {c4 : Nat} {d6 : Ch} {r : Bool} (hk : catenarylaw06_BagPlays k x1 x2 = some r) {g w : World} {F : Ch} {ih : IH} (h5 : RSl e45 ih d6 p3 c4 x2) (h7 : ∀ q ∈ d6, q ∈ F) (hw : St g w [F] ih) :
    CallsR Try.prog 4 #[.int .i64 x1, .slice p3 x2.length c4] w fun v w' => ∃ (ih' : IH), v = .bool r ∧ St g w' [F] ih' ∧ Le ih ih' := by
  refine f_in (vs := [.int .i64 x1, .slice p3 x2.length c4]) Try.func4 rfl 44 rfl (by kernel_rfl) [(0, .int .i64 x1), (1, .slice p3 x2.length c4)] (by kernel_rfl) fun a Qf hQ hQn hs => ?_
  refine c_seq ?_
  refine c_region ?_
  refine pures hs 1 [0, 1] [(0, .int .i64 x1), (1, .slice p3 x2.length c4)] (by kernel_rfl) fun a hs => ?_
  refine s_end ?_
  refine c_seq ?_
  refine c_region ?_
  refine pures hs 1 [0, 1, 10] [(0, .int .i64 x1), (1, .slice p3 x2.length c4), (10, .int .i64 x1)] (by kernel_rfl) fun a hs => ?_
  obtain ⟨y620, h621, hk⟩ := bindE hk
  refine s_call hs (by kernel_rfl) (by kernel_rfl) (bag_New_int_s h621 ((hw.pick [0] (by kernel_rfl)).pack 0)) fun a w v hv hs => ?_
  obtain ⟨b622, p624, c625, d627, rfl, hw, h626⟩ := hv
  replace hw := hw.unpack 2 rfl
  refine pures hs 1 [0, 1, 5] [(0, .int .i64 x1), (1, .slice p3 x2.length c4), (5, .pointer (some ⟨b622, 0, none⟩))] (by kernel_rfl) fun a hs => ?_
  refine s_end ?_
  refine c_seq ?_
  refine c_region ?_
  refine pures hs 2 [1, 5, 13] [(1, .slice p3 x2.length c4), (5, .pointer (some ⟨b622, 0, none⟩)), (13, .agg #[.int .i64 x1, .int .i64 0, .slice none 0 0])] (by kernel_rfl) fun a hs => ?_
  refine s_new hs hw [.int .i64 0, .int .i64 0, .slice none 0 0] 41 (fun b => .pointer (some ⟨b, 0, none⟩)) (by kernel_rfl) (fun _ => by kernel_rfl) fun a w b631 hs hw => ?_
  refine s_store hs hw 0 rfl 0 (by kernel_rfl) (by kernel_rfl) (v := .agg #[.int .i64 x1, .int .i64 0, .slice none 0 0]) (by kernel_rfl) (by kernel_rfl) (by kernel_rfl) (by kernel_rfl) fun a w hs hw => ?_
  refine s_end ?_
  refine c_seq ?_
  refine c_seq ?_
  refine c_region ?_
  refine pures hs 1 [1, 5, 6, 7] [(1, .slice p3 x2.length c4), (5, .pointer (some ⟨b622, 0, none⟩)), (6, .pointer (some ⟨b631, 0, none⟩)), (7, .int .i64 0)] (by kernel_rfl) fun a hs => ?_
  refine s_end ?_
  refine c_block ?_
  obtain ⟨y1073, hx1074, hk⟩ := bindE hk
  obtain ⟨J1075, hJ1075⟩ : ∃ J : Act → World → Prop, ∀ a w, J a w ↔ (∃ (ih1067 : IH), catenarylaw06_BagPlays_r17 = some r ∧ Sees a 44 [] ∧ St g w [F] ih1067 ∧ Le ih ih1067) := ⟨_, fun _ _ => Iff.rfl⟩
  obtain ⟨I1076, hI1076⟩ : ∃ J : Nat → Act → World → Prop, ∀ j a w, J j a w ↔ (∃ (x919 : Int) (x920 : Int) (x921 : Int) (x922 : List M92) (x926 : Int) (x927 : List M102) (p923 : Option Addr) (c924 : Nat) (p928 : Option Addr) (c929 : Nat) (d931 : Ch) (ih917 : IH), catenarylaw06_BagPlays_l18 k x2 y620 j x919 x920 x921 x922 x926 x927 = some y1073 ∧ Sees a 44 [(1, .slice p3 x2.length c4), (5, .pointer (some ⟨b622, 0, none⟩)), (6, .pointer (some ⟨b631, 0, none⟩)), (7, .int .i64 x919)] ∧ St g w [bx b631 [.int .i64 x920, .int .i64 x921, .slice p923 x922.length c924] 41, bx b622 [.int .i64 y620.1, .int .i64 x926, .slice p928 x927.length c929] 88, d931, F] ih917 ∧ Le ih ih917 ∧ RSl e92 ih917 [] p923 c924 x922 ∧ OSl e102 ih917 p928 c929 x927 d931) := ⟨_, fun _ _ _ => Iff.rfl⟩
  refine c_exitJ 0 J1075 ?_ ?_
  · refine c_loop I1076 k ((hI1076 _ _ _).2 ⟨0, x1, 0, ([]), y620.2.1, y620.2.2, none, 0, p624, c625, d627, ih, hx1074, hs.cast [1, 5, 6, 7] (by kernel_rfl), hw.pick [0, 1, 2, 3] (by kernel_rfl), (Le.refl _), (RSl.nil _ _ _), h626⟩) (fun a w h0 => ?_) fun j a w hh => ?_
    · obtain ⟨_, _, _, _, _, _, _, _, _, _, _, _, h, _⟩ := (hI1076 _ _ _).1 h0
      cases h
    · obtain ⟨x919, x920, x921, x922, x926, x927, p923, c924, p928, c929, d931, ih917, hx1074, hs, hw, hle918, h925, h930⟩ := (hI1076 _ _ _).1 hh
      refine c_seq ?_
      refine c_seq ?_
      obtain ⟨J1080, hJ1080⟩ : ∃ J : Act → World → Prop, ∀ a w, J a w ↔ (Sees a 44 [(1, .slice p3 x2.length c4), (5, .pointer (some ⟨b622, 0, none⟩)), (6, .pointer (some ⟨b631, 0, none⟩)), (7, .int .i64 x919), (21, .bool ((decide (x919 < (x2.length : Int))) && (decide (x919 < 60))))] ∧ St g w [bx b631 [.int .i64 x920, .int .i64 x921, .slice p923 x922.length c924] 41, bx b622 [.int .i64 y620.1, .int .i64 x926, .slice p928 x927.length c929] 88, d931, F] ih917) := ⟨_, fun _ _ => Iff.rfl⟩
      refine c_regJ J1080 ?_ ?_
      · refine pures hs 5 [1, 5, 6, 7, 18] [(1, .slice p3 x2.length c4), (5, .pointer (some ⟨b622, 0, none⟩)), (6, .pointer (some ⟨b631, 0, none⟩)), (7, .int .i64 x919), (18, .bool (decide (x919 < (x2.length : Int))))] (by kernel_rfl) fun a hs => ?_
        rcases boolE (decide (x919 < (x2.length : Int))) with h1081 | h1081
        · replace hs := hs.altB 18 true (by kernel_rfl) h1081
          refine pures hs 3 [1, 5, 6, 7, 21] [(1, .slice p3 x2.length c4), (5, .pointer (some ⟨b622, 0, none⟩)), (6, .pointer (some ⟨b631, 0, none⟩)), (7, .int .i64 x919), (21, .bool (decide (x919 < 60)))] (by kernel_rfl) fun a hs => ?_
          refine s_end ?_
          exact (hJ1080 _ _).2 ⟨(hs.altB 21 ((decide (x919 < (x2.length : Int))) && (decide (x919 < 60))) (by kernel_rfl) (by rw [h1081] <;> rfl)).cast [1, 5, 6, 7, 21] (by kernel_rfl), hw.pick [0, 1, 2, 3] (by kernel_rfl)⟩
        · replace hs := hs.altB 18 false (by kernel_rfl) h1081
          refine pures hs 3 [1, 5, 6, 7, 21] [(1, .slice p3 x2.length c4), (5, .pointer (some ⟨b622, 0, none⟩)), (6, .pointer (some ⟨b631, 0, none⟩)), (7, .int .i64 x919), (21, .bool false)] (by kernel_rfl) fun a hs => ?_
          refine s_end ?_
          exact (hJ1080 _ _).2 ⟨(hs.altB 21 ((decide (x919 < (x2.length : Int))) && (decide (x919 < 60))) (by kernel_rfl) (by rw [h1081] <;> rfl)).cast [1, 5, 6, 7, 21] (by kernel_rfl), hw.pick [0, 1, 2, 3] (by kernel_rfl)⟩
      · intro a w hh
        obtain ⟨hs, hw⟩ := (hJ1080 _ _).1 hh
        rcases ifbE hx1074 with ⟨h1082, hx1074⟩ | ⟨h1082, hx1074⟩
        · refine c_cond1 hs (by kernel_rfl) (t := ((decide (x919 < (x2.length : Int))) && (decide (x919 < 60)))) (by kernel_rfl) h1082 ?_
          refine c_skip ?_
          refine c_seq ?_
          refine c_block ?_
          refine c_seq ?_
          obtain ⟨S1083, hS1083, kS1083⟩ := mkSX (X := [([], bx b631 [.int .i64 x920, .int .i64 x921, .slice p923 x922.length c924] 41), ([6], bx b622 [.int .i64 y620.1, .int .i64 x926, .slice p928 x927.length c929] 88), ([6], d931), ([], F)]) (ih := ih917) (K := [6, 6]) rfl
          obtain ⟨y1177, hx1178, hx1074⟩ := bindE hx1074
          obtain ⟨J1179, hJ1179⟩ : ∃ J : Act → World → Prop, ∀ a w, J a w ↔ (∃ (x1148 : Int) (x1149 : Int) (x1150 : List M92) (x1154 : Bool) (x1155 : Int) (x1156 : List M102) (b1146 : Nat) (p1151 : Option Addr) (c1152 : Nat) (p1157 : Option Addr) (c1158 : Nat) (d1160 : Ch) (ih1144 : IH), catenarylaw06_BagPlays_r20 k (catenarylaw06_BagPlays_l18 k x2 y620 j) y620 x919 x1148 x1149 x1150 x1154 x1155 x1156 = some y1073 ∧ Sees a 44 [(1, .slice p3 x2.length c4), (5, .pointer (some ⟨b622, 0, none⟩)), (6, .pointer (some ⟨b631, 0, none⟩)), (7, .int .i64 x919), (8, .pointer (some ⟨b1146, 0, none⟩)), (9, .bool x1154)] ∧ St g w [bx b631 [.int .i64 x920, .int .i64 x921, .slice p923 x922.length c924] 41, bx b622 [.int .i64 y620.1, .int .i64 x1155, .slice p1157 x1156.length c1158] 88, bx b1146 [.int .i64 x1148, .int .i64 x1149, .slice p1151 x1150.length c1152] 41, d1160, F] ih1144 ∧ Le ih917 ih1144 ∧ RSl e92 ih1144 [] p1151 c1152 x1150 ∧ OSl e102 ih1144 p1157 c1158 x1156 d1160) := ⟨_, fun _ _ => Iff.rfl⟩
          refine c_draw (by kernel_rfl) (N := 13) rfl S1083 J1179 ?_ ?_
          · have hw := hw.drew
            have hS : S1083 (Array.replicate 13 false) _ := SX_now hS1083 (hw.vws [0, 1, 2, 3]) (by kernel_rfl)
            refine d_pures (fuel := 12) kS1083 hs hS [0] [1, 5, 6, 7, 25] [(1, .slice p3 x2.length c4), (5, .pointer (some ⟨b622, 0, none⟩)), (6, .pointer (some ⟨b631, 0, none⟩)), (7, .int .i64 x919), (25, .pointer (some ⟨b622, 0, none⟩))] (by kernel_rfl) fun a hs hS => ?_
            refine d_load (fuel := 11) kS1083 hs hS 1 rfl (by kernel_rfl) (SX_box hS1083 0 rfl (by kernel_rfl)) 0 (by kernel_rfl) (by kernel_rfl) (v := .agg #[.int .i64 x920, .int .i64 x921, .slice p923 x922.length c924]) (by kernel_rfl) fun a hs hS => ?_
            refine d_pures (fuel := 9) kS1083 hs hS [2, 3] [1, 5, 6, 7, 25, 26, 27, 28] [(1, .slice p3 x2.length c4), (5, .pointer (some ⟨b622, 0, none⟩)), (6, .pointer (some ⟨b631, 0, none⟩)), (7, .int .i64 x919), (25, .pointer (some ⟨b622, 0, none⟩)), (26, .agg #[.int .i64 x920, .int .i64 x921, .slice p923 x922.length c924]), (27, .slice p3 x2.length c4), (28, .int .i64 x919)] (by kernel_rfl) fun a hs hS => ?_
            obtain ⟨x1180, h1181, hx1178⟩ := bindE hx1178
            refine d_index (fuel := 8) kS1083 hs hS 4 rfl (by kernel_rfl) h5 (by kernel_rfl) (by kernel_rfl) (k := .i64) (by kernel_rfl) 45 (by kernel_rfl) (by kernel_rfl) h1181 fun a r1182 cs henc at1183 hs hS => ?_
            obtain rfl := henc
            refine d_load (fuel := 7) kS1083 hs hS 5 rfl (by kernel_rfl) (fun l w hu hS => at1183 w (((SX_ch hS1083 3 rfl (by kernel_rfl) l w hu hS).sub h7).anti hle918)) 0 (by kernel_rfl) (by kernel_rfl) (v := .agg #[.int .i64 x1180.f0, .int .i64 x1180.f1, .int .i64 x1180.f2]) (by kernel_rfl) fun a hs hS => ?_
            refine d_all (fuel := 6) (rs := [6, 10]) (by kernel_rfl) (by simp) (all2 ?_ (all1 ?_))
            · obtain ⟨y1184, h1185, hx1178⟩ := bindE hx1178
              refine o_call hs rfl (by kernel_rfl) (by kernel_rfl) (catenarylaw06_step_s h1185 h930 h925 ((hw.pick [1, 2, 0, 3] (by kernel_rfl)).pack 2)) fun a w v hv hs => ?_
              obtain ⟨ih1186, p1188, c1189, p1191, c1192, d1194, rfl, hw, hle1187, h1190, h1193⟩ := hv
              replace hw := hw.unpack 2 rfl
              refine dg_next (SX_now hS1083 ((hw.vws [2, 3]).anti hle1187) (by kernel_rfl)) fun hS => ?_
              refine d_pures (fuel := 3) kS1083 hs hS [7, 8, 9] [1, 5, 6, 7, 25, 26, 27, 28, 29, 30, 31, 24, 32, 33] [(1, .slice p3 x2.length c4), (5, .pointer (some ⟨b622, 0, none⟩)), (6, .pointer (some ⟨b631, 0, none⟩)), (7, .int .i64 x919), (25, .pointer (some ⟨b622, 0, none⟩)), (26, .agg #[.int .i64 x920, .int .i64 x921, .slice p923 x922.length c924]), (27, .slice p3 x2.length c4), (28, .int .i64 x919), (29, .pointer (some r1182)), (30, .agg #[.int .i64 x1180.f0, .int .i64 x1180.f1, .int .i64 x1180.f2]), (31, .tuple #[.agg #[.int .i64 y1184.1.f0, .int .i64 y1184.1.f1, .slice p1188 y1184.1.f2.length c1189], .bool y1184.2.1]), (24, .tuple #[.agg #[.int .i64 y1184.1.f0, .int .i64 y1184.1.f1, .slice p1188 y1184.1.f2.length c1189], .bool y1184.2.1]), (32, .agg #[.int .i64 y1184.1.f0, .int .i64 y1184.1.f1, .slice p1188 y1184.1.f2.length c1189]), (33, .bool y1184.2.1)] (by kernel_rfl) fun a hs hS => ?_
              refine d_all (fuel := 2) (rs := [10]) (by kernel_rfl) (by simp) (all1 ?_)
              refine o_new hs rfl hw [.int .i64 0, .int .i64 0, .slice none 0 0] 41 (fun b => .pointer (some ⟨b, 0, none⟩)) (by kernel_rfl) (fun _ => by kernel_rfl) fun a w b1195 hs hw => ?_
              refine dg_next (SX_now hS1083 ((hw.vws [3, 4]).anti hle1187) (by kernel_rfl)) fun hS => ?_
              refine d_all (fuel := 1) (rs := [11]) (by kernel_rfl) (by simp) (all1 ?_)
              refine o_store hs hw rfl 0 rfl 0 (by kernel_rfl) (by kernel_rfl) (v := .agg #[.int .i64 y1184.1.f0, .int .i64 y1184.1.f1, .slice p1188 y1184.1.f2.length c1189]) (by kernel_rfl) (by kernel_rfl) (by kernel_rfl) (by kernel_rfl) fun a w hs hw => ?_
              refine dg_next (SX_now hS1083 ((hw.vws [3, 4]).anti hle1187) (by kernel_rfl)) fun hS => ?_
              refine d_pures (fuel := 0) kS1083 hs hS [12] [1, 5, 6, 7, 25, 26, 27, 28, 29, 30, 31, 24, 32, 33, 8, 9] [(1, .slice p3 x2.length c4), (5, .pointer (some ⟨b622, 0, none⟩)), (6, .pointer (some ⟨b631, 0, none⟩)), (7, .int .i64 x919), (25, .pointer (some ⟨b622, 0, none⟩)), (26, .agg #[.int .i64 x920, .int .i64 x921, .slice p923 x922.length c924]), (27, .slice p3 x2.length c4), (28, .int .i64 x919), (29, .pointer (some r1182)), (30, .agg #[.int .i64 x1180.f0, .int .i64 x1180.f1, .int .i64 x1180.f2]), (31, .tuple #[.agg #[.int .i64 y1184.1.f0, .int .i64 y1184.1.f1, .slice p1188 y1184.1.f2.length c1189], .bool y1184.2.1]), (24, .tuple #[.agg #[.int .i64 y1184.1.f0, .int .i64 y1184.1.f1, .slice p1188 y1184.1.f2.length c1189], .bool y1184.2.1]), (32, .agg #[.int .i64 y1184.1.f0, .int .i64 y1184.1.f1, .slice p1188 y1184.1.f2.length c1189]), (33, .bool y1184.2.1), (8, .pointer (some ⟨b1195, 0, none⟩)), (9, .bool y1184.2.1)] (by kernel_rfl) fun a hs hS => ?_
              refine d_done (by kernel_rfl) ?_
              obtain rfl := someE hx1178
              exact (hJ1179 _ _).2 ⟨y1184.1.f0, y1184.1.f1, y1184.1.f2, y1184.2.1, y1184.2.2.1, y1184.2.2.2, b1195, p1188, c1189, p1191, c1192, d1194, ih1186, hx1074, hs.cast [1, 5, 6, 7, 8, 9] (by kernel_rfl), hw.pick [3, 1, 0, 2, 4] (by kernel_rfl), hle1187, h1190, h1193⟩
            · refine o_new hs rfl hw [.int .i64 0, .int .i64 0, .slice none 0 0] 41 (fun b => .pointer (some ⟨b, 0, none⟩)) (by kernel_rfl) (fun _ => by kernel_rfl) fun a w b1197 hs hw => ?_
              refine dg_next (SX_now hS1083 ((hw.vws [1, 2, 3, 4]).anti (Le.refl _)) (by kernel_rfl)) fun hS => ?_
              refine d_all (fuel := 5) (rs := [6]) (by kernel_rfl) (by simp) (all1 ?_)
              obtain ⟨y1199, h1200, hx1178⟩ := bindE hx1178
              refine o_call hs rfl (by kernel_rfl) (by kernel_rfl) (catenarylaw06_step_s h1200 h930 h925 ((hw.pick [2, 3, 0, 1, 4] (by kernel_rfl)).pack 2)) fun a w v hv hs => ?_
              obtain ⟨ih1201, p1203, c1204, p1206, c1207, d1209, rfl, hw, hle1202, h1205, h1208⟩ := hv
              replace hw := hw.unpack 2 rfl
              refine dg_next (SX_now hS1083 ((hw.vws [3, 4]).anti hle1202) (by kernel_rfl)) fun hS => ?_
              refine d_pures (fuel := 2) kS1083 hs hS [7, 8, 9] [1, 5, 6, 7, 25, 26, 27, 28, 29, 30, 8, 31, 24, 32, 33] [(1, .slice p3 x2.length c4), (5, .pointer (some ⟨b622, 0, none⟩)), (6, .pointer (some ⟨b631, 0, none⟩)), (7, .int .i64 x919), (25, .pointer (some ⟨b622, 0, none⟩)), (26, .agg #[.int .i64 x920, .int .i64 x921, .slice p923 x922.length c924]), (27, .slice p3 x2.length c4), (28, .int .i64 x919), (29, .pointer (some r1182)), (30, .agg #[.int .i64 x1180.f0, .int .i64 x1180.f1, .int .i64 x1180.f2]), (8, .pointer (some ⟨b1197, 0, none⟩)), (31, .tuple #[.agg #[.int .i64 y1199.1.f0, .int .i64 y1199.1.f1, .slice p1203 y1199.1.f2.length c1204], .bool y1199.2.1]), (24, .tuple #[.agg #[.int .i64 y1199.1.f0, .int .i64 y1199.1.f1, .slice p1203 y1199.1.f2.length c1204], .bool y1199.2.1]), (32, .agg #[.int .i64 y1199.1.f0, .int .i64 y1199.1.f1, .slice p1203 y1199.1.f2.length c1204]), (33, .bool y1199.2.1)] (by kernel_rfl) fun a hs hS => ?_
              refine d_all (fuel := 1) (rs := [11]) (by kernel_rfl) (by simp) (all1 ?_)
              refine o_store hs hw rfl 2 rfl 0 (by kernel_rfl) (by kernel_rfl) (v := .agg #[.int .i64 y1199.1.f0, .int .i64 y1199.1.f1, .slice p1203 y1199.1.f2.length c1204]) (by kernel_rfl) (by kernel_rfl) (by kernel_rfl) (by kernel_rfl) fun a w hs hw => ?_
              refine dg_next (SX_now hS1083 ((hw.vws [3, 4]).anti hle1202) (by kernel_rfl)) fun hS => ?_
              refine d_pures (fuel := 0) kS1083 hs hS [12] [1, 5, 6, 7, 25, 26, 27, 28, 29, 30, 8, 31, 24, 32, 33, 9] [(1, .slice p3 x2.length c4), (5, .pointer (some ⟨b622, 0, none⟩)), (6, .pointer (some ⟨b631, 0, none⟩)), (7, .int .i64 x919), (25, .pointer (some ⟨b622, 0, none⟩)), (26, .agg #[.int .i64 x920, .int .i64 x921, .slice p923 x922.length c924]), (27, .slice p3 x2.length c4), (28, .int .i64 x919), (29, .pointer (some r1182)), (30, .agg #[.int .i64 x1180.f0, .int .i64 x1180.f1, .int .i64 x1180.f2]), (8, .pointer (some ⟨b1197, 0, none⟩)), (31, .tuple #[.agg #[.int .i64 y1199.1.f0, .int .i64 y1199.1.f1, .slice p1203 y1199.1.f2.length c1204], .bool y1199.2.1]), (24, .tuple #[.agg #[.int .i64 y1199.1.f0, .int .i64 y1199.1.f1, .slice p1203 y1199.1.f2.length c1204], .bool y1199.2.1]), (32, .agg #[.int .i64 y1199.1.f0, .int .i64 y1199.1.f1, .slice p1203 y1199.1.f2.length c1204]), (33, .bool y1199.2.1), (9, .bool y1199.2.1)] (by kernel_rfl) fun a hs hS => ?_
              refine d_done (by kernel_rfl) ?_
              obtain rfl := someE hx1178
              exact (hJ1179 _ _).2 ⟨y1199.1.f0, y1199.1.f1, y1199.1.f2, y1199.2.1, y1199.2.2.1, y1199.2.2.2, b1197, p1203, c1204, p1206, c1207, d1209, ih1201, hx1074, hs.cast [1, 5, 6, 7, 8, 9] (by kernel_rfl), hw.pick [3, 0, 2, 1, 4] (by kernel_rfl), hle1202, h1205, h1208⟩
          · intro a w hh
            obtain ⟨x1148, x1149, x1150, x1154, x1155, x1156, b1146, p1151, c1152, p1157, c1158, d1160, ih1144, hx1074, hs, hw, hle1145, h1153, h1159⟩ := (hJ1179 _ _).1 hh
            refine c_seq ?_
            refine c_region ?_
            refine s_load hs (hw.at_ 2 rfl) 0 (by kernel_rfl) (by kernel_rfl) (v := .agg #[.int .i64 x1148, .int .i64 x1149, .slice p1151 x1150.length c1152]) (by kernel_rfl) fun a hs => ?_
            refine s_store hs hw 0 rfl 0 (by kernel_rfl) (by kernel_rfl) (v := .agg #[.int .i64 x1148, .int .i64 x1149, .slice p1151 x1150.length c1152]) (by kernel_rfl) (by kernel_rfl) (by kernel_rfl) (by kernel_rfl) fun a w hs hw => ?_
            refine s_end ?_
            refine c_seq ?_
            obtain ⟨y1170, hx1171, hx1074⟩ := bindE hx1074
            obtain ⟨J1172, hJ1172⟩ : ∃ J : Act → World → Prop, ∀ a w, J a w ↔ (∃ (x1168 : Bool), catenarylaw06_BagPlays_r19 (catenarylaw06_BagPlays_l18 k x2 y620 j) x919 x1148 x1149 x1150 x1155 x1156 x1168 = some y1073 ∧ Sees a 44 [(1, .slice p3 x2.length c4), (5, .pointer (some ⟨b622, 0, none⟩)), (6, .pointer (some ⟨b631, 0, none⟩)), (7, .int .i64 x919), (42, .bool x1168)] ∧ St g w [bx b631 [.int .i64 x1148, .int .i64 x1149, .slice p1151 x1150.length c1152] 41, bx b622 [.int .i64 y620.1, .int .i64 x1155, .slice p1157 x1156.length c1158] 88, d1160, F] ih1144) := ⟨_, fun _ _ => Iff.rfl⟩
            refine c_regJ J1172 ?_ ?_
            · refine pures hs 3 [1, 5, 6, 7, 37] [(1, .slice p3 x2.length c4), (5, .pointer (some ⟨b622, 0, none⟩)), (6, .pointer (some ⟨b631, 0, none⟩)), (7, .int .i64 x919), (37, .bool (!x1154))] (by kernel_rfl) fun a hs => ?_
              rcases ifbE hx1171 with ⟨h1173, hx1171⟩ | ⟨h1173, hx1171⟩
              · replace hs := hs.altB 37 true (by kernel_rfl) h1173
                refine pures hs 5 [1, 5, 6, 7, 42] [(1, .slice p3 x2.length c4), (5, .pointer (some ⟨b622, 0, none⟩)), (6, .pointer (some ⟨b631, 0, none⟩)), (7, .int .i64 x919), (42, .bool true)] (by kernel_rfl) fun a hs => ?_
                refine s_end ?_
                obtain rfl := someE hx1171
                exact (hJ1172 _ _).2 ⟨true, hx1074, hs.cast [1, 5, 6, 7, 42] (by kernel_rfl), hw.pick [0, 1, 3, 4] (by kernel_rfl)⟩
              · replace hs := hs.altB 37 false (by kernel_rfl) h1173
                refine pures hs 1 [1, 5, 6, 7, 37, 38] [(1, .slice p3 x2.length c4), (5, .pointer (some ⟨b622, 0, none⟩)), (6, .pointer (some ⟨b631, 0, none⟩)), (7, .int .i64 x919), (37, .bool false), (38, .pointer (some ⟨b622, 0, none⟩))] (by kernel_rfl) fun a hs => ?_
                refine s_load hs (hw.at_ 0 rfl) 0 (by kernel_rfl) (by kernel_rfl) (v := .agg #[.int .i64 x1148, .int .i64 x1149, .slice p1151 x1150.length c1152]) (by kernel_rfl) fun a hs => ?_
                obtain ⟨y1174, h1175, hx1171⟩ := bindE hx1171
                refine s_call hs (by kernel_rfl) (by kernel_rfl) (catenarylaw06_same_s h1175 h1159 h1153 ((hw.pick [1, 3, 0, 4] (by kernel_rfl)).pack 2)) fun a w v hv hs => ?_
                obtain ⟨rfl, hw⟩ := hv
                replace hw := hw.unpack 2 rfl
                refine pures hs 2 [1, 5, 6, 7, 42] [(1, .slice p3 x2.length c4), (5, .pointer (some ⟨b622, 0, none⟩)), (6, .pointer (some ⟨b631, 0, none⟩)), (7, .int .i64 x919), (42, .bool (!y1174))] (by kernel_rfl) fun a hs => ?_
                refine s_end ?_
                obtain rfl := someE hx1171
                exact (hJ1172 _ _).2 ⟨(!y1174), hx1074, hs.cast [1, 5, 6, 7, 42] (by kernel_rfl), hw.pick [2, 0, 1, 3] (by kernel_rfl)⟩
            · intro a w hh
              obtain ⟨x1168, hx1074, hs, hw⟩ := (hJ1172 _ _).1 hh
              rcases ifbE hx1074 with ⟨h1169, hx1074⟩ | ⟨h1169, hx1074⟩
              · refine c_cond1 hs (by kernel_rfl) (t := x1168) (by kernel_rfl) h1169 ?_
                refine c_seq ?_
                refine c_region ?_
                refine pures hs 1 [4] [(4, .bool false)] (by kernel_rfl) fun a hs => ?_
                refine s_end ?_
                refine c_ret ?_
                obtain rfl := someE hx1074
                obtain rfl := someE hk
                refine hQ _ _ (f_ret1 hs rfl (v := .bool false) (by kernel_rfl) ⟨ih1144, rfl, hw.pick [3] (by kernel_rfl), (hle918.trans hle1145)⟩)
              · refine c_cond0 hs (by kernel_rfl) (t := x1168) (by kernel_rfl) h1169 ?_
                refine c_skip ?_
                refine c_region ?_
                refine pures hs 3 [1, 5, 6, 7] [(1, .slice p3 x2.length c4), (5, .pointer (some ⟨b622, 0, none⟩)), (6, .pointer (some ⟨b631, 0, none⟩)), (7, .int .i64 (IntKind.i64.wrap (x919 + 1)))] (by kernel_rfl) fun a hs => ?_
                refine s_end ?_
                exact (hI1076 _ _ _).2 ⟨(IntKind.i64.wrap (x919 + 1)), x1148, x1149, x1150, x1155, x1156, p1151, c1152, p1157, c1158, d1160, ih1144, hx1074, hs.cast [1, 5, 6, 7] (by kernel_rfl), hw.pick [0, 1, 2, 3] (by kernel_rfl), (hle918.trans hle1145), h1153, h1159⟩
        · refine c_cond0 hs (by kernel_rfl) (t := ((decide (x919 < (x2.length : Int))) && (decide (x919 < 60)))) (by kernel_rfl) h1082 ?_
          refine c_exit ?_
          obtain rfl := someE hx1074
          exact (hJ1075 _ _).2 ⟨ih917, hk, hs.cast [] (by kernel_rfl), hw.pick [3] (by kernel_rfl), hle918⟩
  · intro a w hh
    obtain ⟨ih1067, hk, hs, hw, hle1068⟩ := (hJ1075 _ _).1 hh
    refine c_seq ?_
    refine c_region ?_
    obtain ⟨y1071, h1072, hk⟩ := bindE hk
    refine s_call hs (by kernel_rfl) (by kernel_rfl) (catenarylaw06_awake_s h1072 ((hw.pick [0] (by kernel_rfl)).pack 0)) fun a w v hv hs => ?_
    obtain ⟨rfl, hw⟩ := hv
    replace hw := hw.unpack 0 rfl
    refine pures hs 1 [4] [(4, .bool y1071)] (by kernel_rfl) fun a hs => ?_
    refine s_end ?_
    refine c_ret ?_
    obtain rfl := someE hk
    refine hQ _ _ (f_ret1 hs rfl (v := .bool y1071) (by kernel_rfl) ⟨ih1067, rfl, hw.pick [0] (by kernel_rfl), hle1068⟩)
end Go.Proofs.Ytfpllbnljlbepaa.Sx
