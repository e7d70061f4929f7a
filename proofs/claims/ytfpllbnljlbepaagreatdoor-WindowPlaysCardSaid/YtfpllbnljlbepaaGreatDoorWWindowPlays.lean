/- The walk of WindowPlays: each Go function that it calls, as a plain function, and the proof that the call computes it. Printed by the program gen.py.
   Conditions: those that each theorem states ahead of its colon, and no other. -/
import Derived.Test.YtfpllbnljlbepaaGreatDoorWWindowPlays1
namespace Go.Proofs.YtfpllbnljlbepaaGreatDoor.Sx
open Go Go.Proofs
set_option maxRecDepth 100000
set_option linter.unusedVariables false
def catenaryref20_Reach_r26 (k : Nat) (x1 : M58) (x792 : Int) (x1342 : List M26) : Option (M58 × (List M26)) :=
  (catenaryref20_kept k (M58.mk x1.f0 x1.f1 x792 x1.f3)).bind fun y1355 =>
  some (y1355, x1342)
def catenaryref20_Reach_r29 (rec_catenaryref20_Reach_l27 : (List M26) → Int → Option (List M26)) (x1166 : Int) (x1449 : List M26) : Option (List M26) :=
  rec_catenaryref20_Reach_l27 x1449 (IntKind.i64.wrap (x1166 + 1))
def catenaryref20_Reach_r30 (x1 : M58) (x1166 : Int) (x1160 : List M26) (x1489 : Bool) : Option (List M26) :=
  if x1489 = true then (
    (ix x1.f3 x1166).bind fun x1506 =>
    (app x1160 [x1506]).bind fun x1515 =>
    some x1515)
  else some x1160
def catenaryref20_Reach_l27 (x1 : M58) (x792 : Int) : Nat → (List M26) → Int → Option (List M26)
  | 0, _, _ => none
  | j + 1, x1160, x1166 =>
    if (decide (x1166 < (x1.f3.length : Int))) = true then (
      (((ix x1.f3 x1166).bind fun x1524 =>
          if (decide (x1524.f0 > x1.f2)) = true then (
            (ix x1.f3 x1166).bind fun x1532 =>
            some (decide (x1532.f0 ≤ x792)))
          else some false : Option Bool).bind fun s1539 => catenaryref20_Reach_r30 x1 x1166 x1160 s1539 : Option (List M26)).bind fun s1540 => catenaryref20_Reach_r29 (catenaryref20_Reach_l27 x1 x792 j) x1166 s1540)
    else some x1160
def catenaryref20_Reach_r31 (k : Nat) (x1 : M58) (x792 : Int) : Option (M58 × (List M26)) :=
  (catenaryref20_Reach_l27 x1 x792 k ([]) 0 : Option (List M26)).bind fun s1543 => catenaryref20_Reach_r26 k x1 x792 s1543
def catenaryref20_Reach_r32 (k : Nat) (x1 : M58) (x790 : Int) : Option (M58 × (List M26)) :=
  (if (decide (x790 < x1.f2)) = true then some x1.f2
    else some x790 : Option Int).bind fun s1548 => catenaryref20_Reach_r31 k x1 s1548
def catenaryref20_Reach (k : Nat) (x1 : M58) (x5 : Int) : Option (M58 × (List M26)) :=
  (if (decide (x5 > x1.f1)) = true then some x1.f1
    else some x5 : Option Int).bind fun s1553 => catenaryref20_Reach_r32 k x1 s1553
theorem catenaryref20_Reach_s {k : Nat} {x1 : M58} {x5 : Int} {p2 : Option Addr} {c3 : Nat} {r : M58 × (List M26)} (hk : catenaryref20_Reach k x1 x5 = some r) {g w : World} {F : Ch} {ih : IH} (h4 : RSl e26 ih [] p2 c3 x1.f3) (hw : St g w [F] ih) :
    CallsR Tryz.prog 34 #[.agg #[.int .u64 x1.f0, .int .u64 x1.f1, .int .u64 x1.f2, .slice p2 x1.f3.length c3], .int .u64 x5] w fun v w' => ∃ (ih' : IH) (p1554 : Option Addr) (c1555 : Nat) (p1557 : Option Addr) (c1558 : Nat) (d1560 : Ch), v = .tuple #[.agg #[.int .u64 r.1.f0, .int .u64 r.1.f1, .int .u64 r.1.f2, .slice p1554 r.1.f3.length c1555], .slice p1557 r.2.length c1558] ∧ St g w' [d1560, F] ih' ∧ Le ih ih' ∧ RSl e26 ih' [] p1554 c1555 r.1.f3 ∧ OSl e26 ih' p1557 c1558 r.2 d1560 := by
  refine f_in (vs := [.agg #[.int .u64 x1.f0, .int .u64 x1.f1, .int .u64 x1.f2, .slice p2 x1.f3.length c3], .int .u64 x5]) Tryz.func34 rfl 59 rfl (by kernel_rfl) [(0, .agg #[.int .u64 x1.f0, .int .u64 x1.f1, .int .u64 x1.f2, .slice p2 x1.f3.length c3]), (1, .int .u64 x5)] (by kernel_rfl) fun a Qf hQ hQn hs => ?_
  refine c_seq ?_
  refine c_region ?_
  refine s_new hs hw [.int .u64 x1.f0, .int .u64 x1.f1, .int .u64 x1.f2, .slice p2 x1.f3.length c3] 58 (fun b => .pointer (some ⟨b, 0, none⟩)) (by kernel_rfl) (fun _ => by kernel_rfl) fun a w b785 hs hw => ?_
  refine s_new hs hw [.int .u64 0, .int .u64 0, .int .u64 0, .slice none 0 0] 58 (fun b => .pointer (some ⟨b, 0, none⟩)) (by kernel_rfl) (fun _ => by kernel_rfl) fun a w b787 hs hw => ?_
  refine pures hs 1 [1, 2, 4] [(1, .int .u64 x5), (2, .pointer (some ⟨b785, 0, none⟩)), (4, .pointer (some ⟨b787, 0, none⟩))] (by kernel_rfl) fun a hs => ?_
  refine s_end ?_
  obtain ⟨y1549, hx1550, hk⟩ := bindE hk
  obtain ⟨J1551, hJ1551⟩ : ∃ J : Act → World → Prop, ∀ a w, J a w ↔ (∃ (x790 : Int), catenaryref20_Reach_r32 k x1 x790 = some r ∧ Sees a 59 [(2, .pointer (some ⟨b785, 0, none⟩)), (4, .pointer (some ⟨b787, 0, none⟩)), (1, .int .u64 x790)] ∧ St g w [bx b787 [.int .u64 0, .int .u64 0, .int .u64 0, .slice none 0 0] 58, bx b785 [.int .u64 x1.f0, .int .u64 x1.f1, .int .u64 x1.f2, .slice p2 x1.f3.length c3] 58, F] ih) := ⟨_, fun _ _ => Iff.rfl⟩
  refine c_seqJ J1551 ?_ ?_
  · refine c_seq ?_
    refine c_region ?_
    refine pures hs 2 [1, 2, 4, 8, 9] [(1, .int .u64 x5), (2, .pointer (some ⟨b785, 0, none⟩)), (4, .pointer (some ⟨b787, 0, none⟩)), (8, .int .u64 x5), (9, .pointer (some ⟨b785, 1, none⟩))] (by kernel_rfl) fun a hs => ?_
    refine s_load hs (hw.at_ 1 rfl) 1 (by kernel_rfl) (by kernel_rfl) (v := .int .u64 x1.f1) (by kernel_rfl) fun a hs => ?_
    refine pures hs 1 [1, 2, 4, 11] [(1, .int .u64 x5), (2, .pointer (some ⟨b785, 0, none⟩)), (4, .pointer (some ⟨b787, 0, none⟩)), (11, .bool (decide (x5 > x1.f1)))] (by kernel_rfl) fun a hs => ?_
    refine s_end ?_
    rcases ifbE hx1550 with ⟨h1552, hx1550⟩ | ⟨h1552, hx1550⟩
    · refine c_cond1 hs (by kernel_rfl) (t := (decide (x5 > x1.f1))) (by kernel_rfl) h1552 ?_
      refine c_region ?_
      refine pures hs 1 [2, 4, 12] [(2, .pointer (some ⟨b785, 0, none⟩)), (4, .pointer (some ⟨b787, 0, none⟩)), (12, .pointer (some ⟨b785, 1, none⟩))] (by kernel_rfl) fun a hs => ?_
      refine s_load hs (hw.at_ 1 rfl) 1 (by kernel_rfl) (by kernel_rfl) (v := .int .u64 x1.f1) (by kernel_rfl) fun a hs => ?_
      refine pures hs 1 [2, 4, 1] [(2, .pointer (some ⟨b785, 0, none⟩)), (4, .pointer (some ⟨b787, 0, none⟩)), (1, .int .u64 x1.f1)] (by kernel_rfl) fun a hs => ?_
      refine s_end ?_
      obtain rfl := someE hx1550
      exact (hJ1551 _ _).2 ⟨x1.f1, hk, hs.cast [2, 4, 1] (by kernel_rfl), hw.pick [0, 1, 2] (by kernel_rfl)⟩
    refine c_cond0 hs (by kernel_rfl) (t := (decide (x5 > x1.f1))) (by kernel_rfl) h1552 ?_
    refine c_skip ?_
    obtain rfl := someE hx1550
    exact (hJ1551 _ _).2 ⟨x5, hk, hs.cast [2, 4, 1] (by kernel_rfl), hw.pick [0, 1, 2] (by kernel_rfl)⟩
  intro a w hh
  obtain ⟨x790, hk, hs, hw⟩ := (hJ1551 _ _).1 hh
  obtain ⟨y1544, hx1545, hk⟩ := bindE hk
  obtain ⟨J1546, hJ1546⟩ : ∃ J : Act → World → Prop, ∀ a w, J a w ↔ (∃ (x792 : Int), catenaryref20_Reach_r31 k x1 x792 = some r ∧ Sees a 59 [(2, .pointer (some ⟨b785, 0, none⟩)), (4, .pointer (some ⟨b787, 0, none⟩)), (1, .int .u64 x792)] ∧ St g w [bx b787 [.int .u64 0, .int .u64 0, .int .u64 0, .slice none 0 0] 58, bx b785 [.int .u64 x1.f0, .int .u64 x1.f1, .int .u64 x1.f2, .slice p2 x1.f3.length c3] 58, F] ih) := ⟨_, fun _ _ => Iff.rfl⟩
  refine c_seqJ J1546 ?_ ?_
  · refine c_seq ?_
    refine c_region ?_
    refine pures hs 2 [2, 4, 1, 14, 15] [(2, .pointer (some ⟨b785, 0, none⟩)), (4, .pointer (some ⟨b787, 0, none⟩)), (1, .int .u64 x790), (14, .int .u64 x790), (15, .pointer (some ⟨b785, 2, none⟩))] (by kernel_rfl) fun a hs => ?_
    refine s_load hs (hw.at_ 1 rfl) 2 (by kernel_rfl) (by kernel_rfl) (v := .int .u64 x1.f2) (by kernel_rfl) fun a hs => ?_
    refine pures hs 1 [2, 4, 1, 17] [(2, .pointer (some ⟨b785, 0, none⟩)), (4, .pointer (some ⟨b787, 0, none⟩)), (1, .int .u64 x790), (17, .bool (decide (x790 < x1.f2)))] (by kernel_rfl) fun a hs => ?_
    refine s_end ?_
    rcases ifbE hx1545 with ⟨h1547, hx1545⟩ | ⟨h1547, hx1545⟩
    · refine c_cond1 hs (by kernel_rfl) (t := (decide (x790 < x1.f2))) (by kernel_rfl) h1547 ?_
      refine c_region ?_
      refine pures hs 1 [2, 4, 18] [(2, .pointer (some ⟨b785, 0, none⟩)), (4, .pointer (some ⟨b787, 0, none⟩)), (18, .pointer (some ⟨b785, 2, none⟩))] (by kernel_rfl) fun a hs => ?_
      refine s_load hs (hw.at_ 1 rfl) 2 (by kernel_rfl) (by kernel_rfl) (v := .int .u64 x1.f2) (by kernel_rfl) fun a hs => ?_
      refine pures hs 1 [2, 4, 1] [(2, .pointer (some ⟨b785, 0, none⟩)), (4, .pointer (some ⟨b787, 0, none⟩)), (1, .int .u64 x1.f2)] (by kernel_rfl) fun a hs => ?_
      refine s_end ?_
      obtain rfl := someE hx1545
      exact (hJ1546 _ _).2 ⟨x1.f2, hk, hs.cast [2, 4, 1] (by kernel_rfl), hw.pick [0, 1, 2] (by kernel_rfl)⟩
    refine c_cond0 hs (by kernel_rfl) (t := (decide (x790 < x1.f2))) (by kernel_rfl) h1547 ?_
    refine c_skip ?_
    obtain rfl := someE hx1545
    exact (hJ1546 _ _).2 ⟨x790, hk, hs.cast [2, 4, 1] (by kernel_rfl), hw.pick [0, 1, 2] (by kernel_rfl)⟩
  intro a w hh
  obtain ⟨x792, hk, hs, hw⟩ := (hJ1546 _ _).1 hh
  refine c_seq ?_
  refine c_region ?_
  refine pures hs 1 [2, 4, 1, 6] [(2, .pointer (some ⟨b785, 0, none⟩)), (4, .pointer (some ⟨b787, 0, none⟩)), (1, .int .u64 x792), (6, .slice none 0 0)] (by kernel_rfl) fun a hs => ?_
  refine s_end ?_
  refine c_seq ?_
  refine c_seq ?_
  refine c_region ?_
  refine pures hs 1 [2, 4, 1, 6, 7] [(2, .pointer (some ⟨b785, 0, none⟩)), (4, .pointer (some ⟨b787, 0, none⟩)), (1, .int .u64 x792), (6, .slice none 0 0), (7, .int .i64 0)] (by kernel_rfl) fun a hs => ?_
  refine s_end ?_
  refine c_block ?_
  obtain ⟨y1362, hx1363, hk⟩ := bindE hk
  replace hw := hw.nil
  obtain ⟨J1364, hJ1364⟩ : ∃ J : Act → World → Prop, ∀ a w, J a w ↔ (∃ (x1342 : List M26) (p1343 : Option Addr) (c1344 : Nat) (d1346 : Ch), catenaryref20_Reach_r26 k x1 x792 x1342 = some r ∧ Sees a 59 [(2, .pointer (some ⟨b785, 0, none⟩)), (4, .pointer (some ⟨b787, 0, none⟩)), (1, .int .u64 x792), (6, .slice p1343 x1342.length c1344)] ∧ St g w [bx b787 [.int .u64 0, .int .u64 0, .int .u64 0, .slice none 0 0] 58, bx b785 [.int .u64 x1.f0, .int .u64 x1.f1, .int .u64 x1.f2, .slice p2 x1.f3.length c3] 58, d1346, F] ih ∧ OSl e26 ih p1343 c1344 x1342 d1346) := ⟨_, fun _ _ => Iff.rfl⟩
  obtain ⟨I1365, hI1365⟩ : ∃ J : Nat → Act → World → Prop, ∀ j a w, J j a w ↔ (∃ (x1160 : List M26) (x1166 : Int) (p1161 : Option Addr) (c1162 : Nat) (d1164 : Ch), catenaryref20_Reach_l27 x1 x792 j x1160 x1166 = some y1362 ∧ Sees a 59 [(2, .pointer (some ⟨b785, 0, none⟩)), (4, .pointer (some ⟨b787, 0, none⟩)), (1, .int .u64 x792), (6, .slice p1161 x1160.length c1162), (7, .int .i64 x1166)] ∧ St g w [bx b787 [.int .u64 0, .int .u64 0, .int .u64 0, .slice none 0 0] 58, bx b785 [.int .u64 x1.f0, .int .u64 x1.f1, .int .u64 x1.f2, .slice p2 x1.f3.length c3] 58, d1164, F] ih ∧ OSl e26 ih p1161 c1162 x1160 d1164) := ⟨_, fun _ _ _ => Iff.rfl⟩
  refine c_exitJ 0 J1364 ?_ ?_
  · refine c_loop I1365 k ((hI1365 _ _ _).2 ⟨([]), 0, none, 0, ([]), hx1363, hs.cast [2, 4, 1, 6, 7] (by kernel_rfl), hw.pick [1, 2, 0, 3] (by kernel_rfl), (OSl.nil _ _)⟩) (fun a w h0 => ?_) fun j a w hh => ?_
    · obtain ⟨_, _, _, _, _, h, _⟩ := (hI1365 _ _ _).1 h0
      cases h
    obtain ⟨x1160, x1166, p1161, c1162, d1164, hx1363, hs, hw, h1163⟩ := (hI1365 _ _ _).1 hh
    refine c_seq ?_
    refine c_seq ?_
    refine c_region ?_
    refine pures hs 2 [2, 4, 1, 6, 7, 20, 21] [(2, .pointer (some ⟨b785, 0, none⟩)), (4, .pointer (some ⟨b787, 0, none⟩)), (1, .int .u64 x792), (6, .slice p1161 x1160.length c1162), (7, .int .i64 x1166), (20, .int .i64 x1166), (21, .pointer (some ⟨b785, 3, none⟩))] (by kernel_rfl) fun a hs => ?_
    refine s_load hs (hw.at_ 1 rfl) 3 (by kernel_rfl) (by kernel_rfl) (v := .slice p2 x1.f3.length c3) (by kernel_rfl) fun a hs => ?_
    refine pures hs 2 [2, 4, 1, 6, 7, 24] [(2, .pointer (some ⟨b785, 0, none⟩)), (4, .pointer (some ⟨b787, 0, none⟩)), (1, .int .u64 x792), (6, .slice p1161 x1160.length c1162), (7, .int .i64 x1166), (24, .bool (decide (x1166 < (x1.f3.length : Int))))] (by kernel_rfl) fun a hs => ?_
    refine s_end ?_
    rcases ifbE hx1363 with ⟨h1366, hx1363⟩ | ⟨h1366, hx1363⟩
    · refine c_cond1 hs (by kernel_rfl) (t := (decide (x1166 < (x1.f3.length : Int)))) (by kernel_rfl) h1366 ?_
      refine c_skip ?_
      obtain ⟨y1455, hx1456, hx1363⟩ := bindE hx1363
      obtain ⟨J1457, hJ1457⟩ : ∃ J : Act → World → Prop, ∀ a w, J a w ↔ (∃ (x1449 : List M26) (p1450 : Option Addr) (c1451 : Nat) (d1453 : Ch), catenaryref20_Reach_r29 (catenaryref20_Reach_l27 x1 x792 j) x1166 x1449 = some y1362 ∧ Sees a 59 [(2, .pointer (some ⟨b785, 0, none⟩)), (4, .pointer (some ⟨b787, 0, none⟩)), (1, .int .u64 x792), (7, .int .i64 x1166), (6, .slice p1450 x1449.length c1451)] ∧ St g w [bx b787 [.int .u64 0, .int .u64 0, .int .u64 0, .slice none 0 0] 58, bx b785 [.int .u64 x1.f0, .int .u64 x1.f1, .int .u64 x1.f2, .slice p2 x1.f3.length c3] 58, d1453, F] ih ∧ OSl e26 ih p1450 c1451 x1449 d1453) := ⟨_, fun _ _ => Iff.rfl⟩
      refine c_seqJ J1457 ?_ ?_
      · refine c_block ?_
        refine c_seq ?_
        obtain ⟨S1458, hS1458, kS1458⟩ := mkSX (X := [([], bx b787 [.int .u64 0, .int .u64 0, .int .u64 0, .slice none 0 0] 58), ([], bx b785 [.int .u64 x1.f0, .int .u64 x1.f1, .int .u64 x1.f2, .slice p2 x1.f3.length c3] 58), ([], d1164), ([], F)]) (ih := ih) (K := []) rfl
        obtain ⟨y1521, hx1522, hx1456⟩ := bindE hx1456
        obtain ⟨J1523, hJ1523⟩ : ∃ J : Act → World → Prop, ∀ a w, J a w ↔ (∃ (x1489 : Bool), catenaryref20_Reach_r30 x1 x1166 x1160 x1489 = some y1455 ∧ Sees a 59 [(2, .pointer (some ⟨b785, 0, none⟩)), (4, .pointer (some ⟨b787, 0, none⟩)), (1, .int .u64 x792), (6, .slice p1161 x1160.length c1162), (7, .int .i64 x1166), (45, .bool x1489)] ∧ St g w [bx b787 [.int .u64 0, .int .u64 0, .int .u64 0, .slice none 0 0] 58, bx b785 [.int .u64 x1.f0, .int .u64 x1.f1, .int .u64 x1.f2, .slice p2 x1.f3.length c3] 58, d1164, F] ih) := ⟨_, fun _ _ => Iff.rfl⟩
        refine c_draw (by kernel_rfl) (N := 19) rfl S1458 J1523 ?_ ?_
        · have hw := hw.drew
          have hS : S1458 (Array.replicate 19 false) _ := SX_now hS1458 (hw.vws [0, 1, 2, 3]) (by kernel_rfl)
          refine d_pures (fuel := 18) kS1458 hs hS [0] [2, 4, 1, 6, 7, 27] [(2, .pointer (some ⟨b785, 0, none⟩)), (4, .pointer (some ⟨b787, 0, none⟩)), (1, .int .u64 x792), (6, .slice p1161 x1160.length c1162), (7, .int .i64 x1166), (27, .pointer (some ⟨b785, 3, none⟩))] (by kernel_rfl) fun a hs hS => ?_
          refine d_load (fuel := 17) kS1458 hs hS 1 rfl (by kernel_rfl) (SX_box hS1458 1 rfl (by kernel_rfl)) 3 (by kernel_rfl) (by kernel_rfl) (v := .slice p2 x1.f3.length c3) (by kernel_rfl) fun a hs hS => ?_
          refine d_pures (fuel := 16) kS1458 hs hS [2] [2, 4, 1, 6, 7, 27, 28, 29] [(2, .pointer (some ⟨b785, 0, none⟩)), (4, .pointer (some ⟨b787, 0, none⟩)), (1, .int .u64 x792), (6, .slice p1161 x1160.length c1162), (7, .int .i64 x1166), (27, .pointer (some ⟨b785, 3, none⟩)), (28, .slice p2 x1.f3.length c3), (29, .int .i64 x1166)] (by kernel_rfl) fun a hs hS => ?_
          obtain ⟨x1524, h1525, hx1522⟩ := bindE hx1522
          refine d_index (fuel := 15) kS1458 hs hS 3 rfl (by kernel_rfl) h4 (by kernel_rfl) (by kernel_rfl) (k := .i64) (by kernel_rfl) 26 (by kernel_rfl) (by kernel_rfl) h1525 fun a r1526 cs henc at1527 hs hS => ?_
          obtain ⟨p1528, c1529, rfl, h1530⟩ := henc
          refine d_pures (fuel := 14) kS1458 hs hS [4] [2, 4, 1, 6, 7, 27, 28, 29, 30, 31] [(2, .pointer (some ⟨b785, 0, none⟩)), (4, .pointer (some ⟨b787, 0, none⟩)), (1, .int .u64 x792), (6, .slice p1161 x1160.length c1162), (7, .int .i64 x1166), (27, .pointer (some ⟨b785, 3, none⟩)), (28, .slice p2 x1.f3.length c3), (29, .int .i64 x1166), (30, .pointer (some r1526)), (31, .pointer (some r1526))] (by kernel_rfl) fun a hs hS => ?_
          refine d_load (fuel := 13) kS1458 hs hS 5 rfl (by kernel_rfl) (fun l w hu hS => at1527 w ((SX_nil hS1458 l w hu hS).anti (Le.refl _))) 0 (by kernel_rfl) (by kernel_rfl) (v := .int .u64 x1524.f0) (by kernel_rfl) fun a hs hS => ?_
          refine d_pures (fuel := 12) kS1458 hs hS [6] [2, 4, 1, 6, 7, 27, 28, 29, 30, 31, 32, 33] [(2, .pointer (some ⟨b785, 0, none⟩)), (4, .pointer (some ⟨b787, 0, none⟩)), (1, .int .u64 x792), (6, .slice p1161 x1160.length c1162), (7, .int .i64 x1166), (27, .pointer (some ⟨b785, 3, none⟩)), (28, .slice p2 x1.f3.length c3), (29, .int .i64 x1166), (30, .pointer (some r1526)), (31, .pointer (some r1526)), (32, .int .u64 x1524.f0), (33, .pointer (some ⟨b785, 2, none⟩))] (by kernel_rfl) fun a hs hS => ?_
          refine d_load (fuel := 11) kS1458 hs hS 7 rfl (by kernel_rfl) (SX_box hS1458 1 rfl (by kernel_rfl)) 2 (by kernel_rfl) (by kernel_rfl) (v := .int .u64 x1.f2) (by kernel_rfl) fun a hs hS => ?_
          refine d_pures (fuel := 9) kS1458 hs hS [8, 9] [2, 4, 1, 6, 7, 27, 28, 29, 30, 31, 32, 33, 34, 35, 36] [(2, .pointer (some ⟨b785, 0, none⟩)), (4, .pointer (some ⟨b787, 0, none⟩)), (1, .int .u64 x792), (6, .slice p1161 x1160.length c1162), (7, .int .i64 x1166), (27, .pointer (some ⟨b785, 3, none⟩)), (28, .slice p2 x1.f3.length c3), (29, .int .i64 x1166), (30, .pointer (some r1526)), (31, .pointer (some r1526)), (32, .int .u64 x1524.f0), (33, .pointer (some ⟨b785, 2, none⟩)), (34, .int .u64 x1.f2), (35, .bool (decide (x1524.f0 > x1.f2))), (36, .bool (decide (x1524.f0 > x1.f2)))] (by kernel_rfl) fun a hs hS => ?_
          rcases ifbE hx1522 with ⟨h1531, hx1522⟩ | ⟨h1531, hx1522⟩
          · replace hs := hs.altB 36 true (by kernel_rfl) h1531
            refine d_pures (fuel := 8) kS1458 hs hS [10] [2, 4, 1, 6, 7, 27, 28, 29, 30, 31, 32, 33, 34, 35, 36, 37] [(2, .pointer (some ⟨b785, 0, none⟩)), (4, .pointer (some ⟨b787, 0, none⟩)), (1, .int .u64 x792), (6, .slice p1161 x1160.length c1162), (7, .int .i64 x1166), (27, .pointer (some ⟨b785, 3, none⟩)), (28, .slice p2 x1.f3.length c3), (29, .int .i64 x1166), (30, .pointer (some r1526)), (31, .pointer (some r1526)), (32, .int .u64 x1524.f0), (33, .pointer (some ⟨b785, 2, none⟩)), (34, .int .u64 x1.f2), (35, .bool (decide (x1524.f0 > x1.f2))), (36, .bool true), (37, .pointer (some ⟨b785, 3, none⟩))] (by kernel_rfl) fun a hs hS => ?_
            refine d_load (fuel := 7) kS1458 hs hS 11 rfl (by kernel_rfl) (SX_box hS1458 1 rfl (by kernel_rfl)) 3 (by kernel_rfl) (by kernel_rfl) (v := .slice p2 x1.f3.length c3) (by kernel_rfl) fun a hs hS => ?_
            refine d_pures (fuel := 6) kS1458 hs hS [12] [2, 4, 1, 6, 7, 27, 28, 29, 30, 31, 32, 33, 34, 35, 36, 37, 38, 39] [(2, .pointer (some ⟨b785, 0, none⟩)), (4, .pointer (some ⟨b787, 0, none⟩)), (1, .int .u64 x792), (6, .slice p1161 x1160.length c1162), (7, .int .i64 x1166), (27, .pointer (some ⟨b785, 3, none⟩)), (28, .slice p2 x1.f3.length c3), (29, .int .i64 x1166), (30, .pointer (some r1526)), (31, .pointer (some r1526)), (32, .int .u64 x1524.f0), (33, .pointer (some ⟨b785, 2, none⟩)), (34, .int .u64 x1.f2), (35, .bool (decide (x1524.f0 > x1.f2))), (36, .bool true), (37, .pointer (some ⟨b785, 3, none⟩)), (38, .slice p2 x1.f3.length c3), (39, .int .i64 x1166)] (by kernel_rfl) fun a hs hS => ?_
            obtain ⟨x1532, h1533, hx1522⟩ := bindE hx1522
            refine d_index (fuel := 5) kS1458 hs hS 13 rfl (by kernel_rfl) h4 (by kernel_rfl) (by kernel_rfl) (k := .i64) (by kernel_rfl) 26 (by kernel_rfl) (by kernel_rfl) h1533 fun a r1534 cs henc at1535 hs hS => ?_
            obtain ⟨p1536, c1537, rfl, h1538⟩ := henc
            refine d_pures (fuel := 4) kS1458 hs hS [14] [2, 4, 1, 6, 7, 27, 28, 29, 30, 31, 32, 33, 34, 35, 36, 37, 38, 39, 40, 41] [(2, .pointer (some ⟨b785, 0, none⟩)), (4, .pointer (some ⟨b787, 0, none⟩)), (1, .int .u64 x792), (6, .slice p1161 x1160.length c1162), (7, .int .i64 x1166), (27, .pointer (some ⟨b785, 3, none⟩)), (28, .slice p2 x1.f3.length c3), (29, .int .i64 x1166), (30, .pointer (some r1526)), (31, .pointer (some r1526)), (32, .int .u64 x1524.f0), (33, .pointer (some ⟨b785, 2, none⟩)), (34, .int .u64 x1.f2), (35, .bool (decide (x1524.f0 > x1.f2))), (36, .bool true), (37, .pointer (some ⟨b785, 3, none⟩)), (38, .slice p2 x1.f3.length c3), (39, .int .i64 x1166), (40, .pointer (some r1534)), (41, .pointer (some r1534))] (by kernel_rfl) fun a hs hS => ?_
            refine d_load (fuel := 3) kS1458 hs hS 15 rfl (by kernel_rfl) (fun l w hu hS => at1535 w ((SX_nil hS1458 l w hu hS).anti (Le.refl _))) 0 (by kernel_rfl) (by kernel_rfl) (v := .int .u64 x1532.f0) (by kernel_rfl) fun a hs hS => ?_
            refine d_pures (fuel := 0) kS1458 hs hS [16, 17, 18] [2, 4, 1, 6, 7, 27, 28, 29, 30, 31, 32, 33, 34, 35, 36, 37, 38, 39, 40, 41, 42, 43, 44, 45] [(2, .pointer (some ⟨b785, 0, none⟩)), (4, .pointer (some ⟨b787, 0, none⟩)), (1, .int .u64 x792), (6, .slice p1161 x1160.length c1162), (7, .int .i64 x1166), (27, .pointer (some ⟨b785, 3, none⟩)), (28, .slice p2 x1.f3.length c3), (29, .int .i64 x1166), (30, .pointer (some r1526)), (31, .pointer (some r1526)), (32, .int .u64 x1524.f0), (33, .pointer (some ⟨b785, 2, none⟩)), (34, .int .u64 x1.f2), (35, .bool (decide (x1524.f0 > x1.f2))), (36, .bool true), (37, .pointer (some ⟨b785, 3, none⟩)), (38, .slice p2 x1.f3.length c3), (39, .int .i64 x1166), (40, .pointer (some r1534)), (41, .pointer (some r1534)), (42, .int .u64 x1532.f0), (43, .int .u64 x792), (44, .bool (decide (x1532.f0 ≤ x792))), (45, .bool (decide (x1532.f0 ≤ x792)))] (by kernel_rfl) fun a hs hS => ?_
            refine d_done (by kernel_rfl) ?_
            obtain rfl := someE hx1522
            exact (hJ1523 _ _).2 ⟨(decide (x1532.f0 ≤ x792)), hx1456, hs.cast [2, 4, 1, 6, 7, 45] (by kernel_rfl), hw.pick [0, 1, 2, 3] (by kernel_rfl)⟩
          replace hs := hs.altB 36 false (by kernel_rfl) h1531
          refine d_pures (fuel := 0) kS1458 hs hS [10, 11, 12, 13, 14, 15, 16, 17, 18] [2, 4, 1, 6, 7, 27, 28, 29, 30, 31, 32, 33, 34, 35, 36, 37, 38, 39, 40, 41, 42, 43, 44, 45] [(2, .pointer (some ⟨b785, 0, none⟩)), (4, .pointer (some ⟨b787, 0, none⟩)), (1, .int .u64 x792), (6, .slice p1161 x1160.length c1162), (7, .int .i64 x1166), (27, .pointer (some ⟨b785, 3, none⟩)), (28, .slice p2 x1.f3.length c3), (29, .int .i64 x1166), (30, .pointer (some r1526)), (31, .pointer (some r1526)), (32, .int .u64 x1524.f0), (33, .pointer (some ⟨b785, 2, none⟩)), (34, .int .u64 x1.f2), (35, .bool (decide (x1524.f0 > x1.f2))), (36, .bool false), (37, undef), (38, undef), (39, undef), (40, undef), (41, undef), (42, undef), (43, undef), (44, undef), (45, .bool false)] (by kernel_rfl) fun a hs hS => ?_
          refine d_done (by kernel_rfl) ?_
          obtain rfl := someE hx1522
          exact (hJ1523 _ _).2 ⟨false, hx1456, hs.cast [2, 4, 1, 6, 7, 45] (by kernel_rfl), hw.pick [0, 1, 2, 3] (by kernel_rfl)⟩
        intro a w hh
        obtain ⟨x1489, hx1456, hs, hw⟩ := (hJ1523 _ _).1 hh
        rcases ifbE hx1456 with ⟨h1490, hx1456⟩ | ⟨h1490, hx1456⟩
        · refine c_cond1 hs (by kernel_rfl) (t := x1489) (by kernel_rfl) h1490 ?_
          refine c_region ?_
          refine pures hs 2 [2, 4, 1, 7, 46, 47] [(2, .pointer (some ⟨b785, 0, none⟩)), (4, .pointer (some ⟨b787, 0, none⟩)), (1, .int .u64 x792), (7, .int .i64 x1166), (46, .slice p1161 x1160.length c1162), (47, .pointer (some ⟨b785, 3, none⟩))] (by kernel_rfl) fun a hs => ?_
          refine s_load hs (hw.at_ 1 rfl) 3 (by kernel_rfl) (by kernel_rfl) (v := .slice p2 x1.f3.length c3) (by kernel_rfl) fun a hs => ?_
          refine pures hs 1 [2, 4, 1, 7, 46, 48, 49] [(2, .pointer (some ⟨b785, 0, none⟩)), (4, .pointer (some ⟨b787, 0, none⟩)), (1, .int .u64 x792), (7, .int .i64 x1166), (46, .slice p1161 x1160.length c1162), (48, .slice p2 x1.f3.length c3), (49, .int .i64 x1166)] (by kernel_rfl) fun a hs => ?_
          obtain ⟨x1506, h1507, hx1456⟩ := bindE hx1456
          refine s_index hs h4 (by kernel_rfl) (by kernel_rfl) (k := .i64) (by kernel_rfl) 26 (by kernel_rfl) (by kernel_rfl) h1507 fun a r1508 cs henc at1509 hs => ?_
          obtain ⟨p1510, c1511, rfl, h1512⟩ := henc
          refine s_load hs (at1509 _ (hw.vwAll.nil.anti (Le.refl _))) 0 (by kernel_rfl) (by kernel_rfl) (v := .agg #[.int .u64 x1506.f0, .int .i64 x1506.f1, .int .u64 x1506.f2, .int .i64 x1506.f3, .int .u32 x1506.f4, .int .u64 x1506.f5, .slice p1510 x1506.f6.length c1511]) (by kernel_rfl) fun a hs => ?_
          refine s_new hs hw [.int .u64 x1506.f0, .int .i64 x1506.f1, .int .u64 x1506.f2, .int .i64 x1506.f3, .int .u32 x1506.f4, .int .u64 x1506.f5, .slice p1510 x1506.f6.length c1511] 26 (fun b => .slice (some ⟨b, 0, none⟩) 1 1) (by kernel_rfl) (fun _ => by kernel_rfl) fun a w b1513 hs hw => ?_
          obtain ⟨x1515, h1516, hx1456⟩ := bindE hx1456
          refine s_app1 hs hw (E := e26) appT28 3 rfl h1163 (by kernel_rfl) (by kernel_rfl) (c2 := 1) (by kernel_rfl) (hw.at_ 0 rfl) (z := x1506) ⟨p1510, c1511, rfl, h1512⟩ h1516 fun a w p1517 c1518 d1519 h1520 hw hs => ?_
          refine pures hs 1 [2, 4, 1, 7, 6] [(2, .pointer (some ⟨b785, 0, none⟩)), (4, .pointer (some ⟨b787, 0, none⟩)), (1, .int .u64 x792), (7, .int .i64 x1166), (6, .slice p1517 x1515.length c1518)] (by kernel_rfl) fun a hs => ?_
          refine s_end ?_
          obtain rfl := someE hx1456
          exact (hJ1457 _ _).2 ⟨x1515, p1517, c1518, d1519, hx1363, hs.cast [2, 4, 1, 7, 6] (by kernel_rfl), hw.pick [1, 2, 3, 4] (by kernel_rfl), h1520⟩
        refine c_cond0 hs (by kernel_rfl) (t := x1489) (by kernel_rfl) h1490 ?_
        refine c_skip ?_
        obtain rfl := someE hx1456
        exact (hJ1457 _ _).2 ⟨x1160, p1161, c1162, d1164, hx1363, hs.cast [2, 4, 1, 7, 6] (by kernel_rfl), hw.pick [0, 1, 2, 3] (by kernel_rfl), h1163⟩
      intro a w hh
      obtain ⟨x1449, p1450, c1451, d1453, hx1363, hs, hw, h1452⟩ := (hJ1457 _ _).1 hh
      refine c_region ?_
      refine pures hs 3 [2, 4, 1, 7, 6] [(2, .pointer (some ⟨b785, 0, none⟩)), (4, .pointer (some ⟨b787, 0, none⟩)), (1, .int .u64 x792), (7, .int .i64 (IntKind.i64.wrap (x1166 + 1))), (6, .slice p1450 x1449.length c1451)] (by kernel_rfl) fun a hs => ?_
      refine s_end ?_
      exact (hI1365 _ _ _).2 ⟨x1449, (IntKind.i64.wrap (x1166 + 1)), p1450, c1451, d1453, hx1363, hs.cast [2, 4, 1, 6, 7] (by kernel_rfl), hw.pick [0, 1, 2, 3] (by kernel_rfl), h1452⟩
    refine c_cond0 hs (by kernel_rfl) (t := (decide (x1166 < (x1.f3.length : Int)))) (by kernel_rfl) h1366 ?_
    refine c_exit ?_
    obtain rfl := someE hx1363
    exact (hJ1364 _ _).2 ⟨x1160, p1161, c1162, d1164, hk, hs.cast [2, 4, 1, 6] (by kernel_rfl), hw.pick [0, 1, 2, 3] (by kernel_rfl), h1163⟩
  intro a w hh
  obtain ⟨x1342, p1343, c1344, d1346, hk, hs, hw, h1345⟩ := (hJ1364 _ _).1 hh
  refine c_seq ?_
  refine c_region ?_
  refine pures hs 2 [2, 4, 6, 54, 55] [(2, .pointer (some ⟨b785, 0, none⟩)), (4, .pointer (some ⟨b787, 0, none⟩)), (6, .slice p1343 x1342.length c1344), (54, .int .u64 x792), (55, .pointer (some ⟨b785, 2, none⟩))] (by kernel_rfl) fun a hs => ?_
  refine s_store hs hw 1 rfl 2 (by kernel_rfl) (by kernel_rfl) (v := .int .u64 x792) (by kernel_rfl) (by kernel_rfl) (by kernel_rfl) (by kernel_rfl) fun a w hs hw => ?_
  refine s_end ?_
  refine c_seq ?_
  refine c_region ?_
  refine s_load hs (hw.at_ 1 rfl) 0 (by kernel_rfl) (by kernel_rfl) (v := .agg #[.int .u64 x1.f0, .int .u64 x1.f1, .int .u64 x792, .slice p2 x1.f3.length c3]) (by kernel_rfl) fun a hs => ?_
  obtain ⟨y1355, h1356, hk⟩ := bindE hk
  refine s_call hs (by kernel_rfl) (by kernel_rfl) (catenaryref20_kept_s h1356 h4 ((hw.pick [0, 2, 3] (by kernel_rfl)).pack 0)) fun a w v hv hs => ?_
  obtain ⟨ih1357, p1359, c1360, rfl, hw, hle1358, h1361⟩ := hv
  replace hw := hw.unpack 0 rfl
  refine pures hs 1 [4, 57, 58] [(4, .pointer (some ⟨b787, 0, none⟩)), (57, .agg #[.int .u64 y1355.f0, .int .u64 y1355.f1, .int .u64 y1355.f2, .slice p1359 y1355.f3.length c1360]), (58, .slice p1343 x1342.length c1344)] (by kernel_rfl) fun a hs => ?_
  refine s_store hs hw 0 rfl 0 (by kernel_rfl) (by kernel_rfl) (v := .agg #[.int .u64 y1355.f0, .int .u64 y1355.f1, .int .u64 y1355.f2, .slice p1359 y1355.f3.length c1360]) (by kernel_rfl) (by kernel_rfl) (by kernel_rfl) (by kernel_rfl) fun a w hs hw => ?_
  refine pures hs 1 [4, 5] [(4, .pointer (some ⟨b787, 0, none⟩)), (5, .slice p1343 x1342.length c1344)] (by kernel_rfl) fun a hs => ?_
  refine s_end ?_
  refine c_ret ?_
  obtain rfl := someE hk
  refine hQ _ _ (f_retG hs (l := [.cell 4 58, .tmp 5]) (vs := [.agg #[.int .u64 y1355.f0, .int .u64 y1355.f1, .int .u64 y1355.f2, .slice p1359 y1355.f3.length c1360], .slice p1343 x1342.length c1344]) rfl (⟨res_cell hs (hw.at_ 0 rfl) (by kernel_rfl) (v := .agg #[.int .u64 y1355.f0, .int .u64 y1355.f1, .int .u64 y1355.f2, .slice p1359 y1355.f3.length c1360]) (by kernel_rfl), ⟨res_tmp hs (v := .slice p1343 x1342.length c1344) (by kernel_rfl), trivial⟩⟩) (by kernel_rfl) ⟨ih1357, p1359, c1360, p1343, c1344, d1346, rfl, hw.pick [1, 2] (by kernel_rfl), hle1358, h1361, (h1345.mono hle1358)⟩)
def catenaryref01_Same_r10 : Option Bool :=
  some true
def catenaryref01_Same_r12 (rec_catenaryref01_Same_l11 : Int → Option (Sum Bool Unit)) (x217 : Int) (x272 : Bool) : Option (Sum Bool Unit) :=
  if x272 = true then some (.inl false)
  else rec_catenaryref01_Same_l11 (IntKind.i64.wrap (x217 + 1))
def catenaryref01_Same_l11 (x1 : List Int) (x7 : List Int) : Nat → Int → Option (Sum Bool Unit)
  | 0, _ => none
  | j + 1, x217 =>
    if (decide (x217 < (x1.length : Int))) = true then (
      ((ix x1 x217).bind fun x277 =>
        (ix x7 x217).bind fun x281 =>
        some (x277 != x281) : Option Bool).bind fun s285 => catenaryref01_Same_r12 (catenaryref01_Same_l11 x1 x7 j) x217 s285)
    else some (.inr ())
def catenaryref01_Same (k : Nat) (x1 : List Int) (x7 : List Int) : Option Bool :=
  if ((x1.length : Int) != (x7.length : Int)) = true then some false
  else (catenaryref01_Same_l11 x1 x7 k 0 : Option (Sum Bool Unit)).bind fun
    | .inl z => some z
    | .inr _ => catenaryref01_Same_r10
theorem catenaryref01_Same_s {k : Nat} {x1 : List Int} {x7 : List Int} {p2 : Option Addr} {c3 : Nat} {d5 : Ch} {p8 : Option Addr} {c9 : Nat} {d11 : Ch} {r : Bool} (hk : catenaryref01_Same k x1 x7 = some r) {g w : World} {F : Ch} {ih : IH} (h4 : RSl e5 ih d5 p2 c3 x1) (h6 : ∀ q ∈ d5, q ∈ F) (h10 : RSl e5 ih d11 p8 c9 x7) (h12 : ∀ q ∈ d11, q ∈ F) (hw : St g w [F] ih) :
    CallsR Tryz.prog 45 #[.slice p2 x1.length c3, .slice p8 x7.length c9] w fun v w' => v = .bool r ∧ St g w' [F] ih := by
  refine f_in (vs := [.slice p2 x1.length c3, .slice p8 x7.length c9]) Tryz.func45 rfl 26 rfl (by kernel_rfl) [(0, .slice p2 x1.length c3), (1, .slice p8 x7.length c9)] (by kernel_rfl) fun a Qf hQ hQn hs => ?_
  refine c_seq ?_
  refine c_region ?_
  refine pures hs 1 [0, 1] [(0, .slice p2 x1.length c3), (1, .slice p8 x7.length c9)] (by kernel_rfl) fun a hs => ?_
  refine s_end ?_
  refine c_seq ?_
  refine c_seq ?_
  refine c_region ?_
  refine pures hs 5 [0, 1, 10] [(0, .slice p2 x1.length c3), (1, .slice p8 x7.length c9), (10, .bool ((x1.length : Int) != (x7.length : Int)))] (by kernel_rfl) fun a hs => ?_
  refine s_end ?_
  rcases ifbE hk with ⟨h151, hk⟩ | ⟨h151, hk⟩
  · refine c_cond1 hs (by kernel_rfl) (t := ((x1.length : Int) != (x7.length : Int))) (by kernel_rfl) h151 ?_
    refine c_seq ?_
    refine c_region ?_
    refine pures hs 1 [4] [(4, .bool false)] (by kernel_rfl) fun a hs => ?_
    refine s_end ?_
    refine c_ret ?_
    obtain rfl := someE hk
    refine hQ _ _ (f_ret1 hs rfl (v := .bool false) (by kernel_rfl) ⟨rfl, hw.pick [0] (by kernel_rfl)⟩)
  refine c_cond0 hs (by kernel_rfl) (t := ((x1.length : Int) != (x7.length : Int))) (by kernel_rfl) h151 ?_
  refine c_skip ?_
  refine c_seq ?_
  refine c_seq ?_
  refine c_region ?_
  refine pures hs 1 [0, 1, 5] [(0, .slice p2 x1.length c3), (1, .slice p8 x7.length c9), (5, .int .i64 0)] (by kernel_rfl) fun a hs => ?_
  refine s_end ?_
  refine c_block ?_
  obtain ⟨y250, hx251, hk⟩ := bindE hk
  obtain ⟨J252, hJ252⟩ : ∃ J : Act → World → Prop, ∀ a w, J a w ↔ (catenaryref01_Same_r10 = some r ∧ Sees a 26 [] ∧ St g w [F] ih) := ⟨_, fun _ _ => Iff.rfl⟩
  obtain ⟨I253, hI253⟩ : ∃ J : Nat → Act → World → Prop, ∀ j a w, J j a w ↔ (∃ (x217 : Int), catenaryref01_Same_l11 x1 x7 j x217 = some y250 ∧ Sees a 26 [(0, .slice p2 x1.length c3), (1, .slice p8 x7.length c9), (5, .int .i64 x217)] ∧ St g w [F] ih) := ⟨_, fun _ _ _ => Iff.rfl⟩
  refine c_exitJ 0 J252 ?_ ?_
  · refine c_loop I253 k ((hI253 _ _ _).2 ⟨0, hx251, hs.cast [0, 1, 5] (by kernel_rfl), hw.pick [0] (by kernel_rfl)⟩) (fun a w h0 => ?_) fun j a w hh => ?_
    · obtain ⟨_, h, _⟩ := (hI253 _ _ _).1 h0
      cases h
    obtain ⟨x217, hx251, hs, hw⟩ := (hI253 _ _ _).1 hh
    refine c_seq ?_
    refine c_seq ?_
    refine c_region ?_
    refine pures hs 4 [0, 1, 5, 14] [(0, .slice p2 x1.length c3), (1, .slice p8 x7.length c9), (5, .int .i64 x217), (14, .bool (decide (x217 < (x1.length : Int))))] (by kernel_rfl) fun a hs => ?_
    refine s_end ?_
    rcases ifbE hx251 with ⟨h254, hx251⟩ | ⟨h254, hx251⟩
    · refine c_cond1 hs (by kernel_rfl) (t := (decide (x217 < (x1.length : Int)))) (by kernel_rfl) h254 ?_
      refine c_skip ?_
      refine c_seq ?_
      refine c_block ?_
      refine c_seq ?_
      obtain ⟨S255, hS255, kS255⟩ := mkSX (X := [([], F)]) (ih := ih) (K := []) rfl
      obtain ⟨y274, hx275, hx251⟩ := bindE hx251
      obtain ⟨J276, hJ276⟩ : ∃ J : Act → World → Prop, ∀ a w, J a w ↔ (∃ (x272 : Bool), catenaryref01_Same_r12 (catenaryref01_Same_l11 x1 x7 j) x217 x272 = some y250 ∧ Sees a 26 [(0, .slice p2 x1.length c3), (1, .slice p8 x7.length c9), (5, .int .i64 x217), (25, .bool x272)] ∧ St g w [F] ih) := ⟨_, fun _ _ => Iff.rfl⟩
      refine c_draw (by kernel_rfl) (N := 9) rfl S255 J276 ?_ ?_
      · have hw := hw.drew
        have hS : S255 (Array.replicate 9 false) _ := SX_now hS255 (hw.vws [0]) (by kernel_rfl)
        refine d_pures (fuel := 7) kS255 hs hS [0, 1] [0, 1, 5, 17, 18] [(0, .slice p2 x1.length c3), (1, .slice p8 x7.length c9), (5, .int .i64 x217), (17, .slice p2 x1.length c3), (18, .int .i64 x217)] (by kernel_rfl) fun a hs hS => ?_
        obtain ⟨x277, h278, hx275⟩ := bindE hx275
        refine d_index (fuel := 6) kS255 hs hS 2 rfl (by kernel_rfl) h4 (by kernel_rfl) (by kernel_rfl) (k := .i64) (by kernel_rfl) 5 (by kernel_rfl) (by kernel_rfl) h278 fun a r279 cs henc at280 hs hS => ?_
        obtain rfl := henc
        refine d_load (fuel := 5) kS255 hs hS 3 rfl (by kernel_rfl) (fun l w hu hS => at280 w (((SX_ch hS255 0 rfl (by kernel_rfl) l w hu hS).sub h6).anti (Le.refl _))) 0 (by kernel_rfl) (by kernel_rfl) (v := .int .u8 x277) (by kernel_rfl) fun a hs hS => ?_
        refine d_pures (fuel := 3) kS255 hs hS [4, 5] [0, 1, 5, 17, 18, 19, 20, 21, 22] [(0, .slice p2 x1.length c3), (1, .slice p8 x7.length c9), (5, .int .i64 x217), (17, .slice p2 x1.length c3), (18, .int .i64 x217), (19, .pointer (some r279)), (20, .int .u8 x277), (21, .slice p8 x7.length c9), (22, .int .i64 x217)] (by kernel_rfl) fun a hs hS => ?_
        obtain ⟨x281, h282, hx275⟩ := bindE hx275
        refine d_index (fuel := 2) kS255 hs hS 6 rfl (by kernel_rfl) h10 (by kernel_rfl) (by kernel_rfl) (k := .i64) (by kernel_rfl) 5 (by kernel_rfl) (by kernel_rfl) h282 fun a r283 cs henc at284 hs hS => ?_
        obtain rfl := henc
        refine d_load (fuel := 1) kS255 hs hS 7 rfl (by kernel_rfl) (fun l w hu hS => at284 w (((SX_ch hS255 0 rfl (by kernel_rfl) l w hu hS).sub h12).anti (Le.refl _))) 0 (by kernel_rfl) (by kernel_rfl) (v := .int .u8 x281) (by kernel_rfl) fun a hs hS => ?_
        refine d_pures (fuel := 0) kS255 hs hS [8] [0, 1, 5, 17, 18, 19, 20, 21, 22, 23, 24, 25] [(0, .slice p2 x1.length c3), (1, .slice p8 x7.length c9), (5, .int .i64 x217), (17, .slice p2 x1.length c3), (18, .int .i64 x217), (19, .pointer (some r279)), (20, .int .u8 x277), (21, .slice p8 x7.length c9), (22, .int .i64 x217), (23, .pointer (some r283)), (24, .int .u8 x281), (25, .bool (x277 != x281))] (by kernel_rfl) fun a hs hS => ?_
        refine d_done (by kernel_rfl) ?_
        obtain rfl := someE hx275
        exact (hJ276 _ _).2 ⟨(x277 != x281), hx251, hs.cast [0, 1, 5, 25] (by kernel_rfl), hw.pick [0] (by kernel_rfl)⟩
      intro a w hh
      obtain ⟨x272, hx251, hs, hw⟩ := (hJ276 _ _).1 hh
      rcases ifbE hx251 with ⟨h273, hx251⟩ | ⟨h273, hx251⟩
      · refine c_cond1 hs (by kernel_rfl) (t := x272) (by kernel_rfl) h273 ?_
        refine c_seq ?_
        refine c_region ?_
        refine pures hs 1 [4] [(4, .bool false)] (by kernel_rfl) fun a hs => ?_
        refine s_end ?_
        refine c_ret ?_
        obtain rfl := someE hx251
        obtain rfl := someE hk
        refine hQ _ _ (f_ret1 hs rfl (v := .bool false) (by kernel_rfl) ⟨rfl, hw.pick [0] (by kernel_rfl)⟩)
      refine c_cond0 hs (by kernel_rfl) (t := x272) (by kernel_rfl) h273 ?_
      refine c_skip ?_
      refine c_region ?_
      refine pures hs 3 [0, 1, 5] [(0, .slice p2 x1.length c3), (1, .slice p8 x7.length c9), (5, .int .i64 (IntKind.i64.wrap (x217 + 1)))] (by kernel_rfl) fun a hs => ?_
      refine s_end ?_
      exact (hI253 _ _ _).2 ⟨(IntKind.i64.wrap (x217 + 1)), hx251, hs.cast [0, 1, 5] (by kernel_rfl), hw.pick [0] (by kernel_rfl)⟩
    refine c_cond0 hs (by kernel_rfl) (t := (decide (x217 < (x1.length : Int)))) (by kernel_rfl) h254 ?_
    refine c_exit ?_
    obtain rfl := someE hx251
    exact (hJ252 _ _).2 ⟨hk, hs.cast [] (by kernel_rfl), hw.pick [0] (by kernel_rfl)⟩
  intro a w hh
  obtain ⟨hk, hs, hw⟩ := (hJ252 _ _).1 hh
  refine c_seq ?_
  refine c_region ?_
  refine pures hs 1 [4] [(4, .bool true)] (by kernel_rfl) fun a hs => ?_
  refine s_end ?_
  refine c_ret ?_
  obtain rfl := someE hk
  refine hQ _ _ (f_ret1 hs rfl (v := .bool true) (by kernel_rfl) ⟨rfl, hw.pick [0] (by kernel_rfl)⟩)
def catenaryref10_SameUpdate_r2 (x72 : Bool) : Option Bool :=
  some x72
def catenaryref10_SameUpdate (k : Nat) (x1 : M26) (x5 : M26) : Option Bool :=
  (if (x1.f0 == x5.f0) = true then (
      if (x1.f1 == x5.f1) = true then (
        if (x1.f2 == x5.f2) = true then (
          if (x1.f3 == x5.f3) = true then (
            if (x1.f4 == x5.f4) = true then (
              if (x1.f5 == x5.f5) = true then (
                (catenaryref01_Same k x1.f6 x5.f6).bind fun y82 =>
                some y82)
              else some false)
            else some false)
          else some false)
        else some false)
      else some false)
    else some false : Option Bool).bind fun s84 => catenaryref10_SameUpdate_r2 s84
theorem catenaryref10_SameUpdate_s {k : Nat} {x1 : M26} {x5 : M26} {p2 : Option Addr} {c3 : Nat} {p6 : Option Addr} {c7 : Nat} {r : Bool} (hk : catenaryref10_SameUpdate k x1 x5 = some r) {g w : World} {F : Ch} {ih : IH} (h4 : RSl e5 ih [] p2 c3 x1.f6) (h8 : RSl e5 ih [] p6 c7 x5.f6) (hw : St g w [F] ih) :
    CallsR Tryz.prog 21 #[.agg #[.int .u64 x1.f0, .int .i64 x1.f1, .int .u64 x1.f2, .int .i64 x1.f3, .int .u32 x1.f4, .int .u64 x1.f5, .slice p2 x1.f6.length c3], .agg #[.int .u64 x5.f0, .int .i64 x5.f1, .int .u64 x5.f2, .int .i64 x5.f3, .int .u32 x5.f4, .int .u64 x5.f5, .slice p6 x5.f6.length c7]] w fun v w' => v = .bool r ∧ St g w' [F] ih := by
  refine f_in (vs := [.agg #[.int .u64 x1.f0, .int .i64 x1.f1, .int .u64 x1.f2, .int .i64 x1.f3, .int .u32 x1.f4, .int .u64 x1.f5, .slice p2 x1.f6.length c3], .agg #[.int .u64 x5.f0, .int .i64 x5.f1, .int .u64 x5.f2, .int .i64 x5.f3, .int .u32 x5.f4, .int .u64 x5.f5, .slice p6 x5.f6.length c7]]) Tryz.func21 rfl 52 rfl (by kernel_rfl) [(0, .agg #[.int .u64 x1.f0, .int .i64 x1.f1, .int .u64 x1.f2, .int .i64 x1.f3, .int .u32 x1.f4, .int .u64 x1.f5, .slice p2 x1.f6.length c3]), (1, .agg #[.int .u64 x5.f0, .int .i64 x5.f1, .int .u64 x5.f2, .int .i64 x5.f3, .int .u32 x5.f4, .int .u64 x5.f5, .slice p6 x5.f6.length c7])] (by kernel_rfl) fun a Qf hQ hQn hs => ?_
  refine c_seq ?_
  refine c_region ?_
  refine s_new hs hw [.int .u64 x1.f0, .int .i64 x1.f1, .int .u64 x1.f2, .int .i64 x1.f3, .int .u32 x1.f4, .int .u64 x1.f5, .slice p2 x1.f6.length c3] 26 (fun b => .pointer (some ⟨b, 0, none⟩)) (by kernel_rfl) (fun _ => by kernel_rfl) fun a w b52 hs hw => ?_
  refine s_new hs hw [.int .u64 x5.f0, .int .i64 x5.f1, .int .u64 x5.f2, .int .i64 x5.f3, .int .u32 x5.f4, .int .u64 x5.f5, .slice p6 x5.f6.length c7] 26 (fun b => .pointer (some ⟨b, 0, none⟩)) (by kernel_rfl) (fun _ => by kernel_rfl) fun a w b54 hs hw => ?_
  refine pures hs 1 [2, 3] [(2, .pointer (some ⟨b52, 0, none⟩)), (3, .pointer (some ⟨b54, 0, none⟩))] (by kernel_rfl) fun a hs => ?_
  refine s_end ?_
  refine c_seq ?_
  obtain ⟨y73, hx74, hk⟩ := bindE hk
  obtain ⟨J75, hJ75⟩ : ∃ J : Act → World → Prop, ∀ a w, J a w ↔ (∃ (x72 : Bool), catenaryref10_SameUpdate_r2 x72 = some r ∧ Sees a 52 [(4, .bool x72)] ∧ St g w [F] ih) := ⟨_, fun _ _ => Iff.rfl⟩
  refine c_regJ J75 ?_ ?_
  · refine pures hs 1 [2, 3, 5] [(2, .pointer (some ⟨b52, 0, none⟩)), (3, .pointer (some ⟨b54, 0, none⟩)), (5, .pointer (some ⟨b52, 0, none⟩))] (by kernel_rfl) fun a hs => ?_
    refine s_load hs (hw.at_ 1 rfl) 0 (by kernel_rfl) (by kernel_rfl) (v := .int .u64 x1.f0) (by kernel_rfl) fun a hs => ?_
    refine pures hs 1 [2, 3, 6, 7] [(2, .pointer (some ⟨b52, 0, none⟩)), (3, .pointer (some ⟨b54, 0, none⟩)), (6, .int .u64 x1.f0), (7, .pointer (some ⟨b54, 0, none⟩))] (by kernel_rfl) fun a hs => ?_
    refine s_load hs (hw.at_ 0 rfl) 0 (by kernel_rfl) (by kernel_rfl) (v := .int .u64 x5.f0) (by kernel_rfl) fun a hs => ?_
    refine pures hs 2 [2, 3, 10] [(2, .pointer (some ⟨b52, 0, none⟩)), (3, .pointer (some ⟨b54, 0, none⟩)), (10, .bool (x1.f0 == x5.f0))] (by kernel_rfl) fun a hs => ?_
    rcases ifbE hx74 with ⟨h76, hx74⟩ | ⟨h76, hx74⟩
    · replace hs := hs.altB 10 true (by kernel_rfl) h76
      refine pures hs 1 [2, 3, 10, 11] [(2, .pointer (some ⟨b52, 0, none⟩)), (3, .pointer (some ⟨b54, 0, none⟩)), (10, .bool true), (11, .pointer (some ⟨b52, 1, none⟩))] (by kernel_rfl) fun a hs => ?_
      refine s_load hs (hw.at_ 1 rfl) 1 (by kernel_rfl) (by kernel_rfl) (v := .int .i64 x1.f1) (by kernel_rfl) fun a hs => ?_
      refine pures hs 1 [2, 3, 10, 12, 13] [(2, .pointer (some ⟨b52, 0, none⟩)), (3, .pointer (some ⟨b54, 0, none⟩)), (10, .bool true), (12, .int .i64 x1.f1), (13, .pointer (some ⟨b54, 1, none⟩))] (by kernel_rfl) fun a hs => ?_
      refine s_load hs (hw.at_ 0 rfl) 1 (by kernel_rfl) (by kernel_rfl) (v := .int .i64 x5.f1) (by kernel_rfl) fun a hs => ?_
      refine pures hs 3 [2, 3, 17] [(2, .pointer (some ⟨b52, 0, none⟩)), (3, .pointer (some ⟨b54, 0, none⟩)), (17, .bool (x1.f1 == x5.f1))] (by kernel_rfl) fun a hs => ?_
      rcases ifbE hx74 with ⟨h77, hx74⟩ | ⟨h77, hx74⟩
      · replace hs := hs.altB 17 true (by kernel_rfl) h77
        refine pures hs 1 [2, 3, 17, 18] [(2, .pointer (some ⟨b52, 0, none⟩)), (3, .pointer (some ⟨b54, 0, none⟩)), (17, .bool true), (18, .pointer (some ⟨b52, 2, none⟩))] (by kernel_rfl) fun a hs => ?_
        refine s_load hs (hw.at_ 1 rfl) 2 (by kernel_rfl) (by kernel_rfl) (v := .int .u64 x1.f2) (by kernel_rfl) fun a hs => ?_
        refine pures hs 1 [2, 3, 17, 19, 20] [(2, .pointer (some ⟨b52, 0, none⟩)), (3, .pointer (some ⟨b54, 0, none⟩)), (17, .bool true), (19, .int .u64 x1.f2), (20, .pointer (some ⟨b54, 2, none⟩))] (by kernel_rfl) fun a hs => ?_
        refine s_load hs (hw.at_ 0 rfl) 2 (by kernel_rfl) (by kernel_rfl) (v := .int .u64 x5.f2) (by kernel_rfl) fun a hs => ?_
        refine pures hs 3 [2, 3, 24] [(2, .pointer (some ⟨b52, 0, none⟩)), (3, .pointer (some ⟨b54, 0, none⟩)), (24, .bool (x1.f2 == x5.f2))] (by kernel_rfl) fun a hs => ?_
        rcases ifbE hx74 with ⟨h78, hx74⟩ | ⟨h78, hx74⟩
        · replace hs := hs.altB 24 true (by kernel_rfl) h78
          refine pures hs 1 [2, 3, 24, 25] [(2, .pointer (some ⟨b52, 0, none⟩)), (3, .pointer (some ⟨b54, 0, none⟩)), (24, .bool true), (25, .pointer (some ⟨b52, 3, none⟩))] (by kernel_rfl) fun a hs => ?_
          refine s_load hs (hw.at_ 1 rfl) 3 (by kernel_rfl) (by kernel_rfl) (v := .int .i64 x1.f3) (by kernel_rfl) fun a hs => ?_
          refine pures hs 1 [2, 3, 24, 26, 27] [(2, .pointer (some ⟨b52, 0, none⟩)), (3, .pointer (some ⟨b54, 0, none⟩)), (24, .bool true), (26, .int .i64 x1.f3), (27, .pointer (some ⟨b54, 3, none⟩))] (by kernel_rfl) fun a hs => ?_
          refine s_load hs (hw.at_ 0 rfl) 3 (by kernel_rfl) (by kernel_rfl) (v := .int .i64 x5.f3) (by kernel_rfl) fun a hs => ?_
          refine pures hs 3 [2, 3, 31] [(2, .pointer (some ⟨b52, 0, none⟩)), (3, .pointer (some ⟨b54, 0, none⟩)), (31, .bool (x1.f3 == x5.f3))] (by kernel_rfl) fun a hs => ?_
          rcases ifbE hx74 with ⟨h79, hx74⟩ | ⟨h79, hx74⟩
          · replace hs := hs.altB 31 true (by kernel_rfl) h79
            refine pures hs 1 [2, 3, 31, 32] [(2, .pointer (some ⟨b52, 0, none⟩)), (3, .pointer (some ⟨b54, 0, none⟩)), (31, .bool true), (32, .pointer (some ⟨b52, 4, none⟩))] (by kernel_rfl) fun a hs => ?_
            refine s_load hs (hw.at_ 1 rfl) 4 (by kernel_rfl) (by kernel_rfl) (v := .int .u32 x1.f4) (by kernel_rfl) fun a hs => ?_
            refine pures hs 1 [2, 3, 31, 33, 34] [(2, .pointer (some ⟨b52, 0, none⟩)), (3, .pointer (some ⟨b54, 0, none⟩)), (31, .bool true), (33, .int .u32 x1.f4), (34, .pointer (some ⟨b54, 4, none⟩))] (by kernel_rfl) fun a hs => ?_
            refine s_load hs (hw.at_ 0 rfl) 4 (by kernel_rfl) (by kernel_rfl) (v := .int .u32 x5.f4) (by kernel_rfl) fun a hs => ?_
            refine pures hs 3 [2, 3, 38] [(2, .pointer (some ⟨b52, 0, none⟩)), (3, .pointer (some ⟨b54, 0, none⟩)), (38, .bool (x1.f4 == x5.f4))] (by kernel_rfl) fun a hs => ?_
            rcases ifbE hx74 with ⟨h80, hx74⟩ | ⟨h80, hx74⟩
            · replace hs := hs.altB 38 true (by kernel_rfl) h80
              refine pures hs 1 [2, 3, 38, 39] [(2, .pointer (some ⟨b52, 0, none⟩)), (3, .pointer (some ⟨b54, 0, none⟩)), (38, .bool true), (39, .pointer (some ⟨b52, 5, none⟩))] (by kernel_rfl) fun a hs => ?_
              refine s_load hs (hw.at_ 1 rfl) 5 (by kernel_rfl) (by kernel_rfl) (v := .int .u64 x1.f5) (by kernel_rfl) fun a hs => ?_
              refine pures hs 1 [2, 3, 38, 40, 41] [(2, .pointer (some ⟨b52, 0, none⟩)), (3, .pointer (some ⟨b54, 0, none⟩)), (38, .bool true), (40, .int .u64 x1.f5), (41, .pointer (some ⟨b54, 5, none⟩))] (by kernel_rfl) fun a hs => ?_
              refine s_load hs (hw.at_ 0 rfl) 5 (by kernel_rfl) (by kernel_rfl) (v := .int .u64 x5.f5) (by kernel_rfl) fun a hs => ?_
              refine pures hs 3 [2, 3, 45] [(2, .pointer (some ⟨b52, 0, none⟩)), (3, .pointer (some ⟨b54, 0, none⟩)), (45, .bool (x1.f5 == x5.f5))] (by kernel_rfl) fun a hs => ?_
              rcases ifbE hx74 with ⟨h81, hx74⟩ | ⟨h81, hx74⟩
              · replace hs := hs.altB 45 true (by kernel_rfl) h81
                refine pures hs 1 [3, 45, 46] [(3, .pointer (some ⟨b54, 0, none⟩)), (45, .bool true), (46, .pointer (some ⟨b52, 6, none⟩))] (by kernel_rfl) fun a hs => ?_
                refine s_load hs (hw.at_ 1 rfl) 6 (by kernel_rfl) (by kernel_rfl) (v := .slice p2 x1.f6.length c3) (by kernel_rfl) fun a hs => ?_
                refine pures hs 1 [45, 47, 48] [(45, .bool true), (47, .slice p2 x1.f6.length c3), (48, .pointer (some ⟨b54, 6, none⟩))] (by kernel_rfl) fun a hs => ?_
                refine s_load hs (hw.at_ 0 rfl) 6 (by kernel_rfl) (by kernel_rfl) (v := .slice p6 x5.f6.length c7) (by kernel_rfl) fun a hs => ?_
                obtain ⟨y82, h83, hx74⟩ := bindE hx74
                refine s_call hs (by kernel_rfl) (by kernel_rfl) (catenaryref01_Same_s h83 h4 (nilSub _) h8 (nilSub _) ((hw.pick [2] (by kernel_rfl)).pack 0)) fun a w v hv hs => ?_
                obtain ⟨rfl, hw⟩ := hv
                replace hw := hw.unpack 0 rfl
                refine pures hs 2 [4] [(4, .bool y82)] (by kernel_rfl) fun a hs => ?_
                refine s_end ?_
                obtain rfl := someE hx74
                exact (hJ75 _ _).2 ⟨y82, hk, hs.cast [4] (by kernel_rfl), hw.pick [0] (by kernel_rfl)⟩
              replace hs := hs.altB 45 false (by kernel_rfl) h81
              refine pures hs 7 [4] [(4, .bool false)] (by kernel_rfl) fun a hs => ?_
              refine s_end ?_
              obtain rfl := someE hx74
              exact (hJ75 _ _).2 ⟨false, hk, hs.cast [4] (by kernel_rfl), hw.pick [2] (by kernel_rfl)⟩
            replace hs := hs.altB 38 false (by kernel_rfl) h80
            refine pures hs 14 [4] [(4, .bool false)] (by kernel_rfl) fun a hs => ?_
            refine s_end ?_
            obtain rfl := someE hx74
            exact (hJ75 _ _).2 ⟨false, hk, hs.cast [4] (by kernel_rfl), hw.pick [2] (by kernel_rfl)⟩
          replace hs := hs.altB 31 false (by kernel_rfl) h79
          refine pures hs 21 [4] [(4, .bool false)] (by kernel_rfl) fun a hs => ?_
          refine s_end ?_
          obtain rfl := someE hx74
          exact (hJ75 _ _).2 ⟨false, hk, hs.cast [4] (by kernel_rfl), hw.pick [2] (by kernel_rfl)⟩
        replace hs := hs.altB 24 false (by kernel_rfl) h78
        refine pures hs 28 [4] [(4, .bool false)] (by kernel_rfl) fun a hs => ?_
        refine s_end ?_
        obtain rfl := someE hx74
        exact (hJ75 _ _).2 ⟨false, hk, hs.cast [4] (by kernel_rfl), hw.pick [2] (by kernel_rfl)⟩
      replace hs := hs.altB 17 false (by kernel_rfl) h77
      refine pures hs 35 [4] [(4, .bool false)] (by kernel_rfl) fun a hs => ?_
      refine s_end ?_
      obtain rfl := someE hx74
      exact (hJ75 _ _).2 ⟨false, hk, hs.cast [4] (by kernel_rfl), hw.pick [2] (by kernel_rfl)⟩
    replace hs := hs.altB 10 false (by kernel_rfl) h76
    refine pures hs 42 [4] [(4, .bool false)] (by kernel_rfl) fun a hs => ?_
    refine s_end ?_
    obtain rfl := someE hx74
    exact (hJ75 _ _).2 ⟨false, hk, hs.cast [4] (by kernel_rfl), hw.pick [2] (by kernel_rfl)⟩
  intro a w hh
  obtain ⟨x72, hk, hs, hw⟩ := (hJ75 _ _).1 hh
  refine c_ret ?_
  obtain rfl := someE hk
  refine hQ _ _ (f_ret1 hs rfl (v := .bool x72) (by kernel_rfl) ⟨rfl, hw.pick [0] (by kernel_rfl)⟩)
def catenaryref10_SameUpdates_r10 : Option Bool :=
  some true
def catenaryref10_SameUpdates_r12 (rec_catenaryref10_SameUpdates_l11 : Int → Option (Sum Bool Unit)) (x361 : Int) (x456 : Bool) : Option (Sum Bool Unit) :=
  if x456 = true then some (.inl false)
  else rec_catenaryref10_SameUpdates_l11 (IntKind.i64.wrap (x361 + 1))
def catenaryref10_SameUpdates_l11 (k : Nat) (x1 : List M26) (x7 : List M26) : Nat → Int → Option (Sum Bool Unit)
  | 0, _ => none
  | j + 1, x361 =>
    if (decide (x361 < (x1.length : Int))) = true then (
      ((ix x1 x361).bind fun x461 =>
        (ix x7 x361).bind fun x468 =>
        (catenaryref10_SameUpdate k x461 x468).bind fun y475 =>
        some (!y475) : Option Bool).bind fun s477 => catenaryref10_SameUpdates_r12 (catenaryref10_SameUpdates_l11 k x1 x7 j) x361 s477)
    else some (.inr ())
def catenaryref10_SameUpdates (k : Nat) (x1 : List M26) (x7 : List M26) : Option Bool :=
  if ((x1.length : Int) != (x7.length : Int)) = true then some false
  else (catenaryref10_SameUpdates_l11 k x1 x7 k 0 : Option (Sum Bool Unit)).bind fun
    | .inl z => some z
    | .inr _ => catenaryref10_SameUpdates_r10
theorem catenaryref10_SameUpdates_s {k : Nat} {x1 : List M26} {x7 : List M26} {p2 : Option Addr} {c3 : Nat} {d5 : Ch} {p8 : Option Addr} {c9 : Nat} {d11 : Ch} {r : Bool} (hk : catenaryref10_SameUpdates k x1 x7 = some r) {g w : World} {F : Ch} {ih : IH} (h4 : RSl e26 ih d5 p2 c3 x1) (h6 : ∀ q ∈ d5, q ∈ F) (h10 : RSl e26 ih d11 p8 c9 x7) (h12 : ∀ q ∈ d11, q ∈ F) (hw : St g w [F] ih) :
    CallsR Tryz.prog 35 #[.slice p2 x1.length c3, .slice p8 x7.length c9] w fun v w' => v = .bool r ∧ St g w' [F] ih := by
  refine f_in (vs := [.slice p2 x1.length c3, .slice p8 x7.length c9]) Tryz.func35 rfl 27 rfl (by kernel_rfl) [(0, .slice p2 x1.length c3), (1, .slice p8 x7.length c9)] (by kernel_rfl) fun a Qf hQ hQn hs => ?_
  refine c_seq ?_
  refine c_region ?_
  refine pures hs 1 [0, 1] [(0, .slice p2 x1.length c3), (1, .slice p8 x7.length c9)] (by kernel_rfl) fun a hs => ?_
  refine s_end ?_
  refine c_seq ?_
  refine c_seq ?_
  refine c_region ?_
  refine pures hs 5 [0, 1, 10] [(0, .slice p2 x1.length c3), (1, .slice p8 x7.length c9), (10, .bool ((x1.length : Int) != (x7.length : Int)))] (by kernel_rfl) fun a hs => ?_
  refine s_end ?_
  rcases ifbE hk with ⟨h247, hk⟩ | ⟨h247, hk⟩
  · refine c_cond1 hs (by kernel_rfl) (t := ((x1.length : Int) != (x7.length : Int))) (by kernel_rfl) h247 ?_
    refine c_seq ?_
    refine c_region ?_
    refine pures hs 1 [4] [(4, .bool false)] (by kernel_rfl) fun a hs => ?_
    refine s_end ?_
    refine c_ret ?_
    obtain rfl := someE hk
    refine hQ _ _ (f_ret1 hs rfl (v := .bool false) (by kernel_rfl) ⟨rfl, hw.pick [0] (by kernel_rfl)⟩)
  refine c_cond0 hs (by kernel_rfl) (t := ((x1.length : Int) != (x7.length : Int))) (by kernel_rfl) h247 ?_
  refine c_skip ?_
  refine c_seq ?_
  refine c_seq ?_
  refine c_region ?_
  refine pures hs 1 [0, 1, 5] [(0, .slice p2 x1.length c3), (1, .slice p8 x7.length c9), (5, .int .i64 0)] (by kernel_rfl) fun a hs => ?_
  refine s_end ?_
  refine c_block ?_
  obtain ⟨y418, hx419, hk⟩ := bindE hk
  obtain ⟨J420, hJ420⟩ : ∃ J : Act → World → Prop, ∀ a w, J a w ↔ (catenaryref10_SameUpdates_r10 = some r ∧ Sees a 27 [] ∧ St g w [F] ih) := ⟨_, fun _ _ => Iff.rfl⟩
  obtain ⟨I421, hI421⟩ : ∃ J : Nat → Act → World → Prop, ∀ j a w, J j a w ↔ (∃ (x361 : Int), catenaryref10_SameUpdates_l11 k x1 x7 j x361 = some y418 ∧ Sees a 27 [(0, .slice p2 x1.length c3), (1, .slice p8 x7.length c9), (5, .int .i64 x361)] ∧ St g w [F] ih) := ⟨_, fun _ _ _ => Iff.rfl⟩
  refine c_exitJ 0 J420 ?_ ?_
  · refine c_loop I421 k ((hI421 _ _ _).2 ⟨0, hx419, hs.cast [0, 1, 5] (by kernel_rfl), hw.pick [0] (by kernel_rfl)⟩) (fun a w h0 => ?_) fun j a w hh => ?_
    · obtain ⟨_, h, _⟩ := (hI421 _ _ _).1 h0
      cases h
    obtain ⟨x361, hx419, hs, hw⟩ := (hI421 _ _ _).1 hh
    refine c_seq ?_
    refine c_seq ?_
    refine c_region ?_
    refine pures hs 4 [0, 1, 5, 14] [(0, .slice p2 x1.length c3), (1, .slice p8 x7.length c9), (5, .int .i64 x361), (14, .bool (decide (x361 < (x1.length : Int))))] (by kernel_rfl) fun a hs => ?_
    refine s_end ?_
    rcases ifbE hx419 with ⟨h422, hx419⟩ | ⟨h422, hx419⟩
    · refine c_cond1 hs (by kernel_rfl) (t := (decide (x361 < (x1.length : Int)))) (by kernel_rfl) h422 ?_
      refine c_skip ?_
      refine c_seq ?_
      refine c_block ?_
      refine c_seq ?_
      obtain ⟨S423, hS423, kS423⟩ := mkSX (X := [([], F)]) (ih := ih) (K := []) rfl
      obtain ⟨y458, hx459, hx419⟩ := bindE hx419
      obtain ⟨J460, hJ460⟩ : ∃ J : Act → World → Prop, ∀ a w, J a w ↔ (∃ (x456 : Bool), catenaryref10_SameUpdates_r12 (catenaryref10_SameUpdates_l11 k x1 x7 j) x361 x456 = some y418 ∧ Sees a 27 [(0, .slice p2 x1.length c3), (1, .slice p8 x7.length c9), (5, .int .i64 x361), (26, .bool x456)] ∧ St g w [F] ih) := ⟨_, fun _ _ => Iff.rfl⟩
      refine c_draw (by kernel_rfl) (N := 10) rfl S423 J460 ?_ ?_
      · have hw := hw.drew
        have hS : S423 (Array.replicate 10 false) _ := SX_now hS423 (hw.vws [0]) (by kernel_rfl)
        refine d_pures (fuel := 8) kS423 hs hS [0, 1] [0, 1, 5, 17, 18] [(0, .slice p2 x1.length c3), (1, .slice p8 x7.length c9), (5, .int .i64 x361), (17, .slice p2 x1.length c3), (18, .int .i64 x361)] (by kernel_rfl) fun a hs hS => ?_
        obtain ⟨x461, h462, hx459⟩ := bindE hx459
        refine d_index (fuel := 7) kS423 hs hS 2 rfl (by kernel_rfl) h4 (by kernel_rfl) (by kernel_rfl) (k := .i64) (by kernel_rfl) 26 (by kernel_rfl) (by kernel_rfl) h462 fun a r463 cs henc at464 hs hS => ?_
        obtain ⟨p465, c466, rfl, h467⟩ := henc
        refine d_load (fuel := 6) kS423 hs hS 3 rfl (by kernel_rfl) (fun l w hu hS => at464 w (((SX_ch hS423 0 rfl (by kernel_rfl) l w hu hS).sub h6).anti (Le.refl _))) 0 (by kernel_rfl) (by kernel_rfl) (v := .agg #[.int .u64 x461.f0, .int .i64 x461.f1, .int .u64 x461.f2, .int .i64 x461.f3, .int .u32 x461.f4, .int .u64 x461.f5, .slice p465 x461.f6.length c466]) (by kernel_rfl) fun a hs hS => ?_
        refine d_pures (fuel := 4) kS423 hs hS [4, 5] [0, 1, 5, 17, 18, 19, 20, 21, 22] [(0, .slice p2 x1.length c3), (1, .slice p8 x7.length c9), (5, .int .i64 x361), (17, .slice p2 x1.length c3), (18, .int .i64 x361), (19, .pointer (some r463)), (20, .agg #[.int .u64 x461.f0, .int .i64 x461.f1, .int .u64 x461.f2, .int .i64 x461.f3, .int .u32 x461.f4, .int .u64 x461.f5, .slice p465 x461.f6.length c466]), (21, .slice p8 x7.length c9), (22, .int .i64 x361)] (by kernel_rfl) fun a hs hS => ?_
        obtain ⟨x468, h469, hx459⟩ := bindE hx459
        refine d_index (fuel := 3) kS423 hs hS 6 rfl (by kernel_rfl) h10 (by kernel_rfl) (by kernel_rfl) (k := .i64) (by kernel_rfl) 26 (by kernel_rfl) (by kernel_rfl) h469 fun a r470 cs henc at471 hs hS => ?_
        obtain ⟨p472, c473, rfl, h474⟩ := henc
        refine d_load (fuel := 2) kS423 hs hS 7 rfl (by kernel_rfl) (fun l w hu hS => at471 w (((SX_ch hS423 0 rfl (by kernel_rfl) l w hu hS).sub h12).anti (Le.refl _))) 0 (by kernel_rfl) (by kernel_rfl) (v := .agg #[.int .u64 x468.f0, .int .i64 x468.f1, .int .u64 x468.f2, .int .i64 x468.f3, .int .u32 x468.f4, .int .u64 x468.f5, .slice p472 x468.f6.length c473]) (by kernel_rfl) fun a hs hS => ?_
        refine d_all (fuel := 1) (rs := [8]) (by kernel_rfl) (by simp) (all1 ?_)
        obtain ⟨y475, h476, hx459⟩ := bindE hx459
        refine o_call hs rfl (by kernel_rfl) (by kernel_rfl) (catenaryref10_SameUpdate_s h476 h467 h474 ((hw.pick [0] (by kernel_rfl)).pack 0)) fun a w v hv hs => ?_
        obtain ⟨rfl, hw⟩ := hv
        replace hw := hw.unpack 0 rfl
        refine dg_next (SX_now hS423 ((hw.vws [0]).anti (Le.refl _)) (by kernel_rfl)) fun hS => ?_
        refine d_pures (fuel := 0) kS423 hs hS [9] [0, 1, 5, 17, 18, 19, 20, 21, 22, 23, 24, 25, 26] [(0, .slice p2 x1.length c3), (1, .slice p8 x7.length c9), (5, .int .i64 x361), (17, .slice p2 x1.length c3), (18, .int .i64 x361), (19, .pointer (some r463)), (20, .agg #[.int .u64 x461.f0, .int .i64 x461.f1, .int .u64 x461.f2, .int .i64 x461.f3, .int .u32 x461.f4, .int .u64 x461.f5, .slice p465 x461.f6.length c466]), (21, .slice p8 x7.length c9), (22, .int .i64 x361), (23, .pointer (some r470)), (24, .agg #[.int .u64 x468.f0, .int .i64 x468.f1, .int .u64 x468.f2, .int .i64 x468.f3, .int .u32 x468.f4, .int .u64 x468.f5, .slice p472 x468.f6.length c473]), (25, .bool y475), (26, .bool (!y475))] (by kernel_rfl) fun a hs hS => ?_
        refine d_done (by kernel_rfl) ?_
        obtain rfl := someE hx459
        exact (hJ460 _ _).2 ⟨(!y475), hx419, hs.cast [0, 1, 5, 26] (by kernel_rfl), hw.pick [0] (by kernel_rfl)⟩
      intro a w hh
      obtain ⟨x456, hx419, hs, hw⟩ := (hJ460 _ _).1 hh
      rcases ifbE hx419 with ⟨h457, hx419⟩ | ⟨h457, hx419⟩
      · refine c_cond1 hs (by kernel_rfl) (t := x456) (by kernel_rfl) h457 ?_
        refine c_seq ?_
        refine c_region ?_
        refine pures hs 1 [4] [(4, .bool false)] (by kernel_rfl) fun a hs => ?_
        refine s_end ?_
        refine c_ret ?_
        obtain rfl := someE hx419
        obtain rfl := someE hk
        refine hQ _ _ (f_ret1 hs rfl (v := .bool false) (by kernel_rfl) ⟨rfl, hw.pick [0] (by kernel_rfl)⟩)
      refine c_cond0 hs (by kernel_rfl) (t := x456) (by kernel_rfl) h457 ?_
      refine c_skip ?_
      refine c_region ?_
      refine pures hs 3 [0, 1, 5] [(0, .slice p2 x1.length c3), (1, .slice p8 x7.length c9), (5, .int .i64 (IntKind.i64.wrap (x361 + 1)))] (by kernel_rfl) fun a hs => ?_
      refine s_end ?_
      exact (hI421 _ _ _).2 ⟨(IntKind.i64.wrap (x361 + 1)), hx419, hs.cast [0, 1, 5] (by kernel_rfl), hw.pick [0] (by kernel_rfl)⟩
    refine c_cond0 hs (by kernel_rfl) (t := (decide (x361 < (x1.length : Int)))) (by kernel_rfl) h422 ?_
    refine c_exit ?_
    obtain rfl := someE hx419
    exact (hJ420 _ _).2 ⟨hk, hs.cast [] (by kernel_rfl), hw.pick [0] (by kernel_rfl)⟩
  intro a w hh
  obtain ⟨hk, hs, hw⟩ := (hJ420 _ _).1 hh
  refine c_seq ?_
  refine c_region ?_
  refine pures hs 1 [4] [(4, .bool true)] (by kernel_rfl) fun a hs => ?_
  refine s_end ?_
  refine c_ret ?_
  obtain rfl := someE hk
  refine hQ _ _ (f_ret1 hs rfl (v := .bool true) (by kernel_rfl) ⟨rfl, hw.pick [0] (by kernel_rfl)⟩)
def window_Window_From_r2 (k : Nat) (x5 : List M26) (x11 : Int) (x12 : Int) (x54 : Bool) : Option ((List M26) × Bool) :=
  if x54 = true then some ([], false)
  else (update_Batch k x5 x11 x12).bind fun y67 =>
  some (y67, true)
def window_Window_From (k : Nat) (x3 : Int) (x5 : List M26) (x11 : Int) (x12 : Int) : Option ((List M26) × Bool) :=
  (if (decide (x11 < x3)) = true then some true
    else (window_Window_End x3 x5).bind fun y80 =>
    some (decide (x11 > y80)) : Option Bool).bind fun s82 => window_Window_From_r2 k x5 x11 x12 s82
theorem window_Window_From_s {k : Nat} {x3 : Int} {x4 : Int} {x5 : List M26} {x11 : Int} {x12 : Int} {b2 : Nat} {p6 : Option Addr} {c7 : Nat} {d9 : Ch} {r : (List M26) × Bool} (hk : window_Window_From k x3 x5 x11 x12 = some r) {g w : World} {F : Ch} {ih : IH} (h8 : OSl e26 ih p6 c7 x5 d9) (hw : St g w [bx b2 [.int .u64 x3, .int .u64 x4, .slice p6 x5.length c7] 78, d9, F] ih) :
    CallsR Tryz.prog 36 #[.pointer (some ⟨b2, 0, none⟩), .int .u64 x11, .int .i64 x12] w fun v w' => ∃ (ih' : IH) (p83 : Option Addr) (c84 : Nat) (d86 : Ch), v = .tuple #[.slice p83 r.1.length c84, .bool r.2] ∧ St g w' [d86, bx b2 [.int .u64 x3, .int .u64 x4, .slice p6 x5.length c7] 78, d9, F] ih' ∧ Le ih ih' ∧ OSl e26 ih' p83 c84 r.1 d86 := by
  refine f_in (vs := [.pointer (some ⟨b2, 0, none⟩), .int .u64 x11, .int .i64 x12]) Tryz.func36 rfl 31 rfl (by kernel_rfl) [(0, .pointer (some ⟨b2, 0, none⟩)), (1, .int .u64 x11), (2, .int .i64 x12)] (by kernel_rfl) fun a Qf hQ hQn hs => ?_
  refine c_seq ?_
  refine c_region ?_
  refine pures hs 2 [0, 1, 2] [(0, .pointer (some ⟨b2, 0, none⟩)), (1, .int .u64 x11), (2, .int .i64 x12)] (by kernel_rfl) fun a hs => ?_
  refine s_end ?_
  refine c_seq ?_
  refine c_seq ?_
  obtain ⟨y76, hx77, hk⟩ := bindE hk
  obtain ⟨J78, hJ78⟩ : ∃ J : Act → World → Prop, ∀ a w, J a w ↔ (∃ (x54 : Bool), window_Window_From_r2 k x5 x11 x12 x54 = some r ∧ Sees a 31 [(0, .pointer (some ⟨b2, 0, none⟩)), (1, .int .u64 x11), (2, .int .i64 x12), (23, .bool x54)] ∧ St g w [bx b2 [.int .u64 x3, .int .u64 x4, .slice p6 x5.length c7] 78, d9, F] ih) := ⟨_, fun _ _ => Iff.rfl⟩
  refine c_regJ J78 ?_ ?_
  · refine pures hs 7 [0, 1, 2, 10, 11, 14] [(0, .pointer (some ⟨b2, 0, none⟩)), (1, .int .u64 x11), (2, .int .i64 x12), (10, .bool false), (11, .int .u64 x11), (14, .pointer (some ⟨b2, 0, none⟩))] (by kernel_rfl) fun a hs => ?_
    refine s_load hs (hw.at_ 0 rfl) 0 (by kernel_rfl) (by kernel_rfl) (v := .int .u64 x3) (by kernel_rfl) fun a hs => ?_
    refine pures hs 3 [0, 1, 2, 18] [(0, .pointer (some ⟨b2, 0, none⟩)), (1, .int .u64 x11), (2, .int .i64 x12), (18, .bool (decide (x11 < x3)))] (by kernel_rfl) fun a hs => ?_
    rcases ifbE hx77 with ⟨h79, hx77⟩ | ⟨h79, hx77⟩
    · replace hs := hs.altB 18 true (by kernel_rfl) h79
      refine pures hs 5 [0, 1, 2, 23] [(0, .pointer (some ⟨b2, 0, none⟩)), (1, .int .u64 x11), (2, .int .i64 x12), (23, .bool true)] (by kernel_rfl) fun a hs => ?_
      refine s_end ?_
      obtain rfl := someE hx77
      exact (hJ78 _ _).2 ⟨true, hk, hs.cast [0, 1, 2, 23] (by kernel_rfl), hw.pick [0, 1, 2] (by kernel_rfl)⟩
    replace hs := hs.altB 18 false (by kernel_rfl) h79
    refine pures hs 2 [0, 1, 2, 18, 19, 20] [(0, .pointer (some ⟨b2, 0, none⟩)), (1, .int .u64 x11), (2, .int .i64 x12), (18, .bool false), (19, .int .u64 x11), (20, .pointer (some ⟨b2, 0, none⟩))] (by kernel_rfl) fun a hs => ?_
    obtain ⟨y80, h81, hx77⟩ := bindE hx77
    refine s_call hs (by kernel_rfl) (by kernel_rfl) (window_Window_End_s (x4 := x4) h81 h8 ((hw.pick [0, 1, 2] (by kernel_rfl)).pack 2)) fun a w v hv hs => ?_
    obtain ⟨rfl, hw⟩ := hv
    replace hw := hw.unpack 2 rfl
    refine pures hs 2 [0, 1, 2, 23] [(0, .pointer (some ⟨b2, 0, none⟩)), (1, .int .u64 x11), (2, .int .i64 x12), (23, .bool (decide (x11 > y80)))] (by kernel_rfl) fun a hs => ?_
    refine s_end ?_
    obtain rfl := someE hx77
    exact (hJ78 _ _).2 ⟨(decide (x11 > y80)), hk, hs.cast [0, 1, 2, 23] (by kernel_rfl), hw.pick [0, 1, 2] (by kernel_rfl)⟩
  intro a w hh
  obtain ⟨x54, hk, hs, hw⟩ := (hJ78 _ _).1 hh
  rcases ifbE hk with ⟨h55, hk⟩ | ⟨h55, hk⟩
  · refine c_cond1 hs (by kernel_rfl) (t := x54) (by kernel_rfl) h55 ?_
    refine c_seq ?_
    refine c_region ?_
    refine pures hs 2 [6, 7] [(6, .slice none 0 0), (7, .bool false)] (by kernel_rfl) fun a hs => ?_
    refine s_end ?_
    refine c_ret ?_
    replace hw := hw.nil
    obtain rfl := someE hk
    refine hQ _ _ (f_retN hs [.tmp 6, .tmp 7] rfl [.slice none 0 0, .bool false] (by kernel_rfl) (by kernel_rfl) ⟨ih, none, 0, ([]), rfl, hw.pick [0, 1, 2, 3] (by kernel_rfl), (Le.refl _), (OSl.nil _ _)⟩)
  refine c_cond0 hs (by kernel_rfl) (t := x54) (by kernel_rfl) h55 ?_
  refine c_skip ?_
  refine c_seq ?_
  refine c_region ?_
  refine pures hs 3 [1, 2, 26] [(1, .int .u64 x11), (2, .int .i64 x12), (26, .pointer (some ⟨b2, 2, none⟩))] (by kernel_rfl) fun a hs => ?_
  refine s_load hs (hw.at_ 0 rfl) 2 (by kernel_rfl) (by kernel_rfl) (v := .slice p6 x5.length c7) (by kernel_rfl) fun a hs => ?_
  refine pures hs 2 [27, 28, 29] [(27, .slice p6 x5.length c7), (28, .int .u64 x11), (29, .int .i64 x12)] (by kernel_rfl) fun a hs => ?_
  obtain ⟨y67, h68, hk⟩ := bindE hk
  refine s_call hs (by kernel_rfl) (by kernel_rfl) (update_Batch_s h68 h8.read (memF 1 rfl) ((hw.pick [0, 1, 2] (by kernel_rfl)).pack 0)) fun a w v hv hs => ?_
  obtain ⟨ih69, p71, c72, d74, rfl, hw, hle70, h73⟩ := hv
  replace hw := hw.unpack 1 rfl
  refine pures hs 2 [6, 7] [(6, .slice p71 y67.length c72), (7, .bool true)] (by kernel_rfl) fun a hs => ?_
  refine s_end ?_
  refine c_ret ?_
  obtain rfl := someE hk
  refine hQ _ _ (f_retN hs [.tmp 6, .tmp 7] rfl [.slice p71 y67.length c72, .bool true] (by kernel_rfl) (by kernel_rfl) ⟨ih69, p71, c72, d74, rfl, hw.pick [0, 1, 2, 3] (by kernel_rfl), hle70, h73⟩)
def catenaryref17_Batch_r24 (x989 : List M26) : Option (List M26) :=
  some x989
def catenaryref17_Batch_r27 (rec_catenaryref17_Batch_l25 : (List M26) → Int → Option (List M26)) (x857 : Int) (x1060 : List M26) : Option (List M26) :=
  rec_catenaryref17_Batch_l25 x1060 (IntKind.i64.wrap (x857 + 1))
def catenaryref17_Batch_r28 (x1 : List M26) (x857 : Int) (x851 : List M26) (x1085 : Bool) : Option (List M26) :=
  if x1085 = true then (
    (ix x1 x857).bind fun x1102 =>
    (app x851 [x1102]).bind fun x1111 =>
    some x1111)
  else some x851
def catenaryref17_Batch_l25 (x1 : List M26) (x7 : Int) (x8 : Int) : Nat → (List M26) → Int → Option (List M26)
  | 0, _, _ => none
  | j + 1, x851, x857 =>
    if (decide (x857 < (x1.length : Int))) = true then (
      (((ix x1 x857).bind fun x1120 =>
          if (decide (x1120.f0 > x7)) = true then some (decide ((x851.length : Int) < x8))
          else some false : Option Bool).bind fun s1128 => catenaryref17_Batch_r28 x1 x857 x851 s1128 : Option (List M26)).bind fun s1129 => catenaryref17_Batch_r27 (catenaryref17_Batch_l25 x1 x7 x8 j) x857 s1129)
    else some x851
def catenaryref17_Batch (k : Nat) (x1 : List M26) (x7 : Int) (x8 : Int) : Option (List M26) :=
  (catenaryref17_Batch_l25 x1 x7 x8 k ([]) 0 : Option (List M26)).bind fun s1132 => catenaryref17_Batch_r24 s1132
theorem catenaryref17_Batch_s {k : Nat} {x1 : List M26} {x7 : Int} {x8 : Int} {p2 : Option Addr} {c3 : Nat} {d5 : Ch} {r : (List M26)} (hk : catenaryref17_Batch k x1 x7 x8 = some r) {g w : World} {F : Ch} {ih : IH} (h4 : RSl e26 ih d5 p2 c3 x1) (h6 : ∀ q ∈ d5, q ∈ F) (hw : St g w [F] ih) :
    CallsR Tryz.prog 50 #[.slice p2 x1.length c3, .int .u64 x7, .int .i64 x8] w fun v w' => ∃ (p1133 : Option Addr) (c1134 : Nat) (d1136 : Ch), v = .slice p1133 r.length c1134 ∧ St g w' [d1136, F] ih ∧ OSl e26 ih p1133 c1134 r d1136 := by
  refine f_in (vs := [.slice p2 x1.length c3, .int .u64 x7, .int .i64 x8]) Tryz.func50 rfl 36 rfl (by kernel_rfl) [(0, .slice p2 x1.length c3), (1, .int .u64 x7), (2, .int .i64 x8)] (by kernel_rfl) fun a Qf hQ hQn hs => ?_
  refine c_seq ?_
  refine c_region ?_
  refine pures hs 1 [0, 1, 2] [(0, .slice p2 x1.length c3), (1, .int .u64 x7), (2, .int .i64 x8)] (by kernel_rfl) fun a hs => ?_
  refine s_end ?_
  refine c_seq ?_
  refine c_region ?_
  refine pures hs 1 [0, 1, 2, 7] [(0, .slice p2 x1.length c3), (1, .int .u64 x7), (2, .int .i64 x8), (7, .slice none 0 0)] (by kernel_rfl) fun a hs => ?_
  refine s_end ?_
  refine c_seq ?_
  refine c_seq ?_
  refine c_region ?_
  refine pures hs 1 [0, 1, 2, 7, 8] [(0, .slice p2 x1.length c3), (1, .int .u64 x7), (2, .int .i64 x8), (7, .slice none 0 0), (8, .int .i64 0)] (by kernel_rfl) fun a hs => ?_
  refine s_end ?_
  refine c_block ?_
  obtain ⟨y995, hx996, hk⟩ := bindE hk
  replace hw := hw.nil
  obtain ⟨J997, hJ997⟩ : ∃ J : Act → World → Prop, ∀ a w, J a w ↔ (∃ (x989 : List M26) (p990 : Option Addr) (c991 : Nat) (d993 : Ch), catenaryref17_Batch_r24 x989 = some r ∧ Sees a 36 [(7, .slice p990 x989.length c991)] ∧ St g w [d993, F] ih ∧ OSl e26 ih p990 c991 x989 d993) := ⟨_, fun _ _ => Iff.rfl⟩
  obtain ⟨I998, hI998⟩ : ∃ J : Nat → Act → World → Prop, ∀ j a w, J j a w ↔ (∃ (x851 : List M26) (x857 : Int) (p852 : Option Addr) (c853 : Nat) (d855 : Ch), catenaryref17_Batch_l25 x1 x7 x8 j x851 x857 = some y995 ∧ Sees a 36 [(0, .slice p2 x1.length c3), (1, .int .u64 x7), (2, .int .i64 x8), (7, .slice p852 x851.length c853), (8, .int .i64 x857)] ∧ St g w [d855, F] ih ∧ OSl e26 ih p852 c853 x851 d855) := ⟨_, fun _ _ _ => Iff.rfl⟩
  refine c_exitJ 0 J997 ?_ ?_
  · refine c_loop I998 k ((hI998 _ _ _).2 ⟨([]), 0, none, 0, ([]), hx996, hs.cast [0, 1, 2, 7, 8] (by kernel_rfl), hw.pick [0, 1] (by kernel_rfl), (OSl.nil _ _)⟩) (fun a w h0 => ?_) fun j a w hh => ?_
    · obtain ⟨_, _, _, _, _, h, _⟩ := (hI998 _ _ _).1 h0
      cases h
    obtain ⟨x851, x857, p852, c853, d855, hx996, hs, hw, h854⟩ := (hI998 _ _ _).1 hh
    refine c_seq ?_
    refine c_seq ?_
    refine c_region ?_
    refine pures hs 4 [0, 1, 2, 7, 8, 12] [(0, .slice p2 x1.length c3), (1, .int .u64 x7), (2, .int .i64 x8), (7, .slice p852 x851.length c853), (8, .int .i64 x857), (12, .bool (decide (x857 < (x1.length : Int))))] (by kernel_rfl) fun a hs => ?_
    refine s_end ?_
    rcases ifbE hx996 with ⟨h999, hx996⟩ | ⟨h999, hx996⟩
    · refine c_cond1 hs (by kernel_rfl) (t := (decide (x857 < (x1.length : Int)))) (by kernel_rfl) h999 ?_
      refine c_skip ?_
      obtain ⟨y1066, hx1067, hx996⟩ := bindE hx996
      obtain ⟨J1068, hJ1068⟩ : ∃ J : Act → World → Prop, ∀ a w, J a w ↔ (∃ (x1060 : List M26) (p1061 : Option Addr) (c1062 : Nat) (d1064 : Ch), catenaryref17_Batch_r27 (catenaryref17_Batch_l25 x1 x7 x8 j) x857 x1060 = some y995 ∧ Sees a 36 [(0, .slice p2 x1.length c3), (1, .int .u64 x7), (2, .int .i64 x8), (8, .int .i64 x857), (7, .slice p1061 x1060.length c1062)] ∧ St g w [d1064, F] ih ∧ OSl e26 ih p1061 c1062 x1060 d1064) := ⟨_, fun _ _ => Iff.rfl⟩
      refine c_seqJ J1068 ?_ ?_
      · refine c_block ?_
        refine c_seq ?_
        obtain ⟨y1117, hx1118, hx1067⟩ := bindE hx1067
        obtain ⟨J1119, hJ1119⟩ : ∃ J : Act → World → Prop, ∀ a w, J a w ↔ (∃ (x1085 : Bool), catenaryref17_Batch_r28 x1 x857 x851 x1085 = some y1066 ∧ Sees a 36 [(0, .slice p2 x1.length c3), (1, .int .u64 x7), (2, .int .i64 x8), (7, .slice p852 x851.length c853), (8, .int .i64 x857), (27, .bool x1085)] ∧ St g w [d855, F] ih) := ⟨_, fun _ _ => Iff.rfl⟩
        refine c_regJ J1119 ?_ ?_
        · refine pures hs 2 [0, 1, 2, 7, 8, 15, 16] [(0, .slice p2 x1.length c3), (1, .int .u64 x7), (2, .int .i64 x8), (7, .slice p852 x851.length c853), (8, .int .i64 x857), (15, .slice p2 x1.length c3), (16, .int .i64 x857)] (by kernel_rfl) fun a hs => ?_
          obtain ⟨x1120, h1121, hx1118⟩ := bindE hx1118
          refine s_index hs h4 (by kernel_rfl) (by kernel_rfl) (k := .i64) (by kernel_rfl) 26 (by kernel_rfl) (by kernel_rfl) h1121 fun a r1122 cs henc at1123 hs => ?_
          obtain ⟨p1124, c1125, rfl, h1126⟩ := henc
          refine pures hs 1 [0, 1, 2, 7, 8, 18] [(0, .slice p2 x1.length c3), (1, .int .u64 x7), (2, .int .i64 x8), (7, .slice p852 x851.length c853), (8, .int .i64 x857), (18, .pointer (some r1122))] (by kernel_rfl) fun a hs => ?_
          refine s_load hs (at1123 _ (((hw.vw 1 rfl).sub h6).anti (Le.refl _))) 0 (by kernel_rfl) (by kernel_rfl) (v := .int .u64 x1120.f0) (by kernel_rfl) fun a hs => ?_
          refine pures hs 3 [0, 1, 2, 7, 8, 22] [(0, .slice p2 x1.length c3), (1, .int .u64 x7), (2, .int .i64 x8), (7, .slice p852 x851.length c853), (8, .int .i64 x857), (22, .bool (decide (x1120.f0 > x7)))] (by kernel_rfl) fun a hs => ?_
          rcases ifbE hx1118 with ⟨h1127, hx1118⟩ | ⟨h1127, hx1118⟩
          · replace hs := hs.altB 22 true (by kernel_rfl) h1127
            refine pures hs 5 [0, 1, 2, 7, 8, 27] [(0, .slice p2 x1.length c3), (1, .int .u64 x7), (2, .int .i64 x8), (7, .slice p852 x851.length c853), (8, .int .i64 x857), (27, .bool (decide ((x851.length : Int) < x8)))] (by kernel_rfl) fun a hs => ?_
            refine s_end ?_
            obtain rfl := someE hx1118
            exact (hJ1119 _ _).2 ⟨(decide ((x851.length : Int) < x8)), hx1067, hs.cast [0, 1, 2, 7, 8, 27] (by kernel_rfl), hw.pick [0, 1] (by kernel_rfl)⟩
          replace hs := hs.altB 22 false (by kernel_rfl) h1127
          refine pures hs 5 [0, 1, 2, 7, 8, 27] [(0, .slice p2 x1.length c3), (1, .int .u64 x7), (2, .int .i64 x8), (7, .slice p852 x851.length c853), (8, .int .i64 x857), (27, .bool false)] (by kernel_rfl) fun a hs => ?_
          refine s_end ?_
          obtain rfl := someE hx1118
          exact (hJ1119 _ _).2 ⟨false, hx1067, hs.cast [0, 1, 2, 7, 8, 27] (by kernel_rfl), hw.pick [0, 1] (by kernel_rfl)⟩
        intro a w hh
        obtain ⟨x1085, hx1067, hs, hw⟩ := (hJ1119 _ _).1 hh
        rcases ifbE hx1067 with ⟨h1086, hx1067⟩ | ⟨h1086, hx1067⟩
        · refine c_cond1 hs (by kernel_rfl) (t := x1085) (by kernel_rfl) h1086 ?_
          refine c_region ?_
          refine pures hs 3 [0, 1, 2, 8, 28, 29, 30] [(0, .slice p2 x1.length c3), (1, .int .u64 x7), (2, .int .i64 x8), (8, .int .i64 x857), (28, .slice p852 x851.length c853), (29, .slice p2 x1.length c3), (30, .int .i64 x857)] (by kernel_rfl) fun a hs => ?_
          obtain ⟨x1102, h1103, hx1067⟩ := bindE hx1067
          refine s_index hs h4 (by kernel_rfl) (by kernel_rfl) (k := .i64) (by kernel_rfl) 26 (by kernel_rfl) (by kernel_rfl) h1103 fun a r1104 cs henc at1105 hs => ?_
          obtain ⟨p1106, c1107, rfl, h1108⟩ := henc
          refine s_load hs (at1105 _ (((hw.vw 1 rfl).sub h6).anti (Le.refl _))) 0 (by kernel_rfl) (by kernel_rfl) (v := .agg #[.int .u64 x1102.f0, .int .i64 x1102.f1, .int .u64 x1102.f2, .int .i64 x1102.f3, .int .u32 x1102.f4, .int .u64 x1102.f5, .slice p1106 x1102.f6.length c1107]) (by kernel_rfl) fun a hs => ?_
          refine s_new hs hw [.int .u64 x1102.f0, .int .i64 x1102.f1, .int .u64 x1102.f2, .int .i64 x1102.f3, .int .u32 x1102.f4, .int .u64 x1102.f5, .slice p1106 x1102.f6.length c1107] 26 (fun b => .slice (some ⟨b, 0, none⟩) 1 1) (by kernel_rfl) (fun _ => by kernel_rfl) fun a w b1109 hs hw => ?_
          obtain ⟨x1111, h1112, hx1067⟩ := bindE hx1067
          refine s_app1 hs hw (E := e26) appT28 1 rfl h854 (by kernel_rfl) (by kernel_rfl) (c2 := 1) (by kernel_rfl) (hw.at_ 0 rfl) (z := x1102) ⟨p1106, c1107, rfl, h1108⟩ h1112 fun a w p1113 c1114 d1115 h1116 hw hs => ?_
          refine pures hs 1 [0, 1, 2, 8, 7] [(0, .slice p2 x1.length c3), (1, .int .u64 x7), (2, .int .i64 x8), (8, .int .i64 x857), (7, .slice p1113 x1111.length c1114)] (by kernel_rfl) fun a hs => ?_
          refine s_end ?_
          obtain rfl := someE hx1067
          exact (hJ1068 _ _).2 ⟨x1111, p1113, c1114, d1115, hx996, hs.cast [0, 1, 2, 8, 7] (by kernel_rfl), hw.pick [1, 2] (by kernel_rfl), h1116⟩
        refine c_cond0 hs (by kernel_rfl) (t := x1085) (by kernel_rfl) h1086 ?_
        refine c_skip ?_
        obtain rfl := someE hx1067
        exact (hJ1068 _ _).2 ⟨x851, p852, c853, d855, hx996, hs.cast [0, 1, 2, 8, 7] (by kernel_rfl), hw.pick [0, 1] (by kernel_rfl), h854⟩
      intro a w hh
      obtain ⟨x1060, p1061, c1062, d1064, hx996, hs, hw, h1063⟩ := (hJ1068 _ _).1 hh
      refine c_region ?_
      refine pures hs 3 [0, 1, 2, 8, 7] [(0, .slice p2 x1.length c3), (1, .int .u64 x7), (2, .int .i64 x8), (8, .int .i64 (IntKind.i64.wrap (x857 + 1))), (7, .slice p1061 x1060.length c1062)] (by kernel_rfl) fun a hs => ?_
      refine s_end ?_
      exact (hI998 _ _ _).2 ⟨x1060, (IntKind.i64.wrap (x857 + 1)), p1061, c1062, d1064, hx996, hs.cast [0, 1, 2, 7, 8] (by kernel_rfl), hw.pick [0, 1] (by kernel_rfl), h1063⟩
    refine c_cond0 hs (by kernel_rfl) (t := (decide (x857 < (x1.length : Int)))) (by kernel_rfl) h999 ?_
    refine c_exit ?_
    obtain rfl := someE hx996
    exact (hJ997 _ _).2 ⟨x851, p852, c853, d855, hk, hs.cast [7] (by kernel_rfl), hw.pick [0, 1] (by kernel_rfl), h854⟩
  intro a w hh
  obtain ⟨x989, p990, c991, d993, hk, hs, hw, h992⟩ := (hJ997 _ _).1 hh
  refine c_seq ?_
  refine c_region ?_
  refine pures hs 2 [6] [(6, .slice p990 x989.length c991)] (by kernel_rfl) fun a hs => ?_
  refine s_end ?_
  refine c_ret ?_
  obtain rfl := someE hk
  refine hQ _ _ (f_ret1 hs rfl (v := .slice p990 x989.length c991) (by kernel_rfl) ⟨p990, c991, d993, rfl, hw.pick [0, 1] (by kernel_rfl), h992⟩)
def catenaryref20_From (k : Nat) (x1 : M58) (x5 : Int) (x6 : Int) : Option ((List M26) × Bool) :=
  if ((decide (x5 < x1.f0)) || (decide (x5 > x1.f1))) = true then some ([], false)
  else (catenaryref17_Batch k x1.f3 x5 x6).bind fun y52 =>
  some (y52, true)
theorem catenaryref20_From_s {k : Nat} {x1 : M58} {x5 : Int} {x6 : Int} {p2 : Option Addr} {c3 : Nat} {r : (List M26) × Bool} (hk : catenaryref20_From k x1 x5 x6 = some r) {g w : World} {F : Ch} {ih : IH} (h4 : RSl e26 ih [] p2 c3 x1.f3) (hw : St g w [F] ih) :
    CallsR Tryz.prog 37 #[.agg #[.int .u64 x1.f0, .int .u64 x1.f1, .int .u64 x1.f2, .slice p2 x1.f3.length c3], .int .u64 x5, .int .i64 x6] w fun v w' => ∃ (p59 : Option Addr) (c60 : Nat) (d62 : Ch), v = .tuple #[.slice p59 r.1.length c60, .bool r.2] ∧ St g w' [d62, F] ih ∧ OSl e26 ih p59 c60 r.1 d62 := by
  refine f_in (vs := [.agg #[.int .u64 x1.f0, .int .u64 x1.f1, .int .u64 x1.f2, .slice p2 x1.f3.length c3], .int .u64 x5, .int .i64 x6]) Tryz.func37 rfl 23 rfl (by kernel_rfl) [(0, .agg #[.int .u64 x1.f0, .int .u64 x1.f1, .int .u64 x1.f2, .slice p2 x1.f3.length c3]), (1, .int .u64 x5), (2, .int .i64 x6)] (by kernel_rfl) fun a Qf hQ hQn hs => ?_
  refine c_seq ?_
  refine c_region ?_
  refine s_new hs hw [.int .u64 x1.f0, .int .u64 x1.f1, .int .u64 x1.f2, .slice p2 x1.f3.length c3] 58 (fun b => .pointer (some ⟨b, 0, none⟩)) (by kernel_rfl) (fun _ => by kernel_rfl) fun a w b35 hs hw => ?_
  refine pures hs 2 [1, 2, 3] [(1, .int .u64 x5), (2, .int .i64 x6), (3, .pointer (some ⟨b35, 0, none⟩))] (by kernel_rfl) fun a hs => ?_
  refine s_end ?_
  refine c_seq ?_
  refine c_seq ?_
  obtain ⟨J40, hJ40⟩ : ∃ J : Act → World → Prop, ∀ a w, J a w ↔ (Sees a 23 [(1, .int .u64 x5), (2, .int .i64 x6), (3, .pointer (some ⟨b35, 0, none⟩)), (17, .bool ((decide (x5 < x1.f0)) || (decide (x5 > x1.f1))))] ∧ St g w [bx b35 [.int .u64 x1.f0, .int .u64 x1.f1, .int .u64 x1.f2, .slice p2 x1.f3.length c3] 58, F] ih) := ⟨_, fun _ _ => Iff.rfl⟩
  refine c_regJ J40 ?_ ?_
  · refine pures hs 2 [1, 2, 3, 8, 9] [(1, .int .u64 x5), (2, .int .i64 x6), (3, .pointer (some ⟨b35, 0, none⟩)), (8, .int .u64 x5), (9, .pointer (some ⟨b35, 0, none⟩))] (by kernel_rfl) fun a hs => ?_
    refine s_load hs (hw.at_ 0 rfl) 0 (by kernel_rfl) (by kernel_rfl) (v := .int .u64 x1.f0) (by kernel_rfl) fun a hs => ?_
    refine pures hs 2 [1, 2, 3, 12] [(1, .int .u64 x5), (2, .int .i64 x6), (3, .pointer (some ⟨b35, 0, none⟩)), (12, .bool (decide (x5 < x1.f0)))] (by kernel_rfl) fun a hs => ?_
    rcases boolE (decide (x5 < x1.f0)) with h41 | h41
    · replace hs := hs.altB 12 true (by kernel_rfl) h41
      refine pures hs 5 [1, 2, 3, 17] [(1, .int .u64 x5), (2, .int .i64 x6), (3, .pointer (some ⟨b35, 0, none⟩)), (17, .bool true)] (by kernel_rfl) fun a hs => ?_
      refine s_end ?_
      exact (hJ40 _ _).2 ⟨(hs.altB 17 ((decide (x5 < x1.f0)) || (decide (x5 > x1.f1))) (by kernel_rfl) (by rw [h41] <;> rfl)).cast [1, 2, 3, 17] (by kernel_rfl), hw.pick [0, 1] (by kernel_rfl)⟩
    replace hs := hs.altB 12 false (by kernel_rfl) h41
    refine pures hs 2 [1, 2, 3, 12, 13, 14] [(1, .int .u64 x5), (2, .int .i64 x6), (3, .pointer (some ⟨b35, 0, none⟩)), (12, .bool false), (13, .int .u64 x5), (14, .pointer (some ⟨b35, 1, none⟩))] (by kernel_rfl) fun a hs => ?_
    refine s_load hs (hw.at_ 0 rfl) 1 (by kernel_rfl) (by kernel_rfl) (v := .int .u64 x1.f1) (by kernel_rfl) fun a hs => ?_
    refine pures hs 2 [1, 2, 3, 17] [(1, .int .u64 x5), (2, .int .i64 x6), (3, .pointer (some ⟨b35, 0, none⟩)), (17, .bool (decide (x5 > x1.f1)))] (by kernel_rfl) fun a hs => ?_
    refine s_end ?_
    exact (hJ40 _ _).2 ⟨(hs.altB 17 ((decide (x5 < x1.f0)) || (decide (x5 > x1.f1))) (by kernel_rfl) (by rw [h41] <;> rfl)).cast [1, 2, 3, 17] (by kernel_rfl), hw.pick [0, 1] (by kernel_rfl)⟩
  intro a w hh
  obtain ⟨hs, hw⟩ := (hJ40 _ _).1 hh
  rcases ifbE hk with ⟨h42, hk⟩ | ⟨h42, hk⟩
  · refine c_cond1 hs (by kernel_rfl) (t := ((decide (x5 < x1.f0)) || (decide (x5 > x1.f1)))) (by kernel_rfl) h42 ?_
    refine c_seq ?_
    refine c_region ?_
    refine pures hs 2 [6, 7] [(6, .slice none 0 0), (7, .bool false)] (by kernel_rfl) fun a hs => ?_
    refine s_end ?_
    refine c_ret ?_
    replace hw := hw.nil
    obtain rfl := someE hk
    refine hQ _ _ (f_retN hs [.tmp 6, .tmp 7] rfl [.slice none 0 0, .bool false] (by kernel_rfl) (by kernel_rfl) ⟨none, 0, ([]), rfl, hw.pick [0, 2] (by kernel_rfl), (OSl.nil _ _)⟩)
  refine c_cond0 hs (by kernel_rfl) (t := ((decide (x5 < x1.f0)) || (decide (x5 > x1.f1)))) (by kernel_rfl) h42 ?_
  refine c_skip ?_
  refine c_seq ?_
  refine c_region ?_
  refine pures hs 1 [1, 2, 18] [(1, .int .u64 x5), (2, .int .i64 x6), (18, .pointer (some ⟨b35, 3, none⟩))] (by kernel_rfl) fun a hs => ?_
  refine s_load hs (hw.at_ 0 rfl) 3 (by kernel_rfl) (by kernel_rfl) (v := .slice p2 x1.f3.length c3) (by kernel_rfl) fun a hs => ?_
  refine pures hs 2 [19, 20, 21] [(19, .slice p2 x1.f3.length c3), (20, .int .u64 x5), (21, .int .i64 x6)] (by kernel_rfl) fun a hs => ?_
  obtain ⟨y52, h53, hk⟩ := bindE hk
  refine s_call hs (by kernel_rfl) (by kernel_rfl) (catenaryref17_Batch_s h53 h4 (nilSub _) ((hw.pick [1] (by kernel_rfl)).pack 0)) fun a w v hv hs => ?_
  obtain ⟨p54, c55, d57, rfl, hw, h56⟩ := hv
  replace hw := hw.unpack 1 rfl
  refine pures hs 2 [6, 7] [(6, .slice p54 y52.length c55), (7, .bool true)] (by kernel_rfl) fun a hs => ?_
  refine s_end ?_
  refine c_ret ?_
  obtain rfl := someE hk
  refine hQ _ _ (f_retN hs [.tmp 6, .tmp 7] rfl [.slice p54 y52.length c55, .bool true] (by kernel_rfl) (by kernel_rfl) ⟨p54, c55, d57, rfl, hw.pick [0, 1] (by kernel_rfl), h56⟩)
def window_Window_Low (x3 : Int) : Option Int :=
  some x3
theorem window_Window_Low_s {x3 : Int} {x4 : Int} {x5 : List M26} {b2 : Nat} {p6 : Option Addr} {c7 : Nat} {d9 : Ch} {r : Int} (hk : window_Window_Low x3 = some r) {g w : World} {F : Ch} {ih : IH} (h8 : OSl e26 ih p6 c7 x5 d9) (hw : St g w [bx b2 [.int .u64 x3, .int .u64 x4, .slice p6 x5.length c7] 78, d9, F] ih) :
    CallsR Tryz.prog 30 #[.pointer (some ⟨b2, 0, none⟩)] w fun v w' => v = .int .u64 r ∧ St g w' [bx b2 [.int .u64 x3, .int .u64 x4, .slice p6 x5.length c7] 78, d9, F] ih := by
  refine f_in (vs := [.pointer (some ⟨b2, 0, none⟩)]) Tryz.func30 rfl 9 rfl (by kernel_rfl) [(0, .pointer (some ⟨b2, 0, none⟩))] (by kernel_rfl) fun a Qf hQ hQn hs => ?_
  refine c_seq ?_
  refine c_region ?_
  refine pures hs 1 [0] [(0, .pointer (some ⟨b2, 0, none⟩))] (by kernel_rfl) fun a hs => ?_
  refine s_end ?_
  refine c_seq ?_
  refine c_seq ?_
  refine c_region ?_
  refine pures hs 2 [0, 4] [(0, .pointer (some ⟨b2, 0, none⟩)), (4, .bool false)] (by kernel_rfl) fun a hs => ?_
  refine s_end ?_
  refine c_condF hs (by kernel_rfl) (by kernel_rfl) ?_
  refine c_skip ?_
  refine c_seq ?_
  refine c_region ?_
  refine pures hs 3 [7] [(7, .pointer (some ⟨b2, 0, none⟩))] (by kernel_rfl) fun a hs => ?_
  refine s_load hs (hw.at_ 0 rfl) 0 (by kernel_rfl) (by kernel_rfl) (v := .int .u64 x3) (by kernel_rfl) fun a hs => ?_
  refine pures hs 1 [2] [(2, .int .u64 x3)] (by kernel_rfl) fun a hs => ?_
  refine s_end ?_
  refine c_ret ?_
  obtain rfl := someE hk
  refine hQ _ _ (f_ret1 hs rfl (v := .int .u64 x3) (by kernel_rfl) ⟨rfl, hw.pick [0, 1, 2] (by kernel_rfl)⟩)
def window_Window_Held (x5 : List M26) : Option Int :=
  some (x5.length : Int)
theorem window_Window_Held_s {x3 : Int} {x4 : Int} {x5 : List M26} {b2 : Nat} {p6 : Option Addr} {c7 : Nat} {d9 : Ch} {r : Int} (hk : window_Window_Held x5 = some r) {g w : World} {F : Ch} {ih : IH} (h8 : OSl e26 ih p6 c7 x5 d9) (hw : St g w [bx b2 [.int .u64 x3, .int .u64 x4, .slice p6 x5.length c7] 78, d9, F] ih) :
    CallsR Tryz.prog 28 #[.pointer (some ⟨b2, 0, none⟩)] w fun v w' => v = .int .i64 r ∧ St g w' [bx b2 [.int .u64 x3, .int .u64 x4, .slice p6 x5.length c7] 78, d9, F] ih := by
  refine f_in (vs := [.pointer (some ⟨b2, 0, none⟩)]) Tryz.func28 rfl 10 rfl (by kernel_rfl) [(0, .pointer (some ⟨b2, 0, none⟩))] (by kernel_rfl) fun a Qf hQ hQn hs => ?_
  refine c_seq ?_
  refine c_region ?_
  refine pures hs 1 [0] [(0, .pointer (some ⟨b2, 0, none⟩))] (by kernel_rfl) fun a hs => ?_
  refine s_end ?_
  refine c_seq ?_
  refine c_seq ?_
  refine c_region ?_
  refine pures hs 2 [0, 4] [(0, .pointer (some ⟨b2, 0, none⟩)), (4, .bool false)] (by kernel_rfl) fun a hs => ?_
  refine s_end ?_
  refine c_condF hs (by kernel_rfl) (by kernel_rfl) ?_
  refine c_skip ?_
  refine c_seq ?_
  refine c_region ?_
  refine pures hs 3 [7] [(7, .pointer (some ⟨b2, 2, none⟩))] (by kernel_rfl) fun a hs => ?_
  refine s_load hs (hw.at_ 0 rfl) 2 (by kernel_rfl) (by kernel_rfl) (v := .slice p6 x5.length c7) (by kernel_rfl) fun a hs => ?_
  refine pures hs 2 [2] [(2, .int .i64 (x5.length : Int))] (by kernel_rfl) fun a hs => ?_
  refine s_end ?_
  refine c_ret ?_
  obtain rfl := someE hk
  refine hQ _ _ (f_ret1 hs rfl (v := .int .i64 (x5.length : Int)) (by kernel_rfl) ⟨rfl, hw.pick [0, 1, 2] (by kernel_rfl)⟩)
def window_Window_Room (x3 : Int) (x4 : Int) (x5 : List M26) : Option Bool :=
  (window_Window_Dirty x3 x4 x5).bind fun y19 =>
  some (decide (y19 < 16))
theorem window_Window_Room_s {x3 : Int} {x4 : Int} {x5 : List M26} {b2 : Nat} {p6 : Option Addr} {c7 : Nat} {d9 : Ch} {r : Bool} (hk : window_Window_Room x3 x4 x5 = some r) {g w : World} {F : Ch} {ih : IH} (h8 : OSl e26 ih p6 c7 x5 d9) (hw : St g w [bx b2 [.int .u64 x3, .int .u64 x4, .slice p6 x5.length c7] 78, d9, F] ih) :
    CallsR Tryz.prog 39 #[.pointer (some ⟨b2, 0, none⟩)] w fun v w' => v = .bool r ∧ St g w' [bx b2 [.int .u64 x3, .int .u64 x4, .slice p6 x5.length c7] 78, d9, F] ih := by
  refine f_in (vs := [.pointer (some ⟨b2, 0, none⟩)]) Tryz.func39 rfl 10 rfl (by kernel_rfl) [(0, .pointer (some ⟨b2, 0, none⟩))] (by kernel_rfl) fun a Qf hQ hQn hs => ?_
  refine c_seq ?_
  refine c_region ?_
  refine pures hs 1 [0] [(0, .pointer (some ⟨b2, 0, none⟩))] (by kernel_rfl) fun a hs => ?_
  refine s_end ?_
  refine c_seq ?_
  refine c_region ?_
  refine pures hs 4 [5, 6] [(5, .bool true), (6, .pointer (some ⟨b2, 0, none⟩))] (by kernel_rfl) fun a hs => ?_
  obtain ⟨y19, h20, hk⟩ := bindE hk
  refine s_call hs (by kernel_rfl) (by kernel_rfl) (window_Window_Dirty_s h20 h8 ((hw.pick [0, 1, 2] (by kernel_rfl)).pack 2)) fun a w v hv hs => ?_
  obtain ⟨rfl, hw⟩ := hv
  replace hw := hw.unpack 2 rfl
  refine pures hs 3 [2] [(2, .bool (decide (y19 < 16)))] (by kernel_rfl) fun a hs => ?_
  refine s_end ?_
  refine c_ret ?_
  obtain rfl := someE hk
  refine hQ _ _ (f_ret1 hs rfl (v := .bool (decide (y19 < 16))) (by kernel_rfl) ⟨rfl, hw.pick [0, 1, 2] (by kernel_rfl)⟩)
def catenarylaw20_same_r2 (x117 : Bool) : Option Bool :=
  some x117
def catenarylaw20_same (x3 : Int) (x4 : Int) (x5 : List M26) (x11 : M58) : Option Bool :=
  ((window_Window_Low x3).bind fun y121 =>
    if (y121 == x11.f0) = true then (
      (window_Window_End x3 x5).bind fun y124 =>
      if (y124 == x11.f1) = true then (
        (window_Window_Done x4).bind fun y127 =>
        if (y127 == x11.f2) = true then (
          (window_Window_Held x5).bind fun y130 =>
          if (y130 == (x11.f3.length : Int)) = true then (
            (window_Window_Dirty x3 x4 x5).bind fun y133 =>
            if (y133 == (IntKind.i64.wrap (IntKind.u64.wrap (x11.f1 - x11.f2)))) = true then (
              (window_Window_Room x3 x4 x5).bind fun y136 =>
              some (y136 == (decide ((IntKind.i64.wrap (IntKind.u64.wrap (x11.f1 - x11.f2))) < 16))))
            else some false)
          else some false)
        else some false)
      else some false)
    else some false : Option Bool).bind fun s138 => catenarylaw20_same_r2 s138
theorem catenarylaw20_same_s {x3 : Int} {x4 : Int} {x5 : List M26} {x11 : M58} {b2 : Nat} {p6 : Option Addr} {c7 : Nat} {d9 : Ch} {p12 : Option Addr} {c13 : Nat} {r : Bool} (hk : catenarylaw20_same x3 x4 x5 x11 = some r) {g w : World} {F : Ch} {ih : IH} (h8 : OSl e26 ih p6 c7 x5 d9) (h14 : RSl e26 ih [] p12 c13 x11.f3) (hw : St g w [bx b2 [.int .u64 x3, .int .u64 x4, .slice p6 x5.length c7] 78, d9, F] ih) :
    CallsR Tryz.prog 38 #[.pointer (some ⟨b2, 0, none⟩), .agg #[.int .u64 x11.f0, .int .u64 x11.f1, .int .u64 x11.f2, .slice p12 x11.f3.length c13]] w fun v w' => v = .bool r ∧ St g w' [bx b2 [.int .u64 x3, .int .u64 x4, .slice p6 x5.length c7] 78, d9, F] ih := by
  refine f_in (vs := [.pointer (some ⟨b2, 0, none⟩), .agg #[.int .u64 x11.f0, .int .u64 x11.f1, .int .u64 x11.f2, .slice p12 x11.f3.length c13]]) Tryz.func38 rfl 52 rfl (by kernel_rfl) [(0, .pointer (some ⟨b2, 0, none⟩)), (1, .agg #[.int .u64 x11.f0, .int .u64 x11.f1, .int .u64 x11.f2, .slice p12 x11.f3.length c13])] (by kernel_rfl) fun a Qf hQ hQn hs => ?_
  refine c_seq ?_
  refine c_region ?_
  refine s_new hs hw [.int .u64 x11.f0, .int .u64 x11.f1, .int .u64 x11.f2, .slice p12 x11.f3.length c13] 58 (fun b => .pointer (some ⟨b, 0, none⟩)) (by kernel_rfl) (fun _ => by kernel_rfl) fun a w b80 hs hw => ?_
  refine pures hs 1 [0, 3] [(0, .pointer (some ⟨b2, 0, none⟩)), (3, .pointer (some ⟨b80, 0, none⟩))] (by kernel_rfl) fun a hs => ?_
  refine s_end ?_
  refine c_seq ?_
  refine c_region ?_
  refine pures hs 1 [0, 3, 6] [(0, .pointer (some ⟨b2, 0, none⟩)), (3, .pointer (some ⟨b80, 0, none⟩)), (6, .pointer (some ⟨b80, 1, none⟩))] (by kernel_rfl) fun a hs => ?_
  refine s_load hs (hw.at_ 0 rfl) 1 (by kernel_rfl) (by kernel_rfl) (v := .int .u64 x11.f1) (by kernel_rfl) fun a hs => ?_
  refine pures hs 1 [0, 3, 7, 8] [(0, .pointer (some ⟨b2, 0, none⟩)), (3, .pointer (some ⟨b80, 0, none⟩)), (7, .int .u64 x11.f1), (8, .pointer (some ⟨b80, 2, none⟩))] (by kernel_rfl) fun a hs => ?_
  refine s_load hs (hw.at_ 0 rfl) 2 (by kernel_rfl) (by kernel_rfl) (v := .int .u64 x11.f2) (by kernel_rfl) fun a hs => ?_
  refine pures hs 3 [0, 3, 5] [(0, .pointer (some ⟨b2, 0, none⟩)), (3, .pointer (some ⟨b80, 0, none⟩)), (5, .int .i64 (IntKind.i64.wrap (IntKind.u64.wrap (x11.f1 - x11.f2))))] (by kernel_rfl) fun a hs => ?_
  refine s_end ?_
  refine c_seq ?_
  obtain ⟨S82, hS82, kS82⟩ := mkSX (X := [([], bx b80 [.int .u64 x11.f0, .int .u64 x11.f1, .int .u64 x11.f2, .slice p12 x11.f3.length c13] 58), ([], bx b2 [.int .u64 x3, .int .u64 x4, .slice p6 x5.length c7] 78), ([], d9), ([], F)]) (ih := ih) (K := []) rfl
  obtain ⟨y118, hx119, hk⟩ := bindE hk
  obtain ⟨J120, hJ120⟩ : ∃ J : Act → World → Prop, ∀ a w, J a w ↔ (∃ (x117 : Bool), catenarylaw20_same_r2 x117 = some r ∧ Sees a 52 [(4, .bool x117)] ∧ St g w [bx b2 [.int .u64 x3, .int .u64 x4, .slice p6 x5.length c7] 78, d9, F] ih) := ⟨_, fun _ _ => Iff.rfl⟩
  refine c_draw (by kernel_rfl) (N := 41) rfl S82 J120 ?_ ?_
  · have hw := hw.drew
    have hS : S82 (Array.replicate 41 false) _ := SX_now hS82 (hw.vws [0, 1, 2, 3]) (by kernel_rfl)
    refine d_pures (fuel := 39) kS82 hs hS [0, 2] [0, 3, 5, 12, 14] [(0, .pointer (some ⟨b2, 0, none⟩)), (3, .pointer (some ⟨b80, 0, none⟩)), (5, .int .i64 (IntKind.i64.wrap (IntKind.u64.wrap (x11.f1 - x11.f2)))), (12, .pointer (some ⟨b2, 0, none⟩)), (14, .pointer (some ⟨b80, 0, none⟩))] (by kernel_rfl) fun a hs hS => ?_
    refine d_load (fuel := 38) kS82 hs hS 3 rfl (by kernel_rfl) (SX_box hS82 0 rfl (by kernel_rfl)) 0 (by kernel_rfl) (by kernel_rfl) (v := .int .u64 x11.f0) (by kernel_rfl) fun a hs hS => ?_
    refine d_all (fuel := 37) (rs := [1]) (by kernel_rfl) (by simp) (all1 ?_)
    obtain ⟨y121, h122, hx119⟩ := bindE hx119
    refine o_call hs rfl (by kernel_rfl) (by kernel_rfl) (window_Window_Low_s (x4 := x4) (x5 := x5) h122 h8 ((hw.pick [1, 2, 0, 3] (by kernel_rfl)).pack 2)) fun a w v hv hs => ?_
    obtain ⟨rfl, hw⟩ := hv
    replace hw := hw.unpack 2 rfl
    refine dg_next (SX_now hS82 ((hw.vws [2, 0, 1, 3]).anti (Le.refl _)) (by kernel_rfl)) fun hS => ?_
    refine d_pures (fuel := 35) kS82 hs hS [4, 5] [0, 3, 5, 12, 14, 15, 13, 16, 17] [(0, .pointer (some ⟨b2, 0, none⟩)), (3, .pointer (some ⟨b80, 0, none⟩)), (5, .int .i64 (IntKind.i64.wrap (IntKind.u64.wrap (x11.f1 - x11.f2)))), (12, .pointer (some ⟨b2, 0, none⟩)), (14, .pointer (some ⟨b80, 0, none⟩)), (15, .int .u64 x11.f0), (13, .int .u64 y121), (16, .bool (y121 == x11.f0)), (17, .bool (y121 == x11.f0))] (by kernel_rfl) fun a hs hS => ?_
    rcases ifbE hx119 with ⟨h123, hx119⟩ | ⟨h123, hx119⟩
    · replace hs := hs.altB 17 true (by kernel_rfl) h123
      refine d_pures (fuel := 33) kS82 hs hS [6, 8] [0, 3, 5, 12, 14, 15, 13, 16, 17, 18, 20] [(0, .pointer (some ⟨b2, 0, none⟩)), (3, .pointer (some ⟨b80, 0, none⟩)), (5, .int .i64 (IntKind.i64.wrap (IntKind.u64.wrap (x11.f1 - x11.f2)))), (12, .pointer (some ⟨b2, 0, none⟩)), (14, .pointer (some ⟨b80, 0, none⟩)), (15, .int .u64 x11.f0), (13, .int .u64 y121), (16, .bool (y121 == x11.f0)), (17, .bool true), (18, .pointer (some ⟨b2, 0, none⟩)), (20, .pointer (some ⟨b80, 1, none⟩))] (by kernel_rfl) fun a hs hS => ?_
      refine d_load (fuel := 32) kS82 hs hS 9 rfl (by kernel_rfl) (SX_box hS82 0 rfl (by kernel_rfl)) 1 (by kernel_rfl) (by kernel_rfl) (v := .int .u64 x11.f1) (by kernel_rfl) fun a hs hS => ?_
      refine d_all (fuel := 31) (rs := [7]) (by kernel_rfl) (by simp) (all1 ?_)
      obtain ⟨y124, h125, hx119⟩ := bindE hx119
      refine o_call hs rfl (by kernel_rfl) (by kernel_rfl) (window_Window_End_s (x4 := x4) h125 h8 ((hw.pick [0, 1, 2, 3] (by kernel_rfl)).pack 2)) fun a w v hv hs => ?_
      obtain ⟨rfl, hw⟩ := hv
      replace hw := hw.unpack 2 rfl
      refine dg_next (SX_now hS82 ((hw.vws [2, 0, 1, 3]).anti (Le.refl _)) (by kernel_rfl)) fun hS => ?_
      refine d_pures (fuel := 28) kS82 hs hS [10, 11, 12] [0, 3, 5, 12, 14, 15, 13, 16, 17, 18, 20, 21, 19, 22, 23, 24] [(0, .pointer (some ⟨b2, 0, none⟩)), (3, .pointer (some ⟨b80, 0, none⟩)), (5, .int .i64 (IntKind.i64.wrap (IntKind.u64.wrap (x11.f1 - x11.f2)))), (12, .pointer (some ⟨b2, 0, none⟩)), (14, .pointer (some ⟨b80, 0, none⟩)), (15, .int .u64 x11.f0), (13, .int .u64 y121), (16, .bool (y121 == x11.f0)), (17, .bool true), (18, .pointer (some ⟨b2, 0, none⟩)), (20, .pointer (some ⟨b80, 1, none⟩)), (21, .int .u64 x11.f1), (19, .int .u64 y124), (22, .bool (y124 == x11.f1)), (23, .bool (y124 == x11.f1)), (24, .bool (y124 == x11.f1))] (by kernel_rfl) fun a hs hS => ?_
      rcases ifbE hx119 with ⟨h126, hx119⟩ | ⟨h126, hx119⟩
      · replace hs := hs.altB 24 true (by kernel_rfl) h126
        refine d_pures (fuel := 26) kS82 hs hS [13, 15] [0, 3, 5, 12, 14, 15, 13, 16, 17, 18, 20, 21, 19, 22, 23, 24, 25, 27] [(0, .pointer (some ⟨b2, 0, none⟩)), (3, .pointer (some ⟨b80, 0, none⟩)), (5, .int .i64 (IntKind.i64.wrap (IntKind.u64.wrap (x11.f1 - x11.f2)))), (12, .pointer (some ⟨b2, 0, none⟩)), (14, .pointer (some ⟨b80, 0, none⟩)), (15, .int .u64 x11.f0), (13, .int .u64 y121), (16, .bool (y121 == x11.f0)), (17, .bool true), (18, .pointer (some ⟨b2, 0, none⟩)), (20, .pointer (some ⟨b80, 1, none⟩)), (21, .int .u64 x11.f1), (19, .int .u64 y124), (22, .bool (y124 == x11.f1)), (23, .bool (y124 == x11.f1)), (24, .bool true), (25, .pointer (some ⟨b2, 0, none⟩)), (27, .pointer (some ⟨b80, 2, none⟩))] (by kernel_rfl) fun a hs hS => ?_
        refine d_load (fuel := 25) kS82 hs hS 16 rfl (by kernel_rfl) (SX_box hS82 0 rfl (by kernel_rfl)) 2 (by kernel_rfl) (by kernel_rfl) (v := .int .u64 x11.f2) (by kernel_rfl) fun a hs hS => ?_
        refine d_all (fuel := 24) (rs := [14]) (by kernel_rfl) (by simp) (all1 ?_)
        obtain ⟨y127, h128, hx119⟩ := bindE hx119
        refine o_call hs rfl (by kernel_rfl) (by kernel_rfl) (window_Window_Done_s (x3 := x3) (x5 := x5) h128 h8 ((hw.pick [0, 1, 2, 3] (by kernel_rfl)).pack 2)) fun a w v hv hs => ?_
        obtain ⟨rfl, hw⟩ := hv
        replace hw := hw.unpack 2 rfl
        refine dg_next (SX_now hS82 ((hw.vws [2, 0, 1, 3]).anti (Le.refl _)) (by kernel_rfl)) fun hS => ?_
        refine d_pures (fuel := 21) kS82 hs hS [17, 18, 19] [0, 3, 5, 12, 14, 15, 13, 16, 17, 18, 20, 21, 19, 22, 23, 24, 25, 27, 28, 26, 29, 30, 31] [(0, .pointer (some ⟨b2, 0, none⟩)), (3, .pointer (some ⟨b80, 0, none⟩)), (5, .int .i64 (IntKind.i64.wrap (IntKind.u64.wrap (x11.f1 - x11.f2)))), (12, .pointer (some ⟨b2, 0, none⟩)), (14, .pointer (some ⟨b80, 0, none⟩)), (15, .int .u64 x11.f0), (13, .int .u64 y121), (16, .bool (y121 == x11.f0)), (17, .bool true), (18, .pointer (some ⟨b2, 0, none⟩)), (20, .pointer (some ⟨b80, 1, none⟩)), (21, .int .u64 x11.f1), (19, .int .u64 y124), (22, .bool (y124 == x11.f1)), (23, .bool (y124 == x11.f1)), (24, .bool true), (25, .pointer (some ⟨b2, 0, none⟩)), (27, .pointer (some ⟨b80, 2, none⟩)), (28, .int .u64 x11.f2), (26, .int .u64 y127), (29, .bool (y127 == x11.f2)), (30, .bool (y127 == x11.f2)), (31, .bool (y127 == x11.f2))] (by kernel_rfl) fun a hs hS => ?_
        rcases ifbE hx119 with ⟨h129, hx119⟩ | ⟨h129, hx119⟩
        · replace hs := hs.altB 31 true (by kernel_rfl) h129
          refine d_pures (fuel := 19) kS82 hs hS [20, 22] [0, 3, 5, 12, 14, 15, 13, 16, 17, 18, 20, 21, 19, 22, 23, 24, 25, 27, 28, 26, 29, 30, 31, 32, 34] [(0, .pointer (some ⟨b2, 0, none⟩)), (3, .pointer (some ⟨b80, 0, none⟩)), (5, .int .i64 (IntKind.i64.wrap (IntKind.u64.wrap (x11.f1 - x11.f2)))), (12, .pointer (some ⟨b2, 0, none⟩)), (14, .pointer (some ⟨b80, 0, none⟩)), (15, .int .u64 x11.f0), (13, .int .u64 y121), (16, .bool (y121 == x11.f0)), (17, .bool true), (18, .pointer (some ⟨b2, 0, none⟩)), (20, .pointer (some ⟨b80, 1, none⟩)), (21, .int .u64 x11.f1), (19, .int .u64 y124), (22, .bool (y124 == x11.f1)), (23, .bool (y124 == x11.f1)), (24, .bool true), (25, .pointer (some ⟨b2, 0, none⟩)), (27, .pointer (some ⟨b80, 2, none⟩)), (28, .int .u64 x11.f2), (26, .int .u64 y127), (29, .bool (y127 == x11.f2)), (30, .bool (y127 == x11.f2)), (31, .bool true), (32, .pointer (some ⟨b2, 0, none⟩)), (34, .pointer (some ⟨b80, 3, none⟩))] (by kernel_rfl) fun a hs hS => ?_
          refine d_load (fuel := 18) kS82 hs hS 23 rfl (by kernel_rfl) (SX_box hS82 0 rfl (by kernel_rfl)) 3 (by kernel_rfl) (by kernel_rfl) (v := .slice p12 x11.f3.length c13) (by kernel_rfl) fun a hs hS => ?_
          refine d_pures (fuel := 17) kS82 hs hS [24] [0, 3, 5, 12, 14, 15, 13, 16, 17, 18, 20, 21, 19, 22, 23, 24, 25, 27, 28, 26, 29, 30, 31, 32, 34, 35, 36] [(0, .pointer (some ⟨b2, 0, none⟩)), (3, .pointer (some ⟨b80, 0, none⟩)), (5, .int .i64 (IntKind.i64.wrap (IntKind.u64.wrap (x11.f1 - x11.f2)))), (12, .pointer (some ⟨b2, 0, none⟩)), (14, .pointer (some ⟨b80, 0, none⟩)), (15, .int .u64 x11.f0), (13, .int .u64 y121), (16, .bool (y121 == x11.f0)), (17, .bool true), (18, .pointer (some ⟨b2, 0, none⟩)), (20, .pointer (some ⟨b80, 1, none⟩)), (21, .int .u64 x11.f1), (19, .int .u64 y124), (22, .bool (y124 == x11.f1)), (23, .bool (y124 == x11.f1)), (24, .bool true), (25, .pointer (some ⟨b2, 0, none⟩)), (27, .pointer (some ⟨b80, 2, none⟩)), (28, .int .u64 x11.f2), (26, .int .u64 y127), (29, .bool (y127 == x11.f2)), (30, .bool (y127 == x11.f2)), (31, .bool true), (32, .pointer (some ⟨b2, 0, none⟩)), (34, .pointer (some ⟨b80, 3, none⟩)), (35, .slice p12 x11.f3.length c13), (36, .int .i64 (x11.f3.length : Int))] (by kernel_rfl) fun a hs hS => ?_
          refine d_all (fuel := 16) (rs := [21]) (by kernel_rfl) (by simp) (all1 ?_)
          obtain ⟨y130, h131, hx119⟩ := bindE hx119
          refine o_call hs rfl (by kernel_rfl) (by kernel_rfl) (window_Window_Held_s (x3 := x3) (x4 := x4) h131 h8 ((hw.pick [0, 1, 2, 3] (by kernel_rfl)).pack 2)) fun a w v hv hs => ?_
          obtain ⟨rfl, hw⟩ := hv
          replace hw := hw.unpack 2 rfl
          refine dg_next (SX_now hS82 ((hw.vws [2, 0, 1, 3]).anti (Le.refl _)) (by kernel_rfl)) fun hS => ?_
          refine d_pures (fuel := 13) kS82 hs hS [25, 26, 27] [0, 3, 5, 12, 14, 15, 13, 16, 17, 18, 20, 21, 19, 22, 23, 24, 25, 27, 28, 26, 29, 30, 31, 32, 34, 35, 36, 33, 37, 38, 39] [(0, .pointer (some ⟨b2, 0, none⟩)), (3, .pointer (some ⟨b80, 0, none⟩)), (5, .int .i64 (IntKind.i64.wrap (IntKind.u64.wrap (x11.f1 - x11.f2)))), (12, .pointer (some ⟨b2, 0, none⟩)), (14, .pointer (some ⟨b80, 0, none⟩)), (15, .int .u64 x11.f0), (13, .int .u64 y121), (16, .bool (y121 == x11.f0)), (17, .bool true), (18, .pointer (some ⟨b2, 0, none⟩)), (20, .pointer (some ⟨b80, 1, none⟩)), (21, .int .u64 x11.f1), (19, .int .u64 y124), (22, .bool (y124 == x11.f1)), (23, .bool (y124 == x11.f1)), (24, .bool true), (25, .pointer (some ⟨b2, 0, none⟩)), (27, .pointer (some ⟨b80, 2, none⟩)), (28, .int .u64 x11.f2), (26, .int .u64 y127), (29, .bool (y127 == x11.f2)), (30, .bool (y127 == x11.f2)), (31, .bool true), (32, .pointer (some ⟨b2, 0, none⟩)), (34, .pointer (some ⟨b80, 3, none⟩)), (35, .slice p12 x11.f3.length c13), (36, .int .i64 (x11.f3.length : Int)), (33, .int .i64 y130), (37, .bool (y130 == (x11.f3.length : Int))), (38, .bool (y130 == (x11.f3.length : Int))), (39, .bool (y130 == (x11.f3.length : Int)))] (by kernel_rfl) fun a hs hS => ?_
          rcases ifbE hx119 with ⟨h132, hx119⟩ | ⟨h132, hx119⟩
          · replace hs := hs.altB 39 true (by kernel_rfl) h132
            refine d_pures (fuel := 11) kS82 hs hS [28, 30] [0, 3, 5, 12, 14, 15, 13, 16, 17, 18, 20, 21, 19, 22, 23, 24, 25, 27, 28, 26, 29, 30, 31, 32, 34, 35, 36, 33, 37, 38, 39, 40, 42] [(0, .pointer (some ⟨b2, 0, none⟩)), (3, .pointer (some ⟨b80, 0, none⟩)), (5, .int .i64 (IntKind.i64.wrap (IntKind.u64.wrap (x11.f1 - x11.f2)))), (12, .pointer (some ⟨b2, 0, none⟩)), (14, .pointer (some ⟨b80, 0, none⟩)), (15, .int .u64 x11.f0), (13, .int .u64 y121), (16, .bool (y121 == x11.f0)), (17, .bool true), (18, .pointer (some ⟨b2, 0, none⟩)), (20, .pointer (some ⟨b80, 1, none⟩)), (21, .int .u64 x11.f1), (19, .int .u64 y124), (22, .bool (y124 == x11.f1)), (23, .bool (y124 == x11.f1)), (24, .bool true), (25, .pointer (some ⟨b2, 0, none⟩)), (27, .pointer (some ⟨b80, 2, none⟩)), (28, .int .u64 x11.f2), (26, .int .u64 y127), (29, .bool (y127 == x11.f2)), (30, .bool (y127 == x11.f2)), (31, .bool true), (32, .pointer (some ⟨b2, 0, none⟩)), (34, .pointer (some ⟨b80, 3, none⟩)), (35, .slice p12 x11.f3.length c13), (36, .int .i64 (x11.f3.length : Int)), (33, .int .i64 y130), (37, .bool (y130 == (x11.f3.length : Int))), (38, .bool (y130 == (x11.f3.length : Int))), (39, .bool true), (40, .pointer (some ⟨b2, 0, none⟩)), (42, .int .i64 (IntKind.i64.wrap (IntKind.u64.wrap (x11.f1 - x11.f2))))] (by kernel_rfl) fun a hs hS => ?_
            refine d_all (fuel := 10) (rs := [29]) (by kernel_rfl) (by simp) (all1 ?_)
            obtain ⟨y133, h134, hx119⟩ := bindE hx119
            refine o_call hs rfl (by kernel_rfl) (by kernel_rfl) (window_Window_Dirty_s h134 h8 ((hw.pick [0, 1, 2, 3] (by kernel_rfl)).pack 2)) fun a w v hv hs => ?_
            obtain ⟨rfl, hw⟩ := hv
            replace hw := hw.unpack 2 rfl
            refine dg_next (SX_now hS82 ((hw.vws [2, 0, 1, 3]).anti (Le.refl _)) (by kernel_rfl)) fun hS => ?_
            refine d_pures (fuel := 7) kS82 hs hS [31, 32, 33] [0, 3, 5, 12, 14, 15, 13, 16, 17, 18, 20, 21, 19, 22, 23, 24, 25, 27, 28, 26, 29, 30, 31, 32, 34, 35, 36, 33, 37, 38, 39, 40, 42, 41, 43, 44, 45] [(0, .pointer (some ⟨b2, 0, none⟩)), (3, .pointer (some ⟨b80, 0, none⟩)), (5, .int .i64 (IntKind.i64.wrap (IntKind.u64.wrap (x11.f1 - x11.f2)))), (12, .pointer (some ⟨b2, 0, none⟩)), (14, .pointer (some ⟨b80, 0, none⟩)), (15, .int .u64 x11.f0), (13, .int .u64 y121), (16, .bool (y121 == x11.f0)), (17, .bool true), (18, .pointer (some ⟨b2, 0, none⟩)), (20, .pointer (some ⟨b80, 1, none⟩)), (21, .int .u64 x11.f1), (19, .int .u64 y124), (22, .bool (y124 == x11.f1)), (23, .bool (y124 == x11.f1)), (24, .bool true), (25, .pointer (some ⟨b2, 0, none⟩)), (27, .pointer (some ⟨b80, 2, none⟩)), (28, .int .u64 x11.f2), (26, .int .u64 y127), (29, .bool (y127 == x11.f2)), (30, .bool (y127 == x11.f2)), (31, .bool true), (32, .pointer (some ⟨b2, 0, none⟩)), (34, .pointer (some ⟨b80, 3, none⟩)), (35, .slice p12 x11.f3.length c13), (36, .int .i64 (x11.f3.length : Int)), (33, .int .i64 y130), (37, .bool (y130 == (x11.f3.length : Int))), (38, .bool (y130 == (x11.f3.length : Int))), (39, .bool true), (40, .pointer (some ⟨b2, 0, none⟩)), (42, .int .i64 (IntKind.i64.wrap (IntKind.u64.wrap (x11.f1 - x11.f2)))), (41, .int .i64 y133), (43, .bool (y133 == (IntKind.i64.wrap (IntKind.u64.wrap (x11.f1 - x11.f2))))), (44, .bool (y133 == (IntKind.i64.wrap (IntKind.u64.wrap (x11.f1 - x11.f2))))), (45, .bool (y133 == (IntKind.i64.wrap (IntKind.u64.wrap (x11.f1 - x11.f2)))))] (by kernel_rfl) fun a hs hS => ?_
            rcases ifbE hx119 with ⟨h135, hx119⟩ | ⟨h135, hx119⟩
            · replace hs := hs.altB 45 true (by kernel_rfl) h135
              refine d_pures (fuel := 4) kS82 hs hS [34, 36, 37] [0, 3, 5, 12, 14, 15, 13, 16, 17, 18, 20, 21, 19, 22, 23, 24, 25, 27, 28, 26, 29, 30, 31, 32, 34, 35, 36, 33, 37, 38, 39, 40, 42, 41, 43, 44, 45, 46, 48, 49] [(0, .pointer (some ⟨b2, 0, none⟩)), (3, .pointer (some ⟨b80, 0, none⟩)), (5, .int .i64 (IntKind.i64.wrap (IntKind.u64.wrap (x11.f1 - x11.f2)))), (12, .pointer (some ⟨b2, 0, none⟩)), (14, .pointer (some ⟨b80, 0, none⟩)), (15, .int .u64 x11.f0), (13, .int .u64 y121), (16, .bool (y121 == x11.f0)), (17, .bool true), (18, .pointer (some ⟨b2, 0, none⟩)), (20, .pointer (some ⟨b80, 1, none⟩)), (21, .int .u64 x11.f1), (19, .int .u64 y124), (22, .bool (y124 == x11.f1)), (23, .bool (y124 == x11.f1)), (24, .bool true), (25, .pointer (some ⟨b2, 0, none⟩)), (27, .pointer (some ⟨b80, 2, none⟩)), (28, .int .u64 x11.f2), (26, .int .u64 y127), (29, .bool (y127 == x11.f2)), (30, .bool (y127 == x11.f2)), (31, .bool true), (32, .pointer (some ⟨b2, 0, none⟩)), (34, .pointer (some ⟨b80, 3, none⟩)), (35, .slice p12 x11.f3.length c13), (36, .int .i64 (x11.f3.length : Int)), (33, .int .i64 y130), (37, .bool (y130 == (x11.f3.length : Int))), (38, .bool (y130 == (x11.f3.length : Int))), (39, .bool true), (40, .pointer (some ⟨b2, 0, none⟩)), (42, .int .i64 (IntKind.i64.wrap (IntKind.u64.wrap (x11.f1 - x11.f2)))), (41, .int .i64 y133), (43, .bool (y133 == (IntKind.i64.wrap (IntKind.u64.wrap (x11.f1 - x11.f2))))), (44, .bool (y133 == (IntKind.i64.wrap (IntKind.u64.wrap (x11.f1 - x11.f2))))), (45, .bool true), (46, .pointer (some ⟨b2, 0, none⟩)), (48, .int .i64 (IntKind.i64.wrap (IntKind.u64.wrap (x11.f1 - x11.f2)))), (49, .bool (decide ((IntKind.i64.wrap (IntKind.u64.wrap (x11.f1 - x11.f2))) < 16)))] (by kernel_rfl) fun a hs hS => ?_
              refine d_all (fuel := 3) (rs := [35]) (by kernel_rfl) (by simp) (all1 ?_)
              obtain ⟨y136, h137, hx119⟩ := bindE hx119
              refine o_call hs rfl (by kernel_rfl) (by kernel_rfl) (window_Window_Room_s h137 h8 ((hw.pick [0, 1, 2, 3] (by kernel_rfl)).pack 2)) fun a w v hv hs => ?_
              obtain ⟨rfl, hw⟩ := hv
              replace hw := hw.unpack 2 rfl
              refine dg_next (SX_now hS82 ((hw.vws [2, 0, 1, 3]).anti (Le.refl _)) (by kernel_rfl)) fun hS => ?_
              refine d_pures (fuel := 0) kS82 hs hS [38, 39, 40] [0, 3, 5, 12, 14, 15, 13, 16, 17, 18, 20, 21, 19, 22, 23, 24, 25, 27, 28, 26, 29, 30, 31, 32, 34, 35, 36, 33, 37, 38, 39, 40, 42, 41, 43, 44, 45, 46, 48, 49, 47, 50, 51, 4] [(0, .pointer (some ⟨b2, 0, none⟩)), (3, .pointer (some ⟨b80, 0, none⟩)), (5, .int .i64 (IntKind.i64.wrap (IntKind.u64.wrap (x11.f1 - x11.f2)))), (12, .pointer (some ⟨b2, 0, none⟩)), (14, .pointer (some ⟨b80, 0, none⟩)), (15, .int .u64 x11.f0), (13, .int .u64 y121), (16, .bool (y121 == x11.f0)), (17, .bool true), (18, .pointer (some ⟨b2, 0, none⟩)), (20, .pointer (some ⟨b80, 1, none⟩)), (21, .int .u64 x11.f1), (19, .int .u64 y124), (22, .bool (y124 == x11.f1)), (23, .bool (y124 == x11.f1)), (24, .bool true), (25, .pointer (some ⟨b2, 0, none⟩)), (27, .pointer (some ⟨b80, 2, none⟩)), (28, .int .u64 x11.f2), (26, .int .u64 y127), (29, .bool (y127 == x11.f2)), (30, .bool (y127 == x11.f2)), (31, .bool true), (32, .pointer (some ⟨b2, 0, none⟩)), (34, .pointer (some ⟨b80, 3, none⟩)), (35, .slice p12 x11.f3.length c13), (36, .int .i64 (x11.f3.length : Int)), (33, .int .i64 y130), (37, .bool (y130 == (x11.f3.length : Int))), (38, .bool (y130 == (x11.f3.length : Int))), (39, .bool true), (40, .pointer (some ⟨b2, 0, none⟩)), (42, .int .i64 (IntKind.i64.wrap (IntKind.u64.wrap (x11.f1 - x11.f2)))), (41, .int .i64 y133), (43, .bool (y133 == (IntKind.i64.wrap (IntKind.u64.wrap (x11.f1 - x11.f2))))), (44, .bool (y133 == (IntKind.i64.wrap (IntKind.u64.wrap (x11.f1 - x11.f2))))), (45, .bool true), (46, .pointer (some ⟨b2, 0, none⟩)), (48, .int .i64 (IntKind.i64.wrap (IntKind.u64.wrap (x11.f1 - x11.f2)))), (49, .bool (decide ((IntKind.i64.wrap (IntKind.u64.wrap (x11.f1 - x11.f2))) < 16))), (47, .bool y136), (50, .bool (y136 == (decide ((IntKind.i64.wrap (IntKind.u64.wrap (x11.f1 - x11.f2))) < 16)))), (51, .bool (y136 == (decide ((IntKind.i64.wrap (IntKind.u64.wrap (x11.f1 - x11.f2))) < 16)))), (4, .bool (y136 == (decide ((IntKind.i64.wrap (IntKind.u64.wrap (x11.f1 - x11.f2))) < 16))))] (by kernel_rfl) fun a hs hS => ?_
              refine d_done (by kernel_rfl) ?_
              obtain rfl := someE hx119
              exact (hJ120 _ _).2 ⟨(y136 == (decide ((IntKind.i64.wrap (IntKind.u64.wrap (x11.f1 - x11.f2))) < 16))), hk, hs.cast [4] (by kernel_rfl), hw.pick [0, 1, 3] (by kernel_rfl)⟩
            replace hs := hs.altB 45 false (by kernel_rfl) h135
            refine d_pures (fuel := 0) kS82 hs hS [34, 35, 36, 37, 38, 39, 40] [0, 3, 5, 12, 14, 15, 13, 16, 17, 18, 20, 21, 19, 22, 23, 24, 25, 27, 28, 26, 29, 30, 31, 32, 34, 35, 36, 33, 37, 38, 39, 40, 42, 41, 43, 44, 45, 46, 47, 48, 49, 50, 51, 4] [(0, .pointer (some ⟨b2, 0, none⟩)), (3, .pointer (some ⟨b80, 0, none⟩)), (5, .int .i64 (IntKind.i64.wrap (IntKind.u64.wrap (x11.f1 - x11.f2)))), (12, .pointer (some ⟨b2, 0, none⟩)), (14, .pointer (some ⟨b80, 0, none⟩)), (15, .int .u64 x11.f0), (13, .int .u64 y121), (16, .bool (y121 == x11.f0)), (17, .bool true), (18, .pointer (some ⟨b2, 0, none⟩)), (20, .pointer (some ⟨b80, 1, none⟩)), (21, .int .u64 x11.f1), (19, .int .u64 y124), (22, .bool (y124 == x11.f1)), (23, .bool (y124 == x11.f1)), (24, .bool true), (25, .pointer (some ⟨b2, 0, none⟩)), (27, .pointer (some ⟨b80, 2, none⟩)), (28, .int .u64 x11.f2), (26, .int .u64 y127), (29, .bool (y127 == x11.f2)), (30, .bool (y127 == x11.f2)), (31, .bool true), (32, .pointer (some ⟨b2, 0, none⟩)), (34, .pointer (some ⟨b80, 3, none⟩)), (35, .slice p12 x11.f3.length c13), (36, .int .i64 (x11.f3.length : Int)), (33, .int .i64 y130), (37, .bool (y130 == (x11.f3.length : Int))), (38, .bool (y130 == (x11.f3.length : Int))), (39, .bool true), (40, .pointer (some ⟨b2, 0, none⟩)), (42, .int .i64 (IntKind.i64.wrap (IntKind.u64.wrap (x11.f1 - x11.f2)))), (41, .int .i64 y133), (43, .bool (y133 == (IntKind.i64.wrap (IntKind.u64.wrap (x11.f1 - x11.f2))))), (44, .bool (y133 == (IntKind.i64.wrap (IntKind.u64.wrap (x11.f1 - x11.f2))))), (45, .bool false), (46, undef), (47, undef), (48, undef), (49, undef), (50, undef), (51, .bool false), (4, .bool false)] (by kernel_rfl) fun a hs hS => ?_
            refine d_done (by kernel_rfl) ?_
            obtain rfl := someE hx119
            exact (hJ120 _ _).2 ⟨false, hk, hs.cast [4] (by kernel_rfl), hw.pick [0, 1, 3] (by kernel_rfl)⟩
          replace hs := hs.altB 39 false (by kernel_rfl) h132
          refine d_pures (fuel := 0) kS82 hs hS [28, 29, 30, 31, 32, 33, 34, 35, 36, 37, 38, 39, 40] [0, 3, 5, 12, 14, 15, 13, 16, 17, 18, 20, 21, 19, 22, 23, 24, 25, 27, 28, 26, 29, 30, 31, 32, 34, 35, 36, 33, 37, 38, 39, 40, 41, 42, 43, 44, 45, 46, 47, 48, 49, 50, 51, 4] [(0, .pointer (some ⟨b2, 0, none⟩)), (3, .pointer (some ⟨b80, 0, none⟩)), (5, .int .i64 (IntKind.i64.wrap (IntKind.u64.wrap (x11.f1 - x11.f2)))), (12, .pointer (some ⟨b2, 0, none⟩)), (14, .pointer (some ⟨b80, 0, none⟩)), (15, .int .u64 x11.f0), (13, .int .u64 y121), (16, .bool (y121 == x11.f0)), (17, .bool true), (18, .pointer (some ⟨b2, 0, none⟩)), (20, .pointer (some ⟨b80, 1, none⟩)), (21, .int .u64 x11.f1), (19, .int .u64 y124), (22, .bool (y124 == x11.f1)), (23, .bool (y124 == x11.f1)), (24, .bool true), (25, .pointer (some ⟨b2, 0, none⟩)), (27, .pointer (some ⟨b80, 2, none⟩)), (28, .int .u64 x11.f2), (26, .int .u64 y127), (29, .bool (y127 == x11.f2)), (30, .bool (y127 == x11.f2)), (31, .bool true), (32, .pointer (some ⟨b2, 0, none⟩)), (34, .pointer (some ⟨b80, 3, none⟩)), (35, .slice p12 x11.f3.length c13), (36, .int .i64 (x11.f3.length : Int)), (33, .int .i64 y130), (37, .bool (y130 == (x11.f3.length : Int))), (38, .bool (y130 == (x11.f3.length : Int))), (39, .bool false), (40, undef), (41, undef), (42, undef), (43, undef), (44, .bool false), (45, .bool false), (46, undef), (47, undef), (48, undef), (49, undef), (50, undef), (51, .bool false), (4, .bool false)] (by kernel_rfl) fun a hs hS => ?_
          refine d_done (by kernel_rfl) ?_
          obtain rfl := someE hx119
          exact (hJ120 _ _).2 ⟨false, hk, hs.cast [4] (by kernel_rfl), hw.pick [0, 1, 3] (by kernel_rfl)⟩
        replace hs := hs.altB 31 false (by kernel_rfl) h129
        refine d_pures (fuel := 0) kS82 hs hS [20, 21, 22, 23, 24, 25, 26, 27, 28, 29, 30, 31, 32, 33, 34, 35, 36, 37, 38, 39, 40] [0, 3, 5, 12, 14, 15, 13, 16, 17, 18, 20, 21, 19, 22, 23, 24, 25, 27, 28, 26, 29, 30, 31, 32, 33, 34, 35, 36, 37, 38, 39, 40, 41, 42, 43, 44, 45, 46, 47, 48, 49, 50, 51, 4] [(0, .pointer (some ⟨b2, 0, none⟩)), (3, .pointer (some ⟨b80, 0, none⟩)), (5, .int .i64 (IntKind.i64.wrap (IntKind.u64.wrap (x11.f1 - x11.f2)))), (12, .pointer (some ⟨b2, 0, none⟩)), (14, .pointer (some ⟨b80, 0, none⟩)), (15, .int .u64 x11.f0), (13, .int .u64 y121), (16, .bool (y121 == x11.f0)), (17, .bool true), (18, .pointer (some ⟨b2, 0, none⟩)), (20, .pointer (some ⟨b80, 1, none⟩)), (21, .int .u64 x11.f1), (19, .int .u64 y124), (22, .bool (y124 == x11.f1)), (23, .bool (y124 == x11.f1)), (24, .bool true), (25, .pointer (some ⟨b2, 0, none⟩)), (27, .pointer (some ⟨b80, 2, none⟩)), (28, .int .u64 x11.f2), (26, .int .u64 y127), (29, .bool (y127 == x11.f2)), (30, .bool (y127 == x11.f2)), (31, .bool false), (32, undef), (33, undef), (34, undef), (35, undef), (36, undef), (37, undef), (38, .bool false), (39, .bool false), (40, undef), (41, undef), (42, undef), (43, undef), (44, .bool false), (45, .bool false), (46, undef), (47, undef), (48, undef), (49, undef), (50, undef), (51, .bool false), (4, .bool false)] (by kernel_rfl) fun a hs hS => ?_
        refine d_done (by kernel_rfl) ?_
        obtain rfl := someE hx119
        exact (hJ120 _ _).2 ⟨false, hk, hs.cast [4] (by kernel_rfl), hw.pick [0, 1, 3] (by kernel_rfl)⟩
      replace hs := hs.altB 24 false (by kernel_rfl) h126
      refine d_pures (fuel := 0) kS82 hs hS [13, 14, 15, 16, 17, 18, 19, 20, 21, 22, 23, 24, 25, 26, 27, 28, 29, 30, 31, 32, 33, 34, 35, 36, 37, 38, 39, 40] [0, 3, 5, 12, 14, 15, 13, 16, 17, 18, 20, 21, 19, 22, 23, 24, 25, 26, 27, 28, 29, 30, 31, 32, 33, 34, 35, 36, 37, 38, 39, 40, 41, 42, 43, 44, 45, 46, 47, 48, 49, 50, 51, 4] [(0, .pointer (some ⟨b2, 0, none⟩)), (3, .pointer (some ⟨b80, 0, none⟩)), (5, .int .i64 (IntKind.i64.wrap (IntKind.u64.wrap (x11.f1 - x11.f2)))), (12, .pointer (some ⟨b2, 0, none⟩)), (14, .pointer (some ⟨b80, 0, none⟩)), (15, .int .u64 x11.f0), (13, .int .u64 y121), (16, .bool (y121 == x11.f0)), (17, .bool true), (18, .pointer (some ⟨b2, 0, none⟩)), (20, .pointer (some ⟨b80, 1, none⟩)), (21, .int .u64 x11.f1), (19, .int .u64 y124), (22, .bool (y124 == x11.f1)), (23, .bool (y124 == x11.f1)), (24, .bool false), (25, undef), (26, undef), (27, undef), (28, undef), (29, undef), (30, .bool false), (31, .bool false), (32, undef), (33, undef), (34, undef), (35, undef), (36, undef), (37, undef), (38, .bool false), (39, .bool false), (40, undef), (41, undef), (42, undef), (43, undef), (44, .bool false), (45, .bool false), (46, undef), (47, undef), (48, undef), (49, undef), (50, undef), (51, .bool false), (4, .bool false)] (by kernel_rfl) fun a hs hS => ?_
      refine d_done (by kernel_rfl) ?_
      obtain rfl := someE hx119
      exact (hJ120 _ _).2 ⟨false, hk, hs.cast [4] (by kernel_rfl), hw.pick [0, 1, 3] (by kernel_rfl)⟩
    replace hs := hs.altB 17 false (by kernel_rfl) h123
    refine d_pures (fuel := 0) kS82 hs hS [6, 7, 8, 9, 10, 11, 12, 13, 14, 15, 16, 17, 18, 19, 20, 21, 22, 23, 24, 25, 26, 27, 28, 29, 30, 31, 32, 33, 34, 35, 36, 37, 38, 39, 40] [0, 3, 5, 12, 14, 15, 13, 16, 17, 18, 19, 20, 21, 22, 23, 24, 25, 26, 27, 28, 29, 30, 31, 32, 33, 34, 35, 36, 37, 38, 39, 40, 41, 42, 43, 44, 45, 46, 47, 48, 49, 50, 51, 4] [(0, .pointer (some ⟨b2, 0, none⟩)), (3, .pointer (some ⟨b80, 0, none⟩)), (5, .int .i64 (IntKind.i64.wrap (IntKind.u64.wrap (x11.f1 - x11.f2)))), (12, .pointer (some ⟨b2, 0, none⟩)), (14, .pointer (some ⟨b80, 0, none⟩)), (15, .int .u64 x11.f0), (13, .int .u64 y121), (16, .bool (y121 == x11.f0)), (17, .bool false), (18, undef), (19, undef), (20, undef), (21, undef), (22, undef), (23, .bool false), (24, .bool false), (25, undef), (26, undef), (27, undef), (28, undef), (29, undef), (30, .bool false), (31, .bool false), (32, undef), (33, undef), (34, undef), (35, undef), (36, undef), (37, undef), (38, .bool false), (39, .bool false), (40, undef), (41, undef), (42, undef), (43, undef), (44, .bool false), (45, .bool false), (46, undef), (47, undef), (48, undef), (49, undef), (50, undef), (51, .bool false), (4, .bool false)] (by kernel_rfl) fun a hs hS => ?_
    refine d_done (by kernel_rfl) ?_
    obtain rfl := someE hx119
    exact (hJ120 _ _).2 ⟨false, hk, hs.cast [4] (by kernel_rfl), hw.pick [0, 1, 3] (by kernel_rfl)⟩
  intro a w hh
  obtain ⟨x117, hk, hs, hw⟩ := (hJ120 _ _).1 hh
  refine c_ret ?_
  obtain rfl := someE hk
  refine hQ _ _ (f_ret1 hs rfl (v := .bool x117) (by kernel_rfl) ⟨rfl, hw.pick [0, 1, 2] (by kernel_rfl)⟩)
def catenarylaw20_WindowPlays_r115 (k : Nat) : Option Bool :=
  (catenarylaw20_awake k).bind fun y11903 =>
  some y11903
def catenarylaw20_WindowPlays_r124 (rec_catenarylaw20_WindowPlays_l116 : Int → Int → Int → Int → (List M26) → Int → Int → (List M26) → Option (Sum Bool Unit)) (x10207 : Int) (x12728 : Int) (x12729 : Int) (x12730 : Int) (x12731 : List M26) (x12735 : Int) (x12736 : Int) (x12737 : List M26) (x12787 : Bool) : Option (Sum Bool Unit) :=
  if x12787 = true then some (.inl false)
  else rec_catenarylaw20_WindowPlays_l116 (IntKind.i64.wrap (x10207 + 1)) x12728 x12729 x12730 x12731 x12735 x12736 x12737
def catenarylaw20_WindowPlays_r125 (k : Nat) (rec_catenarylaw20_WindowPlays_l116 : Int → Int → Int → Int → (List M26) → Int → Int → (List M26) → Option (Sum Bool Unit)) (x11926 : M51) (x10207 : Int) (x12728 : Int) (x12729 : Int) (x12730 : Int) (x12731 : List M26) (x12735 : Int) (x12736 : Int) (x12737 : List M26) : Option (Sum Bool Unit) :=
  (window_Window_From k x12735 x12737 (IntKind.u64.wrap ((IntKind.u64.wrap (x12729 + 1)) - ((IntKind.u64.wrap (x11926.f3)).tmod 60))) x11926.f4).bind fun y12752 =>
  (catenaryref20_From k (M58.mk x12728 x12729 x12730 x12731) (IntKind.u64.wrap ((IntKind.u64.wrap (x12729 + 1)) - ((IntKind.u64.wrap (x11926.f3)).tmod 60))) x11926.f4).bind fun y12768 =>
  ((catenarylaw20_same x12735 x12736 x12737 (M58.mk x12728 x12729 x12730 x12731)).bind fun y12792 =>
    if (!y12792) = true then some true
    else (catenaryref10_SameUpdates k y12752.1 y12768.1).bind fun y12795 =>
    if (!y12795) = true then some true
    else some (!(y12752.2 == y12768.2)) : Option Bool).bind fun s12798 => catenarylaw20_WindowPlays_r124 (rec_catenarylaw20_WindowPlays_l116) x10207 x12728 x12729 x12730 x12731 x12735 x12736 x12737 s12798
def catenarylaw20_WindowPlays_r129 (x10216 : Int) (x13307 : Int) (x13308 : Int) (x13309 : Int) (x13310 : List M26) (x13314 : Int) (x13315 : List M26) : Option (Sum Bool (Int × Int × Int × (List M26) × Int × Int × (List M26))) :=
  some (.inr (x13307, x13308, x13309, x13310, x13314, x10216, x13315))
def catenarylaw20_WindowPlays_r131 (k : Nat) (rec_catenarylaw20_WindowPlays_l130 : Int → Int → Int → Int → (List M26) → Int → (List M26) → Option (Sum Bool (Int × Int × Int × (List M26) × Int × (List M26)))) (x13136 : Int) (x13142 : Int) (x10216 : Int) (x13143 : List M26) (x13134 : Int) (x13405 : Int) (x13406 : Int) (x13407 : Int) (x13408 : List M26) (x13412 : Int) : Option (Sum Bool (Int × Int × Int × (List M26) × Int × (List M26))) :=
  (catenarylaw20_one (IntKind.u64.wrap (x13136 + 1))).bind fun y13426 =>
  (window_Window_Add k x13142 x10216 x13143 y13426).bind fun y13431 =>
  if (y13431.1 != x13412) = true then some (.inl false)
  else rec_catenarylaw20_WindowPlays_l130 (IntKind.i64.wrap (x13134 + 1)) x13405 x13406 x13407 x13408 y13431.2.1 y13431.2.2
def catenarylaw20_WindowPlays_l130 (k : Nat) (x11926 : M51) (x10216 : Int) : Nat → Int → Int → Int → Int → (List M26) → Int → (List M26) → Option (Sum Bool (Int × Int × Int × (List M26) × Int × (List M26)))
  | 0, _, _, _, _, _, _, _ => none
  | j + 1, x13134, x13135, x13136, x13137, x13138, x13142, x13143 =>
    if (decide (x13134 < ((IntKind.i64.wrap (x11926.f1)).tmod 50))) = true then (
      ((catenarylaw20_one (IntKind.u64.wrap (x13136 + 1))).bind fun y13443 =>
        (catenaryref20_Add k (M58.mk x13135 x13136 x13137 x13138) y13443).bind fun y13448 =>
        some (y13448.1.f0, y13448.1.f1, y13448.1.f2, y13448.1.f3, y13448.2) : Option (Int × Int × Int × (List M26) × Int)).bind fun s13480 => catenarylaw20_WindowPlays_r131 k (catenarylaw20_WindowPlays_l130 k x11926 x10216 j) x13136 x13142 x10216 x13143 x13134 s13480.1 s13480.2.1 s13480.2.2.1 s13480.2.2.2.1 s13480.2.2.2.2)
    else some (.inr (x13135, x13136, x13137, x13138, x13142, x13143))
def catenarylaw20_WindowPlays_r132 (k : Nat) (x10208 : Int) (x10209 : Int) (x10210 : Int) (x10211 : List M26) (x10215 : Int) (x10216 : Int) (x10217 : List M26) (x13519 : Int) : Option (Sum Bool (Int × Int × Int × (List M26) × Int × Int × (List M26))) :=
  (catenaryref20_Reach k (M58.mk x10208 x10209 x10210 x10211) x13519).bind fun y13534 =>
  (window_Window_Reach k x10215 x10216 x10217 x13519).bind fun y13563 =>
  (catenaryref10_SameUpdates k y13563.1 y13534.2).bind fun y13576 =>
  if (!y13576) = true then some (.inl false)
  else some (.inr (y13534.1.f0, y13534.1.f1, y13534.1.f2, y13534.1.f3, y13563.2.1, y13563.2.2.1, y13563.2.2.2))
def catenarylaw20_WindowPlays_l116 (k : Nat) (x2 : List M51) : Nat → Int → Int → Int → Int → (List M26) → Int → Int → (List M26) → Option (Sum Bool Unit)
  | 0, _, _, _, _, _, _, _, _ => none
  | j + 1, x10207, x10208, x10209, x10210, x10211, x10215, x10216, x10217 =>
    if ((decide (x10207 < (x2.length : Int))) && (decide (x10207 < 40))) = true then (
      (ix x2 x10207).bind fun x11926 =>
      if (decide ((x11926.f2.f6.length : Int) > 2100)) = true then (
        (catenarylaw20_awake k).bind fun y11940 =>
        some (.inl y11940))
      else (if (x11926.f0 == 0) = true then (
          (catenarylaw20_WindowPlays_l130 k x11926 x10216 k 0 x10208 x10209 x10210 x10211 x10215 x10217 : Option (Sum Bool (Int × Int × Int × (List M26) × Int × (List M26)))).bind fun
            | .inl z => some (.inl z)
            | .inr s13481 => catenarylaw20_WindowPlays_r129 x10216 s13481.1 s13481.2.1 s13481.2.2.1 s13481.2.2.2.1 s13481.2.2.2.2.1 s13481.2.2.2.2.2)
        else if (x11926.f0 == 1) = true then (
          (catenaryref20_Add k (M58.mk x10208 x10209 x10210 x10211) x11926.f2).bind fun y13492 =>
          (window_Window_Add k x10215 x10216 x10217 x11926.f2).bind fun y13509 =>
          if (y13509.1 != y13492.2) = true then some (.inl false)
          else some (.inr (y13492.1.f0, y13492.1.f1, y13492.1.f2, y13492.1.f3, y13509.2.1, x10216, y13509.2.2)))
        else (if (x11926.f0 == 2) = true then some (IntKind.u64.wrap (x10210 + ((IntKind.u64.wrap (x11926.f1)).tmod 20)))
          else some (IntKind.u64.wrap (x11926.f1)) : Option Int).bind fun s13583 => catenarylaw20_WindowPlays_r132 k x10208 x10209 x10210 x10211 x10215 x10216 x10217 s13583 : Option (Sum Bool (Int × Int × Int × (List M26) × Int × Int × (List M26)))).bind fun
        | .inl z => some (.inl z)
        | .inr s13584 => catenarylaw20_WindowPlays_r125 k (catenarylaw20_WindowPlays_l116 k x2 j) x11926 x10207 s13584.1 s13584.2.1 s13584.2.2.1 s13584.2.2.2.1 s13584.2.2.2.2.1 s13584.2.2.2.2.2.1 s13584.2.2.2.2.2.2)
    else some (.inr ())
def catenarylaw20_WindowPlays (k : Nat) (x1 : Int) (x2 : List M51) : Option Bool :=
  if (decide (x1 > 4611686018427387904)) = true then (
    (catenarylaw20_awake k).bind fun y6803 =>
    some y6803)
  else (window_New x1).bind fun y6816 =>
  (catenaryref20_New x1).bind fun y6832 =>
  (catenarylaw20_WindowPlays_l116 k x2 k 0 y6832.f0 y6832.f1 y6832.f2 y6832.f3 y6816.1 y6816.2.1 y6816.2.2 : Option (Sum Bool Unit)).bind fun
    | .inl z => some z
    | .inr _ => catenarylaw20_WindowPlays_r115 k
theorem catenarylaw20_WindowPlays_s {k : Nat} {x1 : Int} {x2 : List M51} {p3 : Option Addr} {c4 : Nat} {d6 : Ch} {r : Bool} (hk : catenarylaw20_WindowPlays k x1 x2 = some r) {g w : World} {F : Ch} {ih : IH} (h5 : RSl e51 ih d6 p3 c4 x2) (h7 : ∀ q ∈ d6, q ∈ F) (hG : Glob 0 gl0 110 ih) (hw : St g w [F] ih) :
    CallsR Tryz.prog 6 #[.int .u64 x1, .slice p3 x2.length c4] w fun v w' => ∃ (ih' : IH), v = .bool r ∧ St g w' [F] ih' ∧ Le ih ih' := by
  refine f_in (vs := [.int .u64 x1, .slice p3 x2.length c4]) Tryz.func6 rfl 161 rfl (by kernel_rfl) [(0, .int .u64 x1), (1, .slice p3 x2.length c4)] (by kernel_rfl) fun a Qf hQ hQn hs => ?_
  refine c_seq ?_
  refine c_region ?_
  refine pures hs 1 [0, 1] [(0, .int .u64 x1), (1, .slice p3 x2.length c4)] (by kernel_rfl) fun a hs => ?_
  refine s_end ?_
  refine c_seq ?_
  refine c_seq ?_
  refine c_region ?_
  refine pures hs 2 [0, 1, 23] [(0, .int .u64 x1), (1, .slice p3 x2.length c4), (23, .bool (decide (x1 > 4611686018427387904)))] (by kernel_rfl) fun a hs => ?_
  refine s_end ?_
  rcases ifbE hk with ⟨h6798, hk⟩ | ⟨h6798, hk⟩
  · refine c_cond1 hs (by kernel_rfl) (t := (decide (x1 > 4611686018427387904))) (by kernel_rfl) h6798 ?_
    refine c_seq ?_
    refine c_region ?_
    obtain ⟨y6803, h6804, hk⟩ := bindE hk
    refine s_call hs (by kernel_rfl) (by kernel_rfl) (catenarylaw20_awake_s h6804 (hG.mono (Le.refl _)) ((hw.pick [0] (by kernel_rfl)).pack 0)) fun a w v hv hs => ?_
    obtain ⟨ih6805, rfl, hw, hle6806⟩ := hv
    replace hw := hw.unpack 0 rfl
    refine pures hs 1 [4] [(4, .bool y6803)] (by kernel_rfl) fun a hs => ?_
    refine s_end ?_
    refine c_ret ?_
    obtain rfl := someE hk
    refine hQ _ _ (f_ret1 hs rfl (v := .bool y6803) (by kernel_rfl) ⟨ih6805, rfl, hw.pick [0] (by kernel_rfl), hle6806⟩)
  refine c_cond0 hs (by kernel_rfl) (t := (decide (x1 > 4611686018427387904))) (by kernel_rfl) h6798 ?_
  refine c_skip ?_
  refine c_seq ?_
  refine c_region ?_
  refine pures hs 1 [0, 1, 25] [(0, .int .u64 x1), (1, .slice p3 x2.length c4), (25, .int .u64 x1)] (by kernel_rfl) fun a hs => ?_
  obtain ⟨y6816, h6817, hk⟩ := bindE hk
  refine s_call hs (by kernel_rfl) (by kernel_rfl) (window_New_s h6817 ((hw.pick [0] (by kernel_rfl)).pack 0)) fun a w v hv hs => ?_
  obtain ⟨b6818, p6820, c6821, d6823, rfl, hw, h6822⟩ := hv
  replace hw := hw.unpack 2 rfl
  refine pures hs 1 [0, 1, 5] [(0, .int .u64 x1), (1, .slice p3 x2.length c4), (5, .pointer (some ⟨b6818, 0, none⟩))] (by kernel_rfl) fun a hs => ?_
  refine s_end ?_
  refine c_seq ?_
  refine c_region ?_
  refine pures hs 1 [1, 5, 27] [(1, .slice p3 x2.length c4), (5, .pointer (some ⟨b6818, 0, none⟩)), (27, .int .u64 x1)] (by kernel_rfl) fun a hs => ?_
  obtain ⟨y6832, h6833, hk⟩ := bindE hk
  refine s_call hs (by kernel_rfl) (by kernel_rfl) (catenaryref20_New_s h6833 ((hw.pick [0, 1, 2] (by kernel_rfl)).pack 0)) fun a w v hv hs => ?_
  obtain ⟨p6834, c6835, rfl, hw, h6836⟩ := hv
  replace hw := hw.unpack 0 rfl
  refine s_new hs hw [.int .u64 0, .int .u64 0, .int .u64 0, .slice none 0 0] 58 (fun b => .pointer (some ⟨b, 0, none⟩)) (by kernel_rfl) (fun _ => by kernel_rfl) fun a w b6837 hs hw => ?_
  refine s_store hs hw 0 rfl 0 (by kernel_rfl) (by kernel_rfl) (v := .agg #[.int .u64 y6832.f0, .int .u64 y6832.f1, .int .u64 y6832.f2, .slice p6834 y6832.f3.length c6835]) (by kernel_rfl) (by kernel_rfl) (by kernel_rfl) (by kernel_rfl) fun a w hs hw => ?_
  refine s_end ?_
  refine c_seq ?_
  refine c_seq ?_
  refine c_region ?_
  refine pures hs 1 [1, 5, 6, 7] [(1, .slice p3 x2.length c4), (5, .pointer (some ⟨b6818, 0, none⟩)), (6, .pointer (some ⟨b6837, 0, none⟩)), (7, .int .i64 0)] (by kernel_rfl) fun a hs => ?_
  refine s_end ?_
  refine c_block ?_
  obtain ⟨y11907, hx11908, hk⟩ := bindE hk
  obtain ⟨J11909, hJ11909⟩ : ∃ J : Act → World → Prop, ∀ a w, J a w ↔ (∃ (ih11897 : IH), catenarylaw20_WindowPlays_r115 k = some r ∧ Sees a 161 [] ∧ St g w [F] ih11897 ∧ Le ih ih11897) := ⟨_, fun _ _ => Iff.rfl⟩
  obtain ⟨I11910, hI11910⟩ : ∃ J : Nat → Act → World → Prop, ∀ j a w, J j a w ↔ (∃ (x10207 : Int) (x10208 : Int) (x10209 : Int) (x10210 : Int) (x10211 : List M26) (x10215 : Int) (x10216 : Int) (x10217 : List M26) (p10212 : Option Addr) (c10213 : Nat) (p10218 : Option Addr) (c10219 : Nat) (d10221 : Ch) (ih10205 : IH), catenarylaw20_WindowPlays_l116 k x2 j x10207 x10208 x10209 x10210 x10211 x10215 x10216 x10217 = some y11907 ∧ Sees a 161 [(1, .slice p3 x2.length c4), (5, .pointer (some ⟨b6818, 0, none⟩)), (6, .pointer (some ⟨b6837, 0, none⟩)), (7, .int .i64 x10207)] ∧ St g w [bx b6837 [.int .u64 x10208, .int .u64 x10209, .int .u64 x10210, .slice p10212 x10211.length c10213] 58, bx b6818 [.int .u64 x10215, .int .u64 x10216, .slice p10218 x10217.length c10219] 78, d10221, F] ih10205 ∧ Le ih ih10205 ∧ RSl e26 ih10205 [] p10212 c10213 x10211 ∧ OSl e26 ih10205 p10218 c10219 x10217 d10221) := ⟨_, fun _ _ _ => Iff.rfl⟩
  refine c_exitJ 0 J11909 ?_ ?_
  · refine c_loop I11910 k ((hI11910 _ _ _).2 ⟨0, y6832.f0, y6832.f1, y6832.f2, y6832.f3, y6816.1, y6816.2.1, y6816.2.2, p6834, c6835, p6820, c6821, d6823, ih, hx11908, hs.cast [1, 5, 6, 7] (by kernel_rfl), hw.pick [0, 1, 2, 3] (by kernel_rfl), (Le.refl _), h6836, h6822⟩) (fun a w h0 => ?_) fun j a w hh => ?_
    · obtain ⟨_, _, _, _, _, _, _, _, _, _, _, _, _, _, h, _⟩ := (hI11910 _ _ _).1 h0
      cases h
    obtain ⟨x10207, x10208, x10209, x10210, x10211, x10215, x10216, x10217, p10212, c10213, p10218, c10219, d10221, ih10205, hx11908, hs, hw, hle10206, h10214, h10220⟩ := (hI11910 _ _ _).1 hh
    refine c_seq ?_
    refine c_seq ?_
    obtain ⟨J11914, hJ11914⟩ : ∃ J : Act → World → Prop, ∀ a w, J a w ↔ (Sees a 161 [(1, .slice p3 x2.length c4), (5, .pointer (some ⟨b6818, 0, none⟩)), (6, .pointer (some ⟨b6837, 0, none⟩)), (7, .int .i64 x10207), (36, .bool ((decide (x10207 < (x2.length : Int))) && (decide (x10207 < 40))))] ∧ St g w [bx b6837 [.int .u64 x10208, .int .u64 x10209, .int .u64 x10210, .slice p10212 x10211.length c10213] 58, bx b6818 [.int .u64 x10215, .int .u64 x10216, .slice p10218 x10217.length c10219] 78, d10221, F] ih10205) := ⟨_, fun _ _ => Iff.rfl⟩
    refine c_regJ J11914 ?_ ?_
    · refine pures hs 5 [1, 5, 6, 7, 33] [(1, .slice p3 x2.length c4), (5, .pointer (some ⟨b6818, 0, none⟩)), (6, .pointer (some ⟨b6837, 0, none⟩)), (7, .int .i64 x10207), (33, .bool (decide (x10207 < (x2.length : Int))))] (by kernel_rfl) fun a hs => ?_
      rcases boolE (decide (x10207 < (x2.length : Int))) with h11915 | h11915
      · replace hs := hs.altB 33 true (by kernel_rfl) h11915
        refine pures hs 3 [1, 5, 6, 7, 36] [(1, .slice p3 x2.length c4), (5, .pointer (some ⟨b6818, 0, none⟩)), (6, .pointer (some ⟨b6837, 0, none⟩)), (7, .int .i64 x10207), (36, .bool (decide (x10207 < 40)))] (by kernel_rfl) fun a hs => ?_
        refine s_end ?_
        exact (hJ11914 _ _).2 ⟨(hs.altB 36 ((decide (x10207 < (x2.length : Int))) && (decide (x10207 < 40))) (by kernel_rfl) (by rw [h11915] <;> rfl)).cast [1, 5, 6, 7, 36] (by kernel_rfl), hw.pick [0, 1, 2, 3] (by kernel_rfl)⟩
      replace hs := hs.altB 33 false (by kernel_rfl) h11915
      refine pures hs 3 [1, 5, 6, 7, 36] [(1, .slice p3 x2.length c4), (5, .pointer (some ⟨b6818, 0, none⟩)), (6, .pointer (some ⟨b6837, 0, none⟩)), (7, .int .i64 x10207), (36, .bool false)] (by kernel_rfl) fun a hs => ?_
      refine s_end ?_
      exact (hJ11914 _ _).2 ⟨(hs.altB 36 ((decide (x10207 < (x2.length : Int))) && (decide (x10207 < 40))) (by kernel_rfl) (by rw [h11915] <;> rfl)).cast [1, 5, 6, 7, 36] (by kernel_rfl), hw.pick [0, 1, 2, 3] (by kernel_rfl)⟩
    intro a w hh
    obtain ⟨hs, hw⟩ := (hJ11914 _ _).1 hh
    rcases ifbE hx11908 with ⟨h11916, hx11908⟩ | ⟨h11916, hx11908⟩
    · refine c_cond1 hs (by kernel_rfl) (t := ((decide (x10207 < (x2.length : Int))) && (decide (x10207 < 40)))) (by kernel_rfl) h11916 ?_
      refine c_skip ?_
      refine c_seq ?_
      refine c_block ?_
      refine c_seq ?_
      refine c_region ?_
      refine pures hs 2 [1, 5, 6, 7, 39, 40] [(1, .slice p3 x2.length c4), (5, .pointer (some ⟨b6818, 0, none⟩)), (6, .pointer (some ⟨b6837, 0, none⟩)), (7, .int .i64 x10207), (39, .slice p3 x2.length c4), (40, .int .i64 x10207)] (by kernel_rfl) fun a hs => ?_
      obtain ⟨x11926, h11927, hx11908⟩ := bindE hx11908
      refine s_index hs h5 (by kernel_rfl) (by kernel_rfl) (k := .i64) (by kernel_rfl) 51 (by kernel_rfl) (by kernel_rfl) h11927 fun a r11928 cs henc at11929 hs => ?_
      obtain ⟨p11930, c11931, rfl, h11932⟩ := henc
      refine s_load hs (at11929 _ (((hw.vw 3 rfl).sub h7).anti hle10206)) 0 (by kernel_rfl) (by kernel_rfl) (v := .agg #[.int .i64 x11926.f0, .int .u8 x11926.f1, .int .u64 x11926.f2.f0, .int .i64 x11926.f2.f1, .int .u64 x11926.f2.f2, .int .i64 x11926.f2.f3, .int .u32 x11926.f2.f4, .int .u64 x11926.f2.f5, .slice p11930 x11926.f2.f6.length c11931, .int .u8 x11926.f3, .int .i64 x11926.f4]) (by kernel_rfl) fun a hs => ?_
      refine s_new hs hw [.int .i64 0, .int .u8 0, .int .u64 0, .int .i64 0, .int .u64 0, .int .i64 0, .int .u32 0, .int .u64 0, .slice none 0 0, .int .u8 0, .int .i64 0] 51 (fun b => .pointer (some ⟨b, 0, none⟩)) (by kernel_rfl) (fun _ => by kernel_rfl) fun a w b11933 hs hw => ?_
      refine s_store hs hw 0 rfl 0 (by kernel_rfl) (by kernel_rfl) (v := .agg #[.int .i64 x11926.f0, .int .u8 x11926.f1, .int .u64 x11926.f2.f0, .int .i64 x11926.f2.f1, .int .u64 x11926.f2.f2, .int .i64 x11926.f2.f3, .int .u32 x11926.f2.f4, .int .u64 x11926.f2.f5, .slice p11930 x11926.f2.f6.length c11931, .int .u8 x11926.f3, .int .i64 x11926.f4]) (by kernel_rfl) (by kernel_rfl) (by kernel_rfl) (by kernel_rfl) fun a w hs hw => ?_
      refine s_end ?_
      refine c_seq ?_
      refine c_seq ?_
      refine c_region ?_
      refine pures hs 2 [1, 5, 6, 7, 8, 44] [(1, .slice p3 x2.length c4), (5, .pointer (some ⟨b6818, 0, none⟩)), (6, .pointer (some ⟨b6837, 0, none⟩)), (7, .int .i64 x10207), (8, .pointer (some ⟨b11933, 0, none⟩)), (44, .pointer (some ⟨b11933, 8, none⟩))] (by kernel_rfl) fun a hs => ?_
      refine s_load hs (hw.at_ 0 rfl) 8 (by kernel_rfl) (by kernel_rfl) (v := .slice p11930 x11926.f2.f6.length c11931) (by kernel_rfl) fun a hs => ?_
      refine pures hs 2 [1, 5, 6, 7, 8, 47] [(1, .slice p3 x2.length c4), (5, .pointer (some ⟨b6818, 0, none⟩)), (6, .pointer (some ⟨b6837, 0, none⟩)), (7, .int .i64 x10207), (8, .pointer (some ⟨b11933, 0, none⟩)), (47, .bool (decide ((x11926.f2.f6.length : Int) > 2100)))] (by kernel_rfl) fun a hs => ?_
      refine s_end ?_
      rcases ifbE hx11908 with ⟨h11935, hx11908⟩ | ⟨h11935, hx11908⟩
      · refine c_cond1 hs (by kernel_rfl) (t := (decide ((x11926.f2.f6.length : Int) > 2100))) (by kernel_rfl) h11935 ?_
        refine c_seq ?_
        refine c_region ?_
        obtain ⟨y11940, h11941, hx11908⟩ := bindE hx11908
        refine s_call hs (by kernel_rfl) (by kernel_rfl) (catenarylaw20_awake_s h11941 (hG.mono hle10206) ((hw.pick [4] (by kernel_rfl)).pack 0)) fun a w v hv hs => ?_
        obtain ⟨ih11942, rfl, hw, hle11943⟩ := hv
        replace hw := hw.unpack 0 rfl
        refine pures hs 1 [4] [(4, .bool y11940)] (by kernel_rfl) fun a hs => ?_
        refine s_end ?_
        refine c_ret ?_
        obtain rfl := someE hx11908
        obtain rfl := someE hk
        refine hQ _ _ (f_ret1 hs rfl (v := .bool y11940) (by kernel_rfl) ⟨ih11942, rfl, hw.pick [0] (by kernel_rfl), (hle10206.trans hle11943)⟩)
      refine c_cond0 hs (by kernel_rfl) (t := (decide ((x11926.f2.f6.length : Int) > 2100))) (by kernel_rfl) h11935 ?_
      refine c_skip ?_
      obtain ⟨y12799, hx12800, hx11908⟩ := bindE hx11908
      obtain ⟨J12801, hJ12801⟩ : ∃ J : Act → World → Prop, ∀ a w, J a w ↔ (∃ (x12728 : Int) (x12729 : Int) (x12730 : Int) (x12731 : List M26) (x12735 : Int) (x12736 : Int) (x12737 : List M26) (p12732 : Option Addr) (c12733 : Nat) (p12738 : Option Addr) (c12739 : Nat) (d12741 : Ch) (ih12726 : IH), catenarylaw20_WindowPlays_r125 k (catenarylaw20_WindowPlays_l116 k x2 j) x11926 x10207 x12728 x12729 x12730 x12731 x12735 x12736 x12737 = some y11907 ∧ Sees a 161 [(1, .slice p3 x2.length c4), (5, .pointer (some ⟨b6818, 0, none⟩)), (6, .pointer (some ⟨b6837, 0, none⟩)), (7, .int .i64 x10207), (8, .pointer (some ⟨b11933, 0, none⟩))] ∧ St g w [bx b11933 [.int .i64 x11926.f0, .int .u8 x11926.f1, .int .u64 x11926.f2.f0, .int .i64 x11926.f2.f1, .int .u64 x11926.f2.f2, .int .i64 x11926.f2.f3, .int .u32 x11926.f2.f4, .int .u64 x11926.f2.f5, .slice p11930 x11926.f2.f6.length c11931, .int .u8 x11926.f3, .int .i64 x11926.f4] 51, bx b6837 [.int .u64 x12728, .int .u64 x12729, .int .u64 x12730, .slice p12732 x12731.length c12733] 58, bx b6818 [.int .u64 x12735, .int .u64 x12736, .slice p12738 x12737.length c12739] 78, d12741, F] ih12726 ∧ Le ih10205 ih12726 ∧ RSl e26 ih12726 [] p12732 c12733 x12731 ∧ OSl e26 ih12726 p12738 c12739 x12737 d12741) := ⟨_, fun _ _ => Iff.rfl⟩
      refine c_seqJ J12801 ?_ ?_
      · refine c_seq ?_
        refine c_region ?_
        refine pures hs 1 [1, 5, 6, 7, 8, 49] [(1, .slice p3 x2.length c4), (5, .pointer (some ⟨b6818, 0, none⟩)), (6, .pointer (some ⟨b6837, 0, none⟩)), (7, .int .i64 x10207), (8, .pointer (some ⟨b11933, 0, none⟩)), (49, .pointer (some ⟨b11933, 0, none⟩))] (by kernel_rfl) fun a hs => ?_
        refine s_load hs (hw.at_ 0 rfl) 0 (by kernel_rfl) (by kernel_rfl) (v := .int .i64 x11926.f0) (by kernel_rfl) fun a hs => ?_
        refine s_end ?_
        refine c_block ?_
        refine c_seq ?_
        refine c_region ?_
        refine pures hs 2 [1, 5, 6, 7, 8, 50, 77] [(1, .slice p3 x2.length c4), (5, .pointer (some ⟨b6818, 0, none⟩)), (6, .pointer (some ⟨b6837, 0, none⟩)), (7, .int .i64 x10207), (8, .pointer (some ⟨b11933, 0, none⟩)), (50, .int .i64 x11926.f0), (77, .bool (x11926.f0 == 0))] (by kernel_rfl) fun a hs => ?_
        refine s_end ?_
        rcases ifbE hx12800 with ⟨h12802, hx12800⟩ | ⟨h12802, hx12800⟩
        · refine c_cond1 hs (by kernel_rfl) (t := (x11926.f0 == 0)) (by kernel_rfl) h12802 ?_
          refine c_seq ?_
          refine c_region ?_
          refine pures hs 1 [1, 5, 6, 7, 8, 9] [(1, .slice p3 x2.length c4), (5, .pointer (some ⟨b6818, 0, none⟩)), (6, .pointer (some ⟨b6837, 0, none⟩)), (7, .int .i64 x10207), (8, .pointer (some ⟨b11933, 0, none⟩)), (9, .int .i64 0)] (by kernel_rfl) fun a hs => ?_
          refine s_end ?_
          refine c_block ?_
          obtain ⟨y13321, hx13322, hx12800⟩ := bindE hx12800
          obtain ⟨J13323, hJ13323⟩ : ∃ J : Act → World → Prop, ∀ a w, J a w ↔ (∃ (x13307 : Int) (x13308 : Int) (x13309 : Int) (x13310 : List M26) (x13314 : Int) (x13315 : List M26) (p13311 : Option Addr) (c13312 : Nat) (p13316 : Option Addr) (c13317 : Nat) (d13319 : Ch) (ih13305 : IH), catenarylaw20_WindowPlays_r129 x10216 x13307 x13308 x13309 x13310 x13314 x13315 = some y12799 ∧ Sees a 161 [(1, .slice p3 x2.length c4), (5, .pointer (some ⟨b6818, 0, none⟩)), (6, .pointer (some ⟨b6837, 0, none⟩)), (7, .int .i64 x10207), (8, .pointer (some ⟨b11933, 0, none⟩))] ∧ St g w [bx b11933 [.int .i64 x11926.f0, .int .u8 x11926.f1, .int .u64 x11926.f2.f0, .int .i64 x11926.f2.f1, .int .u64 x11926.f2.f2, .int .i64 x11926.f2.f3, .int .u32 x11926.f2.f4, .int .u64 x11926.f2.f5, .slice p11930 x11926.f2.f6.length c11931, .int .u8 x11926.f3, .int .i64 x11926.f4] 51, bx b6837 [.int .u64 x13307, .int .u64 x13308, .int .u64 x13309, .slice p13311 x13310.length c13312] 58, bx b6818 [.int .u64 x13314, .int .u64 x10216, .slice p13316 x13315.length c13317] 78, d13319, F] ih13305 ∧ Le ih10205 ih13305 ∧ RSl e26 ih13305 [] p13311 c13312 x13310 ∧ OSl e26 ih13305 p13316 c13317 x13315 d13319) := ⟨_, fun _ _ => Iff.rfl⟩
          obtain ⟨I13324, hI13324⟩ : ∃ J : Nat → Act → World → Prop, ∀ j a w, J j a w ↔ (∃ (x13134 : Int) (x13135 : Int) (x13136 : Int) (x13137 : Int) (x13138 : List M26) (x13142 : Int) (x13143 : List M26) (p13139 : Option Addr) (c13140 : Nat) (p13144 : Option Addr) (c13145 : Nat) (d13147 : Ch) (ih13132 : IH), catenarylaw20_WindowPlays_l130 k x11926 x10216 j x13134 x13135 x13136 x13137 x13138 x13142 x13143 = some y13321 ∧ Sees a 161 [(1, .slice p3 x2.length c4), (5, .pointer (some ⟨b6818, 0, none⟩)), (6, .pointer (some ⟨b6837, 0, none⟩)), (7, .int .i64 x10207), (8, .pointer (some ⟨b11933, 0, none⟩)), (9, .int .i64 x13134)] ∧ St g w [bx b11933 [.int .i64 x11926.f0, .int .u8 x11926.f1, .int .u64 x11926.f2.f0, .int .i64 x11926.f2.f1, .int .u64 x11926.f2.f2, .int .i64 x11926.f2.f3, .int .u32 x11926.f2.f4, .int .u64 x11926.f2.f5, .slice p11930 x11926.f2.f6.length c11931, .int .u8 x11926.f3, .int .i64 x11926.f4] 51, bx b6837 [.int .u64 x13135, .int .u64 x13136, .int .u64 x13137, .slice p13139 x13138.length c13140] 58, bx b6818 [.int .u64 x13142, .int .u64 x10216, .slice p13144 x13143.length c13145] 78, d13147, F] ih13132 ∧ Le ih10205 ih13132 ∧ RSl e26 ih13132 [] p13139 c13140 x13138 ∧ OSl e26 ih13132 p13144 c13145 x13143 d13147) := ⟨_, fun _ _ _ => Iff.rfl⟩
          refine c_exitJ 3 J13323 ?_ ?_
          · refine c_loop I13324 k ((hI13324 _ _ _).2 ⟨0, x10208, x10209, x10210, x10211, x10215, x10217, p10212, c10213, p10218, c10219, d10221, ih10205, hx13322, hs.cast [1, 5, 6, 7, 8, 9] (by kernel_rfl), hw.pick [0, 1, 2, 3, 4] (by kernel_rfl), (Le.refl _), h10214, h10220⟩) (fun a w h0 => ?_) fun j a w hh => ?_
            · obtain ⟨_, _, _, _, _, _, _, _, _, _, _, _, _, h, _⟩ := (hI13324 _ _ _).1 h0
              cases h
            obtain ⟨x13134, x13135, x13136, x13137, x13138, x13142, x13143, p13139, c13140, p13144, c13145, d13147, ih13132, hx13322, hs, hw, hle13133, h13141, h13146⟩ := (hI13324 _ _ _).1 hh
            refine c_seq ?_
            refine c_seq ?_
            refine c_region ?_
            refine pures hs 2 [1, 5, 6, 7, 8, 9, 79, 80] [(1, .slice p3 x2.length c4), (5, .pointer (some ⟨b6818, 0, none⟩)), (6, .pointer (some ⟨b6837, 0, none⟩)), (7, .int .i64 x10207), (8, .pointer (some ⟨b11933, 0, none⟩)), (9, .int .i64 x13134), (79, .int .i64 x13134), (80, .pointer (some ⟨b11933, 1, none⟩))] (by kernel_rfl) fun a hs => ?_
            refine s_load hs (hw.at_ 0 rfl) 1 (by kernel_rfl) (by kernel_rfl) (v := .int .u8 x11926.f1) (by kernel_rfl) fun a hs => ?_
            refine pures hs 3 [1, 5, 6, 7, 8, 9, 84] [(1, .slice p3 x2.length c4), (5, .pointer (some ⟨b6818, 0, none⟩)), (6, .pointer (some ⟨b6837, 0, none⟩)), (7, .int .i64 x10207), (8, .pointer (some ⟨b11933, 0, none⟩)), (9, .int .i64 x13134), (84, .bool (decide (x13134 < ((IntKind.i64.wrap (x11926.f1)).tmod 50))))] (by kernel_rfl) fun a hs => ?_
            refine s_end ?_
            rcases ifbE hx13322 with ⟨h13325, hx13322⟩ | ⟨h13325, hx13322⟩
            · refine c_cond1 hs (by kernel_rfl) (t := (decide (x13134 < ((IntKind.i64.wrap (x11926.f1)).tmod 50)))) (by kernel_rfl) h13325 ?_
              refine c_skip ?_
              refine c_seq ?_
              refine c_block ?_
              refine c_seq ?_
              obtain ⟨S13326, hS13326, kS13326⟩ := mkSX (X := [([], bx b11933 [.int .i64 x11926.f0, .int .u8 x11926.f1, .int .u64 x11926.f2.f0, .int .i64 x11926.f2.f1, .int .u64 x11926.f2.f2, .int .i64 x11926.f2.f3, .int .u32 x11926.f2.f4, .int .u64 x11926.f2.f5, .slice p11930 x11926.f2.f6.length c11931, .int .u8 x11926.f3, .int .i64 x11926.f4] 51), ([], bx b6837 [.int .u64 x13135, .int .u64 x13136, .int .u64 x13137, .slice p13139 x13138.length c13140] 58), ([], bx b6818 [.int .u64 x13142, .int .u64 x10216, .slice p13144 x13143.length c13145] 78), ([], d13147), ([], F)]) (ih := ih13132) (K := []) rfl
              obtain ⟨y13440, hx13441, hx13322⟩ := bindE hx13322
              obtain ⟨J13442, hJ13442⟩ : ∃ J : Act → World → Prop, ∀ a w, J a w ↔ (∃ (x13405 : Int) (x13406 : Int) (x13407 : Int) (x13408 : List M26) (x13412 : Int) (b13403 : Nat) (p13409 : Option Addr) (c13410 : Nat) (ih13401 : IH), catenarylaw20_WindowPlays_r131 k (catenarylaw20_WindowPlays_l130 k x11926 x10216 j) x13136 x13142 x10216 x13143 x13134 x13405 x13406 x13407 x13408 x13412 = some y13321 ∧ Sees a 161 [(1, .slice p3 x2.length c4), (5, .pointer (some ⟨b6818, 0, none⟩)), (6, .pointer (some ⟨b6837, 0, none⟩)), (7, .int .i64 x10207), (8, .pointer (some ⟨b11933, 0, none⟩)), (9, .int .i64 x13134), (10, .pointer (some ⟨b13403, 0, none⟩)), (11, .int .i64 x13412)] ∧ St g w [bx b11933 [.int .i64 x11926.f0, .int .u8 x11926.f1, .int .u64 x11926.f2.f0, .int .i64 x11926.f2.f1, .int .u64 x11926.f2.f2, .int .i64 x11926.f2.f3, .int .u32 x11926.f2.f4, .int .u64 x11926.f2.f5, .slice p11930 x11926.f2.f6.length c11931, .int .u8 x11926.f3, .int .i64 x11926.f4] 51, bx b6837 [.int .u64 x13135, .int .u64 x13136, .int .u64 x13137, .slice p13139 x13138.length c13140] 58, bx b6818 [.int .u64 x13142, .int .u64 x10216, .slice p13144 x13143.length c13145] 78, bx b13403 [.int .u64 x13405, .int .u64 x13406, .int .u64 x13407, .slice p13409 x13408.length c13410] 58, d13147, F] ih13401 ∧ Le ih13132 ih13401 ∧ RSl e26 ih13401 [] p13409 c13410 x13408) := ⟨_, fun _ _ => Iff.rfl⟩
              refine c_draw (by kernel_rfl) (N := 12) rfl S13326 J13442 ?_ ?_
              · have hw := hw.drew
                have hS : S13326 (Array.replicate 12 false) _ := SX_now hS13326 (hw.vws [0, 1, 2, 3, 4]) (by kernel_rfl)
                refine d_load (fuel := 11) kS13326 hs hS 0 rfl (by kernel_rfl) (SX_box hS13326 1 rfl (by kernel_rfl)) 0 (by kernel_rfl) (by kernel_rfl) (v := .agg #[.int .u64 x13135, .int .u64 x13136, .int .u64 x13137, .slice p13139 x13138.length c13140]) (by kernel_rfl) fun a hs hS => ?_
                refine d_pures (fuel := 10) kS13326 hs hS [1] [1, 5, 6, 7, 8, 9, 88, 89] [(1, .slice p3 x2.length c4), (5, .pointer (some ⟨b6818, 0, none⟩)), (6, .pointer (some ⟨b6837, 0, none⟩)), (7, .int .i64 x10207), (8, .pointer (some ⟨b11933, 0, none⟩)), (9, .int .i64 x13134), (88, .agg #[.int .u64 x13135, .int .u64 x13136, .int .u64 x13137, .slice p13139 x13138.length c13140]), (89, .pointer (some ⟨b6837, 1, none⟩))] (by kernel_rfl) fun a hs hS => ?_
                refine d_load (fuel := 9) kS13326 hs hS 2 rfl (by kernel_rfl) (SX_box hS13326 1 rfl (by kernel_rfl)) 1 (by kernel_rfl) (by kernel_rfl) (v := .int .u64 x13136) (by kernel_rfl) fun a hs hS => ?_
                refine d_pures (fuel := 8) kS13326 hs hS [3] [1, 5, 6, 7, 8, 9, 88, 89, 90, 91] [(1, .slice p3 x2.length c4), (5, .pointer (some ⟨b6818, 0, none⟩)), (6, .pointer (some ⟨b6837, 0, none⟩)), (7, .int .i64 x10207), (8, .pointer (some ⟨b11933, 0, none⟩)), (9, .int .i64 x13134), (88, .agg #[.int .u64 x13135, .int .u64 x13136, .int .u64 x13137, .slice p13139 x13138.length c13140]), (89, .pointer (some ⟨b6837, 1, none⟩)), (90, .int .u64 x13136), (91, .int .u64 (IntKind.u64.wrap (x13136 + 1)))] (by kernel_rfl) fun a hs hS => ?_
                refine d_all (fuel := 7) (rs := [4, 9]) (by kernel_rfl) (by simp) (all2 ?_ (all1 ?_))
                · obtain ⟨y13443, h13444, hx13441⟩ := bindE hx13441
                  refine o_call hs rfl (by kernel_rfl) (by kernel_rfl) (catenarylaw20_one_s h13444 ((hw.pick [0, 1, 2, 3, 4] (by kernel_rfl)).pack 0)) fun a w v hv hs => ?_
                  obtain ⟨p13445, c13446, rfl, hw, h13447⟩ := hv
                  replace hw := hw.unpack 0 rfl
                  refine dg_next (SX_now hS13326 ((hw.vws [0, 1, 2, 3, 4]).anti (Le.refl _)) (by kernel_rfl)) fun hS => ?_
                  refine d_all (fuel := 6) (rs := [5, 9]) (by kernel_rfl) (by simp) (all2 ?_ (all1 ?_))
                  · obtain ⟨y13448, h13449, hx13441⟩ := bindE hx13441
                    refine o_call hs rfl (by kernel_rfl) (by kernel_rfl) (catenaryref20_Add_s h13449 h13141 h13447 ((hw.pick [0, 1, 2, 3, 4] (by kernel_rfl)).pack 0)) fun a w v hv hs => ?_
                    obtain ⟨ih13450, p13452, c13453, rfl, hw, hle13451, h13454⟩ := hv
                    replace hw := hw.unpack 0 rfl
                    refine dg_next (SX_now hS13326 ((hw.vws [0, 1, 2, 3, 4]).anti hle13451) (by kernel_rfl)) fun hS => ?_
                    refine d_pures (fuel := 3) kS13326 hs hS [6, 7, 8] [1, 5, 6, 7, 8, 9, 88, 89, 90, 91, 92, 93, 87, 94, 95] [(1, .slice p3 x2.length c4), (5, .pointer (some ⟨b6818, 0, none⟩)), (6, .pointer (some ⟨b6837, 0, none⟩)), (7, .int .i64 x10207), (8, .pointer (some ⟨b11933, 0, none⟩)), (9, .int .i64 x13134), (88, .agg #[.int .u64 x13135, .int .u64 x13136, .int .u64 x13137, .slice p13139 x13138.length c13140]), (89, .pointer (some ⟨b6837, 1, none⟩)), (90, .int .u64 x13136), (91, .int .u64 (IntKind.u64.wrap (x13136 + 1))), (92, .agg #[.int .u64 y13443.f0, .int .i64 y13443.f1, .int .u64 y13443.f2, .int .i64 y13443.f3, .int .u32 y13443.f4, .int .u64 y13443.f5, .slice p13445 y13443.f6.length c13446]), (93, .tuple #[.agg #[.int .u64 y13448.1.f0, .int .u64 y13448.1.f1, .int .u64 y13448.1.f2, .slice p13452 y13448.1.f3.length c13453], .int .i64 y13448.2]), (87, .tuple #[.agg #[.int .u64 y13448.1.f0, .int .u64 y13448.1.f1, .int .u64 y13448.1.f2, .slice p13452 y13448.1.f3.length c13453], .int .i64 y13448.2]), (94, .agg #[.int .u64 y13448.1.f0, .int .u64 y13448.1.f1, .int .u64 y13448.1.f2, .slice p13452 y13448.1.f3.length c13453]), (95, .int .i64 y13448.2)] (by kernel_rfl) fun a hs hS => ?_
                    refine d_all (fuel := 2) (rs := [9]) (by kernel_rfl) (by simp) (all1 ?_)
                    refine o_new hs rfl hw [.int .u64 0, .int .u64 0, .int .u64 0, .slice none 0 0] 58 (fun b => .pointer (some ⟨b, 0, none⟩)) (by kernel_rfl) (fun _ => by kernel_rfl) fun a w b13455 hs hw => ?_
                    refine dg_next (SX_now hS13326 ((hw.vws [1, 2, 3, 4, 5]).anti hle13451) (by kernel_rfl)) fun hS => ?_
                    refine d_all (fuel := 1) (rs := [10]) (by kernel_rfl) (by simp) (all1 ?_)
                    refine o_store hs hw rfl 0 rfl 0 (by kernel_rfl) (by kernel_rfl) (v := .agg #[.int .u64 y13448.1.f0, .int .u64 y13448.1.f1, .int .u64 y13448.1.f2, .slice p13452 y13448.1.f3.length c13453]) (by kernel_rfl) (by kernel_rfl) (by kernel_rfl) (by kernel_rfl) fun a w hs hw => ?_
                    refine dg_next (SX_now hS13326 ((hw.vws [1, 2, 3, 4, 5]).anti hle13451) (by kernel_rfl)) fun hS => ?_
                    refine d_pures (fuel := 0) kS13326 hs hS [11] [1, 5, 6, 7, 8, 9, 88, 89, 90, 91, 92, 93, 87, 94, 95, 10, 11] [(1, .slice p3 x2.length c4), (5, .pointer (some ⟨b6818, 0, none⟩)), (6, .pointer (some ⟨b6837, 0, none⟩)), (7, .int .i64 x10207), (8, .pointer (some ⟨b11933, 0, none⟩)), (9, .int .i64 x13134), (88, .agg #[.int .u64 x13135, .int .u64 x13136, .int .u64 x13137, .slice p13139 x13138.length c13140]), (89, .pointer (some ⟨b6837, 1, none⟩)), (90, .int .u64 x13136), (91, .int .u64 (IntKind.u64.wrap (x13136 + 1))), (92, .agg #[.int .u64 y13443.f0, .int .i64 y13443.f1, .int .u64 y13443.f2, .int .i64 y13443.f3, .int .u32 y13443.f4, .int .u64 y13443.f5, .slice p13445 y13443.f6.length c13446]), (93, .tuple #[.agg #[.int .u64 y13448.1.f0, .int .u64 y13448.1.f1, .int .u64 y13448.1.f2, .slice p13452 y13448.1.f3.length c13453], .int .i64 y13448.2]), (87, .tuple #[.agg #[.int .u64 y13448.1.f0, .int .u64 y13448.1.f1, .int .u64 y13448.1.f2, .slice p13452 y13448.1.f3.length c13453], .int .i64 y13448.2]), (94, .agg #[.int .u64 y13448.1.f0, .int .u64 y13448.1.f1, .int .u64 y13448.1.f2, .slice p13452 y13448.1.f3.length c13453]), (95, .int .i64 y13448.2), (10, .pointer (some ⟨b13455, 0, none⟩)), (11, .int .i64 y13448.2)] (by kernel_rfl) fun a hs hS => ?_
                    refine d_done (by kernel_rfl) ?_
                    obtain rfl := someE hx13441
                    exact (hJ13442 _ _).2 ⟨y13448.1.f0, y13448.1.f1, y13448.1.f2, y13448.1.f3, y13448.2, b13455, p13452, c13453, ih13450, hx13322, hs.cast [1, 5, 6, 7, 8, 9, 10, 11] (by kernel_rfl), hw.pick [1, 2, 3, 0, 4, 5] (by kernel_rfl), hle13451, h13454⟩
                  refine o_new hs rfl hw [.int .u64 0, .int .u64 0, .int .u64 0, .slice none 0 0] 58 (fun b => .pointer (some ⟨b, 0, none⟩)) (by kernel_rfl) (fun _ => by kernel_rfl) fun a w b13457 hs hw => ?_
                  refine dg_next (SX_now hS13326 ((hw.vws [1, 2, 3, 4, 5]).anti (Le.refl _)) (by kernel_rfl)) fun hS => ?_
                  refine d_all (fuel := 5) (rs := [5]) (by kernel_rfl) (by simp) (all1 ?_)
                  obtain ⟨y13459, h13460, hx13441⟩ := bindE hx13441
                  refine o_call hs rfl (by kernel_rfl) (by kernel_rfl) (catenaryref20_Add_s h13460 h13141 h13447 ((hw.pick [0, 1, 2, 3, 4, 5] (by kernel_rfl)).pack 0)) fun a w v hv hs => ?_
                  obtain ⟨ih13461, p13463, c13464, rfl, hw, hle13462, h13465⟩ := hv
                  replace hw := hw.unpack 0 rfl
                  refine dg_next (SX_now hS13326 ((hw.vws [1, 2, 3, 4, 5]).anti hle13462) (by kernel_rfl)) fun hS => ?_
                  refine d_pures (fuel := 2) kS13326 hs hS [6, 7, 8] [1, 5, 6, 7, 8, 9, 88, 89, 90, 91, 92, 10, 93, 87, 94, 95] [(1, .slice p3 x2.length c4), (5, .pointer (some ⟨b6818, 0, none⟩)), (6, .pointer (some ⟨b6837, 0, none⟩)), (7, .int .i64 x10207), (8, .pointer (some ⟨b11933, 0, none⟩)), (9, .int .i64 x13134), (88, .agg #[.int .u64 x13135, .int .u64 x13136, .int .u64 x13137, .slice p13139 x13138.length c13140]), (89, .pointer (some ⟨b6837, 1, none⟩)), (90, .int .u64 x13136), (91, .int .u64 (IntKind.u64.wrap (x13136 + 1))), (92, .agg #[.int .u64 y13443.f0, .int .i64 y13443.f1, .int .u64 y13443.f2, .int .i64 y13443.f3, .int .u32 y13443.f4, .int .u64 y13443.f5, .slice p13445 y13443.f6.length c13446]), (10, .pointer (some ⟨b13457, 0, none⟩)), (93, .tuple #[.agg #[.int .u64 y13459.1.f0, .int .u64 y13459.1.f1, .int .u64 y13459.1.f2, .slice p13463 y13459.1.f3.length c13464], .int .i64 y13459.2]), (87, .tuple #[.agg #[.int .u64 y13459.1.f0, .int .u64 y13459.1.f1, .int .u64 y13459.1.f2, .slice p13463 y13459.1.f3.length c13464], .int .i64 y13459.2]), (94, .agg #[.int .u64 y13459.1.f0, .int .u64 y13459.1.f1, .int .u64 y13459.1.f2, .slice p13463 y13459.1.f3.length c13464]), (95, .int .i64 y13459.2)] (by kernel_rfl) fun a hs hS => ?_
                  refine d_all (fuel := 1) (rs := [10]) (by kernel_rfl) (by simp) (all1 ?_)
                  refine o_store hs hw rfl 0 rfl 0 (by kernel_rfl) (by kernel_rfl) (v := .agg #[.int .u64 y13459.1.f0, .int .u64 y13459.1.f1, .int .u64 y13459.1.f2, .slice p13463 y13459.1.f3.length c13464]) (by kernel_rfl) (by kernel_rfl) (by kernel_rfl) (by kernel_rfl) fun a w hs hw => ?_
                  refine dg_next (SX_now hS13326 ((hw.vws [1, 2, 3, 4, 5]).anti hle13462) (by kernel_rfl)) fun hS => ?_
                  refine d_pures (fuel := 0) kS13326 hs hS [11] [1, 5, 6, 7, 8, 9, 88, 89, 90, 91, 92, 10, 93, 87, 94, 95, 11] [(1, .slice p3 x2.length c4), (5, .pointer (some ⟨b6818, 0, none⟩)), (6, .pointer (some ⟨b6837, 0, none⟩)), (7, .int .i64 x10207), (8, .pointer (some ⟨b11933, 0, none⟩)), (9, .int .i64 x13134), (88, .agg #[.int .u64 x13135, .int .u64 x13136, .int .u64 x13137, .slice p13139 x13138.length c13140]), (89, .pointer (some ⟨b6837, 1, none⟩)), (90, .int .u64 x13136), (91, .int .u64 (IntKind.u64.wrap (x13136 + 1))), (92, .agg #[.int .u64 y13443.f0, .int .i64 y13443.f1, .int .u64 y13443.f2, .int .i64 y13443.f3, .int .u32 y13443.f4, .int .u64 y13443.f5, .slice p13445 y13443.f6.length c13446]), (10, .pointer (some ⟨b13457, 0, none⟩)), (93, .tuple #[.agg #[.int .u64 y13459.1.f0, .int .u64 y13459.1.f1, .int .u64 y13459.1.f2, .slice p13463 y13459.1.f3.length c13464], .int .i64 y13459.2]), (87, .tuple #[.agg #[.int .u64 y13459.1.f0, .int .u64 y13459.1.f1, .int .u64 y13459.1.f2, .slice p13463 y13459.1.f3.length c13464], .int .i64 y13459.2]), (94, .agg #[.int .u64 y13459.1.f0, .int .u64 y13459.1.f1, .int .u64 y13459.1.f2, .slice p13463 y13459.1.f3.length c13464]), (95, .int .i64 y13459.2), (11, .int .i64 y13459.2)] (by kernel_rfl) fun a hs hS => ?_
                  refine d_done (by kernel_rfl) ?_
                  obtain rfl := someE hx13441
                  exact (hJ13442 _ _).2 ⟨y13459.1.f0, y13459.1.f1, y13459.1.f2, y13459.1.f3, y13459.2, b13457, p13463, c13464, ih13461, hx13322, hs.cast [1, 5, 6, 7, 8, 9, 10, 11] (by kernel_rfl), hw.pick [1, 2, 3, 0, 4, 5] (by kernel_rfl), hle13462, h13465⟩
                refine o_new hs rfl hw [.int .u64 0, .int .u64 0, .int .u64 0, .slice none 0 0] 58 (fun b => .pointer (some ⟨b, 0, none⟩)) (by kernel_rfl) (fun _ => by kernel_rfl) fun a w b13466 hs hw => ?_
                refine dg_next (SX_now hS13326 ((hw.vws [1, 2, 3, 4, 5]).anti (Le.refl _)) (by kernel_rfl)) fun hS => ?_
                refine d_all (fuel := 6) (rs := [4]) (by kernel_rfl) (by simp) (all1 ?_)
                obtain ⟨y13468, h13469, hx13441⟩ := bindE hx13441
                refine o_call hs rfl (by kernel_rfl) (by kernel_rfl) (catenarylaw20_one_s h13469 ((hw.pick [0, 1, 2, 3, 4, 5] (by kernel_rfl)).pack 0)) fun a w v hv hs => ?_
                obtain ⟨p13470, c13471, rfl, hw, h13472⟩ := hv
                replace hw := hw.unpack 0 rfl
                refine dg_next (SX_now hS13326 ((hw.vws [1, 2, 3, 4, 5]).anti (Le.refl _)) (by kernel_rfl)) fun hS => ?_
                refine d_all (fuel := 5) (rs := [5]) (by kernel_rfl) (by simp) (all1 ?_)
                obtain ⟨y13473, h13474, hx13441⟩ := bindE hx13441
                refine o_call hs rfl (by kernel_rfl) (by kernel_rfl) (catenaryref20_Add_s h13474 h13141 h13472 ((hw.pick [0, 1, 2, 3, 4, 5] (by kernel_rfl)).pack 0)) fun a w v hv hs => ?_
                obtain ⟨ih13475, p13477, c13478, rfl, hw, hle13476, h13479⟩ := hv
                replace hw := hw.unpack 0 rfl
                refine dg_next (SX_now hS13326 ((hw.vws [1, 2, 3, 4, 5]).anti hle13476) (by kernel_rfl)) fun hS => ?_
                refine d_pures (fuel := 2) kS13326 hs hS [6, 7, 8] [1, 5, 6, 7, 8, 9, 88, 89, 90, 91, 10, 92, 93, 87, 94, 95] [(1, .slice p3 x2.length c4), (5, .pointer (some ⟨b6818, 0, none⟩)), (6, .pointer (some ⟨b6837, 0, none⟩)), (7, .int .i64 x10207), (8, .pointer (some ⟨b11933, 0, none⟩)), (9, .int .i64 x13134), (88, .agg #[.int .u64 x13135, .int .u64 x13136, .int .u64 x13137, .slice p13139 x13138.length c13140]), (89, .pointer (some ⟨b6837, 1, none⟩)), (90, .int .u64 x13136), (91, .int .u64 (IntKind.u64.wrap (x13136 + 1))), (10, .pointer (some ⟨b13466, 0, none⟩)), (92, .agg #[.int .u64 y13468.f0, .int .i64 y13468.f1, .int .u64 y13468.f2, .int .i64 y13468.f3, .int .u32 y13468.f4, .int .u64 y13468.f5, .slice p13470 y13468.f6.length c13471]), (93, .tuple #[.agg #[.int .u64 y13473.1.f0, .int .u64 y13473.1.f1, .int .u64 y13473.1.f2, .slice p13477 y13473.1.f3.length c13478], .int .i64 y13473.2]), (87, .tuple #[.agg #[.int .u64 y13473.1.f0, .int .u64 y13473.1.f1, .int .u64 y13473.1.f2, .slice p13477 y13473.1.f3.length c13478], .int .i64 y13473.2]), (94, .agg #[.int .u64 y13473.1.f0, .int .u64 y13473.1.f1, .int .u64 y13473.1.f2, .slice p13477 y13473.1.f3.length c13478]), (95, .int .i64 y13473.2)] (by kernel_rfl) fun a hs hS => ?_
                refine d_all (fuel := 1) (rs := [10]) (by kernel_rfl) (by simp) (all1 ?_)
                refine o_store hs hw rfl 0 rfl 0 (by kernel_rfl) (by kernel_rfl) (v := .agg #[.int .u64 y13473.1.f0, .int .u64 y13473.1.f1, .int .u64 y13473.1.f2, .slice p13477 y13473.1.f3.length c13478]) (by kernel_rfl) (by kernel_rfl) (by kernel_rfl) (by kernel_rfl) fun a w hs hw => ?_
                refine dg_next (SX_now hS13326 ((hw.vws [1, 2, 3, 4, 5]).anti hle13476) (by kernel_rfl)) fun hS => ?_
                refine d_pures (fuel := 0) kS13326 hs hS [11] [1, 5, 6, 7, 8, 9, 88, 89, 90, 91, 10, 92, 93, 87, 94, 95, 11] [(1, .slice p3 x2.length c4), (5, .pointer (some ⟨b6818, 0, none⟩)), (6, .pointer (some ⟨b6837, 0, none⟩)), (7, .int .i64 x10207), (8, .pointer (some ⟨b11933, 0, none⟩)), (9, .int .i64 x13134), (88, .agg #[.int .u64 x13135, .int .u64 x13136, .int .u64 x13137, .slice p13139 x13138.length c13140]), (89, .pointer (some ⟨b6837, 1, none⟩)), (90, .int .u64 x13136), (91, .int .u64 (IntKind.u64.wrap (x13136 + 1))), (10, .pointer (some ⟨b13466, 0, none⟩)), (92, .agg #[.int .u64 y13468.f0, .int .i64 y13468.f1, .int .u64 y13468.f2, .int .i64 y13468.f3, .int .u32 y13468.f4, .int .u64 y13468.f5, .slice p13470 y13468.f6.length c13471]), (93, .tuple #[.agg #[.int .u64 y13473.1.f0, .int .u64 y13473.1.f1, .int .u64 y13473.1.f2, .slice p13477 y13473.1.f3.length c13478], .int .i64 y13473.2]), (87, .tuple #[.agg #[.int .u64 y13473.1.f0, .int .u64 y13473.1.f1, .int .u64 y13473.1.f2, .slice p13477 y13473.1.f3.length c13478], .int .i64 y13473.2]), (94, .agg #[.int .u64 y13473.1.f0, .int .u64 y13473.1.f1, .int .u64 y13473.1.f2, .slice p13477 y13473.1.f3.length c13478]), (95, .int .i64 y13473.2), (11, .int .i64 y13473.2)] (by kernel_rfl) fun a hs hS => ?_
                refine d_done (by kernel_rfl) ?_
                obtain rfl := someE hx13441
                exact (hJ13442 _ _).2 ⟨y13473.1.f0, y13473.1.f1, y13473.1.f2, y13473.1.f3, y13473.2, b13466, p13477, c13478, ih13475, hx13322, hs.cast [1, 5, 6, 7, 8, 9, 10, 11] (by kernel_rfl), hw.pick [1, 2, 3, 0, 4, 5] (by kernel_rfl), hle13476, h13479⟩
              intro a w hh
              obtain ⟨x13405, x13406, x13407, x13408, x13412, b13403, p13409, c13410, ih13401, hx13322, hs, hw, hle13402, h13411⟩ := (hJ13442 _ _).1 hh
              refine c_seq ?_
              refine c_seq ?_
              refine c_region ?_
              refine pures hs 2 [1, 5, 6, 7, 8, 9, 10, 11, 96, 97] [(1, .slice p3 x2.length c4), (5, .pointer (some ⟨b6818, 0, none⟩)), (6, .pointer (some ⟨b6837, 0, none⟩)), (7, .int .i64 x10207), (8, .pointer (some ⟨b11933, 0, none⟩)), (9, .int .i64 x13134), (10, .pointer (some ⟨b13403, 0, none⟩)), (11, .int .i64 x13412), (96, .pointer (some ⟨b6818, 0, none⟩)), (97, .pointer (some ⟨b6837, 1, none⟩))] (by kernel_rfl) fun a hs => ?_
              refine s_load hs (hw.at_ 1 rfl) 1 (by kernel_rfl) (by kernel_rfl) (v := .int .u64 x13136) (by kernel_rfl) fun a hs => ?_
              refine pures hs 1 [1, 5, 6, 7, 8, 9, 10, 11, 96, 99] [(1, .slice p3 x2.length c4), (5, .pointer (some ⟨b6818, 0, none⟩)), (6, .pointer (some ⟨b6837, 0, none⟩)), (7, .int .i64 x10207), (8, .pointer (some ⟨b11933, 0, none⟩)), (9, .int .i64 x13134), (10, .pointer (some ⟨b13403, 0, none⟩)), (11, .int .i64 x13412), (96, .pointer (some ⟨b6818, 0, none⟩)), (99, .int .u64 (IntKind.u64.wrap (x13136 + 1)))] (by kernel_rfl) fun a hs => ?_
              obtain ⟨y13426, h13427, hx13322⟩ := bindE hx13322
              refine s_call hs (by kernel_rfl) (by kernel_rfl) (catenarylaw20_one_s h13427 ((hw.pick [0, 1, 2, 3, 4, 5] (by kernel_rfl)).pack 0)) fun a w v hv hs => ?_
              obtain ⟨p13428, c13429, rfl, hw, h13430⟩ := hv
              replace hw := hw.unpack 0 rfl
              obtain ⟨y13431, h13432, hx13322⟩ := bindE hx13322
              refine s_call hs (by kernel_rfl) (by kernel_rfl) (window_Window_Add_s h13432 (h13146.mono hle13402) h13430 (hG.mono ((hle10206.trans hle13133).trans hle13402)) ((hw.pick [2, 4, 0, 1, 3, 5] (by kernel_rfl)).pack 2)) fun a w v hv hs => ?_
              obtain ⟨ih13433, p13435, c13436, d13438, rfl, hw, hle13434, h13437⟩ := hv
              replace hw := hw.unpack 2 rfl
              refine pures hs 2 [1, 5, 6, 7, 8, 9, 10, 103] [(1, .slice p3 x2.length c4), (5, .pointer (some ⟨b6818, 0, none⟩)), (6, .pointer (some ⟨b6837, 0, none⟩)), (7, .int .i64 x10207), (8, .pointer (some ⟨b11933, 0, none⟩)), (9, .int .i64 x13134), (10, .pointer (some ⟨b13403, 0, none⟩)), (103, .bool (y13431.1 != x13412))] (by kernel_rfl) fun a hs => ?_
              refine s_end ?_
              rcases ifbE hx13322 with ⟨h13439, hx13322⟩ | ⟨h13439, hx13322⟩
              · refine c_cond1 hs (by kernel_rfl) (t := (y13431.1 != x13412)) (by kernel_rfl) h13439 ?_
                refine c_seq ?_
                refine c_region ?_
                refine pures hs 1 [4] [(4, .bool false)] (by kernel_rfl) fun a hs => ?_
                refine s_end ?_
                refine c_ret ?_
                obtain rfl := someE hx13322
                obtain rfl := someE hx12800
                obtain rfl := someE hx11908
                obtain rfl := someE hk
                refine hQ _ _ (f_ret1 hs rfl (v := .bool false) (by kernel_rfl) ⟨ih13433, rfl, hw.pick [5] (by kernel_rfl), (((hle10206.trans hle13133).trans hle13402).trans hle13434)⟩)
              refine c_cond0 hs (by kernel_rfl) (t := (y13431.1 != x13412)) (by kernel_rfl) h13439 ?_
              refine c_skip ?_
              refine c_region ?_
              refine s_load hs (hw.at_ 4 rfl) 0 (by kernel_rfl) (by kernel_rfl) (v := .agg #[.int .u64 x13405, .int .u64 x13406, .int .u64 x13407, .slice p13409 x13408.length c13410]) (by kernel_rfl) fun a hs => ?_
              refine s_store hs hw 3 rfl 0 (by kernel_rfl) (by kernel_rfl) (v := .agg #[.int .u64 x13405, .int .u64 x13406, .int .u64 x13407, .slice p13409 x13408.length c13410]) (by kernel_rfl) (by kernel_rfl) (by kernel_rfl) (by kernel_rfl) fun a w hs hw => ?_
              refine s_end ?_
              refine c_region ?_
              refine pures hs 3 [1, 5, 6, 7, 8, 9] [(1, .slice p3 x2.length c4), (5, .pointer (some ⟨b6818, 0, none⟩)), (6, .pointer (some ⟨b6837, 0, none⟩)), (7, .int .i64 x10207), (8, .pointer (some ⟨b11933, 0, none⟩)), (9, .int .i64 (IntKind.i64.wrap (x13134 + 1)))] (by kernel_rfl) fun a hs => ?_
              refine s_end ?_
              exact (hI13324 _ _ _).2 ⟨(IntKind.i64.wrap (x13134 + 1)), x13405, x13406, x13407, x13408, y13431.2.1, y13431.2.2, p13409, c13410, p13435, c13436, d13438, ih13433, hx13322, hs.cast [1, 5, 6, 7, 8, 9] (by kernel_rfl), hw.pick [2, 3, 0, 1, 5] (by kernel_rfl), ((hle13133.trans hle13402).trans hle13434), (h13411.mono hle13434), h13437⟩
            refine c_cond0 hs (by kernel_rfl) (t := (decide (x13134 < ((IntKind.i64.wrap (x11926.f1)).tmod 50)))) (by kernel_rfl) h13325 ?_
            refine c_exit ?_
            obtain rfl := someE hx13322
            exact (hJ13323 _ _).2 ⟨x13135, x13136, x13137, x13138, x13142, x13143, p13139, c13140, p13144, c13145, d13147, ih13132, hx12800, hs.cast [1, 5, 6, 7, 8] (by kernel_rfl), hw.pick [0, 1, 2, 3, 4] (by kernel_rfl), hle13133, h13141, h13146⟩
          intro a w hh
          obtain ⟨x13307, x13308, x13309, x13310, x13314, x13315, p13311, c13312, p13316, c13317, d13319, ih13305, hx12800, hs, hw, hle13306, h13313, h13318⟩ := (hJ13323 _ _).1 hh
          obtain rfl := someE hx12800
          exact (hJ12801 _ _).2 ⟨x13307, x13308, x13309, x13310, x13314, x10216, x13315, p13311, c13312, p13316, c13317, d13319, ih13305, hx11908, hs.cast [1, 5, 6, 7, 8] (by kernel_rfl), hw.pick [0, 1, 2, 3, 4] (by kernel_rfl), hle13306, h13313, h13318⟩
        refine c_cond0 hs (by kernel_rfl) (t := (x11926.f0 == 0)) (by kernel_rfl) h12802 ?_
        refine c_seq ?_
        refine c_region ?_
        refine pures hs 2 [1, 5, 6, 7, 8, 105] [(1, .slice p3 x2.length c4), (5, .pointer (some ⟨b6818, 0, none⟩)), (6, .pointer (some ⟨b6837, 0, none⟩)), (7, .int .i64 x10207), (8, .pointer (some ⟨b11933, 0, none⟩)), (105, .bool (x11926.f0 == 1))] (by kernel_rfl) fun a hs => ?_
        refine s_end ?_
        rcases ifbE hx12800 with ⟨h13482, hx12800⟩ | ⟨h13482, hx12800⟩
        · refine c_cond1 hs (by kernel_rfl) (t := (x11926.f0 == 1)) (by kernel_rfl) h13482 ?_
          refine c_seq ?_
          refine c_region ?_
          refine s_load hs (hw.at_ 1 rfl) 0 (by kernel_rfl) (by kernel_rfl) (v := .agg #[.int .u64 x10208, .int .u64 x10209, .int .u64 x10210, .slice p10212 x10211.length c10213]) (by kernel_rfl) fun a hs => ?_
          refine pures hs 1 [1, 5, 6, 7, 8, 108, 109] [(1, .slice p3 x2.length c4), (5, .pointer (some ⟨b6818, 0, none⟩)), (6, .pointer (some ⟨b6837, 0, none⟩)), (7, .int .i64 x10207), (8, .pointer (some ⟨b11933, 0, none⟩)), (108, .agg #[.int .u64 x10208, .int .u64 x10209, .int .u64 x10210, .slice p10212 x10211.length c10213]), (109, .pointer (some ⟨b11933, 2, none⟩))] (by kernel_rfl) fun a hs => ?_
          refine s_load hs (hw.at_ 0 rfl) 2 (by kernel_rfl) (by kernel_rfl) (v := .agg #[.int .u64 x11926.f2.f0, .int .i64 x11926.f2.f1, .int .u64 x11926.f2.f2, .int .i64 x11926.f2.f3, .int .u32 x11926.f2.f4, .int .u64 x11926.f2.f5, .slice p11930 x11926.f2.f6.length c11931]) (by kernel_rfl) fun a hs => ?_
          obtain ⟨y13492, h13493, hx12800⟩ := bindE hx12800
          refine s_call hs (by kernel_rfl) (by kernel_rfl) (catenaryref20_Add_s h13493 h10214 (h11932.mono hle10206) ((hw.pick [0, 1, 2, 3, 4] (by kernel_rfl)).pack 0)) fun a w v hv hs => ?_
          obtain ⟨ih13494, p13496, c13497, rfl, hw, hle13495, h13498⟩ := hv
          replace hw := hw.unpack 0 rfl
          refine pures hs 3 [1, 5, 6, 7, 8, 112, 113] [(1, .slice p3 x2.length c4), (5, .pointer (some ⟨b6818, 0, none⟩)), (6, .pointer (some ⟨b6837, 0, none⟩)), (7, .int .i64 x10207), (8, .pointer (some ⟨b11933, 0, none⟩)), (112, .agg #[.int .u64 y13492.1.f0, .int .u64 y13492.1.f1, .int .u64 y13492.1.f2, .slice p13496 y13492.1.f3.length c13497]), (113, .int .i64 y13492.2)] (by kernel_rfl) fun a hs => ?_
          refine s_new hs hw [.int .u64 0, .int .u64 0, .int .u64 0, .slice none 0 0] 58 (fun b => .pointer (some ⟨b, 0, none⟩)) (by kernel_rfl) (fun _ => by kernel_rfl) fun a w b13499 hs hw => ?_
          refine s_store hs hw 0 rfl 0 (by kernel_rfl) (by kernel_rfl) (v := .agg #[.int .u64 y13492.1.f0, .int .u64 y13492.1.f1, .int .u64 y13492.1.f2, .slice p13496 y13492.1.f3.length c13497]) (by kernel_rfl) (by kernel_rfl) (by kernel_rfl) (by kernel_rfl) fun a w hs hw => ?_
          refine pures hs 1 [1, 5, 6, 7, 8, 12, 13] [(1, .slice p3 x2.length c4), (5, .pointer (some ⟨b6818, 0, none⟩)), (6, .pointer (some ⟨b6837, 0, none⟩)), (7, .int .i64 x10207), (8, .pointer (some ⟨b11933, 0, none⟩)), (12, .pointer (some ⟨b13499, 0, none⟩)), (13, .int .i64 y13492.2)] (by kernel_rfl) fun a hs => ?_
          refine s_end ?_
          refine c_seq ?_
          refine c_seq ?_
          refine c_region ?_
          refine pures hs 2 [1, 5, 6, 7, 8, 12, 13, 114, 115] [(1, .slice p3 x2.length c4), (5, .pointer (some ⟨b6818, 0, none⟩)), (6, .pointer (some ⟨b6837, 0, none⟩)), (7, .int .i64 x10207), (8, .pointer (some ⟨b11933, 0, none⟩)), (12, .pointer (some ⟨b13499, 0, none⟩)), (13, .int .i64 y13492.2), (114, .pointer (some ⟨b6818, 0, none⟩)), (115, .pointer (some ⟨b11933, 2, none⟩))] (by kernel_rfl) fun a hs => ?_
          refine s_load hs (hw.at_ 1 rfl) 2 (by kernel_rfl) (by kernel_rfl) (v := .agg #[.int .u64 x11926.f2.f0, .int .i64 x11926.f2.f1, .int .u64 x11926.f2.f2, .int .i64 x11926.f2.f3, .int .u32 x11926.f2.f4, .int .u64 x11926.f2.f5, .slice p11930 x11926.f2.f6.length c11931]) (by kernel_rfl) fun a hs => ?_
          obtain ⟨y13509, h13510, hx12800⟩ := bindE hx12800
          refine s_call hs (by kernel_rfl) (by kernel_rfl) (window_Window_Add_s h13510 (h10220.mono hle13495) (h11932.mono (hle10206.trans hle13495)) (hG.mono (hle10206.trans hle13495)) ((hw.pick [3, 4, 0, 1, 2, 5] (by kernel_rfl)).pack 2)) fun a w v hv hs => ?_
          obtain ⟨ih13511, p13513, c13514, d13516, rfl, hw, hle13512, h13515⟩ := hv
          replace hw := hw.unpack 2 rfl
          refine pures hs 2 [1, 5, 6, 7, 8, 12, 119] [(1, .slice p3 x2.length c4), (5, .pointer (some ⟨b6818, 0, none⟩)), (6, .pointer (some ⟨b6837, 0, none⟩)), (7, .int .i64 x10207), (8, .pointer (some ⟨b11933, 0, none⟩)), (12, .pointer (some ⟨b13499, 0, none⟩)), (119, .bool (y13509.1 != y13492.2))] (by kernel_rfl) fun a hs => ?_
          refine s_end ?_
          rcases ifbE hx12800 with ⟨h13517, hx12800⟩ | ⟨h13517, hx12800⟩
          · refine c_cond1 hs (by kernel_rfl) (t := (y13509.1 != y13492.2)) (by kernel_rfl) h13517 ?_
            refine c_seq ?_
            refine c_region ?_
            refine pures hs 1 [4] [(4, .bool false)] (by kernel_rfl) fun a hs => ?_
            refine s_end ?_
            refine c_ret ?_
            obtain rfl := someE hx12800
            obtain rfl := someE hx11908
            obtain rfl := someE hk
            refine hQ _ _ (f_ret1 hs rfl (v := .bool false) (by kernel_rfl) ⟨ih13511, rfl, hw.pick [5] (by kernel_rfl), ((hle10206.trans hle13495).trans hle13512)⟩)
          refine c_cond0 hs (by kernel_rfl) (t := (y13509.1 != y13492.2)) (by kernel_rfl) h13517 ?_
          refine c_skip ?_
          refine c_region ?_
          refine s_load hs (hw.at_ 2 rfl) 0 (by kernel_rfl) (by kernel_rfl) (v := .agg #[.int .u64 y13492.1.f0, .int .u64 y13492.1.f1, .int .u64 y13492.1.f2, .slice p13496 y13492.1.f3.length c13497]) (by kernel_rfl) fun a hs => ?_
          refine s_store hs hw 4 rfl 0 (by kernel_rfl) (by kernel_rfl) (v := .agg #[.int .u64 y13492.1.f0, .int .u64 y13492.1.f1, .int .u64 y13492.1.f2, .slice p13496 y13492.1.f3.length c13497]) (by kernel_rfl) (by kernel_rfl) (by kernel_rfl) (by kernel_rfl) fun a w hs hw => ?_
          refine s_end ?_
          obtain rfl := someE hx12800
          exact (hJ12801 _ _).2 ⟨y13492.1.f0, y13492.1.f1, y13492.1.f2, y13492.1.f3, y13509.2.1, x10216, y13509.2.2, p13496, c13497, p13513, c13514, d13516, ih13511, hx11908, hs.cast [1, 5, 6, 7, 8] (by kernel_rfl), hw.pick [3, 4, 0, 1, 5] (by kernel_rfl), (hle13495.trans hle13512), (h13498.mono hle13512), h13515⟩
        refine c_cond0 hs (by kernel_rfl) (t := (x11926.f0 == 1)) (by kernel_rfl) h13482 ?_
        refine c_seq ?_
        refine c_region ?_
        refine pures hs 1 [1, 5, 6, 7, 8, 51] [(1, .slice p3 x2.length c4), (5, .pointer (some ⟨b6818, 0, none⟩)), (6, .pointer (some ⟨b6837, 0, none⟩)), (7, .int .i64 x10207), (8, .pointer (some ⟨b11933, 0, none⟩)), (51, .pointer (some ⟨b11933, 1, none⟩))] (by kernel_rfl) fun a hs => ?_
        refine s_load hs (hw.at_ 0 rfl) 1 (by kernel_rfl) (by kernel_rfl) (v := .int .u8 x11926.f1) (by kernel_rfl) fun a hs => ?_
        refine pures hs 2 [1, 5, 6, 7, 8, 14] [(1, .slice p3 x2.length c4), (5, .pointer (some ⟨b6818, 0, none⟩)), (6, .pointer (some ⟨b6837, 0, none⟩)), (7, .int .i64 x10207), (8, .pointer (some ⟨b11933, 0, none⟩)), (14, .int .u64 (IntKind.u64.wrap (x11926.f1)))] (by kernel_rfl) fun a hs => ?_
        refine s_end ?_
        obtain ⟨y13579, hx13580, hx12800⟩ := bindE hx12800
        obtain ⟨J13581, hJ13581⟩ : ∃ J : Act → World → Prop, ∀ a w, J a w ↔ (∃ (x13519 : Int), catenarylaw20_WindowPlays_r132 k x10208 x10209 x10210 x10211 x10215 x10216 x10217 x13519 = some y12799 ∧ Sees a 161 [(1, .slice p3 x2.length c4), (5, .pointer (some ⟨b6818, 0, none⟩)), (6, .pointer (some ⟨b6837, 0, none⟩)), (7, .int .i64 x10207), (8, .pointer (some ⟨b11933, 0, none⟩)), (14, .int .u64 x13519)] ∧ St g w [bx b11933 [.int .i64 x11926.f0, .int .u8 x11926.f1, .int .u64 x11926.f2.f0, .int .i64 x11926.f2.f1, .int .u64 x11926.f2.f2, .int .i64 x11926.f2.f3, .int .u32 x11926.f2.f4, .int .u64 x11926.f2.f5, .slice p11930 x11926.f2.f6.length c11931, .int .u8 x11926.f3, .int .i64 x11926.f4] 51, bx b6837 [.int .u64 x10208, .int .u64 x10209, .int .u64 x10210, .slice p10212 x10211.length c10213] 58, bx b6818 [.int .u64 x10215, .int .u64 x10216, .slice p10218 x10217.length c10219] 78, d10221, F] ih10205) := ⟨_, fun _ _ => Iff.rfl⟩
        refine c_seqJ J13581 ?_ ?_
        · refine c_seq ?_
          refine c_region ?_
          refine pures hs 1 [1, 5, 6, 7, 8, 14, 54] [(1, .slice p3 x2.length c4), (5, .pointer (some ⟨b6818, 0, none⟩)), (6, .pointer (some ⟨b6837, 0, none⟩)), (7, .int .i64 x10207), (8, .pointer (some ⟨b11933, 0, none⟩)), (14, .int .u64 (IntKind.u64.wrap (x11926.f1))), (54, .pointer (some ⟨b11933, 0, none⟩))] (by kernel_rfl) fun a hs => ?_
          refine s_load hs (hw.at_ 0 rfl) 0 (by kernel_rfl) (by kernel_rfl) (v := .int .i64 x11926.f0) (by kernel_rfl) fun a hs => ?_
          refine pures hs 1 [1, 5, 6, 7, 8, 14, 56] [(1, .slice p3 x2.length c4), (5, .pointer (some ⟨b6818, 0, none⟩)), (6, .pointer (some ⟨b6837, 0, none⟩)), (7, .int .i64 x10207), (8, .pointer (some ⟨b11933, 0, none⟩)), (14, .int .u64 (IntKind.u64.wrap (x11926.f1))), (56, .bool (x11926.f0 == 2))] (by kernel_rfl) fun a hs => ?_
          refine s_end ?_
          rcases ifbE hx13580 with ⟨h13582, hx13580⟩ | ⟨h13582, hx13580⟩
          · refine c_cond1 hs (by kernel_rfl) (t := (x11926.f0 == 2)) (by kernel_rfl) h13582 ?_
            refine c_region ?_
            refine pures hs 1 [1, 5, 6, 7, 8, 57] [(1, .slice p3 x2.length c4), (5, .pointer (some ⟨b6818, 0, none⟩)), (6, .pointer (some ⟨b6837, 0, none⟩)), (7, .int .i64 x10207), (8, .pointer (some ⟨b11933, 0, none⟩)), (57, .pointer (some ⟨b6837, 2, none⟩))] (by kernel_rfl) fun a hs => ?_
            refine s_load hs (hw.at_ 1 rfl) 2 (by kernel_rfl) (by kernel_rfl) (v := .int .u64 x10210) (by kernel_rfl) fun a hs => ?_
            refine pures hs 1 [1, 5, 6, 7, 8, 58, 59] [(1, .slice p3 x2.length c4), (5, .pointer (some ⟨b6818, 0, none⟩)), (6, .pointer (some ⟨b6837, 0, none⟩)), (7, .int .i64 x10207), (8, .pointer (some ⟨b11933, 0, none⟩)), (58, .int .u64 x10210), (59, .pointer (some ⟨b11933, 1, none⟩))] (by kernel_rfl) fun a hs => ?_
            refine s_load hs (hw.at_ 0 rfl) 1 (by kernel_rfl) (by kernel_rfl) (v := .int .u8 x11926.f1) (by kernel_rfl) fun a hs => ?_
            refine pures hs 4 [1, 5, 6, 7, 8, 14] [(1, .slice p3 x2.length c4), (5, .pointer (some ⟨b6818, 0, none⟩)), (6, .pointer (some ⟨b6837, 0, none⟩)), (7, .int .i64 x10207), (8, .pointer (some ⟨b11933, 0, none⟩)), (14, .int .u64 (IntKind.u64.wrap (x10210 + ((IntKind.u64.wrap (x11926.f1)).tmod 20))))] (by kernel_rfl) fun a hs => ?_
            refine s_end ?_
            obtain rfl := someE hx13580
            exact (hJ13581 _ _).2 ⟨(IntKind.u64.wrap (x10210 + ((IntKind.u64.wrap (x11926.f1)).tmod 20))), hx12800, hs.cast [1, 5, 6, 7, 8, 14] (by kernel_rfl), hw.pick [0, 1, 2, 3, 4] (by kernel_rfl)⟩
          refine c_cond0 hs (by kernel_rfl) (t := (x11926.f0 == 2)) (by kernel_rfl) h13582 ?_
          refine c_skip ?_
          obtain rfl := someE hx13580
          exact (hJ13581 _ _).2 ⟨(IntKind.u64.wrap (x11926.f1)), hx12800, hs.cast [1, 5, 6, 7, 8, 14] (by kernel_rfl), hw.pick [0, 1, 2, 3, 4] (by kernel_rfl)⟩
        intro a w hh
        obtain ⟨x13519, hx12800, hs, hw⟩ := (hJ13581 _ _).1 hh
        refine c_seq ?_
        refine c_region ?_
        refine s_load hs (hw.at_ 1 rfl) 0 (by kernel_rfl) (by kernel_rfl) (v := .agg #[.int .u64 x10208, .int .u64 x10209, .int .u64 x10210, .slice p10212 x10211.length c10213]) (by kernel_rfl) fun a hs => ?_
        refine pures hs 1 [1, 5, 6, 7, 8, 14, 65, 66] [(1, .slice p3 x2.length c4), (5, .pointer (some ⟨b6818, 0, none⟩)), (6, .pointer (some ⟨b6837, 0, none⟩)), (7, .int .i64 x10207), (8, .pointer (some ⟨b11933, 0, none⟩)), (14, .int .u64 x13519), (65, .agg #[.int .u64 x10208, .int .u64 x10209, .int .u64 x10210, .slice p10212 x10211.length c10213]), (66, .int .u64 x13519)] (by kernel_rfl) fun a hs => ?_
        obtain ⟨y13534, h13535, hx12800⟩ := bindE hx12800
        refine s_call hs (by kernel_rfl) (by kernel_rfl) (catenaryref20_Reach_s h13535 h10214 ((hw.pick [0, 1, 2, 3, 4] (by kernel_rfl)).pack 0)) fun a w v hv hs => ?_
        obtain ⟨ih13536, p13538, c13539, p13541, c13542, d13544, rfl, hw, hle13537, h13540, h13543⟩ := hv
        replace hw := hw.unpack 1 rfl
        refine pures hs 3 [1, 5, 6, 7, 8, 14, 68, 69] [(1, .slice p3 x2.length c4), (5, .pointer (some ⟨b6818, 0, none⟩)), (6, .pointer (some ⟨b6837, 0, none⟩)), (7, .int .i64 x10207), (8, .pointer (some ⟨b11933, 0, none⟩)), (14, .int .u64 x13519), (68, .agg #[.int .u64 y13534.1.f0, .int .u64 y13534.1.f1, .int .u64 y13534.1.f2, .slice p13538 y13534.1.f3.length c13539]), (69, .slice p13541 y13534.2.length c13542)] (by kernel_rfl) fun a hs => ?_
        refine s_new hs hw [.int .u64 0, .int .u64 0, .int .u64 0, .slice none 0 0] 58 (fun b => .pointer (some ⟨b, 0, none⟩)) (by kernel_rfl) (fun _ => by kernel_rfl) fun a w b13546 hs hw => ?_
        refine s_store hs hw 0 rfl 0 (by kernel_rfl) (by kernel_rfl) (v := .agg #[.int .u64 y13534.1.f0, .int .u64 y13534.1.f1, .int .u64 y13534.1.f2, .slice p13538 y13534.1.f3.length c13539]) (by kernel_rfl) (by kernel_rfl) (by kernel_rfl) (by kernel_rfl) fun a w hs hw => ?_
        refine pures hs 1 [1, 5, 6, 7, 8, 14, 15, 16] [(1, .slice p3 x2.length c4), (5, .pointer (some ⟨b6818, 0, none⟩)), (6, .pointer (some ⟨b6837, 0, none⟩)), (7, .int .i64 x10207), (8, .pointer (some ⟨b11933, 0, none⟩)), (14, .int .u64 x13519), (15, .pointer (some ⟨b13546, 0, none⟩)), (16, .slice p13541 y13534.2.length c13542)] (by kernel_rfl) fun a hs => ?_
        refine s_end ?_
        refine c_seq ?_
        refine c_seq ?_
        refine c_region ?_
        refine pures hs 2 [1, 5, 6, 7, 8, 15, 16, 70, 71] [(1, .slice p3 x2.length c4), (5, .pointer (some ⟨b6818, 0, none⟩)), (6, .pointer (some ⟨b6837, 0, none⟩)), (7, .int .i64 x10207), (8, .pointer (some ⟨b11933, 0, none⟩)), (15, .pointer (some ⟨b13546, 0, none⟩)), (16, .slice p13541 y13534.2.length c13542), (70, .pointer (some ⟨b6818, 0, none⟩)), (71, .int .u64 x13519)] (by kernel_rfl) fun a hs => ?_
        obtain ⟨y13563, h13564, hx12800⟩ := bindE hx12800
        refine s_call hs (by kernel_rfl) (by kernel_rfl) (window_Window_Reach_s h13564 (h10220.mono hle13537) ((hw.pick [4, 5, 0, 1, 2, 3, 6] (by kernel_rfl)).pack 2)) fun a w v hv hs => ?_
        obtain ⟨ih13565, p13567, c13568, d13570, p13572, c13573, d13575, rfl, hw, hle13566, h13569, h13574⟩ := hv
        replace hw := hw.unpack 3 rfl
        refine pures hs 1 [1, 5, 6, 7, 8, 15, 72, 73] [(1, .slice p3 x2.length c4), (5, .pointer (some ⟨b6818, 0, none⟩)), (6, .pointer (some ⟨b6837, 0, none⟩)), (7, .int .i64 x10207), (8, .pointer (some ⟨b11933, 0, none⟩)), (15, .pointer (some ⟨b13546, 0, none⟩)), (72, .slice p13567 y13563.1.length c13568), (73, .slice p13541 y13534.2.length c13542)] (by kernel_rfl) fun a hs => ?_
        obtain ⟨y13576, h13577, hx12800⟩ := bindE hx12800
        refine s_call hs (by kernel_rfl) (by kernel_rfl) (catenaryref10_SameUpdates_s h13577 h13569.read (memF 0 rfl) (h13543.read.mono hle13566) (memF 4 rfl) ((hw.pick [0, 1, 2, 3, 4, 5, 6, 7] (by kernel_rfl)).pack 0)) fun a w v hv hs => ?_
        obtain ⟨rfl, hw⟩ := hv
        replace hw := hw.unpack 0 rfl
        refine pures hs 1 [1, 5, 6, 7, 8, 15, 75] [(1, .slice p3 x2.length c4), (5, .pointer (some ⟨b6818, 0, none⟩)), (6, .pointer (some ⟨b6837, 0, none⟩)), (7, .int .i64 x10207), (8, .pointer (some ⟨b11933, 0, none⟩)), (15, .pointer (some ⟨b13546, 0, none⟩)), (75, .bool (!y13576))] (by kernel_rfl) fun a hs => ?_
        refine s_end ?_
        rcases ifbE hx12800 with ⟨h13578, hx12800⟩ | ⟨h13578, hx12800⟩
        · refine c_cond1 hs (by kernel_rfl) (t := (!y13576)) (by kernel_rfl) h13578 ?_
          refine c_seq ?_
          refine c_region ?_
          refine pures hs 1 [4] [(4, .bool false)] (by kernel_rfl) fun a hs => ?_
          refine s_end ?_
          refine c_ret ?_
          obtain rfl := someE hx12800
          obtain rfl := someE hx11908
          obtain rfl := someE hk
          refine hQ _ _ (f_ret1 hs rfl (v := .bool false) (by kernel_rfl) ⟨ih13565, rfl, hw.pick [7] (by kernel_rfl), ((hle10206.trans hle13537).trans hle13566)⟩)
        refine c_cond0 hs (by kernel_rfl) (t := (!y13576)) (by kernel_rfl) h13578 ?_
        refine c_skip ?_
        refine c_region ?_
        refine s_load hs (hw.at_ 3 rfl) 0 (by kernel_rfl) (by kernel_rfl) (v := .agg #[.int .u64 y13534.1.f0, .int .u64 y13534.1.f1, .int .u64 y13534.1.f2, .slice p13538 y13534.1.f3.length c13539]) (by kernel_rfl) fun a hs => ?_
        refine s_store hs hw 6 rfl 0 (by kernel_rfl) (by kernel_rfl) (v := .agg #[.int .u64 y13534.1.f0, .int .u64 y13534.1.f1, .int .u64 y13534.1.f2, .slice p13538 y13534.1.f3.length c13539]) (by kernel_rfl) (by kernel_rfl) (by kernel_rfl) (by kernel_rfl) fun a w hs hw => ?_
        refine s_end ?_
        obtain rfl := someE hx12800
        exact (hJ12801 _ _).2 ⟨y13534.1.f0, y13534.1.f1, y13534.1.f2, y13534.1.f3, y13563.2.1, y13563.2.2.1, y13563.2.2.2, p13538, c13539, p13572, c13573, d13575, ih13565, hx11908, hs.cast [1, 5, 6, 7, 8] (by kernel_rfl), hw.pick [5, 6, 1, 2, 7] (by kernel_rfl), (hle13537.trans hle13566), (h13540.mono hle13566), h13574⟩
      intro a w hh
      obtain ⟨x12728, x12729, x12730, x12731, x12735, x12736, x12737, p12732, c12733, p12738, c12739, d12741, ih12726, hx11908, hs, hw, hle12727, h12734, h12740⟩ := (hJ12801 _ _).1 hh
      refine c_seq ?_
      refine c_region ?_
      refine pures hs 1 [1, 5, 6, 7, 8, 121] [(1, .slice p3 x2.length c4), (5, .pointer (some ⟨b6818, 0, none⟩)), (6, .pointer (some ⟨b6837, 0, none⟩)), (7, .int .i64 x10207), (8, .pointer (some ⟨b11933, 0, none⟩)), (121, .pointer (some ⟨b6837, 1, none⟩))] (by kernel_rfl) fun a hs => ?_
      refine s_load hs (hw.at_ 1 rfl) 1 (by kernel_rfl) (by kernel_rfl) (v := .int .u64 x12729) (by kernel_rfl) fun a hs => ?_
      refine pures hs 2 [1, 5, 6, 7, 8, 123, 124] [(1, .slice p3 x2.length c4), (5, .pointer (some ⟨b6818, 0, none⟩)), (6, .pointer (some ⟨b6837, 0, none⟩)), (7, .int .i64 x10207), (8, .pointer (some ⟨b11933, 0, none⟩)), (123, .int .u64 (IntKind.u64.wrap (x12729 + 1))), (124, .pointer (some ⟨b11933, 9, none⟩))] (by kernel_rfl) fun a hs => ?_
      refine s_load hs (hw.at_ 0 rfl) 9 (by kernel_rfl) (by kernel_rfl) (v := .int .u8 x11926.f3) (by kernel_rfl) fun a hs => ?_
      refine pures hs 4 [1, 5, 6, 7, 8, 17] [(1, .slice p3 x2.length c4), (5, .pointer (some ⟨b6818, 0, none⟩)), (6, .pointer (some ⟨b6837, 0, none⟩)), (7, .int .i64 x10207), (8, .pointer (some ⟨b11933, 0, none⟩)), (17, .int .u64 (IntKind.u64.wrap ((IntKind.u64.wrap (x12729 + 1)) - ((IntKind.u64.wrap (x11926.f3)).tmod 60))))] (by kernel_rfl) fun a hs => ?_
      refine s_end ?_
      refine c_seq ?_
      refine c_region ?_
      refine pures hs 3 [1, 5, 6, 7, 8, 17, 130, 131, 132] [(1, .slice p3 x2.length c4), (5, .pointer (some ⟨b6818, 0, none⟩)), (6, .pointer (some ⟨b6837, 0, none⟩)), (7, .int .i64 x10207), (8, .pointer (some ⟨b11933, 0, none⟩)), (17, .int .u64 (IntKind.u64.wrap ((IntKind.u64.wrap (x12729 + 1)) - ((IntKind.u64.wrap (x11926.f3)).tmod 60)))), (130, .pointer (some ⟨b6818, 0, none⟩)), (131, .int .u64 (IntKind.u64.wrap ((IntKind.u64.wrap (x12729 + 1)) - ((IntKind.u64.wrap (x11926.f3)).tmod 60)))), (132, .pointer (some ⟨b11933, 10, none⟩))] (by kernel_rfl) fun a hs => ?_
      refine s_load hs (hw.at_ 0 rfl) 10 (by kernel_rfl) (by kernel_rfl) (v := .int .i64 x11926.f4) (by kernel_rfl) fun a hs => ?_
      obtain ⟨y12752, h12753, hx11908⟩ := bindE hx11908
      refine s_call hs (by kernel_rfl) (by kernel_rfl) (window_Window_From_s (x4 := x12736) h12753 h12740 ((hw.pick [2, 3, 0, 1, 4] (by kernel_rfl)).pack 2)) fun a w v hv hs => ?_
      obtain ⟨ih12754, p12756, c12757, d12759, rfl, hw, hle12755, h12758⟩ := hv
      replace hw := hw.unpack 3 rfl
      refine pures hs 5 [1, 5, 6, 7, 8, 17, 18, 19] [(1, .slice p3 x2.length c4), (5, .pointer (some ⟨b6818, 0, none⟩)), (6, .pointer (some ⟨b6837, 0, none⟩)), (7, .int .i64 x10207), (8, .pointer (some ⟨b11933, 0, none⟩)), (17, .int .u64 (IntKind.u64.wrap ((IntKind.u64.wrap (x12729 + 1)) - ((IntKind.u64.wrap (x11926.f3)).tmod 60)))), (18, .slice p12756 y12752.1.length c12757), (19, .bool y12752.2)] (by kernel_rfl) fun a hs => ?_
      refine s_end ?_
      refine c_seq ?_
      refine c_region ?_
      refine s_load hs (hw.at_ 4 rfl) 0 (by kernel_rfl) (by kernel_rfl) (v := .agg #[.int .u64 x12728, .int .u64 x12729, .int .u64 x12730, .slice p12732 x12731.length c12733]) (by kernel_rfl) fun a hs => ?_
      refine pures hs 2 [1, 5, 6, 7, 18, 19, 138, 139, 140] [(1, .slice p3 x2.length c4), (5, .pointer (some ⟨b6818, 0, none⟩)), (6, .pointer (some ⟨b6837, 0, none⟩)), (7, .int .i64 x10207), (18, .slice p12756 y12752.1.length c12757), (19, .bool y12752.2), (138, .agg #[.int .u64 x12728, .int .u64 x12729, .int .u64 x12730, .slice p12732 x12731.length c12733]), (139, .int .u64 (IntKind.u64.wrap ((IntKind.u64.wrap (x12729 + 1)) - ((IntKind.u64.wrap (x11926.f3)).tmod 60)))), (140, .pointer (some ⟨b11933, 10, none⟩))] (by kernel_rfl) fun a hs => ?_
      refine s_load hs (hw.at_ 3 rfl) 10 (by kernel_rfl) (by kernel_rfl) (v := .int .i64 x11926.f4) (by kernel_rfl) fun a hs => ?_
      obtain ⟨y12768, h12769, hx11908⟩ := bindE hx11908
      refine s_call hs (by kernel_rfl) (by kernel_rfl) (catenaryref20_From_s h12769 (h12734.mono hle12755) ((hw.pick [0, 1, 2, 4, 5] (by kernel_rfl)).pack 0)) fun a w v hv hs => ?_
      obtain ⟨p12770, c12771, d12773, rfl, hw, h12772⟩ := hv
      replace hw := hw.unpack 1 rfl
      refine pures hs 5 [1, 5, 6, 7, 18, 19, 20, 21] [(1, .slice p3 x2.length c4), (5, .pointer (some ⟨b6818, 0, none⟩)), (6, .pointer (some ⟨b6837, 0, none⟩)), (7, .int .i64 x10207), (18, .slice p12756 y12752.1.length c12757), (19, .bool y12752.2), (20, .slice p12770 y12768.1.length c12771), (21, .bool y12768.2)] (by kernel_rfl) fun a hs => ?_
      refine s_end ?_
      refine c_seq ?_
      obtain ⟨y12789, hx12790, hx11908⟩ := bindE hx11908
      obtain ⟨J12791, hJ12791⟩ : ∃ J : Act → World → Prop, ∀ a w, J a w ↔ (∃ (x12787 : Bool), catenarylaw20_WindowPlays_r124 (catenarylaw20_WindowPlays_l116 k x2 j) x10207 x12728 x12729 x12730 x12731 x12735 x12736 x12737 x12787 = some y11907 ∧ Sees a 161 [(1, .slice p3 x2.length c4), (5, .pointer (some ⟨b6818, 0, none⟩)), (6, .pointer (some ⟨b6837, 0, none⟩)), (7, .int .i64 x10207), (159, .bool x12787)] ∧ St g w [bx b6818 [.int .u64 x12735, .int .u64 x12736, .slice p12738 x12737.length c12739] 78, bx b6837 [.int .u64 x12728, .int .u64 x12729, .int .u64 x12730, .slice p12732 x12731.length c12733] 58, d12741, F] ih12754) := ⟨_, fun _ _ => Iff.rfl⟩
      refine c_regJ J12791 ?_ ?_
      · refine pures hs 1 [1, 5, 6, 7, 18, 19, 20, 21, 145] [(1, .slice p3 x2.length c4), (5, .pointer (some ⟨b6818, 0, none⟩)), (6, .pointer (some ⟨b6837, 0, none⟩)), (7, .int .i64 x10207), (18, .slice p12756 y12752.1.length c12757), (19, .bool y12752.2), (20, .slice p12770 y12768.1.length c12771), (21, .bool y12768.2), (145, .pointer (some ⟨b6818, 0, none⟩))] (by kernel_rfl) fun a hs => ?_
        refine s_load hs (hw.at_ 4 rfl) 0 (by kernel_rfl) (by kernel_rfl) (v := .agg #[.int .u64 x12728, .int .u64 x12729, .int .u64 x12730, .slice p12732 x12731.length c12733]) (by kernel_rfl) fun a hs => ?_
        obtain ⟨y12792, h12793, hx12790⟩ := bindE hx12790
        refine s_call hs (by kernel_rfl) (by kernel_rfl) (catenarylaw20_same_s h12793 (h12740.mono hle12755) (h12734.mono hle12755) ((hw.pick [2, 3, 0, 1, 4, 5] (by kernel_rfl)).pack 2)) fun a w v hv hs => ?_
        obtain ⟨rfl, hw⟩ := hv
        replace hw := hw.unpack 2 rfl
        refine pures hs 2 [1, 5, 6, 7, 18, 19, 20, 21, 149] [(1, .slice p3 x2.length c4), (5, .pointer (some ⟨b6818, 0, none⟩)), (6, .pointer (some ⟨b6837, 0, none⟩)), (7, .int .i64 x10207), (18, .slice p12756 y12752.1.length c12757), (19, .bool y12752.2), (20, .slice p12770 y12768.1.length c12771), (21, .bool y12768.2), (149, .bool (!y12792))] (by kernel_rfl) fun a hs => ?_
        rcases ifbE hx12790 with ⟨h12794, hx12790⟩ | ⟨h12794, hx12790⟩
        · replace hs := hs.altB 149 true (by kernel_rfl) h12794
          refine pures hs 10 [1, 5, 6, 7, 159] [(1, .slice p3 x2.length c4), (5, .pointer (some ⟨b6818, 0, none⟩)), (6, .pointer (some ⟨b6837, 0, none⟩)), (7, .int .i64 x10207), (159, .bool true)] (by kernel_rfl) fun a hs => ?_
          refine s_end ?_
          obtain rfl := someE hx12790
          exact (hJ12791 _ _).2 ⟨true, hx11908, hs.cast [1, 5, 6, 7, 159] (by kernel_rfl), hw.pick [0, 4, 1, 5] (by kernel_rfl)⟩
        replace hs := hs.altB 149 false (by kernel_rfl) h12794
        refine pures hs 2 [1, 5, 6, 7, 19, 21, 149, 150, 151] [(1, .slice p3 x2.length c4), (5, .pointer (some ⟨b6818, 0, none⟩)), (6, .pointer (some ⟨b6837, 0, none⟩)), (7, .int .i64 x10207), (19, .bool y12752.2), (21, .bool y12768.2), (149, .bool false), (150, .slice p12756 y12752.1.length c12757), (151, .slice p12770 y12768.1.length c12771)] (by kernel_rfl) fun a hs => ?_
        obtain ⟨y12795, h12796, hx12790⟩ := bindE hx12790
        refine s_call hs (by kernel_rfl) (by kernel_rfl) (catenaryref10_SameUpdates_s h12796 h12758.read (memF 3 rfl) h12772.read (memF 2 rfl) ((hw.pick [0, 1, 2, 3, 4, 5] (by kernel_rfl)).pack 0)) fun a w v hv hs => ?_
        obtain ⟨rfl, hw⟩ := hv
        replace hw := hw.unpack 0 rfl
        refine pures hs 3 [1, 5, 6, 7, 19, 21, 155] [(1, .slice p3 x2.length c4), (5, .pointer (some ⟨b6818, 0, none⟩)), (6, .pointer (some ⟨b6837, 0, none⟩)), (7, .int .i64 x10207), (19, .bool y12752.2), (21, .bool y12768.2), (155, .bool (!y12795))] (by kernel_rfl) fun a hs => ?_
        rcases ifbE hx12790 with ⟨h12797, hx12790⟩ | ⟨h12797, hx12790⟩
        · replace hs := hs.altB 155 true (by kernel_rfl) h12797
          refine pures hs 4 [1, 5, 6, 7, 159] [(1, .slice p3 x2.length c4), (5, .pointer (some ⟨b6818, 0, none⟩)), (6, .pointer (some ⟨b6837, 0, none⟩)), (7, .int .i64 x10207), (159, .bool true)] (by kernel_rfl) fun a hs => ?_
          refine s_end ?_
          obtain rfl := someE hx12790
          exact (hJ12791 _ _).2 ⟨true, hx11908, hs.cast [1, 5, 6, 7, 159] (by kernel_rfl), hw.pick [0, 4, 1, 5] (by kernel_rfl)⟩
        replace hs := hs.altB 155 false (by kernel_rfl) h12797
        refine pures hs 4 [1, 5, 6, 7, 159] [(1, .slice p3 x2.length c4), (5, .pointer (some ⟨b6818, 0, none⟩)), (6, .pointer (some ⟨b6837, 0, none⟩)), (7, .int .i64 x10207), (159, .bool (!(y12752.2 == y12768.2)))] (by kernel_rfl) fun a hs => ?_
        refine s_end ?_
        obtain rfl := someE hx12790
        exact (hJ12791 _ _).2 ⟨(!(y12752.2 == y12768.2)), hx11908, hs.cast [1, 5, 6, 7, 159] (by kernel_rfl), hw.pick [0, 4, 1, 5] (by kernel_rfl)⟩
      intro a w hh
      obtain ⟨x12787, hx11908, hs, hw⟩ := (hJ12791 _ _).1 hh
      rcases ifbE hx11908 with ⟨h12788, hx11908⟩ | ⟨h12788, hx11908⟩
      · refine c_cond1 hs (by kernel_rfl) (t := x12787) (by kernel_rfl) h12788 ?_
        refine c_seq ?_
        refine c_region ?_
        refine pures hs 1 [4] [(4, .bool false)] (by kernel_rfl) fun a hs => ?_
        refine s_end ?_
        refine c_ret ?_
        obtain rfl := someE hx11908
        obtain rfl := someE hk
        refine hQ _ _ (f_ret1 hs rfl (v := .bool false) (by kernel_rfl) ⟨ih12754, rfl, hw.pick [3] (by kernel_rfl), ((hle10206.trans hle12727).trans hle12755)⟩)
      refine c_cond0 hs (by kernel_rfl) (t := x12787) (by kernel_rfl) h12788 ?_
      refine c_skip ?_
      refine c_region ?_
      refine pures hs 3 [1, 5, 6, 7] [(1, .slice p3 x2.length c4), (5, .pointer (some ⟨b6818, 0, none⟩)), (6, .pointer (some ⟨b6837, 0, none⟩)), (7, .int .i64 (IntKind.i64.wrap (x10207 + 1)))] (by kernel_rfl) fun a hs => ?_
      refine s_end ?_
      exact (hI11910 _ _ _).2 ⟨(IntKind.i64.wrap (x10207 + 1)), x12728, x12729, x12730, x12731, x12735, x12736, x12737, p12732, c12733, p12738, c12739, d12741, ih12754, hx11908, hs.cast [1, 5, 6, 7] (by kernel_rfl), hw.pick [1, 0, 2, 3] (by kernel_rfl), ((hle10206.trans hle12727).trans hle12755), (h12734.mono hle12755), (h12740.mono hle12755)⟩
    refine c_cond0 hs (by kernel_rfl) (t := ((decide (x10207 < (x2.length : Int))) && (decide (x10207 < 40)))) (by kernel_rfl) h11916 ?_
    refine c_exit ?_
    obtain rfl := someE hx11908
    exact (hJ11909 _ _).2 ⟨ih10205, hk, hs.cast [] (by kernel_rfl), hw.pick [3] (by kernel_rfl), hle10206⟩
  intro a w hh
  obtain ⟨ih11897, hk, hs, hw, hle11898⟩ := (hJ11909 _ _).1 hh
  refine c_seq ?_
  refine c_region ?_
  obtain ⟨y11903, h11904, hk⟩ := bindE hk
  refine s_call hs (by kernel_rfl) (by kernel_rfl) (catenarylaw20_awake_s h11904 (hG.mono hle11898) ((hw.pick [0] (by kernel_rfl)).pack 0)) fun a w v hv hs => ?_
  obtain ⟨ih11905, rfl, hw, hle11906⟩ := hv
  replace hw := hw.unpack 0 rfl
  refine pures hs 1 [4] [(4, .bool y11903)] (by kernel_rfl) fun a hs => ?_
  refine s_end ?_
  refine c_ret ?_
  obtain rfl := someE hk
  refine hQ _ _ (f_ret1 hs rfl (v := .bool y11903) (by kernel_rfl) ⟨ih11905, rfl, hw.pick [0] (by kernel_rfl), (hle11898.trans hle11906)⟩)
end Go.Proofs.YtfpllbnljlbepaaGreatDoor.Sx
