/- The walk of BagNil: each Go function that it calls, as a plain function, and the proof that the call computes it. Printed by the program gen.py.
   Conditions: those that each theorem states ahead of its colon, and no other. -/
import Derived.Test.YtfpllbnljlbepaaSx9
import Derived.Test.YtfpllbnljlbepaaProg
namespace Go.Proofs.Ytfpllbnljlbepaa.Sx
open Go Go.Proofs
set_option maxRecDepth 100000
set_option linter.unusedVariables false
structure M102 where
  f0 : Int
  f1 : Int
@[reducible] def e102 : ET := ⟨M102, 2, 102, fun ih x cs => cs = [.int .i64 x.f0, .int .i64 x.f1],
  fun h => by rw [h]; rfl, fun h => by rw [h]; rfl, fun h hle => h⟩
@[reducible] def e3 : ET := eInt .i64 3
theorem appT86 : AppT Try.prog 86 e102 := appT_of (by kernel_rfl)
def bag_Bag_int_Put (x1 : Int) : Option (Int × Int) :=
  some (0, 2)
theorem bag_Bag_int_Put_s {x1 : Int} {r : Int × Int} (hk : bag_Bag_int_Put x1 = some r) {g w : World} {F : Ch} {ih : IH} (hw : St g w [F] ih) :
    CallsR Try.prog 21 #[.pointer none, .int .i64 x1] w fun v w' => v = .tuple #[.int .i64 r.1, .int .i64 r.2] ∧ St g w' [F] ih := by
  refine f_in (vs := [.pointer none, .int .i64 x1]) Try.func21 rfl 46 rfl (by kernel_rfl) [(0, .pointer none), (1, .int .i64 x1)] (by kernel_rfl) fun a Qf hQ hQn hs => ?_
  refine c_seq ?_
  refine c_region ?_
  refine pures hs 2 [0, 1] [(0, .pointer none), (1, .int .i64 x1)] (by kernel_rfl) fun a hs => ?_
  refine s_end ?_
  refine c_seq ?_
  refine c_block ?_
  refine c_seq ?_
  refine c_region ?_
  refine pures hs 3 [0, 1, 6] [(0, .pointer none), (1, .int .i64 x1), (6, .bool true)] (by kernel_rfl) fun a hs => ?_
  refine s_end ?_
  refine c_condT hs (by kernel_rfl) (by kernel_rfl) ?_
  refine c_seq ?_
  refine c_region ?_
  refine pures hs 2 [4, 5] [(4, .int .i64 0), (5, .int .i64 2)] (by kernel_rfl) fun a hs => ?_
  refine s_end ?_
  refine c_ret ?_
  obtain rfl := someE hk
  refine hQ _ _ (f_retN hs [.tmp 4, .tmp 5] rfl [.int .i64 0, .int .i64 2] (by kernel_rfl) (by kernel_rfl) ⟨rfl, hw.pick [0] (by kernel_rfl)⟩)
def bag_Bag_int_Twice (x1 : Int) : Option (Int × Int) :=
  some (0, 2)
theorem bag_Bag_int_Twice_s {x1 : Int} {r : Int × Int} (hk : bag_Bag_int_Twice x1 = some r) {g w : World} {F : Ch} {ih : IH} (hw : St g w [F] ih) :
    CallsR Try.prog 22 #[.pointer none, .int .i64 x1] w fun v w' => v = .tuple #[.int .i64 r.1, .int .i64 r.2] ∧ St g w' [F] ih := by
  refine f_in (vs := [.pointer none, .int .i64 x1]) Try.func22 rfl 26 rfl (by kernel_rfl) [(0, .pointer none), (1, .int .i64 x1)] (by kernel_rfl) fun a Qf hQ hQn hs => ?_
  refine c_seq ?_
  refine c_region ?_
  refine pures hs 2 [0, 1] [(0, .pointer none), (1, .int .i64 x1)] (by kernel_rfl) fun a hs => ?_
  refine s_end ?_
  refine c_seq ?_
  refine c_block ?_
  refine c_seq ?_
  refine c_region ?_
  refine pures hs 3 [0, 1, 6] [(0, .pointer none), (1, .int .i64 x1), (6, .bool true)] (by kernel_rfl) fun a hs => ?_
  refine s_end ?_
  refine c_condT hs (by kernel_rfl) (by kernel_rfl) ?_
  refine c_seq ?_
  refine c_region ?_
  refine pures hs 2 [4, 5] [(4, .int .i64 0), (5, .int .i64 2)] (by kernel_rfl) fun a hs => ?_
  refine s_end ?_
  refine c_ret ?_
  obtain rfl := someE hk
  refine hQ _ _ (f_retN hs [.tmp 4, .tmp 5] rfl [.int .i64 0, .int .i64 2] (by kernel_rfl) (by kernel_rfl) ⟨rfl, hw.pick [0] (by kernel_rfl)⟩)
def bag_Bag_int_has (x1 : Int) : Option Bool :=
  some false
theorem bag_Bag_int_has_s {x1 : Int} {r : Bool} (hk : bag_Bag_int_has x1 = some r) {g w : World} {F : Ch} {ih : IH} (hw : St g w [F] ih) :
    CallsR Try.prog 63 #[.pointer none, .int .i64 x1] w fun v w' => v = .bool r ∧ St g w' [F] ih := by
  refine f_in (vs := [.pointer none, .int .i64 x1]) Try.func63 rfl 20 rfl (by kernel_rfl) [(0, .pointer none), (1, .int .i64 x1)] (by kernel_rfl) fun a Qf hQ hQn hs => ?_
  refine c_seq ?_
  refine c_region ?_
  refine pures hs 1 [0, 1] [(0, .pointer none), (1, .int .i64 x1)] (by kernel_rfl) fun a hs => ?_
  refine s_end ?_
  refine c_seq ?_
  refine c_region ?_
  refine pures hs 16 [4] [(4, .bool false)] (by kernel_rfl) fun a hs => ?_
  refine s_end ?_
  refine c_ret ?_
  obtain rfl := someE hk
  refine hQ _ _ (f_ret1 hs rfl (v := .bool false) (by kernel_rfl) ⟨rfl, hw.pick [0] (by kernel_rfl)⟩)
def bag_Bag_int_At (x1 : Int) : Option (Int × Bool) :=
  (bag_Bag_int_has x1).bind fun y11 =>
  if (!y11) = true then some (0, false)
  else none
theorem bag_Bag_int_At_s {x1 : Int} {r : Int × Bool} (hk : bag_Bag_int_At x1 = some r) {g w : World} {F : Ch} {ih : IH} (hw : St g w [F] ih) :
    CallsR Try.prog 24 #[.pointer none, .int .i64 x1] w fun v w' => v = .tuple #[.int .i64 r.1, .bool r.2] ∧ St g w' [F] ih := by
  refine f_in (vs := [.pointer none, .int .i64 x1]) Try.func24 rfl 20 rfl (by kernel_rfl) [(0, .pointer none), (1, .int .i64 x1)] (by kernel_rfl) fun a Qf hQ hQn hs => ?_
  refine c_seq ?_
  refine c_region ?_
  refine pures hs 2 [0, 1] [(0, .pointer none), (1, .int .i64 x1)] (by kernel_rfl) fun a hs => ?_
  refine s_end ?_
  refine c_seq ?_
  refine c_seq ?_
  refine c_region ?_
  refine pures hs 2 [0, 1, 7, 8] [(0, .pointer none), (1, .int .i64 x1), (7, .pointer none), (8, .int .i64 x1)] (by kernel_rfl) fun a hs => ?_
  obtain ⟨y11, h12, hk⟩ := bindE hk
  refine s_call hs (by kernel_rfl) (by kernel_rfl) (bag_Bag_int_has_s h12 ((hw.pick [0] (by kernel_rfl)).pack 0)) fun a w v hv hs => ?_
  obtain ⟨rfl, hw⟩ := hv
  replace hw := hw.unpack 0 rfl
  refine pures hs 1 [0, 1, 10] [(0, .pointer none), (1, .int .i64 x1), (10, .bool (!y11))] (by kernel_rfl) fun a hs => ?_
  refine s_end ?_
  rcases ifbE hk with ⟨h13, hk⟩ | ⟨h13, hk⟩
  · refine c_cond1 hs (by kernel_rfl) (t := (!y11)) (by kernel_rfl) h13 ?_
    refine c_seq ?_
    refine c_region ?_
    refine pures hs 1 [6] [(6, .int .i64 0)] (by kernel_rfl) fun a hs => ?_
    refine s_end ?_
    refine c_seq ?_
    refine c_region ?_
    refine pures hs 3 [4, 5] [(4, .int .i64 0), (5, .bool false)] (by kernel_rfl) fun a hs => ?_
    refine s_end ?_
    refine c_ret ?_
    obtain rfl := someE hk
    refine hQ _ _ (f_retN hs [.tmp 4, .tmp 5] rfl [.int .i64 0, .bool false] (by kernel_rfl) (by kernel_rfl) ⟨rfl, hw.pick [0] (by kernel_rfl)⟩)
  · refine c_cond0 hs (by kernel_rfl) (t := (!y11)) (by kernel_rfl) h13 ?_
    refine c_skip ?_
    refine c_seq ?_
    refine c_region ?_
    cases hk
def bag_Bag_int_Take_r2 (y16 : Int × Bool) : Option (Int × Bool) :=
  some (y16.1, y16.2)
def bag_Bag_int_Take (x1 : Int) : Option (Int × Bool) :=
  (bag_Bag_int_At x1).bind fun y16 =>
  (if y16.2 = true then none
    else some () : Option Unit).bind fun _ => bag_Bag_int_Take_r2 y16
theorem bag_Bag_int_Take_s {x1 : Int} {r : Int × Bool} (hk : bag_Bag_int_Take x1 = some r) {g w : World} {F : Ch} {ih : IH} (hw : St g w [F] ih) :
    CallsR Try.prog 23 #[.pointer none, .int .i64 x1] w fun v w' => v = .tuple #[.int .i64 r.1, .bool r.2] ∧ St g w' [F] ih := by
  refine f_in (vs := [.pointer none, .int .i64 x1]) Try.func23 rfl 28 rfl (by kernel_rfl) [(0, .pointer none), (1, .int .i64 x1)] (by kernel_rfl) fun a Qf hQ hQn hs => ?_
  refine c_seq ?_
  refine c_region ?_
  refine pures hs 2 [0, 1] [(0, .pointer none), (1, .int .i64 x1)] (by kernel_rfl) fun a hs => ?_
  refine s_end ?_
  refine c_seq ?_
  refine c_region ?_
  refine pures hs 2 [0, 1, 9, 10] [(0, .pointer none), (1, .int .i64 x1), (9, .pointer none), (10, .int .i64 x1)] (by kernel_rfl) fun a hs => ?_
  obtain ⟨y16, h17, hk⟩ := bindE hk
  refine s_call hs (by kernel_rfl) (by kernel_rfl) (bag_Bag_int_At_s h17 ((hw.pick [0] (by kernel_rfl)).pack 0)) fun a w v hv hs => ?_
  obtain ⟨rfl, hw⟩ := hv
  replace hw := hw.unpack 0 rfl
  refine pures hs 5 [0, 1, 6, 7] [(0, .pointer none), (1, .int .i64 x1), (6, .int .i64 y16.1), (7, .bool y16.2)] (by kernel_rfl) fun a hs => ?_
  refine s_end ?_
  obtain ⟨y19, hx20, hk⟩ := bindE hk
  obtain ⟨J21, hJ21⟩ : ∃ J : Act → World → Prop, ∀ a w, J a w ↔ (bag_Bag_int_Take_r2 y16 = some r ∧ Sees a 28 [(6, .int .i64 y16.1), (7, .bool y16.2)] ∧ St g w [F] ih) := ⟨_, fun _ _ => Iff.rfl⟩
  refine c_seqJ J21 ?_ ?_
  · refine c_seq ?_
    refine c_region ?_
    refine pures hs 1 [0, 1, 6, 7, 14] [(0, .pointer none), (1, .int .i64 x1), (6, .int .i64 y16.1), (7, .bool y16.2), (14, .bool y16.2)] (by kernel_rfl) fun a hs => ?_
    refine s_end ?_
    rcases ifbE hx20 with ⟨h22, hx20⟩ | ⟨h22, hx20⟩
    · refine c_cond1 hs (by kernel_rfl) (t := y16.2) (by kernel_rfl) h22 ?_
      refine c_region ?_
      cases hx20
    · refine c_cond0 hs (by kernel_rfl) (t := y16.2) (by kernel_rfl) h22 ?_
      refine c_skip ?_
      obtain rfl := someE hx20
      exact (hJ21 _ _).2 ⟨hk, hs.cast [6, 7] (by kernel_rfl), hw.pick [0] (by kernel_rfl)⟩
  · intro a w hh
    obtain ⟨hk, hs, hw⟩ := (hJ21 _ _).1 hh
    refine c_seq ?_
    refine c_region ?_
    refine pures hs 4 [4, 5] [(4, .int .i64 y16.1), (5, .bool y16.2)] (by kernel_rfl) fun a hs => ?_
    refine s_end ?_
    refine c_ret ?_
    obtain rfl := someE hk
    refine hQ _ _ (f_retN hs [.tmp 4, .tmp 5] rfl [.int .i64 y16.1, .bool y16.2] (by kernel_rfl) (by kernel_rfl) ⟨rfl, hw.pick [0] (by kernel_rfl)⟩)
def bag_Bag_int_All : Option Unit :=
  some ()
theorem bag_Bag_int_All_s {r : Unit} (hk : bag_Bag_int_All = some r) {g w : World} {F : Ch} {ih : IH} (hw : St g w [F] ih) :
    CallsR Try.prog 25 #[.pointer none] w fun v w' => ∃ (b11 : Nat), v = .func (.func 65) #[] #[.pointer (some ⟨b11, 0, none⟩)] ∧ St g w' [bx b11 [.pointer none] 37, F] ih := by
  refine f_in (vs := [.pointer none]) Try.func25 rfl 4 rfl (by kernel_rfl) [(0, .pointer none)] (by kernel_rfl) fun a Qf hQ hQn hs => ?_
  refine c_seq ?_
  refine c_region ?_
  refine s_new hs hw [.pointer none] 37 (fun b => .pointer (some ⟨b, 0, none⟩)) (by kernel_rfl) (fun _ => by kernel_rfl) fun a w b9 hs hw => ?_
  refine pures hs 1 [1] [(1, .pointer (some ⟨b9, 0, none⟩))] (by kernel_rfl) fun a hs => ?_
  refine s_end ?_
  refine c_seq ?_
  refine c_region ?_
  refine pures hs 2 [2] [(2, .func (.func 65) #[] #[.pointer (some ⟨b9, 0, none⟩)])] (by kernel_rfl) fun a hs => ?_
  refine s_end ?_
  refine c_ret ?_
  obtain rfl := someE hk
  refine hQ _ _ (f_ret1 hs rfl (v := .func (.func 65) #[] #[.pointer (some ⟨b9, 0, none⟩)]) (by kernel_rfl) ⟨b9, rfl, hw.pick [0, 1] (by kernel_rfl)⟩)
def catenarylaw06_BagNil_round (x50001 : Int) (x50002 : Int) (x50005 : Bool) : Option (Bool × Bool × Int) :=
  some (false, false, 1)
def catenarylaw06_BagNil_round_C (n50007 : Nat) (q50008 : Lp) (b50004 : Nat) : Prop := ∀ {x50001 : Int} {x50002 : Int} {x50005 : Bool} {r : Bool × Bool × Int}, catenarylaw06_BagNil_round x50001 x50002 x50005 = some r → ∀ {g w : World} {F : Ch} {ih : IH}, St g w [bx b50004 [.bool x50005] 4, lpo n50007 q50008 [.ret] 0, F] ih →
    RoundR Try.prog n50007 q50008 #[.int .i64 x50001, .int .i64 x50002] w fun v w' => v = .bool r.1 ∧ St g w' [bx b50004 [.bool r.2.1] 4, lpo n50007 q50008 [.ret] r.2.2, F] ih
def bag_Bag_int_All_1 (x3 : Bool) (x7 : Int) : Option Unit :=
  some ()
theorem bag_Bag_int_All_1_s {x3 : Bool} {x7 : Int} {b2 : Nat} {n5 : Nat} {q6 : Lp} {b10 : Nat} {r : Unit} (hk : bag_Bag_int_All_1 x3 x7 = some r) {g w : World} {F : Ch} {ih : IH} (h8 : catenarylaw06_BagNil_round_C n5 q6 b2) (hw : St g w [bx b2 [.bool x3] 4, lpo n5 q6 [.ret] x7, bx b10 [.pointer none] 37, F] ih) :
    CallsR Try.prog 65 #[.func (.yield n5) #[] #[], .pointer (some ⟨b10, 0, none⟩)] w fun v w' => v = .tuple #[] ∧ St g w' [bx b2 [.bool x3] 4, lpo n5 q6 [.ret] x7, bx b10 [.pointer none] 37, F] ih := by
  refine f_in (vs := [.func (.yield n5) #[] #[], .pointer (some ⟨b10, 0, none⟩)]) Try.func65 rfl 25 rfl (by kernel_rfl) [(0, .func (.yield n5) #[] #[]), (1, .pointer (some ⟨b10, 0, none⟩))] (by kernel_rfl) fun a Qf hQ hQn hs => ?_
  refine c_seq ?_
  refine c_seq ?_
  refine c_region ?_
  refine s_load hs (hw.at_ 2 rfl) 0 (by kernel_rfl) (by kernel_rfl) (v := .pointer none) (by kernel_rfl) fun a hs => ?_
  refine pures hs 1 [0, 1, 6] [(0, .func (.yield n5) #[] #[]), (1, .pointer (some ⟨b10, 0, none⟩)), (6, .bool true)] (by kernel_rfl) fun a hs => ?_
  refine s_end ?_
  refine c_condT hs (by kernel_rfl) (by kernel_rfl) ?_
  refine c_ret ?_
  obtain rfl := someE hk
  refine hQ _ _ (f_retN hs [] rfl [] (by kernel_rfl) (by kernel_rfl) ⟨rfl, hw.pick [0, 1, 2, 3] (by kernel_rfl)⟩)
def bag_Bag_int_Set (x1 : Int) (x2 : Int) : Option Bool :=
  (bag_Bag_int_has x1).bind fun y12 =>
  if (!y12) = true then some false
  else none
theorem bag_Bag_int_Set_s {x1 : Int} {x2 : Int} {r : Bool} (hk : bag_Bag_int_Set x1 x2 = some r) {g w : World} {F : Ch} {ih : IH} (hw : St g w [F] ih) :
    CallsR Try.prog 26 #[.pointer none, .int .i64 x1, .int .i64 x2] w fun v w' => v = .bool r ∧ St g w' [F] ih := by
  refine f_in (vs := [.pointer none, .int .i64 x1, .int .i64 x2]) Try.func26 rfl 19 rfl (by kernel_rfl) [(0, .pointer none), (1, .int .i64 x1), (2, .int .i64 x2)] (by kernel_rfl) fun a Qf hQ hQn hs => ?_
  refine c_seq ?_
  refine c_region ?_
  refine pures hs 1 [0, 1, 2] [(0, .pointer none), (1, .int .i64 x1), (2, .int .i64 x2)] (by kernel_rfl) fun a hs => ?_
  refine s_end ?_
  refine c_seq ?_
  refine c_seq ?_
  refine c_region ?_
  refine pures hs 2 [0, 1, 2, 7, 8] [(0, .pointer none), (1, .int .i64 x1), (2, .int .i64 x2), (7, .pointer none), (8, .int .i64 x1)] (by kernel_rfl) fun a hs => ?_
  obtain ⟨y12, h13, hk⟩ := bindE hk
  refine s_call hs (by kernel_rfl) (by kernel_rfl) (bag_Bag_int_has_s h13 ((hw.pick [0] (by kernel_rfl)).pack 0)) fun a w v hv hs => ?_
  obtain ⟨rfl, hw⟩ := hv
  replace hw := hw.unpack 0 rfl
  refine pures hs 1 [0, 1, 2, 10] [(0, .pointer none), (1, .int .i64 x1), (2, .int .i64 x2), (10, .bool (!y12))] (by kernel_rfl) fun a hs => ?_
  refine s_end ?_
  rcases ifbE hk with ⟨h14, hk⟩ | ⟨h14, hk⟩
  · refine c_cond1 hs (by kernel_rfl) (t := (!y12)) (by kernel_rfl) h14 ?_
    refine c_seq ?_
    refine c_region ?_
    refine pures hs 1 [6] [(6, .bool false)] (by kernel_rfl) fun a hs => ?_
    refine s_end ?_
    refine c_ret ?_
    obtain rfl := someE hk
    refine hQ _ _ (f_ret1 hs rfl (v := .bool false) (by kernel_rfl) ⟨rfl, hw.pick [0] (by kernel_rfl)⟩)
  · refine c_cond0 hs (by kernel_rfl) (t := (!y12)) (by kernel_rfl) h14 ?_
    refine c_skip ?_
    refine c_seq ?_
    refine c_region ?_
    cases hk
def bag_Bag_int_No (x1 : Int) : Option Int :=
  (bag_Bag_int_has x1).bind fun y11 =>
  if (!y11) = true then some 0
  else none
theorem bag_Bag_int_No_s {x1 : Int} {r : Int} (hk : bag_Bag_int_No x1 = some r) {g w : World} {F : Ch} {ih : IH} (hw : St g w [F] ih) :
    CallsR Try.prog 27 #[.pointer none, .int .i64 x1] w fun v w' => v = .int .i64 r ∧ St g w' [F] ih := by
  refine f_in (vs := [.pointer none, .int .i64 x1]) Try.func27 rfl 17 rfl (by kernel_rfl) [(0, .pointer none), (1, .int .i64 x1)] (by kernel_rfl) fun a Qf hQ hQn hs => ?_
  refine c_seq ?_
  refine c_region ?_
  refine pures hs 1 [0, 1] [(0, .pointer none), (1, .int .i64 x1)] (by kernel_rfl) fun a hs => ?_
  refine s_end ?_
  refine c_seq ?_
  refine c_seq ?_
  refine c_region ?_
  refine pures hs 2 [0, 1, 5, 6] [(0, .pointer none), (1, .int .i64 x1), (5, .pointer none), (6, .int .i64 x1)] (by kernel_rfl) fun a hs => ?_
  obtain ⟨y11, h12, hk⟩ := bindE hk
  refine s_call hs (by kernel_rfl) (by kernel_rfl) (bag_Bag_int_has_s h12 ((hw.pick [0] (by kernel_rfl)).pack 0)) fun a w v hv hs => ?_
  obtain ⟨rfl, hw⟩ := hv
  replace hw := hw.unpack 0 rfl
  refine pures hs 1 [0, 1, 8] [(0, .pointer none), (1, .int .i64 x1), (8, .bool (!y11))] (by kernel_rfl) fun a hs => ?_
  refine s_end ?_
  rcases ifbE hk with ⟨h13, hk⟩ | ⟨h13, hk⟩
  · refine c_cond1 hs (by kernel_rfl) (t := (!y11)) (by kernel_rfl) h13 ?_
    refine c_seq ?_
    refine c_region ?_
    refine pures hs 1 [4] [(4, .int .i64 0)] (by kernel_rfl) fun a hs => ?_
    refine s_end ?_
    refine c_ret ?_
    obtain rfl := someE hk
    refine hQ _ _ (f_ret1 hs rfl (v := .int .i64 0) (by kernel_rfl) ⟨rfl, hw.pick [0] (by kernel_rfl)⟩)
  · refine c_cond0 hs (by kernel_rfl) (t := (!y11)) (by kernel_rfl) h13 ?_
    refine c_skip ?_
    refine c_seq ?_
    refine c_region ?_
    cases hk
def bag_Bag_int_Len : Option Int :=
  some 0
theorem bag_Bag_int_Len_s {r : Int} (hk : bag_Bag_int_Len = some r) {g w : World} {F : Ch} {ih : IH} (hw : St g w [F] ih) :
    CallsR Try.prog 28 #[.pointer none] w fun v w' => v = .int .i64 r ∧ St g w' [F] ih := by
  refine f_in (vs := [.pointer none]) Try.func28 rfl 10 rfl (by kernel_rfl) [(0, .pointer none)] (by kernel_rfl) fun a Qf hQ hQn hs => ?_
  refine c_seq ?_
  refine c_region ?_
  refine pures hs 1 [0] [(0, .pointer none)] (by kernel_rfl) fun a hs => ?_
  refine s_end ?_
  refine c_seq ?_
  refine c_seq ?_
  refine c_region ?_
  refine pures hs 2 [0, 4] [(0, .pointer none), (4, .bool true)] (by kernel_rfl) fun a hs => ?_
  refine s_end ?_
  refine c_condT hs (by kernel_rfl) (by kernel_rfl) ?_
  refine c_seq ?_
  refine c_region ?_
  refine pures hs 1 [2] [(2, .int .i64 0)] (by kernel_rfl) fun a hs => ?_
  refine s_end ?_
  refine c_ret ?_
  obtain rfl := someE hk
  refine hQ _ _ (f_ret1 hs rfl (v := .int .i64 0) (by kernel_rfl) ⟨rfl, hw.pick [0] (by kernel_rfl)⟩)
def bag_Bag_int_Upto (x1 : Int) : Option Int :=
  some 0
theorem bag_Bag_int_Upto_s {x1 : Int} {r : Int} (hk : bag_Bag_int_Upto x1 = some r) {g w : World} {F : Ch} {ih : IH} (hw : St g w [F] ih) :
    CallsR Try.prog 29 #[.pointer none, .int .i64 x1] w fun v w' => v = .int .i64 r ∧ St g w' [F] ih := by
  refine f_in (vs := [.pointer none, .int .i64 x1]) Try.func29 rfl 22 rfl (by kernel_rfl) [(0, .pointer none), (1, .int .i64 x1)] (by kernel_rfl) fun a Qf hQ hQn hs => ?_
  refine c_seq ?_
  refine c_region ?_
  refine pures hs 1 [0, 1] [(0, .pointer none), (1, .int .i64 x1)] (by kernel_rfl) fun a hs => ?_
  refine s_end ?_
  refine c_seq ?_
  refine c_seq ?_
  refine c_region ?_
  refine pures hs 2 [0, 1, 8] [(0, .pointer none), (1, .int .i64 x1), (8, .bool true)] (by kernel_rfl) fun a hs => ?_
  refine s_end ?_
  refine c_condT hs (by kernel_rfl) (by kernel_rfl) ?_
  refine c_seq ?_
  refine c_region ?_
  refine pures hs 1 [4] [(4, .int .i64 0)] (by kernel_rfl) fun a hs => ?_
  refine s_end ?_
  refine c_ret ?_
  obtain rfl := someE hk
  refine hQ _ _ (f_ret1 hs rfl (v := .int .i64 0) (by kernel_rfl) ⟨rfl, hw.pick [0] (by kernel_rfl)⟩)
def bag_Bag_int_Keep : Option Int :=
  some 0
theorem bag_Bag_int_Keep_s {r : Int} (hk : bag_Bag_int_Keep = some r) {g w : World} {F : Ch} {ih : IH} (hw : St g w [F] ih) :
    CallsR Try.prog 30 #[.pointer none, .func (.func 31) #[] #[]] w fun v w' => v = .int .i64 r ∧ St g w' [F] ih := by
  refine f_inM (vs := [.pointer none, .func (.func 31) #[] #[]]) Try.func30 rfl 38 rfl (by kernel_rfl) [(0, .pointer none), (1, .func (.func 31) #[] #[])] (by kernel_rfl) fun a Qf hQ hQn hs => ?_
  refine c_seq ?_
  refine c_region ?_
  refine s_new hs hw [.func (.func 31) #[] #[]] 56 (fun b => .pointer (some ⟨b, 0, none⟩)) (by kernel_rfl) (fun _ => by kernel_rfl) fun a w b9 hs hw => ?_
  refine pures hs 1 [0, 3] [(0, .pointer none), (3, .pointer (some ⟨b9, 0, none⟩))] (by kernel_rfl) fun a hs => ?_
  refine s_end ?_
  refine c_seq ?_
  refine c_seq ?_
  refine c_region ?_
  refine pures hs 2 [0, 3, 10] [(0, .pointer none), (3, .pointer (some ⟨b9, 0, none⟩)), (10, .bool true)] (by kernel_rfl) fun a hs => ?_
  refine s_end ?_
  refine c_condT hs (by kernel_rfl) (by kernel_rfl) ?_
  refine c_seq ?_
  refine c_region ?_
  refine pures hs 1 [4] [(4, .int .i64 0)] (by kernel_rfl) fun a hs => ?_
  refine s_end ?_
  refine c_ret ?_
  obtain rfl := someE hk
  refine hQ _ _ (f_ret0 hs (f_ret1 hs rfl (v := .int .i64 0) (by kernel_rfl) ⟨rfl, hw.pick [1] (by kernel_rfl)⟩))
def bag_Bag_int_Last : Option Int :=
  some 0
theorem bag_Bag_int_Last_s {r : Int} (hk : bag_Bag_int_Last = some r) {g w : World} {F : Ch} {ih : IH} (hw : St g w [F] ih) :
    CallsR Try.prog 32 #[.pointer none] w fun v w' => v = .int .i64 r ∧ St g w' [F] ih := by
  refine f_in (vs := [.pointer none]) Try.func32 rfl 9 rfl (by kernel_rfl) [(0, .pointer none)] (by kernel_rfl) fun a Qf hQ hQn hs => ?_
  refine c_seq ?_
  refine c_region ?_
  refine pures hs 1 [0] [(0, .pointer none)] (by kernel_rfl) fun a hs => ?_
  refine s_end ?_
  refine c_seq ?_
  refine c_seq ?_
  refine c_region ?_
  refine pures hs 2 [0, 4] [(0, .pointer none), (4, .bool true)] (by kernel_rfl) fun a hs => ?_
  refine s_end ?_
  refine c_condT hs (by kernel_rfl) (by kernel_rfl) ?_
  refine c_seq ?_
  refine c_region ?_
  refine pures hs 1 [2] [(2, .int .i64 0)] (by kernel_rfl) fun a hs => ?_
  refine s_end ?_
  refine c_ret ?_
  obtain rfl := someE hk
  refine hQ _ _ (f_ret1 hs rfl (v := .int .i64 0) (by kernel_rfl) ⟨rfl, hw.pick [0] (by kernel_rfl)⟩)
def bag_New_int (x1 : Int) : Option (Int × Int × (List M102)) :=
  some ((if 0 > x1 then 0 else x1), 0, [])
theorem bag_New_int_s {x1 : Int} {r : Int × Int × (List M102)} (hk : bag_New_int x1 = some r) {g w : World} {F : Ch} {ih : IH} (hw : St g w [F] ih) :
    CallsR Try.prog 17 #[.int .i64 x1] w fun v w' => ∃ (b14 : Nat) (p16 : Option Addr) (c17 : Nat) (d19 : Ch), v = .pointer (some ⟨b14, 0, none⟩) ∧ St g w' [bx b14 [.int .i64 r.1, .int .i64 r.2.1, .slice p16 r.2.2.length c17] 88, d19, F] ih ∧ OSl e102 ih p16 c17 r.2.2 d19 := by
  refine f_in (vs := [.int .i64 x1]) Try.func17 rfl 7 rfl (by kernel_rfl) [(0, .int .i64 x1)] (by kernel_rfl) fun a Qf hQ hQn hs => ?_
  refine c_seq ?_
  refine c_region ?_
  refine pures hs 1 [0] [(0, .int .i64 x1)] (by kernel_rfl) fun a hs => ?_
  refine s_end ?_
  refine c_seq ?_
  refine c_region ?_
  refine pures hs 3 [5] [(5, .agg #[.int .i64 (if 0 > x1 then 0 else x1), .int .i64 0, .slice none 0 0])] (by kernel_rfl) fun a hs => ?_
  refine s_new hs hw [.int .i64 (if 0 > x1 then 0 else x1), .int .i64 0, .slice none 0 0] 88 (fun b => .pointer (some ⟨b, 0, none⟩)) (by kernel_rfl) (fun _ => by kernel_rfl) fun a w b10 hs hw => ?_
  refine pures hs 1 [2] [(2, .pointer (some ⟨b10, 0, none⟩))] (by kernel_rfl) fun a hs => ?_
  refine s_end ?_
  refine c_ret ?_
  replace hw := hw.nil
  obtain rfl := someE hk
  refine hQ _ _ (f_ret1 hs rfl (v := .pointer (some ⟨b10, 0, none⟩)) (by kernel_rfl) ⟨b10, none, 0, ([]), rfl, hw.pick [1, 0, 2] (by kernel_rfl), (OSl.nil _ _)⟩)
def bag_Bag_int_Put_2_r3 (x4 : Int) (x74 : List M102) : Option (Int × Int × Int × (List M102)) :=
  some (IntKind.i64.wrap (x4 + 1), 0, IntKind.i64.wrap (x4 + 1), x74)
def bag_Bag_int_Put_2_r4 (x5 : List M102) (x3 : Int) (x4 : Int) (x11 : Int) : Option (Int × Int × Int × (List M102)) :=
  if (decide ((x5.length : Int) ≥ x3)) = true then some (0, 9, x4, x5)
  else ((app x5 [(M102.mk (IntKind.i64.wrap (x4 + 1)) x11)]).bind fun x85 =>
    some x85 : Option (List M102)).bind fun s91 => bag_Bag_int_Put_2_r3 x4 s91
def bag_Bag_int_Put_2 (x3 : Int) (x4 : Int) (x5 : List M102) (x11 : Int) : Option (Int × Int × Int × (List M102)) :=
  (some () : Option Unit).bind fun _ => bag_Bag_int_Put_2_r4 x5 x3 x4 x11
theorem bag_Bag_int_Put_2_s {x3 : Int} {x4 : Int} {x5 : List M102} {x11 : Int} {b2 : Nat} {p6 : Option Addr} {c7 : Nat} {d9 : Ch} {r : Int × Int × Int × (List M102)} (hk : bag_Bag_int_Put_2 x3 x4 x5 x11 = some r) {g w : World} {F : Ch} {ih : IH} (h8 : OSl e102 ih p6 c7 x5 d9) (hw : St g w [bx b2 [.int .i64 x3, .int .i64 x4, .slice p6 x5.length c7] 88, d9, F] ih) :
    CallsR Try.prog 21 #[.pointer (some ⟨b2, 0, none⟩), .int .i64 x11] w fun v w' => ∃ (p96 : Option Addr) (c97 : Nat) (d98 : Ch), v = .tuple #[.int .i64 r.1, .int .i64 r.2.1] ∧ St g w' [bx b2 [.int .i64 x3, .int .i64 r.2.2.1, .slice p96 r.2.2.2.length c97] 88, d98, F] ih ∧ OSl e102 ih p96 c97 r.2.2.2 d98 := by
  refine f_in (vs := [.pointer (some ⟨b2, 0, none⟩), .int .i64 x11]) Try.func21 rfl 46 rfl (by kernel_rfl) [(0, .pointer (some ⟨b2, 0, none⟩)), (1, .int .i64 x11)] (by kernel_rfl) fun a Qf hQ hQn hs => ?_
  refine c_seq ?_
  refine c_region ?_
  refine pures hs 2 [0, 1] [(0, .pointer (some ⟨b2, 0, none⟩)), (1, .int .i64 x11)] (by kernel_rfl) fun a hs => ?_
  refine s_end ?_
  refine c_seq ?_
  refine c_block ?_
  refine c_seq ?_
  refine c_region ?_
  refine pures hs 3 [0, 1, 6] [(0, .pointer (some ⟨b2, 0, none⟩)), (1, .int .i64 x11), (6, .bool false)] (by kernel_rfl) fun a hs => ?_
  refine s_end ?_
  refine c_condF hs (by kernel_rfl) (by kernel_rfl) ?_
  refine c_seq ?_
  obtain ⟨S55, hS55, kS55⟩ := mkSX (X := [([], bx b2 [.int .i64 x3, .int .i64 x4, .slice p6 x5.length c7] 88), ([], d9), ([], F)]) (ih := ih) (K := []) rfl
  obtain ⟨y92, hx93, hk⟩ := bindE hk
  obtain ⟨J94, hJ94⟩ : ∃ J : Act → World → Prop, ∀ a w, J a w ↔ (bag_Bag_int_Put_2_r4 x5 x3 x4 x11 = some r ∧ Sees a 46 [(0, .pointer (some ⟨b2, 0, none⟩)), (1, .int .i64 x11), (9, .bool (decide ((x5.length : Int) ≥ x3)))] ∧ St g w [bx b2 [.int .i64 x3, .int .i64 x4, .slice p6 x5.length c7] 88, d9, F] ih) := ⟨_, fun _ _ => Iff.rfl⟩
  refine c_draw (by kernel_rfl) (N := 11) rfl S55 J94 ?_ ?_
  · have hw := hw.drew
    have hS : S55 (Array.replicate 11 false) _ := SX_now hS55 (hw.vws [0, 1, 2]) (by kernel_rfl)
    refine d_pures (fuel := 8) kS55 hs hS [0, 1, 2] [0, 1, 10, 11, 12] [(0, .pointer (some ⟨b2, 0, none⟩)), (1, .int .i64 x11), (10, .pointer (some ⟨b2, 0, none⟩)), (11, .pointer (some ⟨b2, 0, none⟩)), (12, .pointer (some ⟨b2, 2, none⟩))] (by kernel_rfl) fun a hs hS => ?_
    refine d_load (fuel := 7) kS55 hs hS 3 rfl (by kernel_rfl) (SX_box hS55 0 rfl (by kernel_rfl)) 2 (by kernel_rfl) (by kernel_rfl) (v := .slice p6 x5.length c7) (by kernel_rfl) fun a hs hS => ?_
    refine d_pures (fuel := 3) kS55 hs hS [4, 5, 6, 7] [0, 1, 10, 11, 12, 13, 14, 15, 16, 17] [(0, .pointer (some ⟨b2, 0, none⟩)), (1, .int .i64 x11), (10, .pointer (some ⟨b2, 0, none⟩)), (11, .pointer (some ⟨b2, 0, none⟩)), (12, .pointer (some ⟨b2, 2, none⟩)), (13, .slice p6 x5.length c7), (14, .int .i64 (x5.length : Int)), (15, .pointer (some ⟨b2, 0, none⟩)), (16, .pointer (some ⟨b2, 0, none⟩)), (17, .pointer (some ⟨b2, 0, none⟩))] (by kernel_rfl) fun a hs hS => ?_
    refine d_load (fuel := 2) kS55 hs hS 8 rfl (by kernel_rfl) (SX_box hS55 0 rfl (by kernel_rfl)) 0 (by kernel_rfl) (by kernel_rfl) (v := .int .i64 x3) (by kernel_rfl) fun a hs hS => ?_
    refine d_pures (fuel := 0) kS55 hs hS [9, 10] [0, 1, 10, 11, 12, 13, 14, 15, 16, 17, 18, 19, 9] [(0, .pointer (some ⟨b2, 0, none⟩)), (1, .int .i64 x11), (10, .pointer (some ⟨b2, 0, none⟩)), (11, .pointer (some ⟨b2, 0, none⟩)), (12, .pointer (some ⟨b2, 2, none⟩)), (13, .slice p6 x5.length c7), (14, .int .i64 (x5.length : Int)), (15, .pointer (some ⟨b2, 0, none⟩)), (16, .pointer (some ⟨b2, 0, none⟩)), (17, .pointer (some ⟨b2, 0, none⟩)), (18, .int .i64 x3), (19, .bool (decide ((x5.length : Int) ≥ x3))), (9, .bool (decide ((x5.length : Int) ≥ x3)))] (by kernel_rfl) fun a hs hS => ?_
    refine d_done (by kernel_rfl) ?_
    obtain rfl := someE hx93
    exact (hJ94 _ _).2 ⟨hk, hs.cast [0, 1, 9] (by kernel_rfl), hw.pick [0, 1, 2] (by kernel_rfl)⟩
  · intro a w hh
    obtain ⟨hk, hs, hw⟩ := (hJ94 _ _).1 hh
    rcases ifbE hk with ⟨h56, hk⟩ | ⟨h56, hk⟩
    · refine c_cond1 hs (by kernel_rfl) (t := (decide ((x5.length : Int) ≥ x3))) (by kernel_rfl) h56 ?_
      refine c_seq ?_
      refine c_region ?_
      refine pures hs 2 [4, 5] [(4, .int .i64 0), (5, .int .i64 9)] (by kernel_rfl) fun a hs => ?_
      refine s_end ?_
      refine c_ret ?_
      obtain rfl := someE hk
      refine hQ _ _ (f_retN hs [.tmp 4, .tmp 5] rfl [.int .i64 0, .int .i64 9] (by kernel_rfl) (by kernel_rfl) ⟨p6, c7, d9, rfl, hw.pick [0, 1, 2] (by kernel_rfl), h8⟩)
    · refine c_cond0 hs (by kernel_rfl) (t := (decide ((x5.length : Int) ≥ x3))) (by kernel_rfl) h56 ?_
      refine c_skip ?_
      refine c_seq ?_
      refine c_region ?_
      refine pures hs 3 [0, 1, 20, 22] [(0, .pointer (some ⟨b2, 0, none⟩)), (1, .int .i64 x11), (20, .pointer (some ⟨b2, 0, none⟩)), (22, .pointer (some ⟨b2, 1, none⟩))] (by kernel_rfl) fun a hs => ?_
      refine s_load hs (hw.at_ 0 rfl) 1 (by kernel_rfl) (by kernel_rfl) (v := .int .i64 x4) (by kernel_rfl) fun a hs => ?_
      refine pures hs 3 [0, 1, 24, 26] [(0, .pointer (some ⟨b2, 0, none⟩)), (1, .int .i64 x11), (24, .int .i64 (IntKind.i64.wrap (x4 + 1))), (26, .pointer (some ⟨b2, 1, none⟩))] (by kernel_rfl) fun a hs => ?_
      refine s_store hs hw 0 rfl 1 (by kernel_rfl) (by kernel_rfl) (v := .int .i64 (IntKind.i64.wrap (x4 + 1))) (by kernel_rfl) (by kernel_rfl) (by kernel_rfl) (by kernel_rfl) fun a w hs hw => ?_
      refine s_end ?_
      refine c_seq ?_
      obtain ⟨S57, hS57, kS57⟩ := mkSX (X := [([12, 15], bx b2 [.int .i64 x3, .int .i64 (IntKind.i64.wrap (x4 + 1)), .slice p6 x5.length c7] 88), ([12], d9), ([], F)]) (ih := ih) (K := [12, 15, 12]) rfl
      obtain ⟨y80, hx81, hk⟩ := bindE hk
      obtain ⟨J82, hJ82⟩ : ∃ J : Act → World → Prop, ∀ a w, J a w ↔ (∃ (x74 : List M102) (p75 : Option Addr) (c76 : Nat) (d78 : Ch), bag_Bag_int_Put_2_r3 x4 x74 = some r ∧ Sees a 46 [(0, .pointer (some ⟨b2, 0, none⟩))] ∧ St g w [bx b2 [.int .i64 x3, .int .i64 (IntKind.i64.wrap (x4 + 1)), .slice p75 x74.length c76] 88, d78, F] ih ∧ OSl e102 ih p75 c76 x74 d78) := ⟨_, fun _ _ => Iff.rfl⟩
      refine c_draw (by kernel_rfl) (N := 16) rfl S57 J82 ?_ ?_
      · have hw := hw.drew
        have hS : S57 (Array.replicate 16 false) _ := SX_now hS57 (hw.vws [0, 1, 2]) (by kernel_rfl)
        refine d_pures (fuel := 12) kS57 hs hS [0, 1, 2, 3] [0, 1, 27, 28, 29, 30] [(0, .pointer (some ⟨b2, 0, none⟩)), (1, .int .i64 x11), (27, .pointer (some ⟨b2, 0, none⟩)), (28, .pointer (some ⟨b2, 0, none⟩)), (29, .pointer (some ⟨b2, 0, none⟩)), (30, .pointer (some ⟨b2, 2, none⟩))] (by kernel_rfl) fun a hs hS => ?_
        refine d_load (fuel := 11) kS57 hs hS 4 rfl (by kernel_rfl) (SX_box hS57 0 rfl (by kernel_rfl)) 2 (by kernel_rfl) (by kernel_rfl) (v := .slice p6 x5.length c7) (by kernel_rfl) fun a hs hS => ?_
        refine d_pures (fuel := 7) kS57 hs hS [5, 6, 7, 9] [0, 1, 27, 28, 29, 30, 31, 32, 33, 34, 36] [(0, .pointer (some ⟨b2, 0, none⟩)), (1, .int .i64 x11), (27, .pointer (some ⟨b2, 0, none⟩)), (28, .pointer (some ⟨b2, 0, none⟩)), (29, .pointer (some ⟨b2, 0, none⟩)), (30, .pointer (some ⟨b2, 2, none⟩)), (31, .slice p6 x5.length c7), (32, .pointer (some ⟨b2, 0, none⟩)), (33, .pointer (some ⟨b2, 0, none⟩)), (34, .pointer (some ⟨b2, 1, none⟩)), (36, .int .i64 x11)] (by kernel_rfl) fun a hs hS => ?_
        refine d_all (fuel := 6) (rs := [8]) (by kernel_rfl) (by simp) (all1 ?_)
        refine o_load hs rfl (hw.at_ 0 rfl) 1 (by kernel_rfl) (by kernel_rfl) (v := .int .i64 (IntKind.i64.wrap (x4 + 1))) (by kernel_rfl) fun a hs => ?_
        refine dg_next (SX_now hS57 ((hw.vws [0, 1, 2]).anti (Le.refl _)) (by kernel_rfl)) fun hS => ?_
        refine d_pures (fuel := 5) kS57 hs hS [10] [0, 1, 27, 28, 29, 30, 31, 32, 33, 34, 36, 35, 37] [(0, .pointer (some ⟨b2, 0, none⟩)), (1, .int .i64 x11), (27, .pointer (some ⟨b2, 0, none⟩)), (28, .pointer (some ⟨b2, 0, none⟩)), (29, .pointer (some ⟨b2, 0, none⟩)), (30, .pointer (some ⟨b2, 2, none⟩)), (31, .slice p6 x5.length c7), (32, .pointer (some ⟨b2, 0, none⟩)), (33, .pointer (some ⟨b2, 0, none⟩)), (34, .pointer (some ⟨b2, 1, none⟩)), (36, .int .i64 x11), (35, .int .i64 (IntKind.i64.wrap (x4 + 1))), (37, .agg #[.int .i64 (IntKind.i64.wrap (x4 + 1)), .int .i64 x11])] (by kernel_rfl) fun a hs hS => ?_
        refine d_all (fuel := 4) (rs := [11]) (by kernel_rfl) (by simp) (all1 ?_)
        refine o_new hs rfl hw [.int .i64 (IntKind.i64.wrap (x4 + 1)), .int .i64 x11] 102 (fun b => .slice (some ⟨b, 0, none⟩) 1 1) (by kernel_rfl) (fun _ => by kernel_rfl) fun a w b83 hs hw => ?_
        refine dg_next (SX_now hS57 ((hw.vws [1, 2, 3]).anti (Le.refl _)) (by kernel_rfl)) fun hS => ?_
        refine d_all (fuel := 3) (rs := [12]) (by kernel_rfl) (by simp) (all1 ?_)
        obtain ⟨x85, h86, hx81⟩ := bindE hx81
        refine o_app1 hs rfl hw (E := e102) appT86 2 rfl h8 (by kernel_rfl) (by kernel_rfl) (c2 := 1) (by kernel_rfl) (hw.at_ 0 rfl) (z := (M102.mk (IntKind.i64.wrap (x4 + 1)) x11)) rfl h86 fun a w p87 c88 d89 h90 hw hs => ?_
        refine dg_next (SX_now hS57 ((hw.vws [3]).anti (Le.refl _)) (by kernel_rfl)) fun hS => ?_
        refine d_pures (fuel := 1) kS57 hs hS [13, 14] [0, 1, 27, 28, 29, 30, 32, 33, 34, 36, 35, 37, 38, 39, 40, 41] [(0, .pointer (some ⟨b2, 0, none⟩)), (1, .int .i64 x11), (27, .pointer (some ⟨b2, 0, none⟩)), (28, .pointer (some ⟨b2, 0, none⟩)), (29, .pointer (some ⟨b2, 0, none⟩)), (30, .pointer (some ⟨b2, 2, none⟩)), (32, .pointer (some ⟨b2, 0, none⟩)), (33, .pointer (some ⟨b2, 0, none⟩)), (34, .pointer (some ⟨b2, 1, none⟩)), (36, .int .i64 x11), (35, .int .i64 (IntKind.i64.wrap (x4 + 1))), (37, .agg #[.int .i64 (IntKind.i64.wrap (x4 + 1)), .int .i64 x11]), (38, .slice (some ⟨b83, 0, none⟩) 1 1), (39, .slice p87 x85.length c88), (40, .pointer (some ⟨b2, 0, none⟩)), (41, .pointer (some ⟨b2, 2, none⟩))] (by kernel_rfl) fun a hs hS => ?_
        refine d_all (fuel := 0) (rs := [15]) (by kernel_rfl) (by simp) (all1 ?_)
        refine o_store hs hw rfl 1 rfl 2 (by kernel_rfl) (by kernel_rfl) (v := .slice p87 x85.length c88) (by kernel_rfl) (by kernel_rfl) (by kernel_rfl) (by kernel_rfl) fun a w hs hw => ?_
        refine dg_next (SX_now hS57 ((hw.vws [3]).anti (Le.refl _)) (by kernel_rfl)) fun hS => ?_
        refine d_done (by kernel_rfl) ?_
        obtain rfl := someE hx81
        exact (hJ82 _ _).2 ⟨x85, p87, c88, d89, hk, hs.cast [0] (by kernel_rfl), hw.pick [1, 2, 3] (by kernel_rfl), h90⟩
      · intro a w hh
        obtain ⟨x74, p75, c76, d78, hk, hs, hw, h77⟩ := (hJ82 _ _).1 hh
        refine c_seq ?_
        refine c_region ?_
        refine pures hs 3 [44] [(44, .pointer (some ⟨b2, 1, none⟩))] (by kernel_rfl) fun a hs => ?_
        refine s_load hs (hw.at_ 0 rfl) 1 (by kernel_rfl) (by kernel_rfl) (v := .int .i64 (IntKind.i64.wrap (x4 + 1))) (by kernel_rfl) fun a hs => ?_
        refine pures hs 2 [4, 5] [(4, .int .i64 (IntKind.i64.wrap (x4 + 1))), (5, .int .i64 0)] (by kernel_rfl) fun a hs => ?_
        refine s_end ?_
        refine c_ret ?_
        obtain rfl := someE hk
        refine hQ _ _ (f_retN hs [.tmp 4, .tmp 5] rfl [.int .i64 (IntKind.i64.wrap (x4 + 1)), .int .i64 0] (by kernel_rfl) (by kernel_rfl) ⟨p75, c76, d78, rfl, hw.pick [0, 1, 2] (by kernel_rfl), h77⟩)
def bag_Bag_int_has_2 (x3 : Int) (x4 : Int) (x5 : List M102) (x11 : Int) : Option Bool :=
  some ((decide (x11 ≥ 0)) && (decide (x11 < (x5.length : Int))))
theorem bag_Bag_int_has_2_s {x3 : Int} {x4 : Int} {x5 : List M102} {x11 : Int} {b2 : Nat} {p6 : Option Addr} {c7 : Nat} {d9 : Ch} {r : Bool} (hk : bag_Bag_int_has_2 x3 x4 x5 x11 = some r) {g w : World} {F : Ch} {ih : IH} (h8 : OSl e102 ih p6 c7 x5 d9) (hw : St g w [bx b2 [.int .i64 x3, .int .i64 x4, .slice p6 x5.length c7] 88, d9, F] ih) :
    CallsR Try.prog 63 #[.pointer (some ⟨b2, 0, none⟩), .int .i64 x11] w fun v w' => v = .bool r ∧ St g w' [bx b2 [.int .i64 x3, .int .i64 x4, .slice p6 x5.length c7] 88, d9, F] ih := by
  refine f_in (vs := [.pointer (some ⟨b2, 0, none⟩), .int .i64 x11]) Try.func63 rfl 20 rfl (by kernel_rfl) [(0, .pointer (some ⟨b2, 0, none⟩)), (1, .int .i64 x11)] (by kernel_rfl) fun a Qf hQ hQn hs => ?_
  refine c_seq ?_
  refine c_region ?_
  refine pures hs 1 [0, 1] [(0, .pointer (some ⟨b2, 0, none⟩)), (1, .int .i64 x11)] (by kernel_rfl) fun a hs => ?_
  refine s_end ?_
  refine c_seq ?_
  obtain ⟨J22, hJ22⟩ : ∃ J : Act → World → Prop, ∀ a w, J a w ↔ (Sees a 20 [(4, .bool ((decide (x11 ≥ 0)) && (decide (x11 < (x5.length : Int)))))] ∧ St g w [bx b2 [.int .i64 x3, .int .i64 x4, .slice p6 x5.length c7] 88, d9, F] ih) := ⟨_, fun _ _ => Iff.rfl⟩
  refine c_regJ J22 ?_ ?_
  · refine pures hs 7 [0, 1, 11] [(0, .pointer (some ⟨b2, 0, none⟩)), (1, .int .i64 x11), (11, .bool (decide (x11 ≥ 0)))] (by kernel_rfl) fun a hs => ?_
    rcases boolE (decide (x11 ≥ 0)) with h23 | h23
    · replace hs := hs.altB 11 true (by kernel_rfl) h23
      refine pures hs 4 [11, 12, 15] [(11, .bool true), (12, .int .i64 x11), (15, .pointer (some ⟨b2, 2, none⟩))] (by kernel_rfl) fun a hs => ?_
      refine s_load hs (hw.at_ 0 rfl) 2 (by kernel_rfl) (by kernel_rfl) (v := .slice p6 x5.length c7) (by kernel_rfl) fun a hs => ?_
      refine pures hs 4 [4] [(4, .bool (decide (x11 < (x5.length : Int))))] (by kernel_rfl) fun a hs => ?_
      refine s_end ?_
      exact (hJ22 _ _).2 ⟨(hs.altB 4 ((decide (x11 ≥ 0)) && (decide (x11 < (x5.length : Int)))) (by kernel_rfl) (by rw [h23] <;> rfl)).cast [4] (by kernel_rfl), hw.pick [0, 1, 2] (by kernel_rfl)⟩
    · replace hs := hs.altB 11 false (by kernel_rfl) h23
      refine pures hs 9 [4] [(4, .bool false)] (by kernel_rfl) fun a hs => ?_
      refine s_end ?_
      exact (hJ22 _ _).2 ⟨(hs.altB 4 ((decide (x11 ≥ 0)) && (decide (x11 < (x5.length : Int)))) (by kernel_rfl) (by rw [h23] <;> rfl)).cast [4] (by kernel_rfl), hw.pick [0, 1, 2] (by kernel_rfl)⟩
  · intro a w hh
    obtain ⟨hs, hw⟩ := (hJ22 _ _).1 hh
    refine c_ret ?_
    obtain rfl := someE hk
    refine hQ _ _ (f_ret1 hs rfl (v := .bool ((decide (x11 ≥ 0)) && (decide (x11 < (x5.length : Int))))) (by kernel_rfl) ⟨rfl, hw.pick [0, 1, 2] (by kernel_rfl)⟩)
def bag_Bag_int_At_2 (x3 : Int) (x4 : Int) (x5 : List M102) (x11 : Int) : Option (Int × Bool) :=
  (bag_Bag_int_has_2 x3 x4 x5 x11).bind fun y31 =>
  if (!y31) = true then some (0, false)
  else (ix x5 x11).bind fun x39 =>
  some (x39.f1, true)
theorem bag_Bag_int_At_2_s {x3 : Int} {x4 : Int} {x5 : List M102} {x11 : Int} {b2 : Nat} {p6 : Option Addr} {c7 : Nat} {d9 : Ch} {r : Int × Bool} (hk : bag_Bag_int_At_2 x3 x4 x5 x11 = some r) {g w : World} {F : Ch} {ih : IH} (h8 : OSl e102 ih p6 c7 x5 d9) (hw : St g w [bx b2 [.int .i64 x3, .int .i64 x4, .slice p6 x5.length c7] 88, d9, F] ih) :
    CallsR Try.prog 24 #[.pointer (some ⟨b2, 0, none⟩), .int .i64 x11] w fun v w' => v = .tuple #[.int .i64 r.1, .bool r.2] ∧ St g w' [bx b2 [.int .i64 x3, .int .i64 x4, .slice p6 x5.length c7] 88, d9, F] ih := by
  refine f_in (vs := [.pointer (some ⟨b2, 0, none⟩), .int .i64 x11]) Try.func24 rfl 20 rfl (by kernel_rfl) [(0, .pointer (some ⟨b2, 0, none⟩)), (1, .int .i64 x11)] (by kernel_rfl) fun a Qf hQ hQn hs => ?_
  refine c_seq ?_
  refine c_region ?_
  refine pures hs 2 [0, 1] [(0, .pointer (some ⟨b2, 0, none⟩)), (1, .int .i64 x11)] (by kernel_rfl) fun a hs => ?_
  refine s_end ?_
  refine c_seq ?_
  refine c_seq ?_
  refine c_region ?_
  refine pures hs 2 [0, 1, 7, 8] [(0, .pointer (some ⟨b2, 0, none⟩)), (1, .int .i64 x11), (7, .pointer (some ⟨b2, 0, none⟩)), (8, .int .i64 x11)] (by kernel_rfl) fun a hs => ?_
  obtain ⟨y31, h32, hk⟩ := bindE hk
  refine s_call hs (by kernel_rfl) (by kernel_rfl) (bag_Bag_int_has_2_s h32 h8 ((hw.pick [0, 1, 2] (by kernel_rfl)).pack 2)) fun a w v hv hs => ?_
  obtain ⟨rfl, hw⟩ := hv
  replace hw := hw.unpack 2 rfl
  refine pures hs 1 [0, 1, 10] [(0, .pointer (some ⟨b2, 0, none⟩)), (1, .int .i64 x11), (10, .bool (!y31))] (by kernel_rfl) fun a hs => ?_
  refine s_end ?_
  rcases ifbE hk with ⟨h33, hk⟩ | ⟨h33, hk⟩
  · refine c_cond1 hs (by kernel_rfl) (t := (!y31)) (by kernel_rfl) h33 ?_
    refine c_seq ?_
    refine c_region ?_
    refine pures hs 1 [6] [(6, .int .i64 0)] (by kernel_rfl) fun a hs => ?_
    refine s_end ?_
    refine c_seq ?_
    refine c_region ?_
    refine pures hs 3 [4, 5] [(4, .int .i64 0), (5, .bool false)] (by kernel_rfl) fun a hs => ?_
    refine s_end ?_
    refine c_ret ?_
    obtain rfl := someE hk
    refine hQ _ _ (f_retN hs [.tmp 4, .tmp 5] rfl [.int .i64 0, .bool false] (by kernel_rfl) (by kernel_rfl) ⟨rfl, hw.pick [0, 1, 2] (by kernel_rfl)⟩)
  · refine c_cond0 hs (by kernel_rfl) (t := (!y31)) (by kernel_rfl) h33 ?_
    refine c_skip ?_
    refine c_seq ?_
    refine c_region ?_
    refine pures hs 3 [1, 14] [(1, .int .i64 x11), (14, .pointer (some ⟨b2, 2, none⟩))] (by kernel_rfl) fun a hs => ?_
    refine s_load hs (hw.at_ 0 rfl) 2 (by kernel_rfl) (by kernel_rfl) (v := .slice p6 x5.length c7) (by kernel_rfl) fun a hs => ?_
    refine pures hs 1 [15, 16] [(15, .slice p6 x5.length c7), (16, .int .i64 x11)] (by kernel_rfl) fun a hs => ?_
    obtain ⟨x39, h40, hk⟩ := bindE hk
    refine s_indexO hs h8 (by kernel_rfl) (by kernel_rfl) (k := .i64) (by kernel_rfl) 102 (by kernel_rfl) (by kernel_rfl) h40 fun a r41 cs henc at42 h43 hs => ?_
    obtain rfl := henc
    refine pures hs 1 [18] [(18, .pointer (some (r41.add 1)))] (by kernel_rfl) fun a hs => ?_
    refine s_load hs (at42 _ ((hw.vw 1 rfl).anti (Le.refl _))) 1 (by kernel_rfl) (by kernel_rfl) (v := .int .i64 x39.f1) (by kernel_rfl) fun a hs => ?_
    refine pures hs 2 [4, 5] [(4, .int .i64 x39.f1), (5, .bool true)] (by kernel_rfl) fun a hs => ?_
    refine s_end ?_
    refine c_ret ?_
    obtain rfl := someE hk
    refine hQ _ _ (f_retN hs [.tmp 4, .tmp 5] rfl [.int .i64 x39.f1, .bool true] (by kernel_rfl) (by kernel_rfl) ⟨rfl, hw.pick [0, 1, 2] (by kernel_rfl)⟩)
def slices_Delete_bag_item_int_bag_item_int (x1 : List M102) (x2 : Int) (x3 : Int) : Option (List M102) :=
  delS x1 x2 x3
theorem slices_Delete_bag_item_int_bag_item_int_s {x1 : List M102} {x2 : Int} {x3 : Int} {p4 : Option Addr} {c5 : Nat} {d6 : Ch} {r : List M102} (hk : slices_Delete_bag_item_int_bag_item_int x1 x2 x3 = some r) {g w : World} {F : Ch} {ih : IH} (h7 : OSl e102 ih p4 c5 x1 d6) (hw : St g w [d6, F] ih) :
    CallsR Try.prog 64 #[.slice p4 x1.length c5, .int .i64 x2, .int .i64 x3] w fun v w' => ∃ (p : Option Addr) (c : Nat) (d : Ch), v = .slice p r.length c ∧ St g w' [d, F] ih ∧ OSl e102 ih p c r d := by
  obtain ⟨hi0, hij, hjl, rfl⟩ := delE hk
  rcases p4 with _ | q
  · rcases h7 with ⟨_, rfl, rfl, rfl⟩ | ⟨_, _, h, _⟩
    · simp only [List.length_nil] at hjl
      obtain rfl : x2 = 0 := by omega
      obtain rfl : x3 = 0 := by omega
      refine f_in (vs := [.slice none 0 0, .int .i64 0, .int .i64 0]) Try.func64 rfl 33 rfl (by kernel_rfl) [(0, .slice none 0 0), (1, .int .i64 0), (2, .int .i64 0)] (by kernel_rfl) fun a Qf hQ hQn hs => ?_
      refine c_seq ?_
      refine c_region ?_
      refine pures hs 1 [0, 1, 2] [(0, .slice none 0 0), (1, .int .i64 0), (2, .int .i64 0)] (by kernel_rfl) fun a hs => ?_
      refine s_end ?_
      refine c_seq ?_
      refine c_region ?_
      refine pures hs 5 [0, 1, 2, 8, 9, 10, 12] [(0, .slice none 0 0), (1, .int .i64 0), (2, .int .i64 0), (8, .slice none 0 0), (9, .int .i64 0), (10, .int .i64 0), (12, .int .i64 0)] (by kernel_rfl) fun a hs => ?_
      refine s_sliceX hs (by kernel_rfl) (by kernel_rfl) 102 (sz := 2) (p := none) (len := 0) (cap := 0) (by kernel_rfl) (by kernel_rfl) (by kernel_rfl) (l := 0) (h := 0) (m := 0) (by kernel_rfl) (by kernel_rfl) (by kernel_rfl) (Int.le_refl _) (Int.le_refl _) (Int.le_refl _) (Int.le_refl _) (v := .slice none 0 0) rfl fun a hs => ?_
      refine s_end ?_
      refine c_seq ?_
      refine c_seq ?_
      refine c_region ?_
      refine pures hs 3 [0, 1, 2, 16] [(0, .slice none 0 0), (1, .int .i64 0), (2, .int .i64 0), (16, .bool true)] (by kernel_rfl) fun a hs => ?_
      refine s_end ?_
      refine c_condT hs (by kernel_rfl) (by kernel_rfl) ?_
      refine c_seq ?_
      refine c_region ?_
      refine pures hs 2 [6] [(6, .slice none 0 0)] (by kernel_rfl) fun a hs => ?_
      refine s_end ?_
      refine c_ret ?_
      refine hQ _ _ (f_ret1 hs rfl (v := .slice none 0 0) (by kernel_rfl) ⟨none, 0, [], rfl, hw.pick [0, 1] (by kernel_rfl), OSl.nil _ _⟩)
    · cases h
  · obtain ⟨b, hb⟩ : ∃ b, q = ⟨b, 0, none⟩ := by rcases h7 with ⟨h, _⟩ | ⟨b, _, h, _⟩ <;> cases h <;> exact ⟨_, rfl⟩
    subst hb
    obtain ⟨cur, rfl, hxc, hcm, hcs, hH⟩ := h7.open1
    have ho := h7
    have hys : (x1.take x2.toNat ++ x1.drop x3.toNat).length = x2.toNat + (x1.length - x3.toNat) := by rw [List.length_append, List.length_take, List.length_drop]; omega
    have hq : (if (x2 == x3) = true then some () else some () : Option Unit) = some () := ifU
    refine f_in (vs := [.slice (some ⟨b, 0, none⟩) x1.length c5, .int .i64 x2, .int .i64 x3]) Try.func64 rfl 33 rfl (by kernel_rfl) [(0, .slice (some ⟨b, 0, none⟩) x1.length c5), (1, .int .i64 x2), (2, .int .i64 x3)] (by kernel_rfl) fun a Qf hQ hQn hs => ?_
    refine c_seq ?_
    refine c_region ?_
    refine pures hs 1 [0, 1, 2] [(0, .slice (some ⟨b, 0, none⟩) x1.length c5), (1, .int .i64 x2), (2, .int .i64 x3)] (by kernel_rfl) fun a hs => ?_
    refine s_end ?_
    refine c_seq ?_
    refine c_region ?_
    refine pures hs 5 [0, 1, 2, 8, 9, 10, 12] [(0, .slice (some ⟨b, 0, none⟩) x1.length c5), (1, .int .i64 x2), (2, .int .i64 x3), (8, .slice (some ⟨b, 0, none⟩) x1.length c5), (9, .int .i64 x2), (10, .int .i64 x3), (12, .int .i64 ((x1.length : Nat) : Int))] (by kernel_rfl) fun a hs => ?_
    refine s_sliceX hs (by kernel_rfl) (by kernel_rfl) 102 (sz := 2) (p := (some ⟨b, 0, none⟩)) (len := x1.length) (cap := c5) (by kernel_rfl) (by kernel_rfl) (by kernel_rfl) (l := x2) (h := x3) (m := (x1.length : Int)) (by kernel_rfl) (by kernel_rfl) (by kernel_rfl) hi0 hij hjl (by omega) (v := .slice (if x1.length = x2.toNat then (some ⟨b, 0, none⟩ : Option Addr) else (some ⟨b, 0, none⟩ : Option Addr).map (·.add (x2.toNat * e102.sz))) (x3.toNat - x2.toNat) (x1.length - x2.toNat)) rfl fun a hs => ?_
    refine s_end ?_
    refine c_seq ?_
    refine c_seq ?_
    refine c_region ?_
    refine pures hs 3 [0, 1, 2, 16] [(0, .slice (some ⟨b, 0, none⟩) x1.length c5), (1, .int .i64 x2), (2, .int .i64 x3), (16, .bool (x2 == x3))] (by kernel_rfl) fun a hs => ?_
    refine s_end ?_
    rcases ifbE hq with ⟨h10, hq⟩ | ⟨h10, hq⟩
    · refine c_cond1 hs (by kernel_rfl) (t := (x2 == x3)) (by kernel_rfl) h10 ?_
      refine c_seq ?_
      refine c_region ?_
      refine pures hs 2 [6] [(6, .slice (some ⟨b, 0, none⟩) x1.length c5)] (by kernel_rfl) fun a hs => ?_
      refine s_end ?_
      refine c_ret ?_
      have hr : x1.take x2.toNat ++ x1.drop x3.toNat = x1 := by rw [show x2 = x3 by simpa using h10, List.take_append_drop]
      refine hQ _ _ (f_ret1 hs rfl (v := .slice (some ⟨b, 0, none⟩) x1.length c5) (by kernel_rfl) ⟨some ⟨b, 0, none⟩, c5, _, by rw [hr], hw.pick [0, 1] (by kernel_rfl), by rw [hr]; exact ho⟩)
    · refine c_cond0 hs (by kernel_rfl) (t := (x2 == x3)) (by kernel_rfl) h10 ?_
      refine c_skip ?_
      refine c_seq ?_
      refine c_region ?_
      refine pures hs 3 [0, 1, 2, 7] [(0, .slice (some ⟨b, 0, none⟩) x1.length c5), (1, .int .i64 x2), (2, .int .i64 x3), (7, .int .i64 ((x1.length : Nat) : Int))] (by kernel_rfl) fun a hs => ?_
      refine s_end ?_
      refine c_seq ?_
      obtain ⟨S11, hS11, kS11⟩ := mkSX (X := [([6], [(b, .cells cur e102.ty (0, 0))]), ([], F)]) (ih := ih) (K := [6]) rfl
      refine c_drawK (by kernel_rfl) (N := 8) rfl S11 ?_
      have hw := hw.drew
      have hS : S11 (Array.replicate 8 false) _ := SX_now hS11 (hw.vws [0, 1]) (by kernel_rfl)
      refine d_pures (fuel := 6) kS11 hs hS [0, 1] [0, 1, 2, 7, 20, 21] [(0, .slice (some ⟨b, 0, none⟩) x1.length c5), (1, .int .i64 x2), (2, .int .i64 x3), (7, .int .i64 ((x1.length : Nat) : Int)), (20, .slice (some ⟨b, 0, none⟩) x1.length c5), (21, .int .i64 x2)] (by kernel_rfl) fun a hs hS => ?_
      refine d_sliceX (fuel := 5) kS11 hs hS 2 rfl (by kernel_rfl) (by kernel_rfl) (by kernel_rfl) 102 (sz := 2) (p := (some ⟨b, 0, none⟩)) (len := x1.length) (cap := c5) (by kernel_rfl) (by kernel_rfl) (by kernel_rfl) (l' := 0) (h := x2) (m := (c5 : Int)) (by kernel_rfl) (by kernel_rfl) (by kernel_rfl) (Int.le_refl _) hi0 (by omega) (Int.le_refl _) (v := .slice (some ⟨b, 0, none⟩) x2.toNat c5) (by rw [part0]; rfl) fun a hs hS => ?_
      refine d_pures (fuel := 3) kS11 hs hS [3, 4] [0, 1, 2, 7, 20, 21, 22, 23, 24] [(0, .slice (some ⟨b, 0, none⟩) x1.length c5), (1, .int .i64 x2), (2, .int .i64 x3), (7, .int .i64 ((x1.length : Nat) : Int)), (20, .slice (some ⟨b, 0, none⟩) x1.length c5), (21, .int .i64 x2), (22, .slice (some ⟨b, 0, none⟩) x2.toNat c5), (23, .slice (some ⟨b, 0, none⟩) x1.length c5), (24, .int .i64 x3)] (by kernel_rfl) fun a hs hS => ?_
      refine d_sliceX (fuel := 2) kS11 hs hS 5 rfl (by kernel_rfl) (by kernel_rfl) (by kernel_rfl) 102 (sz := 2) (p := (some ⟨b, 0, none⟩)) (len := x1.length) (cap := c5) (by kernel_rfl) (by kernel_rfl) (by kernel_rfl) (l' := x3) (h := (x1.length : Int)) (m := (c5 : Int)) (by kernel_rfl) (by kernel_rfl) (by kernel_rfl) (by omega) hjl (by omega) (Int.le_refl _) (v := .slice (if c5 = x3.toNat then (some ⟨b, 0, none⟩ : Option Addr) else (some ⟨b, 0, none⟩ : Option Addr).map (·.add (x3.toNat * e102.sz))) (x1.length - x3.toNat) (c5 - x3.toNat)) rfl fun a hs hS => ?_
      refine d_all (fuel := 1) (rs := [6]) (by kernel_rfl) (by simp) (all1 ?_)
      refine o_appD hs rfl hw appT86 0 rfl ho (by kernel_rfl) (i := x2.toNat) (j := x3.toNat) (by omega) (by omega) (by kernel_rfl) (by kernel_rfl) fun a w cur2 ho hw hs => ?_
      refine dg_next (SX_now hS11 ((hw.vws [1]).anti (Le.refl _)) (by kernel_rfl)) fun hS => ?_
      refine d_pures (fuel := 0) kS11 hs hS [7] [0, 1, 2, 7, 20, 21, 22, 23, 24, 25, 26] [(0, .slice (some ⟨b, 0, none⟩) (x2.toNat + (x1.length - x3.toNat)) c5), (1, .int .i64 x2), (2, .int .i64 x3), (7, .int .i64 ((x1.length : Nat) : Int)), (20, .slice (some ⟨b, 0, none⟩) x1.length c5), (21, .int .i64 x2), (22, .slice (some ⟨b, 0, none⟩) x2.toNat c5), (23, .slice (some ⟨b, 0, none⟩) x1.length c5), (24, .int .i64 x3), (25, .slice (if c5 = x3.toNat then (some ⟨b, 0, none⟩ : Option Addr) else (some ⟨b, 0, none⟩ : Option Addr).map (·.add (x3.toNat * e102.sz))) (x1.length - x3.toNat) (c5 - x3.toNat)), (26, .slice (some ⟨b, 0, none⟩) (x2.toNat + (x1.length - x3.toNat)) c5)] (by kernel_rfl) fun a hs hS => ?_
      refine d_done (by kernel_rfl) ?_
      refine c_seq ?_
      refine c_region ?_
      refine pures hs 4 [0, 27, 29, 30] [(0, .slice (some ⟨b, 0, none⟩) (x2.toNat + (x1.length - x3.toNat)) c5), (27, .slice (some ⟨b, 0, none⟩) (x2.toNat + (x1.length - x3.toNat)) c5), (29, .int .i64 (((x2.toNat + (x1.length - x3.toNat)) : Nat) : Int)), (30, .int .i64 ((x1.length : Nat) : Int))] (by kernel_rfl) fun a hs => ?_
      refine s_sliceX hs (by kernel_rfl) (by kernel_rfl) 102 (sz := 2) (p := (some ⟨b, 0, none⟩)) (len := (x2.toNat + (x1.length - x3.toNat))) (cap := c5) (by kernel_rfl) (by kernel_rfl) (by kernel_rfl) (l := (((x2.toNat + (x1.length - x3.toNat)) : Nat) : Int)) (h := (x1.length : Int)) (m := (c5 : Int)) (by kernel_rfl) (by kernel_rfl) (by kernel_rfl) (by omega) (by omega) (by omega) (Int.le_refl _) (v := .slice (if c5 = (x1.take x2.toNat ++ x1.drop x3.toNat).length then (some ⟨b, 0, none⟩ : Option Addr) else (some ⟨b, 0, none⟩ : Option Addr).map (·.add ((x1.take x2.toNat ++ x1.drop x3.toNat).length * e102.sz))) (x1.length - (x1.take x2.toNat ++ x1.drop x3.toNat).length) (c5 - (x1.take x2.toNat ++ x1.drop x3.toNat).length)) (by rw [hys]; rfl) fun a hs => ?_
      refine s_clearD hs hw appT86 (zB (by kernel_rfl)) 0 rfl ho (by kernel_rfl) (m := x1.length) (by have hne := h10; simp at hne; rw [hys]; omega) hxc (by kernel_rfl) fun a w cur3 ho hw hs => ?_
      refine s_end ?_
      refine c_seq ?_
      refine c_region ?_
      refine pures hs 2 [6] [(6, .slice (some ⟨b, 0, none⟩) (x2.toNat + (x1.length - x3.toNat)) c5)] (by kernel_rfl) fun a hs => ?_
      refine s_end ?_
      refine c_ret ?_
      refine hQ _ _ (f_ret1 hs rfl (v := .slice (some ⟨b, 0, none⟩) (x2.toNat + (x1.length - x3.toNat)) c5) (by kernel_rfl) ⟨some ⟨b, 0, none⟩, c5, _, by rw [hys], hw.pick [0, 1] (by kernel_rfl), ho⟩)
def bag_Bag_int_Take_2_r2 (y60 : Int × Bool) (x77 : List M102) : Option (Int × Bool × (List M102)) :=
  some (y60.1, y60.2, x77)
def bag_Bag_int_Take_2 (x3 : Int) (x4 : Int) (x5 : List M102) (x11 : Int) : Option (Int × Bool × (List M102)) :=
  (bag_Bag_int_At_2 x3 x4 x5 x11).bind fun y60 =>
  (if y60.2 = true then (
      (slices_Delete_bag_item_int_bag_item_int x5 x11 (IntKind.i64.wrap (x11 + 1))).bind fun y94 =>
      some y94)
    else some x5 : Option (List M102)).bind fun s101 => bag_Bag_int_Take_2_r2 y60 s101
theorem bag_Bag_int_Take_2_s {x3 : Int} {x4 : Int} {x5 : List M102} {x11 : Int} {b2 : Nat} {p6 : Option Addr} {c7 : Nat} {d9 : Ch} {r : Int × Bool × (List M102)} (hk : bag_Bag_int_Take_2 x3 x4 x5 x11 = some r) {g w : World} {F : Ch} {ih : IH} (h8 : OSl e102 ih p6 c7 x5 d9) (hw : St g w [bx b2 [.int .i64 x3, .int .i64 x4, .slice p6 x5.length c7] 88, d9, F] ih) :
    CallsR Try.prog 23 #[.pointer (some ⟨b2, 0, none⟩), .int .i64 x11] w fun v w' => ∃ (p102 : Option Addr) (c103 : Nat) (d104 : Ch), v = .tuple #[.int .i64 r.1, .bool r.2.1] ∧ St g w' [bx b2 [.int .i64 x3, .int .i64 x4, .slice p102 r.2.2.length c103] 88, d104, F] ih ∧ OSl e102 ih p102 c103 r.2.2 d104 := by
  refine f_in (vs := [.pointer (some ⟨b2, 0, none⟩), .int .i64 x11]) Try.func23 rfl 28 rfl (by kernel_rfl) [(0, .pointer (some ⟨b2, 0, none⟩)), (1, .int .i64 x11)] (by kernel_rfl) fun a Qf hQ hQn hs => ?_
  refine c_seq ?_
  refine c_region ?_
  refine pures hs 2 [0, 1] [(0, .pointer (some ⟨b2, 0, none⟩)), (1, .int .i64 x11)] (by kernel_rfl) fun a hs => ?_
  refine s_end ?_
  refine c_seq ?_
  refine c_region ?_
  refine pures hs 2 [0, 1, 9, 10] [(0, .pointer (some ⟨b2, 0, none⟩)), (1, .int .i64 x11), (9, .pointer (some ⟨b2, 0, none⟩)), (10, .int .i64 x11)] (by kernel_rfl) fun a hs => ?_
  obtain ⟨y60, h61, hk⟩ := bindE hk
  refine s_call hs (by kernel_rfl) (by kernel_rfl) (bag_Bag_int_At_2_s h61 h8 ((hw.pick [0, 1, 2] (by kernel_rfl)).pack 2)) fun a w v hv hs => ?_
  obtain ⟨rfl, hw⟩ := hv
  replace hw := hw.unpack 2 rfl
  refine pures hs 5 [0, 1, 6, 7] [(0, .pointer (some ⟨b2, 0, none⟩)), (1, .int .i64 x11), (6, .int .i64 y60.1), (7, .bool y60.2)] (by kernel_rfl) fun a hs => ?_
  refine s_end ?_
  obtain ⟨y83, hx84, hk⟩ := bindE hk
  obtain ⟨J85, hJ85⟩ : ∃ J : Act → World → Prop, ∀ a w, J a w ↔ (∃ (x77 : List M102) (p78 : Option Addr) (c79 : Nat) (d81 : Ch), bag_Bag_int_Take_2_r2 y60 x77 = some r ∧ Sees a 28 [(6, .int .i64 y60.1), (7, .bool y60.2)] ∧ St g w [bx b2 [.int .i64 x3, .int .i64 x4, .slice p78 x77.length c79] 88, d81, F] ih ∧ OSl e102 ih p78 c79 x77 d81) := ⟨_, fun _ _ => Iff.rfl⟩
  refine c_seqJ J85 ?_ ?_
  · refine c_seq ?_
    refine c_region ?_
    refine pures hs 1 [0, 1, 6, 7, 14] [(0, .pointer (some ⟨b2, 0, none⟩)), (1, .int .i64 x11), (6, .int .i64 y60.1), (7, .bool y60.2), (14, .bool y60.2)] (by kernel_rfl) fun a hs => ?_
    refine s_end ?_
    rcases ifbE hx84 with ⟨h86, hx84⟩ | ⟨h86, hx84⟩
    · refine c_cond1 hs (by kernel_rfl) (t := y60.2) (by kernel_rfl) h86 ?_
      refine c_region ?_
      refine pures hs 4 [1, 6, 7, 15, 18] [(1, .int .i64 x11), (6, .int .i64 y60.1), (7, .bool y60.2), (15, .pointer (some ⟨b2, 0, none⟩)), (18, .pointer (some ⟨b2, 2, none⟩))] (by kernel_rfl) fun a hs => ?_
      refine s_load hs (hw.at_ 0 rfl) 2 (by kernel_rfl) (by kernel_rfl) (v := .slice p6 x5.length c7) (by kernel_rfl) fun a hs => ?_
      refine pures hs 3 [6, 7, 15, 19, 20, 22] [(6, .int .i64 y60.1), (7, .bool y60.2), (15, .pointer (some ⟨b2, 0, none⟩)), (19, .slice p6 x5.length c7), (20, .int .i64 x11), (22, .int .i64 (IntKind.i64.wrap (x11 + 1)))] (by kernel_rfl) fun a hs => ?_
      obtain ⟨y94, h95, hx84⟩ := bindE hx84
      refine s_call hs (by kernel_rfl) (by kernel_rfl) (slices_Delete_bag_item_int_bag_item_int_s h95 h8 ((hw.pick [1, 0, 2] (by kernel_rfl)).pack 1)) fun a w v hv hs => ?_
      obtain ⟨p96, c97, d99, rfl, hw, h98⟩ := hv
      replace hw := hw.unpack 1 rfl
      refine pures hs 2 [6, 7, 23, 25] [(6, .int .i64 y60.1), (7, .bool y60.2), (23, .slice p96 y94.length c97), (25, .pointer (some ⟨b2, 2, none⟩))] (by kernel_rfl) fun a hs => ?_
      refine s_store hs hw 1 rfl 2 (by kernel_rfl) (by kernel_rfl) (v := .slice p96 y94.length c97) (by kernel_rfl) (by kernel_rfl) (by kernel_rfl) (by kernel_rfl) fun a w hs hw => ?_
      refine s_end ?_
      obtain rfl := someE hx84
      exact (hJ85 _ _).2 ⟨y94, p96, c97, d99, hk, hs.cast [6, 7] (by kernel_rfl), hw.pick [1, 0, 2] (by kernel_rfl), h98⟩
    · refine c_cond0 hs (by kernel_rfl) (t := y60.2) (by kernel_rfl) h86 ?_
      refine c_skip ?_
      obtain rfl := someE hx84
      exact (hJ85 _ _).2 ⟨x5, p6, c7, d9, hk, hs.cast [6, 7] (by kernel_rfl), hw.pick [0, 1, 2] (by kernel_rfl), h8⟩
  · intro a w hh
    obtain ⟨x77, p78, c79, d81, hk, hs, hw, h80⟩ := (hJ85 _ _).1 hh
    refine c_seq ?_
    refine c_region ?_
    refine pures hs 4 [4, 5] [(4, .int .i64 y60.1), (5, .bool y60.2)] (by kernel_rfl) fun a hs => ?_
    refine s_end ?_
    refine c_ret ?_
    obtain rfl := someE hk
    refine hQ _ _ (f_retN hs [.tmp 4, .tmp 5] rfl [.int .i64 y60.1, .bool y60.2] (by kernel_rfl) (by kernel_rfl) ⟨p78, c79, d81, rfl, hw.pick [0, 1, 2] (by kernel_rfl), h80⟩)
def bag_Bag_int_Len_2 (x3 : Int) (x4 : Int) (x5 : List M102) : Option Int :=
  some (x5.length : Int)
theorem bag_Bag_int_Len_2_s {x3 : Int} {x4 : Int} {x5 : List M102} {b2 : Nat} {p6 : Option Addr} {c7 : Nat} {d9 : Ch} {r : Int} (hk : bag_Bag_int_Len_2 x3 x4 x5 = some r) {g w : World} {F : Ch} {ih : IH} (h8 : OSl e102 ih p6 c7 x5 d9) (hw : St g w [bx b2 [.int .i64 x3, .int .i64 x4, .slice p6 x5.length c7] 88, d9, F] ih) :
    CallsR Try.prog 28 #[.pointer (some ⟨b2, 0, none⟩)] w fun v w' => v = .int .i64 r ∧ St g w' [bx b2 [.int .i64 x3, .int .i64 x4, .slice p6 x5.length c7] 88, d9, F] ih := by
  refine f_in (vs := [.pointer (some ⟨b2, 0, none⟩)]) Try.func28 rfl 10 rfl (by kernel_rfl) [(0, .pointer (some ⟨b2, 0, none⟩))] (by kernel_rfl) fun a Qf hQ hQn hs => ?_
  refine c_seq ?_
  refine c_region ?_
  refine pures hs 1 [0] [(0, .pointer (some ⟨b2, 0, none⟩))] (by kernel_rfl) fun a hs => ?_
  refine s_end ?_
  refine c_seq ?_
  refine c_seq ?_
  refine c_region ?_
  refine pures hs 2 [0, 4] [(0, .pointer (some ⟨b2, 0, none⟩)), (4, .bool false)] (by kernel_rfl) fun a hs => ?_
  refine s_end ?_
  refine c_condF hs (by kernel_rfl) (by kernel_rfl) ?_
  refine c_skip ?_
  refine c_seq ?_
  refine c_region ?_
  refine pures hs 3 [7] [(7, .pointer (some ⟨b2, 2, none⟩))] (by kernel_rfl) fun a hs => ?_
  refine s_load hs (hw.at_ 0 rfl) 2 (by kernel_rfl) (by kernel_rfl) (v := .slice p6 x5.length c7) (by kernel_rfl) fun a hs => ?_
  refine pures hs 2 [2] [(2, .int .i64 (x5.length : Int))] (by kernel_rfl) fun a hs => ?_
  refine s_end ?_
  refine c_ret ?_
  obtain rfl := someE hk
  refine hQ _ _ (f_ret1 hs rfl (v := .int .i64 (x5.length : Int)) (by kernel_rfl) ⟨rfl, hw.pick [0, 1, 2] (by kernel_rfl)⟩)
def bag_Bag_int_No_2 (x3 : Int) (x4 : Int) (x5 : List M102) (x11 : Int) : Option Int :=
  (bag_Bag_int_has_2 x3 x4 x5 x11).bind fun y31 =>
  if (!y31) = true then some 0
  else (ix x5 x11).bind fun x39 =>
  some x39.f0
theorem bag_Bag_int_No_2_s {x3 : Int} {x4 : Int} {x5 : List M102} {x11 : Int} {b2 : Nat} {p6 : Option Addr} {c7 : Nat} {d9 : Ch} {r : Int} (hk : bag_Bag_int_No_2 x3 x4 x5 x11 = some r) {g w : World} {F : Ch} {ih : IH} (h8 : OSl e102 ih p6 c7 x5 d9) (hw : St g w [bx b2 [.int .i64 x3, .int .i64 x4, .slice p6 x5.length c7] 88, d9, F] ih) :
    CallsR Try.prog 27 #[.pointer (some ⟨b2, 0, none⟩), .int .i64 x11] w fun v w' => v = .int .i64 r ∧ St g w' [bx b2 [.int .i64 x3, .int .i64 x4, .slice p6 x5.length c7] 88, d9, F] ih := by
  refine f_in (vs := [.pointer (some ⟨b2, 0, none⟩), .int .i64 x11]) Try.func27 rfl 17 rfl (by kernel_rfl) [(0, .pointer (some ⟨b2, 0, none⟩)), (1, .int .i64 x11)] (by kernel_rfl) fun a Qf hQ hQn hs => ?_
  refine c_seq ?_
  refine c_region ?_
  refine pures hs 1 [0, 1] [(0, .pointer (some ⟨b2, 0, none⟩)), (1, .int .i64 x11)] (by kernel_rfl) fun a hs => ?_
  refine s_end ?_
  refine c_seq ?_
  refine c_seq ?_
  refine c_region ?_
  refine pures hs 2 [0, 1, 5, 6] [(0, .pointer (some ⟨b2, 0, none⟩)), (1, .int .i64 x11), (5, .pointer (some ⟨b2, 0, none⟩)), (6, .int .i64 x11)] (by kernel_rfl) fun a hs => ?_
  obtain ⟨y31, h32, hk⟩ := bindE hk
  refine s_call hs (by kernel_rfl) (by kernel_rfl) (bag_Bag_int_has_2_s h32 h8 ((hw.pick [0, 1, 2] (by kernel_rfl)).pack 2)) fun a w v hv hs => ?_
  obtain ⟨rfl, hw⟩ := hv
  replace hw := hw.unpack 2 rfl
  refine pures hs 1 [0, 1, 8] [(0, .pointer (some ⟨b2, 0, none⟩)), (1, .int .i64 x11), (8, .bool (!y31))] (by kernel_rfl) fun a hs => ?_
  refine s_end ?_
  rcases ifbE hk with ⟨h33, hk⟩ | ⟨h33, hk⟩
  · refine c_cond1 hs (by kernel_rfl) (t := (!y31)) (by kernel_rfl) h33 ?_
    refine c_seq ?_
    refine c_region ?_
    refine pures hs 1 [4] [(4, .int .i64 0)] (by kernel_rfl) fun a hs => ?_
    refine s_end ?_
    refine c_ret ?_
    obtain rfl := someE hk
    refine hQ _ _ (f_ret1 hs rfl (v := .int .i64 0) (by kernel_rfl) ⟨rfl, hw.pick [0, 1, 2] (by kernel_rfl)⟩)
  · refine c_cond0 hs (by kernel_rfl) (t := (!y31)) (by kernel_rfl) h33 ?_
    refine c_skip ?_
    refine c_seq ?_
    refine c_region ?_
    refine pures hs 3 [1, 11] [(1, .int .i64 x11), (11, .pointer (some ⟨b2, 2, none⟩))] (by kernel_rfl) fun a hs => ?_
    refine s_load hs (hw.at_ 0 rfl) 2 (by kernel_rfl) (by kernel_rfl) (v := .slice p6 x5.length c7) (by kernel_rfl) fun a hs => ?_
    refine pures hs 1 [12, 13] [(12, .slice p6 x5.length c7), (13, .int .i64 x11)] (by kernel_rfl) fun a hs => ?_
    obtain ⟨x39, h40, hk⟩ := bindE hk
    refine s_indexO hs h8 (by kernel_rfl) (by kernel_rfl) (k := .i64) (by kernel_rfl) 102 (by kernel_rfl) (by kernel_rfl) h40 fun a r41 cs henc at42 h43 hs => ?_
    obtain rfl := henc
    refine pures hs 1 [15] [(15, .pointer (some r41))] (by kernel_rfl) fun a hs => ?_
    refine s_load hs (at42 _ ((hw.vw 1 rfl).anti (Le.refl _))) 0 (by kernel_rfl) (by kernel_rfl) (v := .int .i64 x39.f0) (by kernel_rfl) fun a hs => ?_
    refine pures hs 1 [4] [(4, .int .i64 x39.f0)] (by kernel_rfl) fun a hs => ?_
    refine s_end ?_
    refine c_ret ?_
    obtain rfl := someE hk
    refine hQ _ _ (f_ret1 hs rfl (v := .int .i64 x39.f0) (by kernel_rfl) ⟨rfl, hw.pick [0, 1, 2] (by kernel_rfl)⟩)
def catenarylaw06_awake_r2 (x190 : Bool) : Option Bool :=
  some x190
def catenarylaw06_awake : Option Bool :=
  (bag_New_int 9).bind fun y113 =>
  (bag_Bag_int_Put_2 y113.1 y113.2.1 y113.2.2 7).bind fun y128 =>
  (bag_Bag_int_Put_2 y113.1 y128.2.2.1 y128.2.2.2 8).bind fun y140 =>
  (bag_Bag_int_Put_2 y113.1 y140.2.2.1 y140.2.2.2 9).bind fun y152 =>
  (bag_Bag_int_Take_2 y113.1 y152.2.2.1 y152.2.2.2 1).bind fun y164 =>
  (if (y164.1 == 8) = true then (
      if y164.2.1 = true then (
        (bag_Bag_int_Len_2 y113.1 y152.2.2.1 y164.2.2).bind fun y196 =>
        if (y196 == 2) = true then (
          (bag_Bag_int_No_2 y113.1 y152.2.2.1 y164.2.2 0).bind fun y199 =>
          if (y199 == 1) = true then (
            (bag_Bag_int_No_2 y113.1 y152.2.2.1 y164.2.2 1).bind fun y202 =>
            some (y202 == 3))
          else some false)
        else some false)
      else some false)
    else some false : Option Bool).bind fun s204 => catenarylaw06_awake_r2 s204
theorem catenarylaw06_awake_s {r : Bool} (hk : catenarylaw06_awake = some r) {g w : World} {F : Ch} {ih : IH} (hw : St g w [F] ih) :
    CallsR Try.prog 20 #[] w fun v w' => v = .bool r ∧ St g w' [F] ih := by
  refine f_in (vs := []) Try.func20 rfl 36 rfl (by kernel_rfl) [] (by kernel_rfl) fun a Qf hQ hQn hs => ?_
  refine c_seq ?_
  refine c_region ?_
  refine pures hs 1 [] [] (by kernel_rfl) fun a hs => ?_
  refine s_end ?_
  refine c_seq ?_
  refine c_region ?_
  obtain ⟨y113, h114, hk⟩ := bindE hk
  refine s_call hs (by kernel_rfl) (by kernel_rfl) (bag_New_int_s h114 ((hw.pick [0] (by kernel_rfl)).pack 0)) fun a w v hv hs => ?_
  obtain ⟨b115, p117, c118, d120, rfl, hw, h119⟩ := hv
  replace hw := hw.unpack 2 rfl
  refine pures hs 1 [1] [(1, .pointer (some ⟨b115, 0, none⟩))] (by kernel_rfl) fun a hs => ?_
  refine s_end ?_
  refine c_seq ?_
  refine c_region ?_
  refine pures hs 1 [1, 5] [(1, .pointer (some ⟨b115, 0, none⟩)), (5, .pointer (some ⟨b115, 0, none⟩))] (by kernel_rfl) fun a hs => ?_
  obtain ⟨y128, h129, hk⟩ := bindE hk
  refine s_call hs (by kernel_rfl) (by kernel_rfl) (bag_Bag_int_Put_2_s h129 h119 ((hw.pick [0, 1, 2] (by kernel_rfl)).pack 2)) fun a w v hv hs => ?_
  obtain ⟨p130, c131, d133, rfl, hw, h132⟩ := hv
  replace hw := hw.unpack 2 rfl
  refine s_end ?_
  refine c_seq ?_
  refine c_region ?_
  refine pures hs 1 [1, 7] [(1, .pointer (some ⟨b115, 0, none⟩)), (7, .pointer (some ⟨b115, 0, none⟩))] (by kernel_rfl) fun a hs => ?_
  obtain ⟨y140, h141, hk⟩ := bindE hk
  refine s_call hs (by kernel_rfl) (by kernel_rfl) (bag_Bag_int_Put_2_s h141 h132 ((hw.pick [0, 1, 2] (by kernel_rfl)).pack 2)) fun a w v hv hs => ?_
  obtain ⟨p142, c143, d145, rfl, hw, h144⟩ := hv
  replace hw := hw.unpack 2 rfl
  refine s_end ?_
  refine c_seq ?_
  refine c_region ?_
  refine pures hs 1 [1, 9] [(1, .pointer (some ⟨b115, 0, none⟩)), (9, .pointer (some ⟨b115, 0, none⟩))] (by kernel_rfl) fun a hs => ?_
  obtain ⟨y152, h153, hk⟩ := bindE hk
  refine s_call hs (by kernel_rfl) (by kernel_rfl) (bag_Bag_int_Put_2_s h153 h144 ((hw.pick [0, 1, 2] (by kernel_rfl)).pack 2)) fun a w v hv hs => ?_
  obtain ⟨p154, c155, d157, rfl, hw, h156⟩ := hv
  replace hw := hw.unpack 2 rfl
  refine s_end ?_
  refine c_seq ?_
  refine c_region ?_
  refine pures hs 1 [1, 12] [(1, .pointer (some ⟨b115, 0, none⟩)), (12, .pointer (some ⟨b115, 0, none⟩))] (by kernel_rfl) fun a hs => ?_
  obtain ⟨y164, h165, hk⟩ := bindE hk
  refine s_call hs (by kernel_rfl) (by kernel_rfl) (bag_Bag_int_Take_2_s h165 h156 ((hw.pick [0, 1, 2] (by kernel_rfl)).pack 2)) fun a w v hv hs => ?_
  obtain ⟨p166, c167, d169, rfl, hw, h168⟩ := hv
  replace hw := hw.unpack 2 rfl
  refine pures hs 5 [1, 2, 3] [(1, .pointer (some ⟨b115, 0, none⟩)), (2, .int .i64 y164.1), (3, .bool y164.2.1)] (by kernel_rfl) fun a hs => ?_
  refine s_end ?_
  refine c_seq ?_
  obtain ⟨y191, hx192, hk⟩ := bindE hk
  obtain ⟨J193, hJ193⟩ : ∃ J : Act → World → Prop, ∀ a w, J a w ↔ (∃ (x190 : Bool), catenarylaw06_awake_r2 x190 = some r ∧ Sees a 36 [(0, .bool x190)] ∧ St g w [F] ih) := ⟨_, fun _ _ => Iff.rfl⟩
  refine c_regJ J193 ?_ ?_
  · refine pures hs 3 [1, 3, 18] [(1, .pointer (some ⟨b115, 0, none⟩)), (3, .bool y164.2.1), (18, .bool (y164.1 == 8))] (by kernel_rfl) fun a hs => ?_
    rcases ifbE hx192 with ⟨h194, hx192⟩ | ⟨h194, hx192⟩
    · replace hs := hs.altB 18 true (by kernel_rfl) h194
      refine pures hs 3 [1, 21] [(1, .pointer (some ⟨b115, 0, none⟩)), (21, .bool y164.2.1)] (by kernel_rfl) fun a hs => ?_
      rcases ifbE hx192 with ⟨h195, hx192⟩ | ⟨h195, hx192⟩
      · replace hs := hs.altB 21 true (by kernel_rfl) h195
        refine pures hs 1 [1, 21, 22] [(1, .pointer (some ⟨b115, 0, none⟩)), (21, .bool true), (22, .pointer (some ⟨b115, 0, none⟩))] (by kernel_rfl) fun a hs => ?_
        obtain ⟨y196, h197, hx192⟩ := bindE hx192
        refine s_call hs (by kernel_rfl) (by kernel_rfl) (bag_Bag_int_Len_2_s h197 h168 ((hw.pick [0, 1, 2] (by kernel_rfl)).pack 2)) fun a w v hv hs => ?_
        obtain ⟨rfl, hw⟩ := hv
        replace hw := hw.unpack 2 rfl
        refine pures hs 3 [1, 26] [(1, .pointer (some ⟨b115, 0, none⟩)), (26, .bool (y196 == 2))] (by kernel_rfl) fun a hs => ?_
        rcases ifbE hx192 with ⟨h198, hx192⟩ | ⟨h198, hx192⟩
        · replace hs := hs.altB 26 true (by kernel_rfl) h198
          refine pures hs 1 [1, 26, 27] [(1, .pointer (some ⟨b115, 0, none⟩)), (26, .bool true), (27, .pointer (some ⟨b115, 0, none⟩))] (by kernel_rfl) fun a hs => ?_
          obtain ⟨y199, h200, hx192⟩ := bindE hx192
          refine s_call hs (by kernel_rfl) (by kernel_rfl) (bag_Bag_int_No_2_s h200 h168 ((hw.pick [0, 1, 2] (by kernel_rfl)).pack 2)) fun a w v hv hs => ?_
          obtain ⟨rfl, hw⟩ := hv
          replace hw := hw.unpack 2 rfl
          refine pures hs 3 [1, 31] [(1, .pointer (some ⟨b115, 0, none⟩)), (31, .bool (y199 == 1))] (by kernel_rfl) fun a hs => ?_
          rcases ifbE hx192 with ⟨h201, hx192⟩ | ⟨h201, hx192⟩
          · replace hs := hs.altB 31 true (by kernel_rfl) h201
            refine pures hs 1 [31, 32] [(31, .bool true), (32, .pointer (some ⟨b115, 0, none⟩))] (by kernel_rfl) fun a hs => ?_
            obtain ⟨y202, h203, hx192⟩ := bindE hx192
            refine s_call hs (by kernel_rfl) (by kernel_rfl) (bag_Bag_int_No_2_s h203 h168 ((hw.pick [0, 1, 2] (by kernel_rfl)).pack 2)) fun a w v hv hs => ?_
            obtain ⟨rfl, hw⟩ := hv
            replace hw := hw.unpack 2 rfl
            refine pures hs 3 [0] [(0, .bool (y202 == 3))] (by kernel_rfl) fun a hs => ?_
            refine s_end ?_
            obtain rfl := someE hx192
            exact (hJ193 _ _).2 ⟨(y202 == 3), hk, hs.cast [0] (by kernel_rfl), hw.pick [2] (by kernel_rfl)⟩
          · replace hs := hs.altB 31 false (by kernel_rfl) h201
            refine pures hs 5 [0] [(0, .bool false)] (by kernel_rfl) fun a hs => ?_
            refine s_end ?_
            obtain rfl := someE hx192
            exact (hJ193 _ _).2 ⟨false, hk, hs.cast [0] (by kernel_rfl), hw.pick [2] (by kernel_rfl)⟩
        · replace hs := hs.altB 26 false (by kernel_rfl) h198
          refine pures hs 10 [0] [(0, .bool false)] (by kernel_rfl) fun a hs => ?_
          refine s_end ?_
          obtain rfl := someE hx192
          exact (hJ193 _ _).2 ⟨false, hk, hs.cast [0] (by kernel_rfl), hw.pick [2] (by kernel_rfl)⟩
      · replace hs := hs.altB 21 false (by kernel_rfl) h195
        refine pures hs 15 [0] [(0, .bool false)] (by kernel_rfl) fun a hs => ?_
        refine s_end ?_
        obtain rfl := someE hx192
        exact (hJ193 _ _).2 ⟨false, hk, hs.cast [0] (by kernel_rfl), hw.pick [2] (by kernel_rfl)⟩
    · replace hs := hs.altB 18 false (by kernel_rfl) h194
      refine pures hs 18 [0] [(0, .bool false)] (by kernel_rfl) fun a hs => ?_
      refine s_end ?_
      obtain rfl := someE hx192
      exact (hJ193 _ _).2 ⟨false, hk, hs.cast [0] (by kernel_rfl), hw.pick [2] (by kernel_rfl)⟩
  · intro a w hh
    obtain ⟨x190, hk, hs, hw⟩ := (hJ193 _ _).1 hh
    refine c_ret ?_
    obtain rfl := someE hk
    refine hQ _ _ (f_ret1 hs rfl (v := .bool x190) (by kernel_rfl) ⟨rfl, hw.pick [0] (by kernel_rfl)⟩)
def catenarylaw06_BagNil_r2 (x220 : Bool) : Option Bool :=
  some x220
def catenarylaw06_BagNil (x1 : Int) (x2 : Int) : Option Bool :=
  (bag_Bag_int_Put x2).bind fun y135 =>
  (bag_Bag_int_Twice x1).bind fun y139 =>
  (bag_Bag_int_Take x1).bind fun y143 =>
  (bag_Bag_int_At x1).bind fun y147 =>
  (bag_Bag_int_All).bind fun _ =>
  (bag_Bag_int_All_1 false 0).bind fun _ =>
  (if (y135.1 == 0) = true then (
      if (y135.2 == 2) = true then (
        if (y139.1 == 0) = true then (
          if (y139.2 == 2) = true then (
            if (y143.1 == 0) = true then (
              if (!y143.2) = true then (
                if (y147.1 == 0) = true then (
                  if (!y147.2) = true then (
                    (bag_Bag_int_Set x1 x2).bind fun y232 =>
                    if (!y232) = true then (
                      (bag_Bag_int_No x1).bind fun y235 =>
                      if (y235 == 0) = true then (
                        (bag_Bag_int_Len).bind fun y238 =>
                        if (y238 == 0) = true then (
                          (bag_Bag_int_Upto x2).bind fun y241 =>
                          if (y241 == 0) = true then (
                            (bag_Bag_int_Keep).bind fun y244 =>
                            if (y244 == 0) = true then (
                              (bag_Bag_int_Last).bind fun y247 =>
                              if (y247 == 0) = true then (
                                (catenarylaw06_awake).bind fun y250 =>
                                some y250)
                              else some false)
                            else some false)
                          else some false)
                        else some false)
                      else some false)
                    else some false)
                  else some false)
                else some false)
              else some false)
            else some false)
          else some false)
        else some false)
      else some false)
    else some false : Option Bool).bind fun s252 => catenarylaw06_BagNil_r2 s252
theorem catenarylaw06_BagNil_s {x1 : Int} {x2 : Int} {r : Bool} (hk : catenarylaw06_BagNil x1 x2 = some r) {g w : World} {F : Ch} {ih : IH} (hw : St g w [F] ih) :
    CallsR Try.prog 5 #[.int .i64 x1, .int .i64 x2] w fun v w' => v = .bool r ∧ St g w' [F] ih := by
  refine f_inM (vs := [.int .i64 x1, .int .i64 x2]) Try.func5 rfl 113 rfl (by kernel_rfl) [(0, .int .i64 x1), (1, .int .i64 x2)] (by kernel_rfl) fun a Qf hQ hQn hs => ?_
  refine c_seq ?_
  refine c_region ?_
  refine s_new hs hw [.bool false] 4 (fun b => .pointer (some ⟨b, 0, none⟩)) (by kernel_rfl) (fun _ => by kernel_rfl) fun a w b131 hs hw => ?_
  refine s_end ?_
  refine c_seq ?_
  refine c_region ?_
  refine pures hs 1 [0, 1, 4, 5] [(0, .int .i64 x1), (1, .int .i64 x2), (4, .pointer (some ⟨b131, 0, none⟩)), (5, .pointer none)] (by kernel_rfl) fun a hs => ?_
  refine s_end ?_
  refine c_seq ?_
  refine c_region ?_
  refine pures hs 2 [0, 1, 4, 5, 16, 17] [(0, .int .i64 x1), (1, .int .i64 x2), (4, .pointer (some ⟨b131, 0, none⟩)), (5, .pointer none), (16, .pointer none), (17, .int .i64 x2)] (by kernel_rfl) fun a hs => ?_
  obtain ⟨y135, h136, hk⟩ := bindE hk
  refine s_call hs (by kernel_rfl) (by kernel_rfl) (bag_Bag_int_Put_s h136 ((hw.pick [0, 1] (by kernel_rfl)).pack 0)) fun a w v hv hs => ?_
  obtain ⟨rfl, hw⟩ := hv
  replace hw := hw.unpack 0 rfl
  refine pures hs 5 [0, 1, 4, 5, 6, 7] [(0, .int .i64 x1), (1, .int .i64 x2), (4, .pointer (some ⟨b131, 0, none⟩)), (5, .pointer none), (6, .int .i64 y135.1), (7, .int .i64 y135.2)] (by kernel_rfl) fun a hs => ?_
  refine s_end ?_
  refine c_seq ?_
  refine c_region ?_
  refine pures hs 2 [0, 1, 4, 5, 6, 7, 22, 23] [(0, .int .i64 x1), (1, .int .i64 x2), (4, .pointer (some ⟨b131, 0, none⟩)), (5, .pointer none), (6, .int .i64 y135.1), (7, .int .i64 y135.2), (22, .pointer none), (23, .int .i64 x1)] (by kernel_rfl) fun a hs => ?_
  obtain ⟨y139, h140, hk⟩ := bindE hk
  refine s_call hs (by kernel_rfl) (by kernel_rfl) (bag_Bag_int_Twice_s h140 ((hw.pick [0, 1] (by kernel_rfl)).pack 0)) fun a w v hv hs => ?_
  obtain ⟨rfl, hw⟩ := hv
  replace hw := hw.unpack 0 rfl
  refine pures hs 5 [0, 1, 4, 5, 6, 7, 8, 9] [(0, .int .i64 x1), (1, .int .i64 x2), (4, .pointer (some ⟨b131, 0, none⟩)), (5, .pointer none), (6, .int .i64 y135.1), (7, .int .i64 y135.2), (8, .int .i64 y139.1), (9, .int .i64 y139.2)] (by kernel_rfl) fun a hs => ?_
  refine s_end ?_
  refine c_seq ?_
  refine c_region ?_
  refine pures hs 2 [0, 1, 4, 5, 6, 7, 8, 9, 28, 29] [(0, .int .i64 x1), (1, .int .i64 x2), (4, .pointer (some ⟨b131, 0, none⟩)), (5, .pointer none), (6, .int .i64 y135.1), (7, .int .i64 y135.2), (8, .int .i64 y139.1), (9, .int .i64 y139.2), (28, .pointer none), (29, .int .i64 x1)] (by kernel_rfl) fun a hs => ?_
  obtain ⟨y143, h144, hk⟩ := bindE hk
  refine s_call hs (by kernel_rfl) (by kernel_rfl) (bag_Bag_int_Take_s h144 ((hw.pick [0, 1] (by kernel_rfl)).pack 0)) fun a w v hv hs => ?_
  obtain ⟨rfl, hw⟩ := hv
  replace hw := hw.unpack 0 rfl
  refine pures hs 5 [0, 1, 4, 5, 6, 7, 8, 9, 10, 11] [(0, .int .i64 x1), (1, .int .i64 x2), (4, .pointer (some ⟨b131, 0, none⟩)), (5, .pointer none), (6, .int .i64 y135.1), (7, .int .i64 y135.2), (8, .int .i64 y139.1), (9, .int .i64 y139.2), (10, .int .i64 y143.1), (11, .bool y143.2)] (by kernel_rfl) fun a hs => ?_
  refine s_end ?_
  refine c_seq ?_
  refine c_region ?_
  refine pures hs 2 [0, 1, 4, 5, 6, 7, 8, 9, 10, 11, 34, 35] [(0, .int .i64 x1), (1, .int .i64 x2), (4, .pointer (some ⟨b131, 0, none⟩)), (5, .pointer none), (6, .int .i64 y135.1), (7, .int .i64 y135.2), (8, .int .i64 y139.1), (9, .int .i64 y139.2), (10, .int .i64 y143.1), (11, .bool y143.2), (34, .pointer none), (35, .int .i64 x1)] (by kernel_rfl) fun a hs => ?_
  obtain ⟨y147, h148, hk⟩ := bindE hk
  refine s_call hs (by kernel_rfl) (by kernel_rfl) (bag_Bag_int_At_s h148 ((hw.pick [0, 1] (by kernel_rfl)).pack 0)) fun a w v hv hs => ?_
  obtain ⟨rfl, hw⟩ := hv
  replace hw := hw.unpack 0 rfl
  refine pures hs 5 [0, 1, 4, 5, 6, 7, 8, 9, 10, 11, 12, 13] [(0, .int .i64 x1), (1, .int .i64 x2), (4, .pointer (some ⟨b131, 0, none⟩)), (5, .pointer none), (6, .int .i64 y135.1), (7, .int .i64 y135.2), (8, .int .i64 y139.1), (9, .int .i64 y139.2), (10, .int .i64 y143.1), (11, .bool y143.2), (12, .int .i64 y147.1), (13, .bool y147.2)] (by kernel_rfl) fun a hs => ?_
  refine s_end ?_
  refine c_seq ?_
  refine c_region ?_
  refine pures hs 1 [0, 1, 4, 5, 6, 7, 8, 9, 10, 11, 12, 13, 39] [(0, .int .i64 x1), (1, .int .i64 x2), (4, .pointer (some ⟨b131, 0, none⟩)), (5, .pointer none), (6, .int .i64 y135.1), (7, .int .i64 y135.2), (8, .int .i64 y139.1), (9, .int .i64 y139.2), (10, .int .i64 y143.1), (11, .bool y143.2), (12, .int .i64 y147.1), (13, .bool y147.2), (39, .pointer none)] (by kernel_rfl) fun a hs => ?_
  obtain ⟨y153, h154, hk⟩ := bindE hk
  refine s_call hs (by kernel_rfl) (by kernel_rfl) (bag_Bag_int_All_s h154 ((hw.pick [0, 1] (by kernel_rfl)).pack 0)) fun a w v hv hs => ?_
  obtain ⟨b155, rfl, hw⟩ := hv
  replace hw := hw.unpack 1 rfl
  refine pures hs 1 [0, 1, 4, 5, 6, 7, 8, 9, 10, 11, 12, 13, 14] [(0, .int .i64 x1), (1, .int .i64 x2), (4, .pointer (some ⟨b131, 0, none⟩)), (5, .pointer none), (6, .int .i64 y135.1), (7, .int .i64 y135.2), (8, .int .i64 y139.1), (9, .int .i64 y139.2), (10, .int .i64 y143.1), (11, .bool y143.2), (12, .int .i64 y147.1), (13, .bool y147.2), (14, .func (.func 65) #[] #[.pointer (some ⟨b155, 0, none⟩)])] (by kernel_rfl) fun a hs => ?_
  refine s_end ?_
  refine c_seq ?_
  refine c_seq ?_
  refine c_region ?_
  refine pures hs 2 [0, 1, 4, 5, 6, 7, 8, 9, 10, 11, 12, 13, 14, 42] [(0, .int .i64 x1), (1, .int .i64 x2), (4, .pointer (some ⟨b131, 0, none⟩)), (5, .pointer none), (6, .int .i64 y135.1), (7, .int .i64 y135.2), (8, .int .i64 y139.1), (9, .int .i64 y139.2), (10, .int .i64 y143.1), (11, .bool y143.2), (12, .int .i64 y147.1), (13, .bool y147.2), (14, .func (.func 65) #[] #[.pointer (some ⟨b155, 0, none⟩)]), (42, .bool false)] (by kernel_rfl) fun a hs => ?_
  refine s_end ?_
  refine c_condF hs (by kernel_rfl) (by kernel_rfl) ?_
  refine c_skip ?_
  refine c_seq ?_
  refine c_seq ?_
  refine c_region ?_
  refine pures hs 1 [0, 1, 4, 5, 6, 7, 8, 9, 10, 11, 12, 13, 43] [(0, .int .i64 x1), (1, .int .i64 x2), (4, .pointer (some ⟨b131, 0, none⟩)), (5, .pointer none), (6, .int .i64 y135.1), (7, .int .i64 y135.2), (8, .int .i64 y139.1), (9, .int .i64 y139.2), (10, .int .i64 y143.1), (11, .bool y143.2), (12, .int .i64 y147.1), (13, .bool y147.2), (43, .func (.func 65) #[] #[.pointer (some ⟨b155, 0, none⟩)])] (by kernel_rfl) fun a hs => ?_
  refine s_end ?_
  refine c_block ?_
  obtain ⟨y162, h163, hk⟩ := bindE hk
  refine c_range hs (by kernel_rfl) (gf := 65) (cap := #[.pointer (some ⟨b155, 0, none⟩)]) (by kernel_rfl) (fun l => #[.func (.yield l) #[] #[], .pointer (some ⟨b155, 0, none⟩)]) (fun _ => rfl) (fun _ _ => rfl) hw [.ret] ?_
  intro n158 q159 w ht hps hasg hbdy hw
  refine have_then (p := catenarylaw06_BagNil_round_C n158 q159 b131) ?_ fun h161 => ?_
  · intro x50001 x50002 x50005 r hk g w F ih hw
    refine f_round hs ht [44, 45] hps (by kernel_rfl) (by kernel_rfl) [44, 45, 4] (e := [(44, .int .i64 x50001), (45, .int .i64 x50002), (4, .pointer (some ⟨b131, 0, none⟩))]) (by kernel_rfl) hw 1 rfl fun a Qr hQr hs => ?_
    rw [hasg, hbdy]
    refine c_skip ?_
    refine begin_round hw 1 rfl fun w hw => ?_
    refine c_block ?_
    refine c_seq ?_
    refine c_region ?_
    refine s_store hs hw 0 rfl 0 (by kernel_rfl) (by kernel_rfl) (v := .bool false) (by kernel_rfl) (by kernel_rfl) (by kernel_rfl) (by kernel_rfl) fun a w hs hw => ?_
    refine s_end ?_
    refine c_ret ?_
    obtain rfl := someE hk
    exact hQr _ _ _ (end_ret [.ret] 1 (by rfl) (by rfl) hw 1 rfl fun w hw => ⟨rfl, hw.pick [0, 1, 2] (by kernel_rfl)⟩)
  · refine CallsR.mono (bag_Bag_int_All_1_s h163 h161 ((hw.pick [3, 0, 2, 1, 4] (by kernel_rfl)).pack 3)) fun v w hv => ?_
    obtain ⟨rfl, hw⟩ := hv
    replace hw := hw.unpack 3 rfl
    refine ⟨0, [bx b131 [.bool false] 4, lpo n158 q159 [.ret] 0, bx b155 [.pointer none] 37, dfo q159.df, F], ih, 1, hw, rfl, fun a w hs hw => ?_⟩
    replace hw := hw.pick [0, 2, 3, 4] (by kernel_rfl)
    refine c_seq ?_
    obtain ⟨y221, hx222, hk⟩ := bindE hk
    obtain ⟨J223, hJ223⟩ : ∃ J : Act → World → Prop, ∀ a w, J a w ↔ (∃ (x220 : Bool), catenarylaw06_BagNil_r2 x220 = some r ∧ SeesD [markD q159.df] a 113 [(4, .pointer (some ⟨b131, 0, none⟩))] ∧ St g w [bx b131 [.bool x220] 4, dfo q159.df, F] ih) := ⟨_, fun _ _ => Iff.rfl⟩
    refine c_regJ J223 ?_ ?_
    · refine pures hs 3 [0, 1, 4, 5, 7, 8, 9, 10, 11, 12, 13, 48] [(0, .int .i64 x1), (1, .int .i64 x2), (4, .pointer (some ⟨b131, 0, none⟩)), (5, .pointer none), (7, .int .i64 y135.2), (8, .int .i64 y139.1), (9, .int .i64 y139.2), (10, .int .i64 y143.1), (11, .bool y143.2), (12, .int .i64 y147.1), (13, .bool y147.2), (48, .bool (y135.1 == 0))] (by kernel_rfl) fun a hs => ?_
      rcases ifbE hx222 with ⟨h224, hx222⟩ | ⟨h224, hx222⟩
      · replace hs := hs.altB 48 true (by kernel_rfl) h224
        refine pures hs 4 [0, 1, 4, 5, 8, 9, 10, 11, 12, 13, 52] [(0, .int .i64 x1), (1, .int .i64 x2), (4, .pointer (some ⟨b131, 0, none⟩)), (5, .pointer none), (8, .int .i64 y139.1), (9, .int .i64 y139.2), (10, .int .i64 y143.1), (11, .bool y143.2), (12, .int .i64 y147.1), (13, .bool y147.2), (52, .bool (y135.2 == 2))] (by kernel_rfl) fun a hs => ?_
        rcases ifbE hx222 with ⟨h225, hx222⟩ | ⟨h225, hx222⟩
        · replace hs := hs.altB 52 true (by kernel_rfl) h225
          refine pures hs 4 [0, 1, 4, 5, 9, 10, 11, 12, 13, 56] [(0, .int .i64 x1), (1, .int .i64 x2), (4, .pointer (some ⟨b131, 0, none⟩)), (5, .pointer none), (9, .int .i64 y139.2), (10, .int .i64 y143.1), (11, .bool y143.2), (12, .int .i64 y147.1), (13, .bool y147.2), (56, .bool (y139.1 == 0))] (by kernel_rfl) fun a hs => ?_
          rcases ifbE hx222 with ⟨h226, hx222⟩ | ⟨h226, hx222⟩
          · replace hs := hs.altB 56 true (by kernel_rfl) h226
            refine pures hs 4 [0, 1, 4, 5, 10, 11, 12, 13, 60] [(0, .int .i64 x1), (1, .int .i64 x2), (4, .pointer (some ⟨b131, 0, none⟩)), (5, .pointer none), (10, .int .i64 y143.1), (11, .bool y143.2), (12, .int .i64 y147.1), (13, .bool y147.2), (60, .bool (y139.2 == 2))] (by kernel_rfl) fun a hs => ?_
            rcases ifbE hx222 with ⟨h227, hx222⟩ | ⟨h227, hx222⟩
            · replace hs := hs.altB 60 true (by kernel_rfl) h227
              refine pures hs 4 [0, 1, 4, 5, 11, 12, 13, 64] [(0, .int .i64 x1), (1, .int .i64 x2), (4, .pointer (some ⟨b131, 0, none⟩)), (5, .pointer none), (11, .bool y143.2), (12, .int .i64 y147.1), (13, .bool y147.2), (64, .bool (y143.1 == 0))] (by kernel_rfl) fun a hs => ?_
              rcases ifbE hx222 with ⟨h228, hx222⟩ | ⟨h228, hx222⟩
              · replace hs := hs.altB 64 true (by kernel_rfl) h228
                refine pures hs 4 [0, 1, 4, 5, 12, 13, 68] [(0, .int .i64 x1), (1, .int .i64 x2), (4, .pointer (some ⟨b131, 0, none⟩)), (5, .pointer none), (12, .int .i64 y147.1), (13, .bool y147.2), (68, .bool (!y143.2))] (by kernel_rfl) fun a hs => ?_
                rcases ifbE hx222 with ⟨h229, hx222⟩ | ⟨h229, hx222⟩
                · replace hs := hs.altB 68 true (by kernel_rfl) h229
                  refine pures hs 4 [0, 1, 4, 5, 13, 72] [(0, .int .i64 x1), (1, .int .i64 x2), (4, .pointer (some ⟨b131, 0, none⟩)), (5, .pointer none), (13, .bool y147.2), (72, .bool (y147.1 == 0))] (by kernel_rfl) fun a hs => ?_
                  rcases ifbE hx222 with ⟨h230, hx222⟩ | ⟨h230, hx222⟩
                  · replace hs := hs.altB 72 true (by kernel_rfl) h230
                    refine pures hs 4 [0, 1, 4, 5, 76] [(0, .int .i64 x1), (1, .int .i64 x2), (4, .pointer (some ⟨b131, 0, none⟩)), (5, .pointer none), (76, .bool (!y147.2))] (by kernel_rfl) fun a hs => ?_
                    rcases ifbE hx222 with ⟨h231, hx222⟩ | ⟨h231, hx222⟩
                    · replace hs := hs.altB 76 true (by kernel_rfl) h231
                      refine pures hs 3 [0, 1, 4, 5, 76, 77, 78, 79] [(0, .int .i64 x1), (1, .int .i64 x2), (4, .pointer (some ⟨b131, 0, none⟩)), (5, .pointer none), (76, .bool true), (77, .pointer none), (78, .int .i64 x1), (79, .int .i64 x2)] (by kernel_rfl) fun a hs => ?_
                      obtain ⟨y232, h233, hx222⟩ := bindE hx222
                      refine s_call hs (by kernel_rfl) (by kernel_rfl) (bag_Bag_int_Set_s h233 ((hw.pick [0, 2, 3] (by kernel_rfl)).pack 0)) fun a w v hv hs => ?_
                      obtain ⟨rfl, hw⟩ := hv
                      replace hw := hw.unpack 0 rfl
                      refine pures hs 3 [0, 1, 4, 5, 83] [(0, .int .i64 x1), (1, .int .i64 x2), (4, .pointer (some ⟨b131, 0, none⟩)), (5, .pointer none), (83, .bool (!y232))] (by kernel_rfl) fun a hs => ?_
                      rcases ifbE hx222 with ⟨h234, hx222⟩ | ⟨h234, hx222⟩
                      · replace hs := hs.altB 83 true (by kernel_rfl) h234
                        refine pures hs 2 [1, 4, 5, 83, 84, 85] [(1, .int .i64 x2), (4, .pointer (some ⟨b131, 0, none⟩)), (5, .pointer none), (83, .bool true), (84, .pointer none), (85, .int .i64 x1)] (by kernel_rfl) fun a hs => ?_
                        obtain ⟨y235, h236, hx222⟩ := bindE hx222
                        refine s_call hs (by kernel_rfl) (by kernel_rfl) (bag_Bag_int_No_s h236 ((hw.pick [0, 1, 2] (by kernel_rfl)).pack 0)) fun a w v hv hs => ?_
                        obtain ⟨rfl, hw⟩ := hv
                        replace hw := hw.unpack 0 rfl
                        refine pures hs 3 [1, 4, 5, 89] [(1, .int .i64 x2), (4, .pointer (some ⟨b131, 0, none⟩)), (5, .pointer none), (89, .bool (y235 == 0))] (by kernel_rfl) fun a hs => ?_
                        rcases ifbE hx222 with ⟨h237, hx222⟩ | ⟨h237, hx222⟩
                        · replace hs := hs.altB 89 true (by kernel_rfl) h237
                          refine pures hs 1 [1, 4, 5, 89, 90] [(1, .int .i64 x2), (4, .pointer (some ⟨b131, 0, none⟩)), (5, .pointer none), (89, .bool true), (90, .pointer none)] (by kernel_rfl) fun a hs => ?_
                          obtain ⟨y238, h239, hx222⟩ := bindE hx222
                          refine s_call hs (by kernel_rfl) (by kernel_rfl) (bag_Bag_int_Len_s h239 ((hw.pick [0, 1, 2] (by kernel_rfl)).pack 0)) fun a w v hv hs => ?_
                          obtain ⟨rfl, hw⟩ := hv
                          replace hw := hw.unpack 0 rfl
                          refine pures hs 3 [1, 4, 5, 94] [(1, .int .i64 x2), (4, .pointer (some ⟨b131, 0, none⟩)), (5, .pointer none), (94, .bool (y238 == 0))] (by kernel_rfl) fun a hs => ?_
                          rcases ifbE hx222 with ⟨h240, hx222⟩ | ⟨h240, hx222⟩
                          · replace hs := hs.altB 94 true (by kernel_rfl) h240
                            refine pures hs 2 [4, 5, 94, 95, 96] [(4, .pointer (some ⟨b131, 0, none⟩)), (5, .pointer none), (94, .bool true), (95, .pointer none), (96, .int .i64 x2)] (by kernel_rfl) fun a hs => ?_
                            obtain ⟨y241, h242, hx222⟩ := bindE hx222
                            refine s_call hs (by kernel_rfl) (by kernel_rfl) (bag_Bag_int_Upto_s h242 ((hw.pick [0, 1, 2] (by kernel_rfl)).pack 0)) fun a w v hv hs => ?_
                            obtain ⟨rfl, hw⟩ := hv
                            replace hw := hw.unpack 0 rfl
                            refine pures hs 3 [4, 5, 100] [(4, .pointer (some ⟨b131, 0, none⟩)), (5, .pointer none), (100, .bool (y241 == 0))] (by kernel_rfl) fun a hs => ?_
                            rcases ifbE hx222 with ⟨h243, hx222⟩ | ⟨h243, hx222⟩
                            · replace hs := hs.altB 100 true (by kernel_rfl) h243
                              refine pures hs 1 [4, 5, 100, 101] [(4, .pointer (some ⟨b131, 0, none⟩)), (5, .pointer none), (100, .bool true), (101, .pointer none)] (by kernel_rfl) fun a hs => ?_
                              obtain ⟨y244, h245, hx222⟩ := bindE hx222
                              refine s_call hs (by kernel_rfl) (by kernel_rfl) (bag_Bag_int_Keep_s h245 ((hw.pick [0, 1, 2] (by kernel_rfl)).pack 0)) fun a w v hv hs => ?_
                              obtain ⟨rfl, hw⟩ := hv
                              replace hw := hw.unpack 0 rfl
                              refine pures hs 3 [4, 5, 105] [(4, .pointer (some ⟨b131, 0, none⟩)), (5, .pointer none), (105, .bool (y244 == 0))] (by kernel_rfl) fun a hs => ?_
                              rcases ifbE hx222 with ⟨h246, hx222⟩ | ⟨h246, hx222⟩
                              · replace hs := hs.altB 105 true (by kernel_rfl) h246
                                refine pures hs 1 [4, 105, 106] [(4, .pointer (some ⟨b131, 0, none⟩)), (105, .bool true), (106, .pointer none)] (by kernel_rfl) fun a hs => ?_
                                obtain ⟨y247, h248, hx222⟩ := bindE hx222
                                refine s_call hs (by kernel_rfl) (by kernel_rfl) (bag_Bag_int_Last_s h248 ((hw.pick [0, 1, 2] (by kernel_rfl)).pack 0)) fun a w v hv hs => ?_
                                obtain ⟨rfl, hw⟩ := hv
                                replace hw := hw.unpack 0 rfl
                                refine pures hs 3 [4, 110] [(4, .pointer (some ⟨b131, 0, none⟩)), (110, .bool (y247 == 0))] (by kernel_rfl) fun a hs => ?_
                                rcases ifbE hx222 with ⟨h249, hx222⟩ | ⟨h249, hx222⟩
                                · replace hs := hs.altB 110 true (by kernel_rfl) h249
                                  obtain ⟨y250, h251, hx222⟩ := bindE hx222
                                  refine s_call hs (by kernel_rfl) (by kernel_rfl) (catenarylaw06_awake_s h251 ((hw.pick [0, 1, 2] (by kernel_rfl)).pack 0)) fun a w v hv hs => ?_
                                  obtain ⟨rfl, hw⟩ := hv
                                  replace hw := hw.unpack 0 rfl
                                  refine pures hs 1 [4, 112] [(4, .pointer (some ⟨b131, 0, none⟩)), (112, .bool y250)] (by kernel_rfl) fun a hs => ?_
                                  refine s_store hs hw 0 rfl 0 (by kernel_rfl) (by kernel_rfl) (v := .bool y250) (by kernel_rfl) (by kernel_rfl) (by kernel_rfl) (by kernel_rfl) fun a w hs hw => ?_
                                  refine s_end ?_
                                  obtain rfl := someE hx222
                                  exact (hJ223 _ _).2 ⟨y250, hk, hs.cast [4] (by kernel_rfl), hw.pick [0, 1, 2] (by kernel_rfl)⟩
                                · replace hs := hs.altB 110 false (by kernel_rfl) h249
                                  refine pures hs 2 [4, 112] [(4, .pointer (some ⟨b131, 0, none⟩)), (112, .bool false)] (by kernel_rfl) fun a hs => ?_
                                  refine s_store hs hw 0 rfl 0 (by kernel_rfl) (by kernel_rfl) (v := .bool false) (by kernel_rfl) (by kernel_rfl) (by kernel_rfl) (by kernel_rfl) fun a w hs hw => ?_
                                  refine s_end ?_
                                  obtain rfl := someE hx222
                                  exact (hJ223 _ _).2 ⟨false, hk, hs.cast [4] (by kernel_rfl), hw.pick [0, 1, 2] (by kernel_rfl)⟩
                              · replace hs := hs.altB 105 false (by kernel_rfl) h246
                                refine pures hs 7 [4, 112] [(4, .pointer (some ⟨b131, 0, none⟩)), (112, .bool false)] (by kernel_rfl) fun a hs => ?_
                                refine s_store hs hw 0 rfl 0 (by kernel_rfl) (by kernel_rfl) (v := .bool false) (by kernel_rfl) (by kernel_rfl) (by kernel_rfl) (by kernel_rfl) fun a w hs hw => ?_
                                refine s_end ?_
                                obtain rfl := someE hx222
                                exact (hJ223 _ _).2 ⟨false, hk, hs.cast [4] (by kernel_rfl), hw.pick [0, 1, 2] (by kernel_rfl)⟩
                            · replace hs := hs.altB 100 false (by kernel_rfl) h243
                              refine pures hs 12 [4, 112] [(4, .pointer (some ⟨b131, 0, none⟩)), (112, .bool false)] (by kernel_rfl) fun a hs => ?_
                              refine s_store hs hw 0 rfl 0 (by kernel_rfl) (by kernel_rfl) (v := .bool false) (by kernel_rfl) (by kernel_rfl) (by kernel_rfl) (by kernel_rfl) fun a w hs hw => ?_
                              refine s_end ?_
                              obtain rfl := someE hx222
                              exact (hJ223 _ _).2 ⟨false, hk, hs.cast [4] (by kernel_rfl), hw.pick [0, 1, 2] (by kernel_rfl)⟩
                          · replace hs := hs.altB 94 false (by kernel_rfl) h240
                            refine pures hs 18 [4, 112] [(4, .pointer (some ⟨b131, 0, none⟩)), (112, .bool false)] (by kernel_rfl) fun a hs => ?_
                            refine s_store hs hw 0 rfl 0 (by kernel_rfl) (by kernel_rfl) (v := .bool false) (by kernel_rfl) (by kernel_rfl) (by kernel_rfl) (by kernel_rfl) fun a w hs hw => ?_
                            refine s_end ?_
                            obtain rfl := someE hx222
                            exact (hJ223 _ _).2 ⟨false, hk, hs.cast [4] (by kernel_rfl), hw.pick [0, 1, 2] (by kernel_rfl)⟩
                        · replace hs := hs.altB 89 false (by kernel_rfl) h237
                          refine pures hs 23 [4, 112] [(4, .pointer (some ⟨b131, 0, none⟩)), (112, .bool false)] (by kernel_rfl) fun a hs => ?_
                          refine s_store hs hw 0 rfl 0 (by kernel_rfl) (by kernel_rfl) (v := .bool false) (by kernel_rfl) (by kernel_rfl) (by kernel_rfl) (by kernel_rfl) fun a w hs hw => ?_
                          refine s_end ?_
                          obtain rfl := someE hx222
                          exact (hJ223 _ _).2 ⟨false, hk, hs.cast [4] (by kernel_rfl), hw.pick [0, 1, 2] (by kernel_rfl)⟩
                      · replace hs := hs.altB 83 false (by kernel_rfl) h234
                        refine pures hs 29 [4, 112] [(4, .pointer (some ⟨b131, 0, none⟩)), (112, .bool false)] (by kernel_rfl) fun a hs => ?_
                        refine s_store hs hw 0 rfl 0 (by kernel_rfl) (by kernel_rfl) (v := .bool false) (by kernel_rfl) (by kernel_rfl) (by kernel_rfl) (by kernel_rfl) fun a w hs hw => ?_
                        refine s_end ?_
                        obtain rfl := someE hx222
                        exact (hJ223 _ _).2 ⟨false, hk, hs.cast [4] (by kernel_rfl), hw.pick [0, 1, 2] (by kernel_rfl)⟩
                    · replace hs := hs.altB 76 false (by kernel_rfl) h231
                      refine pures hs 36 [4, 112] [(4, .pointer (some ⟨b131, 0, none⟩)), (112, .bool false)] (by kernel_rfl) fun a hs => ?_
                      refine s_store hs hw 0 rfl 0 (by kernel_rfl) (by kernel_rfl) (v := .bool false) (by kernel_rfl) (by kernel_rfl) (by kernel_rfl) (by kernel_rfl) fun a w hs hw => ?_
                      refine s_end ?_
                      obtain rfl := someE hx222
                      exact (hJ223 _ _).2 ⟨false, hk, hs.cast [4] (by kernel_rfl), hw.pick [0, 2, 3] (by kernel_rfl)⟩
                  · replace hs := hs.altB 72 false (by kernel_rfl) h230
                    refine pures hs 40 [4, 112] [(4, .pointer (some ⟨b131, 0, none⟩)), (112, .bool false)] (by kernel_rfl) fun a hs => ?_
                    refine s_store hs hw 0 rfl 0 (by kernel_rfl) (by kernel_rfl) (v := .bool false) (by kernel_rfl) (by kernel_rfl) (by kernel_rfl) (by kernel_rfl) fun a w hs hw => ?_
                    refine s_end ?_
                    obtain rfl := someE hx222
                    exact (hJ223 _ _).2 ⟨false, hk, hs.cast [4] (by kernel_rfl), hw.pick [0, 2, 3] (by kernel_rfl)⟩
                · replace hs := hs.altB 68 false (by kernel_rfl) h229
                  refine pures hs 44 [4, 112] [(4, .pointer (some ⟨b131, 0, none⟩)), (112, .bool false)] (by kernel_rfl) fun a hs => ?_
                  refine s_store hs hw 0 rfl 0 (by kernel_rfl) (by kernel_rfl) (v := .bool false) (by kernel_rfl) (by kernel_rfl) (by kernel_rfl) (by kernel_rfl) fun a w hs hw => ?_
                  refine s_end ?_
                  obtain rfl := someE hx222
                  exact (hJ223 _ _).2 ⟨false, hk, hs.cast [4] (by kernel_rfl), hw.pick [0, 2, 3] (by kernel_rfl)⟩
              · replace hs := hs.altB 64 false (by kernel_rfl) h228
                refine pures hs 48 [4, 112] [(4, .pointer (some ⟨b131, 0, none⟩)), (112, .bool false)] (by kernel_rfl) fun a hs => ?_
                refine s_store hs hw 0 rfl 0 (by kernel_rfl) (by kernel_rfl) (v := .bool false) (by kernel_rfl) (by kernel_rfl) (by kernel_rfl) (by kernel_rfl) fun a w hs hw => ?_
                refine s_end ?_
                obtain rfl := someE hx222
                exact (hJ223 _ _).2 ⟨false, hk, hs.cast [4] (by kernel_rfl), hw.pick [0, 2, 3] (by kernel_rfl)⟩
            · replace hs := hs.altB 60 false (by kernel_rfl) h227
              refine pures hs 52 [4, 112] [(4, .pointer (some ⟨b131, 0, none⟩)), (112, .bool false)] (by kernel_rfl) fun a hs => ?_
              refine s_store hs hw 0 rfl 0 (by kernel_rfl) (by kernel_rfl) (v := .bool false) (by kernel_rfl) (by kernel_rfl) (by kernel_rfl) (by kernel_rfl) fun a w hs hw => ?_
              refine s_end ?_
              obtain rfl := someE hx222
              exact (hJ223 _ _).2 ⟨false, hk, hs.cast [4] (by kernel_rfl), hw.pick [0, 2, 3] (by kernel_rfl)⟩
          · replace hs := hs.altB 56 false (by kernel_rfl) h226
            refine pures hs 56 [4, 112] [(4, .pointer (some ⟨b131, 0, none⟩)), (112, .bool false)] (by kernel_rfl) fun a hs => ?_
            refine s_store hs hw 0 rfl 0 (by kernel_rfl) (by kernel_rfl) (v := .bool false) (by kernel_rfl) (by kernel_rfl) (by kernel_rfl) (by kernel_rfl) fun a w hs hw => ?_
            refine s_end ?_
            obtain rfl := someE hx222
            exact (hJ223 _ _).2 ⟨false, hk, hs.cast [4] (by kernel_rfl), hw.pick [0, 2, 3] (by kernel_rfl)⟩
        · replace hs := hs.altB 52 false (by kernel_rfl) h225
          refine pures hs 60 [4, 112] [(4, .pointer (some ⟨b131, 0, none⟩)), (112, .bool false)] (by kernel_rfl) fun a hs => ?_
          refine s_store hs hw 0 rfl 0 (by kernel_rfl) (by kernel_rfl) (v := .bool false) (by kernel_rfl) (by kernel_rfl) (by kernel_rfl) (by kernel_rfl) fun a w hs hw => ?_
          refine s_end ?_
          obtain rfl := someE hx222
          exact (hJ223 _ _).2 ⟨false, hk, hs.cast [4] (by kernel_rfl), hw.pick [0, 2, 3] (by kernel_rfl)⟩
      · replace hs := hs.altB 48 false (by kernel_rfl) h224
        refine pures hs 64 [4, 112] [(4, .pointer (some ⟨b131, 0, none⟩)), (112, .bool false)] (by kernel_rfl) fun a hs => ?_
        refine s_store hs hw 0 rfl 0 (by kernel_rfl) (by kernel_rfl) (v := .bool false) (by kernel_rfl) (by kernel_rfl) (by kernel_rfl) (by kernel_rfl) fun a w hs hw => ?_
        refine s_end ?_
        obtain rfl := someE hx222
        exact (hJ223 _ _).2 ⟨false, hk, hs.cast [4] (by kernel_rfl), hw.pick [0, 2, 3] (by kernel_rfl)⟩
    · intro a w hh
      obtain ⟨x220, hk, hs, hw⟩ := (hJ223 _ _).1 hh
      refine c_ret ?_
      obtain rfl := someE hk
      refine hQ _ _ (f_retM hs hw 1 rfl fun a w hs hw => (f_retC hs rfl (hw.at_ 0 rfl) (by kernel_rfl) (v := .bool x220) (by kernel_rfl) ⟨rfl, hw.pick [2] (by kernel_rfl)⟩))
end Go.Proofs.Ytfpllbnljlbepaa.Sx
