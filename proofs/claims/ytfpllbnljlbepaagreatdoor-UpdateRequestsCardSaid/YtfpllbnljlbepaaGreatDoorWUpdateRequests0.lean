/- The walk of UpdateRequests: each Go function that it calls, as a plain function, and the proof that the call computes it. Printed by the program gen.py.
   Conditions: those that each theorem states ahead of its colon, and no other. -/
import Derived.Test.YtfpllbnljlbepaaGreatDoorSx9
import Derived.Test.YtfpllbnljlbepaaGreatDoorSxO
import Derived.Test.YtfpllbnljlbepaaGreatDoorProg
namespace Go.Proofs.YtfpllbnljlbepaaGreatDoor.Sx
open Go Go.Proofs
set_option maxRecDepth 100000
set_option linter.unusedVariables false
@[reducible] def e5 : ET := eInt .u8 5
structure M42 where
  f0 : Int
  f1 : Int
  f2 : Int
  f3 : List Int
  f4 : Int
@[reducible] def e42 : ET := ⟨M42, 5, 42, fun ih x cs => ∃ q0 k0, cs = [.int .i64 x.f0, .int .u32 x.f1, .int .u64 x.f2, .slice q0 x.f3.length k0, .int .i64 x.f4] ∧ RSl e5 ih [] q0 k0 x.f3,
  fun ⟨_, _, h, g0⟩ => by rw [h]; rfl, fun ⟨_, _, h, g0⟩ => by rw [h]; rfl, fun ⟨p0, p1, h, g0⟩ hle => ⟨p0, p1, h, g0.mono hle⟩⟩
structure M26 where
  f0 : Int
  f1 : Int
  f2 : Int
  f3 : Int
  f4 : Int
  f5 : Int
  f6 : List Int
@[reducible] def e26 : ET := ⟨M26, 7, 26, fun ih x cs => ∃ q0 k0, cs = [.int .u64 x.f0, .int .i64 x.f1, .int .u64 x.f2, .int .i64 x.f3, .int .u32 x.f4, .int .u64 x.f5, .slice q0 x.f6.length k0] ∧ RSl e5 ih [] q0 k0 x.f6,
  fun ⟨_, _, h, g0⟩ => by rw [h]; rfl, fun ⟨_, _, h, g0⟩ => by rw [h]; rfl, fun ⟨p0, p1, h, g0⟩ hle => ⟨p0, p1, h, g0.mono hle⟩⟩
@[reducible] def e22 : ET := eInt .u64 22
@[reducible] def e3 : ET := eInt .i64 3
@[reducible] def e23 : ET := eInt .u32 23
@[reducible] def e24 : ET := eSl 24 e5
structure M84 where
  f0 : Int
  f1 : Int
  f2 : Int
  f3 : Int
@[reducible] def e84 : ET := ⟨M84, 4, 84, fun ih x cs => cs = [.int .i64 x.f0, .int .i64 x.f1, .int .u64 x.f2, .int .i64 x.f3],
  fun h => by rw [h]; rfl, fun h => by rw [h]; rfl, fun h hle => h⟩
structure M105 where
  f0 : Int
  f1 : Int
  f2 : M84
@[reducible] def e105 : ET := ⟨M105, 6, 105, fun ih x cs => cs = [.int .i64 x.f0, .int .u64 x.f1, .int .i64 x.f2.f0, .int .i64 x.f2.f1, .int .u64 x.f2.f2, .int .i64 x.f2.f3],
  fun h => by rw [h]; rfl, fun h => by rw [h]; rfl, fun h hle => h⟩
structure M101 where
  f0 : Value
  f1 : Value
  f2 : Value
@[reducible] def e101 : ET := ⟨M101, 3, 101, fun ih x cs => cs = [x.f0, x.f1, x.f2] ∧ x.f0.oneCell' = true ∧ x.f1.oneCell' = true ∧ x.f2.oneCell' = true,
  fun ⟨h, g0, g1, g2⟩ => by rw [h]; rfl, fun ⟨h, g0, g1, g2⟩ => by rw [h]; exact (plainCons g0 (plainCons g1 (plainCons g2 rfl))), fun ⟨h, g0, g1, g2⟩ hle => ⟨h, g0, g1, g2⟩⟩
@[reducible] def e97 : ET := eVal 97
@[reducible] def e98 : ET := eVal 98
@[reducible] def e99 : ET := eVal 99
def gl0 : List Value := [(.string ⟨#[]⟩), .int .i64 0, .int .i64 0, .int .i64 0, .int .i64 0, .int .i64 0, .int .i64 0, (.string ⟨#[112, 114, 101, 112, 97, 114, 101]⟩), .int .i64 4, .int .i64 32, .int .i64 0, .int .i64 0, .int .i64 0, .int .i64 0, (.string ⟨#[112, 114, 111, 109, 105, 115, 101]⟩), .int .i64 4, .int .i64 32, .int .i64 4096, .int .i64 0, .int .i64 0, .int .i64 0, (.string ⟨#[97, 99, 99, 101, 112, 116]⟩), .int .i64 4, .int .i64 32, .int .i64 1024, .int .i64 0, .int .i64 0, .int .i64 0, (.string ⟨#[97, 99, 99, 101, 112, 116, 101, 100]⟩), .int .i64 4, .int .i64 32, .int .i64 0, .int .i64 0, .int .i64 0, .int .i64 0, (.string ⟨#[99, 104, 111, 115, 101, 110]⟩), .int .i64 32, .int .i64 1024, .int .i64 0, .int .i64 0, .int .i64 0, .int .i64 0, (.string ⟨#[98, 101, 97, 116]⟩), .int .i64 4, .int .i64 32, .int .i64 0, .int .i64 0, .int .i64 0, .int .i64 0, (.string ⟨#[119, 97, 110, 116]⟩), .int .i64 32, .int .i64 0, .int .i64 0, .int .i64 0, .int .i64 0, .int .i64 0, (.string ⟨#[114, 101, 102, 117, 115, 101]⟩), .int .i64 4, .int .i64 0, .int .i64 0, .int .i64 0, .int .i64 0, .int .i64 0, (.string ⟨#[114, 101, 112, 111, 114, 116]⟩), .int .i64 1024, .int .i64 0, .int .i64 0, .int .i64 0, .int .i64 0, .int .i64 0, (.string ⟨#[108, 111, 99, 97, 116, 101]⟩), .int .i64 1, .int .i64 0, .int .i64 0, .int .i64 0, .int .i64 0, .int .i64 0, (.string ⟨#[99, 111, 110, 102, 105, 103]⟩), .int .i64 2048, .int .i64 0, .int .i64 0, .int .i64 0, .int .i64 0, .int .i64 0, (.string ⟨#[112, 117, 115, 104]⟩), .int .i64 1, .int .i64 2, .int .i64 8, .int .i64 16, .int .i64 8192, .int .i64 0, (.string ⟨#[97, 99, 107]⟩), .int .i64 1, .int .i64 2, .int .i64 8, .int .i64 16, .int .i64 64, .int .i64 32, (.string ⟨#[112, 97, 114, 116]⟩), .int .i64 1, .int .i64 2, .int .i64 8, .int .i64 32, .int .i64 64, .int .i64 16384, (.string ⟨#[113, 117, 101, 114, 121]⟩), .int .i64 1, .int .i64 2, .int .i64 64, .int .i64 256, .int .i64 0, .int .i64 0, (.string ⟨#[116, 111, 108, 100]⟩), .int .i64 1, .int .i64 2, .int .i64 64, .int .i64 256, .int .i64 512, .int .i64 0, (.string ⟨#[119, 114, 105, 116, 101]⟩), .int .i64 1, .int .i64 2, .int .i64 8192, .int .i64 0, .int .i64 0, .int .i64 0, (.string ⟨#[119, 114, 111, 116, 101]⟩), .int .i64 64, .int .i64 128, .int .i64 512, .int .i64 0, .int .i64 0, .int .i64 0, (.string ⟨#[114, 101, 97, 100]⟩), .int .i64 1, .int .i64 2, .int .i64 64, .int .i64 256, .int .i64 0, .int .i64 0, (.string ⟨#[103, 111, 116]⟩), .int .i64 64, .int .i64 256, .int .i64 512, .int .i64 16384, .int .i64 0, .int .i64 0]
theorem appT24 : AppT Tryz.prog 24 e5 := appT_of (by kernel_rfl)
theorem appT95 : AppT Tryz.prog 95 e101 := appT_of (by kernel_rfl)
def update_writes : Option Unit :=
  some ()
theorem update_writes_s {r : Unit} (hk : update_writes = some r) {g w : World} {F : Ch} {ih : IH} (hw : St g w [F] ih) :
    CallsR Tryz.prog 41 #[.int .i64 3] w fun v w' => v = .bool true ∧ St g w' [F] ih := by
  refine f_in (vs := [.int .i64 3]) Tryz.func41 rfl 7 rfl (by kernel_rfl) [(0, .int .i64 3)] (by kernel_rfl) fun a Qf hQ hQn hs => ?_
  refine c_seq ?_
  refine c_region ?_
  refine pures hs 1 [0] [(0, .int .i64 3)] (by kernel_rfl) fun a hs => ?_
  refine s_end ?_
  refine c_seq ?_
  refine c_region ?_
  refine pures hs 1 [3] [(3, .int .i64 3)] (by kernel_rfl) fun a hs => ?_
  refine s_end ?_
  refine c_block ?_
  refine c_seq ?_
  refine c_seq ?_
  refine c_region ?_
  refine pures hs 2 [3, 4] [(3, .int .i64 3), (4, .bool false)] (by kernel_rfl) fun a hs => ?_
  refine s_end ?_
  refine c_condF hs (by kernel_rfl) (by kernel_rfl) ?_
  refine c_region ?_
  refine pures hs 2 [4] [(4, .bool true)] (by kernel_rfl) fun a hs => ?_
  refine s_end ?_
  refine c_condT hs (by kernel_rfl) (by kernel_rfl) ?_
  refine c_seq ?_
  refine c_region ?_
  refine pures hs 1 [2] [(2, .bool true)] (by kernel_rfl) fun a hs => ?_
  refine s_end ?_
  refine c_ret ?_
  obtain rfl := someE hk
  refine hQ _ _ (f_ret1 hs rfl (v := .bool true) (by kernel_rfl) ⟨rfl, hw.pick [0] (by kernel_rfl)⟩)
def update_Outcome : Option Unit :=
  some ()
theorem update_Outcome_s {r : Unit} (hk : update_Outcome = some r) {g w : World} {F : Ch} {ih : IH} (hw : St g w [F] ih) :
    CallsR Tryz.prog 10 #[.agg #[.int .u64 0, .int .i64 0, .int .u64 0, .int .i64 3, .int .u32 0, .int .u64 3, .slice none 0 0], .int .u64 4, .bool true] w fun v w' => v = .tuple #[.int .i64 11, .int .u64 4, .bool false] ∧ St g w' [F] ih := by
  refine f_in (vs := [.agg #[.int .u64 0, .int .i64 0, .int .u64 0, .int .i64 3, .int .u32 0, .int .u64 3, .slice none 0 0], .int .u64 4, .bool true]) Tryz.func10 rfl 40 rfl (by kernel_rfl) [(0, .agg #[.int .u64 0, .int .i64 0, .int .u64 0, .int .i64 3, .int .u32 0, .int .u64 3, .slice none 0 0]), (1, .int .u64 4), (2, .bool true)] (by kernel_rfl) fun a Qf hQ hQn hs => ?_
  refine c_seq ?_
  refine c_region ?_
  refine s_new hs hw [.int .u64 0, .int .i64 0, .int .u64 0, .int .i64 3, .int .u32 0, .int .u64 3, .slice none 0 0] 26 (fun b => .pointer (some ⟨b, 0, none⟩)) (by kernel_rfl) (fun _ => by kernel_rfl) fun a w b13 hs hw => ?_
  refine pures hs 3 [1, 2, 3] [(1, .int .u64 4), (2, .bool true), (3, .pointer (some ⟨b13, 0, none⟩))] (by kernel_rfl) fun a hs => ?_
  refine s_end ?_
  refine c_seq ?_
  refine c_block ?_
  refine c_seq ?_
  refine c_region ?_
  refine pures hs 1 [1, 2, 3, 10] [(1, .int .u64 4), (2, .bool true), (3, .pointer (some ⟨b13, 0, none⟩)), (10, .pointer (some ⟨b13, 3, none⟩))] (by kernel_rfl) fun a hs => ?_
  refine s_load hs (hw.at_ 0 rfl) 3 (by kernel_rfl) (by kernel_rfl) (v := .int .i64 3) (by kernel_rfl) fun a hs => ?_
  have h18 : update_writes = some () := rfl
  refine s_call hs (by kernel_rfl) (by kernel_rfl) (update_writes_s h18 ((hw.pick [0, 1] (by kernel_rfl)).pack 0)) fun a w v hv hs => ?_
  obtain ⟨rfl, hw⟩ := hv
  replace hw := hw.unpack 0 rfl
  refine pures hs 2 [1, 2, 3, 9] [(1, .int .u64 4), (2, .bool true), (3, .pointer (some ⟨b13, 0, none⟩)), (9, .bool false)] (by kernel_rfl) fun a hs => ?_
  refine s_end ?_
  refine c_condF hs (by kernel_rfl) (by kernel_rfl) ?_
  refine c_seq ?_
  refine c_region ?_
  refine pures hs 1 [1, 2, 3, 16] [(1, .int .u64 4), (2, .bool true), (3, .pointer (some ⟨b13, 0, none⟩)), (16, .pointer (some ⟨b13, 3, none⟩))] (by kernel_rfl) fun a hs => ?_
  refine s_load hs (hw.at_ 0 rfl) 3 (by kernel_rfl) (by kernel_rfl) (v := .int .i64 3) (by kernel_rfl) fun a hs => ?_
  refine pures hs 3 [1, 2, 19, 20] [(1, .int .u64 4), (2, .bool true), (19, .bool true), (20, .pointer (some ⟨b13, 5, none⟩))] (by kernel_rfl) fun a hs => ?_
  refine s_load hs (hw.at_ 0 rfl) 5 (by kernel_rfl) (by kernel_rfl) (v := .int .u64 3) (by kernel_rfl) fun a hs => ?_
  refine pures hs 4 [1, 2, 15] [(1, .int .u64 4), (2, .bool true), (15, .bool true)] (by kernel_rfl) fun a hs => ?_
  refine s_end ?_
  refine c_condT hs (by kernel_rfl) (by kernel_rfl) ?_
  refine c_seq ?_
  refine c_region ?_
  refine pures hs 4 [6, 7, 8] [(6, .int .i64 11), (7, .int .u64 4), (8, .bool false)] (by kernel_rfl) fun a hs => ?_
  refine s_end ?_
  refine c_ret ?_
  obtain rfl := someE hk
  refine hQ _ _ (f_retN hs [.tmp 6, .tmp 7, .tmp 8] rfl [.int .i64 11, .int .u64 4, .bool false] (by kernel_rfl) (by kernel_rfl) ⟨rfl, hw.pick [1] (by kernel_rfl)⟩)
def update_Runs : Option Unit :=
  some ()
theorem update_Runs_s {r : Unit} (hk : update_Runs = some r) {g w : World} {F : Ch} {ih : IH} (hw : St g w [F] ih) :
    CallsR Tryz.prog 40 #[.slice none 0 0, .int .u64 9] w fun v w' => v = .bool true ∧ St g w' [F] ih := by
  refine f_in (vs := [.slice none 0 0, .int .u64 9]) Tryz.func40 rfl 28 rfl (by kernel_rfl) [(0, .slice none 0 0), (1, .int .u64 9)] (by kernel_rfl) fun a Qf hQ hQn hs => ?_
  refine c_seq ?_
  refine c_region ?_
  refine pures hs 1 [0, 1] [(0, .slice none 0 0), (1, .int .u64 9)] (by kernel_rfl) fun a hs => ?_
  refine s_end ?_
  refine c_seq ?_
  refine c_seq ?_
  refine c_region ?_
  refine pures hs 3 [1, 7, 8, 9] [(1, .int .u64 9), (7, .slice none 0 0), (8, .int .i64 0), (9, .int .i64 0)] (by kernel_rfl) fun a hs => ?_
  refine s_end ?_
  refine c_block ?_
  refine wpIn_loop_rounds 1 ?_
  refine c_unr ?_
  refine c_seq ?_
  refine c_region ?_
  refine pures hs 1 [1, 7, 8, 9, 10] [(1, .int .u64 9), (7, .slice none 0 0), (8, .int .i64 0), (9, .int .i64 0), (10, .bool false)] (by kernel_rfl) fun a hs => ?_
  refine s_end ?_
  refine c_seq ?_
  refine c_condF hs (by kernel_rfl) (by kernel_rfl) ?_
  refine c_exit ?_
  refine c_seq ?_
  refine c_region ?_
  refine pures hs 1 [4] [(4, .bool true)] (by kernel_rfl) fun a hs => ?_
  refine s_end ?_
  refine c_ret ?_
  obtain rfl := someE hk
  refine hQ _ _ (f_ret1 hs rfl (v := .bool true) (by kernel_rfl) ⟨rfl, hw.pick [0] (by kernel_rfl)⟩)
def catenarylaw17_awake : Option Unit :=
  some ()
theorem catenarylaw17_awake_s {r : Unit} (hk : catenarylaw17_awake = some r) {g w : World} {F : Ch} {ih : IH} (hw : St g w [F] ih) :
    CallsR Tryz.prog 9 #[] w fun v w' => v = .bool true ∧ St g w' [F] ih := by
  refine f_in (vs := []) Tryz.func9 rfl 23 rfl (by kernel_rfl) [] (by kernel_rfl) fun a Qf hQ hQn hs => ?_
  refine c_seq ?_
  refine c_region ?_
  refine pures hs 1 [] [] (by kernel_rfl) fun a hs => ?_
  refine s_end ?_
  refine c_seq ?_
  refine c_region ?_
  refine pures hs 1 [5] [(5, .agg #[.int .u64 0, .int .i64 0, .int .u64 0, .int .i64 3, .int .u32 0, .int .u64 3, .slice none 0 0])] (by kernel_rfl) fun a hs => ?_
  have h14 : update_Outcome = some () := rfl
  refine s_call hs (by kernel_rfl) (by kernel_rfl) (update_Outcome_s h14 ((hw.pick [0] (by kernel_rfl)).pack 0)) fun a w v hv hs => ?_
  obtain ⟨rfl, hw⟩ := hv
  replace hw := hw.unpack 0 rfl
  refine pures hs 7 [1, 2, 3] [(1, .int .i64 11), (2, .int .u64 4), (3, .bool false)] (by kernel_rfl) fun a hs => ?_
  refine s_end ?_
  refine c_seq ?_
  refine c_region ?_
  refine pures hs 11 [20] [(20, .bool true)] (by kernel_rfl) fun a hs => ?_
  have h18 : update_Runs = some () := rfl
  refine s_call hs (by kernel_rfl) (by kernel_rfl) (update_Runs_s h18 ((hw.pick [0] (by kernel_rfl)).pack 0)) fun a w v hv hs => ?_
  obtain ⟨rfl, hw⟩ := hv
  replace hw := hw.unpack 0 rfl
  refine pures hs 2 [0] [(0, .bool true)] (by kernel_rfl) fun a hs => ?_
  refine s_end ?_
  refine c_ret ?_
  obtain rfl := someE hk
  refine hQ _ _ (f_ret1 hs rfl (v := .bool true) (by kernel_rfl) ⟨rfl, hw.pick [0] (by kernel_rfl)⟩)
def bytes_Clone (x1 : List Int) : Option (List Int) :=
  (app [] x1).bind fun x => some x
theorem bytes_Clone_s {x1 : List Int} {p2 : Option Addr} {c3 : Nat} {d5 : Ch} {r : List Int} (hk : bytes_Clone x1 = some r) {g w : World} {F : Ch} {ih : IH} (h4 : RSl e5 ih d5 p2 c3 x1) (h6 : ∀ q ∈ d5, q ∈ F) (hw : St g w [F] ih) :
    CallsR Tryz.prog 42 #[.slice p2 x1.length c3] w fun v w' => ∃ (p : Option Addr) (c : Nat) (d : Ch), v = .slice p r.length c ∧ St g w' [d, F] ih ∧ OSl e5 ih p c r d := by
  rcases p2 with _ | q
  · obtain ⟨_, rfl, rfl⟩ := h4
    replace hk : some [] = some r := hk
    refine f_in (vs := [.slice none 0 0]) Tryz.func42 rfl 8 rfl (by kernel_rfl) [(0, .slice none 0 0)] (by kernel_rfl) fun a Qf hQ hQn hs => ?_
    refine c_seq ?_
    refine c_region ?_
    refine pures hs 1 [0] [(0, .slice none 0 0)] (by kernel_rfl) fun a hs => ?_
    refine s_end ?_
    refine c_seq ?_
    refine c_seq ?_
    refine c_region ?_
    refine pures hs 2 [0, 4] [(0, .slice none 0 0), (4, .bool true)] (by kernel_rfl) fun a hs => ?_
    refine s_end ?_
    refine c_condT hs (by kernel_rfl) (by kernel_rfl) ?_
    refine c_seq ?_
    refine c_region ?_
    refine pures hs 1 [2] [(2, .slice none 0 0)] (by kernel_rfl) fun a hs => ?_
    refine s_end ?_
    refine c_ret ?_
    replace hw := hw.nil
    obtain rfl := someE hk
    refine hQ _ _ (f_ret1 hs rfl (v := .slice none 0 0) (by kernel_rfl) ⟨none, 0, ([]), rfl, hw.pick [0, 1] (by kernel_rfl), (OSl.nil _ _)⟩)
  refine f_in (vs := [.slice (some q) x1.length c3]) Tryz.func42 rfl 8 rfl (by kernel_rfl) [(0, .slice (some q) x1.length c3)] (by kernel_rfl) fun a Qf hQ hQn hs => ?_
  refine c_seq ?_
  refine c_region ?_
  refine pures hs 1 [0] [(0, .slice (some q) x1.length c3)] (by kernel_rfl) fun a hs => ?_
  refine s_end ?_
  refine c_seq ?_
  refine c_seq ?_
  refine c_region ?_
  refine pures hs 2 [0, 4] [(0, .slice (some q) x1.length c3), (4, .bool false)] (by kernel_rfl) fun a hs => ?_
  refine s_end ?_
  refine c_condF hs (by kernel_rfl) (by kernel_rfl) ?_
  refine c_skip ?_
  refine c_seq ?_
  refine c_region ?_
  refine s_new hs hw [] 5 (fun b => .slice (some ⟨b, 0, none⟩) 0 0) (by kernel_rfl) (fun _ => by kernel_rfl) fun a w b18 hs hw => ?_
  refine pures hs 1 [5, 6] [(5, .slice (some ⟨b18, 0, none⟩) 0 0), (6, .slice (some q) x1.length c3)] (by kernel_rfl) fun a hs => ?_
  obtain ⟨x20, h21, hk⟩ := bindE hk
  refine s_appS hs hw (E := e5) appT24 0 rfl OSl.of0 (by kernel_rfl) (by kernel_rfl) (h4.mono (Le.refl _)) (((hw.vw 1 rfl).sub h6).anti (Le.refl _)) (by kernel_rfl) h21 fun a w p22 c23 d24 h25 hw hs => ?_
  refine pures hs 1 [2] [(2, .slice p22 x20.length c23)] (by kernel_rfl) fun a hs => ?_
  refine s_end ?_
  refine c_ret ?_
  obtain rfl := someE hk
  refine hQ _ _ (f_ret1 hs rfl (v := .slice p22 x20.length c23) (by kernel_rfl) ⟨p22, c23, d24, rfl, hw.pick [0, 1] (by kernel_rfl), h25⟩)
def update_writes_2_r2 (x15 : Bool) : Option Bool :=
  if x15 = true then some true
  else some false
def update_writes_2 (x1 : Int) : Option Bool :=
  (if (x1 == 2) = true then some (x1 == 2)
    else some (x1 == 3) : Option Bool).bind fun s21 => update_writes_2_r2 s21
theorem update_writes_2_s {x1 : Int} {r : Bool} (hk : update_writes_2 x1 = some r) {g w : World} {F : Ch} {ih : IH} (hw : St g w [F] ih) :
    CallsR Tryz.prog 41 #[.int .i64 x1] w fun v w' => v = .bool r ∧ St g w' [F] ih := by
  refine f_in (vs := [.int .i64 x1]) Tryz.func41 rfl 7 rfl (by kernel_rfl) [(0, .int .i64 x1)] (by kernel_rfl) fun a Qf hQ hQn hs => ?_
  refine c_seq ?_
  refine c_region ?_
  refine pures hs 1 [0] [(0, .int .i64 x1)] (by kernel_rfl) fun a hs => ?_
  refine s_end ?_
  refine c_seq ?_
  refine c_region ?_
  refine pures hs 1 [3] [(3, .int .i64 x1)] (by kernel_rfl) fun a hs => ?_
  refine s_end ?_
  refine c_block ?_
  obtain ⟨y17, hx18, hk⟩ := bindE hk
  obtain ⟨J19, hJ19⟩ : ∃ J : Act → World → Prop, ∀ a w, J a w ↔ (∃ (x15 : Bool), update_writes_2_r2 x15 = some r ∧ Sees a 7 [(4, .bool x15)] ∧ St g w [F] ih) := ⟨_, fun _ _ => Iff.rfl⟩
  refine c_seqJ J19 ?_ ?_
  · refine c_seq ?_
    refine c_region ?_
    refine pures hs 2 [3, 4] [(3, .int .i64 x1), (4, .bool (x1 == 2))] (by kernel_rfl) fun a hs => ?_
    refine s_end ?_
    rcases ifbE hx18 with ⟨h20, hx18⟩ | ⟨h20, hx18⟩
    · refine c_cond1 hs (by kernel_rfl) (t := (x1 == 2)) (by kernel_rfl) h20 ?_
      refine c_skip ?_
      obtain rfl := someE hx18
      exact (hJ19 _ _).2 ⟨(x1 == 2), hk, hs.cast [4] (by kernel_rfl), hw.pick [0] (by kernel_rfl)⟩
    refine c_cond0 hs (by kernel_rfl) (t := (x1 == 2)) (by kernel_rfl) h20 ?_
    refine c_region ?_
    refine pures hs 2 [4] [(4, .bool (x1 == 3))] (by kernel_rfl) fun a hs => ?_
    refine s_end ?_
    obtain rfl := someE hx18
    exact (hJ19 _ _).2 ⟨(x1 == 3), hk, hs.cast [4] (by kernel_rfl), hw.pick [0] (by kernel_rfl)⟩
  intro a w hh
  obtain ⟨x15, hk, hs, hw⟩ := (hJ19 _ _).1 hh
  rcases ifbE hk with ⟨h16, hk⟩ | ⟨h16, hk⟩
  · refine c_cond1 hs (by kernel_rfl) (t := x15) (by kernel_rfl) h16 ?_
    refine c_seq ?_
    refine c_region ?_
    refine pures hs 1 [2] [(2, .bool true)] (by kernel_rfl) fun a hs => ?_
    refine s_end ?_
    refine c_ret ?_
    obtain rfl := someE hk
    refine hQ _ _ (f_ret1 hs rfl (v := .bool true) (by kernel_rfl) ⟨rfl, hw.pick [0] (by kernel_rfl)⟩)
  refine c_cond0 hs (by kernel_rfl) (t := x15) (by kernel_rfl) h16 ?_
  refine c_seq ?_
  refine c_region ?_
  refine pures hs 1 [2] [(2, .bool false)] (by kernel_rfl) fun a hs => ?_
  refine s_end ?_
  refine c_ret ?_
  obtain rfl := someE hk
  refine hQ _ _ (f_ret1 hs rfl (v := .bool false) (by kernel_rfl) ⟨rfl, hw.pick [0] (by kernel_rfl)⟩)
def letter_known : Option Unit :=
  some ()
theorem letter_known_s {r : Unit} (hk : letter_known = some r) {g w : World} {F : Ch} {ih : IH} (hw : St g w [F] ih) :
    CallsR Tryz.prog 55 #[.int .i64 17] w fun v w' => v = .bool true ∧ St g w' [F] ih := by
  refine f_in (vs := [.int .i64 17]) Tryz.func55 rfl 9 rfl (by kernel_rfl) [(0, .int .i64 17)] (by kernel_rfl) fun a Qf hQ hQn hs => ?_
  refine c_seq ?_
  refine c_region ?_
  refine pures hs 1 [0] [(0, .int .i64 17)] (by kernel_rfl) fun a hs => ?_
  refine s_end ?_
  refine c_seq ?_
  refine c_region ?_
  refine pures hs 7 [2] [(2, .bool true)] (by kernel_rfl) fun a hs => ?_
  refine s_end ?_
  refine c_ret ?_
  obtain rfl := someE hk
  refine hQ _ _ (f_ret1 hs rfl (v := .bool true) (by kernel_rfl) ⟨rfl, hw.pick [0] (by kernel_rfl)⟩)
def letter_Node : Option Unit :=
  some ()
theorem letter_Node_s {r : Unit} (hk : letter_Node = some r) {g w : World} {F : Ch} {ih : IH} (hw : St g w [F] ih) :
    CallsR Tryz.prog 60 #[.int .i64 1] w fun v w' => v = .bool true ∧ St g w' [F] ih := by
  refine f_in (vs := [.int .i64 1]) Tryz.func60 rfl 9 rfl (by kernel_rfl) [(0, .int .i64 1)] (by kernel_rfl) fun a Qf hQ hQn hs => ?_
  refine c_seq ?_
  refine c_region ?_
  refine pures hs 1 [0] [(0, .int .i64 1)] (by kernel_rfl) fun a hs => ?_
  refine s_end ?_
  refine c_seq ?_
  refine c_region ?_
  refine pures hs 7 [2] [(2, .bool true)] (by kernel_rfl) fun a hs => ?_
  refine s_end ?_
  refine c_ret ?_
  obtain rfl := someE hk
  refine hQ _ _ (f_ret1 hs rfl (v := .bool true) (by kernel_rfl) ⟨rfl, hw.pick [0] (by kernel_rfl)⟩)
def letter_Address : Option Unit :=
  some ()
theorem letter_Address_s {r : Unit} (hk : letter_Address = some r) {g w : World} {F : Ch} {ih : IH} (hw : St g w [F] ih) :
    CallsR Tryz.prog 56 #[.int .i64 1] w fun v w' => v = .bool true ∧ St g w' [F] ih := by
  refine f_in (vs := [.int .i64 1]) Tryz.func56 rfl 13 rfl (by kernel_rfl) [(0, .int .i64 1)] (by kernel_rfl) fun a Qf hQ hQn hs => ?_
  refine c_seq ?_
  refine c_region ?_
  refine pures hs 1 [0] [(0, .int .i64 1)] (by kernel_rfl) fun a hs => ?_
  refine s_end ?_
  refine c_seq ?_
  refine c_region ?_
  refine pures hs 1 [0, 3] [(0, .int .i64 1), (3, .int .i64 1)] (by kernel_rfl) fun a hs => ?_
  have h10 : letter_Node = some () := rfl
  refine s_call hs (by kernel_rfl) (by kernel_rfl) (letter_Node_s h10 ((hw.pick [0] (by kernel_rfl)).pack 0)) fun a w v hv hs => ?_
  obtain ⟨rfl, hw⟩ := hv
  replace hw := hw.unpack 0 rfl
  refine pures hs 9 [2] [(2, .bool true)] (by kernel_rfl) fun a hs => ?_
  refine s_end ?_
  refine c_ret ?_
  obtain rfl := someE hk
  refine hQ _ _ (f_ret1 hs rfl (v := .bool true) (by kernel_rfl) ⟨rfl, hw.pick [0] (by kernel_rfl)⟩)
def letter_bare_1 (x6 : Int) : Option Int :=
  some x6
theorem letter_bare_1_s {x3 : Int} {x4 : Int} {x5 : Int} {x6 : Int} {x7 : Int} {x8 : Int} {x9 : Int} {x10 : Int} {x11 : Int} {x12 : Int} {x13 : Int} {x14 : Int} {x15 : Int} {x16 : Int} {x17 : Int} {x18 : Int} {x19 : Int} {x20 : Int} {x21 : Int} {x22 : List Int} {x26 : Bool} {x27 : Int} {x28 : List M105} {x32 : List M26} {x36 : List Int} {x42 : Int} {x43 : Int} {x44 : Int} {x45 : Int} {x46 : Int} {x47 : Int} {x48 : Int} {x49 : Int} {x50 : Int} {x51 : Int} {x52 : Int} {x53 : Int} {x54 : Int} {x55 : Int} {x56 : Int} {x57 : Int} {x58 : Int} {x59 : Int} {x60 : Int} {x61 : List Int} {x65 : Bool} {x66 : Int} {x67 : List M105} {x71 : List M26} {x75 : List Int} {b2 : Nat} {p23 : Option Addr} {c24 : Nat} {p29 : Option Addr} {c30 : Nat} {p33 : Option Addr} {c34 : Nat} {p37 : Option Addr} {c38 : Nat} {b41 : Nat} {p62 : Option Addr} {c63 : Nat} {p68 : Option Addr} {c69 : Nat} {p72 : Option Addr} {c73 : Nat} {p76 : Option Addr} {c77 : Nat} {r : Int} (hk : letter_bare_1 x6 = some r) {g w : World} {F : Ch} {ih : IH} (h25 : RSl e3 ih [] p23 c24 x22) (h31 : RSl e105 ih [] p29 c30 x28) (h35 : RSl e26 ih [] p33 c34 x32) (h39 : RSl e5 ih [] p37 c38 x36) (h64 : RSl e3 ih [] p62 c63 x61) (h70 : RSl e105 ih [] p68 c69 x67) (h74 : RSl e26 ih [] p72 c73 x71) (h78 : RSl e5 ih [] p76 c77 x75) (hw : St g w [bx b2 [.int .i64 x3, .int .i64 x4, .int .i64 x5, .int .i64 x6, .int .u64 x7, .int .u64 x8, .int .u64 x9, .int .u64 x10, .int .u64 x11, .int .u64 x12, .int .i64 x13, .int .u32 x14, .int .i64 x15, .int .i64 x16, .int .i64 x17, .int .u64 x18, .int .i64 x19, .int .i64 x20, .int .u64 x21, .slice p23 x22.length c24, .bool x26, .int .i64 x27, .slice p29 x28.length c30, .slice p33 x32.length c34, .slice p37 x36.length c38] 90, bx b41 [.int .i64 x42, .int .i64 x43, .int .i64 x44, .int .i64 x45, .int .u64 x46, .int .u64 x47, .int .u64 x48, .int .u64 x49, .int .u64 x50, .int .u64 x51, .int .i64 x52, .int .u32 x53, .int .i64 x54, .int .i64 x55, .int .i64 x56, .int .u64 x57, .int .i64 x58, .int .i64 x59, .int .u64 x60, .slice p62 x61.length c63, .bool x65, .int .i64 x66, .slice p68 x67.length c69, .slice p72 x71.length c73, .slice p76 x75.length c77] 90, F] ih) :
    CallsR Tryz.prog 68 #[.pointer (some ⟨b2, 0, none⟩), .pointer (some ⟨b41, 0, none⟩)] w fun v w' => v = .tuple #[] ∧ St g w' [bx b2 [.int .i64 x3, .int .i64 x4, .int .i64 x5, .int .i64 x6, .int .u64 x7, .int .u64 x8, .int .u64 x9, .int .u64 x10, .int .u64 x11, .int .u64 x12, .int .i64 x13, .int .u32 x14, .int .i64 x15, .int .i64 x16, .int .i64 x17, .int .u64 x18, .int .i64 x19, .int .i64 x20, .int .u64 x21, .slice p23 x22.length c24, .bool x26, .int .i64 x27, .slice p29 x28.length c30, .slice p33 x32.length c34, .slice p37 x36.length c38] 90, bx b41 [.int .i64 x42, .int .i64 x43, .int .i64 x44, .int .i64 r, .int .u64 x46, .int .u64 x47, .int .u64 x48, .int .u64 x49, .int .u64 x50, .int .u64 x51, .int .i64 x52, .int .u32 x53, .int .i64 x54, .int .i64 x55, .int .i64 x56, .int .u64 x57, .int .i64 x58, .int .i64 x59, .int .u64 x60, .slice p62 x61.length c63, .bool x65, .int .i64 x66, .slice p68 x67.length c69, .slice p72 x71.length c73, .slice p76 x75.length c77] 90, F] ih := by
  refine f_in (vs := [.pointer (some ⟨b2, 0, none⟩), .pointer (some ⟨b41, 0, none⟩)]) Tryz.func68 rfl 5 rfl (by kernel_rfl) [(0, .pointer (some ⟨b2, 0, none⟩)), (1, .pointer (some ⟨b41, 0, none⟩))] (by kernel_rfl) fun a Qf hQ hQn hs => ?_
  refine c_region ?_
  refine pures hs 1 [1, 2] [(1, .pointer (some ⟨b41, 0, none⟩)), (2, .pointer (some ⟨b2, 3, none⟩))] (by kernel_rfl) fun a hs => ?_
  refine s_load hs (hw.at_ 0 rfl) 3 (by kernel_rfl) (by kernel_rfl) (v := .int .i64 x6) (by kernel_rfl) fun a hs => ?_
  refine pures hs 1 [3, 4] [(3, .int .i64 x6), (4, .pointer (some ⟨b41, 3, none⟩))] (by kernel_rfl) fun a hs => ?_
  refine s_store hs hw 1 rfl 3 (by kernel_rfl) (by kernel_rfl) (v := .int .i64 x6) (by kernel_rfl) (by kernel_rfl) (by kernel_rfl) (by kernel_rfl) fun a w hs hw => ?_
  refine s_end ?_
  obtain rfl := someE hk
  refine hQn _ _ (f_retN hs [] rfl [] (by kernel_rfl) (by kernel_rfl) ⟨rfl, hw.pick [0, 1, 2] (by kernel_rfl)⟩)
def letter_bare_2 (x7 : Int) : Option Int :=
  some x7
theorem letter_bare_2_s {x3 : Int} {x4 : Int} {x5 : Int} {x6 : Int} {x7 : Int} {x8 : Int} {x9 : Int} {x10 : Int} {x11 : Int} {x12 : Int} {x13 : Int} {x14 : Int} {x15 : Int} {x16 : Int} {x17 : Int} {x18 : Int} {x19 : Int} {x20 : Int} {x21 : Int} {x22 : List Int} {x26 : Bool} {x27 : Int} {x28 : List M105} {x32 : List M26} {x36 : List Int} {x42 : Int} {x43 : Int} {x44 : Int} {x45 : Int} {x46 : Int} {x47 : Int} {x48 : Int} {x49 : Int} {x50 : Int} {x51 : Int} {x52 : Int} {x53 : Int} {x54 : Int} {x55 : Int} {x56 : Int} {x57 : Int} {x58 : Int} {x59 : Int} {x60 : Int} {x61 : List Int} {x65 : Bool} {x66 : Int} {x67 : List M105} {x71 : List M26} {x75 : List Int} {b2 : Nat} {p23 : Option Addr} {c24 : Nat} {p29 : Option Addr} {c30 : Nat} {p33 : Option Addr} {c34 : Nat} {p37 : Option Addr} {c38 : Nat} {b41 : Nat} {p62 : Option Addr} {c63 : Nat} {p68 : Option Addr} {c69 : Nat} {p72 : Option Addr} {c73 : Nat} {p76 : Option Addr} {c77 : Nat} {r : Int} (hk : letter_bare_2 x7 = some r) {g w : World} {F : Ch} {ih : IH} (h25 : RSl e3 ih [] p23 c24 x22) (h31 : RSl e105 ih [] p29 c30 x28) (h35 : RSl e26 ih [] p33 c34 x32) (h39 : RSl e5 ih [] p37 c38 x36) (h64 : RSl e3 ih [] p62 c63 x61) (h70 : RSl e105 ih [] p68 c69 x67) (h74 : RSl e26 ih [] p72 c73 x71) (h78 : RSl e5 ih [] p76 c77 x75) (hw : St g w [bx b2 [.int .i64 x3, .int .i64 x4, .int .i64 x5, .int .i64 x6, .int .u64 x7, .int .u64 x8, .int .u64 x9, .int .u64 x10, .int .u64 x11, .int .u64 x12, .int .i64 x13, .int .u32 x14, .int .i64 x15, .int .i64 x16, .int .i64 x17, .int .u64 x18, .int .i64 x19, .int .i64 x20, .int .u64 x21, .slice p23 x22.length c24, .bool x26, .int .i64 x27, .slice p29 x28.length c30, .slice p33 x32.length c34, .slice p37 x36.length c38] 90, bx b41 [.int .i64 x42, .int .i64 x43, .int .i64 x44, .int .i64 x45, .int .u64 x46, .int .u64 x47, .int .u64 x48, .int .u64 x49, .int .u64 x50, .int .u64 x51, .int .i64 x52, .int .u32 x53, .int .i64 x54, .int .i64 x55, .int .i64 x56, .int .u64 x57, .int .i64 x58, .int .i64 x59, .int .u64 x60, .slice p62 x61.length c63, .bool x65, .int .i64 x66, .slice p68 x67.length c69, .slice p72 x71.length c73, .slice p76 x75.length c77] 90, F] ih) :
    CallsR Tryz.prog 69 #[.pointer (some ⟨b2, 0, none⟩), .pointer (some ⟨b41, 0, none⟩)] w fun v w' => v = .tuple #[] ∧ St g w' [bx b2 [.int .i64 x3, .int .i64 x4, .int .i64 x5, .int .i64 x6, .int .u64 x7, .int .u64 x8, .int .u64 x9, .int .u64 x10, .int .u64 x11, .int .u64 x12, .int .i64 x13, .int .u32 x14, .int .i64 x15, .int .i64 x16, .int .i64 x17, .int .u64 x18, .int .i64 x19, .int .i64 x20, .int .u64 x21, .slice p23 x22.length c24, .bool x26, .int .i64 x27, .slice p29 x28.length c30, .slice p33 x32.length c34, .slice p37 x36.length c38] 90, bx b41 [.int .i64 x42, .int .i64 x43, .int .i64 x44, .int .i64 x45, .int .u64 r, .int .u64 x47, .int .u64 x48, .int .u64 x49, .int .u64 x50, .int .u64 x51, .int .i64 x52, .int .u32 x53, .int .i64 x54, .int .i64 x55, .int .i64 x56, .int .u64 x57, .int .i64 x58, .int .i64 x59, .int .u64 x60, .slice p62 x61.length c63, .bool x65, .int .i64 x66, .slice p68 x67.length c69, .slice p72 x71.length c73, .slice p76 x75.length c77] 90, F] ih := by
  refine f_in (vs := [.pointer (some ⟨b2, 0, none⟩), .pointer (some ⟨b41, 0, none⟩)]) Tryz.func69 rfl 5 rfl (by kernel_rfl) [(0, .pointer (some ⟨b2, 0, none⟩)), (1, .pointer (some ⟨b41, 0, none⟩))] (by kernel_rfl) fun a Qf hQ hQn hs => ?_
  refine c_region ?_
  refine pures hs 1 [1, 2] [(1, .pointer (some ⟨b41, 0, none⟩)), (2, .pointer (some ⟨b2, 4, none⟩))] (by kernel_rfl) fun a hs => ?_
  refine s_load hs (hw.at_ 0 rfl) 4 (by kernel_rfl) (by kernel_rfl) (v := .int .u64 x7) (by kernel_rfl) fun a hs => ?_
  refine pures hs 1 [3, 4] [(3, .int .u64 x7), (4, .pointer (some ⟨b41, 4, none⟩))] (by kernel_rfl) fun a hs => ?_
  refine s_store hs hw 1 rfl 4 (by kernel_rfl) (by kernel_rfl) (v := .int .u64 x7) (by kernel_rfl) (by kernel_rfl) (by kernel_rfl) (by kernel_rfl) fun a w hs hw => ?_
  refine s_end ?_
  obtain rfl := someE hk
  refine hQn _ _ (f_retN hs [] rfl [] (by kernel_rfl) (by kernel_rfl) ⟨rfl, hw.pick [0, 1, 2] (by kernel_rfl)⟩)
def letter_bare_14 (x32 : List M26) : Option (List M26) :=
  some x32
theorem letter_bare_14_s {x3 : Int} {x4 : Int} {x5 : Int} {x6 : Int} {x7 : Int} {x8 : Int} {x9 : Int} {x10 : Int} {x11 : Int} {x12 : Int} {x13 : Int} {x14 : Int} {x15 : Int} {x16 : Int} {x17 : Int} {x18 : Int} {x19 : Int} {x20 : Int} {x21 : Int} {x22 : List Int} {x26 : Bool} {x27 : Int} {x28 : List M105} {x32 : List M26} {x36 : List Int} {x42 : Int} {x43 : Int} {x44 : Int} {x45 : Int} {x46 : Int} {x47 : Int} {x48 : Int} {x49 : Int} {x50 : Int} {x51 : Int} {x52 : Int} {x53 : Int} {x54 : Int} {x55 : Int} {x56 : Int} {x57 : Int} {x58 : Int} {x59 : Int} {x60 : Int} {x61 : List Int} {x65 : Bool} {x66 : Int} {x67 : List M105} {x71 : List M26} {x75 : List Int} {b2 : Nat} {p23 : Option Addr} {c24 : Nat} {p29 : Option Addr} {c30 : Nat} {p33 : Option Addr} {c34 : Nat} {p37 : Option Addr} {c38 : Nat} {b41 : Nat} {p62 : Option Addr} {c63 : Nat} {p68 : Option Addr} {c69 : Nat} {p72 : Option Addr} {c73 : Nat} {p76 : Option Addr} {c77 : Nat} {r : (List M26)} (hk : letter_bare_14 x32 = some r) {g w : World} {F : Ch} {ih : IH} (h25 : RSl e3 ih [] p23 c24 x22) (h31 : RSl e105 ih [] p29 c30 x28) (h35 : RSl e26 ih [] p33 c34 x32) (h39 : RSl e5 ih [] p37 c38 x36) (h64 : RSl e3 ih [] p62 c63 x61) (h70 : RSl e105 ih [] p68 c69 x67) (h74 : RSl e26 ih [] p72 c73 x71) (h78 : RSl e5 ih [] p76 c77 x75) (hw : St g w [bx b2 [.int .i64 x3, .int .i64 x4, .int .i64 x5, .int .i64 x6, .int .u64 x7, .int .u64 x8, .int .u64 x9, .int .u64 x10, .int .u64 x11, .int .u64 x12, .int .i64 x13, .int .u32 x14, .int .i64 x15, .int .i64 x16, .int .i64 x17, .int .u64 x18, .int .i64 x19, .int .i64 x20, .int .u64 x21, .slice p23 x22.length c24, .bool x26, .int .i64 x27, .slice p29 x28.length c30, .slice p33 x32.length c34, .slice p37 x36.length c38] 90, bx b41 [.int .i64 x42, .int .i64 x43, .int .i64 x44, .int .i64 x45, .int .u64 x46, .int .u64 x47, .int .u64 x48, .int .u64 x49, .int .u64 x50, .int .u64 x51, .int .i64 x52, .int .u32 x53, .int .i64 x54, .int .i64 x55, .int .i64 x56, .int .u64 x57, .int .i64 x58, .int .i64 x59, .int .u64 x60, .slice p62 x61.length c63, .bool x65, .int .i64 x66, .slice p68 x67.length c69, .slice p72 x71.length c73, .slice p76 x75.length c77] 90, F] ih) :
    CallsR Tryz.prog 81 #[.pointer (some ⟨b2, 0, none⟩), .pointer (some ⟨b41, 0, none⟩)] w fun v w' => ∃ (p81 : Option Addr) (c82 : Nat), v = .tuple #[] ∧ St g w' [bx b2 [.int .i64 x3, .int .i64 x4, .int .i64 x5, .int .i64 x6, .int .u64 x7, .int .u64 x8, .int .u64 x9, .int .u64 x10, .int .u64 x11, .int .u64 x12, .int .i64 x13, .int .u32 x14, .int .i64 x15, .int .i64 x16, .int .i64 x17, .int .u64 x18, .int .i64 x19, .int .i64 x20, .int .u64 x21, .slice p23 x22.length c24, .bool x26, .int .i64 x27, .slice p29 x28.length c30, .slice p33 x32.length c34, .slice p37 x36.length c38] 90, bx b41 [.int .i64 x42, .int .i64 x43, .int .i64 x44, .int .i64 x45, .int .u64 x46, .int .u64 x47, .int .u64 x48, .int .u64 x49, .int .u64 x50, .int .u64 x51, .int .i64 x52, .int .u32 x53, .int .i64 x54, .int .i64 x55, .int .i64 x56, .int .u64 x57, .int .i64 x58, .int .i64 x59, .int .u64 x60, .slice p62 x61.length c63, .bool x65, .int .i64 x66, .slice p68 x67.length c69, .slice p81 r.length c82, .slice p76 x75.length c77] 90, F] ih ∧ RSl e26 ih [] p81 c82 r := by
  refine f_in (vs := [.pointer (some ⟨b2, 0, none⟩), .pointer (some ⟨b41, 0, none⟩)]) Tryz.func81 rfl 5 rfl (by kernel_rfl) [(0, .pointer (some ⟨b2, 0, none⟩)), (1, .pointer (some ⟨b41, 0, none⟩))] (by kernel_rfl) fun a Qf hQ hQn hs => ?_
  refine c_region ?_
  refine pures hs 1 [1, 2] [(1, .pointer (some ⟨b41, 0, none⟩)), (2, .pointer (some ⟨b2, 23, none⟩))] (by kernel_rfl) fun a hs => ?_
  refine s_load hs (hw.at_ 0 rfl) 23 (by kernel_rfl) (by kernel_rfl) (v := .slice p33 x32.length c34) (by kernel_rfl) fun a hs => ?_
  refine pures hs 1 [3, 4] [(3, .slice p33 x32.length c34), (4, .pointer (some ⟨b41, 23, none⟩))] (by kernel_rfl) fun a hs => ?_
  refine s_store hs hw 1 rfl 23 (by kernel_rfl) (by kernel_rfl) (v := .slice p33 x32.length c34) (by kernel_rfl) (by kernel_rfl) (by kernel_rfl) (by kernel_rfl) fun a w hs hw => ?_
  refine s_end ?_
  obtain rfl := someE hk
  refine hQn _ _ (f_retN hs [] rfl [] (by kernel_rfl) (by kernel_rfl) ⟨p33, c34, rfl, hw.pick [0, 1, 2] (by kernel_rfl), h35⟩)
def letter_bare (x1 : List M26) : Option (Int × Int × (List M26)) :=
  (letter_bare_1 0).bind fun y521 =>
  (letter_bare_2 1).bind fun y537 =>
  (letter_bare_14 x1).bind fun y650 =>
  some (y521, y537, y650)
theorem letter_bare_s {x1 : List M26} {p2 : Option Addr} {c3 : Nat} {r : Int × Int × (List M26)} (hk : letter_bare x1 = some r) {g w : World} {F : Ch} {ih : IH} (h4 : RSl e26 ih [] p2 c3 x1) (hG : Glob 0 gl0 110 ih) (hw : St g w [F] ih) :
    CallsR Tryz.prog 58 #[.agg #[.int .i64 17, .int .i64 1, .int .i64 1, .int .i64 0, .int .u64 1, .int .u64 0, .int .u64 0, .int .u64 0, .int .u64 0, .int .u64 0, .int .i64 0, .int .u32 0, .int .i64 0, .int .i64 0, .int .i64 0, .int .u64 0, .int .i64 0, .int .i64 0, .int .u64 0, .slice none 0 0, .bool false, .int .i64 0, .slice none 0 0, .slice p2 x1.length c3, .slice none 0 0]] w fun v w' => ∃ (p663 : Option Addr) (c664 : Nat), v = .agg #[.int .i64 17, .int .i64 1, .int .i64 1, .int .i64 r.1, .int .u64 r.2.1, .int .u64 0, .int .u64 0, .int .u64 0, .int .u64 0, .int .u64 0, .int .i64 0, .int .u32 0, .int .i64 0, .int .i64 0, .int .i64 0, .int .u64 0, .int .i64 0, .int .i64 0, .int .u64 0, .slice none 0 0, .bool false, .int .i64 0, .slice none 0 0, .slice p663 r.2.2.length c664, .slice none 0 0] ∧ St g w' [F] ih ∧ RSl e26 ih [] p663 c664 r.2.2 := by
  refine f_in (vs := [.agg #[.int .i64 17, .int .i64 1, .int .i64 1, .int .i64 0, .int .u64 1, .int .u64 0, .int .u64 0, .int .u64 0, .int .u64 0, .int .u64 0, .int .i64 0, .int .u32 0, .int .i64 0, .int .i64 0, .int .i64 0, .int .u64 0, .int .i64 0, .int .i64 0, .int .u64 0, .slice none 0 0, .bool false, .int .i64 0, .slice none 0 0, .slice p2 x1.length c3, .slice none 0 0]]) Tryz.func58 rfl 74 rfl (by kernel_rfl) [(0, .agg #[.int .i64 17, .int .i64 1, .int .i64 1, .int .i64 0, .int .u64 1, .int .u64 0, .int .u64 0, .int .u64 0, .int .u64 0, .int .u64 0, .int .i64 0, .int .u32 0, .int .i64 0, .int .i64 0, .int .i64 0, .int .u64 0, .int .i64 0, .int .i64 0, .int .u64 0, .slice none 0 0, .bool false, .int .i64 0, .slice none 0 0, .slice p2 x1.length c3, .slice none 0 0])] (by kernel_rfl) fun a Qf hQ hQn hs => ?_
  refine c_seq ?_
  refine c_region ?_
  refine s_new hs hw [.int .i64 17, .int .i64 1, .int .i64 1, .int .i64 0, .int .u64 1, .int .u64 0, .int .u64 0, .int .u64 0, .int .u64 0, .int .u64 0, .int .i64 0, .int .u32 0, .int .i64 0, .int .i64 0, .int .i64 0, .int .u64 0, .int .i64 0, .int .i64 0, .int .u64 0, .slice none 0 0, .bool false, .int .i64 0, .slice none 0 0, .slice p2 x1.length c3, .slice none 0 0] 90 (fun b => .pointer (some ⟨b, 0, none⟩)) (by kernel_rfl) (fun _ => by kernel_rfl) fun a w b339 hs hw => ?_
  refine s_new hs hw [.int .i64 0, .int .i64 0, .int .i64 0, .int .i64 0, .int .u64 0, .int .u64 0, .int .u64 0, .int .u64 0, .int .u64 0, .int .u64 0, .int .i64 0, .int .u32 0, .int .i64 0, .int .i64 0, .int .i64 0, .int .u64 0, .int .i64 0, .int .i64 0, .int .u64 0, .slice none 0 0, .bool false, .int .i64 0, .slice none 0 0, .slice none 0 0, .slice none 0 0] 90 (fun b => .pointer (some ⟨b, 0, none⟩)) (by kernel_rfl) (fun _ => by kernel_rfl) fun a w b341 hs hw => ?_
  refine s_end ?_
  refine c_seq ?_
  refine c_region ?_
  refine pures hs 1 [1, 2, 3] [(1, .pointer (some ⟨b339, 0, none⟩)), (2, .pointer (some ⟨b341, 0, none⟩)), (3, .int .i64 0)] (by kernel_rfl) fun a hs => ?_
  refine s_end ?_
  refine c_seq ?_
  refine c_seq ?_
  refine c_region ?_
  refine pures hs 1 [1, 2, 3, 9] [(1, .pointer (some ⟨b339, 0, none⟩)), (2, .pointer (some ⟨b341, 0, none⟩)), (3, .int .i64 0), (9, .pointer (some ⟨b339, 0, none⟩))] (by kernel_rfl) fun a hs => ?_
  refine s_load hs (hw.at_ 1 rfl) 0 (by kernel_rfl) (by kernel_rfl) (v := .int .i64 17) (by kernel_rfl) fun a hs => ?_
  refine pures hs 2 [1, 2, 3, 12] [(1, .pointer (some ⟨b339, 0, none⟩)), (2, .pointer (some ⟨b341, 0, none⟩)), (3, .int .i64 0), (12, .pointer (some ⟨0, 120, none⟩))] (by kernel_rfl) fun a hs => ?_
  refine s_load hs (hw.atG (hG.mono (Le.refl _))) 120 (by kernel_rfl) (by kernel_rfl) (v := .agg #[.int .i64 1, .int .i64 2, .int .i64 8192, .int .i64 0, .int .i64 0, .int .i64 0]) (by kernel_rfl) fun a hs => ?_
  refine pures hs 1 [1, 2, 3, 13, 14] [(1, .pointer (some ⟨b339, 0, none⟩)), (2, .pointer (some ⟨b341, 0, none⟩)), (3, .int .i64 0), (13, .agg #[.int .i64 1, .int .i64 2, .int .i64 8192, .int .i64 0, .int .i64 0, .int .i64 0]), (14, .int .i64 0)] (by kernel_rfl) fun a hs => ?_
  refine s_end ?_
  refine c_block ?_
  refine wpIn_loop_rounds 7 ?_
  refine c_unr ?_
  refine c_seq ?_
  refine c_region ?_
  refine pures hs 1 [1, 2, 3, 13, 14, 15] [(1, .pointer (some ⟨b339, 0, none⟩)), (2, .pointer (some ⟨b341, 0, none⟩)), (3, .int .i64 0), (13, .agg #[.int .i64 1, .int .i64 2, .int .i64 8192, .int .i64 0, .int .i64 0, .int .i64 0]), (14, .int .i64 0), (15, .bool true)] (by kernel_rfl) fun a hs => ?_
  refine s_end ?_
  refine c_seq ?_
  refine c_condT hs (by kernel_rfl) (by kernel_rfl) ?_
  refine c_skip ?_
  refine c_seq ?_
  refine c_block ?_
  refine c_seq ?_
  refine c_region ?_
  refine pures hs 2 [1, 2, 3, 13, 14, 5] [(1, .pointer (some ⟨b339, 0, none⟩)), (2, .pointer (some ⟨b341, 0, none⟩)), (3, .int .i64 0), (13, .agg #[.int .i64 1, .int .i64 2, .int .i64 8192, .int .i64 0, .int .i64 0, .int .i64 0]), (14, .int .i64 0), (5, .int .i64 1)] (by kernel_rfl) fun a hs => ?_
  refine s_end ?_
  refine c_region ?_
  refine pures hs 4 [1, 2, 3, 13, 14] [(1, .pointer (some ⟨b339, 0, none⟩)), (2, .pointer (some ⟨b341, 0, none⟩)), (3, .int .i64 1), (13, .agg #[.int .i64 1, .int .i64 2, .int .i64 8192, .int .i64 0, .int .i64 0, .int .i64 0]), (14, .int .i64 0)] (by kernel_rfl) fun a hs => ?_
  refine s_end ?_
  refine c_region ?_
  refine pures hs 2 [1, 2, 3, 13, 14] [(1, .pointer (some ⟨b339, 0, none⟩)), (2, .pointer (some ⟨b341, 0, none⟩)), (3, .int .i64 1), (13, .agg #[.int .i64 1, .int .i64 2, .int .i64 8192, .int .i64 0, .int .i64 0, .int .i64 0]), (14, .int .i64 1)] (by kernel_rfl) fun a hs => ?_
  refine s_end ?_
  refine c_unr ?_
  refine c_seq ?_
  refine c_region ?_
  refine pures hs 1 [1, 2, 3, 13, 14, 15] [(1, .pointer (some ⟨b339, 0, none⟩)), (2, .pointer (some ⟨b341, 0, none⟩)), (3, .int .i64 1), (13, .agg #[.int .i64 1, .int .i64 2, .int .i64 8192, .int .i64 0, .int .i64 0, .int .i64 0]), (14, .int .i64 1), (15, .bool true)] (by kernel_rfl) fun a hs => ?_
  refine s_end ?_
  refine c_seq ?_
  refine c_condT hs (by kernel_rfl) (by kernel_rfl) ?_
  refine c_skip ?_
  refine c_seq ?_
  refine c_block ?_
  refine c_seq ?_
  refine c_region ?_
  refine pures hs 2 [1, 2, 3, 13, 14, 5] [(1, .pointer (some ⟨b339, 0, none⟩)), (2, .pointer (some ⟨b341, 0, none⟩)), (3, .int .i64 1), (13, .agg #[.int .i64 1, .int .i64 2, .int .i64 8192, .int .i64 0, .int .i64 0, .int .i64 0]), (14, .int .i64 1), (5, .int .i64 2)] (by kernel_rfl) fun a hs => ?_
  refine s_end ?_
  refine c_region ?_
  refine pures hs 4 [1, 2, 3, 13, 14] [(1, .pointer (some ⟨b339, 0, none⟩)), (2, .pointer (some ⟨b341, 0, none⟩)), (3, .int .i64 3), (13, .agg #[.int .i64 1, .int .i64 2, .int .i64 8192, .int .i64 0, .int .i64 0, .int .i64 0]), (14, .int .i64 1)] (by kernel_rfl) fun a hs => ?_
  refine s_end ?_
  refine c_region ?_
  refine pures hs 2 [1, 2, 3, 13, 14] [(1, .pointer (some ⟨b339, 0, none⟩)), (2, .pointer (some ⟨b341, 0, none⟩)), (3, .int .i64 3), (13, .agg #[.int .i64 1, .int .i64 2, .int .i64 8192, .int .i64 0, .int .i64 0, .int .i64 0]), (14, .int .i64 2)] (by kernel_rfl) fun a hs => ?_
  refine s_end ?_
  refine c_unr ?_
  refine c_seq ?_
  refine c_region ?_
  refine pures hs 1 [1, 2, 3, 13, 14, 15] [(1, .pointer (some ⟨b339, 0, none⟩)), (2, .pointer (some ⟨b341, 0, none⟩)), (3, .int .i64 3), (13, .agg #[.int .i64 1, .int .i64 2, .int .i64 8192, .int .i64 0, .int .i64 0, .int .i64 0]), (14, .int .i64 2), (15, .bool true)] (by kernel_rfl) fun a hs => ?_
  refine s_end ?_
  refine c_seq ?_
  refine c_condT hs (by kernel_rfl) (by kernel_rfl) ?_
  refine c_skip ?_
  refine c_seq ?_
  refine c_block ?_
  refine c_seq ?_
  refine c_region ?_
  refine pures hs 2 [1, 2, 3, 13, 14, 5] [(1, .pointer (some ⟨b339, 0, none⟩)), (2, .pointer (some ⟨b341, 0, none⟩)), (3, .int .i64 3), (13, .agg #[.int .i64 1, .int .i64 2, .int .i64 8192, .int .i64 0, .int .i64 0, .int .i64 0]), (14, .int .i64 2), (5, .int .i64 8192)] (by kernel_rfl) fun a hs => ?_
  refine s_end ?_
  refine c_region ?_
  refine pures hs 4 [1, 2, 3, 13, 14] [(1, .pointer (some ⟨b339, 0, none⟩)), (2, .pointer (some ⟨b341, 0, none⟩)), (3, .int .i64 8195), (13, .agg #[.int .i64 1, .int .i64 2, .int .i64 8192, .int .i64 0, .int .i64 0, .int .i64 0]), (14, .int .i64 2)] (by kernel_rfl) fun a hs => ?_
  refine s_end ?_
  refine c_region ?_
  refine pures hs 2 [1, 2, 3, 13, 14] [(1, .pointer (some ⟨b339, 0, none⟩)), (2, .pointer (some ⟨b341, 0, none⟩)), (3, .int .i64 8195), (13, .agg #[.int .i64 1, .int .i64 2, .int .i64 8192, .int .i64 0, .int .i64 0, .int .i64 0]), (14, .int .i64 3)] (by kernel_rfl) fun a hs => ?_
  refine s_end ?_
  refine c_unr ?_
  refine c_seq ?_
  refine c_region ?_
  refine pures hs 1 [1, 2, 3, 13, 14, 15] [(1, .pointer (some ⟨b339, 0, none⟩)), (2, .pointer (some ⟨b341, 0, none⟩)), (3, .int .i64 8195), (13, .agg #[.int .i64 1, .int .i64 2, .int .i64 8192, .int .i64 0, .int .i64 0, .int .i64 0]), (14, .int .i64 3), (15, .bool true)] (by kernel_rfl) fun a hs => ?_
  refine s_end ?_
  refine c_seq ?_
  refine c_condT hs (by kernel_rfl) (by kernel_rfl) ?_
  refine c_skip ?_
  refine c_seq ?_
  refine c_block ?_
  refine c_seq ?_
  refine c_region ?_
  refine pures hs 2 [1, 2, 3, 13, 14, 5] [(1, .pointer (some ⟨b339, 0, none⟩)), (2, .pointer (some ⟨b341, 0, none⟩)), (3, .int .i64 8195), (13, .agg #[.int .i64 1, .int .i64 2, .int .i64 8192, .int .i64 0, .int .i64 0, .int .i64 0]), (14, .int .i64 3), (5, .int .i64 0)] (by kernel_rfl) fun a hs => ?_
  refine s_end ?_
  refine c_region ?_
  refine pures hs 4 [1, 2, 3, 13, 14] [(1, .pointer (some ⟨b339, 0, none⟩)), (2, .pointer (some ⟨b341, 0, none⟩)), (3, .int .i64 8195), (13, .agg #[.int .i64 1, .int .i64 2, .int .i64 8192, .int .i64 0, .int .i64 0, .int .i64 0]), (14, .int .i64 3)] (by kernel_rfl) fun a hs => ?_
  refine s_end ?_
  refine c_region ?_
  refine pures hs 2 [1, 2, 3, 13, 14] [(1, .pointer (some ⟨b339, 0, none⟩)), (2, .pointer (some ⟨b341, 0, none⟩)), (3, .int .i64 8195), (13, .agg #[.int .i64 1, .int .i64 2, .int .i64 8192, .int .i64 0, .int .i64 0, .int .i64 0]), (14, .int .i64 4)] (by kernel_rfl) fun a hs => ?_
  refine s_end ?_
  refine c_unr ?_
  refine c_seq ?_
  refine c_region ?_
  refine pures hs 1 [1, 2, 3, 13, 14, 15] [(1, .pointer (some ⟨b339, 0, none⟩)), (2, .pointer (some ⟨b341, 0, none⟩)), (3, .int .i64 8195), (13, .agg #[.int .i64 1, .int .i64 2, .int .i64 8192, .int .i64 0, .int .i64 0, .int .i64 0]), (14, .int .i64 4), (15, .bool true)] (by kernel_rfl) fun a hs => ?_
  refine s_end ?_
  refine c_seq ?_
  refine c_condT hs (by kernel_rfl) (by kernel_rfl) ?_
  refine c_skip ?_
  refine c_seq ?_
  refine c_block ?_
  refine c_seq ?_
  refine c_region ?_
  refine pures hs 2 [1, 2, 3, 13, 14, 5] [(1, .pointer (some ⟨b339, 0, none⟩)), (2, .pointer (some ⟨b341, 0, none⟩)), (3, .int .i64 8195), (13, .agg #[.int .i64 1, .int .i64 2, .int .i64 8192, .int .i64 0, .int .i64 0, .int .i64 0]), (14, .int .i64 4), (5, .int .i64 0)] (by kernel_rfl) fun a hs => ?_
  refine s_end ?_
  refine c_region ?_
  refine pures hs 4 [1, 2, 3, 13, 14] [(1, .pointer (some ⟨b339, 0, none⟩)), (2, .pointer (some ⟨b341, 0, none⟩)), (3, .int .i64 8195), (13, .agg #[.int .i64 1, .int .i64 2, .int .i64 8192, .int .i64 0, .int .i64 0, .int .i64 0]), (14, .int .i64 4)] (by kernel_rfl) fun a hs => ?_
  refine s_end ?_
  refine c_region ?_
  refine pures hs 2 [1, 2, 3, 13, 14] [(1, .pointer (some ⟨b339, 0, none⟩)), (2, .pointer (some ⟨b341, 0, none⟩)), (3, .int .i64 8195), (13, .agg #[.int .i64 1, .int .i64 2, .int .i64 8192, .int .i64 0, .int .i64 0, .int .i64 0]), (14, .int .i64 5)] (by kernel_rfl) fun a hs => ?_
  refine s_end ?_
  refine c_unr ?_
  refine c_seq ?_
  refine c_region ?_
  refine pures hs 1 [1, 2, 3, 13, 14, 15] [(1, .pointer (some ⟨b339, 0, none⟩)), (2, .pointer (some ⟨b341, 0, none⟩)), (3, .int .i64 8195), (13, .agg #[.int .i64 1, .int .i64 2, .int .i64 8192, .int .i64 0, .int .i64 0, .int .i64 0]), (14, .int .i64 5), (15, .bool true)] (by kernel_rfl) fun a hs => ?_
  refine s_end ?_
  refine c_seq ?_
  refine c_condT hs (by kernel_rfl) (by kernel_rfl) ?_
  refine c_skip ?_
  refine c_seq ?_
  refine c_block ?_
  refine c_seq ?_
  refine c_region ?_
  refine pures hs 2 [1, 2, 3, 13, 14, 5] [(1, .pointer (some ⟨b339, 0, none⟩)), (2, .pointer (some ⟨b341, 0, none⟩)), (3, .int .i64 8195), (13, .agg #[.int .i64 1, .int .i64 2, .int .i64 8192, .int .i64 0, .int .i64 0, .int .i64 0]), (14, .int .i64 5), (5, .int .i64 0)] (by kernel_rfl) fun a hs => ?_
  refine s_end ?_
  refine c_region ?_
  refine pures hs 4 [1, 2, 3, 13, 14] [(1, .pointer (some ⟨b339, 0, none⟩)), (2, .pointer (some ⟨b341, 0, none⟩)), (3, .int .i64 8195), (13, .agg #[.int .i64 1, .int .i64 2, .int .i64 8192, .int .i64 0, .int .i64 0, .int .i64 0]), (14, .int .i64 5)] (by kernel_rfl) fun a hs => ?_
  refine s_end ?_
  refine c_region ?_
  refine pures hs 2 [1, 2, 3, 13, 14] [(1, .pointer (some ⟨b339, 0, none⟩)), (2, .pointer (some ⟨b341, 0, none⟩)), (3, .int .i64 8195), (13, .agg #[.int .i64 1, .int .i64 2, .int .i64 8192, .int .i64 0, .int .i64 0, .int .i64 0]), (14, .int .i64 6)] (by kernel_rfl) fun a hs => ?_
  refine s_end ?_
  refine c_unr ?_
  refine c_seq ?_
  refine c_region ?_
  refine pures hs 1 [1, 2, 3, 13, 14, 15] [(1, .pointer (some ⟨b339, 0, none⟩)), (2, .pointer (some ⟨b341, 0, none⟩)), (3, .int .i64 8195), (13, .agg #[.int .i64 1, .int .i64 2, .int .i64 8192, .int .i64 0, .int .i64 0, .int .i64 0]), (14, .int .i64 6), (15, .bool false)] (by kernel_rfl) fun a hs => ?_
  refine s_end ?_
  refine c_seq ?_
  refine c_condF hs (by kernel_rfl) (by kernel_rfl) ?_
  refine c_exit ?_
  refine c_seq ?_
  refine c_region ?_
  refine pures hs 1 [1, 2, 3, 21] [(1, .pointer (some ⟨b339, 0, none⟩)), (2, .pointer (some ⟨b341, 0, none⟩)), (3, .int .i64 8195), (21, .pointer (some ⟨b339, 0, none⟩))] (by kernel_rfl) fun a hs => ?_
  refine s_load hs (hw.at_ 1 rfl) 0 (by kernel_rfl) (by kernel_rfl) (v := .int .i64 17) (by kernel_rfl) fun a hs => ?_
  refine pures hs 1 [1, 2, 3, 22, 23] [(1, .pointer (some ⟨b339, 0, none⟩)), (2, .pointer (some ⟨b341, 0, none⟩)), (3, .int .i64 8195), (22, .int .i64 17), (23, .pointer (some ⟨b339, 1, none⟩))] (by kernel_rfl) fun a hs => ?_
  refine s_load hs (hw.at_ 1 rfl) 1 (by kernel_rfl) (by kernel_rfl) (v := .int .i64 1) (by kernel_rfl) fun a hs => ?_
  refine pures hs 1 [1, 2, 3, 22, 24, 25] [(1, .pointer (some ⟨b339, 0, none⟩)), (2, .pointer (some ⟨b341, 0, none⟩)), (3, .int .i64 8195), (22, .int .i64 17), (24, .int .i64 1), (25, .pointer (some ⟨b339, 2, none⟩))] (by kernel_rfl) fun a hs => ?_
  refine s_load hs (hw.at_ 1 rfl) 2 (by kernel_rfl) (by kernel_rfl) (v := .int .i64 1) (by kernel_rfl) fun a hs => ?_
  refine pures hs 1 [1, 2, 3, 27] [(1, .pointer (some ⟨b339, 0, none⟩)), (2, .pointer (some ⟨b341, 0, none⟩)), (3, .int .i64 8195), (27, .agg #[.int .i64 17, .int .i64 1, .int .i64 1, .int .i64 0, .int .u64 0, .int .u64 0, .int .u64 0, .int .u64 0, .int .u64 0, .int .u64 0, .int .i64 0, .int .u32 0, .int .i64 0, .int .i64 0, .int .i64 0, .int .u64 0, .int .i64 0, .int .i64 0, .int .u64 0, .slice none 0 0, .bool false, .int .i64 0, .slice none 0 0, .slice none 0 0, .slice none 0 0])] (by kernel_rfl) fun a hs => ?_
  refine s_new hs hw [.int .i64 0, .int .i64 0, .int .i64 0, .int .i64 0, .int .u64 0, .int .u64 0, .int .u64 0, .int .u64 0, .int .u64 0, .int .u64 0, .int .i64 0, .int .u32 0, .int .i64 0, .int .i64 0, .int .i64 0, .int .u64 0, .int .i64 0, .int .i64 0, .int .u64 0, .slice none 0 0, .bool false, .int .i64 0, .slice none 0 0, .slice none 0 0, .slice none 0 0] 90 (fun b => .pointer (some ⟨b, 0, none⟩)) (by kernel_rfl) (fun _ => by kernel_rfl) fun a w b345 hs hw => ?_
  refine s_store hs hw 0 rfl 0 (by kernel_rfl) (by kernel_rfl) (v := .agg #[.int .i64 17, .int .i64 1, .int .i64 1, .int .i64 0, .int .u64 0, .int .u64 0, .int .u64 0, .int .u64 0, .int .u64 0, .int .u64 0, .int .i64 0, .int .u32 0, .int .i64 0, .int .i64 0, .int .i64 0, .int .u64 0, .int .i64 0, .int .i64 0, .int .u64 0, .slice none 0 0, .bool false, .int .i64 0, .slice none 0 0, .slice none 0 0, .slice none 0 0]) (by kernel_rfl) (by kernel_rfl) (by kernel_rfl) (by kernel_rfl) fun a w hs hw => ?_
  refine s_end ?_
  refine c_seq ?_
  refine c_seq ?_
  refine c_region ?_
  refine pures hs 30 [2, 3, 6, 29, 31, 33, 35, 37, 39, 41, 43, 45, 47, 49, 51, 53, 55, 57] [(2, .pointer (some ⟨b341, 0, none⟩)), (3, .int .i64 8195), (6, .pointer (some ⟨b345, 0, none⟩)), (29, .agg #[.int .i64 1, .func (.func 68) #[] #[.pointer (some ⟨b339, 0, none⟩), .pointer (some ⟨b345, 0, none⟩)]]), (31, .agg #[.int .i64 2, .func (.func 69) #[] #[.pointer (some ⟨b339, 0, none⟩), .pointer (some ⟨b345, 0, none⟩)]]), (33, .agg #[.int .i64 4, .func (.func 70) #[] #[.pointer (some ⟨b339, 0, none⟩), .pointer (some ⟨b345, 0, none⟩)]]), (35, .agg #[.int .i64 8, .func (.func 71) #[] #[.pointer (some ⟨b339, 0, none⟩), .pointer (some ⟨b345, 0, none⟩)]]), (37, .agg #[.int .i64 16, .func (.func 72) #[] #[.pointer (some ⟨b339, 0, none⟩), .pointer (some ⟨b345, 0, none⟩)]]), (39, .agg #[.int .i64 32, .func (.func 73) #[] #[.pointer (some ⟨b339, 0, none⟩), .pointer (some ⟨b345, 0, none⟩)]]), (41, .agg #[.int .i64 64, .func (.func 74) #[] #[.pointer (some ⟨b339, 0, none⟩), .pointer (some ⟨b345, 0, none⟩)]]), (43, .agg #[.int .i64 128, .func (.func 75) #[] #[.pointer (some ⟨b339, 0, none⟩), .pointer (some ⟨b345, 0, none⟩)]]), (45, .agg #[.int .i64 256, .func (.func 76) #[] #[.pointer (some ⟨b339, 0, none⟩), .pointer (some ⟨b345, 0, none⟩)]]), (47, .agg #[.int .i64 512, .func (.func 77) #[] #[.pointer (some ⟨b339, 0, none⟩), .pointer (some ⟨b345, 0, none⟩)]]), (49, .agg #[.int .i64 1024, .func (.func 78) #[] #[.pointer (some ⟨b339, 0, none⟩), .pointer (some ⟨b345, 0, none⟩)]]), (51, .agg #[.int .i64 2048, .func (.func 79) #[] #[.pointer (some ⟨b339, 0, none⟩), .pointer (some ⟨b345, 0, none⟩)]]), (53, .agg #[.int .i64 4096, .func (.func 80) #[] #[.pointer (some ⟨b339, 0, none⟩), .pointer (some ⟨b345, 0, none⟩)]]), (55, .agg #[.int .i64 8192, .func (.func 81) #[] #[.pointer (some ⟨b339, 0, none⟩), .pointer (some ⟨b345, 0, none⟩)]]), (57, .agg #[.int .i64 16384, .func (.func 82) #[] #[.pointer (some ⟨b339, 0, none⟩), .pointer (some ⟨b345, 0, none⟩)]])] (by kernel_rfl) fun a hs => ?_
  refine s_new hs hw [.int .i64 1, .func (.func 68) #[] #[.pointer (some ⟨b339, 0, none⟩), .pointer (some ⟨b345, 0, none⟩)], .int .i64 2, .func (.func 69) #[] #[.pointer (some ⟨b339, 0, none⟩), .pointer (some ⟨b345, 0, none⟩)], .int .i64 4, .func (.func 70) #[] #[.pointer (some ⟨b339, 0, none⟩), .pointer (some ⟨b345, 0, none⟩)], .int .i64 8, .func (.func 71) #[] #[.pointer (some ⟨b339, 0, none⟩), .pointer (some ⟨b345, 0, none⟩)], .int .i64 16, .func (.func 72) #[] #[.pointer (some ⟨b339, 0, none⟩), .pointer (some ⟨b345, 0, none⟩)], .int .i64 32, .func (.func 73) #[] #[.pointer (some ⟨b339, 0, none⟩), .pointer (some ⟨b345, 0, none⟩)], .int .i64 64, .func (.func 74) #[] #[.pointer (some ⟨b339, 0, none⟩), .pointer (some ⟨b345, 0, none⟩)], .int .i64 128, .func (.func 75) #[] #[.pointer (some ⟨b339, 0, none⟩), .pointer (some ⟨b345, 0, none⟩)], .int .i64 256, .func (.func 76) #[] #[.pointer (some ⟨b339, 0, none⟩), .pointer (some ⟨b345, 0, none⟩)], .int .i64 512, .func (.func 77) #[] #[.pointer (some ⟨b339, 0, none⟩), .pointer (some ⟨b345, 0, none⟩)], .int .i64 1024, .func (.func 78) #[] #[.pointer (some ⟨b339, 0, none⟩), .pointer (some ⟨b345, 0, none⟩)], .int .i64 2048, .func (.func 79) #[] #[.pointer (some ⟨b339, 0, none⟩), .pointer (some ⟨b345, 0, none⟩)], .int .i64 4096, .func (.func 80) #[] #[.pointer (some ⟨b339, 0, none⟩), .pointer (some ⟨b345, 0, none⟩)], .int .i64 8192, .func (.func 81) #[] #[.pointer (some ⟨b339, 0, none⟩), .pointer (some ⟨b345, 0, none⟩)], .int .i64 16384, .func (.func 82) #[] #[.pointer (some ⟨b339, 0, none⟩), .pointer (some ⟨b345, 0, none⟩)]] 111 (fun b => .slice (some ⟨b, 0, none⟩) 15 15) (by kernel_rfl) (fun _ => by kernel_rfl) fun a w b349 hs hw => ?_
  refine pures hs 2 [2, 3, 6, 58, 59, 60] [(2, .pointer (some ⟨b341, 0, none⟩)), (3, .int .i64 8195), (6, .pointer (some ⟨b345, 0, none⟩)), (58, .slice (some ⟨b349, 0, none⟩) 15 15), (59, .int .i64 15), (60, .int .i64 0)] (by kernel_rfl) fun a hs => ?_
  refine s_end ?_
  refine c_block ?_
  refine wpIn_loop_rounds 16 ?_
  refine c_unr ?_
  refine c_seq ?_
  refine c_region ?_
  refine pures hs 1 [2, 3, 6, 58, 59, 60, 61] [(2, .pointer (some ⟨b341, 0, none⟩)), (3, .int .i64 8195), (6, .pointer (some ⟨b345, 0, none⟩)), (58, .slice (some ⟨b349, 0, none⟩) 15 15), (59, .int .i64 15), (60, .int .i64 0), (61, .bool true)] (by kernel_rfl) fun a hs => ?_
  refine s_end ?_
  refine c_seq ?_
  refine c_condT hs (by kernel_rfl) (by kernel_rfl) ?_
  refine c_skip ?_
  refine c_seq ?_
  refine c_block ?_
  refine c_seq ?_
  refine c_region ?_
  refine pures hs 1 [2, 3, 6, 58, 59, 60, 62] [(2, .pointer (some ⟨b341, 0, none⟩)), (3, .int .i64 8195), (6, .pointer (some ⟨b345, 0, none⟩)), (58, .slice (some ⟨b349, 0, none⟩) 15 15), (59, .int .i64 15), (60, .int .i64 0), (62, .pointer (some ⟨b349, 0, none⟩))] (by kernel_rfl) fun a hs => ?_
  refine s_load hs (hw.at_ 0 rfl) 0 (by kernel_rfl) (by kernel_rfl) (v := .agg #[.int .i64 1, .func (.func 68) #[] #[.pointer (some ⟨b339, 0, none⟩), .pointer (some ⟨b345, 0, none⟩)]]) (by kernel_rfl) fun a hs => ?_
  refine s_new hs hw [.int .i64 0, .nilFunc] 111 (fun b => .pointer (some ⟨b, 0, none⟩)) (by kernel_rfl) (fun _ => by kernel_rfl) fun a w b517 hs hw => ?_
  refine s_store hs hw 0 rfl 0 (by kernel_rfl) (by kernel_rfl) (v := .agg #[.int .i64 1, .func (.func 68) #[] #[.pointer (some ⟨b339, 0, none⟩), .pointer (some ⟨b345, 0, none⟩)]]) (by kernel_rfl) (by kernel_rfl) (by kernel_rfl) (by kernel_rfl) fun a w hs hw => ?_
  refine s_end ?_
  refine c_seq ?_
  refine c_region ?_
  refine pures hs 2 [2, 3, 6, 58, 59, 60, 8, 64, 65] [(2, .pointer (some ⟨b341, 0, none⟩)), (3, .int .i64 8195), (6, .pointer (some ⟨b345, 0, none⟩)), (58, .slice (some ⟨b349, 0, none⟩) 15 15), (59, .int .i64 15), (60, .int .i64 0), (8, .pointer (some ⟨b517, 0, none⟩)), (64, .int .i64 8195), (65, .pointer (some ⟨b517, 0, none⟩))] (by kernel_rfl) fun a hs => ?_
  refine s_load hs (hw.at_ 0 rfl) 0 (by kernel_rfl) (by kernel_rfl) (v := .int .i64 1) (by kernel_rfl) fun a hs => ?_
  refine pures hs 2 [2, 3, 6, 58, 59, 60, 8, 68] [(2, .pointer (some ⟨b341, 0, none⟩)), (3, .int .i64 8195), (6, .pointer (some ⟨b345, 0, none⟩)), (58, .slice (some ⟨b349, 0, none⟩) 15 15), (59, .int .i64 15), (60, .int .i64 0), (8, .pointer (some ⟨b517, 0, none⟩)), (68, .bool true)] (by kernel_rfl) fun a hs => ?_
  refine s_end ?_
  refine c_condT hs (by kernel_rfl) (by kernel_rfl) ?_
  refine c_region ?_
  refine pures hs 1 [2, 3, 6, 58, 59, 60, 69] [(2, .pointer (some ⟨b341, 0, none⟩)), (3, .int .i64 8195), (6, .pointer (some ⟨b345, 0, none⟩)), (58, .slice (some ⟨b349, 0, none⟩) 15 15), (59, .int .i64 15), (60, .int .i64 0), (69, .pointer (some ⟨b517, 1, none⟩))] (by kernel_rfl) fun a hs => ?_
  refine s_load hs (hw.at_ 0 rfl) 1 (by kernel_rfl) (by kernel_rfl) (v := .func (.func 68) #[] #[.pointer (some ⟨b339, 0, none⟩), .pointer (some ⟨b345, 0, none⟩)]) (by kernel_rfl) fun a hs => ?_
  obtain ⟨y521, h522, hk⟩ := bindE hk
  refine s_call hs (by kernel_rfl) (by kernel_rfl) (letter_bare_1_s h522 (RSl.nil _ _ _) (RSl.nil _ _ _) h4 (RSl.nil _ _ _) (RSl.nil _ _ _) (RSl.nil _ _ _) (RSl.nil _ _ _) (RSl.nil _ _ _) ((hw.pick [4, 2, 1, 3, 5] (by kernel_rfl)).pack 2)) fun a w v hv hs => ?_
  obtain ⟨rfl, hw⟩ := hv
  replace hw := hw.unpack 2 rfl
  refine s_end ?_
  refine c_region ?_
  refine pures hs 2 [2, 3, 6, 58, 59, 60] [(2, .pointer (some ⟨b341, 0, none⟩)), (3, .int .i64 8195), (6, .pointer (some ⟨b345, 0, none⟩)), (58, .slice (some ⟨b349, 0, none⟩) 15 15), (59, .int .i64 15), (60, .int .i64 1)] (by kernel_rfl) fun a hs => ?_
  refine s_end ?_
  refine c_unr ?_
  refine c_seq ?_
  refine c_region ?_
  refine pures hs 1 [2, 3, 6, 58, 59, 60, 61] [(2, .pointer (some ⟨b341, 0, none⟩)), (3, .int .i64 8195), (6, .pointer (some ⟨b345, 0, none⟩)), (58, .slice (some ⟨b349, 0, none⟩) 15 15), (59, .int .i64 15), (60, .int .i64 1), (61, .bool true)] (by kernel_rfl) fun a hs => ?_
  refine s_end ?_
  refine c_seq ?_
  refine c_condT hs (by kernel_rfl) (by kernel_rfl) ?_
  refine c_skip ?_
  refine c_seq ?_
  refine c_block ?_
  refine c_seq ?_
  refine c_region ?_
  refine pures hs 1 [2, 3, 6, 58, 59, 60, 62] [(2, .pointer (some ⟨b341, 0, none⟩)), (3, .int .i64 8195), (6, .pointer (some ⟨b345, 0, none⟩)), (58, .slice (some ⟨b349, 0, none⟩) 15 15), (59, .int .i64 15), (60, .int .i64 1), (62, .pointer (some ⟨b349, 2, none⟩))] (by kernel_rfl) fun a hs => ?_
  refine s_load hs (hw.at_ 2 rfl) 2 (by kernel_rfl) (by kernel_rfl) (v := .agg #[.int .i64 2, .func (.func 69) #[] #[.pointer (some ⟨b339, 0, none⟩), .pointer (some ⟨b345, 0, none⟩)]]) (by kernel_rfl) fun a hs => ?_
  refine s_new hs hw [.int .i64 0, .nilFunc] 111 (fun b => .pointer (some ⟨b, 0, none⟩)) (by kernel_rfl) (fun _ => by kernel_rfl) fun a w b533 hs hw => ?_
  refine s_store hs hw 0 rfl 0 (by kernel_rfl) (by kernel_rfl) (v := .agg #[.int .i64 2, .func (.func 69) #[] #[.pointer (some ⟨b339, 0, none⟩), .pointer (some ⟨b345, 0, none⟩)]]) (by kernel_rfl) (by kernel_rfl) (by kernel_rfl) (by kernel_rfl) fun a w hs hw => ?_
  refine s_end ?_
  refine c_seq ?_
  refine c_region ?_
  refine pures hs 2 [2, 3, 6, 58, 59, 60, 8, 64, 65] [(2, .pointer (some ⟨b341, 0, none⟩)), (3, .int .i64 8195), (6, .pointer (some ⟨b345, 0, none⟩)), (58, .slice (some ⟨b349, 0, none⟩) 15 15), (59, .int .i64 15), (60, .int .i64 1), (8, .pointer (some ⟨b533, 0, none⟩)), (64, .int .i64 8195), (65, .pointer (some ⟨b533, 0, none⟩))] (by kernel_rfl) fun a hs => ?_
  refine s_load hs (hw.at_ 0 rfl) 0 (by kernel_rfl) (by kernel_rfl) (v := .int .i64 2) (by kernel_rfl) fun a hs => ?_
  refine pures hs 2 [2, 3, 6, 58, 59, 60, 8, 68] [(2, .pointer (some ⟨b341, 0, none⟩)), (3, .int .i64 8195), (6, .pointer (some ⟨b345, 0, none⟩)), (58, .slice (some ⟨b349, 0, none⟩) 15 15), (59, .int .i64 15), (60, .int .i64 1), (8, .pointer (some ⟨b533, 0, none⟩)), (68, .bool true)] (by kernel_rfl) fun a hs => ?_
  refine s_end ?_
  refine c_condT hs (by kernel_rfl) (by kernel_rfl) ?_
  refine c_region ?_
  refine pures hs 1 [2, 3, 6, 58, 59, 60, 69] [(2, .pointer (some ⟨b341, 0, none⟩)), (3, .int .i64 8195), (6, .pointer (some ⟨b345, 0, none⟩)), (58, .slice (some ⟨b349, 0, none⟩) 15 15), (59, .int .i64 15), (60, .int .i64 1), (69, .pointer (some ⟨b533, 1, none⟩))] (by kernel_rfl) fun a hs => ?_
  refine s_load hs (hw.at_ 0 rfl) 1 (by kernel_rfl) (by kernel_rfl) (v := .func (.func 69) #[] #[.pointer (some ⟨b339, 0, none⟩), .pointer (some ⟨b345, 0, none⟩)]) (by kernel_rfl) fun a hs => ?_
  obtain ⟨y537, h538, hk⟩ := bindE hk
  refine s_call hs (by kernel_rfl) (by kernel_rfl) (letter_bare_2_s h538 (RSl.nil _ _ _) (RSl.nil _ _ _) h4 (RSl.nil _ _ _) (RSl.nil _ _ _) (RSl.nil _ _ _) (RSl.nil _ _ _) (RSl.nil _ _ _) ((hw.pick [1, 2, 3, 4, 5] (by kernel_rfl)).pack 2)) fun a w v hv hs => ?_
  obtain ⟨rfl, hw⟩ := hv
  replace hw := hw.unpack 2 rfl
  refine s_end ?_
  refine c_region ?_
  refine pures hs 2 [2, 3, 6, 58, 59, 60] [(2, .pointer (some ⟨b341, 0, none⟩)), (3, .int .i64 8195), (6, .pointer (some ⟨b345, 0, none⟩)), (58, .slice (some ⟨b349, 0, none⟩) 15 15), (59, .int .i64 15), (60, .int .i64 2)] (by kernel_rfl) fun a hs => ?_
  refine s_end ?_
  refine c_unr ?_
  refine c_seq ?_
  refine c_region ?_
  refine pures hs 1 [2, 3, 6, 58, 59, 60, 61] [(2, .pointer (some ⟨b341, 0, none⟩)), (3, .int .i64 8195), (6, .pointer (some ⟨b345, 0, none⟩)), (58, .slice (some ⟨b349, 0, none⟩) 15 15), (59, .int .i64 15), (60, .int .i64 2), (61, .bool true)] (by kernel_rfl) fun a hs => ?_
  refine s_end ?_
  refine c_seq ?_
  refine c_condT hs (by kernel_rfl) (by kernel_rfl) ?_
  refine c_skip ?_
  refine c_seq ?_
  refine c_block ?_
  refine c_seq ?_
  refine c_region ?_
  refine pures hs 1 [2, 3, 6, 58, 59, 60, 62] [(2, .pointer (some ⟨b341, 0, none⟩)), (3, .int .i64 8195), (6, .pointer (some ⟨b345, 0, none⟩)), (58, .slice (some ⟨b349, 0, none⟩) 15 15), (59, .int .i64 15), (60, .int .i64 2), (62, .pointer (some ⟨b349, 4, none⟩))] (by kernel_rfl) fun a hs => ?_
  refine s_load hs (hw.at_ 2 rfl) 4 (by kernel_rfl) (by kernel_rfl) (v := .agg #[.int .i64 4, .func (.func 70) #[] #[.pointer (some ⟨b339, 0, none⟩), .pointer (some ⟨b345, 0, none⟩)]]) (by kernel_rfl) fun a hs => ?_
  refine s_new hs hw [.int .i64 0, .nilFunc] 111 (fun b => .pointer (some ⟨b, 0, none⟩)) (by kernel_rfl) (fun _ => by kernel_rfl) fun a w b545 hs hw => ?_
  refine s_store hs hw 0 rfl 0 (by kernel_rfl) (by kernel_rfl) (v := .agg #[.int .i64 4, .func (.func 70) #[] #[.pointer (some ⟨b339, 0, none⟩), .pointer (some ⟨b345, 0, none⟩)]]) (by kernel_rfl) (by kernel_rfl) (by kernel_rfl) (by kernel_rfl) fun a w hs hw => ?_
  refine s_end ?_
  refine c_seq ?_
  refine c_region ?_
  refine pures hs 2 [2, 3, 6, 58, 59, 60, 8, 64, 65] [(2, .pointer (some ⟨b341, 0, none⟩)), (3, .int .i64 8195), (6, .pointer (some ⟨b345, 0, none⟩)), (58, .slice (some ⟨b349, 0, none⟩) 15 15), (59, .int .i64 15), (60, .int .i64 2), (8, .pointer (some ⟨b545, 0, none⟩)), (64, .int .i64 8195), (65, .pointer (some ⟨b545, 0, none⟩))] (by kernel_rfl) fun a hs => ?_
  refine s_load hs (hw.at_ 0 rfl) 0 (by kernel_rfl) (by kernel_rfl) (v := .int .i64 4) (by kernel_rfl) fun a hs => ?_
  refine pures hs 2 [2, 3, 6, 58, 59, 60, 8, 68] [(2, .pointer (some ⟨b341, 0, none⟩)), (3, .int .i64 8195), (6, .pointer (some ⟨b345, 0, none⟩)), (58, .slice (some ⟨b349, 0, none⟩) 15 15), (59, .int .i64 15), (60, .int .i64 2), (8, .pointer (some ⟨b545, 0, none⟩)), (68, .bool false)] (by kernel_rfl) fun a hs => ?_
  refine s_end ?_
  refine c_condF hs (by kernel_rfl) (by kernel_rfl) ?_
  refine c_skip ?_
  refine c_region ?_
  refine pures hs 2 [2, 3, 6, 58, 59, 60] [(2, .pointer (some ⟨b341, 0, none⟩)), (3, .int .i64 8195), (6, .pointer (some ⟨b345, 0, none⟩)), (58, .slice (some ⟨b349, 0, none⟩) 15 15), (59, .int .i64 15), (60, .int .i64 3)] (by kernel_rfl) fun a hs => ?_
  refine s_end ?_
  refine c_unr ?_
  refine c_seq ?_
  refine c_region ?_
  refine pures hs 1 [2, 3, 6, 58, 59, 60, 61] [(2, .pointer (some ⟨b341, 0, none⟩)), (3, .int .i64 8195), (6, .pointer (some ⟨b345, 0, none⟩)), (58, .slice (some ⟨b349, 0, none⟩) 15 15), (59, .int .i64 15), (60, .int .i64 3), (61, .bool true)] (by kernel_rfl) fun a hs => ?_
  refine s_end ?_
  refine c_seq ?_
  refine c_condT hs (by kernel_rfl) (by kernel_rfl) ?_
  refine c_skip ?_
  refine c_seq ?_
  refine c_block ?_
  refine c_seq ?_
  refine c_region ?_
  refine pures hs 1 [2, 3, 6, 58, 59, 60, 62] [(2, .pointer (some ⟨b341, 0, none⟩)), (3, .int .i64 8195), (6, .pointer (some ⟨b345, 0, none⟩)), (58, .slice (some ⟨b349, 0, none⟩) 15 15), (59, .int .i64 15), (60, .int .i64 3), (62, .pointer (some ⟨b349, 6, none⟩))] (by kernel_rfl) fun a hs => ?_
  refine s_load hs (hw.at_ 3 rfl) 6 (by kernel_rfl) (by kernel_rfl) (v := .agg #[.int .i64 8, .func (.func 71) #[] #[.pointer (some ⟨b339, 0, none⟩), .pointer (some ⟨b345, 0, none⟩)]]) (by kernel_rfl) fun a hs => ?_
  refine s_new hs hw [.int .i64 0, .nilFunc] 111 (fun b => .pointer (some ⟨b, 0, none⟩)) (by kernel_rfl) (fun _ => by kernel_rfl) fun a w b553 hs hw => ?_
  refine s_store hs hw 0 rfl 0 (by kernel_rfl) (by kernel_rfl) (v := .agg #[.int .i64 8, .func (.func 71) #[] #[.pointer (some ⟨b339, 0, none⟩), .pointer (some ⟨b345, 0, none⟩)]]) (by kernel_rfl) (by kernel_rfl) (by kernel_rfl) (by kernel_rfl) fun a w hs hw => ?_
  refine s_end ?_
  refine c_seq ?_
  refine c_region ?_
  refine pures hs 2 [2, 3, 6, 58, 59, 60, 8, 64, 65] [(2, .pointer (some ⟨b341, 0, none⟩)), (3, .int .i64 8195), (6, .pointer (some ⟨b345, 0, none⟩)), (58, .slice (some ⟨b349, 0, none⟩) 15 15), (59, .int .i64 15), (60, .int .i64 3), (8, .pointer (some ⟨b553, 0, none⟩)), (64, .int .i64 8195), (65, .pointer (some ⟨b553, 0, none⟩))] (by kernel_rfl) fun a hs => ?_
  refine s_load hs (hw.at_ 0 rfl) 0 (by kernel_rfl) (by kernel_rfl) (v := .int .i64 8) (by kernel_rfl) fun a hs => ?_
  refine pures hs 2 [2, 3, 6, 58, 59, 60, 8, 68] [(2, .pointer (some ⟨b341, 0, none⟩)), (3, .int .i64 8195), (6, .pointer (some ⟨b345, 0, none⟩)), (58, .slice (some ⟨b349, 0, none⟩) 15 15), (59, .int .i64 15), (60, .int .i64 3), (8, .pointer (some ⟨b553, 0, none⟩)), (68, .bool false)] (by kernel_rfl) fun a hs => ?_
  refine s_end ?_
  refine c_condF hs (by kernel_rfl) (by kernel_rfl) ?_
  refine c_skip ?_
  refine c_region ?_
  refine pures hs 2 [2, 3, 6, 58, 59, 60] [(2, .pointer (some ⟨b341, 0, none⟩)), (3, .int .i64 8195), (6, .pointer (some ⟨b345, 0, none⟩)), (58, .slice (some ⟨b349, 0, none⟩) 15 15), (59, .int .i64 15), (60, .int .i64 4)] (by kernel_rfl) fun a hs => ?_
  refine s_end ?_
  refine c_unr ?_
  refine c_seq ?_
  refine c_region ?_
  refine pures hs 1 [2, 3, 6, 58, 59, 60, 61] [(2, .pointer (some ⟨b341, 0, none⟩)), (3, .int .i64 8195), (6, .pointer (some ⟨b345, 0, none⟩)), (58, .slice (some ⟨b349, 0, none⟩) 15 15), (59, .int .i64 15), (60, .int .i64 4), (61, .bool true)] (by kernel_rfl) fun a hs => ?_
  refine s_end ?_
  refine c_seq ?_
  refine c_condT hs (by kernel_rfl) (by kernel_rfl) ?_
  refine c_skip ?_
  refine c_seq ?_
  refine c_block ?_
  refine c_seq ?_
  refine c_region ?_
  refine pures hs 1 [2, 3, 6, 58, 59, 60, 62] [(2, .pointer (some ⟨b341, 0, none⟩)), (3, .int .i64 8195), (6, .pointer (some ⟨b345, 0, none⟩)), (58, .slice (some ⟨b349, 0, none⟩) 15 15), (59, .int .i64 15), (60, .int .i64 4), (62, .pointer (some ⟨b349, 8, none⟩))] (by kernel_rfl) fun a hs => ?_
  refine s_load hs (hw.at_ 4 rfl) 8 (by kernel_rfl) (by kernel_rfl) (v := .agg #[.int .i64 16, .func (.func 72) #[] #[.pointer (some ⟨b339, 0, none⟩), .pointer (some ⟨b345, 0, none⟩)]]) (by kernel_rfl) fun a hs => ?_
  refine s_new hs hw [.int .i64 0, .nilFunc] 111 (fun b => .pointer (some ⟨b, 0, none⟩)) (by kernel_rfl) (fun _ => by kernel_rfl) fun a w b561 hs hw => ?_
  refine s_store hs hw 0 rfl 0 (by kernel_rfl) (by kernel_rfl) (v := .agg #[.int .i64 16, .func (.func 72) #[] #[.pointer (some ⟨b339, 0, none⟩), .pointer (some ⟨b345, 0, none⟩)]]) (by kernel_rfl) (by kernel_rfl) (by kernel_rfl) (by kernel_rfl) fun a w hs hw => ?_
  refine s_end ?_
  refine c_seq ?_
  refine c_region ?_
  refine pures hs 2 [2, 3, 6, 58, 59, 60, 8, 64, 65] [(2, .pointer (some ⟨b341, 0, none⟩)), (3, .int .i64 8195), (6, .pointer (some ⟨b345, 0, none⟩)), (58, .slice (some ⟨b349, 0, none⟩) 15 15), (59, .int .i64 15), (60, .int .i64 4), (8, .pointer (some ⟨b561, 0, none⟩)), (64, .int .i64 8195), (65, .pointer (some ⟨b561, 0, none⟩))] (by kernel_rfl) fun a hs => ?_
  refine s_load hs (hw.at_ 0 rfl) 0 (by kernel_rfl) (by kernel_rfl) (v := .int .i64 16) (by kernel_rfl) fun a hs => ?_
  refine pures hs 2 [2, 3, 6, 58, 59, 60, 8, 68] [(2, .pointer (some ⟨b341, 0, none⟩)), (3, .int .i64 8195), (6, .pointer (some ⟨b345, 0, none⟩)), (58, .slice (some ⟨b349, 0, none⟩) 15 15), (59, .int .i64 15), (60, .int .i64 4), (8, .pointer (some ⟨b561, 0, none⟩)), (68, .bool false)] (by kernel_rfl) fun a hs => ?_
  refine s_end ?_
  refine c_condF hs (by kernel_rfl) (by kernel_rfl) ?_
  refine c_skip ?_
  refine c_region ?_
  refine pures hs 2 [2, 3, 6, 58, 59, 60] [(2, .pointer (some ⟨b341, 0, none⟩)), (3, .int .i64 8195), (6, .pointer (some ⟨b345, 0, none⟩)), (58, .slice (some ⟨b349, 0, none⟩) 15 15), (59, .int .i64 15), (60, .int .i64 5)] (by kernel_rfl) fun a hs => ?_
  refine s_end ?_
  refine c_unr ?_
  refine c_seq ?_
  refine c_region ?_
  refine pures hs 1 [2, 3, 6, 58, 59, 60, 61] [(2, .pointer (some ⟨b341, 0, none⟩)), (3, .int .i64 8195), (6, .pointer (some ⟨b345, 0, none⟩)), (58, .slice (some ⟨b349, 0, none⟩) 15 15), (59, .int .i64 15), (60, .int .i64 5), (61, .bool true)] (by kernel_rfl) fun a hs => ?_
  refine s_end ?_
  refine c_seq ?_
  refine c_condT hs (by kernel_rfl) (by kernel_rfl) ?_
  refine c_skip ?_
  refine c_seq ?_
  refine c_block ?_
  refine c_seq ?_
  refine c_region ?_
  refine pures hs 1 [2, 3, 6, 58, 59, 60, 62] [(2, .pointer (some ⟨b341, 0, none⟩)), (3, .int .i64 8195), (6, .pointer (some ⟨b345, 0, none⟩)), (58, .slice (some ⟨b349, 0, none⟩) 15 15), (59, .int .i64 15), (60, .int .i64 5), (62, .pointer (some ⟨b349, 10, none⟩))] (by kernel_rfl) fun a hs => ?_
  refine s_load hs (hw.at_ 5 rfl) 10 (by kernel_rfl) (by kernel_rfl) (v := .agg #[.int .i64 32, .func (.func 73) #[] #[.pointer (some ⟨b339, 0, none⟩), .pointer (some ⟨b345, 0, none⟩)]]) (by kernel_rfl) fun a hs => ?_
  refine s_new hs hw [.int .i64 0, .nilFunc] 111 (fun b => .pointer (some ⟨b, 0, none⟩)) (by kernel_rfl) (fun _ => by kernel_rfl) fun a w b569 hs hw => ?_
  refine s_store hs hw 0 rfl 0 (by kernel_rfl) (by kernel_rfl) (v := .agg #[.int .i64 32, .func (.func 73) #[] #[.pointer (some ⟨b339, 0, none⟩), .pointer (some ⟨b345, 0, none⟩)]]) (by kernel_rfl) (by kernel_rfl) (by kernel_rfl) (by kernel_rfl) fun a w hs hw => ?_
  refine s_end ?_
  refine c_seq ?_
  refine c_region ?_
  refine pures hs 2 [2, 3, 6, 58, 59, 60, 8, 64, 65] [(2, .pointer (some ⟨b341, 0, none⟩)), (3, .int .i64 8195), (6, .pointer (some ⟨b345, 0, none⟩)), (58, .slice (some ⟨b349, 0, none⟩) 15 15), (59, .int .i64 15), (60, .int .i64 5), (8, .pointer (some ⟨b569, 0, none⟩)), (64, .int .i64 8195), (65, .pointer (some ⟨b569, 0, none⟩))] (by kernel_rfl) fun a hs => ?_
  refine s_load hs (hw.at_ 0 rfl) 0 (by kernel_rfl) (by kernel_rfl) (v := .int .i64 32) (by kernel_rfl) fun a hs => ?_
  refine pures hs 2 [2, 3, 6, 58, 59, 60, 8, 68] [(2, .pointer (some ⟨b341, 0, none⟩)), (3, .int .i64 8195), (6, .pointer (some ⟨b345, 0, none⟩)), (58, .slice (some ⟨b349, 0, none⟩) 15 15), (59, .int .i64 15), (60, .int .i64 5), (8, .pointer (some ⟨b569, 0, none⟩)), (68, .bool false)] (by kernel_rfl) fun a hs => ?_
  refine s_end ?_
  refine c_condF hs (by kernel_rfl) (by kernel_rfl) ?_
  refine c_skip ?_
  refine c_region ?_
  refine pures hs 2 [2, 3, 6, 58, 59, 60] [(2, .pointer (some ⟨b341, 0, none⟩)), (3, .int .i64 8195), (6, .pointer (some ⟨b345, 0, none⟩)), (58, .slice (some ⟨b349, 0, none⟩) 15 15), (59, .int .i64 15), (60, .int .i64 6)] (by kernel_rfl) fun a hs => ?_
  refine s_end ?_
  refine c_unr ?_
  refine c_seq ?_
  refine c_region ?_
  refine pures hs 1 [2, 3, 6, 58, 59, 60, 61] [(2, .pointer (some ⟨b341, 0, none⟩)), (3, .int .i64 8195), (6, .pointer (some ⟨b345, 0, none⟩)), (58, .slice (some ⟨b349, 0, none⟩) 15 15), (59, .int .i64 15), (60, .int .i64 6), (61, .bool true)] (by kernel_rfl) fun a hs => ?_
  refine s_end ?_
  refine c_seq ?_
  refine c_condT hs (by kernel_rfl) (by kernel_rfl) ?_
  refine c_skip ?_
  refine c_seq ?_
  refine c_block ?_
  refine c_seq ?_
  refine c_region ?_
  refine pures hs 1 [2, 3, 6, 58, 59, 60, 62] [(2, .pointer (some ⟨b341, 0, none⟩)), (3, .int .i64 8195), (6, .pointer (some ⟨b345, 0, none⟩)), (58, .slice (some ⟨b349, 0, none⟩) 15 15), (59, .int .i64 15), (60, .int .i64 6), (62, .pointer (some ⟨b349, 12, none⟩))] (by kernel_rfl) fun a hs => ?_
  refine s_load hs (hw.at_ 6 rfl) 12 (by kernel_rfl) (by kernel_rfl) (v := .agg #[.int .i64 64, .func (.func 74) #[] #[.pointer (some ⟨b339, 0, none⟩), .pointer (some ⟨b345, 0, none⟩)]]) (by kernel_rfl) fun a hs => ?_
  refine s_new hs hw [.int .i64 0, .nilFunc] 111 (fun b => .pointer (some ⟨b, 0, none⟩)) (by kernel_rfl) (fun _ => by kernel_rfl) fun a w b577 hs hw => ?_
  refine s_store hs hw 0 rfl 0 (by kernel_rfl) (by kernel_rfl) (v := .agg #[.int .i64 64, .func (.func 74) #[] #[.pointer (some ⟨b339, 0, none⟩), .pointer (some ⟨b345, 0, none⟩)]]) (by kernel_rfl) (by kernel_rfl) (by kernel_rfl) (by kernel_rfl) fun a w hs hw => ?_
  refine s_end ?_
  refine c_seq ?_
  refine c_region ?_
  refine pures hs 2 [2, 3, 6, 58, 59, 60, 8, 64, 65] [(2, .pointer (some ⟨b341, 0, none⟩)), (3, .int .i64 8195), (6, .pointer (some ⟨b345, 0, none⟩)), (58, .slice (some ⟨b349, 0, none⟩) 15 15), (59, .int .i64 15), (60, .int .i64 6), (8, .pointer (some ⟨b577, 0, none⟩)), (64, .int .i64 8195), (65, .pointer (some ⟨b577, 0, none⟩))] (by kernel_rfl) fun a hs => ?_
  refine s_load hs (hw.at_ 0 rfl) 0 (by kernel_rfl) (by kernel_rfl) (v := .int .i64 64) (by kernel_rfl) fun a hs => ?_
  refine pures hs 2 [2, 3, 6, 58, 59, 60, 8, 68] [(2, .pointer (some ⟨b341, 0, none⟩)), (3, .int .i64 8195), (6, .pointer (some ⟨b345, 0, none⟩)), (58, .slice (some ⟨b349, 0, none⟩) 15 15), (59, .int .i64 15), (60, .int .i64 6), (8, .pointer (some ⟨b577, 0, none⟩)), (68, .bool false)] (by kernel_rfl) fun a hs => ?_
  refine s_end ?_
  refine c_condF hs (by kernel_rfl) (by kernel_rfl) ?_
  refine c_skip ?_
  refine c_region ?_
  refine pures hs 2 [2, 3, 6, 58, 59, 60] [(2, .pointer (some ⟨b341, 0, none⟩)), (3, .int .i64 8195), (6, .pointer (some ⟨b345, 0, none⟩)), (58, .slice (some ⟨b349, 0, none⟩) 15 15), (59, .int .i64 15), (60, .int .i64 7)] (by kernel_rfl) fun a hs => ?_
  refine s_end ?_
  refine c_unr ?_
  refine c_seq ?_
  refine c_region ?_
  refine pures hs 1 [2, 3, 6, 58, 59, 60, 61] [(2, .pointer (some ⟨b341, 0, none⟩)), (3, .int .i64 8195), (6, .pointer (some ⟨b345, 0, none⟩)), (58, .slice (some ⟨b349, 0, none⟩) 15 15), (59, .int .i64 15), (60, .int .i64 7), (61, .bool true)] (by kernel_rfl) fun a hs => ?_
  refine s_end ?_
  refine c_seq ?_
  refine c_condT hs (by kernel_rfl) (by kernel_rfl) ?_
  refine c_skip ?_
  refine c_seq ?_
  refine c_block ?_
  refine c_seq ?_
  refine c_region ?_
  refine pures hs 1 [2, 3, 6, 58, 59, 60, 62] [(2, .pointer (some ⟨b341, 0, none⟩)), (3, .int .i64 8195), (6, .pointer (some ⟨b345, 0, none⟩)), (58, .slice (some ⟨b349, 0, none⟩) 15 15), (59, .int .i64 15), (60, .int .i64 7), (62, .pointer (some ⟨b349, 14, none⟩))] (by kernel_rfl) fun a hs => ?_
  refine s_load hs (hw.at_ 7 rfl) 14 (by kernel_rfl) (by kernel_rfl) (v := .agg #[.int .i64 128, .func (.func 75) #[] #[.pointer (some ⟨b339, 0, none⟩), .pointer (some ⟨b345, 0, none⟩)]]) (by kernel_rfl) fun a hs => ?_
  refine s_new hs hw [.int .i64 0, .nilFunc] 111 (fun b => .pointer (some ⟨b, 0, none⟩)) (by kernel_rfl) (fun _ => by kernel_rfl) fun a w b585 hs hw => ?_
  refine s_store hs hw 0 rfl 0 (by kernel_rfl) (by kernel_rfl) (v := .agg #[.int .i64 128, .func (.func 75) #[] #[.pointer (some ⟨b339, 0, none⟩), .pointer (some ⟨b345, 0, none⟩)]]) (by kernel_rfl) (by kernel_rfl) (by kernel_rfl) (by kernel_rfl) fun a w hs hw => ?_
  refine s_end ?_
  refine c_seq ?_
  refine c_region ?_
  refine pures hs 2 [2, 3, 6, 58, 59, 60, 8, 64, 65] [(2, .pointer (some ⟨b341, 0, none⟩)), (3, .int .i64 8195), (6, .pointer (some ⟨b345, 0, none⟩)), (58, .slice (some ⟨b349, 0, none⟩) 15 15), (59, .int .i64 15), (60, .int .i64 7), (8, .pointer (some ⟨b585, 0, none⟩)), (64, .int .i64 8195), (65, .pointer (some ⟨b585, 0, none⟩))] (by kernel_rfl) fun a hs => ?_
  refine s_load hs (hw.at_ 0 rfl) 0 (by kernel_rfl) (by kernel_rfl) (v := .int .i64 128) (by kernel_rfl) fun a hs => ?_
  refine pures hs 2 [2, 3, 6, 58, 59, 60, 8, 68] [(2, .pointer (some ⟨b341, 0, none⟩)), (3, .int .i64 8195), (6, .pointer (some ⟨b345, 0, none⟩)), (58, .slice (some ⟨b349, 0, none⟩) 15 15), (59, .int .i64 15), (60, .int .i64 7), (8, .pointer (some ⟨b585, 0, none⟩)), (68, .bool false)] (by kernel_rfl) fun a hs => ?_
  refine s_end ?_
  refine c_condF hs (by kernel_rfl) (by kernel_rfl) ?_
  refine c_skip ?_
  refine c_region ?_
  refine pures hs 2 [2, 3, 6, 58, 59, 60] [(2, .pointer (some ⟨b341, 0, none⟩)), (3, .int .i64 8195), (6, .pointer (some ⟨b345, 0, none⟩)), (58, .slice (some ⟨b349, 0, none⟩) 15 15), (59, .int .i64 15), (60, .int .i64 8)] (by kernel_rfl) fun a hs => ?_
  refine s_end ?_
  refine c_unr ?_
  refine c_seq ?_
  refine c_region ?_
  refine pures hs 1 [2, 3, 6, 58, 59, 60, 61] [(2, .pointer (some ⟨b341, 0, none⟩)), (3, .int .i64 8195), (6, .pointer (some ⟨b345, 0, none⟩)), (58, .slice (some ⟨b349, 0, none⟩) 15 15), (59, .int .i64 15), (60, .int .i64 8), (61, .bool true)] (by kernel_rfl) fun a hs => ?_
  refine s_end ?_
  refine c_seq ?_
  refine c_condT hs (by kernel_rfl) (by kernel_rfl) ?_
  refine c_skip ?_
  refine c_seq ?_
  refine c_block ?_
  refine c_seq ?_
  refine c_region ?_
  refine pures hs 1 [2, 3, 6, 58, 59, 60, 62] [(2, .pointer (some ⟨b341, 0, none⟩)), (3, .int .i64 8195), (6, .pointer (some ⟨b345, 0, none⟩)), (58, .slice (some ⟨b349, 0, none⟩) 15 15), (59, .int .i64 15), (60, .int .i64 8), (62, .pointer (some ⟨b349, 16, none⟩))] (by kernel_rfl) fun a hs => ?_
  refine s_load hs (hw.at_ 8 rfl) 16 (by kernel_rfl) (by kernel_rfl) (v := .agg #[.int .i64 256, .func (.func 76) #[] #[.pointer (some ⟨b339, 0, none⟩), .pointer (some ⟨b345, 0, none⟩)]]) (by kernel_rfl) fun a hs => ?_
  refine s_new hs hw [.int .i64 0, .nilFunc] 111 (fun b => .pointer (some ⟨b, 0, none⟩)) (by kernel_rfl) (fun _ => by kernel_rfl) fun a w b593 hs hw => ?_
  refine s_store hs hw 0 rfl 0 (by kernel_rfl) (by kernel_rfl) (v := .agg #[.int .i64 256, .func (.func 76) #[] #[.pointer (some ⟨b339, 0, none⟩), .pointer (some ⟨b345, 0, none⟩)]]) (by kernel_rfl) (by kernel_rfl) (by kernel_rfl) (by kernel_rfl) fun a w hs hw => ?_
  refine s_end ?_
  refine c_seq ?_
  refine c_region ?_
  refine pures hs 2 [2, 3, 6, 58, 59, 60, 8, 64, 65] [(2, .pointer (some ⟨b341, 0, none⟩)), (3, .int .i64 8195), (6, .pointer (some ⟨b345, 0, none⟩)), (58, .slice (some ⟨b349, 0, none⟩) 15 15), (59, .int .i64 15), (60, .int .i64 8), (8, .pointer (some ⟨b593, 0, none⟩)), (64, .int .i64 8195), (65, .pointer (some ⟨b593, 0, none⟩))] (by kernel_rfl) fun a hs => ?_
  refine s_load hs (hw.at_ 0 rfl) 0 (by kernel_rfl) (by kernel_rfl) (v := .int .i64 256) (by kernel_rfl) fun a hs => ?_
  refine pures hs 2 [2, 3, 6, 58, 59, 60, 8, 68] [(2, .pointer (some ⟨b341, 0, none⟩)), (3, .int .i64 8195), (6, .pointer (some ⟨b345, 0, none⟩)), (58, .slice (some ⟨b349, 0, none⟩) 15 15), (59, .int .i64 15), (60, .int .i64 8), (8, .pointer (some ⟨b593, 0, none⟩)), (68, .bool false)] (by kernel_rfl) fun a hs => ?_
  refine s_end ?_
  refine c_condF hs (by kernel_rfl) (by kernel_rfl) ?_
  refine c_skip ?_
  refine c_region ?_
  refine pures hs 2 [2, 3, 6, 58, 59, 60] [(2, .pointer (some ⟨b341, 0, none⟩)), (3, .int .i64 8195), (6, .pointer (some ⟨b345, 0, none⟩)), (58, .slice (some ⟨b349, 0, none⟩) 15 15), (59, .int .i64 15), (60, .int .i64 9)] (by kernel_rfl) fun a hs => ?_
  refine s_end ?_
  refine c_unr ?_
  refine c_seq ?_
  refine c_region ?_
  refine pures hs 1 [2, 3, 6, 58, 59, 60, 61] [(2, .pointer (some ⟨b341, 0, none⟩)), (3, .int .i64 8195), (6, .pointer (some ⟨b345, 0, none⟩)), (58, .slice (some ⟨b349, 0, none⟩) 15 15), (59, .int .i64 15), (60, .int .i64 9), (61, .bool true)] (by kernel_rfl) fun a hs => ?_
  refine s_end ?_
  refine c_seq ?_
  refine c_condT hs (by kernel_rfl) (by kernel_rfl) ?_
  refine c_skip ?_
  refine c_seq ?_
  refine c_block ?_
  refine c_seq ?_
  refine c_region ?_
  refine pures hs 1 [2, 3, 6, 58, 59, 60, 62] [(2, .pointer (some ⟨b341, 0, none⟩)), (3, .int .i64 8195), (6, .pointer (some ⟨b345, 0, none⟩)), (58, .slice (some ⟨b349, 0, none⟩) 15 15), (59, .int .i64 15), (60, .int .i64 9), (62, .pointer (some ⟨b349, 18, none⟩))] (by kernel_rfl) fun a hs => ?_
  refine s_load hs (hw.at_ 9 rfl) 18 (by kernel_rfl) (by kernel_rfl) (v := .agg #[.int .i64 512, .func (.func 77) #[] #[.pointer (some ⟨b339, 0, none⟩), .pointer (some ⟨b345, 0, none⟩)]]) (by kernel_rfl) fun a hs => ?_
  refine s_new hs hw [.int .i64 0, .nilFunc] 111 (fun b => .pointer (some ⟨b, 0, none⟩)) (by kernel_rfl) (fun _ => by kernel_rfl) fun a w b601 hs hw => ?_
  refine s_store hs hw 0 rfl 0 (by kernel_rfl) (by kernel_rfl) (v := .agg #[.int .i64 512, .func (.func 77) #[] #[.pointer (some ⟨b339, 0, none⟩), .pointer (some ⟨b345, 0, none⟩)]]) (by kernel_rfl) (by kernel_rfl) (by kernel_rfl) (by kernel_rfl) fun a w hs hw => ?_
  refine s_end ?_
  refine c_seq ?_
  refine c_region ?_
  refine pures hs 2 [2, 3, 6, 58, 59, 60, 8, 64, 65] [(2, .pointer (some ⟨b341, 0, none⟩)), (3, .int .i64 8195), (6, .pointer (some ⟨b345, 0, none⟩)), (58, .slice (some ⟨b349, 0, none⟩) 15 15), (59, .int .i64 15), (60, .int .i64 9), (8, .pointer (some ⟨b601, 0, none⟩)), (64, .int .i64 8195), (65, .pointer (some ⟨b601, 0, none⟩))] (by kernel_rfl) fun a hs => ?_
  refine s_load hs (hw.at_ 0 rfl) 0 (by kernel_rfl) (by kernel_rfl) (v := .int .i64 512) (by kernel_rfl) fun a hs => ?_
  refine pures hs 2 [2, 3, 6, 58, 59, 60, 8, 68] [(2, .pointer (some ⟨b341, 0, none⟩)), (3, .int .i64 8195), (6, .pointer (some ⟨b345, 0, none⟩)), (58, .slice (some ⟨b349, 0, none⟩) 15 15), (59, .int .i64 15), (60, .int .i64 9), (8, .pointer (some ⟨b601, 0, none⟩)), (68, .bool false)] (by kernel_rfl) fun a hs => ?_
  refine s_end ?_
  refine c_condF hs (by kernel_rfl) (by kernel_rfl) ?_
  refine c_skip ?_
  refine c_region ?_
  refine pures hs 2 [2, 3, 6, 58, 59, 60] [(2, .pointer (some ⟨b341, 0, none⟩)), (3, .int .i64 8195), (6, .pointer (some ⟨b345, 0, none⟩)), (58, .slice (some ⟨b349, 0, none⟩) 15 15), (59, .int .i64 15), (60, .int .i64 10)] (by kernel_rfl) fun a hs => ?_
  refine s_end ?_
  refine c_unr ?_
  refine c_seq ?_
  refine c_region ?_
  refine pures hs 1 [2, 3, 6, 58, 59, 60, 61] [(2, .pointer (some ⟨b341, 0, none⟩)), (3, .int .i64 8195), (6, .pointer (some ⟨b345, 0, none⟩)), (58, .slice (some ⟨b349, 0, none⟩) 15 15), (59, .int .i64 15), (60, .int .i64 10), (61, .bool true)] (by kernel_rfl) fun a hs => ?_
  refine s_end ?_
  refine c_seq ?_
  refine c_condT hs (by kernel_rfl) (by kernel_rfl) ?_
  refine c_skip ?_
  refine c_seq ?_
  refine c_block ?_
  refine c_seq ?_
  refine c_region ?_
  refine pures hs 1 [2, 3, 6, 58, 59, 60, 62] [(2, .pointer (some ⟨b341, 0, none⟩)), (3, .int .i64 8195), (6, .pointer (some ⟨b345, 0, none⟩)), (58, .slice (some ⟨b349, 0, none⟩) 15 15), (59, .int .i64 15), (60, .int .i64 10), (62, .pointer (some ⟨b349, 20, none⟩))] (by kernel_rfl) fun a hs => ?_
  refine s_load hs (hw.at_ 10 rfl) 20 (by kernel_rfl) (by kernel_rfl) (v := .agg #[.int .i64 1024, .func (.func 78) #[] #[.pointer (some ⟨b339, 0, none⟩), .pointer (some ⟨b345, 0, none⟩)]]) (by kernel_rfl) fun a hs => ?_
  refine s_new hs hw [.int .i64 0, .nilFunc] 111 (fun b => .pointer (some ⟨b, 0, none⟩)) (by kernel_rfl) (fun _ => by kernel_rfl) fun a w b609 hs hw => ?_
  refine s_store hs hw 0 rfl 0 (by kernel_rfl) (by kernel_rfl) (v := .agg #[.int .i64 1024, .func (.func 78) #[] #[.pointer (some ⟨b339, 0, none⟩), .pointer (some ⟨b345, 0, none⟩)]]) (by kernel_rfl) (by kernel_rfl) (by kernel_rfl) (by kernel_rfl) fun a w hs hw => ?_
  refine s_end ?_
  refine c_seq ?_
  refine c_region ?_
  refine pures hs 2 [2, 3, 6, 58, 59, 60, 8, 64, 65] [(2, .pointer (some ⟨b341, 0, none⟩)), (3, .int .i64 8195), (6, .pointer (some ⟨b345, 0, none⟩)), (58, .slice (some ⟨b349, 0, none⟩) 15 15), (59, .int .i64 15), (60, .int .i64 10), (8, .pointer (some ⟨b609, 0, none⟩)), (64, .int .i64 8195), (65, .pointer (some ⟨b609, 0, none⟩))] (by kernel_rfl) fun a hs => ?_
  refine s_load hs (hw.at_ 0 rfl) 0 (by kernel_rfl) (by kernel_rfl) (v := .int .i64 1024) (by kernel_rfl) fun a hs => ?_
  refine pures hs 2 [2, 3, 6, 58, 59, 60, 8, 68] [(2, .pointer (some ⟨b341, 0, none⟩)), (3, .int .i64 8195), (6, .pointer (some ⟨b345, 0, none⟩)), (58, .slice (some ⟨b349, 0, none⟩) 15 15), (59, .int .i64 15), (60, .int .i64 10), (8, .pointer (some ⟨b609, 0, none⟩)), (68, .bool false)] (by kernel_rfl) fun a hs => ?_
  refine s_end ?_
  refine c_condF hs (by kernel_rfl) (by kernel_rfl) ?_
  refine c_skip ?_
  refine c_region ?_
  refine pures hs 2 [2, 3, 6, 58, 59, 60] [(2, .pointer (some ⟨b341, 0, none⟩)), (3, .int .i64 8195), (6, .pointer (some ⟨b345, 0, none⟩)), (58, .slice (some ⟨b349, 0, none⟩) 15 15), (59, .int .i64 15), (60, .int .i64 11)] (by kernel_rfl) fun a hs => ?_
  refine s_end ?_
  refine c_unr ?_
  refine c_seq ?_
  refine c_region ?_
  refine pures hs 1 [2, 3, 6, 58, 59, 60, 61] [(2, .pointer (some ⟨b341, 0, none⟩)), (3, .int .i64 8195), (6, .pointer (some ⟨b345, 0, none⟩)), (58, .slice (some ⟨b349, 0, none⟩) 15 15), (59, .int .i64 15), (60, .int .i64 11), (61, .bool true)] (by kernel_rfl) fun a hs => ?_
  refine s_end ?_
  refine c_seq ?_
  refine c_condT hs (by kernel_rfl) (by kernel_rfl) ?_
  refine c_skip ?_
  refine c_seq ?_
  refine c_block ?_
  refine c_seq ?_
  refine c_region ?_
  refine pures hs 1 [2, 3, 6, 58, 59, 60, 62] [(2, .pointer (some ⟨b341, 0, none⟩)), (3, .int .i64 8195), (6, .pointer (some ⟨b345, 0, none⟩)), (58, .slice (some ⟨b349, 0, none⟩) 15 15), (59, .int .i64 15), (60, .int .i64 11), (62, .pointer (some ⟨b349, 22, none⟩))] (by kernel_rfl) fun a hs => ?_
  refine s_load hs (hw.at_ 11 rfl) 22 (by kernel_rfl) (by kernel_rfl) (v := .agg #[.int .i64 2048, .func (.func 79) #[] #[.pointer (some ⟨b339, 0, none⟩), .pointer (some ⟨b345, 0, none⟩)]]) (by kernel_rfl) fun a hs => ?_
  refine s_new hs hw [.int .i64 0, .nilFunc] 111 (fun b => .pointer (some ⟨b, 0, none⟩)) (by kernel_rfl) (fun _ => by kernel_rfl) fun a w b617 hs hw => ?_
  refine s_store hs hw 0 rfl 0 (by kernel_rfl) (by kernel_rfl) (v := .agg #[.int .i64 2048, .func (.func 79) #[] #[.pointer (some ⟨b339, 0, none⟩), .pointer (some ⟨b345, 0, none⟩)]]) (by kernel_rfl) (by kernel_rfl) (by kernel_rfl) (by kernel_rfl) fun a w hs hw => ?_
  refine s_end ?_
  refine c_seq ?_
  refine c_region ?_
  refine pures hs 2 [2, 3, 6, 58, 59, 60, 8, 64, 65] [(2, .pointer (some ⟨b341, 0, none⟩)), (3, .int .i64 8195), (6, .pointer (some ⟨b345, 0, none⟩)), (58, .slice (some ⟨b349, 0, none⟩) 15 15), (59, .int .i64 15), (60, .int .i64 11), (8, .pointer (some ⟨b617, 0, none⟩)), (64, .int .i64 8195), (65, .pointer (some ⟨b617, 0, none⟩))] (by kernel_rfl) fun a hs => ?_
  refine s_load hs (hw.at_ 0 rfl) 0 (by kernel_rfl) (by kernel_rfl) (v := .int .i64 2048) (by kernel_rfl) fun a hs => ?_
  refine pures hs 2 [2, 3, 6, 58, 59, 60, 8, 68] [(2, .pointer (some ⟨b341, 0, none⟩)), (3, .int .i64 8195), (6, .pointer (some ⟨b345, 0, none⟩)), (58, .slice (some ⟨b349, 0, none⟩) 15 15), (59, .int .i64 15), (60, .int .i64 11), (8, .pointer (some ⟨b617, 0, none⟩)), (68, .bool false)] (by kernel_rfl) fun a hs => ?_
  refine s_end ?_
  refine c_condF hs (by kernel_rfl) (by kernel_rfl) ?_
  refine c_skip ?_
  refine c_region ?_
  refine pures hs 2 [2, 3, 6, 58, 59, 60] [(2, .pointer (some ⟨b341, 0, none⟩)), (3, .int .i64 8195), (6, .pointer (some ⟨b345, 0, none⟩)), (58, .slice (some ⟨b349, 0, none⟩) 15 15), (59, .int .i64 15), (60, .int .i64 12)] (by kernel_rfl) fun a hs => ?_
  refine s_end ?_
  refine c_unr ?_
  refine c_seq ?_
  refine c_region ?_
  refine pures hs 1 [2, 3, 6, 58, 59, 60, 61] [(2, .pointer (some ⟨b341, 0, none⟩)), (3, .int .i64 8195), (6, .pointer (some ⟨b345, 0, none⟩)), (58, .slice (some ⟨b349, 0, none⟩) 15 15), (59, .int .i64 15), (60, .int .i64 12), (61, .bool true)] (by kernel_rfl) fun a hs => ?_
  refine s_end ?_
  refine c_seq ?_
  refine c_condT hs (by kernel_rfl) (by kernel_rfl) ?_
  refine c_skip ?_
  refine c_seq ?_
  refine c_block ?_
  refine c_seq ?_
  refine c_region ?_
  refine pures hs 1 [2, 3, 6, 58, 59, 60, 62] [(2, .pointer (some ⟨b341, 0, none⟩)), (3, .int .i64 8195), (6, .pointer (some ⟨b345, 0, none⟩)), (58, .slice (some ⟨b349, 0, none⟩) 15 15), (59, .int .i64 15), (60, .int .i64 12), (62, .pointer (some ⟨b349, 24, none⟩))] (by kernel_rfl) fun a hs => ?_
  refine s_load hs (hw.at_ 12 rfl) 24 (by kernel_rfl) (by kernel_rfl) (v := .agg #[.int .i64 4096, .func (.func 80) #[] #[.pointer (some ⟨b339, 0, none⟩), .pointer (some ⟨b345, 0, none⟩)]]) (by kernel_rfl) fun a hs => ?_
  refine s_new hs hw [.int .i64 0, .nilFunc] 111 (fun b => .pointer (some ⟨b, 0, none⟩)) (by kernel_rfl) (fun _ => by kernel_rfl) fun a w b625 hs hw => ?_
  refine s_store hs hw 0 rfl 0 (by kernel_rfl) (by kernel_rfl) (v := .agg #[.int .i64 4096, .func (.func 80) #[] #[.pointer (some ⟨b339, 0, none⟩), .pointer (some ⟨b345, 0, none⟩)]]) (by kernel_rfl) (by kernel_rfl) (by kernel_rfl) (by kernel_rfl) fun a w hs hw => ?_
  refine s_end ?_
  refine c_seq ?_
  refine c_region ?_
  refine pures hs 2 [2, 3, 6, 58, 59, 60, 8, 64, 65] [(2, .pointer (some ⟨b341, 0, none⟩)), (3, .int .i64 8195), (6, .pointer (some ⟨b345, 0, none⟩)), (58, .slice (some ⟨b349, 0, none⟩) 15 15), (59, .int .i64 15), (60, .int .i64 12), (8, .pointer (some ⟨b625, 0, none⟩)), (64, .int .i64 8195), (65, .pointer (some ⟨b625, 0, none⟩))] (by kernel_rfl) fun a hs => ?_
  refine s_load hs (hw.at_ 0 rfl) 0 (by kernel_rfl) (by kernel_rfl) (v := .int .i64 4096) (by kernel_rfl) fun a hs => ?_
  refine pures hs 2 [2, 3, 6, 58, 59, 60, 8, 68] [(2, .pointer (some ⟨b341, 0, none⟩)), (3, .int .i64 8195), (6, .pointer (some ⟨b345, 0, none⟩)), (58, .slice (some ⟨b349, 0, none⟩) 15 15), (59, .int .i64 15), (60, .int .i64 12), (8, .pointer (some ⟨b625, 0, none⟩)), (68, .bool false)] (by kernel_rfl) fun a hs => ?_
  refine s_end ?_
  refine c_condF hs (by kernel_rfl) (by kernel_rfl) ?_
  refine c_skip ?_
  refine c_region ?_
  refine pures hs 2 [2, 3, 6, 58, 59, 60] [(2, .pointer (some ⟨b341, 0, none⟩)), (3, .int .i64 8195), (6, .pointer (some ⟨b345, 0, none⟩)), (58, .slice (some ⟨b349, 0, none⟩) 15 15), (59, .int .i64 15), (60, .int .i64 13)] (by kernel_rfl) fun a hs => ?_
  refine s_end ?_
  refine c_unr ?_
  refine c_seq ?_
  refine c_region ?_
  refine pures hs 1 [2, 3, 6, 58, 59, 60, 61] [(2, .pointer (some ⟨b341, 0, none⟩)), (3, .int .i64 8195), (6, .pointer (some ⟨b345, 0, none⟩)), (58, .slice (some ⟨b349, 0, none⟩) 15 15), (59, .int .i64 15), (60, .int .i64 13), (61, .bool true)] (by kernel_rfl) fun a hs => ?_
  refine s_end ?_
  refine c_seq ?_
  refine c_condT hs (by kernel_rfl) (by kernel_rfl) ?_
  refine c_skip ?_
  refine c_seq ?_
  refine c_block ?_
  refine c_seq ?_
  refine c_region ?_
  refine pures hs 1 [2, 3, 6, 58, 59, 60, 62] [(2, .pointer (some ⟨b341, 0, none⟩)), (3, .int .i64 8195), (6, .pointer (some ⟨b345, 0, none⟩)), (58, .slice (some ⟨b349, 0, none⟩) 15 15), (59, .int .i64 15), (60, .int .i64 13), (62, .pointer (some ⟨b349, 26, none⟩))] (by kernel_rfl) fun a hs => ?_
  refine s_load hs (hw.at_ 13 rfl) 26 (by kernel_rfl) (by kernel_rfl) (v := .agg #[.int .i64 8192, .func (.func 81) #[] #[.pointer (some ⟨b339, 0, none⟩), .pointer (some ⟨b345, 0, none⟩)]]) (by kernel_rfl) fun a hs => ?_
  refine s_new hs hw [.int .i64 0, .nilFunc] 111 (fun b => .pointer (some ⟨b, 0, none⟩)) (by kernel_rfl) (fun _ => by kernel_rfl) fun a w b643 hs hw => ?_
  refine s_store hs hw 0 rfl 0 (by kernel_rfl) (by kernel_rfl) (v := .agg #[.int .i64 8192, .func (.func 81) #[] #[.pointer (some ⟨b339, 0, none⟩), .pointer (some ⟨b345, 0, none⟩)]]) (by kernel_rfl) (by kernel_rfl) (by kernel_rfl) (by kernel_rfl) fun a w hs hw => ?_
  refine s_end ?_
  refine c_seq ?_
  refine c_region ?_
  refine pures hs 2 [2, 3, 6, 58, 59, 60, 8, 64, 65] [(2, .pointer (some ⟨b341, 0, none⟩)), (3, .int .i64 8195), (6, .pointer (some ⟨b345, 0, none⟩)), (58, .slice (some ⟨b349, 0, none⟩) 15 15), (59, .int .i64 15), (60, .int .i64 13), (8, .pointer (some ⟨b643, 0, none⟩)), (64, .int .i64 8195), (65, .pointer (some ⟨b643, 0, none⟩))] (by kernel_rfl) fun a hs => ?_
  refine s_load hs (hw.at_ 0 rfl) 0 (by kernel_rfl) (by kernel_rfl) (v := .int .i64 8192) (by kernel_rfl) fun a hs => ?_
  refine pures hs 2 [2, 3, 6, 58, 59, 60, 8, 68] [(2, .pointer (some ⟨b341, 0, none⟩)), (3, .int .i64 8195), (6, .pointer (some ⟨b345, 0, none⟩)), (58, .slice (some ⟨b349, 0, none⟩) 15 15), (59, .int .i64 15), (60, .int .i64 13), (8, .pointer (some ⟨b643, 0, none⟩)), (68, .bool true)] (by kernel_rfl) fun a hs => ?_
  refine s_end ?_
  refine c_condT hs (by kernel_rfl) (by kernel_rfl) ?_
  refine c_region ?_
  refine pures hs 1 [2, 3, 6, 58, 59, 60, 69] [(2, .pointer (some ⟨b341, 0, none⟩)), (3, .int .i64 8195), (6, .pointer (some ⟨b345, 0, none⟩)), (58, .slice (some ⟨b349, 0, none⟩) 15 15), (59, .int .i64 15), (60, .int .i64 13), (69, .pointer (some ⟨b643, 1, none⟩))] (by kernel_rfl) fun a hs => ?_
  refine s_load hs (hw.at_ 0 rfl) 1 (by kernel_rfl) (by kernel_rfl) (v := .func (.func 81) #[] #[.pointer (some ⟨b339, 0, none⟩), .pointer (some ⟨b345, 0, none⟩)]) (by kernel_rfl) fun a hs => ?_
  obtain ⟨y650, h651, hk⟩ := bindE hk
  refine s_call hs (by kernel_rfl) (by kernel_rfl) (letter_bare_14_s h651 (RSl.nil _ _ _) (RSl.nil _ _ _) h4 (RSl.nil _ _ _) (RSl.nil _ _ _) (RSl.nil _ _ _) (RSl.nil _ _ _) (RSl.nil _ _ _) ((hw.pick [12, 13, 14, 15, 16] (by kernel_rfl)).pack 2)) fun a w v hv hs => ?_
  obtain ⟨p652, c653, rfl, hw, h654⟩ := hv
  replace hw := hw.unpack 2 rfl
  refine s_end ?_
  refine c_region ?_
  refine pures hs 2 [2, 3, 6, 58, 59, 60] [(2, .pointer (some ⟨b341, 0, none⟩)), (3, .int .i64 8195), (6, .pointer (some ⟨b345, 0, none⟩)), (58, .slice (some ⟨b349, 0, none⟩) 15 15), (59, .int .i64 15), (60, .int .i64 14)] (by kernel_rfl) fun a hs => ?_
  refine s_end ?_
  refine c_unr ?_
  refine c_seq ?_
  refine c_region ?_
  refine pures hs 1 [2, 3, 6, 58, 59, 60, 61] [(2, .pointer (some ⟨b341, 0, none⟩)), (3, .int .i64 8195), (6, .pointer (some ⟨b345, 0, none⟩)), (58, .slice (some ⟨b349, 0, none⟩) 15 15), (59, .int .i64 15), (60, .int .i64 14), (61, .bool true)] (by kernel_rfl) fun a hs => ?_
  refine s_end ?_
  refine c_seq ?_
  refine c_condT hs (by kernel_rfl) (by kernel_rfl) ?_
  refine c_skip ?_
  refine c_seq ?_
  refine c_block ?_
  refine c_seq ?_
  refine c_region ?_
  refine pures hs 1 [2, 3, 6, 58, 59, 60, 62] [(2, .pointer (some ⟨b341, 0, none⟩)), (3, .int .i64 8195), (6, .pointer (some ⟨b345, 0, none⟩)), (58, .slice (some ⟨b349, 0, none⟩) 15 15), (59, .int .i64 15), (60, .int .i64 14), (62, .pointer (some ⟨b349, 28, none⟩))] (by kernel_rfl) fun a hs => ?_
  refine s_load hs (hw.at_ 2 rfl) 28 (by kernel_rfl) (by kernel_rfl) (v := .agg #[.int .i64 16384, .func (.func 82) #[] #[.pointer (some ⟨b339, 0, none⟩), .pointer (some ⟨b345, 0, none⟩)]]) (by kernel_rfl) fun a hs => ?_
  refine s_new hs hw [.int .i64 0, .nilFunc] 111 (fun b => .pointer (some ⟨b, 0, none⟩)) (by kernel_rfl) (fun _ => by kernel_rfl) fun a w b661 hs hw => ?_
  refine s_store hs hw 0 rfl 0 (by kernel_rfl) (by kernel_rfl) (v := .agg #[.int .i64 16384, .func (.func 82) #[] #[.pointer (some ⟨b339, 0, none⟩), .pointer (some ⟨b345, 0, none⟩)]]) (by kernel_rfl) (by kernel_rfl) (by kernel_rfl) (by kernel_rfl) fun a w hs hw => ?_
  refine s_end ?_
  refine c_seq ?_
  refine c_region ?_
  refine pures hs 2 [2, 3, 6, 58, 59, 60, 8, 64, 65] [(2, .pointer (some ⟨b341, 0, none⟩)), (3, .int .i64 8195), (6, .pointer (some ⟨b345, 0, none⟩)), (58, .slice (some ⟨b349, 0, none⟩) 15 15), (59, .int .i64 15), (60, .int .i64 14), (8, .pointer (some ⟨b661, 0, none⟩)), (64, .int .i64 8195), (65, .pointer (some ⟨b661, 0, none⟩))] (by kernel_rfl) fun a hs => ?_
  refine s_load hs (hw.at_ 0 rfl) 0 (by kernel_rfl) (by kernel_rfl) (v := .int .i64 16384) (by kernel_rfl) fun a hs => ?_
  refine pures hs 2 [2, 3, 6, 58, 59, 60, 8, 68] [(2, .pointer (some ⟨b341, 0, none⟩)), (3, .int .i64 8195), (6, .pointer (some ⟨b345, 0, none⟩)), (58, .slice (some ⟨b349, 0, none⟩) 15 15), (59, .int .i64 15), (60, .int .i64 14), (8, .pointer (some ⟨b661, 0, none⟩)), (68, .bool false)] (by kernel_rfl) fun a hs => ?_
  refine s_end ?_
  refine c_condF hs (by kernel_rfl) (by kernel_rfl) ?_
  refine c_skip ?_
  refine c_region ?_
  refine pures hs 2 [2, 3, 6, 58, 59, 60] [(2, .pointer (some ⟨b341, 0, none⟩)), (3, .int .i64 8195), (6, .pointer (some ⟨b345, 0, none⟩)), (58, .slice (some ⟨b349, 0, none⟩) 15 15), (59, .int .i64 15), (60, .int .i64 15)] (by kernel_rfl) fun a hs => ?_
  refine s_end ?_
  refine c_unr ?_
  refine c_seq ?_
  refine c_region ?_
  refine pures hs 1 [2, 3, 6, 58, 59, 60, 61] [(2, .pointer (some ⟨b341, 0, none⟩)), (3, .int .i64 8195), (6, .pointer (some ⟨b345, 0, none⟩)), (58, .slice (some ⟨b349, 0, none⟩) 15 15), (59, .int .i64 15), (60, .int .i64 15), (61, .bool false)] (by kernel_rfl) fun a hs => ?_
  refine s_end ?_
  refine c_seq ?_
  refine c_condF hs (by kernel_rfl) (by kernel_rfl) ?_
  refine c_exit ?_
  refine c_seq ?_
  refine c_region ?_
  refine s_load hs (hw.at_ 2 rfl) 0 (by kernel_rfl) (by kernel_rfl) (v := .agg #[.int .i64 17, .int .i64 1, .int .i64 1, .int .i64 y521, .int .u64 y537, .int .u64 0, .int .u64 0, .int .u64 0, .int .u64 0, .int .u64 0, .int .i64 0, .int .u32 0, .int .i64 0, .int .i64 0, .int .i64 0, .int .u64 0, .int .i64 0, .int .i64 0, .int .u64 0, .slice none 0 0, .bool false, .int .i64 0, .slice none 0 0, .slice p652 y650.length c653, .slice none 0 0]) (by kernel_rfl) fun a hs => ?_
  refine s_store hs hw 4 rfl 0 (by kernel_rfl) (by kernel_rfl) (v := .agg #[.int .i64 17, .int .i64 1, .int .i64 1, .int .i64 y521, .int .u64 y537, .int .u64 0, .int .u64 0, .int .u64 0, .int .u64 0, .int .u64 0, .int .i64 0, .int .u32 0, .int .i64 0, .int .i64 0, .int .i64 0, .int .u64 0, .int .i64 0, .int .i64 0, .int .u64 0, .slice none 0 0, .bool false, .int .i64 0, .slice none 0 0, .slice p652 y650.length c653, .slice none 0 0]) (by kernel_rfl) (by kernel_rfl) (by kernel_rfl) (by kernel_rfl) fun a w hs hw => ?_
  refine s_end ?_
  refine c_ret ?_
  obtain rfl := someE hk
  refine hQ _ _ (f_retC hs rfl (hw.at_ 4 rfl) (by kernel_rfl) (v := .agg #[.int .i64 17, .int .i64 1, .int .i64 1, .int .i64 y521, .int .u64 y537, .int .u64 0, .int .u64 0, .int .u64 0, .int .u64 0, .int .u64 0, .int .i64 0, .int .u32 0, .int .i64 0, .int .i64 0, .int .i64 0, .int .u64 0, .int .i64 0, .int .i64 0, .int .u64 0, .slice none 0 0, .bool false, .int .i64 0, .slice none 0 0, .slice p652 y650.length c653, .slice none 0 0]) (by kernel_rfl) ⟨p652, c653, rfl, hw.pick [5] (by kernel_rfl), h654⟩)
def slices_Equal_int_int : Option Unit :=
  some ()
theorem slices_Equal_int_int_s {r : Unit} (hk : slices_Equal_int_int = some r) {g w : World} {F : Ch} {ih : IH} (hw : St g w [F] ih) :
    CallsR Tryz.prog 84 #[.slice none 0 0, .slice none 0 0] w fun v w' => v = .bool true ∧ St g w' [F] ih := by
  refine f_in (vs := [.slice none 0 0, .slice none 0 0]) Tryz.func84 rfl 26 rfl (by kernel_rfl) [(0, .slice none 0 0), (1, .slice none 0 0)] (by kernel_rfl) fun a Qf hQ hQn hs => ?_
  refine c_seq ?_
  refine c_region ?_
  refine pures hs 1 [0, 1] [(0, .slice none 0 0), (1, .slice none 0 0)] (by kernel_rfl) fun a hs => ?_
  refine s_end ?_
  refine c_seq ?_
  refine c_seq ?_
  refine c_region ?_
  refine pures hs 5 [0, 1, 10] [(0, .slice none 0 0), (1, .slice none 0 0), (10, .bool false)] (by kernel_rfl) fun a hs => ?_
  refine s_end ?_
  refine c_condF hs (by kernel_rfl) (by kernel_rfl) ?_
  refine c_skip ?_
  refine c_seq ?_
  refine c_seq ?_
  refine c_region ?_
  refine pures hs 3 [0, 1, 12, 13] [(0, .slice none 0 0), (1, .slice none 0 0), (12, .int .i64 0), (13, .int .i64 0)] (by kernel_rfl) fun a hs => ?_
  refine s_end ?_
  refine c_block ?_
  refine wpIn_loop_rounds 1 ?_
  refine c_unr ?_
  refine c_seq ?_
  refine c_region ?_
  refine pures hs 1 [0, 1, 12, 13, 14] [(0, .slice none 0 0), (1, .slice none 0 0), (12, .int .i64 0), (13, .int .i64 0), (14, .bool false)] (by kernel_rfl) fun a hs => ?_
  refine s_end ?_
  refine c_seq ?_
  refine c_condF hs (by kernel_rfl) (by kernel_rfl) ?_
  refine c_exit ?_
  refine c_seq ?_
  refine c_region ?_
  refine pures hs 1 [4] [(4, .bool true)] (by kernel_rfl) fun a hs => ?_
  refine s_end ?_
  refine c_ret ?_
  obtain rfl := someE hk
  refine hQ _ _ (f_ret1 hs rfl (v := .bool true) (by kernel_rfl) ⟨rfl, hw.pick [0] (by kernel_rfl)⟩)
def conf_Same : Option Unit :=
  some ()
theorem conf_Same_s {r : Unit} (hk : conf_Same = some r) {g w : World} {F : Ch} {ih : IH} (hw : St g w [F] ih) :
    CallsR Tryz.prog 63 #[.agg #[.int .i64 0, .int .u64 0, .slice none 0 0, .bool false, .int .i64 0], .agg #[.int .i64 0, .int .u64 0, .slice none 0 0, .bool false, .int .i64 0]] w fun v w' => v = .bool true ∧ St g w' [F] ih := by
  refine f_in (vs := [.agg #[.int .i64 0, .int .u64 0, .slice none 0 0, .bool false, .int .i64 0], .agg #[.int .i64 0, .int .u64 0, .slice none 0 0, .bool false, .int .i64 0]]) Tryz.func63 rfl 38 rfl (by kernel_rfl) [(0, .agg #[.int .i64 0, .int .u64 0, .slice none 0 0, .bool false, .int .i64 0]), (1, .agg #[.int .i64 0, .int .u64 0, .slice none 0 0, .bool false, .int .i64 0])] (by kernel_rfl) fun a Qf hQ hQn hs => ?_
  refine c_seq ?_
  refine c_region ?_
  refine s_new hs hw [.int .i64 0, .int .u64 0, .slice none 0 0, .bool false, .int .i64 0] 87 (fun b => .pointer (some ⟨b, 0, none⟩)) (by kernel_rfl) (fun _ => by kernel_rfl) fun a w b19 hs hw => ?_
  refine s_new hs hw [.int .i64 0, .int .u64 0, .slice none 0 0, .bool false, .int .i64 0] 87 (fun b => .pointer (some ⟨b, 0, none⟩)) (by kernel_rfl) (fun _ => by kernel_rfl) fun a w b21 hs hw => ?_
  refine pures hs 1 [2, 3] [(2, .pointer (some ⟨b19, 0, none⟩)), (3, .pointer (some ⟨b21, 0, none⟩))] (by kernel_rfl) fun a hs => ?_
  refine s_end ?_
  refine c_seq ?_
  refine c_region ?_
  refine pures hs 1 [2, 3, 5] [(2, .pointer (some ⟨b19, 0, none⟩)), (3, .pointer (some ⟨b21, 0, none⟩)), (5, .pointer (some ⟨b19, 0, none⟩))] (by kernel_rfl) fun a hs => ?_
  refine s_load hs (hw.at_ 1 rfl) 0 (by kernel_rfl) (by kernel_rfl) (v := .int .i64 0) (by kernel_rfl) fun a hs => ?_
  refine pures hs 1 [2, 3, 6, 7] [(2, .pointer (some ⟨b19, 0, none⟩)), (3, .pointer (some ⟨b21, 0, none⟩)), (6, .int .i64 0), (7, .pointer (some ⟨b21, 0, none⟩))] (by kernel_rfl) fun a hs => ?_
  refine s_load hs (hw.at_ 0 rfl) 0 (by kernel_rfl) (by kernel_rfl) (v := .int .i64 0) (by kernel_rfl) fun a hs => ?_
  refine pures hs 3 [2, 3, 10, 11] [(2, .pointer (some ⟨b19, 0, none⟩)), (3, .pointer (some ⟨b21, 0, none⟩)), (10, .bool true), (11, .pointer (some ⟨b19, 1, none⟩))] (by kernel_rfl) fun a hs => ?_
  refine s_load hs (hw.at_ 1 rfl) 1 (by kernel_rfl) (by kernel_rfl) (v := .int .u64 0) (by kernel_rfl) fun a hs => ?_
  refine pures hs 1 [2, 3, 10, 12, 13] [(2, .pointer (some ⟨b19, 0, none⟩)), (3, .pointer (some ⟨b21, 0, none⟩)), (10, .bool true), (12, .int .u64 0), (13, .pointer (some ⟨b21, 1, none⟩))] (by kernel_rfl) fun a hs => ?_
  refine s_load hs (hw.at_ 0 rfl) 1 (by kernel_rfl) (by kernel_rfl) (v := .int .u64 0) (by kernel_rfl) fun a hs => ?_
  refine pures hs 4 [2, 3, 17, 18] [(2, .pointer (some ⟨b19, 0, none⟩)), (3, .pointer (some ⟨b21, 0, none⟩)), (17, .bool true), (18, .pointer (some ⟨b19, 3, none⟩))] (by kernel_rfl) fun a hs => ?_
  refine s_load hs (hw.at_ 1 rfl) 3 (by kernel_rfl) (by kernel_rfl) (v := .bool false) (by kernel_rfl) fun a hs => ?_
  refine pures hs 1 [2, 3, 17, 19, 20] [(2, .pointer (some ⟨b19, 0, none⟩)), (3, .pointer (some ⟨b21, 0, none⟩)), (17, .bool true), (19, .bool false), (20, .pointer (some ⟨b21, 3, none⟩))] (by kernel_rfl) fun a hs => ?_
  refine s_load hs (hw.at_ 0 rfl) 3 (by kernel_rfl) (by kernel_rfl) (v := .bool false) (by kernel_rfl) fun a hs => ?_
  refine pures hs 4 [2, 3, 24, 25] [(2, .pointer (some ⟨b19, 0, none⟩)), (3, .pointer (some ⟨b21, 0, none⟩)), (24, .bool true), (25, .pointer (some ⟨b19, 4, none⟩))] (by kernel_rfl) fun a hs => ?_
  refine s_load hs (hw.at_ 1 rfl) 4 (by kernel_rfl) (by kernel_rfl) (v := .int .i64 0) (by kernel_rfl) fun a hs => ?_
  refine pures hs 1 [2, 3, 24, 26, 27] [(2, .pointer (some ⟨b19, 0, none⟩)), (3, .pointer (some ⟨b21, 0, none⟩)), (24, .bool true), (26, .int .i64 0), (27, .pointer (some ⟨b21, 4, none⟩))] (by kernel_rfl) fun a hs => ?_
  refine s_load hs (hw.at_ 0 rfl) 4 (by kernel_rfl) (by kernel_rfl) (v := .int .i64 0) (by kernel_rfl) fun a hs => ?_
  refine pures hs 4 [3, 31, 32] [(3, .pointer (some ⟨b21, 0, none⟩)), (31, .bool true), (32, .pointer (some ⟨b19, 2, none⟩))] (by kernel_rfl) fun a hs => ?_
  refine s_load hs (hw.at_ 1 rfl) 2 (by kernel_rfl) (by kernel_rfl) (v := .slice none 0 0) (by kernel_rfl) fun a hs => ?_
  refine pures hs 1 [31, 33, 34] [(31, .bool true), (33, .slice none 0 0), (34, .pointer (some ⟨b21, 2, none⟩))] (by kernel_rfl) fun a hs => ?_
  refine s_load hs (hw.at_ 0 rfl) 2 (by kernel_rfl) (by kernel_rfl) (v := .slice none 0 0) (by kernel_rfl) fun a hs => ?_
  have h26 : slices_Equal_int_int = some () := rfl
  refine s_call hs (by kernel_rfl) (by kernel_rfl) (slices_Equal_int_int_s h26 ((hw.pick [2] (by kernel_rfl)).pack 0)) fun a w v hv hs => ?_
  obtain ⟨rfl, hw⟩ := hv
  replace hw := hw.unpack 0 rfl
  refine pures hs 2 [4] [(4, .bool true)] (by kernel_rfl) fun a hs => ?_
  refine s_end ?_
  refine c_ret ?_
  obtain rfl := someE hk
  refine hQ _ _ (f_ret1 hs rfl (v := .bool true) (by kernel_rfl) ⟨rfl, hw.pick [0] (by kernel_rfl)⟩)
def slices_Equal_api_Vote_api_Vote : Option Unit :=
  some ()
theorem slices_Equal_api_Vote_api_Vote_s {r : Unit} (hk : slices_Equal_api_Vote_api_Vote = some r) {g w : World} {F : Ch} {ih : IH} (hw : St g w [F] ih) :
    CallsR Tryz.prog 64 #[.slice none 0 0, .slice none 0 0] w fun v w' => v = .bool true ∧ St g w' [F] ih := by
  refine f_in (vs := [.slice none 0 0, .slice none 0 0]) Tryz.func64 rfl 26 rfl (by kernel_rfl) [(0, .slice none 0 0), (1, .slice none 0 0)] (by kernel_rfl) fun a Qf hQ hQn hs => ?_
  refine c_seq ?_
  refine c_region ?_
  refine pures hs 1 [0, 1] [(0, .slice none 0 0), (1, .slice none 0 0)] (by kernel_rfl) fun a hs => ?_
  refine s_end ?_
  refine c_seq ?_
  refine c_seq ?_
  refine c_region ?_
  refine pures hs 5 [0, 1, 10] [(0, .slice none 0 0), (1, .slice none 0 0), (10, .bool false)] (by kernel_rfl) fun a hs => ?_
  refine s_end ?_
  refine c_condF hs (by kernel_rfl) (by kernel_rfl) ?_
  refine c_skip ?_
  refine c_seq ?_
  refine c_seq ?_
  refine c_region ?_
  refine pures hs 3 [0, 1, 12, 13] [(0, .slice none 0 0), (1, .slice none 0 0), (12, .int .i64 0), (13, .int .i64 0)] (by kernel_rfl) fun a hs => ?_
  refine s_end ?_
  refine c_block ?_
  refine wpIn_loop_rounds 1 ?_
  refine c_unr ?_
  refine c_seq ?_
  refine c_region ?_
  refine pures hs 1 [0, 1, 12, 13, 14] [(0, .slice none 0 0), (1, .slice none 0 0), (12, .int .i64 0), (13, .int .i64 0), (14, .bool false)] (by kernel_rfl) fun a hs => ?_
  refine s_end ?_
  refine c_seq ?_
  refine c_condF hs (by kernel_rfl) (by kernel_rfl) ?_
  refine c_exit ?_
  refine c_seq ?_
  refine c_region ?_
  refine pures hs 1 [4] [(4, .bool true)] (by kernel_rfl) fun a hs => ?_
  refine s_end ?_
  refine c_ret ?_
  obtain rfl := someE hk
  refine hQ _ _ (f_ret1 hs rfl (v := .bool true) (by kernel_rfl) ⟨rfl, hw.pick [0] (by kernel_rfl)⟩)
def bytes_Equal (x1 : List Int) (x7 : List Int) : Option Bool :=
  some (beqS x1 x7)
theorem bytes_Equal_s {x1 : List Int} {x7 : List Int} {p2 : Option Addr} {c3 : Nat} {d5 : Ch} {p8 : Option Addr} {c9 : Nat} {d11 : Ch} {r : Bool} (hk : bytes_Equal x1 x7 = some r) {g w : World} {F : Ch} {ih : IH} (h4 : RSl e5 ih d5 p2 c3 x1) (h6 : ∀ q ∈ d5, q ∈ F) (h10 : RSl e5 ih d11 p8 c9 x7) (h12 : ∀ q ∈ d11, q ∈ F) (hw : St g w [F] ih) :
    CallsR Tryz.prog 67 #[.slice p2 x1.length c3, .slice p8 x7.length c9] w fun v w' => v = .bool r ∧ St g w' [F] ih := by
  refine f_in (vs := [.slice p2 x1.length c3, .slice p8 x7.length c9]) Tryz.func67 rfl 10 rfl (by kernel_rfl) [(0, .slice p2 x1.length c3), (1, .slice p8 x7.length c9)] (by kernel_rfl) fun a Qf hQ hQn hs => ?_
  refine c_seq ?_
  refine c_region ?_
  refine pures hs 1 [0, 1] [(0, .slice p2 x1.length c3), (1, .slice p8 x7.length c9)] (by kernel_rfl) fun a hs => ?_
  refine s_end ?_
  refine c_seq ?_
  refine c_region ?_
  refine pures hs 1 [1, 5] [(1, .slice p8 x7.length c9), (5, .slice p2 x1.length c3)] (by kernel_rfl) fun a hs => ?_
  refine s_convS hs (t := 5) h4 (((hw.vw 0 rfl).sub h6).anti (Le.refl _)) (by kernel_rfl) (by kernel_rfl) 5 (by kernel_rfl) (by kernel_rfl) (by kernel_rfl) fun a hs => ?_
  refine pures hs 1 [6, 7] [(6, .string (strOf x1)), (7, .slice p8 x7.length c9)] (by kernel_rfl) fun a hs => ?_
  refine s_convS hs (t := 5) h10 (((hw.vw 0 rfl).sub h12).anti (Le.refl _)) (by kernel_rfl) (by kernel_rfl) 5 (by kernel_rfl) (by kernel_rfl) (by kernel_rfl) fun a hs => ?_
  refine s_eqS hs (s1 := (strOf x1)) (s2 := (strOf x7)) (beqS x1 x7) (by kernel_rfl) (by kernel_rfl) (by kernel_rfl) (by kernel_rfl) (by kernel_rfl) fun a hs => ?_
  refine pures hs 1 [4] [(4, .bool (beqS x1 x7))] (by kernel_rfl) fun a hs => ?_
  refine s_end ?_
  refine c_ret ?_
  obtain rfl := someE hk
  refine hQ _ _ (f_ret1 hs rfl (v := .bool (beqS x1 x7)) (by kernel_rfl) ⟨rfl, hw.pick [0] (by kernel_rfl)⟩)
def letter_SameUpdate_r2 (x72 : Bool) : Option Bool :=
  some x72
def letter_SameUpdate (x1 : M26) (x5 : M26) : Option Bool :=
  (if (x1.f0 == x5.f0) = true then (
      if (x1.f1 == x5.f1) = true then (
        if (x1.f2 == x5.f2) = true then (
          if (x1.f3 == x5.f3) = true then (
            if (x1.f4 == x5.f4) = true then (
              if (x1.f5 == x5.f5) = true then (
                (bytes_Equal x1.f6 x5.f6).bind fun y82 =>
                some y82)
              else some false)
            else some false)
          else some false)
        else some false)
      else some false)
    else some false : Option Bool).bind fun s84 => letter_SameUpdate_r2 s84
theorem letter_SameUpdate_s {x1 : M26} {x5 : M26} {p2 : Option Addr} {c3 : Nat} {p6 : Option Addr} {c7 : Nat} {r : Bool} (hk : letter_SameUpdate x1 x5 = some r) {g w : World} {F : Ch} {ih : IH} (h4 : RSl e5 ih [] p2 c3 x1.f6) (h8 : RSl e5 ih [] p6 c7 x5.f6) (hw : St g w [F] ih) :
    CallsR Tryz.prog 66 #[.agg #[.int .u64 x1.f0, .int .i64 x1.f1, .int .u64 x1.f2, .int .i64 x1.f3, .int .u32 x1.f4, .int .u64 x1.f5, .slice p2 x1.f6.length c3], .agg #[.int .u64 x5.f0, .int .i64 x5.f1, .int .u64 x5.f2, .int .i64 x5.f3, .int .u32 x5.f4, .int .u64 x5.f5, .slice p6 x5.f6.length c7]] w fun v w' => v = .bool r ∧ St g w' [F] ih := by
  refine f_in (vs := [.agg #[.int .u64 x1.f0, .int .i64 x1.f1, .int .u64 x1.f2, .int .i64 x1.f3, .int .u32 x1.f4, .int .u64 x1.f5, .slice p2 x1.f6.length c3], .agg #[.int .u64 x5.f0, .int .i64 x5.f1, .int .u64 x5.f2, .int .i64 x5.f3, .int .u32 x5.f4, .int .u64 x5.f5, .slice p6 x5.f6.length c7]]) Tryz.func66 rfl 52 rfl (by kernel_rfl) [(0, .agg #[.int .u64 x1.f0, .int .i64 x1.f1, .int .u64 x1.f2, .int .i64 x1.f3, .int .u32 x1.f4, .int .u64 x1.f5, .slice p2 x1.f6.length c3]), (1, .agg #[.int .u64 x5.f0, .int .i64 x5.f1, .int .u64 x5.f2, .int .i64 x5.f3, .int .u32 x5.f4, .int .u64 x5.f5, .slice p6 x5.f6.length c7])] (by kernel_rfl) fun a Qf hQ hQn hs => ?_
  refine c_seq ?_
  refine c_region ?_
  refine s_new hs hw [.int .u64 x1.f0, .int .i64 x1.f1, .int .u64 x1.f2, .int .i64 x1.f3, .int .u32 x1.f4, .int .u64 x1.f5, .slice p2 x1.f6.length c3] 26 (fun b => .pointer (some ⟨b, 0, none⟩)) (by kernel_rfl) (fun _ => by kernel_rfl) fun a w b52 hs hw => ?_
  refine s_new hs hw [.int .u64 x5.f0, .int .i64 x5.f1, .int .u64 x5.f2, .int .i64 x5.f3, .int .u32 x5.f4, .int .u64 x5.f5, .slice p6 x5.f6.length c7] 26 (fun b => .pointer (some ⟨b, 0, none⟩)) (by kernel_rfl) (fun _ => by kernel_rfl) fun a w b54 hs hw => ?_
  refine pures hs 1 [2, 3] [(2, .pointer (some ⟨b52, 0, none⟩)), (3, .pointer (some ⟨b54, 0, none⟩))] (by kernel_rfl) fun a hs => ?_
  refine s_end ?_
  refine c_seq ?_
  obtain ⟨y73, hx74, hk⟩ := bindE hk
  obtain ⟨J75, hJ75⟩ : ∃ J : Act → World → Prop, ∀ a w, J a w ↔ (∃ (x72 : Bool), letter_SameUpdate_r2 x72 = some r ∧ Sees a 52 [(4, .bool x72)] ∧ St g w [F] ih) := ⟨_, fun _ _ => Iff.rfl⟩
  refine c_regJ J75 ?_ ?_
  · refine pures hs 1 [2, 3, 5] [(2, .pointer (some ⟨b52, 0, none⟩)), (3, .pointer (some ⟨b54, 0, none⟩)), (5, .pointer (some ⟨b52, 0, none⟩))] (by kernel_rfl) fun a hs => ?_
    refine s_load hs (hw.at_ 1 rfl) 0 (by kernel_rfl) (by kernel_rfl) (v := .int .u64 x1.f0) (by kernel_rfl) fun a hs => ?_
    refine pures hs 1 [2, 3, 6, 7] [(2, .pointer (some ⟨b52, 0, none⟩)), (3, .pointer (some ⟨b54, 0, none⟩)), (6, .int .u64 x1.f0), (7, .pointer (some ⟨b54, 0, none⟩))] (by kernel_rfl) fun a hs => ?_
    refine s_load hs (hw.at_ 0 rfl) 0 (by kernel_rfl) (by kernel_rfl) (v := .int .u64 x5.f0) (by kernel_rfl) fun a hs => ?_
    refine pures hs 2 [2, 3, 10] [(2, .pointer (some ⟨b52, 0, none⟩)), (3, .pointer (some ⟨b54, 0, none⟩)), (10, .bool (x1.f0 == x5.f0))] (by kernel_rfl) fun a hs => ?_
    rcases ifbE hx74 with ⟨h76, hx74⟩ | ⟨h76, hx74⟩
    · replace hs := hs.altB 10 true (by kernel_rfl) h76
      refine pures hs 1 [2, 3, 10, 11] [(2, .pointer (some ⟨b52, 0, none⟩)), (3, .pointer (some ⟨b54, 0, none⟩)), (10, .bool true), (11, .pointer (some ⟨b52, 1, none⟩))] (by kernel_rfl) fun a hs => ?_
      refine s_load hs (hw.at_ 1 rfl) 1 (by kernel_rfl) (by kernel_rfl) (v := .int .i64 x1.f1) (by kernel_rfl) fun a hs => ?_
      refine pures hs 1 [2, 3, 10, 12, 13] [(2, .pointer (some ⟨b52, 0, none⟩)), (3, .pointer (some ⟨b54, 0, none⟩)), (10, .bool true), (12, .int .i64 x1.f1), (13, .pointer (some ⟨b54, 1, none⟩))] (by kernel_rfl) fun a hs => ?_
      refine s_load hs (hw.at_ 0 rfl) 1 (by kernel_rfl) (by kernel_rfl) (v := .int .i64 x5.f1) (by kernel_rfl) fun a hs => ?_
      refine pures hs 3 [2, 3, 17] [(2, .pointer (some ⟨b52, 0, none⟩)), (3, .pointer (some ⟨b54, 0, none⟩)), (17, .bool (x1.f1 == x5.f1))] (by kernel_rfl) fun a hs => ?_
      rcases ifbE hx74 with ⟨h77, hx74⟩ | ⟨h77, hx74⟩
      · replace hs := hs.altB 17 true (by kernel_rfl) h77
        refine pures hs 1 [2, 3, 17, 18] [(2, .pointer (some ⟨b52, 0, none⟩)), (3, .pointer (some ⟨b54, 0, none⟩)), (17, .bool true), (18, .pointer (some ⟨b52, 2, none⟩))] (by kernel_rfl) fun a hs => ?_
        refine s_load hs (hw.at_ 1 rfl) 2 (by kernel_rfl) (by kernel_rfl) (v := .int .u64 x1.f2) (by kernel_rfl) fun a hs => ?_
        refine pures hs 1 [2, 3, 17, 19, 20] [(2, .pointer (some ⟨b52, 0, none⟩)), (3, .pointer (some ⟨b54, 0, none⟩)), (17, .bool true), (19, .int .u64 x1.f2), (20, .pointer (some ⟨b54, 2, none⟩))] (by kernel_rfl) fun a hs => ?_
        refine s_load hs (hw.at_ 0 rfl) 2 (by kernel_rfl) (by kernel_rfl) (v := .int .u64 x5.f2) (by kernel_rfl) fun a hs => ?_
        refine pures hs 3 [2, 3, 24] [(2, .pointer (some ⟨b52, 0, none⟩)), (3, .pointer (some ⟨b54, 0, none⟩)), (24, .bool (x1.f2 == x5.f2))] (by kernel_rfl) fun a hs => ?_
        rcases ifbE hx74 with ⟨h78, hx74⟩ | ⟨h78, hx74⟩
        · replace hs := hs.altB 24 true (by kernel_rfl) h78
          refine pures hs 1 [2, 3, 24, 25] [(2, .pointer (some ⟨b52, 0, none⟩)), (3, .pointer (some ⟨b54, 0, none⟩)), (24, .bool true), (25, .pointer (some ⟨b52, 3, none⟩))] (by kernel_rfl) fun a hs => ?_
          refine s_load hs (hw.at_ 1 rfl) 3 (by kernel_rfl) (by kernel_rfl) (v := .int .i64 x1.f3) (by kernel_rfl) fun a hs => ?_
          refine pures hs 1 [2, 3, 24, 26, 27] [(2, .pointer (some ⟨b52, 0, none⟩)), (3, .pointer (some ⟨b54, 0, none⟩)), (24, .bool true), (26, .int .i64 x1.f3), (27, .pointer (some ⟨b54, 3, none⟩))] (by kernel_rfl) fun a hs => ?_
          refine s_load hs (hw.at_ 0 rfl) 3 (by kernel_rfl) (by kernel_rfl) (v := .int .i64 x5.f3) (by kernel_rfl) fun a hs => ?_
          refine pures hs 3 [2, 3, 31] [(2, .pointer (some ⟨b52, 0, none⟩)), (3, .pointer (some ⟨b54, 0, none⟩)), (31, .bool (x1.f3 == x5.f3))] (by kernel_rfl) fun a hs => ?_
          rcases ifbE hx74 with ⟨h79, hx74⟩ | ⟨h79, hx74⟩
          · replace hs := hs.altB 31 true (by kernel_rfl) h79
            refine pures hs 1 [2, 3, 31, 32] [(2, .pointer (some ⟨b52, 0, none⟩)), (3, .pointer (some ⟨b54, 0, none⟩)), (31, .bool true), (32, .pointer (some ⟨b52, 4, none⟩))] (by kernel_rfl) fun a hs => ?_
            refine s_load hs (hw.at_ 1 rfl) 4 (by kernel_rfl) (by kernel_rfl) (v := .int .u32 x1.f4) (by kernel_rfl) fun a hs => ?_
            refine pures hs 1 [2, 3, 31, 33, 34] [(2, .pointer (some ⟨b52, 0, none⟩)), (3, .pointer (some ⟨b54, 0, none⟩)), (31, .bool true), (33, .int .u32 x1.f4), (34, .pointer (some ⟨b54, 4, none⟩))] (by kernel_rfl) fun a hs => ?_
            refine s_load hs (hw.at_ 0 rfl) 4 (by kernel_rfl) (by kernel_rfl) (v := .int .u32 x5.f4) (by kernel_rfl) fun a hs => ?_
            refine pures hs 3 [2, 3, 38] [(2, .pointer (some ⟨b52, 0, none⟩)), (3, .pointer (some ⟨b54, 0, none⟩)), (38, .bool (x1.f4 == x5.f4))] (by kernel_rfl) fun a hs => ?_
            rcases ifbE hx74 with ⟨h80, hx74⟩ | ⟨h80, hx74⟩
            · replace hs := hs.altB 38 true (by kernel_rfl) h80
              refine pures hs 1 [2, 3, 38, 39] [(2, .pointer (some ⟨b52, 0, none⟩)), (3, .pointer (some ⟨b54, 0, none⟩)), (38, .bool true), (39, .pointer (some ⟨b52, 5, none⟩))] (by kernel_rfl) fun a hs => ?_
              refine s_load hs (hw.at_ 1 rfl) 5 (by kernel_rfl) (by kernel_rfl) (v := .int .u64 x1.f5) (by kernel_rfl) fun a hs => ?_
              refine pures hs 1 [2, 3, 38, 40, 41] [(2, .pointer (some ⟨b52, 0, none⟩)), (3, .pointer (some ⟨b54, 0, none⟩)), (38, .bool true), (40, .int .u64 x1.f5), (41, .pointer (some ⟨b54, 5, none⟩))] (by kernel_rfl) fun a hs => ?_
              refine s_load hs (hw.at_ 0 rfl) 5 (by kernel_rfl) (by kernel_rfl) (v := .int .u64 x5.f5) (by kernel_rfl) fun a hs => ?_
              refine pures hs 3 [2, 3, 45] [(2, .pointer (some ⟨b52, 0, none⟩)), (3, .pointer (some ⟨b54, 0, none⟩)), (45, .bool (x1.f5 == x5.f5))] (by kernel_rfl) fun a hs => ?_
              rcases ifbE hx74 with ⟨h81, hx74⟩ | ⟨h81, hx74⟩
              · replace hs := hs.altB 45 true (by kernel_rfl) h81
                refine pures hs 1 [3, 45, 46] [(3, .pointer (some ⟨b54, 0, none⟩)), (45, .bool true), (46, .pointer (some ⟨b52, 6, none⟩))] (by kernel_rfl) fun a hs => ?_
                refine s_load hs (hw.at_ 1 rfl) 6 (by kernel_rfl) (by kernel_rfl) (v := .slice p2 x1.f6.length c3) (by kernel_rfl) fun a hs => ?_
                refine pures hs 1 [45, 47, 48] [(45, .bool true), (47, .slice p2 x1.f6.length c3), (48, .pointer (some ⟨b54, 6, none⟩))] (by kernel_rfl) fun a hs => ?_
                refine s_load hs (hw.at_ 0 rfl) 6 (by kernel_rfl) (by kernel_rfl) (v := .slice p6 x5.f6.length c7) (by kernel_rfl) fun a hs => ?_
                obtain ⟨y82, h83, hx74⟩ := bindE hx74
                refine s_call hs (by kernel_rfl) (by kernel_rfl) (bytes_Equal_s h83 h4 (nilSub _) h8 (nilSub _) ((hw.pick [2] (by kernel_rfl)).pack 0)) fun a w v hv hs => ?_
                obtain ⟨rfl, hw⟩ := hv
                replace hw := hw.unpack 0 rfl
                refine pures hs 2 [4] [(4, .bool y82)] (by kernel_rfl) fun a hs => ?_
                refine s_end ?_
                obtain rfl := someE hx74
                exact (hJ75 _ _).2 ⟨y82, hk, hs.cast [4] (by kernel_rfl), hw.pick [0] (by kernel_rfl)⟩
              replace hs := hs.altB 45 false (by kernel_rfl) h81
              refine pures hs 7 [4] [(4, .bool false)] (by kernel_rfl) fun a hs => ?_
              refine s_end ?_
              obtain rfl := someE hx74
              exact (hJ75 _ _).2 ⟨false, hk, hs.cast [4] (by kernel_rfl), hw.pick [2] (by kernel_rfl)⟩
            replace hs := hs.altB 38 false (by kernel_rfl) h80
            refine pures hs 14 [4] [(4, .bool false)] (by kernel_rfl) fun a hs => ?_
            refine s_end ?_
            obtain rfl := someE hx74
            exact (hJ75 _ _).2 ⟨false, hk, hs.cast [4] (by kernel_rfl), hw.pick [2] (by kernel_rfl)⟩
          replace hs := hs.altB 31 false (by kernel_rfl) h79
          refine pures hs 21 [4] [(4, .bool false)] (by kernel_rfl) fun a hs => ?_
          refine s_end ?_
          obtain rfl := someE hx74
          exact (hJ75 _ _).2 ⟨false, hk, hs.cast [4] (by kernel_rfl), hw.pick [2] (by kernel_rfl)⟩
        replace hs := hs.altB 24 false (by kernel_rfl) h78
        refine pures hs 28 [4] [(4, .bool false)] (by kernel_rfl) fun a hs => ?_
        refine s_end ?_
        obtain rfl := someE hx74
        exact (hJ75 _ _).2 ⟨false, hk, hs.cast [4] (by kernel_rfl), hw.pick [2] (by kernel_rfl)⟩
      replace hs := hs.altB 17 false (by kernel_rfl) h77
      refine pures hs 35 [4] [(4, .bool false)] (by kernel_rfl) fun a hs => ?_
      refine s_end ?_
      obtain rfl := someE hx74
      exact (hJ75 _ _).2 ⟨false, hk, hs.cast [4] (by kernel_rfl), hw.pick [2] (by kernel_rfl)⟩
    replace hs := hs.altB 10 false (by kernel_rfl) h76
    refine pures hs 42 [4] [(4, .bool false)] (by kernel_rfl) fun a hs => ?_
    refine s_end ?_
    obtain rfl := someE hx74
    exact (hJ75 _ _).2 ⟨false, hk, hs.cast [4] (by kernel_rfl), hw.pick [2] (by kernel_rfl)⟩
  intro a w hh
  obtain ⟨x72, hk, hs, hw⟩ := (hJ75 _ _).1 hh
  refine c_ret ?_
  obtain rfl := someE hk
  refine hQ _ _ (f_ret1 hs rfl (v := .bool x72) (by kernel_rfl) ⟨rfl, hw.pick [0] (by kernel_rfl)⟩)
def slices_EqualFunc_api_Update_api_Update_api_Update_api_Update_r3 : Option Bool :=
  some true
def slices_EqualFunc_api_Update_api_Update_api_Update_api_Update_l4 (x1 : List M26) (x7 : List M26) : Nat → Int → Option (Sum Bool Unit)
  | 0, _ => none
  | j + 1, x361 =>
    if (decide (x361 < (x1.length : Int))) = true then (
      (ix x1 x361).bind fun x418 =>
      (ix x7 x361).bind fun x436 =>
      (letter_SameUpdate x418 x436).bind fun y447 =>
      if (!y447) = true then some (.inl false)
      else slices_EqualFunc_api_Update_api_Update_api_Update_api_Update_l4 x1 x7 j (IntKind.i64.wrap (x361 + 1)))
    else some (.inr ())
def slices_EqualFunc_api_Update_api_Update_api_Update_api_Update (k : Nat) (x1 : List M26) (x7 : List M26) : Option Bool :=
  if ((x1.length : Int) != (x7.length : Int)) = true then some false
  else (slices_EqualFunc_api_Update_api_Update_api_Update_api_Update_l4 x1 x7 k 0 : Option (Sum Bool Unit)).bind fun
    | .inl z => some z
    | .inr _ => slices_EqualFunc_api_Update_api_Update_api_Update_api_Update_r3
theorem slices_EqualFunc_api_Update_api_Update_api_Update_api_Update_s {k : Nat} {x1 : List M26} {x7 : List M26} {p2 : Option Addr} {c3 : Nat} {d5 : Ch} {p8 : Option Addr} {c9 : Nat} {d11 : Ch} {r : Bool} (hk : slices_EqualFunc_api_Update_api_Update_api_Update_api_Update k x1 x7 = some r) {g w : World} {F : Ch} {ih : IH} (h4 : RSl e26 ih d5 p2 c3 x1) (h6 : ∀ q ∈ d5, q ∈ F) (h10 : RSl e26 ih d11 p8 c9 x7) (h12 : ∀ q ∈ d11, q ∈ F) (hw : St g w [F] ih) :
    CallsR Tryz.prog 65 #[.slice p2 x1.length c3, .slice p8 x7.length c9, .func (.func 66) #[] #[]] w fun v w' => v = .bool r ∧ St g w' [F] ih := by
  refine f_in (vs := [.slice p2 x1.length c3, .slice p8 x7.length c9, .func (.func 66) #[] #[]]) Tryz.func65 rfl 32 rfl (by kernel_rfl) [(0, .slice p2 x1.length c3), (1, .slice p8 x7.length c9), (2, .func (.func 66) #[] #[])] (by kernel_rfl) fun a Qf hQ hQn hs => ?_
  refine c_seq ?_
  refine c_region ?_
  refine pures hs 1 [0, 1, 2] [(0, .slice p2 x1.length c3), (1, .slice p8 x7.length c9), (2, .func (.func 66) #[] #[])] (by kernel_rfl) fun a hs => ?_
  refine s_end ?_
  refine c_seq ?_
  refine c_seq ?_
  refine c_region ?_
  refine pures hs 5 [0, 1, 2, 14] [(0, .slice p2 x1.length c3), (1, .slice p8 x7.length c9), (2, .func (.func 66) #[] #[]), (14, .bool ((x1.length : Int) != (x7.length : Int)))] (by kernel_rfl) fun a hs => ?_
  refine s_end ?_
  rcases ifbE hk with ⟨h233, hk⟩ | ⟨h233, hk⟩
  · refine c_cond1 hs (by kernel_rfl) (t := ((x1.length : Int) != (x7.length : Int))) (by kernel_rfl) h233 ?_
    refine c_seq ?_
    refine c_region ?_
    refine pures hs 1 [6] [(6, .bool false)] (by kernel_rfl) fun a hs => ?_
    refine s_end ?_
    refine c_ret ?_
    obtain rfl := someE hk
    refine hQ _ _ (f_ret1 hs rfl (v := .bool false) (by kernel_rfl) ⟨rfl, hw.pick [0] (by kernel_rfl)⟩)
  refine c_cond0 hs (by kernel_rfl) (t := ((x1.length : Int) != (x7.length : Int))) (by kernel_rfl) h233 ?_
  refine c_skip ?_
  refine c_seq ?_
  refine c_seq ?_
  refine c_region ?_
  refine pures hs 3 [1, 2, 15, 16, 17] [(1, .slice p8 x7.length c9), (2, .func (.func 66) #[] #[]), (15, .slice p2 x1.length c3), (16, .int .i64 (x1.length : Int)), (17, .int .i64 0)] (by kernel_rfl) fun a hs => ?_
  refine s_end ?_
  refine c_block ?_
  obtain ⟨y404, hx405, hk⟩ := bindE hk
  obtain ⟨J406, hJ406⟩ : ∃ J : Act → World → Prop, ∀ a w, J a w ↔ (slices_EqualFunc_api_Update_api_Update_api_Update_api_Update_r3 = some r ∧ Sees a 32 [] ∧ St g w [F] ih) := ⟨_, fun _ _ => Iff.rfl⟩
  obtain ⟨I407, hI407⟩ : ∃ J : Nat → Act → World → Prop, ∀ j a w, J j a w ↔ (∃ (x361 : Int), slices_EqualFunc_api_Update_api_Update_api_Update_api_Update_l4 x1 x7 j x361 = some y404 ∧ Sees a 32 [(1, .slice p8 x7.length c9), (2, .func (.func 66) #[] #[]), (15, .slice p2 x1.length c3), (16, .int .i64 (x1.length : Int)), (17, .int .i64 x361)] ∧ St g w [F] ih) := ⟨_, fun _ _ _ => Iff.rfl⟩
  refine c_exitJ 0 J406 ?_ ?_
  · refine c_loop I407 k ((hI407 _ _ _).2 ⟨0, hx405, hs.cast [1, 2, 15, 16, 17] (by kernel_rfl), hw.pick [0] (by kernel_rfl)⟩) (fun a w h0 => ?_) fun j a w hh => ?_
    · obtain ⟨_, h, _⟩ := (hI407 _ _ _).1 h0
      cases h
    obtain ⟨x361, hx405, hs, hw⟩ := (hI407 _ _ _).1 hh
    refine c_seq ?_
    refine c_region ?_
    refine pures hs 1 [1, 2, 15, 16, 17, 18] [(1, .slice p8 x7.length c9), (2, .func (.func 66) #[] #[]), (15, .slice p2 x1.length c3), (16, .int .i64 (x1.length : Int)), (17, .int .i64 x361), (18, .bool (decide (x361 < (x1.length : Int))))] (by kernel_rfl) fun a hs => ?_
    refine s_end ?_
    refine c_seq ?_
    rcases ifbE hx405 with ⟨h408, hx405⟩ | ⟨h408, hx405⟩
    · refine c_cond1 hs (by kernel_rfl) (t := (decide (x361 < (x1.length : Int)))) (by kernel_rfl) h408 ?_
      refine c_skip ?_
      refine c_seq ?_
      refine c_block ?_
      refine c_seq ?_
      refine c_region ?_
      refine pures hs 1 [1, 2, 15, 16, 17, 19] [(1, .slice p8 x7.length c9), (2, .func (.func 66) #[] #[]), (15, .slice p2 x1.length c3), (16, .int .i64 (x1.length : Int)), (17, .int .i64 x361), (19, .int .i64 x361)] (by kernel_rfl) fun a hs => ?_
      obtain ⟨x418, h419, hx405⟩ := bindE hx405
      refine s_index hs h4 (by kernel_rfl) (by kernel_rfl) (k := .i64) (by kernel_rfl) 26 (by kernel_rfl) (by kernel_rfl) h419 fun a r420 cs henc at421 hs => ?_
      obtain ⟨p422, c423, rfl, h424⟩ := henc
      refine s_load hs (at421 _ (((hw.vw 0 rfl).sub h6).anti (Le.refl _))) 0 (by kernel_rfl) (by kernel_rfl) (v := .agg #[.int .u64 x418.f0, .int .i64 x418.f1, .int .u64 x418.f2, .int .i64 x418.f3, .int .u32 x418.f4, .int .u64 x418.f5, .slice p422 x418.f6.length c423]) (by kernel_rfl) fun a hs => ?_
      refine s_new hs hw [.int .u64 0, .int .i64 0, .int .u64 0, .int .i64 0, .int .u32 0, .int .u64 0, .slice none 0 0] 26 (fun b => .pointer (some ⟨b, 0, none⟩)) (by kernel_rfl) (fun _ => by kernel_rfl) fun a w b425 hs hw => ?_
      refine pures hs 1 [1, 2, 15, 16, 17, 21, 8, 7] [(1, .slice p8 x7.length c9), (2, .func (.func 66) #[] #[]), (15, .slice p2 x1.length c3), (16, .int .i64 (x1.length : Int)), (17, .int .i64 x361), (21, .agg #[.int .u64 x418.f0, .int .i64 x418.f1, .int .u64 x418.f2, .int .i64 x418.f3, .int .u32 x418.f4, .int .u64 x418.f5, .slice p422 x418.f6.length c423]), (8, .pointer (some ⟨b425, 0, none⟩)), (7, .int .i64 x361)] (by kernel_rfl) fun a hs => ?_
      refine s_store hs hw 0 rfl 0 (by kernel_rfl) (by kernel_rfl) (v := .agg #[.int .u64 x418.f0, .int .i64 x418.f1, .int .u64 x418.f2, .int .i64 x418.f3, .int .u32 x418.f4, .int .u64 x418.f5, .slice p422 x418.f6.length c423]) (by kernel_rfl) (by kernel_rfl) (by kernel_rfl) (by kernel_rfl) fun a w hs hw => ?_
      refine s_end ?_
      refine c_seq ?_
      refine c_region ?_
      refine pures hs 2 [1, 2, 15, 16, 17, 8, 22, 23] [(1, .slice p8 x7.length c9), (2, .func (.func 66) #[] #[]), (15, .slice p2 x1.length c3), (16, .int .i64 (x1.length : Int)), (17, .int .i64 x361), (8, .pointer (some ⟨b425, 0, none⟩)), (22, .slice p8 x7.length c9), (23, .int .i64 x361)] (by kernel_rfl) fun a hs => ?_
      obtain ⟨x436, h437, hx405⟩ := bindE hx405
      refine s_index hs h10 (by kernel_rfl) (by kernel_rfl) (k := .i64) (by kernel_rfl) 26 (by kernel_rfl) (by kernel_rfl) h437 fun a r438 cs henc at439 hs => ?_
      obtain ⟨p440, c441, rfl, h442⟩ := henc
      refine s_load hs (at439 _ (((hw.vw 1 rfl).sub h12).anti (Le.refl _))) 0 (by kernel_rfl) (by kernel_rfl) (v := .agg #[.int .u64 x436.f0, .int .i64 x436.f1, .int .u64 x436.f2, .int .i64 x436.f3, .int .u32 x436.f4, .int .u64 x436.f5, .slice p440 x436.f6.length c441]) (by kernel_rfl) fun a hs => ?_
      refine s_new hs hw [.int .u64 0, .int .i64 0, .int .u64 0, .int .i64 0, .int .u32 0, .int .u64 0, .slice none 0 0] 26 (fun b => .pointer (some ⟨b, 0, none⟩)) (by kernel_rfl) (fun _ => by kernel_rfl) fun a w b443 hs hw => ?_
      refine s_store hs hw 0 rfl 0 (by kernel_rfl) (by kernel_rfl) (v := .agg #[.int .u64 x436.f0, .int .i64 x436.f1, .int .u64 x436.f2, .int .i64 x436.f3, .int .u32 x436.f4, .int .u64 x436.f5, .slice p440 x436.f6.length c441]) (by kernel_rfl) (by kernel_rfl) (by kernel_rfl) (by kernel_rfl) fun a w hs hw => ?_
      refine s_end ?_
      refine c_seq ?_
      refine c_region ?_
      refine pures hs 1 [1, 2, 15, 16, 17, 8, 9, 26] [(1, .slice p8 x7.length c9), (2, .func (.func 66) #[] #[]), (15, .slice p2 x1.length c3), (16, .int .i64 (x1.length : Int)), (17, .int .i64 x361), (8, .pointer (some ⟨b425, 0, none⟩)), (9, .pointer (some ⟨b443, 0, none⟩)), (26, .func (.func 66) #[] #[])] (by kernel_rfl) fun a hs => ?_
      refine s_load hs (hw.at_ 1 rfl) 0 (by kernel_rfl) (by kernel_rfl) (v := .agg #[.int .u64 x418.f0, .int .i64 x418.f1, .int .u64 x418.f2, .int .i64 x418.f3, .int .u32 x418.f4, .int .u64 x418.f5, .slice p422 x418.f6.length c423]) (by kernel_rfl) fun a hs => ?_
      refine s_load hs (hw.at_ 0 rfl) 0 (by kernel_rfl) (by kernel_rfl) (v := .agg #[.int .u64 x436.f0, .int .i64 x436.f1, .int .u64 x436.f2, .int .i64 x436.f3, .int .u32 x436.f4, .int .u64 x436.f5, .slice p440 x436.f6.length c441]) (by kernel_rfl) fun a hs => ?_
      obtain ⟨y447, h448, hx405⟩ := bindE hx405
      refine s_call hs (by kernel_rfl) (by kernel_rfl) (letter_SameUpdate_s h448 h424 h442 ((hw.pick [2] (by kernel_rfl)).pack 0)) fun a w v hv hs => ?_
      obtain ⟨rfl, hw⟩ := hv
      replace hw := hw.unpack 0 rfl
      refine pures hs 1 [1, 2, 15, 16, 17, 30] [(1, .slice p8 x7.length c9), (2, .func (.func 66) #[] #[]), (15, .slice p2 x1.length c3), (16, .int .i64 (x1.length : Int)), (17, .int .i64 x361), (30, .bool (!y447))] (by kernel_rfl) fun a hs => ?_
      refine s_end ?_
      rcases ifbE hx405 with ⟨h449, hx405⟩ | ⟨h449, hx405⟩
      · refine c_cond1 hs (by kernel_rfl) (t := (!y447)) (by kernel_rfl) h449 ?_
        refine c_seq ?_
        refine c_region ?_
        refine pures hs 1 [6] [(6, .bool false)] (by kernel_rfl) fun a hs => ?_
        refine s_end ?_
        refine c_ret ?_
        obtain rfl := someE hx405
        obtain rfl := someE hk
        refine hQ _ _ (f_ret1 hs rfl (v := .bool false) (by kernel_rfl) ⟨rfl, hw.pick [0] (by kernel_rfl)⟩)
      refine c_cond0 hs (by kernel_rfl) (t := (!y447)) (by kernel_rfl) h449 ?_
      refine c_skip ?_
      refine c_region ?_
      refine pures hs 2 [1, 2, 15, 16, 17] [(1, .slice p8 x7.length c9), (2, .func (.func 66) #[] #[]), (15, .slice p2 x1.length c3), (16, .int .i64 (x1.length : Int)), (17, .int .i64 (IntKind.i64.wrap (x361 + 1)))] (by kernel_rfl) fun a hs => ?_
      refine s_end ?_
      exact (hI407 _ _ _).2 ⟨(IntKind.i64.wrap (x361 + 1)), hx405, hs.cast [1, 2, 15, 16, 17] (by kernel_rfl), hw.pick [0] (by kernel_rfl)⟩
    refine c_cond0 hs (by kernel_rfl) (t := (decide (x361 < (x1.length : Int)))) (by kernel_rfl) h408 ?_
    refine c_exit ?_
    obtain rfl := someE hx405
    exact (hJ406 _ _).2 ⟨hk, hs.cast [] (by kernel_rfl), hw.pick [0] (by kernel_rfl)⟩
  intro a w hh
  obtain ⟨hk, hs, hw⟩ := (hJ406 _ _).1 hh
  refine c_seq ?_
  refine c_region ?_
  refine pures hs 1 [6] [(6, .bool true)] (by kernel_rfl) fun a hs => ?_
  refine s_end ?_
  refine c_ret ?_
  obtain rfl := someE hk
  refine hQ _ _ (f_ret1 hs rfl (v := .bool true) (by kernel_rfl) ⟨rfl, hw.pick [0] (by kernel_rfl)⟩)
def bytes_Equal_2 : Option Bool :=
  some (beqS ([]) ([]))
theorem bytes_Equal_2_s {r : Bool} (hk : bytes_Equal_2 = some r) {g w : World} {F : Ch} {ih : IH} (hw : St g w [F] ih) :
    CallsR Tryz.prog 67 #[.slice none 0 0, .slice none 0 0] w fun v w' => v = .bool r ∧ St g w' [F] ih := by
  refine f_in (vs := [.slice none 0 0, .slice none 0 0]) Tryz.func67 rfl 10 rfl (by kernel_rfl) [(0, .slice none 0 0), (1, .slice none 0 0)] (by kernel_rfl) fun a Qf hQ hQn hs => ?_
  refine c_seq ?_
  refine c_region ?_
  refine pures hs 1 [0, 1] [(0, .slice none 0 0), (1, .slice none 0 0)] (by kernel_rfl) fun a hs => ?_
  refine s_end ?_
  refine c_seq ?_
  refine c_region ?_
  refine pures hs 1 [1, 5] [(1, .slice none 0 0), (5, .slice none 0 0)] (by kernel_rfl) fun a hs => ?_
  refine s_convS hs (t := 5) (RSl.nil (eInt .u8 5) _ []) (hw.vwAll.nil.anti (Le.refl _)) (by kernel_rfl) (by kernel_rfl) 5 (by kernel_rfl) (by kernel_rfl) (by kernel_rfl) fun a hs => ?_
  refine pures hs 1 [6, 7] [(6, .string (strOf ([]))), (7, .slice none 0 0)] (by kernel_rfl) fun a hs => ?_
  refine s_convS hs (t := 5) (RSl.nil (eInt .u8 5) _ []) (hw.vwAll.nil.anti (Le.refl _)) (by kernel_rfl) (by kernel_rfl) 5 (by kernel_rfl) (by kernel_rfl) (by kernel_rfl) fun a hs => ?_
  refine s_eqS hs (s1 := (strOf ([]))) (s2 := (strOf ([]))) (beqS ([]) ([])) (by kernel_rfl) (by kernel_rfl) (by kernel_rfl) (by kernel_rfl) (by kernel_rfl) fun a hs => ?_
  refine pures hs 1 [4] [(4, .bool (beqS ([]) ([])))] (by kernel_rfl) fun a hs => ?_
  refine s_end ?_
  refine c_ret ?_
  obtain rfl := someE hk
  refine hQ _ _ (f_ret1 hs rfl (v := .bool (beqS ([]) ([]))) (by kernel_rfl) ⟨rfl, hw.pick [0] (by kernel_rfl)⟩)
def letter_Same_r2 (x117 : Bool) : Option Bool :=
  some x117
def letter_Same (k : Nat) (x1 : List M26) (x5 : Int) (x6 : Int) (x7 : List M26) : Option Bool :=
  if ((0 != x5) || false) = true then some false
  else if ((1 != x6) || false) = true then some false
  else if ((!((0 == 0) && ((0 == 0) && ((0 == 0) && ((0 == 0) && true))))) || false) = true then some false
  else ((slices_EqualFunc_api_Update_api_Update_api_Update_api_Update k x1 x7).bind fun y123 =>
    if y123 = true then (
      (bytes_Equal_2).bind fun y126 =>
      some y126)
    else some false : Option Bool).bind fun s128 => letter_Same_r2 s128
theorem letter_Same_s {k : Nat} {x1 : List M26} {x5 : Int} {x6 : Int} {x7 : List M26} {p2 : Option Addr} {c3 : Nat} {p8 : Option Addr} {c9 : Nat} {r : Bool} (hk : letter_Same k x1 x5 x6 x7 = some r) {g w : World} {F : Ch} {ih : IH} (h4 : RSl e26 ih [] p2 c3 x1) (h10 : RSl e26 ih [] p8 c9 x7) (hw : St g w [F] ih) :
    CallsR Tryz.prog 57 #[.agg #[.int .i64 17, .int .i64 1, .int .i64 1, .int .i64 0, .int .u64 1, .int .u64 0, .int .u64 0, .int .u64 0, .int .u64 0, .int .u64 0, .int .i64 0, .int .u32 0, .int .i64 0, .int .i64 0, .int .i64 0, .int .u64 0, .int .i64 0, .int .i64 0, .int .u64 0, .slice none 0 0, .bool false, .int .i64 0, .slice none 0 0, .slice p2 x1.length c3, .slice none 0 0], .agg #[.int .i64 17, .int .i64 1, .int .i64 1, .int .i64 x5, .int .u64 x6, .int .u64 0, .int .u64 0, .int .u64 0, .int .u64 0, .int .u64 0, .int .i64 0, .int .u32 0, .int .i64 0, .int .i64 0, .int .i64 0, .int .u64 0, .int .i64 0, .int .i64 0, .int .u64 0, .slice none 0 0, .bool false, .int .i64 0, .slice none 0 0, .slice p8 x7.length c9, .slice none 0 0]] w fun v w' => v = .bool r ∧ St g w' [F] ih := by
  refine f_in (vs := [.agg #[.int .i64 17, .int .i64 1, .int .i64 1, .int .i64 0, .int .u64 1, .int .u64 0, .int .u64 0, .int .u64 0, .int .u64 0, .int .u64 0, .int .i64 0, .int .u32 0, .int .i64 0, .int .i64 0, .int .i64 0, .int .u64 0, .int .i64 0, .int .i64 0, .int .u64 0, .slice none 0 0, .bool false, .int .i64 0, .slice none 0 0, .slice p2 x1.length c3, .slice none 0 0], .agg #[.int .i64 17, .int .i64 1, .int .i64 1, .int .i64 x5, .int .u64 x6, .int .u64 0, .int .u64 0, .int .u64 0, .int .u64 0, .int .u64 0, .int .i64 0, .int .u32 0, .int .i64 0, .int .i64 0, .int .i64 0, .int .u64 0, .int .i64 0, .int .i64 0, .int .u64 0, .slice none 0 0, .bool false, .int .i64 0, .slice none 0 0, .slice p8 x7.length c9, .slice none 0 0]]) Tryz.func57 rfl 127 rfl (by kernel_rfl) [(0, .agg #[.int .i64 17, .int .i64 1, .int .i64 1, .int .i64 0, .int .u64 1, .int .u64 0, .int .u64 0, .int .u64 0, .int .u64 0, .int .u64 0, .int .i64 0, .int .u32 0, .int .i64 0, .int .i64 0, .int .i64 0, .int .u64 0, .int .i64 0, .int .i64 0, .int .u64 0, .slice none 0 0, .bool false, .int .i64 0, .slice none 0 0, .slice p2 x1.length c3, .slice none 0 0]), (1, .agg #[.int .i64 17, .int .i64 1, .int .i64 1, .int .i64 x5, .int .u64 x6, .int .u64 0, .int .u64 0, .int .u64 0, .int .u64 0, .int .u64 0, .int .i64 0, .int .u32 0, .int .i64 0, .int .i64 0, .int .i64 0, .int .u64 0, .int .i64 0, .int .i64 0, .int .u64 0, .slice none 0 0, .bool false, .int .i64 0, .slice none 0 0, .slice p8 x7.length c9, .slice none 0 0])] (by kernel_rfl) fun a Qf hQ hQn hs => ?_
  refine c_seq ?_
  refine c_region ?_
  refine s_new hs hw [.int .i64 17, .int .i64 1, .int .i64 1, .int .i64 0, .int .u64 1, .int .u64 0, .int .u64 0, .int .u64 0, .int .u64 0, .int .u64 0, .int .i64 0, .int .u32 0, .int .i64 0, .int .i64 0, .int .i64 0, .int .u64 0, .int .i64 0, .int .i64 0, .int .u64 0, .slice none 0 0, .bool false, .int .i64 0, .slice none 0 0, .slice p2 x1.length c3, .slice none 0 0] 90 (fun b => .pointer (some ⟨b, 0, none⟩)) (by kernel_rfl) (fun _ => by kernel_rfl) fun a w b75 hs hw => ?_
  refine s_new hs hw [.int .i64 17, .int .i64 1, .int .i64 1, .int .i64 x5, .int .u64 x6, .int .u64 0, .int .u64 0, .int .u64 0, .int .u64 0, .int .u64 0, .int .i64 0, .int .u32 0, .int .i64 0, .int .i64 0, .int .i64 0, .int .u64 0, .int .i64 0, .int .i64 0, .int .u64 0, .slice none 0 0, .bool false, .int .i64 0, .slice none 0 0, .slice p8 x7.length c9, .slice none 0 0] 90 (fun b => .pointer (some ⟨b, 0, none⟩)) (by kernel_rfl) (fun _ => by kernel_rfl) fun a w b77 hs hw => ?_
  refine pures hs 1 [2, 3] [(2, .pointer (some ⟨b75, 0, none⟩)), (3, .pointer (some ⟨b77, 0, none⟩))] (by kernel_rfl) fun a hs => ?_
  refine s_end ?_
  refine c_seq ?_
  refine c_block ?_
  refine c_seq ?_
  obtain ⟨J82, hJ82⟩ : ∃ J : Act → World → Prop, ∀ a w, J a w ↔ (Sees a 127 [(2, .pointer (some ⟨b75, 0, none⟩)), (3, .pointer (some ⟨b77, 0, none⟩)), (5, .bool ((0 != x5) || false))] ∧ St g w [bx b77 [.int .i64 17, .int .i64 1, .int .i64 1, .int .i64 x5, .int .u64 x6, .int .u64 0, .int .u64 0, .int .u64 0, .int .u64 0, .int .u64 0, .int .i64 0, .int .u32 0, .int .i64 0, .int .i64 0, .int .i64 0, .int .u64 0, .int .i64 0, .int .i64 0, .int .u64 0, .slice none 0 0, .bool false, .int .i64 0, .slice none 0 0, .slice p8 x7.length c9, .slice none 0 0] 90, bx b75 [.int .i64 17, .int .i64 1, .int .i64 1, .int .i64 0, .int .u64 1, .int .u64 0, .int .u64 0, .int .u64 0, .int .u64 0, .int .u64 0, .int .i64 0, .int .u32 0, .int .i64 0, .int .i64 0, .int .i64 0, .int .u64 0, .int .i64 0, .int .i64 0, .int .u64 0, .slice none 0 0, .bool false, .int .i64 0, .slice none 0 0, .slice p2 x1.length c3, .slice none 0 0] 90, F] ih) := ⟨_, fun _ _ => Iff.rfl⟩
  refine c_regJ J82 ?_ ?_
  · refine pures hs 1 [2, 3, 6] [(2, .pointer (some ⟨b75, 0, none⟩)), (3, .pointer (some ⟨b77, 0, none⟩)), (6, .pointer (some ⟨b75, 0, none⟩))] (by kernel_rfl) fun a hs => ?_
    refine s_load hs (hw.at_ 1 rfl) 0 (by kernel_rfl) (by kernel_rfl) (v := .int .i64 17) (by kernel_rfl) fun a hs => ?_
    refine pures hs 1 [2, 3, 7, 8] [(2, .pointer (some ⟨b75, 0, none⟩)), (3, .pointer (some ⟨b77, 0, none⟩)), (7, .int .i64 17), (8, .pointer (some ⟨b77, 0, none⟩))] (by kernel_rfl) fun a hs => ?_
    refine s_load hs (hw.at_ 0 rfl) 0 (by kernel_rfl) (by kernel_rfl) (v := .int .i64 17) (by kernel_rfl) fun a hs => ?_
    refine pures hs 3 [2, 3, 11, 12] [(2, .pointer (some ⟨b75, 0, none⟩)), (3, .pointer (some ⟨b77, 0, none⟩)), (11, .bool false), (12, .pointer (some ⟨b75, 1, none⟩))] (by kernel_rfl) fun a hs => ?_
    refine s_load hs (hw.at_ 1 rfl) 1 (by kernel_rfl) (by kernel_rfl) (v := .int .i64 1) (by kernel_rfl) fun a hs => ?_
    refine pures hs 1 [2, 3, 11, 13, 14] [(2, .pointer (some ⟨b75, 0, none⟩)), (3, .pointer (some ⟨b77, 0, none⟩)), (11, .bool false), (13, .int .i64 1), (14, .pointer (some ⟨b77, 1, none⟩))] (by kernel_rfl) fun a hs => ?_
    refine s_load hs (hw.at_ 0 rfl) 1 (by kernel_rfl) (by kernel_rfl) (v := .int .i64 1) (by kernel_rfl) fun a hs => ?_
    refine pures hs 4 [2, 3, 18, 19] [(2, .pointer (some ⟨b75, 0, none⟩)), (3, .pointer (some ⟨b77, 0, none⟩)), (18, .bool false), (19, .pointer (some ⟨b75, 2, none⟩))] (by kernel_rfl) fun a hs => ?_
    refine s_load hs (hw.at_ 1 rfl) 2 (by kernel_rfl) (by kernel_rfl) (v := .int .i64 1) (by kernel_rfl) fun a hs => ?_
    refine pures hs 1 [2, 3, 18, 20, 21] [(2, .pointer (some ⟨b75, 0, none⟩)), (3, .pointer (some ⟨b77, 0, none⟩)), (18, .bool false), (20, .int .i64 1), (21, .pointer (some ⟨b77, 2, none⟩))] (by kernel_rfl) fun a hs => ?_
    refine s_load hs (hw.at_ 0 rfl) 2 (by kernel_rfl) (by kernel_rfl) (v := .int .i64 1) (by kernel_rfl) fun a hs => ?_
    refine pures hs 4 [2, 3, 25, 26] [(2, .pointer (some ⟨b75, 0, none⟩)), (3, .pointer (some ⟨b77, 0, none⟩)), (25, .bool false), (26, .pointer (some ⟨b75, 3, none⟩))] (by kernel_rfl) fun a hs => ?_
    refine s_load hs (hw.at_ 1 rfl) 3 (by kernel_rfl) (by kernel_rfl) (v := .int .i64 0) (by kernel_rfl) fun a hs => ?_
    refine pures hs 1 [2, 3, 25, 27, 28] [(2, .pointer (some ⟨b75, 0, none⟩)), (3, .pointer (some ⟨b77, 0, none⟩)), (25, .bool false), (27, .int .i64 0), (28, .pointer (some ⟨b77, 3, none⟩))] (by kernel_rfl) fun a hs => ?_
    refine s_load hs (hw.at_ 0 rfl) 3 (by kernel_rfl) (by kernel_rfl) (v := .int .i64 x5) (by kernel_rfl) fun a hs => ?_
    refine pures hs 3 [2, 3, 32] [(2, .pointer (some ⟨b75, 0, none⟩)), (3, .pointer (some ⟨b77, 0, none⟩)), (32, .bool (0 != x5))] (by kernel_rfl) fun a hs => ?_
    rcases boolE (0 != x5) with h83 | h83
    · replace hs := hs.altB 32 true (by kernel_rfl) h83
      refine pures hs 21 [2, 3, 5] [(2, .pointer (some ⟨b75, 0, none⟩)), (3, .pointer (some ⟨b77, 0, none⟩)), (5, .bool true)] (by kernel_rfl) fun a hs => ?_
      refine s_end ?_
      exact (hJ82 _ _).2 ⟨(hs.altB 5 ((0 != x5) || false) (by kernel_rfl) (by rw [h83] <;> rfl)).cast [2, 3, 5] (by kernel_rfl), hw.pick [0, 1, 2] (by kernel_rfl)⟩
    replace hs := hs.altB 32 false (by kernel_rfl) h83
    refine pures hs 1 [2, 3, 32, 33] [(2, .pointer (some ⟨b75, 0, none⟩)), (3, .pointer (some ⟨b77, 0, none⟩)), (32, .bool false), (33, .pointer (some ⟨b75, 10, none⟩))] (by kernel_rfl) fun a hs => ?_
    refine s_load hs (hw.at_ 1 rfl) 10 (by kernel_rfl) (by kernel_rfl) (v := .int .i64 0) (by kernel_rfl) fun a hs => ?_
    refine pures hs 1 [2, 3, 32, 34, 35] [(2, .pointer (some ⟨b75, 0, none⟩)), (3, .pointer (some ⟨b77, 0, none⟩)), (32, .bool false), (34, .int .i64 0), (35, .pointer (some ⟨b77, 10, none⟩))] (by kernel_rfl) fun a hs => ?_
    refine s_load hs (hw.at_ 0 rfl) 10 (by kernel_rfl) (by kernel_rfl) (v := .int .i64 0) (by kernel_rfl) fun a hs => ?_
    refine pures hs 4 [2, 3, 39, 40] [(2, .pointer (some ⟨b75, 0, none⟩)), (3, .pointer (some ⟨b77, 0, none⟩)), (39, .bool false), (40, .pointer (some ⟨b75, 11, none⟩))] (by kernel_rfl) fun a hs => ?_
    refine s_load hs (hw.at_ 1 rfl) 11 (by kernel_rfl) (by kernel_rfl) (v := .int .u32 0) (by kernel_rfl) fun a hs => ?_
    refine pures hs 1 [2, 3, 39, 41, 42] [(2, .pointer (some ⟨b75, 0, none⟩)), (3, .pointer (some ⟨b77, 0, none⟩)), (39, .bool false), (41, .int .u32 0), (42, .pointer (some ⟨b77, 11, none⟩))] (by kernel_rfl) fun a hs => ?_
    refine s_load hs (hw.at_ 0 rfl) 11 (by kernel_rfl) (by kernel_rfl) (v := .int .u32 0) (by kernel_rfl) fun a hs => ?_
    refine pures hs 4 [2, 3, 46, 47] [(2, .pointer (some ⟨b75, 0, none⟩)), (3, .pointer (some ⟨b77, 0, none⟩)), (46, .bool false), (47, .pointer (some ⟨b75, 12, none⟩))] (by kernel_rfl) fun a hs => ?_
    refine s_load hs (hw.at_ 1 rfl) 12 (by kernel_rfl) (by kernel_rfl) (v := .int .i64 0) (by kernel_rfl) fun a hs => ?_
    refine pures hs 1 [2, 3, 46, 48, 49] [(2, .pointer (some ⟨b75, 0, none⟩)), (3, .pointer (some ⟨b77, 0, none⟩)), (46, .bool false), (48, .int .i64 0), (49, .pointer (some ⟨b77, 12, none⟩))] (by kernel_rfl) fun a hs => ?_
    refine s_load hs (hw.at_ 0 rfl) 12 (by kernel_rfl) (by kernel_rfl) (v := .int .i64 0) (by kernel_rfl) fun a hs => ?_
    refine pures hs 3 [2, 3, 5] [(2, .pointer (some ⟨b75, 0, none⟩)), (3, .pointer (some ⟨b77, 0, none⟩)), (5, .bool false)] (by kernel_rfl) fun a hs => ?_
    refine s_end ?_
    exact (hJ82 _ _).2 ⟨(hs.altB 5 ((0 != x5) || false) (by kernel_rfl) (by rw [h83] <;> rfl)).cast [2, 3, 5] (by kernel_rfl), hw.pick [0, 1, 2] (by kernel_rfl)⟩
  intro a w hh
  obtain ⟨hs, hw⟩ := (hJ82 _ _).1 hh
  rcases ifbE hk with ⟨h84, hk⟩ | ⟨h84, hk⟩
  · refine c_cond1 hs (by kernel_rfl) (t := ((0 != x5) || false)) (by kernel_rfl) h84 ?_
    refine c_seq ?_
    refine c_region ?_
    refine pures hs 1 [4] [(4, .bool false)] (by kernel_rfl) fun a hs => ?_
    refine s_end ?_
    refine c_ret ?_
    obtain rfl := someE hk
    refine hQ _ _ (f_ret1 hs rfl (v := .bool false) (by kernel_rfl) ⟨rfl, hw.pick [2] (by kernel_rfl)⟩)
  refine c_cond0 hs (by kernel_rfl) (t := ((0 != x5) || false)) (by kernel_rfl) h84 ?_
  refine c_seq ?_
  obtain ⟨J88, hJ88⟩ : ∃ J : Act → World → Prop, ∀ a w, J a w ↔ (Sees a 127 [(2, .pointer (some ⟨b75, 0, none⟩)), (3, .pointer (some ⟨b77, 0, none⟩)), (53, .bool ((1 != x6) || false))] ∧ St g w [bx b77 [.int .i64 17, .int .i64 1, .int .i64 1, .int .i64 x5, .int .u64 x6, .int .u64 0, .int .u64 0, .int .u64 0, .int .u64 0, .int .u64 0, .int .i64 0, .int .u32 0, .int .i64 0, .int .i64 0, .int .i64 0, .int .u64 0, .int .i64 0, .int .i64 0, .int .u64 0, .slice none 0 0, .bool false, .int .i64 0, .slice none 0 0, .slice p8 x7.length c9, .slice none 0 0] 90, bx b75 [.int .i64 17, .int .i64 1, .int .i64 1, .int .i64 0, .int .u64 1, .int .u64 0, .int .u64 0, .int .u64 0, .int .u64 0, .int .u64 0, .int .i64 0, .int .u32 0, .int .i64 0, .int .i64 0, .int .i64 0, .int .u64 0, .int .i64 0, .int .i64 0, .int .u64 0, .slice none 0 0, .bool false, .int .i64 0, .slice none 0 0, .slice p2 x1.length c3, .slice none 0 0] 90, F] ih) := ⟨_, fun _ _ => Iff.rfl⟩
  refine c_regJ J88 ?_ ?_
  · refine pures hs 1 [2, 3, 54] [(2, .pointer (some ⟨b75, 0, none⟩)), (3, .pointer (some ⟨b77, 0, none⟩)), (54, .pointer (some ⟨b75, 4, none⟩))] (by kernel_rfl) fun a hs => ?_
    refine s_load hs (hw.at_ 1 rfl) 4 (by kernel_rfl) (by kernel_rfl) (v := .int .u64 1) (by kernel_rfl) fun a hs => ?_
    refine pures hs 1 [2, 3, 55, 56] [(2, .pointer (some ⟨b75, 0, none⟩)), (3, .pointer (some ⟨b77, 0, none⟩)), (55, .int .u64 1), (56, .pointer (some ⟨b77, 4, none⟩))] (by kernel_rfl) fun a hs => ?_
    refine s_load hs (hw.at_ 0 rfl) 4 (by kernel_rfl) (by kernel_rfl) (v := .int .u64 x6) (by kernel_rfl) fun a hs => ?_
    refine pures hs 2 [2, 3, 59] [(2, .pointer (some ⟨b75, 0, none⟩)), (3, .pointer (some ⟨b77, 0, none⟩)), (59, .bool (1 != x6))] (by kernel_rfl) fun a hs => ?_
    rcases boolE (1 != x6) with h89 | h89
    · replace hs := hs.altB 59 true (by kernel_rfl) h89
      refine pures hs 35 [2, 3, 53] [(2, .pointer (some ⟨b75, 0, none⟩)), (3, .pointer (some ⟨b77, 0, none⟩)), (53, .bool true)] (by kernel_rfl) fun a hs => ?_
      refine s_end ?_
      exact (hJ88 _ _).2 ⟨(hs.altB 53 ((1 != x6) || false) (by kernel_rfl) (by rw [h89] <;> rfl)).cast [2, 3, 53] (by kernel_rfl), hw.pick [0, 1, 2] (by kernel_rfl)⟩
    replace hs := hs.altB 59 false (by kernel_rfl) h89
    refine pures hs 1 [2, 3, 59, 60] [(2, .pointer (some ⟨b75, 0, none⟩)), (3, .pointer (some ⟨b77, 0, none⟩)), (59, .bool false), (60, .pointer (some ⟨b75, 5, none⟩))] (by kernel_rfl) fun a hs => ?_
    refine s_load hs (hw.at_ 1 rfl) 5 (by kernel_rfl) (by kernel_rfl) (v := .int .u64 0) (by kernel_rfl) fun a hs => ?_
    refine pures hs 1 [2, 3, 59, 61, 62] [(2, .pointer (some ⟨b75, 0, none⟩)), (3, .pointer (some ⟨b77, 0, none⟩)), (59, .bool false), (61, .int .u64 0), (62, .pointer (some ⟨b77, 5, none⟩))] (by kernel_rfl) fun a hs => ?_
    refine s_load hs (hw.at_ 0 rfl) 5 (by kernel_rfl) (by kernel_rfl) (v := .int .u64 0) (by kernel_rfl) fun a hs => ?_
    refine pures hs 4 [2, 3, 66, 67] [(2, .pointer (some ⟨b75, 0, none⟩)), (3, .pointer (some ⟨b77, 0, none⟩)), (66, .bool false), (67, .pointer (some ⟨b75, 6, none⟩))] (by kernel_rfl) fun a hs => ?_
    refine s_load hs (hw.at_ 1 rfl) 6 (by kernel_rfl) (by kernel_rfl) (v := .int .u64 0) (by kernel_rfl) fun a hs => ?_
    refine pures hs 1 [2, 3, 66, 68, 69] [(2, .pointer (some ⟨b75, 0, none⟩)), (3, .pointer (some ⟨b77, 0, none⟩)), (66, .bool false), (68, .int .u64 0), (69, .pointer (some ⟨b77, 6, none⟩))] (by kernel_rfl) fun a hs => ?_
    refine s_load hs (hw.at_ 0 rfl) 6 (by kernel_rfl) (by kernel_rfl) (v := .int .u64 0) (by kernel_rfl) fun a hs => ?_
    refine pures hs 4 [2, 3, 73, 74] [(2, .pointer (some ⟨b75, 0, none⟩)), (3, .pointer (some ⟨b77, 0, none⟩)), (73, .bool false), (74, .pointer (some ⟨b75, 7, none⟩))] (by kernel_rfl) fun a hs => ?_
    refine s_load hs (hw.at_ 1 rfl) 7 (by kernel_rfl) (by kernel_rfl) (v := .int .u64 0) (by kernel_rfl) fun a hs => ?_
    refine pures hs 1 [2, 3, 73, 75, 76] [(2, .pointer (some ⟨b75, 0, none⟩)), (3, .pointer (some ⟨b77, 0, none⟩)), (73, .bool false), (75, .int .u64 0), (76, .pointer (some ⟨b77, 7, none⟩))] (by kernel_rfl) fun a hs => ?_
    refine s_load hs (hw.at_ 0 rfl) 7 (by kernel_rfl) (by kernel_rfl) (v := .int .u64 0) (by kernel_rfl) fun a hs => ?_
    refine pures hs 4 [2, 3, 80, 81] [(2, .pointer (some ⟨b75, 0, none⟩)), (3, .pointer (some ⟨b77, 0, none⟩)), (80, .bool false), (81, .pointer (some ⟨b75, 8, none⟩))] (by kernel_rfl) fun a hs => ?_
    refine s_load hs (hw.at_ 1 rfl) 8 (by kernel_rfl) (by kernel_rfl) (v := .int .u64 0) (by kernel_rfl) fun a hs => ?_
    refine pures hs 1 [2, 3, 80, 82, 83] [(2, .pointer (some ⟨b75, 0, none⟩)), (3, .pointer (some ⟨b77, 0, none⟩)), (80, .bool false), (82, .int .u64 0), (83, .pointer (some ⟨b77, 8, none⟩))] (by kernel_rfl) fun a hs => ?_
    refine s_load hs (hw.at_ 0 rfl) 8 (by kernel_rfl) (by kernel_rfl) (v := .int .u64 0) (by kernel_rfl) fun a hs => ?_
    refine pures hs 4 [2, 3, 87, 88] [(2, .pointer (some ⟨b75, 0, none⟩)), (3, .pointer (some ⟨b77, 0, none⟩)), (87, .bool false), (88, .pointer (some ⟨b75, 9, none⟩))] (by kernel_rfl) fun a hs => ?_
    refine s_load hs (hw.at_ 1 rfl) 9 (by kernel_rfl) (by kernel_rfl) (v := .int .u64 0) (by kernel_rfl) fun a hs => ?_
    refine pures hs 1 [2, 3, 87, 89, 90] [(2, .pointer (some ⟨b75, 0, none⟩)), (3, .pointer (some ⟨b77, 0, none⟩)), (87, .bool false), (89, .int .u64 0), (90, .pointer (some ⟨b77, 9, none⟩))] (by kernel_rfl) fun a hs => ?_
    refine s_load hs (hw.at_ 0 rfl) 9 (by kernel_rfl) (by kernel_rfl) (v := .int .u64 0) (by kernel_rfl) fun a hs => ?_
    refine pures hs 3 [2, 3, 53] [(2, .pointer (some ⟨b75, 0, none⟩)), (3, .pointer (some ⟨b77, 0, none⟩)), (53, .bool false)] (by kernel_rfl) fun a hs => ?_
    refine s_end ?_
    exact (hJ88 _ _).2 ⟨(hs.altB 53 ((1 != x6) || false) (by kernel_rfl) (by rw [h89] <;> rfl)).cast [2, 3, 53] (by kernel_rfl), hw.pick [0, 1, 2] (by kernel_rfl)⟩
  intro a w hh
  obtain ⟨hs, hw⟩ := (hJ88 _ _).1 hh
  rcases ifbE hk with ⟨h90, hk⟩ | ⟨h90, hk⟩
  · refine c_cond1 hs (by kernel_rfl) (t := ((1 != x6) || false)) (by kernel_rfl) h90 ?_
    refine c_seq ?_
    refine c_region ?_
    refine pures hs 1 [4] [(4, .bool false)] (by kernel_rfl) fun a hs => ?_
    refine s_end ?_
    refine c_ret ?_
    obtain rfl := someE hk
    refine hQ _ _ (f_ret1 hs rfl (v := .bool false) (by kernel_rfl) ⟨rfl, hw.pick [2] (by kernel_rfl)⟩)
  refine c_cond0 hs (by kernel_rfl) (t := ((1 != x6) || false)) (by kernel_rfl) h90 ?_
  refine c_seq ?_
  obtain ⟨J98, hJ98⟩ : ∃ J : Act → World → Prop, ∀ a w, J a w ↔ (Sees a 127 [(2, .pointer (some ⟨b75, 0, none⟩)), (3, .pointer (some ⟨b77, 0, none⟩)), (94, .bool ((!((0 == 0) && ((0 == 0) && ((0 == 0) && ((0 == 0) && true))))) || false))] ∧ St g w [bx b77 [.int .i64 17, .int .i64 1, .int .i64 1, .int .i64 x5, .int .u64 x6, .int .u64 0, .int .u64 0, .int .u64 0, .int .u64 0, .int .u64 0, .int .i64 0, .int .u32 0, .int .i64 0, .int .i64 0, .int .i64 0, .int .u64 0, .int .i64 0, .int .i64 0, .int .u64 0, .slice none 0 0, .bool false, .int .i64 0, .slice none 0 0, .slice p8 x7.length c9, .slice none 0 0] 90, bx b75 [.int .i64 17, .int .i64 1, .int .i64 1, .int .i64 0, .int .u64 1, .int .u64 0, .int .u64 0, .int .u64 0, .int .u64 0, .int .u64 0, .int .i64 0, .int .u32 0, .int .i64 0, .int .i64 0, .int .i64 0, .int .u64 0, .int .i64 0, .int .i64 0, .int .u64 0, .slice none 0 0, .bool false, .int .i64 0, .slice none 0 0, .slice p2 x1.length c3, .slice none 0 0] 90, F] ih) := ⟨_, fun _ _ => Iff.rfl⟩
  refine c_regJ J98 ?_ ?_
  · refine pures hs 1 [2, 3, 95] [(2, .pointer (some ⟨b75, 0, none⟩)), (3, .pointer (some ⟨b77, 0, none⟩)), (95, .pointer (some ⟨b75, 13, none⟩))] (by kernel_rfl) fun a hs => ?_
    refine s_load hs (hw.at_ 1 rfl) 13 (by kernel_rfl) (by kernel_rfl) (v := .agg #[.int .i64 0, .int .i64 0, .int .u64 0, .int .i64 0]) (by kernel_rfl) fun a hs => ?_
    refine pures hs 1 [2, 3, 96, 97] [(2, .pointer (some ⟨b75, 0, none⟩)), (3, .pointer (some ⟨b77, 0, none⟩)), (96, .agg #[.int .i64 0, .int .i64 0, .int .u64 0, .int .i64 0]), (97, .pointer (some ⟨b77, 13, none⟩))] (by kernel_rfl) fun a hs => ?_
    refine s_load hs (hw.at_ 0 rfl) 13 (by kernel_rfl) (by kernel_rfl) (v := .agg #[.int .i64 0, .int .i64 0, .int .u64 0, .int .i64 0]) (by kernel_rfl) fun a hs => ?_
    refine s_ne hs (c1 := [.int .i64 0, .int .i64 0, .int .u64 0, .int .i64 0]) (c2 := [.int .i64 0, .int .i64 0, .int .u64 0, .int .i64 0]) ((0 == 0) && ((0 == 0) && ((0 == 0) && ((0 == 0) && true)))) (by kernel_rfl) (by kernel_rfl) (by kernel_rfl) (by kernel_rfl) (by kernel_rfl) fun a hs => ?_
    refine pures hs 1 [2, 3, 100] [(2, .pointer (some ⟨b75, 0, none⟩)), (3, .pointer (some ⟨b77, 0, none⟩)), (100, .bool (!((0 == 0) && ((0 == 0) && ((0 == 0) && ((0 == 0) && true))))))] (by kernel_rfl) fun a hs => ?_
    rcases boolE (!((0 == 0) && ((0 == 0) && ((0 == 0) && ((0 == 0) && true))))) with h99 | h99
    · replace hs := hs.altB 100 true (by kernel_rfl) h99
      refine pures hs 8 [2, 3, 94] [(2, .pointer (some ⟨b75, 0, none⟩)), (3, .pointer (some ⟨b77, 0, none⟩)), (94, .bool true)] (by kernel_rfl) fun a hs => ?_
      refine s_end ?_
      exact (hJ98 _ _).2 ⟨(hs.altB 94 ((!((0 == 0) && ((0 == 0) && ((0 == 0) && ((0 == 0) && true))))) || false) (by kernel_rfl) (by rw [h99] <;> rfl)).cast [2, 3, 94] (by kernel_rfl), hw.pick [0, 1, 2] (by kernel_rfl)⟩
    replace hs := hs.altB 100 false (by kernel_rfl) h99
    refine pures hs 1 [2, 3, 100, 101] [(2, .pointer (some ⟨b75, 0, none⟩)), (3, .pointer (some ⟨b77, 0, none⟩)), (100, .bool false), (101, .pointer (some ⟨b75, 17, none⟩))] (by kernel_rfl) fun a hs => ?_
    refine s_load hs (hw.at_ 1 rfl) 17 (by kernel_rfl) (by kernel_rfl) (v := .agg #[.int .i64 0, .int .u64 0, .slice none 0 0, .bool false, .int .i64 0]) (by kernel_rfl) fun a hs => ?_
    refine pures hs 1 [2, 3, 100, 102, 103] [(2, .pointer (some ⟨b75, 0, none⟩)), (3, .pointer (some ⟨b77, 0, none⟩)), (100, .bool false), (102, .agg #[.int .i64 0, .int .u64 0, .slice none 0 0, .bool false, .int .i64 0]), (103, .pointer (some ⟨b77, 17, none⟩))] (by kernel_rfl) fun a hs => ?_
    refine s_load hs (hw.at_ 0 rfl) 17 (by kernel_rfl) (by kernel_rfl) (v := .agg #[.int .i64 0, .int .u64 0, .slice none 0 0, .bool false, .int .i64 0]) (by kernel_rfl) fun a hs => ?_
    have h101 : conf_Same = some () := rfl
    refine s_call hs (by kernel_rfl) (by kernel_rfl) (conf_Same_s h101 ((hw.pick [0, 1, 2] (by kernel_rfl)).pack 0)) fun a w v hv hs => ?_
    obtain ⟨rfl, hw⟩ := hv
    replace hw := hw.unpack 0 rfl
    refine pures hs 3 [2, 3, 94] [(2, .pointer (some ⟨b75, 0, none⟩)), (3, .pointer (some ⟨b77, 0, none⟩)), (94, .bool false)] (by kernel_rfl) fun a hs => ?_
    refine s_end ?_
    exact (hJ98 _ _).2 ⟨(hs.altB 94 ((!((0 == 0) && ((0 == 0) && ((0 == 0) && ((0 == 0) && true))))) || false) (by kernel_rfl) (by rw [h99] <;> rfl)).cast [2, 3, 94] (by kernel_rfl), hw.pick [0, 1, 2] (by kernel_rfl)⟩
  intro a w hh
  obtain ⟨hs, hw⟩ := (hJ98 _ _).1 hh
  rcases ifbE hk with ⟨h102, hk⟩ | ⟨h102, hk⟩
  · refine c_cond1 hs (by kernel_rfl) (t := ((!((0 == 0) && ((0 == 0) && ((0 == 0) && ((0 == 0) && true))))) || false)) (by kernel_rfl) h102 ?_
    refine c_seq ?_
    refine c_region ?_
    refine pures hs 1 [4] [(4, .bool false)] (by kernel_rfl) fun a hs => ?_
    refine s_end ?_
    refine c_ret ?_
    obtain rfl := someE hk
    refine hQ _ _ (f_ret1 hs rfl (v := .bool false) (by kernel_rfl) ⟨rfl, hw.pick [2] (by kernel_rfl)⟩)
  refine c_cond0 hs (by kernel_rfl) (t := ((!((0 == 0) && ((0 == 0) && ((0 == 0) && ((0 == 0) && true))))) || false)) (by kernel_rfl) h102 ?_
  refine c_skip ?_
  refine c_seq ?_
  obtain ⟨y118, hx119, hk⟩ := bindE hk
  obtain ⟨J120, hJ120⟩ : ∃ J : Act → World → Prop, ∀ a w, J a w ↔ (∃ (x117 : Bool), letter_Same_r2 x117 = some r ∧ Sees a 127 [(4, .bool x117)] ∧ St g w [F] ih) := ⟨_, fun _ _ => Iff.rfl⟩
  refine c_regJ J120 ?_ ?_
  · refine pures hs 1 [2, 3, 108] [(2, .pointer (some ⟨b75, 0, none⟩)), (3, .pointer (some ⟨b77, 0, none⟩)), (108, .pointer (some ⟨b75, 22, none⟩))] (by kernel_rfl) fun a hs => ?_
    refine s_load hs (hw.at_ 1 rfl) 22 (by kernel_rfl) (by kernel_rfl) (v := .slice none 0 0) (by kernel_rfl) fun a hs => ?_
    refine pures hs 1 [2, 3, 109, 110] [(2, .pointer (some ⟨b75, 0, none⟩)), (3, .pointer (some ⟨b77, 0, none⟩)), (109, .slice none 0 0), (110, .pointer (some ⟨b77, 22, none⟩))] (by kernel_rfl) fun a hs => ?_
    refine s_load hs (hw.at_ 0 rfl) 22 (by kernel_rfl) (by kernel_rfl) (v := .slice none 0 0) (by kernel_rfl) fun a hs => ?_
    have h122 : slices_Equal_api_Vote_api_Vote = some () := rfl
    refine s_call hs (by kernel_rfl) (by kernel_rfl) (slices_Equal_api_Vote_api_Vote_s h122 ((hw.pick [0, 1, 2] (by kernel_rfl)).pack 0)) fun a w v hv hs => ?_
    obtain ⟨rfl, hw⟩ := hv
    replace hw := hw.unpack 0 rfl
    refine pures hs 2 [2, 3, 113, 114] [(2, .pointer (some ⟨b75, 0, none⟩)), (3, .pointer (some ⟨b77, 0, none⟩)), (113, .bool true), (114, .pointer (some ⟨b75, 23, none⟩))] (by kernel_rfl) fun a hs => ?_
    refine s_load hs (hw.at_ 1 rfl) 23 (by kernel_rfl) (by kernel_rfl) (v := .slice p2 x1.length c3) (by kernel_rfl) fun a hs => ?_
    refine pures hs 1 [2, 3, 113, 115, 116] [(2, .pointer (some ⟨b75, 0, none⟩)), (3, .pointer (some ⟨b77, 0, none⟩)), (113, .bool true), (115, .slice p2 x1.length c3), (116, .pointer (some ⟨b77, 23, none⟩))] (by kernel_rfl) fun a hs => ?_
    refine s_load hs (hw.at_ 0 rfl) 23 (by kernel_rfl) (by kernel_rfl) (v := .slice p8 x7.length c9) (by kernel_rfl) fun a hs => ?_
    obtain ⟨y123, h124, hx119⟩ := bindE hx119
    refine s_call hs (by kernel_rfl) (by kernel_rfl) (slices_EqualFunc_api_Update_api_Update_api_Update_api_Update_s h124 h4 (nilSub _) h10 (nilSub _) ((hw.pick [0, 1, 2] (by kernel_rfl)).pack 0)) fun a w v hv hs => ?_
    obtain ⟨rfl, hw⟩ := hv
    replace hw := hw.unpack 0 rfl
    refine pures hs 2 [2, 3, 120] [(2, .pointer (some ⟨b75, 0, none⟩)), (3, .pointer (some ⟨b77, 0, none⟩)), (120, .bool y123)] (by kernel_rfl) fun a hs => ?_
    rcases ifbE hx119 with ⟨h125, hx119⟩ | ⟨h125, hx119⟩
    · replace hs := hs.altB 120 true (by kernel_rfl) h125
      refine pures hs 1 [3, 120, 121] [(3, .pointer (some ⟨b77, 0, none⟩)), (120, .bool true), (121, .pointer (some ⟨b75, 24, none⟩))] (by kernel_rfl) fun a hs => ?_
      refine s_load hs (hw.at_ 1 rfl) 24 (by kernel_rfl) (by kernel_rfl) (v := .slice none 0 0) (by kernel_rfl) fun a hs => ?_
      refine pures hs 1 [120, 122, 123] [(120, .bool true), (122, .slice none 0 0), (123, .pointer (some ⟨b77, 24, none⟩))] (by kernel_rfl) fun a hs => ?_
      refine s_load hs (hw.at_ 0 rfl) 24 (by kernel_rfl) (by kernel_rfl) (v := .slice none 0 0) (by kernel_rfl) fun a hs => ?_
      obtain ⟨y126, h127, hx119⟩ := bindE hx119
      refine s_call hs (by kernel_rfl) (by kernel_rfl) (bytes_Equal_2_s h127 ((hw.pick [2] (by kernel_rfl)).pack 0)) fun a w v hv hs => ?_
      obtain ⟨rfl, hw⟩ := hv
      replace hw := hw.unpack 0 rfl
      refine pures hs 2 [4] [(4, .bool y126)] (by kernel_rfl) fun a hs => ?_
      refine s_end ?_
      obtain rfl := someE hx119
      exact (hJ120 _ _).2 ⟨y126, hk, hs.cast [4] (by kernel_rfl), hw.pick [0] (by kernel_rfl)⟩
    replace hs := hs.altB 120 false (by kernel_rfl) h125
    refine pures hs 7 [4] [(4, .bool false)] (by kernel_rfl) fun a hs => ?_
    refine s_end ?_
    obtain rfl := someE hx119
    exact (hJ120 _ _).2 ⟨false, hk, hs.cast [4] (by kernel_rfl), hw.pick [2] (by kernel_rfl)⟩
  intro a w hh
  obtain ⟨x117, hk, hs, hw⟩ := (hJ120 _ _).1 hh
  refine c_ret ?_
  obtain rfl := someE hk
  refine hQ _ _ (f_ret1 hs rfl (v := .bool x117) (by kernel_rfl) ⟨rfl, hw.pick [0] (by kernel_rfl)⟩)
def letter_small : Option Unit :=
  some ()
theorem letter_small_s {r : Unit} (hk : letter_small = some r) {g w : World} {F : Ch} {ih : IH} (hw : St g w [F] ih) :
    CallsR Tryz.prog 85 #[.int .i64 1, .func (.func 86) #[] #[], .func (.func 87) #[] #[]] w fun v w' => ∃ (b27 : Nat) (b29 : Nat), v = .agg #[.func (.func 86) #[] #[], .func (.func 102) #[] #[.pointer (some ⟨b27, 0, none⟩), .pointer (some ⟨b29, 0, none⟩)], .func (.func 104) #[] #[.pointer (some ⟨b29, 0, none⟩), .pointer (some ⟨b27, 0, none⟩)]] ∧ St g w' [bx b27 [.func (.func 87) #[] #[]] 118, bx b29 [.int .i64 1] 3, F] ih := by
  refine f_in (vs := [.int .i64 1, .func (.func 86) #[] #[], .func (.func 87) #[] #[]]) Tryz.func85 rfl 11 rfl (by kernel_rfl) [(0, .int .i64 1), (1, .func (.func 86) #[] #[]), (2, .func (.func 87) #[] #[])] (by kernel_rfl) fun a Qf hQ hQn hs => ?_
  refine c_seq ?_
  refine c_region ?_
  refine s_new hs hw [.int .i64 1] 3 (fun b => .pointer (some ⟨b, 0, none⟩)) (by kernel_rfl) (fun _ => by kernel_rfl) fun a w b21 hs hw => ?_
  refine s_new hs hw [.func (.func 87) #[] #[]] 118 (fun b => .pointer (some ⟨b, 0, none⟩)) (by kernel_rfl) (fun _ => by kernel_rfl) fun a w b23 hs hw => ?_
  refine s_new hs hw [.nilFunc, .nilFunc, .nilFunc] 101 (fun b => .pointer (some ⟨b, 0, none⟩)) (by kernel_rfl) (fun _ => by kernel_rfl) fun a w b25 hs hw => ?_
  refine s_end ?_
  refine c_seq ?_
  refine c_region ?_
  refine pures hs 4 [6, 10] [(6, .pointer (some ⟨b25, 0, none⟩)), (10, .agg #[.func (.func 86) #[] #[], .func (.func 102) #[] #[.pointer (some ⟨b23, 0, none⟩), .pointer (some ⟨b21, 0, none⟩)], .func (.func 104) #[] #[.pointer (some ⟨b21, 0, none⟩), .pointer (some ⟨b23, 0, none⟩)]])] (by kernel_rfl) fun a hs => ?_
  refine s_store hs hw 0 rfl 0 (by kernel_rfl) (by kernel_rfl) (v := .agg #[.func (.func 86) #[] #[], .func (.func 102) #[] #[.pointer (some ⟨b23, 0, none⟩), .pointer (some ⟨b21, 0, none⟩)], .func (.func 104) #[] #[.pointer (some ⟨b21, 0, none⟩), .pointer (some ⟨b23, 0, none⟩)]]) (by kernel_rfl) (by kernel_rfl) (by kernel_rfl) (by kernel_rfl) fun a w hs hw => ?_
  refine s_end ?_
  refine c_ret ?_
  obtain rfl := someE hk
  refine hQ _ _ (f_retC hs rfl (hw.at_ 0 rfl) (by kernel_rfl) (v := .agg #[.func (.func 86) #[] #[], .func (.func 102) #[] #[.pointer (some ⟨b23, 0, none⟩), .pointer (some ⟨b21, 0, none⟩)], .func (.func 104) #[] #[.pointer (some ⟨b21, 0, none⟩), .pointer (some ⟨b23, 0, none⟩)]]) (by kernel_rfl) ⟨b23, b21, rfl, hw.pick [1, 2, 3] (by kernel_rfl)⟩)
def letter_of : Option Unit :=
  some ()
theorem letter_of_s {r : Unit} (hk : letter_of = some r) {g w : World} {F : Ch} {ih : IH} (hw : St g w [F] ih) :
    CallsR Tryz.prog 83 #[.int .i64 1] w fun v w' => ∃ (b35 : Nat) (b37 : Nat), v = .agg #[.func (.func 86) #[] #[], .func (.func 102) #[] #[.pointer (some ⟨b35, 0, none⟩), .pointer (some ⟨b37, 0, none⟩)], .func (.func 104) #[] #[.pointer (some ⟨b37, 0, none⟩), .pointer (some ⟨b35, 0, none⟩)]] ∧ St g w' [bx b35 [.func (.func 87) #[] #[]] 118, bx b37 [.int .i64 1] 3, F] ih := by
  refine f_in (vs := [.int .i64 1]) Tryz.func83 rfl 30 rfl (by kernel_rfl) [(0, .int .i64 1)] (by kernel_rfl) fun a Qf hQ hQn hs => ?_
  refine c_seq ?_
  refine c_region ?_
  refine s_new hs hw [.nilFunc, .nilFunc, .nilFunc] 101 (fun b => .pointer (some ⟨b, 0, none⟩)) (by kernel_rfl) (fun _ => by kernel_rfl) fun a w b21 hs hw => ?_
  refine s_end ?_
  refine c_seq ?_
  refine c_region ?_
  refine pures hs 1 [0, 2, 3] [(0, .int .i64 1), (2, .pointer (some ⟨b21, 0, none⟩)), (3, .int .i64 1)] (by kernel_rfl) fun a hs => ?_
  refine s_end ?_
  refine c_block ?_
  refine c_seq ?_
  refine c_region ?_
  refine pures hs 2 [0, 2, 3, 6] [(0, .int .i64 1), (2, .pointer (some ⟨b21, 0, none⟩)), (3, .int .i64 1), (6, .bool true)] (by kernel_rfl) fun a hs => ?_
  refine s_end ?_
  refine c_condT hs (by kernel_rfl) (by kernel_rfl) ?_
  refine c_seq ?_
  refine c_region ?_
  have h30 : letter_small = some () := rfl
  refine s_call hs (by kernel_rfl) (by kernel_rfl) (letter_small_s h30 ((hw.pick [0, 1] (by kernel_rfl)).pack 0)) fun a w v hv hs => ?_
  obtain ⟨b31, b33, rfl, hw⟩ := hv
  replace hw := hw.unpack 2 rfl
  refine s_store hs hw 2 rfl 0 (by kernel_rfl) (by kernel_rfl) (v := .agg #[.func (.func 86) #[] #[], .func (.func 102) #[] #[.pointer (some ⟨b31, 0, none⟩), .pointer (some ⟨b33, 0, none⟩)], .func (.func 104) #[] #[.pointer (some ⟨b33, 0, none⟩), .pointer (some ⟨b31, 0, none⟩)]]) (by kernel_rfl) (by kernel_rfl) (by kernel_rfl) (by kernel_rfl) fun a w hs hw => ?_
  refine s_end ?_
  refine c_ret ?_
  obtain rfl := someE hk
  refine hQ _ _ (f_retC hs rfl (hw.at_ 2 rfl) (by kernel_rfl) (v := .agg #[.func (.func 86) #[] #[], .func (.func 102) #[] #[.pointer (some ⟨b31, 0, none⟩), .pointer (some ⟨b33, 0, none⟩)], .func (.func 104) #[] #[.pointer (some ⟨b33, 0, none⟩), .pointer (some ⟨b31, 0, none⟩)]]) (by kernel_rfl) ⟨b31, b33, rfl, hw.pick [0, 1, 3] (by kernel_rfl)⟩)
def letter_word : Option Unit :=
  some ()
theorem letter_word_s {r : Unit} (hk : letter_word = some r) {g w : World} {F : Ch} {ih : IH} (hw : St g w [F] ih) :
    CallsR Tryz.prog 90 #[.func (.func 91) #[] #[], .func (.func 92) #[] #[]] w fun v w' => ∃ (b19 : Nat), v = .agg #[.func (.func 91) #[] #[], .func (.func 106) #[] #[.pointer (some ⟨b19, 0, none⟩)], .func (.func 107) #[] #[.pointer (some ⟨b19, 0, none⟩)]] ∧ St g w' [bx b19 [.func (.func 92) #[] #[]] 121, F] ih := by
  refine f_in (vs := [.func (.func 91) #[] #[], .func (.func 92) #[] #[]]) Tryz.func90 rfl 9 rfl (by kernel_rfl) [(0, .func (.func 91) #[] #[]), (1, .func (.func 92) #[] #[])] (by kernel_rfl) fun a Qf hQ hQn hs => ?_
  refine c_seq ?_
  refine c_region ?_
  refine s_new hs hw [.func (.func 92) #[] #[]] 121 (fun b => .pointer (some ⟨b, 0, none⟩)) (by kernel_rfl) (fun _ => by kernel_rfl) fun a w b15 hs hw => ?_
  refine s_new hs hw [.nilFunc, .nilFunc, .nilFunc] 101 (fun b => .pointer (some ⟨b, 0, none⟩)) (by kernel_rfl) (fun _ => by kernel_rfl) fun a w b17 hs hw => ?_
  refine s_end ?_
  refine c_seq ?_
  refine c_region ?_
  refine pures hs 4 [4, 8] [(4, .pointer (some ⟨b17, 0, none⟩)), (8, .agg #[.func (.func 91) #[] #[], .func (.func 106) #[] #[.pointer (some ⟨b15, 0, none⟩)], .func (.func 107) #[] #[.pointer (some ⟨b15, 0, none⟩)]])] (by kernel_rfl) fun a hs => ?_
  refine s_store hs hw 0 rfl 0 (by kernel_rfl) (by kernel_rfl) (v := .agg #[.func (.func 91) #[] #[], .func (.func 106) #[] #[.pointer (some ⟨b15, 0, none⟩)], .func (.func 107) #[] #[.pointer (some ⟨b15, 0, none⟩)]]) (by kernel_rfl) (by kernel_rfl) (by kernel_rfl) (by kernel_rfl) fun a w hs hw => ?_
  refine s_end ?_
  refine c_ret ?_
  obtain rfl := someE hk
  refine hQ _ _ (f_retC hs rfl (hw.at_ 0 rfl) (by kernel_rfl) (v := .agg #[.func (.func 91) #[] #[], .func (.func 106) #[] #[.pointer (some ⟨b15, 0, none⟩)], .func (.func 107) #[] #[.pointer (some ⟨b15, 0, none⟩)]]) (by kernel_rfl) ⟨b15, rfl, hw.pick [1, 2] (by kernel_rfl)⟩)
def letter_of_2 : Option Unit :=
  some ()
theorem letter_of_2_s {r : Unit} (hk : letter_of_2 = some r) {g w : World} {F : Ch} {ih : IH} (hw : St g w [F] ih) :
    CallsR Tryz.prog 83 #[.int .i64 2] w fun v w' => ∃ (b27 : Nat), v = .agg #[.func (.func 91) #[] #[], .func (.func 106) #[] #[.pointer (some ⟨b27, 0, none⟩)], .func (.func 107) #[] #[.pointer (some ⟨b27, 0, none⟩)]] ∧ St g w' [bx b27 [.func (.func 92) #[] #[]] 121, F] ih := by
  refine f_in (vs := [.int .i64 2]) Tryz.func83 rfl 30 rfl (by kernel_rfl) [(0, .int .i64 2)] (by kernel_rfl) fun a Qf hQ hQn hs => ?_
  refine c_seq ?_
  refine c_region ?_
  refine s_new hs hw [.nilFunc, .nilFunc, .nilFunc] 101 (fun b => .pointer (some ⟨b, 0, none⟩)) (by kernel_rfl) (fun _ => by kernel_rfl) fun a w b17 hs hw => ?_
  refine s_end ?_
  refine c_seq ?_
  refine c_region ?_
  refine pures hs 1 [0, 2, 3] [(0, .int .i64 2), (2, .pointer (some ⟨b17, 0, none⟩)), (3, .int .i64 2)] (by kernel_rfl) fun a hs => ?_
  refine s_end ?_
  refine c_block ?_
  refine c_seq ?_
  refine c_region ?_
  refine pures hs 2 [0, 2, 3, 6] [(0, .int .i64 2), (2, .pointer (some ⟨b17, 0, none⟩)), (3, .int .i64 2), (6, .bool false)] (by kernel_rfl) fun a hs => ?_
  refine s_end ?_
  refine c_condF hs (by kernel_rfl) (by kernel_rfl) ?_
  refine c_seq ?_
  refine c_region ?_
  refine pures hs 2 [0, 2, 3, 9] [(0, .int .i64 2), (2, .pointer (some ⟨b17, 0, none⟩)), (3, .int .i64 2), (9, .bool false)] (by kernel_rfl) fun a hs => ?_
  refine s_end ?_
  refine c_condF hs (by kernel_rfl) (by kernel_rfl) ?_
  refine c_seq ?_
  refine c_region ?_
  refine pures hs 2 [0, 2, 3, 12] [(0, .int .i64 2), (2, .pointer (some ⟨b17, 0, none⟩)), (3, .int .i64 2), (12, .bool true)] (by kernel_rfl) fun a hs => ?_
  refine s_end ?_
  refine c_condT hs (by kernel_rfl) (by kernel_rfl) ?_
  refine c_seq ?_
  refine c_region ?_
  have h24 : letter_word = some () := rfl
  refine s_call hs (by kernel_rfl) (by kernel_rfl) (letter_word_s h24 ((hw.pick [0, 1] (by kernel_rfl)).pack 0)) fun a w v hv hs => ?_
  obtain ⟨b25, rfl, hw⟩ := hv
  replace hw := hw.unpack 1 rfl
  refine s_store hs hw 1 rfl 0 (by kernel_rfl) (by kernel_rfl) (v := .agg #[.func (.func 91) #[] #[], .func (.func 106) #[] #[.pointer (some ⟨b25, 0, none⟩)], .func (.func 107) #[] #[.pointer (some ⟨b25, 0, none⟩)]]) (by kernel_rfl) (by kernel_rfl) (by kernel_rfl) (by kernel_rfl) fun a w hs hw => ?_
  refine s_end ?_
  refine c_ret ?_
  obtain rfl := someE hk
  refine hQ _ _ (f_retC hs rfl (hw.at_ 1 rfl) (by kernel_rfl) (v := .agg #[.func (.func 91) #[] #[], .func (.func 106) #[] #[.pointer (some ⟨b25, 0, none⟩)], .func (.func 107) #[] #[.pointer (some ⟨b25, 0, none⟩)]]) (by kernel_rfl) ⟨b25, rfl, hw.pick [0, 2] (by kernel_rfl)⟩)
def letter_other : Option Unit :=
  some ()
theorem letter_other_s {r : Unit} (hk : letter_other = some r) {g w : World} {F : Ch} {ih : IH} (hw : St g w [F] ih) :
    CallsR Tryz.prog 101 #[.int .i64 8192] w fun v w' => v = .agg #[.func (.func 128) #[] #[], .func (.func 129) #[] #[], .func (.func 130) #[] #[]] ∧ St g w' [F] ih := by
  refine f_in (vs := [.int .i64 8192]) Tryz.func101 rfl 23 rfl (by kernel_rfl) [(0, .int .i64 8192)] (by kernel_rfl) fun a Qf hQ hQn hs => ?_
  refine c_seq ?_
  refine c_region ?_
  refine s_new hs hw [.nilFunc, .nilFunc, .nilFunc] 101 (fun b => .pointer (some ⟨b, 0, none⟩)) (by kernel_rfl) (fun _ => by kernel_rfl) fun a w b9 hs hw => ?_
  refine s_end ?_
  refine c_seq ?_
  refine c_region ?_
  refine pures hs 1 [2, 3] [(2, .pointer (some ⟨b9, 0, none⟩)), (3, .int .i64 8192)] (by kernel_rfl) fun a hs => ?_
  refine s_end ?_
  refine c_block ?_
  refine c_seq ?_
  refine c_region ?_
  refine pures hs 2 [2, 3, 5] [(2, .pointer (some ⟨b9, 0, none⟩)), (3, .int .i64 8192), (5, .bool false)] (by kernel_rfl) fun a hs => ?_
  refine s_end ?_
  refine c_condF hs (by kernel_rfl) (by kernel_rfl) ?_
  refine c_seq ?_
  refine c_region ?_
  refine pures hs 2 [2, 3, 8] [(2, .pointer (some ⟨b9, 0, none⟩)), (3, .int .i64 8192), (8, .bool false)] (by kernel_rfl) fun a hs => ?_
  refine s_end ?_
  refine c_condF hs (by kernel_rfl) (by kernel_rfl) ?_
  refine c_seq ?_
  refine c_region ?_
  refine pures hs 2 [2, 3, 11] [(2, .pointer (some ⟨b9, 0, none⟩)), (3, .int .i64 8192), (11, .bool false)] (by kernel_rfl) fun a hs => ?_
  refine s_end ?_
  refine c_condF hs (by kernel_rfl) (by kernel_rfl) ?_
  refine c_seq ?_
  refine c_region ?_
  refine pures hs 2 [2, 3, 14] [(2, .pointer (some ⟨b9, 0, none⟩)), (3, .int .i64 8192), (14, .bool false)] (by kernel_rfl) fun a hs => ?_
  refine s_end ?_
  refine c_condF hs (by kernel_rfl) (by kernel_rfl) ?_
  refine c_seq ?_
  refine c_region ?_
  refine pures hs 2 [2, 3, 17] [(2, .pointer (some ⟨b9, 0, none⟩)), (3, .int .i64 8192), (17, .bool false)] (by kernel_rfl) fun a hs => ?_
  refine s_end ?_
  refine c_condF hs (by kernel_rfl) (by kernel_rfl) ?_
  refine c_seq ?_
  refine c_region ?_
  refine pures hs 2 [2, 20] [(2, .pointer (some ⟨b9, 0, none⟩)), (20, .bool true)] (by kernel_rfl) fun a hs => ?_
  refine s_end ?_
  refine c_condT hs (by kernel_rfl) (by kernel_rfl) ?_
  refine c_seq ?_
  refine c_region ?_
  refine pures hs 1 [2, 22] [(2, .pointer (some ⟨b9, 0, none⟩)), (22, .agg #[.func (.func 128) #[] #[], .func (.func 129) #[] #[], .func (.func 130) #[] #[]])] (by kernel_rfl) fun a hs => ?_
  refine s_store hs hw 0 rfl 0 (by kernel_rfl) (by kernel_rfl) (v := .agg #[.func (.func 128) #[] #[], .func (.func 129) #[] #[], .func (.func 130) #[] #[]]) (by kernel_rfl) (by kernel_rfl) (by kernel_rfl) (by kernel_rfl) fun a w hs hw => ?_
  refine s_end ?_
  refine c_ret ?_
  obtain rfl := someE hk
  refine hQ _ _ (f_retC hs rfl (hw.at_ 0 rfl) (by kernel_rfl) (v := .agg #[.func (.func 128) #[] #[], .func (.func 129) #[] #[], .func (.func 130) #[] #[]]) (by kernel_rfl) ⟨rfl, hw.pick [1] (by kernel_rfl)⟩)
def letter_of_3 : Option Unit :=
  some ()
theorem letter_of_3_s {r : Unit} (hk : letter_of_3 = some r) {g w : World} {F : Ch} {ih : IH} (hw : St g w [F] ih) :
    CallsR Tryz.prog 83 #[.int .i64 8192] w fun v w' => v = .agg #[.func (.func 128) #[] #[], .func (.func 129) #[] #[], .func (.func 130) #[] #[]] ∧ St g w' [F] ih := by
  refine f_in (vs := [.int .i64 8192]) Tryz.func83 rfl 30 rfl (by kernel_rfl) [(0, .int .i64 8192)] (by kernel_rfl) fun a Qf hQ hQn hs => ?_
  refine c_seq ?_
  refine c_region ?_
  refine s_new hs hw [.nilFunc, .nilFunc, .nilFunc] 101 (fun b => .pointer (some ⟨b, 0, none⟩)) (by kernel_rfl) (fun _ => by kernel_rfl) fun a w b13 hs hw => ?_
  refine s_end ?_
  refine c_seq ?_
  refine c_region ?_
  refine pures hs 1 [0, 2, 3] [(0, .int .i64 8192), (2, .pointer (some ⟨b13, 0, none⟩)), (3, .int .i64 8192)] (by kernel_rfl) fun a hs => ?_
  refine s_end ?_
  refine c_block ?_
  refine c_seq ?_
  refine c_region ?_
  refine pures hs 2 [0, 2, 3, 6] [(0, .int .i64 8192), (2, .pointer (some ⟨b13, 0, none⟩)), (3, .int .i64 8192), (6, .bool false)] (by kernel_rfl) fun a hs => ?_
  refine s_end ?_
  refine c_condF hs (by kernel_rfl) (by kernel_rfl) ?_
  refine c_seq ?_
  refine c_region ?_
  refine pures hs 2 [0, 2, 3, 9] [(0, .int .i64 8192), (2, .pointer (some ⟨b13, 0, none⟩)), (3, .int .i64 8192), (9, .bool false)] (by kernel_rfl) fun a hs => ?_
  refine s_end ?_
  refine c_condF hs (by kernel_rfl) (by kernel_rfl) ?_
  refine c_seq ?_
  refine c_region ?_
  refine pures hs 2 [0, 2, 3, 12] [(0, .int .i64 8192), (2, .pointer (some ⟨b13, 0, none⟩)), (3, .int .i64 8192), (12, .bool false)] (by kernel_rfl) fun a hs => ?_
  refine s_end ?_
  refine c_condF hs (by kernel_rfl) (by kernel_rfl) ?_
  refine c_seq ?_
  refine c_region ?_
  refine pures hs 2 [0, 2, 3, 15] [(0, .int .i64 8192), (2, .pointer (some ⟨b13, 0, none⟩)), (3, .int .i64 8192), (15, .bool false)] (by kernel_rfl) fun a hs => ?_
  refine s_end ?_
  refine c_condF hs (by kernel_rfl) (by kernel_rfl) ?_
  refine c_seq ?_
  refine c_region ?_
  refine pures hs 2 [0, 2, 3, 18] [(0, .int .i64 8192), (2, .pointer (some ⟨b13, 0, none⟩)), (3, .int .i64 8192), (18, .bool false)] (by kernel_rfl) fun a hs => ?_
  refine s_end ?_
  refine c_condF hs (by kernel_rfl) (by kernel_rfl) ?_
  refine c_seq ?_
  refine c_region ?_
  refine pures hs 2 [0, 2, 3, 21] [(0, .int .i64 8192), (2, .pointer (some ⟨b13, 0, none⟩)), (3, .int .i64 8192), (21, .bool false)] (by kernel_rfl) fun a hs => ?_
  refine s_end ?_
  refine c_condF hs (by kernel_rfl) (by kernel_rfl) ?_
  refine c_seq ?_
  refine c_region ?_
  refine pures hs 2 [0, 2, 3, 24] [(0, .int .i64 8192), (2, .pointer (some ⟨b13, 0, none⟩)), (3, .int .i64 8192), (24, .bool false)] (by kernel_rfl) fun a hs => ?_
  refine s_end ?_
  refine c_condF hs (by kernel_rfl) (by kernel_rfl) ?_
  refine c_seq ?_
  refine c_region ?_
  refine pures hs 2 [0, 2, 27] [(0, .int .i64 8192), (2, .pointer (some ⟨b13, 0, none⟩)), (27, .bool false)] (by kernel_rfl) fun a hs => ?_
  refine s_end ?_
  refine c_condF hs (by kernel_rfl) (by kernel_rfl) ?_
  refine c_seq ?_
  refine c_region ?_
  refine pures hs 1 [2, 4] [(2, .pointer (some ⟨b13, 0, none⟩)), (4, .int .i64 8192)] (by kernel_rfl) fun a hs => ?_
  have h18 : letter_other = some () := rfl
  refine s_call hs (by kernel_rfl) (by kernel_rfl) (letter_other_s h18 ((hw.pick [0, 1] (by kernel_rfl)).pack 0)) fun a w v hv hs => ?_
  obtain ⟨rfl, hw⟩ := hv
  replace hw := hw.unpack 0 rfl
  refine s_store hs hw 0 rfl 0 (by kernel_rfl) (by kernel_rfl) (v := .agg #[.func (.func 128) #[] #[], .func (.func 129) #[] #[], .func (.func 130) #[] #[]]) (by kernel_rfl) (by kernel_rfl) (by kernel_rfl) (by kernel_rfl) fun a w hs hw => ?_
  refine s_end ?_
  refine c_ret ?_
  obtain rfl := someE hk
  refine hQ _ _ (f_retC hs rfl (hw.at_ 0 rfl) (by kernel_rfl) (v := .agg #[.func (.func 128) #[] #[], .func (.func 129) #[] #[], .func (.func 130) #[] #[]]) (by kernel_rfl) ⟨rfl, hw.pick [1] (by kernel_rfl)⟩)
def letter_parts : Option Unit :=
  some ()
theorem letter_parts_s {r : Unit} (hk : letter_parts = some r) {g w : World} {F : Ch} {ih : IH} (hG : Glob 0 gl0 110 ih) (hw : St g w [F] ih) :
    CallsR Tryz.prog 59 #[.int .i64 17] w fun v w' => ∃ (p611 : Option Addr) (c612 : Nat) (d614 : Ch) (b616 : Nat) (b618 : Nat) (b620 : Nat), v = .slice p611 3 c612 ∧ St g w' [d614, bx b616 [.func (.func 87) #[] #[]] 118, bx b618 [.int .i64 1] 3, bx b620 [.func (.func 92) #[] #[]] 121, F] ih ∧ OSl e101 ih p611 c612 [(M101.mk (.func (.func 86) #[] #[]) (.func (.func 102) #[] #[.pointer (some ⟨b616, 0, none⟩), .pointer (some ⟨b618, 0, none⟩)]) (.func (.func 104) #[] #[.pointer (some ⟨b618, 0, none⟩), .pointer (some ⟨b616, 0, none⟩)])), (M101.mk (.func (.func 91) #[] #[]) (.func (.func 106) #[] #[.pointer (some ⟨b620, 0, none⟩)]) (.func (.func 107) #[] #[.pointer (some ⟨b620, 0, none⟩)])), (M101.mk (.func (.func 128) #[] #[]) (.func (.func 129) #[] #[]) (.func (.func 130) #[] #[]))] d614 := by
  refine f_in (vs := [.int .i64 17]) Tryz.func59 rfl 22 rfl (by kernel_rfl) [(0, .int .i64 17)] (by kernel_rfl) fun a Qf hQ hQn hs => ?_
  refine c_seq ?_
  refine c_region ?_
  refine pures hs 1 [0] [(0, .int .i64 17)] (by kernel_rfl) fun a hs => ?_
  refine s_end ?_
  refine c_seq ?_
  refine c_region ?_
  refine pures hs 1 [0, 3] [(0, .int .i64 17), (3, .slice none 0 0)] (by kernel_rfl) fun a hs => ?_
  refine s_end ?_
  refine c_seq ?_
  refine c_seq ?_
  refine c_region ?_
  refine pures hs 3 [3, 8] [(3, .slice none 0 0), (8, .pointer (some ⟨0, 120, none⟩))] (by kernel_rfl) fun a hs => ?_
  refine s_load hs (hw.atG (hG.mono (Le.refl _))) 120 (by kernel_rfl) (by kernel_rfl) (v := .agg #[.int .i64 1, .int .i64 2, .int .i64 8192, .int .i64 0, .int .i64 0, .int .i64 0]) (by kernel_rfl) fun a hs => ?_
  refine pures hs 1 [3, 9, 10] [(3, .slice none 0 0), (9, .agg #[.int .i64 1, .int .i64 2, .int .i64 8192, .int .i64 0, .int .i64 0, .int .i64 0]), (10, .int .i64 0)] (by kernel_rfl) fun a hs => ?_
  refine s_end ?_
  refine c_block ?_
  refine wpIn_loop_rounds 7 ?_
  refine c_unr ?_
  refine c_seq ?_
  refine c_region ?_
  refine pures hs 1 [3, 9, 10, 11] [(3, .slice none 0 0), (9, .agg #[.int .i64 1, .int .i64 2, .int .i64 8192, .int .i64 0, .int .i64 0, .int .i64 0]), (10, .int .i64 0), (11, .bool true)] (by kernel_rfl) fun a hs => ?_
  refine s_end ?_
  refine c_seq ?_
  refine c_condT hs (by kernel_rfl) (by kernel_rfl) ?_
  refine c_skip ?_
  refine c_seq ?_
  refine c_block ?_
  refine c_seq ?_
  refine c_region ?_
  refine pures hs 2 [3, 9, 10, 5] [(3, .slice none 0 0), (9, .agg #[.int .i64 1, .int .i64 2, .int .i64 8192, .int .i64 0, .int .i64 0, .int .i64 0]), (10, .int .i64 0), (5, .int .i64 1)] (by kernel_rfl) fun a hs => ?_
  refine s_end ?_
  refine c_seq ?_
  refine c_region ?_
  refine pures hs 2 [3, 9, 10, 5, 14] [(3, .slice none 0 0), (9, .agg #[.int .i64 1, .int .i64 2, .int .i64 8192, .int .i64 0, .int .i64 0, .int .i64 0]), (10, .int .i64 0), (5, .int .i64 1), (14, .bool true)] (by kernel_rfl) fun a hs => ?_
  refine s_end ?_
  refine c_condT hs (by kernel_rfl) (by kernel_rfl) ?_
  refine c_region ?_
  refine pures hs 2 [9, 10, 15, 16] [(9, .agg #[.int .i64 1, .int .i64 2, .int .i64 8192, .int .i64 0, .int .i64 0, .int .i64 0]), (10, .int .i64 0), (15, .slice none 0 0), (16, .int .i64 1)] (by kernel_rfl) fun a hs => ?_
  have h508 : letter_of = some () := rfl
  refine s_call hs (by kernel_rfl) (by kernel_rfl) (letter_of_s h508 ((hw.pick [0] (by kernel_rfl)).pack 0)) fun a w v hv hs => ?_
  obtain ⟨b509, b511, rfl, hw⟩ := hv
  replace hw := hw.unpack 2 rfl
  refine s_new hs hw [.func (.func 86) #[] #[], .func (.func 102) #[] #[.pointer (some ⟨b509, 0, none⟩), .pointer (some ⟨b511, 0, none⟩)], .func (.func 104) #[] #[.pointer (some ⟨b511, 0, none⟩), .pointer (some ⟨b509, 0, none⟩)]] 101 (fun b => .slice (some ⟨b, 0, none⟩) 1 1) (by kernel_rfl) (fun _ => by kernel_rfl) fun a w b513 hs hw => ?_
  replace hw := hw.nil
  have h518 : app ([]) [(M101.mk (.func (.func 86) #[] #[]) (.func (.func 102) #[] #[.pointer (some ⟨b509, 0, none⟩), .pointer (some ⟨b511, 0, none⟩)]) (.func (.func 104) #[] #[.pointer (some ⟨b511, 0, none⟩), .pointer (some ⟨b509, 0, none⟩)]))] = some ([(M101.mk (.func (.func 86) #[] #[]) (.func (.func 102) #[] #[.pointer (some ⟨b509, 0, none⟩), .pointer (some ⟨b511, 0, none⟩)]) (.func (.func 104) #[] #[.pointer (some ⟨b511, 0, none⟩), .pointer (some ⟨b509, 0, none⟩)]))]) := rfl
  refine s_app1 hs hw (E := e101) appT95 0 rfl (OSl.nil _ _) (by kernel_rfl) (by kernel_rfl) (c2 := 1) (by kernel_rfl) (hw.at_ 1 rfl) (z := (M101.mk (.func (.func 86) #[] #[]) (.func (.func 102) #[] #[.pointer (some ⟨b509, 0, none⟩), .pointer (some ⟨b511, 0, none⟩)]) (.func (.func 104) #[] #[.pointer (some ⟨b511, 0, none⟩), .pointer (some ⟨b509, 0, none⟩)]))) ⟨rfl, rfl, rfl, rfl⟩ h518 fun a w p519 c520 d521 h522 hw hs => ?_
  refine pures hs 1 [9, 10, 3] [(9, .agg #[.int .i64 1, .int .i64 2, .int .i64 8192, .int .i64 0, .int .i64 0, .int .i64 0]), (10, .int .i64 0), (3, .slice p519 1 c520)] (by kernel_rfl) fun a hs => ?_
  refine s_end ?_
  refine c_region ?_
  refine pures hs 2 [9, 10, 3] [(9, .agg #[.int .i64 1, .int .i64 2, .int .i64 8192, .int .i64 0, .int .i64 0, .int .i64 0]), (10, .int .i64 1), (3, .slice p519 1 c520)] (by kernel_rfl) fun a hs => ?_
  refine s_end ?_
  refine c_unr ?_
  refine c_seq ?_
  refine c_region ?_
  refine pures hs 1 [9, 10, 3, 11] [(9, .agg #[.int .i64 1, .int .i64 2, .int .i64 8192, .int .i64 0, .int .i64 0, .int .i64 0]), (10, .int .i64 1), (3, .slice p519 1 c520), (11, .bool true)] (by kernel_rfl) fun a hs => ?_
  refine s_end ?_
  refine c_seq ?_
  refine c_condT hs (by kernel_rfl) (by kernel_rfl) ?_
  refine c_skip ?_
  refine c_seq ?_
  refine c_block ?_
  refine c_seq ?_
  refine c_region ?_
  refine pures hs 2 [9, 10, 3, 5] [(9, .agg #[.int .i64 1, .int .i64 2, .int .i64 8192, .int .i64 0, .int .i64 0, .int .i64 0]), (10, .int .i64 1), (3, .slice p519 1 c520), (5, .int .i64 2)] (by kernel_rfl) fun a hs => ?_
  refine s_end ?_
  refine c_seq ?_
  refine c_region ?_
  refine pures hs 2 [9, 10, 3, 5, 14] [(9, .agg #[.int .i64 1, .int .i64 2, .int .i64 8192, .int .i64 0, .int .i64 0, .int .i64 0]), (10, .int .i64 1), (3, .slice p519 1 c520), (5, .int .i64 2), (14, .bool true)] (by kernel_rfl) fun a hs => ?_
  refine s_end ?_
  refine c_condT hs (by kernel_rfl) (by kernel_rfl) ?_
  refine c_region ?_
  refine pures hs 2 [9, 10, 15, 16] [(9, .agg #[.int .i64 1, .int .i64 2, .int .i64 8192, .int .i64 0, .int .i64 0, .int .i64 0]), (10, .int .i64 1), (15, .slice p519 1 c520), (16, .int .i64 2)] (by kernel_rfl) fun a hs => ?_
  have h560 : letter_of_2 = some () := rfl
  refine s_call hs (by kernel_rfl) (by kernel_rfl) (letter_of_2_s h560 ((hw.pick [0, 2, 3, 4] (by kernel_rfl)).pack 0)) fun a w v hv hs => ?_
  obtain ⟨b561, rfl, hw⟩ := hv
  replace hw := hw.unpack 1 rfl
  refine s_new hs hw [.func (.func 91) #[] #[], .func (.func 106) #[] #[.pointer (some ⟨b561, 0, none⟩)], .func (.func 107) #[] #[.pointer (some ⟨b561, 0, none⟩)]] 101 (fun b => .slice (some ⟨b, 0, none⟩) 1 1) (by kernel_rfl) (fun _ => by kernel_rfl) fun a w b563 hs hw => ?_
  have h566 : app ([(M101.mk (.func (.func 86) #[] #[]) (.func (.func 102) #[] #[.pointer (some ⟨b509, 0, none⟩), .pointer (some ⟨b511, 0, none⟩)]) (.func (.func 104) #[] #[.pointer (some ⟨b511, 0, none⟩), .pointer (some ⟨b509, 0, none⟩)]))]) [(M101.mk (.func (.func 91) #[] #[]) (.func (.func 106) #[] #[.pointer (some ⟨b561, 0, none⟩)]) (.func (.func 107) #[] #[.pointer (some ⟨b561, 0, none⟩)]))] = some ([(M101.mk (.func (.func 86) #[] #[]) (.func (.func 102) #[] #[.pointer (some ⟨b509, 0, none⟩), .pointer (some ⟨b511, 0, none⟩)]) (.func (.func 104) #[] #[.pointer (some ⟨b511, 0, none⟩), .pointer (some ⟨b509, 0, none⟩)])), (M101.mk (.func (.func 91) #[] #[]) (.func (.func 106) #[] #[.pointer (some ⟨b561, 0, none⟩)]) (.func (.func 107) #[] #[.pointer (some ⟨b561, 0, none⟩)]))]) := rfl
  refine s_app1 hs hw (E := e101) appT95 2 rfl h522 (by kernel_rfl) (by kernel_rfl) (c2 := 1) (by kernel_rfl) (hw.at_ 0 rfl) (z := (M101.mk (.func (.func 91) #[] #[]) (.func (.func 106) #[] #[.pointer (some ⟨b561, 0, none⟩)]) (.func (.func 107) #[] #[.pointer (some ⟨b561, 0, none⟩)]))) ⟨rfl, rfl, rfl, rfl⟩ h566 fun a w p567 c568 d569 h570 hw hs => ?_
  refine pures hs 1 [9, 10, 3] [(9, .agg #[.int .i64 1, .int .i64 2, .int .i64 8192, .int .i64 0, .int .i64 0, .int .i64 0]), (10, .int .i64 1), (3, .slice p567 2 c568)] (by kernel_rfl) fun a hs => ?_
  refine s_end ?_
  refine c_region ?_
  refine pures hs 2 [9, 10, 3] [(9, .agg #[.int .i64 1, .int .i64 2, .int .i64 8192, .int .i64 0, .int .i64 0, .int .i64 0]), (10, .int .i64 2), (3, .slice p567 2 c568)] (by kernel_rfl) fun a hs => ?_
  refine s_end ?_
  refine c_unr ?_
  refine c_seq ?_
  refine c_region ?_
  refine pures hs 1 [9, 10, 3, 11] [(9, .agg #[.int .i64 1, .int .i64 2, .int .i64 8192, .int .i64 0, .int .i64 0, .int .i64 0]), (10, .int .i64 2), (3, .slice p567 2 c568), (11, .bool true)] (by kernel_rfl) fun a hs => ?_
  refine s_end ?_
  refine c_seq ?_
  refine c_condT hs (by kernel_rfl) (by kernel_rfl) ?_
  refine c_skip ?_
  refine c_seq ?_
  refine c_block ?_
  refine c_seq ?_
  refine c_region ?_
  refine pures hs 2 [9, 10, 3, 5] [(9, .agg #[.int .i64 1, .int .i64 2, .int .i64 8192, .int .i64 0, .int .i64 0, .int .i64 0]), (10, .int .i64 2), (3, .slice p567 2 c568), (5, .int .i64 8192)] (by kernel_rfl) fun a hs => ?_
  refine s_end ?_
  refine c_seq ?_
  refine c_region ?_
  refine pures hs 2 [9, 10, 3, 5, 14] [(9, .agg #[.int .i64 1, .int .i64 2, .int .i64 8192, .int .i64 0, .int .i64 0, .int .i64 0]), (10, .int .i64 2), (3, .slice p567 2 c568), (5, .int .i64 8192), (14, .bool true)] (by kernel_rfl) fun a hs => ?_
  refine s_end ?_
  refine c_condT hs (by kernel_rfl) (by kernel_rfl) ?_
  refine c_region ?_
  refine pures hs 2 [9, 10, 15, 16] [(9, .agg #[.int .i64 1, .int .i64 2, .int .i64 8192, .int .i64 0, .int .i64 0, .int .i64 0]), (10, .int .i64 2), (15, .slice p567 2 c568), (16, .int .i64 8192)] (by kernel_rfl) fun a hs => ?_
  have h602 : letter_of_3 = some () := rfl
  refine s_call hs (by kernel_rfl) (by kernel_rfl) (letter_of_3_s h602 ((hw.pick [1, 2, 3, 4, 5] (by kernel_rfl)).pack 0)) fun a w v hv hs => ?_
  obtain ⟨rfl, hw⟩ := hv
  replace hw := hw.unpack 0 rfl
  refine s_new hs hw [.func (.func 128) #[] #[], .func (.func 129) #[] #[], .func (.func 130) #[] #[]] 101 (fun b => .slice (some ⟨b, 0, none⟩) 1 1) (by kernel_rfl) (fun _ => by kernel_rfl) fun a w b603 hs hw => ?_
  have h606 : app ([(M101.mk (.func (.func 86) #[] #[]) (.func (.func 102) #[] #[.pointer (some ⟨b509, 0, none⟩), .pointer (some ⟨b511, 0, none⟩)]) (.func (.func 104) #[] #[.pointer (some ⟨b511, 0, none⟩), .pointer (some ⟨b509, 0, none⟩)])), (M101.mk (.func (.func 91) #[] #[]) (.func (.func 106) #[] #[.pointer (some ⟨b561, 0, none⟩)]) (.func (.func 107) #[] #[.pointer (some ⟨b561, 0, none⟩)]))]) [(M101.mk (.func (.func 128) #[] #[]) (.func (.func 129) #[] #[]) (.func (.func 130) #[] #[]))] = some ([(M101.mk (.func (.func 86) #[] #[]) (.func (.func 102) #[] #[.pointer (some ⟨b509, 0, none⟩), .pointer (some ⟨b511, 0, none⟩)]) (.func (.func 104) #[] #[.pointer (some ⟨b511, 0, none⟩), .pointer (some ⟨b509, 0, none⟩)])), (M101.mk (.func (.func 91) #[] #[]) (.func (.func 106) #[] #[.pointer (some ⟨b561, 0, none⟩)]) (.func (.func 107) #[] #[.pointer (some ⟨b561, 0, none⟩)])), (M101.mk (.func (.func 128) #[] #[]) (.func (.func 129) #[] #[]) (.func (.func 130) #[] #[]))]) := rfl
  refine s_app1 hs hw (E := e101) appT95 2 rfl h570 (by kernel_rfl) (by kernel_rfl) (c2 := 1) (by kernel_rfl) (hw.at_ 0 rfl) (z := (M101.mk (.func (.func 128) #[] #[]) (.func (.func 129) #[] #[]) (.func (.func 130) #[] #[]))) ⟨rfl, rfl, rfl, rfl⟩ h606 fun a w p607 c608 d609 h610 hw hs => ?_
  refine pures hs 1 [9, 10, 3] [(9, .agg #[.int .i64 1, .int .i64 2, .int .i64 8192, .int .i64 0, .int .i64 0, .int .i64 0]), (10, .int .i64 2), (3, .slice p607 3 c608)] (by kernel_rfl) fun a hs => ?_
  refine s_end ?_
  refine c_region ?_
  refine pures hs 2 [9, 10, 3] [(9, .agg #[.int .i64 1, .int .i64 2, .int .i64 8192, .int .i64 0, .int .i64 0, .int .i64 0]), (10, .int .i64 3), (3, .slice p607 3 c608)] (by kernel_rfl) fun a hs => ?_
  refine s_end ?_
  refine c_unr ?_
  refine c_seq ?_
  refine c_region ?_
  refine pures hs 1 [9, 10, 3, 11] [(9, .agg #[.int .i64 1, .int .i64 2, .int .i64 8192, .int .i64 0, .int .i64 0, .int .i64 0]), (10, .int .i64 3), (3, .slice p607 3 c608), (11, .bool true)] (by kernel_rfl) fun a hs => ?_
  refine s_end ?_
  refine c_seq ?_
  refine c_condT hs (by kernel_rfl) (by kernel_rfl) ?_
  refine c_skip ?_
  refine c_seq ?_
  refine c_block ?_
  refine c_seq ?_
  refine c_region ?_
  refine pures hs 2 [9, 10, 3, 5] [(9, .agg #[.int .i64 1, .int .i64 2, .int .i64 8192, .int .i64 0, .int .i64 0, .int .i64 0]), (10, .int .i64 3), (3, .slice p607 3 c608), (5, .int .i64 0)] (by kernel_rfl) fun a hs => ?_
  refine s_end ?_
  refine c_seq ?_
  refine c_region ?_
  refine pures hs 2 [9, 10, 3, 5, 14] [(9, .agg #[.int .i64 1, .int .i64 2, .int .i64 8192, .int .i64 0, .int .i64 0, .int .i64 0]), (10, .int .i64 3), (3, .slice p607 3 c608), (5, .int .i64 0), (14, .bool false)] (by kernel_rfl) fun a hs => ?_
  refine s_end ?_
  refine c_condF hs (by kernel_rfl) (by kernel_rfl) ?_
  refine c_skip ?_
  refine c_region ?_
  refine pures hs 2 [9, 10, 3] [(9, .agg #[.int .i64 1, .int .i64 2, .int .i64 8192, .int .i64 0, .int .i64 0, .int .i64 0]), (10, .int .i64 4), (3, .slice p607 3 c608)] (by kernel_rfl) fun a hs => ?_
  refine s_end ?_
  refine c_unr ?_
  refine c_seq ?_
  refine c_region ?_
  refine pures hs 1 [9, 10, 3, 11] [(9, .agg #[.int .i64 1, .int .i64 2, .int .i64 8192, .int .i64 0, .int .i64 0, .int .i64 0]), (10, .int .i64 4), (3, .slice p607 3 c608), (11, .bool true)] (by kernel_rfl) fun a hs => ?_
  refine s_end ?_
  refine c_seq ?_
  refine c_condT hs (by kernel_rfl) (by kernel_rfl) ?_
  refine c_skip ?_
  refine c_seq ?_
  refine c_block ?_
  refine c_seq ?_
  refine c_region ?_
  refine pures hs 2 [9, 10, 3, 5] [(9, .agg #[.int .i64 1, .int .i64 2, .int .i64 8192, .int .i64 0, .int .i64 0, .int .i64 0]), (10, .int .i64 4), (3, .slice p607 3 c608), (5, .int .i64 0)] (by kernel_rfl) fun a hs => ?_
  refine s_end ?_
  refine c_seq ?_
  refine c_region ?_
  refine pures hs 2 [9, 10, 3, 5, 14] [(9, .agg #[.int .i64 1, .int .i64 2, .int .i64 8192, .int .i64 0, .int .i64 0, .int .i64 0]), (10, .int .i64 4), (3, .slice p607 3 c608), (5, .int .i64 0), (14, .bool false)] (by kernel_rfl) fun a hs => ?_
  refine s_end ?_
  refine c_condF hs (by kernel_rfl) (by kernel_rfl) ?_
  refine c_skip ?_
  refine c_region ?_
  refine pures hs 2 [9, 10, 3] [(9, .agg #[.int .i64 1, .int .i64 2, .int .i64 8192, .int .i64 0, .int .i64 0, .int .i64 0]), (10, .int .i64 5), (3, .slice p607 3 c608)] (by kernel_rfl) fun a hs => ?_
  refine s_end ?_
  refine c_unr ?_
  refine c_seq ?_
  refine c_region ?_
  refine pures hs 1 [9, 10, 3, 11] [(9, .agg #[.int .i64 1, .int .i64 2, .int .i64 8192, .int .i64 0, .int .i64 0, .int .i64 0]), (10, .int .i64 5), (3, .slice p607 3 c608), (11, .bool true)] (by kernel_rfl) fun a hs => ?_
  refine s_end ?_
  refine c_seq ?_
  refine c_condT hs (by kernel_rfl) (by kernel_rfl) ?_
  refine c_skip ?_
  refine c_seq ?_
  refine c_block ?_
  refine c_seq ?_
  refine c_region ?_
  refine pures hs 2 [9, 10, 3, 5] [(9, .agg #[.int .i64 1, .int .i64 2, .int .i64 8192, .int .i64 0, .int .i64 0, .int .i64 0]), (10, .int .i64 5), (3, .slice p607 3 c608), (5, .int .i64 0)] (by kernel_rfl) fun a hs => ?_
  refine s_end ?_
  refine c_seq ?_
  refine c_region ?_
  refine pures hs 2 [9, 10, 3, 5, 14] [(9, .agg #[.int .i64 1, .int .i64 2, .int .i64 8192, .int .i64 0, .int .i64 0, .int .i64 0]), (10, .int .i64 5), (3, .slice p607 3 c608), (5, .int .i64 0), (14, .bool false)] (by kernel_rfl) fun a hs => ?_
  refine s_end ?_
  refine c_condF hs (by kernel_rfl) (by kernel_rfl) ?_
  refine c_skip ?_
  refine c_region ?_
  refine pures hs 2 [9, 10, 3] [(9, .agg #[.int .i64 1, .int .i64 2, .int .i64 8192, .int .i64 0, .int .i64 0, .int .i64 0]), (10, .int .i64 6), (3, .slice p607 3 c608)] (by kernel_rfl) fun a hs => ?_
  refine s_end ?_
  refine c_unr ?_
  refine c_seq ?_
  refine c_region ?_
  refine pures hs 1 [9, 10, 3, 11] [(9, .agg #[.int .i64 1, .int .i64 2, .int .i64 8192, .int .i64 0, .int .i64 0, .int .i64 0]), (10, .int .i64 6), (3, .slice p607 3 c608), (11, .bool false)] (by kernel_rfl) fun a hs => ?_
  refine s_end ?_
  refine c_seq ?_
  refine c_condF hs (by kernel_rfl) (by kernel_rfl) ?_
  refine c_exit ?_
  refine c_seq ?_
  refine c_region ?_
  refine pures hs 2 [2] [(2, .slice p607 3 c608)] (by kernel_rfl) fun a hs => ?_
  refine s_end ?_
  refine c_ret ?_
  obtain rfl := someE hk
  refine hQ _ _ (f_ret1 hs rfl (v := .slice p607 3 c608) (by kernel_rfl) ⟨p607, c608, d609, b509, b511, b561, rfl, hw.pick [2, 3, 4, 1, 5] (by kernel_rfl), h610⟩)
def letter_of_1 : Option Unit :=
  some ()
theorem letter_of_1_s {x1 : List M26} {p2 : Option Addr} {c3 : Nat} {r : Unit} (hk : letter_of_1 = some r) {g w : World} {F : Ch} {ih : IH} (h4 : RSl e26 ih [] p2 c3 x1) (hw : St g w [F] ih) :
    CallsR Tryz.prog 86 #[.agg #[.int .i64 17, .int .i64 1, .int .i64 1, .int .i64 0, .int .u64 1, .int .u64 0, .int .u64 0, .int .u64 0, .int .u64 0, .int .u64 0, .int .i64 0, .int .u32 0, .int .i64 0, .int .i64 0, .int .i64 0, .int .u64 0, .int .i64 0, .int .i64 0, .int .u64 0, .slice none 0 0, .bool false, .int .i64 0, .slice none 0 0, .slice p2 x1.length c3, .slice none 0 0]] w fun v w' => v = .bool true ∧ St g w' [F] ih := by
  refine f_in (vs := [.agg #[.int .i64 17, .int .i64 1, .int .i64 1, .int .i64 0, .int .u64 1, .int .u64 0, .int .u64 0, .int .u64 0, .int .u64 0, .int .u64 0, .int .i64 0, .int .u32 0, .int .i64 0, .int .i64 0, .int .i64 0, .int .u64 0, .int .i64 0, .int .i64 0, .int .u64 0, .slice none 0 0, .bool false, .int .i64 0, .slice none 0 0, .slice p2 x1.length c3, .slice none 0 0]]) Tryz.func86 rfl 11 rfl (by kernel_rfl) [(0, .agg #[.int .i64 17, .int .i64 1, .int .i64 1, .int .i64 0, .int .u64 1, .int .u64 0, .int .u64 0, .int .u64 0, .int .u64 0, .int .u64 0, .int .i64 0, .int .u32 0, .int .i64 0, .int .i64 0, .int .i64 0, .int .u64 0, .int .i64 0, .int .i64 0, .int .u64 0, .slice none 0 0, .bool false, .int .i64 0, .slice none 0 0, .slice p2 x1.length c3, .slice none 0 0])] (by kernel_rfl) fun a Qf hQ hQn hs => ?_
  refine c_seq ?_
  refine c_region ?_
  refine s_new hs hw [.int .i64 17, .int .i64 1, .int .i64 1, .int .i64 0, .int .u64 1, .int .u64 0, .int .u64 0, .int .u64 0, .int .u64 0, .int .u64 0, .int .i64 0, .int .u32 0, .int .i64 0, .int .i64 0, .int .i64 0, .int .u64 0, .int .i64 0, .int .i64 0, .int .u64 0, .slice none 0 0, .bool false, .int .i64 0, .slice none 0 0, .slice p2 x1.length c3, .slice none 0 0] 90 (fun b => .pointer (some ⟨b, 0, none⟩)) (by kernel_rfl) (fun _ => by kernel_rfl) fun a w b13 hs hw => ?_
  refine pures hs 1 [1] [(1, .pointer (some ⟨b13, 0, none⟩))] (by kernel_rfl) fun a hs => ?_
  refine s_end ?_
  refine c_seq ?_
  refine c_region ?_
  refine pures hs 1 [1, 3] [(1, .pointer (some ⟨b13, 0, none⟩)), (3, .pointer (some ⟨b13, 3, none⟩))] (by kernel_rfl) fun a hs => ?_
  refine s_load hs (hw.at_ 0 rfl) 3 (by kernel_rfl) (by kernel_rfl) (v := .int .i64 0) (by kernel_rfl) fun a hs => ?_
  refine pures hs 3 [6, 7] [(6, .bool true), (7, .pointer (some ⟨b13, 3, none⟩))] (by kernel_rfl) fun a hs => ?_
  refine s_load hs (hw.at_ 0 rfl) 3 (by kernel_rfl) (by kernel_rfl) (v := .int .i64 0) (by kernel_rfl) fun a hs => ?_
  refine pures hs 3 [2] [(2, .bool true)] (by kernel_rfl) fun a hs => ?_
  refine s_end ?_
  refine c_ret ?_
  obtain rfl := someE hk
  refine hQ _ _ (f_ret1 hs rfl (v := .bool true) (by kernel_rfl) ⟨rfl, hw.pick [1] (by kernel_rfl)⟩)
def letter_of_5 : Option Unit :=
  some ()
theorem letter_of_5_s {x1 : List M26} {p2 : Option Addr} {c3 : Nat} {r : Unit} (hk : letter_of_5 = some r) {g w : World} {F : Ch} {ih : IH} (h4 : RSl e26 ih [] p2 c3 x1) (hw : St g w [F] ih) :
    CallsR Tryz.prog 91 #[.agg #[.int .i64 17, .int .i64 1, .int .i64 1, .int .i64 0, .int .u64 1, .int .u64 0, .int .u64 0, .int .u64 0, .int .u64 0, .int .u64 0, .int .i64 0, .int .u32 0, .int .i64 0, .int .i64 0, .int .i64 0, .int .u64 0, .int .i64 0, .int .i64 0, .int .u64 0, .slice none 0 0, .bool false, .int .i64 0, .slice none 0 0, .slice p2 x1.length c3, .slice none 0 0]] w fun v w' => v = .bool true ∧ St g w' [F] ih := by
  refine f_in (vs := [.agg #[.int .i64 17, .int .i64 1, .int .i64 1, .int .i64 0, .int .u64 1, .int .u64 0, .int .u64 0, .int .u64 0, .int .u64 0, .int .u64 0, .int .i64 0, .int .u32 0, .int .i64 0, .int .i64 0, .int .i64 0, .int .u64 0, .int .i64 0, .int .i64 0, .int .u64 0, .slice none 0 0, .bool false, .int .i64 0, .slice none 0 0, .slice p2 x1.length c3, .slice none 0 0]]) Tryz.func91 rfl 6 rfl (by kernel_rfl) [(0, .agg #[.int .i64 17, .int .i64 1, .int .i64 1, .int .i64 0, .int .u64 1, .int .u64 0, .int .u64 0, .int .u64 0, .int .u64 0, .int .u64 0, .int .i64 0, .int .u32 0, .int .i64 0, .int .i64 0, .int .i64 0, .int .u64 0, .int .i64 0, .int .i64 0, .int .u64 0, .slice none 0 0, .bool false, .int .i64 0, .slice none 0 0, .slice p2 x1.length c3, .slice none 0 0])] (by kernel_rfl) fun a Qf hQ hQn hs => ?_
  refine c_seq ?_
  refine c_region ?_
  refine s_new hs hw [.int .i64 17, .int .i64 1, .int .i64 1, .int .i64 0, .int .u64 1, .int .u64 0, .int .u64 0, .int .u64 0, .int .u64 0, .int .u64 0, .int .i64 0, .int .u32 0, .int .i64 0, .int .i64 0, .int .i64 0, .int .u64 0, .int .i64 0, .int .i64 0, .int .u64 0, .slice none 0 0, .bool false, .int .i64 0, .slice none 0 0, .slice p2 x1.length c3, .slice none 0 0] 90 (fun b => .pointer (some ⟨b, 0, none⟩)) (by kernel_rfl) (fun _ => by kernel_rfl) fun a w b13 hs hw => ?_
  refine pures hs 1 [1] [(1, .pointer (some ⟨b13, 0, none⟩))] (by kernel_rfl) fun a hs => ?_
  refine s_end ?_
  refine c_seq ?_
  refine c_region ?_
  refine pures hs 1 [3] [(3, .pointer (some ⟨b13, 4, none⟩))] (by kernel_rfl) fun a hs => ?_
  refine s_load hs (hw.at_ 0 rfl) 4 (by kernel_rfl) (by kernel_rfl) (v := .int .u64 1) (by kernel_rfl) fun a hs => ?_
  refine pures hs 2 [2] [(2, .bool true)] (by kernel_rfl) fun a hs => ?_
  refine s_end ?_
  refine c_ret ?_
  obtain rfl := someE hk
  refine hQ _ _ (f_ret1 hs rfl (v := .bool true) (by kernel_rfl) ⟨rfl, hw.pick [1] (by kernel_rfl)⟩)
def letter_update (x1 : M26) : Option Bool :=
  if ((!(true == (x1.f0 == 0))) || ((decide (x1.f1 < 1)) || ((decide (x1.f1 > 6)) || (decide (x1.f2 < 1))))) = true then some false
  else if (bif (x1.f3 == 2) then ((x1.f5 != 0) || ((x1.f3 != 2) && (x1.f3 != 3))) else ((x1.f3 != 2) && (x1.f3 != 3))) = true then some false
  else some (decide ((x1.f6.length : Int) ≤ 2048))
theorem letter_update_s {x1 : M26} {p2 : Option Addr} {c3 : Nat} {r : Bool} (hk : letter_update x1 = some r) {g w : World} {F : Ch} {ih : IH} (h4 : RSl e5 ih [] p2 c3 x1.f6) (hw : St g w [F] ih) :
    CallsR Tryz.prog 151 #[.agg #[.int .u64 x1.f0, .int .i64 x1.f1, .int .u64 x1.f2, .int .i64 x1.f3, .int .u32 x1.f4, .int .u64 x1.f5, .slice p2 x1.f6.length c3], .bool true] w fun v w' => v = .bool r ∧ St g w' [F] ih := by
  refine f_in (vs := [.agg #[.int .u64 x1.f0, .int .i64 x1.f1, .int .u64 x1.f2, .int .i64 x1.f3, .int .u32 x1.f4, .int .u64 x1.f5, .slice p2 x1.f6.length c3], .bool true]) Tryz.func151 rfl 49 rfl (by kernel_rfl) [(0, .agg #[.int .u64 x1.f0, .int .i64 x1.f1, .int .u64 x1.f2, .int .i64 x1.f3, .int .u32 x1.f4, .int .u64 x1.f5, .slice p2 x1.f6.length c3]), (1, .bool true)] (by kernel_rfl) fun a Qf hQ hQn hs => ?_
  refine c_seq ?_
  refine c_region ?_
  refine s_new hs hw [.int .u64 x1.f0, .int .i64 x1.f1, .int .u64 x1.f2, .int .i64 x1.f3, .int .u32 x1.f4, .int .u64 x1.f5, .slice p2 x1.f6.length c3] 26 (fun b => .pointer (some ⟨b, 0, none⟩)) (by kernel_rfl) (fun _ => by kernel_rfl) fun a w b40 hs hw => ?_
  refine pures hs 1 [1, 2] [(1, .bool true), (2, .pointer (some ⟨b40, 0, none⟩))] (by kernel_rfl) fun a hs => ?_
  refine s_end ?_
  refine c_seq ?_
  refine c_block ?_
  refine c_seq ?_
  obtain ⟨J49, hJ49⟩ : ∃ J : Act → World → Prop, ∀ a w, J a w ↔ (Sees a 49 [(2, .pointer (some ⟨b40, 0, none⟩)), (5, .bool ((!(true == (x1.f0 == 0))) || ((decide (x1.f1 < 1)) || ((decide (x1.f1 > 6)) || (decide (x1.f2 < 1))))))] ∧ St g w [bx b40 [.int .u64 x1.f0, .int .i64 x1.f1, .int .u64 x1.f2, .int .i64 x1.f3, .int .u32 x1.f4, .int .u64 x1.f5, .slice p2 x1.f6.length c3] 26, F] ih) := ⟨_, fun _ _ => Iff.rfl⟩
  refine c_regJ J49 ?_ ?_
  · refine pures hs 2 [2, 6, 7] [(2, .pointer (some ⟨b40, 0, none⟩)), (6, .bool true), (7, .pointer (some ⟨b40, 0, none⟩))] (by kernel_rfl) fun a hs => ?_
    refine s_load hs (hw.at_ 0 rfl) 0 (by kernel_rfl) (by kernel_rfl) (v := .int .u64 x1.f0) (by kernel_rfl) fun a hs => ?_
    refine pures hs 3 [2, 11] [(2, .pointer (some ⟨b40, 0, none⟩)), (11, .bool (!(true == (x1.f0 == 0))))] (by kernel_rfl) fun a hs => ?_
    rcases boolE (!(true == (x1.f0 == 0))) with h50 | h50
    · replace hs := hs.altB 11 true (by kernel_rfl) h50
      refine pures hs 15 [2, 5] [(2, .pointer (some ⟨b40, 0, none⟩)), (5, .bool true)] (by kernel_rfl) fun a hs => ?_
      refine s_end ?_
      exact (hJ49 _ _).2 ⟨(hs.altB 5 ((!(true == (x1.f0 == 0))) || ((decide (x1.f1 < 1)) || ((decide (x1.f1 > 6)) || (decide (x1.f2 < 1))))) (by kernel_rfl) (by rw [h50] <;> rfl)).cast [2, 5] (by kernel_rfl), hw.pick [0, 1] (by kernel_rfl)⟩
    replace hs := hs.altB 11 false (by kernel_rfl) h50
    refine pures hs 1 [2, 11, 12] [(2, .pointer (some ⟨b40, 0, none⟩)), (11, .bool false), (12, .pointer (some ⟨b40, 1, none⟩))] (by kernel_rfl) fun a hs => ?_
    refine s_load hs (hw.at_ 0 rfl) 1 (by kernel_rfl) (by kernel_rfl) (v := .int .i64 x1.f1) (by kernel_rfl) fun a hs => ?_
    refine pures hs 3 [2, 16] [(2, .pointer (some ⟨b40, 0, none⟩)), (16, .bool (decide (x1.f1 < 1)))] (by kernel_rfl) fun a hs => ?_
    rcases boolE (decide (x1.f1 < 1)) with h51 | h51
    · replace hs := hs.altB 16 true (by kernel_rfl) h51
      refine pures hs 10 [2, 5] [(2, .pointer (some ⟨b40, 0, none⟩)), (5, .bool true)] (by kernel_rfl) fun a hs => ?_
      refine s_end ?_
      exact (hJ49 _ _).2 ⟨(hs.altB 5 ((!(true == (x1.f0 == 0))) || ((decide (x1.f1 < 1)) || ((decide (x1.f1 > 6)) || (decide (x1.f2 < 1))))) (by kernel_rfl) (by rw [h50, h51] <;> rfl)).cast [2, 5] (by kernel_rfl), hw.pick [0, 1] (by kernel_rfl)⟩
    replace hs := hs.altB 16 false (by kernel_rfl) h51
    refine pures hs 1 [2, 16, 17] [(2, .pointer (some ⟨b40, 0, none⟩)), (16, .bool false), (17, .pointer (some ⟨b40, 1, none⟩))] (by kernel_rfl) fun a hs => ?_
    refine s_load hs (hw.at_ 0 rfl) 1 (by kernel_rfl) (by kernel_rfl) (v := .int .i64 x1.f1) (by kernel_rfl) fun a hs => ?_
    refine pures hs 3 [2, 21] [(2, .pointer (some ⟨b40, 0, none⟩)), (21, .bool (decide (x1.f1 > 6)))] (by kernel_rfl) fun a hs => ?_
    rcases boolE (decide (x1.f1 > 6)) with h52 | h52
    · replace hs := hs.altB 21 true (by kernel_rfl) h52
      refine pures hs 5 [2, 5] [(2, .pointer (some ⟨b40, 0, none⟩)), (5, .bool true)] (by kernel_rfl) fun a hs => ?_
      refine s_end ?_
      exact (hJ49 _ _).2 ⟨(hs.altB 5 ((!(true == (x1.f0 == 0))) || ((decide (x1.f1 < 1)) || ((decide (x1.f1 > 6)) || (decide (x1.f2 < 1))))) (by kernel_rfl) (by rw [h50, h51, h52] <;> rfl)).cast [2, 5] (by kernel_rfl), hw.pick [0, 1] (by kernel_rfl)⟩
    replace hs := hs.altB 21 false (by kernel_rfl) h52
    refine pures hs 1 [2, 21, 22] [(2, .pointer (some ⟨b40, 0, none⟩)), (21, .bool false), (22, .pointer (some ⟨b40, 2, none⟩))] (by kernel_rfl) fun a hs => ?_
    refine s_load hs (hw.at_ 0 rfl) 2 (by kernel_rfl) (by kernel_rfl) (v := .int .u64 x1.f2) (by kernel_rfl) fun a hs => ?_
    refine pures hs 3 [2, 5] [(2, .pointer (some ⟨b40, 0, none⟩)), (5, .bool (decide (x1.f2 < 1)))] (by kernel_rfl) fun a hs => ?_
    refine s_end ?_
    exact (hJ49 _ _).2 ⟨(hs.altB 5 ((!(true == (x1.f0 == 0))) || ((decide (x1.f1 < 1)) || ((decide (x1.f1 > 6)) || (decide (x1.f2 < 1))))) (by kernel_rfl) (by rw [h50, h51, h52] <;> rfl)).cast [2, 5] (by kernel_rfl), hw.pick [0, 1] (by kernel_rfl)⟩
  intro a w hh
  obtain ⟨hs, hw⟩ := (hJ49 _ _).1 hh
  rcases ifbE hk with ⟨h53, hk⟩ | ⟨h53, hk⟩
  · refine c_cond1 hs (by kernel_rfl) (t := ((!(true == (x1.f0 == 0))) || ((decide (x1.f1 < 1)) || ((decide (x1.f1 > 6)) || (decide (x1.f2 < 1)))))) (by kernel_rfl) h53 ?_
    refine c_seq ?_
    refine c_region ?_
    refine pures hs 1 [4] [(4, .bool false)] (by kernel_rfl) fun a hs => ?_
    refine s_end ?_
    refine c_ret ?_
    obtain rfl := someE hk
    refine hQ _ _ (f_ret1 hs rfl (v := .bool false) (by kernel_rfl) ⟨rfl, hw.pick [1] (by kernel_rfl)⟩)
  refine c_cond0 hs (by kernel_rfl) (t := ((!(true == (x1.f0 == 0))) || ((decide (x1.f1 < 1)) || ((decide (x1.f1 > 6)) || (decide (x1.f2 < 1)))))) (by kernel_rfl) h53 ?_
  refine c_seq ?_
  obtain ⟨J63, hJ63⟩ : ∃ J : Act → World → Prop, ∀ a w, J a w ↔ (Sees a 49 [(2, .pointer (some ⟨b40, 0, none⟩)), (26, .bool (bif (x1.f3 == 2) then ((x1.f5 != 0) || ((x1.f3 != 2) && (x1.f3 != 3))) else ((x1.f3 != 2) && (x1.f3 != 3))))] ∧ St g w [bx b40 [.int .u64 x1.f0, .int .i64 x1.f1, .int .u64 x1.f2, .int .i64 x1.f3, .int .u32 x1.f4, .int .u64 x1.f5, .slice p2 x1.f6.length c3] 26, F] ih) := ⟨_, fun _ _ => Iff.rfl⟩
  refine c_regJ J63 ?_ ?_
  · refine pures hs 1 [2, 27] [(2, .pointer (some ⟨b40, 0, none⟩)), (27, .pointer (some ⟨b40, 3, none⟩))] (by kernel_rfl) fun a hs => ?_
    refine s_load hs (hw.at_ 0 rfl) 3 (by kernel_rfl) (by kernel_rfl) (v := .int .i64 x1.f3) (by kernel_rfl) fun a hs => ?_
    refine pures hs 2 [2, 30] [(2, .pointer (some ⟨b40, 0, none⟩)), (30, .bool (x1.f3 == 2))] (by kernel_rfl) fun a hs => ?_
    rcases boolE (x1.f3 == 2) with h64 | h64
    · replace hs := hs.altB 30 true (by kernel_rfl) h64
      refine pures hs 1 [2, 30, 31] [(2, .pointer (some ⟨b40, 0, none⟩)), (30, .bool true), (31, .pointer (some ⟨b40, 5, none⟩))] (by kernel_rfl) fun a hs => ?_
      refine s_load hs (hw.at_ 0 rfl) 5 (by kernel_rfl) (by kernel_rfl) (v := .int .u64 x1.f5) (by kernel_rfl) fun a hs => ?_
      refine pures hs 3 [2, 35] [(2, .pointer (some ⟨b40, 0, none⟩)), (35, .bool (x1.f5 != 0))] (by kernel_rfl) fun a hs => ?_
      rcases boolE (x1.f5 != 0) with h65 | h65
      · replace hs := hs.altB 35 true (by kernel_rfl) h65
        refine pures hs 10 [2, 26] [(2, .pointer (some ⟨b40, 0, none⟩)), (26, .bool true)] (by kernel_rfl) fun a hs => ?_
        refine s_end ?_
        exact (hJ63 _ _).2 ⟨(hs.altB 26 (bif (x1.f3 == 2) then ((x1.f5 != 0) || ((x1.f3 != 2) && (x1.f3 != 3))) else ((x1.f3 != 2) && (x1.f3 != 3))) (by kernel_rfl) (by rw [h64, h65] <;> rfl)).cast [2, 26] (by kernel_rfl), hw.pick [0, 1] (by kernel_rfl)⟩
      replace hs := hs.altB 35 false (by kernel_rfl) h65
      refine pures hs 1 [2, 35, 36] [(2, .pointer (some ⟨b40, 0, none⟩)), (35, .bool false), (36, .pointer (some ⟨b40, 3, none⟩))] (by kernel_rfl) fun a hs => ?_
      refine s_load hs (hw.at_ 0 rfl) 3 (by kernel_rfl) (by kernel_rfl) (v := .int .i64 x1.f3) (by kernel_rfl) fun a hs => ?_
      refine pures hs 2 [2, 35, 39] [(2, .pointer (some ⟨b40, 0, none⟩)), (35, .bool false), (39, .bool (x1.f3 != 2))] (by kernel_rfl) fun a hs => ?_
      rcases boolE (x1.f3 != 2) with h66 | h66
      · replace hs := hs.altB 39 true (by kernel_rfl) h66
        refine pures hs 1 [2, 35, 39, 40] [(2, .pointer (some ⟨b40, 0, none⟩)), (35, .bool false), (39, .bool true), (40, .pointer (some ⟨b40, 3, none⟩))] (by kernel_rfl) fun a hs => ?_
        refine s_load hs (hw.at_ 0 rfl) 3 (by kernel_rfl) (by kernel_rfl) (v := .int .i64 x1.f3) (by kernel_rfl) fun a hs => ?_
        refine pures hs 4 [2, 26] [(2, .pointer (some ⟨b40, 0, none⟩)), (26, .bool (x1.f3 != 3))] (by kernel_rfl) fun a hs => ?_
        refine s_end ?_
        exact (hJ63 _ _).2 ⟨(hs.altB 26 (bif (x1.f3 == 2) then ((x1.f5 != 0) || ((x1.f3 != 2) && (x1.f3 != 3))) else ((x1.f3 != 2) && (x1.f3 != 3))) (by kernel_rfl) (by rw [h64, h65, h66] <;> rfl)).cast [2, 26] (by kernel_rfl), hw.pick [0, 1] (by kernel_rfl)⟩
      replace hs := hs.altB 39 false (by kernel_rfl) h66
      refine pures hs 6 [2, 26] [(2, .pointer (some ⟨b40, 0, none⟩)), (26, .bool false)] (by kernel_rfl) fun a hs => ?_
      refine s_end ?_
      exact (hJ63 _ _).2 ⟨(hs.altB 26 (bif (x1.f3 == 2) then ((x1.f5 != 0) || ((x1.f3 != 2) && (x1.f3 != 3))) else ((x1.f3 != 2) && (x1.f3 != 3))) (by kernel_rfl) (by rw [h64, h65, h66] <;> rfl)).cast [2, 26] (by kernel_rfl), hw.pick [0, 1] (by kernel_rfl)⟩
    replace hs := hs.altB 30 false (by kernel_rfl) h64
    refine pures hs 6 [2, 35, 36] [(2, .pointer (some ⟨b40, 0, none⟩)), (35, .bool false), (36, .pointer (some ⟨b40, 3, none⟩))] (by kernel_rfl) fun a hs => ?_
    refine s_load hs (hw.at_ 0 rfl) 3 (by kernel_rfl) (by kernel_rfl) (v := .int .i64 x1.f3) (by kernel_rfl) fun a hs => ?_
    refine pures hs 2 [2, 35, 39] [(2, .pointer (some ⟨b40, 0, none⟩)), (35, .bool false), (39, .bool (x1.f3 != 2))] (by kernel_rfl) fun a hs => ?_
    rcases boolE (x1.f3 != 2) with h67 | h67
    · replace hs := hs.altB 39 true (by kernel_rfl) h67
      refine pures hs 1 [2, 35, 39, 40] [(2, .pointer (some ⟨b40, 0, none⟩)), (35, .bool false), (39, .bool true), (40, .pointer (some ⟨b40, 3, none⟩))] (by kernel_rfl) fun a hs => ?_
      refine s_load hs (hw.at_ 0 rfl) 3 (by kernel_rfl) (by kernel_rfl) (v := .int .i64 x1.f3) (by kernel_rfl) fun a hs => ?_
      refine pures hs 4 [2, 26] [(2, .pointer (some ⟨b40, 0, none⟩)), (26, .bool (x1.f3 != 3))] (by kernel_rfl) fun a hs => ?_
      refine s_end ?_
      exact (hJ63 _ _).2 ⟨(hs.altB 26 (bif (x1.f3 == 2) then ((x1.f5 != 0) || ((x1.f3 != 2) && (x1.f3 != 3))) else ((x1.f3 != 2) && (x1.f3 != 3))) (by kernel_rfl) (by rw [h64, h67] <;> rfl)).cast [2, 26] (by kernel_rfl), hw.pick [0, 1] (by kernel_rfl)⟩
    replace hs := hs.altB 39 false (by kernel_rfl) h67
    refine pures hs 6 [2, 26] [(2, .pointer (some ⟨b40, 0, none⟩)), (26, .bool false)] (by kernel_rfl) fun a hs => ?_
    refine s_end ?_
    exact (hJ63 _ _).2 ⟨(hs.altB 26 (bif (x1.f3 == 2) then ((x1.f5 != 0) || ((x1.f3 != 2) && (x1.f3 != 3))) else ((x1.f3 != 2) && (x1.f3 != 3))) (by kernel_rfl) (by rw [h64, h67] <;> rfl)).cast [2, 26] (by kernel_rfl), hw.pick [0, 1] (by kernel_rfl)⟩
  intro a w hh
  obtain ⟨hs, hw⟩ := (hJ63 _ _).1 hh
  rcases ifbE hk with ⟨h68, hk⟩ | ⟨h68, hk⟩
  · refine c_cond1 hs (by kernel_rfl) (t := (bif (x1.f3 == 2) then ((x1.f5 != 0) || ((x1.f3 != 2) && (x1.f3 != 3))) else ((x1.f3 != 2) && (x1.f3 != 3)))) (by kernel_rfl) h68 ?_
    refine c_seq ?_
    refine c_region ?_
    refine pures hs 1 [4] [(4, .bool false)] (by kernel_rfl) fun a hs => ?_
    refine s_end ?_
    refine c_ret ?_
    obtain rfl := someE hk
    refine hQ _ _ (f_ret1 hs rfl (v := .bool false) (by kernel_rfl) ⟨rfl, hw.pick [1] (by kernel_rfl)⟩)
  refine c_cond0 hs (by kernel_rfl) (t := (bif (x1.f3 == 2) then ((x1.f5 != 0) || ((x1.f3 != 2) && (x1.f3 != 3))) else ((x1.f3 != 2) && (x1.f3 != 3)))) (by kernel_rfl) h68 ?_
  refine c_skip ?_
  refine c_seq ?_
  refine c_region ?_
  refine pures hs 1 [45] [(45, .pointer (some ⟨b40, 6, none⟩))] (by kernel_rfl) fun a hs => ?_
  refine s_load hs (hw.at_ 0 rfl) 6 (by kernel_rfl) (by kernel_rfl) (v := .slice p2 x1.f6.length c3) (by kernel_rfl) fun a hs => ?_
  refine pures hs 3 [4] [(4, .bool (decide ((x1.f6.length : Int) ≤ 2048)))] (by kernel_rfl) fun a hs => ?_
  refine s_end ?_
  refine c_ret ?_
  obtain rfl := someE hk
  refine hQ _ _ (f_ret1 hs rfl (v := .bool (decide ((x1.f6.length : Int) ≤ 2048))) (by kernel_rfl) ⟨rfl, hw.pick [1] (by kernel_rfl)⟩)
def letter_updates_1 (x1 : M26) : Option Bool :=
  (letter_update x1).bind fun y23 =>
  some (!y23)
theorem letter_updates_1_s {x1 : M26} {p2 : Option Addr} {c3 : Nat} {b6 : Nat} {r : Bool} (hk : letter_updates_1 x1 = some r) {g w : World} {F : Ch} {ih : IH} (h4 : RSl e5 ih [] p2 c3 x1.f6) (hw : St g w [bx b6 [.bool true] 4, F] ih) :
    CallsR Tryz.prog 150 #[.agg #[.int .u64 x1.f0, .int .i64 x1.f1, .int .u64 x1.f2, .int .i64 x1.f3, .int .u32 x1.f4, .int .u64 x1.f5, .slice p2 x1.f6.length c3], .pointer (some ⟨b6, 0, none⟩)] w fun v w' => v = .bool r ∧ St g w' [bx b6 [.bool true] 4, F] ih := by
  refine f_in (vs := [.agg #[.int .u64 x1.f0, .int .i64 x1.f1, .int .u64 x1.f2, .int .i64 x1.f3, .int .u32 x1.f4, .int .u64 x1.f5, .slice p2 x1.f6.length c3], .pointer (some ⟨b6, 0, none⟩)]) Tryz.func150 rfl 8 rfl (by kernel_rfl) [(0, .agg #[.int .u64 x1.f0, .int .i64 x1.f1, .int .u64 x1.f2, .int .i64 x1.f3, .int .u32 x1.f4, .int .u64 x1.f5, .slice p2 x1.f6.length c3]), (1, .pointer (some ⟨b6, 0, none⟩))] (by kernel_rfl) fun a Qf hQ hQn hs => ?_
  refine c_seq ?_
  refine c_region ?_
  refine s_new hs hw [.int .u64 x1.f0, .int .i64 x1.f1, .int .u64 x1.f2, .int .i64 x1.f3, .int .u32 x1.f4, .int .u64 x1.f5, .slice p2 x1.f6.length c3] 26 (fun b => .pointer (some ⟨b, 0, none⟩)) (by kernel_rfl) (fun _ => by kernel_rfl) fun a w b19 hs hw => ?_
  refine pures hs 1 [1, 2] [(1, .pointer (some ⟨b6, 0, none⟩)), (2, .pointer (some ⟨b19, 0, none⟩))] (by kernel_rfl) fun a hs => ?_
  refine s_end ?_
  refine c_seq ?_
  refine c_region ?_
  refine s_load hs (hw.at_ 0 rfl) 0 (by kernel_rfl) (by kernel_rfl) (v := .agg #[.int .u64 x1.f0, .int .i64 x1.f1, .int .u64 x1.f2, .int .i64 x1.f3, .int .u32 x1.f4, .int .u64 x1.f5, .slice p2 x1.f6.length c3]) (by kernel_rfl) fun a hs => ?_
  refine s_load hs (hw.at_ 1 rfl) 0 (by kernel_rfl) (by kernel_rfl) (v := .bool true) (by kernel_rfl) fun a hs => ?_
  obtain ⟨y23, h24, hk⟩ := bindE hk
  refine s_call hs (by kernel_rfl) (by kernel_rfl) (letter_update_s h24 h4 ((hw.pick [1, 2] (by kernel_rfl)).pack 0)) fun a w v hv hs => ?_
  obtain ⟨rfl, hw⟩ := hv
  replace hw := hw.unpack 0 rfl
  refine pures hs 2 [3] [(3, .bool (!y23))] (by kernel_rfl) fun a hs => ?_
  refine s_end ?_
  refine c_ret ?_
  obtain rfl := someE hk
  refine hQ _ _ (f_ret1 hs rfl (v := .bool (!y23)) (by kernel_rfl) ⟨rfl, hw.pick [0, 1] (by kernel_rfl)⟩)
def slices_IndexFunc_api_Update_api_Update_r3 : Option Int :=
  some (-1)
def slices_IndexFunc_api_Update_api_Update_l4 (x1 : List M26) : Nat → Int → Option (Sum Int Unit)
  | 0, _ => none
  | j + 1, x179 =>
    if (decide (x179 < (x1.length : Int))) = true then (
      (ix x1 x179).bind fun x214 =>
      (letter_updates_1 x214).bind fun y221 =>
      if y221 = true then some (.inl x179)
      else slices_IndexFunc_api_Update_api_Update_l4 x1 j (IntKind.i64.wrap (x179 + 1)))
    else some (.inr ())
def slices_IndexFunc_api_Update_api_Update (k : Nat) (x1 : List M26) : Option Int :=
  (slices_IndexFunc_api_Update_api_Update_l4 x1 k 0 : Option (Sum Int Unit)).bind fun
    | .inl z => some z
    | .inr _ => slices_IndexFunc_api_Update_api_Update_r3
theorem slices_IndexFunc_api_Update_api_Update_s {k : Nat} {x1 : List M26} {p2 : Option Addr} {c3 : Nat} {d5 : Ch} {b8 : Nat} {r : Int} (hk : slices_IndexFunc_api_Update_api_Update k x1 = some r) {g w : World} {F : Ch} {ih : IH} (h4 : RSl e26 ih d5 p2 c3 x1) (h6 : ∀ q ∈ d5, q ∈ F) (hw : St g w [bx b8 [.bool true] 4, F] ih) :
    CallsR Tryz.prog 165 #[.slice p2 x1.length c3, .func (.func 150) #[] #[.pointer (some ⟨b8, 0, none⟩)]] w fun v w' => v = .int .i64 r ∧ St g w' [bx b8 [.bool true] 4, F] ih := by
  refine f_in (vs := [.slice p2 x1.length c3, .func (.func 150) #[] #[.pointer (some ⟨b8, 0, none⟩)]]) Tryz.func165 rfl 19 rfl (by kernel_rfl) [(0, .slice p2 x1.length c3), (1, .func (.func 150) #[] #[.pointer (some ⟨b8, 0, none⟩)])] (by kernel_rfl) fun a Qf hQ hQn hs => ?_
  refine c_seq ?_
  refine c_region ?_
  refine pures hs 1 [0, 1] [(0, .slice p2 x1.length c3), (1, .func (.func 150) #[] #[.pointer (some ⟨b8, 0, none⟩)])] (by kernel_rfl) fun a hs => ?_
  refine s_end ?_
  refine c_seq ?_
  refine c_seq ?_
  refine c_region ?_
  refine pures hs 3 [0, 1, 7, 8] [(0, .slice p2 x1.length c3), (1, .func (.func 150) #[] #[.pointer (some ⟨b8, 0, none⟩)]), (7, .int .i64 (x1.length : Int)), (8, .int .i64 0)] (by kernel_rfl) fun a hs => ?_
  refine s_end ?_
  refine c_block ?_
  obtain ⟨y200, hx201, hk⟩ := bindE hk
  obtain ⟨J202, hJ202⟩ : ∃ J : Act → World → Prop, ∀ a w, J a w ↔ (slices_IndexFunc_api_Update_api_Update_r3 = some r ∧ Sees a 19 [] ∧ St g w [bx b8 [.bool true] 4, F] ih) := ⟨_, fun _ _ => Iff.rfl⟩
  obtain ⟨I203, hI203⟩ : ∃ J : Nat → Act → World → Prop, ∀ j a w, J j a w ↔ (∃ (x179 : Int), slices_IndexFunc_api_Update_api_Update_l4 x1 j x179 = some y200 ∧ Sees a 19 [(0, .slice p2 x1.length c3), (1, .func (.func 150) #[] #[.pointer (some ⟨b8, 0, none⟩)]), (7, .int .i64 (x1.length : Int)), (8, .int .i64 x179)] ∧ St g w [bx b8 [.bool true] 4, F] ih) := ⟨_, fun _ _ _ => Iff.rfl⟩
  refine c_exitJ 0 J202 ?_ ?_
  · refine c_loop I203 k ((hI203 _ _ _).2 ⟨0, hx201, hs.cast [0, 1, 7, 8] (by kernel_rfl), hw.pick [0, 1] (by kernel_rfl)⟩) (fun a w h0 => ?_) fun j a w hh => ?_
    · obtain ⟨_, h, _⟩ := (hI203 _ _ _).1 h0
      cases h
    obtain ⟨x179, hx201, hs, hw⟩ := (hI203 _ _ _).1 hh
    refine c_seq ?_
    refine c_region ?_
    refine pures hs 1 [0, 1, 7, 8, 9] [(0, .slice p2 x1.length c3), (1, .func (.func 150) #[] #[.pointer (some ⟨b8, 0, none⟩)]), (7, .int .i64 (x1.length : Int)), (8, .int .i64 x179), (9, .bool (decide (x179 < (x1.length : Int))))] (by kernel_rfl) fun a hs => ?_
    refine s_end ?_
    refine c_seq ?_
    rcases ifbE hx201 with ⟨h204, hx201⟩ | ⟨h204, hx201⟩
    · refine c_cond1 hs (by kernel_rfl) (t := (decide (x179 < (x1.length : Int)))) (by kernel_rfl) h204 ?_
      refine c_skip ?_
      refine c_seq ?_
      refine c_block ?_
      refine c_seq ?_
      refine c_region ?_
      refine pures hs 2 [0, 1, 7, 8, 5] [(0, .slice p2 x1.length c3), (1, .func (.func 150) #[] #[.pointer (some ⟨b8, 0, none⟩)]), (7, .int .i64 (x1.length : Int)), (8, .int .i64 x179), (5, .int .i64 x179)] (by kernel_rfl) fun a hs => ?_
      refine s_end ?_
      refine c_seq ?_
      refine c_region ?_
      refine pures hs 3 [0, 1, 7, 8, 5, 11, 12, 13] [(0, .slice p2 x1.length c3), (1, .func (.func 150) #[] #[.pointer (some ⟨b8, 0, none⟩)]), (7, .int .i64 (x1.length : Int)), (8, .int .i64 x179), (5, .int .i64 x179), (11, .func (.func 150) #[] #[.pointer (some ⟨b8, 0, none⟩)]), (12, .slice p2 x1.length c3), (13, .int .i64 x179)] (by kernel_rfl) fun a hs => ?_
      obtain ⟨x214, h215, hx201⟩ := bindE hx201
      refine s_index hs h4 (by kernel_rfl) (by kernel_rfl) (k := .i64) (by kernel_rfl) 26 (by kernel_rfl) (by kernel_rfl) h215 fun a r216 cs henc at217 hs => ?_
      obtain ⟨p218, c219, rfl, h220⟩ := henc
      refine s_load hs (at217 _ (((hw.vw 1 rfl).sub h6).anti (Le.refl _))) 0 (by kernel_rfl) (by kernel_rfl) (v := .agg #[.int .u64 x214.f0, .int .i64 x214.f1, .int .u64 x214.f2, .int .i64 x214.f3, .int .u32 x214.f4, .int .u64 x214.f5, .slice p218 x214.f6.length c219]) (by kernel_rfl) fun a hs => ?_
      obtain ⟨y221, h222, hx201⟩ := bindE hx201
      refine s_call hs (by kernel_rfl) (by kernel_rfl) (letter_updates_1_s h222 h220 ((hw.pick [0, 1] (by kernel_rfl)).pack 1)) fun a w v hv hs => ?_
      obtain ⟨rfl, hw⟩ := hv
      replace hw := hw.unpack 1 rfl
      refine s_end ?_
      rcases ifbE hx201 with ⟨h223, hx201⟩ | ⟨h223, hx201⟩
      · refine c_cond1 hs (by kernel_rfl) (t := y221) (by kernel_rfl) h223 ?_
        refine c_seq ?_
        refine c_region ?_
        refine pures hs 2 [4] [(4, .int .i64 x179)] (by kernel_rfl) fun a hs => ?_
        refine s_end ?_
        refine c_ret ?_
        obtain rfl := someE hx201
        obtain rfl := someE hk
        refine hQ _ _ (f_ret1 hs rfl (v := .int .i64 x179) (by kernel_rfl) ⟨rfl, hw.pick [0, 1] (by kernel_rfl)⟩)
      refine c_cond0 hs (by kernel_rfl) (t := y221) (by kernel_rfl) h223 ?_
      refine c_skip ?_
      refine c_region ?_
      refine pures hs 2 [0, 1, 7, 8] [(0, .slice p2 x1.length c3), (1, .func (.func 150) #[] #[.pointer (some ⟨b8, 0, none⟩)]), (7, .int .i64 (x1.length : Int)), (8, .int .i64 (IntKind.i64.wrap (x179 + 1)))] (by kernel_rfl) fun a hs => ?_
      refine s_end ?_
      exact (hI203 _ _ _).2 ⟨(IntKind.i64.wrap (x179 + 1)), hx201, hs.cast [0, 1, 7, 8] (by kernel_rfl), hw.pick [0, 1] (by kernel_rfl)⟩
    refine c_cond0 hs (by kernel_rfl) (t := (decide (x179 < (x1.length : Int)))) (by kernel_rfl) h204 ?_
    refine c_exit ?_
    obtain rfl := someE hx201
    exact (hJ202 _ _).2 ⟨hk, hs.cast [] (by kernel_rfl), hw.pick [0, 1] (by kernel_rfl)⟩
  intro a w hh
  obtain ⟨hk, hs, hw⟩ := (hJ202 _ _).1 hh
  refine c_seq ?_
  refine c_region ?_
  refine pures hs 1 [4] [(4, .int .i64 (-1))] (by kernel_rfl) fun a hs => ?_
  refine s_end ?_
  refine c_ret ?_
  obtain rfl := someE hk
  refine hQ _ _ (f_ret1 hs rfl (v := .int .i64 (-1)) (by kernel_rfl) ⟨rfl, hw.pick [0, 1] (by kernel_rfl)⟩)
def slices_ContainsFunc_api_Update_api_Update (k : Nat) (x1 : List M26) : Option Bool :=
  (slices_IndexFunc_api_Update_api_Update k x1).bind fun y17 =>
  some (decide (y17 ≥ 0))
theorem slices_ContainsFunc_api_Update_api_Update_s {k : Nat} {x1 : List M26} {p2 : Option Addr} {c3 : Nat} {d5 : Ch} {b8 : Nat} {r : Bool} (hk : slices_ContainsFunc_api_Update_api_Update k x1 = some r) {g w : World} {F : Ch} {ih : IH} (h4 : RSl e26 ih d5 p2 c3 x1) (h6 : ∀ q ∈ d5, q ∈ F) (hw : St g w [bx b8 [.bool true] 4, F] ih) :
    CallsR Tryz.prog 149 #[.slice p2 x1.length c3, .func (.func 150) #[] #[.pointer (some ⟨b8, 0, none⟩)]] w fun v w' => v = .bool r ∧ St g w' [bx b8 [.bool true] 4, F] ih := by
  refine f_in (vs := [.slice p2 x1.length c3, .func (.func 150) #[] #[.pointer (some ⟨b8, 0, none⟩)]]) Tryz.func149 rfl 9 rfl (by kernel_rfl) [(0, .slice p2 x1.length c3), (1, .func (.func 150) #[] #[.pointer (some ⟨b8, 0, none⟩)])] (by kernel_rfl) fun a Qf hQ hQn hs => ?_
  refine c_seq ?_
  refine c_region ?_
  refine pures hs 1 [0, 1] [(0, .slice p2 x1.length c3), (1, .func (.func 150) #[] #[.pointer (some ⟨b8, 0, none⟩)])] (by kernel_rfl) fun a hs => ?_
  refine s_end ?_
  refine c_seq ?_
  refine c_region ?_
  refine pures hs 2 [5, 6] [(5, .slice p2 x1.length c3), (6, .func (.func 150) #[] #[.pointer (some ⟨b8, 0, none⟩)])] (by kernel_rfl) fun a hs => ?_
  obtain ⟨y17, h18, hk⟩ := bindE hk
  refine s_call hs (by kernel_rfl) (by kernel_rfl) (slices_IndexFunc_api_Update_api_Update_s h18 h4 (fun q hq => memF 0 rfl q (h6 q hq)) ((hw.pick [0, 1] (by kernel_rfl)).pack 1)) fun a w v hv hs => ?_
  obtain ⟨rfl, hw⟩ := hv
  replace hw := hw.unpack 1 rfl
  refine pures hs 2 [4] [(4, .bool (decide (y17 ≥ 0)))] (by kernel_rfl) fun a hs => ?_
  refine s_end ?_
  refine c_ret ?_
  obtain rfl := someE hk
  refine hQ _ _ (f_ret1 hs rfl (v := .bool (decide (y17 ≥ 0))) (by kernel_rfl) ⟨rfl, hw.pick [0, 1] (by kernel_rfl)⟩)
def letter_updates (k : Nat) (x1 : List M26) : Option Bool :=
  if (((x1.length : Int) != 1) || (decide ((x1.length : Int) > 4))) = true then some false
  else (slices_ContainsFunc_api_Update_api_Update k x1).bind fun y41 =>
  some (!y41)
theorem letter_updates_s {k : Nat} {x1 : List M26} {p2 : Option Addr} {c3 : Nat} {r : Bool} (hk : letter_updates k x1 = some r) {g w : World} {F : Ch} {ih : IH} (h4 : RSl e26 ih [] p2 c3 x1) (hw : St g w [F] ih) :
    CallsR Tryz.prog 128 #[.agg #[.int .i64 17, .int .i64 1, .int .i64 1, .int .i64 0, .int .u64 1, .int .u64 0, .int .u64 0, .int .u64 0, .int .u64 0, .int .u64 0, .int .i64 0, .int .u32 0, .int .i64 0, .int .i64 0, .int .i64 0, .int .u64 0, .int .i64 0, .int .i64 0, .int .u64 0, .slice none 0 0, .bool false, .int .i64 0, .slice none 0 0, .slice p2 x1.length c3, .slice none 0 0]] w fun v w' => v = .bool r ∧ St g w' [F] ih := by
  refine f_in (vs := [.agg #[.int .i64 17, .int .i64 1, .int .i64 1, .int .i64 0, .int .u64 1, .int .u64 0, .int .u64 0, .int .u64 0, .int .u64 0, .int .u64 0, .int .i64 0, .int .u32 0, .int .i64 0, .int .i64 0, .int .i64 0, .int .u64 0, .int .i64 0, .int .i64 0, .int .u64 0, .slice none 0 0, .bool false, .int .i64 0, .slice none 0 0, .slice p2 x1.length c3, .slice none 0 0]]) Tryz.func128 rfl 25 rfl (by kernel_rfl) [(0, .agg #[.int .i64 17, .int .i64 1, .int .i64 1, .int .i64 0, .int .u64 1, .int .u64 0, .int .u64 0, .int .u64 0, .int .u64 0, .int .u64 0, .int .i64 0, .int .u32 0, .int .i64 0, .int .i64 0, .int .i64 0, .int .u64 0, .int .i64 0, .int .i64 0, .int .u64 0, .slice none 0 0, .bool false, .int .i64 0, .slice none 0 0, .slice p2 x1.length c3, .slice none 0 0])] (by kernel_rfl) fun a Qf hQ hQn hs => ?_
  refine c_seq ?_
  refine c_region ?_
  refine s_new hs hw [.int .i64 17, .int .i64 1, .int .i64 1, .int .i64 0, .int .u64 1, .int .u64 0, .int .u64 0, .int .u64 0, .int .u64 0, .int .u64 0, .int .i64 0, .int .u32 0, .int .i64 0, .int .i64 0, .int .i64 0, .int .u64 0, .int .i64 0, .int .i64 0, .int .u64 0, .slice none 0 0, .bool false, .int .i64 0, .slice none 0 0, .slice p2 x1.length c3, .slice none 0 0] 90 (fun b => .pointer (some ⟨b, 0, none⟩)) (by kernel_rfl) (fun _ => by kernel_rfl) fun a w b27 hs hw => ?_
  refine pures hs 1 [1] [(1, .pointer (some ⟨b27, 0, none⟩))] (by kernel_rfl) fun a hs => ?_
  refine s_end ?_
  refine c_seq ?_
  refine c_region ?_
  refine pures hs 1 [1, 4] [(1, .pointer (some ⟨b27, 0, none⟩)), (4, .pointer (some ⟨b27, 0, none⟩))] (by kernel_rfl) fun a hs => ?_
  refine s_load hs (hw.at_ 0 rfl) 0 (by kernel_rfl) (by kernel_rfl) (v := .int .i64 17) (by kernel_rfl) fun a hs => ?_
  refine pures hs 1 [1, 6] [(1, .pointer (some ⟨b27, 0, none⟩)), (6, .bool true)] (by kernel_rfl) fun a hs => ?_
  refine s_new hs hw [.bool false] 4 (fun b => .pointer (some ⟨b, 0, none⟩)) (by kernel_rfl) (fun _ => by kernel_rfl) fun a w b31 hs hw => ?_
  refine s_store hs hw 0 rfl 0 (by kernel_rfl) (by kernel_rfl) (v := .bool true) (by kernel_rfl) (by kernel_rfl) (by kernel_rfl) (by kernel_rfl) fun a w hs hw => ?_
  refine s_end ?_
  refine c_seq ?_
  refine c_seq ?_
  obtain ⟨J36, hJ36⟩ : ∃ J : Act → World → Prop, ∀ a w, J a w ↔ (Sees a 25 [(1, .pointer (some ⟨b27, 0, none⟩)), (3, .pointer (some ⟨b31, 0, none⟩)), (19, .bool (((x1.length : Int) != 1) || (decide ((x1.length : Int) > 4))))] ∧ St g w [bx b31 [.bool true] 4, bx b27 [.int .i64 17, .int .i64 1, .int .i64 1, .int .i64 0, .int .u64 1, .int .u64 0, .int .u64 0, .int .u64 0, .int .u64 0, .int .u64 0, .int .i64 0, .int .u32 0, .int .i64 0, .int .i64 0, .int .i64 0, .int .u64 0, .int .i64 0, .int .i64 0, .int .u64 0, .slice none 0 0, .bool false, .int .i64 0, .slice none 0 0, .slice p2 x1.length c3, .slice none 0 0] 90, F] ih) := ⟨_, fun _ _ => Iff.rfl⟩
  refine c_regJ J36 ?_ ?_
  · refine s_load hs (hw.at_ 0 rfl) 0 (by kernel_rfl) (by kernel_rfl) (v := .bool true) (by kernel_rfl) fun a hs => ?_
    refine pures hs 2 [1, 3, 8, 9] [(1, .pointer (some ⟨b27, 0, none⟩)), (3, .pointer (some ⟨b31, 0, none⟩)), (8, .bool true), (9, .pointer (some ⟨b27, 23, none⟩))] (by kernel_rfl) fun a hs => ?_
    refine s_load hs (hw.at_ 1 rfl) 23 (by kernel_rfl) (by kernel_rfl) (v := .slice p2 x1.length c3) (by kernel_rfl) fun a hs => ?_
    refine pures hs 4 [1, 3, 14] [(1, .pointer (some ⟨b27, 0, none⟩)), (3, .pointer (some ⟨b31, 0, none⟩)), (14, .bool ((x1.length : Int) != 1))] (by kernel_rfl) fun a hs => ?_
    rcases boolE ((x1.length : Int) != 1) with h37 | h37
    · replace hs := hs.altB 14 true (by kernel_rfl) h37
      refine pures hs 5 [1, 3, 19] [(1, .pointer (some ⟨b27, 0, none⟩)), (3, .pointer (some ⟨b31, 0, none⟩)), (19, .bool true)] (by kernel_rfl) fun a hs => ?_
      refine s_end ?_
      exact (hJ36 _ _).2 ⟨(hs.altB 19 (((x1.length : Int) != 1) || (decide ((x1.length : Int) > 4))) (by kernel_rfl) (by rw [h37] <;> rfl)).cast [1, 3, 19] (by kernel_rfl), hw.pick [0, 1, 2] (by kernel_rfl)⟩
    replace hs := hs.altB 14 false (by kernel_rfl) h37
    refine pures hs 1 [1, 3, 14, 15] [(1, .pointer (some ⟨b27, 0, none⟩)), (3, .pointer (some ⟨b31, 0, none⟩)), (14, .bool false), (15, .pointer (some ⟨b27, 23, none⟩))] (by kernel_rfl) fun a hs => ?_
    refine s_load hs (hw.at_ 1 rfl) 23 (by kernel_rfl) (by kernel_rfl) (v := .slice p2 x1.length c3) (by kernel_rfl) fun a hs => ?_
    refine pures hs 3 [1, 3, 19] [(1, .pointer (some ⟨b27, 0, none⟩)), (3, .pointer (some ⟨b31, 0, none⟩)), (19, .bool (decide ((x1.length : Int) > 4)))] (by kernel_rfl) fun a hs => ?_
    refine s_end ?_
    exact (hJ36 _ _).2 ⟨(hs.altB 19 (((x1.length : Int) != 1) || (decide ((x1.length : Int) > 4))) (by kernel_rfl) (by rw [h37] <;> rfl)).cast [1, 3, 19] (by kernel_rfl), hw.pick [0, 1, 2] (by kernel_rfl)⟩
  intro a w hh
  obtain ⟨hs, hw⟩ := (hJ36 _ _).1 hh
  rcases ifbE hk with ⟨h38, hk⟩ | ⟨h38, hk⟩
  · refine c_cond1 hs (by kernel_rfl) (t := (((x1.length : Int) != 1) || (decide ((x1.length : Int) > 4)))) (by kernel_rfl) h38 ?_
    refine c_seq ?_
    refine c_region ?_
    refine pures hs 1 [2] [(2, .bool false)] (by kernel_rfl) fun a hs => ?_
    refine s_end ?_
    refine c_ret ?_
    obtain rfl := someE hk
    refine hQ _ _ (f_ret1 hs rfl (v := .bool false) (by kernel_rfl) ⟨rfl, hw.pick [2] (by kernel_rfl)⟩)
  refine c_cond0 hs (by kernel_rfl) (t := (((x1.length : Int) != 1) || (decide ((x1.length : Int) > 4)))) (by kernel_rfl) h38 ?_
  refine c_skip ?_
  refine c_seq ?_
  refine c_region ?_
  refine pures hs 1 [3, 20] [(3, .pointer (some ⟨b31, 0, none⟩)), (20, .pointer (some ⟨b27, 23, none⟩))] (by kernel_rfl) fun a hs => ?_
  refine s_load hs (hw.at_ 1 rfl) 23 (by kernel_rfl) (by kernel_rfl) (v := .slice p2 x1.length c3) (by kernel_rfl) fun a hs => ?_
  refine pures hs 1 [21, 22] [(21, .slice p2 x1.length c3), (22, .func (.func 150) #[] #[.pointer (some ⟨b31, 0, none⟩)])] (by kernel_rfl) fun a hs => ?_
  obtain ⟨y41, h42, hk⟩ := bindE hk
  refine s_call hs (by kernel_rfl) (by kernel_rfl) (slices_ContainsFunc_api_Update_api_Update_s h42 h4 (nilSub _) ((hw.pick [0, 2] (by kernel_rfl)).pack 1)) fun a w v hv hs => ?_
  obtain ⟨rfl, hw⟩ := hv
  replace hw := hw.unpack 1 rfl
  refine pures hs 2 [2] [(2, .bool (!y41))] (by kernel_rfl) fun a hs => ?_
  refine s_end ?_
  refine c_ret ?_
  obtain rfl := someE hk
  refine hQ _ _ (f_ret1 hs rfl (v := .bool (!y41)) (by kernel_rfl) ⟨rfl, hw.pick [1] (by kernel_rfl)⟩)
end Go.Proofs.YtfpllbnljlbepaaGreatDoor.Sx
