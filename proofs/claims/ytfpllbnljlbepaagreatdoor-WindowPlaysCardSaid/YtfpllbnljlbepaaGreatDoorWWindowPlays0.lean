/- The walk of WindowPlays: each Go function that it calls, as a plain function, and the proof that the call computes it. Printed by the program gen.py.
   Conditions: those that each theorem states ahead of its colon, and no other. -/
import Derived.Test.YtfpllbnljlbepaaGreatDoorSx9
import Derived.Test.YtfpllbnljlbepaaGreatDoorSxO
import Derived.Test.YtfpllbnljlbepaaGreatDoorProg
namespace Go.Proofs.YtfpllbnljlbepaaGreatDoor.Sx
open Go Go.Proofs
set_option maxRecDepth 100000
set_option linter.unusedVariables false
structure M26 where
  f0 : Int
  f1 : Int
  f2 : Int
  f3 : Int
  f4 : Int
  f5 : Int
  f6 : List Int
@[reducible] def e5 : ET := eInt .u8 5
@[reducible] def e26 : ET := ⟨M26, 7, 26, fun ih x cs => ∃ q0 k0, cs = [.int .u64 x.f0, .int .i64 x.f1, .int .u64 x.f2, .int .i64 x.f3, .int .u32 x.f4, .int .u64 x.f5, .slice q0 x.f6.length k0] ∧ RSl e5 ih [] q0 k0 x.f6,
  fun ⟨_, _, h, g0⟩ => by rw [h]; rfl, fun ⟨_, _, h, g0⟩ => by rw [h]; rfl, fun ⟨p0, p1, h, g0⟩ hle => ⟨p0, p1, h, g0.mono hle⟩⟩
structure M51 where
  f0 : Int
  f1 : Int
  f2 : M26
  f3 : Int
  f4 : Int
@[reducible] def e51 : ET := ⟨M51, 11, 51, fun ih x cs => ∃ q0 k0, cs = [.int .i64 x.f0, .int .u8 x.f1, .int .u64 x.f2.f0, .int .i64 x.f2.f1, .int .u64 x.f2.f2, .int .i64 x.f2.f3, .int .u32 x.f2.f4, .int .u64 x.f2.f5, .slice q0 x.f2.f6.length k0, .int .u8 x.f3, .int .i64 x.f4] ∧ RSl e5 ih [] q0 k0 x.f2.f6,
  fun ⟨_, _, h, g0⟩ => by rw [h]; rfl, fun ⟨_, _, h, g0⟩ => by rw [h]; rfl, fun ⟨p0, p1, h, g0⟩ hle => ⟨p0, p1, h, g0.mono hle⟩⟩
@[reducible] def e22 : ET := eInt .u64 22
@[reducible] def e3 : ET := eInt .i64 3
@[reducible] def e23 : ET := eInt .u32 23
@[reducible] def e24 : ET := eSl 24 e5
structure M84 where
  f0 : Int
  f1 : Int
  f2 : Int
  f3 : Int
@[reducible] def e84 : ET := ⟨M84, 4, 84, fun ih x cs => cs = [.int .i64 x.f0, .int .i64 x.f1, .int .u64 x.f2, .int .i64 x.f3],
  fun h => by rw [h]; rfl, fun h => by rw [h]; rfl, fun h hle => h⟩
structure M105 where
  f0 : Int
  f1 : Int
  f2 : M84
@[reducible] def e105 : ET := ⟨M105, 6, 105, fun ih x cs => cs = [.int .i64 x.f0, .int .u64 x.f1, .int .i64 x.f2.f0, .int .i64 x.f2.f1, .int .u64 x.f2.f2, .int .i64 x.f2.f3],
  fun h => by rw [h]; rfl, fun h => by rw [h]; rfl, fun h hle => h⟩
structure M101 where
  f0 : Value
  f1 : Value
  f2 : Value
@[reducible] def e101 : ET := ⟨M101, 3, 101, fun ih x cs => cs = [x.f0, x.f1, x.f2] ∧ x.f0.oneCell' = true ∧ x.f1.oneCell' = true ∧ x.f2.oneCell' = true,
  fun ⟨h, g0, g1, g2⟩ => by rw [h]; rfl, fun ⟨h, g0, g1, g2⟩ => by rw [h]; exact (plainCons g0 (plainCons g1 (plainCons g2 rfl))), fun ⟨h, g0, g1, g2⟩ hle => ⟨h, g0, g1, g2⟩⟩
@[reducible] def e97 : ET := eVal 97
@[reducible] def e98 : ET := eVal 98
@[reducible] def e99 : ET := eVal 99
structure M58 where
  f0 : Int
  f1 : Int
  f2 : Int
  f3 : List M26
@[reducible] def e58 : ET := ⟨M58, 4, 58, fun ih x cs => ∃ q0 k0, cs = [.int .u64 x.f0, .int .u64 x.f1, .int .u64 x.f2, .slice q0 x.f3.length k0] ∧ RSl e26 ih [] q0 k0 x.f3,
  fun ⟨_, _, h, g0⟩ => by rw [h]; rfl, fun ⟨_, _, h, g0⟩ => by rw [h]; rfl, fun ⟨p0, p1, h, g0⟩ hle => ⟨p0, p1, h, g0.mono hle⟩⟩
@[reducible] def e28 : ET := eSl 28 e26
def gl0 : List Value := [(.string ⟨#[]⟩), .int .i64 0, .int .i64 0, .int .i64 0, .int .i64 0, .int .i64 0, .int .i64 0, (.string ⟨#[112, 114, 101, 112, 97, 114, 101]⟩), .int .i64 4, .int .i64 32, .int .i64 0, .int .i64 0, .int .i64 0, .int .i64 0, (.string ⟨#[112, 114, 111, 109, 105, 115, 101]⟩), .int .i64 4, .int .i64 32, .int .i64 4096, .int .i64 0, .int .i64 0, .int .i64 0, (.string ⟨#[97, 99, 99, 101, 112, 116]⟩), .int .i64 4, .int .i64 32, .int .i64 1024, .int .i64 0, .int .i64 0, .int .i64 0, (.string ⟨#[97, 99, 99, 101, 112, 116, 101, 100]⟩), .int .i64 4, .int .i64 32, .int .i64 0, .int .i64 0, .int .i64 0, .int .i64 0, (.string ⟨#[99, 104, 111, 115, 101, 110]⟩), .int .i64 32, .int .i64 1024, .int .i64 0, .int .i64 0, .int .i64 0, .int .i64 0, (.string ⟨#[98, 101, 97, 116]⟩), .int .i64 4, .int .i64 32, .int .i64 0, .int .i64 0, .int .i64 0, .int .i64 0, (.string ⟨#[119, 97, 110, 116]⟩), .int .i64 32, .int .i64 0, .int .i64 0, .int .i64 0, .int .i64 0, .int .i64 0, (.string ⟨#[114, 101, 102, 117, 115, 101]⟩), .int .i64 4, .int .i64 0, .int .i64 0, .int .i64 0, .int .i64 0, .int .i64 0, (.string ⟨#[114, 101, 112, 111, 114, 116]⟩), .int .i64 1024, .int .i64 0, .int .i64 0, .int .i64 0, .int .i64 0, .int .i64 0, (.string ⟨#[108, 111, 99, 97, 116, 101]⟩), .int .i64 1, .int .i64 0, .int .i64 0, .int .i64 0, .int .i64 0, .int .i64 0, (.string ⟨#[99, 111, 110, 102, 105, 103]⟩), .int .i64 2048, .int .i64 0, .int .i64 0, .int .i64 0, .int .i64 0, .int .i64 0, (.string ⟨#[112, 117, 115, 104]⟩), .int .i64 1, .int .i64 2, .int .i64 8, .int .i64 16, .int .i64 8192, .int .i64 0, (.string ⟨#[97, 99, 107]⟩), .int .i64 1, .int .i64 2, .int .i64 8, .int .i64 16, .int .i64 64, .int .i64 32, (.string ⟨#[112, 97, 114, 116]⟩), .int .i64 1, .int .i64 2, .int .i64 8, .int .i64 32, .int .i64 64, .int .i64 16384, (.string ⟨#[113, 117, 101, 114, 121]⟩), .int .i64 1, .int .i64 2, .int .i64 64, .int .i64 256, .int .i64 0, .int .i64 0, (.string ⟨#[116, 111, 108, 100]⟩), .int .i64 1, .int .i64 2, .int .i64 64, .int .i64 256, .int .i64 512, .int .i64 0, (.string ⟨#[119, 114, 105, 116, 101]⟩), .int .i64 1, .int .i64 2, .int .i64 8192, .int .i64 0, .int .i64 0, .int .i64 0, (.string ⟨#[119, 114, 111, 116, 101]⟩), .int .i64 64, .int .i64 128, .int .i64 512, .int .i64 0, .int .i64 0, .int .i64 0, (.string ⟨#[114, 101, 97, 100]⟩), .int .i64 1, .int .i64 2, .int .i64 64, .int .i64 256, .int .i64 0, .int .i64 0, (.string ⟨#[103, 111, 116]⟩), .int .i64 64, .int .i64 256, .int .i64 512, .int .i64 16384, .int .i64 0, .int .i64 0]
theorem appT24 : AppT Tryz.prog 24 e5 := appT_of (by kernel_rfl)
theorem appT28 : AppT Tryz.prog 28 e26 := appT_of (by kernel_rfl)
theorem appT95 : AppT Tryz.prog 95 e101 := appT_of (by kernel_rfl)
def window_New (x1 : Int) : Option (Int × Int × (List M26)) :=
  some (x1, x1, [])
theorem window_New_s {x1 : Int} {r : Int × Int × (List M26)} (hk : window_New x1 = some r) {g w : World} {F : Ch} {ih : IH} (hw : St g w [F] ih) :
    CallsR Tryz.prog 22 #[.int .u64 x1] w fun v w' => ∃ (b14 : Nat) (p16 : Option Addr) (c17 : Nat) (d19 : Ch), v = .pointer (some ⟨b14, 0, none⟩) ∧ St g w' [bx b14 [.int .u64 r.1, .int .u64 r.2.1, .slice p16 r.2.2.length c17] 78, d19, F] ih ∧ OSl e26 ih p16 c17 r.2.2 d19 := by
  refine f_in (vs := [.int .u64 x1]) Tryz.func22 rfl 7 rfl (by kernel_rfl) [(0, .int .u64 x1)] (by kernel_rfl) fun a Qf hQ hQn hs => ?_
  refine c_seq ?_
  refine c_region ?_
  refine pures hs 1 [0] [(0, .int .u64 x1)] (by kernel_rfl) fun a hs => ?_
  refine s_end ?_
  refine c_seq ?_
  refine c_region ?_
  refine pures hs 3 [5] [(5, .agg #[.int .u64 x1, .int .u64 x1, .slice none 0 0])] (by kernel_rfl) fun a hs => ?_
  refine s_new hs hw [.int .u64 x1, .int .u64 x1, .slice none 0 0] 78 (fun b => .pointer (some ⟨b, 0, none⟩)) (by kernel_rfl) (fun _ => by kernel_rfl) fun a w b10 hs hw => ?_
  refine pures hs 1 [2] [(2, .pointer (some ⟨b10, 0, none⟩))] (by kernel_rfl) fun a hs => ?_
  refine s_end ?_
  refine c_ret ?_
  replace hw := hw.nil
  obtain rfl := someE hk
  refine hQ _ _ (f_ret1 hs rfl (v := .pointer (some ⟨b10, 0, none⟩)) (by kernel_rfl) ⟨b10, none, 0, ([]), rfl, hw.pick [1, 0, 2] (by kernel_rfl), (OSl.nil _ _)⟩)
def catenarylaw20_one (x1 : Int) : Option M26 :=
  some (M26.mk x1 1 1 2 0 0 ([]))
theorem catenarylaw20_one_s {x1 : Int} {r : M26} (hk : catenarylaw20_one x1 = some r) {g w : World} {F : Ch} {ih : IH} (hw : St g w [F] ih) :
    CallsR Tryz.prog 24 #[.int .u64 x1] w fun v w' => ∃ (p12 : Option Addr) (c13 : Nat), v = .agg #[.int .u64 r.f0, .int .i64 r.f1, .int .u64 r.f2, .int .i64 r.f3, .int .u32 r.f4, .int .u64 r.f5, .slice p12 r.f6.length c13] ∧ St g w' [F] ih ∧ RSl e5 ih [] p12 c13 r.f6 := by
  refine f_in (vs := [.int .u64 x1]) Tryz.func24 rfl 5 rfl (by kernel_rfl) [(0, .int .u64 x1)] (by kernel_rfl) fun a Qf hQ hQn hs => ?_
  refine c_seq ?_
  refine c_region ?_
  refine s_new hs hw [.int .u64 0, .int .i64 0, .int .u64 0, .int .i64 0, .int .u32 0, .int .u64 0, .slice none 0 0] 26 (fun b => .pointer (some ⟨b, 0, none⟩)) (by kernel_rfl) (fun _ => by kernel_rfl) fun a w b10 hs hw => ?_
  refine s_end ?_
  refine c_seq ?_
  refine c_region ?_
  refine pures hs 2 [2, 4] [(2, .pointer (some ⟨b10, 0, none⟩)), (4, .agg #[.int .u64 x1, .int .i64 1, .int .u64 1, .int .i64 2, .int .u32 0, .int .u64 0, .slice none 0 0])] (by kernel_rfl) fun a hs => ?_
  refine s_store hs hw 0 rfl 0 (by kernel_rfl) (by kernel_rfl) (v := .agg #[.int .u64 x1, .int .i64 1, .int .u64 1, .int .i64 2, .int .u32 0, .int .u64 0, .slice none 0 0]) (by kernel_rfl) (by kernel_rfl) (by kernel_rfl) (by kernel_rfl) fun a w hs hw => ?_
  refine s_end ?_
  refine c_ret ?_
  obtain rfl := someE hk
  refine hQ _ _ (f_retC hs rfl (hw.at_ 0 rfl) (by kernel_rfl) (v := .agg #[.int .u64 x1, .int .i64 1, .int .u64 1, .int .i64 2, .int .u32 0, .int .u64 0, .slice none 0 0]) (by kernel_rfl) ⟨none, 0, rfl, hw.pick [1] (by kernel_rfl), (RSl.nil _ _ _)⟩)
def update_writes_r2 (x13 : Bool) : Option Bool :=
  if x13 = true then some true
  else some false
def update_writes (x1 : Int) : Option Bool :=
  (if (x1 == 2) = true then some (x1 == 2)
    else some (x1 == 3) : Option Bool).bind fun s19 => update_writes_r2 s19
theorem update_writes_s {x1 : Int} {r : Bool} (hk : update_writes x1 = some r) {g w : World} {F : Ch} {ih : IH} (hw : St g w [F] ih) :
    CallsR Tryz.prog 41 #[.int .i64 x1] w fun v w' => v = .bool r ∧ St g w' [F] ih := by
  refine f_in (vs := [.int .i64 x1]) Tryz.func41 rfl 7 rfl (by kernel_rfl) [(0, .int .i64 x1)] (by kernel_rfl) fun a Qf hQ hQn hs => ?_
  refine c_seq ?_
  refine c_region ?_
  refine pures hs 1 [0] [(0, .int .i64 x1)] (by kernel_rfl) fun a hs => ?_
  refine s_end ?_
  refine c_seq ?_
  refine c_region ?_
  refine pures hs 1 [3] [(3, .int .i64 x1)] (by kernel_rfl) fun a hs => ?_
  refine s_end ?_
  refine c_block ?_
  obtain ⟨y15, hx16, hk⟩ := bindE hk
  obtain ⟨J17, hJ17⟩ : ∃ J : Act → World → Prop, ∀ a w, J a w ↔ (∃ (x13 : Bool), update_writes_r2 x13 = some r ∧ Sees a 7 [(4, .bool x13)] ∧ St g w [F] ih) := ⟨_, fun _ _ => Iff.rfl⟩
  refine c_seqJ J17 ?_ ?_
  · refine c_seq ?_
    refine c_region ?_
    refine pures hs 2 [3, 4] [(3, .int .i64 x1), (4, .bool (x1 == 2))] (by kernel_rfl) fun a hs => ?_
    refine s_end ?_
    rcases ifbE hx16 with ⟨h18, hx16⟩ | ⟨h18, hx16⟩
    · refine c_cond1 hs (by kernel_rfl) (t := (x1 == 2)) (by kernel_rfl) h18 ?_
      refine c_skip ?_
      obtain rfl := someE hx16
      exact (hJ17 _ _).2 ⟨(x1 == 2), hk, hs.cast [4] (by kernel_rfl), hw.pick [0] (by kernel_rfl)⟩
    refine c_cond0 hs (by kernel_rfl) (t := (x1 == 2)) (by kernel_rfl) h18 ?_
    refine c_region ?_
    refine pures hs 2 [4] [(4, .bool (x1 == 3))] (by kernel_rfl) fun a hs => ?_
    refine s_end ?_
    obtain rfl := someE hx16
    exact (hJ17 _ _).2 ⟨(x1 == 3), hk, hs.cast [4] (by kernel_rfl), hw.pick [0] (by kernel_rfl)⟩
  intro a w hh
  obtain ⟨x13, hk, hs, hw⟩ := (hJ17 _ _).1 hh
  rcases ifbE hk with ⟨h14, hk⟩ | ⟨h14, hk⟩
  · refine c_cond1 hs (by kernel_rfl) (t := x13) (by kernel_rfl) h14 ?_
    refine c_seq ?_
    refine c_region ?_
    refine pures hs 1 [2] [(2, .bool true)] (by kernel_rfl) fun a hs => ?_
    refine s_end ?_
    refine c_ret ?_
    obtain rfl := someE hk
    refine hQ _ _ (f_ret1 hs rfl (v := .bool true) (by kernel_rfl) ⟨rfl, hw.pick [0] (by kernel_rfl)⟩)
  refine c_cond0 hs (by kernel_rfl) (t := x13) (by kernel_rfl) h14 ?_
  refine c_seq ?_
  refine c_region ?_
  refine pures hs 1 [2] [(2, .bool false)] (by kernel_rfl) fun a hs => ?_
  refine s_end ?_
  refine c_ret ?_
  obtain rfl := someE hk
  refine hQ _ _ (f_ret1 hs rfl (v := .bool false) (by kernel_rfl) ⟨rfl, hw.pick [0] (by kernel_rfl)⟩)
def letter_known : Option Unit :=
  some ()
theorem letter_known_s {r : Unit} (hk : letter_known = some r) {g w : World} {F : Ch} {ih : IH} (hw : St g w [F] ih) :
    CallsR Tryz.prog 55 #[.int .i64 12] w fun v w' => v = .bool true ∧ St g w' [F] ih := by
  refine f_in (vs := [.int .i64 12]) Tryz.func55 rfl 9 rfl (by kernel_rfl) [(0, .int .i64 12)] (by kernel_rfl) fun a Qf hQ hQn hs => ?_
  refine c_seq ?_
  refine c_region ?_
  refine pures hs 1 [0] [(0, .int .i64 12)] (by kernel_rfl) fun a hs => ?_
  refine s_end ?_
  refine c_seq ?_
  refine c_region ?_
  refine pures hs 7 [2] [(2, .bool true)] (by kernel_rfl) fun a hs => ?_
  refine s_end ?_
  refine c_ret ?_
  obtain rfl := someE hk
  refine hQ _ _ (f_ret1 hs rfl (v := .bool true) (by kernel_rfl) ⟨rfl, hw.pick [0] (by kernel_rfl)⟩)
def letter_Node : Option Unit :=
  some ()
theorem letter_Node_s {r : Unit} (hk : letter_Node = some r) {g w : World} {F : Ch} {ih : IH} (hw : St g w [F] ih) :
    CallsR Tryz.prog 60 #[.int .i64 1] w fun v w' => v = .bool true ∧ St g w' [F] ih := by
  refine f_in (vs := [.int .i64 1]) Tryz.func60 rfl 9 rfl (by kernel_rfl) [(0, .int .i64 1)] (by kernel_rfl) fun a Qf hQ hQn hs => ?_
  refine c_seq ?_
  refine c_region ?_
  refine pures hs 1 [0] [(0, .int .i64 1)] (by kernel_rfl) fun a hs => ?_
  refine s_end ?_
  refine c_seq ?_
  refine c_region ?_
  refine pures hs 7 [2] [(2, .bool true)] (by kernel_rfl) fun a hs => ?_
  refine s_end ?_
  refine c_ret ?_
  obtain rfl := someE hk
  refine hQ _ _ (f_ret1 hs rfl (v := .bool true) (by kernel_rfl) ⟨rfl, hw.pick [0] (by kernel_rfl)⟩)
def letter_Address : Option Unit :=
  some ()
theorem letter_Address_s {r : Unit} (hk : letter_Address = some r) {g w : World} {F : Ch} {ih : IH} (hw : St g w [F] ih) :
    CallsR Tryz.prog 56 #[.int .i64 1] w fun v w' => v = .bool true ∧ St g w' [F] ih := by
  refine f_in (vs := [.int .i64 1]) Tryz.func56 rfl 13 rfl (by kernel_rfl) [(0, .int .i64 1)] (by kernel_rfl) fun a Qf hQ hQn hs => ?_
  refine c_seq ?_
  refine c_region ?_
  refine pures hs 1 [0] [(0, .int .i64 1)] (by kernel_rfl) fun a hs => ?_
  refine s_end ?_
  refine c_seq ?_
  refine c_region ?_
  refine pures hs 1 [0, 3] [(0, .int .i64 1), (3, .int .i64 1)] (by kernel_rfl) fun a hs => ?_
  have h10 : letter_Node = some () := rfl
  refine s_call hs (by kernel_rfl) (by kernel_rfl) (letter_Node_s h10 ((hw.pick [0] (by kernel_rfl)).pack 0)) fun a w v hv hs => ?_
  obtain ⟨rfl, hw⟩ := hv
  replace hw := hw.unpack 0 rfl
  refine pures hs 9 [2] [(2, .bool true)] (by kernel_rfl) fun a hs => ?_
  refine s_end ?_
  refine c_ret ?_
  obtain rfl := someE hk
  refine hQ _ _ (f_ret1 hs rfl (v := .bool true) (by kernel_rfl) ⟨rfl, hw.pick [0] (by kernel_rfl)⟩)
def letter_bare_1 (x6 : Int) : Option Int :=
  some x6
theorem letter_bare_1_s {x3 : Int} {x4 : Int} {x5 : Int} {x6 : Int} {x7 : Int} {x8 : Int} {x9 : Int} {x10 : Int} {x11 : Int} {x12 : Int} {x13 : Int} {x14 : Int} {x15 : Int} {x16 : Int} {x17 : Int} {x18 : Int} {x19 : Int} {x20 : Int} {x21 : Int} {x22 : List Int} {x26 : Bool} {x27 : Int} {x28 : List M105} {x32 : List M26} {x36 : List Int} {x42 : Int} {x43 : Int} {x44 : Int} {x45 : Int} {x46 : Int} {x47 : Int} {x48 : Int} {x49 : Int} {x50 : Int} {x51 : Int} {x52 : Int} {x53 : Int} {x54 : Int} {x55 : Int} {x56 : Int} {x57 : Int} {x58 : Int} {x59 : Int} {x60 : Int} {x61 : List Int} {x65 : Bool} {x66 : Int} {x67 : List M105} {x71 : List M26} {x75 : List Int} {b2 : Nat} {p23 : Option Addr} {c24 : Nat} {p29 : Option Addr} {c30 : Nat} {p33 : Option Addr} {c34 : Nat} {p37 : Option Addr} {c38 : Nat} {b41 : Nat} {p62 : Option Addr} {c63 : Nat} {p68 : Option Addr} {c69 : Nat} {p72 : Option Addr} {c73 : Nat} {p76 : Option Addr} {c77 : Nat} {r : Int} (hk : letter_bare_1 x6 = some r) {g w : World} {F : Ch} {ih : IH} (h25 : RSl e3 ih [] p23 c24 x22) (h31 : RSl e105 ih [] p29 c30 x28) (h35 : RSl e26 ih [] p33 c34 x32) (h39 : RSl e5 ih [] p37 c38 x36) (h64 : RSl e3 ih [] p62 c63 x61) (h70 : RSl e105 ih [] p68 c69 x67) (h74 : RSl e26 ih [] p72 c73 x71) (h78 : RSl e5 ih [] p76 c77 x75) (hw : St g w [bx b2 [.int .i64 x3, .int .i64 x4, .int .i64 x5, .int .i64 x6, .int .u64 x7, .int .u64 x8, .int .u64 x9, .int .u64 x10, .int .u64 x11, .int .u64 x12, .int .i64 x13, .int .u32 x14, .int .i64 x15, .int .i64 x16, .int .i64 x17, .int .u64 x18, .int .i64 x19, .int .i64 x20, .int .u64 x21, .slice p23 x22.length c24, .bool x26, .int .i64 x27, .slice p29 x28.length c30, .slice p33 x32.length c34, .slice p37 x36.length c38] 90, bx b41 [.int .i64 x42, .int .i64 x43, .int .i64 x44, .int .i64 x45, .int .u64 x46, .int .u64 x47, .int .u64 x48, .int .u64 x49, .int .u64 x50, .int .u64 x51, .int .i64 x52, .int .u32 x53, .int .i64 x54, .int .i64 x55, .int .i64 x56, .int .u64 x57, .int .i64 x58, .int .i64 x59, .int .u64 x60, .slice p62 x61.length c63, .bool x65, .int .i64 x66, .slice p68 x67.length c69, .slice p72 x71.length c73, .slice p76 x75.length c77] 90, F] ih) :
    CallsR Tryz.prog 68 #[.pointer (some ⟨b2, 0, none⟩), .pointer (some ⟨b41, 0, none⟩)] w fun v w' => v = .tuple #[] ∧ St g w' [bx b2 [.int .i64 x3, .int .i64 x4, .int .i64 x5, .int .i64 x6, .int .u64 x7, .int .u64 x8, .int .u64 x9, .int .u64 x10, .int .u64 x11, .int .u64 x12, .int .i64 x13, .int .u32 x14, .int .i64 x15, .int .i64 x16, .int .i64 x17, .int .u64 x18, .int .i64 x19, .int .i64 x20, .int .u64 x21, .slice p23 x22.length c24, .bool x26, .int .i64 x27, .slice p29 x28.length c30, .slice p33 x32.length c34, .slice p37 x36.length c38] 90, bx b41 [.int .i64 x42, .int .i64 x43, .int .i64 x44, .int .i64 r, .int .u64 x46, .int .u64 x47, .int .u64 x48, .int .u64 x49, .int .u64 x50, .int .u64 x51, .int .i64 x52, .int .u32 x53, .int .i64 x54, .int .i64 x55, .int .i64 x56, .int .u64 x57, .int .i64 x58, .int .i64 x59, .int .u64 x60, .slice p62 x61.length c63, .bool x65, .int .i64 x66, .slice p68 x67.length c69, .slice p72 x71.length c73, .slice p76 x75.length c77] 90, F] ih := by
  refine f_in (vs := [.pointer (some ⟨b2, 0, none⟩), .pointer (some ⟨b41, 0, none⟩)]) Tryz.func68 rfl 5 rfl (by kernel_rfl) [(0, .pointer (some ⟨b2, 0, none⟩)), (1, .pointer (some ⟨b41, 0, none⟩))] (by kernel_rfl) fun a Qf hQ hQn hs => ?_
  refine c_region ?_
  refine pures hs 1 [1, 2] [(1, .pointer (some ⟨b41, 0, none⟩)), (2, .pointer (some ⟨b2, 3, none⟩))] (by kernel_rfl) fun a hs => ?_
  refine s_load hs (hw.at_ 0 rfl) 3 (by kernel_rfl) (by kernel_rfl) (v := .int .i64 x6) (by kernel_rfl) fun a hs => ?_
  refine pures hs 1 [3, 4] [(3, .int .i64 x6), (4, .pointer (some ⟨b41, 3, none⟩))] (by kernel_rfl) fun a hs => ?_
  refine s_store hs hw 1 rfl 3 (by kernel_rfl) (by kernel_rfl) (v := .int .i64 x6) (by kernel_rfl) (by kernel_rfl) (by kernel_rfl) (by kernel_rfl) fun a w hs hw => ?_
  refine s_end ?_
  obtain rfl := someE hk
  refine hQn _ _ (f_retN hs [] rfl [] (by kernel_rfl) (by kernel_rfl) ⟨rfl, hw.pick [0, 1, 2] (by kernel_rfl)⟩)
def letter_bare_2 (x7 : Int) : Option Int :=
  some x7
theorem letter_bare_2_s {x3 : Int} {x4 : Int} {x5 : Int} {x6 : Int} {x7 : Int} {x8 : Int} {x9 : Int} {x10 : Int} {x11 : Int} {x12 : Int} {x13 : Int} {x14 : Int} {x15 : Int} {x16 : Int} {x17 : Int} {x18 : Int} {x19 : Int} {x20 : Int} {x21 : Int} {x22 : List Int} {x26 : Bool} {x27 : Int} {x28 : List M105} {x32 : List M26} {x36 : List Int} {x42 : Int} {x43 : Int} {x44 : Int} {x45 : Int} {x46 : Int} {x47 : Int} {x48 : Int} {x49 : Int} {x50 : Int} {x51 : Int} {x52 : Int} {x53 : Int} {x54 : Int} {x55 : Int} {x56 : Int} {x57 : Int} {x58 : Int} {x59 : Int} {x60 : Int} {x61 : List Int} {x65 : Bool} {x66 : Int} {x67 : List M105} {x71 : List M26} {x75 : List Int} {b2 : Nat} {p23 : Option Addr} {c24 : Nat} {p29 : Option Addr} {c30 : Nat} {p33 : Option Addr} {c34 : Nat} {p37 : Option Addr} {c38 : Nat} {b41 : Nat} {p62 : Option Addr} {c63 : Nat} {p68 : Option Addr} {c69 : Nat} {p72 : Option Addr} {c73 : Nat} {p76 : Option Addr} {c77 : Nat} {r : Int} (hk : letter_bare_2 x7 = some r) {g w : World} {F : Ch} {ih : IH} (h25 : RSl e3 ih [] p23 c24 x22) (h31 : RSl e105 ih [] p29 c30 x28) (h35 : RSl e26 ih [] p33 c34 x32) (h39 : RSl e5 ih [] p37 c38 x36) (h64 : RSl e3 ih [] p62 c63 x61) (h70 : RSl e105 ih [] p68 c69 x67) (h74 : RSl e26 ih [] p72 c73 x71) (h78 : RSl e5 ih [] p76 c77 x75) (hw : St g w [bx b2 [.int .i64 x3, .int .i64 x4, .int .i64 x5, .int .i64 x6, .int .u64 x7, .int .u64 x8, .int .u64 x9, .int .u64 x10, .int .u64 x11, .int .u64 x12, .int .i64 x13, .int .u32 x14, .int .i64 x15, .int .i64 x16, .int .i64 x17, .int .u64 x18, .int .i64 x19, .int .i64 x20, .int .u64 x21, .slice p23 x22.length c24, .bool x26, .int .i64 x27, .slice p29 x28.length c30, .slice p33 x32.length c34, .slice p37 x36.length c38] 90, bx b41 [.int .i64 x42, .int .i64 x43, .int .i64 x44, .int .i64 x45, .int .u64 x46, .int .u64 x47, .int .u64 x48, .int .u64 x49, .int .u64 x50, .int .u64 x51, .int .i64 x52, .int .u32 x53, .int .i64 x54, .int .i64 x55, .int .i64 x56, .int .u64 x57, .int .i64 x58, .int .i64 x59, .int .u64 x60, .slice p62 x61.length c63, .bool x65, .int .i64 x66, .slice p68 x67.length c69, .slice p72 x71.length c73, .slice p76 x75.length c77] 90, F] ih) :
    CallsR Tryz.prog 69 #[.pointer (some ⟨b2, 0, none⟩), .pointer (some ⟨b41, 0, none⟩)] w fun v w' => v = .tuple #[] ∧ St g w' [bx b2 [.int .i64 x3, .int .i64 x4, .int .i64 x5, .int .i64 x6, .int .u64 x7, .int .u64 x8, .int .u64 x9, .int .u64 x10, .int .u64 x11, .int .u64 x12, .int .i64 x13, .int .u32 x14, .int .i64 x15, .int .i64 x16, .int .i64 x17, .int .u64 x18, .int .i64 x19, .int .i64 x20, .int .u64 x21, .slice p23 x22.length c24, .bool x26, .int .i64 x27, .slice p29 x28.length c30, .slice p33 x32.length c34, .slice p37 x36.length c38] 90, bx b41 [.int .i64 x42, .int .i64 x43, .int .i64 x44, .int .i64 x45, .int .u64 r, .int .u64 x47, .int .u64 x48, .int .u64 x49, .int .u64 x50, .int .u64 x51, .int .i64 x52, .int .u32 x53, .int .i64 x54, .int .i64 x55, .int .i64 x56, .int .u64 x57, .int .i64 x58, .int .i64 x59, .int .u64 x60, .slice p62 x61.length c63, .bool x65, .int .i64 x66, .slice p68 x67.length c69, .slice p72 x71.length c73, .slice p76 x75.length c77] 90, F] ih := by
  refine f_in (vs := [.pointer (some ⟨b2, 0, none⟩), .pointer (some ⟨b41, 0, none⟩)]) Tryz.func69 rfl 5 rfl (by kernel_rfl) [(0, .pointer (some ⟨b2, 0, none⟩)), (1, .pointer (some ⟨b41, 0, none⟩))] (by kernel_rfl) fun a Qf hQ hQn hs => ?_
  refine c_region ?_
  refine pures hs 1 [1, 2] [(1, .pointer (some ⟨b41, 0, none⟩)), (2, .pointer (some ⟨b2, 4, none⟩))] (by kernel_rfl) fun a hs => ?_
  refine s_load hs (hw.at_ 0 rfl) 4 (by kernel_rfl) (by kernel_rfl) (v := .int .u64 x7) (by kernel_rfl) fun a hs => ?_
  refine pures hs 1 [3, 4] [(3, .int .u64 x7), (4, .pointer (some ⟨b41, 4, none⟩))] (by kernel_rfl) fun a hs => ?_
  refine s_store hs hw 1 rfl 4 (by kernel_rfl) (by kernel_rfl) (v := .int .u64 x7) (by kernel_rfl) (by kernel_rfl) (by kernel_rfl) (by kernel_rfl) fun a w hs hw => ?_
  refine s_end ?_
  obtain rfl := someE hk
  refine hQn _ _ (f_retN hs [] rfl [] (by kernel_rfl) (by kernel_rfl) ⟨rfl, hw.pick [0, 1, 2] (by kernel_rfl)⟩)
def letter_bare_4 (x10 : Int) : Option Int :=
  some x10
theorem letter_bare_4_s {x3 : Int} {x4 : Int} {x5 : Int} {x6 : Int} {x7 : Int} {x8 : Int} {x9 : Int} {x10 : Int} {x11 : Int} {x12 : Int} {x13 : Int} {x14 : Int} {x15 : Int} {x16 : Int} {x17 : Int} {x18 : Int} {x19 : Int} {x20 : Int} {x21 : Int} {x22 : List Int} {x26 : Bool} {x27 : Int} {x28 : List M105} {x32 : List M26} {x36 : List Int} {x42 : Int} {x43 : Int} {x44 : Int} {x45 : Int} {x46 : Int} {x47 : Int} {x48 : Int} {x49 : Int} {x50 : Int} {x51 : Int} {x52 : Int} {x53 : Int} {x54 : Int} {x55 : Int} {x56 : Int} {x57 : Int} {x58 : Int} {x59 : Int} {x60 : Int} {x61 : List Int} {x65 : Bool} {x66 : Int} {x67 : List M105} {x71 : List M26} {x75 : List Int} {b2 : Nat} {p23 : Option Addr} {c24 : Nat} {p29 : Option Addr} {c30 : Nat} {p33 : Option Addr} {c34 : Nat} {p37 : Option Addr} {c38 : Nat} {b41 : Nat} {p62 : Option Addr} {c63 : Nat} {p68 : Option Addr} {c69 : Nat} {p72 : Option Addr} {c73 : Nat} {p76 : Option Addr} {c77 : Nat} {r : Int} (hk : letter_bare_4 x10 = some r) {g w : World} {F : Ch} {ih : IH} (h25 : RSl e3 ih [] p23 c24 x22) (h31 : RSl e105 ih [] p29 c30 x28) (h35 : RSl e26 ih [] p33 c34 x32) (h39 : RSl e5 ih [] p37 c38 x36) (h64 : RSl e3 ih [] p62 c63 x61) (h70 : RSl e105 ih [] p68 c69 x67) (h74 : RSl e26 ih [] p72 c73 x71) (h78 : RSl e5 ih [] p76 c77 x75) (hw : St g w [bx b2 [.int .i64 x3, .int .i64 x4, .int .i64 x5, .int .i64 x6, .int .u64 x7, .int .u64 x8, .int .u64 x9, .int .u64 x10, .int .u64 x11, .int .u64 x12, .int .i64 x13, .int .u32 x14, .int .i64 x15, .int .i64 x16, .int .i64 x17, .int .u64 x18, .int .i64 x19, .int .i64 x20, .int .u64 x21, .slice p23 x22.length c24, .bool x26, .int .i64 x27, .slice p29 x28.length c30, .slice p33 x32.length c34, .slice p37 x36.length c38] 90, bx b41 [.int .i64 x42, .int .i64 x43, .int .i64 x44, .int .i64 x45, .int .u64 x46, .int .u64 x47, .int .u64 x48, .int .u64 x49, .int .u64 x50, .int .u64 x51, .int .i64 x52, .int .u32 x53, .int .i64 x54, .int .i64 x55, .int .i64 x56, .int .u64 x57, .int .i64 x58, .int .i64 x59, .int .u64 x60, .slice p62 x61.length c63, .bool x65, .int .i64 x66, .slice p68 x67.length c69, .slice p72 x71.length c73, .slice p76 x75.length c77] 90, F] ih) :
    CallsR Tryz.prog 71 #[.pointer (some ⟨b2, 0, none⟩), .pointer (some ⟨b41, 0, none⟩)] w fun v w' => v = .tuple #[] ∧ St g w' [bx b2 [.int .i64 x3, .int .i64 x4, .int .i64 x5, .int .i64 x6, .int .u64 x7, .int .u64 x8, .int .u64 x9, .int .u64 x10, .int .u64 x11, .int .u64 x12, .int .i64 x13, .int .u32 x14, .int .i64 x15, .int .i64 x16, .int .i64 x17, .int .u64 x18, .int .i64 x19, .int .i64 x20, .int .u64 x21, .slice p23 x22.length c24, .bool x26, .int .i64 x27, .slice p29 x28.length c30, .slice p33 x32.length c34, .slice p37 x36.length c38] 90, bx b41 [.int .i64 x42, .int .i64 x43, .int .i64 x44, .int .i64 x45, .int .u64 x46, .int .u64 x47, .int .u64 x48, .int .u64 r, .int .u64 x50, .int .u64 x51, .int .i64 x52, .int .u32 x53, .int .i64 x54, .int .i64 x55, .int .i64 x56, .int .u64 x57, .int .i64 x58, .int .i64 x59, .int .u64 x60, .slice p62 x61.length c63, .bool x65, .int .i64 x66, .slice p68 x67.length c69, .slice p72 x71.length c73, .slice p76 x75.length c77] 90, F] ih := by
  refine f_in (vs := [.pointer (some ⟨b2, 0, none⟩), .pointer (some ⟨b41, 0, none⟩)]) Tryz.func71 rfl 5 rfl (by kernel_rfl) [(0, .pointer (some ⟨b2, 0, none⟩)), (1, .pointer (some ⟨b41, 0, none⟩))] (by kernel_rfl) fun a Qf hQ hQn hs => ?_
  refine c_region ?_
  refine pures hs 1 [1, 2] [(1, .pointer (some ⟨b41, 0, none⟩)), (2, .pointer (some ⟨b2, 7, none⟩))] (by kernel_rfl) fun a hs => ?_
  refine s_load hs (hw.at_ 0 rfl) 7 (by kernel_rfl) (by kernel_rfl) (v := .int .u64 x10) (by kernel_rfl) fun a hs => ?_
  refine pures hs 1 [3, 4] [(3, .int .u64 x10), (4, .pointer (some ⟨b41, 7, none⟩))] (by kernel_rfl) fun a hs => ?_
  refine s_store hs hw 1 rfl 7 (by kernel_rfl) (by kernel_rfl) (v := .int .u64 x10) (by kernel_rfl) (by kernel_rfl) (by kernel_rfl) (by kernel_rfl) fun a w hs hw => ?_
  refine s_end ?_
  obtain rfl := someE hk
  refine hQn _ _ (f_retN hs [] rfl [] (by kernel_rfl) (by kernel_rfl) ⟨rfl, hw.pick [0, 1, 2] (by kernel_rfl)⟩)
def letter_bare_5 (x11 : Int) : Option Int :=
  some x11
theorem letter_bare_5_s {x3 : Int} {x4 : Int} {x5 : Int} {x6 : Int} {x7 : Int} {x8 : Int} {x9 : Int} {x10 : Int} {x11 : Int} {x12 : Int} {x13 : Int} {x14 : Int} {x15 : Int} {x16 : Int} {x17 : Int} {x18 : Int} {x19 : Int} {x20 : Int} {x21 : Int} {x22 : List Int} {x26 : Bool} {x27 : Int} {x28 : List M105} {x32 : List M26} {x36 : List Int} {x42 : Int} {x43 : Int} {x44 : Int} {x45 : Int} {x46 : Int} {x47 : Int} {x48 : Int} {x49 : Int} {x50 : Int} {x51 : Int} {x52 : Int} {x53 : Int} {x54 : Int} {x55 : Int} {x56 : Int} {x57 : Int} {x58 : Int} {x59 : Int} {x60 : Int} {x61 : List Int} {x65 : Bool} {x66 : Int} {x67 : List M105} {x71 : List M26} {x75 : List Int} {b2 : Nat} {p23 : Option Addr} {c24 : Nat} {p29 : Option Addr} {c30 : Nat} {p33 : Option Addr} {c34 : Nat} {p37 : Option Addr} {c38 : Nat} {b41 : Nat} {p62 : Option Addr} {c63 : Nat} {p68 : Option Addr} {c69 : Nat} {p72 : Option Addr} {c73 : Nat} {p76 : Option Addr} {c77 : Nat} {r : Int} (hk : letter_bare_5 x11 = some r) {g w : World} {F : Ch} {ih : IH} (h25 : RSl e3 ih [] p23 c24 x22) (h31 : RSl e105 ih [] p29 c30 x28) (h35 : RSl e26 ih [] p33 c34 x32) (h39 : RSl e5 ih [] p37 c38 x36) (h64 : RSl e3 ih [] p62 c63 x61) (h70 : RSl e105 ih [] p68 c69 x67) (h74 : RSl e26 ih [] p72 c73 x71) (h78 : RSl e5 ih [] p76 c77 x75) (hw : St g w [bx b2 [.int .i64 x3, .int .i64 x4, .int .i64 x5, .int .i64 x6, .int .u64 x7, .int .u64 x8, .int .u64 x9, .int .u64 x10, .int .u64 x11, .int .u64 x12, .int .i64 x13, .int .u32 x14, .int .i64 x15, .int .i64 x16, .int .i64 x17, .int .u64 x18, .int .i64 x19, .int .i64 x20, .int .u64 x21, .slice p23 x22.length c24, .bool x26, .int .i64 x27, .slice p29 x28.length c30, .slice p33 x32.length c34, .slice p37 x36.length c38] 90, bx b41 [.int .i64 x42, .int .i64 x43, .int .i64 x44, .int .i64 x45, .int .u64 x46, .int .u64 x47, .int .u64 x48, .int .u64 x49, .int .u64 x50, .int .u64 x51, .int .i64 x52, .int .u32 x53, .int .i64 x54, .int .i64 x55, .int .i64 x56, .int .u64 x57, .int .i64 x58, .int .i64 x59, .int .u64 x60, .slice p62 x61.length c63, .bool x65, .int .i64 x66, .slice p68 x67.length c69, .slice p72 x71.length c73, .slice p76 x75.length c77] 90, F] ih) :
    CallsR Tryz.prog 72 #[.pointer (some ⟨b2, 0, none⟩), .pointer (some ⟨b41, 0, none⟩)] w fun v w' => v = .tuple #[] ∧ St g w' [bx b2 [.int .i64 x3, .int .i64 x4, .int .i64 x5, .int .i64 x6, .int .u64 x7, .int .u64 x8, .int .u64 x9, .int .u64 x10, .int .u64 x11, .int .u64 x12, .int .i64 x13, .int .u32 x14, .int .i64 x15, .int .i64 x16, .int .i64 x17, .int .u64 x18, .int .i64 x19, .int .i64 x20, .int .u64 x21, .slice p23 x22.length c24, .bool x26, .int .i64 x27, .slice p29 x28.length c30, .slice p33 x32.length c34, .slice p37 x36.length c38] 90, bx b41 [.int .i64 x42, .int .i64 x43, .int .i64 x44, .int .i64 x45, .int .u64 x46, .int .u64 x47, .int .u64 x48, .int .u64 x49, .int .u64 r, .int .u64 x51, .int .i64 x52, .int .u32 x53, .int .i64 x54, .int .i64 x55, .int .i64 x56, .int .u64 x57, .int .i64 x58, .int .i64 x59, .int .u64 x60, .slice p62 x61.length c63, .bool x65, .int .i64 x66, .slice p68 x67.length c69, .slice p72 x71.length c73, .slice p76 x75.length c77] 90, F] ih := by
  refine f_in (vs := [.pointer (some ⟨b2, 0, none⟩), .pointer (some ⟨b41, 0, none⟩)]) Tryz.func72 rfl 5 rfl (by kernel_rfl) [(0, .pointer (some ⟨b2, 0, none⟩)), (1, .pointer (some ⟨b41, 0, none⟩))] (by kernel_rfl) fun a Qf hQ hQn hs => ?_
  refine c_region ?_
  refine pures hs 1 [1, 2] [(1, .pointer (some ⟨b41, 0, none⟩)), (2, .pointer (some ⟨b2, 8, none⟩))] (by kernel_rfl) fun a hs => ?_
  refine s_load hs (hw.at_ 0 rfl) 8 (by kernel_rfl) (by kernel_rfl) (v := .int .u64 x11) (by kernel_rfl) fun a hs => ?_
  refine pures hs 1 [3, 4] [(3, .int .u64 x11), (4, .pointer (some ⟨b41, 8, none⟩))] (by kernel_rfl) fun a hs => ?_
  refine s_store hs hw 1 rfl 8 (by kernel_rfl) (by kernel_rfl) (v := .int .u64 x11) (by kernel_rfl) (by kernel_rfl) (by kernel_rfl) (by kernel_rfl) fun a w hs hw => ?_
  refine s_end ?_
  obtain rfl := someE hk
  refine hQn _ _ (f_retN hs [] rfl [] (by kernel_rfl) (by kernel_rfl) ⟨rfl, hw.pick [0, 1, 2] (by kernel_rfl)⟩)
def letter_bare_14 (x32 : List M26) : Option (List M26) :=
  some x32
theorem letter_bare_14_s {x3 : Int} {x4 : Int} {x5 : Int} {x6 : Int} {x7 : Int} {x8 : Int} {x9 : Int} {x10 : Int} {x11 : Int} {x12 : Int} {x13 : Int} {x14 : Int} {x15 : Int} {x16 : Int} {x17 : Int} {x18 : Int} {x19 : Int} {x20 : Int} {x21 : Int} {x22 : List Int} {x26 : Bool} {x27 : Int} {x28 : List M105} {x32 : List M26} {x36 : List Int} {x42 : Int} {x43 : Int} {x44 : Int} {x45 : Int} {x46 : Int} {x47 : Int} {x48 : Int} {x49 : Int} {x50 : Int} {x51 : Int} {x52 : Int} {x53 : Int} {x54 : Int} {x55 : Int} {x56 : Int} {x57 : Int} {x58 : Int} {x59 : Int} {x60 : Int} {x61 : List Int} {x65 : Bool} {x66 : Int} {x67 : List M105} {x71 : List M26} {x75 : List Int} {b2 : Nat} {p23 : Option Addr} {c24 : Nat} {p29 : Option Addr} {c30 : Nat} {p33 : Option Addr} {c34 : Nat} {p37 : Option Addr} {c38 : Nat} {b41 : Nat} {p62 : Option Addr} {c63 : Nat} {p68 : Option Addr} {c69 : Nat} {p72 : Option Addr} {c73 : Nat} {p76 : Option Addr} {c77 : Nat} {r : (List M26)} (hk : letter_bare_14 x32 = some r) {g w : World} {F : Ch} {ih : IH} (h25 : RSl e3 ih [] p23 c24 x22) (h31 : RSl e105 ih [] p29 c30 x28) (h35 : RSl e26 ih [] p33 c34 x32) (h39 : RSl e5 ih [] p37 c38 x36) (h64 : RSl e3 ih [] p62 c63 x61) (h70 : RSl e105 ih [] p68 c69 x67) (h74 : RSl e26 ih [] p72 c73 x71) (h78 : RSl e5 ih [] p76 c77 x75) (hw : St g w [bx b2 [.int .i64 x3, .int .i64 x4, .int .i64 x5, .int .i64 x6, .int .u64 x7, .int .u64 x8, .int .u64 x9, .int .u64 x10, .int .u64 x11, .int .u64 x12, .int .i64 x13, .int .u32 x14, .int .i64 x15, .int .i64 x16, .int .i64 x17, .int .u64 x18, .int .i64 x19, .int .i64 x20, .int .u64 x21, .slice p23 x22.length c24, .bool x26, .int .i64 x27, .slice p29 x28.length c30, .slice p33 x32.length c34, .slice p37 x36.length c38] 90, bx b41 [.int .i64 x42, .int .i64 x43, .int .i64 x44, .int .i64 x45, .int .u64 x46, .int .u64 x47, .int .u64 x48, .int .u64 x49, .int .u64 x50, .int .u64 x51, .int .i64 x52, .int .u32 x53, .int .i64 x54, .int .i64 x55, .int .i64 x56, .int .u64 x57, .int .i64 x58, .int .i64 x59, .int .u64 x60, .slice p62 x61.length c63, .bool x65, .int .i64 x66, .slice p68 x67.length c69, .slice p72 x71.length c73, .slice p76 x75.length c77] 90, F] ih) :
    CallsR Tryz.prog 81 #[.pointer (some ⟨b2, 0, none⟩), .pointer (some ⟨b41, 0, none⟩)] w fun v w' => ∃ (p81 : Option Addr) (c82 : Nat), v = .tuple #[] ∧ St g w' [bx b2 [.int .i64 x3, .int .i64 x4, .int .i64 x5, .int .i64 x6, .int .u64 x7, .int .u64 x8, .int .u64 x9, .int .u64 x10, .int .u64 x11, .int .u64 x12, .int .i64 x13, .int .u32 x14, .int .i64 x15, .int .i64 x16, .int .i64 x17, .int .u64 x18, .int .i64 x19, .int .i64 x20, .int .u64 x21, .slice p23 x22.length c24, .bool x26, .int .i64 x27, .slice p29 x28.length c30, .slice p33 x32.length c34, .slice p37 x36.length c38] 90, bx b41 [.int .i64 x42, .int .i64 x43, .int .i64 x44, .int .i64 x45, .int .u64 x46, .int .u64 x47, .int .u64 x48, .int .u64 x49, .int .u64 x50, .int .u64 x51, .int .i64 x52, .int .u32 x53, .int .i64 x54, .int .i64 x55, .int .i64 x56, .int .u64 x57, .int .i64 x58, .int .i64 x59, .int .u64 x60, .slice p62 x61.length c63, .bool x65, .int .i64 x66, .slice p68 x67.length c69, .slice p81 r.length c82, .slice p76 x75.length c77] 90, F] ih ∧ RSl e26 ih [] p81 c82 r := by
  refine f_in (vs := [.pointer (some ⟨b2, 0, none⟩), .pointer (some ⟨b41, 0, none⟩)]) Tryz.func81 rfl 5 rfl (by kernel_rfl) [(0, .pointer (some ⟨b2, 0, none⟩)), (1, .pointer (some ⟨b41, 0, none⟩))] (by kernel_rfl) fun a Qf hQ hQn hs => ?_
  refine c_region ?_
  refine pures hs 1 [1, 2] [(1, .pointer (some ⟨b41, 0, none⟩)), (2, .pointer (some ⟨b2, 23, none⟩))] (by kernel_rfl) fun a hs => ?_
  refine s_load hs (hw.at_ 0 rfl) 23 (by kernel_rfl) (by kernel_rfl) (v := .slice p33 x32.length c34) (by kernel_rfl) fun a hs => ?_
  refine pures hs 1 [3, 4] [(3, .slice p33 x32.length c34), (4, .pointer (some ⟨b41, 23, none⟩))] (by kernel_rfl) fun a hs => ?_
  refine s_store hs hw 1 rfl 23 (by kernel_rfl) (by kernel_rfl) (v := .slice p33 x32.length c34) (by kernel_rfl) (by kernel_rfl) (by kernel_rfl) (by kernel_rfl) fun a w hs hw => ?_
  refine s_end ?_
  obtain rfl := someE hk
  refine hQn _ _ (f_retN hs [] rfl [] (by kernel_rfl) (by kernel_rfl) ⟨p33, c34, rfl, hw.pick [0, 1, 2] (by kernel_rfl), h35⟩)
def letter_bare (x1 : List M26) : Option (Int × Int × Int × Int × (List M26)) :=
  (letter_bare_1 0).bind fun y569 =>
  (letter_bare_2 1).bind fun y585 =>
  (letter_bare_4 0).bind fun y609 =>
  (letter_bare_5 0).bind fun y625 =>
  (letter_bare_14 x1).bind fun y714 =>
  some (y569, y585, y609, y625, y714)
theorem letter_bare_s {x1 : List M26} {p2 : Option Addr} {c3 : Nat} {r : Int × Int × Int × Int × (List M26)} (hk : letter_bare x1 = some r) {g w : World} {F : Ch} {ih : IH} (h4 : RSl e26 ih [] p2 c3 x1) (hG : Glob 0 gl0 110 ih) (hw : St g w [F] ih) :
    CallsR Tryz.prog 58 #[.agg #[.int .i64 12, .int .i64 1, .int .i64 1, .int .i64 0, .int .u64 1, .int .u64 0, .int .u64 0, .int .u64 0, .int .u64 0, .int .u64 0, .int .i64 0, .int .u32 0, .int .i64 0, .int .i64 0, .int .i64 0, .int .u64 0, .int .i64 0, .int .i64 0, .int .u64 0, .slice none 0 0, .bool false, .int .i64 0, .slice none 0 0, .slice p2 x1.length c3, .slice none 0 0]] w fun v w' => ∃ (p727 : Option Addr) (c728 : Nat), v = .agg #[.int .i64 12, .int .i64 1, .int .i64 1, .int .i64 r.1, .int .u64 r.2.1, .int .u64 0, .int .u64 0, .int .u64 r.2.2.1, .int .u64 r.2.2.2.1, .int .u64 0, .int .i64 0, .int .u32 0, .int .i64 0, .int .i64 0, .int .i64 0, .int .u64 0, .int .i64 0, .int .i64 0, .int .u64 0, .slice none 0 0, .bool false, .int .i64 0, .slice none 0 0, .slice p727 r.2.2.2.2.length c728, .slice none 0 0] ∧ St g w' [F] ih ∧ RSl e26 ih [] p727 c728 r.2.2.2.2 := by
  refine f_in (vs := [.agg #[.int .i64 12, .int .i64 1, .int .i64 1, .int .i64 0, .int .u64 1, .int .u64 0, .int .u64 0, .int .u64 0, .int .u64 0, .int .u64 0, .int .i64 0, .int .u32 0, .int .i64 0, .int .i64 0, .int .i64 0, .int .u64 0, .int .i64 0, .int .i64 0, .int .u64 0, .slice none 0 0, .bool false, .int .i64 0, .slice none 0 0, .slice p2 x1.length c3, .slice none 0 0]]) Tryz.func58 rfl 74 rfl (by kernel_rfl) [(0, .agg #[.int .i64 12, .int .i64 1, .int .i64 1, .int .i64 0, .int .u64 1, .int .u64 0, .int .u64 0, .int .u64 0, .int .u64 0, .int .u64 0, .int .i64 0, .int .u32 0, .int .i64 0, .int .i64 0, .int .i64 0, .int .u64 0, .int .i64 0, .int .i64 0, .int .u64 0, .slice none 0 0, .bool false, .int .i64 0, .slice none 0 0, .slice p2 x1.length c3, .slice none 0 0])] (by kernel_rfl) fun a Qf hQ hQn hs => ?_
  refine c_seq ?_
  refine c_region ?_
  refine s_new hs hw [.int .i64 12, .int .i64 1, .int .i64 1, .int .i64 0, .int .u64 1, .int .u64 0, .int .u64 0, .int .u64 0, .int .u64 0, .int .u64 0, .int .i64 0, .int .u32 0, .int .i64 0, .int .i64 0, .int .i64 0, .int .u64 0, .int .i64 0, .int .i64 0, .int .u64 0, .slice none 0 0, .bool false, .int .i64 0, .slice none 0 0, .slice p2 x1.length c3, .slice none 0 0] 90 (fun b => .pointer (some ⟨b, 0, none⟩)) (by kernel_rfl) (fun _ => by kernel_rfl) fun a w b371 hs hw => ?_
  refine s_new hs hw [.int .i64 0, .int .i64 0, .int .i64 0, .int .i64 0, .int .u64 0, .int .u64 0, .int .u64 0, .int .u64 0, .int .u64 0, .int .u64 0, .int .i64 0, .int .u32 0, .int .i64 0, .int .i64 0, .int .i64 0, .int .u64 0, .int .i64 0, .int .i64 0, .int .u64 0, .slice none 0 0, .bool false, .int .i64 0, .slice none 0 0, .slice none 0 0, .slice none 0 0] 90 (fun b => .pointer (some ⟨b, 0, none⟩)) (by kernel_rfl) (fun _ => by kernel_rfl) fun a w b373 hs hw => ?_
  refine s_end ?_
  refine c_seq ?_
  refine c_region ?_
  refine pures hs 1 [1, 2, 3] [(1, .pointer (some ⟨b371, 0, none⟩)), (2, .pointer (some ⟨b373, 0, none⟩)), (3, .int .i64 0)] (by kernel_rfl) fun a hs => ?_
  refine s_end ?_
  refine c_seq ?_
  refine c_seq ?_
  refine c_region ?_
  refine pures hs 1 [1, 2, 3, 9] [(1, .pointer (some ⟨b371, 0, none⟩)), (2, .pointer (some ⟨b373, 0, none⟩)), (3, .int .i64 0), (9, .pointer (some ⟨b371, 0, none⟩))] (by kernel_rfl) fun a hs => ?_
  refine s_load hs (hw.at_ 1 rfl) 0 (by kernel_rfl) (by kernel_rfl) (v := .int .i64 12) (by kernel_rfl) fun a hs => ?_
  refine pures hs 2 [1, 2, 3, 12] [(1, .pointer (some ⟨b371, 0, none⟩)), (2, .pointer (some ⟨b373, 0, none⟩)), (3, .int .i64 0), (12, .pointer (some ⟨0, 85, none⟩))] (by kernel_rfl) fun a hs => ?_
  refine s_load hs (hw.atG (hG.mono (Le.refl _))) 85 (by kernel_rfl) (by kernel_rfl) (v := .agg #[.int .i64 1, .int .i64 2, .int .i64 8, .int .i64 16, .int .i64 8192, .int .i64 0]) (by kernel_rfl) fun a hs => ?_
  refine pures hs 1 [1, 2, 3, 13, 14] [(1, .pointer (some ⟨b371, 0, none⟩)), (2, .pointer (some ⟨b373, 0, none⟩)), (3, .int .i64 0), (13, .agg #[.int .i64 1, .int .i64 2, .int .i64 8, .int .i64 16, .int .i64 8192, .int .i64 0]), (14, .int .i64 0)] (by kernel_rfl) fun a hs => ?_
  refine s_end ?_
  refine c_block ?_
  refine wpIn_loop_rounds 7 ?_
  refine c_unr ?_
  refine c_seq ?_
  refine c_region ?_
  refine pures hs 1 [1, 2, 3, 13, 14, 15] [(1, .pointer (some ⟨b371, 0, none⟩)), (2, .pointer (some ⟨b373, 0, none⟩)), (3, .int .i64 0), (13, .agg #[.int .i64 1, .int .i64 2, .int .i64 8, .int .i64 16, .int .i64 8192, .int .i64 0]), (14, .int .i64 0), (15, .bool true)] (by kernel_rfl) fun a hs => ?_
  refine s_end ?_
  refine c_seq ?_
  refine c_condT hs (by kernel_rfl) (by kernel_rfl) ?_
  refine c_skip ?_
  refine c_seq ?_
  refine c_block ?_
  refine c_seq ?_
  refine c_region ?_
  refine pures hs 2 [1, 2, 3, 13, 14, 5] [(1, .pointer (some ⟨b371, 0, none⟩)), (2, .pointer (some ⟨b373, 0, none⟩)), (3, .int .i64 0), (13, .agg #[.int .i64 1, .int .i64 2, .int .i64 8, .int .i64 16, .int .i64 8192, .int .i64 0]), (14, .int .i64 0), (5, .int .i64 1)] (by kernel_rfl) fun a hs => ?_
  refine s_end ?_
  refine c_region ?_
  refine pures hs 4 [1, 2, 3, 13, 14] [(1, .pointer (some ⟨b371, 0, none⟩)), (2, .pointer (some ⟨b373, 0, none⟩)), (3, .int .i64 1), (13, .agg #[.int .i64 1, .int .i64 2, .int .i64 8, .int .i64 16, .int .i64 8192, .int .i64 0]), (14, .int .i64 0)] (by kernel_rfl) fun a hs => ?_
  refine s_end ?_
  refine c_region ?_
  refine pures hs 2 [1, 2, 3, 13, 14] [(1, .pointer (some ⟨b371, 0, none⟩)), (2, .pointer (some ⟨b373, 0, none⟩)), (3, .int .i64 1), (13, .agg #[.int .i64 1, .int .i64 2, .int .i64 8, .int .i64 16, .int .i64 8192, .int .i64 0]), (14, .int .i64 1)] (by kernel_rfl) fun a hs => ?_
  refine s_end ?_
  refine c_unr ?_
  refine c_seq ?_
  refine c_region ?_
  refine pures hs 1 [1, 2, 3, 13, 14, 15] [(1, .pointer (some ⟨b371, 0, none⟩)), (2, .pointer (some ⟨b373, 0, none⟩)), (3, .int .i64 1), (13, .agg #[.int .i64 1, .int .i64 2, .int .i64 8, .int .i64 16, .int .i64 8192, .int .i64 0]), (14, .int .i64 1), (15, .bool true)] (by kernel_rfl) fun a hs => ?_
  refine s_end ?_
  refine c_seq ?_
  refine c_condT hs (by kernel_rfl) (by kernel_rfl) ?_
  refine c_skip ?_
  refine c_seq ?_
  refine c_block ?_
  refine c_seq ?_
  refine c_region ?_
  refine pures hs 2 [1, 2, 3, 13, 14, 5] [(1, .pointer (some ⟨b371, 0, none⟩)), (2, .pointer (some ⟨b373, 0, none⟩)), (3, .int .i64 1), (13, .agg #[.int .i64 1, .int .i64 2, .int .i64 8, .int .i64 16, .int .i64 8192, .int .i64 0]), (14, .int .i64 1), (5, .int .i64 2)] (by kernel_rfl) fun a hs => ?_
  refine s_end ?_
  refine c_region ?_
  refine pures hs 4 [1, 2, 3, 13, 14] [(1, .pointer (some ⟨b371, 0, none⟩)), (2, .pointer (some ⟨b373, 0, none⟩)), (3, .int .i64 3), (13, .agg #[.int .i64 1, .int .i64 2, .int .i64 8, .int .i64 16, .int .i64 8192, .int .i64 0]), (14, .int .i64 1)] (by kernel_rfl) fun a hs => ?_
  refine s_end ?_
  refine c_region ?_
  refine pures hs 2 [1, 2, 3, 13, 14] [(1, .pointer (some ⟨b371, 0, none⟩)), (2, .pointer (some ⟨b373, 0, none⟩)), (3, .int .i64 3), (13, .agg #[.int .i64 1, .int .i64 2, .int .i64 8, .int .i64 16, .int .i64 8192, .int .i64 0]), (14, .int .i64 2)] (by kernel_rfl) fun a hs => ?_
  refine s_end ?_
  refine c_unr ?_
  refine c_seq ?_
  refine c_region ?_
  refine pures hs 1 [1, 2, 3, 13, 14, 15] [(1, .pointer (some ⟨b371, 0, none⟩)), (2, .pointer (some ⟨b373, 0, none⟩)), (3, .int .i64 3), (13, .agg #[.int .i64 1, .int .i64 2, .int .i64 8, .int .i64 16, .int .i64 8192, .int .i64 0]), (14, .int .i64 2), (15, .bool true)] (by kernel_rfl) fun a hs => ?_
  refine s_end ?_
  refine c_seq ?_
  refine c_condT hs (by kernel_rfl) (by kernel_rfl) ?_
  refine c_skip ?_
  refine c_seq ?_
  refine c_block ?_
  refine c_seq ?_
  refine c_region ?_
  refine pures hs 2 [1, 2, 3, 13, 14, 5] [(1, .pointer (some ⟨b371, 0, none⟩)), (2, .pointer (some ⟨b373, 0, none⟩)), (3, .int .i64 3), (13, .agg #[.int .i64 1, .int .i64 2, .int .i64 8, .int .i64 16, .int .i64 8192, .int .i64 0]), (14, .int .i64 2), (5, .int .i64 8)] (by kernel_rfl) fun a hs => ?_
  refine s_end ?_
  refine c_region ?_
  refine pures hs 4 [1, 2, 3, 13, 14] [(1, .pointer (some ⟨b371, 0, none⟩)), (2, .pointer (some ⟨b373, 0, none⟩)), (3, .int .i64 11), (13, .agg #[.int .i64 1, .int .i64 2, .int .i64 8, .int .i64 16, .int .i64 8192, .int .i64 0]), (14, .int .i64 2)] (by kernel_rfl) fun a hs => ?_
  refine s_end ?_
  refine c_region ?_
  refine pures hs 2 [1, 2, 3, 13, 14] [(1, .pointer (some ⟨b371, 0, none⟩)), (2, .pointer (some ⟨b373, 0, none⟩)), (3, .int .i64 11), (13, .agg #[.int .i64 1, .int .i64 2, .int .i64 8, .int .i64 16, .int .i64 8192, .int .i64 0]), (14, .int .i64 3)] (by kernel_rfl) fun a hs => ?_
  refine s_end ?_
  refine c_unr ?_
  refine c_seq ?_
  refine c_region ?_
  refine pures hs 1 [1, 2, 3, 13, 14, 15] [(1, .pointer (some ⟨b371, 0, none⟩)), (2, .pointer (some ⟨b373, 0, none⟩)), (3, .int .i64 11), (13, .agg #[.int .i64 1, .int .i64 2, .int .i64 8, .int .i64 16, .int .i64 8192, .int .i64 0]), (14, .int .i64 3), (15, .bool true)] (by kernel_rfl) fun a hs => ?_
  refine s_end ?_
  refine c_seq ?_
  refine c_condT hs (by kernel_rfl) (by kernel_rfl) ?_
  refine c_skip ?_
  refine c_seq ?_
  refine c_block ?_
  refine c_seq ?_
  refine c_region ?_
  refine pures hs 2 [1, 2, 3, 13, 14, 5] [(1, .pointer (some ⟨b371, 0, none⟩)), (2, .pointer (some ⟨b373, 0, none⟩)), (3, .int .i64 11), (13, .agg #[.int .i64 1, .int .i64 2, .int .i64 8, .int .i64 16, .int .i64 8192, .int .i64 0]), (14, .int .i64 3), (5, .int .i64 16)] (by kernel_rfl) fun a hs => ?_
  refine s_end ?_
  refine c_region ?_
  refine pures hs 4 [1, 2, 3, 13, 14] [(1, .pointer (some ⟨b371, 0, none⟩)), (2, .pointer (some ⟨b373, 0, none⟩)), (3, .int .i64 27), (13, .agg #[.int .i64 1, .int .i64 2, .int .i64 8, .int .i64 16, .int .i64 8192, .int .i64 0]), (14, .int .i64 3)] (by kernel_rfl) fun a hs => ?_
  refine s_end ?_
  refine c_region ?_
  refine pures hs 2 [1, 2, 3, 13, 14] [(1, .pointer (some ⟨b371, 0, none⟩)), (2, .pointer (some ⟨b373, 0, none⟩)), (3, .int .i64 27), (13, .agg #[.int .i64 1, .int .i64 2, .int .i64 8, .int .i64 16, .int .i64 8192, .int .i64 0]), (14, .int .i64 4)] (by kernel_rfl) fun a hs => ?_
  refine s_end ?_
  refine c_unr ?_
  refine c_seq ?_
  refine c_region ?_
  refine pures hs 1 [1, 2, 3, 13, 14, 15] [(1, .pointer (some ⟨b371, 0, none⟩)), (2, .pointer (some ⟨b373, 0, none⟩)), (3, .int .i64 27), (13, .agg #[.int .i64 1, .int .i64 2, .int .i64 8, .int .i64 16, .int .i64 8192, .int .i64 0]), (14, .int .i64 4), (15, .bool true)] (by kernel_rfl) fun a hs => ?_
  refine s_end ?_
  refine c_seq ?_
  refine c_condT hs (by kernel_rfl) (by kernel_rfl) ?_
  refine c_skip ?_
  refine c_seq ?_
  refine c_block ?_
  refine c_seq ?_
  refine c_region ?_
  refine pures hs 2 [1, 2, 3, 13, 14, 5] [(1, .pointer (some ⟨b371, 0, none⟩)), (2, .pointer (some ⟨b373, 0, none⟩)), (3, .int .i64 27), (13, .agg #[.int .i64 1, .int .i64 2, .int .i64 8, .int .i64 16, .int .i64 8192, .int .i64 0]), (14, .int .i64 4), (5, .int .i64 8192)] (by kernel_rfl) fun a hs => ?_
  refine s_end ?_
  refine c_region ?_
  refine pures hs 4 [1, 2, 3, 13, 14] [(1, .pointer (some ⟨b371, 0, none⟩)), (2, .pointer (some ⟨b373, 0, none⟩)), (3, .int .i64 8219), (13, .agg #[.int .i64 1, .int .i64 2, .int .i64 8, .int .i64 16, .int .i64 8192, .int .i64 0]), (14, .int .i64 4)] (by kernel_rfl) fun a hs => ?_
  refine s_end ?_
  refine c_region ?_
  refine pures hs 2 [1, 2, 3, 13, 14] [(1, .pointer (some ⟨b371, 0, none⟩)), (2, .pointer (some ⟨b373, 0, none⟩)), (3, .int .i64 8219), (13, .agg #[.int .i64 1, .int .i64 2, .int .i64 8, .int .i64 16, .int .i64 8192, .int .i64 0]), (14, .int .i64 5)] (by kernel_rfl) fun a hs => ?_
  refine s_end ?_
  refine c_unr ?_
  refine c_seq ?_
  refine c_region ?_
  refine pures hs 1 [1, 2, 3, 13, 14, 15] [(1, .pointer (some ⟨b371, 0, none⟩)), (2, .pointer (some ⟨b373, 0, none⟩)), (3, .int .i64 8219), (13, .agg #[.int .i64 1, .int .i64 2, .int .i64 8, .int .i64 16, .int .i64 8192, .int .i64 0]), (14, .int .i64 5), (15, .bool true)] (by kernel_rfl) fun a hs => ?_
  refine s_end ?_
  refine c_seq ?_
  refine c_condT hs (by kernel_rfl) (by kernel_rfl) ?_
  refine c_skip ?_
  refine c_seq ?_
  refine c_block ?_
  refine c_seq ?_
  refine c_region ?_
  refine pures hs 2 [1, 2, 3, 13, 14, 5] [(1, .pointer (some ⟨b371, 0, none⟩)), (2, .pointer (some ⟨b373, 0, none⟩)), (3, .int .i64 8219), (13, .agg #[.int .i64 1, .int .i64 2, .int .i64 8, .int .i64 16, .int .i64 8192, .int .i64 0]), (14, .int .i64 5), (5, .int .i64 0)] (by kernel_rfl) fun a hs => ?_
  refine s_end ?_
  refine c_region ?_
  refine pures hs 4 [1, 2, 3, 13, 14] [(1, .pointer (some ⟨b371, 0, none⟩)), (2, .pointer (some ⟨b373, 0, none⟩)), (3, .int .i64 8219), (13, .agg #[.int .i64 1, .int .i64 2, .int .i64 8, .int .i64 16, .int .i64 8192, .int .i64 0]), (14, .int .i64 5)] (by kernel_rfl) fun a hs => ?_
  refine s_end ?_
  refine c_region ?_
  refine pures hs 2 [1, 2, 3, 13, 14] [(1, .pointer (some ⟨b371, 0, none⟩)), (2, .pointer (some ⟨b373, 0, none⟩)), (3, .int .i64 8219), (13, .agg #[.int .i64 1, .int .i64 2, .int .i64 8, .int .i64 16, .int .i64 8192, .int .i64 0]), (14, .int .i64 6)] (by kernel_rfl) fun a hs => ?_
  refine s_end ?_
  refine c_unr ?_
  refine c_seq ?_
  refine c_region ?_
  refine pures hs 1 [1, 2, 3, 13, 14, 15] [(1, .pointer (some ⟨b371, 0, none⟩)), (2, .pointer (some ⟨b373, 0, none⟩)), (3, .int .i64 8219), (13, .agg #[.int .i64 1, .int .i64 2, .int .i64 8, .int .i64 16, .int .i64 8192, .int .i64 0]), (14, .int .i64 6), (15, .bool false)] (by kernel_rfl) fun a hs => ?_
  refine s_end ?_
  refine c_seq ?_
  refine c_condF hs (by kernel_rfl) (by kernel_rfl) ?_
  refine c_exit ?_
  refine c_seq ?_
  refine c_region ?_
  refine pures hs 1 [1, 2, 3, 21] [(1, .pointer (some ⟨b371, 0, none⟩)), (2, .pointer (some ⟨b373, 0, none⟩)), (3, .int .i64 8219), (21, .pointer (some ⟨b371, 0, none⟩))] (by kernel_rfl) fun a hs => ?_
  refine s_load hs (hw.at_ 1 rfl) 0 (by kernel_rfl) (by kernel_rfl) (v := .int .i64 12) (by kernel_rfl) fun a hs => ?_
  refine pures hs 1 [1, 2, 3, 22, 23] [(1, .pointer (some ⟨b371, 0, none⟩)), (2, .pointer (some ⟨b373, 0, none⟩)), (3, .int .i64 8219), (22, .int .i64 12), (23, .pointer (some ⟨b371, 1, none⟩))] (by kernel_rfl) fun a hs => ?_
  refine s_load hs (hw.at_ 1 rfl) 1 (by kernel_rfl) (by kernel_rfl) (v := .int .i64 1) (by kernel_rfl) fun a hs => ?_
  refine pures hs 1 [1, 2, 3, 22, 24, 25] [(1, .pointer (some ⟨b371, 0, none⟩)), (2, .pointer (some ⟨b373, 0, none⟩)), (3, .int .i64 8219), (22, .int .i64 12), (24, .int .i64 1), (25, .pointer (some ⟨b371, 2, none⟩))] (by kernel_rfl) fun a hs => ?_
  refine s_load hs (hw.at_ 1 rfl) 2 (by kernel_rfl) (by kernel_rfl) (v := .int .i64 1) (by kernel_rfl) fun a hs => ?_
  refine pures hs 1 [1, 2, 3, 27] [(1, .pointer (some ⟨b371, 0, none⟩)), (2, .pointer (some ⟨b373, 0, none⟩)), (3, .int .i64 8219), (27, .agg #[.int .i64 12, .int .i64 1, .int .i64 1, .int .i64 0, .int .u64 0, .int .u64 0, .int .u64 0, .int .u64 0, .int .u64 0, .int .u64 0, .int .i64 0, .int .u32 0, .int .i64 0, .int .i64 0, .int .i64 0, .int .u64 0, .int .i64 0, .int .i64 0, .int .u64 0, .slice none 0 0, .bool false, .int .i64 0, .slice none 0 0, .slice none 0 0, .slice none 0 0])] (by kernel_rfl) fun a hs => ?_
  refine s_new hs hw [.int .i64 0, .int .i64 0, .int .i64 0, .int .i64 0, .int .u64 0, .int .u64 0, .int .u64 0, .int .u64 0, .int .u64 0, .int .u64 0, .int .i64 0, .int .u32 0, .int .i64 0, .int .i64 0, .int .i64 0, .int .u64 0, .int .i64 0, .int .i64 0, .int .u64 0, .slice none 0 0, .bool false, .int .i64 0, .slice none 0 0, .slice none 0 0, .slice none 0 0] 90 (fun b => .pointer (some ⟨b, 0, none⟩)) (by kernel_rfl) (fun _ => by kernel_rfl) fun a w b377 hs hw => ?_
  refine s_store hs hw 0 rfl 0 (by kernel_rfl) (by kernel_rfl) (v := .agg #[.int .i64 12, .int .i64 1, .int .i64 1, .int .i64 0, .int .u64 0, .int .u64 0, .int .u64 0, .int .u64 0, .int .u64 0, .int .u64 0, .int .i64 0, .int .u32 0, .int .i64 0, .int .i64 0, .int .i64 0, .int .u64 0, .int .i64 0, .int .i64 0, .int .u64 0, .slice none 0 0, .bool false, .int .i64 0, .slice none 0 0, .slice none 0 0, .slice none 0 0]) (by kernel_rfl) (by kernel_rfl) (by kernel_rfl) (by kernel_rfl) fun a w hs hw => ?_
  refine s_end ?_
  refine c_seq ?_
  refine c_seq ?_
  refine c_region ?_
  refine pures hs 30 [2, 3, 6, 29, 31, 33, 35, 37, 39, 41, 43, 45, 47, 49, 51, 53, 55, 57] [(2, .pointer (some ⟨b373, 0, none⟩)), (3, .int .i64 8219), (6, .pointer (some ⟨b377, 0, none⟩)), (29, .agg #[.int .i64 1, .func (.func 68) #[] #[.pointer (some ⟨b371, 0, none⟩), .pointer (some ⟨b377, 0, none⟩)]]), (31, .agg #[.int .i64 2, .func (.func 69) #[] #[.pointer (some ⟨b371, 0, none⟩), .pointer (some ⟨b377, 0, none⟩)]]), (33, .agg #[.int .i64 4, .func (.func 70) #[] #[.pointer (some ⟨b371, 0, none⟩), .pointer (some ⟨b377, 0, none⟩)]]), (35, .agg #[.int .i64 8, .func (.func 71) #[] #[.pointer (some ⟨b371, 0, none⟩), .pointer (some ⟨b377, 0, none⟩)]]), (37, .agg #[.int .i64 16, .func (.func 72) #[] #[.pointer (some ⟨b371, 0, none⟩), .pointer (some ⟨b377, 0, none⟩)]]), (39, .agg #[.int .i64 32, .func (.func 73) #[] #[.pointer (some ⟨b371, 0, none⟩), .pointer (some ⟨b377, 0, none⟩)]]), (41, .agg #[.int .i64 64, .func (.func 74) #[] #[.pointer (some ⟨b371, 0, none⟩), .pointer (some ⟨b377, 0, none⟩)]]), (43, .agg #[.int .i64 128, .func (.func 75) #[] #[.pointer (some ⟨b371, 0, none⟩), .pointer (some ⟨b377, 0, none⟩)]]), (45, .agg #[.int .i64 256, .func (.func 76) #[] #[.pointer (some ⟨b371, 0, none⟩), .pointer (some ⟨b377, 0, none⟩)]]), (47, .agg #[.int .i64 512, .func (.func 77) #[] #[.pointer (some ⟨b371, 0, none⟩), .pointer (some ⟨b377, 0, none⟩)]]), (49, .agg #[.int .i64 1024, .func (.func 78) #[] #[.pointer (some ⟨b371, 0, none⟩), .pointer (some ⟨b377, 0, none⟩)]]), (51, .agg #[.int .i64 2048, .func (.func 79) #[] #[.pointer (some ⟨b371, 0, none⟩), .pointer (some ⟨b377, 0, none⟩)]]), (53, .agg #[.int .i64 4096, .func (.func 80) #[] #[.pointer (some ⟨b371, 0, none⟩), .pointer (some ⟨b377, 0, none⟩)]]), (55, .agg #[.int .i64 8192, .func (.func 81) #[] #[.pointer (some ⟨b371, 0, none⟩), .pointer (some ⟨b377, 0, none⟩)]]), (57, .agg #[.int .i64 16384, .func (.func 82) #[] #[.pointer (some ⟨b371, 0, none⟩), .pointer (some ⟨b377, 0, none⟩)]])] (by kernel_rfl) fun a hs => ?_
  refine s_new hs hw [.int .i64 1, .func (.func 68) #[] #[.pointer (some ⟨b371, 0, none⟩), .pointer (some ⟨b377, 0, none⟩)], .int .i64 2, .func (.func 69) #[] #[.pointer (some ⟨b371, 0, none⟩), .pointer (some ⟨b377, 0, none⟩)], .int .i64 4, .func (.func 70) #[] #[.pointer (some ⟨b371, 0, none⟩), .pointer (some ⟨b377, 0, none⟩)], .int .i64 8, .func (.func 71) #[] #[.pointer (some ⟨b371, 0, none⟩), .pointer (some ⟨b377, 0, none⟩)], .int .i64 16, .func (.func 72) #[] #[.pointer (some ⟨b371, 0, none⟩), .pointer (some ⟨b377, 0, none⟩)], .int .i64 32, .func (.func 73) #[] #[.pointer (some ⟨b371, 0, none⟩), .pointer (some ⟨b377, 0, none⟩)], .int .i64 64, .func (.func 74) #[] #[.pointer (some ⟨b371, 0, none⟩), .pointer (some ⟨b377, 0, none⟩)], .int .i64 128, .func (.func 75) #[] #[.pointer (some ⟨b371, 0, none⟩), .pointer (some ⟨b377, 0, none⟩)], .int .i64 256, .func (.func 76) #[] #[.pointer (some ⟨b371, 0, none⟩), .pointer (some ⟨b377, 0, none⟩)], .int .i64 512, .func (.func 77) #[] #[.pointer (some ⟨b371, 0, none⟩), .pointer (some ⟨b377, 0, none⟩)], .int .i64 1024, .func (.func 78) #[] #[.pointer (some ⟨b371, 0, none⟩), .pointer (some ⟨b377, 0, none⟩)], .int .i64 2048, .func (.func 79) #[] #[.pointer (some ⟨b371, 0, none⟩), .pointer (some ⟨b377, 0, none⟩)], .int .i64 4096, .func (.func 80) #[] #[.pointer (some ⟨b371, 0, none⟩), .pointer (some ⟨b377, 0, none⟩)], .int .i64 8192, .func (.func 81) #[] #[.pointer (some ⟨b371, 0, none⟩), .pointer (some ⟨b377, 0, none⟩)], .int .i64 16384, .func (.func 82) #[] #[.pointer (some ⟨b371, 0, none⟩), .pointer (some ⟨b377, 0, none⟩)]] 111 (fun b => .slice (some ⟨b, 0, none⟩) 15 15) (by kernel_rfl) (fun _ => by kernel_rfl) fun a w b381 hs hw => ?_
  refine pures hs 2 [2, 3, 6, 58, 59, 60] [(2, .pointer (some ⟨b373, 0, none⟩)), (3, .int .i64 8219), (6, .pointer (some ⟨b377, 0, none⟩)), (58, .slice (some ⟨b381, 0, none⟩) 15 15), (59, .int .i64 15), (60, .int .i64 0)] (by kernel_rfl) fun a hs => ?_
  refine s_end ?_
  refine c_block ?_
  refine wpIn_loop_rounds 16 ?_
  refine c_unr ?_
  refine c_seq ?_
  refine c_region ?_
  refine pures hs 1 [2, 3, 6, 58, 59, 60, 61] [(2, .pointer (some ⟨b373, 0, none⟩)), (3, .int .i64 8219), (6, .pointer (some ⟨b377, 0, none⟩)), (58, .slice (some ⟨b381, 0, none⟩) 15 15), (59, .int .i64 15), (60, .int .i64 0), (61, .bool true)] (by kernel_rfl) fun a hs => ?_
  refine s_end ?_
  refine c_seq ?_
  refine c_condT hs (by kernel_rfl) (by kernel_rfl) ?_
  refine c_skip ?_
  refine c_seq ?_
  refine c_block ?_
  refine c_seq ?_
  refine c_region ?_
  refine pures hs 1 [2, 3, 6, 58, 59, 60, 62] [(2, .pointer (some ⟨b373, 0, none⟩)), (3, .int .i64 8219), (6, .pointer (some ⟨b377, 0, none⟩)), (58, .slice (some ⟨b381, 0, none⟩) 15 15), (59, .int .i64 15), (60, .int .i64 0), (62, .pointer (some ⟨b381, 0, none⟩))] (by kernel_rfl) fun a hs => ?_
  refine s_load hs (hw.at_ 0 rfl) 0 (by kernel_rfl) (by kernel_rfl) (v := .agg #[.int .i64 1, .func (.func 68) #[] #[.pointer (some ⟨b371, 0, none⟩), .pointer (some ⟨b377, 0, none⟩)]]) (by kernel_rfl) fun a hs => ?_
  refine s_new hs hw [.int .i64 0, .nilFunc] 111 (fun b => .pointer (some ⟨b, 0, none⟩)) (by kernel_rfl) (fun _ => by kernel_rfl) fun a w b565 hs hw => ?_
  refine s_store hs hw 0 rfl 0 (by kernel_rfl) (by kernel_rfl) (v := .agg #[.int .i64 1, .func (.func 68) #[] #[.pointer (some ⟨b371, 0, none⟩), .pointer (some ⟨b377, 0, none⟩)]]) (by kernel_rfl) (by kernel_rfl) (by kernel_rfl) (by kernel_rfl) fun a w hs hw => ?_
  refine s_end ?_
  refine c_seq ?_
  refine c_region ?_
  refine pures hs 2 [2, 3, 6, 58, 59, 60, 8, 64, 65] [(2, .pointer (some ⟨b373, 0, none⟩)), (3, .int .i64 8219), (6, .pointer (some ⟨b377, 0, none⟩)), (58, .slice (some ⟨b381, 0, none⟩) 15 15), (59, .int .i64 15), (60, .int .i64 0), (8, .pointer (some ⟨b565, 0, none⟩)), (64, .int .i64 8219), (65, .pointer (some ⟨b565, 0, none⟩))] (by kernel_rfl) fun a hs => ?_
  refine s_load hs (hw.at_ 0 rfl) 0 (by kernel_rfl) (by kernel_rfl) (v := .int .i64 1) (by kernel_rfl) fun a hs => ?_
  refine pures hs 2 [2, 3, 6, 58, 59, 60, 8, 68] [(2, .pointer (some ⟨b373, 0, none⟩)), (3, .int .i64 8219), (6, .pointer (some ⟨b377, 0, none⟩)), (58, .slice (some ⟨b381, 0, none⟩) 15 15), (59, .int .i64 15), (60, .int .i64 0), (8, .pointer (some ⟨b565, 0, none⟩)), (68, .bool true)] (by kernel_rfl) fun a hs => ?_
  refine s_end ?_
  refine c_condT hs (by kernel_rfl) (by kernel_rfl) ?_
  refine c_region ?_
  refine pures hs 1 [2, 3, 6, 58, 59, 60, 69] [(2, .pointer (some ⟨b373, 0, none⟩)), (3, .int .i64 8219), (6, .pointer (some ⟨b377, 0, none⟩)), (58, .slice (some ⟨b381, 0, none⟩) 15 15), (59, .int .i64 15), (60, .int .i64 0), (69, .pointer (some ⟨b565, 1, none⟩))] (by kernel_rfl) fun a hs => ?_
  refine s_load hs (hw.at_ 0 rfl) 1 (by kernel_rfl) (by kernel_rfl) (v := .func (.func 68) #[] #[.pointer (some ⟨b371, 0, none⟩), .pointer (some ⟨b377, 0, none⟩)]) (by kernel_rfl) fun a hs => ?_
  obtain ⟨y569, h570, hk⟩ := bindE hk
  refine s_call hs (by kernel_rfl) (by kernel_rfl) (letter_bare_1_s (x3 := 12) (x4 := 1) (x5 := 1) (x7 := 1) (x8 := 0) (x9 := 0) (x10 := 0) (x11 := 0) (x12 := 0) (x13 := 0) (x14 := 0) (x15 := 0) (x16 := 0) (x17 := 0) (x18 := 0) (x19 := 0) (x20 := 0) (x21 := 0) (x22 := []) (x26 := false) (x27 := 0) (x28 := []) (x32 := x1) (x36 := []) (x42 := 12) (x43 := 1) (x44 := 1) (x45 := 0) (x46 := 0) (x47 := 0) (x48 := 0) (x49 := 0) (x50 := 0) (x51 := 0) (x52 := 0) (x53 := 0) (x54 := 0) (x55 := 0) (x56 := 0) (x57 := 0) (x58 := 0) (x59 := 0) (x60 := 0) (x61 := []) (x65 := false) (x66 := 0) (x67 := []) (x71 := []) (x75 := []) h570 (RSl.nil _ _ _) (RSl.nil _ _ _) h4 (RSl.nil _ _ _) (RSl.nil _ _ _) (RSl.nil _ _ _) (RSl.nil _ _ _) (RSl.nil _ _ _) ((hw.pick [4, 2, 1, 3, 5] (by kernel_rfl)).pack 2)) fun a w v hv hs => ?_
  obtain ⟨rfl, hw⟩ := hv
  replace hw := hw.unpack 2 rfl
  refine s_end ?_
  refine c_region ?_
  refine pures hs 2 [2, 3, 6, 58, 59, 60] [(2, .pointer (some ⟨b373, 0, none⟩)), (3, .int .i64 8219), (6, .pointer (some ⟨b377, 0, none⟩)), (58, .slice (some ⟨b381, 0, none⟩) 15 15), (59, .int .i64 15), (60, .int .i64 1)] (by kernel_rfl) fun a hs => ?_
  refine s_end ?_
  refine c_unr ?_
  refine c_seq ?_
  refine c_region ?_
  refine pures hs 1 [2, 3, 6, 58, 59, 60, 61] [(2, .pointer (some ⟨b373, 0, none⟩)), (3, .int .i64 8219), (6, .pointer (some ⟨b377, 0, none⟩)), (58, .slice (some ⟨b381, 0, none⟩) 15 15), (59, .int .i64 15), (60, .int .i64 1), (61, .bool true)] (by kernel_rfl) fun a hs => ?_
  refine s_end ?_
  refine c_seq ?_
  refine c_condT hs (by kernel_rfl) (by kernel_rfl) ?_
  refine c_skip ?_
  refine c_seq ?_
  refine c_block ?_
  refine c_seq ?_
  refine c_region ?_
  refine pures hs 1 [2, 3, 6, 58, 59, 60, 62] [(2, .pointer (some ⟨b373, 0, none⟩)), (3, .int .i64 8219), (6, .pointer (some ⟨b377, 0, none⟩)), (58, .slice (some ⟨b381, 0, none⟩) 15 15), (59, .int .i64 15), (60, .int .i64 1), (62, .pointer (some ⟨b381, 2, none⟩))] (by kernel_rfl) fun a hs => ?_
  refine s_load hs (hw.at_ 2 rfl) 2 (by kernel_rfl) (by kernel_rfl) (v := .agg #[.int .i64 2, .func (.func 69) #[] #[.pointer (some ⟨b371, 0, none⟩), .pointer (some ⟨b377, 0, none⟩)]]) (by kernel_rfl) fun a hs => ?_
  refine s_new hs hw [.int .i64 0, .nilFunc] 111 (fun b => .pointer (some ⟨b, 0, none⟩)) (by kernel_rfl) (fun _ => by kernel_rfl) fun a w b581 hs hw => ?_
  refine s_store hs hw 0 rfl 0 (by kernel_rfl) (by kernel_rfl) (v := .agg #[.int .i64 2, .func (.func 69) #[] #[.pointer (some ⟨b371, 0, none⟩), .pointer (some ⟨b377, 0, none⟩)]]) (by kernel_rfl) (by kernel_rfl) (by kernel_rfl) (by kernel_rfl) fun a w hs hw => ?_
  refine s_end ?_
  refine c_seq ?_
  refine c_region ?_
  refine pures hs 2 [2, 3, 6, 58, 59, 60, 8, 64, 65] [(2, .pointer (some ⟨b373, 0, none⟩)), (3, .int .i64 8219), (6, .pointer (some ⟨b377, 0, none⟩)), (58, .slice (some ⟨b381, 0, none⟩) 15 15), (59, .int .i64 15), (60, .int .i64 1), (8, .pointer (some ⟨b581, 0, none⟩)), (64, .int .i64 8219), (65, .pointer (some ⟨b581, 0, none⟩))] (by kernel_rfl) fun a hs => ?_
  refine s_load hs (hw.at_ 0 rfl) 0 (by kernel_rfl) (by kernel_rfl) (v := .int .i64 2) (by kernel_rfl) fun a hs => ?_
  refine pures hs 2 [2, 3, 6, 58, 59, 60, 8, 68] [(2, .pointer (some ⟨b373, 0, none⟩)), (3, .int .i64 8219), (6, .pointer (some ⟨b377, 0, none⟩)), (58, .slice (some ⟨b381, 0, none⟩) 15 15), (59, .int .i64 15), (60, .int .i64 1), (8, .pointer (some ⟨b581, 0, none⟩)), (68, .bool true)] (by kernel_rfl) fun a hs => ?_
  refine s_end ?_
  refine c_condT hs (by kernel_rfl) (by kernel_rfl) ?_
  refine c_region ?_
  refine pures hs 1 [2, 3, 6, 58, 59, 60, 69] [(2, .pointer (some ⟨b373, 0, none⟩)), (3, .int .i64 8219), (6, .pointer (some ⟨b377, 0, none⟩)), (58, .slice (some ⟨b381, 0, none⟩) 15 15), (59, .int .i64 15), (60, .int .i64 1), (69, .pointer (some ⟨b581, 1, none⟩))] (by kernel_rfl) fun a hs => ?_
  refine s_load hs (hw.at_ 0 rfl) 1 (by kernel_rfl) (by kernel_rfl) (v := .func (.func 69) #[] #[.pointer (some ⟨b371, 0, none⟩), .pointer (some ⟨b377, 0, none⟩)]) (by kernel_rfl) fun a hs => ?_
  obtain ⟨y585, h586, hk⟩ := bindE hk
  refine s_call hs (by kernel_rfl) (by kernel_rfl) (letter_bare_2_s (x3 := 12) (x4 := 1) (x5 := 1) (x6 := 0) (x8 := 0) (x9 := 0) (x10 := 0) (x11 := 0) (x12 := 0) (x13 := 0) (x14 := 0) (x15 := 0) (x16 := 0) (x17 := 0) (x18 := 0) (x19 := 0) (x20 := 0) (x21 := 0) (x22 := []) (x26 := false) (x27 := 0) (x28 := []) (x32 := x1) (x36 := []) (x42 := 12) (x43 := 1) (x44 := 1) (x45 := y569) (x46 := 0) (x47 := 0) (x48 := 0) (x49 := 0) (x50 := 0) (x51 := 0) (x52 := 0) (x53 := 0) (x54 := 0) (x55 := 0) (x56 := 0) (x57 := 0) (x58 := 0) (x59 := 0) (x60 := 0) (x61 := []) (x65 := false) (x66 := 0) (x67 := []) (x71 := []) (x75 := []) h586 (RSl.nil _ _ _) (RSl.nil _ _ _) h4 (RSl.nil _ _ _) (RSl.nil _ _ _) (RSl.nil _ _ _) (RSl.nil _ _ _) (RSl.nil _ _ _) ((hw.pick [1, 2, 3, 4, 5] (by kernel_rfl)).pack 2)) fun a w v hv hs => ?_
  obtain ⟨rfl, hw⟩ := hv
  replace hw := hw.unpack 2 rfl
  refine s_end ?_
  refine c_region ?_
  refine pures hs 2 [2, 3, 6, 58, 59, 60] [(2, .pointer (some ⟨b373, 0, none⟩)), (3, .int .i64 8219), (6, .pointer (some ⟨b377, 0, none⟩)), (58, .slice (some ⟨b381, 0, none⟩) 15 15), (59, .int .i64 15), (60, .int .i64 2)] (by kernel_rfl) fun a hs => ?_
  refine s_end ?_
  refine c_unr ?_
  refine c_seq ?_
  refine c_region ?_
  refine pures hs 1 [2, 3, 6, 58, 59, 60, 61] [(2, .pointer (some ⟨b373, 0, none⟩)), (3, .int .i64 8219), (6, .pointer (some ⟨b377, 0, none⟩)), (58, .slice (some ⟨b381, 0, none⟩) 15 15), (59, .int .i64 15), (60, .int .i64 2), (61, .bool true)] (by kernel_rfl) fun a hs => ?_
  refine s_end ?_
  refine c_seq ?_
  refine c_condT hs (by kernel_rfl) (by kernel_rfl) ?_
  refine c_skip ?_
  refine c_seq ?_
  refine c_block ?_
  refine c_seq ?_
  refine c_region ?_
  refine pures hs 1 [2, 3, 6, 58, 59, 60, 62] [(2, .pointer (some ⟨b373, 0, none⟩)), (3, .int .i64 8219), (6, .pointer (some ⟨b377, 0, none⟩)), (58, .slice (some ⟨b381, 0, none⟩) 15 15), (59, .int .i64 15), (60, .int .i64 2), (62, .pointer (some ⟨b381, 4, none⟩))] (by kernel_rfl) fun a hs => ?_
  refine s_load hs (hw.at_ 2 rfl) 4 (by kernel_rfl) (by kernel_rfl) (v := .agg #[.int .i64 4, .func (.func 70) #[] #[.pointer (some ⟨b371, 0, none⟩), .pointer (some ⟨b377, 0, none⟩)]]) (by kernel_rfl) fun a hs => ?_
  refine s_new hs hw [.int .i64 0, .nilFunc] 111 (fun b => .pointer (some ⟨b, 0, none⟩)) (by kernel_rfl) (fun _ => by kernel_rfl) fun a w b593 hs hw => ?_
  refine s_store hs hw 0 rfl 0 (by kernel_rfl) (by kernel_rfl) (v := .agg #[.int .i64 4, .func (.func 70) #[] #[.pointer (some ⟨b371, 0, none⟩), .pointer (some ⟨b377, 0, none⟩)]]) (by kernel_rfl) (by kernel_rfl) (by kernel_rfl) (by kernel_rfl) fun a w hs hw => ?_
  refine s_end ?_
  refine c_seq ?_
  refine c_region ?_
  refine pures hs 2 [2, 3, 6, 58, 59, 60, 8, 64, 65] [(2, .pointer (some ⟨b373, 0, none⟩)), (3, .int .i64 8219), (6, .pointer (some ⟨b377, 0, none⟩)), (58, .slice (some ⟨b381, 0, none⟩) 15 15), (59, .int .i64 15), (60, .int .i64 2), (8, .pointer (some ⟨b593, 0, none⟩)), (64, .int .i64 8219), (65, .pointer (some ⟨b593, 0, none⟩))] (by kernel_rfl) fun a hs => ?_
  refine s_load hs (hw.at_ 0 rfl) 0 (by kernel_rfl) (by kernel_rfl) (v := .int .i64 4) (by kernel_rfl) fun a hs => ?_
  refine pures hs 2 [2, 3, 6, 58, 59, 60, 8, 68] [(2, .pointer (some ⟨b373, 0, none⟩)), (3, .int .i64 8219), (6, .pointer (some ⟨b377, 0, none⟩)), (58, .slice (some ⟨b381, 0, none⟩) 15 15), (59, .int .i64 15), (60, .int .i64 2), (8, .pointer (some ⟨b593, 0, none⟩)), (68, .bool false)] (by kernel_rfl) fun a hs => ?_
  refine s_end ?_
  refine c_condF hs (by kernel_rfl) (by kernel_rfl) ?_
  refine c_skip ?_
  refine c_region ?_
  refine pures hs 2 [2, 3, 6, 58, 59, 60] [(2, .pointer (some ⟨b373, 0, none⟩)), (3, .int .i64 8219), (6, .pointer (some ⟨b377, 0, none⟩)), (58, .slice (some ⟨b381, 0, none⟩) 15 15), (59, .int .i64 15), (60, .int .i64 3)] (by kernel_rfl) fun a hs => ?_
  refine s_end ?_
  refine c_unr ?_
  refine c_seq ?_
  refine c_region ?_
  refine pures hs 1 [2, 3, 6, 58, 59, 60, 61] [(2, .pointer (some ⟨b373, 0, none⟩)), (3, .int .i64 8219), (6, .pointer (some ⟨b377, 0, none⟩)), (58, .slice (some ⟨b381, 0, none⟩) 15 15), (59, .int .i64 15), (60, .int .i64 3), (61, .bool true)] (by kernel_rfl) fun a hs => ?_
  refine s_end ?_
  refine c_seq ?_
  refine c_condT hs (by kernel_rfl) (by kernel_rfl) ?_
  refine c_skip ?_
  refine c_seq ?_
  refine c_block ?_
  refine c_seq ?_
  refine c_region ?_
  refine pures hs 1 [2, 3, 6, 58, 59, 60, 62] [(2, .pointer (some ⟨b373, 0, none⟩)), (3, .int .i64 8219), (6, .pointer (some ⟨b377, 0, none⟩)), (58, .slice (some ⟨b381, 0, none⟩) 15 15), (59, .int .i64 15), (60, .int .i64 3), (62, .pointer (some ⟨b381, 6, none⟩))] (by kernel_rfl) fun a hs => ?_
  refine s_load hs (hw.at_ 3 rfl) 6 (by kernel_rfl) (by kernel_rfl) (v := .agg #[.int .i64 8, .func (.func 71) #[] #[.pointer (some ⟨b371, 0, none⟩), .pointer (some ⟨b377, 0, none⟩)]]) (by kernel_rfl) fun a hs => ?_
  refine s_new hs hw [.int .i64 0, .nilFunc] 111 (fun b => .pointer (some ⟨b, 0, none⟩)) (by kernel_rfl) (fun _ => by kernel_rfl) fun a w b605 hs hw => ?_
  refine s_store hs hw 0 rfl 0 (by kernel_rfl) (by kernel_rfl) (v := .agg #[.int .i64 8, .func (.func 71) #[] #[.pointer (some ⟨b371, 0, none⟩), .pointer (some ⟨b377, 0, none⟩)]]) (by kernel_rfl) (by kernel_rfl) (by kernel_rfl) (by kernel_rfl) fun a w hs hw => ?_
  refine s_end ?_
  refine c_seq ?_
  refine c_region ?_
  refine pures hs 2 [2, 3, 6, 58, 59, 60, 8, 64, 65] [(2, .pointer (some ⟨b373, 0, none⟩)), (3, .int .i64 8219), (6, .pointer (some ⟨b377, 0, none⟩)), (58, .slice (some ⟨b381, 0, none⟩) 15 15), (59, .int .i64 15), (60, .int .i64 3), (8, .pointer (some ⟨b605, 0, none⟩)), (64, .int .i64 8219), (65, .pointer (some ⟨b605, 0, none⟩))] (by kernel_rfl) fun a hs => ?_
  refine s_load hs (hw.at_ 0 rfl) 0 (by kernel_rfl) (by kernel_rfl) (v := .int .i64 8) (by kernel_rfl) fun a hs => ?_
  refine pures hs 2 [2, 3, 6, 58, 59, 60, 8, 68] [(2, .pointer (some ⟨b373, 0, none⟩)), (3, .int .i64 8219), (6, .pointer (some ⟨b377, 0, none⟩)), (58, .slice (some ⟨b381, 0, none⟩) 15 15), (59, .int .i64 15), (60, .int .i64 3), (8, .pointer (some ⟨b605, 0, none⟩)), (68, .bool true)] (by kernel_rfl) fun a hs => ?_
  refine s_end ?_
  refine c_condT hs (by kernel_rfl) (by kernel_rfl) ?_
  refine c_region ?_
  refine pures hs 1 [2, 3, 6, 58, 59, 60, 69] [(2, .pointer (some ⟨b373, 0, none⟩)), (3, .int .i64 8219), (6, .pointer (some ⟨b377, 0, none⟩)), (58, .slice (some ⟨b381, 0, none⟩) 15 15), (59, .int .i64 15), (60, .int .i64 3), (69, .pointer (some ⟨b605, 1, none⟩))] (by kernel_rfl) fun a hs => ?_
  refine s_load hs (hw.at_ 0 rfl) 1 (by kernel_rfl) (by kernel_rfl) (v := .func (.func 71) #[] #[.pointer (some ⟨b371, 0, none⟩), .pointer (some ⟨b377, 0, none⟩)]) (by kernel_rfl) fun a hs => ?_
  obtain ⟨y609, h610, hk⟩ := bindE hk
  refine s_call hs (by kernel_rfl) (by kernel_rfl) (letter_bare_4_s (x3 := 12) (x4 := 1) (x5 := 1) (x6 := 0) (x7 := 1) (x8 := 0) (x9 := 0) (x11 := 0) (x12 := 0) (x13 := 0) (x14 := 0) (x15 := 0) (x16 := 0) (x17 := 0) (x18 := 0) (x19 := 0) (x20 := 0) (x21 := 0) (x22 := []) (x26 := false) (x27 := 0) (x28 := []) (x32 := x1) (x36 := []) (x42 := 12) (x43 := 1) (x44 := 1) (x45 := y569) (x46 := y585) (x47 := 0) (x48 := 0) (x49 := 0) (x50 := 0) (x51 := 0) (x52 := 0) (x53 := 0) (x54 := 0) (x55 := 0) (x56 := 0) (x57 := 0) (x58 := 0) (x59 := 0) (x60 := 0) (x61 := []) (x65 := false) (x66 := 0) (x67 := []) (x71 := []) (x75 := []) h610 (RSl.nil _ _ _) (RSl.nil _ _ _) h4 (RSl.nil _ _ _) (RSl.nil _ _ _) (RSl.nil _ _ _) (RSl.nil _ _ _) (RSl.nil _ _ _) ((hw.pick [2, 3, 4, 5, 6] (by kernel_rfl)).pack 2)) fun a w v hv hs => ?_
  obtain ⟨rfl, hw⟩ := hv
  replace hw := hw.unpack 2 rfl
  refine s_end ?_
  refine c_region ?_
  refine pures hs 2 [2, 3, 6, 58, 59, 60] [(2, .pointer (some ⟨b373, 0, none⟩)), (3, .int .i64 8219), (6, .pointer (some ⟨b377, 0, none⟩)), (58, .slice (some ⟨b381, 0, none⟩) 15 15), (59, .int .i64 15), (60, .int .i64 4)] (by kernel_rfl) fun a hs => ?_
  refine s_end ?_
  refine c_unr ?_
  refine c_seq ?_
  refine c_region ?_
  refine pures hs 1 [2, 3, 6, 58, 59, 60, 61] [(2, .pointer (some ⟨b373, 0, none⟩)), (3, .int .i64 8219), (6, .pointer (some ⟨b377, 0, none⟩)), (58, .slice (some ⟨b381, 0, none⟩) 15 15), (59, .int .i64 15), (60, .int .i64 4), (61, .bool true)] (by kernel_rfl) fun a hs => ?_
  refine s_end ?_
  refine c_seq ?_
  refine c_condT hs (by kernel_rfl) (by kernel_rfl) ?_
  refine c_skip ?_
  refine c_seq ?_
  refine c_block ?_
  refine c_seq ?_
  refine c_region ?_
  refine pures hs 1 [2, 3, 6, 58, 59, 60, 62] [(2, .pointer (some ⟨b373, 0, none⟩)), (3, .int .i64 8219), (6, .pointer (some ⟨b377, 0, none⟩)), (58, .slice (some ⟨b381, 0, none⟩) 15 15), (59, .int .i64 15), (60, .int .i64 4), (62, .pointer (some ⟨b381, 8, none⟩))] (by kernel_rfl) fun a hs => ?_
  refine s_load hs (hw.at_ 2 rfl) 8 (by kernel_rfl) (by kernel_rfl) (v := .agg #[.int .i64 16, .func (.func 72) #[] #[.pointer (some ⟨b371, 0, none⟩), .pointer (some ⟨b377, 0, none⟩)]]) (by kernel_rfl) fun a hs => ?_
  refine s_new hs hw [.int .i64 0, .nilFunc] 111 (fun b => .pointer (some ⟨b, 0, none⟩)) (by kernel_rfl) (fun _ => by kernel_rfl) fun a w b621 hs hw => ?_
  refine s_store hs hw 0 rfl 0 (by kernel_rfl) (by kernel_rfl) (v := .agg #[.int .i64 16, .func (.func 72) #[] #[.pointer (some ⟨b371, 0, none⟩), .pointer (some ⟨b377, 0, none⟩)]]) (by kernel_rfl) (by kernel_rfl) (by kernel_rfl) (by kernel_rfl) fun a w hs hw => ?_
  refine s_end ?_
  refine c_seq ?_
  refine c_region ?_
  refine pures hs 2 [2, 3, 6, 58, 59, 60, 8, 64, 65] [(2, .pointer (some ⟨b373, 0, none⟩)), (3, .int .i64 8219), (6, .pointer (some ⟨b377, 0, none⟩)), (58, .slice (some ⟨b381, 0, none⟩) 15 15), (59, .int .i64 15), (60, .int .i64 4), (8, .pointer (some ⟨b621, 0, none⟩)), (64, .int .i64 8219), (65, .pointer (some ⟨b621, 0, none⟩))] (by kernel_rfl) fun a hs => ?_
  refine s_load hs (hw.at_ 0 rfl) 0 (by kernel_rfl) (by kernel_rfl) (v := .int .i64 16) (by kernel_rfl) fun a hs => ?_
  refine pures hs 2 [2, 3, 6, 58, 59, 60, 8, 68] [(2, .pointer (some ⟨b373, 0, none⟩)), (3, .int .i64 8219), (6, .pointer (some ⟨b377, 0, none⟩)), (58, .slice (some ⟨b381, 0, none⟩) 15 15), (59, .int .i64 15), (60, .int .i64 4), (8, .pointer (some ⟨b621, 0, none⟩)), (68, .bool true)] (by kernel_rfl) fun a hs => ?_
  refine s_end ?_
  refine c_condT hs (by kernel_rfl) (by kernel_rfl) ?_
  refine c_region ?_
  refine pures hs 1 [2, 3, 6, 58, 59, 60, 69] [(2, .pointer (some ⟨b373, 0, none⟩)), (3, .int .i64 8219), (6, .pointer (some ⟨b377, 0, none⟩)), (58, .slice (some ⟨b381, 0, none⟩) 15 15), (59, .int .i64 15), (60, .int .i64 4), (69, .pointer (some ⟨b621, 1, none⟩))] (by kernel_rfl) fun a hs => ?_
  refine s_load hs (hw.at_ 0 rfl) 1 (by kernel_rfl) (by kernel_rfl) (v := .func (.func 72) #[] #[.pointer (some ⟨b371, 0, none⟩), .pointer (some ⟨b377, 0, none⟩)]) (by kernel_rfl) fun a hs => ?_
  obtain ⟨y625, h626, hk⟩ := bindE hk
  refine s_call hs (by kernel_rfl) (by kernel_rfl) (letter_bare_5_s (x3 := 12) (x4 := 1) (x5 := 1) (x6 := 0) (x7 := 1) (x8 := 0) (x9 := 0) (x10 := 0) (x12 := 0) (x13 := 0) (x14 := 0) (x15 := 0) (x16 := 0) (x17 := 0) (x18 := 0) (x19 := 0) (x20 := 0) (x21 := 0) (x22 := []) (x26 := false) (x27 := 0) (x28 := []) (x32 := x1) (x36 := []) (x42 := 12) (x43 := 1) (x44 := 1) (x45 := y569) (x46 := y585) (x47 := 0) (x48 := 0) (x49 := y609) (x50 := 0) (x51 := 0) (x52 := 0) (x53 := 0) (x54 := 0) (x55 := 0) (x56 := 0) (x57 := 0) (x58 := 0) (x59 := 0) (x60 := 0) (x61 := []) (x65 := false) (x66 := 0) (x67 := []) (x71 := []) (x75 := []) h626 (RSl.nil _ _ _) (RSl.nil _ _ _) h4 (RSl.nil _ _ _) (RSl.nil _ _ _) (RSl.nil _ _ _) (RSl.nil _ _ _) (RSl.nil _ _ _) ((hw.pick [1, 2, 3, 4, 5] (by kernel_rfl)).pack 2)) fun a w v hv hs => ?_
  obtain ⟨rfl, hw⟩ := hv
  replace hw := hw.unpack 2 rfl
  refine s_end ?_
  refine c_region ?_
  refine pures hs 2 [2, 3, 6, 58, 59, 60] [(2, .pointer (some ⟨b373, 0, none⟩)), (3, .int .i64 8219), (6, .pointer (some ⟨b377, 0, none⟩)), (58, .slice (some ⟨b381, 0, none⟩) 15 15), (59, .int .i64 15), (60, .int .i64 5)] (by kernel_rfl) fun a hs => ?_
  refine s_end ?_
  refine c_unr ?_
  refine c_seq ?_
  refine c_region ?_
  refine pures hs 1 [2, 3, 6, 58, 59, 60, 61] [(2, .pointer (some ⟨b373, 0, none⟩)), (3, .int .i64 8219), (6, .pointer (some ⟨b377, 0, none⟩)), (58, .slice (some ⟨b381, 0, none⟩) 15 15), (59, .int .i64 15), (60, .int .i64 5), (61, .bool true)] (by kernel_rfl) fun a hs => ?_
  refine s_end ?_
  refine c_seq ?_
  refine c_condT hs (by kernel_rfl) (by kernel_rfl) ?_
  refine c_skip ?_
  refine c_seq ?_
  refine c_block ?_
  refine c_seq ?_
  refine c_region ?_
  refine pures hs 1 [2, 3, 6, 58, 59, 60, 62] [(2, .pointer (some ⟨b373, 0, none⟩)), (3, .int .i64 8219), (6, .pointer (some ⟨b377, 0, none⟩)), (58, .slice (some ⟨b381, 0, none⟩) 15 15), (59, .int .i64 15), (60, .int .i64 5), (62, .pointer (some ⟨b381, 10, none⟩))] (by kernel_rfl) fun a hs => ?_
  refine s_load hs (hw.at_ 2 rfl) 10 (by kernel_rfl) (by kernel_rfl) (v := .agg #[.int .i64 32, .func (.func 73) #[] #[.pointer (some ⟨b371, 0, none⟩), .pointer (some ⟨b377, 0, none⟩)]]) (by kernel_rfl) fun a hs => ?_
  refine s_new hs hw [.int .i64 0, .nilFunc] 111 (fun b => .pointer (some ⟨b, 0, none⟩)) (by kernel_rfl) (fun _ => by kernel_rfl) fun a w b633 hs hw => ?_
  refine s_store hs hw 0 rfl 0 (by kernel_rfl) (by kernel_rfl) (v := .agg #[.int .i64 32, .func (.func 73) #[] #[.pointer (some ⟨b371, 0, none⟩), .pointer (some ⟨b377, 0, none⟩)]]) (by kernel_rfl) (by kernel_rfl) (by kernel_rfl) (by kernel_rfl) fun a w hs hw => ?_
  refine s_end ?_
  refine c_seq ?_
  refine c_region ?_
  refine pures hs 2 [2, 3, 6, 58, 59, 60, 8, 64, 65] [(2, .pointer (some ⟨b373, 0, none⟩)), (3, .int .i64 8219), (6, .pointer (some ⟨b377, 0, none⟩)), (58, .slice (some ⟨b381, 0, none⟩) 15 15), (59, .int .i64 15), (60, .int .i64 5), (8, .pointer (some ⟨b633, 0, none⟩)), (64, .int .i64 8219), (65, .pointer (some ⟨b633, 0, none⟩))] (by kernel_rfl) fun a hs => ?_
  refine s_load hs (hw.at_ 0 rfl) 0 (by kernel_rfl) (by kernel_rfl) (v := .int .i64 32) (by kernel_rfl) fun a hs => ?_
  refine pures hs 2 [2, 3, 6, 58, 59, 60, 8, 68] [(2, .pointer (some ⟨b373, 0, none⟩)), (3, .int .i64 8219), (6, .pointer (some ⟨b377, 0, none⟩)), (58, .slice (some ⟨b381, 0, none⟩) 15 15), (59, .int .i64 15), (60, .int .i64 5), (8, .pointer (some ⟨b633, 0, none⟩)), (68, .bool false)] (by kernel_rfl) fun a hs => ?_
  refine s_end ?_
  refine c_condF hs (by kernel_rfl) (by kernel_rfl) ?_
  refine c_skip ?_
  refine c_region ?_
  refine pures hs 2 [2, 3, 6, 58, 59, 60] [(2, .pointer (some ⟨b373, 0, none⟩)), (3, .int .i64 8219), (6, .pointer (some ⟨b377, 0, none⟩)), (58, .slice (some ⟨b381, 0, none⟩) 15 15), (59, .int .i64 15), (60, .int .i64 6)] (by kernel_rfl) fun a hs => ?_
  refine s_end ?_
  refine c_unr ?_
  refine c_seq ?_
  refine c_region ?_
  refine pures hs 1 [2, 3, 6, 58, 59, 60, 61] [(2, .pointer (some ⟨b373, 0, none⟩)), (3, .int .i64 8219), (6, .pointer (some ⟨b377, 0, none⟩)), (58, .slice (some ⟨b381, 0, none⟩) 15 15), (59, .int .i64 15), (60, .int .i64 6), (61, .bool true)] (by kernel_rfl) fun a hs => ?_
  refine s_end ?_
  refine c_seq ?_
  refine c_condT hs (by kernel_rfl) (by kernel_rfl) ?_
  refine c_skip ?_
  refine c_seq ?_
  refine c_block ?_
  refine c_seq ?_
  refine c_region ?_
  refine pures hs 1 [2, 3, 6, 58, 59, 60, 62] [(2, .pointer (some ⟨b373, 0, none⟩)), (3, .int .i64 8219), (6, .pointer (some ⟨b377, 0, none⟩)), (58, .slice (some ⟨b381, 0, none⟩) 15 15), (59, .int .i64 15), (60, .int .i64 6), (62, .pointer (some ⟨b381, 12, none⟩))] (by kernel_rfl) fun a hs => ?_
  refine s_load hs (hw.at_ 3 rfl) 12 (by kernel_rfl) (by kernel_rfl) (v := .agg #[.int .i64 64, .func (.func 74) #[] #[.pointer (some ⟨b371, 0, none⟩), .pointer (some ⟨b377, 0, none⟩)]]) (by kernel_rfl) fun a hs => ?_
  refine s_new hs hw [.int .i64 0, .nilFunc] 111 (fun b => .pointer (some ⟨b, 0, none⟩)) (by kernel_rfl) (fun _ => by kernel_rfl) fun a w b641 hs hw => ?_
  refine s_store hs hw 0 rfl 0 (by kernel_rfl) (by kernel_rfl) (v := .agg #[.int .i64 64, .func (.func 74) #[] #[.pointer (some ⟨b371, 0, none⟩), .pointer (some ⟨b377, 0, none⟩)]]) (by kernel_rfl) (by kernel_rfl) (by kernel_rfl) (by kernel_rfl) fun a w hs hw => ?_
  refine s_end ?_
  refine c_seq ?_
  refine c_region ?_
  refine pures hs 2 [2, 3, 6, 58, 59, 60, 8, 64, 65] [(2, .pointer (some ⟨b373, 0, none⟩)), (3, .int .i64 8219), (6, .pointer (some ⟨b377, 0, none⟩)), (58, .slice (some ⟨b381, 0, none⟩) 15 15), (59, .int .i64 15), (60, .int .i64 6), (8, .pointer (some ⟨b641, 0, none⟩)), (64, .int .i64 8219), (65, .pointer (some ⟨b641, 0, none⟩))] (by kernel_rfl) fun a hs => ?_
  refine s_load hs (hw.at_ 0 rfl) 0 (by kernel_rfl) (by kernel_rfl) (v := .int .i64 64) (by kernel_rfl) fun a hs => ?_
  refine pures hs 2 [2, 3, 6, 58, 59, 60, 8, 68] [(2, .pointer (some ⟨b373, 0, none⟩)), (3, .int .i64 8219), (6, .pointer (some ⟨b377, 0, none⟩)), (58, .slice (some ⟨b381, 0, none⟩) 15 15), (59, .int .i64 15), (60, .int .i64 6), (8, .pointer (some ⟨b641, 0, none⟩)), (68, .bool false)] (by kernel_rfl) fun a hs => ?_
  refine s_end ?_
  refine c_condF hs (by kernel_rfl) (by kernel_rfl) ?_
  refine c_skip ?_
  refine c_region ?_
  refine pures hs 2 [2, 3, 6, 58, 59, 60] [(2, .pointer (some ⟨b373, 0, none⟩)), (3, .int .i64 8219), (6, .pointer (some ⟨b377, 0, none⟩)), (58, .slice (some ⟨b381, 0, none⟩) 15 15), (59, .int .i64 15), (60, .int .i64 7)] (by kernel_rfl) fun a hs => ?_
  refine s_end ?_
  refine c_unr ?_
  refine c_seq ?_
  refine c_region ?_
  refine pures hs 1 [2, 3, 6, 58, 59, 60, 61] [(2, .pointer (some ⟨b373, 0, none⟩)), (3, .int .i64 8219), (6, .pointer (some ⟨b377, 0, none⟩)), (58, .slice (some ⟨b381, 0, none⟩) 15 15), (59, .int .i64 15), (60, .int .i64 7), (61, .bool true)] (by kernel_rfl) fun a hs => ?_
  refine s_end ?_
  refine c_seq ?_
  refine c_condT hs (by kernel_rfl) (by kernel_rfl) ?_
  refine c_skip ?_
  refine c_seq ?_
  refine c_block ?_
  refine c_seq ?_
  refine c_region ?_
  refine pures hs 1 [2, 3, 6, 58, 59, 60, 62] [(2, .pointer (some ⟨b373, 0, none⟩)), (3, .int .i64 8219), (6, .pointer (some ⟨b377, 0, none⟩)), (58, .slice (some ⟨b381, 0, none⟩) 15 15), (59, .int .i64 15), (60, .int .i64 7), (62, .pointer (some ⟨b381, 14, none⟩))] (by kernel_rfl) fun a hs => ?_
  refine s_load hs (hw.at_ 4 rfl) 14 (by kernel_rfl) (by kernel_rfl) (v := .agg #[.int .i64 128, .func (.func 75) #[] #[.pointer (some ⟨b371, 0, none⟩), .pointer (some ⟨b377, 0, none⟩)]]) (by kernel_rfl) fun a hs => ?_
  refine s_new hs hw [.int .i64 0, .nilFunc] 111 (fun b => .pointer (some ⟨b, 0, none⟩)) (by kernel_rfl) (fun _ => by kernel_rfl) fun a w b649 hs hw => ?_
  refine s_store hs hw 0 rfl 0 (by kernel_rfl) (by kernel_rfl) (v := .agg #[.int .i64 128, .func (.func 75) #[] #[.pointer (some ⟨b371, 0, none⟩), .pointer (some ⟨b377, 0, none⟩)]]) (by kernel_rfl) (by kernel_rfl) (by kernel_rfl) (by kernel_rfl) fun a w hs hw => ?_
  refine s_end ?_
  refine c_seq ?_
  refine c_region ?_
  refine pures hs 2 [2, 3, 6, 58, 59, 60, 8, 64, 65] [(2, .pointer (some ⟨b373, 0, none⟩)), (3, .int .i64 8219), (6, .pointer (some ⟨b377, 0, none⟩)), (58, .slice (some ⟨b381, 0, none⟩) 15 15), (59, .int .i64 15), (60, .int .i64 7), (8, .pointer (some ⟨b649, 0, none⟩)), (64, .int .i64 8219), (65, .pointer (some ⟨b649, 0, none⟩))] (by kernel_rfl) fun a hs => ?_
  refine s_load hs (hw.at_ 0 rfl) 0 (by kernel_rfl) (by kernel_rfl) (v := .int .i64 128) (by kernel_rfl) fun a hs => ?_
  refine pures hs 2 [2, 3, 6, 58, 59, 60, 8, 68] [(2, .pointer (some ⟨b373, 0, none⟩)), (3, .int .i64 8219), (6, .pointer (some ⟨b377, 0, none⟩)), (58, .slice (some ⟨b381, 0, none⟩) 15 15), (59, .int .i64 15), (60, .int .i64 7), (8, .pointer (some ⟨b649, 0, none⟩)), (68, .bool false)] (by kernel_rfl) fun a hs => ?_
  refine s_end ?_
  refine c_condF hs (by kernel_rfl) (by kernel_rfl) ?_
  refine c_skip ?_
  refine c_region ?_
  refine pures hs 2 [2, 3, 6, 58, 59, 60] [(2, .pointer (some ⟨b373, 0, none⟩)), (3, .int .i64 8219), (6, .pointer (some ⟨b377, 0, none⟩)), (58, .slice (some ⟨b381, 0, none⟩) 15 15), (59, .int .i64 15), (60, .int .i64 8)] (by kernel_rfl) fun a hs => ?_
  refine s_end ?_
  refine c_unr ?_
  refine c_seq ?_
  refine c_region ?_
  refine pures hs 1 [2, 3, 6, 58, 59, 60, 61] [(2, .pointer (some ⟨b373, 0, none⟩)), (3, .int .i64 8219), (6, .pointer (some ⟨b377, 0, none⟩)), (58, .slice (some ⟨b381, 0, none⟩) 15 15), (59, .int .i64 15), (60, .int .i64 8), (61, .bool true)] (by kernel_rfl) fun a hs => ?_
  refine s_end ?_
  refine c_seq ?_
  refine c_condT hs (by kernel_rfl) (by kernel_rfl) ?_
  refine c_skip ?_
  refine c_seq ?_
  refine c_block ?_
  refine c_seq ?_
  refine c_region ?_
  refine pures hs 1 [2, 3, 6, 58, 59, 60, 62] [(2, .pointer (some ⟨b373, 0, none⟩)), (3, .int .i64 8219), (6, .pointer (some ⟨b377, 0, none⟩)), (58, .slice (some ⟨b381, 0, none⟩) 15 15), (59, .int .i64 15), (60, .int .i64 8), (62, .pointer (some ⟨b381, 16, none⟩))] (by kernel_rfl) fun a hs => ?_
  refine s_load hs (hw.at_ 5 rfl) 16 (by kernel_rfl) (by kernel_rfl) (v := .agg #[.int .i64 256, .func (.func 76) #[] #[.pointer (some ⟨b371, 0, none⟩), .pointer (some ⟨b377, 0, none⟩)]]) (by kernel_rfl) fun a hs => ?_
  refine s_new hs hw [.int .i64 0, .nilFunc] 111 (fun b => .pointer (some ⟨b, 0, none⟩)) (by kernel_rfl) (fun _ => by kernel_rfl) fun a w b657 hs hw => ?_
  refine s_store hs hw 0 rfl 0 (by kernel_rfl) (by kernel_rfl) (v := .agg #[.int .i64 256, .func (.func 76) #[] #[.pointer (some ⟨b371, 0, none⟩), .pointer (some ⟨b377, 0, none⟩)]]) (by kernel_rfl) (by kernel_rfl) (by kernel_rfl) (by kernel_rfl) fun a w hs hw => ?_
  refine s_end ?_
  refine c_seq ?_
  refine c_region ?_
  refine pures hs 2 [2, 3, 6, 58, 59, 60, 8, 64, 65] [(2, .pointer (some ⟨b373, 0, none⟩)), (3, .int .i64 8219), (6, .pointer (some ⟨b377, 0, none⟩)), (58, .slice (some ⟨b381, 0, none⟩) 15 15), (59, .int .i64 15), (60, .int .i64 8), (8, .pointer (some ⟨b657, 0, none⟩)), (64, .int .i64 8219), (65, .pointer (some ⟨b657, 0, none⟩))] (by kernel_rfl) fun a hs => ?_
  refine s_load hs (hw.at_ 0 rfl) 0 (by kernel_rfl) (by kernel_rfl) (v := .int .i64 256) (by kernel_rfl) fun a hs => ?_
  refine pures hs 2 [2, 3, 6, 58, 59, 60, 8, 68] [(2, .pointer (some ⟨b373, 0, none⟩)), (3, .int .i64 8219), (6, .pointer (some ⟨b377, 0, none⟩)), (58, .slice (some ⟨b381, 0, none⟩) 15 15), (59, .int .i64 15), (60, .int .i64 8), (8, .pointer (some ⟨b657, 0, none⟩)), (68, .bool false)] (by kernel_rfl) fun a hs => ?_
  refine s_end ?_
  refine c_condF hs (by kernel_rfl) (by kernel_rfl) ?_
  refine c_skip ?_
  refine c_region ?_
  refine pures hs 2 [2, 3, 6, 58, 59, 60] [(2, .pointer (some ⟨b373, 0, none⟩)), (3, .int .i64 8219), (6, .pointer (some ⟨b377, 0, none⟩)), (58, .slice (some ⟨b381, 0, none⟩) 15 15), (59, .int .i64 15), (60, .int .i64 9)] (by kernel_rfl) fun a hs => ?_
  refine s_end ?_
  refine c_unr ?_
  refine c_seq ?_
  refine c_region ?_
  refine pures hs 1 [2, 3, 6, 58, 59, 60, 61] [(2, .pointer (some ⟨b373, 0, none⟩)), (3, .int .i64 8219), (6, .pointer (some ⟨b377, 0, none⟩)), (58, .slice (some ⟨b381, 0, none⟩) 15 15), (59, .int .i64 15), (60, .int .i64 9), (61, .bool true)] (by kernel_rfl) fun a hs => ?_
  refine s_end ?_
  refine c_seq ?_
  refine c_condT hs (by kernel_rfl) (by kernel_rfl) ?_
  refine c_skip ?_
  refine c_seq ?_
  refine c_block ?_
  refine c_seq ?_
  refine c_region ?_
  refine pures hs 1 [2, 3, 6, 58, 59, 60, 62] [(2, .pointer (some ⟨b373, 0, none⟩)), (3, .int .i64 8219), (6, .pointer (some ⟨b377, 0, none⟩)), (58, .slice (some ⟨b381, 0, none⟩) 15 15), (59, .int .i64 15), (60, .int .i64 9), (62, .pointer (some ⟨b381, 18, none⟩))] (by kernel_rfl) fun a hs => ?_
  refine s_load hs (hw.at_ 6 rfl) 18 (by kernel_rfl) (by kernel_rfl) (v := .agg #[.int .i64 512, .func (.func 77) #[] #[.pointer (some ⟨b371, 0, none⟩), .pointer (some ⟨b377, 0, none⟩)]]) (by kernel_rfl) fun a hs => ?_
  refine s_new hs hw [.int .i64 0, .nilFunc] 111 (fun b => .pointer (some ⟨b, 0, none⟩)) (by kernel_rfl) (fun _ => by kernel_rfl) fun a w b665 hs hw => ?_
  refine s_store hs hw 0 rfl 0 (by kernel_rfl) (by kernel_rfl) (v := .agg #[.int .i64 512, .func (.func 77) #[] #[.pointer (some ⟨b371, 0, none⟩), .pointer (some ⟨b377, 0, none⟩)]]) (by kernel_rfl) (by kernel_rfl) (by kernel_rfl) (by kernel_rfl) fun a w hs hw => ?_
  refine s_end ?_
  refine c_seq ?_
  refine c_region ?_
  refine pures hs 2 [2, 3, 6, 58, 59, 60, 8, 64, 65] [(2, .pointer (some ⟨b373, 0, none⟩)), (3, .int .i64 8219), (6, .pointer (some ⟨b377, 0, none⟩)), (58, .slice (some ⟨b381, 0, none⟩) 15 15), (59, .int .i64 15), (60, .int .i64 9), (8, .pointer (some ⟨b665, 0, none⟩)), (64, .int .i64 8219), (65, .pointer (some ⟨b665, 0, none⟩))] (by kernel_rfl) fun a hs => ?_
  refine s_load hs (hw.at_ 0 rfl) 0 (by kernel_rfl) (by kernel_rfl) (v := .int .i64 512) (by kernel_rfl) fun a hs => ?_
  refine pures hs 2 [2, 3, 6, 58, 59, 60, 8, 68] [(2, .pointer (some ⟨b373, 0, none⟩)), (3, .int .i64 8219), (6, .pointer (some ⟨b377, 0, none⟩)), (58, .slice (some ⟨b381, 0, none⟩) 15 15), (59, .int .i64 15), (60, .int .i64 9), (8, .pointer (some ⟨b665, 0, none⟩)), (68, .bool false)] (by kernel_rfl) fun a hs => ?_
  refine s_end ?_
  refine c_condF hs (by kernel_rfl) (by kernel_rfl) ?_
  refine c_skip ?_
  refine c_region ?_
  refine pures hs 2 [2, 3, 6, 58, 59, 60] [(2, .pointer (some ⟨b373, 0, none⟩)), (3, .int .i64 8219), (6, .pointer (some ⟨b377, 0, none⟩)), (58, .slice (some ⟨b381, 0, none⟩) 15 15), (59, .int .i64 15), (60, .int .i64 10)] (by kernel_rfl) fun a hs => ?_
  refine s_end ?_
  refine c_unr ?_
  refine c_seq ?_
  refine c_region ?_
  refine pures hs 1 [2, 3, 6, 58, 59, 60, 61] [(2, .pointer (some ⟨b373, 0, none⟩)), (3, .int .i64 8219), (6, .pointer (some ⟨b377, 0, none⟩)), (58, .slice (some ⟨b381, 0, none⟩) 15 15), (59, .int .i64 15), (60, .int .i64 10), (61, .bool true)] (by kernel_rfl) fun a hs => ?_
  refine s_end ?_
  refine c_seq ?_
  refine c_condT hs (by kernel_rfl) (by kernel_rfl) ?_
  refine c_skip ?_
  refine c_seq ?_
  refine c_block ?_
  refine c_seq ?_
  refine c_region ?_
  refine pures hs 1 [2, 3, 6, 58, 59, 60, 62] [(2, .pointer (some ⟨b373, 0, none⟩)), (3, .int .i64 8219), (6, .pointer (some ⟨b377, 0, none⟩)), (58, .slice (some ⟨b381, 0, none⟩) 15 15), (59, .int .i64 15), (60, .int .i64 10), (62, .pointer (some ⟨b381, 20, none⟩))] (by kernel_rfl) fun a hs => ?_
  refine s_load hs (hw.at_ 7 rfl) 20 (by kernel_rfl) (by kernel_rfl) (v := .agg #[.int .i64 1024, .func (.func 78) #[] #[.pointer (some ⟨b371, 0, none⟩), .pointer (some ⟨b377, 0, none⟩)]]) (by kernel_rfl) fun a hs => ?_
  refine s_new hs hw [.int .i64 0, .nilFunc] 111 (fun b => .pointer (some ⟨b, 0, none⟩)) (by kernel_rfl) (fun _ => by kernel_rfl) fun a w b673 hs hw => ?_
  refine s_store hs hw 0 rfl 0 (by kernel_rfl) (by kernel_rfl) (v := .agg #[.int .i64 1024, .func (.func 78) #[] #[.pointer (some ⟨b371, 0, none⟩), .pointer (some ⟨b377, 0, none⟩)]]) (by kernel_rfl) (by kernel_rfl) (by kernel_rfl) (by kernel_rfl) fun a w hs hw => ?_
  refine s_end ?_
  refine c_seq ?_
  refine c_region ?_
  refine pures hs 2 [2, 3, 6, 58, 59, 60, 8, 64, 65] [(2, .pointer (some ⟨b373, 0, none⟩)), (3, .int .i64 8219), (6, .pointer (some ⟨b377, 0, none⟩)), (58, .slice (some ⟨b381, 0, none⟩) 15 15), (59, .int .i64 15), (60, .int .i64 10), (8, .pointer (some ⟨b673, 0, none⟩)), (64, .int .i64 8219), (65, .pointer (some ⟨b673, 0, none⟩))] (by kernel_rfl) fun a hs => ?_
  refine s_load hs (hw.at_ 0 rfl) 0 (by kernel_rfl) (by kernel_rfl) (v := .int .i64 1024) (by kernel_rfl) fun a hs => ?_
  refine pures hs 2 [2, 3, 6, 58, 59, 60, 8, 68] [(2, .pointer (some ⟨b373, 0, none⟩)), (3, .int .i64 8219), (6, .pointer (some ⟨b377, 0, none⟩)), (58, .slice (some ⟨b381, 0, none⟩) 15 15), (59, .int .i64 15), (60, .int .i64 10), (8, .pointer (some ⟨b673, 0, none⟩)), (68, .bool false)] (by kernel_rfl) fun a hs => ?_
  refine s_end ?_
  refine c_condF hs (by kernel_rfl) (by kernel_rfl) ?_
  refine c_skip ?_
  refine c_region ?_
  refine pures hs 2 [2, 3, 6, 58, 59, 60] [(2, .pointer (some ⟨b373, 0, none⟩)), (3, .int .i64 8219), (6, .pointer (some ⟨b377, 0, none⟩)), (58, .slice (some ⟨b381, 0, none⟩) 15 15), (59, .int .i64 15), (60, .int .i64 11)] (by kernel_rfl) fun a hs => ?_
  refine s_end ?_
  refine c_unr ?_
  refine c_seq ?_
  refine c_region ?_
  refine pures hs 1 [2, 3, 6, 58, 59, 60, 61] [(2, .pointer (some ⟨b373, 0, none⟩)), (3, .int .i64 8219), (6, .pointer (some ⟨b377, 0, none⟩)), (58, .slice (some ⟨b381, 0, none⟩) 15 15), (59, .int .i64 15), (60, .int .i64 11), (61, .bool true)] (by kernel_rfl) fun a hs => ?_
  refine s_end ?_
  refine c_seq ?_
  refine c_condT hs (by kernel_rfl) (by kernel_rfl) ?_
  refine c_skip ?_
  refine c_seq ?_
  refine c_block ?_
  refine c_seq ?_
  refine c_region ?_
  refine pures hs 1 [2, 3, 6, 58, 59, 60, 62] [(2, .pointer (some ⟨b373, 0, none⟩)), (3, .int .i64 8219), (6, .pointer (some ⟨b377, 0, none⟩)), (58, .slice (some ⟨b381, 0, none⟩) 15 15), (59, .int .i64 15), (60, .int .i64 11), (62, .pointer (some ⟨b381, 22, none⟩))] (by kernel_rfl) fun a hs => ?_
  refine s_load hs (hw.at_ 8 rfl) 22 (by kernel_rfl) (by kernel_rfl) (v := .agg #[.int .i64 2048, .func (.func 79) #[] #[.pointer (some ⟨b371, 0, none⟩), .pointer (some ⟨b377, 0, none⟩)]]) (by kernel_rfl) fun a hs => ?_
  refine s_new hs hw [.int .i64 0, .nilFunc] 111 (fun b => .pointer (some ⟨b, 0, none⟩)) (by kernel_rfl) (fun _ => by kernel_rfl) fun a w b681 hs hw => ?_
  refine s_store hs hw 0 rfl 0 (by kernel_rfl) (by kernel_rfl) (v := .agg #[.int .i64 2048, .func (.func 79) #[] #[.pointer (some ⟨b371, 0, none⟩), .pointer (some ⟨b377, 0, none⟩)]]) (by kernel_rfl) (by kernel_rfl) (by kernel_rfl) (by kernel_rfl) fun a w hs hw => ?_
  refine s_end ?_
  refine c_seq ?_
  refine c_region ?_
  refine pures hs 2 [2, 3, 6, 58, 59, 60, 8, 64, 65] [(2, .pointer (some ⟨b373, 0, none⟩)), (3, .int .i64 8219), (6, .pointer (some ⟨b377, 0, none⟩)), (58, .slice (some ⟨b381, 0, none⟩) 15 15), (59, .int .i64 15), (60, .int .i64 11), (8, .pointer (some ⟨b681, 0, none⟩)), (64, .int .i64 8219), (65, .pointer (some ⟨b681, 0, none⟩))] (by kernel_rfl) fun a hs => ?_
  refine s_load hs (hw.at_ 0 rfl) 0 (by kernel_rfl) (by kernel_rfl) (v := .int .i64 2048) (by kernel_rfl) fun a hs => ?_
  refine pures hs 2 [2, 3, 6, 58, 59, 60, 8, 68] [(2, .pointer (some ⟨b373, 0, none⟩)), (3, .int .i64 8219), (6, .pointer (some ⟨b377, 0, none⟩)), (58, .slice (some ⟨b381, 0, none⟩) 15 15), (59, .int .i64 15), (60, .int .i64 11), (8, .pointer (some ⟨b681, 0, none⟩)), (68, .bool false)] (by kernel_rfl) fun a hs => ?_
  refine s_end ?_
  refine c_condF hs (by kernel_rfl) (by kernel_rfl) ?_
  refine c_skip ?_
  refine c_region ?_
  refine pures hs 2 [2, 3, 6, 58, 59, 60] [(2, .pointer (some ⟨b373, 0, none⟩)), (3, .int .i64 8219), (6, .pointer (some ⟨b377, 0, none⟩)), (58, .slice (some ⟨b381, 0, none⟩) 15 15), (59, .int .i64 15), (60, .int .i64 12)] (by kernel_rfl) fun a hs => ?_
  refine s_end ?_
  refine c_unr ?_
  refine c_seq ?_
  refine c_region ?_
  refine pures hs 1 [2, 3, 6, 58, 59, 60, 61] [(2, .pointer (some ⟨b373, 0, none⟩)), (3, .int .i64 8219), (6, .pointer (some ⟨b377, 0, none⟩)), (58, .slice (some ⟨b381, 0, none⟩) 15 15), (59, .int .i64 15), (60, .int .i64 12), (61, .bool true)] (by kernel_rfl) fun a hs => ?_
  refine s_end ?_
  refine c_seq ?_
  refine c_condT hs (by kernel_rfl) (by kernel_rfl) ?_
  refine c_skip ?_
  refine c_seq ?_
  refine c_block ?_
  refine c_seq ?_
  refine c_region ?_
  refine pures hs 1 [2, 3, 6, 58, 59, 60, 62] [(2, .pointer (some ⟨b373, 0, none⟩)), (3, .int .i64 8219), (6, .pointer (some ⟨b377, 0, none⟩)), (58, .slice (some ⟨b381, 0, none⟩) 15 15), (59, .int .i64 15), (60, .int .i64 12), (62, .pointer (some ⟨b381, 24, none⟩))] (by kernel_rfl) fun a hs => ?_
  refine s_load hs (hw.at_ 9 rfl) 24 (by kernel_rfl) (by kernel_rfl) (v := .agg #[.int .i64 4096, .func (.func 80) #[] #[.pointer (some ⟨b371, 0, none⟩), .pointer (some ⟨b377, 0, none⟩)]]) (by kernel_rfl) fun a hs => ?_
  refine s_new hs hw [.int .i64 0, .nilFunc] 111 (fun b => .pointer (some ⟨b, 0, none⟩)) (by kernel_rfl) (fun _ => by kernel_rfl) fun a w b689 hs hw => ?_
  refine s_store hs hw 0 rfl 0 (by kernel_rfl) (by kernel_rfl) (v := .agg #[.int .i64 4096, .func (.func 80) #[] #[.pointer (some ⟨b371, 0, none⟩), .pointer (some ⟨b377, 0, none⟩)]]) (by kernel_rfl) (by kernel_rfl) (by kernel_rfl) (by kernel_rfl) fun a w hs hw => ?_
  refine s_end ?_
  refine c_seq ?_
  refine c_region ?_
  refine pures hs 2 [2, 3, 6, 58, 59, 60, 8, 64, 65] [(2, .pointer (some ⟨b373, 0, none⟩)), (3, .int .i64 8219), (6, .pointer (some ⟨b377, 0, none⟩)), (58, .slice (some ⟨b381, 0, none⟩) 15 15), (59, .int .i64 15), (60, .int .i64 12), (8, .pointer (some ⟨b689, 0, none⟩)), (64, .int .i64 8219), (65, .pointer (some ⟨b689, 0, none⟩))] (by kernel_rfl) fun a hs => ?_
  refine s_load hs (hw.at_ 0 rfl) 0 (by kernel_rfl) (by kernel_rfl) (v := .int .i64 4096) (by kernel_rfl) fun a hs => ?_
  refine pures hs 2 [2, 3, 6, 58, 59, 60, 8, 68] [(2, .pointer (some ⟨b373, 0, none⟩)), (3, .int .i64 8219), (6, .pointer (some ⟨b377, 0, none⟩)), (58, .slice (some ⟨b381, 0, none⟩) 15 15), (59, .int .i64 15), (60, .int .i64 12), (8, .pointer (some ⟨b689, 0, none⟩)), (68, .bool false)] (by kernel_rfl) fun a hs => ?_
  refine s_end ?_
  refine c_condF hs (by kernel_rfl) (by kernel_rfl) ?_
  refine c_skip ?_
  refine c_region ?_
  refine pures hs 2 [2, 3, 6, 58, 59, 60] [(2, .pointer (some ⟨b373, 0, none⟩)), (3, .int .i64 8219), (6, .pointer (some ⟨b377, 0, none⟩)), (58, .slice (some ⟨b381, 0, none⟩) 15 15), (59, .int .i64 15), (60, .int .i64 13)] (by kernel_rfl) fun a hs => ?_
  refine s_end ?_
  refine c_unr ?_
  refine c_seq ?_
  refine c_region ?_
  refine pures hs 1 [2, 3, 6, 58, 59, 60, 61] [(2, .pointer (some ⟨b373, 0, none⟩)), (3, .int .i64 8219), (6, .pointer (some ⟨b377, 0, none⟩)), (58, .slice (some ⟨b381, 0, none⟩) 15 15), (59, .int .i64 15), (60, .int .i64 13), (61, .bool true)] (by kernel_rfl) fun a hs => ?_
  refine s_end ?_
  refine c_seq ?_
  refine c_condT hs (by kernel_rfl) (by kernel_rfl) ?_
  refine c_skip ?_
  refine c_seq ?_
  refine c_block ?_
  refine c_seq ?_
  refine c_region ?_
  refine pures hs 1 [2, 3, 6, 58, 59, 60, 62] [(2, .pointer (some ⟨b373, 0, none⟩)), (3, .int .i64 8219), (6, .pointer (some ⟨b377, 0, none⟩)), (58, .slice (some ⟨b381, 0, none⟩) 15 15), (59, .int .i64 15), (60, .int .i64 13), (62, .pointer (some ⟨b381, 26, none⟩))] (by kernel_rfl) fun a hs => ?_
  refine s_load hs (hw.at_ 10 rfl) 26 (by kernel_rfl) (by kernel_rfl) (v := .agg #[.int .i64 8192, .func (.func 81) #[] #[.pointer (some ⟨b371, 0, none⟩), .pointer (some ⟨b377, 0, none⟩)]]) (by kernel_rfl) fun a hs => ?_
  refine s_new hs hw [.int .i64 0, .nilFunc] 111 (fun b => .pointer (some ⟨b, 0, none⟩)) (by kernel_rfl) (fun _ => by kernel_rfl) fun a w b707 hs hw => ?_
  refine s_store hs hw 0 rfl 0 (by kernel_rfl) (by kernel_rfl) (v := .agg #[.int .i64 8192, .func (.func 81) #[] #[.pointer (some ⟨b371, 0, none⟩), .pointer (some ⟨b377, 0, none⟩)]]) (by kernel_rfl) (by kernel_rfl) (by kernel_rfl) (by kernel_rfl) fun a w hs hw => ?_
  refine s_end ?_
  refine c_seq ?_
  refine c_region ?_
  refine pures hs 2 [2, 3, 6, 58, 59, 60, 8, 64, 65] [(2, .pointer (some ⟨b373, 0, none⟩)), (3, .int .i64 8219), (6, .pointer (some ⟨b377, 0, none⟩)), (58, .slice (some ⟨b381, 0, none⟩) 15 15), (59, .int .i64 15), (60, .int .i64 13), (8, .pointer (some ⟨b707, 0, none⟩)), (64, .int .i64 8219), (65, .pointer (some ⟨b707, 0, none⟩))] (by kernel_rfl) fun a hs => ?_
  refine s_load hs (hw.at_ 0 rfl) 0 (by kernel_rfl) (by kernel_rfl) (v := .int .i64 8192) (by kernel_rfl) fun a hs => ?_
  refine pures hs 2 [2, 3, 6, 58, 59, 60, 8, 68] [(2, .pointer (some ⟨b373, 0, none⟩)), (3, .int .i64 8219), (6, .pointer (some ⟨b377, 0, none⟩)), (58, .slice (some ⟨b381, 0, none⟩) 15 15), (59, .int .i64 15), (60, .int .i64 13), (8, .pointer (some ⟨b707, 0, none⟩)), (68, .bool true)] (by kernel_rfl) fun a hs => ?_
  refine s_end ?_
  refine c_condT hs (by kernel_rfl) (by kernel_rfl) ?_
  refine c_region ?_
  refine pures hs 1 [2, 3, 6, 58, 59, 60, 69] [(2, .pointer (some ⟨b373, 0, none⟩)), (3, .int .i64 8219), (6, .pointer (some ⟨b377, 0, none⟩)), (58, .slice (some ⟨b381, 0, none⟩) 15 15), (59, .int .i64 15), (60, .int .i64 13), (69, .pointer (some ⟨b707, 1, none⟩))] (by kernel_rfl) fun a hs => ?_
  refine s_load hs (hw.at_ 0 rfl) 1 (by kernel_rfl) (by kernel_rfl) (v := .func (.func 81) #[] #[.pointer (some ⟨b371, 0, none⟩), .pointer (some ⟨b377, 0, none⟩)]) (by kernel_rfl) fun a hs => ?_
  obtain ⟨y714, h715, hk⟩ := bindE hk
  refine s_call hs (by kernel_rfl) (by kernel_rfl) (letter_bare_14_s (x3 := 12) (x4 := 1) (x5 := 1) (x6 := 0) (x7 := 1) (x8 := 0) (x9 := 0) (x10 := 0) (x11 := 0) (x12 := 0) (x13 := 0) (x14 := 0) (x15 := 0) (x16 := 0) (x17 := 0) (x18 := 0) (x19 := 0) (x20 := 0) (x21 := 0) (x22 := []) (x26 := false) (x27 := 0) (x28 := []) (x36 := []) (x42 := 12) (x43 := 1) (x44 := 1) (x45 := y569) (x46 := y585) (x47 := 0) (x48 := 0) (x49 := y609) (x50 := y625) (x51 := 0) (x52 := 0) (x53 := 0) (x54 := 0) (x55 := 0) (x56 := 0) (x57 := 0) (x58 := 0) (x59 := 0) (x60 := 0) (x61 := []) (x65 := false) (x66 := 0) (x67 := []) (x71 := []) (x75 := []) h715 (RSl.nil _ _ _) (RSl.nil _ _ _) h4 (RSl.nil _ _ _) (RSl.nil _ _ _) (RSl.nil _ _ _) (RSl.nil _ _ _) (RSl.nil _ _ _) ((hw.pick [9, 10, 11, 12, 13] (by kernel_rfl)).pack 2)) fun a w v hv hs => ?_
  obtain ⟨p716, c717, rfl, hw, h718⟩ := hv
  replace hw := hw.unpack 2 rfl
  refine s_end ?_
  refine c_region ?_
  refine pures hs 2 [2, 3, 6, 58, 59, 60] [(2, .pointer (some ⟨b373, 0, none⟩)), (3, .int .i64 8219), (6, .pointer (some ⟨b377, 0, none⟩)), (58, .slice (some ⟨b381, 0, none⟩) 15 15), (59, .int .i64 15), (60, .int .i64 14)] (by kernel_rfl) fun a hs => ?_
  refine s_end ?_
  refine c_unr ?_
  refine c_seq ?_
  refine c_region ?_
  refine pures hs 1 [2, 3, 6, 58, 59, 60, 61] [(2, .pointer (some ⟨b373, 0, none⟩)), (3, .int .i64 8219), (6, .pointer (some ⟨b377, 0, none⟩)), (58, .slice (some ⟨b381, 0, none⟩) 15 15), (59, .int .i64 15), (60, .int .i64 14), (61, .bool true)] (by kernel_rfl) fun a hs => ?_
  refine s_end ?_
  refine c_seq ?_
  refine c_condT hs (by kernel_rfl) (by kernel_rfl) ?_
  refine c_skip ?_
  refine c_seq ?_
  refine c_block ?_
  refine c_seq ?_
  refine c_region ?_
  refine pures hs 1 [2, 3, 6, 58, 59, 60, 62] [(2, .pointer (some ⟨b373, 0, none⟩)), (3, .int .i64 8219), (6, .pointer (some ⟨b377, 0, none⟩)), (58, .slice (some ⟨b381, 0, none⟩) 15 15), (59, .int .i64 15), (60, .int .i64 14), (62, .pointer (some ⟨b381, 28, none⟩))] (by kernel_rfl) fun a hs => ?_
  refine s_load hs (hw.at_ 2 rfl) 28 (by kernel_rfl) (by kernel_rfl) (v := .agg #[.int .i64 16384, .func (.func 82) #[] #[.pointer (some ⟨b371, 0, none⟩), .pointer (some ⟨b377, 0, none⟩)]]) (by kernel_rfl) fun a hs => ?_
  refine s_new hs hw [.int .i64 0, .nilFunc] 111 (fun b => .pointer (some ⟨b, 0, none⟩)) (by kernel_rfl) (fun _ => by kernel_rfl) fun a w b725 hs hw => ?_
  refine s_store hs hw 0 rfl 0 (by kernel_rfl) (by kernel_rfl) (v := .agg #[.int .i64 16384, .func (.func 82) #[] #[.pointer (some ⟨b371, 0, none⟩), .pointer (some ⟨b377, 0, none⟩)]]) (by kernel_rfl) (by kernel_rfl) (by kernel_rfl) (by kernel_rfl) fun a w hs hw => ?_
  refine s_end ?_
  refine c_seq ?_
  refine c_region ?_
  refine pures hs 2 [2, 3, 6, 58, 59, 60, 8, 64, 65] [(2, .pointer (some ⟨b373, 0, none⟩)), (3, .int .i64 8219), (6, .pointer (some ⟨b377, 0, none⟩)), (58, .slice (some ⟨b381, 0, none⟩) 15 15), (59, .int .i64 15), (60, .int .i64 14), (8, .pointer (some ⟨b725, 0, none⟩)), (64, .int .i64 8219), (65, .pointer (some ⟨b725, 0, none⟩))] (by kernel_rfl) fun a hs => ?_
  refine s_load hs (hw.at_ 0 rfl) 0 (by kernel_rfl) (by kernel_rfl) (v := .int .i64 16384) (by kernel_rfl) fun a hs => ?_
  refine pures hs 2 [2, 3, 6, 58, 59, 60, 8, 68] [(2, .pointer (some ⟨b373, 0, none⟩)), (3, .int .i64 8219), (6, .pointer (some ⟨b377, 0, none⟩)), (58, .slice (some ⟨b381, 0, none⟩) 15 15), (59, .int .i64 15), (60, .int .i64 14), (8, .pointer (some ⟨b725, 0, none⟩)), (68, .bool false)] (by kernel_rfl) fun a hs => ?_
  refine s_end ?_
  refine c_condF hs (by kernel_rfl) (by kernel_rfl) ?_
  refine c_skip ?_
  refine c_region ?_
  refine pures hs 2 [2, 3, 6, 58, 59, 60] [(2, .pointer (some ⟨b373, 0, none⟩)), (3, .int .i64 8219), (6, .pointer (some ⟨b377, 0, none⟩)), (58, .slice (some ⟨b381, 0, none⟩) 15 15), (59, .int .i64 15), (60, .int .i64 15)] (by kernel_rfl) fun a hs => ?_
  refine s_end ?_
  refine c_unr ?_
  refine c_seq ?_
  refine c_region ?_
  refine pures hs 1 [2, 3, 6, 58, 59, 60, 61] [(2, .pointer (some ⟨b373, 0, none⟩)), (3, .int .i64 8219), (6, .pointer (some ⟨b377, 0, none⟩)), (58, .slice (some ⟨b381, 0, none⟩) 15 15), (59, .int .i64 15), (60, .int .i64 15), (61, .bool false)] (by kernel_rfl) fun a hs => ?_
  refine s_end ?_
  refine c_seq ?_
  refine c_condF hs (by kernel_rfl) (by kernel_rfl) ?_
  refine c_exit ?_
  refine c_seq ?_
  refine c_region ?_
  refine s_load hs (hw.at_ 2 rfl) 0 (by kernel_rfl) (by kernel_rfl) (v := .agg #[.int .i64 12, .int .i64 1, .int .i64 1, .int .i64 y569, .int .u64 y585, .int .u64 0, .int .u64 0, .int .u64 y609, .int .u64 y625, .int .u64 0, .int .i64 0, .int .u32 0, .int .i64 0, .int .i64 0, .int .i64 0, .int .u64 0, .int .i64 0, .int .i64 0, .int .u64 0, .slice none 0 0, .bool false, .int .i64 0, .slice none 0 0, .slice p716 y714.length c717, .slice none 0 0]) (by kernel_rfl) fun a hs => ?_
  refine s_store hs hw 4 rfl 0 (by kernel_rfl) (by kernel_rfl) (v := .agg #[.int .i64 12, .int .i64 1, .int .i64 1, .int .i64 y569, .int .u64 y585, .int .u64 0, .int .u64 0, .int .u64 y609, .int .u64 y625, .int .u64 0, .int .i64 0, .int .u32 0, .int .i64 0, .int .i64 0, .int .i64 0, .int .u64 0, .int .i64 0, .int .i64 0, .int .u64 0, .slice none 0 0, .bool false, .int .i64 0, .slice none 0 0, .slice p716 y714.length c717, .slice none 0 0]) (by kernel_rfl) (by kernel_rfl) (by kernel_rfl) (by kernel_rfl) fun a w hs hw => ?_
  refine s_end ?_
  refine c_ret ?_
  obtain rfl := someE hk
  refine hQ _ _ (f_retC hs rfl (hw.at_ 4 rfl) (by kernel_rfl) (v := .agg #[.int .i64 12, .int .i64 1, .int .i64 1, .int .i64 y569, .int .u64 y585, .int .u64 0, .int .u64 0, .int .u64 y609, .int .u64 y625, .int .u64 0, .int .i64 0, .int .u32 0, .int .i64 0, .int .i64 0, .int .i64 0, .int .u64 0, .int .i64 0, .int .i64 0, .int .u64 0, .slice none 0 0, .bool false, .int .i64 0, .slice none 0 0, .slice p716 y714.length c717, .slice none 0 0]) (by kernel_rfl) ⟨p716, c717, rfl, hw.pick [5] (by kernel_rfl), h718⟩)
def slices_Equal_int_int : Option Unit :=
  some ()
theorem slices_Equal_int_int_s {r : Unit} (hk : slices_Equal_int_int = some r) {g w : World} {F : Ch} {ih : IH} (hw : St g w [F] ih) :
    CallsR Tryz.prog 84 #[.slice none 0 0, .slice none 0 0] w fun v w' => v = .bool true ∧ St g w' [F] ih := by
  refine f_in (vs := [.slice none 0 0, .slice none 0 0]) Tryz.func84 rfl 26 rfl (by kernel_rfl) [(0, .slice none 0 0), (1, .slice none 0 0)] (by kernel_rfl) fun a Qf hQ hQn hs => ?_
  refine c_seq ?_
  refine c_region ?_
  refine pures hs 1 [0, 1] [(0, .slice none 0 0), (1, .slice none 0 0)] (by kernel_rfl) fun a hs => ?_
  refine s_end ?_
  refine c_seq ?_
  refine c_seq ?_
  refine c_region ?_
  refine pures hs 5 [0, 1, 10] [(0, .slice none 0 0), (1, .slice none 0 0), (10, .bool false)] (by kernel_rfl) fun a hs => ?_
  refine s_end ?_
  refine c_condF hs (by kernel_rfl) (by kernel_rfl) ?_
  refine c_skip ?_
  refine c_seq ?_
  refine c_seq ?_
  refine c_region ?_
  refine pures hs 3 [0, 1, 12, 13] [(0, .slice none 0 0), (1, .slice none 0 0), (12, .int .i64 0), (13, .int .i64 0)] (by kernel_rfl) fun a hs => ?_
  refine s_end ?_
  refine c_block ?_
  refine wpIn_loop_rounds 1 ?_
  refine c_unr ?_
  refine c_seq ?_
  refine c_region ?_
  refine pures hs 1 [0, 1, 12, 13, 14] [(0, .slice none 0 0), (1, .slice none 0 0), (12, .int .i64 0), (13, .int .i64 0), (14, .bool false)] (by kernel_rfl) fun a hs => ?_
  refine s_end ?_
  refine c_seq ?_
  refine c_condF hs (by kernel_rfl) (by kernel_rfl) ?_
  refine c_exit ?_
  refine c_seq ?_
  refine c_region ?_
  refine pures hs 1 [4] [(4, .bool true)] (by kernel_rfl) fun a hs => ?_
  refine s_end ?_
  refine c_ret ?_
  obtain rfl := someE hk
  refine hQ _ _ (f_ret1 hs rfl (v := .bool true) (by kernel_rfl) ⟨rfl, hw.pick [0] (by kernel_rfl)⟩)
def conf_Same : Option Unit :=
  some ()
theorem conf_Same_s {r : Unit} (hk : conf_Same = some r) {g w : World} {F : Ch} {ih : IH} (hw : St g w [F] ih) :
    CallsR Tryz.prog 63 #[.agg #[.int .i64 0, .int .u64 0, .slice none 0 0, .bool false, .int .i64 0], .agg #[.int .i64 0, .int .u64 0, .slice none 0 0, .bool false, .int .i64 0]] w fun v w' => v = .bool true ∧ St g w' [F] ih := by
  refine f_in (vs := [.agg #[.int .i64 0, .int .u64 0, .slice none 0 0, .bool false, .int .i64 0], .agg #[.int .i64 0, .int .u64 0, .slice none 0 0, .bool false, .int .i64 0]]) Tryz.func63 rfl 38 rfl (by kernel_rfl) [(0, .agg #[.int .i64 0, .int .u64 0, .slice none 0 0, .bool false, .int .i64 0]), (1, .agg #[.int .i64 0, .int .u64 0, .slice none 0 0, .bool false, .int .i64 0])] (by kernel_rfl) fun a Qf hQ hQn hs => ?_
  refine c_seq ?_
  refine c_region ?_
  refine s_new hs hw [.int .i64 0, .int .u64 0, .slice none 0 0, .bool false, .int .i64 0] 87 (fun b => .pointer (some ⟨b, 0, none⟩)) (by kernel_rfl) (fun _ => by kernel_rfl) fun a w b19 hs hw => ?_
  refine s_new hs hw [.int .i64 0, .int .u64 0, .slice none 0 0, .bool false, .int .i64 0] 87 (fun b => .pointer (some ⟨b, 0, none⟩)) (by kernel_rfl) (fun _ => by kernel_rfl) fun a w b21 hs hw => ?_
  refine pures hs 1 [2, 3] [(2, .pointer (some ⟨b19, 0, none⟩)), (3, .pointer (some ⟨b21, 0, none⟩))] (by kernel_rfl) fun a hs => ?_
  refine s_end ?_
  refine c_seq ?_
  refine c_region ?_
  refine pures hs 1 [2, 3, 5] [(2, .pointer (some ⟨b19, 0, none⟩)), (3, .pointer (some ⟨b21, 0, none⟩)), (5, .pointer (some ⟨b19, 0, none⟩))] (by kernel_rfl) fun a hs => ?_
  refine s_load hs (hw.at_ 1 rfl) 0 (by kernel_rfl) (by kernel_rfl) (v := .int .i64 0) (by kernel_rfl) fun a hs => ?_
  refine pures hs 1 [2, 3, 6, 7] [(2, .pointer (some ⟨b19, 0, none⟩)), (3, .pointer (some ⟨b21, 0, none⟩)), (6, .int .i64 0), (7, .pointer (some ⟨b21, 0, none⟩))] (by kernel_rfl) fun a hs => ?_
  refine s_load hs (hw.at_ 0 rfl) 0 (by kernel_rfl) (by kernel_rfl) (v := .int .i64 0) (by kernel_rfl) fun a hs => ?_
  refine pures hs 3 [2, 3, 10, 11] [(2, .pointer (some ⟨b19, 0, none⟩)), (3, .pointer (some ⟨b21, 0, none⟩)), (10, .bool true), (11, .pointer (some ⟨b19, 1, none⟩))] (by kernel_rfl) fun a hs => ?_
  refine s_load hs (hw.at_ 1 rfl) 1 (by kernel_rfl) (by kernel_rfl) (v := .int .u64 0) (by kernel_rfl) fun a hs => ?_
  refine pures hs 1 [2, 3, 10, 12, 13] [(2, .pointer (some ⟨b19, 0, none⟩)), (3, .pointer (some ⟨b21, 0, none⟩)), (10, .bool true), (12, .int .u64 0), (13, .pointer (some ⟨b21, 1, none⟩))] (by kernel_rfl) fun a hs => ?_
  refine s_load hs (hw.at_ 0 rfl) 1 (by kernel_rfl) (by kernel_rfl) (v := .int .u64 0) (by kernel_rfl) fun a hs => ?_
  refine pures hs 4 [2, 3, 17, 18] [(2, .pointer (some ⟨b19, 0, none⟩)), (3, .pointer (some ⟨b21, 0, none⟩)), (17, .bool true), (18, .pointer (some ⟨b19, 3, none⟩))] (by kernel_rfl) fun a hs => ?_
  refine s_load hs (hw.at_ 1 rfl) 3 (by kernel_rfl) (by kernel_rfl) (v := .bool false) (by kernel_rfl) fun a hs => ?_
  refine pures hs 1 [2, 3, 17, 19, 20] [(2, .pointer (some ⟨b19, 0, none⟩)), (3, .pointer (some ⟨b21, 0, none⟩)), (17, .bool true), (19, .bool false), (20, .pointer (some ⟨b21, 3, none⟩))] (by kernel_rfl) fun a hs => ?_
  refine s_load hs (hw.at_ 0 rfl) 3 (by kernel_rfl) (by kernel_rfl) (v := .bool false) (by kernel_rfl) fun a hs => ?_
  refine pures hs 4 [2, 3, 24, 25] [(2, .pointer (some ⟨b19, 0, none⟩)), (3, .pointer (some ⟨b21, 0, none⟩)), (24, .bool true), (25, .pointer (some ⟨b19, 4, none⟩))] (by kernel_rfl) fun a hs => ?_
  refine s_load hs (hw.at_ 1 rfl) 4 (by kernel_rfl) (by kernel_rfl) (v := .int .i64 0) (by kernel_rfl) fun a hs => ?_
  refine pures hs 1 [2, 3, 24, 26, 27] [(2, .pointer (some ⟨b19, 0, none⟩)), (3, .pointer (some ⟨b21, 0, none⟩)), (24, .bool true), (26, .int .i64 0), (27, .pointer (some ⟨b21, 4, none⟩))] (by kernel_rfl) fun a hs => ?_
  refine s_load hs (hw.at_ 0 rfl) 4 (by kernel_rfl) (by kernel_rfl) (v := .int .i64 0) (by kernel_rfl) fun a hs => ?_
  refine pures hs 4 [3, 31, 32] [(3, .pointer (some ⟨b21, 0, none⟩)), (31, .bool true), (32, .pointer (some ⟨b19, 2, none⟩))] (by kernel_rfl) fun a hs => ?_
  refine s_load hs (hw.at_ 1 rfl) 2 (by kernel_rfl) (by kernel_rfl) (v := .slice none 0 0) (by kernel_rfl) fun a hs => ?_
  refine pures hs 1 [31, 33, 34] [(31, .bool true), (33, .slice none 0 0), (34, .pointer (some ⟨b21, 2, none⟩))] (by kernel_rfl) fun a hs => ?_
  refine s_load hs (hw.at_ 0 rfl) 2 (by kernel_rfl) (by kernel_rfl) (v := .slice none 0 0) (by kernel_rfl) fun a hs => ?_
  have h26 : slices_Equal_int_int = some () := rfl
  refine s_call hs (by kernel_rfl) (by kernel_rfl) (slices_Equal_int_int_s h26 ((hw.pick [2] (by kernel_rfl)).pack 0)) fun a w v hv hs => ?_
  obtain ⟨rfl, hw⟩ := hv
  replace hw := hw.unpack 0 rfl
  refine pures hs 2 [4] [(4, .bool true)] (by kernel_rfl) fun a hs => ?_
  refine s_end ?_
  refine c_ret ?_
  obtain rfl := someE hk
  refine hQ _ _ (f_ret1 hs rfl (v := .bool true) (by kernel_rfl) ⟨rfl, hw.pick [0] (by kernel_rfl)⟩)
def slices_Equal_api_Vote_api_Vote : Option Unit :=
  some ()
theorem slices_Equal_api_Vote_api_Vote_s {r : Unit} (hk : slices_Equal_api_Vote_api_Vote = some r) {g w : World} {F : Ch} {ih : IH} (hw : St g w [F] ih) :
    CallsR Tryz.prog 64 #[.slice none 0 0, .slice none 0 0] w fun v w' => v = .bool true ∧ St g w' [F] ih := by
  refine f_in (vs := [.slice none 0 0, .slice none 0 0]) Tryz.func64 rfl 26 rfl (by kernel_rfl) [(0, .slice none 0 0), (1, .slice none 0 0)] (by kernel_rfl) fun a Qf hQ hQn hs => ?_
  refine c_seq ?_
  refine c_region ?_
  refine pures hs 1 [0, 1] [(0, .slice none 0 0), (1, .slice none 0 0)] (by kernel_rfl) fun a hs => ?_
  refine s_end ?_
  refine c_seq ?_
  refine c_seq ?_
  refine c_region ?_
  refine pures hs 5 [0, 1, 10] [(0, .slice none 0 0), (1, .slice none 0 0), (10, .bool false)] (by kernel_rfl) fun a hs => ?_
  refine s_end ?_
  refine c_condF hs (by kernel_rfl) (by kernel_rfl) ?_
  refine c_skip ?_
  refine c_seq ?_
  refine c_seq ?_
  refine c_region ?_
  refine pures hs 3 [0, 1, 12, 13] [(0, .slice none 0 0), (1, .slice none 0 0), (12, .int .i64 0), (13, .int .i64 0)] (by kernel_rfl) fun a hs => ?_
  refine s_end ?_
  refine c_block ?_
  refine wpIn_loop_rounds 1 ?_
  refine c_unr ?_
  refine c_seq ?_
  refine c_region ?_
  refine pures hs 1 [0, 1, 12, 13, 14] [(0, .slice none 0 0), (1, .slice none 0 0), (12, .int .i64 0), (13, .int .i64 0), (14, .bool false)] (by kernel_rfl) fun a hs => ?_
  refine s_end ?_
  refine c_seq ?_
  refine c_condF hs (by kernel_rfl) (by kernel_rfl) ?_
  refine c_exit ?_
  refine c_seq ?_
  refine c_region ?_
  refine pures hs 1 [4] [(4, .bool true)] (by kernel_rfl) fun a hs => ?_
  refine s_end ?_
  refine c_ret ?_
  obtain rfl := someE hk
  refine hQ _ _ (f_ret1 hs rfl (v := .bool true) (by kernel_rfl) ⟨rfl, hw.pick [0] (by kernel_rfl)⟩)
def bytes_Equal (x1 : List Int) (x7 : List Int) : Option Bool :=
  some (beqS x1 x7)
theorem bytes_Equal_s {x1 : List Int} {x7 : List Int} {p2 : Option Addr} {c3 : Nat} {d5 : Ch} {p8 : Option Addr} {c9 : Nat} {d11 : Ch} {r : Bool} (hk : bytes_Equal x1 x7 = some r) {g w : World} {F : Ch} {ih : IH} (h4 : RSl e5 ih d5 p2 c3 x1) (h6 : ∀ q ∈ d5, q ∈ F) (h10 : RSl e5 ih d11 p8 c9 x7) (h12 : ∀ q ∈ d11, q ∈ F) (hw : St g w [F] ih) :
    CallsR Tryz.prog 67 #[.slice p2 x1.length c3, .slice p8 x7.length c9] w fun v w' => v = .bool r ∧ St g w' [F] ih := by
  refine f_in (vs := [.slice p2 x1.length c3, .slice p8 x7.length c9]) Tryz.func67 rfl 10 rfl (by kernel_rfl) [(0, .slice p2 x1.length c3), (1, .slice p8 x7.length c9)] (by kernel_rfl) fun a Qf hQ hQn hs => ?_
  refine c_seq ?_
  refine c_region ?_
  refine pures hs 1 [0, 1] [(0, .slice p2 x1.length c3), (1, .slice p8 x7.length c9)] (by kernel_rfl) fun a hs => ?_
  refine s_end ?_
  refine c_seq ?_
  refine c_region ?_
  refine pures hs 1 [1, 5] [(1, .slice p8 x7.length c9), (5, .slice p2 x1.length c3)] (by kernel_rfl) fun a hs => ?_
  refine s_convS hs (t := 5) h4 (((hw.vw 0 rfl).sub h6).anti (Le.refl _)) (by kernel_rfl) (by kernel_rfl) 5 (by kernel_rfl) (by kernel_rfl) (by kernel_rfl) fun a hs => ?_
  refine pures hs 1 [6, 7] [(6, .string (strOf x1)), (7, .slice p8 x7.length c9)] (by kernel_rfl) fun a hs => ?_
  refine s_convS hs (t := 5) h10 (((hw.vw 0 rfl).sub h12).anti (Le.refl _)) (by kernel_rfl) (by kernel_rfl) 5 (by kernel_rfl) (by kernel_rfl) (by kernel_rfl) fun a hs => ?_
  refine s_eqS hs (s1 := (strOf x1)) (s2 := (strOf x7)) (beqS x1 x7) (by kernel_rfl) (by kernel_rfl) (by kernel_rfl) (by kernel_rfl) (by kernel_rfl) fun a hs => ?_
  refine pures hs 1 [4] [(4, .bool (beqS x1 x7))] (by kernel_rfl) fun a hs => ?_
  refine s_end ?_
  refine c_ret ?_
  obtain rfl := someE hk
  refine hQ _ _ (f_ret1 hs rfl (v := .bool (beqS x1 x7)) (by kernel_rfl) ⟨rfl, hw.pick [0] (by kernel_rfl)⟩)
def letter_SameUpdate_r2 (x72 : Bool) : Option Bool :=
  some x72
def letter_SameUpdate (x1 : M26) (x5 : M26) : Option Bool :=
  (if (x1.f0 == x5.f0) = true then (
      if (x1.f1 == x5.f1) = true then (
        if (x1.f2 == x5.f2) = true then (
          if (x1.f3 == x5.f3) = true then (
            if (x1.f4 == x5.f4) = true then (
              if (x1.f5 == x5.f5) = true then (
                (bytes_Equal x1.f6 x5.f6).bind fun y82 =>
                some y82)
              else some false)
            else some false)
          else some false)
        else some false)
      else some false)
    else some false : Option Bool).bind fun s84 => letter_SameUpdate_r2 s84
theorem letter_SameUpdate_s {x1 : M26} {x5 : M26} {p2 : Option Addr} {c3 : Nat} {p6 : Option Addr} {c7 : Nat} {r : Bool} (hk : letter_SameUpdate x1 x5 = some r) {g w : World} {F : Ch} {ih : IH} (h4 : RSl e5 ih [] p2 c3 x1.f6) (h8 : RSl e5 ih [] p6 c7 x5.f6) (hw : St g w [F] ih) :
    CallsR Tryz.prog 66 #[.agg #[.int .u64 x1.f0, .int .i64 x1.f1, .int .u64 x1.f2, .int .i64 x1.f3, .int .u32 x1.f4, .int .u64 x1.f5, .slice p2 x1.f6.length c3], .agg #[.int .u64 x5.f0, .int .i64 x5.f1, .int .u64 x5.f2, .int .i64 x5.f3, .int .u32 x5.f4, .int .u64 x5.f5, .slice p6 x5.f6.length c7]] w fun v w' => v = .bool r ∧ St g w' [F] ih := by
  refine f_in (vs := [.agg #[.int .u64 x1.f0, .int .i64 x1.f1, .int .u64 x1.f2, .int .i64 x1.f3, .int .u32 x1.f4, .int .u64 x1.f5, .slice p2 x1.f6.length c3], .agg #[.int .u64 x5.f0, .int .i64 x5.f1, .int .u64 x5.f2, .int .i64 x5.f3, .int .u32 x5.f4, .int .u64 x5.f5, .slice p6 x5.f6.length c7]]) Tryz.func66 rfl 52 rfl (by kernel_rfl) [(0, .agg #[.int .u64 x1.f0, .int .i64 x1.f1, .int .u64 x1.f2, .int .i64 x1.f3, .int .u32 x1.f4, .int .u64 x1.f5, .slice p2 x1.f6.length c3]), (1, .agg #[.int .u64 x5.f0, .int .i64 x5.f1, .int .u64 x5.f2, .int .i64 x5.f3, .int .u32 x5.f4, .int .u64 x5.f5, .slice p6 x5.f6.length c7])] (by kernel_rfl) fun a Qf hQ hQn hs => ?_
  refine c_seq ?_
  refine c_region ?_
  refine s_new hs hw [.int .u64 x1.f0, .int .i64 x1.f1, .int .u64 x1.f2, .int .i64 x1.f3, .int .u32 x1.f4, .int .u64 x1.f5, .slice p2 x1.f6.length c3] 26 (fun b => .pointer (some ⟨b, 0, none⟩)) (by kernel_rfl) (fun _ => by kernel_rfl) fun a w b52 hs hw => ?_
  refine s_new hs hw [.int .u64 x5.f0, .int .i64 x5.f1, .int .u64 x5.f2, .int .i64 x5.f3, .int .u32 x5.f4, .int .u64 x5.f5, .slice p6 x5.f6.length c7] 26 (fun b => .pointer (some ⟨b, 0, none⟩)) (by kernel_rfl) (fun _ => by kernel_rfl) fun a w b54 hs hw => ?_
  refine pures hs 1 [2, 3] [(2, .pointer (some ⟨b52, 0, none⟩)), (3, .pointer (some ⟨b54, 0, none⟩))] (by kernel_rfl) fun a hs => ?_
  refine s_end ?_
  refine c_seq ?_
  obtain ⟨y73, hx74, hk⟩ := bindE hk
  obtain ⟨J75, hJ75⟩ : ∃ J : Act → World → Prop, ∀ a w, J a w ↔ (∃ (x72 : Bool), letter_SameUpdate_r2 x72 = some r ∧ Sees a 52 [(4, .bool x72)] ∧ St g w [F] ih) := ⟨_, fun _ _ => Iff.rfl⟩
  refine c_regJ J75 ?_ ?_
  · refine pures hs 1 [2, 3, 5] [(2, .pointer (some ⟨b52, 0, none⟩)), (3, .pointer (some ⟨b54, 0, none⟩)), (5, .pointer (some ⟨b52, 0, none⟩))] (by kernel_rfl) fun a hs => ?_
    refine s_load hs (hw.at_ 1 rfl) 0 (by kernel_rfl) (by kernel_rfl) (v := .int .u64 x1.f0) (by kernel_rfl) fun a hs => ?_
    refine pures hs 1 [2, 3, 6, 7] [(2, .pointer (some ⟨b52, 0, none⟩)), (3, .pointer (some ⟨b54, 0, none⟩)), (6, .int .u64 x1.f0), (7, .pointer (some ⟨b54, 0, none⟩))] (by kernel_rfl) fun a hs => ?_
    refine s_load hs (hw.at_ 0 rfl) 0 (by kernel_rfl) (by kernel_rfl) (v := .int .u64 x5.f0) (by kernel_rfl) fun a hs => ?_
    refine pures hs 2 [2, 3, 10] [(2, .pointer (some ⟨b52, 0, none⟩)), (3, .pointer (some ⟨b54, 0, none⟩)), (10, .bool (x1.f0 == x5.f0))] (by kernel_rfl) fun a hs => ?_
    rcases ifbE hx74 with ⟨h76, hx74⟩ | ⟨h76, hx74⟩
    · replace hs := hs.altB 10 true (by kernel_rfl) h76
      refine pures hs 1 [2, 3, 10, 11] [(2, .pointer (some ⟨b52, 0, none⟩)), (3, .pointer (some ⟨b54, 0, none⟩)), (10, .bool true), (11, .pointer (some ⟨b52, 1, none⟩))] (by kernel_rfl) fun a hs => ?_
      refine s_load hs (hw.at_ 1 rfl) 1 (by kernel_rfl) (by kernel_rfl) (v := .int .i64 x1.f1) (by kernel_rfl) fun a hs => ?_
      refine pures hs 1 [2, 3, 10, 12, 13] [(2, .pointer (some ⟨b52, 0, none⟩)), (3, .pointer (some ⟨b54, 0, none⟩)), (10, .bool true), (12, .int .i64 x1.f1), (13, .pointer (some ⟨b54, 1, none⟩))] (by kernel_rfl) fun a hs => ?_
      refine s_load hs (hw.at_ 0 rfl) 1 (by kernel_rfl) (by kernel_rfl) (v := .int .i64 x5.f1) (by kernel_rfl) fun a hs => ?_
      refine pures hs 3 [2, 3, 17] [(2, .pointer (some ⟨b52, 0, none⟩)), (3, .pointer (some ⟨b54, 0, none⟩)), (17, .bool (x1.f1 == x5.f1))] (by kernel_rfl) fun a hs => ?_
      rcases ifbE hx74 with ⟨h77, hx74⟩ | ⟨h77, hx74⟩
      · replace hs := hs.altB 17 true (by kernel_rfl) h77
        refine pures hs 1 [2, 3, 17, 18] [(2, .pointer (some ⟨b52, 0, none⟩)), (3, .pointer (some ⟨b54, 0, none⟩)), (17, .bool true), (18, .pointer (some ⟨b52, 2, none⟩))] (by kernel_rfl) fun a hs => ?_
        refine s_load hs (hw.at_ 1 rfl) 2 (by kernel_rfl) (by kernel_rfl) (v := .int .u64 x1.f2) (by kernel_rfl) fun a hs => ?_
        refine pures hs 1 [2, 3, 17, 19, 20] [(2, .pointer (some ⟨b52, 0, none⟩)), (3, .pointer (some ⟨b54, 0, none⟩)), (17, .bool true), (19, .int .u64 x1.f2), (20, .pointer (some ⟨b54, 2, none⟩))] (by kernel_rfl) fun a hs => ?_
        refine s_load hs (hw.at_ 0 rfl) 2 (by kernel_rfl) (by kernel_rfl) (v := .int .u64 x5.f2) (by kernel_rfl) fun a hs => ?_
        refine pures hs 3 [2, 3, 24] [(2, .pointer (some ⟨b52, 0, none⟩)), (3, .pointer (some ⟨b54, 0, none⟩)), (24, .bool (x1.f2 == x5.f2))] (by kernel_rfl) fun a hs => ?_
        rcases ifbE hx74 with ⟨h78, hx74⟩ | ⟨h78, hx74⟩
        · replace hs := hs.altB 24 true (by kernel_rfl) h78
          refine pures hs 1 [2, 3, 24, 25] [(2, .pointer (some ⟨b52, 0, none⟩)), (3, .pointer (some ⟨b54, 0, none⟩)), (24, .bool true), (25, .pointer (some ⟨b52, 3, none⟩))] (by kernel_rfl) fun a hs => ?_
          refine s_load hs (hw.at_ 1 rfl) 3 (by kernel_rfl) (by kernel_rfl) (v := .int .i64 x1.f3) (by kernel_rfl) fun a hs => ?_
          refine pures hs 1 [2, 3, 24, 26, 27] [(2, .pointer (some ⟨b52, 0, none⟩)), (3, .pointer (some ⟨b54, 0, none⟩)), (24, .bool true), (26, .int .i64 x1.f3), (27, .pointer (some ⟨b54, 3, none⟩))] (by kernel_rfl) fun a hs => ?_
          refine s_load hs (hw.at_ 0 rfl) 3 (by kernel_rfl) (by kernel_rfl) (v := .int .i64 x5.f3) (by kernel_rfl) fun a hs => ?_
          refine pures hs 3 [2, 3, 31] [(2, .pointer (some ⟨b52, 0, none⟩)), (3, .pointer (some ⟨b54, 0, none⟩)), (31, .bool (x1.f3 == x5.f3))] (by kernel_rfl) fun a hs => ?_
          rcases ifbE hx74 with ⟨h79, hx74⟩ | ⟨h79, hx74⟩
          · replace hs := hs.altB 31 true (by kernel_rfl) h79
            refine pures hs 1 [2, 3, 31, 32] [(2, .pointer (some ⟨b52, 0, none⟩)), (3, .pointer (some ⟨b54, 0, none⟩)), (31, .bool true), (32, .pointer (some ⟨b52, 4, none⟩))] (by kernel_rfl) fun a hs => ?_
            refine s_load hs (hw.at_ 1 rfl) 4 (by kernel_rfl) (by kernel_rfl) (v := .int .u32 x1.f4) (by kernel_rfl) fun a hs => ?_
            refine pures hs 1 [2, 3, 31, 33, 34] [(2, .pointer (some ⟨b52, 0, none⟩)), (3, .pointer (some ⟨b54, 0, none⟩)), (31, .bool true), (33, .int .u32 x1.f4), (34, .pointer (some ⟨b54, 4, none⟩))] (by kernel_rfl) fun a hs => ?_
            refine s_load hs (hw.at_ 0 rfl) 4 (by kernel_rfl) (by kernel_rfl) (v := .int .u32 x5.f4) (by kernel_rfl) fun a hs => ?_
            refine pures hs 3 [2, 3, 38] [(2, .pointer (some ⟨b52, 0, none⟩)), (3, .pointer (some ⟨b54, 0, none⟩)), (38, .bool (x1.f4 == x5.f4))] (by kernel_rfl) fun a hs => ?_
            rcases ifbE hx74 with ⟨h80, hx74⟩ | ⟨h80, hx74⟩
            · replace hs := hs.altB 38 true (by kernel_rfl) h80
              refine pures hs 1 [2, 3, 38, 39] [(2, .pointer (some ⟨b52, 0, none⟩)), (3, .pointer (some ⟨b54, 0, none⟩)), (38, .bool true), (39, .pointer (some ⟨b52, 5, none⟩))] (by kernel_rfl) fun a hs => ?_
              refine s_load hs (hw.at_ 1 rfl) 5 (by kernel_rfl) (by kernel_rfl) (v := .int .u64 x1.f5) (by kernel_rfl) fun a hs => ?_
              refine pures hs 1 [2, 3, 38, 40, 41] [(2, .pointer (some ⟨b52, 0, none⟩)), (3, .pointer (some ⟨b54, 0, none⟩)), (38, .bool true), (40, .int .u64 x1.f5), (41, .pointer (some ⟨b54, 5, none⟩))] (by kernel_rfl) fun a hs => ?_
              refine s_load hs (hw.at_ 0 rfl) 5 (by kernel_rfl) (by kernel_rfl) (v := .int .u64 x5.f5) (by kernel_rfl) fun a hs => ?_
              refine pures hs 3 [2, 3, 45] [(2, .pointer (some ⟨b52, 0, none⟩)), (3, .pointer (some ⟨b54, 0, none⟩)), (45, .bool (x1.f5 == x5.f5))] (by kernel_rfl) fun a hs => ?_
              rcases ifbE hx74 with ⟨h81, hx74⟩ | ⟨h81, hx74⟩
              · replace hs := hs.altB 45 true (by kernel_rfl) h81
                refine pures hs 1 [3, 45, 46] [(3, .pointer (some ⟨b54, 0, none⟩)), (45, .bool true), (46, .pointer (some ⟨b52, 6, none⟩))] (by kernel_rfl) fun a hs => ?_
                refine s_load hs (hw.at_ 1 rfl) 6 (by kernel_rfl) (by kernel_rfl) (v := .slice p2 x1.f6.length c3) (by kernel_rfl) fun a hs => ?_
                refine pures hs 1 [45, 47, 48] [(45, .bool true), (47, .slice p2 x1.f6.length c3), (48, .pointer (some ⟨b54, 6, none⟩))] (by kernel_rfl) fun a hs => ?_
                refine s_load hs (hw.at_ 0 rfl) 6 (by kernel_rfl) (by kernel_rfl) (v := .slice p6 x5.f6.length c7) (by kernel_rfl) fun a hs => ?_
                obtain ⟨y82, h83, hx74⟩ := bindE hx74
                refine s_call hs (by kernel_rfl) (by kernel_rfl) (bytes_Equal_s h83 h4 (nilSub _) h8 (nilSub _) ((hw.pick [2] (by kernel_rfl)).pack 0)) fun a w v hv hs => ?_
                obtain ⟨rfl, hw⟩ := hv
                replace hw := hw.unpack 0 rfl
                refine pures hs 2 [4] [(4, .bool y82)] (by kernel_rfl) fun a hs => ?_
                refine s_end ?_
                obtain rfl := someE hx74
                exact (hJ75 _ _).2 ⟨y82, hk, hs.cast [4] (by kernel_rfl), hw.pick [0] (by kernel_rfl)⟩
              replace hs := hs.altB 45 false (by kernel_rfl) h81
              refine pures hs 7 [4] [(4, .bool false)] (by kernel_rfl) fun a hs => ?_
              refine s_end ?_
              obtain rfl := someE hx74
              exact (hJ75 _ _).2 ⟨false, hk, hs.cast [4] (by kernel_rfl), hw.pick [2] (by kernel_rfl)⟩
            replace hs := hs.altB 38 false (by kernel_rfl) h80
            refine pures hs 14 [4] [(4, .bool false)] (by kernel_rfl) fun a hs => ?_
            refine s_end ?_
            obtain rfl := someE hx74
            exact (hJ75 _ _).2 ⟨false, hk, hs.cast [4] (by kernel_rfl), hw.pick [2] (by kernel_rfl)⟩
          replace hs := hs.altB 31 false (by kernel_rfl) h79
          refine pures hs 21 [4] [(4, .bool false)] (by kernel_rfl) fun a hs => ?_
          refine s_end ?_
          obtain rfl := someE hx74
          exact (hJ75 _ _).2 ⟨false, hk, hs.cast [4] (by kernel_rfl), hw.pick [2] (by kernel_rfl)⟩
        replace hs := hs.altB 24 false (by kernel_rfl) h78
        refine pures hs 28 [4] [(4, .bool false)] (by kernel_rfl) fun a hs => ?_
        refine s_end ?_
        obtain rfl := someE hx74
        exact (hJ75 _ _).2 ⟨false, hk, hs.cast [4] (by kernel_rfl), hw.pick [2] (by kernel_rfl)⟩
      replace hs := hs.altB 17 false (by kernel_rfl) h77
      refine pures hs 35 [4] [(4, .bool false)] (by kernel_rfl) fun a hs => ?_
      refine s_end ?_
      obtain rfl := someE hx74
      exact (hJ75 _ _).2 ⟨false, hk, hs.cast [4] (by kernel_rfl), hw.pick [2] (by kernel_rfl)⟩
    replace hs := hs.altB 10 false (by kernel_rfl) h76
    refine pures hs 42 [4] [(4, .bool false)] (by kernel_rfl) fun a hs => ?_
    refine s_end ?_
    obtain rfl := someE hx74
    exact (hJ75 _ _).2 ⟨false, hk, hs.cast [4] (by kernel_rfl), hw.pick [2] (by kernel_rfl)⟩
  intro a w hh
  obtain ⟨x72, hk, hs, hw⟩ := (hJ75 _ _).1 hh
  refine c_ret ?_
  obtain rfl := someE hk
  refine hQ _ _ (f_ret1 hs rfl (v := .bool x72) (by kernel_rfl) ⟨rfl, hw.pick [0] (by kernel_rfl)⟩)
def slices_EqualFunc_api_Update_api_Update_api_Update_api_Update_r3 : Option Bool :=
  some true
def slices_EqualFunc_api_Update_api_Update_api_Update_api_Update_l4 (x1 : List M26) (x7 : List M26) : Nat → Int → Option (Sum Bool Unit)
  | 0, _ => none
  | j + 1, x361 =>
    if (decide (x361 < (x1.length : Int))) = true then (
      (ix x1 x361).bind fun x418 =>
      (ix x7 x361).bind fun x436 =>
      (letter_SameUpdate x418 x436).bind fun y447 =>
      if (!y447) = true then some (.inl false)
      else slices_EqualFunc_api_Update_api_Update_api_Update_api_Update_l4 x1 x7 j (IntKind.i64.wrap (x361 + 1)))
    else some (.inr ())
def slices_EqualFunc_api_Update_api_Update_api_Update_api_Update (k : Nat) (x1 : List M26) (x7 : List M26) : Option Bool :=
  if ((x1.length : Int) != (x7.length : Int)) = true then some false
  else (slices_EqualFunc_api_Update_api_Update_api_Update_api_Update_l4 x1 x7 k 0 : Option (Sum Bool Unit)).bind fun
    | .inl z => some z
    | .inr _ => slices_EqualFunc_api_Update_api_Update_api_Update_api_Update_r3
theorem slices_EqualFunc_api_Update_api_Update_api_Update_api_Update_s {k : Nat} {x1 : List M26} {x7 : List M26} {p2 : Option Addr} {c3 : Nat} {d5 : Ch} {p8 : Option Addr} {c9 : Nat} {d11 : Ch} {r : Bool} (hk : slices_EqualFunc_api_Update_api_Update_api_Update_api_Update k x1 x7 = some r) {g w : World} {F : Ch} {ih : IH} (h4 : RSl e26 ih d5 p2 c3 x1) (h6 : ∀ q ∈ d5, q ∈ F) (h10 : RSl e26 ih d11 p8 c9 x7) (h12 : ∀ q ∈ d11, q ∈ F) (hw : St g w [F] ih) :
    CallsR Tryz.prog 65 #[.slice p2 x1.length c3, .slice p8 x7.length c9, .func (.func 66) #[] #[]] w fun v w' => v = .bool r ∧ St g w' [F] ih := by
  refine f_in (vs := [.slice p2 x1.length c3, .slice p8 x7.length c9, .func (.func 66) #[] #[]]) Tryz.func65 rfl 32 rfl (by kernel_rfl) [(0, .slice p2 x1.length c3), (1, .slice p8 x7.length c9), (2, .func (.func 66) #[] #[])] (by kernel_rfl) fun a Qf hQ hQn hs => ?_
  refine c_seq ?_
  refine c_region ?_
  refine pures hs 1 [0, 1, 2] [(0, .slice p2 x1.length c3), (1, .slice p8 x7.length c9), (2, .func (.func 66) #[] #[])] (by kernel_rfl) fun a hs => ?_
  refine s_end ?_
  refine c_seq ?_
  refine c_seq ?_
  refine c_region ?_
  refine pures hs 5 [0, 1, 2, 14] [(0, .slice p2 x1.length c3), (1, .slice p8 x7.length c9), (2, .func (.func 66) #[] #[]), (14, .bool ((x1.length : Int) != (x7.length : Int)))] (by kernel_rfl) fun a hs => ?_
  refine s_end ?_
  rcases ifbE hk with ⟨h233, hk⟩ | ⟨h233, hk⟩
  · refine c_cond1 hs (by kernel_rfl) (t := ((x1.length : Int) != (x7.length : Int))) (by kernel_rfl) h233 ?_
    refine c_seq ?_
    refine c_region ?_
    refine pures hs 1 [6] [(6, .bool false)] (by kernel_rfl) fun a hs => ?_
    refine s_end ?_
    refine c_ret ?_
    obtain rfl := someE hk
    refine hQ _ _ (f_ret1 hs rfl (v := .bool false) (by kernel_rfl) ⟨rfl, hw.pick [0] (by kernel_rfl)⟩)
  refine c_cond0 hs (by kernel_rfl) (t := ((x1.length : Int) != (x7.length : Int))) (by kernel_rfl) h233 ?_
  refine c_skip ?_
  refine c_seq ?_
  refine c_seq ?_
  refine c_region ?_
  refine pures hs 3 [1, 2, 15, 16, 17] [(1, .slice p8 x7.length c9), (2, .func (.func 66) #[] #[]), (15, .slice p2 x1.length c3), (16, .int .i64 (x1.length : Int)), (17, .int .i64 0)] (by kernel_rfl) fun a hs => ?_
  refine s_end ?_
  refine c_block ?_
  obtain ⟨y404, hx405, hk⟩ := bindE hk
  obtain ⟨J406, hJ406⟩ : ∃ J : Act → World → Prop, ∀ a w, J a w ↔ (slices_EqualFunc_api_Update_api_Update_api_Update_api_Update_r3 = some r ∧ Sees a 32 [] ∧ St g w [F] ih) := ⟨_, fun _ _ => Iff.rfl⟩
  obtain ⟨I407, hI407⟩ : ∃ J : Nat → Act → World → Prop, ∀ j a w, J j a w ↔ (∃ (x361 : Int), slices_EqualFunc_api_Update_api_Update_api_Update_api_Update_l4 x1 x7 j x361 = some y404 ∧ Sees a 32 [(1, .slice p8 x7.length c9), (2, .func (.func 66) #[] #[]), (15, .slice p2 x1.length c3), (16, .int .i64 (x1.length : Int)), (17, .int .i64 x361)] ∧ St g w [F] ih) := ⟨_, fun _ _ _ => Iff.rfl⟩
  refine c_exitJ 0 J406 ?_ ?_
  · refine c_loop I407 k ((hI407 _ _ _).2 ⟨0, hx405, hs.cast [1, 2, 15, 16, 17] (by kernel_rfl), hw.pick [0] (by kernel_rfl)⟩) (fun a w h0 => ?_) fun j a w hh => ?_
    · obtain ⟨_, h, _⟩ := (hI407 _ _ _).1 h0
      cases h
    obtain ⟨x361, hx405, hs, hw⟩ := (hI407 _ _ _).1 hh
    refine c_seq ?_
    refine c_region ?_
    refine pures hs 1 [1, 2, 15, 16, 17, 18] [(1, .slice p8 x7.length c9), (2, .func (.func 66) #[] #[]), (15, .slice p2 x1.length c3), (16, .int .i64 (x1.length : Int)), (17, .int .i64 x361), (18, .bool (decide (x361 < (x1.length : Int))))] (by kernel_rfl) fun a hs => ?_
    refine s_end ?_
    refine c_seq ?_
    rcases ifbE hx405 with ⟨h408, hx405⟩ | ⟨h408, hx405⟩
    · refine c_cond1 hs (by kernel_rfl) (t := (decide (x361 < (x1.length : Int)))) (by kernel_rfl) h408 ?_
      refine c_skip ?_
      refine c_seq ?_
      refine c_block ?_
      refine c_seq ?_
      refine c_region ?_
      refine pures hs 1 [1, 2, 15, 16, 17, 19] [(1, .slice p8 x7.length c9), (2, .func (.func 66) #[] #[]), (15, .slice p2 x1.length c3), (16, .int .i64 (x1.length : Int)), (17, .int .i64 x361), (19, .int .i64 x361)] (by kernel_rfl) fun a hs => ?_
      obtain ⟨x418, h419, hx405⟩ := bindE hx405
      refine s_index hs h4 (by kernel_rfl) (by kernel_rfl) (k := .i64) (by kernel_rfl) 26 (by kernel_rfl) (by kernel_rfl) h419 fun a r420 cs henc at421 hs => ?_
      obtain ⟨p422, c423, rfl, h424⟩ := henc
      refine s_load hs (at421 _ (((hw.vw 0 rfl).sub h6).anti (Le.refl _))) 0 (by kernel_rfl) (by kernel_rfl) (v := .agg #[.int .u64 x418.f0, .int .i64 x418.f1, .int .u64 x418.f2, .int .i64 x418.f3, .int .u32 x418.f4, .int .u64 x418.f5, .slice p422 x418.f6.length c423]) (by kernel_rfl) fun a hs => ?_
      refine s_new hs hw [.int .u64 0, .int .i64 0, .int .u64 0, .int .i64 0, .int .u32 0, .int .u64 0, .slice none 0 0] 26 (fun b => .pointer (some ⟨b, 0, none⟩)) (by kernel_rfl) (fun _ => by kernel_rfl) fun a w b425 hs hw => ?_
      refine pures hs 1 [1, 2, 15, 16, 17, 21, 8, 7] [(1, .slice p8 x7.length c9), (2, .func (.func 66) #[] #[]), (15, .slice p2 x1.length c3), (16, .int .i64 (x1.length : Int)), (17, .int .i64 x361), (21, .agg #[.int .u64 x418.f0, .int .i64 x418.f1, .int .u64 x418.f2, .int .i64 x418.f3, .int .u32 x418.f4, .int .u64 x418.f5, .slice p422 x418.f6.length c423]), (8, .pointer (some ⟨b425, 0, none⟩)), (7, .int .i64 x361)] (by kernel_rfl) fun a hs => ?_
      refine s_store hs hw 0 rfl 0 (by kernel_rfl) (by kernel_rfl) (v := .agg #[.int .u64 x418.f0, .int .i64 x418.f1, .int .u64 x418.f2, .int .i64 x418.f3, .int .u32 x418.f4, .int .u64 x418.f5, .slice p422 x418.f6.length c423]) (by kernel_rfl) (by kernel_rfl) (by kernel_rfl) (by kernel_rfl) fun a w hs hw => ?_
      refine s_end ?_
      refine c_seq ?_
      refine c_region ?_
      refine pures hs 2 [1, 2, 15, 16, 17, 8, 22, 23] [(1, .slice p8 x7.length c9), (2, .func (.func 66) #[] #[]), (15, .slice p2 x1.length c3), (16, .int .i64 (x1.length : Int)), (17, .int .i64 x361), (8, .pointer (some ⟨b425, 0, none⟩)), (22, .slice p8 x7.length c9), (23, .int .i64 x361)] (by kernel_rfl) fun a hs => ?_
      obtain ⟨x436, h437, hx405⟩ := bindE hx405
      refine s_index hs h10 (by kernel_rfl) (by kernel_rfl) (k := .i64) (by kernel_rfl) 26 (by kernel_rfl) (by kernel_rfl) h437 fun a r438 cs henc at439 hs => ?_
      obtain ⟨p440, c441, rfl, h442⟩ := henc
      refine s_load hs (at439 _ (((hw.vw 1 rfl).sub h12).anti (Le.refl _))) 0 (by kernel_rfl) (by kernel_rfl) (v := .agg #[.int .u64 x436.f0, .int .i64 x436.f1, .int .u64 x436.f2, .int .i64 x436.f3, .int .u32 x436.f4, .int .u64 x436.f5, .slice p440 x436.f6.length c441]) (by kernel_rfl) fun a hs => ?_
      refine s_new hs hw [.int .u64 0, .int .i64 0, .int .u64 0, .int .i64 0, .int .u32 0, .int .u64 0, .slice none 0 0] 26 (fun b => .pointer (some ⟨b, 0, none⟩)) (by kernel_rfl) (fun _ => by kernel_rfl) fun a w b443 hs hw => ?_
      refine s_store hs hw 0 rfl 0 (by kernel_rfl) (by kernel_rfl) (v := .agg #[.int .u64 x436.f0, .int .i64 x436.f1, .int .u64 x436.f2, .int .i64 x436.f3, .int .u32 x436.f4, .int .u64 x436.f5, .slice p440 x436.f6.length c441]) (by kernel_rfl) (by kernel_rfl) (by kernel_rfl) (by kernel_rfl) fun a w hs hw => ?_
      refine s_end ?_
      refine c_seq ?_
      refine c_region ?_
      refine pures hs 1 [1, 2, 15, 16, 17, 8, 9, 26] [(1, .slice p8 x7.length c9), (2, .func (.func 66) #[] #[]), (15, .slice p2 x1.length c3), (16, .int .i64 (x1.length : Int)), (17, .int .i64 x361), (8, .pointer (some ⟨b425, 0, none⟩)), (9, .pointer (some ⟨b443, 0, none⟩)), (26, .func (.func 66) #[] #[])] (by kernel_rfl) fun a hs => ?_
      refine s_load hs (hw.at_ 1 rfl) 0 (by kernel_rfl) (by kernel_rfl) (v := .agg #[.int .u64 x418.f0, .int .i64 x418.f1, .int .u64 x418.f2, .int .i64 x418.f3, .int .u32 x418.f4, .int .u64 x418.f5, .slice p422 x418.f6.length c423]) (by kernel_rfl) fun a hs => ?_
      refine s_load hs (hw.at_ 0 rfl) 0 (by kernel_rfl) (by kernel_rfl) (v := .agg #[.int .u64 x436.f0, .int .i64 x436.f1, .int .u64 x436.f2, .int .i64 x436.f3, .int .u32 x436.f4, .int .u64 x436.f5, .slice p440 x436.f6.length c441]) (by kernel_rfl) fun a hs => ?_
      obtain ⟨y447, h448, hx405⟩ := bindE hx405
      refine s_call hs (by kernel_rfl) (by kernel_rfl) (letter_SameUpdate_s h448 h424 h442 ((hw.pick [2] (by kernel_rfl)).pack 0)) fun a w v hv hs => ?_
      obtain ⟨rfl, hw⟩ := hv
      replace hw := hw.unpack 0 rfl
      refine pures hs 1 [1, 2, 15, 16, 17, 30] [(1, .slice p8 x7.length c9), (2, .func (.func 66) #[] #[]), (15, .slice p2 x1.length c3), (16, .int .i64 (x1.length : Int)), (17, .int .i64 x361), (30, .bool (!y447))] (by kernel_rfl) fun a hs => ?_
      refine s_end ?_
      rcases ifbE hx405 with ⟨h449, hx405⟩ | ⟨h449, hx405⟩
      · refine c_cond1 hs (by kernel_rfl) (t := (!y447)) (by kernel_rfl) h449 ?_
        refine c_seq ?_
        refine c_region ?_
        refine pures hs 1 [6] [(6, .bool false)] (by kernel_rfl) fun a hs => ?_
        refine s_end ?_
        refine c_ret ?_
        obtain rfl := someE hx405
        obtain rfl := someE hk
        refine hQ _ _ (f_ret1 hs rfl (v := .bool false) (by kernel_rfl) ⟨rfl, hw.pick [0] (by kernel_rfl)⟩)
      refine c_cond0 hs (by kernel_rfl) (t := (!y447)) (by kernel_rfl) h449 ?_
      refine c_skip ?_
      refine c_region ?_
      refine pures hs 2 [1, 2, 15, 16, 17] [(1, .slice p8 x7.length c9), (2, .func (.func 66) #[] #[]), (15, .slice p2 x1.length c3), (16, .int .i64 (x1.length : Int)), (17, .int .i64 (IntKind.i64.wrap (x361 + 1)))] (by kernel_rfl) fun a hs => ?_
      refine s_end ?_
      exact (hI407 _ _ _).2 ⟨(IntKind.i64.wrap (x361 + 1)), hx405, hs.cast [1, 2, 15, 16, 17] (by kernel_rfl), hw.pick [0] (by kernel_rfl)⟩
    refine c_cond0 hs (by kernel_rfl) (t := (decide (x361 < (x1.length : Int)))) (by kernel_rfl) h408 ?_
    refine c_exit ?_
    obtain rfl := someE hx405
    exact (hJ406 _ _).2 ⟨hk, hs.cast [] (by kernel_rfl), hw.pick [0] (by kernel_rfl)⟩
  intro a w hh
  obtain ⟨hk, hs, hw⟩ := (hJ406 _ _).1 hh
  refine c_seq ?_
  refine c_region ?_
  refine pures hs 1 [6] [(6, .bool true)] (by kernel_rfl) fun a hs => ?_
  refine s_end ?_
  refine c_ret ?_
  obtain rfl := someE hk
  refine hQ _ _ (f_ret1 hs rfl (v := .bool true) (by kernel_rfl) ⟨rfl, hw.pick [0] (by kernel_rfl)⟩)
def bytes_Equal_2 : Option Bool :=
  some (beqS ([]) ([]))
theorem bytes_Equal_2_s {r : Bool} (hk : bytes_Equal_2 = some r) {g w : World} {F : Ch} {ih : IH} (hw : St g w [F] ih) :
    CallsR Tryz.prog 67 #[.slice none 0 0, .slice none 0 0] w fun v w' => v = .bool r ∧ St g w' [F] ih := by
  refine f_in (vs := [.slice none 0 0, .slice none 0 0]) Tryz.func67 rfl 10 rfl (by kernel_rfl) [(0, .slice none 0 0), (1, .slice none 0 0)] (by kernel_rfl) fun a Qf hQ hQn hs => ?_
  refine c_seq ?_
  refine c_region ?_
  refine pures hs 1 [0, 1] [(0, .slice none 0 0), (1, .slice none 0 0)] (by kernel_rfl) fun a hs => ?_
  refine s_end ?_
  refine c_seq ?_
  refine c_region ?_
  refine pures hs 1 [1, 5] [(1, .slice none 0 0), (5, .slice none 0 0)] (by kernel_rfl) fun a hs => ?_
  refine s_convS hs (t := 5) (RSl.nil (eInt .u8 5) _ []) (hw.vwAll.nil.anti (Le.refl _)) (by kernel_rfl) (by kernel_rfl) 5 (by kernel_rfl) (by kernel_rfl) (by kernel_rfl) fun a hs => ?_
  refine pures hs 1 [6, 7] [(6, .string (strOf ([]))), (7, .slice none 0 0)] (by kernel_rfl) fun a hs => ?_
  refine s_convS hs (t := 5) (RSl.nil (eInt .u8 5) _ []) (hw.vwAll.nil.anti (Le.refl _)) (by kernel_rfl) (by kernel_rfl) 5 (by kernel_rfl) (by kernel_rfl) (by kernel_rfl) fun a hs => ?_
  refine s_eqS hs (s1 := (strOf ([]))) (s2 := (strOf ([]))) (beqS ([]) ([])) (by kernel_rfl) (by kernel_rfl) (by kernel_rfl) (by kernel_rfl) (by kernel_rfl) fun a hs => ?_
  refine pures hs 1 [4] [(4, .bool (beqS ([]) ([])))] (by kernel_rfl) fun a hs => ?_
  refine s_end ?_
  refine c_ret ?_
  obtain rfl := someE hk
  refine hQ _ _ (f_ret1 hs rfl (v := .bool (beqS ([]) ([]))) (by kernel_rfl) ⟨rfl, hw.pick [0] (by kernel_rfl)⟩)
def letter_Same_r2 (x131 : Bool) : Option Bool :=
  some x131
def letter_Same (k : Nat) (x1 : List M26) (x5 : Int) (x6 : Int) (x7 : Int) (x8 : Int) (x9 : List M26) : Option Bool :=
  if ((0 != x5) || false) = true then some false
  else if ((1 != x6) || ((0 != x7) || ((0 != x8) || false))) = true then some false
  else if ((!((0 == 0) && ((0 == 0) && ((0 == 0) && ((0 == 0) && true))))) || false) = true then some false
  else ((slices_EqualFunc_api_Update_api_Update_api_Update_api_Update k x1 x9).bind fun y137 =>
    if y137 = true then (
      (bytes_Equal_2).bind fun y140 =>
      some y140)
    else some false : Option Bool).bind fun s142 => letter_Same_r2 s142
theorem letter_Same_s {k : Nat} {x1 : List M26} {x5 : Int} {x6 : Int} {x7 : Int} {x8 : Int} {x9 : List M26} {p2 : Option Addr} {c3 : Nat} {p10 : Option Addr} {c11 : Nat} {r : Bool} (hk : letter_Same k x1 x5 x6 x7 x8 x9 = some r) {g w : World} {F : Ch} {ih : IH} (h4 : RSl e26 ih [] p2 c3 x1) (h12 : RSl e26 ih [] p10 c11 x9) (hw : St g w [F] ih) :
    CallsR Tryz.prog 57 #[.agg #[.int .i64 12, .int .i64 1, .int .i64 1, .int .i64 0, .int .u64 1, .int .u64 0, .int .u64 0, .int .u64 0, .int .u64 0, .int .u64 0, .int .i64 0, .int .u32 0, .int .i64 0, .int .i64 0, .int .i64 0, .int .u64 0, .int .i64 0, .int .i64 0, .int .u64 0, .slice none 0 0, .bool false, .int .i64 0, .slice none 0 0, .slice p2 x1.length c3, .slice none 0 0], .agg #[.int .i64 12, .int .i64 1, .int .i64 1, .int .i64 x5, .int .u64 x6, .int .u64 0, .int .u64 0, .int .u64 x7, .int .u64 x8, .int .u64 0, .int .i64 0, .int .u32 0, .int .i64 0, .int .i64 0, .int .i64 0, .int .u64 0, .int .i64 0, .int .i64 0, .int .u64 0, .slice none 0 0, .bool false, .int .i64 0, .slice none 0 0, .slice p10 x9.length c11, .slice none 0 0]] w fun v w' => v = .bool r ∧ St g w' [F] ih := by
  refine f_in (vs := [.agg #[.int .i64 12, .int .i64 1, .int .i64 1, .int .i64 0, .int .u64 1, .int .u64 0, .int .u64 0, .int .u64 0, .int .u64 0, .int .u64 0, .int .i64 0, .int .u32 0, .int .i64 0, .int .i64 0, .int .i64 0, .int .u64 0, .int .i64 0, .int .i64 0, .int .u64 0, .slice none 0 0, .bool false, .int .i64 0, .slice none 0 0, .slice p2 x1.length c3, .slice none 0 0], .agg #[.int .i64 12, .int .i64 1, .int .i64 1, .int .i64 x5, .int .u64 x6, .int .u64 0, .int .u64 0, .int .u64 x7, .int .u64 x8, .int .u64 0, .int .i64 0, .int .u32 0, .int .i64 0, .int .i64 0, .int .i64 0, .int .u64 0, .int .i64 0, .int .i64 0, .int .u64 0, .slice none 0 0, .bool false, .int .i64 0, .slice none 0 0, .slice p10 x9.length c11, .slice none 0 0]]) Tryz.func57 rfl 127 rfl (by kernel_rfl) [(0, .agg #[.int .i64 12, .int .i64 1, .int .i64 1, .int .i64 0, .int .u64 1, .int .u64 0, .int .u64 0, .int .u64 0, .int .u64 0, .int .u64 0, .int .i64 0, .int .u32 0, .int .i64 0, .int .i64 0, .int .i64 0, .int .u64 0, .int .i64 0, .int .i64 0, .int .u64 0, .slice none 0 0, .bool false, .int .i64 0, .slice none 0 0, .slice p2 x1.length c3, .slice none 0 0]), (1, .agg #[.int .i64 12, .int .i64 1, .int .i64 1, .int .i64 x5, .int .u64 x6, .int .u64 0, .int .u64 0, .int .u64 x7, .int .u64 x8, .int .u64 0, .int .i64 0, .int .u32 0, .int .i64 0, .int .i64 0, .int .i64 0, .int .u64 0, .int .i64 0, .int .i64 0, .int .u64 0, .slice none 0 0, .bool false, .int .i64 0, .slice none 0 0, .slice p10 x9.length c11, .slice none 0 0])] (by kernel_rfl) fun a Qf hQ hQn hs => ?_
  refine c_seq ?_
  refine c_region ?_
  refine s_new hs hw [.int .i64 12, .int .i64 1, .int .i64 1, .int .i64 0, .int .u64 1, .int .u64 0, .int .u64 0, .int .u64 0, .int .u64 0, .int .u64 0, .int .i64 0, .int .u32 0, .int .i64 0, .int .i64 0, .int .i64 0, .int .u64 0, .int .i64 0, .int .i64 0, .int .u64 0, .slice none 0 0, .bool false, .int .i64 0, .slice none 0 0, .slice p2 x1.length c3, .slice none 0 0] 90 (fun b => .pointer (some ⟨b, 0, none⟩)) (by kernel_rfl) (fun _ => by kernel_rfl) fun a w b83 hs hw => ?_
  refine s_new hs hw [.int .i64 12, .int .i64 1, .int .i64 1, .int .i64 x5, .int .u64 x6, .int .u64 0, .int .u64 0, .int .u64 x7, .int .u64 x8, .int .u64 0, .int .i64 0, .int .u32 0, .int .i64 0, .int .i64 0, .int .i64 0, .int .u64 0, .int .i64 0, .int .i64 0, .int .u64 0, .slice none 0 0, .bool false, .int .i64 0, .slice none 0 0, .slice p10 x9.length c11, .slice none 0 0] 90 (fun b => .pointer (some ⟨b, 0, none⟩)) (by kernel_rfl) (fun _ => by kernel_rfl) fun a w b85 hs hw => ?_
  refine pures hs 1 [2, 3] [(2, .pointer (some ⟨b83, 0, none⟩)), (3, .pointer (some ⟨b85, 0, none⟩))] (by kernel_rfl) fun a hs => ?_
  refine s_end ?_
  refine c_seq ?_
  refine c_block ?_
  refine c_seq ?_
  obtain ⟨J90, hJ90⟩ : ∃ J : Act → World → Prop, ∀ a w, J a w ↔ (Sees a 127 [(2, .pointer (some ⟨b83, 0, none⟩)), (3, .pointer (some ⟨b85, 0, none⟩)), (5, .bool ((0 != x5) || false))] ∧ St g w [bx b85 [.int .i64 12, .int .i64 1, .int .i64 1, .int .i64 x5, .int .u64 x6, .int .u64 0, .int .u64 0, .int .u64 x7, .int .u64 x8, .int .u64 0, .int .i64 0, .int .u32 0, .int .i64 0, .int .i64 0, .int .i64 0, .int .u64 0, .int .i64 0, .int .i64 0, .int .u64 0, .slice none 0 0, .bool false, .int .i64 0, .slice none 0 0, .slice p10 x9.length c11, .slice none 0 0] 90, bx b83 [.int .i64 12, .int .i64 1, .int .i64 1, .int .i64 0, .int .u64 1, .int .u64 0, .int .u64 0, .int .u64 0, .int .u64 0, .int .u64 0, .int .i64 0, .int .u32 0, .int .i64 0, .int .i64 0, .int .i64 0, .int .u64 0, .int .i64 0, .int .i64 0, .int .u64 0, .slice none 0 0, .bool false, .int .i64 0, .slice none 0 0, .slice p2 x1.length c3, .slice none 0 0] 90, F] ih) := ⟨_, fun _ _ => Iff.rfl⟩
  refine c_regJ J90 ?_ ?_
  · refine pures hs 1 [2, 3, 6] [(2, .pointer (some ⟨b83, 0, none⟩)), (3, .pointer (some ⟨b85, 0, none⟩)), (6, .pointer (some ⟨b83, 0, none⟩))] (by kernel_rfl) fun a hs => ?_
    refine s_load hs (hw.at_ 1 rfl) 0 (by kernel_rfl) (by kernel_rfl) (v := .int .i64 12) (by kernel_rfl) fun a hs => ?_
    refine pures hs 1 [2, 3, 7, 8] [(2, .pointer (some ⟨b83, 0, none⟩)), (3, .pointer (some ⟨b85, 0, none⟩)), (7, .int .i64 12), (8, .pointer (some ⟨b85, 0, none⟩))] (by kernel_rfl) fun a hs => ?_
    refine s_load hs (hw.at_ 0 rfl) 0 (by kernel_rfl) (by kernel_rfl) (v := .int .i64 12) (by kernel_rfl) fun a hs => ?_
    refine pures hs 3 [2, 3, 11, 12] [(2, .pointer (some ⟨b83, 0, none⟩)), (3, .pointer (some ⟨b85, 0, none⟩)), (11, .bool false), (12, .pointer (some ⟨b83, 1, none⟩))] (by kernel_rfl) fun a hs => ?_
    refine s_load hs (hw.at_ 1 rfl) 1 (by kernel_rfl) (by kernel_rfl) (v := .int .i64 1) (by kernel_rfl) fun a hs => ?_
    refine pures hs 1 [2, 3, 11, 13, 14] [(2, .pointer (some ⟨b83, 0, none⟩)), (3, .pointer (some ⟨b85, 0, none⟩)), (11, .bool false), (13, .int .i64 1), (14, .pointer (some ⟨b85, 1, none⟩))] (by kernel_rfl) fun a hs => ?_
    refine s_load hs (hw.at_ 0 rfl) 1 (by kernel_rfl) (by kernel_rfl) (v := .int .i64 1) (by kernel_rfl) fun a hs => ?_
    refine pures hs 4 [2, 3, 18, 19] [(2, .pointer (some ⟨b83, 0, none⟩)), (3, .pointer (some ⟨b85, 0, none⟩)), (18, .bool false), (19, .pointer (some ⟨b83, 2, none⟩))] (by kernel_rfl) fun a hs => ?_
    refine s_load hs (hw.at_ 1 rfl) 2 (by kernel_rfl) (by kernel_rfl) (v := .int .i64 1) (by kernel_rfl) fun a hs => ?_
    refine pures hs 1 [2, 3, 18, 20, 21] [(2, .pointer (some ⟨b83, 0, none⟩)), (3, .pointer (some ⟨b85, 0, none⟩)), (18, .bool false), (20, .int .i64 1), (21, .pointer (some ⟨b85, 2, none⟩))] (by kernel_rfl) fun a hs => ?_
    refine s_load hs (hw.at_ 0 rfl) 2 (by kernel_rfl) (by kernel_rfl) (v := .int .i64 1) (by kernel_rfl) fun a hs => ?_
    refine pures hs 4 [2, 3, 25, 26] [(2, .pointer (some ⟨b83, 0, none⟩)), (3, .pointer (some ⟨b85, 0, none⟩)), (25, .bool false), (26, .pointer (some ⟨b83, 3, none⟩))] (by kernel_rfl) fun a hs => ?_
    refine s_load hs (hw.at_ 1 rfl) 3 (by kernel_rfl) (by kernel_rfl) (v := .int .i64 0) (by kernel_rfl) fun a hs => ?_
    refine pures hs 1 [2, 3, 25, 27, 28] [(2, .pointer (some ⟨b83, 0, none⟩)), (3, .pointer (some ⟨b85, 0, none⟩)), (25, .bool false), (27, .int .i64 0), (28, .pointer (some ⟨b85, 3, none⟩))] (by kernel_rfl) fun a hs => ?_
    refine s_load hs (hw.at_ 0 rfl) 3 (by kernel_rfl) (by kernel_rfl) (v := .int .i64 x5) (by kernel_rfl) fun a hs => ?_
    refine pures hs 3 [2, 3, 32] [(2, .pointer (some ⟨b83, 0, none⟩)), (3, .pointer (some ⟨b85, 0, none⟩)), (32, .bool (0 != x5))] (by kernel_rfl) fun a hs => ?_
    rcases boolE (0 != x5) with h91 | h91
    · replace hs := hs.altB 32 true (by kernel_rfl) h91
      refine pures hs 21 [2, 3, 5] [(2, .pointer (some ⟨b83, 0, none⟩)), (3, .pointer (some ⟨b85, 0, none⟩)), (5, .bool true)] (by kernel_rfl) fun a hs => ?_
      refine s_end ?_
      exact (hJ90 _ _).2 ⟨(hs.altB 5 ((0 != x5) || false) (by kernel_rfl) (by rw [h91] <;> rfl)).cast [2, 3, 5] (by kernel_rfl), hw.pick [0, 1, 2] (by kernel_rfl)⟩
    replace hs := hs.altB 32 false (by kernel_rfl) h91
    refine pures hs 1 [2, 3, 32, 33] [(2, .pointer (some ⟨b83, 0, none⟩)), (3, .pointer (some ⟨b85, 0, none⟩)), (32, .bool false), (33, .pointer (some ⟨b83, 10, none⟩))] (by kernel_rfl) fun a hs => ?_
    refine s_load hs (hw.at_ 1 rfl) 10 (by kernel_rfl) (by kernel_rfl) (v := .int .i64 0) (by kernel_rfl) fun a hs => ?_
    refine pures hs 1 [2, 3, 32, 34, 35] [(2, .pointer (some ⟨b83, 0, none⟩)), (3, .pointer (some ⟨b85, 0, none⟩)), (32, .bool false), (34, .int .i64 0), (35, .pointer (some ⟨b85, 10, none⟩))] (by kernel_rfl) fun a hs => ?_
    refine s_load hs (hw.at_ 0 rfl) 10 (by kernel_rfl) (by kernel_rfl) (v := .int .i64 0) (by kernel_rfl) fun a hs => ?_
    refine pures hs 4 [2, 3, 39, 40] [(2, .pointer (some ⟨b83, 0, none⟩)), (3, .pointer (some ⟨b85, 0, none⟩)), (39, .bool false), (40, .pointer (some ⟨b83, 11, none⟩))] (by kernel_rfl) fun a hs => ?_
    refine s_load hs (hw.at_ 1 rfl) 11 (by kernel_rfl) (by kernel_rfl) (v := .int .u32 0) (by kernel_rfl) fun a hs => ?_
    refine pures hs 1 [2, 3, 39, 41, 42] [(2, .pointer (some ⟨b83, 0, none⟩)), (3, .pointer (some ⟨b85, 0, none⟩)), (39, .bool false), (41, .int .u32 0), (42, .pointer (some ⟨b85, 11, none⟩))] (by kernel_rfl) fun a hs => ?_
    refine s_load hs (hw.at_ 0 rfl) 11 (by kernel_rfl) (by kernel_rfl) (v := .int .u32 0) (by kernel_rfl) fun a hs => ?_
    refine pures hs 4 [2, 3, 46, 47] [(2, .pointer (some ⟨b83, 0, none⟩)), (3, .pointer (some ⟨b85, 0, none⟩)), (46, .bool false), (47, .pointer (some ⟨b83, 12, none⟩))] (by kernel_rfl) fun a hs => ?_
    refine s_load hs (hw.at_ 1 rfl) 12 (by kernel_rfl) (by kernel_rfl) (v := .int .i64 0) (by kernel_rfl) fun a hs => ?_
    refine pures hs 1 [2, 3, 46, 48, 49] [(2, .pointer (some ⟨b83, 0, none⟩)), (3, .pointer (some ⟨b85, 0, none⟩)), (46, .bool false), (48, .int .i64 0), (49, .pointer (some ⟨b85, 12, none⟩))] (by kernel_rfl) fun a hs => ?_
    refine s_load hs (hw.at_ 0 rfl) 12 (by kernel_rfl) (by kernel_rfl) (v := .int .i64 0) (by kernel_rfl) fun a hs => ?_
    refine pures hs 3 [2, 3, 5] [(2, .pointer (some ⟨b83, 0, none⟩)), (3, .pointer (some ⟨b85, 0, none⟩)), (5, .bool false)] (by kernel_rfl) fun a hs => ?_
    refine s_end ?_
    exact (hJ90 _ _).2 ⟨(hs.altB 5 ((0 != x5) || false) (by kernel_rfl) (by rw [h91] <;> rfl)).cast [2, 3, 5] (by kernel_rfl), hw.pick [0, 1, 2] (by kernel_rfl)⟩
  intro a w hh
  obtain ⟨hs, hw⟩ := (hJ90 _ _).1 hh
  rcases ifbE hk with ⟨h92, hk⟩ | ⟨h92, hk⟩
  · refine c_cond1 hs (by kernel_rfl) (t := ((0 != x5) || false)) (by kernel_rfl) h92 ?_
    refine c_seq ?_
    refine c_region ?_
    refine pures hs 1 [4] [(4, .bool false)] (by kernel_rfl) fun a hs => ?_
    refine s_end ?_
    refine c_ret ?_
    obtain rfl := someE hk
    refine hQ _ _ (f_ret1 hs rfl (v := .bool false) (by kernel_rfl) ⟨rfl, hw.pick [2] (by kernel_rfl)⟩)
  refine c_cond0 hs (by kernel_rfl) (t := ((0 != x5) || false)) (by kernel_rfl) h92 ?_
  refine c_seq ?_
  obtain ⟨J100, hJ100⟩ : ∃ J : Act → World → Prop, ∀ a w, J a w ↔ (Sees a 127 [(2, .pointer (some ⟨b83, 0, none⟩)), (3, .pointer (some ⟨b85, 0, none⟩)), (53, .bool ((1 != x6) || ((0 != x7) || ((0 != x8) || false))))] ∧ St g w [bx b85 [.int .i64 12, .int .i64 1, .int .i64 1, .int .i64 x5, .int .u64 x6, .int .u64 0, .int .u64 0, .int .u64 x7, .int .u64 x8, .int .u64 0, .int .i64 0, .int .u32 0, .int .i64 0, .int .i64 0, .int .i64 0, .int .u64 0, .int .i64 0, .int .i64 0, .int .u64 0, .slice none 0 0, .bool false, .int .i64 0, .slice none 0 0, .slice p10 x9.length c11, .slice none 0 0] 90, bx b83 [.int .i64 12, .int .i64 1, .int .i64 1, .int .i64 0, .int .u64 1, .int .u64 0, .int .u64 0, .int .u64 0, .int .u64 0, .int .u64 0, .int .i64 0, .int .u32 0, .int .i64 0, .int .i64 0, .int .i64 0, .int .u64 0, .int .i64 0, .int .i64 0, .int .u64 0, .slice none 0 0, .bool false, .int .i64 0, .slice none 0 0, .slice p2 x1.length c3, .slice none 0 0] 90, F] ih) := ⟨_, fun _ _ => Iff.rfl⟩
  refine c_regJ J100 ?_ ?_
  · refine pures hs 1 [2, 3, 54] [(2, .pointer (some ⟨b83, 0, none⟩)), (3, .pointer (some ⟨b85, 0, none⟩)), (54, .pointer (some ⟨b83, 4, none⟩))] (by kernel_rfl) fun a hs => ?_
    refine s_load hs (hw.at_ 1 rfl) 4 (by kernel_rfl) (by kernel_rfl) (v := .int .u64 1) (by kernel_rfl) fun a hs => ?_
    refine pures hs 1 [2, 3, 55, 56] [(2, .pointer (some ⟨b83, 0, none⟩)), (3, .pointer (some ⟨b85, 0, none⟩)), (55, .int .u64 1), (56, .pointer (some ⟨b85, 4, none⟩))] (by kernel_rfl) fun a hs => ?_
    refine s_load hs (hw.at_ 0 rfl) 4 (by kernel_rfl) (by kernel_rfl) (v := .int .u64 x6) (by kernel_rfl) fun a hs => ?_
    refine pures hs 2 [2, 3, 59] [(2, .pointer (some ⟨b83, 0, none⟩)), (3, .pointer (some ⟨b85, 0, none⟩)), (59, .bool (1 != x6))] (by kernel_rfl) fun a hs => ?_
    rcases boolE (1 != x6) with h101 | h101
    · replace hs := hs.altB 59 true (by kernel_rfl) h101
      refine pures hs 35 [2, 3, 53] [(2, .pointer (some ⟨b83, 0, none⟩)), (3, .pointer (some ⟨b85, 0, none⟩)), (53, .bool true)] (by kernel_rfl) fun a hs => ?_
      refine s_end ?_
      exact (hJ100 _ _).2 ⟨(hs.altB 53 ((1 != x6) || ((0 != x7) || ((0 != x8) || false))) (by kernel_rfl) (by rw [h101] <;> rfl)).cast [2, 3, 53] (by kernel_rfl), hw.pick [0, 1, 2] (by kernel_rfl)⟩
    replace hs := hs.altB 59 false (by kernel_rfl) h101
    refine pures hs 1 [2, 3, 59, 60] [(2, .pointer (some ⟨b83, 0, none⟩)), (3, .pointer (some ⟨b85, 0, none⟩)), (59, .bool false), (60, .pointer (some ⟨b83, 5, none⟩))] (by kernel_rfl) fun a hs => ?_
    refine s_load hs (hw.at_ 1 rfl) 5 (by kernel_rfl) (by kernel_rfl) (v := .int .u64 0) (by kernel_rfl) fun a hs => ?_
    refine pures hs 1 [2, 3, 59, 61, 62] [(2, .pointer (some ⟨b83, 0, none⟩)), (3, .pointer (some ⟨b85, 0, none⟩)), (59, .bool false), (61, .int .u64 0), (62, .pointer (some ⟨b85, 5, none⟩))] (by kernel_rfl) fun a hs => ?_
    refine s_load hs (hw.at_ 0 rfl) 5 (by kernel_rfl) (by kernel_rfl) (v := .int .u64 0) (by kernel_rfl) fun a hs => ?_
    refine pures hs 4 [2, 3, 66, 67] [(2, .pointer (some ⟨b83, 0, none⟩)), (3, .pointer (some ⟨b85, 0, none⟩)), (66, .bool false), (67, .pointer (some ⟨b83, 6, none⟩))] (by kernel_rfl) fun a hs => ?_
    refine s_load hs (hw.at_ 1 rfl) 6 (by kernel_rfl) (by kernel_rfl) (v := .int .u64 0) (by kernel_rfl) fun a hs => ?_
    refine pures hs 1 [2, 3, 66, 68, 69] [(2, .pointer (some ⟨b83, 0, none⟩)), (3, .pointer (some ⟨b85, 0, none⟩)), (66, .bool false), (68, .int .u64 0), (69, .pointer (some ⟨b85, 6, none⟩))] (by kernel_rfl) fun a hs => ?_
    refine s_load hs (hw.at_ 0 rfl) 6 (by kernel_rfl) (by kernel_rfl) (v := .int .u64 0) (by kernel_rfl) fun a hs => ?_
    refine pures hs 4 [2, 3, 73, 74] [(2, .pointer (some ⟨b83, 0, none⟩)), (3, .pointer (some ⟨b85, 0, none⟩)), (73, .bool false), (74, .pointer (some ⟨b83, 7, none⟩))] (by kernel_rfl) fun a hs => ?_
    refine s_load hs (hw.at_ 1 rfl) 7 (by kernel_rfl) (by kernel_rfl) (v := .int .u64 0) (by kernel_rfl) fun a hs => ?_
    refine pures hs 1 [2, 3, 73, 75, 76] [(2, .pointer (some ⟨b83, 0, none⟩)), (3, .pointer (some ⟨b85, 0, none⟩)), (73, .bool false), (75, .int .u64 0), (76, .pointer (some ⟨b85, 7, none⟩))] (by kernel_rfl) fun a hs => ?_
    refine s_load hs (hw.at_ 0 rfl) 7 (by kernel_rfl) (by kernel_rfl) (v := .int .u64 x7) (by kernel_rfl) fun a hs => ?_
    refine pures hs 3 [2, 3, 80] [(2, .pointer (some ⟨b83, 0, none⟩)), (3, .pointer (some ⟨b85, 0, none⟩)), (80, .bool (0 != x7))] (by kernel_rfl) fun a hs => ?_
    rcases boolE (0 != x7) with h102 | h102
    · replace hs := hs.altB 80 true (by kernel_rfl) h102
      refine pures hs 14 [2, 3, 53] [(2, .pointer (some ⟨b83, 0, none⟩)), (3, .pointer (some ⟨b85, 0, none⟩)), (53, .bool true)] (by kernel_rfl) fun a hs => ?_
      refine s_end ?_
      exact (hJ100 _ _).2 ⟨(hs.altB 53 ((1 != x6) || ((0 != x7) || ((0 != x8) || false))) (by kernel_rfl) (by rw [h101, h102] <;> rfl)).cast [2, 3, 53] (by kernel_rfl), hw.pick [0, 1, 2] (by kernel_rfl)⟩
    replace hs := hs.altB 80 false (by kernel_rfl) h102
    refine pures hs 1 [2, 3, 80, 81] [(2, .pointer (some ⟨b83, 0, none⟩)), (3, .pointer (some ⟨b85, 0, none⟩)), (80, .bool false), (81, .pointer (some ⟨b83, 8, none⟩))] (by kernel_rfl) fun a hs => ?_
    refine s_load hs (hw.at_ 1 rfl) 8 (by kernel_rfl) (by kernel_rfl) (v := .int .u64 0) (by kernel_rfl) fun a hs => ?_
    refine pures hs 1 [2, 3, 80, 82, 83] [(2, .pointer (some ⟨b83, 0, none⟩)), (3, .pointer (some ⟨b85, 0, none⟩)), (80, .bool false), (82, .int .u64 0), (83, .pointer (some ⟨b85, 8, none⟩))] (by kernel_rfl) fun a hs => ?_
    refine s_load hs (hw.at_ 0 rfl) 8 (by kernel_rfl) (by kernel_rfl) (v := .int .u64 x8) (by kernel_rfl) fun a hs => ?_
    refine pures hs 3 [2, 3, 87] [(2, .pointer (some ⟨b83, 0, none⟩)), (3, .pointer (some ⟨b85, 0, none⟩)), (87, .bool (0 != x8))] (by kernel_rfl) fun a hs => ?_
    rcases boolE (0 != x8) with h103 | h103
    · replace hs := hs.altB 87 true (by kernel_rfl) h103
      refine pures hs 7 [2, 3, 53] [(2, .pointer (some ⟨b83, 0, none⟩)), (3, .pointer (some ⟨b85, 0, none⟩)), (53, .bool true)] (by kernel_rfl) fun a hs => ?_
      refine s_end ?_
      exact (hJ100 _ _).2 ⟨(hs.altB 53 ((1 != x6) || ((0 != x7) || ((0 != x8) || false))) (by kernel_rfl) (by rw [h101, h102, h103] <;> rfl)).cast [2, 3, 53] (by kernel_rfl), hw.pick [0, 1, 2] (by kernel_rfl)⟩
    replace hs := hs.altB 87 false (by kernel_rfl) h103
    refine pures hs 1 [2, 3, 87, 88] [(2, .pointer (some ⟨b83, 0, none⟩)), (3, .pointer (some ⟨b85, 0, none⟩)), (87, .bool false), (88, .pointer (some ⟨b83, 9, none⟩))] (by kernel_rfl) fun a hs => ?_
    refine s_load hs (hw.at_ 1 rfl) 9 (by kernel_rfl) (by kernel_rfl) (v := .int .u64 0) (by kernel_rfl) fun a hs => ?_
    refine pures hs 1 [2, 3, 87, 89, 90] [(2, .pointer (some ⟨b83, 0, none⟩)), (3, .pointer (some ⟨b85, 0, none⟩)), (87, .bool false), (89, .int .u64 0), (90, .pointer (some ⟨b85, 9, none⟩))] (by kernel_rfl) fun a hs => ?_
    refine s_load hs (hw.at_ 0 rfl) 9 (by kernel_rfl) (by kernel_rfl) (v := .int .u64 0) (by kernel_rfl) fun a hs => ?_
    refine pures hs 3 [2, 3, 53] [(2, .pointer (some ⟨b83, 0, none⟩)), (3, .pointer (some ⟨b85, 0, none⟩)), (53, .bool false)] (by kernel_rfl) fun a hs => ?_
    refine s_end ?_
    exact (hJ100 _ _).2 ⟨(hs.altB 53 ((1 != x6) || ((0 != x7) || ((0 != x8) || false))) (by kernel_rfl) (by rw [h101, h102, h103] <;> rfl)).cast [2, 3, 53] (by kernel_rfl), hw.pick [0, 1, 2] (by kernel_rfl)⟩
  intro a w hh
  obtain ⟨hs, hw⟩ := (hJ100 _ _).1 hh
  rcases ifbE hk with ⟨h104, hk⟩ | ⟨h104, hk⟩
  · refine c_cond1 hs (by kernel_rfl) (t := ((1 != x6) || ((0 != x7) || ((0 != x8) || false)))) (by kernel_rfl) h104 ?_
    refine c_seq ?_
    refine c_region ?_
    refine pures hs 1 [4] [(4, .bool false)] (by kernel_rfl) fun a hs => ?_
    refine s_end ?_
    refine c_ret ?_
    obtain rfl := someE hk
    refine hQ _ _ (f_ret1 hs rfl (v := .bool false) (by kernel_rfl) ⟨rfl, hw.pick [2] (by kernel_rfl)⟩)
  refine c_cond0 hs (by kernel_rfl) (t := ((1 != x6) || ((0 != x7) || ((0 != x8) || false)))) (by kernel_rfl) h104 ?_
  refine c_seq ?_
  obtain ⟨J112, hJ112⟩ : ∃ J : Act → World → Prop, ∀ a w, J a w ↔ (Sees a 127 [(2, .pointer (some ⟨b83, 0, none⟩)), (3, .pointer (some ⟨b85, 0, none⟩)), (94, .bool ((!((0 == 0) && ((0 == 0) && ((0 == 0) && ((0 == 0) && true))))) || false))] ∧ St g w [bx b85 [.int .i64 12, .int .i64 1, .int .i64 1, .int .i64 x5, .int .u64 x6, .int .u64 0, .int .u64 0, .int .u64 x7, .int .u64 x8, .int .u64 0, .int .i64 0, .int .u32 0, .int .i64 0, .int .i64 0, .int .i64 0, .int .u64 0, .int .i64 0, .int .i64 0, .int .u64 0, .slice none 0 0, .bool false, .int .i64 0, .slice none 0 0, .slice p10 x9.length c11, .slice none 0 0] 90, bx b83 [.int .i64 12, .int .i64 1, .int .i64 1, .int .i64 0, .int .u64 1, .int .u64 0, .int .u64 0, .int .u64 0, .int .u64 0, .int .u64 0, .int .i64 0, .int .u32 0, .int .i64 0, .int .i64 0, .int .i64 0, .int .u64 0, .int .i64 0, .int .i64 0, .int .u64 0, .slice none 0 0, .bool false, .int .i64 0, .slice none 0 0, .slice p2 x1.length c3, .slice none 0 0] 90, F] ih) := ⟨_, fun _ _ => Iff.rfl⟩
  refine c_regJ J112 ?_ ?_
  · refine pures hs 1 [2, 3, 95] [(2, .pointer (some ⟨b83, 0, none⟩)), (3, .pointer (some ⟨b85, 0, none⟩)), (95, .pointer (some ⟨b83, 13, none⟩))] (by kernel_rfl) fun a hs => ?_
    refine s_load hs (hw.at_ 1 rfl) 13 (by kernel_rfl) (by kernel_rfl) (v := .agg #[.int .i64 0, .int .i64 0, .int .u64 0, .int .i64 0]) (by kernel_rfl) fun a hs => ?_
    refine pures hs 1 [2, 3, 96, 97] [(2, .pointer (some ⟨b83, 0, none⟩)), (3, .pointer (some ⟨b85, 0, none⟩)), (96, .agg #[.int .i64 0, .int .i64 0, .int .u64 0, .int .i64 0]), (97, .pointer (some ⟨b85, 13, none⟩))] (by kernel_rfl) fun a hs => ?_
    refine s_load hs (hw.at_ 0 rfl) 13 (by kernel_rfl) (by kernel_rfl) (v := .agg #[.int .i64 0, .int .i64 0, .int .u64 0, .int .i64 0]) (by kernel_rfl) fun a hs => ?_
    refine s_ne hs (c1 := [.int .i64 0, .int .i64 0, .int .u64 0, .int .i64 0]) (c2 := [.int .i64 0, .int .i64 0, .int .u64 0, .int .i64 0]) ((0 == 0) && ((0 == 0) && ((0 == 0) && ((0 == 0) && true)))) (by kernel_rfl) (by kernel_rfl) (by kernel_rfl) (by kernel_rfl) (by kernel_rfl) fun a hs => ?_
    refine pures hs 1 [2, 3, 100] [(2, .pointer (some ⟨b83, 0, none⟩)), (3, .pointer (some ⟨b85, 0, none⟩)), (100, .bool (!((0 == 0) && ((0 == 0) && ((0 == 0) && ((0 == 0) && true))))))] (by kernel_rfl) fun a hs => ?_
    rcases boolE (!((0 == 0) && ((0 == 0) && ((0 == 0) && ((0 == 0) && true))))) with h113 | h113
    · replace hs := hs.altB 100 true (by kernel_rfl) h113
      refine pures hs 8 [2, 3, 94] [(2, .pointer (some ⟨b83, 0, none⟩)), (3, .pointer (some ⟨b85, 0, none⟩)), (94, .bool true)] (by kernel_rfl) fun a hs => ?_
      refine s_end ?_
      exact (hJ112 _ _).2 ⟨(hs.altB 94 ((!((0 == 0) && ((0 == 0) && ((0 == 0) && ((0 == 0) && true))))) || false) (by kernel_rfl) (by rw [h113] <;> rfl)).cast [2, 3, 94] (by kernel_rfl), hw.pick [0, 1, 2] (by kernel_rfl)⟩
    replace hs := hs.altB 100 false (by kernel_rfl) h113
    refine pures hs 1 [2, 3, 100, 101] [(2, .pointer (some ⟨b83, 0, none⟩)), (3, .pointer (some ⟨b85, 0, none⟩)), (100, .bool false), (101, .pointer (some ⟨b83, 17, none⟩))] (by kernel_rfl) fun a hs => ?_
    refine s_load hs (hw.at_ 1 rfl) 17 (by kernel_rfl) (by kernel_rfl) (v := .agg #[.int .i64 0, .int .u64 0, .slice none 0 0, .bool false, .int .i64 0]) (by kernel_rfl) fun a hs => ?_
    refine pures hs 1 [2, 3, 100, 102, 103] [(2, .pointer (some ⟨b83, 0, none⟩)), (3, .pointer (some ⟨b85, 0, none⟩)), (100, .bool false), (102, .agg #[.int .i64 0, .int .u64 0, .slice none 0 0, .bool false, .int .i64 0]), (103, .pointer (some ⟨b85, 17, none⟩))] (by kernel_rfl) fun a hs => ?_
    refine s_load hs (hw.at_ 0 rfl) 17 (by kernel_rfl) (by kernel_rfl) (v := .agg #[.int .i64 0, .int .u64 0, .slice none 0 0, .bool false, .int .i64 0]) (by kernel_rfl) fun a hs => ?_
    have h115 : conf_Same = some () := rfl
    refine s_call hs (by kernel_rfl) (by kernel_rfl) (conf_Same_s h115 ((hw.pick [0, 1, 2] (by kernel_rfl)).pack 0)) fun a w v hv hs => ?_
    obtain ⟨rfl, hw⟩ := hv
    replace hw := hw.unpack 0 rfl
    refine pures hs 3 [2, 3, 94] [(2, .pointer (some ⟨b83, 0, none⟩)), (3, .pointer (some ⟨b85, 0, none⟩)), (94, .bool false)] (by kernel_rfl) fun a hs => ?_
    refine s_end ?_
    exact (hJ112 _ _).2 ⟨(hs.altB 94 ((!((0 == 0) && ((0 == 0) && ((0 == 0) && ((0 == 0) && true))))) || false) (by kernel_rfl) (by rw [h113] <;> rfl)).cast [2, 3, 94] (by kernel_rfl), hw.pick [0, 1, 2] (by kernel_rfl)⟩
  intro a w hh
  obtain ⟨hs, hw⟩ := (hJ112 _ _).1 hh
  rcases ifbE hk with ⟨h116, hk⟩ | ⟨h116, hk⟩
  · refine c_cond1 hs (by kernel_rfl) (t := ((!((0 == 0) && ((0 == 0) && ((0 == 0) && ((0 == 0) && true))))) || false)) (by kernel_rfl) h116 ?_
    refine c_seq ?_
    refine c_region ?_
    refine pures hs 1 [4] [(4, .bool false)] (by kernel_rfl) fun a hs => ?_
    refine s_end ?_
    refine c_ret ?_
    obtain rfl := someE hk
    refine hQ _ _ (f_ret1 hs rfl (v := .bool false) (by kernel_rfl) ⟨rfl, hw.pick [2] (by kernel_rfl)⟩)
  refine c_cond0 hs (by kernel_rfl) (t := ((!((0 == 0) && ((0 == 0) && ((0 == 0) && ((0 == 0) && true))))) || false)) (by kernel_rfl) h116 ?_
  refine c_skip ?_
  refine c_seq ?_
  obtain ⟨y132, hx133, hk⟩ := bindE hk
  obtain ⟨J134, hJ134⟩ : ∃ J : Act → World → Prop, ∀ a w, J a w ↔ (∃ (x131 : Bool), letter_Same_r2 x131 = some r ∧ Sees a 127 [(4, .bool x131)] ∧ St g w [F] ih) := ⟨_, fun _ _ => Iff.rfl⟩
  refine c_regJ J134 ?_ ?_
  · refine pures hs 1 [2, 3, 108] [(2, .pointer (some ⟨b83, 0, none⟩)), (3, .pointer (some ⟨b85, 0, none⟩)), (108, .pointer (some ⟨b83, 22, none⟩))] (by kernel_rfl) fun a hs => ?_
    refine s_load hs (hw.at_ 1 rfl) 22 (by kernel_rfl) (by kernel_rfl) (v := .slice none 0 0) (by kernel_rfl) fun a hs => ?_
    refine pures hs 1 [2, 3, 109, 110] [(2, .pointer (some ⟨b83, 0, none⟩)), (3, .pointer (some ⟨b85, 0, none⟩)), (109, .slice none 0 0), (110, .pointer (some ⟨b85, 22, none⟩))] (by kernel_rfl) fun a hs => ?_
    refine s_load hs (hw.at_ 0 rfl) 22 (by kernel_rfl) (by kernel_rfl) (v := .slice none 0 0) (by kernel_rfl) fun a hs => ?_
    have h136 : slices_Equal_api_Vote_api_Vote = some () := rfl
    refine s_call hs (by kernel_rfl) (by kernel_rfl) (slices_Equal_api_Vote_api_Vote_s h136 ((hw.pick [0, 1, 2] (by kernel_rfl)).pack 0)) fun a w v hv hs => ?_
    obtain ⟨rfl, hw⟩ := hv
    replace hw := hw.unpack 0 rfl
    refine pures hs 2 [2, 3, 113, 114] [(2, .pointer (some ⟨b83, 0, none⟩)), (3, .pointer (some ⟨b85, 0, none⟩)), (113, .bool true), (114, .pointer (some ⟨b83, 23, none⟩))] (by kernel_rfl) fun a hs => ?_
    refine s_load hs (hw.at_ 1 rfl) 23 (by kernel_rfl) (by kernel_rfl) (v := .slice p2 x1.length c3) (by kernel_rfl) fun a hs => ?_
    refine pures hs 1 [2, 3, 113, 115, 116] [(2, .pointer (some ⟨b83, 0, none⟩)), (3, .pointer (some ⟨b85, 0, none⟩)), (113, .bool true), (115, .slice p2 x1.length c3), (116, .pointer (some ⟨b85, 23, none⟩))] (by kernel_rfl) fun a hs => ?_
    refine s_load hs (hw.at_ 0 rfl) 23 (by kernel_rfl) (by kernel_rfl) (v := .slice p10 x9.length c11) (by kernel_rfl) fun a hs => ?_
    obtain ⟨y137, h138, hx133⟩ := bindE hx133
    refine s_call hs (by kernel_rfl) (by kernel_rfl) (slices_EqualFunc_api_Update_api_Update_api_Update_api_Update_s h138 h4 (nilSub _) h12 (nilSub _) ((hw.pick [0, 1, 2] (by kernel_rfl)).pack 0)) fun a w v hv hs => ?_
    obtain ⟨rfl, hw⟩ := hv
    replace hw := hw.unpack 0 rfl
    refine pures hs 2 [2, 3, 120] [(2, .pointer (some ⟨b83, 0, none⟩)), (3, .pointer (some ⟨b85, 0, none⟩)), (120, .bool y137)] (by kernel_rfl) fun a hs => ?_
    rcases ifbE hx133 with ⟨h139, hx133⟩ | ⟨h139, hx133⟩
    · replace hs := hs.altB 120 true (by kernel_rfl) h139
      refine pures hs 1 [3, 120, 121] [(3, .pointer (some ⟨b85, 0, none⟩)), (120, .bool true), (121, .pointer (some ⟨b83, 24, none⟩))] (by kernel_rfl) fun a hs => ?_
      refine s_load hs (hw.at_ 1 rfl) 24 (by kernel_rfl) (by kernel_rfl) (v := .slice none 0 0) (by kernel_rfl) fun a hs => ?_
      refine pures hs 1 [120, 122, 123] [(120, .bool true), (122, .slice none 0 0), (123, .pointer (some ⟨b85, 24, none⟩))] (by kernel_rfl) fun a hs => ?_
      refine s_load hs (hw.at_ 0 rfl) 24 (by kernel_rfl) (by kernel_rfl) (v := .slice none 0 0) (by kernel_rfl) fun a hs => ?_
      obtain ⟨y140, h141, hx133⟩ := bindE hx133
      refine s_call hs (by kernel_rfl) (by kernel_rfl) (bytes_Equal_2_s h141 ((hw.pick [2] (by kernel_rfl)).pack 0)) fun a w v hv hs => ?_
      obtain ⟨rfl, hw⟩ := hv
      replace hw := hw.unpack 0 rfl
      refine pures hs 2 [4] [(4, .bool y140)] (by kernel_rfl) fun a hs => ?_
      refine s_end ?_
      obtain rfl := someE hx133
      exact (hJ134 _ _).2 ⟨y140, hk, hs.cast [4] (by kernel_rfl), hw.pick [0] (by kernel_rfl)⟩
    replace hs := hs.altB 120 false (by kernel_rfl) h139
    refine pures hs 7 [4] [(4, .bool false)] (by kernel_rfl) fun a hs => ?_
    refine s_end ?_
    obtain rfl := someE hx133
    exact (hJ134 _ _).2 ⟨false, hk, hs.cast [4] (by kernel_rfl), hw.pick [2] (by kernel_rfl)⟩
  intro a w hh
  obtain ⟨x131, hk, hs, hw⟩ := (hJ134 _ _).1 hh
  refine c_ret ?_
  obtain rfl := someE hk
  refine hQ _ _ (f_ret1 hs rfl (v := .bool x131) (by kernel_rfl) ⟨rfl, hw.pick [0] (by kernel_rfl)⟩)
def letter_small : Option Unit :=
  some ()
theorem letter_small_s {r : Unit} (hk : letter_small = some r) {g w : World} {F : Ch} {ih : IH} (hw : St g w [F] ih) :
    CallsR Tryz.prog 85 #[.int .i64 1, .func (.func 86) #[] #[], .func (.func 87) #[] #[]] w fun v w' => ∃ (b27 : Nat) (b29 : Nat), v = .agg #[.func (.func 86) #[] #[], .func (.func 102) #[] #[.pointer (some ⟨b27, 0, none⟩), .pointer (some ⟨b29, 0, none⟩)], .func (.func 104) #[] #[.pointer (some ⟨b29, 0, none⟩), .pointer (some ⟨b27, 0, none⟩)]] ∧ St g w' [bx b27 [.func (.func 87) #[] #[]] 118, bx b29 [.int .i64 1] 3, F] ih := by
  refine f_in (vs := [.int .i64 1, .func (.func 86) #[] #[], .func (.func 87) #[] #[]]) Tryz.func85 rfl 11 rfl (by kernel_rfl) [(0, .int .i64 1), (1, .func (.func 86) #[] #[]), (2, .func (.func 87) #[] #[])] (by kernel_rfl) fun a Qf hQ hQn hs => ?_
  refine c_seq ?_
  refine c_region ?_
  refine s_new hs hw [.int .i64 1] 3 (fun b => .pointer (some ⟨b, 0, none⟩)) (by kernel_rfl) (fun _ => by kernel_rfl) fun a w b21 hs hw => ?_
  refine s_new hs hw [.func (.func 87) #[] #[]] 118 (fun b => .pointer (some ⟨b, 0, none⟩)) (by kernel_rfl) (fun _ => by kernel_rfl) fun a w b23 hs hw => ?_
  refine s_new hs hw [.nilFunc, .nilFunc, .nilFunc] 101 (fun b => .pointer (some ⟨b, 0, none⟩)) (by kernel_rfl) (fun _ => by kernel_rfl) fun a w b25 hs hw => ?_
  refine s_end ?_
  refine c_seq ?_
  refine c_region ?_
  refine pures hs 4 [6, 10] [(6, .pointer (some ⟨b25, 0, none⟩)), (10, .agg #[.func (.func 86) #[] #[], .func (.func 102) #[] #[.pointer (some ⟨b23, 0, none⟩), .pointer (some ⟨b21, 0, none⟩)], .func (.func 104) #[] #[.pointer (some ⟨b21, 0, none⟩), .pointer (some ⟨b23, 0, none⟩)]])] (by kernel_rfl) fun a hs => ?_
  refine s_store hs hw 0 rfl 0 (by kernel_rfl) (by kernel_rfl) (v := .agg #[.func (.func 86) #[] #[], .func (.func 102) #[] #[.pointer (some ⟨b23, 0, none⟩), .pointer (some ⟨b21, 0, none⟩)], .func (.func 104) #[] #[.pointer (some ⟨b21, 0, none⟩), .pointer (some ⟨b23, 0, none⟩)]]) (by kernel_rfl) (by kernel_rfl) (by kernel_rfl) (by kernel_rfl) fun a w hs hw => ?_
  refine s_end ?_
  refine c_ret ?_
  obtain rfl := someE hk
  refine hQ _ _ (f_retC hs rfl (hw.at_ 0 rfl) (by kernel_rfl) (v := .agg #[.func (.func 86) #[] #[], .func (.func 102) #[] #[.pointer (some ⟨b23, 0, none⟩), .pointer (some ⟨b21, 0, none⟩)], .func (.func 104) #[] #[.pointer (some ⟨b21, 0, none⟩), .pointer (some ⟨b23, 0, none⟩)]]) (by kernel_rfl) ⟨b23, b21, rfl, hw.pick [1, 2, 3] (by kernel_rfl)⟩)
def letter_of : Option Unit :=
  some ()
theorem letter_of_s {r : Unit} (hk : letter_of = some r) {g w : World} {F : Ch} {ih : IH} (hw : St g w [F] ih) :
    CallsR Tryz.prog 83 #[.int .i64 1] w fun v w' => ∃ (b35 : Nat) (b37 : Nat), v = .agg #[.func (.func 86) #[] #[], .func (.func 102) #[] #[.pointer (some ⟨b35, 0, none⟩), .pointer (some ⟨b37, 0, none⟩)], .func (.func 104) #[] #[.pointer (some ⟨b37, 0, none⟩), .pointer (some ⟨b35, 0, none⟩)]] ∧ St g w' [bx b35 [.func (.func 87) #[] #[]] 118, bx b37 [.int .i64 1] 3, F] ih := by
  refine f_in (vs := [.int .i64 1]) Tryz.func83 rfl 30 rfl (by kernel_rfl) [(0, .int .i64 1)] (by kernel_rfl) fun a Qf hQ hQn hs => ?_
  refine c_seq ?_
  refine c_region ?_
  refine s_new hs hw [.nilFunc, .nilFunc, .nilFunc] 101 (fun b => .pointer (some ⟨b, 0, none⟩)) (by kernel_rfl) (fun _ => by kernel_rfl) fun a w b21 hs hw => ?_
  refine s_end ?_
  refine c_seq ?_
  refine c_region ?_
  refine pures hs 1 [0, 2, 3] [(0, .int .i64 1), (2, .pointer (some ⟨b21, 0, none⟩)), (3, .int .i64 1)] (by kernel_rfl) fun a hs => ?_
  refine s_end ?_
  refine c_block ?_
  refine c_seq ?_
  refine c_region ?_
  refine pures hs 2 [0, 2, 3, 6] [(0, .int .i64 1), (2, .pointer (some ⟨b21, 0, none⟩)), (3, .int .i64 1), (6, .bool true)] (by kernel_rfl) fun a hs => ?_
  refine s_end ?_
  refine c_condT hs (by kernel_rfl) (by kernel_rfl) ?_
  refine c_seq ?_
  refine c_region ?_
  have h30 : letter_small = some () := rfl
  refine s_call hs (by kernel_rfl) (by kernel_rfl) (letter_small_s h30 ((hw.pick [0, 1] (by kernel_rfl)).pack 0)) fun a w v hv hs => ?_
  obtain ⟨b31, b33, rfl, hw⟩ := hv
  replace hw := hw.unpack 2 rfl
  refine s_store hs hw 2 rfl 0 (by kernel_rfl) (by kernel_rfl) (v := .agg #[.func (.func 86) #[] #[], .func (.func 102) #[] #[.pointer (some ⟨b31, 0, none⟩), .pointer (some ⟨b33, 0, none⟩)], .func (.func 104) #[] #[.pointer (some ⟨b33, 0, none⟩), .pointer (some ⟨b31, 0, none⟩)]]) (by kernel_rfl) (by kernel_rfl) (by kernel_rfl) (by kernel_rfl) fun a w hs hw => ?_
  refine s_end ?_
  refine c_ret ?_
  obtain rfl := someE hk
  refine hQ _ _ (f_retC hs rfl (hw.at_ 2 rfl) (by kernel_rfl) (v := .agg #[.func (.func 86) #[] #[], .func (.func 102) #[] #[.pointer (some ⟨b31, 0, none⟩), .pointer (some ⟨b33, 0, none⟩)], .func (.func 104) #[] #[.pointer (some ⟨b33, 0, none⟩), .pointer (some ⟨b31, 0, none⟩)]]) (by kernel_rfl) ⟨b31, b33, rfl, hw.pick [0, 1, 3] (by kernel_rfl)⟩)
def letter_word : Option Unit :=
  some ()
theorem letter_word_s {r : Unit} (hk : letter_word = some r) {g w : World} {F : Ch} {ih : IH} (hw : St g w [F] ih) :
    CallsR Tryz.prog 90 #[.func (.func 91) #[] #[], .func (.func 92) #[] #[]] w fun v w' => ∃ (b19 : Nat), v = .agg #[.func (.func 91) #[] #[], .func (.func 106) #[] #[.pointer (some ⟨b19, 0, none⟩)], .func (.func 107) #[] #[.pointer (some ⟨b19, 0, none⟩)]] ∧ St g w' [bx b19 [.func (.func 92) #[] #[]] 121, F] ih := by
  refine f_in (vs := [.func (.func 91) #[] #[], .func (.func 92) #[] #[]]) Tryz.func90 rfl 9 rfl (by kernel_rfl) [(0, .func (.func 91) #[] #[]), (1, .func (.func 92) #[] #[])] (by kernel_rfl) fun a Qf hQ hQn hs => ?_
  refine c_seq ?_
  refine c_region ?_
  refine s_new hs hw [.func (.func 92) #[] #[]] 121 (fun b => .pointer (some ⟨b, 0, none⟩)) (by kernel_rfl) (fun _ => by kernel_rfl) fun a w b15 hs hw => ?_
  refine s_new hs hw [.nilFunc, .nilFunc, .nilFunc] 101 (fun b => .pointer (some ⟨b, 0, none⟩)) (by kernel_rfl) (fun _ => by kernel_rfl) fun a w b17 hs hw => ?_
  refine s_end ?_
  refine c_seq ?_
  refine c_region ?_
  refine pures hs 4 [4, 8] [(4, .pointer (some ⟨b17, 0, none⟩)), (8, .agg #[.func (.func 91) #[] #[], .func (.func 106) #[] #[.pointer (some ⟨b15, 0, none⟩)], .func (.func 107) #[] #[.pointer (some ⟨b15, 0, none⟩)]])] (by kernel_rfl) fun a hs => ?_
  refine s_store hs hw 0 rfl 0 (by kernel_rfl) (by kernel_rfl) (v := .agg #[.func (.func 91) #[] #[], .func (.func 106) #[] #[.pointer (some ⟨b15, 0, none⟩)], .func (.func 107) #[] #[.pointer (some ⟨b15, 0, none⟩)]]) (by kernel_rfl) (by kernel_rfl) (by kernel_rfl) (by kernel_rfl) fun a w hs hw => ?_
  refine s_end ?_
  refine c_ret ?_
  obtain rfl := someE hk
  refine hQ _ _ (f_retC hs rfl (hw.at_ 0 rfl) (by kernel_rfl) (v := .agg #[.func (.func 91) #[] #[], .func (.func 106) #[] #[.pointer (some ⟨b15, 0, none⟩)], .func (.func 107) #[] #[.pointer (some ⟨b15, 0, none⟩)]]) (by kernel_rfl) ⟨b15, rfl, hw.pick [1, 2] (by kernel_rfl)⟩)
def letter_of_2 : Option Unit :=
  some ()
theorem letter_of_2_s {r : Unit} (hk : letter_of_2 = some r) {g w : World} {F : Ch} {ih : IH} (hw : St g w [F] ih) :
    CallsR Tryz.prog 83 #[.int .i64 2] w fun v w' => ∃ (b27 : Nat), v = .agg #[.func (.func 91) #[] #[], .func (.func 106) #[] #[.pointer (some ⟨b27, 0, none⟩)], .func (.func 107) #[] #[.pointer (some ⟨b27, 0, none⟩)]] ∧ St g w' [bx b27 [.func (.func 92) #[] #[]] 121, F] ih := by
  refine f_in (vs := [.int .i64 2]) Tryz.func83 rfl 30 rfl (by kernel_rfl) [(0, .int .i64 2)] (by kernel_rfl) fun a Qf hQ hQn hs => ?_
  refine c_seq ?_
  refine c_region ?_
  refine s_new hs hw [.nilFunc, .nilFunc, .nilFunc] 101 (fun b => .pointer (some ⟨b, 0, none⟩)) (by kernel_rfl) (fun _ => by kernel_rfl) fun a w b17 hs hw => ?_
  refine s_end ?_
  refine c_seq ?_
  refine c_region ?_
  refine pures hs 1 [0, 2, 3] [(0, .int .i64 2), (2, .pointer (some ⟨b17, 0, none⟩)), (3, .int .i64 2)] (by kernel_rfl) fun a hs => ?_
  refine s_end ?_
  refine c_block ?_
  refine c_seq ?_
  refine c_region ?_
  refine pures hs 2 [0, 2, 3, 6] [(0, .int .i64 2), (2, .pointer (some ⟨b17, 0, none⟩)), (3, .int .i64 2), (6, .bool false)] (by kernel_rfl) fun a hs => ?_
  refine s_end ?_
  refine c_condF hs (by kernel_rfl) (by kernel_rfl) ?_
  refine c_seq ?_
  refine c_region ?_
  refine pures hs 2 [0, 2, 3, 9] [(0, .int .i64 2), (2, .pointer (some ⟨b17, 0, none⟩)), (3, .int .i64 2), (9, .bool false)] (by kernel_rfl) fun a hs => ?_
  refine s_end ?_
  refine c_condF hs (by kernel_rfl) (by kernel_rfl) ?_
  refine c_seq ?_
  refine c_region ?_
  refine pures hs 2 [0, 2, 3, 12] [(0, .int .i64 2), (2, .pointer (some ⟨b17, 0, none⟩)), (3, .int .i64 2), (12, .bool true)] (by kernel_rfl) fun a hs => ?_
  refine s_end ?_
  refine c_condT hs (by kernel_rfl) (by kernel_rfl) ?_
  refine c_seq ?_
  refine c_region ?_
  have h24 : letter_word = some () := rfl
  refine s_call hs (by kernel_rfl) (by kernel_rfl) (letter_word_s h24 ((hw.pick [0, 1] (by kernel_rfl)).pack 0)) fun a w v hv hs => ?_
  obtain ⟨b25, rfl, hw⟩ := hv
  replace hw := hw.unpack 1 rfl
  refine s_store hs hw 1 rfl 0 (by kernel_rfl) (by kernel_rfl) (v := .agg #[.func (.func 91) #[] #[], .func (.func 106) #[] #[.pointer (some ⟨b25, 0, none⟩)], .func (.func 107) #[] #[.pointer (some ⟨b25, 0, none⟩)]]) (by kernel_rfl) (by kernel_rfl) (by kernel_rfl) (by kernel_rfl) fun a w hs hw => ?_
  refine s_end ?_
  refine c_ret ?_
  obtain rfl := someE hk
  refine hQ _ _ (f_retC hs rfl (hw.at_ 1 rfl) (by kernel_rfl) (v := .agg #[.func (.func 91) #[] #[], .func (.func 106) #[] #[.pointer (some ⟨b25, 0, none⟩)], .func (.func 107) #[] #[.pointer (some ⟨b25, 0, none⟩)]]) (by kernel_rfl) ⟨b25, rfl, hw.pick [0, 2] (by kernel_rfl)⟩)
def letter_word_2 : Option Unit :=
  some ()
theorem letter_word_2_s {r : Unit} (hk : letter_word_2 = some r) {g w : World} {F : Ch} {ih : IH} (hw : St g w [F] ih) :
    CallsR Tryz.prog 90 #[.func (.func 96) #[] #[], .func (.func 97) #[] #[]] w fun v w' => ∃ (b19 : Nat), v = .agg #[.func (.func 96) #[] #[], .func (.func 106) #[] #[.pointer (some ⟨b19, 0, none⟩)], .func (.func 107) #[] #[.pointer (some ⟨b19, 0, none⟩)]] ∧ St g w' [bx b19 [.func (.func 97) #[] #[]] 121, F] ih := by
  refine f_in (vs := [.func (.func 96) #[] #[], .func (.func 97) #[] #[]]) Tryz.func90 rfl 9 rfl (by kernel_rfl) [(0, .func (.func 96) #[] #[]), (1, .func (.func 97) #[] #[])] (by kernel_rfl) fun a Qf hQ hQn hs => ?_
  refine c_seq ?_
  refine c_region ?_
  refine s_new hs hw [.func (.func 97) #[] #[]] 121 (fun b => .pointer (some ⟨b, 0, none⟩)) (by kernel_rfl) (fun _ => by kernel_rfl) fun a w b15 hs hw => ?_
  refine s_new hs hw [.nilFunc, .nilFunc, .nilFunc] 101 (fun b => .pointer (some ⟨b, 0, none⟩)) (by kernel_rfl) (fun _ => by kernel_rfl) fun a w b17 hs hw => ?_
  refine s_end ?_
  refine c_seq ?_
  refine c_region ?_
  refine pures hs 4 [4, 8] [(4, .pointer (some ⟨b17, 0, none⟩)), (8, .agg #[.func (.func 96) #[] #[], .func (.func 106) #[] #[.pointer (some ⟨b15, 0, none⟩)], .func (.func 107) #[] #[.pointer (some ⟨b15, 0, none⟩)]])] (by kernel_rfl) fun a hs => ?_
  refine s_store hs hw 0 rfl 0 (by kernel_rfl) (by kernel_rfl) (v := .agg #[.func (.func 96) #[] #[], .func (.func 106) #[] #[.pointer (some ⟨b15, 0, none⟩)], .func (.func 107) #[] #[.pointer (some ⟨b15, 0, none⟩)]]) (by kernel_rfl) (by kernel_rfl) (by kernel_rfl) (by kernel_rfl) fun a w hs hw => ?_
  refine s_end ?_
  refine c_ret ?_
  obtain rfl := someE hk
  refine hQ _ _ (f_retC hs rfl (hw.at_ 0 rfl) (by kernel_rfl) (v := .agg #[.func (.func 96) #[] #[], .func (.func 106) #[] #[.pointer (some ⟨b15, 0, none⟩)], .func (.func 107) #[] #[.pointer (some ⟨b15, 0, none⟩)]]) (by kernel_rfl) ⟨b15, rfl, hw.pick [1, 2] (by kernel_rfl)⟩)
def letter_of_3 : Option Unit :=
  some ()
theorem letter_of_3_s {r : Unit} (hk : letter_of_3 = some r) {g w : World} {F : Ch} {ih : IH} (hw : St g w [F] ih) :
    CallsR Tryz.prog 83 #[.int .i64 8] w fun v w' => ∃ (b27 : Nat), v = .agg #[.func (.func 96) #[] #[], .func (.func 106) #[] #[.pointer (some ⟨b27, 0, none⟩)], .func (.func 107) #[] #[.pointer (some ⟨b27, 0, none⟩)]] ∧ St g w' [bx b27 [.func (.func 97) #[] #[]] 121, F] ih := by
  refine f_in (vs := [.int .i64 8]) Tryz.func83 rfl 30 rfl (by kernel_rfl) [(0, .int .i64 8)] (by kernel_rfl) fun a Qf hQ hQn hs => ?_
  refine c_seq ?_
  refine c_region ?_
  refine s_new hs hw [.nilFunc, .nilFunc, .nilFunc] 101 (fun b => .pointer (some ⟨b, 0, none⟩)) (by kernel_rfl) (fun _ => by kernel_rfl) fun a w b17 hs hw => ?_
  refine s_end ?_
  refine c_seq ?_
  refine c_region ?_
  refine pures hs 1 [0, 2, 3] [(0, .int .i64 8), (2, .pointer (some ⟨b17, 0, none⟩)), (3, .int .i64 8)] (by kernel_rfl) fun a hs => ?_
  refine s_end ?_
  refine c_block ?_
  refine c_seq ?_
  refine c_region ?_
  refine pures hs 2 [0, 2, 3, 6] [(0, .int .i64 8), (2, .pointer (some ⟨b17, 0, none⟩)), (3, .int .i64 8), (6, .bool false)] (by kernel_rfl) fun a hs => ?_
  refine s_end ?_
  refine c_condF hs (by kernel_rfl) (by kernel_rfl) ?_
  refine c_seq ?_
  refine c_region ?_
  refine pures hs 2 [0, 2, 3, 9] [(0, .int .i64 8), (2, .pointer (some ⟨b17, 0, none⟩)), (3, .int .i64 8), (9, .bool false)] (by kernel_rfl) fun a hs => ?_
  refine s_end ?_
  refine c_condF hs (by kernel_rfl) (by kernel_rfl) ?_
  refine c_seq ?_
  refine c_region ?_
  refine pures hs 2 [0, 2, 3, 12] [(0, .int .i64 8), (2, .pointer (some ⟨b17, 0, none⟩)), (3, .int .i64 8), (12, .bool false)] (by kernel_rfl) fun a hs => ?_
  refine s_end ?_
  refine c_condF hs (by kernel_rfl) (by kernel_rfl) ?_
  refine c_seq ?_
  refine c_region ?_
  refine pures hs 2 [0, 2, 3, 15] [(0, .int .i64 8), (2, .pointer (some ⟨b17, 0, none⟩)), (3, .int .i64 8), (15, .bool false)] (by kernel_rfl) fun a hs => ?_
  refine s_end ?_
  refine c_condF hs (by kernel_rfl) (by kernel_rfl) ?_
  refine c_seq ?_
  refine c_region ?_
  refine pures hs 2 [0, 2, 3, 18] [(0, .int .i64 8), (2, .pointer (some ⟨b17, 0, none⟩)), (3, .int .i64 8), (18, .bool true)] (by kernel_rfl) fun a hs => ?_
  refine s_end ?_
  refine c_condT hs (by kernel_rfl) (by kernel_rfl) ?_
  refine c_seq ?_
  refine c_region ?_
  have h24 : letter_word_2 = some () := rfl
  refine s_call hs (by kernel_rfl) (by kernel_rfl) (letter_word_2_s h24 ((hw.pick [0, 1] (by kernel_rfl)).pack 0)) fun a w v hv hs => ?_
  obtain ⟨b25, rfl, hw⟩ := hv
  replace hw := hw.unpack 1 rfl
  refine s_store hs hw 1 rfl 0 (by kernel_rfl) (by kernel_rfl) (v := .agg #[.func (.func 96) #[] #[], .func (.func 106) #[] #[.pointer (some ⟨b25, 0, none⟩)], .func (.func 107) #[] #[.pointer (some ⟨b25, 0, none⟩)]]) (by kernel_rfl) (by kernel_rfl) (by kernel_rfl) (by kernel_rfl) fun a w hs hw => ?_
  refine s_end ?_
  refine c_ret ?_
  obtain rfl := someE hk
  refine hQ _ _ (f_retC hs rfl (hw.at_ 1 rfl) (by kernel_rfl) (v := .agg #[.func (.func 96) #[] #[], .func (.func 106) #[] #[.pointer (some ⟨b25, 0, none⟩)], .func (.func 107) #[] #[.pointer (some ⟨b25, 0, none⟩)]]) (by kernel_rfl) ⟨b25, rfl, hw.pick [0, 2] (by kernel_rfl)⟩)
def letter_word_3 : Option Unit :=
  some ()
theorem letter_word_3_s {r : Unit} (hk : letter_word_3 = some r) {g w : World} {F : Ch} {ih : IH} (hw : St g w [F] ih) :
    CallsR Tryz.prog 90 #[.func (.func 96) #[] #[], .func (.func 98) #[] #[]] w fun v w' => ∃ (b19 : Nat), v = .agg #[.func (.func 96) #[] #[], .func (.func 106) #[] #[.pointer (some ⟨b19, 0, none⟩)], .func (.func 107) #[] #[.pointer (some ⟨b19, 0, none⟩)]] ∧ St g w' [bx b19 [.func (.func 98) #[] #[]] 121, F] ih := by
  refine f_in (vs := [.func (.func 96) #[] #[], .func (.func 98) #[] #[]]) Tryz.func90 rfl 9 rfl (by kernel_rfl) [(0, .func (.func 96) #[] #[]), (1, .func (.func 98) #[] #[])] (by kernel_rfl) fun a Qf hQ hQn hs => ?_
  refine c_seq ?_
  refine c_region ?_
  refine s_new hs hw [.func (.func 98) #[] #[]] 121 (fun b => .pointer (some ⟨b, 0, none⟩)) (by kernel_rfl) (fun _ => by kernel_rfl) fun a w b15 hs hw => ?_
  refine s_new hs hw [.nilFunc, .nilFunc, .nilFunc] 101 (fun b => .pointer (some ⟨b, 0, none⟩)) (by kernel_rfl) (fun _ => by kernel_rfl) fun a w b17 hs hw => ?_
  refine s_end ?_
  refine c_seq ?_
  refine c_region ?_
  refine pures hs 4 [4, 8] [(4, .pointer (some ⟨b17, 0, none⟩)), (8, .agg #[.func (.func 96) #[] #[], .func (.func 106) #[] #[.pointer (some ⟨b15, 0, none⟩)], .func (.func 107) #[] #[.pointer (some ⟨b15, 0, none⟩)]])] (by kernel_rfl) fun a hs => ?_
  refine s_store hs hw 0 rfl 0 (by kernel_rfl) (by kernel_rfl) (v := .agg #[.func (.func 96) #[] #[], .func (.func 106) #[] #[.pointer (some ⟨b15, 0, none⟩)], .func (.func 107) #[] #[.pointer (some ⟨b15, 0, none⟩)]]) (by kernel_rfl) (by kernel_rfl) (by kernel_rfl) (by kernel_rfl) fun a w hs hw => ?_
  refine s_end ?_
  refine c_ret ?_
  obtain rfl := someE hk
  refine hQ _ _ (f_retC hs rfl (hw.at_ 0 rfl) (by kernel_rfl) (v := .agg #[.func (.func 96) #[] #[], .func (.func 106) #[] #[.pointer (some ⟨b15, 0, none⟩)], .func (.func 107) #[] #[.pointer (some ⟨b15, 0, none⟩)]]) (by kernel_rfl) ⟨b15, rfl, hw.pick [1, 2] (by kernel_rfl)⟩)
def letter_of_4 : Option Unit :=
  some ()
theorem letter_of_4_s {r : Unit} (hk : letter_of_4 = some r) {g w : World} {F : Ch} {ih : IH} (hw : St g w [F] ih) :
    CallsR Tryz.prog 83 #[.int .i64 16] w fun v w' => ∃ (b27 : Nat), v = .agg #[.func (.func 96) #[] #[], .func (.func 106) #[] #[.pointer (some ⟨b27, 0, none⟩)], .func (.func 107) #[] #[.pointer (some ⟨b27, 0, none⟩)]] ∧ St g w' [bx b27 [.func (.func 98) #[] #[]] 121, F] ih := by
  refine f_in (vs := [.int .i64 16]) Tryz.func83 rfl 30 rfl (by kernel_rfl) [(0, .int .i64 16)] (by kernel_rfl) fun a Qf hQ hQn hs => ?_
  refine c_seq ?_
  refine c_region ?_
  refine s_new hs hw [.nilFunc, .nilFunc, .nilFunc] 101 (fun b => .pointer (some ⟨b, 0, none⟩)) (by kernel_rfl) (fun _ => by kernel_rfl) fun a w b17 hs hw => ?_
  refine s_end ?_
  refine c_seq ?_
  refine c_region ?_
  refine pures hs 1 [0, 2, 3] [(0, .int .i64 16), (2, .pointer (some ⟨b17, 0, none⟩)), (3, .int .i64 16)] (by kernel_rfl) fun a hs => ?_
  refine s_end ?_
  refine c_block ?_
  refine c_seq ?_
  refine c_region ?_
  refine pures hs 2 [0, 2, 3, 6] [(0, .int .i64 16), (2, .pointer (some ⟨b17, 0, none⟩)), (3, .int .i64 16), (6, .bool false)] (by kernel_rfl) fun a hs => ?_
  refine s_end ?_
  refine c_condF hs (by kernel_rfl) (by kernel_rfl) ?_
  refine c_seq ?_
  refine c_region ?_
  refine pures hs 2 [0, 2, 3, 9] [(0, .int .i64 16), (2, .pointer (some ⟨b17, 0, none⟩)), (3, .int .i64 16), (9, .bool false)] (by kernel_rfl) fun a hs => ?_
  refine s_end ?_
  refine c_condF hs (by kernel_rfl) (by kernel_rfl) ?_
  refine c_seq ?_
  refine c_region ?_
  refine pures hs 2 [0, 2, 3, 12] [(0, .int .i64 16), (2, .pointer (some ⟨b17, 0, none⟩)), (3, .int .i64 16), (12, .bool false)] (by kernel_rfl) fun a hs => ?_
  refine s_end ?_
  refine c_condF hs (by kernel_rfl) (by kernel_rfl) ?_
  refine c_seq ?_
  refine c_region ?_
  refine pures hs 2 [0, 2, 3, 15] [(0, .int .i64 16), (2, .pointer (some ⟨b17, 0, none⟩)), (3, .int .i64 16), (15, .bool false)] (by kernel_rfl) fun a hs => ?_
  refine s_end ?_
  refine c_condF hs (by kernel_rfl) (by kernel_rfl) ?_
  refine c_seq ?_
  refine c_region ?_
  refine pures hs 2 [0, 2, 3, 18] [(0, .int .i64 16), (2, .pointer (some ⟨b17, 0, none⟩)), (3, .int .i64 16), (18, .bool false)] (by kernel_rfl) fun a hs => ?_
  refine s_end ?_
  refine c_condF hs (by kernel_rfl) (by kernel_rfl) ?_
  refine c_seq ?_
  refine c_region ?_
  refine pures hs 2 [0, 2, 3, 21] [(0, .int .i64 16), (2, .pointer (some ⟨b17, 0, none⟩)), (3, .int .i64 16), (21, .bool true)] (by kernel_rfl) fun a hs => ?_
  refine s_end ?_
  refine c_condT hs (by kernel_rfl) (by kernel_rfl) ?_
  refine c_seq ?_
  refine c_region ?_
  have h24 : letter_word_3 = some () := rfl
  refine s_call hs (by kernel_rfl) (by kernel_rfl) (letter_word_3_s h24 ((hw.pick [0, 1] (by kernel_rfl)).pack 0)) fun a w v hv hs => ?_
  obtain ⟨b25, rfl, hw⟩ := hv
  replace hw := hw.unpack 1 rfl
  refine s_store hs hw 1 rfl 0 (by kernel_rfl) (by kernel_rfl) (v := .agg #[.func (.func 96) #[] #[], .func (.func 106) #[] #[.pointer (some ⟨b25, 0, none⟩)], .func (.func 107) #[] #[.pointer (some ⟨b25, 0, none⟩)]]) (by kernel_rfl) (by kernel_rfl) (by kernel_rfl) (by kernel_rfl) fun a w hs hw => ?_
  refine s_end ?_
  refine c_ret ?_
  obtain rfl := someE hk
  refine hQ _ _ (f_retC hs rfl (hw.at_ 1 rfl) (by kernel_rfl) (v := .agg #[.func (.func 96) #[] #[], .func (.func 106) #[] #[.pointer (some ⟨b25, 0, none⟩)], .func (.func 107) #[] #[.pointer (some ⟨b25, 0, none⟩)]]) (by kernel_rfl) ⟨b25, rfl, hw.pick [0, 2] (by kernel_rfl)⟩)
def letter_other : Option Unit :=
  some ()
theorem letter_other_s {r : Unit} (hk : letter_other = some r) {g w : World} {F : Ch} {ih : IH} (hw : St g w [F] ih) :
    CallsR Tryz.prog 101 #[.int .i64 8192] w fun v w' => v = .agg #[.func (.func 128) #[] #[], .func (.func 129) #[] #[], .func (.func 130) #[] #[]] ∧ St g w' [F] ih := by
  refine f_in (vs := [.int .i64 8192]) Tryz.func101 rfl 23 rfl (by kernel_rfl) [(0, .int .i64 8192)] (by kernel_rfl) fun a Qf hQ hQn hs => ?_
  refine c_seq ?_
  refine c_region ?_
  refine s_new hs hw [.nilFunc, .nilFunc, .nilFunc] 101 (fun b => .pointer (some ⟨b, 0, none⟩)) (by kernel_rfl) (fun _ => by kernel_rfl) fun a w b9 hs hw => ?_
  refine s_end ?_
  refine c_seq ?_
  refine c_region ?_
  refine pures hs 1 [2, 3] [(2, .pointer (some ⟨b9, 0, none⟩)), (3, .int .i64 8192)] (by kernel_rfl) fun a hs => ?_
  refine s_end ?_
  refine c_block ?_
  refine c_seq ?_
  refine c_region ?_
  refine pures hs 2 [2, 3, 5] [(2, .pointer (some ⟨b9, 0, none⟩)), (3, .int .i64 8192), (5, .bool false)] (by kernel_rfl) fun a hs => ?_
  refine s_end ?_
  refine c_condF hs (by kernel_rfl) (by kernel_rfl) ?_
  refine c_seq ?_
  refine c_region ?_
  refine pures hs 2 [2, 3, 8] [(2, .pointer (some ⟨b9, 0, none⟩)), (3, .int .i64 8192), (8, .bool false)] (by kernel_rfl) fun a hs => ?_
  refine s_end ?_
  refine c_condF hs (by kernel_rfl) (by kernel_rfl) ?_
  refine c_seq ?_
  refine c_region ?_
  refine pures hs 2 [2, 3, 11] [(2, .pointer (some ⟨b9, 0, none⟩)), (3, .int .i64 8192), (11, .bool false)] (by kernel_rfl) fun a hs => ?_
  refine s_end ?_
  refine c_condF hs (by kernel_rfl) (by kernel_rfl) ?_
  refine c_seq ?_
  refine c_region ?_
  refine pures hs 2 [2, 3, 14] [(2, .pointer (some ⟨b9, 0, none⟩)), (3, .int .i64 8192), (14, .bool false)] (by kernel_rfl) fun a hs => ?_
  refine s_end ?_
  refine c_condF hs (by kernel_rfl) (by kernel_rfl) ?_
  refine c_seq ?_
  refine c_region ?_
  refine pures hs 2 [2, 3, 17] [(2, .pointer (some ⟨b9, 0, none⟩)), (3, .int .i64 8192), (17, .bool false)] (by kernel_rfl) fun a hs => ?_
  refine s_end ?_
  refine c_condF hs (by kernel_rfl) (by kernel_rfl) ?_
  refine c_seq ?_
  refine c_region ?_
  refine pures hs 2 [2, 20] [(2, .pointer (some ⟨b9, 0, none⟩)), (20, .bool true)] (by kernel_rfl) fun a hs => ?_
  refine s_end ?_
  refine c_condT hs (by kernel_rfl) (by kernel_rfl) ?_
  refine c_seq ?_
  refine c_region ?_
  refine pures hs 1 [2, 22] [(2, .pointer (some ⟨b9, 0, none⟩)), (22, .agg #[.func (.func 128) #[] #[], .func (.func 129) #[] #[], .func (.func 130) #[] #[]])] (by kernel_rfl) fun a hs => ?_
  refine s_store hs hw 0 rfl 0 (by kernel_rfl) (by kernel_rfl) (v := .agg #[.func (.func 128) #[] #[], .func (.func 129) #[] #[], .func (.func 130) #[] #[]]) (by kernel_rfl) (by kernel_rfl) (by kernel_rfl) (by kernel_rfl) fun a w hs hw => ?_
  refine s_end ?_
  refine c_ret ?_
  obtain rfl := someE hk
  refine hQ _ _ (f_retC hs rfl (hw.at_ 0 rfl) (by kernel_rfl) (v := .agg #[.func (.func 128) #[] #[], .func (.func 129) #[] #[], .func (.func 130) #[] #[]]) (by kernel_rfl) ⟨rfl, hw.pick [1] (by kernel_rfl)⟩)
def letter_of_5 : Option Unit :=
  some ()
theorem letter_of_5_s {r : Unit} (hk : letter_of_5 = some r) {g w : World} {F : Ch} {ih : IH} (hw : St g w [F] ih) :
    CallsR Tryz.prog 83 #[.int .i64 8192] w fun v w' => v = .agg #[.func (.func 128) #[] #[], .func (.func 129) #[] #[], .func (.func 130) #[] #[]] ∧ St g w' [F] ih := by
  refine f_in (vs := [.int .i64 8192]) Tryz.func83 rfl 30 rfl (by kernel_rfl) [(0, .int .i64 8192)] (by kernel_rfl) fun a Qf hQ hQn hs => ?_
  refine c_seq ?_
  refine c_region ?_
  refine s_new hs hw [.nilFunc, .nilFunc, .nilFunc] 101 (fun b => .pointer (some ⟨b, 0, none⟩)) (by kernel_rfl) (fun _ => by kernel_rfl) fun a w b13 hs hw => ?_
  refine s_end ?_
  refine c_seq ?_
  refine c_region ?_
  refine pures hs 1 [0, 2, 3] [(0, .int .i64 8192), (2, .pointer (some ⟨b13, 0, none⟩)), (3, .int .i64 8192)] (by kernel_rfl) fun a hs => ?_
  refine s_end ?_
  refine c_block ?_
  refine c_seq ?_
  refine c_region ?_
  refine pures hs 2 [0, 2, 3, 6] [(0, .int .i64 8192), (2, .pointer (some ⟨b13, 0, none⟩)), (3, .int .i64 8192), (6, .bool false)] (by kernel_rfl) fun a hs => ?_
  refine s_end ?_
  refine c_condF hs (by kernel_rfl) (by kernel_rfl) ?_
  refine c_seq ?_
  refine c_region ?_
  refine pures hs 2 [0, 2, 3, 9] [(0, .int .i64 8192), (2, .pointer (some ⟨b13, 0, none⟩)), (3, .int .i64 8192), (9, .bool false)] (by kernel_rfl) fun a hs => ?_
  refine s_end ?_
  refine c_condF hs (by kernel_rfl) (by kernel_rfl) ?_
  refine c_seq ?_
  refine c_region ?_
  refine pures hs 2 [0, 2, 3, 12] [(0, .int .i64 8192), (2, .pointer (some ⟨b13, 0, none⟩)), (3, .int .i64 8192), (12, .bool false)] (by kernel_rfl) fun a hs => ?_
  refine s_end ?_
  refine c_condF hs (by kernel_rfl) (by kernel_rfl) ?_
  refine c_seq ?_
  refine c_region ?_
  refine pures hs 2 [0, 2, 3, 15] [(0, .int .i64 8192), (2, .pointer (some ⟨b13, 0, none⟩)), (3, .int .i64 8192), (15, .bool false)] (by kernel_rfl) fun a hs => ?_
  refine s_end ?_
  refine c_condF hs (by kernel_rfl) (by kernel_rfl) ?_
  refine c_seq ?_
  refine c_region ?_
  refine pures hs 2 [0, 2, 3, 18] [(0, .int .i64 8192), (2, .pointer (some ⟨b13, 0, none⟩)), (3, .int .i64 8192), (18, .bool false)] (by kernel_rfl) fun a hs => ?_
  refine s_end ?_
  refine c_condF hs (by kernel_rfl) (by kernel_rfl) ?_
  refine c_seq ?_
  refine c_region ?_
  refine pures hs 2 [0, 2, 3, 21] [(0, .int .i64 8192), (2, .pointer (some ⟨b13, 0, none⟩)), (3, .int .i64 8192), (21, .bool false)] (by kernel_rfl) fun a hs => ?_
  refine s_end ?_
  refine c_condF hs (by kernel_rfl) (by kernel_rfl) ?_
  refine c_seq ?_
  refine c_region ?_
  refine pures hs 2 [0, 2, 3, 24] [(0, .int .i64 8192), (2, .pointer (some ⟨b13, 0, none⟩)), (3, .int .i64 8192), (24, .bool false)] (by kernel_rfl) fun a hs => ?_
  refine s_end ?_
  refine c_condF hs (by kernel_rfl) (by kernel_rfl) ?_
  refine c_seq ?_
  refine c_region ?_
  refine pures hs 2 [0, 2, 27] [(0, .int .i64 8192), (2, .pointer (some ⟨b13, 0, none⟩)), (27, .bool false)] (by kernel_rfl) fun a hs => ?_
  refine s_end ?_
  refine c_condF hs (by kernel_rfl) (by kernel_rfl) ?_
  refine c_seq ?_
  refine c_region ?_
  refine pures hs 1 [2, 4] [(2, .pointer (some ⟨b13, 0, none⟩)), (4, .int .i64 8192)] (by kernel_rfl) fun a hs => ?_
  have h18 : letter_other = some () := rfl
  refine s_call hs (by kernel_rfl) (by kernel_rfl) (letter_other_s h18 ((hw.pick [0, 1] (by kernel_rfl)).pack 0)) fun a w v hv hs => ?_
  obtain ⟨rfl, hw⟩ := hv
  replace hw := hw.unpack 0 rfl
  refine s_store hs hw 0 rfl 0 (by kernel_rfl) (by kernel_rfl) (v := .agg #[.func (.func 128) #[] #[], .func (.func 129) #[] #[], .func (.func 130) #[] #[]]) (by kernel_rfl) (by kernel_rfl) (by kernel_rfl) (by kernel_rfl) fun a w hs hw => ?_
  refine s_end ?_
  refine c_ret ?_
  obtain rfl := someE hk
  refine hQ _ _ (f_retC hs rfl (hw.at_ 0 rfl) (by kernel_rfl) (v := .agg #[.func (.func 128) #[] #[], .func (.func 129) #[] #[], .func (.func 130) #[] #[]]) (by kernel_rfl) ⟨rfl, hw.pick [1] (by kernel_rfl)⟩)
def letter_parts : Option Unit :=
  some ()
theorem letter_parts_s {r : Unit} (hk : letter_parts = some r) {g w : World} {F : Ch} {ih : IH} (hG : Glob 0 gl0 110 ih) (hw : St g w [F] ih) :
    CallsR Tryz.prog 59 #[.int .i64 12] w fun v w' => ∃ (p995 : Option Addr) (c996 : Nat) (d998 : Ch) (b1000 : Nat) (b1002 : Nat) (b1004 : Nat) (b1006 : Nat) (b1008 : Nat), v = .slice p995 5 c996 ∧ St g w' [d998, bx b1000 [.func (.func 87) #[] #[]] 118, bx b1002 [.int .i64 1] 3, bx b1004 [.func (.func 92) #[] #[]] 121, bx b1006 [.func (.func 97) #[] #[]] 121, bx b1008 [.func (.func 98) #[] #[]] 121, F] ih ∧ OSl e101 ih p995 c996 [(M101.mk (.func (.func 86) #[] #[]) (.func (.func 102) #[] #[.pointer (some ⟨b1000, 0, none⟩), .pointer (some ⟨b1002, 0, none⟩)]) (.func (.func 104) #[] #[.pointer (some ⟨b1002, 0, none⟩), .pointer (some ⟨b1000, 0, none⟩)])), (M101.mk (.func (.func 91) #[] #[]) (.func (.func 106) #[] #[.pointer (some ⟨b1004, 0, none⟩)]) (.func (.func 107) #[] #[.pointer (some ⟨b1004, 0, none⟩)])), (M101.mk (.func (.func 96) #[] #[]) (.func (.func 106) #[] #[.pointer (some ⟨b1006, 0, none⟩)]) (.func (.func 107) #[] #[.pointer (some ⟨b1006, 0, none⟩)])), (M101.mk (.func (.func 96) #[] #[]) (.func (.func 106) #[] #[.pointer (some ⟨b1008, 0, none⟩)]) (.func (.func 107) #[] #[.pointer (some ⟨b1008, 0, none⟩)])), (M101.mk (.func (.func 128) #[] #[]) (.func (.func 129) #[] #[]) (.func (.func 130) #[] #[]))] d998 := by
  refine f_in (vs := [.int .i64 12]) Tryz.func59 rfl 22 rfl (by kernel_rfl) [(0, .int .i64 12)] (by kernel_rfl) fun a Qf hQ hQn hs => ?_
  refine c_seq ?_
  refine c_region ?_
  refine pures hs 1 [0] [(0, .int .i64 12)] (by kernel_rfl) fun a hs => ?_
  refine s_end ?_
  refine c_seq ?_
  refine c_region ?_
  refine pures hs 1 [0, 3] [(0, .int .i64 12), (3, .slice none 0 0)] (by kernel_rfl) fun a hs => ?_
  refine s_end ?_
  refine c_seq ?_
  refine c_seq ?_
  refine c_region ?_
  refine pures hs 3 [3, 8] [(3, .slice none 0 0), (8, .pointer (some ⟨0, 85, none⟩))] (by kernel_rfl) fun a hs => ?_
  refine s_load hs (hw.atG (hG.mono (Le.refl _))) 85 (by kernel_rfl) (by kernel_rfl) (v := .agg #[.int .i64 1, .int .i64 2, .int .i64 8, .int .i64 16, .int .i64 8192, .int .i64 0]) (by kernel_rfl) fun a hs => ?_
  refine pures hs 1 [3, 9, 10] [(3, .slice none 0 0), (9, .agg #[.int .i64 1, .int .i64 2, .int .i64 8, .int .i64 16, .int .i64 8192, .int .i64 0]), (10, .int .i64 0)] (by kernel_rfl) fun a hs => ?_
  refine s_end ?_
  refine c_block ?_
  refine wpIn_loop_rounds 7 ?_
  refine c_unr ?_
  refine c_seq ?_
  refine c_region ?_
  refine pures hs 1 [3, 9, 10, 11] [(3, .slice none 0 0), (9, .agg #[.int .i64 1, .int .i64 2, .int .i64 8, .int .i64 16, .int .i64 8192, .int .i64 0]), (10, .int .i64 0), (11, .bool true)] (by kernel_rfl) fun a hs => ?_
  refine s_end ?_
  refine c_seq ?_
  refine c_condT hs (by kernel_rfl) (by kernel_rfl) ?_
  refine c_skip ?_
  refine c_seq ?_
  refine c_block ?_
  refine c_seq ?_
  refine c_region ?_
  refine pures hs 2 [3, 9, 10, 5] [(3, .slice none 0 0), (9, .agg #[.int .i64 1, .int .i64 2, .int .i64 8, .int .i64 16, .int .i64 8192, .int .i64 0]), (10, .int .i64 0), (5, .int .i64 1)] (by kernel_rfl) fun a hs => ?_
  refine s_end ?_
  refine c_seq ?_
  refine c_region ?_
  refine pures hs 2 [3, 9, 10, 5, 14] [(3, .slice none 0 0), (9, .agg #[.int .i64 1, .int .i64 2, .int .i64 8, .int .i64 16, .int .i64 8192, .int .i64 0]), (10, .int .i64 0), (5, .int .i64 1), (14, .bool true)] (by kernel_rfl) fun a hs => ?_
  refine s_end ?_
  refine c_condT hs (by kernel_rfl) (by kernel_rfl) ?_
  refine c_region ?_
  refine pures hs 2 [9, 10, 15, 16] [(9, .agg #[.int .i64 1, .int .i64 2, .int .i64 8, .int .i64 16, .int .i64 8192, .int .i64 0]), (10, .int .i64 0), (15, .slice none 0 0), (16, .int .i64 1)] (by kernel_rfl) fun a hs => ?_
  have h796 : letter_of = some () := rfl
  refine s_call hs (by kernel_rfl) (by kernel_rfl) (letter_of_s h796 ((hw.pick [0] (by kernel_rfl)).pack 0)) fun a w v hv hs => ?_
  obtain ⟨b797, b799, rfl, hw⟩ := hv
  replace hw := hw.unpack 2 rfl
  refine s_new hs hw [.func (.func 86) #[] #[], .func (.func 102) #[] #[.pointer (some ⟨b797, 0, none⟩), .pointer (some ⟨b799, 0, none⟩)], .func (.func 104) #[] #[.pointer (some ⟨b799, 0, none⟩), .pointer (some ⟨b797, 0, none⟩)]] 101 (fun b => .slice (some ⟨b, 0, none⟩) 1 1) (by kernel_rfl) (fun _ => by kernel_rfl) fun a w b801 hs hw => ?_
  replace hw := hw.nil
  have h806 : app ([]) [(M101.mk (.func (.func 86) #[] #[]) (.func (.func 102) #[] #[.pointer (some ⟨b797, 0, none⟩), .pointer (some ⟨b799, 0, none⟩)]) (.func (.func 104) #[] #[.pointer (some ⟨b799, 0, none⟩), .pointer (some ⟨b797, 0, none⟩)]))] = some ([(M101.mk (.func (.func 86) #[] #[]) (.func (.func 102) #[] #[.pointer (some ⟨b797, 0, none⟩), .pointer (some ⟨b799, 0, none⟩)]) (.func (.func 104) #[] #[.pointer (some ⟨b799, 0, none⟩), .pointer (some ⟨b797, 0, none⟩)]))]) := rfl
  refine s_app1 hs hw (E := e101) appT95 0 rfl (OSl.nil _ _) (by kernel_rfl) (by kernel_rfl) (c2 := 1) (by kernel_rfl) (hw.at_ 1 rfl) (z := (M101.mk (.func (.func 86) #[] #[]) (.func (.func 102) #[] #[.pointer (some ⟨b797, 0, none⟩), .pointer (some ⟨b799, 0, none⟩)]) (.func (.func 104) #[] #[.pointer (some ⟨b799, 0, none⟩), .pointer (some ⟨b797, 0, none⟩)]))) ⟨rfl, rfl, rfl, rfl⟩ h806 fun a w p807 c808 d809 h810 hw hs => ?_
  refine pures hs 1 [9, 10, 3] [(9, .agg #[.int .i64 1, .int .i64 2, .int .i64 8, .int .i64 16, .int .i64 8192, .int .i64 0]), (10, .int .i64 0), (3, .slice p807 1 c808)] (by kernel_rfl) fun a hs => ?_
  refine s_end ?_
  refine c_region ?_
  refine pures hs 2 [9, 10, 3] [(9, .agg #[.int .i64 1, .int .i64 2, .int .i64 8, .int .i64 16, .int .i64 8192, .int .i64 0]), (10, .int .i64 1), (3, .slice p807 1 c808)] (by kernel_rfl) fun a hs => ?_
  refine s_end ?_
  refine c_unr ?_
  refine c_seq ?_
  refine c_region ?_
  refine pures hs 1 [9, 10, 3, 11] [(9, .agg #[.int .i64 1, .int .i64 2, .int .i64 8, .int .i64 16, .int .i64 8192, .int .i64 0]), (10, .int .i64 1), (3, .slice p807 1 c808), (11, .bool true)] (by kernel_rfl) fun a hs => ?_
  refine s_end ?_
  refine c_seq ?_
  refine c_condT hs (by kernel_rfl) (by kernel_rfl) ?_
  refine c_skip ?_
  refine c_seq ?_
  refine c_block ?_
  refine c_seq ?_
  refine c_region ?_
  refine pures hs 2 [9, 10, 3, 5] [(9, .agg #[.int .i64 1, .int .i64 2, .int .i64 8, .int .i64 16, .int .i64 8192, .int .i64 0]), (10, .int .i64 1), (3, .slice p807 1 c808), (5, .int .i64 2)] (by kernel_rfl) fun a hs => ?_
  refine s_end ?_
  refine c_seq ?_
  refine c_region ?_
  refine pures hs 2 [9, 10, 3, 5, 14] [(9, .agg #[.int .i64 1, .int .i64 2, .int .i64 8, .int .i64 16, .int .i64 8192, .int .i64 0]), (10, .int .i64 1), (3, .slice p807 1 c808), (5, .int .i64 2), (14, .bool true)] (by kernel_rfl) fun a hs => ?_
  refine s_end ?_
  refine c_condT hs (by kernel_rfl) (by kernel_rfl) ?_
  refine c_region ?_
  refine pures hs 2 [9, 10, 15, 16] [(9, .agg #[.int .i64 1, .int .i64 2, .int .i64 8, .int .i64 16, .int .i64 8192, .int .i64 0]), (10, .int .i64 1), (15, .slice p807 1 c808), (16, .int .i64 2)] (by kernel_rfl) fun a hs => ?_
  have h848 : letter_of_2 = some () := rfl
  refine s_call hs (by kernel_rfl) (by kernel_rfl) (letter_of_2_s h848 ((hw.pick [0, 2, 3, 4] (by kernel_rfl)).pack 0)) fun a w v hv hs => ?_
  obtain ⟨b849, rfl, hw⟩ := hv
  replace hw := hw.unpack 1 rfl
  refine s_new hs hw [.func (.func 91) #[] #[], .func (.func 106) #[] #[.pointer (some ⟨b849, 0, none⟩)], .func (.func 107) #[] #[.pointer (some ⟨b849, 0, none⟩)]] 101 (fun b => .slice (some ⟨b, 0, none⟩) 1 1) (by kernel_rfl) (fun _ => by kernel_rfl) fun a w b851 hs hw => ?_
  have h854 : app ([(M101.mk (.func (.func 86) #[] #[]) (.func (.func 102) #[] #[.pointer (some ⟨b797, 0, none⟩), .pointer (some ⟨b799, 0, none⟩)]) (.func (.func 104) #[] #[.pointer (some ⟨b799, 0, none⟩), .pointer (some ⟨b797, 0, none⟩)]))]) [(M101.mk (.func (.func 91) #[] #[]) (.func (.func 106) #[] #[.pointer (some ⟨b849, 0, none⟩)]) (.func (.func 107) #[] #[.pointer (some ⟨b849, 0, none⟩)]))] = some ([(M101.mk (.func (.func 86) #[] #[]) (.func (.func 102) #[] #[.pointer (some ⟨b797, 0, none⟩), .pointer (some ⟨b799, 0, none⟩)]) (.func (.func 104) #[] #[.pointer (some ⟨b799, 0, none⟩), .pointer (some ⟨b797, 0, none⟩)])), (M101.mk (.func (.func 91) #[] #[]) (.func (.func 106) #[] #[.pointer (some ⟨b849, 0, none⟩)]) (.func (.func 107) #[] #[.pointer (some ⟨b849, 0, none⟩)]))]) := rfl
  refine s_app1 hs hw (E := e101) appT95 2 rfl h810 (by kernel_rfl) (by kernel_rfl) (c2 := 1) (by kernel_rfl) (hw.at_ 0 rfl) (z := (M101.mk (.func (.func 91) #[] #[]) (.func (.func 106) #[] #[.pointer (some ⟨b849, 0, none⟩)]) (.func (.func 107) #[] #[.pointer (some ⟨b849, 0, none⟩)]))) ⟨rfl, rfl, rfl, rfl⟩ h854 fun a w p855 c856 d857 h858 hw hs => ?_
  refine pures hs 1 [9, 10, 3] [(9, .agg #[.int .i64 1, .int .i64 2, .int .i64 8, .int .i64 16, .int .i64 8192, .int .i64 0]), (10, .int .i64 1), (3, .slice p855 2 c856)] (by kernel_rfl) fun a hs => ?_
  refine s_end ?_
  refine c_region ?_
  refine pures hs 2 [9, 10, 3] [(9, .agg #[.int .i64 1, .int .i64 2, .int .i64 8, .int .i64 16, .int .i64 8192, .int .i64 0]), (10, .int .i64 2), (3, .slice p855 2 c856)] (by kernel_rfl) fun a hs => ?_
  refine s_end ?_
  refine c_unr ?_
  refine c_seq ?_
  refine c_region ?_
  refine pures hs 1 [9, 10, 3, 11] [(9, .agg #[.int .i64 1, .int .i64 2, .int .i64 8, .int .i64 16, .int .i64 8192, .int .i64 0]), (10, .int .i64 2), (3, .slice p855 2 c856), (11, .bool true)] (by kernel_rfl) fun a hs => ?_
  refine s_end ?_
  refine c_seq ?_
  refine c_condT hs (by kernel_rfl) (by kernel_rfl) ?_
  refine c_skip ?_
  refine c_seq ?_
  refine c_block ?_
  refine c_seq ?_
  refine c_region ?_
  refine pures hs 2 [9, 10, 3, 5] [(9, .agg #[.int .i64 1, .int .i64 2, .int .i64 8, .int .i64 16, .int .i64 8192, .int .i64 0]), (10, .int .i64 2), (3, .slice p855 2 c856), (5, .int .i64 8)] (by kernel_rfl) fun a hs => ?_
  refine s_end ?_
  refine c_seq ?_
  refine c_region ?_
  refine pures hs 2 [9, 10, 3, 5, 14] [(9, .agg #[.int .i64 1, .int .i64 2, .int .i64 8, .int .i64 16, .int .i64 8192, .int .i64 0]), (10, .int .i64 2), (3, .slice p855 2 c856), (5, .int .i64 8), (14, .bool true)] (by kernel_rfl) fun a hs => ?_
  refine s_end ?_
  refine c_condT hs (by kernel_rfl) (by kernel_rfl) ?_
  refine c_region ?_
  refine pures hs 2 [9, 10, 15, 16] [(9, .agg #[.int .i64 1, .int .i64 2, .int .i64 8, .int .i64 16, .int .i64 8192, .int .i64 0]), (10, .int .i64 2), (15, .slice p855 2 c856), (16, .int .i64 8)] (by kernel_rfl) fun a hs => ?_
  have h896 : letter_of_3 = some () := rfl
  refine s_call hs (by kernel_rfl) (by kernel_rfl) (letter_of_3_s h896 ((hw.pick [1, 2, 3, 4, 5] (by kernel_rfl)).pack 0)) fun a w v hv hs => ?_
  obtain ⟨b897, rfl, hw⟩ := hv
  replace hw := hw.unpack 1 rfl
  refine s_new hs hw [.func (.func 96) #[] #[], .func (.func 106) #[] #[.pointer (some ⟨b897, 0, none⟩)], .func (.func 107) #[] #[.pointer (some ⟨b897, 0, none⟩)]] 101 (fun b => .slice (some ⟨b, 0, none⟩) 1 1) (by kernel_rfl) (fun _ => by kernel_rfl) fun a w b899 hs hw => ?_
  have h902 : app ([(M101.mk (.func (.func 86) #[] #[]) (.func (.func 102) #[] #[.pointer (some ⟨b797, 0, none⟩), .pointer (some ⟨b799, 0, none⟩)]) (.func (.func 104) #[] #[.pointer (some ⟨b799, 0, none⟩), .pointer (some ⟨b797, 0, none⟩)])), (M101.mk (.func (.func 91) #[] #[]) (.func (.func 106) #[] #[.pointer (some ⟨b849, 0, none⟩)]) (.func (.func 107) #[] #[.pointer (some ⟨b849, 0, none⟩)]))]) [(M101.mk (.func (.func 96) #[] #[]) (.func (.func 106) #[] #[.pointer (some ⟨b897, 0, none⟩)]) (.func (.func 107) #[] #[.pointer (some ⟨b897, 0, none⟩)]))] = some ([(M101.mk (.func (.func 86) #[] #[]) (.func (.func 102) #[] #[.pointer (some ⟨b797, 0, none⟩), .pointer (some ⟨b799, 0, none⟩)]) (.func (.func 104) #[] #[.pointer (some ⟨b799, 0, none⟩), .pointer (some ⟨b797, 0, none⟩)])), (M101.mk (.func (.func 91) #[] #[]) (.func (.func 106) #[] #[.pointer (some ⟨b849, 0, none⟩)]) (.func (.func 107) #[] #[.pointer (some ⟨b849, 0, none⟩)])), (M101.mk (.func (.func 96) #[] #[]) (.func (.func 106) #[] #[.pointer (some ⟨b897, 0, none⟩)]) (.func (.func 107) #[] #[.pointer (some ⟨b897, 0, none⟩)]))]) := rfl
  refine s_app1 hs hw (E := e101) appT95 3 rfl h858 (by kernel_rfl) (by kernel_rfl) (c2 := 1) (by kernel_rfl) (hw.at_ 0 rfl) (z := (M101.mk (.func (.func 96) #[] #[]) (.func (.func 106) #[] #[.pointer (some ⟨b897, 0, none⟩)]) (.func (.func 107) #[] #[.pointer (some ⟨b897, 0, none⟩)]))) ⟨rfl, rfl, rfl, rfl⟩ h902 fun a w p903 c904 d905 h906 hw hs => ?_
  refine pures hs 1 [9, 10, 3] [(9, .agg #[.int .i64 1, .int .i64 2, .int .i64 8, .int .i64 16, .int .i64 8192, .int .i64 0]), (10, .int .i64 2), (3, .slice p903 3 c904)] (by kernel_rfl) fun a hs => ?_
  refine s_end ?_
  refine c_region ?_
  refine pures hs 2 [9, 10, 3] [(9, .agg #[.int .i64 1, .int .i64 2, .int .i64 8, .int .i64 16, .int .i64 8192, .int .i64 0]), (10, .int .i64 3), (3, .slice p903 3 c904)] (by kernel_rfl) fun a hs => ?_
  refine s_end ?_
  refine c_unr ?_
  refine c_seq ?_
  refine c_region ?_
  refine pures hs 1 [9, 10, 3, 11] [(9, .agg #[.int .i64 1, .int .i64 2, .int .i64 8, .int .i64 16, .int .i64 8192, .int .i64 0]), (10, .int .i64 3), (3, .slice p903 3 c904), (11, .bool true)] (by kernel_rfl) fun a hs => ?_
  refine s_end ?_
  refine c_seq ?_
  refine c_condT hs (by kernel_rfl) (by kernel_rfl) ?_
  refine c_skip ?_
  refine c_seq ?_
  refine c_block ?_
  refine c_seq ?_
  refine c_region ?_
  refine pures hs 2 [9, 10, 3, 5] [(9, .agg #[.int .i64 1, .int .i64 2, .int .i64 8, .int .i64 16, .int .i64 8192, .int .i64 0]), (10, .int .i64 3), (3, .slice p903 3 c904), (5, .int .i64 16)] (by kernel_rfl) fun a hs => ?_
  refine s_end ?_
  refine c_seq ?_
  refine c_region ?_
  refine pures hs 2 [9, 10, 3, 5, 14] [(9, .agg #[.int .i64 1, .int .i64 2, .int .i64 8, .int .i64 16, .int .i64 8192, .int .i64 0]), (10, .int .i64 3), (3, .slice p903 3 c904), (5, .int .i64 16), (14, .bool true)] (by kernel_rfl) fun a hs => ?_
  refine s_end ?_
  refine c_condT hs (by kernel_rfl) (by kernel_rfl) ?_
  refine c_region ?_
  refine pures hs 2 [9, 10, 15, 16] [(9, .agg #[.int .i64 1, .int .i64 2, .int .i64 8, .int .i64 16, .int .i64 8192, .int .i64 0]), (10, .int .i64 3), (15, .slice p903 3 c904), (16, .int .i64 16)] (by kernel_rfl) fun a hs => ?_
  have h944 : letter_of_4 = some () := rfl
  refine s_call hs (by kernel_rfl) (by kernel_rfl) (letter_of_4_s h944 ((hw.pick [1, 2, 3, 4, 5, 6] (by kernel_rfl)).pack 0)) fun a w v hv hs => ?_
  obtain ⟨b945, rfl, hw⟩ := hv
  replace hw := hw.unpack 1 rfl
  refine s_new hs hw [.func (.func 96) #[] #[], .func (.func 106) #[] #[.pointer (some ⟨b945, 0, none⟩)], .func (.func 107) #[] #[.pointer (some ⟨b945, 0, none⟩)]] 101 (fun b => .slice (some ⟨b, 0, none⟩) 1 1) (by kernel_rfl) (fun _ => by kernel_rfl) fun a w b947 hs hw => ?_
  have h950 : app ([(M101.mk (.func (.func 86) #[] #[]) (.func (.func 102) #[] #[.pointer (some ⟨b797, 0, none⟩), .pointer (some ⟨b799, 0, none⟩)]) (.func (.func 104) #[] #[.pointer (some ⟨b799, 0, none⟩), .pointer (some ⟨b797, 0, none⟩)])), (M101.mk (.func (.func 91) #[] #[]) (.func (.func 106) #[] #[.pointer (some ⟨b849, 0, none⟩)]) (.func (.func 107) #[] #[.pointer (some ⟨b849, 0, none⟩)])), (M101.mk (.func (.func 96) #[] #[]) (.func (.func 106) #[] #[.pointer (some ⟨b897, 0, none⟩)]) (.func (.func 107) #[] #[.pointer (some ⟨b897, 0, none⟩)]))]) [(M101.mk (.func (.func 96) #[] #[]) (.func (.func 106) #[] #[.pointer (some ⟨b945, 0, none⟩)]) (.func (.func 107) #[] #[.pointer (some ⟨b945, 0, none⟩)]))] = some ([(M101.mk (.func (.func 86) #[] #[]) (.func (.func 102) #[] #[.pointer (some ⟨b797, 0, none⟩), .pointer (some ⟨b799, 0, none⟩)]) (.func (.func 104) #[] #[.pointer (some ⟨b799, 0, none⟩), .pointer (some ⟨b797, 0, none⟩)])), (M101.mk (.func (.func 91) #[] #[]) (.func (.func 106) #[] #[.pointer (some ⟨b849, 0, none⟩)]) (.func (.func 107) #[] #[.pointer (some ⟨b849, 0, none⟩)])), (M101.mk (.func (.func 96) #[] #[]) (.func (.func 106) #[] #[.pointer (some ⟨b897, 0, none⟩)]) (.func (.func 107) #[] #[.pointer (some ⟨b897, 0, none⟩)])), (M101.mk (.func (.func 96) #[] #[]) (.func (.func 106) #[] #[.pointer (some ⟨b945, 0, none⟩)]) (.func (.func 107) #[] #[.pointer (some ⟨b945, 0, none⟩)]))]) := rfl
  refine s_app1 hs hw (E := e101) appT95 4 rfl h906 (by kernel_rfl) (by kernel_rfl) (c2 := 1) (by kernel_rfl) (hw.at_ 0 rfl) (z := (M101.mk (.func (.func 96) #[] #[]) (.func (.func 106) #[] #[.pointer (some ⟨b945, 0, none⟩)]) (.func (.func 107) #[] #[.pointer (some ⟨b945, 0, none⟩)]))) ⟨rfl, rfl, rfl, rfl⟩ h950 fun a w p951 c952 d953 h954 hw hs => ?_
  refine pures hs 1 [9, 10, 3] [(9, .agg #[.int .i64 1, .int .i64 2, .int .i64 8, .int .i64 16, .int .i64 8192, .int .i64 0]), (10, .int .i64 3), (3, .slice p951 4 c952)] (by kernel_rfl) fun a hs => ?_
  refine s_end ?_
  refine c_region ?_
  refine pures hs 2 [9, 10, 3] [(9, .agg #[.int .i64 1, .int .i64 2, .int .i64 8, .int .i64 16, .int .i64 8192, .int .i64 0]), (10, .int .i64 4), (3, .slice p951 4 c952)] (by kernel_rfl) fun a hs => ?_
  refine s_end ?_
  refine c_unr ?_
  refine c_seq ?_
  refine c_region ?_
  refine pures hs 1 [9, 10, 3, 11] [(9, .agg #[.int .i64 1, .int .i64 2, .int .i64 8, .int .i64 16, .int .i64 8192, .int .i64 0]), (10, .int .i64 4), (3, .slice p951 4 c952), (11, .bool true)] (by kernel_rfl) fun a hs => ?_
  refine s_end ?_
  refine c_seq ?_
  refine c_condT hs (by kernel_rfl) (by kernel_rfl) ?_
  refine c_skip ?_
  refine c_seq ?_
  refine c_block ?_
  refine c_seq ?_
  refine c_region ?_
  refine pures hs 2 [9, 10, 3, 5] [(9, .agg #[.int .i64 1, .int .i64 2, .int .i64 8, .int .i64 16, .int .i64 8192, .int .i64 0]), (10, .int .i64 4), (3, .slice p951 4 c952), (5, .int .i64 8192)] (by kernel_rfl) fun a hs => ?_
  refine s_end ?_
  refine c_seq ?_
  refine c_region ?_
  refine pures hs 2 [9, 10, 3, 5, 14] [(9, .agg #[.int .i64 1, .int .i64 2, .int .i64 8, .int .i64 16, .int .i64 8192, .int .i64 0]), (10, .int .i64 4), (3, .slice p951 4 c952), (5, .int .i64 8192), (14, .bool true)] (by kernel_rfl) fun a hs => ?_
  refine s_end ?_
  refine c_condT hs (by kernel_rfl) (by kernel_rfl) ?_
  refine c_region ?_
  refine pures hs 2 [9, 10, 15, 16] [(9, .agg #[.int .i64 1, .int .i64 2, .int .i64 8, .int .i64 16, .int .i64 8192, .int .i64 0]), (10, .int .i64 4), (15, .slice p951 4 c952), (16, .int .i64 8192)] (by kernel_rfl) fun a hs => ?_
  have h986 : letter_of_5 = some () := rfl
  refine s_call hs (by kernel_rfl) (by kernel_rfl) (letter_of_5_s h986 ((hw.pick [1, 2, 3, 4, 5, 6, 7] (by kernel_rfl)).pack 0)) fun a w v hv hs => ?_
  obtain ⟨rfl, hw⟩ := hv
  replace hw := hw.unpack 0 rfl
  refine s_new hs hw [.func (.func 128) #[] #[], .func (.func 129) #[] #[], .func (.func 130) #[] #[]] 101 (fun b => .slice (some ⟨b, 0, none⟩) 1 1) (by kernel_rfl) (fun _ => by kernel_rfl) fun a w b987 hs hw => ?_
  have h990 : app ([(M101.mk (.func (.func 86) #[] #[]) (.func (.func 102) #[] #[.pointer (some ⟨b797, 0, none⟩), .pointer (some ⟨b799, 0, none⟩)]) (.func (.func 104) #[] #[.pointer (some ⟨b799, 0, none⟩), .pointer (some ⟨b797, 0, none⟩)])), (M101.mk (.func (.func 91) #[] #[]) (.func (.func 106) #[] #[.pointer (some ⟨b849, 0, none⟩)]) (.func (.func 107) #[] #[.pointer (some ⟨b849, 0, none⟩)])), (M101.mk (.func (.func 96) #[] #[]) (.func (.func 106) #[] #[.pointer (some ⟨b897, 0, none⟩)]) (.func (.func 107) #[] #[.pointer (some ⟨b897, 0, none⟩)])), (M101.mk (.func (.func 96) #[] #[]) (.func (.func 106) #[] #[.pointer (some ⟨b945, 0, none⟩)]) (.func (.func 107) #[] #[.pointer (some ⟨b945, 0, none⟩)]))]) [(M101.mk (.func (.func 128) #[] #[]) (.func (.func 129) #[] #[]) (.func (.func 130) #[] #[]))] = some ([(M101.mk (.func (.func 86) #[] #[]) (.func (.func 102) #[] #[.pointer (some ⟨b797, 0, none⟩), .pointer (some ⟨b799, 0, none⟩)]) (.func (.func 104) #[] #[.pointer (some ⟨b799, 0, none⟩), .pointer (some ⟨b797, 0, none⟩)])), (M101.mk (.func (.func 91) #[] #[]) (.func (.func 106) #[] #[.pointer (some ⟨b849, 0, none⟩)]) (.func (.func 107) #[] #[.pointer (some ⟨b849, 0, none⟩)])), (M101.mk (.func (.func 96) #[] #[]) (.func (.func 106) #[] #[.pointer (some ⟨b897, 0, none⟩)]) (.func (.func 107) #[] #[.pointer (some ⟨b897, 0, none⟩)])), (M101.mk (.func (.func 96) #[] #[]) (.func (.func 106) #[] #[.pointer (some ⟨b945, 0, none⟩)]) (.func (.func 107) #[] #[.pointer (some ⟨b945, 0, none⟩)])), (M101.mk (.func (.func 128) #[] #[]) (.func (.func 129) #[] #[]) (.func (.func 130) #[] #[]))]) := rfl
  refine s_app1 hs hw (E := e101) appT95 4 rfl h954 (by kernel_rfl) (by kernel_rfl) (c2 := 1) (by kernel_rfl) (hw.at_ 0 rfl) (z := (M101.mk (.func (.func 128) #[] #[]) (.func (.func 129) #[] #[]) (.func (.func 130) #[] #[]))) ⟨rfl, rfl, rfl, rfl⟩ h990 fun a w p991 c992 d993 h994 hw hs => ?_
  refine pures hs 1 [9, 10, 3] [(9, .agg #[.int .i64 1, .int .i64 2, .int .i64 8, .int .i64 16, .int .i64 8192, .int .i64 0]), (10, .int .i64 4), (3, .slice p991 5 c992)] (by kernel_rfl) fun a hs => ?_
  refine s_end ?_
  refine c_region ?_
  refine pures hs 2 [9, 10, 3] [(9, .agg #[.int .i64 1, .int .i64 2, .int .i64 8, .int .i64 16, .int .i64 8192, .int .i64 0]), (10, .int .i64 5), (3, .slice p991 5 c992)] (by kernel_rfl) fun a hs => ?_
  refine s_end ?_
  refine c_unr ?_
  refine c_seq ?_
  refine c_region ?_
  refine pures hs 1 [9, 10, 3, 11] [(9, .agg #[.int .i64 1, .int .i64 2, .int .i64 8, .int .i64 16, .int .i64 8192, .int .i64 0]), (10, .int .i64 5), (3, .slice p991 5 c992), (11, .bool true)] (by kernel_rfl) fun a hs => ?_
  refine s_end ?_
  refine c_seq ?_
  refine c_condT hs (by kernel_rfl) (by kernel_rfl) ?_
  refine c_skip ?_
  refine c_seq ?_
  refine c_block ?_
  refine c_seq ?_
  refine c_region ?_
  refine pures hs 2 [9, 10, 3, 5] [(9, .agg #[.int .i64 1, .int .i64 2, .int .i64 8, .int .i64 16, .int .i64 8192, .int .i64 0]), (10, .int .i64 5), (3, .slice p991 5 c992), (5, .int .i64 0)] (by kernel_rfl) fun a hs => ?_
  refine s_end ?_
  refine c_seq ?_
  refine c_region ?_
  refine pures hs 2 [9, 10, 3, 5, 14] [(9, .agg #[.int .i64 1, .int .i64 2, .int .i64 8, .int .i64 16, .int .i64 8192, .int .i64 0]), (10, .int .i64 5), (3, .slice p991 5 c992), (5, .int .i64 0), (14, .bool false)] (by kernel_rfl) fun a hs => ?_
  refine s_end ?_
  refine c_condF hs (by kernel_rfl) (by kernel_rfl) ?_
  refine c_skip ?_
  refine c_region ?_
  refine pures hs 2 [9, 10, 3] [(9, .agg #[.int .i64 1, .int .i64 2, .int .i64 8, .int .i64 16, .int .i64 8192, .int .i64 0]), (10, .int .i64 6), (3, .slice p991 5 c992)] (by kernel_rfl) fun a hs => ?_
  refine s_end ?_
  refine c_unr ?_
  refine c_seq ?_
  refine c_region ?_
  refine pures hs 1 [9, 10, 3, 11] [(9, .agg #[.int .i64 1, .int .i64 2, .int .i64 8, .int .i64 16, .int .i64 8192, .int .i64 0]), (10, .int .i64 6), (3, .slice p991 5 c992), (11, .bool false)] (by kernel_rfl) fun a hs => ?_
  refine s_end ?_
  refine c_seq ?_
  refine c_condF hs (by kernel_rfl) (by kernel_rfl) ?_
  refine c_exit ?_
  refine c_seq ?_
  refine c_region ?_
  refine pures hs 2 [2] [(2, .slice p991 5 c992)] (by kernel_rfl) fun a hs => ?_
  refine s_end ?_
  refine c_ret ?_
  obtain rfl := someE hk
  refine hQ _ _ (f_ret1 hs rfl (v := .slice p991 5 c992) (by kernel_rfl) ⟨p991, c992, d993, b797, b799, b849, b897, b945, rfl, hw.pick [4, 5, 6, 3, 2, 1, 7] (by kernel_rfl), h994⟩)
def letter_of_1 : Option Unit :=
  some ()
theorem letter_of_1_s {x1 : List M26} {p2 : Option Addr} {c3 : Nat} {r : Unit} (hk : letter_of_1 = some r) {g w : World} {F : Ch} {ih : IH} (h4 : RSl e26 ih [] p2 c3 x1) (hw : St g w [F] ih) :
    CallsR Tryz.prog 86 #[.agg #[.int .i64 12, .int .i64 1, .int .i64 1, .int .i64 0, .int .u64 1, .int .u64 0, .int .u64 0, .int .u64 0, .int .u64 0, .int .u64 0, .int .i64 0, .int .u32 0, .int .i64 0, .int .i64 0, .int .i64 0, .int .u64 0, .int .i64 0, .int .i64 0, .int .u64 0, .slice none 0 0, .bool false, .int .i64 0, .slice none 0 0, .slice p2 x1.length c3, .slice none 0 0]] w fun v w' => v = .bool true ∧ St g w' [F] ih := by
  refine f_in (vs := [.agg #[.int .i64 12, .int .i64 1, .int .i64 1, .int .i64 0, .int .u64 1, .int .u64 0, .int .u64 0, .int .u64 0, .int .u64 0, .int .u64 0, .int .i64 0, .int .u32 0, .int .i64 0, .int .i64 0, .int .i64 0, .int .u64 0, .int .i64 0, .int .i64 0, .int .u64 0, .slice none 0 0, .bool false, .int .i64 0, .slice none 0 0, .slice p2 x1.length c3, .slice none 0 0]]) Tryz.func86 rfl 11 rfl (by kernel_rfl) [(0, .agg #[.int .i64 12, .int .i64 1, .int .i64 1, .int .i64 0, .int .u64 1, .int .u64 0, .int .u64 0, .int .u64 0, .int .u64 0, .int .u64 0, .int .i64 0, .int .u32 0, .int .i64 0, .int .i64 0, .int .i64 0, .int .u64 0, .int .i64 0, .int .i64 0, .int .u64 0, .slice none 0 0, .bool false, .int .i64 0, .slice none 0 0, .slice p2 x1.length c3, .slice none 0 0])] (by kernel_rfl) fun a Qf hQ hQn hs => ?_
  refine c_seq ?_
  refine c_region ?_
  refine s_new hs hw [.int .i64 12, .int .i64 1, .int .i64 1, .int .i64 0, .int .u64 1, .int .u64 0, .int .u64 0, .int .u64 0, .int .u64 0, .int .u64 0, .int .i64 0, .int .u32 0, .int .i64 0, .int .i64 0, .int .i64 0, .int .u64 0, .int .i64 0, .int .i64 0, .int .u64 0, .slice none 0 0, .bool false, .int .i64 0, .slice none 0 0, .slice p2 x1.length c3, .slice none 0 0] 90 (fun b => .pointer (some ⟨b, 0, none⟩)) (by kernel_rfl) (fun _ => by kernel_rfl) fun a w b13 hs hw => ?_
  refine pures hs 1 [1] [(1, .pointer (some ⟨b13, 0, none⟩))] (by kernel_rfl) fun a hs => ?_
  refine s_end ?_
  refine c_seq ?_
  refine c_region ?_
  refine pures hs 1 [1, 3] [(1, .pointer (some ⟨b13, 0, none⟩)), (3, .pointer (some ⟨b13, 3, none⟩))] (by kernel_rfl) fun a hs => ?_
  refine s_load hs (hw.at_ 0 rfl) 3 (by kernel_rfl) (by kernel_rfl) (v := .int .i64 0) (by kernel_rfl) fun a hs => ?_
  refine pures hs 3 [6, 7] [(6, .bool true), (7, .pointer (some ⟨b13, 3, none⟩))] (by kernel_rfl) fun a hs => ?_
  refine s_load hs (hw.at_ 0 rfl) 3 (by kernel_rfl) (by kernel_rfl) (v := .int .i64 0) (by kernel_rfl) fun a hs => ?_
  refine pures hs 3 [2] [(2, .bool true)] (by kernel_rfl) fun a hs => ?_
  refine s_end ?_
  refine c_ret ?_
  obtain rfl := someE hk
  refine hQ _ _ (f_ret1 hs rfl (v := .bool true) (by kernel_rfl) ⟨rfl, hw.pick [1] (by kernel_rfl)⟩)
def letter_of_5_2 : Option Unit :=
  some ()
theorem letter_of_5_2_s {x1 : List M26} {p2 : Option Addr} {c3 : Nat} {r : Unit} (hk : letter_of_5_2 = some r) {g w : World} {F : Ch} {ih : IH} (h4 : RSl e26 ih [] p2 c3 x1) (hw : St g w [F] ih) :
    CallsR Tryz.prog 91 #[.agg #[.int .i64 12, .int .i64 1, .int .i64 1, .int .i64 0, .int .u64 1, .int .u64 0, .int .u64 0, .int .u64 0, .int .u64 0, .int .u64 0, .int .i64 0, .int .u32 0, .int .i64 0, .int .i64 0, .int .i64 0, .int .u64 0, .int .i64 0, .int .i64 0, .int .u64 0, .slice none 0 0, .bool false, .int .i64 0, .slice none 0 0, .slice p2 x1.length c3, .slice none 0 0]] w fun v w' => v = .bool true ∧ St g w' [F] ih := by
  refine f_in (vs := [.agg #[.int .i64 12, .int .i64 1, .int .i64 1, .int .i64 0, .int .u64 1, .int .u64 0, .int .u64 0, .int .u64 0, .int .u64 0, .int .u64 0, .int .i64 0, .int .u32 0, .int .i64 0, .int .i64 0, .int .i64 0, .int .u64 0, .int .i64 0, .int .i64 0, .int .u64 0, .slice none 0 0, .bool false, .int .i64 0, .slice none 0 0, .slice p2 x1.length c3, .slice none 0 0]]) Tryz.func91 rfl 6 rfl (by kernel_rfl) [(0, .agg #[.int .i64 12, .int .i64 1, .int .i64 1, .int .i64 0, .int .u64 1, .int .u64 0, .int .u64 0, .int .u64 0, .int .u64 0, .int .u64 0, .int .i64 0, .int .u32 0, .int .i64 0, .int .i64 0, .int .i64 0, .int .u64 0, .int .i64 0, .int .i64 0, .int .u64 0, .slice none 0 0, .bool false, .int .i64 0, .slice none 0 0, .slice p2 x1.length c3, .slice none 0 0])] (by kernel_rfl) fun a Qf hQ hQn hs => ?_
  refine c_seq ?_
  refine c_region ?_
  refine s_new hs hw [.int .i64 12, .int .i64 1, .int .i64 1, .int .i64 0, .int .u64 1, .int .u64 0, .int .u64 0, .int .u64 0, .int .u64 0, .int .u64 0, .int .i64 0, .int .u32 0, .int .i64 0, .int .i64 0, .int .i64 0, .int .u64 0, .int .i64 0, .int .i64 0, .int .u64 0, .slice none 0 0, .bool false, .int .i64 0, .slice none 0 0, .slice p2 x1.length c3, .slice none 0 0] 90 (fun b => .pointer (some ⟨b, 0, none⟩)) (by kernel_rfl) (fun _ => by kernel_rfl) fun a w b13 hs hw => ?_
  refine pures hs 1 [1] [(1, .pointer (some ⟨b13, 0, none⟩))] (by kernel_rfl) fun a hs => ?_
  refine s_end ?_
  refine c_seq ?_
  refine c_region ?_
  refine pures hs 1 [3] [(3, .pointer (some ⟨b13, 4, none⟩))] (by kernel_rfl) fun a hs => ?_
  refine s_load hs (hw.at_ 0 rfl) 4 (by kernel_rfl) (by kernel_rfl) (v := .int .u64 1) (by kernel_rfl) fun a hs => ?_
  refine pures hs 2 [2] [(2, .bool true)] (by kernel_rfl) fun a hs => ?_
  refine s_end ?_
  refine c_ret ?_
  obtain rfl := someE hk
  refine hQ _ _ (f_ret1 hs rfl (v := .bool true) (by kernel_rfl) ⟨rfl, hw.pick [1] (by kernel_rfl)⟩)
def letter_any : Option Unit :=
  some ()
theorem letter_any_s {x1 : List M26} {p2 : Option Addr} {c3 : Nat} {r : Unit} (hk : letter_any = some r) {g w : World} {F : Ch} {ih : IH} (h4 : RSl e26 ih [] p2 c3 x1) (hw : St g w [F] ih) :
    CallsR Tryz.prog 96 #[.agg #[.int .i64 12, .int .i64 1, .int .i64 1, .int .i64 0, .int .u64 1, .int .u64 0, .int .u64 0, .int .u64 0, .int .u64 0, .int .u64 0, .int .i64 0, .int .u32 0, .int .i64 0, .int .i64 0, .int .i64 0, .int .u64 0, .int .i64 0, .int .i64 0, .int .u64 0, .slice none 0 0, .bool false, .int .i64 0, .slice none 0 0, .slice p2 x1.length c3, .slice none 0 0]] w fun v w' => v = .bool true ∧ St g w' [F] ih := by
  refine f_in (vs := [.agg #[.int .i64 12, .int .i64 1, .int .i64 1, .int .i64 0, .int .u64 1, .int .u64 0, .int .u64 0, .int .u64 0, .int .u64 0, .int .u64 0, .int .i64 0, .int .u32 0, .int .i64 0, .int .i64 0, .int .i64 0, .int .u64 0, .int .i64 0, .int .i64 0, .int .u64 0, .slice none 0 0, .bool false, .int .i64 0, .slice none 0 0, .slice p2 x1.length c3, .slice none 0 0]]) Tryz.func96 rfl 3 rfl (by kernel_rfl) [(0, .agg #[.int .i64 12, .int .i64 1, .int .i64 1, .int .i64 0, .int .u64 1, .int .u64 0, .int .u64 0, .int .u64 0, .int .u64 0, .int .u64 0, .int .i64 0, .int .u32 0, .int .i64 0, .int .i64 0, .int .i64 0, .int .u64 0, .int .i64 0, .int .i64 0, .int .u64 0, .slice none 0 0, .bool false, .int .i64 0, .slice none 0 0, .slice p2 x1.length c3, .slice none 0 0])] (by kernel_rfl) fun a Qf hQ hQn hs => ?_
  refine c_seq ?_
  refine c_region ?_
  refine s_new hs hw [.int .i64 12, .int .i64 1, .int .i64 1, .int .i64 0, .int .u64 1, .int .u64 0, .int .u64 0, .int .u64 0, .int .u64 0, .int .u64 0, .int .i64 0, .int .u32 0, .int .i64 0, .int .i64 0, .int .i64 0, .int .u64 0, .int .i64 0, .int .i64 0, .int .u64 0, .slice none 0 0, .bool false, .int .i64 0, .slice none 0 0, .slice p2 x1.length c3, .slice none 0 0] 90 (fun b => .pointer (some ⟨b, 0, none⟩)) (by kernel_rfl) (fun _ => by kernel_rfl) fun a w b13 hs hw => ?_
  refine pures hs 1 [] [] (by kernel_rfl) fun a hs => ?_
  refine s_end ?_
  refine c_seq ?_
  refine c_region ?_
  refine pures hs 1 [2] [(2, .bool true)] (by kernel_rfl) fun a hs => ?_
  refine s_end ?_
  refine c_ret ?_
  obtain rfl := someE hk
  refine hQ _ _ (f_ret1 hs rfl (v := .bool true) (by kernel_rfl) ⟨rfl, hw.pick [1] (by kernel_rfl)⟩)
end Go.Proofs.YtfpllbnljlbepaaGreatDoor.Sx
