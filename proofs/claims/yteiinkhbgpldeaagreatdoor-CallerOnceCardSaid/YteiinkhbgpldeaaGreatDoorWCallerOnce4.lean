/- The walk of CallerOnce: each Go function that it calls, as a plain function, and the proof that the call computes it. Printed by the program gen.py.
   Conditions: those that each theorem states ahead of its colon, and no other. -/
import Derived.Test.YteiinkhbgpldeaaGreatDoorWCallerOnce3
namespace Go.Proofs.YteiinkhbgpldeaaGreatDoor.Sx
open Go Go.Proofs
set_option maxRecDepth 100000
set_option linter.unusedVariables false
def caller_Caller_Take_3_r13 (x793 : Int) (x794 : Int) (x795 : Int) (x796 : List Int) (x800 : List M44) (x806 : Int) (x807 : Int) (x808 : Int) (x809 : Int) (x810 : List Int) : Option ((List M48) × Int × Int × Int × (List Int) × (List M44) × Int × Int × Int × Int × (List Int)) :=
  some ([], x793, x794, x795, x796, x800, x806, x807, x808, x809, x810)
def caller_Caller_Take_3_r14 (k : Nat) (x3 : Int) (x5 : Int) (x17 : Int) (x18 : Int) (x19 : Int) (x20 : List Int) (x24 : Int) (x33 : Int) (x34 : Int) (x35 : Int) (x36 : List Int) (x27 : List Int) (x859 : Bool) (x860 : List M44) : Option (Sum ((List M48) × Int × Int × Int × (List Int) × (List M44) × Int × Int × Int × Int × (List Int)) (Int × Int × Int × (List Int) × (List M44) × Int × Int × Int × Int × (List Int))) :=
  if x859 = true then (
    (caller_Caller_ask k x3 x5 x860 x17 x18 x19 x20 x24).bind fun y876 =>
    some (.inl (y876, x33, x34, x35, x36, x860, 0, 0, 0, 0, x27)))
  else some (.inr (x33, x34, x35, x36, x860, 0, 0, 0, 0, x27))
def caller_Caller_Take_3_r15 (x9 : List M44) (x986 : Int) (x987 : Int) (x988 : Int) (x989 : List Int) (x993 : Int) (x994 : Int) (x995 : List Int) : Option (Sum ((List M48) × Int × Int × Int × (List Int) × (List M44) × Int × Int × Int × Int × (List Int)) (Int × Int × Int × (List Int) × (List M44) × Int × Int × Int × Int × (List Int))) :=
  some (.inr (x986, x987, x988, x989, x9, 1, 1, x993, x994, x995))
def caller_Caller_Take_3_r16 (x40 : M48) (x5 : Int) (x9 : List M44) (x33 : Int) (x34 : Int) (x35 : Int) (x36 : List Int) (x27 : List Int) (x945 : Bool) : Option (Sum ((List M48) × Int × Int × Int × (List Int) × (List M44) × Int × Int × Int × Int × (List Int)) (Int × Int × Int × (List Int) × (List M44) × Int × Int × Int × Int × (List Int))) :=
  if x945 = true then (
    ((bytes_Clone x40.f17).bind fun y1002 =>
      (caller_Caller_answer_2 x5 (M51.mk 0 x40.f9 y1002)).bind fun y1012 =>
      some (y1012.1, y1012.2.1, y1012.2.2.1, y1012.2.2.2.1, y1012.2.2.2.2.1, y1012.2.2.2.2.2.1, y1012.2.2.2.2.2.2) : Option (Int × Int × Int × (List Int) × Int × Int × (List Int))).bind fun s1020 => caller_Caller_Take_3_r15 x9 s1020.1 s1020.2.1 s1020.2.2.1 s1020.2.2.2.1 s1020.2.2.2.2.1 s1020.2.2.2.2.2.1 s1020.2.2.2.2.2.2)
  else some (.inr (x33, x34, x35, x36, x9, 0, 0, 0, 0, x27))
def caller_Caller_Take_3_r17 (k : Nat) (x40 : M48) (x9 : List M44) (x18 : Int) (x3 : Int) (x5 : Int) (x17 : Int) (x19 : Int) (x20 : List Int) (x24 : Int) (x33 : Int) (x34 : Int) (x35 : Int) (x36 : List Int) (x27 : List Int) (x591 : Bool) : Option ((List M48) × Int × Int × Int × (List Int) × (List M44) × Int × Int × Int × Int × (List Int)) :=
  (if (x40.f0 == 11) = true then (
      ((atlas_Atlas_Learn k x9 x40.f14).bind fun y894 =>
        if y894.1 = true then (
          (atlas_Atlas_Of k y894.2 x18).bind fun y905 =>
          some ((y905.f0 == x40.f14.f0), y894.2))
        else some (false, y894.2) : Option (Bool × (List M44))).bind fun s912 => caller_Caller_Take_3_r14 k x3 x5 x17 x18 x19 x20 x24 x33 x34 x35 x36 x27 s912.1 s912.2)
    else if (x40.f0 == 18) = true then (
      if (x591 && (!(x17 == 1))) = true then (
        (caller_Caller_answer_2 x5 (M51.mk x40.f12 x40.f9 ([]))).bind fun y928 =>
        some (.inr (y928.1, y928.2.1, y928.2.2.1, y928.2.2.2.1, x9, 1, 1, y928.2.2.2.2.1, y928.2.2.2.2.2.1, y928.2.2.2.2.2.2)))
      else some (.inr (x33, x34, x35, x36, x9, 0, 0, 0, 0, x27)))
    else if (x40.f0 == 20) = true then (
      (if x591 = true then (
          if (x17 == 1) = true then some (x40.f11 == x18)
          else some false)
        else some false : Option Bool).bind fun s1029 => caller_Caller_Take_3_r16 x40 x5 x9 x33 x34 x35 x36 x27 s1029)
    else some (.inr (x33, x34, x35, x36, x9, 0, 0, 0, 0, x27)) : Option (Sum ((List M48) × Int × Int × Int × (List Int) × (List M44) × Int × Int × Int × Int × (List Int)) (Int × Int × Int × (List Int) × (List M44) × Int × Int × Int × Int × (List Int)))).bind fun
    | .inl z => some z
    | .inr s1033 => caller_Caller_Take_3_r13 s1033.1 s1033.2.1 s1033.2.2.1 s1033.2.2.2.1 s1033.2.2.2.2.1 s1033.2.2.2.2.2.1 s1033.2.2.2.2.2.2.1 s1033.2.2.2.2.2.2.2.1 s1033.2.2.2.2.2.2.2.2.1 s1033.2.2.2.2.2.2.2.2.2
def caller_Caller_Take_3_r18 (k : Nat) (x33 : Int) (x34 : Int) (x35 : Int) (x36 : List Int) (x9 : List M44) (x27 : List Int) (x40 : M48) (x5 : Int) (x18 : Int) (x3 : Int) (x17 : Int) (x19 : Int) (x20 : List Int) (x24 : Int) (x571 : Bool) : Option ((List M48) × Int × Int × Int × (List Int) × (List M44) × Int × Int × Int × Int × (List Int)) :=
  if x571 = true then some ([], x33, x34, x35, x36, x9, 0, 0, 0, 0, x27)
  else ((letter_Node x40.f1).bind fun y1037 =>
    if y1037 = true then (
      if (x40.f6 == x5) = true then some true
      else some false)
    else some false : Option Bool).bind fun s1043 => caller_Caller_Take_3_r17 k x40 x9 x18 x3 x5 x17 x19 x20 x24 x33 x34 x35 x36 x27 s1043
def caller_Caller_Take_3 (k : Nat) (x3 : Int) (x5 : Int) (x9 : List M44) (x17 : Int) (x18 : Int) (x19 : Int) (x20 : List Int) (x24 : Int) (x27 : List Int) (x33 : Int) (x34 : Int) (x35 : Int) (x36 : List Int) (x40 : M48) : Option ((List M48) × Int × Int × Int × (List Int) × (List M44) × Int × Int × Int × Int × (List Int)) :=
  ((letter_Check k x40).bind fun y1047 =>
    if (y1047 != 0) = true then some true
    else (caller_Caller_Address x3).bind fun y1052 =>
    some (x40.f2 != y1052) : Option Bool).bind fun s1054 => caller_Caller_Take_3_r18 k x33 x34 x35 x36 x9 x27 x40 x5 x18 x3 x17 x19 x20 x24 s1054
theorem caller_Caller_Take_3_s {k : Nat} {x3 : Int} {x4 : Int} {x5 : Int} {x6 : Int} {x9 : List M44} {x15 : Value} {x17 : Int} {x18 : Int} {x19 : Int} {x20 : List Int} {x24 : Int} {x27 : List Int} {x33 : Int} {x34 : Int} {x35 : Int} {x36 : List Int} {x40 : M48} {b2 : Nat} {b8 : Nat} {p10 : Option Addr} {c11 : Nat} {d13 : Ch} {p21 : Option Addr} {c22 : Nat} {b26 : Nat} {p28 : Option Addr} {c29 : Nat} {d31 : Ch} {p37 : Option Addr} {c38 : Nat} {p41 : Option Addr} {c42 : Nat} {p44 : Option Addr} {c45 : Nat} {p47 : Option Addr} {c48 : Nat} {p50 : Option Addr} {c51 : Nat} {r : (List M48) × Int × Int × Int × (List Int) × (List M44) × Int × Int × Int × Int × (List Int)} (hk : caller_Caller_Take_3 k x3 x5 x9 x17 x18 x19 x20 x24 x27 x33 x34 x35 x36 x40 = some r) {g w : World} {F : Ch} {ih : IH} (h12 : OSl e44 ih p10 c11 x9 d13) (h16 : x15.oneCell' = true) (h23 : RSl e5 ih [] p21 c22 x20) (h30 : OSl e5 ih p28 c29 x27 d31) (h39 : RSl e5 ih [] p37 c38 x36) (h43 : RSl e3 ih [] p41 c42 x40.f14.f2) (h46 : RSl e156 ih [] p44 c45 x40.f15) (h49 : RSl e96 ih [] p47 c48 x40.f16) (h52 : RSl e5 ih [] p50 c51 x40.f17) (hG : Glob 0 gl0 162 ih) (hw : St g w [bx b2 [vi64 x3, vi64 x4, vu64 x5, vi64 x6, (pt b8 0), vi64 x17, vu32 x18, vu64 x19, .slice p21 x20.length c22, vi64 x24, (pt b26 0), vu64 x33, vi64 x34, vu64 x35, .slice p37 x36.length c38] 85, bx b8 [.slice p10 x9.length c11, x15] 113, d13, bx b26 [vu32 0, vi32 0, vu32 0, vu32 0, vi64 0, vu64 0, .slice p28 x27.length c29] 126, d31, F] ih) :
    CallsR Tryz.prog 12 #[(pt b2 0), .agg #[vi64 x40.f0, vi64 x40.f1, vi64 x40.f2, vi64 x40.f3, vu64 x40.f4, vu64 x40.f5, vu64 x40.f6, vu64 x40.f7, vu64 x40.f8, vu64 x40.f9, vi64 x40.f10, vu32 x40.f11, vi64 x40.f12, vi64 x40.f13.f0, vi64 x40.f13.f1, vu64 x40.f13.f2, vi64 x40.f13.f3, vi64 x40.f14.f0, vu64 x40.f14.f1, .slice p41 x40.f14.f2.length c42, .bool x40.f14.f3, vi64 x40.f14.f4, .slice p44 x40.f15.length c45, .slice p47 x40.f16.length c48, .slice p50 x40.f17.length c51]] w fun v w' => ∃ (ih' : IH) (p1055 : Option Addr) (c1056 : Nat) (d1058 : Ch) (p1060 : Option Addr) (c1061 : Nat) (p1062 : Option Addr) (c1063 : Nat) (d1064 : Ch) (p1065 : Option Addr) (c1066 : Nat), v = .slice p1055 r.1.length c1056 ∧ St g w' [d1058, bx b2 [vi64 x3, vi64 x4, vu64 x5, vi64 x6, (pt b8 0), vi64 x17, vu32 x18, vu64 x19, .slice p21 x20.length c22, vi64 x24, (pt b26 0), vu64 r.2.1, vi64 r.2.2.1, vu64 r.2.2.2.1, .slice p1060 r.2.2.2.2.1.length c1061] 85, bx b8 [.slice p1062 r.2.2.2.2.2.1.length c1063, x15] 113, d1064, bx b26 [vu32 r.2.2.2.2.2.2.1, vi32 0, vu32 0, vu32 r.2.2.2.2.2.2.2.1, vi64 r.2.2.2.2.2.2.2.2.1, vu64 r.2.2.2.2.2.2.2.2.2.1, .slice p1065 r.2.2.2.2.2.2.2.2.2.2.length c1066] 126, F] ih' ∧ Le ih ih' ∧ OSl e48 ih' p1055 c1056 r.1 d1058 ∧ RSl e5 ih' [] p1060 c1061 r.2.2.2.2.1 ∧ OSl e44 ih' p1062 c1063 r.2.2.2.2.2.1 d1064 ∧ RSl e5 ih' [] p1065 c1066 r.2.2.2.2.2.2.2.2.2.2 := by
  refine f_in (vs := [(pt b2 0), .agg #[vi64 x40.f0, vi64 x40.f1, vi64 x40.f2, vi64 x40.f3, vu64 x40.f4, vu64 x40.f5, vu64 x40.f6, vu64 x40.f7, vu64 x40.f8, vu64 x40.f9, vi64 x40.f10, vu32 x40.f11, vi64 x40.f12, vi64 x40.f13.f0, vi64 x40.f13.f1, vu64 x40.f13.f2, vi64 x40.f13.f3, vi64 x40.f14.f0, vu64 x40.f14.f1, .slice p41 x40.f14.f2.length c42, .bool x40.f14.f3, vi64 x40.f14.f4, .slice p44 x40.f15.length c45, .slice p47 x40.f16.length c48, .slice p50 x40.f17.length c51]]) Tryz.func12 rfl 115 rfl (by kernel_rfl) [(0, (pt b2 0)), (1, .agg #[vi64 x40.f0, vi64 x40.f1, vi64 x40.f2, vi64 x40.f3, vu64 x40.f4, vu64 x40.f5, vu64 x40.f6, vu64 x40.f7, vu64 x40.f8, vu64 x40.f9, vi64 x40.f10, vu32 x40.f11, vi64 x40.f12, vi64 x40.f13.f0, vi64 x40.f13.f1, vu64 x40.f13.f2, vi64 x40.f13.f3, vi64 x40.f14.f0, vu64 x40.f14.f1, .slice p41 x40.f14.f2.length c42, .bool x40.f14.f3, vi64 x40.f14.f4, .slice p44 x40.f15.length c45, .slice p47 x40.f16.length c48, .slice p50 x40.f17.length c51])] (by kernel_rfl) fun a Qf hQ hQn hs => ?_
  refine c_seq ?_
  refine c_region ?_
  refine s_new hs hw [vi64 x40.f0, vi64 x40.f1, vi64 x40.f2, vi64 x40.f3, vu64 x40.f4, vu64 x40.f5, vu64 x40.f6, vu64 x40.f7, vu64 x40.f8, vu64 x40.f9, vi64 x40.f10, vu32 x40.f11, vi64 x40.f12, vi64 x40.f13.f0, vi64 x40.f13.f1, vu64 x40.f13.f2, vi64 x40.f13.f3, vi64 x40.f14.f0, vu64 x40.f14.f1, .slice p41 x40.f14.f2.length c42, .bool x40.f14.f3, vi64 x40.f14.f4, .slice p44 x40.f15.length c45, .slice p47 x40.f16.length c48, .slice p50 x40.f17.length c51] 48 (fun b => (pt b 0)) (by kernel_rfl) (fun _ => by kernel_rfl) fun a w b552 hs hw => ?_
  refine pures hs 1 [0, 3] [(0, (pt b2 0)), (3, (pt b552 0))] (by kernel_rfl) fun a hs => ?_
  refine s_end ?_
  refine c_seq ?_
  refine c_seq ?_
  obtain ⟨S554, hS554, kS554⟩ := mkSX (X := [([], bx b552 [vi64 x40.f0, vi64 x40.f1, vi64 x40.f2, vi64 x40.f3, vu64 x40.f4, vu64 x40.f5, vu64 x40.f6, vu64 x40.f7, vu64 x40.f8, vu64 x40.f9, vi64 x40.f10, vu32 x40.f11, vi64 x40.f12, vi64 x40.f13.f0, vi64 x40.f13.f1, vu64 x40.f13.f2, vi64 x40.f13.f3, vi64 x40.f14.f0, vu64 x40.f14.f1, .slice p41 x40.f14.f2.length c42, .bool x40.f14.f3, vi64 x40.f14.f4, .slice p44 x40.f15.length c45, .slice p47 x40.f16.length c48, .slice p50 x40.f17.length c51] 48), ([], bx b2 [vi64 x3, vi64 x4, vu64 x5, vi64 x6, (pt b8 0), vi64 x17, vu32 x18, vu64 x19, .slice p21 x20.length c22, vi64 x24, (pt b26 0), vu64 x33, vi64 x34, vu64 x35, .slice p37 x36.length c38] 85), ([], bx b8 [.slice p10 x9.length c11, x15] 113), ([], d13), ([], bx b26 [vu32 0, vi32 0, vu32 0, vu32 0, vi64 0, vu64 0, .slice p28 x27.length c29] 126), ([], d31), ([], F)]) (ih := ih) (K := []) rfl
  obtain ⟨y1044, hx1045, hk⟩ := bindE hk
  obtain ⟨J1046, hJ1046⟩ : ∃ J : Act → World → Prop, ∀ a w, J a w ↔ (∃ (x571 : Bool) (ih569 : IH), caller_Caller_Take_3_r18 k x33 x34 x35 x36 x9 x27 x40 x5 x18 x3 x17 x19 x20 x24 x571 = some r ∧ Sees a 115 [(0, (pt b2 0)), (3, (pt b552 0)), (20, .bool x571)] ∧ St g w [bx b552 [vi64 x40.f0, vi64 x40.f1, vi64 x40.f2, vi64 x40.f3, vu64 x40.f4, vu64 x40.f5, vu64 x40.f6, vu64 x40.f7, vu64 x40.f8, vu64 x40.f9, vi64 x40.f10, vu32 x40.f11, vi64 x40.f12, vi64 x40.f13.f0, vi64 x40.f13.f1, vu64 x40.f13.f2, vi64 x40.f13.f3, vi64 x40.f14.f0, vu64 x40.f14.f1, .slice p41 x40.f14.f2.length c42, .bool x40.f14.f3, vi64 x40.f14.f4, .slice p44 x40.f15.length c45, .slice p47 x40.f16.length c48, .slice p50 x40.f17.length c51] 48, bx b2 [vi64 x3, vi64 x4, vu64 x5, vi64 x6, (pt b8 0), vi64 x17, vu32 x18, vu64 x19, .slice p21 x20.length c22, vi64 x24, (pt b26 0), vu64 x33, vi64 x34, vu64 x35, .slice p37 x36.length c38] 85, bx b8 [.slice p10 x9.length c11, x15] 113, bx b26 [vu32 0, vi32 0, vu32 0, vu32 0, vi64 0, vu64 0, .slice p28 x27.length c29] 126, d13, d31, F] ih569 ∧ Le ih ih569) := ⟨_, fun _ _ => Iff.rfl⟩
  refine c_draw (by kernel_rfl) (N := 14) rfl S554 J1046 ?_ ?_
  · have hw := hw.drew
    have hS : S554 (Array.replicate 14 false) _ := SX_now hS554 (hw.vws [0, 1, 2, 3, 4, 5, 6]) (by kernel_rfl)
    refine d_pures (fuel := 11) kS554 hs hS [0, 1, 2] [0, 3, 9] [(0, (pt b2 0)), (3, (pt b552 0)), (9, .bool false)] (by kernel_rfl) fun a hs hS => ?_
    refine d_load (fuel := 10) kS554 hs hS 3 rfl (by kernel_rfl) (SX_box hS554 0 rfl (by kernel_rfl)) 0 (by kernel_rfl) (by kernel_rfl) (v := .agg #[vi64 x40.f0, vi64 x40.f1, vi64 x40.f2, vi64 x40.f3, vu64 x40.f4, vu64 x40.f5, vu64 x40.f6, vu64 x40.f7, vu64 x40.f8, vu64 x40.f9, vi64 x40.f10, vu32 x40.f11, vi64 x40.f12, vi64 x40.f13.f0, vi64 x40.f13.f1, vu64 x40.f13.f2, vi64 x40.f13.f3, vi64 x40.f14.f0, vu64 x40.f14.f1, .slice p41 x40.f14.f2.length c42, .bool x40.f14.f3, vi64 x40.f14.f4, .slice p44 x40.f15.length c45, .slice p47 x40.f16.length c48, .slice p50 x40.f17.length c51]) (by kernel_rfl) fun a hs hS => ?_
    refine d_all (fuel := 9) (rs := [4]) (by kernel_rfl) (by simp) (all1 ?_)
    obtain ⟨y1047, h1048, hx1045⟩ := bindE hx1045
    refine o_call hs rfl (by kernel_rfl) (by kernel_rfl) (letter_Check_s h1048 h43 h46 h49 h52 (hG.mono (Le.refl _)) ((hw.pick [0, 1, 2, 3, 4, 5, 6] (by kernel_rfl)).pack 0)) fun a w v hv hs => ?_
    obtain ⟨ih1049, rfl, hw, hle1050⟩ := hv
    replace hw := hw.unpack 0 rfl
    refine dg_next (SX_now hS554 ((hw.vws [0, 1, 2, 3, 4, 5, 6]).anti hle1050) (by kernel_rfl)) fun hS => ?_
    refine d_pures (fuel := 6) kS554 hs hS [5, 6, 7] [0, 3, 14] [(0, (pt b2 0)), (3, (pt b552 0)), (14, .bool (y1047 != 0))] (by kernel_rfl) fun a hs hS => ?_
    rcases ifbE hx1045 with ⟨h1051, hx1045⟩ | ⟨h1051, hx1045⟩
    · replace hs := hs.altB 14 true (by kernel_rfl) h1051
      refine d_pures (fuel := 0) kS554 hs hS [8, 9, 10, 11, 12, 13] [0, 3, 20] [(0, (pt b2 0)), (3, (pt b552 0)), (20, .bool true)] (by kernel_rfl) fun a hs hS => ?_
      refine d_done (by kernel_rfl) ?_
      obtain rfl := someE hx1045
      exact (hJ1046 _ _).2 ⟨true, ih1049, hk, hs.cast [0, 3, 20] (by kernel_rfl), hw.pick [0, 1, 2, 4, 3, 5, 6] (by kernel_rfl), hle1050⟩
    replace hs := hs.altB 14 false (by kernel_rfl) h1051
    refine d_pures (fuel := 5) kS554 hs hS [8] [0, 3, 14, 15] [(0, (pt b2 0)), (3, (pt b552 0)), (14, .bool false), (15, (pt b552 2))] (by kernel_rfl) fun a hs hS => ?_
    refine d_load (fuel := 4) kS554 hs hS 9 rfl (by kernel_rfl) (SX_box hS554 0 rfl (by kernel_rfl)) 2 (by kernel_rfl) (by kernel_rfl) (v := vi64 x40.f2) (by kernel_rfl) fun a hs hS => ?_
    refine d_pures (fuel := 3) kS554 hs hS [10] [0, 3, 14, 16, 17] [(0, (pt b2 0)), (3, (pt b552 0)), (14, .bool false), (16, vi64 x40.f2), (17, (pt b2 0))] (by kernel_rfl) fun a hs hS => ?_
    refine d_all (fuel := 2) (rs := [11]) (by kernel_rfl) (by simp) (all1 ?_)
    obtain ⟨y1052, h1053, hx1045⟩ := bindE hx1045
    refine o_call hs rfl (by kernel_rfl) (by kernel_rfl) (caller_Caller_Address_s (x4 := x4) (x5 := x5) (x6 := x6) (x9 := x9) (x15 := (x15)) (x17 := x17) (x18 := x18) (x19 := x19) (x20 := x20) (x24 := x24) (x25 := (pt b26 0)) (x27 := x33) (x28 := x34) (x29 := x35) (x30 := x36) h1053 (h12.mono hle1050) h16 (h23.mono hle1050) rfl (h39.mono hle1050) ((hw.pick [1, 2, 3, 0, 4, 5, 6] (by kernel_rfl)).pack 3)) fun a w v hv hs => ?_
    obtain ⟨rfl, hw⟩ := hv
    replace hw := hw.unpack 3 rfl
    refine dg_next (SX_now hS554 ((hw.vws [3, 0, 1, 2, 4, 5, 6]).anti hle1050) (by kernel_rfl)) fun hS => ?_
    refine d_pures (fuel := 0) kS554 hs hS [12, 13] [0, 3, 20] [(0, (pt b2 0)), (3, (pt b552 0)), (20, .bool (x40.f2 != y1052))] (by kernel_rfl) fun a hs hS => ?_
    refine d_done (by kernel_rfl) ?_
    obtain rfl := someE hx1045
    exact (hJ1046 _ _).2 ⟨(x40.f2 != y1052), ih1049, hk, hs.cast [0, 3, 20] (by kernel_rfl), hw.pick [3, 0, 1, 4, 2, 5, 6] (by kernel_rfl), hle1050⟩
  intro a w hh
  obtain ⟨x571, ih569, hk, hs, hw, hle570⟩ := (hJ1046 _ _).1 hh
  rcases ifbE hk with ⟨h572, hk⟩ | ⟨h572, hk⟩
  · refine c_cond1 hs (by kernel_rfl) (t := x571) (by kernel_rfl) h572 ?_
    refine c_seq ?_
    refine c_region ?_
    refine pures hs 1 [4] [(4, .slice none 0 0)] (by kernel_rfl) fun a hs => ?_
    refine s_end ?_
    refine c_ret ?_
    replace hw := hw.nil
    obtain ⟨ih575, hle576, hw, h577⟩ := (hw.pick [6, 0, 1, 2, 3, 4, 5, 7] (by kernel_rfl)).fz (h30.mono hle570)
    obtain rfl := someE hk
    refine hQ _ _ (f_ret1 hs rfl (v := .slice none 0 0) (by kernel_rfl) ⟨ih575, none, 0, ([]), p37, c38, p10, c11, d13, p28, c29, rfl, hw.pick [0, 2, 3, 5, 4, 6] (by kernel_rfl), (hle570.trans hle576), ((OSl.nil _ _).mono hle576), (h39.mono (hle570.trans hle576)), (h12.mono (hle570.trans hle576)), h577⟩)
  refine c_cond0 hs (by kernel_rfl) (t := x571) (by kernel_rfl) h572 ?_
  refine c_skip ?_
  refine c_seq ?_
  refine c_region ?_
  refine pures hs 4 [0, 3, 24] [(0, (pt b2 0)), (3, (pt b552 0)), (24, (pt b2 5))] (by kernel_rfl) fun a hs => ?_
  refine s_load hs (hw.at_ 1 rfl) 5 (by kernel_rfl) (by kernel_rfl) (v := vi64 x17) (by kernel_rfl) fun a hs => ?_
  refine pures hs 2 [0, 3, 5] [(0, (pt b2 0)), (3, (pt b552 0)), (5, .bool (x17 == 1))] (by kernel_rfl) fun a hs => ?_
  refine s_end ?_
  refine c_seq ?_
  obtain ⟨S578, hS578, kS578⟩ := mkSX (X := [([], bx b552 [vi64 x40.f0, vi64 x40.f1, vi64 x40.f2, vi64 x40.f3, vu64 x40.f4, vu64 x40.f5, vu64 x40.f6, vu64 x40.f7, vu64 x40.f8, vu64 x40.f9, vi64 x40.f10, vu32 x40.f11, vi64 x40.f12, vi64 x40.f13.f0, vi64 x40.f13.f1, vu64 x40.f13.f2, vi64 x40.f13.f3, vi64 x40.f14.f0, vu64 x40.f14.f1, .slice p41 x40.f14.f2.length c42, .bool x40.f14.f3, vi64 x40.f14.f4, .slice p44 x40.f15.length c45, .slice p47 x40.f16.length c48, .slice p50 x40.f17.length c51] 48), ([], bx b2 [vi64 x3, vi64 x4, vu64 x5, vi64 x6, (pt b8 0), vi64 x17, vu32 x18, vu64 x19, .slice p21 x20.length c22, vi64 x24, (pt b26 0), vu64 x33, vi64 x34, vu64 x35, .slice p37 x36.length c38] 85), ([], bx b8 [.slice p10 x9.length c11, x15] 113), ([], bx b26 [vu32 0, vi32 0, vu32 0, vu32 0, vi64 0, vu64 0, .slice p28 x27.length c29] 126), ([], d13), ([], d31), ([], F)]) (ih := ih569) (K := []) rfl
  obtain ⟨y1034, hx1035, hk⟩ := bindE hk
  obtain ⟨J1036, hJ1036⟩ : ∃ J : Act → World → Prop, ∀ a w, J a w ↔ (∃ (x591 : Bool), caller_Caller_Take_3_r17 k x40 x9 x18 x3 x5 x17 x19 x20 x24 x33 x34 x35 x36 x27 x591 = some r ∧ Sees a 115 [(0, (pt b2 0)), (3, (pt b552 0)), (5, .bool (x17 == 1)), (6, .bool x591)] ∧ St g w [bx b552 [vi64 x40.f0, vi64 x40.f1, vi64 x40.f2, vi64 x40.f3, vu64 x40.f4, vu64 x40.f5, vu64 x40.f6, vu64 x40.f7, vu64 x40.f8, vu64 x40.f9, vi64 x40.f10, vu32 x40.f11, vi64 x40.f12, vi64 x40.f13.f0, vi64 x40.f13.f1, vu64 x40.f13.f2, vi64 x40.f13.f3, vi64 x40.f14.f0, vu64 x40.f14.f1, .slice p41 x40.f14.f2.length c42, .bool x40.f14.f3, vi64 x40.f14.f4, .slice p44 x40.f15.length c45, .slice p47 x40.f16.length c48, .slice p50 x40.f17.length c51] 48, bx b2 [vi64 x3, vi64 x4, vu64 x5, vi64 x6, (pt b8 0), vi64 x17, vu32 x18, vu64 x19, .slice p21 x20.length c22, vi64 x24, (pt b26 0), vu64 x33, vi64 x34, vu64 x35, .slice p37 x36.length c38] 85, bx b8 [.slice p10 x9.length c11, x15] 113, bx b26 [vu32 0, vi32 0, vu32 0, vu32 0, vi64 0, vu64 0, .slice p28 x27.length c29] 126, d13, d31, F] ih569) := ⟨_, fun _ _ => Iff.rfl⟩
  refine c_draw (by kernel_rfl) (N := 17) rfl S578 J1036 ?_ ?_
  · have hw := hw.drew
    have hS : S578 (Array.replicate 17 false) _ := SX_now hS578 (hw.vws [0, 1, 2, 3, 4, 5, 6]) (by kernel_rfl)
    refine d_pures (fuel := 16) kS578 hs hS [0] [0, 3, 5, 27] [(0, (pt b2 0)), (3, (pt b552 0)), (5, .bool (x17 == 1)), (27, (pt b552 1))] (by kernel_rfl) fun a hs hS => ?_
    refine d_load (fuel := 15) kS578 hs hS 1 rfl (by kernel_rfl) (SX_box hS578 0 rfl (by kernel_rfl)) 1 (by kernel_rfl) (by kernel_rfl) (v := vi64 x40.f1) (by kernel_rfl) fun a hs hS => ?_
    refine d_all (fuel := 14) (rs := [2]) (by kernel_rfl) (by simp) (all1 ?_)
    obtain ⟨y1037, h1038, hx1035⟩ := bindE hx1035
    refine o_call hs rfl (by kernel_rfl) (by kernel_rfl) (letter_Node_s h1038 ((hw.pick [0, 1, 2, 3, 4, 5, 6] (by kernel_rfl)).pack 0)) fun a w v hv hs => ?_
    obtain ⟨rfl, hw⟩ := hv
    replace hw := hw.unpack 0 rfl
    refine dg_next (SX_now hS578 ((hw.vws [0, 1, 2, 3, 4, 5, 6]).anti (Le.refl _)) (by kernel_rfl)) fun hS => ?_
    refine d_pures (fuel := 13) kS578 hs hS [3] [0, 3, 5, 30] [(0, (pt b2 0)), (3, (pt b552 0)), (5, .bool (x17 == 1)), (30, .bool y1037)] (by kernel_rfl) fun a hs hS => ?_
    rcases ifbE hx1035 with ⟨h1039, hx1035⟩ | ⟨h1039, hx1035⟩
    · replace hs := hs.altB 30 true (by kernel_rfl) h1039
      refine d_pures (fuel := 12) kS578 hs hS [4] [0, 3, 5, 30, 31] [(0, (pt b2 0)), (3, (pt b552 0)), (5, .bool (x17 == 1)), (30, .bool true), (31, (pt b552 6))] (by kernel_rfl) fun a hs hS => ?_
      refine d_load (fuel := 11) kS578 hs hS 5 rfl (by kernel_rfl) (SX_box hS578 0 rfl (by kernel_rfl)) 6 (by kernel_rfl) (by kernel_rfl) (v := vu64 x40.f6) (by kernel_rfl) fun a hs hS => ?_
      refine d_pures (fuel := 8) kS578 hs hS [6, 7, 8] [0, 3, 5, 30, 32, 35] [(0, (pt b2 0)), (3, (pt b552 0)), (5, .bool (x17 == 1)), (30, .bool true), (32, vu64 x40.f6), (35, (pt b2 2))] (by kernel_rfl) fun a hs hS => ?_
      refine d_load (fuel := 7) kS578 hs hS 9 rfl (by kernel_rfl) (SX_box hS578 1 rfl (by kernel_rfl)) 2 (by kernel_rfl) (by kernel_rfl) (v := vu64 x5) (by kernel_rfl) fun a hs hS => ?_
      refine d_pures (fuel := 4) kS578 hs hS [10, 11, 12] [0, 3, 5, 39] [(0, (pt b2 0)), (3, (pt b552 0)), (5, .bool (x17 == 1)), (39, .bool (x40.f6 == x5))] (by kernel_rfl) fun a hs hS => ?_
      rcases ifbE hx1035 with ⟨h1040, hx1035⟩ | ⟨h1040, hx1035⟩
      · replace hs := hs.altB 39 true (by kernel_rfl) h1040
        refine d_pures (fuel := 3) kS578 hs hS [13] [0, 3, 5, 39, 40] [(0, (pt b2 0)), (3, (pt b552 0)), (5, .bool (x17 == 1)), (39, .bool true), (40, (pt b2 0))] (by kernel_rfl) fun a hs hS => ?_
        refine d_all (fuel := 2) (rs := [14]) (by kernel_rfl) (by simp) (all1 ?_)
        have h1042 : caller_Caller_Busy_4 = some () := rfl
        refine o_call hs rfl (by kernel_rfl) (by kernel_rfl) (caller_Caller_Busy_4_s (x3 := x3) (x4 := x4) (x5 := x5) (x6 := x6) (x9 := x9) (x15 := (x15)) (x17 := x17) (x18 := x18) (x19 := x19) (x20 := x20) (x24 := x24) (x27 := x27) (x33 := x33) (x34 := x34) (x35 := x35) (x36 := x36) h1042 (h12.mono hle570) h16 (h23.mono hle570) (h30.mono hle570) (h39.mono hle570) ((hw.pick [1, 2, 4, 3, 5, 0, 6] (by kernel_rfl)).pack 5)) fun a w v hv hs => ?_
        obtain ⟨rfl, hw⟩ := hv
        replace hw := hw.unpack 5 rfl
        refine dg_next (SX_now hS578 ((hw.vws [5, 0, 1, 3, 2, 4, 6]).anti (Le.refl _)) (by kernel_rfl)) fun hS => ?_
        refine d_pures (fuel := 0) kS578 hs hS [15, 16] [0, 3, 5, 6] [(0, (pt b2 0)), (3, (pt b552 0)), (5, .bool (x17 == 1)), (6, .bool true)] (by kernel_rfl) fun a hs hS => ?_
        refine d_done (by kernel_rfl) ?_
        obtain rfl := someE hx1035
        exact (hJ1036 _ _).2 ⟨true, hk, hs.cast [0, 3, 5, 6] (by kernel_rfl), hw.pick [5, 0, 1, 3, 2, 4, 6] (by kernel_rfl)⟩
      replace hs := hs.altB 39 false (by kernel_rfl) h1040
      refine d_pures (fuel := 0) kS578 hs hS [13, 14, 15, 16] [0, 3, 5, 6] [(0, (pt b2 0)), (3, (pt b552 0)), (5, .bool (x17 == 1)), (6, .bool false)] (by kernel_rfl) fun a hs hS => ?_
      refine d_done (by kernel_rfl) ?_
      obtain rfl := someE hx1035
      exact (hJ1036 _ _).2 ⟨false, hk, hs.cast [0, 3, 5, 6] (by kernel_rfl), hw.pick [0, 1, 2, 3, 4, 5, 6] (by kernel_rfl)⟩
    replace hs := hs.altB 30 false (by kernel_rfl) h1039
    refine d_pures (fuel := 0) kS578 hs hS [4, 5, 6, 7, 8, 9, 10, 11, 12, 13, 14, 15, 16] [0, 3, 5, 6] [(0, (pt b2 0)), (3, (pt b552 0)), (5, .bool (x17 == 1)), (6, .bool false)] (by kernel_rfl) fun a hs hS => ?_
    refine d_done (by kernel_rfl) ?_
    obtain rfl := someE hx1035
    exact (hJ1036 _ _).2 ⟨false, hk, hs.cast [0, 3, 5, 6] (by kernel_rfl), hw.pick [0, 1, 2, 3, 4, 5, 6] (by kernel_rfl)⟩
  intro a w hh
  obtain ⟨x591, hk, hs, hw⟩ := (hJ1036 _ _).1 hh
  obtain ⟨y816, hx817, hk⟩ := bindE hk
  obtain ⟨J818, hJ818⟩ : ∃ J : Act → World → Prop, ∀ a w, J a w ↔ (∃ (x793 : Int) (x794 : Int) (x795 : Int) (x796 : List Int) (x800 : List M44) (x806 : Int) (x807 : Int) (x808 : Int) (x809 : Int) (x810 : List Int) (p797 : Option Addr) (c798 : Nat) (p801 : Option Addr) (c802 : Nat) (d804 : Ch) (p811 : Option Addr) (c812 : Nat) (ih791 : IH), caller_Caller_Take_3_r13 x793 x794 x795 x796 x800 x806 x807 x808 x809 x810 = some r ∧ Sees a 115 [] ∧ St g w [bx b2 [vi64 x3, vi64 x4, vu64 x5, vi64 x6, (pt b8 0), vi64 x17, vu32 x18, vu64 x19, .slice p21 x20.length c22, vi64 x24, (pt b26 0), vu64 x793, vi64 x794, vu64 x795, .slice p797 x796.length c798] 85, bx b8 [.slice p801 x800.length c802, x15] 113, bx b26 [vu32 x806, vi32 0, vu32 0, vu32 x807, vi64 x808, vu64 x809, .slice p811 x810.length c812] 126, d804, F] ih791 ∧ Le ih569 ih791 ∧ RSl e5 ih791 [] p797 c798 x796 ∧ OSl e44 ih791 p801 c802 x800 d804 ∧ RSl e5 ih791 [] p811 c812 x810) := ⟨_, fun _ _ => Iff.rfl⟩
  refine c_seqJ J818 ?_ ?_
  · refine c_seq ?_
    refine c_region ?_
    refine pures hs 1 [0, 3, 5, 6, 43] [(0, (pt b2 0)), (3, (pt b552 0)), (5, .bool (x17 == 1)), (6, .bool x591), (43, (pt b552 0))] (by kernel_rfl) fun a hs => ?_
    refine s_load hs (hw.at_ 0 rfl) 0 (by kernel_rfl) (by kernel_rfl) (v := vi64 x40.f0) (by kernel_rfl) fun a hs => ?_
    refine s_end ?_
    refine c_block ?_
    refine c_seq ?_
    refine c_region ?_
    refine pures hs 2 [0, 3, 5, 6, 44, 45] [(0, (pt b2 0)), (3, (pt b552 0)), (5, .bool (x17 == 1)), (6, .bool x591), (44, vi64 x40.f0), (45, .bool (x40.f0 == 11))] (by kernel_rfl) fun a hs => ?_
    refine s_end ?_
    rcases ifbE hx817 with ⟨h819, hx817⟩ | ⟨h819, hx817⟩
    · refine c_cond1 hs (by kernel_rfl) (t := (x40.f0 == 11)) (by kernel_rfl) h819 ?_
      refine c_seq ?_
      obtain ⟨S820, hS820, kS820⟩ := mkSX (X := [([], bx b552 [vi64 x40.f0, vi64 x40.f1, vi64 x40.f2, vi64 x40.f3, vu64 x40.f4, vu64 x40.f5, vu64 x40.f6, vu64 x40.f7, vu64 x40.f8, vu64 x40.f9, vi64 x40.f10, vu32 x40.f11, vi64 x40.f12, vi64 x40.f13.f0, vi64 x40.f13.f1, vu64 x40.f13.f2, vi64 x40.f13.f3, vi64 x40.f14.f0, vu64 x40.f14.f1, .slice p41 x40.f14.f2.length c42, .bool x40.f14.f3, vi64 x40.f14.f4, .slice p44 x40.f15.length c45, .slice p47 x40.f16.length c48, .slice p50 x40.f17.length c51] 48), ([], bx b2 [vi64 x3, vi64 x4, vu64 x5, vi64 x6, (pt b8 0), vi64 x17, vu32 x18, vu64 x19, .slice p21 x20.length c22, vi64 x24, (pt b26 0), vu64 x33, vi64 x34, vu64 x35, .slice p37 x36.length c38] 85), ([6], bx b8 [.slice p10 x9.length c11, x15] 113), ([], bx b26 [vu32 0, vi32 0, vu32 0, vu32 0, vi64 0, vu64 0, .slice p28 x27.length c29] 126), ([6], d13), ([], d31), ([], F)]) (ih := ih569) (K := [6, 6]) rfl
      obtain ⟨y891, hx892, hx817⟩ := bindE hx817
      obtain ⟨J893, hJ893⟩ : ∃ J : Act → World → Prop, ∀ a w, J a w ↔ (∃ (x859 : Bool) (x860 : List M44) (p861 : Option Addr) (c862 : Nat) (d864 : Ch) (ih857 : IH), caller_Caller_Take_3_r14 k x3 x5 x17 x18 x19 x20 x24 x33 x34 x35 x36 x27 x859 x860 = some y816 ∧ Sees a 115 [(0, (pt b2 0)), (74, .bool x859)] ∧ St g w [bx b2 [vi64 x3, vi64 x4, vu64 x5, vi64 x6, (pt b8 0), vi64 x17, vu32 x18, vu64 x19, .slice p21 x20.length c22, vi64 x24, (pt b26 0), vu64 x33, vi64 x34, vu64 x35, .slice p37 x36.length c38] 85, bx b8 [.slice p861 x860.length c862, x15] 113, bx b26 [vu32 0, vi32 0, vu32 0, vu32 0, vi64 0, vu64 0, .slice p28 x27.length c29] 126, d864, d31, F] ih857 ∧ Le ih569 ih857 ∧ OSl e44 ih857 p861 c862 x860 d864) := ⟨_, fun _ _ => Iff.rfl⟩
      refine c_draw (by kernel_rfl) (N := 28) rfl S820 J893 ?_ ?_
      · have hw := hw.drew
        have hS : S820 (Array.replicate 28 false) _ := SX_now hS820 (hw.vws [0, 1, 2, 3, 4, 5, 6]) (by kernel_rfl)
        refine d_pures (fuel := 25) kS820 hs hS [0, 1, 2] [0, 3, 49] [(0, (pt b2 0)), (3, (pt b552 0)), (49, (pt b2 4))] (by kernel_rfl) fun a hs hS => ?_
        refine d_load (fuel := 24) kS820 hs hS 3 rfl (by kernel_rfl) (SX_box hS820 1 rfl (by kernel_rfl)) 4 (by kernel_rfl) (by kernel_rfl) (v := (pt b8 0)) (by kernel_rfl) fun a hs hS => ?_
        refine d_pures (fuel := 23) kS820 hs hS [4] [0, 3, 50, 51] [(0, (pt b2 0)), (3, (pt b552 0)), (50, (pt b8 0)), (51, (pt b552 17))] (by kernel_rfl) fun a hs hS => ?_
        refine d_load (fuel := 22) kS820 hs hS 5 rfl (by kernel_rfl) (SX_box hS820 0 rfl (by kernel_rfl)) 17 (by kernel_rfl) (by kernel_rfl) (v := .agg #[vi64 x40.f14.f0, vu64 x40.f14.f1, .slice p41 x40.f14.f2.length c42, .bool x40.f14.f3, vi64 x40.f14.f4]) (by kernel_rfl) fun a hs hS => ?_
        refine d_all (fuel := 21) (rs := [6]) (by kernel_rfl) (by simp) (all1 ?_)
        obtain ⟨y894, h895, hx892⟩ := bindE hx892
        refine o_call hs rfl (by kernel_rfl) (by kernel_rfl) (atlas_Atlas_Learn_s (x9 := (x15)) h895 (h12.mono hle570) h16 (h43.mono hle570) ((hw.pick [2, 4, 0, 1, 3, 5, 6] (by kernel_rfl)).pack 2)) fun a w v hv hs => ?_
        obtain ⟨ih896, p898, c899, d901, rfl, hw, hle897, h900⟩ := hv
        replace hw := hw.unpack 2 rfl
        refine dg_next (SX_now hS820 ((hw.vws [2, 3, 4, 5, 6]).anti hle897) (by kernel_rfl)) fun hS => ?_
        refine d_pures (fuel := 20) kS820 hs hS [7] [0, 3, 54] [(0, (pt b2 0)), (3, (pt b552 0)), (54, .bool y894.1)] (by kernel_rfl) fun a hs hS => ?_
        rcases ifbE hx892 with ⟨h902, hx892⟩ | ⟨h902, hx892⟩
        · replace hs := hs.altB 54 true (by kernel_rfl) h902
          refine d_pures (fuel := 19) kS820 hs hS [8] [0, 3, 54, 55] [(0, (pt b2 0)), (3, (pt b552 0)), (54, .bool true), (55, (pt b2 0))] (by kernel_rfl) fun a hs hS => ?_
          refine d_all (fuel := 18) (rs := [9]) (by kernel_rfl) (by simp) (all1 ?_)
          have h904 : caller_Caller_Busy_4 = some () := rfl
          refine o_call hs rfl (by kernel_rfl) (by kernel_rfl) (caller_Caller_Busy_4_s (x3 := x3) (x4 := x4) (x5 := x5) (x6 := x6) (x9 := y894.2) (x15 := (x15)) (x17 := x17) (x18 := x18) (x19 := x19) (x20 := x20) (x24 := x24) (x27 := x27) (x33 := x33) (x34 := x34) (x35 := x35) (x36 := x36) h904 h900 h16 (h23.mono (hle570.trans hle897)) (h30.mono (hle570.trans hle897)) (h39.mono (hle570.trans hle897)) ((hw.pick [3, 0, 1, 4, 5, 2, 6] (by kernel_rfl)).pack 5)) fun a w v hv hs => ?_
          obtain ⟨rfl, hw⟩ := hv
          replace hw := hw.unpack 5 rfl
          refine dg_next (SX_now hS820 ((hw.vws [5, 0, 3, 4, 6]).anti hle897) (by kernel_rfl)) fun hS => ?_
          refine d_pures (fuel := 13) kS820 hs hS [10, 11, 12, 13, 14] [0, 3, 58, 61] [(0, (pt b2 0)), (3, (pt b552 0)), (58, .bool true), (61, (pt b2 4))] (by kernel_rfl) fun a hs hS => ?_
          refine d_load (fuel := 12) kS820 hs hS 15 rfl (by kernel_rfl) (SX_box hS820 1 rfl (by kernel_rfl)) 4 (by kernel_rfl) (by kernel_rfl) (v := (pt b8 0)) (by kernel_rfl) fun a hs hS => ?_
          refine d_pures (fuel := 8) kS820 hs hS [16, 17, 18, 19] [0, 3, 58, 62, 66] [(0, (pt b2 0)), (3, (pt b552 0)), (58, .bool true), (62, (pt b8 0)), (66, (pt b2 6))] (by kernel_rfl) fun a hs hS => ?_
          refine d_load (fuel := 7) kS820 hs hS 20 rfl (by kernel_rfl) (SX_box hS820 1 rfl (by kernel_rfl)) 6 (by kernel_rfl) (by kernel_rfl) (v := vu32 x18) (by kernel_rfl) fun a hs hS => ?_
          refine d_pures (fuel := 5) kS820 hs hS [23, 24] [0, 58, 62, 67, 71] [(0, (pt b2 0)), (58, .bool true), (62, (pt b8 0)), (67, vu32 x18), (71, (pt b552 17))] (by kernel_rfl) fun a hs hS => ?_
          refine d_load (fuel := 4) kS820 hs hS 25 rfl (by kernel_rfl) (SX_box hS820 0 rfl (by kernel_rfl)) 17 (by kernel_rfl) (by kernel_rfl) (v := vi64 x40.f14.f0) (by kernel_rfl) fun a hs hS => ?_
          refine d_all (fuel := 3) (rs := [21]) (by kernel_rfl) (by simp) (all1 ?_)
          obtain ⟨y905, h906, hx892⟩ := bindE hx892
          refine o_call hs rfl (by kernel_rfl) (by kernel_rfl) (atlas_Atlas_Of_s (x9 := (x15)) h906 h900 h16 ((hw.pick [1, 2, 0, 3, 4, 5, 6] (by kernel_rfl)).pack 2)) fun a w v hv hs => ?_
          obtain ⟨ih907, p909, c910, rfl, hw, hle908, h911⟩ := hv
          replace hw := hw.unpack 2 rfl
          refine dg_next (SX_now hS820 ((hw.vws [5, 2, 3, 4, 6]).anti (hle897.trans hle908)) (by kernel_rfl)) fun hS => ?_
          refine d_pures (fuel := 0) kS820 hs hS [22, 26, 27] [0, 74] [(0, (pt b2 0)), (74, .bool (y905.f0 == x40.f14.f0))] (by kernel_rfl) fun a hs hS => ?_
          refine d_done (by kernel_rfl) ?_
          obtain rfl := someE hx892
          exact (hJ893 _ _).2 ⟨(y905.f0 == x40.f14.f0), y894.2, p898, c899, d901, ih907, hx817, hs.cast [0, 74] (by kernel_rfl), hw.pick [2, 0, 3, 1, 4, 6] (by kernel_rfl), (hle897.trans hle908), (h900.mono hle908)⟩
        replace hs := hs.altB 54 false (by kernel_rfl) h902
        refine d_pures (fuel := 0) kS820 hs hS [8, 9, 10, 11, 12, 13, 14, 15, 16, 17, 18, 19, 20, 21, 22, 23, 24, 25, 26, 27] [0, 74] [(0, (pt b2 0)), (74, .bool false)] (by kernel_rfl) fun a hs hS => ?_
        refine d_done (by kernel_rfl) ?_
        obtain rfl := someE hx892
        exact (hJ893 _ _).2 ⟨false, y894.2, p898, c899, d901, ih896, hx817, hs.cast [0, 74] (by kernel_rfl), hw.pick [3, 0, 4, 1, 5, 6] (by kernel_rfl), hle897, h900⟩
      intro a w hh
      obtain ⟨x859, x860, p861, c862, d864, ih857, hx817, hs, hw, hle858, h863⟩ := (hJ893 _ _).1 hh
      rcases ifbE hx817 with ⟨h866, hx817⟩ | ⟨h866, hx817⟩
      · refine c_cond1 hs (by kernel_rfl) (t := x859) (by kernel_rfl) h866 ?_
        refine c_seq ?_
        refine c_region ?_
        refine pures hs 1 [75] [(75, (pt b2 0))] (by kernel_rfl) fun a hs => ?_
        obtain ⟨y876, h877, hx817⟩ := bindE hx817
        refine s_call hs (by kernel_rfl) (by kernel_rfl) (caller_Caller_ask_s (x4 := x4) (x6 := x6) (x15 := (x15)) (x25 := (pt b26 0)) (x27 := x33) (x28 := x34) (x29 := x35) (x30 := x36) h877 h863 h16 (h23.mono (hle570.trans hle858)) rfl (h39.mono (hle570.trans hle858)) (hG.mono (hle570.trans hle858)) ((hw.pick [0, 1, 3, 2, 4, 5] (by kernel_rfl)).pack 3)) fun a w v hv hs => ?_
        obtain ⟨ih878, p880, c881, d883, rfl, hw, hle879, h882⟩ := hv
        replace hw := hw.unpack 4 rfl
        refine pures hs 1 [4] [(4, .slice p880 y876.length c881)] (by kernel_rfl) fun a hs => ?_
        refine s_end ?_
        refine c_ret ?_
        obtain ⟨ih885, hle886, hw, h887⟩ := (hw.pick [5, 0, 1, 2, 3, 4, 6] (by kernel_rfl)).fz (h30.mono ((hle570.trans hle858).trans hle879))
        obtain rfl := someE hx817
        obtain rfl := someE hk
        refine hQ _ _ (f_ret1 hs rfl (v := .slice p880 y876.length c881) (by kernel_rfl) ⟨ih885, p880, c881, d883, p37, c38, p861, c862, d864, p28, c29, rfl, hw.pick [0, 1, 2, 3, 4, 5] (by kernel_rfl), (((hle570.trans hle858).trans hle879).trans hle886), (h882.mono hle886), (h39.mono (((hle570.trans hle858).trans hle879).trans hle886)), (h863.mono (hle879.trans hle886)), h887⟩)
      refine c_cond0 hs (by kernel_rfl) (t := x859) (by kernel_rfl) h866 ?_
      refine c_skip ?_
      obtain rfl := someE hx817
      obtain ⟨ih888, hle889, hw, h890⟩ := (hw.pick [4, 0, 1, 2, 3, 5] (by kernel_rfl)).fz (h30.mono (hle570.trans hle858))
      exact (hJ818 _ _).2 ⟨x33, x34, x35, x36, x860, 0, 0, 0, 0, x27, p37, c38, p861, c862, d864, p28, c29, ih888, hk, hs.cast [] (by kernel_rfl), hw.pick [0, 1, 2, 3, 4] (by kernel_rfl), (hle858.trans hle889), (h39.mono ((hle570.trans hle858).trans hle889)), (h863.mono hle889), h890⟩
    refine c_cond0 hs (by kernel_rfl) (t := (x40.f0 == 11)) (by kernel_rfl) h819 ?_
    refine c_seq ?_
    refine c_region ?_
    refine pures hs 2 [0, 3, 5, 6, 44, 77] [(0, (pt b2 0)), (3, (pt b552 0)), (5, .bool (x17 == 1)), (6, .bool x591), (44, vi64 x40.f0), (77, .bool (x40.f0 == 18))] (by kernel_rfl) fun a hs => ?_
    refine s_end ?_
    rcases ifbE hx817 with ⟨h913, hx817⟩ | ⟨h913, hx817⟩
    · refine c_cond1 hs (by kernel_rfl) (t := (x40.f0 == 18)) (by kernel_rfl) h913 ?_
      refine c_seq ?_
      obtain ⟨J917, hJ917⟩ : ∃ J : Act → World → Prop, ∀ a w, J a w ↔ (Sees a 115 [(0, (pt b2 0)), (3, (pt b552 0)), (83, .bool (x591 && (!(x17 == 1))))] ∧ St g w [bx b552 [vi64 x40.f0, vi64 x40.f1, vi64 x40.f2, vi64 x40.f3, vu64 x40.f4, vu64 x40.f5, vu64 x40.f6, vu64 x40.f7, vu64 x40.f8, vu64 x40.f9, vi64 x40.f10, vu32 x40.f11, vi64 x40.f12, vi64 x40.f13.f0, vi64 x40.f13.f1, vu64 x40.f13.f2, vi64 x40.f13.f3, vi64 x40.f14.f0, vu64 x40.f14.f1, .slice p41 x40.f14.f2.length c42, .bool x40.f14.f3, vi64 x40.f14.f4, .slice p44 x40.f15.length c45, .slice p47 x40.f16.length c48, .slice p50 x40.f17.length c51] 48, bx b2 [vi64 x3, vi64 x4, vu64 x5, vi64 x6, (pt b8 0), vi64 x17, vu32 x18, vu64 x19, .slice p21 x20.length c22, vi64 x24, (pt b26 0), vu64 x33, vi64 x34, vu64 x35, .slice p37 x36.length c38] 85, bx b8 [.slice p10 x9.length c11, x15] 113, bx b26 [vu32 0, vi32 0, vu32 0, vu32 0, vi64 0, vu64 0, .slice p28 x27.length c29] 126, d13, d31, F] ih569) := ⟨_, fun _ _ => Iff.rfl⟩
      refine c_regJ J917 ?_ ?_
      · refine pures hs 2 [0, 3, 5, 80] [(0, (pt b2 0)), (3, (pt b552 0)), (5, .bool (x17 == 1)), (80, .bool x591)] (by kernel_rfl) fun a hs => ?_
        rcases boolE x591 with h918 | h918
        · replace hs := hs.altB 80 true (by kernel_rfl) h918
          refine pures hs 3 [0, 3, 83] [(0, (pt b2 0)), (3, (pt b552 0)), (83, .bool (!(x17 == 1)))] (by kernel_rfl) fun a hs => ?_
          refine s_end ?_
          exact (hJ917 _ _).2 ⟨(hs.altB (b := (!(x17 == 1))) 83 (x591 && (!(x17 == 1))) (by kernel_rfl) (by rw [h918] <;> rfl)).cast [0, 3, 83] (by kernel_rfl), hw.pick [0, 1, 2, 3, 4, 5, 6] (by kernel_rfl)⟩
        replace hs := hs.altB 80 false (by kernel_rfl) h918
        refine pures hs 3 [0, 3, 83] [(0, (pt b2 0)), (3, (pt b552 0)), (83, .bool false)] (by kernel_rfl) fun a hs => ?_
        refine s_end ?_
        exact (hJ917 _ _).2 ⟨(hs.altB (b := false) 83 (x591 && (!(x17 == 1))) (by kernel_rfl) (by rw [h918] <;> rfl)).cast [0, 3, 83] (by kernel_rfl), hw.pick [0, 1, 2, 3, 4, 5, 6] (by kernel_rfl)⟩
      intro a w hh
      obtain ⟨hs, hw⟩ := (hJ917 _ _).1 hh
      rcases ifbE hx817 with ⟨h919, hx817⟩ | ⟨h919, hx817⟩
      · refine c_cond1 hs (by kernel_rfl) (t := (x591 && (!(x17 == 1)))) (by kernel_rfl) h919 ?_
        refine c_region ?_
        refine pures hs 2 [3, 84, 85] [(3, (pt b552 0)), (84, (pt b2 0)), (85, (pt b552 12))] (by kernel_rfl) fun a hs => ?_
        refine s_load hs (hw.at_ 0 rfl) 12 (by kernel_rfl) (by kernel_rfl) (v := vi64 x40.f12) (by kernel_rfl) fun a hs => ?_
        refine pures hs 1 [84, 86, 87] [(84, (pt b2 0)), (86, vi64 x40.f12), (87, (pt b552 9))] (by kernel_rfl) fun a hs => ?_
        refine s_load hs (hw.at_ 0 rfl) 9 (by kernel_rfl) (by kernel_rfl) (v := vu64 x40.f9) (by kernel_rfl) fun a hs => ?_
        refine pures hs 1 [84, 89] [(84, (pt b2 0)), (89, .agg #[vi64 x40.f12, vu64 x40.f9, .slice none 0 0])] (by kernel_rfl) fun a hs => ?_
        obtain ⟨y928, h929, hx817⟩ := bindE hx817
        refine s_call hs (by kernel_rfl) (by kernel_rfl) (caller_Caller_answer_2_s (x3 := x3) (x4 := x4) (x6 := x6) (x9 := x9) (x15 := (x15)) (x17 := x17) (x18 := x18) (x19 := x19) (x20 := x20) (x24 := x24) (x27 := x27) (x33 := x33) (x34 := x34) (x35 := x35) (x36 := x36) h929 (h12.mono hle570) h16 (h23.mono hle570) (h30.mono hle570) (h39.mono hle570) (RSl.nil _ _ _) ((hw.pick [1, 2, 4, 3, 5, 6] (by kernel_rfl)).pack 5)) fun a w v hv hs => ?_
        obtain ⟨p930, c931, p933, c934, rfl, hw, h932, h935⟩ := hv
        replace hw := hw.unpack 4 rfl
        refine s_end ?_
        obtain rfl := someE hx817
        exact (hJ818 _ _).2 ⟨y928.1, y928.2.1, y928.2.2.1, y928.2.2.2.1, x9, 1, 1, y928.2.2.2.2.1, y928.2.2.2.2.2.1, y928.2.2.2.2.2.2, p930, c931, p10, c11, d13, p933, c934, ih569, hk, hs.cast [] (by kernel_rfl), hw.pick [0, 1, 3, 2, 4] (by kernel_rfl), (Le.refl _), h932, (h12.mono hle570), h935⟩
      refine c_cond0 hs (by kernel_rfl) (t := (x591 && (!(x17 == 1)))) (by kernel_rfl) h919 ?_
      refine c_skip ?_
      obtain rfl := someE hx817
      obtain ⟨ih936, hle937, hw, h938⟩ := (hw.pick [5, 0, 1, 2, 3, 4, 6] (by kernel_rfl)).fz (h30.mono hle570)
      exact (hJ818 _ _).2 ⟨x33, x34, x35, x36, x9, 0, 0, 0, 0, x27, p37, c38, p10, c11, d13, p28, c29, ih936, hk, hs.cast [] (by kernel_rfl), hw.pick [1, 2, 3, 4, 5] (by kernel_rfl), hle937, (h39.mono (hle570.trans hle937)), (h12.mono (hle570.trans hle937)), h938⟩
    refine c_cond0 hs (by kernel_rfl) (t := (x40.f0 == 18)) (by kernel_rfl) h913 ?_
    refine c_seq ?_
    refine c_region ?_
    refine pures hs 2 [0, 3, 5, 6, 91] [(0, (pt b2 0)), (3, (pt b552 0)), (5, .bool (x17 == 1)), (6, .bool x591), (91, .bool (x40.f0 == 20))] (by kernel_rfl) fun a hs => ?_
    refine s_end ?_
    rcases ifbE hx817 with ⟨h939, hx817⟩ | ⟨h939, hx817⟩
    · refine c_cond1 hs (by kernel_rfl) (t := (x40.f0 == 20)) (by kernel_rfl) h939 ?_
      refine c_seq ?_
      obtain ⟨S940, hS940, kS940⟩ := mkSX (X := [([], bx b552 [vi64 x40.f0, vi64 x40.f1, vi64 x40.f2, vi64 x40.f3, vu64 x40.f4, vu64 x40.f5, vu64 x40.f6, vu64 x40.f7, vu64 x40.f8, vu64 x40.f9, vi64 x40.f10, vu32 x40.f11, vi64 x40.f12, vi64 x40.f13.f0, vi64 x40.f13.f1, vu64 x40.f13.f2, vi64 x40.f13.f3, vi64 x40.f14.f0, vu64 x40.f14.f1, .slice p41 x40.f14.f2.length c42, .bool x40.f14.f3, vi64 x40.f14.f4, .slice p44 x40.f15.length c45, .slice p47 x40.f16.length c48, .slice p50 x40.f17.length c51] 48), ([], bx b2 [vi64 x3, vi64 x4, vu64 x5, vi64 x6, (pt b8 0), vi64 x17, vu32 x18, vu64 x19, .slice p21 x20.length c22, vi64 x24, (pt b26 0), vu64 x33, vi64 x34, vu64 x35, .slice p37 x36.length c38] 85), ([], bx b8 [.slice p10 x9.length c11, x15] 113), ([], bx b26 [vu32 0, vi32 0, vu32 0, vu32 0, vi64 0, vu64 0, .slice p28 x27.length c29] 126), ([], d13), ([], d31), ([], F)]) (ih := ih569) (K := []) rfl
      obtain ⟨y1024, hx1025, hx817⟩ := bindE hx817
      obtain ⟨J1026, hJ1026⟩ : ∃ J : Act → World → Prop, ∀ a w, J a w ↔ (∃ (x945 : Bool), caller_Caller_Take_3_r16 x40 x5 x9 x33 x34 x35 x36 x27 x945 = some y816 ∧ Sees a 115 [(0, (pt b2 0)), (3, (pt b552 0)), (106, .bool x945)] ∧ St g w [bx b552 [vi64 x40.f0, vi64 x40.f1, vi64 x40.f2, vi64 x40.f3, vu64 x40.f4, vu64 x40.f5, vu64 x40.f6, vu64 x40.f7, vu64 x40.f8, vu64 x40.f9, vi64 x40.f10, vu32 x40.f11, vi64 x40.f12, vi64 x40.f13.f0, vi64 x40.f13.f1, vu64 x40.f13.f2, vi64 x40.f13.f3, vi64 x40.f14.f0, vu64 x40.f14.f1, .slice p41 x40.f14.f2.length c42, .bool x40.f14.f3, vi64 x40.f14.f4, .slice p44 x40.f15.length c45, .slice p47 x40.f16.length c48, .slice p50 x40.f17.length c51] 48, bx b2 [vi64 x3, vi64 x4, vu64 x5, vi64 x6, (pt b8 0), vi64 x17, vu32 x18, vu64 x19, .slice p21 x20.length c22, vi64 x24, (pt b26 0), vu64 x33, vi64 x34, vu64 x35, .slice p37 x36.length c38] 85, bx b8 [.slice p10 x9.length c11, x15] 113, bx b26 [vu32 0, vi32 0, vu32 0, vu32 0, vi64 0, vu64 0, .slice p28 x27.length c29] 126, d13, d31, F] ih569) := ⟨_, fun _ _ => Iff.rfl⟩
      refine c_draw (by kernel_rfl) (N := 14) rfl S940 J1026 ?_ ?_
      · have hw := hw.drew
        have hS : S940 (Array.replicate 14 false) _ := SX_now hS940 (hw.vws [0, 1, 2, 3, 4, 5, 6]) (by kernel_rfl)
        refine d_pures (fuel := 12) kS940 hs hS [0, 1] [0, 3, 5, 94] [(0, (pt b2 0)), (3, (pt b552 0)), (5, .bool (x17 == 1)), (94, .bool x591)] (by kernel_rfl) fun a hs hS => ?_
        rcases ifbE hx1025 with ⟨h1027, hx1025⟩ | ⟨h1027, hx1025⟩
        · replace hs := hs.altB 94 true (by kernel_rfl) h1027
          refine d_pures (fuel := 9) kS940 hs hS [2, 3, 4] [0, 3, 97] [(0, (pt b2 0)), (3, (pt b552 0)), (97, .bool (x17 == 1))] (by kernel_rfl) fun a hs hS => ?_
          rcases ifbE hx1025 with ⟨h1028, hx1025⟩ | ⟨h1028, hx1025⟩
          · replace hs := hs.altB 97 true (by kernel_rfl) h1028
            refine d_pures (fuel := 8) kS940 hs hS [5] [0, 3, 97, 98] [(0, (pt b2 0)), (3, (pt b552 0)), (97, .bool true), (98, (pt b552 11))] (by kernel_rfl) fun a hs hS => ?_
            refine d_load (fuel := 7) kS940 hs hS 6 rfl (by kernel_rfl) (SX_box hS940 0 rfl (by kernel_rfl)) 11 (by kernel_rfl) (by kernel_rfl) (v := vu32 x40.f11) (by kernel_rfl) fun a hs hS => ?_
            refine d_pures (fuel := 3) kS940 hs hS [7, 8, 9, 10] [0, 3, 97, 99, 103] [(0, (pt b2 0)), (3, (pt b552 0)), (97, .bool true), (99, vu32 x40.f11), (103, (pt b2 6))] (by kernel_rfl) fun a hs hS => ?_
            refine d_load (fuel := 2) kS940 hs hS 11 rfl (by kernel_rfl) (SX_box hS940 1 rfl (by kernel_rfl)) 6 (by kernel_rfl) (by kernel_rfl) (v := vu32 x18) (by kernel_rfl) fun a hs hS => ?_
            refine d_pures (fuel := 0) kS940 hs hS [12, 13] [0, 3, 106] [(0, (pt b2 0)), (3, (pt b552 0)), (106, .bool (x40.f11 == x18))] (by kernel_rfl) fun a hs hS => ?_
            refine d_done (by kernel_rfl) ?_
            obtain rfl := someE hx1025
            exact (hJ1026 _ _).2 ⟨(x40.f11 == x18), hx817, hs.cast [0, 3, 106] (by kernel_rfl), hw.pick [0, 1, 2, 3, 4, 5, 6] (by kernel_rfl)⟩
          replace hs := hs.altB 97 false (by kernel_rfl) h1028
          refine d_pures (fuel := 0) kS940 hs hS [5, 6, 7, 8, 9, 10, 11, 12, 13] [0, 3, 106] [(0, (pt b2 0)), (3, (pt b552 0)), (106, .bool false)] (by kernel_rfl) fun a hs hS => ?_
          refine d_done (by kernel_rfl) ?_
          obtain rfl := someE hx1025
          exact (hJ1026 _ _).2 ⟨false, hx817, hs.cast [0, 3, 106] (by kernel_rfl), hw.pick [0, 1, 2, 3, 4, 5, 6] (by kernel_rfl)⟩
        replace hs := hs.altB 94 false (by kernel_rfl) h1027
        refine d_pures (fuel := 0) kS940 hs hS [2, 3, 4, 5, 6, 7, 8, 9, 10, 11, 12, 13] [0, 3, 106] [(0, (pt b2 0)), (3, (pt b552 0)), (106, .bool false)] (by kernel_rfl) fun a hs hS => ?_
        refine d_done (by kernel_rfl) ?_
        obtain rfl := someE hx1025
        exact (hJ1026 _ _).2 ⟨false, hx817, hs.cast [0, 3, 106] (by kernel_rfl), hw.pick [0, 1, 2, 3, 4, 5, 6] (by kernel_rfl)⟩
      intro a w hh
      obtain ⟨x945, hx817, hs, hw⟩ := (hJ1026 _ _).1 hh
      rcases ifbE hx817 with ⟨h946, hx817⟩ | ⟨h946, hx817⟩
      · refine c_cond1 hs (by kernel_rfl) (t := x945) (by kernel_rfl) h946 ?_
        obtain ⟨S947, hS947, kS947⟩ := mkSX (X := [([], bx b552 [vi64 x40.f0, vi64 x40.f1, vi64 x40.f2, vi64 x40.f3, vu64 x40.f4, vu64 x40.f5, vu64 x40.f6, vu64 x40.f7, vu64 x40.f8, vu64 x40.f9, vi64 x40.f10, vu32 x40.f11, vi64 x40.f12, vi64 x40.f13.f0, vi64 x40.f13.f1, vu64 x40.f13.f2, vi64 x40.f13.f3, vi64 x40.f14.f0, vu64 x40.f14.f1, .slice p41 x40.f14.f2.length c42, .bool x40.f14.f3, vi64 x40.f14.f4, .slice p44 x40.f15.length c45, .slice p47 x40.f16.length c48, .slice p50 x40.f17.length c51] 48), ([7], bx b2 [vi64 x3, vi64 x4, vu64 x5, vi64 x6, (pt b8 0), vi64 x17, vu32 x18, vu64 x19, .slice p21 x20.length c22, vi64 x24, (pt b26 0), vu64 x33, vi64 x34, vu64 x35, .slice p37 x36.length c38] 85), ([], bx b8 [.slice p10 x9.length c11, x15] 113), ([7], bx b26 [vu32 0, vi32 0, vu32 0, vu32 0, vi64 0, vu64 0, .slice p28 x27.length c29] 126), ([], d13), ([7], d31), ([], F)]) (ih := ih569) (K := [7, 7, 7]) rfl
        obtain ⟨y999, hx1000, hx817⟩ := bindE hx817
        obtain ⟨J1001, hJ1001⟩ : ∃ J : Act → World → Prop, ∀ a w, J a w ↔ (∃ (x986 : Int) (x987 : Int) (x988 : Int) (x989 : List Int) (x993 : Int) (x994 : Int) (x995 : List Int) (p990 : Option Addr) (c991 : Nat) (p996 : Option Addr) (c997 : Nat) (ih984 : IH), caller_Caller_Take_3_r15 x9 x986 x987 x988 x989 x993 x994 x995 = some y816 ∧ Sees a 115 [] ∧ St g w [bx b2 [vi64 x3, vi64 x4, vu64 x5, vi64 x6, (pt b8 0), vi64 x17, vu32 x18, vu64 x19, .slice p21 x20.length c22, vi64 x24, (pt b26 0), vu64 x986, vi64 x987, vu64 x988, .slice p990 x989.length c991] 85, bx b8 [.slice p10 x9.length c11, x15] 113, bx b26 [vu32 1, vi32 0, vu32 0, vu32 1, vi64 x993, vu64 x994, .slice p996 x995.length c997] 126, d13, F] ih984 ∧ Le ih569 ih984 ∧ RSl e5 ih984 [] p990 c991 x989 ∧ RSl e5 ih984 [] p996 c997 x995) := ⟨_, fun _ _ => Iff.rfl⟩
        refine c_draw (by kernel_rfl) (N := 8) rfl S947 J1001 ?_ ?_
        · have hw := hw.drew
          have hS : S947 (Array.replicate 8 false) _ := SX_now hS947 (hw.vws [0, 1, 2, 3, 4, 5, 6]) (by kernel_rfl)
          refine d_pures (fuel := 6) kS947 hs hS [0, 1] [3, 107, 108] [(3, (pt b552 0)), (107, (pt b2 0)), (108, (pt b552 9))] (by kernel_rfl) fun a hs hS => ?_
          refine d_load (fuel := 5) kS947 hs hS 2 rfl (by kernel_rfl) (SX_box hS947 0 rfl (by kernel_rfl)) 9 (by kernel_rfl) (by kernel_rfl) (v := vu64 x40.f9) (by kernel_rfl) fun a hs hS => ?_
          refine d_pures (fuel := 4) kS947 hs hS [3] [107, 109, 110] [(107, (pt b2 0)), (109, vu64 x40.f9), (110, (pt b552 24))] (by kernel_rfl) fun a hs hS => ?_
          refine d_load (fuel := 3) kS947 hs hS 4 rfl (by kernel_rfl) (SX_box hS947 0 rfl (by kernel_rfl)) 24 (by kernel_rfl) (by kernel_rfl) (v := .slice p50 x40.f17.length c51) (by kernel_rfl) fun a hs hS => ?_
          refine d_all (fuel := 2) (rs := [5]) (by kernel_rfl) (by simp) (all1 ?_)
          obtain ⟨y1002, h1003, hx1000⟩ := bindE hx1000
          refine o_call hs rfl (by kernel_rfl) (by kernel_rfl) (bytes_Clone_s h1003 (h52.mono hle570) (nilSub _) ((hw.pick [0, 1, 2, 3, 4, 5, 6] (by kernel_rfl)).pack 0)) fun a w v hv hs => ?_
          obtain ⟨p1004, c1005, d1007, rfl, hw, h1006⟩ := hv
          replace hw := hw.unpack 1 rfl
          refine dg_next (SX_now hS947 ((hw.vws [1, 2, 3, 4, 5, 6, 7]).anti (Le.refl _)) (by kernel_rfl)) fun hS => ?_
          obtain ⟨ih1009, hle1010, hw, h1011⟩ := (hw.pick [0, 1, 2, 3, 4, 5, 6, 7] (by kernel_rfl)).fz (h1006.mono (Le.refl _))
          refine d_pures (fuel := 1) kS947 hs hS [6] [107, 113] [(107, (pt b2 0)), (113, .agg #[vi64 0, vu64 x40.f9, .slice p1004 y1002.length c1005])] (by kernel_rfl) fun a hs hS => ?_
          refine d_all (fuel := 0) (rs := [7]) (by kernel_rfl) (by simp) (all1 ?_)
          obtain ⟨y1012, h1013, hx1000⟩ := bindE hx1000
          refine o_call hs rfl (by kernel_rfl) (by kernel_rfl) (caller_Caller_answer_2_s (x3 := x3) (x4 := x4) (x6 := x6) (x9 := x9) (x15 := (x15)) (x17 := x17) (x18 := x18) (x19 := x19) (x20 := x20) (x24 := x24) (x27 := x27) (x33 := x33) (x34 := x34) (x35 := x35) (x36 := x36) h1013 (h12.mono (hle570.trans hle1010)) h16 (h23.mono (hle570.trans hle1010)) (h30.mono (hle570.trans hle1010)) (h39.mono (hle570.trans hle1010)) h1011 ((hw.pick [1, 2, 4, 3, 5, 0, 6] (by kernel_rfl)).pack 5)) fun a w v hv hs => ?_
          obtain ⟨p1014, c1015, p1017, c1018, rfl, hw, h1016, h1019⟩ := hv
          replace hw := hw.unpack 4 rfl
          refine dg_next (SX_now hS947 ((hw.vws [4, 1, 2, 5]).anti hle1010) (by kernel_rfl)) fun hS => ?_
          refine d_done (by kernel_rfl) ?_
          obtain rfl := someE hx1000
          exact (hJ1001 _ _).2 ⟨y1012.1, y1012.2.1, y1012.2.2.1, y1012.2.2.2.1, y1012.2.2.2.2.1, y1012.2.2.2.2.2.1, y1012.2.2.2.2.2.2, p1014, c1015, p1017, c1018, ih1009, hx817, hs.cast [] (by kernel_rfl), hw.pick [0, 1, 3, 2, 5] (by kernel_rfl), hle1010, h1016, h1019⟩
        intro a w hh
        obtain ⟨x986, x987, x988, x989, x993, x994, x995, p990, c991, p996, c997, ih984, hx817, hs, hw, hle985, h992, h998⟩ := (hJ1001 _ _).1 hh
        obtain rfl := someE hx817
        exact (hJ818 _ _).2 ⟨x986, x987, x988, x989, x9, 1, 1, x993, x994, x995, p990, c991, p10, c11, d13, p996, c997, ih984, hk, hs.cast [] (by kernel_rfl), hw.pick [0, 1, 2, 3, 4] (by kernel_rfl), hle985, h992, (h12.mono (hle570.trans hle985)), h998⟩
      refine c_cond0 hs (by kernel_rfl) (t := x945) (by kernel_rfl) h946 ?_
      refine c_skip ?_
      obtain rfl := someE hx817
      obtain ⟨ih1021, hle1022, hw, h1023⟩ := (hw.pick [5, 0, 1, 2, 3, 4, 6] (by kernel_rfl)).fz (h30.mono hle570)
      exact (hJ818 _ _).2 ⟨x33, x34, x35, x36, x9, 0, 0, 0, 0, x27, p37, c38, p10, c11, d13, p28, c29, ih1021, hk, hs.cast [] (by kernel_rfl), hw.pick [1, 2, 3, 4, 5] (by kernel_rfl), hle1022, (h39.mono (hle570.trans hle1022)), (h12.mono (hle570.trans hle1022)), h1023⟩
    refine c_cond0 hs (by kernel_rfl) (t := (x40.f0 == 20)) (by kernel_rfl) h939 ?_
    refine c_skip ?_
    obtain rfl := someE hx817
    obtain ⟨ih1030, hle1031, hw, h1032⟩ := (hw.pick [5, 0, 1, 2, 3, 4, 6] (by kernel_rfl)).fz (h30.mono hle570)
    exact (hJ818 _ _).2 ⟨x33, x34, x35, x36, x9, 0, 0, 0, 0, x27, p37, c38, p10, c11, d13, p28, c29, ih1030, hk, hs.cast [] (by kernel_rfl), hw.pick [1, 2, 3, 4, 5] (by kernel_rfl), hle1031, (h39.mono (hle570.trans hle1031)), (h12.mono (hle570.trans hle1031)), h1032⟩
  intro a w hh
  obtain ⟨x793, x794, x795, x796, x800, x806, x807, x808, x809, x810, p797, c798, p801, c802, d804, p811, c812, ih791, hk, hs, hw, hle792, h799, h803, h813⟩ := (hJ818 _ _).1 hh
  refine c_seq ?_
  refine c_region ?_
  refine pures hs 1 [4] [(4, .slice none 0 0)] (by kernel_rfl) fun a hs => ?_
  refine s_end ?_
  refine c_ret ?_
  replace hw := hw.nil
  obtain rfl := someE hk
  refine hQ _ _ (f_ret1 hs rfl (v := .slice none 0 0) (by kernel_rfl) ⟨ih791, none, 0, ([]), p797, c798, p801, c802, d804, p811, c812, rfl, hw.pick [0, 1, 2, 4, 3, 5] (by kernel_rfl), (hle570.trans hle792), (OSl.nil _ _), h799, h803, h813⟩)
def sync_atomic_Bool_Load_4 (x4 : Int) : Option Bool :=
  some (x4 != 0)
theorem sync_atomic_Bool_Load_4_s {x3 : Int} {x4 : Int} {x5 : Int} {x6 : Int} {x7 : List Int} {b2 : Nat} {p8 : Option Addr} {c9 : Nat} {r : Bool} (hk : sync_atomic_Bool_Load_4 x4 = some r) {g w : World} {F : Ch} {ih : IH} (h10 : RSl e5 ih [] p8 c9 x7) (hw : St g w [bx b2 [vu32 x3, vi32 0, vu32 0, vu32 x4, vi64 x5, vu64 x6, .slice p8 x7.length c9] 126, F] ih) :
    CallsR Tryz.prog 56 #[(pt b2 3)] w fun v w' => v = .bool r ∧ St g w' [bx b2 [vu32 x3, vi32 0, vu32 0, vu32 x4, vi64 x5, vu64 x6, .slice p8 x7.length c9] 126, F] ih := by
  refine f_in (vs := [(pt b2 3)]) Tryz.func56 rfl 8 rfl (by kernel_rfl) [(0, (pt b2 3))] (by kernel_rfl) fun a Qf hQ hQn hs => ?_
  refine c_seq ?_
  refine c_region ?_
  refine pures hs 1 [0] [(0, (pt b2 3))] (by kernel_rfl) fun a hs => ?_
  refine s_end ?_
  refine c_seq ?_
  refine c_region ?_
  refine pures hs 3 [5] [(5, (pt b2 3))] (by kernel_rfl) fun a hs => ?_
  refine s_ext0 hs (by kernel_rfl) (exec_aload hw Tryz.func87 (by kernel_rfl) (by kernel_rfl) (by kernel_rfl) .u32 (by kernel_rfl) 0 rfl 3 (x := x4) (by kernel_rfl) (by kernel_rfl)) fun a hs => ?_
  refine pures hs 2 [2] [(2, .bool (x4 != 0))] (by kernel_rfl) fun a hs => ?_
  refine s_end ?_
  refine c_ret ?_
  obtain rfl := someE hk
  refine hQ _ _ (f_ret1 hs rfl (v := .bool (x4 != 0)) (by kernel_rfl) ⟨rfl, hw.pick [0, 1] (by kernel_rfl)⟩)
def latch_Latch_api_Reply_Get_2 (x4 : Int) (x5 : Int) (x6 : Int) (x7 : List Int) : Option (M51 × Bool) :=
  (sync_atomic_Bool_Load_4 x4).bind fun y36 =>
  if (!y36) = true then some ((M51.mk 0 0 ([])), false)
  else some ((M51.mk x5 x6 x7), true)
theorem latch_Latch_api_Reply_Get_2_s {x3 : Int} {x4 : Int} {x5 : Int} {x6 : Int} {x7 : List Int} {b2 : Nat} {p8 : Option Addr} {c9 : Nat} {r : M51 × Bool} (hk : latch_Latch_api_Reply_Get_2 x4 x5 x6 x7 = some r) {g w : World} {F : Ch} {ih : IH} (h10 : RSl e5 ih [] p8 c9 x7) (hw : St g w [bx b2 [vu32 x3, vi32 0, vu32 0, vu32 x4, vi64 x5, vu64 x6, .slice p8 x7.length c9] 126, F] ih) :
    CallsR Tryz.prog 32 #[(pt b2 0)] w fun v w' => ∃ (p39 : Option Addr) (c40 : Nat), v = .tuple #[.agg #[vi64 r.1.f0, vu64 r.1.f1, .slice p39 r.1.f2.length c40], .bool r.2] ∧ St g w' [bx b2 [vu32 x3, vi32 0, vu32 0, vu32 x4, vi64 x5, vu64 x6, .slice p8 x7.length c9] 126, F] ih ∧ RSl e5 ih [] p39 c40 r.1.f2 := by
  refine f_in (vs := [(pt b2 0)]) Tryz.func32 rfl 19 rfl (by kernel_rfl) [(0, (pt b2 0))] (by kernel_rfl) fun a Qf hQ hQn hs => ?_
  refine c_seq ?_
  refine c_region ?_
  refine s_new hs hw [vi64 0, vu64 0, .slice none 0 0] 51 (fun b => (pt b 0)) (by kernel_rfl) (fun _ => by kernel_rfl) fun a w b28 hs hw => ?_
  refine pures hs 1 [0, 2] [(0, (pt b2 0)), (2, (pt b28 0))] (by kernel_rfl) fun a hs => ?_
  refine s_end ?_
  refine c_seq ?_
  refine c_region ?_
  refine s_new hs hw [vi64 0, vu64 0, .slice none 0 0] 51 (fun b => (pt b 0)) (by kernel_rfl) (fun _ => by kernel_rfl) fun a w b32 hs hw => ?_
  refine s_end ?_
  refine c_seq ?_
  refine c_seq ?_
  refine c_region ?_
  refine pures hs 6 [0, 2, 4, 7, 10] [(0, (pt b2 0)), (2, (pt b28 0)), (4, (pt b32 0)), (7, .bool false), (10, (pt b2 3))] (by kernel_rfl) fun a hs => ?_
  obtain ⟨y36, h37, hk⟩ := bindE hk
  refine s_call hs (by kernel_rfl) (by kernel_rfl) (sync_atomic_Bool_Load_4_s (x3 := x3) (x5 := x5) (x6 := x6) (x7 := x7) h37 h10 ((hw.pick [2, 0, 1, 3] (by kernel_rfl)).pack 1)) fun a w v hv hs => ?_
  obtain ⟨rfl, hw⟩ := hv
  replace hw := hw.unpack 1 rfl
  refine pures hs 2 [0, 2, 4, 13] [(0, (pt b2 0)), (2, (pt b28 0)), (4, (pt b32 0)), (13, .bool (!y36))] (by kernel_rfl) fun a hs => ?_
  refine s_end ?_
  rcases ifbE hk with ⟨h38, hk⟩ | ⟨h38, hk⟩
  · refine c_cond1 hs (by kernel_rfl) (t := (!y36)) (by kernel_rfl) h38 ?_
    refine c_seq ?_
    refine c_region ?_
    refine s_load hs (hw.at_ 1 rfl) 0 (by kernel_rfl) (by kernel_rfl) (v := .agg #[vi64 0, vu64 0, .slice none 0 0]) (by kernel_rfl) fun a hs => ?_
    refine s_store hs hw 2 rfl 0 (by kernel_rfl) (by kernel_rfl) (v := .agg #[vi64 0, vu64 0, .slice none 0 0]) (by kernel_rfl) (by kernel_rfl) (by kernel_rfl) (by kernel_rfl) fun a w hs hw => ?_
    refine pures hs 1 [2, 3] [(2, (pt b28 0)), (3, .bool false)] (by kernel_rfl) fun a hs => ?_
    refine s_end ?_
    refine c_ret ?_
    obtain rfl := someE hk
    refine hQ _ _ (f_retG hs (l := [.cell 2 51, .tmp 3]) (vs := [.agg #[vi64 0, vu64 0, .slice none 0 0], .bool false]) rfl (⟨res_cell hs (hw.at_ 2 rfl) (by kernel_rfl) (v := .agg #[vi64 0, vu64 0, .slice none 0 0]) (by kernel_rfl), ⟨res_tmp hs (v := .bool false) (by kernel_rfl), trivial⟩⟩) (by kernel_rfl) ⟨none, 0, rfl, hw.pick [0, 3] (by kernel_rfl), (RSl.nil _ _ _)⟩)
  refine c_cond0 hs (by kernel_rfl) (t := (!y36)) (by kernel_rfl) h38 ?_
  refine c_skip ?_
  refine c_seq ?_
  refine c_region ?_
  refine pures hs 3 [2, 17] [(2, (pt b28 0)), (17, (pt b2 4))] (by kernel_rfl) fun a hs => ?_
  refine s_load hs (hw.at_ 0 rfl) 4 (by kernel_rfl) (by kernel_rfl) (v := .agg #[vi64 x5, vu64 x6, .slice p8 x7.length c9]) (by kernel_rfl) fun a hs => ?_
  refine s_store hs hw 2 rfl 0 (by kernel_rfl) (by kernel_rfl) (v := .agg #[vi64 x5, vu64 x6, .slice p8 x7.length c9]) (by kernel_rfl) (by kernel_rfl) (by kernel_rfl) (by kernel_rfl) fun a w hs hw => ?_
  refine pures hs 1 [2, 3] [(2, (pt b28 0)), (3, .bool true)] (by kernel_rfl) fun a hs => ?_
  refine s_end ?_
  refine c_ret ?_
  obtain rfl := someE hk
  refine hQ _ _ (f_retG hs (l := [.cell 2 51, .tmp 3]) (vs := [.agg #[vi64 x5, vu64 x6, .slice p8 x7.length c9], .bool true]) rfl (⟨res_cell hs (hw.at_ 2 rfl) (by kernel_rfl) (v := .agg #[vi64 x5, vu64 x6, .slice p8 x7.length c9]) (by kernel_rfl), ⟨res_tmp hs (v := .bool true) (by kernel_rfl), trivial⟩⟩) (by kernel_rfl) ⟨p8, c9, rfl, hw.pick [0, 3] (by kernel_rfl), h10⟩)
def caller_Caller_Busy_6 (x28 : Int) (x29 : Int) (x30 : Int) (x31 : List Int) : Option Bool :=
  (latch_Latch_api_Reply_Get_2 x28 x29 x30 x31).bind fun y65 =>
  some (!y65.2)
theorem caller_Caller_Busy_6_s {x3 : Int} {x4 : Int} {x5 : Int} {x6 : Int} {x9 : List M44} {x15 : Value} {x17 : Int} {x18 : Int} {x19 : Int} {x20 : List Int} {x24 : Int} {x27 : Int} {x28 : Int} {x29 : Int} {x30 : Int} {x31 : List Int} {x35 : Int} {x36 : Int} {x37 : Int} {x38 : List Int} {b2 : Nat} {b8 : Nat} {p10 : Option Addr} {c11 : Nat} {d13 : Ch} {p21 : Option Addr} {c22 : Nat} {b26 : Nat} {p32 : Option Addr} {c33 : Nat} {p39 : Option Addr} {c40 : Nat} {r : Bool} (hk : caller_Caller_Busy_6 x28 x29 x30 x31 = some r) {g w : World} {F : Ch} {ih : IH} (h12 : OSl e44 ih p10 c11 x9 d13) (h16 : x15.oneCell' = true) (h23 : RSl e5 ih [] p21 c22 x20) (h34 : RSl e5 ih [] p32 c33 x31) (h41 : RSl e5 ih [] p39 c40 x38) (hw : St g w [bx b2 [vi64 x3, vi64 x4, vu64 x5, vi64 x6, (pt b8 0), vi64 x17, vu32 x18, vu64 x19, .slice p21 x20.length c22, vi64 x24, (pt b26 0), vu64 x35, vi64 x36, vu64 x37, .slice p39 x38.length c40] 85, bx b8 [.slice p10 x9.length c11, x15] 113, d13, bx b26 [vu32 x27, vi32 0, vu32 0, vu32 x28, vi64 x29, vu64 x30, .slice p32 x31.length c33] 126, F] ih) :
    CallsR Tryz.prog 10 #[(pt b2 0)] w fun v w' => v = .bool r ∧ St g w' [bx b2 [vi64 x3, vi64 x4, vu64 x5, vi64 x6, (pt b8 0), vi64 x17, vu32 x18, vu64 x19, .slice p21 x20.length c22, vi64 x24, (pt b26 0), vu64 x35, vi64 x36, vu64 x37, .slice p39 x38.length c40] 85, bx b8 [.slice p10 x9.length c11, x15] 113, d13, bx b26 [vu32 x27, vi32 0, vu32 0, vu32 x28, vi64 x29, vu64 x30, .slice p32 x31.length c33] 126, F] ih := by
  refine f_in (vs := [(pt b2 0)]) Tryz.func10 rfl 24 rfl (by kernel_rfl) [(0, (pt b2 0))] (by kernel_rfl) fun a Qf hQ hQn hs => ?_
  refine c_seq ?_
  refine c_region ?_
  refine pures hs 1 [0] [(0, (pt b2 0))] (by kernel_rfl) fun a hs => ?_
  refine s_end ?_
  refine c_seq ?_
  refine c_seq ?_
  refine c_region ?_
  refine pures hs 6 [0, 7, 10] [(0, (pt b2 0)), (7, .bool false), (10, (pt b2 10))] (by kernel_rfl) fun a hs => ?_
  refine s_load hs (hw.at_ 0 rfl) 10 (by kernel_rfl) (by kernel_rfl) (v := (pt b26 0)) (by kernel_rfl) fun a hs => ?_
  refine pures hs 2 [0, 13] [(0, (pt b2 0)), (13, .bool false)] (by kernel_rfl) fun a hs => ?_
  refine s_end ?_
  refine c_condF hs (by kernel_rfl) (by kernel_rfl) ?_
  refine c_skip ?_
  refine c_seq ?_
  refine c_region ?_
  refine pures hs 3 [17] [(17, (pt b2 10))] (by kernel_rfl) fun a hs => ?_
  refine s_load hs (hw.at_ 0 rfl) 10 (by kernel_rfl) (by kernel_rfl) (v := (pt b26 0)) (by kernel_rfl) fun a hs => ?_
  obtain ⟨y65, h66, hk⟩ := bindE hk
  refine s_call hs (by kernel_rfl) (by kernel_rfl) (latch_Latch_api_Reply_Get_2_s (x3 := x27) h66 h34 ((hw.pick [3, 0, 1, 2, 4] (by kernel_rfl)).pack 1)) fun a w v hv hs => ?_
  obtain ⟨p67, c68, rfl, hw, h69⟩ := hv
  replace hw := hw.unpack 1 rfl
  refine pures hs 3 [20, 21] [(20, .agg #[vi64 y65.1.f0, vu64 y65.1.f1, .slice p67 y65.1.f2.length c68]), (21, .bool y65.2)] (by kernel_rfl) fun a hs => ?_
  refine s_new hs hw [vi64 0, vu64 0, .slice none 0 0] 51 (fun b => (pt b 0)) (by kernel_rfl) (fun _ => by kernel_rfl) fun a w b70 hs hw => ?_
  refine s_store hs hw 0 rfl 0 (by kernel_rfl) (by kernel_rfl) (v := .agg #[vi64 y65.1.f0, vu64 y65.1.f1, .slice p67 y65.1.f2.length c68]) (by kernel_rfl) (by kernel_rfl) (by kernel_rfl) (by kernel_rfl) fun a w hs hw => ?_
  refine pures hs 1 [4] [(4, .bool y65.2)] (by kernel_rfl) fun a hs => ?_
  refine s_end ?_
  refine c_seq ?_
  refine c_region ?_
  refine pures hs 3 [2] [(2, .bool (!y65.2))] (by kernel_rfl) fun a hs => ?_
  refine s_end ?_
  refine c_ret ?_
  obtain rfl := someE hk
  refine hQ _ _ (f_ret1 hs rfl (v := .bool (!y65.2)) (by kernel_rfl) ⟨rfl, hw.pick [2, 3, 4, 1, 5] (by kernel_rfl)⟩)
def sync_atomic_Bool_Load_5 (x3 : Int) : Option Bool :=
  some (x3 != 0)
theorem sync_atomic_Bool_Load_5_s {x3 : Int} {x4 : Int} {x5 : Int} {x6 : Int} {x7 : List Int} {b2 : Nat} {p8 : Option Addr} {c9 : Nat} {r : Bool} (hk : sync_atomic_Bool_Load_5 x3 = some r) {g w : World} {F : Ch} {ih : IH} (h10 : RSl e5 ih [] p8 c9 x7) (hw : St g w [bx b2 [vu32 x3, vi32 0, vu32 0, vu32 x4, vi64 x5, vu64 x6, .slice p8 x7.length c9] 126, F] ih) :
    CallsR Tryz.prog 56 #[(pt b2 0)] w fun v w' => v = .bool r ∧ St g w' [bx b2 [vu32 x3, vi32 0, vu32 0, vu32 x4, vi64 x5, vu64 x6, .slice p8 x7.length c9] 126, F] ih := by
  refine f_in (vs := [(pt b2 0)]) Tryz.func56 rfl 8 rfl (by kernel_rfl) [(0, (pt b2 0))] (by kernel_rfl) fun a Qf hQ hQn hs => ?_
  refine c_seq ?_
  refine c_region ?_
  refine pures hs 1 [0] [(0, (pt b2 0))] (by kernel_rfl) fun a hs => ?_
  refine s_end ?_
  refine c_seq ?_
  refine c_region ?_
  refine pures hs 3 [5] [(5, (pt b2 0))] (by kernel_rfl) fun a hs => ?_
  refine s_ext0 hs (by kernel_rfl) (exec_aload hw Tryz.func87 (by kernel_rfl) (by kernel_rfl) (by kernel_rfl) .u32 (by kernel_rfl) 0 rfl 0 (x := x3) (by kernel_rfl) (by kernel_rfl)) fun a hs => ?_
  refine pures hs 2 [2] [(2, .bool (x3 != 0))] (by kernel_rfl) fun a hs => ?_
  refine s_end ?_
  refine c_ret ?_
  obtain rfl := someE hk
  refine hQ _ _ (f_ret1 hs rfl (v := .bool (x3 != 0)) (by kernel_rfl) ⟨rfl, hw.pick [0, 1] (by kernel_rfl)⟩)
def internal_sync_Mutex_Lock_2 : Option Unit :=
  some ()
theorem internal_sync_Mutex_Lock_2_s {x3 : Int} {x4 : Int} {x5 : Int} {x6 : Int} {x7 : List Int} {b2 : Nat} {p8 : Option Addr} {c9 : Nat} {r : Unit} (hk : internal_sync_Mutex_Lock_2 = some r) {g w : World} {F : Ch} {ih : IH} (h10 : RSl e5 ih [] p8 c9 x7) (hw : St g w [bx b2 [vu32 x3, vi32 0, vu32 0, vu32 x4, vi64 x5, vu64 x6, .slice p8 x7.length c9] 126, F] ih) :
    CallsR Tryz.prog 209 #[(pt b2 1)] w fun v w' => v = .tuple #[] ∧ St g w' [bx b2 [vu32 x3, vi32 1, vu32 0, vu32 x4, vi64 x5, vu64 x6, .slice p8 x7.length c9] 126, F] ih := by
  refine f_in (vs := [(pt b2 1)]) Tryz.func209 rfl 13 rfl (by kernel_rfl) [(0, (pt b2 1))] (by kernel_rfl) fun a Qf hQ hQn hs => ?_
  refine c_seq ?_
  refine c_region ?_
  refine s_ext0 hs (by kernel_rfl) (exec_mark0 Tryz.func217 (by kernel_rfl) (by kernel_rfl) (by kernel_rfl) .disable (by kernel_rfl) (by kernel_rfl)) fun a hs => ?_
  refine s_end ?_
  refine c_seq ?_
  refine c_seq ?_
  refine c_region ?_
  refine pures hs 3 [0, 5] [(0, (pt b2 1)), (5, (pt b2 1))] (by kernel_rfl) fun a hs => ?_
  refine s_ext1 hs (by kernel_rfl) (exec_acas hw Tryz.func218 (by kernel_rfl) (by kernel_rfl) (by kernel_rfl) .i32 (by kernel_rfl) 0 rfl 1 (x := 0) (by kernel_rfl) 1 (by kernel_rfl)) fun a w hs hw => ?_
  refine s_end ?_
  refine c_condT hs (by kernel_rfl) (by kernel_rfl) ?_
  refine c_seq ?_
  refine c_condT hs (by kernel_rfl) (by kernel_rfl) ?_
  refine c_seq ?_
  refine c_region ?_
  refine s_ext0 hs (by kernel_rfl) (exec_mark0 Tryz.func219 (by kernel_rfl) (by kernel_rfl) (by kernel_rfl) .enable (by kernel_rfl) (by kernel_rfl)) fun a hs => ?_
  refine s_end ?_
  refine c_region ?_
  refine pures hs 1 [8] [(8, (pt b2 1))] (by kernel_rfl) fun a hs => ?_
  refine s_ext0 hs (by kernel_rfl) (exec_convU hw (t := 120) (by kernel_rfl) (by kernel_rfl) (by kernel_rfl) 0 rfl 1 (v := vi32 1) (by kernel_rfl) (by kernel_rfl)) fun a hs => ?_
  refine s_ext0 hs (by kernel_rfl) (exec_mark1 Tryz.func220 (by kernel_rfl) (by kernel_rfl) (by kernel_rfl) .acquire (by kernel_rfl) (q := ⟨b2, 1, none⟩) (by kernel_rfl)) fun a hs => ?_
  refine s_end ?_
  refine c_ret ?_
  obtain rfl := someE hk
  refine hQ _ _ (f_retN hs [] rfl [] (by kernel_rfl) (by kernel_rfl) ⟨rfl, hw.pick [0, 1] (by kernel_rfl)⟩)
def sync_Mutex_Lock_2 : Option Unit :=
  some ()
theorem sync_Mutex_Lock_2_s {x3 : Int} {x4 : Int} {x5 : Int} {x6 : Int} {x7 : List Int} {b2 : Nat} {p8 : Option Addr} {c9 : Nat} {r : Unit} (hk : sync_Mutex_Lock_2 = some r) {g w : World} {F : Ch} {ih : IH} (h10 : RSl e5 ih [] p8 c9 x7) (hw : St g w [bx b2 [vu32 x3, vi32 0, vu32 0, vu32 x4, vi64 x5, vu64 x6, .slice p8 x7.length c9] 126, F] ih) :
    CallsR Tryz.prog 186 #[(pt b2 1)] w fun v w' => v = .tuple #[] ∧ St g w' [bx b2 [vu32 x3, vi32 1, vu32 0, vu32 x4, vi64 x5, vu64 x6, .slice p8 x7.length c9] 126, F] ih := by
  refine f_in (vs := [(pt b2 1)]) Tryz.func186 rfl 6 rfl (by kernel_rfl) [(0, (pt b2 1))] (by kernel_rfl) fun a Qf hQ hQn hs => ?_
  refine c_region ?_
  refine pures hs 3 [4] [(4, (pt b2 1))] (by kernel_rfl) fun a hs => ?_
  have h20 : internal_sync_Mutex_Lock_2 = some () := rfl
  refine s_call hs (by kernel_rfl) (by kernel_rfl) (internal_sync_Mutex_Lock_2_s (x3 := x3) (x4 := x4) (x5 := x5) (x6 := x6) (x7 := x7) h20 h10 ((hw.pick [0, 1] (by kernel_rfl)).pack 1)) fun a w v hv hs => ?_
  obtain ⟨rfl, hw⟩ := hv
  replace hw := hw.unpack 1 rfl
  refine s_end ?_
  obtain rfl := someE hk
  refine hQn _ _ (f_retN hs [] rfl [] (by kernel_rfl) (by kernel_rfl) ⟨rfl, hw.pick [0, 1] (by kernel_rfl)⟩)
def sync_atomic_Bool_Load_6 (x3 : Int) : Option Bool :=
  some (x3 != 0)
theorem sync_atomic_Bool_Load_6_s {x3 : Int} {x4 : Int} {x5 : Int} {x6 : Int} {x7 : List Int} {b2 : Nat} {p8 : Option Addr} {c9 : Nat} {r : Bool} (hk : sync_atomic_Bool_Load_6 x3 = some r) {g w : World} {F : Ch} {ih : IH} (h10 : RSl e5 ih [] p8 c9 x7) (hw : St g w [bx b2 [vu32 x3, vi32 1, vu32 0, vu32 x4, vi64 x5, vu64 x6, .slice p8 x7.length c9] 126, F] ih) :
    CallsR Tryz.prog 56 #[(pt b2 0)] w fun v w' => v = .bool r ∧ St g w' [bx b2 [vu32 x3, vi32 1, vu32 0, vu32 x4, vi64 x5, vu64 x6, .slice p8 x7.length c9] 126, F] ih := by
  refine f_in (vs := [(pt b2 0)]) Tryz.func56 rfl 8 rfl (by kernel_rfl) [(0, (pt b2 0))] (by kernel_rfl) fun a Qf hQ hQn hs => ?_
  refine c_seq ?_
  refine c_region ?_
  refine pures hs 1 [0] [(0, (pt b2 0))] (by kernel_rfl) fun a hs => ?_
  refine s_end ?_
  refine c_seq ?_
  refine c_region ?_
  refine pures hs 3 [5] [(5, (pt b2 0))] (by kernel_rfl) fun a hs => ?_
  refine s_ext0 hs (by kernel_rfl) (exec_aload hw Tryz.func87 (by kernel_rfl) (by kernel_rfl) (by kernel_rfl) .u32 (by kernel_rfl) 0 rfl 0 (x := x3) (by kernel_rfl) (by kernel_rfl)) fun a hs => ?_
  refine pures hs 2 [2] [(2, .bool (x3 != 0))] (by kernel_rfl) fun a hs => ?_
  refine s_end ?_
  refine c_ret ?_
  obtain rfl := someE hk
  refine hQ _ _ (f_ret1 hs rfl (v := .bool (x3 != 0)) (by kernel_rfl) ⟨rfl, hw.pick [0, 1] (by kernel_rfl)⟩)
def sync_atomic_Bool_Store_3_r2 : Option Unit :=
  some ()
def sync_atomic_Bool_Store_3 : Option Unit :=
  sync_atomic_Bool_Store_3_r2
theorem sync_atomic_Bool_Store_3_s {x3 : Int} {x4 : Int} {x5 : Int} {x6 : Int} {x7 : List Int} {b2 : Nat} {p8 : Option Addr} {c9 : Nat} {r : Unit} (hk : sync_atomic_Bool_Store_3 = some r) {g w : World} {F : Ch} {ih : IH} (h10 : RSl e5 ih [] p8 c9 x7) (hw : St g w [bx b2 [vu32 x3, vi32 1, vu32 0, vu32 x4, vi64 x5, vu64 x6, .slice p8 x7.length c9] 126, F] ih) :
    CallsR Tryz.prog 113 #[(pt b2 3), .bool true] w fun v w' => v = .tuple #[] ∧ St g w' [bx b2 [vu32 x3, vi32 1, vu32 0, vu32 1, vi64 x5, vu64 x6, .slice p8 x7.length c9] 126, F] ih := by
  refine f_in (vs := [(pt b2 3), .bool true]) Tryz.func113 rfl 10 rfl (by kernel_rfl) [(0, (pt b2 3)), (1, .bool true)] (by kernel_rfl) fun a Qf hQ hQn hs => ?_
  obtain ⟨S23, hS23, kS23⟩ := mkSX (X := [([5], bx b2 [vu32 x3, vi32 1, vu32 0, vu32 x4, vi64 x5, vu64 x6, .slice p8 x7.length c9] 126), ([], F)]) (ih := ih) (K := [5]) rfl
  obtain ⟨y28, hx29⟩ : ∃ y, (some () : Option Unit) = some y := ⟨_, rfl⟩
  obtain ⟨J30, hJ30⟩ : ∃ J : Act → World → Prop, ∀ a w, J a w ↔ (sync_atomic_Bool_Store_3_r2 = some r ∧ Sees a 10 [] ∧ St g w [bx b2 [vu32 x3, vi32 1, vu32 0, vu32 1, vi64 x5, vu64 x6, .slice p8 x7.length c9] 126, F] ih) := ⟨_, fun _ _ => Iff.rfl⟩
  refine c_draw (by kernel_rfl) (N := 6) rfl S23 J30 ?_ ?_
  · have hw := hw.drew
    have hS : S23 (Array.replicate 6 false) _ := SX_now hS23 (hw.vws [0, 1]) (by kernel_rfl)
    refine d_pures (fuel := 2) kS23 hs hS [0, 1, 2, 3] [6, 7] [(6, (pt b2 3)), (7, .bool true)] (by kernel_rfl) fun a hs hS => ?_
    refine d_all (fuel := 1) (rs := [4]) (by kernel_rfl) (by simp) (all1 ?_)
    have h32 : sync_atomic_b32 = some () := rfl
    refine o_call hs rfl (by kernel_rfl) (by kernel_rfl) (sync_atomic_b32_s h32 ((hw.pick [0, 1] (by kernel_rfl)).pack 0)) fun a w v hv hs => ?_
    obtain ⟨rfl, hw⟩ := hv
    replace hw := hw.unpack 0 rfl
    refine dg_next (SX_now hS23 ((hw.vws [0, 1]).anti (Le.refl _)) (by kernel_rfl)) fun hS => ?_
    refine d_all (fuel := 0) (rs := [5]) (by kernel_rfl) (by simp) (all1 ?_)
    refine o_ext1 hs rfl (by kernel_rfl) (exec_astore hw Tryz.func147 (by kernel_rfl) (by kernel_rfl) (by kernel_rfl) .u32 (by kernel_rfl) 0 rfl 3 (x := vu32 x4) (by kernel_rfl) 1 (by kernel_rfl)) fun a w hs hw => ?_
    refine dg_next (SX_now hS23 ((hw.vws [1]).anti (Le.refl _)) (by kernel_rfl)) fun hS => ?_
    refine d_done (by kernel_rfl) ?_
    obtain rfl := someE hx29
    exact (hJ30 _ _).2 ⟨hk, hs.cast [] (by kernel_rfl), hw.pick [0, 1] (by kernel_rfl)⟩
  intro a w hh
  obtain ⟨hk, hs, hw⟩ := (hJ30 _ _).1 hh
  obtain rfl := someE hk
  refine hQn _ _ (f_retN hs [] rfl [] (by kernel_rfl) (by kernel_rfl) ⟨rfl, hw.pick [0, 1] (by kernel_rfl)⟩)
def latch_Latch_api_Reply_Set_1_2 (x3 : Int) (x4 : Int) (x5 : List Int) : Option (Int × Int × (List Int)) :=
  some (x3, x4, x5)
theorem latch_Latch_api_Reply_Set_1_2_s {x3 : Int} {x4 : Int} {x5 : List Int} {x13 : Int} {x14 : Int} {x15 : Int} {x16 : Int} {x17 : List Int} {b2 : Nat} {p6 : Option Addr} {c7 : Nat} {b10 : Nat} {b12 : Nat} {p18 : Option Addr} {c19 : Nat} {b22 : Nat} {r : Int × Int × (List Int)} (hk : latch_Latch_api_Reply_Set_1_2 x3 x4 x5 = some r) {g w : World} {F : Ch} {ih : IH} (h8 : RSl e5 ih [] p6 c7 x5) (h20 : RSl e5 ih [] p18 c19 x17) (hw : St g w [bx b2 [vi64 x3, vu64 x4, .slice p6 x5.length c7] 51, bx b10 [(pt b12 0)] 83, bx b12 [vu32 x13, vi32 1, vu32 0, vu32 x14, vi64 x15, vu64 x16, .slice p18 x17.length c19] 126, bx b22 [.bool false] 4, F] ih) :
    CallsR Tryz.prog 112 #[(pt b2 0), (pt b10 0), (pt b22 0)] w fun v w' => ∃ (p33 : Option Addr) (c34 : Nat), v = .tuple #[] ∧ St g w' [bx b2 [vi64 x3, vu64 x4, .slice p6 x5.length c7] 51, bx b10 [(pt b12 0)] 83, bx b12 [vu32 x13, vi32 1, vu32 0, vu32 1, vi64 r.1, vu64 r.2.1, .slice p33 r.2.2.length c34] 126, bx b22 [.bool true] 4, F] ih ∧ RSl e5 ih [] p33 c34 r.2.2 := by
  refine f_in (vs := [(pt b2 0), (pt b10 0), (pt b22 0)]) Tryz.func112 rfl 11 rfl (by kernel_rfl) [(0, (pt b2 0)), (1, (pt b10 0)), (2, (pt b22 0))] (by kernel_rfl) fun a Qf hQ hQn hs => ?_
  refine c_seq ?_
  refine c_region ?_
  refine s_load hs (hw.at_ 1 rfl) 0 (by kernel_rfl) (by kernel_rfl) (v := (pt b12 0)) (by kernel_rfl) fun a hs => ?_
  refine s_load hs (hw.at_ 0 rfl) 0 (by kernel_rfl) (by kernel_rfl) (v := .agg #[vi64 x3, vu64 x4, .slice p6 x5.length c7]) (by kernel_rfl) fun a hs => ?_
  refine pures hs 2 [1, 2, 4, 6] [(1, (pt b10 0)), (2, (pt b22 0)), (4, .agg #[vi64 x3, vu64 x4, .slice p6 x5.length c7]), (6, (pt b12 4))] (by kernel_rfl) fun a hs => ?_
  refine s_store hs hw 2 rfl 4 (by kernel_rfl) (by kernel_rfl) (v := .agg #[vi64 x3, vu64 x4, .slice p6 x5.length c7]) (by kernel_rfl) (by kernel_rfl) (by kernel_rfl) (by kernel_rfl) fun a w hs hw => ?_
  refine s_store hs hw 3 rfl 0 (by kernel_rfl) (by kernel_rfl) (v := .bool true) (by kernel_rfl) (by kernel_rfl) (by kernel_rfl) (by kernel_rfl) fun a w hs hw => ?_
  refine s_end ?_
  refine c_region ?_
  refine s_load hs (hw.at_ 1 rfl) 0 (by kernel_rfl) (by kernel_rfl) (v := (pt b12 0)) (by kernel_rfl) fun a hs => ?_
  refine pures hs 2 [9] [(9, (pt b12 3))] (by kernel_rfl) fun a hs => ?_
  have h32 : sync_atomic_Bool_Store_3 = some () := rfl
  refine s_call hs (by kernel_rfl) (by kernel_rfl) (sync_atomic_Bool_Store_3_s (x3 := x13) (x4 := x14) (x5 := x3) (x6 := x4) (x7 := x5) h32 h8 ((hw.pick [2, 0, 1, 3, 4] (by kernel_rfl)).pack 1)) fun a w v hv hs => ?_
  obtain ⟨rfl, hw⟩ := hv
  replace hw := hw.unpack 1 rfl
  refine s_end ?_
  obtain rfl := someE hk
  refine hQn _ _ (f_retN hs [] rfl [] (by kernel_rfl) (by kernel_rfl) ⟨p6, c7, rfl, hw.pick [1, 2, 0, 3, 4] (by kernel_rfl), h8⟩)
def sync_atomic_Bool_Store_4_r2 : Option Unit :=
  some ()
def sync_atomic_Bool_Store_4 : Option Unit :=
  sync_atomic_Bool_Store_4_r2
theorem sync_atomic_Bool_Store_4_s {x3 : Int} {x4 : Int} {x5 : Int} {x6 : List Int} {b2 : Nat} {p7 : Option Addr} {c8 : Nat} {r : Unit} (hk : sync_atomic_Bool_Store_4 = some r) {g w : World} {F : Ch} {ih : IH} (h9 : RSl e5 ih [] p7 c8 x6) (hw : St g w [bx b2 [vu32 x3, vi32 1, vu32 0, vu32 1, vi64 x4, vu64 x5, .slice p7 x6.length c8] 126, F] ih) :
    CallsR Tryz.prog 113 #[(pt b2 0), .bool true] w fun v w' => v = .tuple #[] ∧ St g w' [bx b2 [vu32 1, vi32 1, vu32 0, vu32 1, vi64 x4, vu64 x5, .slice p7 x6.length c8] 126, F] ih := by
  refine f_in (vs := [(pt b2 0), .bool true]) Tryz.func113 rfl 10 rfl (by kernel_rfl) [(0, (pt b2 0)), (1, .bool true)] (by kernel_rfl) fun a Qf hQ hQn hs => ?_
  obtain ⟨S22, hS22, kS22⟩ := mkSX (X := [([5], bx b2 [vu32 x3, vi32 1, vu32 0, vu32 1, vi64 x4, vu64 x5, .slice p7 x6.length c8] 126), ([], F)]) (ih := ih) (K := [5]) rfl
  obtain ⟨y27, hx28⟩ : ∃ y, (some () : Option Unit) = some y := ⟨_, rfl⟩
  obtain ⟨J29, hJ29⟩ : ∃ J : Act → World → Prop, ∀ a w, J a w ↔ (sync_atomic_Bool_Store_4_r2 = some r ∧ Sees a 10 [] ∧ St g w [bx b2 [vu32 1, vi32 1, vu32 0, vu32 1, vi64 x4, vu64 x5, .slice p7 x6.length c8] 126, F] ih) := ⟨_, fun _ _ => Iff.rfl⟩
  refine c_draw (by kernel_rfl) (N := 6) rfl S22 J29 ?_ ?_
  · have hw := hw.drew
    have hS : S22 (Array.replicate 6 false) _ := SX_now hS22 (hw.vws [0, 1]) (by kernel_rfl)
    refine d_pures (fuel := 2) kS22 hs hS [0, 1, 2, 3] [6, 7] [(6, (pt b2 0)), (7, .bool true)] (by kernel_rfl) fun a hs hS => ?_
    refine d_all (fuel := 1) (rs := [4]) (by kernel_rfl) (by simp) (all1 ?_)
    have h31 : sync_atomic_b32 = some () := rfl
    refine o_call hs rfl (by kernel_rfl) (by kernel_rfl) (sync_atomic_b32_s h31 ((hw.pick [0, 1] (by kernel_rfl)).pack 0)) fun a w v hv hs => ?_
    obtain ⟨rfl, hw⟩ := hv
    replace hw := hw.unpack 0 rfl
    refine dg_next (SX_now hS22 ((hw.vws [0, 1]).anti (Le.refl _)) (by kernel_rfl)) fun hS => ?_
    refine d_all (fuel := 0) (rs := [5]) (by kernel_rfl) (by simp) (all1 ?_)
    refine o_ext1 hs rfl (by kernel_rfl) (exec_astore hw Tryz.func147 (by kernel_rfl) (by kernel_rfl) (by kernel_rfl) .u32 (by kernel_rfl) 0 rfl 0 (x := vu32 x3) (by kernel_rfl) 1 (by kernel_rfl)) fun a w hs hw => ?_
    refine dg_next (SX_now hS22 ((hw.vws [1]).anti (Le.refl _)) (by kernel_rfl)) fun hS => ?_
    refine d_done (by kernel_rfl) ?_
    obtain rfl := someE hx28
    exact (hJ29 _ _).2 ⟨hk, hs.cast [] (by kernel_rfl), hw.pick [0, 1] (by kernel_rfl)⟩
  intro a w hh
  obtain ⟨hk, hs, hw⟩ := (hJ29 _ _).1 hh
  obtain rfl := someE hk
  refine hQn _ _ (f_retN hs [] rfl [] (by kernel_rfl) (by kernel_rfl) ⟨rfl, hw.pick [0, 1] (by kernel_rfl)⟩)
theorem sync_atomic_Bool_Store_4_sD {x3 : Int} {x4 : Int} {x5 : Int} {x6 : List Int} {b2 : Nat} {p7 : Option Addr} {c8 : Nat} {r : Unit} (hk : sync_atomic_Bool_Store_4 = some r) {g w : World} {F : Ch} {ih : IH} (h9 : RSl e5 ih [] p7 c8 x6) (hw : St g w [bx b2 [vu32 x3, vi32 1, vu32 0, vu32 1, vi64 x4, vu64 x5, .slice p7 x6.length c8] 126, F] ih) :
    CallsDR Tryz.prog 113 #[(pt b2 0), .bool true] w fun v w' => v = .tuple #[] ∧ St g w' [bx b2 [vu32 1, vi32 1, vu32 0, vu32 1, vi64 x4, vu64 x5, .slice p7 x6.length c8] 126, F] ih := by
  refine f_inD (vs := [(pt b2 0), .bool true]) Tryz.func113 rfl 10 rfl (by kernel_rfl) [(0, (pt b2 0)), (1, .bool true)] (by kernel_rfl) fun a Qf hQ hQn hs => ?_
  obtain ⟨S22, hS22, kS22⟩ := mkSX (X := [([5], bx b2 [vu32 x3, vi32 1, vu32 0, vu32 1, vi64 x4, vu64 x5, .slice p7 x6.length c8] 126), ([], F)]) (ih := ih) (K := [5]) rfl
  obtain ⟨y27, hx28⟩ : ∃ y, (some () : Option Unit) = some y := ⟨_, rfl⟩
  obtain ⟨J29, hJ29⟩ : ∃ J : Act → World → Prop, ∀ a w, J a w ↔ (sync_atomic_Bool_Store_4_r2 = some r ∧ Sees a 10 [] ∧ St g w [bx b2 [vu32 1, vi32 1, vu32 0, vu32 1, vi64 x4, vu64 x5, .slice p7 x6.length c8] 126, F] ih) := ⟨_, fun _ _ => Iff.rfl⟩
  refine c_draw (by kernel_rfl) (N := 6) rfl S22 J29 ?_ ?_
  · have hw := hw.drew
    have hS : S22 (Array.replicate 6 false) _ := SX_now hS22 (hw.vws [0, 1]) (by kernel_rfl)
    refine d_pures (fuel := 2) kS22 hs hS [0, 1, 2, 3] [6, 7] [(6, (pt b2 0)), (7, .bool true)] (by kernel_rfl) fun a hs hS => ?_
    refine d_all (fuel := 1) (rs := [4]) (by kernel_rfl) (by simp) (all1 ?_)
    have h31 : sync_atomic_b32 = some () := rfl
    refine o_call hs rfl (by kernel_rfl) (by kernel_rfl) (sync_atomic_b32_s h31 ((hw.pick [0, 1] (by kernel_rfl)).pack 0)) fun a w v hv hs => ?_
    obtain ⟨rfl, hw⟩ := hv
    replace hw := hw.unpack 0 rfl
    refine dg_next (SX_now hS22 ((hw.vws [0, 1]).anti (Le.refl _)) (by kernel_rfl)) fun hS => ?_
    refine d_all (fuel := 0) (rs := [5]) (by kernel_rfl) (by simp) (all1 ?_)
    refine o_ext1 hs rfl (by kernel_rfl) (exec_astore hw Tryz.func147 (by kernel_rfl) (by kernel_rfl) (by kernel_rfl) .u32 (by kernel_rfl) 0 rfl 0 (x := vu32 x3) (by kernel_rfl) 1 (by kernel_rfl)) fun a w hs hw => ?_
    refine dg_next (SX_now hS22 ((hw.vws [1]).anti (Le.refl _)) (by kernel_rfl)) fun hS => ?_
    refine d_done (by kernel_rfl) ?_
    obtain rfl := someE hx28
    exact (hJ29 _ _).2 ⟨hk, hs.cast [] (by kernel_rfl), hw.pick [0, 1] (by kernel_rfl)⟩
  intro a w hh
  obtain ⟨hk, hs, hw⟩ := (hJ29 _ _).1 hh
  obtain rfl := someE hk
  refine hQn _ _ (f_retN hs [] rfl [] (by kernel_rfl) (by kernel_rfl) ⟨rfl, hw.pick [0, 1] (by kernel_rfl)⟩)
def internal_sync_Mutex_Unlock_2 : Option Unit :=
  some ()
theorem internal_sync_Mutex_Unlock_2_s {x3 : Int} {x4 : Int} {x5 : Int} {x6 : Int} {x7 : List Int} {b2 : Nat} {p8 : Option Addr} {c9 : Nat} {r : Unit} (hk : internal_sync_Mutex_Unlock_2 = some r) {g w : World} {F : Ch} {ih : IH} (h10 : RSl e5 ih [] p8 c9 x7) (hw : St g w [bx b2 [vu32 x3, vi32 1, vu32 0, vu32 x4, vi64 x5, vu64 x6, .slice p8 x7.length c9] 126, F] ih) :
    CallsR Tryz.prog 210 #[(pt b2 1)] w fun v w' => v = .tuple #[] ∧ St g w' [bx b2 [vu32 x3, vi32 0, vu32 0, vu32 x4, vi64 x5, vu64 x6, .slice p8 x7.length c9] 126, F] ih := by
  refine f_in (vs := [(pt b2 1)]) Tryz.func210 rfl 21 rfl (by kernel_rfl) [(0, (pt b2 1))] (by kernel_rfl) fun a Qf hQ hQn hs => ?_
  refine c_seq ?_
  refine c_condT hs (by kernel_rfl) (by kernel_rfl) ?_
  refine c_seq ?_
  refine c_region ?_
  refine pures hs 3 [0, 5] [(0, (pt b2 1)), (5, (pt b2 1))] (by kernel_rfl) fun a hs => ?_
  refine s_load hs (hw.at_ 0 rfl) 1 (by kernel_rfl) (by kernel_rfl) (v := vi32 1) (by kernel_rfl) fun a hs => ?_
  refine s_end ?_
  refine c_seq ?_
  refine c_region ?_
  refine pures hs 1 [0, 7] [(0, (pt b2 1)), (7, (pt b2 1))] (by kernel_rfl) fun a hs => ?_
  refine s_ext0 hs (by kernel_rfl) (exec_convU hw (t := 120) (by kernel_rfl) (by kernel_rfl) (by kernel_rfl) 0 rfl 1 (v := vi32 1) (by kernel_rfl) (by kernel_rfl)) fun a hs => ?_
  refine s_ext0 hs (by kernel_rfl) (exec_mark1 Tryz.func222 (by kernel_rfl) (by kernel_rfl) (by kernel_rfl) .releaseMerge (by kernel_rfl) (q := ⟨b2, 1, none⟩) (by kernel_rfl)) fun a hs => ?_
  refine s_end ?_
  refine c_region ?_
  refine s_ext0 hs (by kernel_rfl) (exec_mark0 Tryz.func217 (by kernel_rfl) (by kernel_rfl) (by kernel_rfl) .disable (by kernel_rfl) (by kernel_rfl)) fun a hs => ?_
  refine s_end ?_
  refine c_seq ?_
  refine c_region ?_
  refine pures hs 3 [0, 13] [(0, (pt b2 1)), (13, (pt b2 1))] (by kernel_rfl) fun a hs => ?_
  refine s_ext1 hs (by kernel_rfl) (exec_aadd hw Tryz.func223 (by kernel_rfl) (by kernel_rfl) (by kernel_rfl) .i32 (by kernel_rfl) 0 rfl 1 (x := 1) (by kernel_rfl) (-1) 0 (by kernel_rfl) (by kernel_rfl)) fun a w hs hw => ?_
  refine pures hs 1 [0, 2] [(0, (pt b2 1)), (2, vi32 0)] (by kernel_rfl) fun a hs => ?_
  refine s_end ?_
  refine c_seq ?_
  refine c_seq ?_
  refine c_region ?_
  refine pures hs 2 [0, 2, 16] [(0, (pt b2 1)), (2, vi32 0), (16, .bool false)] (by kernel_rfl) fun a hs => ?_
  refine s_end ?_
  refine c_condF hs (by kernel_rfl) (by kernel_rfl) ?_
  refine c_skip ?_
  refine c_region ?_
  refine s_ext0 hs (by kernel_rfl) (exec_mark0 Tryz.func219 (by kernel_rfl) (by kernel_rfl) (by kernel_rfl) .enable (by kernel_rfl) (by kernel_rfl)) fun a hs => ?_
  refine s_end ?_
  obtain rfl := someE hk
  refine hQn _ _ (f_retN hs [] rfl [] (by kernel_rfl) (by kernel_rfl) ⟨rfl, hw.pick [0, 1] (by kernel_rfl)⟩)
def sync_Mutex_Unlock_2 : Option Unit :=
  some ()
theorem sync_Mutex_Unlock_2_s {x3 : Int} {x4 : Int} {x5 : Int} {x6 : Int} {x7 : List Int} {b2 : Nat} {p8 : Option Addr} {c9 : Nat} {r : Unit} (hk : sync_Mutex_Unlock_2 = some r) {g w : World} {F : Ch} {ih : IH} (h10 : RSl e5 ih [] p8 c9 x7) (hw : St g w [bx b2 [vu32 x3, vi32 1, vu32 0, vu32 x4, vi64 x5, vu64 x6, .slice p8 x7.length c9] 126, F] ih) :
    CallsR Tryz.prog 187 #[(pt b2 1)] w fun v w' => v = .tuple #[] ∧ St g w' [bx b2 [vu32 x3, vi32 0, vu32 0, vu32 x4, vi64 x5, vu64 x6, .slice p8 x7.length c9] 126, F] ih := by
  refine f_in (vs := [(pt b2 1)]) Tryz.func187 rfl 6 rfl (by kernel_rfl) [(0, (pt b2 1))] (by kernel_rfl) fun a Qf hQ hQn hs => ?_
  refine c_region ?_
  refine pures hs 3 [4] [(4, (pt b2 1))] (by kernel_rfl) fun a hs => ?_
  have h20 : internal_sync_Mutex_Unlock_2 = some () := rfl
  refine s_call hs (by kernel_rfl) (by kernel_rfl) (internal_sync_Mutex_Unlock_2_s (x3 := x3) (x4 := x4) (x5 := x5) (x6 := x6) (x7 := x7) h20 h10 ((hw.pick [0, 1] (by kernel_rfl)).pack 1)) fun a w v hv hs => ?_
  obtain ⟨rfl, hw⟩ := hv
  replace hw := hw.unpack 1 rfl
  refine s_end ?_
  obtain rfl := someE hk
  refine hQn _ _ (f_retN hs [] rfl [] (by kernel_rfl) (by kernel_rfl) ⟨rfl, hw.pick [0, 1] (by kernel_rfl)⟩)
theorem sync_Mutex_Unlock_2_sD {x3 : Int} {x4 : Int} {x5 : Int} {x6 : Int} {x7 : List Int} {b2 : Nat} {p8 : Option Addr} {c9 : Nat} {r : Unit} (hk : sync_Mutex_Unlock_2 = some r) {g w : World} {F : Ch} {ih : IH} (h10 : RSl e5 ih [] p8 c9 x7) (hw : St g w [bx b2 [vu32 x3, vi32 1, vu32 0, vu32 x4, vi64 x5, vu64 x6, .slice p8 x7.length c9] 126, F] ih) :
    CallsDR Tryz.prog 187 #[(pt b2 1)] w fun v w' => v = .tuple #[] ∧ St g w' [bx b2 [vu32 x3, vi32 0, vu32 0, vu32 x4, vi64 x5, vu64 x6, .slice p8 x7.length c9] 126, F] ih := by
  refine f_inD (vs := [(pt b2 1)]) Tryz.func187 rfl 6 rfl (by kernel_rfl) [(0, (pt b2 1))] (by kernel_rfl) fun a Qf hQ hQn hs => ?_
  refine c_region ?_
  refine pures hs 3 [4] [(4, (pt b2 1))] (by kernel_rfl) fun a hs => ?_
  have h20 : internal_sync_Mutex_Unlock_2 = some () := rfl
  refine s_call hs (by kernel_rfl) (by kernel_rfl) (internal_sync_Mutex_Unlock_2_s (x3 := x3) (x4 := x4) (x5 := x5) (x6 := x6) (x7 := x7) h20 h10 ((hw.pick [0, 1] (by kernel_rfl)).pack 1)) fun a w v hv hs => ?_
  obtain ⟨rfl, hw⟩ := hv
  replace hw := hw.unpack 1 rfl
  refine s_end ?_
  obtain rfl := someE hk
  refine hQn _ _ (f_retN hs [] rfl [] (by kernel_rfl) (by kernel_rfl) ⟨rfl, hw.pick [0, 1] (by kernel_rfl)⟩)
def sync_Once_doSlow_2 (x3 : Int) (x4 : Int) (x5 : Int) (x6 : Int) (x7 : List Int) (x13 : Int) (x14 : Int) (x15 : List Int) : Option (Int × Int × Int × Int × (List Int) × Bool) :=
  (sync_atomic_Bool_Load_6 x3).bind fun y56 =>
  if (!y56) = true then (
    (latch_Latch_api_Reply_Set_1_2 x13 x14 x15).bind fun y64 =>
    some (1, 1, y64.1, y64.2.1, y64.2.2, true))
  else some (x3, x4, x5, x6, x7, false)
theorem sync_Once_doSlow_2_s {x3 : Int} {x4 : Int} {x5 : Int} {x6 : Int} {x7 : List Int} {x13 : Int} {x14 : Int} {x15 : List Int} {b2 : Nat} {p8 : Option Addr} {c9 : Nat} {b12 : Nat} {p16 : Option Addr} {c17 : Nat} {b20 : Nat} {b22 : Nat} {r : Int × Int × Int × Int × (List Int) × Bool} (hk : sync_Once_doSlow_2 x3 x4 x5 x6 x7 x13 x14 x15 = some r) {g w : World} {F : Ch} {ih : IH} (h10 : RSl e5 ih [] p8 c9 x7) (h18 : RSl e5 ih [] p16 c17 x15) (hw : St g w [bx b2 [vu32 x3, vi32 0, vu32 0, vu32 x4, vi64 x5, vu64 x6, .slice p8 x7.length c9] 126, bx b12 [vi64 x13, vu64 x14, .slice p16 x15.length c17] 51, bx b20 [(pt b2 0)] 83, bx b22 [.bool false] 4, F] ih) :
    CallsR Tryz.prog 146 #[(pt b2 0), .func (.func 112) #[] #[(pt b12 0), (pt b20 0), (pt b22 0)]] w fun v w' => ∃ (p75 : Option Addr) (c76 : Nat), v = .tuple #[] ∧ St g w' [bx b2 [vu32 r.1, vi32 0, vu32 0, vu32 r.2.1, vi64 r.2.2.1, vu64 r.2.2.2.1, .slice p75 r.2.2.2.2.1.length c76] 126, bx b12 [vi64 x13, vu64 x14, .slice p16 x15.length c17] 51, bx b20 [(pt b2 0)] 83, bx b22 [.bool r.2.2.2.2.2] 4, F] ih ∧ RSl e5 ih [] p75 c76 r.2.2.2.2.1 := by
  refine f_inDf (vs := [(pt b2 0), .func (.func 112) #[] #[(pt b12 0), (pt b20 0), (pt b22 0)]]) Tryz.func146 rfl 21 rfl (by kernel_rfl) [(0, (pt b2 0)), (1, .func (.func 112) #[] #[(pt b12 0), (pt b20 0), (pt b22 0)])] (by kernel_rfl) fun a Qf hQ hQn hs => ?_
  refine c_seq ?_
  refine c_region ?_
  refine pures hs 3 [0, 1, 6] [(0, (pt b2 0)), (1, .func (.func 112) #[] #[(pt b12 0), (pt b20 0), (pt b22 0)]), (6, (pt b2 1))] (by kernel_rfl) fun a hs => ?_
  have h53 : sync_Mutex_Lock_2 = some () := rfl
  refine s_call hs (by kernel_rfl) (by kernel_rfl) (sync_Mutex_Lock_2_s (x3 := x3) (x4 := x4) (x5 := x5) (x6 := x6) (x7 := x7) h53 h10 ((hw.pick [0, 1, 2, 3, 4] (by kernel_rfl)).pack 1)) fun a w v hv hs => ?_
  obtain ⟨rfl, hw⟩ := hv
  replace hw := hw.unpack 1 rfl
  refine s_end ?_
  refine c_seq ?_
  refine c_regD hs 3 [0, 1, 10] [(0, (pt b2 0)), (1, .func (.func 112) #[] #[(pt b12 0), (pt b20 0), (pt b22 0)]), (10, (pt b2 1))] (by kernel_rfl) rfl (by kernel_rfl) (by kernel_rfl) (vs := #[(pt b2 1)]) (by kernel_rfl) fun a hs => ?_
  refine c_seq ?_
  refine c_region ?_
  refine pures hs 3 [0, 1, 13] [(0, (pt b2 0)), (1, .func (.func 112) #[] #[(pt b12 0), (pt b20 0), (pt b22 0)]), (13, (pt b2 0))] (by kernel_rfl) fun a hs => ?_
  obtain ⟨y56, h57, hk⟩ := bindE hk
  refine s_call hs (by kernel_rfl) (by kernel_rfl) (sync_atomic_Bool_Load_6_s (x4 := x4) (x5 := x5) (x6 := x6) (x7 := x7) h57 h10 ((hw.pick [0, 1, 2, 3, 4] (by kernel_rfl)).pack 1)) fun a w v hv hs => ?_
  obtain ⟨rfl, hw⟩ := hv
  replace hw := hw.unpack 1 rfl
  refine pures hs 1 [0, 1, 15] [(0, (pt b2 0)), (1, .func (.func 112) #[] #[(pt b12 0), (pt b20 0), (pt b22 0)]), (15, .bool (!y56))] (by kernel_rfl) fun a hs => ?_
  refine s_end ?_
  rcases ifbE hk with ⟨h58, hk⟩ | ⟨h58, hk⟩
  · refine c_cond1 hs (by kernel_rfl) (t := (!y56)) (by kernel_rfl) h58 ?_
    refine c_seq ?_
    refine c_regD hs 3 [1, 18] [(1, .func (.func 112) #[] #[(pt b12 0), (pt b20 0), (pt b22 0)]), (18, (pt b2 0))] (by kernel_rfl) rfl (by kernel_rfl) (by kernel_rfl) (vs := #[(pt b2 0), .bool true]) (by kernel_rfl) fun a hs => ?_
    refine c_region ?_
    refine pures hs 1 [19] [(19, .func (.func 112) #[] #[(pt b12 0), (pt b20 0), (pt b22 0)])] (by kernel_rfl) fun a hs => ?_
    obtain ⟨y64, h65, hk⟩ := bindE hk
    refine s_call hs (by kernel_rfl) (by kernel_rfl) (latch_Latch_api_Reply_Set_1_2_s (x13 := x3) (x14 := x4) (x15 := x5) (x16 := x6) (x17 := x7) h65 h18 h10 ((hw.pick [1, 2, 0, 3, 4] (by kernel_rfl)).pack 4)) fun a w v hv hs => ?_
    obtain ⟨p66, c67, rfl, hw, h68⟩ := hv
    replace hw := hw.unpack 4 rfl
    refine s_end ?_
    refine hQn _ _ (f_leave hs ?_)
    have h70 : sync_atomic_Bool_Store_4 = some () := rfl
    refine leave_call (by kernel_rfl) (sync_atomic_Bool_Store_4_sD (x3 := x3) (x4 := y64.1) (x5 := y64.2.1) (x6 := y64.2.2) h70 h68 ((hw.pick [2, 0, 1, 3, 4] (by kernel_rfl)).pack 1)) fun v w hv => ?_
    obtain ⟨rfl, hw⟩ := hv
    replace hw := hw.unpack 1 rfl
    have h72 : sync_Mutex_Unlock = some () := rfl
    refine leave_call (by kernel_rfl) (sync_Mutex_Unlock_sD (x3 := y64.1) (x4 := y64.2.1) (x5 := y64.2.2) h72 h68 ((hw.pick [0, 1, 2, 3, 4] (by kernel_rfl)).pack 1)) fun v w hv => ?_
    obtain ⟨rfl, hw⟩ := hv
    replace hw := hw.unpack 1 rfl
    obtain rfl := someE hk
    refine leave_end rfl ⟨p66, c67, rfl, hw.pick [0, 1, 2, 3, 4] (by kernel_rfl), h68⟩
  refine c_cond0 hs (by kernel_rfl) (t := (!y56)) (by kernel_rfl) h58 ?_
  refine c_skip ?_
  refine hQn _ _ (f_leave hs ?_)
  have h74 : sync_Mutex_Unlock_2 = some () := rfl
  refine leave_call (by kernel_rfl) (sync_Mutex_Unlock_2_sD (x3 := x3) (x4 := x4) (x5 := x5) (x6 := x6) (x7 := x7) h74 h10 ((hw.pick [0, 1, 2, 3, 4] (by kernel_rfl)).pack 1)) fun v w hv => ?_
  obtain ⟨rfl, hw⟩ := hv
  replace hw := hw.unpack 1 rfl
  obtain rfl := someE hk
  refine leave_end rfl ⟨p8, c9, rfl, hw.pick [0, 1, 2, 3, 4] (by kernel_rfl), h10⟩
def sync_Once_Do_2 (x3 : Int) (x4 : Int) (x5 : Int) (x6 : Int) (x7 : List Int) (x13 : Int) (x14 : Int) (x15 : List Int) : Option (Int × Int × Int × Int × (List Int) × Bool) :=
  (sync_atomic_Bool_Load_5 x3).bind fun y42 =>
  if (!y42) = true then (
    (sync_Once_doSlow_2 x3 x4 x5 x6 x7 x13 x14 x15).bind fun y50 =>
    some (y50.1, y50.2.1, y50.2.2.1, y50.2.2.2.1, y50.2.2.2.2.1, y50.2.2.2.2.2))
  else some (x3, x4, x5, x6, x7, false)
theorem sync_Once_Do_2_s {x3 : Int} {x4 : Int} {x5 : Int} {x6 : Int} {x7 : List Int} {x13 : Int} {x14 : Int} {x15 : List Int} {b2 : Nat} {p8 : Option Addr} {c9 : Nat} {b12 : Nat} {p16 : Option Addr} {c17 : Nat} {b20 : Nat} {b22 : Nat} {r : Int × Int × Int × Int × (List Int) × Bool} (hk : sync_Once_Do_2 x3 x4 x5 x6 x7 x13 x14 x15 = some r) {g w : World} {F : Ch} {ih : IH} (h10 : RSl e5 ih [] p8 c9 x7) (h18 : RSl e5 ih [] p16 c17 x15) (hw : St g w [bx b2 [vu32 x3, vi32 0, vu32 0, vu32 x4, vi64 x5, vu64 x6, .slice p8 x7.length c9] 126, bx b12 [vi64 x13, vu64 x14, .slice p16 x15.length c17] 51, bx b20 [(pt b2 0)] 83, bx b22 [.bool false] 4, F] ih) :
    CallsR Tryz.prog 111 #[(pt b2 0), .func (.func 112) #[] #[(pt b12 0), (pt b20 0), (pt b22 0)]] w fun v w' => ∃ (p55 : Option Addr) (c56 : Nat), v = .tuple #[] ∧ St g w' [bx b2 [vu32 r.1, vi32 0, vu32 0, vu32 r.2.1, vi64 r.2.2.1, vu64 r.2.2.2.1, .slice p55 r.2.2.2.2.1.length c56] 126, bx b12 [vi64 x13, vu64 x14, .slice p16 x15.length c17] 51, bx b20 [(pt b2 0)] 83, bx b22 [.bool r.2.2.2.2.2] 4, F] ih ∧ RSl e5 ih [] p55 c56 r.2.2.2.2.1 := by
  refine f_in (vs := [(pt b2 0), .func (.func 112) #[] #[(pt b12 0), (pt b20 0), (pt b22 0)]]) Tryz.func111 rfl 12 rfl (by kernel_rfl) [(0, (pt b2 0)), (1, .func (.func 112) #[] #[(pt b12 0), (pt b20 0), (pt b22 0)])] (by kernel_rfl) fun a Qf hQ hQn hs => ?_
  refine c_seq ?_
  refine c_region ?_
  refine pures hs 3 [0, 1, 6] [(0, (pt b2 0)), (1, .func (.func 112) #[] #[(pt b12 0), (pt b20 0), (pt b22 0)]), (6, (pt b2 0))] (by kernel_rfl) fun a hs => ?_
  obtain ⟨y42, h43, hk⟩ := bindE hk
  refine s_call hs (by kernel_rfl) (by kernel_rfl) (sync_atomic_Bool_Load_5_s (x4 := x4) (x5 := x5) (x6 := x6) (x7 := x7) h43 h10 ((hw.pick [0, 1, 2, 3, 4] (by kernel_rfl)).pack 1)) fun a w v hv hs => ?_
  obtain ⟨rfl, hw⟩ := hv
  replace hw := hw.unpack 1 rfl
  refine pures hs 1 [0, 1, 8] [(0, (pt b2 0)), (1, .func (.func 112) #[] #[(pt b12 0), (pt b20 0), (pt b22 0)]), (8, .bool (!y42))] (by kernel_rfl) fun a hs => ?_
  refine s_end ?_
  rcases ifbE hk with ⟨h44, hk⟩ | ⟨h44, hk⟩
  · refine c_cond1 hs (by kernel_rfl) (t := (!y42)) (by kernel_rfl) h44 ?_
    refine c_region ?_
    refine pures hs 2 [9, 10] [(9, (pt b2 0)), (10, .func (.func 112) #[] #[(pt b12 0), (pt b20 0), (pt b22 0)])] (by kernel_rfl) fun a hs => ?_
    obtain ⟨y50, h51, hk⟩ := bindE hk
    refine s_call hs (by kernel_rfl) (by kernel_rfl) (sync_Once_doSlow_2_s h51 h10 h18 ((hw.pick [0, 1, 2, 3, 4] (by kernel_rfl)).pack 4)) fun a w v hv hs => ?_
    obtain ⟨p52, c53, rfl, hw, h54⟩ := hv
    replace hw := hw.unpack 4 rfl
    refine s_end ?_
    obtain rfl := someE hk
    refine hQn _ _ (f_retN hs [] rfl [] (by kernel_rfl) (by kernel_rfl) ⟨p52, c53, rfl, hw.pick [0, 1, 2, 3, 4] (by kernel_rfl), h54⟩)
  refine c_cond0 hs (by kernel_rfl) (t := (!y42)) (by kernel_rfl) h44 ?_
  refine c_skip ?_
  obtain rfl := someE hk
  refine hQn _ _ (f_retN hs [] rfl [] (by kernel_rfl) (by kernel_rfl) ⟨p8, c9, rfl, hw.pick [0, 1, 2, 3, 4] (by kernel_rfl), h10⟩)
def latch_Latch_api_Reply_Set_3 (x3 : Int) (x4 : Int) (x5 : Int) (x6 : Int) (x7 : List Int) (x11 : M51) : Option (Bool × Int × Int × Int × Int × (List Int)) :=
  (sync_Once_Do_2 x3 x4 x5 x6 x7 x11.f0 x11.f1 x11.f2).bind fun y56 =>
  some (y56.2.2.2.2.2, y56.1, y56.2.1, y56.2.2.1, y56.2.2.2.1, y56.2.2.2.2.1)
theorem latch_Latch_api_Reply_Set_3_s {x3 : Int} {x4 : Int} {x5 : Int} {x6 : Int} {x7 : List Int} {x11 : M51} {b2 : Nat} {p8 : Option Addr} {c9 : Nat} {p12 : Option Addr} {c13 : Nat} {r : Bool × Int × Int × Int × Int × (List Int)} (hk : latch_Latch_api_Reply_Set_3 x3 x4 x5 x6 x7 x11 = some r) {g w : World} {F : Ch} {ih : IH} (h10 : RSl e5 ih [] p8 c9 x7) (h14 : RSl e5 ih [] p12 c13 x11.f2) (hw : St g w [bx b2 [vu32 x3, vi32 0, vu32 0, vu32 x4, vi64 x5, vu64 x6, .slice p8 x7.length c9] 126, F] ih) :
    CallsR Tryz.prog 64 #[(pt b2 0), .agg #[vi64 x11.f0, vu64 x11.f1, .slice p12 x11.f2.length c13]] w fun v w' => ∃ (p61 : Option Addr) (c62 : Nat), v = .bool r.1 ∧ St g w' [bx b2 [vu32 r.2.1, vi32 0, vu32 0, vu32 r.2.2.1, vi64 r.2.2.2.1, vu64 r.2.2.2.2.1, .slice p61 r.2.2.2.2.2.length c62] 126, F] ih ∧ RSl e5 ih [] p61 c62 r.2.2.2.2.2 := by
  refine f_in (vs := [(pt b2 0), .agg #[vi64 x11.f0, vu64 x11.f1, .slice p12 x11.f2.length c13]]) Tryz.func64 rfl 14 rfl (by kernel_rfl) [(0, (pt b2 0)), (1, .agg #[vi64 x11.f0, vu64 x11.f1, .slice p12 x11.f2.length c13])] (by kernel_rfl) fun a Qf hQ hQn hs => ?_
  refine c_seq ?_
  refine c_region ?_
  refine s_new hs hw [(pt b2 0)] 83 (fun b => (pt b 0)) (by kernel_rfl) (fun _ => by kernel_rfl) fun a w b43 hs hw => ?_
  refine s_new hs hw [vi64 x11.f0, vu64 x11.f1, .slice p12 x11.f2.length c13] 51 (fun b => (pt b 0)) (by kernel_rfl) (fun _ => by kernel_rfl) fun a w b45 hs hw => ?_
  refine pures hs 1 [2, 3] [(2, (pt b43 0)), (3, (pt b45 0))] (by kernel_rfl) fun a hs => ?_
  refine s_end ?_
  refine c_seq ?_
  refine c_seq ?_
  refine c_region ?_
  refine s_load hs (hw.at_ 1 rfl) 0 (by kernel_rfl) (by kernel_rfl) (v := (pt b2 0)) (by kernel_rfl) fun a hs => ?_
  refine pures hs 1 [2, 3, 7] [(2, (pt b43 0)), (3, (pt b45 0)), (7, .bool false)] (by kernel_rfl) fun a hs => ?_
  refine s_end ?_
  refine c_condF hs (by kernel_rfl) (by kernel_rfl) ?_
  refine c_skip ?_
  refine c_seq ?_
  refine c_region ?_
  refine s_new hs hw [.bool false] 4 (fun b => (pt b 0)) (by kernel_rfl) (fun _ => by kernel_rfl) fun a w b49 hs hw => ?_
  refine s_store hs hw 0 rfl 0 (by kernel_rfl) (by kernel_rfl) (v := .bool false) (by kernel_rfl) (by kernel_rfl) (by kernel_rfl) (by kernel_rfl) fun a w hs hw => ?_
  refine s_end ?_
  refine c_seq ?_
  refine c_region ?_
  refine s_load hs (hw.at_ 2 rfl) 0 (by kernel_rfl) (by kernel_rfl) (v := (pt b2 0)) (by kernel_rfl) fun a hs => ?_
  refine pures hs 3 [5, 10, 11] [(5, (pt b49 0)), (10, (pt b2 0)), (11, .func (.func 112) #[] #[(pt b45 0), (pt b43 0), (pt b49 0)])] (by kernel_rfl) fun a hs => ?_
  obtain ⟨y56, h57, hk⟩ := bindE hk
  refine s_call hs (by kernel_rfl) (by kernel_rfl) (sync_Once_Do_2_s h57 h10 h14 ((hw.pick [3, 1, 2, 0, 4] (by kernel_rfl)).pack 4)) fun a w v hv hs => ?_
  obtain ⟨p58, c59, rfl, hw, h60⟩ := hv
  replace hw := hw.unpack 4 rfl
  refine s_end ?_
  refine c_seq ?_
  refine c_region ?_
  refine s_load hs (hw.at_ 3 rfl) 0 (by kernel_rfl) (by kernel_rfl) (v := .bool y56.2.2.2.2.2) (by kernel_rfl) fun a hs => ?_
  refine pures hs 1 [4] [(4, .bool y56.2.2.2.2.2)] (by kernel_rfl) fun a hs => ?_
  refine s_end ?_
  refine c_ret ?_
  obtain rfl := someE hk
  refine hQ _ _ (f_ret1 hs rfl (v := .bool y56.2.2.2.2.2) (by kernel_rfl) ⟨p58, c59, rfl, hw.pick [0, 4] (by kernel_rfl), h60⟩)
def caller_Caller_answer_3_r3 (x5 : Int) (x42 : M51) (x102 : Int) (x103 : Int) (x104 : Int) (x105 : Int) (x106 : List Int) : Option (Int × Int × Int × (List Int) × Int × Int × Int × Int × (List Int)) :=
  some (x5, x42.f0, x42.f1, x42.f2, x102, x103, x104, x105, x106)
def caller_Caller_answer_3_r4 (x5 : Int) (x42 : M51) (x35 : Int) (x36 : Int) (x37 : Int) (x38 : List Int) (x101 : Bool) (x102 : Int) (x103 : Int) (x104 : Int) (x105 : Int) (x106 : List Int) : Option (Int × Int × Int × (List Int) × Int × Int × Int × Int × (List Int)) :=
  if x101 = true then caller_Caller_answer_3_r3 x5 x42 x102 x103 x104 x105 x106
  else some (x35, x36, x37, x38, x102, x103, x104, x105, x106)
def caller_Caller_answer_3 (x5 : Int) (x27 : Int) (x28 : Int) (x29 : Int) (x30 : Int) (x31 : List Int) (x35 : Int) (x36 : Int) (x37 : Int) (x38 : List Int) (x42 : M51) : Option (Int × Int × Int × (List Int) × Int × Int × Int × Int × (List Int)) :=
  ((latch_Latch_api_Reply_Set_3 x27 x28 x29 x30 x31 x42).bind fun y118 =>
    some (y118.1, y118.2.1, y118.2.2.1, y118.2.2.2.1, y118.2.2.2.2.1, y118.2.2.2.2.2) : Option (Bool × Int × Int × Int × Int × (List Int))).bind fun s123 => caller_Caller_answer_3_r4 x5 x42 x35 x36 x37 x38 s123.1 s123.2.1 s123.2.2.1 s123.2.2.2.1 s123.2.2.2.2.1 s123.2.2.2.2.2
theorem caller_Caller_answer_3_s {x3 : Int} {x4 : Int} {x5 : Int} {x6 : Int} {x9 : List M44} {x15 : Value} {x17 : Int} {x18 : Int} {x19 : Int} {x20 : List Int} {x24 : Int} {x27 : Int} {x28 : Int} {x29 : Int} {x30 : Int} {x31 : List Int} {x35 : Int} {x36 : Int} {x37 : Int} {x38 : List Int} {x42 : M51} {b2 : Nat} {b8 : Nat} {p10 : Option Addr} {c11 : Nat} {d13 : Ch} {p21 : Option Addr} {c22 : Nat} {b26 : Nat} {p32 : Option Addr} {c33 : Nat} {p39 : Option Addr} {c40 : Nat} {p43 : Option Addr} {c44 : Nat} {r : Int × Int × Int × (List Int) × Int × Int × Int × Int × (List Int)} (hk : caller_Caller_answer_3 x5 x27 x28 x29 x30 x31 x35 x36 x37 x38 x42 = some r) {g w : World} {F : Ch} {ih : IH} (h12 : OSl e44 ih p10 c11 x9 d13) (h16 : x15.oneCell' = true) (h23 : RSl e5 ih [] p21 c22 x20) (h34 : RSl e5 ih [] p32 c33 x31) (h41 : RSl e5 ih [] p39 c40 x38) (h45 : RSl e5 ih [] p43 c44 x42.f2) (hw : St g w [bx b2 [vi64 x3, vi64 x4, vu64 x5, vi64 x6, (pt b8 0), vi64 x17, vu32 x18, vu64 x19, .slice p21 x20.length c22, vi64 x24, (pt b26 0), vu64 x35, vi64 x36, vu64 x37, .slice p39 x38.length c40] 85, bx b8 [.slice p10 x9.length c11, x15] 113, d13, bx b26 [vu32 x27, vi32 0, vu32 0, vu32 x28, vi64 x29, vu64 x30, .slice p32 x31.length c33] 126, F] ih) :
    CallsR Tryz.prog 37 #[(pt b2 0), .agg #[vi64 x42.f0, vu64 x42.f1, .slice p43 x42.f2.length c44]] w fun v w' => ∃ (p124 : Option Addr) (c125 : Nat) (p126 : Option Addr) (c127 : Nat), v = .tuple #[] ∧ St g w' [bx b2 [vi64 x3, vi64 x4, vu64 x5, vi64 x6, (pt b8 0), vi64 x17, vu32 x18, vu64 x19, .slice p21 x20.length c22, vi64 x24, (pt b26 0), vu64 r.1, vi64 r.2.1, vu64 r.2.2.1, .slice p124 r.2.2.2.1.length c125] 85, bx b8 [.slice p10 x9.length c11, x15] 113, d13, bx b26 [vu32 r.2.2.2.2.1, vi32 0, vu32 0, vu32 r.2.2.2.2.2.1, vi64 r.2.2.2.2.2.2.1, vu64 r.2.2.2.2.2.2.2.1, .slice p126 r.2.2.2.2.2.2.2.2.length c127] 126, F] ih ∧ RSl e5 ih [] p124 c125 r.2.2.2.1 ∧ RSl e5 ih [] p126 c127 r.2.2.2.2.2.2.2.2 := by
  refine f_in (vs := [(pt b2 0), .agg #[vi64 x42.f0, vu64 x42.f1, .slice p43 x42.f2.length c44]]) Tryz.func37 rfl 21 rfl (by kernel_rfl) [(0, (pt b2 0)), (1, .agg #[vi64 x42.f0, vu64 x42.f1, .slice p43 x42.f2.length c44])] (by kernel_rfl) fun a Qf hQ hQn hs => ?_
  refine c_seq ?_
  refine c_region ?_
  refine s_new hs hw [vi64 x42.f0, vu64 x42.f1, .slice p43 x42.f2.length c44] 51 (fun b => (pt b 0)) (by kernel_rfl) (fun _ => by kernel_rfl) fun a w b88 hs hw => ?_
  refine s_end ?_
  refine c_seq ?_
  obtain ⟨S90, hS90, kS90⟩ := mkSX (X := [([], bx b88 [vi64 x42.f0, vu64 x42.f1, .slice p43 x42.f2.length c44] 51), ([], bx b2 [vi64 x3, vi64 x4, vu64 x5, vi64 x6, (pt b8 0), vi64 x17, vu32 x18, vu64 x19, .slice p21 x20.length c22, vi64 x24, (pt b26 0), vu64 x35, vi64 x36, vu64 x37, .slice p39 x38.length c40] 85), ([], bx b8 [.slice p10 x9.length c11, x15] 113), ([], d13), ([5], bx b26 [vu32 x27, vi32 0, vu32 0, vu32 x28, vi64 x29, vu64 x30, .slice p32 x31.length c33] 126), ([], F)]) (ih := ih) (K := [5]) rfl
  obtain ⟨y115, hx116, hk⟩ := bindE hk
  obtain ⟨J117, hJ117⟩ : ∃ J : Act → World → Prop, ∀ a w, J a w ↔ (∃ (x101 : Bool) (x102 : Int) (x103 : Int) (x104 : Int) (x105 : Int) (x106 : List Int) (p107 : Option Addr) (c108 : Nat), caller_Caller_answer_3_r4 x5 x42 x35 x36 x37 x38 x101 x102 x103 x104 x105 x106 = some r ∧ Sees a 21 [(0, (pt b2 0)), (3, (pt b88 0)), (9, .bool x101)] ∧ St g w [bx b88 [vi64 x42.f0, vu64 x42.f1, .slice p43 x42.f2.length c44] 51, bx b2 [vi64 x3, vi64 x4, vu64 x5, vi64 x6, (pt b8 0), vi64 x17, vu32 x18, vu64 x19, .slice p21 x20.length c22, vi64 x24, (pt b26 0), vu64 x35, vi64 x36, vu64 x37, .slice p39 x38.length c40] 85, bx b8 [.slice p10 x9.length c11, x15] 113, bx b26 [vu32 x102, vi32 0, vu32 0, vu32 x103, vi64 x104, vu64 x105, .slice p107 x106.length c108] 126, d13, F] ih ∧ RSl e5 ih [] p107 c108 x106) := ⟨_, fun _ _ => Iff.rfl⟩
  refine c_draw (by kernel_rfl) (N := 6) rfl S90 J117 ?_ ?_
  · have hw := hw.drew
    have hS : S90 (Array.replicate 6 false) _ := SX_now hS90 (hw.vws [0, 1, 2, 3, 4, 5]) (by kernel_rfl)
    refine d_pures (fuel := 3) kS90 hs hS [0, 1, 2] [0, 3, 6] [(0, (pt b2 0)), (3, (pt b88 0)), (6, (pt b2 10))] (by kernel_rfl) fun a hs hS => ?_
    refine d_load (fuel := 2) kS90 hs hS 3 rfl (by kernel_rfl) (SX_box hS90 1 rfl (by kernel_rfl)) 10 (by kernel_rfl) (by kernel_rfl) (v := (pt b26 0)) (by kernel_rfl) fun a hs hS => ?_
    refine d_load (fuel := 1) kS90 hs hS 4 rfl (by kernel_rfl) (SX_box hS90 0 rfl (by kernel_rfl)) 0 (by kernel_rfl) (by kernel_rfl) (v := .agg #[vi64 x42.f0, vu64 x42.f1, .slice p43 x42.f2.length c44]) (by kernel_rfl) fun a hs hS => ?_
    refine d_all (fuel := 0) (rs := [5]) (by kernel_rfl) (by simp) (all1 ?_)
    obtain ⟨y118, h119, hx116⟩ := bindE hx116
    refine o_call hs rfl (by kernel_rfl) (by kernel_rfl) (latch_Latch_api_Reply_Set_3_s h119 h34 h45 ((hw.pick [4, 0, 1, 2, 3, 5] (by kernel_rfl)).pack 1)) fun a w v hv hs => ?_
    obtain ⟨p120, c121, rfl, hw, h122⟩ := hv
    replace hw := hw.unpack 1 rfl
    refine dg_next (SX_now hS90 ((hw.vws [1, 2, 3, 4, 5]).anti (Le.refl _)) (by kernel_rfl)) fun hS => ?_
    refine d_done (by kernel_rfl) ?_
    obtain rfl := someE hx116
    exact (hJ117 _ _).2 ⟨y118.1, y118.2.1, y118.2.2.1, y118.2.2.2.1, y118.2.2.2.2.1, y118.2.2.2.2.2, p120, c121, hk, hs.cast [0, 3, 9] (by kernel_rfl), hw.pick [1, 2, 3, 0, 4, 5] (by kernel_rfl), h122⟩
  intro a w hh
  obtain ⟨x101, x102, x103, x104, x105, x106, p107, c108, hk, hs, hw, h109⟩ := (hJ117 _ _).1 hh
  rcases ifbE hk with ⟨h110, hk⟩ | ⟨h110, hk⟩
  · refine c_cond1 hs (by kernel_rfl) (t := x101) (by kernel_rfl) h110 ?_
    obtain ⟨S111, hS111, kS111⟩ := mkSX (X := [([], bx b88 [vi64 x42.f0, vu64 x42.f1, .slice p43 x42.f2.length c44] 51), ([9, 12], bx b2 [vi64 x3, vi64 x4, vu64 x5, vi64 x6, (pt b8 0), vi64 x17, vu32 x18, vu64 x19, .slice p21 x20.length c22, vi64 x24, (pt b26 0), vu64 x35, vi64 x36, vu64 x37, .slice p39 x38.length c40] 85), ([], bx b8 [.slice p10 x9.length c11, x15] 113), ([], bx b26 [vu32 x102, vi32 0, vu32 0, vu32 x103, vi64 x104, vu64 x105, .slice p107 x106.length c108] 126), ([], d13), ([], F)]) (ih := ih) (K := [9, 12]) rfl
    obtain ⟨y112, hx113⟩ : ∃ y, (some () : Option Unit) = some y := ⟨_, rfl⟩
    obtain ⟨J114, hJ114⟩ : ∃ J : Act → World → Prop, ∀ a w, J a w ↔ (caller_Caller_answer_3_r3 x5 x42 x102 x103 x104 x105 x106 = some r ∧ Sees a 21 [] ∧ St g w [bx b2 [vi64 x3, vi64 x4, vu64 x5, vi64 x6, (pt b8 0), vi64 x17, vu32 x18, vu64 x19, .slice p21 x20.length c22, vi64 x24, (pt b26 0), vu64 x5, vi64 x42.f0, vu64 x42.f1, .slice p43 x42.f2.length c44] 85, bx b8 [.slice p10 x9.length c11, x15] 113, bx b26 [vu32 x102, vi32 0, vu32 0, vu32 x103, vi64 x104, vu64 x105, .slice p107 x106.length c108] 126, d13, F] ih) := ⟨_, fun _ _ => Iff.rfl⟩
    refine c_draw (by kernel_rfl) (N := 13) rfl S111 J114 ?_ ?_
    · have hw := hw.drew
      have hS : S111 (Array.replicate 13 false) _ := SX_now hS111 (hw.vws [0, 1, 2, 3, 4, 5]) (by kernel_rfl)
      refine d_pures (fuel := 8) kS111 hs hS [0, 1, 2, 3, 4] [3, 10, 11, 14] [(3, (pt b88 0)), (10, (pt b2 0)), (11, (pt b2 0)), (14, (pt b2 2))] (by kernel_rfl) fun a hs hS => ?_
      refine d_load (fuel := 7) kS111 hs hS 5 rfl (by kernel_rfl) (SX_box hS111 1 rfl (by kernel_rfl)) 2 (by kernel_rfl) (by kernel_rfl) (v := vu64 x5) (by kernel_rfl) fun a hs hS => ?_
      refine d_load (fuel := 6) kS111 hs hS 6 rfl (by kernel_rfl) (SX_box hS111 0 rfl (by kernel_rfl)) 0 (by kernel_rfl) (by kernel_rfl) (v := .agg #[vi64 x42.f0, vu64 x42.f1, .slice p43 x42.f2.length c44]) (by kernel_rfl) fun a hs hS => ?_
      refine d_pures (fuel := 4) kS111 hs hS [7, 8] [11, 15, 16, 18] [(11, (pt b2 0)), (15, vu64 x5), (16, .agg #[vi64 x42.f0, vu64 x42.f1, .slice p43 x42.f2.length c44]), (18, (pt b2 11))] (by kernel_rfl) fun a hs hS => ?_
      refine d_all (fuel := 3) (rs := [9]) (by kernel_rfl) (by simp) (all1 ?_)
      refine o_store hs hw rfl 1 rfl 11 (by kernel_rfl) (by kernel_rfl) (v := vu64 x5) (by kernel_rfl) (by kernel_rfl) (by kernel_rfl) (by kernel_rfl) fun a w hs hw => ?_
      refine dg_next (SX_now hS111 ((hw.vws [0, 2, 3, 4, 5]).anti (Le.refl _)) (by kernel_rfl)) fun hS => ?_
      refine d_pures (fuel := 1) kS111 hs hS [10, 11] [16, 20] [(16, .agg #[vi64 x42.f0, vu64 x42.f1, .slice p43 x42.f2.length c44]), (20, (pt b2 12))] (by kernel_rfl) fun a hs hS => ?_
      refine d_all (fuel := 0) (rs := [12]) (by kernel_rfl) (by simp) (all1 ?_)
      refine o_store hs hw rfl 1 rfl 12 (by kernel_rfl) (by kernel_rfl) (v := .agg #[vi64 x42.f0, vu64 x42.f1, .slice p43 x42.f2.length c44]) (by kernel_rfl) (by kernel_rfl) (by kernel_rfl) (by kernel_rfl) fun a w hs hw => ?_
      refine dg_next (SX_now hS111 ((hw.vws [0, 2, 3, 4, 5]).anti (Le.refl _)) (by kernel_rfl)) fun hS => ?_
      refine d_done (by kernel_rfl) ?_
      obtain rfl := someE hx113
      exact (hJ114 _ _).2 ⟨hk, hs.cast [] (by kernel_rfl), hw.pick [1, 2, 3, 4, 5] (by kernel_rfl)⟩
    intro a w hh
    obtain ⟨hk, hs, hw⟩ := (hJ114 _ _).1 hh
    obtain rfl := someE hk
    refine hQn _ _ (f_retN hs [] rfl [] (by kernel_rfl) (by kernel_rfl) ⟨p43, c44, p107, c108, rfl, hw.pick [0, 1, 3, 2, 4] (by kernel_rfl), h45, h109⟩)
  refine c_cond0 hs (by kernel_rfl) (t := x101) (by kernel_rfl) h110 ?_
  refine c_skip ?_
  obtain rfl := someE hk
  refine hQn _ _ (f_retN hs [] rfl [] (by kernel_rfl) (by kernel_rfl) ⟨p39, c40, p107, c108, rfl, hw.pick [1, 2, 4, 3, 5] (by kernel_rfl), h41, h109⟩)
def caller_Caller_Take_4_r13 (x795 : Int) (x796 : Int) (x797 : Int) (x798 : List Int) (x802 : List M44) (x808 : Int) (x809 : Int) (x810 : Int) (x811 : Int) (x812 : List Int) : Option ((List M48) × Int × Int × Int × (List Int) × (List M44) × Int × Int × Int × Int × (List Int)) :=
  some ([], x795, x796, x797, x798, x802, x808, x809, x810, x811, x812)
def caller_Caller_Take_4_r14 (k : Nat) (x3 : Int) (x5 : Int) (x17 : Int) (x18 : Int) (x19 : Int) (x20 : List Int) (x24 : Int) (x35 : Int) (x36 : Int) (x37 : Int) (x38 : List Int) (x27 : Int) (x28 : Int) (x29 : Int) (x30 : Int) (x31 : List Int) (x863 : Bool) (x864 : List M44) : Option (Sum ((List M48) × Int × Int × Int × (List Int) × (List M44) × Int × Int × Int × Int × (List Int)) (Int × Int × Int × (List Int) × (List M44) × Int × Int × Int × Int × (List Int))) :=
  if x863 = true then (
    (caller_Caller_ask k x3 x5 x864 x17 x18 x19 x20 x24).bind fun y880 =>
    some (.inl (y880, x35, x36, x37, x38, x864, x27, x28, x29, x30, x31)))
  else some (.inr (x35, x36, x37, x38, x864, x27, x28, x29, x30, x31))
def caller_Caller_Take_4_r15 (x9 : List M44) (x982 : Int) (x983 : Int) (x984 : Int) (x985 : List Int) (x989 : Int) (x990 : Int) (x991 : Int) (x992 : Int) (x993 : List Int) : Option (Sum ((List M48) × Int × Int × Int × (List Int) × (List M44) × Int × Int × Int × Int × (List Int)) (Int × Int × Int × (List Int) × (List M44) × Int × Int × Int × Int × (List Int))) :=
  some (.inr (x982, x983, x984, x985, x9, x989, x990, x991, x992, x993))
def caller_Caller_Take_4_r16 (x42 : M48) (x5 : Int) (x27 : Int) (x28 : Int) (x29 : Int) (x30 : Int) (x31 : List Int) (x35 : Int) (x36 : Int) (x37 : Int) (x38 : List Int) (x9 : List M44) (x941 : Bool) : Option (Sum ((List M48) × Int × Int × Int × (List Int) × (List M44) × Int × Int × Int × Int × (List Int)) (Int × Int × Int × (List Int) × (List M44) × Int × Int × Int × Int × (List Int))) :=
  if x941 = true then (
    ((bytes_Clone x42.f17).bind fun y1000 =>
      (caller_Caller_answer_3 x5 x27 x28 x29 x30 x31 x35 x36 x37 x38 (M51.mk 0 x42.f9 y1000)).bind fun y1010 =>
      some (y1010.1, y1010.2.1, y1010.2.2.1, y1010.2.2.2.1, y1010.2.2.2.2.1, y1010.2.2.2.2.2.1, y1010.2.2.2.2.2.2.1, y1010.2.2.2.2.2.2.2.1, y1010.2.2.2.2.2.2.2.2) : Option (Int × Int × Int × (List Int) × Int × Int × Int × Int × (List Int))).bind fun s1018 => caller_Caller_Take_4_r15 x9 s1018.1 s1018.2.1 s1018.2.2.1 s1018.2.2.2.1 s1018.2.2.2.2.1 s1018.2.2.2.2.2.1 s1018.2.2.2.2.2.2.1 s1018.2.2.2.2.2.2.2.1 s1018.2.2.2.2.2.2.2.2)
  else some (.inr (x35, x36, x37, x38, x9, x27, x28, x29, x30, x31))
def caller_Caller_Take_4_r17 (k : Nat) (x42 : M48) (x9 : List M44) (x28 : Int) (x29 : Int) (x30 : Int) (x31 : List Int) (x18 : Int) (x3 : Int) (x5 : Int) (x17 : Int) (x19 : Int) (x20 : List Int) (x24 : Int) (x35 : Int) (x36 : Int) (x37 : Int) (x38 : List Int) (x27 : Int) (x588 : Bool) : Option ((List M48) × Int × Int × Int × (List Int) × (List M44) × Int × Int × Int × Int × (List Int)) :=
  (if (x42.f0 == 11) = true then (
      ((atlas_Atlas_Learn k x9 x42.f14).bind fun y892 =>
        if y892.1 = true then (
          (caller_Caller_Busy_6 x28 x29 x30 x31).bind fun y901 =>
          if y901 = true then (
            (atlas_Atlas_Of k y892.2 x18).bind fun y904 =>
            some ((y904.f0 == x42.f14.f0), y892.2))
          else some (false, y892.2))
        else some (false, y892.2) : Option (Bool × (List M44))).bind fun s911 => caller_Caller_Take_4_r14 k x3 x5 x17 x18 x19 x20 x24 x35 x36 x37 x38 x27 x28 x29 x30 x31 s911.1 s911.2)
    else if (x42.f0 == 18) = true then (
      if (x588 && (!(x17 == 1))) = true then (
        (caller_Caller_answer_3 x5 x27 x28 x29 x30 x31 x35 x36 x37 x38 (M51.mk x42.f12 x42.f9 ([]))).bind fun y927 =>
        some (.inr (y927.1, y927.2.1, y927.2.2.1, y927.2.2.2.1, x9, y927.2.2.2.2.1, y927.2.2.2.2.2.1, y927.2.2.2.2.2.2.1, y927.2.2.2.2.2.2.2.1, y927.2.2.2.2.2.2.2.2)))
      else some (.inr (x35, x36, x37, x38, x9, x27, x28, x29, x30, x31)))
    else if (x42.f0 == 20) = true then (
      (if x588 = true then (
          if (x17 == 1) = true then some (x42.f11 == x18)
          else some false)
        else some false : Option Bool).bind fun s1024 => caller_Caller_Take_4_r16 x42 x5 x27 x28 x29 x30 x31 x35 x36 x37 x38 x9 s1024)
    else some (.inr (x35, x36, x37, x38, x9, x27, x28, x29, x30, x31)) : Option (Sum ((List M48) × Int × Int × Int × (List Int) × (List M44) × Int × Int × Int × Int × (List Int)) (Int × Int × Int × (List Int) × (List M44) × Int × Int × Int × Int × (List Int)))).bind fun
    | .inl z => some z
    | .inr s1025 => caller_Caller_Take_4_r13 s1025.1 s1025.2.1 s1025.2.2.1 s1025.2.2.2.1 s1025.2.2.2.2.1 s1025.2.2.2.2.2.1 s1025.2.2.2.2.2.2.1 s1025.2.2.2.2.2.2.2.1 s1025.2.2.2.2.2.2.2.2.1 s1025.2.2.2.2.2.2.2.2.2
def caller_Caller_Take_4_r18 (k : Nat) (x35 : Int) (x36 : Int) (x37 : Int) (x38 : List Int) (x9 : List M44) (x27 : Int) (x28 : Int) (x29 : Int) (x30 : Int) (x31 : List Int) (x42 : M48) (x5 : Int) (x18 : Int) (x3 : Int) (x17 : Int) (x19 : Int) (x20 : List Int) (x24 : Int) (x571 : Bool) : Option ((List M48) × Int × Int × Int × (List Int) × (List M44) × Int × Int × Int × Int × (List Int)) :=
  if x571 = true then some ([], x35, x36, x37, x38, x9, x27, x28, x29, x30, x31)
  else ((letter_Node x42.f1).bind fun y1029 =>
    if y1029 = true then (
      if (x42.f6 == x5) = true then (
        (caller_Caller_Busy_6 x28 x29 x30 x31).bind fun y1033 =>
        some y1033)
      else some false)
    else some false : Option Bool).bind fun s1035 => caller_Caller_Take_4_r17 k x42 x9 x28 x29 x30 x31 x18 x3 x5 x17 x19 x20 x24 x35 x36 x37 x38 x27 s1035
def caller_Caller_Take_4 (k : Nat) (x3 : Int) (x5 : Int) (x9 : List M44) (x17 : Int) (x18 : Int) (x19 : Int) (x20 : List Int) (x24 : Int) (x27 : Int) (x28 : Int) (x29 : Int) (x30 : Int) (x31 : List Int) (x35 : Int) (x36 : Int) (x37 : Int) (x38 : List Int) (x42 : M48) : Option ((List M48) × Int × Int × Int × (List Int) × (List M44) × Int × Int × Int × Int × (List Int)) :=
  ((letter_Check k x42).bind fun y1039 =>
    if (y1039 != 0) = true then some true
    else (caller_Caller_Address x3).bind fun y1044 =>
    some (x42.f2 != y1044) : Option Bool).bind fun s1046 => caller_Caller_Take_4_r18 k x35 x36 x37 x38 x9 x27 x28 x29 x30 x31 x42 x5 x18 x3 x17 x19 x20 x24 s1046
theorem caller_Caller_Take_4_s {k : Nat} {x3 : Int} {x4 : Int} {x5 : Int} {x6 : Int} {x9 : List M44} {x15 : Value} {x17 : Int} {x18 : Int} {x19 : Int} {x20 : List Int} {x24 : Int} {x27 : Int} {x28 : Int} {x29 : Int} {x30 : Int} {x31 : List Int} {x35 : Int} {x36 : Int} {x37 : Int} {x38 : List Int} {x42 : M48} {b2 : Nat} {b8 : Nat} {p10 : Option Addr} {c11 : Nat} {d13 : Ch} {p21 : Option Addr} {c22 : Nat} {b26 : Nat} {p32 : Option Addr} {c33 : Nat} {p39 : Option Addr} {c40 : Nat} {p43 : Option Addr} {c44 : Nat} {p46 : Option Addr} {c47 : Nat} {p49 : Option Addr} {c50 : Nat} {p52 : Option Addr} {c53 : Nat} {r : (List M48) × Int × Int × Int × (List Int) × (List M44) × Int × Int × Int × Int × (List Int)} (hk : caller_Caller_Take_4 k x3 x5 x9 x17 x18 x19 x20 x24 x27 x28 x29 x30 x31 x35 x36 x37 x38 x42 = some r) {g w : World} {F : Ch} {ih : IH} (h12 : OSl e44 ih p10 c11 x9 d13) (h16 : x15.oneCell' = true) (h23 : RSl e5 ih [] p21 c22 x20) (h34 : RSl e5 ih [] p32 c33 x31) (h41 : RSl e5 ih [] p39 c40 x38) (h45 : RSl e3 ih [] p43 c44 x42.f14.f2) (h48 : RSl e156 ih [] p46 c47 x42.f15) (h51 : RSl e96 ih [] p49 c50 x42.f16) (h54 : RSl e5 ih [] p52 c53 x42.f17) (hG : Glob 0 gl0 162 ih) (hw : St g w [bx b2 [vi64 x3, vi64 x4, vu64 x5, vi64 x6, (pt b8 0), vi64 x17, vu32 x18, vu64 x19, .slice p21 x20.length c22, vi64 x24, (pt b26 0), vu64 x35, vi64 x36, vu64 x37, .slice p39 x38.length c40] 85, bx b8 [.slice p10 x9.length c11, x15] 113, d13, bx b26 [vu32 x27, vi32 0, vu32 0, vu32 x28, vi64 x29, vu64 x30, .slice p32 x31.length c33] 126, F] ih) :
    CallsR Tryz.prog 12 #[(pt b2 0), .agg #[vi64 x42.f0, vi64 x42.f1, vi64 x42.f2, vi64 x42.f3, vu64 x42.f4, vu64 x42.f5, vu64 x42.f6, vu64 x42.f7, vu64 x42.f8, vu64 x42.f9, vi64 x42.f10, vu32 x42.f11, vi64 x42.f12, vi64 x42.f13.f0, vi64 x42.f13.f1, vu64 x42.f13.f2, vi64 x42.f13.f3, vi64 x42.f14.f0, vu64 x42.f14.f1, .slice p43 x42.f14.f2.length c44, .bool x42.f14.f3, vi64 x42.f14.f4, .slice p46 x42.f15.length c47, .slice p49 x42.f16.length c50, .slice p52 x42.f17.length c53]] w fun v w' => ∃ (ih' : IH) (p1047 : Option Addr) (c1048 : Nat) (d1050 : Ch) (p1052 : Option Addr) (c1053 : Nat) (p1054 : Option Addr) (c1055 : Nat) (d1056 : Ch) (p1057 : Option Addr) (c1058 : Nat), v = .slice p1047 r.1.length c1048 ∧ St g w' [d1050, bx b2 [vi64 x3, vi64 x4, vu64 x5, vi64 x6, (pt b8 0), vi64 x17, vu32 x18, vu64 x19, .slice p21 x20.length c22, vi64 x24, (pt b26 0), vu64 r.2.1, vi64 r.2.2.1, vu64 r.2.2.2.1, .slice p1052 r.2.2.2.2.1.length c1053] 85, bx b8 [.slice p1054 r.2.2.2.2.2.1.length c1055, x15] 113, d1056, bx b26 [vu32 r.2.2.2.2.2.2.1, vi32 0, vu32 0, vu32 r.2.2.2.2.2.2.2.1, vi64 r.2.2.2.2.2.2.2.2.1, vu64 r.2.2.2.2.2.2.2.2.2.1, .slice p1057 r.2.2.2.2.2.2.2.2.2.2.length c1058] 126, F] ih' ∧ Le ih ih' ∧ OSl e48 ih' p1047 c1048 r.1 d1050 ∧ RSl e5 ih' [] p1052 c1053 r.2.2.2.2.1 ∧ OSl e44 ih' p1054 c1055 r.2.2.2.2.2.1 d1056 ∧ RSl e5 ih' [] p1057 c1058 r.2.2.2.2.2.2.2.2.2.2 := by
  refine f_in (vs := [(pt b2 0), .agg #[vi64 x42.f0, vi64 x42.f1, vi64 x42.f2, vi64 x42.f3, vu64 x42.f4, vu64 x42.f5, vu64 x42.f6, vu64 x42.f7, vu64 x42.f8, vu64 x42.f9, vi64 x42.f10, vu32 x42.f11, vi64 x42.f12, vi64 x42.f13.f0, vi64 x42.f13.f1, vu64 x42.f13.f2, vi64 x42.f13.f3, vi64 x42.f14.f0, vu64 x42.f14.f1, .slice p43 x42.f14.f2.length c44, .bool x42.f14.f3, vi64 x42.f14.f4, .slice p46 x42.f15.length c47, .slice p49 x42.f16.length c50, .slice p52 x42.f17.length c53]]) Tryz.func12 rfl 115 rfl (by kernel_rfl) [(0, (pt b2 0)), (1, .agg #[vi64 x42.f0, vi64 x42.f1, vi64 x42.f2, vi64 x42.f3, vu64 x42.f4, vu64 x42.f5, vu64 x42.f6, vu64 x42.f7, vu64 x42.f8, vu64 x42.f9, vi64 x42.f10, vu32 x42.f11, vi64 x42.f12, vi64 x42.f13.f0, vi64 x42.f13.f1, vu64 x42.f13.f2, vi64 x42.f13.f3, vi64 x42.f14.f0, vu64 x42.f14.f1, .slice p43 x42.f14.f2.length c44, .bool x42.f14.f3, vi64 x42.f14.f4, .slice p46 x42.f15.length c47, .slice p49 x42.f16.length c50, .slice p52 x42.f17.length c53])] (by kernel_rfl) fun a Qf hQ hQn hs => ?_
  refine c_seq ?_
  refine c_region ?_
  refine s_new hs hw [vi64 x42.f0, vi64 x42.f1, vi64 x42.f2, vi64 x42.f3, vu64 x42.f4, vu64 x42.f5, vu64 x42.f6, vu64 x42.f7, vu64 x42.f8, vu64 x42.f9, vi64 x42.f10, vu32 x42.f11, vi64 x42.f12, vi64 x42.f13.f0, vi64 x42.f13.f1, vu64 x42.f13.f2, vi64 x42.f13.f3, vi64 x42.f14.f0, vu64 x42.f14.f1, .slice p43 x42.f14.f2.length c44, .bool x42.f14.f3, vi64 x42.f14.f4, .slice p46 x42.f15.length c47, .slice p49 x42.f16.length c50, .slice p52 x42.f17.length c53] 48 (fun b => (pt b 0)) (by kernel_rfl) (fun _ => by kernel_rfl) fun a w b552 hs hw => ?_
  refine pures hs 1 [0, 3] [(0, (pt b2 0)), (3, (pt b552 0))] (by kernel_rfl) fun a hs => ?_
  refine s_end ?_
  refine c_seq ?_
  refine c_seq ?_
  obtain ⟨S554, hS554, kS554⟩ := mkSX (X := [([], bx b552 [vi64 x42.f0, vi64 x42.f1, vi64 x42.f2, vi64 x42.f3, vu64 x42.f4, vu64 x42.f5, vu64 x42.f6, vu64 x42.f7, vu64 x42.f8, vu64 x42.f9, vi64 x42.f10, vu32 x42.f11, vi64 x42.f12, vi64 x42.f13.f0, vi64 x42.f13.f1, vu64 x42.f13.f2, vi64 x42.f13.f3, vi64 x42.f14.f0, vu64 x42.f14.f1, .slice p43 x42.f14.f2.length c44, .bool x42.f14.f3, vi64 x42.f14.f4, .slice p46 x42.f15.length c47, .slice p49 x42.f16.length c50, .slice p52 x42.f17.length c53] 48), ([], bx b2 [vi64 x3, vi64 x4, vu64 x5, vi64 x6, (pt b8 0), vi64 x17, vu32 x18, vu64 x19, .slice p21 x20.length c22, vi64 x24, (pt b26 0), vu64 x35, vi64 x36, vu64 x37, .slice p39 x38.length c40] 85), ([], bx b8 [.slice p10 x9.length c11, x15] 113), ([], d13), ([], bx b26 [vu32 x27, vi32 0, vu32 0, vu32 x28, vi64 x29, vu64 x30, .slice p32 x31.length c33] 126), ([], F)]) (ih := ih) (K := []) rfl
  obtain ⟨y1036, hx1037, hk⟩ := bindE hk
  obtain ⟨J1038, hJ1038⟩ : ∃ J : Act → World → Prop, ∀ a w, J a w ↔ (∃ (x571 : Bool) (ih569 : IH), caller_Caller_Take_4_r18 k x35 x36 x37 x38 x9 x27 x28 x29 x30 x31 x42 x5 x18 x3 x17 x19 x20 x24 x571 = some r ∧ Sees a 115 [(0, (pt b2 0)), (3, (pt b552 0)), (20, .bool x571)] ∧ St g w [bx b552 [vi64 x42.f0, vi64 x42.f1, vi64 x42.f2, vi64 x42.f3, vu64 x42.f4, vu64 x42.f5, vu64 x42.f6, vu64 x42.f7, vu64 x42.f8, vu64 x42.f9, vi64 x42.f10, vu32 x42.f11, vi64 x42.f12, vi64 x42.f13.f0, vi64 x42.f13.f1, vu64 x42.f13.f2, vi64 x42.f13.f3, vi64 x42.f14.f0, vu64 x42.f14.f1, .slice p43 x42.f14.f2.length c44, .bool x42.f14.f3, vi64 x42.f14.f4, .slice p46 x42.f15.length c47, .slice p49 x42.f16.length c50, .slice p52 x42.f17.length c53] 48, bx b2 [vi64 x3, vi64 x4, vu64 x5, vi64 x6, (pt b8 0), vi64 x17, vu32 x18, vu64 x19, .slice p21 x20.length c22, vi64 x24, (pt b26 0), vu64 x35, vi64 x36, vu64 x37, .slice p39 x38.length c40] 85, bx b8 [.slice p10 x9.length c11, x15] 113, bx b26 [vu32 x27, vi32 0, vu32 0, vu32 x28, vi64 x29, vu64 x30, .slice p32 x31.length c33] 126, d13, F] ih569 ∧ Le ih ih569) := ⟨_, fun _ _ => Iff.rfl⟩
  refine c_draw (by kernel_rfl) (N := 14) rfl S554 J1038 ?_ ?_
  · have hw := hw.drew
    have hS : S554 (Array.replicate 14 false) _ := SX_now hS554 (hw.vws [0, 1, 2, 3, 4, 5]) (by kernel_rfl)
    refine d_pures (fuel := 11) kS554 hs hS [0, 1, 2] [0, 3, 9] [(0, (pt b2 0)), (3, (pt b552 0)), (9, .bool false)] (by kernel_rfl) fun a hs hS => ?_
    refine d_load (fuel := 10) kS554 hs hS 3 rfl (by kernel_rfl) (SX_box hS554 0 rfl (by kernel_rfl)) 0 (by kernel_rfl) (by kernel_rfl) (v := .agg #[vi64 x42.f0, vi64 x42.f1, vi64 x42.f2, vi64 x42.f3, vu64 x42.f4, vu64 x42.f5, vu64 x42.f6, vu64 x42.f7, vu64 x42.f8, vu64 x42.f9, vi64 x42.f10, vu32 x42.f11, vi64 x42.f12, vi64 x42.f13.f0, vi64 x42.f13.f1, vu64 x42.f13.f2, vi64 x42.f13.f3, vi64 x42.f14.f0, vu64 x42.f14.f1, .slice p43 x42.f14.f2.length c44, .bool x42.f14.f3, vi64 x42.f14.f4, .slice p46 x42.f15.length c47, .slice p49 x42.f16.length c50, .slice p52 x42.f17.length c53]) (by kernel_rfl) fun a hs hS => ?_
    refine d_all (fuel := 9) (rs := [4]) (by kernel_rfl) (by simp) (all1 ?_)
    obtain ⟨y1039, h1040, hx1037⟩ := bindE hx1037
    refine o_call hs rfl (by kernel_rfl) (by kernel_rfl) (letter_Check_s h1040 h45 h48 h51 h54 (hG.mono (Le.refl _)) ((hw.pick [0, 1, 2, 3, 4, 5] (by kernel_rfl)).pack 0)) fun a w v hv hs => ?_
    obtain ⟨ih1041, rfl, hw, hle1042⟩ := hv
    replace hw := hw.unpack 0 rfl
    refine dg_next (SX_now hS554 ((hw.vws [0, 1, 2, 3, 4, 5]).anti hle1042) (by kernel_rfl)) fun hS => ?_
    refine d_pures (fuel := 6) kS554 hs hS [5, 6, 7] [0, 3, 14] [(0, (pt b2 0)), (3, (pt b552 0)), (14, .bool (y1039 != 0))] (by kernel_rfl) fun a hs hS => ?_
    rcases ifbE hx1037 with ⟨h1043, hx1037⟩ | ⟨h1043, hx1037⟩
    · replace hs := hs.altB 14 true (by kernel_rfl) h1043
      refine d_pures (fuel := 0) kS554 hs hS [8, 9, 10, 11, 12, 13] [0, 3, 20] [(0, (pt b2 0)), (3, (pt b552 0)), (20, .bool true)] (by kernel_rfl) fun a hs hS => ?_
      refine d_done (by kernel_rfl) ?_
      obtain rfl := someE hx1037
      exact (hJ1038 _ _).2 ⟨true, ih1041, hk, hs.cast [0, 3, 20] (by kernel_rfl), hw.pick [0, 1, 2, 4, 3, 5] (by kernel_rfl), hle1042⟩
    replace hs := hs.altB 14 false (by kernel_rfl) h1043
    refine d_pures (fuel := 5) kS554 hs hS [8] [0, 3, 14, 15] [(0, (pt b2 0)), (3, (pt b552 0)), (14, .bool false), (15, (pt b552 2))] (by kernel_rfl) fun a hs hS => ?_
    refine d_load (fuel := 4) kS554 hs hS 9 rfl (by kernel_rfl) (SX_box hS554 0 rfl (by kernel_rfl)) 2 (by kernel_rfl) (by kernel_rfl) (v := vi64 x42.f2) (by kernel_rfl) fun a hs hS => ?_
    refine d_pures (fuel := 3) kS554 hs hS [10] [0, 3, 14, 16, 17] [(0, (pt b2 0)), (3, (pt b552 0)), (14, .bool false), (16, vi64 x42.f2), (17, (pt b2 0))] (by kernel_rfl) fun a hs hS => ?_
    refine d_all (fuel := 2) (rs := [11]) (by kernel_rfl) (by simp) (all1 ?_)
    obtain ⟨y1044, h1045, hx1037⟩ := bindE hx1037
    refine o_call hs rfl (by kernel_rfl) (by kernel_rfl) (caller_Caller_Address_s (x4 := x4) (x5 := x5) (x6 := x6) (x9 := x9) (x15 := (x15)) (x17 := x17) (x18 := x18) (x19 := x19) (x20 := x20) (x24 := x24) (x25 := (pt b26 0)) (x27 := x35) (x28 := x36) (x29 := x37) (x30 := x38) h1045 (h12.mono hle1042) h16 (h23.mono hle1042) rfl (h41.mono hle1042) ((hw.pick [1, 2, 3, 0, 4, 5] (by kernel_rfl)).pack 3)) fun a w v hv hs => ?_
    obtain ⟨rfl, hw⟩ := hv
    replace hw := hw.unpack 3 rfl
    refine dg_next (SX_now hS554 ((hw.vws [3, 0, 1, 2, 4, 5]).anti hle1042) (by kernel_rfl)) fun hS => ?_
    refine d_pures (fuel := 0) kS554 hs hS [12, 13] [0, 3, 20] [(0, (pt b2 0)), (3, (pt b552 0)), (20, .bool (x42.f2 != y1044))] (by kernel_rfl) fun a hs hS => ?_
    refine d_done (by kernel_rfl) ?_
    obtain rfl := someE hx1037
    exact (hJ1038 _ _).2 ⟨(x42.f2 != y1044), ih1041, hk, hs.cast [0, 3, 20] (by kernel_rfl), hw.pick [3, 0, 1, 4, 2, 5] (by kernel_rfl), hle1042⟩
  intro a w hh
  obtain ⟨x571, ih569, hk, hs, hw, hle570⟩ := (hJ1038 _ _).1 hh
  rcases ifbE hk with ⟨h572, hk⟩ | ⟨h572, hk⟩
  · refine c_cond1 hs (by kernel_rfl) (t := x571) (by kernel_rfl) h572 ?_
    refine c_seq ?_
    refine c_region ?_
    refine pures hs 1 [4] [(4, .slice none 0 0)] (by kernel_rfl) fun a hs => ?_
    refine s_end ?_
    refine c_ret ?_
    replace hw := hw.nil
    obtain rfl := someE hk
    refine hQ _ _ (f_ret1 hs rfl (v := .slice none 0 0) (by kernel_rfl) ⟨ih569, none, 0, ([]), p39, c40, p10, c11, d13, p32, c33, rfl, hw.pick [0, 2, 3, 5, 4, 6] (by kernel_rfl), hle570, (OSl.nil _ _), (h41.mono hle570), (h12.mono hle570), (h34.mono hle570)⟩)
  refine c_cond0 hs (by kernel_rfl) (t := x571) (by kernel_rfl) h572 ?_
  refine c_skip ?_
  refine c_seq ?_
  refine c_region ?_
  refine pures hs 4 [0, 3, 24] [(0, (pt b2 0)), (3, (pt b552 0)), (24, (pt b2 5))] (by kernel_rfl) fun a hs => ?_
  refine s_load hs (hw.at_ 1 rfl) 5 (by kernel_rfl) (by kernel_rfl) (v := vi64 x17) (by kernel_rfl) fun a hs => ?_
  refine pures hs 2 [0, 3, 5] [(0, (pt b2 0)), (3, (pt b552 0)), (5, .bool (x17 == 1))] (by kernel_rfl) fun a hs => ?_
  refine s_end ?_
  refine c_seq ?_
  obtain ⟨S575, hS575, kS575⟩ := mkSX (X := [([], bx b552 [vi64 x42.f0, vi64 x42.f1, vi64 x42.f2, vi64 x42.f3, vu64 x42.f4, vu64 x42.f5, vu64 x42.f6, vu64 x42.f7, vu64 x42.f8, vu64 x42.f9, vi64 x42.f10, vu32 x42.f11, vi64 x42.f12, vi64 x42.f13.f0, vi64 x42.f13.f1, vu64 x42.f13.f2, vi64 x42.f13.f3, vi64 x42.f14.f0, vu64 x42.f14.f1, .slice p43 x42.f14.f2.length c44, .bool x42.f14.f3, vi64 x42.f14.f4, .slice p46 x42.f15.length c47, .slice p49 x42.f16.length c50, .slice p52 x42.f17.length c53] 48), ([], bx b2 [vi64 x3, vi64 x4, vu64 x5, vi64 x6, (pt b8 0), vi64 x17, vu32 x18, vu64 x19, .slice p21 x20.length c22, vi64 x24, (pt b26 0), vu64 x35, vi64 x36, vu64 x37, .slice p39 x38.length c40] 85), ([], bx b8 [.slice p10 x9.length c11, x15] 113), ([], bx b26 [vu32 x27, vi32 0, vu32 0, vu32 x28, vi64 x29, vu64 x30, .slice p32 x31.length c33] 126), ([], d13), ([], F)]) (ih := ih569) (K := []) rfl
  obtain ⟨y1026, hx1027, hk⟩ := bindE hk
  obtain ⟨J1028, hJ1028⟩ : ∃ J : Act → World → Prop, ∀ a w, J a w ↔ (∃ (x588 : Bool), caller_Caller_Take_4_r17 k x42 x9 x28 x29 x30 x31 x18 x3 x5 x17 x19 x20 x24 x35 x36 x37 x38 x27 x588 = some r ∧ Sees a 115 [(0, (pt b2 0)), (3, (pt b552 0)), (5, .bool (x17 == 1)), (6, .bool x588)] ∧ St g w [bx b552 [vi64 x42.f0, vi64 x42.f1, vi64 x42.f2, vi64 x42.f3, vu64 x42.f4, vu64 x42.f5, vu64 x42.f6, vu64 x42.f7, vu64 x42.f8, vu64 x42.f9, vi64 x42.f10, vu32 x42.f11, vi64 x42.f12, vi64 x42.f13.f0, vi64 x42.f13.f1, vu64 x42.f13.f2, vi64 x42.f13.f3, vi64 x42.f14.f0, vu64 x42.f14.f1, .slice p43 x42.f14.f2.length c44, .bool x42.f14.f3, vi64 x42.f14.f4, .slice p46 x42.f15.length c47, .slice p49 x42.f16.length c50, .slice p52 x42.f17.length c53] 48, bx b2 [vi64 x3, vi64 x4, vu64 x5, vi64 x6, (pt b8 0), vi64 x17, vu32 x18, vu64 x19, .slice p21 x20.length c22, vi64 x24, (pt b26 0), vu64 x35, vi64 x36, vu64 x37, .slice p39 x38.length c40] 85, bx b8 [.slice p10 x9.length c11, x15] 113, bx b26 [vu32 x27, vi32 0, vu32 0, vu32 x28, vi64 x29, vu64 x30, .slice p32 x31.length c33] 126, d13, F] ih569) := ⟨_, fun _ _ => Iff.rfl⟩
  refine c_draw (by kernel_rfl) (N := 17) rfl S575 J1028 ?_ ?_
  · have hw := hw.drew
    have hS : S575 (Array.replicate 17 false) _ := SX_now hS575 (hw.vws [0, 1, 2, 3, 4, 5]) (by kernel_rfl)
    refine d_pures (fuel := 16) kS575 hs hS [0] [0, 3, 5, 27] [(0, (pt b2 0)), (3, (pt b552 0)), (5, .bool (x17 == 1)), (27, (pt b552 1))] (by kernel_rfl) fun a hs hS => ?_
    refine d_load (fuel := 15) kS575 hs hS 1 rfl (by kernel_rfl) (SX_box hS575 0 rfl (by kernel_rfl)) 1 (by kernel_rfl) (by kernel_rfl) (v := vi64 x42.f1) (by kernel_rfl) fun a hs hS => ?_
    refine d_all (fuel := 14) (rs := [2]) (by kernel_rfl) (by simp) (all1 ?_)
    obtain ⟨y1029, h1030, hx1027⟩ := bindE hx1027
    refine o_call hs rfl (by kernel_rfl) (by kernel_rfl) (letter_Node_s h1030 ((hw.pick [0, 1, 2, 3, 4, 5] (by kernel_rfl)).pack 0)) fun a w v hv hs => ?_
    obtain ⟨rfl, hw⟩ := hv
    replace hw := hw.unpack 0 rfl
    refine dg_next (SX_now hS575 ((hw.vws [0, 1, 2, 3, 4, 5]).anti (Le.refl _)) (by kernel_rfl)) fun hS => ?_
    refine d_pures (fuel := 13) kS575 hs hS [3] [0, 3, 5, 30] [(0, (pt b2 0)), (3, (pt b552 0)), (5, .bool (x17 == 1)), (30, .bool y1029)] (by kernel_rfl) fun a hs hS => ?_
    rcases ifbE hx1027 with ⟨h1031, hx1027⟩ | ⟨h1031, hx1027⟩
    · replace hs := hs.altB 30 true (by kernel_rfl) h1031
      refine d_pures (fuel := 12) kS575 hs hS [4] [0, 3, 5, 30, 31] [(0, (pt b2 0)), (3, (pt b552 0)), (5, .bool (x17 == 1)), (30, .bool true), (31, (pt b552 6))] (by kernel_rfl) fun a hs hS => ?_
      refine d_load (fuel := 11) kS575 hs hS 5 rfl (by kernel_rfl) (SX_box hS575 0 rfl (by kernel_rfl)) 6 (by kernel_rfl) (by kernel_rfl) (v := vu64 x42.f6) (by kernel_rfl) fun a hs hS => ?_
      refine d_pures (fuel := 8) kS575 hs hS [6, 7, 8] [0, 3, 5, 30, 32, 35] [(0, (pt b2 0)), (3, (pt b552 0)), (5, .bool (x17 == 1)), (30, .bool true), (32, vu64 x42.f6), (35, (pt b2 2))] (by kernel_rfl) fun a hs hS => ?_
      refine d_load (fuel := 7) kS575 hs hS 9 rfl (by kernel_rfl) (SX_box hS575 1 rfl (by kernel_rfl)) 2 (by kernel_rfl) (by kernel_rfl) (v := vu64 x5) (by kernel_rfl) fun a hs hS => ?_
      refine d_pures (fuel := 4) kS575 hs hS [10, 11, 12] [0, 3, 5, 39] [(0, (pt b2 0)), (3, (pt b552 0)), (5, .bool (x17 == 1)), (39, .bool (x42.f6 == x5))] (by kernel_rfl) fun a hs hS => ?_
      rcases ifbE hx1027 with ⟨h1032, hx1027⟩ | ⟨h1032, hx1027⟩
      · replace hs := hs.altB 39 true (by kernel_rfl) h1032
        refine d_pures (fuel := 3) kS575 hs hS [13] [0, 3, 5, 39, 40] [(0, (pt b2 0)), (3, (pt b552 0)), (5, .bool (x17 == 1)), (39, .bool true), (40, (pt b2 0))] (by kernel_rfl) fun a hs hS => ?_
        refine d_all (fuel := 2) (rs := [14]) (by kernel_rfl) (by simp) (all1 ?_)
        obtain ⟨y1033, h1034, hx1027⟩ := bindE hx1027
        refine o_call hs rfl (by kernel_rfl) (by kernel_rfl) (caller_Caller_Busy_6_s (x3 := x3) (x4 := x4) (x5 := x5) (x6 := x6) (x9 := x9) (x15 := (x15)) (x17 := x17) (x18 := x18) (x19 := x19) (x20 := x20) (x24 := x24) (x27 := x27) (x35 := x35) (x36 := x36) (x37 := x37) (x38 := x38) h1034 (h12.mono hle570) h16 (h23.mono hle570) (h34.mono hle570) (h41.mono hle570) ((hw.pick [1, 2, 4, 3, 0, 5] (by kernel_rfl)).pack 4)) fun a w v hv hs => ?_
        obtain ⟨rfl, hw⟩ := hv
        replace hw := hw.unpack 4 rfl
        refine dg_next (SX_now hS575 ((hw.vws [4, 0, 1, 3, 2, 5]).anti (Le.refl _)) (by kernel_rfl)) fun hS => ?_
        refine d_pures (fuel := 0) kS575 hs hS [15, 16] [0, 3, 5, 6] [(0, (pt b2 0)), (3, (pt b552 0)), (5, .bool (x17 == 1)), (6, .bool y1033)] (by kernel_rfl) fun a hs hS => ?_
        refine d_done (by kernel_rfl) ?_
        obtain rfl := someE hx1027
        exact (hJ1028 _ _).2 ⟨y1033, hk, hs.cast [0, 3, 5, 6] (by kernel_rfl), hw.pick [4, 0, 1, 3, 2, 5] (by kernel_rfl)⟩
      replace hs := hs.altB 39 false (by kernel_rfl) h1032
      refine d_pures (fuel := 0) kS575 hs hS [13, 14, 15, 16] [0, 3, 5, 6] [(0, (pt b2 0)), (3, (pt b552 0)), (5, .bool (x17 == 1)), (6, .bool false)] (by kernel_rfl) fun a hs hS => ?_
      refine d_done (by kernel_rfl) ?_
      obtain rfl := someE hx1027
      exact (hJ1028 _ _).2 ⟨false, hk, hs.cast [0, 3, 5, 6] (by kernel_rfl), hw.pick [0, 1, 2, 3, 4, 5] (by kernel_rfl)⟩
    replace hs := hs.altB 30 false (by kernel_rfl) h1031
    refine d_pures (fuel := 0) kS575 hs hS [4, 5, 6, 7, 8, 9, 10, 11, 12, 13, 14, 15, 16] [0, 3, 5, 6] [(0, (pt b2 0)), (3, (pt b552 0)), (5, .bool (x17 == 1)), (6, .bool false)] (by kernel_rfl) fun a hs hS => ?_
    refine d_done (by kernel_rfl) ?_
    obtain rfl := someE hx1027
    exact (hJ1028 _ _).2 ⟨false, hk, hs.cast [0, 3, 5, 6] (by kernel_rfl), hw.pick [0, 1, 2, 3, 4, 5] (by kernel_rfl)⟩
  intro a w hh
  obtain ⟨x588, hk, hs, hw⟩ := (hJ1028 _ _).1 hh
  obtain ⟨y818, hx819, hk⟩ := bindE hk
  obtain ⟨J820, hJ820⟩ : ∃ J : Act → World → Prop, ∀ a w, J a w ↔ (∃ (x795 : Int) (x796 : Int) (x797 : Int) (x798 : List Int) (x802 : List M44) (x808 : Int) (x809 : Int) (x810 : Int) (x811 : Int) (x812 : List Int) (p799 : Option Addr) (c800 : Nat) (p803 : Option Addr) (c804 : Nat) (d806 : Ch) (p813 : Option Addr) (c814 : Nat) (ih793 : IH), caller_Caller_Take_4_r13 x795 x796 x797 x798 x802 x808 x809 x810 x811 x812 = some r ∧ Sees a 115 [] ∧ St g w [bx b2 [vi64 x3, vi64 x4, vu64 x5, vi64 x6, (pt b8 0), vi64 x17, vu32 x18, vu64 x19, .slice p21 x20.length c22, vi64 x24, (pt b26 0), vu64 x795, vi64 x796, vu64 x797, .slice p799 x798.length c800] 85, bx b8 [.slice p803 x802.length c804, x15] 113, bx b26 [vu32 x808, vi32 0, vu32 0, vu32 x809, vi64 x810, vu64 x811, .slice p813 x812.length c814] 126, d806, F] ih793 ∧ Le ih569 ih793 ∧ RSl e5 ih793 [] p799 c800 x798 ∧ OSl e44 ih793 p803 c804 x802 d806 ∧ RSl e5 ih793 [] p813 c814 x812) := ⟨_, fun _ _ => Iff.rfl⟩
  refine c_seqJ J820 ?_ ?_
  · refine c_seq ?_
    refine c_region ?_
    refine pures hs 1 [0, 3, 5, 6, 43] [(0, (pt b2 0)), (3, (pt b552 0)), (5, .bool (x17 == 1)), (6, .bool x588), (43, (pt b552 0))] (by kernel_rfl) fun a hs => ?_
    refine s_load hs (hw.at_ 0 rfl) 0 (by kernel_rfl) (by kernel_rfl) (v := vi64 x42.f0) (by kernel_rfl) fun a hs => ?_
    refine s_end ?_
    refine c_block ?_
    refine c_seq ?_
    refine c_region ?_
    refine pures hs 2 [0, 3, 5, 6, 44, 45] [(0, (pt b2 0)), (3, (pt b552 0)), (5, .bool (x17 == 1)), (6, .bool x588), (44, vi64 x42.f0), (45, .bool (x42.f0 == 11))] (by kernel_rfl) fun a hs => ?_
    refine s_end ?_
    rcases ifbE hx819 with ⟨h821, hx819⟩ | ⟨h821, hx819⟩
    · refine c_cond1 hs (by kernel_rfl) (t := (x42.f0 == 11)) (by kernel_rfl) h821 ?_
      refine c_seq ?_
      obtain ⟨S822, hS822, kS822⟩ := mkSX (X := [([], bx b552 [vi64 x42.f0, vi64 x42.f1, vi64 x42.f2, vi64 x42.f3, vu64 x42.f4, vu64 x42.f5, vu64 x42.f6, vu64 x42.f7, vu64 x42.f8, vu64 x42.f9, vi64 x42.f10, vu32 x42.f11, vi64 x42.f12, vi64 x42.f13.f0, vi64 x42.f13.f1, vu64 x42.f13.f2, vi64 x42.f13.f3, vi64 x42.f14.f0, vu64 x42.f14.f1, .slice p43 x42.f14.f2.length c44, .bool x42.f14.f3, vi64 x42.f14.f4, .slice p46 x42.f15.length c47, .slice p49 x42.f16.length c50, .slice p52 x42.f17.length c53] 48), ([], bx b2 [vi64 x3, vi64 x4, vu64 x5, vi64 x6, (pt b8 0), vi64 x17, vu32 x18, vu64 x19, .slice p21 x20.length c22, vi64 x24, (pt b26 0), vu64 x35, vi64 x36, vu64 x37, .slice p39 x38.length c40] 85), ([6], bx b8 [.slice p10 x9.length c11, x15] 113), ([], bx b26 [vu32 x27, vi32 0, vu32 0, vu32 x28, vi64 x29, vu64 x30, .slice p32 x31.length c33] 126), ([6], d13), ([], F)]) (ih := ih569) (K := [6, 6]) rfl
      obtain ⟨y889, hx890, hx819⟩ := bindE hx819
      obtain ⟨J891, hJ891⟩ : ∃ J : Act → World → Prop, ∀ a w, J a w ↔ (∃ (x863 : Bool) (x864 : List M44) (p865 : Option Addr) (c866 : Nat) (d868 : Ch) (ih861 : IH), caller_Caller_Take_4_r14 k x3 x5 x17 x18 x19 x20 x24 x35 x36 x37 x38 x27 x28 x29 x30 x31 x863 x864 = some y818 ∧ Sees a 115 [(0, (pt b2 0)), (74, .bool x863)] ∧ St g w [bx b2 [vi64 x3, vi64 x4, vu64 x5, vi64 x6, (pt b8 0), vi64 x17, vu32 x18, vu64 x19, .slice p21 x20.length c22, vi64 x24, (pt b26 0), vu64 x35, vi64 x36, vu64 x37, .slice p39 x38.length c40] 85, bx b8 [.slice p865 x864.length c866, x15] 113, bx b26 [vu32 x27, vi32 0, vu32 0, vu32 x28, vi64 x29, vu64 x30, .slice p32 x31.length c33] 126, d868, F] ih861 ∧ Le ih569 ih861 ∧ OSl e44 ih861 p865 c866 x864 d868) := ⟨_, fun _ _ => Iff.rfl⟩
      refine c_draw (by kernel_rfl) (N := 28) rfl S822 J891 ?_ ?_
      · have hw := hw.drew
        have hS : S822 (Array.replicate 28 false) _ := SX_now hS822 (hw.vws [0, 1, 2, 3, 4, 5]) (by kernel_rfl)
        refine d_pures (fuel := 25) kS822 hs hS [0, 1, 2] [0, 3, 49] [(0, (pt b2 0)), (3, (pt b552 0)), (49, (pt b2 4))] (by kernel_rfl) fun a hs hS => ?_
        refine d_load (fuel := 24) kS822 hs hS 3 rfl (by kernel_rfl) (SX_box hS822 1 rfl (by kernel_rfl)) 4 (by kernel_rfl) (by kernel_rfl) (v := (pt b8 0)) (by kernel_rfl) fun a hs hS => ?_
        refine d_pures (fuel := 23) kS822 hs hS [4] [0, 3, 50, 51] [(0, (pt b2 0)), (3, (pt b552 0)), (50, (pt b8 0)), (51, (pt b552 17))] (by kernel_rfl) fun a hs hS => ?_
        refine d_load (fuel := 22) kS822 hs hS 5 rfl (by kernel_rfl) (SX_box hS822 0 rfl (by kernel_rfl)) 17 (by kernel_rfl) (by kernel_rfl) (v := .agg #[vi64 x42.f14.f0, vu64 x42.f14.f1, .slice p43 x42.f14.f2.length c44, .bool x42.f14.f3, vi64 x42.f14.f4]) (by kernel_rfl) fun a hs hS => ?_
        refine d_all (fuel := 21) (rs := [6]) (by kernel_rfl) (by simp) (all1 ?_)
        obtain ⟨y892, h893, hx890⟩ := bindE hx890
        refine o_call hs rfl (by kernel_rfl) (by kernel_rfl) (atlas_Atlas_Learn_s (x9 := (x15)) h893 (h12.mono hle570) h16 (h45.mono hle570) ((hw.pick [2, 4, 0, 1, 3, 5] (by kernel_rfl)).pack 2)) fun a w v hv hs => ?_
        obtain ⟨ih894, p896, c897, d899, rfl, hw, hle895, h898⟩ := hv
        replace hw := hw.unpack 2 rfl
        refine dg_next (SX_now hS822 ((hw.vws [2, 3, 4, 5]).anti hle895) (by kernel_rfl)) fun hS => ?_
        refine d_pures (fuel := 20) kS822 hs hS [7] [0, 3, 54] [(0, (pt b2 0)), (3, (pt b552 0)), (54, .bool y892.1)] (by kernel_rfl) fun a hs hS => ?_
        rcases ifbE hx890 with ⟨h900, hx890⟩ | ⟨h900, hx890⟩
        · replace hs := hs.altB 54 true (by kernel_rfl) h900
          refine d_pures (fuel := 19) kS822 hs hS [8] [0, 3, 54, 55] [(0, (pt b2 0)), (3, (pt b552 0)), (54, .bool true), (55, (pt b2 0))] (by kernel_rfl) fun a hs hS => ?_
          refine d_all (fuel := 18) (rs := [9]) (by kernel_rfl) (by simp) (all1 ?_)
          obtain ⟨y901, h902, hx890⟩ := bindE hx890
          refine o_call hs rfl (by kernel_rfl) (by kernel_rfl) (caller_Caller_Busy_6_s (x3 := x3) (x4 := x4) (x5 := x5) (x6 := x6) (x9 := y892.2) (x15 := (x15)) (x17 := x17) (x18 := x18) (x19 := x19) (x20 := x20) (x24 := x24) (x27 := x27) (x35 := x35) (x36 := x36) (x37 := x37) (x38 := x38) h902 h898 h16 (h23.mono (hle570.trans hle895)) (h34.mono (hle570.trans hle895)) (h41.mono (hle570.trans hle895)) ((hw.pick [3, 0, 1, 4, 2, 5] (by kernel_rfl)).pack 4)) fun a w v hv hs => ?_
          obtain ⟨rfl, hw⟩ := hv
          replace hw := hw.unpack 4 rfl
          refine dg_next (SX_now hS822 ((hw.vws [4, 0, 3, 5]).anti hle895) (by kernel_rfl)) fun hS => ?_
          refine d_pures (fuel := 16) kS822 hs hS [10, 11] [0, 3, 58] [(0, (pt b2 0)), (3, (pt b552 0)), (58, .bool y901)] (by kernel_rfl) fun a hs hS => ?_
          rcases ifbE hx890 with ⟨h903, hx890⟩ | ⟨h903, hx890⟩
          · replace hs := hs.altB 58 true (by kernel_rfl) h903
            refine d_pures (fuel := 13) kS822 hs hS [12, 13, 14] [0, 3, 58, 61] [(0, (pt b2 0)), (3, (pt b552 0)), (58, .bool true), (61, (pt b2 4))] (by kernel_rfl) fun a hs hS => ?_
            refine d_load (fuel := 12) kS822 hs hS 15 rfl (by kernel_rfl) (SX_box hS822 1 rfl (by kernel_rfl)) 4 (by kernel_rfl) (by kernel_rfl) (v := (pt b8 0)) (by kernel_rfl) fun a hs hS => ?_
            refine d_pures (fuel := 8) kS822 hs hS [16, 17, 18, 19] [0, 3, 58, 62, 66] [(0, (pt b2 0)), (3, (pt b552 0)), (58, .bool true), (62, (pt b8 0)), (66, (pt b2 6))] (by kernel_rfl) fun a hs hS => ?_
            refine d_load (fuel := 7) kS822 hs hS 20 rfl (by kernel_rfl) (SX_box hS822 1 rfl (by kernel_rfl)) 6 (by kernel_rfl) (by kernel_rfl) (v := vu32 x18) (by kernel_rfl) fun a hs hS => ?_
            refine d_pures (fuel := 5) kS822 hs hS [23, 24] [0, 58, 62, 67, 71] [(0, (pt b2 0)), (58, .bool true), (62, (pt b8 0)), (67, vu32 x18), (71, (pt b552 17))] (by kernel_rfl) fun a hs hS => ?_
            refine d_load (fuel := 4) kS822 hs hS 25 rfl (by kernel_rfl) (SX_box hS822 0 rfl (by kernel_rfl)) 17 (by kernel_rfl) (by kernel_rfl) (v := vi64 x42.f14.f0) (by kernel_rfl) fun a hs hS => ?_
            refine d_all (fuel := 3) (rs := [21]) (by kernel_rfl) (by simp) (all1 ?_)
            obtain ⟨y904, h905, hx890⟩ := bindE hx890
            refine o_call hs rfl (by kernel_rfl) (by kernel_rfl) (atlas_Atlas_Of_s (x9 := (x15)) h905 h898 h16 ((hw.pick [1, 2, 0, 3, 4, 5] (by kernel_rfl)).pack 2)) fun a w v hv hs => ?_
            obtain ⟨ih906, p908, c909, rfl, hw, hle907, h910⟩ := hv
            replace hw := hw.unpack 2 rfl
            refine dg_next (SX_now hS822 ((hw.vws [4, 2, 3, 5]).anti (hle895.trans hle907)) (by kernel_rfl)) fun hS => ?_
            refine d_pures (fuel := 0) kS822 hs hS [22, 26, 27] [0, 74] [(0, (pt b2 0)), (74, .bool (y904.f0 == x42.f14.f0))] (by kernel_rfl) fun a hs hS => ?_
            refine d_done (by kernel_rfl) ?_
            obtain rfl := someE hx890
            exact (hJ891 _ _).2 ⟨(y904.f0 == x42.f14.f0), y892.2, p896, c897, d899, ih906, hx819, hs.cast [0, 74] (by kernel_rfl), hw.pick [2, 0, 3, 1, 5] (by kernel_rfl), (hle895.trans hle907), (h898.mono hle907)⟩
          replace hs := hs.altB 58 false (by kernel_rfl) h903
          refine d_pures (fuel := 0) kS822 hs hS [12, 13, 14, 15, 16, 17, 18, 19, 20, 21, 22, 23, 24, 25, 26, 27] [0, 74] [(0, (pt b2 0)), (74, .bool false)] (by kernel_rfl) fun a hs hS => ?_
          refine d_done (by kernel_rfl) ?_
          obtain rfl := someE hx890
          exact (hJ891 _ _).2 ⟨false, y892.2, p896, c897, d899, ih894, hx819, hs.cast [0, 74] (by kernel_rfl), hw.pick [0, 1, 3, 2, 5] (by kernel_rfl), hle895, h898⟩
        replace hs := hs.altB 54 false (by kernel_rfl) h900
        refine d_pures (fuel := 0) kS822 hs hS [8, 9, 10, 11, 12, 13, 14, 15, 16, 17, 18, 19, 20, 21, 22, 23, 24, 25, 26, 27] [0, 74] [(0, (pt b2 0)), (74, .bool false)] (by kernel_rfl) fun a hs hS => ?_
        refine d_done (by kernel_rfl) ?_
        obtain rfl := someE hx890
        exact (hJ891 _ _).2 ⟨false, y892.2, p896, c897, d899, ih894, hx819, hs.cast [0, 74] (by kernel_rfl), hw.pick [3, 0, 4, 1, 5] (by kernel_rfl), hle895, h898⟩
      intro a w hh
      obtain ⟨x863, x864, p865, c866, d868, ih861, hx819, hs, hw, hle862, h867⟩ := (hJ891 _ _).1 hh
      rcases ifbE hx819 with ⟨h870, hx819⟩ | ⟨h870, hx819⟩
      · refine c_cond1 hs (by kernel_rfl) (t := x863) (by kernel_rfl) h870 ?_
        refine c_seq ?_
        refine c_region ?_
        refine pures hs 1 [75] [(75, (pt b2 0))] (by kernel_rfl) fun a hs => ?_
        obtain ⟨y880, h881, hx819⟩ := bindE hx819
        refine s_call hs (by kernel_rfl) (by kernel_rfl) (caller_Caller_ask_s (x4 := x4) (x6 := x6) (x15 := (x15)) (x25 := (pt b26 0)) (x27 := x35) (x28 := x36) (x29 := x37) (x30 := x38) h881 h867 h16 (h23.mono (hle570.trans hle862)) rfl (h41.mono (hle570.trans hle862)) (hG.mono (hle570.trans hle862)) ((hw.pick [0, 1, 3, 2, 4] (by kernel_rfl)).pack 3)) fun a w v hv hs => ?_
        obtain ⟨ih882, p884, c885, d887, rfl, hw, hle883, h886⟩ := hv
        replace hw := hw.unpack 4 rfl
        refine pures hs 1 [4] [(4, .slice p884 y880.length c885)] (by kernel_rfl) fun a hs => ?_
        refine s_end ?_
        refine c_ret ?_
        obtain rfl := someE hx819
        obtain rfl := someE hk
        refine hQ _ _ (f_ret1 hs rfl (v := .slice p884 y880.length c885) (by kernel_rfl) ⟨ih882, p884, c885, d887, p39, c40, p865, c866, d868, p32, c33, rfl, hw.pick [0, 1, 2, 3, 4, 5] (by kernel_rfl), ((hle570.trans hle862).trans hle883), h886, (h41.mono ((hle570.trans hle862).trans hle883)), (h867.mono hle883), (h34.mono ((hle570.trans hle862).trans hle883))⟩)
      refine c_cond0 hs (by kernel_rfl) (t := x863) (by kernel_rfl) h870 ?_
      refine c_skip ?_
      obtain rfl := someE hx819
      exact (hJ820 _ _).2 ⟨x35, x36, x37, x38, x864, x27, x28, x29, x30, x31, p39, c40, p865, c866, d868, p32, c33, ih861, hk, hs.cast [] (by kernel_rfl), hw.pick [0, 1, 2, 3, 4] (by kernel_rfl), hle862, (h41.mono (hle570.trans hle862)), h867, (h34.mono (hle570.trans hle862))⟩
    refine c_cond0 hs (by kernel_rfl) (t := (x42.f0 == 11)) (by kernel_rfl) h821 ?_
    refine c_seq ?_
    refine c_region ?_
    refine pures hs 2 [0, 3, 5, 6, 44, 77] [(0, (pt b2 0)), (3, (pt b552 0)), (5, .bool (x17 == 1)), (6, .bool x588), (44, vi64 x42.f0), (77, .bool (x42.f0 == 18))] (by kernel_rfl) fun a hs => ?_
    refine s_end ?_
    rcases ifbE hx819 with ⟨h912, hx819⟩ | ⟨h912, hx819⟩
    · refine c_cond1 hs (by kernel_rfl) (t := (x42.f0 == 18)) (by kernel_rfl) h912 ?_
      refine c_seq ?_
      obtain ⟨J916, hJ916⟩ : ∃ J : Act → World → Prop, ∀ a w, J a w ↔ (Sees a 115 [(0, (pt b2 0)), (3, (pt b552 0)), (83, .bool (x588 && (!(x17 == 1))))] ∧ St g w [bx b552 [vi64 x42.f0, vi64 x42.f1, vi64 x42.f2, vi64 x42.f3, vu64 x42.f4, vu64 x42.f5, vu64 x42.f6, vu64 x42.f7, vu64 x42.f8, vu64 x42.f9, vi64 x42.f10, vu32 x42.f11, vi64 x42.f12, vi64 x42.f13.f0, vi64 x42.f13.f1, vu64 x42.f13.f2, vi64 x42.f13.f3, vi64 x42.f14.f0, vu64 x42.f14.f1, .slice p43 x42.f14.f2.length c44, .bool x42.f14.f3, vi64 x42.f14.f4, .slice p46 x42.f15.length c47, .slice p49 x42.f16.length c50, .slice p52 x42.f17.length c53] 48, bx b2 [vi64 x3, vi64 x4, vu64 x5, vi64 x6, (pt b8 0), vi64 x17, vu32 x18, vu64 x19, .slice p21 x20.length c22, vi64 x24, (pt b26 0), vu64 x35, vi64 x36, vu64 x37, .slice p39 x38.length c40] 85, bx b8 [.slice p10 x9.length c11, x15] 113, bx b26 [vu32 x27, vi32 0, vu32 0, vu32 x28, vi64 x29, vu64 x30, .slice p32 x31.length c33] 126, d13, F] ih569) := ⟨_, fun _ _ => Iff.rfl⟩
      refine c_regJ J916 ?_ ?_
      · refine pures hs 2 [0, 3, 5, 80] [(0, (pt b2 0)), (3, (pt b552 0)), (5, .bool (x17 == 1)), (80, .bool x588)] (by kernel_rfl) fun a hs => ?_
        rcases boolE x588 with h917 | h917
        · replace hs := hs.altB 80 true (by kernel_rfl) h917
          refine pures hs 3 [0, 3, 83] [(0, (pt b2 0)), (3, (pt b552 0)), (83, .bool (!(x17 == 1)))] (by kernel_rfl) fun a hs => ?_
          refine s_end ?_
          exact (hJ916 _ _).2 ⟨(hs.altB (b := (!(x17 == 1))) 83 (x588 && (!(x17 == 1))) (by kernel_rfl) (by rw [h917] <;> rfl)).cast [0, 3, 83] (by kernel_rfl), hw.pick [0, 1, 2, 3, 4, 5] (by kernel_rfl)⟩
        replace hs := hs.altB 80 false (by kernel_rfl) h917
        refine pures hs 3 [0, 3, 83] [(0, (pt b2 0)), (3, (pt b552 0)), (83, .bool false)] (by kernel_rfl) fun a hs => ?_
        refine s_end ?_
        exact (hJ916 _ _).2 ⟨(hs.altB (b := false) 83 (x588 && (!(x17 == 1))) (by kernel_rfl) (by rw [h917] <;> rfl)).cast [0, 3, 83] (by kernel_rfl), hw.pick [0, 1, 2, 3, 4, 5] (by kernel_rfl)⟩
      intro a w hh
      obtain ⟨hs, hw⟩ := (hJ916 _ _).1 hh
      rcases ifbE hx819 with ⟨h918, hx819⟩ | ⟨h918, hx819⟩
      · refine c_cond1 hs (by kernel_rfl) (t := (x588 && (!(x17 == 1)))) (by kernel_rfl) h918 ?_
        refine c_region ?_
        refine pures hs 2 [3, 84, 85] [(3, (pt b552 0)), (84, (pt b2 0)), (85, (pt b552 12))] (by kernel_rfl) fun a hs => ?_
        refine s_load hs (hw.at_ 0 rfl) 12 (by kernel_rfl) (by kernel_rfl) (v := vi64 x42.f12) (by kernel_rfl) fun a hs => ?_
        refine pures hs 1 [84, 86, 87] [(84, (pt b2 0)), (86, vi64 x42.f12), (87, (pt b552 9))] (by kernel_rfl) fun a hs => ?_
        refine s_load hs (hw.at_ 0 rfl) 9 (by kernel_rfl) (by kernel_rfl) (v := vu64 x42.f9) (by kernel_rfl) fun a hs => ?_
        refine pures hs 1 [84, 89] [(84, (pt b2 0)), (89, .agg #[vi64 x42.f12, vu64 x42.f9, .slice none 0 0])] (by kernel_rfl) fun a hs => ?_
        obtain ⟨y927, h928, hx819⟩ := bindE hx819
        refine s_call hs (by kernel_rfl) (by kernel_rfl) (caller_Caller_answer_3_s (x3 := x3) (x4 := x4) (x6 := x6) (x9 := x9) (x15 := (x15)) (x17 := x17) (x18 := x18) (x19 := x19) (x20 := x20) (x24 := x24) h928 (h12.mono hle570) h16 (h23.mono hle570) (h34.mono hle570) (h41.mono hle570) (RSl.nil _ _ _) ((hw.pick [1, 2, 4, 3, 5] (by kernel_rfl)).pack 4)) fun a w v hv hs => ?_
        obtain ⟨p929, c930, p932, c933, rfl, hw, h931, h934⟩ := hv
        replace hw := hw.unpack 4 rfl
        refine s_end ?_
        obtain rfl := someE hx819
        exact (hJ820 _ _).2 ⟨y927.1, y927.2.1, y927.2.2.1, y927.2.2.2.1, x9, y927.2.2.2.2.1, y927.2.2.2.2.2.1, y927.2.2.2.2.2.2.1, y927.2.2.2.2.2.2.2.1, y927.2.2.2.2.2.2.2.2, p929, c930, p10, c11, d13, p932, c933, ih569, hk, hs.cast [] (by kernel_rfl), hw.pick [0, 1, 3, 2, 4] (by kernel_rfl), (Le.refl _), h931, (h12.mono hle570), h934⟩
      refine c_cond0 hs (by kernel_rfl) (t := (x588 && (!(x17 == 1)))) (by kernel_rfl) h918 ?_
      refine c_skip ?_
      obtain rfl := someE hx819
      exact (hJ820 _ _).2 ⟨x35, x36, x37, x38, x9, x27, x28, x29, x30, x31, p39, c40, p10, c11, d13, p32, c33, ih569, hk, hs.cast [] (by kernel_rfl), hw.pick [1, 2, 3, 4, 5] (by kernel_rfl), (Le.refl _), (h41.mono hle570), (h12.mono hle570), (h34.mono hle570)⟩
    refine c_cond0 hs (by kernel_rfl) (t := (x42.f0 == 18)) (by kernel_rfl) h912 ?_
    refine c_seq ?_
    refine c_region ?_
    refine pures hs 2 [0, 3, 5, 6, 91] [(0, (pt b2 0)), (3, (pt b552 0)), (5, .bool (x17 == 1)), (6, .bool x588), (91, .bool (x42.f0 == 20))] (by kernel_rfl) fun a hs => ?_
    refine s_end ?_
    rcases ifbE hx819 with ⟨h935, hx819⟩ | ⟨h935, hx819⟩
    · refine c_cond1 hs (by kernel_rfl) (t := (x42.f0 == 20)) (by kernel_rfl) h935 ?_
      refine c_seq ?_
      obtain ⟨S936, hS936, kS936⟩ := mkSX (X := [([], bx b552 [vi64 x42.f0, vi64 x42.f1, vi64 x42.f2, vi64 x42.f3, vu64 x42.f4, vu64 x42.f5, vu64 x42.f6, vu64 x42.f7, vu64 x42.f8, vu64 x42.f9, vi64 x42.f10, vu32 x42.f11, vi64 x42.f12, vi64 x42.f13.f0, vi64 x42.f13.f1, vu64 x42.f13.f2, vi64 x42.f13.f3, vi64 x42.f14.f0, vu64 x42.f14.f1, .slice p43 x42.f14.f2.length c44, .bool x42.f14.f3, vi64 x42.f14.f4, .slice p46 x42.f15.length c47, .slice p49 x42.f16.length c50, .slice p52 x42.f17.length c53] 48), ([], bx b2 [vi64 x3, vi64 x4, vu64 x5, vi64 x6, (pt b8 0), vi64 x17, vu32 x18, vu64 x19, .slice p21 x20.length c22, vi64 x24, (pt b26 0), vu64 x35, vi64 x36, vu64 x37, .slice p39 x38.length c40] 85), ([], bx b8 [.slice p10 x9.length c11, x15] 113), ([], bx b26 [vu32 x27, vi32 0, vu32 0, vu32 x28, vi64 x29, vu64 x30, .slice p32 x31.length c33] 126), ([], d13), ([], F)]) (ih := ih569) (K := []) rfl
      obtain ⟨y1019, hx1020, hx819⟩ := bindE hx819
      obtain ⟨J1021, hJ1021⟩ : ∃ J : Act → World → Prop, ∀ a w, J a w ↔ (∃ (x941 : Bool), caller_Caller_Take_4_r16 x42 x5 x27 x28 x29 x30 x31 x35 x36 x37 x38 x9 x941 = some y818 ∧ Sees a 115 [(0, (pt b2 0)), (3, (pt b552 0)), (106, .bool x941)] ∧ St g w [bx b552 [vi64 x42.f0, vi64 x42.f1, vi64 x42.f2, vi64 x42.f3, vu64 x42.f4, vu64 x42.f5, vu64 x42.f6, vu64 x42.f7, vu64 x42.f8, vu64 x42.f9, vi64 x42.f10, vu32 x42.f11, vi64 x42.f12, vi64 x42.f13.f0, vi64 x42.f13.f1, vu64 x42.f13.f2, vi64 x42.f13.f3, vi64 x42.f14.f0, vu64 x42.f14.f1, .slice p43 x42.f14.f2.length c44, .bool x42.f14.f3, vi64 x42.f14.f4, .slice p46 x42.f15.length c47, .slice p49 x42.f16.length c50, .slice p52 x42.f17.length c53] 48, bx b2 [vi64 x3, vi64 x4, vu64 x5, vi64 x6, (pt b8 0), vi64 x17, vu32 x18, vu64 x19, .slice p21 x20.length c22, vi64 x24, (pt b26 0), vu64 x35, vi64 x36, vu64 x37, .slice p39 x38.length c40] 85, bx b8 [.slice p10 x9.length c11, x15] 113, bx b26 [vu32 x27, vi32 0, vu32 0, vu32 x28, vi64 x29, vu64 x30, .slice p32 x31.length c33] 126, d13, F] ih569) := ⟨_, fun _ _ => Iff.rfl⟩
      refine c_draw (by kernel_rfl) (N := 14) rfl S936 J1021 ?_ ?_
      · have hw := hw.drew
        have hS : S936 (Array.replicate 14 false) _ := SX_now hS936 (hw.vws [0, 1, 2, 3, 4, 5]) (by kernel_rfl)
        refine d_pures (fuel := 12) kS936 hs hS [0, 1] [0, 3, 5, 94] [(0, (pt b2 0)), (3, (pt b552 0)), (5, .bool (x17 == 1)), (94, .bool x588)] (by kernel_rfl) fun a hs hS => ?_
        rcases ifbE hx1020 with ⟨h1022, hx1020⟩ | ⟨h1022, hx1020⟩
        · replace hs := hs.altB 94 true (by kernel_rfl) h1022
          refine d_pures (fuel := 9) kS936 hs hS [2, 3, 4] [0, 3, 97] [(0, (pt b2 0)), (3, (pt b552 0)), (97, .bool (x17 == 1))] (by kernel_rfl) fun a hs hS => ?_
          rcases ifbE hx1020 with ⟨h1023, hx1020⟩ | ⟨h1023, hx1020⟩
          · replace hs := hs.altB 97 true (by kernel_rfl) h1023
            refine d_pures (fuel := 8) kS936 hs hS [5] [0, 3, 97, 98] [(0, (pt b2 0)), (3, (pt b552 0)), (97, .bool true), (98, (pt b552 11))] (by kernel_rfl) fun a hs hS => ?_
            refine d_load (fuel := 7) kS936 hs hS 6 rfl (by kernel_rfl) (SX_box hS936 0 rfl (by kernel_rfl)) 11 (by kernel_rfl) (by kernel_rfl) (v := vu32 x42.f11) (by kernel_rfl) fun a hs hS => ?_
            refine d_pures (fuel := 3) kS936 hs hS [7, 8, 9, 10] [0, 3, 97, 99, 103] [(0, (pt b2 0)), (3, (pt b552 0)), (97, .bool true), (99, vu32 x42.f11), (103, (pt b2 6))] (by kernel_rfl) fun a hs hS => ?_
            refine d_load (fuel := 2) kS936 hs hS 11 rfl (by kernel_rfl) (SX_box hS936 1 rfl (by kernel_rfl)) 6 (by kernel_rfl) (by kernel_rfl) (v := vu32 x18) (by kernel_rfl) fun a hs hS => ?_
            refine d_pures (fuel := 0) kS936 hs hS [12, 13] [0, 3, 106] [(0, (pt b2 0)), (3, (pt b552 0)), (106, .bool (x42.f11 == x18))] (by kernel_rfl) fun a hs hS => ?_
            refine d_done (by kernel_rfl) ?_
            obtain rfl := someE hx1020
            exact (hJ1021 _ _).2 ⟨(x42.f11 == x18), hx819, hs.cast [0, 3, 106] (by kernel_rfl), hw.pick [0, 1, 2, 3, 4, 5] (by kernel_rfl)⟩
          replace hs := hs.altB 97 false (by kernel_rfl) h1023
          refine d_pures (fuel := 0) kS936 hs hS [5, 6, 7, 8, 9, 10, 11, 12, 13] [0, 3, 106] [(0, (pt b2 0)), (3, (pt b552 0)), (106, .bool false)] (by kernel_rfl) fun a hs hS => ?_
          refine d_done (by kernel_rfl) ?_
          obtain rfl := someE hx1020
          exact (hJ1021 _ _).2 ⟨false, hx819, hs.cast [0, 3, 106] (by kernel_rfl), hw.pick [0, 1, 2, 3, 4, 5] (by kernel_rfl)⟩
        replace hs := hs.altB 94 false (by kernel_rfl) h1022
        refine d_pures (fuel := 0) kS936 hs hS [2, 3, 4, 5, 6, 7, 8, 9, 10, 11, 12, 13] [0, 3, 106] [(0, (pt b2 0)), (3, (pt b552 0)), (106, .bool false)] (by kernel_rfl) fun a hs hS => ?_
        refine d_done (by kernel_rfl) ?_
        obtain rfl := someE hx1020
        exact (hJ1021 _ _).2 ⟨false, hx819, hs.cast [0, 3, 106] (by kernel_rfl), hw.pick [0, 1, 2, 3, 4, 5] (by kernel_rfl)⟩
      intro a w hh
      obtain ⟨x941, hx819, hs, hw⟩ := (hJ1021 _ _).1 hh
      rcases ifbE hx819 with ⟨h942, hx819⟩ | ⟨h942, hx819⟩
      · refine c_cond1 hs (by kernel_rfl) (t := x941) (by kernel_rfl) h942 ?_
        obtain ⟨S943, hS943, kS943⟩ := mkSX (X := [([], bx b552 [vi64 x42.f0, vi64 x42.f1, vi64 x42.f2, vi64 x42.f3, vu64 x42.f4, vu64 x42.f5, vu64 x42.f6, vu64 x42.f7, vu64 x42.f8, vu64 x42.f9, vi64 x42.f10, vu32 x42.f11, vi64 x42.f12, vi64 x42.f13.f0, vi64 x42.f13.f1, vu64 x42.f13.f2, vi64 x42.f13.f3, vi64 x42.f14.f0, vu64 x42.f14.f1, .slice p43 x42.f14.f2.length c44, .bool x42.f14.f3, vi64 x42.f14.f4, .slice p46 x42.f15.length c47, .slice p49 x42.f16.length c50, .slice p52 x42.f17.length c53] 48), ([7], bx b2 [vi64 x3, vi64 x4, vu64 x5, vi64 x6, (pt b8 0), vi64 x17, vu32 x18, vu64 x19, .slice p21 x20.length c22, vi64 x24, (pt b26 0), vu64 x35, vi64 x36, vu64 x37, .slice p39 x38.length c40] 85), ([], bx b8 [.slice p10 x9.length c11, x15] 113), ([7], bx b26 [vu32 x27, vi32 0, vu32 0, vu32 x28, vi64 x29, vu64 x30, .slice p32 x31.length c33] 126), ([], d13), ([], F)]) (ih := ih569) (K := [7, 7]) rfl
        obtain ⟨y997, hx998, hx819⟩ := bindE hx819
        obtain ⟨J999, hJ999⟩ : ∃ J : Act → World → Prop, ∀ a w, J a w ↔ (∃ (x982 : Int) (x983 : Int) (x984 : Int) (x985 : List Int) (x989 : Int) (x990 : Int) (x991 : Int) (x992 : Int) (x993 : List Int) (p986 : Option Addr) (c987 : Nat) (p994 : Option Addr) (c995 : Nat) (ih980 : IH), caller_Caller_Take_4_r15 x9 x982 x983 x984 x985 x989 x990 x991 x992 x993 = some y818 ∧ Sees a 115 [] ∧ St g w [bx b2 [vi64 x3, vi64 x4, vu64 x5, vi64 x6, (pt b8 0), vi64 x17, vu32 x18, vu64 x19, .slice p21 x20.length c22, vi64 x24, (pt b26 0), vu64 x982, vi64 x983, vu64 x984, .slice p986 x985.length c987] 85, bx b8 [.slice p10 x9.length c11, x15] 113, bx b26 [vu32 x989, vi32 0, vu32 0, vu32 x990, vi64 x991, vu64 x992, .slice p994 x993.length c995] 126, d13, F] ih980 ∧ Le ih569 ih980 ∧ RSl e5 ih980 [] p986 c987 x985 ∧ RSl e5 ih980 [] p994 c995 x993) := ⟨_, fun _ _ => Iff.rfl⟩
        refine c_draw (by kernel_rfl) (N := 8) rfl S943 J999 ?_ ?_
        · have hw := hw.drew
          have hS : S943 (Array.replicate 8 false) _ := SX_now hS943 (hw.vws [0, 1, 2, 3, 4, 5]) (by kernel_rfl)
          refine d_pures (fuel := 6) kS943 hs hS [0, 1] [3, 107, 108] [(3, (pt b552 0)), (107, (pt b2 0)), (108, (pt b552 9))] (by kernel_rfl) fun a hs hS => ?_
          refine d_load (fuel := 5) kS943 hs hS 2 rfl (by kernel_rfl) (SX_box hS943 0 rfl (by kernel_rfl)) 9 (by kernel_rfl) (by kernel_rfl) (v := vu64 x42.f9) (by kernel_rfl) fun a hs hS => ?_
          refine d_pures (fuel := 4) kS943 hs hS [3] [107, 109, 110] [(107, (pt b2 0)), (109, vu64 x42.f9), (110, (pt b552 24))] (by kernel_rfl) fun a hs hS => ?_
          refine d_load (fuel := 3) kS943 hs hS 4 rfl (by kernel_rfl) (SX_box hS943 0 rfl (by kernel_rfl)) 24 (by kernel_rfl) (by kernel_rfl) (v := .slice p52 x42.f17.length c53) (by kernel_rfl) fun a hs hS => ?_
          refine d_all (fuel := 2) (rs := [5]) (by kernel_rfl) (by simp) (all1 ?_)
          obtain ⟨y1000, h1001, hx998⟩ := bindE hx998
          refine o_call hs rfl (by kernel_rfl) (by kernel_rfl) (bytes_Clone_s h1001 (h54.mono hle570) (nilSub _) ((hw.pick [0, 1, 2, 3, 4, 5] (by kernel_rfl)).pack 0)) fun a w v hv hs => ?_
          obtain ⟨p1002, c1003, d1005, rfl, hw, h1004⟩ := hv
          replace hw := hw.unpack 1 rfl
          refine dg_next (SX_now hS943 ((hw.vws [1, 2, 3, 4, 5, 6]).anti (Le.refl _)) (by kernel_rfl)) fun hS => ?_
          obtain ⟨ih1007, hle1008, hw, h1009⟩ := (hw.pick [0, 1, 2, 3, 4, 5, 6] (by kernel_rfl)).fz (h1004.mono (Le.refl _))
          refine d_pures (fuel := 1) kS943 hs hS [6] [107, 113] [(107, (pt b2 0)), (113, .agg #[vi64 0, vu64 x42.f9, .slice p1002 y1000.length c1003])] (by kernel_rfl) fun a hs hS => ?_
          refine d_all (fuel := 0) (rs := [7]) (by kernel_rfl) (by simp) (all1 ?_)
          obtain ⟨y1010, h1011, hx998⟩ := bindE hx998
          refine o_call hs rfl (by kernel_rfl) (by kernel_rfl) (caller_Caller_answer_3_s (x3 := x3) (x4 := x4) (x6 := x6) (x9 := x9) (x15 := (x15)) (x17 := x17) (x18 := x18) (x19 := x19) (x20 := x20) (x24 := x24) h1011 (h12.mono (hle570.trans hle1008)) h16 (h23.mono (hle570.trans hle1008)) (h34.mono (hle570.trans hle1008)) (h41.mono (hle570.trans hle1008)) h1009 ((hw.pick [1, 2, 4, 3, 0, 5] (by kernel_rfl)).pack 4)) fun a w v hv hs => ?_
          obtain ⟨p1012, c1013, p1015, c1016, rfl, hw, h1014, h1017⟩ := hv
          replace hw := hw.unpack 4 rfl
          refine dg_next (SX_now hS943 ((hw.vws [4, 1, 2, 5]).anti hle1008) (by kernel_rfl)) fun hS => ?_
          refine d_done (by kernel_rfl) ?_
          obtain rfl := someE hx998
          exact (hJ999 _ _).2 ⟨y1010.1, y1010.2.1, y1010.2.2.1, y1010.2.2.2.1, y1010.2.2.2.2.1, y1010.2.2.2.2.2.1, y1010.2.2.2.2.2.2.1, y1010.2.2.2.2.2.2.2.1, y1010.2.2.2.2.2.2.2.2, p1012, c1013, p1015, c1016, ih1007, hx819, hs.cast [] (by kernel_rfl), hw.pick [0, 1, 3, 2, 5] (by kernel_rfl), hle1008, h1014, h1017⟩
        intro a w hh
        obtain ⟨x982, x983, x984, x985, x989, x990, x991, x992, x993, p986, c987, p994, c995, ih980, hx819, hs, hw, hle981, h988, h996⟩ := (hJ999 _ _).1 hh
        obtain rfl := someE hx819
        exact (hJ820 _ _).2 ⟨x982, x983, x984, x985, x9, x989, x990, x991, x992, x993, p986, c987, p10, c11, d13, p994, c995, ih980, hk, hs.cast [] (by kernel_rfl), hw.pick [0, 1, 2, 3, 4] (by kernel_rfl), hle981, h988, (h12.mono (hle570.trans hle981)), h996⟩
      refine c_cond0 hs (by kernel_rfl) (t := x941) (by kernel_rfl) h942 ?_
      refine c_skip ?_
      obtain rfl := someE hx819
      exact (hJ820 _ _).2 ⟨x35, x36, x37, x38, x9, x27, x28, x29, x30, x31, p39, c40, p10, c11, d13, p32, c33, ih569, hk, hs.cast [] (by kernel_rfl), hw.pick [1, 2, 3, 4, 5] (by kernel_rfl), (Le.refl _), (h41.mono hle570), (h12.mono hle570), (h34.mono hle570)⟩
    refine c_cond0 hs (by kernel_rfl) (t := (x42.f0 == 20)) (by kernel_rfl) h935 ?_
    refine c_skip ?_
    obtain rfl := someE hx819
    exact (hJ820 _ _).2 ⟨x35, x36, x37, x38, x9, x27, x28, x29, x30, x31, p39, c40, p10, c11, d13, p32, c33, ih569, hk, hs.cast [] (by kernel_rfl), hw.pick [1, 2, 3, 4, 5] (by kernel_rfl), (Le.refl _), (h41.mono hle570), (h12.mono hle570), (h34.mono hle570)⟩
  intro a w hh
  obtain ⟨x795, x796, x797, x798, x802, x808, x809, x810, x811, x812, p799, c800, p803, c804, d806, p813, c814, ih793, hk, hs, hw, hle794, h801, h805, h815⟩ := (hJ820 _ _).1 hh
  refine c_seq ?_
  refine c_region ?_
  refine pures hs 1 [4] [(4, .slice none 0 0)] (by kernel_rfl) fun a hs => ?_
  refine s_end ?_
  refine c_ret ?_
  replace hw := hw.nil
  obtain rfl := someE hk
  refine hQ _ _ (f_ret1 hs rfl (v := .slice none 0 0) (by kernel_rfl) ⟨ih793, none, 0, ([]), p799, c800, p803, c804, d806, p813, c814, rfl, hw.pick [0, 1, 2, 4, 3, 5] (by kernel_rfl), (hle570.trans hle794), (OSl.nil _ _), h801, h805, h815⟩)
def caller_Caller_Reply_3 (x28 : Int) (x29 : Int) (x30 : Int) (x31 : List Int) : Option (M51 × Bool) :=
  (latch_Latch_api_Reply_Get_2 x28 x29 x30 x31).bind fun y87 =>
  (bytes_Clone y87.1.f2).bind fun y101 =>
  some ((M51.mk y87.1.f0 y87.1.f1 y101), y87.2)
theorem caller_Caller_Reply_3_s {x3 : Int} {x4 : Int} {x5 : Int} {x6 : Int} {x9 : List M44} {x15 : Value} {x17 : Int} {x18 : Int} {x19 : Int} {x20 : List Int} {x24 : Int} {x27 : Int} {x28 : Int} {x29 : Int} {x30 : Int} {x31 : List Int} {x35 : Int} {x36 : Int} {x37 : Int} {x38 : List Int} {b2 : Nat} {b8 : Nat} {p10 : Option Addr} {c11 : Nat} {d13 : Ch} {p21 : Option Addr} {c22 : Nat} {b26 : Nat} {p32 : Option Addr} {c33 : Nat} {p39 : Option Addr} {c40 : Nat} {r : M51 × Bool} (hk : caller_Caller_Reply_3 x28 x29 x30 x31 = some r) {g w : World} {F : Ch} {ih : IH} (h12 : OSl e44 ih p10 c11 x9 d13) (h16 : x15.oneCell' = true) (h23 : RSl e5 ih [] p21 c22 x20) (h34 : RSl e5 ih [] p32 c33 x31) (h41 : RSl e5 ih [] p39 c40 x38) (hw : St g w [bx b2 [vi64 x3, vi64 x4, vu64 x5, vi64 x6, (pt b8 0), vi64 x17, vu32 x18, vu64 x19, .slice p21 x20.length c22, vi64 x24, (pt b26 0), vu64 x35, vi64 x36, vu64 x37, .slice p39 x38.length c40] 85, bx b8 [.slice p10 x9.length c11, x15] 113, d13, bx b26 [vu32 x27, vi32 0, vu32 0, vu32 x28, vi64 x29, vu64 x30, .slice p32 x31.length c33] 126, F] ih) :
    CallsR Tryz.prog 13 #[(pt b2 0)] w fun v w' => ∃ (ih' : IH) (p111 : Option Addr) (c112 : Nat), v = .tuple #[.agg #[vi64 r.1.f0, vu64 r.1.f1, .slice p111 r.1.f2.length c112], .bool r.2] ∧ St g w' [bx b2 [vi64 x3, vi64 x4, vu64 x5, vi64 x6, (pt b8 0), vi64 x17, vu32 x18, vu64 x19, .slice p21 x20.length c22, vi64 x24, (pt b26 0), vu64 x35, vi64 x36, vu64 x37, .slice p39 x38.length c40] 85, bx b8 [.slice p10 x9.length c11, x15] 113, d13, bx b26 [vu32 x27, vi32 0, vu32 0, vu32 x28, vi64 x29, vu64 x30, .slice p32 x31.length c33] 126, F] ih' ∧ Le ih ih' ∧ RSl e5 ih' [] p111 c112 r.1.f2 := by
  refine f_in (vs := [(pt b2 0)]) Tryz.func13 rfl 23 rfl (by kernel_rfl) [(0, (pt b2 0))] (by kernel_rfl) fun a Qf hQ hQn hs => ?_
  refine c_seq ?_
  refine c_region ?_
  refine s_new hs hw [vi64 0, vu64 0, .slice none 0 0] 51 (fun b => (pt b 0)) (by kernel_rfl) (fun _ => by kernel_rfl) fun a w b78 hs hw => ?_
  refine pures hs 1 [0, 2] [(0, (pt b2 0)), (2, (pt b78 0))] (by kernel_rfl) fun a hs => ?_
  refine s_end ?_
  refine c_seq ?_
  refine c_seq ?_
  refine c_region ?_
  refine pures hs 2 [0, 2, 7] [(0, (pt b2 0)), (2, (pt b78 0)), (7, .bool false)] (by kernel_rfl) fun a hs => ?_
  refine s_end ?_
  refine c_condF hs (by kernel_rfl) (by kernel_rfl) ?_
  refine c_skip ?_
  refine c_seq ?_
  refine c_region ?_
  refine pures hs 3 [2, 12] [(2, (pt b78 0)), (12, (pt b2 10))] (by kernel_rfl) fun a hs => ?_
  refine s_load hs (hw.at_ 1 rfl) 10 (by kernel_rfl) (by kernel_rfl) (v := (pt b26 0)) (by kernel_rfl) fun a hs => ?_
  obtain ⟨y87, h88, hk⟩ := bindE hk
  refine s_call hs (by kernel_rfl) (by kernel_rfl) (latch_Latch_api_Reply_Get_2_s (x3 := x27) h88 h34 ((hw.pick [4, 0, 1, 2, 3, 5] (by kernel_rfl)).pack 1)) fun a w v hv hs => ?_
  obtain ⟨p89, c90, rfl, hw, h91⟩ := hv
  replace hw := hw.unpack 1 rfl
  refine pures hs 3 [2, 15, 16] [(2, (pt b78 0)), (15, .agg #[vi64 y87.1.f0, vu64 y87.1.f1, .slice p89 y87.1.f2.length c90]), (16, .bool y87.2)] (by kernel_rfl) fun a hs => ?_
  refine s_new hs hw [vi64 0, vu64 0, .slice none 0 0] 51 (fun b => (pt b 0)) (by kernel_rfl) (fun _ => by kernel_rfl) fun a w b92 hs hw => ?_
  refine s_store hs hw 0 rfl 0 (by kernel_rfl) (by kernel_rfl) (v := .agg #[vi64 y87.1.f0, vu64 y87.1.f1, .slice p89 y87.1.f2.length c90]) (by kernel_rfl) (by kernel_rfl) (by kernel_rfl) (by kernel_rfl) fun a w hs hw => ?_
  refine pures hs 1 [2, 4, 5] [(2, (pt b78 0)), (4, (pt b92 0)), (5, .bool y87.2)] (by kernel_rfl) fun a hs => ?_
  refine s_end ?_
  refine c_seq ?_
  refine c_region ?_
  refine pures hs 1 [2, 4, 5, 17] [(2, (pt b78 0)), (4, (pt b92 0)), (5, .bool y87.2), (17, (pt b92 2))] (by kernel_rfl) fun a hs => ?_
  refine s_load hs (hw.at_ 0 rfl) 2 (by kernel_rfl) (by kernel_rfl) (v := .slice p89 y87.1.f2.length c90) (by kernel_rfl) fun a hs => ?_
  obtain ⟨y101, h102, hk⟩ := bindE hk
  refine s_call hs (by kernel_rfl) (by kernel_rfl) (bytes_Clone_s h102 h91 (nilSub _) ((hw.pick [0, 1, 2, 3, 4, 5, 6] (by kernel_rfl)).pack 0)) fun a w v hv hs => ?_
  obtain ⟨p103, c104, d106, rfl, hw, h105⟩ := hv
  replace hw := hw.unpack 1 rfl
  refine pures hs 1 [2, 4, 5, 19, 20] [(2, (pt b78 0)), (4, (pt b92 0)), (5, .bool y87.2), (19, .slice p103 y101.length c104), (20, (pt b92 2))] (by kernel_rfl) fun a hs => ?_
  refine s_store hs hw 1 rfl 2 (by kernel_rfl) (by kernel_rfl) (v := .slice p103 y101.length c104) (by kernel_rfl) (by kernel_rfl) (by kernel_rfl) (by kernel_rfl) fun a w hs hw => ?_
  refine s_end ?_
  refine c_seq ?_
  refine c_region ?_
  refine s_load hs (hw.at_ 1 rfl) 0 (by kernel_rfl) (by kernel_rfl) (v := .agg #[vi64 y87.1.f0, vu64 y87.1.f1, .slice p103 y101.length c104]) (by kernel_rfl) fun a hs => ?_
  refine pures hs 1 [2, 21, 22] [(2, (pt b78 0)), (21, .agg #[vi64 y87.1.f0, vu64 y87.1.f1, .slice p103 y101.length c104]), (22, .bool y87.2)] (by kernel_rfl) fun a hs => ?_
  refine s_store hs hw 3 rfl 0 (by kernel_rfl) (by kernel_rfl) (v := .agg #[vi64 y87.1.f0, vu64 y87.1.f1, .slice p103 y101.length c104]) (by kernel_rfl) (by kernel_rfl) (by kernel_rfl) (by kernel_rfl) fun a w hs hw => ?_
  refine pures hs 1 [2, 3] [(2, (pt b78 0)), (3, .bool y87.2)] (by kernel_rfl) fun a hs => ?_
  refine s_end ?_
  refine c_ret ?_
  obtain ⟨ih108, hle109, hw, h110⟩ := (hw.pick [0, 1, 2, 3, 4, 5, 6, 7] (by kernel_rfl)).fz (h105.mono (Le.refl _))
  obtain rfl := someE hk
  refine hQ _ _ (f_retG hs (l := [.cell 2 51, .tmp 3]) (vs := [.agg #[vi64 y87.1.f0, vu64 y87.1.f1, .slice p103 y101.length c104], .bool y87.2]) rfl (⟨res_cell hs (hw.at_ 2 rfl) (by kernel_rfl) (v := .agg #[vi64 y87.1.f0, vu64 y87.1.f1, .slice p103 y101.length c104]) (by kernel_rfl), ⟨res_tmp hs (v := .bool y87.2) (by kernel_rfl), trivial⟩⟩) (by kernel_rfl) ⟨ih108, p103, c104, rfl, hw.pick [3, 4, 5, 1, 6] (by kernel_rfl), hle109, h110⟩)
def caller_Caller_Tick_6_r3 (x6 : Int) (x420 : List M48) : Option ((List M48) × Int) :=
  some (x420, IntKind.i64.wrap (x6 + 1))
def caller_Caller_Tick_6_r4 (k : Nat) (x3 : Int) (x5 : Int) (x9 : List M44) (x17 : Int) (x18 : Int) (x19 : Int) (x20 : List Int) (x24 : Int) (x6 : Int) (x4 : Int) (x347 : Int) (x348 : Int) : Option ((List M48) × Int) :=
  ((caller_Caller_ask k x3 x5 x9 x17 x18 x19 x20 x24).bind fun y429 =>
    (app y429 [(M48.mk 10 x347 (IntKind.i64.wrap ((IntKind.i64.wrap (100 + ((IntKind.i64.wrap (x6 + 1)).tmod x4))) + 1)) x348 0 0 0 0 0 0 0 0 0 (M41.mk 0 0 0 0) (M44.mk 0 0 ([]) false 0) ([]) ([]) ([]))]).bind fun x440 =>
    some x440 : Option (List M48)).bind fun s463 => caller_Caller_Tick_6_r3 x6 s463
def caller_Caller_Tick_6 (k : Nat) (x3 : Int) (x4 : Int) (x5 : Int) (x6 : Int) (x9 : List M44) (x17 : Int) (x18 : Int) (x19 : Int) (x20 : List Int) (x24 : Int) (x28 : Int) (x29 : Int) (x30 : Int) (x31 : List Int) : Option ((List M48) × Int) :=
  (caller_Caller_Busy_6 x28 x29 x30 x31).bind fun y273 =>
  if (!y273) = true then some ([], IntKind.i64.wrap (x6 + 1))
  else (if (x4 == 0) = true then none
    else (caller_Caller_Address x3).bind fun y468 =>
    (atlas_Atlas_Of k x9 x18).bind fun y470 =>
    some (y468, y470.f0) : Option (Int × Int)).bind fun s499 => caller_Caller_Tick_6_r4 k x3 x5 x9 x17 x18 x19 x20 x24 x6 x4 s499.1 s499.2
theorem caller_Caller_Tick_6_s {k : Nat} {x3 : Int} {x4 : Int} {x5 : Int} {x6 : Int} {x9 : List M44} {x15 : Value} {x17 : Int} {x18 : Int} {x19 : Int} {x20 : List Int} {x24 : Int} {x27 : Int} {x28 : Int} {x29 : Int} {x30 : Int} {x31 : List Int} {x35 : Int} {x36 : Int} {x37 : Int} {x38 : List Int} {b2 : Nat} {b8 : Nat} {p10 : Option Addr} {c11 : Nat} {d13 : Ch} {p21 : Option Addr} {c22 : Nat} {b26 : Nat} {p32 : Option Addr} {c33 : Nat} {p39 : Option Addr} {c40 : Nat} {r : (List M48) × Int} (hk : caller_Caller_Tick_6 k x3 x4 x5 x6 x9 x17 x18 x19 x20 x24 x28 x29 x30 x31 = some r) {g w : World} {F : Ch} {ih : IH} (h12 : OSl e44 ih p10 c11 x9 d13) (h16 : x15.oneCell' = true) (h23 : RSl e5 ih [] p21 c22 x20) (h34 : RSl e5 ih [] p32 c33 x31) (h41 : RSl e5 ih [] p39 c40 x38) (hG : Glob 0 gl0 162 ih) (hw : St g w [bx b2 [vi64 x3, vi64 x4, vu64 x5, vi64 x6, (pt b8 0), vi64 x17, vu32 x18, vu64 x19, .slice p21 x20.length c22, vi64 x24, (pt b26 0), vu64 x35, vi64 x36, vu64 x37, .slice p39 x38.length c40] 85, bx b8 [.slice p10 x9.length c11, x15] 113, d13, bx b26 [vu32 x27, vi32 0, vu32 0, vu32 x28, vi64 x29, vu64 x30, .slice p32 x31.length c33] 126, F] ih) :
    CallsR Tryz.prog 14 #[(pt b2 0)] w fun v w' => ∃ (ih' : IH) (p500 : Option Addr) (c501 : Nat) (d503 : Ch), v = .slice p500 r.1.length c501 ∧ St g w' [d503, bx b2 [vi64 x3, vi64 x4, vu64 x5, vi64 r.2, (pt b8 0), vi64 x17, vu32 x18, vu64 x19, .slice p21 x20.length c22, vi64 x24, (pt b26 0), vu64 x35, vi64 x36, vu64 x37, .slice p39 x38.length c40] 85, bx b8 [.slice p10 x9.length c11, x15] 113, d13, bx b26 [vu32 x27, vi32 0, vu32 0, vu32 x28, vi64 x29, vu64 x30, .slice p32 x31.length c33] 126, F] ih' ∧ Le ih ih' ∧ OSl e48 ih' p500 c501 r.1 d503 := by
  refine f_in (vs := [(pt b2 0)]) Tryz.func14 rfl 46 rfl (by kernel_rfl) [(0, (pt b2 0))] (by kernel_rfl) fun a Qf hQ hQn hs => ?_
  refine c_seq ?_
  refine c_region ?_
  refine pures hs 1 [0] [(0, (pt b2 0))] (by kernel_rfl) fun a hs => ?_
  refine s_end ?_
  refine c_seq ?_
  refine c_seq ?_
  refine c_region ?_
  refine pures hs 2 [0, 5] [(0, (pt b2 0)), (5, .bool false)] (by kernel_rfl) fun a hs => ?_
  refine s_end ?_
  refine c_condF hs (by kernel_rfl) (by kernel_rfl) ?_
  refine c_skip ?_
  refine c_seq ?_
  refine c_region ?_
  refine pures hs 3 [0, 6, 8] [(0, (pt b2 0)), (6, (pt b2 0)), (8, (pt b2 3))] (by kernel_rfl) fun a hs => ?_
  refine s_load hs (hw.at_ 0 rfl) 3 (by kernel_rfl) (by kernel_rfl) (v := vi64 x6) (by kernel_rfl) fun a hs => ?_
  refine pures hs 3 [0, 10, 12] [(0, (pt b2 0)), (10, vi64 (IntKind.i64.wrap (x6 + 1))), (12, (pt b2 3))] (by kernel_rfl) fun a hs => ?_
  refine s_store hs hw 0 rfl 3 (by kernel_rfl) (by kernel_rfl) (v := vi64 (IntKind.i64.wrap (x6 + 1))) (by kernel_rfl) (by kernel_rfl) (by kernel_rfl) (by kernel_rfl) fun a w hs hw => ?_
  refine s_end ?_
  refine c_seq ?_
  refine c_seq ?_
  refine c_region ?_
  refine pures hs 1 [0, 13] [(0, (pt b2 0)), (13, (pt b2 0))] (by kernel_rfl) fun a hs => ?_
  obtain ⟨y273, h274, hk⟩ := bindE hk
  refine s_call hs (by kernel_rfl) (by kernel_rfl) (caller_Caller_Busy_6_s (x3 := x3) (x4 := x4) (x5 := x5) (x6 := IntKind.i64.wrap (x6 + 1)) (x9 := x9) (x15 := (x15)) (x17 := x17) (x18 := x18) (x19 := x19) (x20 := x20) (x24 := x24) (x27 := x27) (x35 := x35) (x36 := x36) (x37 := x37) (x38 := x38) h274 h12 h16 h23 h34 h41 ((hw.pick [0, 1, 2, 3, 4] (by kernel_rfl)).pack 4)) fun a w v hv hs => ?_
  obtain ⟨rfl, hw⟩ := hv
  replace hw := hw.unpack 4 rfl
  refine pures hs 1 [0, 15] [(0, (pt b2 0)), (15, .bool (!y273))] (by kernel_rfl) fun a hs => ?_
  refine s_end ?_
  rcases ifbE hk with ⟨h275, hk⟩ | ⟨h275, hk⟩
  · refine c_cond1 hs (by kernel_rfl) (t := (!y273)) (by kernel_rfl) h275 ?_
    refine c_seq ?_
    refine c_region ?_
    refine pures hs 1 [2] [(2, .slice none 0 0)] (by kernel_rfl) fun a hs => ?_
    refine s_end ?_
    refine c_ret ?_
    replace hw := hw.nil
    obtain rfl := someE hk
    refine hQ _ _ (f_ret1 hs rfl (v := .slice none 0 0) (by kernel_rfl) ⟨ih, none, 0, ([]), rfl, hw.pick [0, 1, 2, 3, 4, 5] (by kernel_rfl), (Le.refl _), (OSl.nil _ _)⟩)
  refine c_cond0 hs (by kernel_rfl) (t := (!y273)) (by kernel_rfl) h275 ?_
  refine c_skip ?_
  refine c_seq ?_
  obtain ⟨S278, hS278, kS278⟩ := mkSX (X := [([], bx b2 [vi64 x3, vi64 x4, vu64 x5, vi64 (IntKind.i64.wrap (x6 + 1)), (pt b8 0), vi64 x17, vu32 x18, vu64 x19, .slice p21 x20.length c22, vi64 x24, (pt b26 0), vu64 x35, vi64 x36, vu64 x37, .slice p39 x38.length c40] 85), ([], bx b8 [.slice p10 x9.length c11, x15] 113), ([], d13), ([], bx b26 [vu32 x27, vi32 0, vu32 0, vu32 x28, vi64 x29, vu64 x30, .slice p32 x31.length c33] 126), ([], F)]) (ih := ih) (K := []) rfl
  obtain ⟨y464, hx465, hk⟩ := bindE hk
  obtain ⟨J466, hJ466⟩ : ∃ J : Act → World → Prop, ∀ a w, J a w ↔ (∃ (x347 : Int) (x348 : Int) (b345 : Nat) (ih343 : IH), caller_Caller_Tick_6_r4 k x3 x5 x9 x17 x18 x19 x20 x24 x6 x4 x347 x348 = some r ∧ Sees a 46 [(0, (pt b2 0)), (3, (pt b345 0))] ∧ St g w [bx b2 [vi64 x3, vi64 x4, vu64 x5, vi64 (IntKind.i64.wrap (x6 + 1)), (pt b8 0), vi64 x17, vu32 x18, vu64 x19, .slice p21 x20.length c22, vi64 x24, (pt b26 0), vu64 x35, vi64 x36, vu64 x37, .slice p39 x38.length c40] 85, bx b8 [.slice p10 x9.length c11, x15] 113, bx b26 [vu32 x27, vi32 0, vu32 0, vu32 x28, vi64 x29, vu64 x30, .slice p32 x31.length c33] 126, bx b345 [vi64 10, vi64 x347, vi64 (IntKind.i64.wrap ((IntKind.i64.wrap (100 + ((IntKind.i64.wrap (x6 + 1)).tmod x4))) + 1)), vi64 x348, vu64 0, vu64 0, vu64 0, vu64 0, vu64 0, vu64 0, vi64 0, vu32 0, vi64 0, vi64 0, vi64 0, vu64 0, vi64 0, vi64 0, vu64 0, .slice none 0 0, .bool false, vi64 0, .slice none 0 0, .slice none 0 0, .slice none 0 0] 48, d13, F] ih343 ∧ Le ih ih343) := ⟨_, fun _ _ => Iff.rfl⟩
  refine c_draw (by kernel_rfl) (N := 27) rfl S278 J466 ?_ ?_
  · have hw := hw.drew
    have hS : S278 (Array.replicate 27 false) _ := SX_now hS278 (hw.vws [0, 1, 2, 3, 4]) (by kernel_rfl)
    refine d_pures (fuel := 23) kS278 hs hS [0, 2, 3, 4] [0, 16, 20] [(0, (pt b2 0)), (16, (pt b2 0)), (20, (pt b2 3))] (by kernel_rfl) fun a hs hS => ?_
    refine d_load (fuel := 22) kS278 hs hS 5 rfl (by kernel_rfl) (SX_box hS278 0 rfl (by kernel_rfl)) 3 (by kernel_rfl) (by kernel_rfl) (v := vi64 (IntKind.i64.wrap (x6 + 1))) (by kernel_rfl) fun a hs hS => ?_
    refine d_pures (fuel := 19) kS278 hs hS [6, 7, 8] [0, 16, 21, 24] [(0, (pt b2 0)), (16, (pt b2 0)), (21, vi64 (IntKind.i64.wrap (x6 + 1))), (24, (pt b2 1))] (by kernel_rfl) fun a hs hS => ?_
    refine d_load (fuel := 18) kS278 hs hS 9 rfl (by kernel_rfl) (SX_box hS278 0 rfl (by kernel_rfl)) 1 (by kernel_rfl) (by kernel_rfl) (v := vi64 x4) (by kernel_rfl) fun a hs hS => ?_
    rcases ifbE hx465 with ⟨h467, hx465⟩ | ⟨h467, hx465⟩
    · cases hx465
    refine d_rem (fuel := 17) kS278 hs hS 10 rfl (by kernel_rfl) (by kernel_rfl) .i64 (i := IntKind.i64.wrap (x6 + 1)) (j := x4) (by kernel_rfl) (by kernel_rfl) (by simpa using h467) fun a hs hS => ?_
    refine d_pures (fuel := 12) kS278 hs hS [11, 12, 13, 14, 15] [0, 16, 28, 31] [(0, (pt b2 0)), (16, (pt b2 0)), (28, vi64 (IntKind.i64.wrap ((IntKind.i64.wrap (100 + ((IntKind.i64.wrap (x6 + 1)).tmod x4))) + 1))), (31, (pt b2 4))] (by kernel_rfl) fun a hs hS => ?_
    refine d_load (fuel := 11) kS278 hs hS 16 rfl (by kernel_rfl) (SX_box hS278 0 rfl (by kernel_rfl)) 4 (by kernel_rfl) (by kernel_rfl) (v := (pt b8 0)) (by kernel_rfl) fun a hs hS => ?_
    refine d_pures (fuel := 7) kS278 hs hS [17, 18, 19, 20] [0, 16, 28, 32, 36] [(0, (pt b2 0)), (16, (pt b2 0)), (28, vi64 (IntKind.i64.wrap ((IntKind.i64.wrap (100 + ((IntKind.i64.wrap (x6 + 1)).tmod x4))) + 1))), (32, (pt b8 0)), (36, (pt b2 6))] (by kernel_rfl) fun a hs hS => ?_
    refine d_load (fuel := 6) kS278 hs hS 21 rfl (by kernel_rfl) (SX_box hS278 0 rfl (by kernel_rfl)) 6 (by kernel_rfl) (by kernel_rfl) (v := vu32 x18) (by kernel_rfl) fun a hs hS => ?_
    refine d_all (fuel := 5) (rs := [1, 25]) (by kernel_rfl) (by simp) (all2 ?_ (all1 ?_))
    · obtain ⟨y468, h469, hx465⟩ := bindE hx465
      refine o_call hs rfl (by kernel_rfl) (by kernel_rfl) (caller_Caller_Address_s (x4 := x4) (x5 := x5) (x6 := IntKind.i64.wrap (x6 + 1)) (x9 := x9) (x15 := (x15)) (x17 := x17) (x18 := x18) (x19 := x19) (x20 := x20) (x24 := x24) (x25 := (pt b26 0)) (x27 := x35) (x28 := x36) (x29 := x37) (x30 := x38) h469 h12 h16 h23 rfl h41 ((hw.pick [0, 1, 2, 3, 4] (by kernel_rfl)).pack 3)) fun a w v hv hs => ?_
      obtain ⟨rfl, hw⟩ := hv
      replace hw := hw.unpack 3 rfl
      refine dg_next (SX_now hS278 ((hw.vws [0, 1, 2, 3, 4]).anti (Le.refl _)) (by kernel_rfl)) fun hS => ?_
      refine d_all (fuel := 4) (rs := [22, 25]) (by kernel_rfl) (by simp) (all2 ?_ (all1 ?_))
      · obtain ⟨y470, h471, hx465⟩ := bindE hx465
        refine o_call hs rfl (by kernel_rfl) (by kernel_rfl) (atlas_Atlas_Of_s (x9 := (x15)) h471 h12 h16 ((hw.pick [1, 2, 0, 3, 4] (by kernel_rfl)).pack 2)) fun a w v hv hs => ?_
        obtain ⟨ih472, p474, c475, rfl, hw, hle473, h476⟩ := hv
        replace hw := hw.unpack 2 rfl
        refine dg_next (SX_now hS278 ((hw.vws [2, 0, 1, 3, 4]).anti hle473) (by kernel_rfl)) fun hS => ?_
        refine d_pures (fuel := 2) kS278 hs hS [23, 24] [0, 40] [(0, (pt b2 0)), (40, .agg #[vi64 10, vi64 y468, vi64 (IntKind.i64.wrap ((IntKind.i64.wrap (100 + ((IntKind.i64.wrap (x6 + 1)).tmod x4))) + 1)), vi64 y470.f0, vu64 0, vu64 0, vu64 0, vu64 0, vu64 0, vu64 0, vi64 0, vu32 0, vi64 0, vi64 0, vi64 0, vu64 0, vi64 0, vi64 0, vu64 0, .slice none 0 0, .bool false, vi64 0, .slice none 0 0, .slice none 0 0, .slice none 0 0])] (by kernel_rfl) fun a hs hS => ?_
        refine d_all (fuel := 1) (rs := [25]) (by kernel_rfl) (by simp) (all1 ?_)
        refine o_new hs rfl hw [vi64 0, vi64 0, vi64 0, vi64 0, vu64 0, vu64 0, vu64 0, vu64 0, vu64 0, vu64 0, vi64 0, vu32 0, vi64 0, vi64 0, vi64 0, vu64 0, vi64 0, vi64 0, vu64 0, .slice none 0 0, .bool false, vi64 0, .slice none 0 0, .slice none 0 0, .slice none 0 0] 48 (fun b => (pt b 0)) (by kernel_rfl) (fun _ => by kernel_rfl) fun a w b477 hs hw => ?_
        refine dg_next (SX_now hS278 ((hw.vws [3, 1, 2, 4, 5]).anti hle473) (by kernel_rfl)) fun hS => ?_
        refine d_all (fuel := 0) (rs := [26]) (by kernel_rfl) (by simp) (all1 ?_)
        refine o_store hs hw rfl 0 rfl 0 (by kernel_rfl) (by kernel_rfl) (v := .agg #[vi64 10, vi64 y468, vi64 (IntKind.i64.wrap ((IntKind.i64.wrap (100 + ((IntKind.i64.wrap (x6 + 1)).tmod x4))) + 1)), vi64 y470.f0, vu64 0, vu64 0, vu64 0, vu64 0, vu64 0, vu64 0, vi64 0, vu32 0, vi64 0, vi64 0, vi64 0, vu64 0, vi64 0, vi64 0, vu64 0, .slice none 0 0, .bool false, vi64 0, .slice none 0 0, .slice none 0 0, .slice none 0 0]) (by kernel_rfl) (by kernel_rfl) (by kernel_rfl) (by kernel_rfl) fun a w hs hw => ?_
        refine dg_next (SX_now hS278 ((hw.vws [3, 1, 2, 4, 5]).anti hle473) (by kernel_rfl)) fun hS => ?_
        refine d_done (by kernel_rfl) ?_
        obtain rfl := someE hx465
        exact (hJ466 _ _).2 ⟨y468, y470.f0, b477, ih472, hk, hs.cast [0, 3] (by kernel_rfl), hw.pick [3, 1, 4, 0, 2, 5] (by kernel_rfl), hle473⟩
      refine o_new hs rfl hw [vi64 0, vi64 0, vi64 0, vi64 0, vu64 0, vu64 0, vu64 0, vu64 0, vu64 0, vu64 0, vi64 0, vu32 0, vi64 0, vi64 0, vi64 0, vu64 0, vi64 0, vi64 0, vu64 0, .slice none 0 0, .bool false, vi64 0, .slice none 0 0, .slice none 0 0, .slice none 0 0] 48 (fun b => (pt b 0)) (by kernel_rfl) (fun _ => by kernel_rfl) fun a w b479 hs hw => ?_
      refine dg_next (SX_now hS278 ((hw.vws [1, 2, 3, 4, 5]).anti (Le.refl _)) (by kernel_rfl)) fun hS => ?_
      refine d_all (fuel := 3) (rs := [22]) (by kernel_rfl) (by simp) (all1 ?_)
      obtain ⟨y481, h482, hx465⟩ := bindE hx465
      refine o_call hs rfl (by kernel_rfl) (by kernel_rfl) (atlas_Atlas_Of_s (x9 := (x15)) h482 h12 h16 ((hw.pick [2, 3, 0, 1, 4, 5] (by kernel_rfl)).pack 2)) fun a w v hv hs => ?_
      obtain ⟨ih483, p485, c486, rfl, hw, hle484, h487⟩ := hv
      replace hw := hw.unpack 2 rfl
      refine dg_next (SX_now hS278 ((hw.vws [3, 0, 1, 4, 5]).anti hle484) (by kernel_rfl)) fun hS => ?_
      refine d_pures (fuel := 1) kS278 hs hS [23, 24] [0, 3, 40] [(0, (pt b2 0)), (3, (pt b479 0)), (40, .agg #[vi64 10, vi64 y468, vi64 (IntKind.i64.wrap ((IntKind.i64.wrap (100 + ((IntKind.i64.wrap (x6 + 1)).tmod x4))) + 1)), vi64 y481.f0, vu64 0, vu64 0, vu64 0, vu64 0, vu64 0, vu64 0, vi64 0, vu32 0, vi64 0, vi64 0, vi64 0, vu64 0, vi64 0, vi64 0, vu64 0, .slice none 0 0, .bool false, vi64 0, .slice none 0 0, .slice none 0 0, .slice none 0 0])] (by kernel_rfl) fun a hs hS => ?_
      refine d_all (fuel := 0) (rs := [26]) (by kernel_rfl) (by simp) (all1 ?_)
      refine o_store hs hw rfl 2 rfl 0 (by kernel_rfl) (by kernel_rfl) (v := .agg #[vi64 10, vi64 y468, vi64 (IntKind.i64.wrap ((IntKind.i64.wrap (100 + ((IntKind.i64.wrap (x6 + 1)).tmod x4))) + 1)), vi64 y481.f0, vu64 0, vu64 0, vu64 0, vu64 0, vu64 0, vu64 0, vi64 0, vu32 0, vi64 0, vi64 0, vi64 0, vu64 0, vi64 0, vi64 0, vu64 0, .slice none 0 0, .bool false, vi64 0, .slice none 0 0, .slice none 0 0, .slice none 0 0]) (by kernel_rfl) (by kernel_rfl) (by kernel_rfl) (by kernel_rfl) fun a w hs hw => ?_
      refine dg_next (SX_now hS278 ((hw.vws [3, 0, 1, 4, 5]).anti hle484) (by kernel_rfl)) fun hS => ?_
      refine d_done (by kernel_rfl) ?_
      obtain rfl := someE hx465
      exact (hJ466 _ _).2 ⟨y468, y481.f0, b479, ih483, hk, hs.cast [0, 3] (by kernel_rfl), hw.pick [3, 0, 4, 2, 1, 5] (by kernel_rfl), hle484⟩
    refine o_new hs rfl hw [vi64 0, vi64 0, vi64 0, vi64 0, vu64 0, vu64 0, vu64 0, vu64 0, vu64 0, vu64 0, vi64 0, vu32 0, vi64 0, vi64 0, vi64 0, vu64 0, vi64 0, vi64 0, vu64 0, .slice none 0 0, .bool false, vi64 0, .slice none 0 0, .slice none 0 0, .slice none 0 0] 48 (fun b => (pt b 0)) (by kernel_rfl) (fun _ => by kernel_rfl) fun a w b488 hs hw => ?_
    refine dg_next (SX_now hS278 ((hw.vws [1, 2, 3, 4, 5]).anti (Le.refl _)) (by kernel_rfl)) fun hS => ?_
    refine d_all (fuel := 4) (rs := [1]) (by kernel_rfl) (by simp) (all1 ?_)
    obtain ⟨y490, h491, hx465⟩ := bindE hx465
    refine o_call hs rfl (by kernel_rfl) (by kernel_rfl) (caller_Caller_Address_s (x4 := x4) (x5 := x5) (x6 := IntKind.i64.wrap (x6 + 1)) (x9 := x9) (x15 := (x15)) (x17 := x17) (x18 := x18) (x19 := x19) (x20 := x20) (x24 := x24) (x25 := (pt b26 0)) (x27 := x35) (x28 := x36) (x29 := x37) (x30 := x38) h491 h12 h16 h23 rfl h41 ((hw.pick [1, 2, 3, 0, 4, 5] (by kernel_rfl)).pack 3)) fun a w v hv hs => ?_
    obtain ⟨rfl, hw⟩ := hv
    replace hw := hw.unpack 3 rfl
    refine dg_next (SX_now hS278 ((hw.vws [0, 1, 2, 4, 5]).anti (Le.refl _)) (by kernel_rfl)) fun hS => ?_
    refine d_all (fuel := 3) (rs := [22]) (by kernel_rfl) (by simp) (all1 ?_)
    obtain ⟨y492, h493, hx465⟩ := bindE hx465
    refine o_call hs rfl (by kernel_rfl) (by kernel_rfl) (atlas_Atlas_Of_s (x9 := (x15)) h493 h12 h16 ((hw.pick [1, 2, 0, 3, 4, 5] (by kernel_rfl)).pack 2)) fun a w v hv hs => ?_
    obtain ⟨ih494, p496, c497, rfl, hw, hle495, h498⟩ := hv
    replace hw := hw.unpack 2 rfl
    refine dg_next (SX_now hS278 ((hw.vws [2, 0, 1, 4, 5]).anti hle495) (by kernel_rfl)) fun hS => ?_
    refine d_pures (fuel := 1) kS278 hs hS [23, 24] [0, 3, 40] [(0, (pt b2 0)), (3, (pt b488 0)), (40, .agg #[vi64 10, vi64 y490, vi64 (IntKind.i64.wrap ((IntKind.i64.wrap (100 + ((IntKind.i64.wrap (x6 + 1)).tmod x4))) + 1)), vi64 y492.f0, vu64 0, vu64 0, vu64 0, vu64 0, vu64 0, vu64 0, vi64 0, vu32 0, vi64 0, vi64 0, vi64 0, vu64 0, vi64 0, vi64 0, vu64 0, .slice none 0 0, .bool false, vi64 0, .slice none 0 0, .slice none 0 0, .slice none 0 0])] (by kernel_rfl) fun a hs hS => ?_
    refine d_all (fuel := 0) (rs := [26]) (by kernel_rfl) (by simp) (all1 ?_)
    refine o_store hs hw rfl 3 rfl 0 (by kernel_rfl) (by kernel_rfl) (v := .agg #[vi64 10, vi64 y490, vi64 (IntKind.i64.wrap ((IntKind.i64.wrap (100 + ((IntKind.i64.wrap (x6 + 1)).tmod x4))) + 1)), vi64 y492.f0, vu64 0, vu64 0, vu64 0, vu64 0, vu64 0, vu64 0, vi64 0, vu32 0, vi64 0, vi64 0, vi64 0, vu64 0, vi64 0, vi64 0, vu64 0, .slice none 0 0, .bool false, vi64 0, .slice none 0 0, .slice none 0 0, .slice none 0 0]) (by kernel_rfl) (by kernel_rfl) (by kernel_rfl) (by kernel_rfl) fun a w hs hw => ?_
    refine dg_next (SX_now hS278 ((hw.vws [2, 0, 1, 4, 5]).anti hle495) (by kernel_rfl)) fun hS => ?_
    refine d_done (by kernel_rfl) ?_
    obtain rfl := someE hx465
    exact (hJ466 _ _).2 ⟨y490, y492.f0, b488, ih494, hk, hs.cast [0, 3] (by kernel_rfl), hw.pick [2, 0, 4, 3, 1, 5] (by kernel_rfl), hle495⟩
  intro a w hh
  obtain ⟨x347, x348, b345, ih343, hk, hs, hw, hle344⟩ := (hJ466 _ _).1 hh
  refine c_seq ?_
  obtain ⟨S349, hS349, kS349⟩ := mkSX (X := [([], bx b2 [vi64 x3, vi64 x4, vu64 x5, vi64 (IntKind.i64.wrap (x6 + 1)), (pt b8 0), vi64 x17, vu32 x18, vu64 x19, .slice p21 x20.length c22, vi64 x24, (pt b26 0), vu64 x35, vi64 x36, vu64 x37, .slice p39 x38.length c40] 85), ([], bx b8 [.slice p10 x9.length c11, x15] 113), ([], bx b26 [vu32 x27, vi32 0, vu32 0, vu32 x28, vi64 x29, vu64 x30, .slice p32 x31.length c33] 126), ([], bx b345 [vi64 10, vi64 x347, vi64 (IntKind.i64.wrap ((IntKind.i64.wrap (100 + ((IntKind.i64.wrap (x6 + 1)).tmod x4))) + 1)), vi64 x348, vu64 0, vu64 0, vu64 0, vu64 0, vu64 0, vu64 0, vi64 0, vu32 0, vi64 0, vi64 0, vi64 0, vu64 0, vi64 0, vi64 0, vu64 0, .slice none 0 0, .bool false, vi64 0, .slice none 0 0, .slice none 0 0, .slice none 0 0] 48), ([], d13), ([], F)]) (ih := ih343) (K := []) rfl
  obtain ⟨y426, hx427, hk⟩ := bindE hk
  obtain ⟨J428, hJ428⟩ : ∃ J : Act → World → Prop, ∀ a w, J a w ↔ (∃ (x420 : List M48) (p421 : Option Addr) (c422 : Nat) (d424 : Ch) (ih418 : IH), caller_Caller_Tick_6_r3 x6 x420 = some r ∧ Sees a 46 [(2, .slice p421 x420.length c422)] ∧ St g w [bx b2 [vi64 x3, vi64 x4, vu64 x5, vi64 (IntKind.i64.wrap (x6 + 1)), (pt b8 0), vi64 x17, vu32 x18, vu64 x19, .slice p21 x20.length c22, vi64 x24, (pt b26 0), vu64 x35, vi64 x36, vu64 x37, .slice p39 x38.length c40] 85, bx b8 [.slice p10 x9.length c11, x15] 113, bx b26 [vu32 x27, vi32 0, vu32 0, vu32 x28, vi64 x29, vu64 x30, .slice p32 x31.length c33] 126, d424, d13, F] ih418 ∧ Le ih343 ih418 ∧ OSl e48 ih418 p421 c422 x420 d424) := ⟨_, fun _ _ => Iff.rfl⟩
  refine c_draw (by kernel_rfl) (N := 6) rfl S349 J428 ?_ ?_
  · have hw := hw.drew
    have hS : S349 (Array.replicate 6 false) _ := SX_now hS349 (hw.vws [0, 1, 2, 3, 4, 5]) (by kernel_rfl)
    refine d_pures (fuel := 5) kS349 hs hS [0] [3, 41] [(3, (pt b345 0)), (41, (pt b2 0))] (by kernel_rfl) fun a hs hS => ?_
    refine d_load (fuel := 4) kS349 hs hS 2 rfl (by kernel_rfl) (SX_box hS349 3 rfl (by kernel_rfl)) 0 (by kernel_rfl) (by kernel_rfl) (v := .agg #[vi64 10, vi64 x347, vi64 (IntKind.i64.wrap ((IntKind.i64.wrap (100 + ((IntKind.i64.wrap (x6 + 1)).tmod x4))) + 1)), vi64 x348, vu64 0, vu64 0, vu64 0, vu64 0, vu64 0, vu64 0, vi64 0, vu32 0, vi64 0, vi64 0, vi64 0, vu64 0, vi64 0, vi64 0, vu64 0, .slice none 0 0, .bool false, vi64 0, .slice none 0 0, .slice none 0 0, .slice none 0 0]) (by kernel_rfl) fun a hs hS => ?_
    refine d_all (fuel := 3) (rs := [1, 3]) (by kernel_rfl) (by simp) (all2 ?_ (all1 ?_))
    · obtain ⟨y429, h430, hx427⟩ := bindE hx427
      refine o_call hs rfl (by kernel_rfl) (by kernel_rfl) (caller_Caller_ask_s (x4 := x4) (x6 := IntKind.i64.wrap (x6 + 1)) (x15 := (x15)) (x25 := (pt b26 0)) (x27 := x35) (x28 := x36) (x29 := x37) (x30 := x38) h430 (h12.mono hle344) h16 (h23.mono hle344) rfl (h41.mono hle344) (hG.mono hle344) ((hw.pick [0, 1, 4, 2, 3, 5] (by kernel_rfl)).pack 3)) fun a w v hv hs => ?_
      obtain ⟨ih431, p433, c434, d436, rfl, hw, hle432, h435⟩ := hv
      replace hw := hw.unpack 4 rfl
      refine dg_next (SX_now hS349 ((hw.vws [1, 2, 4, 5, 3, 6]).anti hle432) (by kernel_rfl)) fun hS => ?_
      refine d_all (fuel := 2) (rs := [3]) (by kernel_rfl) (by simp) (all1 ?_)
      refine o_new hs rfl hw [vi64 10, vi64 x347, vi64 (IntKind.i64.wrap ((IntKind.i64.wrap (100 + ((IntKind.i64.wrap (x6 + 1)).tmod x4))) + 1)), vi64 x348, vu64 0, vu64 0, vu64 0, vu64 0, vu64 0, vu64 0, vi64 0, vu32 0, vi64 0, vi64 0, vi64 0, vu64 0, vi64 0, vi64 0, vu64 0, .slice none 0 0, .bool false, vi64 0, .slice none 0 0, .slice none 0 0, .slice none 0 0] 48 (fun b => .slice (some ⟨b, 0, none⟩) 1 1) (by kernel_rfl) (fun _ => by kernel_rfl) fun a w b438 hs hw => ?_
      refine dg_next (SX_now hS349 ((hw.vws [2, 3, 5, 6, 4, 7]).anti hle432) (by kernel_rfl)) fun hS => ?_
      refine d_all (fuel := 1) (rs := [4]) (by kernel_rfl) (by simp) (all1 ?_)
      obtain ⟨x440, h441, hx427⟩ := bindE hx427
      refine o_app1 hs rfl hw (E := e48) appT36 1 rfl h435 (by kernel_rfl) (by kernel_rfl) (c2 := 1) (by kernel_rfl) (hw.at_ 0 rfl) (z := (M48.mk 10 x347 (IntKind.i64.wrap ((IntKind.i64.wrap (100 + ((IntKind.i64.wrap (x6 + 1)).tmod x4))) + 1)) x348 0 0 0 0 0 0 0 0 0 (M41.mk 0 0 0 0) (M44.mk 0 0 ([]) false 0) ([]) ([]) ([]))) ⟨none, 0, none, 0, none, 0, none, 0, rfl, (RSl.nil _ _ _), (RSl.nil _ _ _), (RSl.nil _ _ _), (RSl.nil _ _ _)⟩ h441 fun a w p442 c443 d444 h445 hw hs => ?_
      refine dg_next (SX_now hS349 ((hw.vws [2, 3, 5, 6, 4, 7]).anti hle432) (by kernel_rfl)) fun hS => ?_
      refine d_pures (fuel := 0) kS349 hs hS [5] [2] [(2, .slice p442 x440.length c443)] (by kernel_rfl) fun a hs hS => ?_
      refine d_done (by kernel_rfl) ?_
      obtain rfl := someE hx427
      exact (hJ428 _ _).2 ⟨x440, p442, c443, d444, ih431, hk, hs.cast [2] (by kernel_rfl), hw.pick [2, 3, 5, 1, 4, 7] (by kernel_rfl), hle432, h445⟩
    refine o_new hs rfl hw [vi64 10, vi64 x347, vi64 (IntKind.i64.wrap ((IntKind.i64.wrap (100 + ((IntKind.i64.wrap (x6 + 1)).tmod x4))) + 1)), vi64 x348, vu64 0, vu64 0, vu64 0, vu64 0, vu64 0, vu64 0, vi64 0, vu32 0, vi64 0, vi64 0, vi64 0, vu64 0, vi64 0, vi64 0, vu64 0, .slice none 0 0, .bool false, vi64 0, .slice none 0 0, .slice none 0 0, .slice none 0 0] 48 (fun b => .slice (some ⟨b, 0, none⟩) 1 1) (by kernel_rfl) (fun _ => by kernel_rfl) fun a w b446 hs hw => ?_
    refine dg_next (SX_now hS349 ((hw.vws [1, 2, 3, 4, 5, 6]).anti (Le.refl _)) (by kernel_rfl)) fun hS => ?_
    refine d_all (fuel := 2) (rs := [1]) (by kernel_rfl) (by simp) (all1 ?_)
    obtain ⟨y448, h449, hx427⟩ := bindE hx427
    refine o_call hs rfl (by kernel_rfl) (by kernel_rfl) (caller_Caller_ask_s (x4 := x4) (x6 := IntKind.i64.wrap (x6 + 1)) (x15 := (x15)) (x25 := (pt b26 0)) (x27 := x35) (x28 := x36) (x29 := x37) (x30 := x38) h449 (h12.mono hle344) h16 (h23.mono hle344) rfl (h41.mono hle344) (hG.mono hle344) ((hw.pick [1, 2, 5, 0, 3, 4, 6] (by kernel_rfl)).pack 3)) fun a w v hv hs => ?_
    obtain ⟨ih450, p452, c453, d455, rfl, hw, hle451, h454⟩ := hv
    replace hw := hw.unpack 4 rfl
    refine dg_next (SX_now hS349 ((hw.vws [1, 2, 5, 6, 3, 7]).anti hle451) (by kernel_rfl)) fun hS => ?_
    refine d_all (fuel := 1) (rs := [4]) (by kernel_rfl) (by simp) (all1 ?_)
    obtain ⟨x457, h458, hx427⟩ := bindE hx427
    refine o_app1 hs rfl hw (E := e48) appT36 0 rfl h454 (by kernel_rfl) (by kernel_rfl) (c2 := 1) (by kernel_rfl) (hw.at_ 4 rfl) (z := (M48.mk 10 x347 (IntKind.i64.wrap ((IntKind.i64.wrap (100 + ((IntKind.i64.wrap (x6 + 1)).tmod x4))) + 1)) x348 0 0 0 0 0 0 0 0 0 (M41.mk 0 0 0 0) (M44.mk 0 0 ([]) false 0) ([]) ([]) ([]))) ⟨none, 0, none, 0, none, 0, none, 0, rfl, (RSl.nil _ _ _), (RSl.nil _ _ _), (RSl.nil _ _ _), (RSl.nil _ _ _)⟩ h458 fun a w p459 c460 d461 h462 hw hs => ?_
    refine dg_next (SX_now hS349 ((hw.vws [1, 2, 5, 6, 3, 7]).anti hle451) (by kernel_rfl)) fun hS => ?_
    refine d_pures (fuel := 0) kS349 hs hS [5] [2] [(2, .slice p459 x457.length c460)] (by kernel_rfl) fun a hs hS => ?_
    refine d_done (by kernel_rfl) ?_
    obtain rfl := someE hx427
    exact (hJ428 _ _).2 ⟨x457, p459, c460, d461, ih450, hk, hs.cast [2] (by kernel_rfl), hw.pick [1, 2, 5, 0, 3, 7] (by kernel_rfl), hle451, h462⟩
  intro a w hh
  obtain ⟨x420, p421, c422, d424, ih418, hk, hs, hw, hle419, h423⟩ := (hJ428 _ _).1 hh
  refine c_ret ?_
  obtain rfl := someE hk
  refine hQ _ _ (f_ret1 hs rfl (v := .slice p421 x420.length c422) (by kernel_rfl) ⟨ih418, p421, c422, d424, rfl, hw.pick [3, 0, 1, 4, 2, 5] (by kernel_rfl), (hle344.trans hle419), h423⟩)
def catenaryref01_Same_r10 : Option Bool :=
  some true
def catenaryref01_Same_r12 (rec_catenaryref01_Same_l11 : Int → Option (Sum Bool Unit)) (x217 : Int) (x272 : Bool) : Option (Sum Bool Unit) :=
  if x272 = true then some (.inl false)
  else rec_catenaryref01_Same_l11 (IntKind.i64.wrap (x217 + 1))
def catenaryref01_Same_l11 (x1 : List Int) (x7 : List Int) : Nat → Int → Option (Sum Bool Unit)
  | 0, _ => none
  | j + 1, x217 =>
    if (decide (x217 < (x1.length : Int))) = true then (
      ((ix x1 x217).bind fun x277 =>
        (ix x7 x217).bind fun x281 =>
        some (x277 != x281) : Option Bool).bind fun s285 => catenaryref01_Same_r12 (catenaryref01_Same_l11 x1 x7 j) x217 s285)
    else some (.inr ())
def catenaryref01_Same (k : Nat) (x1 : List Int) (x7 : List Int) : Option Bool :=
  if ((x1.length : Int) != (x7.length : Int)) = true then some false
  else (catenaryref01_Same_l11 x1 x7 k 0 : Option (Sum Bool Unit)).bind fun
    | .inl z => some z
    | .inr _ => catenaryref01_Same_r10
theorem catenaryref01_Same_s {k : Nat} {x1 : List Int} {x7 : List Int} {p2 : Option Addr} {c3 : Nat} {d5 : Ch} {p8 : Option Addr} {c9 : Nat} {d11 : Ch} {r : Bool} (hk : catenaryref01_Same k x1 x7 = some r) {g w : World} {F : Ch} {ih : IH} (h4 : RSl e5 ih d5 p2 c3 x1) (h6 : ∀ q ∈ d5, q ∈ F) (h10 : RSl e5 ih d11 p8 c9 x7) (h12 : ∀ q ∈ d11, q ∈ F) (hw : St g w [F] ih) :
    CallsR Tryz.prog 15 #[.slice p2 x1.length c3, .slice p8 x7.length c9] w fun v w' => v = .bool r ∧ St g w' [F] ih := by
  refine f_in (vs := [.slice p2 x1.length c3, .slice p8 x7.length c9]) Tryz.func15 rfl 26 rfl (by kernel_rfl) [(0, .slice p2 x1.length c3), (1, .slice p8 x7.length c9)] (by kernel_rfl) fun a Qf hQ hQn hs => ?_
  refine c_seq ?_
  refine c_region ?_
  refine pures hs 1 [0, 1] [(0, .slice p2 x1.length c3), (1, .slice p8 x7.length c9)] (by kernel_rfl) fun a hs => ?_
  refine s_end ?_
  refine c_seq ?_
  refine c_seq ?_
  refine c_region ?_
  refine pures hs 5 [0, 1, 10] [(0, .slice p2 x1.length c3), (1, .slice p8 x7.length c9), (10, .bool ((x1.length : Int) != (x7.length : Int)))] (by kernel_rfl) fun a hs => ?_
  refine s_end ?_
  rcases ifbE hk with ⟨h151, hk⟩ | ⟨h151, hk⟩
  · refine c_cond1 hs (by kernel_rfl) (t := ((x1.length : Int) != (x7.length : Int))) (by kernel_rfl) h151 ?_
    refine c_seq ?_
    refine c_region ?_
    refine pures hs 1 [4] [(4, .bool false)] (by kernel_rfl) fun a hs => ?_
    refine s_end ?_
    refine c_ret ?_
    obtain rfl := someE hk
    refine hQ _ _ (f_ret1 hs rfl (v := .bool false) (by kernel_rfl) ⟨rfl, hw.pick [0] (by kernel_rfl)⟩)
  refine c_cond0 hs (by kernel_rfl) (t := ((x1.length : Int) != (x7.length : Int))) (by kernel_rfl) h151 ?_
  refine c_skip ?_
  refine c_seq ?_
  refine c_seq ?_
  refine c_region ?_
  refine pures hs 1 [0, 1, 5] [(0, .slice p2 x1.length c3), (1, .slice p8 x7.length c9), (5, vi64 0)] (by kernel_rfl) fun a hs => ?_
  refine s_end ?_
  refine c_block ?_
  obtain ⟨y250, hx251, hk⟩ := bindE hk
  obtain ⟨J252, hJ252⟩ : ∃ J : Act → World → Prop, ∀ a w, J a w ↔ (catenaryref01_Same_r10 = some r ∧ Sees a 26 [] ∧ St g w [F] ih) := ⟨_, fun _ _ => Iff.rfl⟩
  obtain ⟨I253, hI253⟩ : ∃ J : Nat → Act → World → Prop, ∀ j a w, J j a w ↔ (∃ (x217 : Int), catenaryref01_Same_l11 x1 x7 j x217 = some y250 ∧ Sees a 26 [(0, .slice p2 x1.length c3), (1, .slice p8 x7.length c9), (5, vi64 x217)] ∧ St g w [F] ih) := ⟨_, fun _ _ _ => Iff.rfl⟩
  refine c_exitJ 0 J252 ?_ ?_
  · refine c_loop I253 k ((hI253 _ _ _).2 ⟨0, hx251, hs.cast [0, 1, 5] (by kernel_rfl), hw.pick [0] (by kernel_rfl)⟩) (fun a w h0 => ?_) fun j a w hh => ?_
    · obtain ⟨_, h, _⟩ := (hI253 _ _ _).1 h0
      cases h
    obtain ⟨x217, hx251, hs, hw⟩ := (hI253 _ _ _).1 hh
    refine c_seq ?_
    refine c_seq ?_
    refine c_region ?_
    refine pures hs 4 [0, 1, 5, 14] [(0, .slice p2 x1.length c3), (1, .slice p8 x7.length c9), (5, vi64 x217), (14, .bool (decide (x217 < (x1.length : Int))))] (by kernel_rfl) fun a hs => ?_
    refine s_end ?_
    rcases ifbE hx251 with ⟨h254, hx251⟩ | ⟨h254, hx251⟩
    · refine c_cond1 hs (by kernel_rfl) (t := (decide (x217 < (x1.length : Int)))) (by kernel_rfl) h254 ?_
      refine c_skip ?_
      refine c_seq ?_
      refine c_block ?_
      refine c_seq ?_
      obtain ⟨S255, hS255, kS255⟩ := mkSX (X := [([], F)]) (ih := ih) (K := []) rfl
      obtain ⟨y274, hx275, hx251⟩ := bindE hx251
      obtain ⟨J276, hJ276⟩ : ∃ J : Act → World → Prop, ∀ a w, J a w ↔ (∃ (x272 : Bool), catenaryref01_Same_r12 (catenaryref01_Same_l11 x1 x7 j) x217 x272 = some y250 ∧ Sees a 26 [(0, .slice p2 x1.length c3), (1, .slice p8 x7.length c9), (5, vi64 x217), (25, .bool x272)] ∧ St g w [F] ih) := ⟨_, fun _ _ => Iff.rfl⟩
      refine c_draw (by kernel_rfl) (N := 9) rfl S255 J276 ?_ ?_
      · have hw := hw.drew
        have hS : S255 (Array.replicate 9 false) _ := SX_now hS255 (hw.vws [0]) (by kernel_rfl)
        refine d_pures (fuel := 7) kS255 hs hS [0, 1] [0, 1, 5, 17, 18] [(0, .slice p2 x1.length c3), (1, .slice p8 x7.length c9), (5, vi64 x217), (17, .slice p2 x1.length c3), (18, vi64 x217)] (by kernel_rfl) fun a hs hS => ?_
        obtain ⟨x277, h278, hx275⟩ := bindE hx275
        refine d_index (fuel := 6) kS255 hs hS 2 rfl (by kernel_rfl) h4 (by kernel_rfl) (by kernel_rfl) (k := .i64) (by kernel_rfl) 5 (by kernel_rfl) (by kernel_rfl) h278 fun a r279 cs henc at280 hs hS => ?_
        obtain rfl := henc
        refine d_load (fuel := 5) kS255 hs hS 3 rfl (by kernel_rfl) (fun l w hu hS => at280 w (((SX_ch hS255 0 rfl (by kernel_rfl) l w hu hS).sub h6).anti (Le.refl _))) 0 (by kernel_rfl) (by kernel_rfl) (v := vu8 x277) (by kernel_rfl) fun a hs hS => ?_
        refine d_pures (fuel := 3) kS255 hs hS [4, 5] [0, 1, 5, 20, 21, 22] [(0, .slice p2 x1.length c3), (1, .slice p8 x7.length c9), (5, vi64 x217), (20, vu8 x277), (21, .slice p8 x7.length c9), (22, vi64 x217)] (by kernel_rfl) fun a hs hS => ?_
        obtain ⟨x281, h282, hx275⟩ := bindE hx275
        refine d_index (fuel := 2) kS255 hs hS 6 rfl (by kernel_rfl) h10 (by kernel_rfl) (by kernel_rfl) (k := .i64) (by kernel_rfl) 5 (by kernel_rfl) (by kernel_rfl) h282 fun a r283 cs henc at284 hs hS => ?_
        obtain rfl := henc
        refine d_load (fuel := 1) kS255 hs hS 7 rfl (by kernel_rfl) (fun l w hu hS => at284 w (((SX_ch hS255 0 rfl (by kernel_rfl) l w hu hS).sub h12).anti (Le.refl _))) 0 (by kernel_rfl) (by kernel_rfl) (v := vu8 x281) (by kernel_rfl) fun a hs hS => ?_
        refine d_pures (fuel := 0) kS255 hs hS [8] [0, 1, 5, 25] [(0, .slice p2 x1.length c3), (1, .slice p8 x7.length c9), (5, vi64 x217), (25, .bool (x277 != x281))] (by kernel_rfl) fun a hs hS => ?_
        refine d_done (by kernel_rfl) ?_
        obtain rfl := someE hx275
        exact (hJ276 _ _).2 ⟨(x277 != x281), hx251, hs.cast [0, 1, 5, 25] (by kernel_rfl), hw.pick [0] (by kernel_rfl)⟩
      intro a w hh
      obtain ⟨x272, hx251, hs, hw⟩ := (hJ276 _ _).1 hh
      rcases ifbE hx251 with ⟨h273, hx251⟩ | ⟨h273, hx251⟩
      · refine c_cond1 hs (by kernel_rfl) (t := x272) (by kernel_rfl) h273 ?_
        refine c_seq ?_
        refine c_region ?_
        refine pures hs 1 [4] [(4, .bool false)] (by kernel_rfl) fun a hs => ?_
        refine s_end ?_
        refine c_ret ?_
        obtain rfl := someE hx251
        obtain rfl := someE hk
        refine hQ _ _ (f_ret1 hs rfl (v := .bool false) (by kernel_rfl) ⟨rfl, hw.pick [0] (by kernel_rfl)⟩)
      refine c_cond0 hs (by kernel_rfl) (t := x272) (by kernel_rfl) h273 ?_
      refine c_skip ?_
      refine c_region ?_
      refine pures hs 3 [0, 1, 5] [(0, .slice p2 x1.length c3), (1, .slice p8 x7.length c9), (5, vi64 (IntKind.i64.wrap (x217 + 1)))] (by kernel_rfl) fun a hs => ?_
      refine s_end ?_
      exact (hI253 _ _ _).2 ⟨(IntKind.i64.wrap (x217 + 1)), hx251, hs.cast [0, 1, 5] (by kernel_rfl), hw.pick [0] (by kernel_rfl)⟩
    refine c_cond0 hs (by kernel_rfl) (t := (decide (x217 < (x1.length : Int)))) (by kernel_rfl) h254 ?_
    refine c_exit ?_
    obtain rfl := someE hx251
    exact (hJ252 _ _).2 ⟨hk, hs.cast [] (by kernel_rfl), hw.pick [0] (by kernel_rfl)⟩
  intro a w hh
  obtain ⟨hk, hs, hw⟩ := (hJ252 _ _).1 hh
  refine c_seq ?_
  refine c_region ?_
  refine pures hs 1 [4] [(4, .bool true)] (by kernel_rfl) fun a hs => ?_
  refine s_end ?_
  refine c_ret ?_
  obtain rfl := someE hk
  refine hQ _ _ (f_ret1 hs rfl (v := .bool true) (by kernel_rfl) ⟨rfl, hw.pick [0] (by kernel_rfl)⟩)
end Go.Proofs.YteiinkhbgpldeaaGreatDoor.Sx
