/- The walk of CallerPlays. Conditions: those ahead of each colon. -/
import Derived.Test.YteiinkhbgpldeaaGreatDoorWCallerPlays1
namespace Go.Proofs.YteiinkhbgpldeaaGreatDoor.Sx
open Go Go.Proofs
set_option maxRecDepth 100000
set_option linter.unusedVariables false
def Qdb (x1 x2 x3 x4 x5 x6 : Int) : Option (List M48) :=
 some ([(M48.mk 19 x1 x6 x2 x3 0 x4 0 0 0 0 x5 0 (M41.mk 0 0 0 0) (M44.mk 0 0 ([]) false 0) ([]) ([]) ([]))])
def Qda (x1 x2 x3 x4 : Int) (x5 : List M96) : Option (List M48) :=
 some ([(M48.mk 17 x1 x4 x2 x3 0 0 0 0 0 0 0 0 (M41.mk 0 0 0 0) (M44.mk 0 0 ([]) false 0) ([]) x5 ([]))])
def Qc9 (k : Nat) (x1 : List M44) (x2 x3 x4 x5 x6 x7 x8 x9 x10 x11 : Int) (x12 : List Int) : Option (List M48) :=
 ((Qey k x1 x2).bind fun y1 =>
  some (y1, [(M96.mk x6 x7 x8 x9 x10 x11 x12)]) : Option (Int × (List M96))).bind fun s1 => Qda x3 x4 x5 s1.1 s1.2
def Qc8 (k : Nat) (x1 : Int) (x2 : List M44) (x3 x4 x5 x6 x7 x8 : Int) (x9 : List Int) (x10 x11 : Int) : Option (List M48) :=
 if (x1 == 1) = true then (
  ((QdS k x2 x3 x4).bind fun y1 =>
   some y1 : Option Int).bind fun s1 => Qdb x11 x5 x6 x7 x3 s1)
 else ((Qde k (M26.mk x1 x3 x8 x9 x4) x10 x7).bind fun y2 =>
  some (y2.1.f0, y2.1.f1, y2.1.f2, y2.1.f3, y2.1.f4, y2.1.f5, y2.1.f6) : Option (Int × Int × Int × Int × Int × Int × (List Int))).bind fun s2 => Qc9 k x2 x3 x11 x5 x6 s2.1 s2.2.1 s2.2.2.1 s2.2.2.2.1 s2.2.2.2.2.1 s2.2.2.2.2.2.1 s2.2.2.2.2.2.2
def QcR (k : Nat) (x1 x2 : Int) (x3 : List M44) (x4 x5 x6 x7 : Int) (x8 : List Int) (x9 x10 : Int) (x11 : List Int) (x12 : Bool) (x13 : Int) : Option (List M48) :=
 ((Qq x1).bind fun y1 =>
  some y1 : Option Int).bind fun s1 => Qc8 k x2 x3 x4 x5 x9 x10 x6 x7 x8 x1 s1
def QK (k : Nat) (x1 x2 : Int) (x3 : List M44) (x4 x5 x6 : Int) (x7 : List Int) (x8 : Int) : Option (List M48) :=
 ((Q7 k x3 x5).bind fun y1 =>
  some (y1.f0, y1.f1, y1.f2, y1.f3, y1.f4) : Option (Int × Int × (List Int) × Bool × Int)).bind fun s1 => QcR k x1 x4 x3 x5 x8 x2 x6 x7 s1.1 s1.2.1 s1.2.2.1 s1.2.2.2.1 s1.2.2.2.2
theorem Qa2 {k : Nat} {x1 x2 x3 x4 : Int} {x5 : List M44} {x6 : Value} {x7 x8 x9 : Int} {x10 : List Int} {x11 : Int} {x12 : Value} {x13 x14 x15 : Int} {x16 : List Int} {d1 : Ch} {b1 b2 c1 c2 c3 : Nat} {p1 p2 p3 : Option Addr} {r : (List M48)} (hk : QK k x1 x3 x5 x7 x8 x9 x10 x11 = some r) {g w : World} {F : Ch} {ih : IH} (h1 : OSl e44 ih p1 c1 x5 d1) (h2 : x6.oneCell' = true) (h3 : RSl e5 ih [] p2 c2 x10) (h4 : x12.oneCell' = true) (h5 : RSl e5 ih [] p3 c3 x16) (hG : Glob 0 gl0 162 ih) (hw : St g w [k6 b1 x1 x2 x3 x4 b2 x7 x8 x9 p2 x10 c2 x11 x12 x13 x14 x15 p3 x16 c3, bx b2 [.slice p1 x5.length c1, x6] 113, d1, F] ih) :
  CallsR Tryz.prog 31 #[(pt b1 0)] w fun v w' => ∃ (ih' : IH) (p4 : Option Addr) (c4 : Nat) (d2 : Ch), v = .slice p4 r.length c4 ∧ St g w' [d2, bx b1 [Qb x1, Qb x2, Qe x3, Qb x4, (pt b2 0), Qb x7, Qk x8, Qe x9, .slice p2 x10.length c2, Qb x11, x12, Qe x13, Qb x14, Qe x15, .slice p3 x16.length c3] 85, bx b2 [.slice p1 x5.length c1, x6] 113, d1, F] ih' ∧ Le ih ih' ∧ OSl e48 ih' p4 c4 r d2 := by
 refine f_i Tryz.func31 rfl 93 rfl fun a Qf hQ hQn hs => ?_
 refine Qd (Qa (pn hs 1 [(0, (pt b1 0))] fun a hs => ?_))
 refine Qc (Qd ?_)
 obtain ⟨S, hD, kS⟩ := mkSXw hw [[], [], [], []] (K := []) rfl
 obtain ⟨y1, hx1, hk⟩ := bindE hk
 obtain ⟨J1, hJ1⟩ := mkJ fun a w => ∃ (x17 x18 : Int) (x19 : List Int) (x20 : Bool) (x21 : Int) (b3 : Nat) (p5 : Option Addr) (c5 : Nat) (ih1 : IH), QcR k x1 x7 x5 x8 x11 x3 x9 x10 x17 x18 x19 x20 x21 = some r ∧ Sees a 93 [(0, (pt b1 0)), (3, (pt b3 0))] ∧ St g w [k6 b1 x1 x2 x3 x4 b2 x7 x8 x9 p2 x10 c2 x11 x12 x13 x14 x15 p3 x16 c3, bx b2 [.slice p1 x5.length c1, x6] 113, k2 b3 x17 x18 p5 x19 c5 x20 x21, d1, F] ih1 ∧ Le ih ih1 ∧ RSl e3 ih1 [] p5 c5 x19
 refine Qo (by kernel_rfl) (N := 12) rfl S J1 ?_ ?_
 ·have hw := hw.drew
  have hS : S (bA 12 0) _ := SXn hD (hw.vws [0, 1, 2, 3])
  refine Qp (fuel := 9) kS hs hS [0, 1, 2] fun a hs hS => ?_
  refine Qy kS hs hS 3 rfl (SXb hD 0 rfl) 4 fun a hs hS => ?_
  refine Qp (fuel := 4) kS hs hS [4, 5, 6, 7] fun a hs hS => ?_
  refine Qy kS hs hS 8 rfl (SXb hD 0 rfl) 6 fun a hs hS => ?_
  refine QF [9, 10] (QkI ?_ (QH ?_))
  ·obtain ⟨y2, h6, hx1⟩ := bindE hx1
   refine QaR hs rfl (Qah (x2 := (x6)) h6 h1 h2 ((hw.pk [1, 2, 0, 3]).pack 2)) fun a w v hv hs => ?_
   obtain ⟨ih2, p6, c6, rfl, hw, hle1, h7⟩ := hv
   have hw := hw.unpack 2 rfl
   refine nx hD ((hw.vws [2, 0, 1, 3]).anti hle1) fun hS => ?_
   refine QF [10] (QH ?_)
   refine Qhy hs rfl hw [Qb 0, Qe 0, .slice none 0 0, .bool false, Qb 0] 44 (fun b => (pt b 0)) fun a w b4 hs hw => ?_
   refine nx hD ((hw.vws [3, 1, 2, 4]).anti hle1) fun hS => ?_
   refine QF [11] (QH ?_)
   refine QfM hs hw rfl 0 rfl 0 (v := A44 y2 p6 c6) fun a w hs hw => ?_
   refine nx hD ((hw.vws [3, 1, 2, 4]).anti hle1) fun hS => ?_
   refine QhI ?_
   obtain rfl := someE hx1
   exact (hJ1 _ _).2 ⟨y2.f0, y2.f1, y2.f2, y2.f3, y2.f4, b4, p6, c6, ih2, hk, hs.cst, hw.pk [3, 1, 0, 2, 4], hle1, h7⟩
  refine Qhy hs rfl hw [Qb 0, Qe 0, .slice none 0 0, .bool false, Qb 0] 44 (fun b => (pt b 0)) fun a w b5 hs hw => ?_
  refine nx hD ((hw.vws [1, 2, 3, 4]).anti (Le.refl _)) fun hS => ?_
  refine QF [9] (QH ?_)
  obtain ⟨y3, h8, hx1⟩ := bindE hx1
  refine QaR hs rfl (Qah (x2 := (x6)) h8 h1 h2 ((hw.pk [2, 3, 0, 1, 4]).pack 2)) fun a w v hv hs => ?_
  obtain ⟨ih3, p7, c7, rfl, hw, hle2, h9⟩ := hv
  have hw := hw.unpack 2 rfl
  refine nx hD ((hw.vws [3, 0, 1, 4]).anti hle2) fun hS => ?_
  refine QF [11] (QH ?_)
  refine QfM hs hw rfl 2 rfl 0 (v := A44 y3 p7 c7) fun a w hs hw => ?_
  refine nx hD ((hw.vws [3, 0, 1, 4]).anti hle2) fun hS => ?_
  refine QhI ?_
  obtain rfl := someE hx1
  exact (hJ1 _ _).2 ⟨y3.f0, y3.f1, y3.f2, y3.f3, y3.f4, b5, p7, c7, ih3, hk, hs.cst, hw.pk [3, 0, 2, 1, 4], hle2, h9⟩
 intro a w hh
 obtain ⟨x17, x18, x19, x20, x21, b3, p5, c5, ih1, hk, hs, hw, hle3, h10⟩ := (hJ1 _ _).1 hh
 refine Qd ?_
 obtain ⟨S, hD, kS⟩ := mkSXw hw [[], [], [], [], []] (K := []) rfl
 obtain ⟨y4, hx2, hk⟩ := bindE hk
 obtain ⟨J2, hJ2⟩ := mkJ fun a w => ∃ (x22 : Int) (b6 : Nat), Qc8 k x7 x5 x8 x11 x17 x18 x3 x9 x10 x1 x22 = some r ∧ Sees a 93 [(0, (pt b1 0)), (4, (pt b6 0))] ∧ St g w [k6 b1 x1 x2 x3 x4 b2 x7 x8 x9 p2 x10 c2 x11 x12 x13 x14 x15 p3 x16 c3, bx b2 [.slice p1 x5.length c1, x6] 113, k41 b6 x22 x17 x18, d1, F] ih1
 refine Qo (by kernel_rfl) (N := 9) rfl S J2 ?_ ?_
 ·have hw := hw.drew
  have hS : S (bA 9 0) _ := SXn hD (hw.vws [0, 1, 2, 3, 4])
  refine Qp (fuel := 7) kS hs hS [0, 2] fun a hs hS => ?_
  refine Qy kS hs hS 3 rfl (SXb hD 2 rfl) 0 fun a hs hS => ?_
  refine Qp (fuel := 5) kS hs hS [4] fun a hs hS => ?_
  refine Qy kS hs hS 5 rfl (SXb hD 2 rfl) 1 fun a hs hS => ?_
  refine QF [1, 7] (QkI ?_ (QH ?_))
  ·obtain ⟨y5, h11, hx2⟩ := bindE hx2
   refine QaR hs rfl (QD (x2 := x2) (x3 := x3) (x4 := x4) (x5 := x5) (x6 := (x6)) (x7 := x7) (x8 := x8) (x9 := x9) (x10 := x10) (x11 := x11) (x12 := (x12)) (x13 := x13) (x14 := x14) (x15 := x15) (x16 := x16) h11 (h1.mono hle3) h2 (h3.mono hle3) h4 (h5.mono hle3) ((hw.pk [0, 1, 3, 2, 4]).pack 3)) fun a w v hv hs => ?_
   obtain ⟨rfl, hw⟩ := hv
   have hw := hw.unpack 3 rfl
   refine nx hD ((hw.vws [0, 1, 3, 2, 4]).anti (Le.refl _)) fun hS => ?_
   refine Qp (fuel := 2) kS hs hS [6] fun a hs hS => ?_
   refine QF [7] (QH ?_)
   refine Qhy hs rfl hw [Qb 0, Qb 0, Qb 0, Qb 0, Qe 0, Qe 0, Qe 0, Qe 0, Qe 0, Qe 0, Qb 0, Qk 0, Qb 0, Qb 0, Qb 0, Qe 0, Qb 0, Qb 0, Qe 0, .slice none 0 0, .bool false, Qb 0, .slice none 0 0, .slice none 0 0, .slice none 0 0] 48 (fun b => (pt b 0)) fun a w b7 hs hw => ?_
   refine nx hD ((hw.vws [1, 2, 4, 3, 5]).anti (Le.refl _)) fun hS => ?_
   refine QF [8] (QH ?_)
   refine QfM hs hw rfl 0 rfl 0 (v := .agg #[Qb 0, Qb y5, Qb 0, Qb x17, Qe x18, Qe 0, Qe 0, Qe 0, Qe 0, Qe 0, Qb 0, Qk 0, Qb 0, Qb 0, Qb 0, Qe 0, Qb 0, Qb 0, Qe 0, .slice none 0 0, .bool false, Qb 0, .slice none 0 0, .slice none 0 0, .slice none 0 0]) fun a w hs hw => ?_
   refine nx hD ((hw.vws [1, 2, 4, 3, 5]).anti (Le.refl _)) fun hS => ?_
   refine QhI ?_
   obtain rfl := someE hx2
   exact (hJ2 _ _).2 ⟨y5, b7, hk, hs.cst, hw.pk [1, 2, 0, 3, 5]⟩
  refine Qhy hs rfl hw [Qb 0, Qb 0, Qb 0, Qb 0, Qe 0, Qe 0, Qe 0, Qe 0, Qe 0, Qe 0, Qb 0, Qk 0, Qb 0, Qb 0, Qb 0, Qe 0, Qb 0, Qb 0, Qe 0, .slice none 0 0, .bool false, Qb 0, .slice none 0 0, .slice none 0 0, .slice none 0 0] 48 (fun b => (pt b 0)) fun a w b8 hs hw => ?_
  refine nx hD ((hw.vws [1, 2, 3, 4, 5]).anti (Le.refl _)) fun hS => ?_
  refine QF [1] (QH ?_)
  obtain ⟨y6, h12, hx2⟩ := bindE hx2
  refine QaR hs rfl (QD (x2 := x2) (x3 := x3) (x4 := x4) (x5 := x5) (x6 := (x6)) (x7 := x7) (x8 := x8) (x9 := x9) (x10 := x10) (x11 := x11) (x12 := (x12)) (x13 := x13) (x14 := x14) (x15 := x15) (x16 := x16) h12 (h1.mono hle3) h2 (h3.mono hle3) h4 (h5.mono hle3) ((hw.pk [1, 2, 4, 0, 3, 5]).pack 3)) fun a w v hv hs => ?_
  obtain ⟨rfl, hw⟩ := hv
  have hw := hw.unpack 3 rfl
  refine nx hD ((hw.vws [0, 1, 4, 2, 5]).anti (Le.refl _)) fun hS => ?_
  refine Qp (fuel := 1) kS hs hS [6] fun a hs hS => ?_
  refine QF [8] (QH ?_)
  refine QfM hs hw rfl 3 rfl 0 (v := .agg #[Qb 0, Qb y6, Qb 0, Qb x17, Qe x18, Qe 0, Qe 0, Qe 0, Qe 0, Qe 0, Qb 0, Qk 0, Qb 0, Qb 0, Qb 0, Qe 0, Qb 0, Qb 0, Qe 0, .slice none 0 0, .bool false, Qb 0, .slice none 0 0, .slice none 0 0, .slice none 0 0]) fun a w hs hw => ?_
  refine nx hD ((hw.vws [0, 1, 4, 2, 5]).anti (Le.refl _)) fun hS => ?_
  refine QhI ?_
  obtain rfl := someE hx2
  exact (hJ2 _ _).2 ⟨y6, b8, hk, hs.cst, hw.pk [0, 1, 3, 2, 5]⟩
 intro a w hh
 obtain ⟨x22, b6, hk, hs, hw⟩ := (hJ2 _ _).1 hh
 refine Qd (Qd (Qa (pu hs 4 fun a hs => ?_)))
 refine Qj hs (hw.at_ 0 rfl) 5 fun a hs => pn hs 1 [(0, (pt b1 0)), (4, (pt b6 0)), (29, .bool (x7 == 1))] fun a hs => Qc ?_
 rcases ifbE hk with ⟨h13, hk⟩ | ⟨h13, hk⟩
 ·refine Qr hs h13 (Qd ?_)
  obtain ⟨S, hD, kS⟩ := mkSXw hw [[], [], [25, 27, 29, 31], [], []] (K := [25, 27, 29, 31]) rfl
  obtain ⟨y7, hx3, hk⟩ := bindE hk
  obtain ⟨J3, hJ3⟩ := mkJ fun a w => ∃ (x23 : Int) (ih4 : IH), Qdb x22 x17 x18 x3 x8 x23 = some r ∧ Sees a 93 [(4, (pt b6 0))] ∧ St g w [k6 b1 x1 x2 x3 x4 b2 x7 x8 x9 p2 x10 c2 x11 x12 x13 x14 x15 p3 x16 c3, bx b2 [.slice p1 x5.length c1, x6] 113, k39 b6 x22 x23 x17 x18 x3 x8, d1, F] ih4 ∧ Le ih1 ih4
  refine Qo (by kernel_rfl) (N := 32) rfl S J3 ?_ ?_
  ·have hw := hw.drew
   have hS : S (bA 32 0) _ := SXn hD (hw.vws [0, 1, 2, 3, 4])
   refine Qp (fuel := 29) kS hs hS [0, 1, 2] fun a hs hS => ?_
   refine Qy kS hs hS 3 rfl (SXb hD 0 rfl) 4 fun a hs hS => ?_
   refine Qp (fuel := 24) kS hs hS [4, 5, 6, 7] fun a hs hS => ?_
   refine Qy kS hs hS 8 rfl (SXb hD 0 rfl) 6 fun a hs hS => ?_
   refine Qp (fuel := 19) kS hs hS [9, 10, 11, 12] fun a hs hS => ?_
   refine Qy kS hs hS 13 rfl (SXb hD 0 rfl) 9 fun a hs hS => ?_
   refine Qff (fuel := 15) kS hs hS [15, 16, 17] [(0, (pt b1 0)), (4, (pt b6 0)), (33, (pt b2 0)), (38, Qk x8), (43, Qb x11), (47, (pt b1 2))] fun a hs hS => ?_
   refine Qy kS hs hS 18 rfl (SXb hD 0 rfl) 2 fun a hs hS => ?_
   refine Qp (fuel := 10) kS hs hS [19, 20, 21, 22] fun a hs hS => ?_
   refine Qy kS hs hS 23 rfl (SXb hD 0 rfl) 6 fun a hs hS => ?_
   refine Qp (fuel := 8) kS hs hS [24] fun a hs hS => ?_
   refine QF [14] (QH ?_)
   obtain ⟨y8, h14, hx3⟩ := bindE hx3
   refine QaR hs rfl (Qg7 (x2 := (x6)) h14 (h1.mono hle3) h2 ((hw.pk [1, 3, 0, 2, 4]).pack 2)) fun a w v hv hs => ?_
   obtain ⟨ih5, rfl, hw, hle4⟩ := hv
   have hw := hw.unpack 2 rfl
   refine nx hD ((hw.vws [2, 0, 3, 1, 4]).anti hle4) fun hS => ?_
   refine QF [25] (QH ?_)
   refine QfM hs hw rfl 3 rfl 0 (v := Qb 19) fun a w hs hw => ?_
   refine nx hD ((hw.vws [2, 0, 1, 4]).anti hle4) fun hS => ?_
   refine Qp (fuel := 5) kS hs hS [26] fun a hs hS => ?_
   refine QF [27] (QH ?_)
   refine QfM hs hw rfl 3 rfl 2 (v := Qb y8) fun a w hs hw => ?_
   refine nx hD ((hw.vws [2, 0, 1, 4]).anti hle4) fun hS => ?_
   refine Qff (fuel := 3) kS hs hS [28] [(4, (pt b6 0)), (48, Qe x3), (53, Qk x8), (56, (pt b6 6))] fun a hs hS => ?_
   refine QF [29] (QH ?_)
   refine QfM hs hw rfl 3 rfl 6 (v := Qe x3) fun a w hs hw => ?_
   refine nx hD ((hw.vws [2, 0, 1, 4]).anti hle4) fun hS => ?_
   refine Qp (fuel := 1) kS hs hS [30] fun a hs hS => ?_
   refine QF [31] (QH ?_)
   refine QfM hs hw rfl 3 rfl 11 (v := Qk x8) fun a w hs hw => ?_
   refine nx hD ((hw.vws [2, 0, 1, 4]).anti hle4) fun hS => ?_
   refine QhI ?_
   obtain rfl := someE hx3
   exact (hJ3 _ _).2 ⟨y8, ih5, hk, hs.cst, hw.pk [2, 0, 3, 1, 4], hle4⟩
  intro a w hh
  obtain ⟨x23, ih4, hk, hs, hw, hle5⟩ := (hJ3 _ _).1 hh
  refine Qd (Qa (Qj hs (hw.at_ 2 rfl) 0 fun a hs => ?_))
  refine QaN hs hw [Qb 19, Qb x22, Qb x23, Qb x17, Qe x18, Qe 0, Qe x3, Qe 0, Qe 0, Qe 0, Qb 0, Qk x8, Qb 0, Qb 0, Qb 0, Qe 0, Qb 0, Qb 0, Qe 0, .slice none 0 0, .bool false, Qb 0, .slice none 0 0, .slice none 0 0, .slice none 0 0] 48 (fun b => .slice (some ⟨b, 0, none⟩) 1 1) fun a w b9 hs hw => ?_
  refine pn hs 1 [(2, .slice (some ⟨b9, 0, none⟩) 1 1)] fun a hs => Qc (Qi ?_)
  obtain rfl := someE hk
  exact qr1 hQ hs ⟨ih4, (some ⟨b9, 0, none⟩), 1, (k39 b9 x22 x23 x17 x18 x3 x8), rfl, hw.pk [0, 1, 2, 4, 5], (hle3.trans hle5), (OSl.of1 (E := e48) (ih := ih4) (b := b9) (z := (M48.mk 19 x22 x23 x17 x18 0 x3 0 0 0 0 x8 0 (M41.mk 0 0 0 0) (M44.mk 0 0 ([]) false 0) ([]) ([]) ([]))) ⟨none, 0, none, 0, none, 0, none, 0, rfl, (RSl.nil _ _ _), (RSl.nil _ _ _), (RSl.nil _ _ _), (RSl.nil _ _ _)⟩ (by simp [maxLen]))⟩
 refine Qs hs h13 ?_
 refine Qg (Qd ?_)
 obtain ⟨S, hD, kS⟩ := mkSXw hw [[], [], [], [], []] (K := []) rfl
 obtain ⟨y9, hx4, hk⟩ := bindE hk
 obtain ⟨J4, hJ4⟩ := mkJ fun a w => ∃ (x24 x25 x26 x27 x28 x29 : Int) (x30 : List Int) (b10 : Nat) (p8 : Option Addr) (c8 : Nat) (ih6 : IH), Qc9 k x5 x8 x22 x17 x18 x24 x25 x26 x27 x28 x29 x30 = some r ∧ Sees a 93 [(0, (pt b1 0)), (4, (pt b6 0)), (5, (pt b10 0))] ∧ St g w [k6 b1 x1 x2 x3 x4 b2 x7 x8 x9 p2 x10 c2 x11 x12 x13 x14 x15 p3 x16 c3, bx b2 [.slice p1 x5.length c1, x6] 113, k41 b6 x22 x17 x18, k9 b10 x24 x25 x26 x27 x28 x29 p8 x30 c8, d1, F] ih6 ∧ Le ih1 ih6 ∧ RSl e5 ih6 [] p8 c8 x30
 refine Qo (by kernel_rfl) (N := 19) rfl S J4 ?_ ?_
 ·have hw := hw.drew
  have hS : S (bA 19 0) _ := SXn hD (hw.vws [0, 1, 2, 3, 4])
  refine Qp (fuel := 16) kS hs hS [0, 1, 2] fun a hs hS => ?_
  refine Qy kS hs hS 3 rfl (SXb hD 0 rfl) 5 fun a hs hS => ?_
  refine Qp (fuel := 12) kS hs hS [4, 5, 6] fun a hs hS => ?_
  refine Qy kS hs hS 7 rfl (SXb hD 0 rfl) 0 fun a hs hS => ?_
  refine Qp (fuel := 8) kS hs hS [8, 9, 10] fun a hs hS => ?_
  refine Qy kS hs hS 11 rfl (SXb hD 0 rfl) 2 fun a hs hS => ?_
  refine QF [12, 16] (QkI ?_ (QH ?_))
  ·obtain ⟨y10, h15, hx4⟩ := bindE hx4
   refine QaR hs rfl (Qdm h15 (h3.mono hle3) (hG.mono hle3) ((hw.pk [0, 1, 2, 3, 4]).pack 0)) fun a w v hv hs => ?_
   obtain ⟨ih7, p9, c9, rfl, hw, hle6, h16⟩ := hv
   have hw := hw.unpack 0 rfl
   refine nx hD ((hw.vws [0, 1, 2, 3, 4]).anti hle6) fun hS => ?_
   refine Qff (fuel := 3) kS hs hS [13, 14, 15] [(0, (pt b1 0)), (4, (pt b6 0)), (74, .agg #[Qe y10.1.f0, Qb y10.1.f1, Qe y10.1.f2, Qb y10.1.f3, Qk y10.1.f4, Qe y10.1.f5, .slice p9 y10.1.f6.length c9]), (75, Qb y10.2)] fun a hs hS => ?_
   refine QF [16] (QH ?_)
   refine Qhy hs rfl hw [Qe 0, Qb 0, Qe 0, Qb 0, Qk 0, Qe 0, .slice none 0 0] 96 (fun b => (pt b 0)) fun a w b11 hs hw => ?_
   refine nx hD ((hw.vws [1, 2, 3, 4, 5]).anti hle6) fun hS => ?_
   refine QF [17] (QH ?_)
   refine QfM hs hw rfl 0 rfl 0 (v := .agg #[Qe y10.1.f0, Qb y10.1.f1, Qe y10.1.f2, Qb y10.1.f3, Qk y10.1.f4, Qe y10.1.f5, .slice p9 y10.1.f6.length c9]) fun a w hs hw => ?_
   refine nx hD ((hw.vws [1, 2, 3, 4, 5]).anti hle6) fun hS => ?_
   refine Qu kS hs hS fun a hs => ?_
   obtain rfl := someE hx4
   exact (hJ4 _ _).2 ⟨y10.1.f0, y10.1.f1, y10.1.f2, y10.1.f3, y10.1.f4, y10.1.f5, y10.1.f6, b11, p9, c9, ih7, hk, hs.cst, hw.pk [1, 2, 3, 0, 4, 5], hle6, h16⟩
  refine Qhy hs rfl hw [Qe 0, Qb 0, Qe 0, Qb 0, Qk 0, Qe 0, .slice none 0 0] 96 (fun b => (pt b 0)) fun a w b12 hs hw => ?_
  refine nx hD ((hw.vws [1, 2, 3, 4, 5]).anti (Le.refl _)) fun hS => ?_
  refine QF [12] (QH ?_)
  obtain ⟨y11, h17, hx4⟩ := bindE hx4
  refine QaR hs rfl (Qdm h17 (h3.mono hle3) (hG.mono hle3) ((hw.pk [0, 1, 2, 3, 4, 5]).pack 0)) fun a w v hv hs => ?_
  obtain ⟨ih8, p10, c10, rfl, hw, hle7, h18⟩ := hv
  have hw := hw.unpack 0 rfl
  refine nx hD ((hw.vws [1, 2, 3, 4, 5]).anti hle7) fun hS => ?_
  refine Qff (fuel := 2) kS hs hS [13, 14, 15] [(0, (pt b1 0)), (4, (pt b6 0)), (5, (pt b12 0)), (74, .agg #[Qe y11.1.f0, Qb y11.1.f1, Qe y11.1.f2, Qb y11.1.f3, Qk y11.1.f4, Qe y11.1.f5, .slice p10 y11.1.f6.length c10]), (75, Qb y11.2)] fun a hs hS => ?_
  refine QF [17] (QH ?_)
  refine QfM hs hw rfl 0 rfl 0 (v := .agg #[Qe y11.1.f0, Qb y11.1.f1, Qe y11.1.f2, Qb y11.1.f3, Qk y11.1.f4, Qe y11.1.f5, .slice p10 y11.1.f6.length c10]) fun a w hs hw => ?_
  refine nx hD ((hw.vws [1, 2, 3, 4, 5]).anti hle7) fun hS => ?_
  refine Qu kS hs hS fun a hs => ?_
  obtain rfl := someE hx4
  exact (hJ4 _ _).2 ⟨y11.1.f0, y11.1.f1, y11.1.f2, y11.1.f3, y11.1.f4, y11.1.f5, y11.1.f6, b12, p10, c10, ih8, hk, hs.cst, hw.pk [1, 2, 3, 0, 4, 5], hle7, h18⟩
 intro a w hh
 obtain ⟨x24, x25, x26, x27, x28, x29, x30, b10, p8, c8, ih6, hk, hs, hw, hle8, h19⟩ := (hJ4 _ _).1 hh
 refine Qd ?_
 obtain ⟨S, hD, kS⟩ := mkSXw hw [[], [], [13, 15, 17], [], [], []] (K := [13, 15, 17]) rfl
 obtain ⟨y12, hx5, hk⟩ := bindE hk
 obtain ⟨J5, hJ5⟩ := mkJ fun a w => ∃ (x31 : Int) (x32 : List M96) (p11 : Option Addr) (c11 : Nat) (d3 : Ch) (ih9 : IH), Qda x22 x17 x18 x31 x32 = some r ∧ Sees a 93 [(4, (pt b6 0))] ∧ St g w [k6 b1 x1 x2 x3 x4 b2 x7 x8 x9 p2 x10 c2 x11 x12 x13 x14 x15 p3 x16 c3, bx b2 [.slice p1 x5.length c1, x6] 113, k40 b6 x22 x31 x17 x18 p11 x32 c11, d1, d3, F] ih9 ∧ Le ih6 ih9 ∧ OSl e96 ih9 p11 c11 x32 d3
 refine Qo (by kernel_rfl) (N := 18) rfl S J5 ?_ ?_
 ·have hw := hw.drew
  have hS : S (bA 18 0) _ := SXn hD (hw.vws [0, 1, 2, 3, 4, 5])
  refine Qp (fuel := 15) kS hs hS [0, 1, 2] fun a hs hS => ?_
  refine Qy kS hs hS 3 rfl (SXb hD 0 rfl) 4 fun a hs hS => ?_
  refine Qp (fuel := 10) kS hs hS [4, 5, 6, 7] fun a hs hS => ?_
  refine Qy kS hs hS 8 rfl (SXb hD 0 rfl) 6 fun a hs hS => ?_
  refine Qy kS hs hS 10 rfl (SXb hD 3 rfl) 0 fun a hs hS => ?_
  refine Qff (fuel := 7) kS hs hS [12] [(4, (pt b6 0)), (79, (pt b2 0)), (84, Qk x8), (86, .agg #[Qe x24, Qb x25, Qe x26, Qb x27, Qk x28, Qe x29, .slice p8 x30.length c8]), (88, (pt b6 0))] fun a hs hS => ?_
  refine QF [9, 11] (QkI ?_ (QH ?_))
  ·obtain ⟨y13, h20, hx5⟩ := bindE hx5
   refine QaR hs rfl (Qfo (x2 := (x6)) h20 (h1.mono (hle3.trans hle8)) h2 ((hw.pk [1, 4, 0, 2, 3, 5]).pack 2)) fun a w v hv hs => ?_
   obtain ⟨ih10, rfl, hw, hle9⟩ := hv
   have hw := hw.unpack 2 rfl
   refine nx hD ((hw.vws [2, 0, 3, 4, 1, 5]).anti hle9) fun hS => ?_
   refine QF [11, 13] (QkI ?_ (QH ?_))
   ·refine Qhy hs rfl hw [Qe x24, Qb x25, Qe x26, Qb x27, Qk x28, Qe x29, .slice p8 x30.length c8] 96 (fun b => .slice (some ⟨b, 0, none⟩) 1 1) fun a w b13 hs hw => ?_
    refine nx hD ((hw.vws [3, 1, 4, 5, 2, 6]).anti hle9) fun hS => ?_
    refine QF [13] (QH ?_)
    refine QfM hs hw rfl 4 rfl 0 (v := Qb 17) fun a w hs hw => ?_
    refine nx hD ((hw.vws [3, 1, 5, 2, 6]).anti hle9) fun hS => ?_
    refine Qp (fuel := 3) kS hs hS [14] fun a hs hS => ?_
    refine QF [15] (QH ?_)
    refine QfM hs hw rfl 4 rfl 2 (v := Qb y13) fun a w hs hw => ?_
    refine nx hD ((hw.vws [3, 1, 5, 2, 6]).anti hle9) fun hS => ?_
    refine Qp (fuel := 1) kS hs hS [16] fun a hs hS => ?_
    refine QF [17] (QH ?_)
    refine QfM hs hw rfl 4 rfl 23 (v := .slice (some ⟨b13, 0, none⟩) 1 1) fun a w hs hw => ?_
    refine nx hD ((hw.vws [3, 1, 5, 2, 6]).anti hle9) fun hS => ?_
    refine QhI ?_
    obtain rfl := someE hx5
    exact (hJ5 _ _).2 ⟨y13, ([(M96.mk x24 x25 x26 x27 x28 x29 x30)]), (some ⟨b13, 0, none⟩), 1, (k9 b13 x24 x25 x26 x27 x28 x29 p8 x30 c8), ih10, hk, hs.cst, hw.pk [3, 1, 4, 2, 0, 6], hle9, (OSl.of1 (E := e96) (ih := ih10) (b := b13) (z := (M96.mk x24 x25 x26 x27 x28 x29 x30)) ⟨p8, c8, rfl, (h19.mono hle9)⟩ (by simp [maxLen]))⟩
   refine QfM hs hw rfl 3 rfl 0 (v := Qb 17) fun a w hs hw => ?_
   refine nx hD ((hw.vws [2, 0, 4, 1, 5]).anti hle9) fun hS => ?_
   refine Qp (fuel := 4) kS hs hS [14] fun a hs hS => ?_
   refine QF [11, 15] (QkI ?_ (QH ?_))
   ·refine Qhy hs rfl hw [Qe x24, Qb x25, Qe x26, Qb x27, Qk x28, Qe x29, .slice p8 x30.length c8] 96 (fun b => .slice (some ⟨b, 0, none⟩) 1 1) fun a w b14 hs hw => ?_
    refine nx hD ((hw.vws [3, 1, 5, 2, 6]).anti hle9) fun hS => ?_
    refine QF [15] (QH ?_)
    refine QfM hs hw rfl 4 rfl 2 (v := Qb y13) fun a w hs hw => ?_
    refine nx hD ((hw.vws [3, 1, 5, 2, 6]).anti hle9) fun hS => ?_
    refine Qp (fuel := 1) kS hs hS [16] fun a hs hS => ?_
    refine QF [17] (QH ?_)
    refine QfM hs hw rfl 4 rfl 23 (v := .slice (some ⟨b14, 0, none⟩) 1 1) fun a w hs hw => ?_
    refine nx hD ((hw.vws [3, 1, 5, 2, 6]).anti hle9) fun hS => ?_
    refine QhI ?_
    obtain rfl := someE hx5
    exact (hJ5 _ _).2 ⟨y13, ([(M96.mk x24 x25 x26 x27 x28 x29 x30)]), (some ⟨b14, 0, none⟩), 1, (k9 b14 x24 x25 x26 x27 x28 x29 p8 x30 c8), ih10, hk, hs.cst, hw.pk [3, 1, 4, 2, 0, 6], hle9, (OSl.of1 (E := e96) (ih := ih10) (b := b14) (z := (M96.mk x24 x25 x26 x27 x28 x29 x30)) ⟨p8, c8, rfl, (h19.mono hle9)⟩ (by simp [maxLen]))⟩
   refine QfM hs hw rfl 3 rfl 2 (v := Qb y13) fun a w hs hw => ?_
   refine nx hD ((hw.vws [2, 0, 4, 1, 5]).anti hle9) fun hS => ?_
   refine QF [11] (QH ?_)
   refine Qhy hs rfl hw [Qe x24, Qb x25, Qe x26, Qb x27, Qk x28, Qe x29, .slice p8 x30.length c8] 96 (fun b => .slice (some ⟨b, 0, none⟩) 1 1) fun a w b15 hs hw => ?_
   refine nx hD ((hw.vws [3, 1, 5, 2, 6]).anti hle9) fun hS => ?_
   refine Qp (fuel := 1) kS hs hS [16] fun a hs hS => ?_
   refine QF [17] (QH ?_)
   refine QfM hs hw rfl 4 rfl 23 (v := .slice (some ⟨b15, 0, none⟩) 1 1) fun a w hs hw => ?_
   refine nx hD ((hw.vws [3, 1, 5, 2, 6]).anti hle9) fun hS => ?_
   refine QhI ?_
   obtain rfl := someE hx5
   exact (hJ5 _ _).2 ⟨y13, ([(M96.mk x24 x25 x26 x27 x28 x29 x30)]), (some ⟨b15, 0, none⟩), 1, (k9 b15 x24 x25 x26 x27 x28 x29 p8 x30 c8), ih10, hk, hs.cst, hw.pk [3, 1, 4, 2, 0, 6], hle9, (OSl.of1 (E := e96) (ih := ih10) (b := b15) (z := (M96.mk x24 x25 x26 x27 x28 x29 x30)) ⟨p8, c8, rfl, (h19.mono hle9)⟩ (by simp [maxLen]))⟩
  refine Qhy hs rfl hw [Qe x24, Qb x25, Qe x26, Qb x27, Qk x28, Qe x29, .slice p8 x30.length c8] 96 (fun b => .slice (some ⟨b, 0, none⟩) 1 1) fun a w b16 hs hw => ?_
  refine nx hD ((hw.vws [1, 2, 3, 4, 5, 6]).anti (Le.refl _)) fun hS => ?_
  refine QF [9] (QH ?_)
  obtain ⟨y14, h21, hx5⟩ := bindE hx5
  refine QaR hs rfl (Qfo (x2 := (x6)) h21 (h1.mono (hle3.trans hle8)) h2 ((hw.pk [2, 5, 0, 1, 3, 4, 6]).pack 2)) fun a w v hv hs => ?_
  obtain ⟨ih11, rfl, hw, hle10⟩ := hv
  have hw := hw.unpack 2 rfl
  refine nx hD ((hw.vws [3, 0, 4, 5, 1, 6]).anti hle10) fun hS => ?_
  refine QF [13] (QH ?_)
  refine QfM hs hw rfl 4 rfl 0 (v := Qb 17) fun a w hs hw => ?_
  refine nx hD ((hw.vws [3, 0, 5, 1, 6]).anti hle10) fun hS => ?_
  refine Qp (fuel := 3) kS hs hS [14] fun a hs hS => ?_
  refine QF [15] (QH ?_)
  refine QfM hs hw rfl 4 rfl 2 (v := Qb y14) fun a w hs hw => ?_
  refine nx hD ((hw.vws [3, 0, 5, 1, 6]).anti hle10) fun hS => ?_
  refine Qp (fuel := 1) kS hs hS [16] fun a hs hS => ?_
  refine QF [17] (QH ?_)
  refine QfM hs hw rfl 4 rfl 23 (v := .slice (some ⟨b16, 0, none⟩) 1 1) fun a w hs hw => ?_
  refine nx hD ((hw.vws [3, 0, 5, 1, 6]).anti hle10) fun hS => ?_
  refine QhI ?_
  obtain rfl := someE hx5
  exact (hJ5 _ _).2 ⟨y14, ([(M96.mk x24 x25 x26 x27 x28 x29 x30)]), (some ⟨b16, 0, none⟩), 1, (k9 b16 x24 x25 x26 x27 x28 x29 p8 x30 c8), ih11, hk, hs.cst, hw.pk [3, 0, 4, 1, 2, 6], hle10, (OSl.of1 (E := e96) (ih := ih11) (b := b16) (z := (M96.mk x24 x25 x26 x27 x28 x29 x30)) ⟨p8, c8, rfl, (h19.mono hle10)⟩ (by simp [maxLen]))⟩
 intro a w hh
 obtain ⟨x31, x32, p11, c11, d3, ih9, hk, hs, hw, hle11, h22⟩ := (hJ5 _ _).1 hh
 refine Qd (Qa (Qj hs (hw.at_ 2 rfl) 0 fun a hs => ?_))
 obtain ⟨ih12, hle12, hw, h23⟩ := (hw.pk [4, 0, 1, 2, 3, 5]).fz (h22.mono (Le.refl _))
 refine QaN hs hw [Qb 17, Qb x22, Qb x31, Qb x17, Qe x18, Qe 0, Qe 0, Qe 0, Qe 0, Qe 0, Qb 0, Qk 0, Qb 0, Qb 0, Qb 0, Qe 0, Qb 0, Qb 0, Qe 0, .slice none 0 0, .bool false, Qb 0, .slice none 0 0, .slice p11 x32.length c11, .slice none 0 0] 48 (fun b => .slice (some ⟨b, 0, none⟩) 1 1) fun a w b17 hs hw => ?_
 refine pn hs 1 [(2, .slice (some ⟨b17, 0, none⟩) 1 1)] fun a hs => Qc (Qi ?_)
 obtain rfl := someE hk
 exact qr1 hQ hs ⟨ih12, (some ⟨b17, 0, none⟩), 1, (k40 b17 x22 x31 x17 x18 p11 x32 c11), rfl, hw.pk [0, 1, 2, 4, 5], (((hle3.trans hle8).trans hle11).trans hle12), (OSl.of1 (E := e48) (ih := ih12) (b := b17) (z := (M48.mk 17 x22 x31 x17 x18 0 0 0 0 0 0 0 0 (M41.mk 0 0 0 0) (M44.mk 0 0 ([]) false 0) ([]) x32 ([]))) ⟨none, 0, none, 0, p11, c11, none, 0, rfl, (RSl.nil _ _ _), (RSl.nil _ _ _), h23, (RSl.nil _ _ _)⟩ (by simp [maxLen]))⟩
def QbN (k : Nat) (x1 x2 : Int) (x3 : List M44) (x4 : M26) (y1 x5 : List Int) : Option (Sum ((List M48) × Int × Int × Int × Int × Int × (List Int) × Int) ((List M48) × (List Int) × Int × Int × Int × Int × (List Int) × Int)) :=
 (QK k x1 (IntKind.u64.wrap (x2 + 1)) x3 x4.f0 x4.f1 x4.f2 y1 x4.f4).bind fun y2 =>
 some (.inr (y2, x5, IntKind.u64.wrap (x2 + 1), x4.f0, x4.f1, x4.f2, y1, x4.f4))
def Qbj (k : Nat) (x1 x2 : Int) (x3 : List M44) (x4 x5 x6 : Int) (x7 : List Int) (x8 : Int) (x9 : M26) : Option (Sum ((List M48) × Int × Int × Int × Int × Int × (List Int) × Int) ((List M48) × (List Int) × Int × Int × Int × Int × (List Int) × Int)) :=
 (Qat k x1 x2 x9).bind fun y1 =>
 if (y1 != 0) = true then some (.inl ([], y1, x2, x4, x5, x6, x7, x8))
 else (QaI x9.f3).bind fun y2 =>
 ((QaT).bind fun y3 =>
  some y3 : Option (List Int)).bind fun s1 => QbN k x1 x2 x3 x9 y2 s1
theorem QdR {k : Nat} {x1 x2 x3 x4 : Int} {x5 : List M44} {x6 : Value} {x7 x8 x9 : Int} {x10 : List Int} {x11 x12 x13 x14 : Int} {x15 : List Int} {x16 : M26} {d1 : Ch} {b1 b2 c1 c2 c3 c4 : Nat} {p1 p2 p3 p4 : Option Addr} {r : Sum ((List M48) × Int × Int × Int × Int × Int × (List Int) × Int) ((List M48) × (List Int) × Int × Int × Int × Int × (List Int) × Int)} (hk : Qbj k x1 x3 x5 x7 x8 x9 x10 x11 x16 = some r) {g w : World} {F : Ch} {ih : IH} (h1 : OSl e44 ih p1 c1 x5 d1) (h2 : x6.oneCell' = true) (h3 : RSl e5 ih [] p2 c2 x10) (h4 : RSl e5 ih [] p3 c3 x15) (h5 : RSl e5 ih [] p4 c4 x16.f3) (hG : Glob 0 gl0 162 ih) (hw : St g w [k37 b1 x1 x2 x3 x4 b2 x7 x8 x9 p2 x10 c2 x11 x12 x13 x14 p3 x15 c3, bx b2 [.slice p1 x5.length c1, x6] 113, d1, F] ih) :
  CallsR Tryz.prog 9 #[(pt b1 0), A26 x16 p4 c4] w fun v w' => (∃ r0 : (List M48) × Int × Int × Int × Int × Int × (List Int) × Int, r = .inl r0 ∧ ∃ (ih' : IH) (p5 : Option Addr) (c5 : Nat) (d2 : Ch) (p6 : Option Addr) (c6 : Nat), v = .tuple #[.slice p5 r0.1.length c5, Qb r0.2.1] ∧ St g w' [d2, bx b1 [Qb x1, Qb x2, Qe r0.2.2.1, Qb x4, (pt b2 0), Qb r0.2.2.2.1, Qk r0.2.2.2.2.1, Qe r0.2.2.2.2.2.1, .slice p6 r0.2.2.2.2.2.2.1.length c6, Qb r0.2.2.2.2.2.2.2, .pointer none, Qe x12, Qb x13, Qe x14, .slice p3 x15.length c3] 85, bx b2 [.slice p1 x5.length c1, x6] 113, d1, F] ih' ∧ Le ih ih' ∧ OSl e48 ih' p5 c5 r0.1 d2 ∧ RSl e5 ih' [] p6 c6 r0.2.2.2.2.2.2.1) ∨ (∃ r1 : (List M48) × (List Int) × Int × Int × Int × Int × (List Int) × Int, r = .inr r1 ∧ ∃ (ih' : IH) (p7 : Option Addr) (c7 : Nat) (d3 : Ch) (b3 : Nat) (p8 : Option Addr) (c8 : Nat) (p9 : Option Addr) (c9 : Nat), v = .tuple #[.slice p7 r1.1.length c7, Qb 0] ∧ St g w' [d3, k38 b3 p8 r1.2.1 c8, bx b1 [Qb x1, Qb x2, Qe r1.2.2.1, Qb x4, (pt b2 0), Qb r1.2.2.2.1, Qk r1.2.2.2.2.1, Qe r1.2.2.2.2.2.1, .slice p9 r1.2.2.2.2.2.2.1.length c9, Qb r1.2.2.2.2.2.2.2, (pt b3 0), Qe x12, Qb x13, Qe x14, .slice p3 x15.length c3] 85, bx b2 [.slice p1 x5.length c1, x6] 113, d1, F] ih' ∧ Le ih ih' ∧ OSl e48 ih' p7 c7 r1.1 d3 ∧ RSl e5 ih' [] p8 c8 r1.2.1 ∧ RSl e5 ih' [] p9 c9 r1.2.2.2.2.2.2.1) := by
 refine f_i Tryz.func9 rfl 40 rfl fun a Qf hQ hQn hs => ?_
 refine Qd (Qa (QC hs hw [Qb x16.f0, Qk x16.f1, Qe x16.f2, .slice p4 x16.f3.length c4, Qb x16.f4] 26 (fun b => (pt b 0)) (by kernel_rfl) (fun _ => by kernel_rfl) fun a w b4 hs hw => ?_))
 refine pn hs 2 [(0, (pt b1 0)), (3, (pt b4 0))] fun a hs => Qc (Qd (Ql (Qd (Qa (pn hs 3 [(0, (pt b1 0)), (3, (pt b4 0)), (7, .bool false)] fun a hs => ?_)))))
 refine Qc (QhJ hs (Qd (Qa (pu hs 1 fun a hs => ?_))))
 have h6 : Q2 = some () := rfl
 refine Qv hs (Q6 (x1 := x1) (x2 := x2) (x3 := x3) (x4 := x4) (x5 := x5) (x6 := (x6)) (x7 := x7) (x8 := x8) (x9 := x9) (x10 := x10) (x11 := x11) (x12 := x12) (x13 := x13) (x14 := x14) (x15 := x15) h6 h1 h2 h3 h4 ((hw.pk [1, 2, 3, 0, 4]).pack 3)) fun a w v hv hs => ?_
 obtain ⟨rfl, hw⟩ := hv
 have hw := hw.unpack 3 rfl
 refine pn hs 1 [(0, (pt b1 0)), (3, (pt b4 0)), (10, .bool false)] fun a hs => Qc (QhJ hs (Qg (Qd (Qd (Qa (pu hs 1 fun a hs => ?_))))))
 refine Qj hs (hw.at_ 3 rfl) 0 fun a hs => ?_
 obtain ⟨y1, h7, hk⟩ := bindE hk
 refine Qv hs (Qen (x2 := x2) (x4 := x4) (x5 := x5) (x6 := (x6)) (x7 := x7) (x8 := x8) (x9 := x9) (x10 := x10) (x11 := x11) (x12 := (.pointer none)) (x13 := x12) (x14 := x13) (x15 := x14) (x16 := x15) h7 h1 h2 h3 rfl h4 h5 (hG.mono (Le.refl _)) ((hw.pk [0, 1, 2, 3, 4]).pack 3)) fun a w v hv hs => ?_
 obtain ⟨ih1, rfl, hw, hle1⟩ := hv
 have hw := hw.unpack 3 rfl
 refine pn hs 1 [(0, (pt b1 0)), (3, (pt b4 0)), (6, Qb y1)] fun a hs => ?_
 have hw := hw.cL [k37 b1 x1 x2 x3 x4 b2 x7 x8 x9 p2 x10 c2 x11 x12 x13 x14 p3 x15 c3, bx b2 [.slice p1 x5.length c1, x6] 113, d1, k8 b4 x16.f0 x16.f1 x16.f2 p4 x16.f3 c4 x16.f4, F]
 refine Qc (Qd (Qa (pn hs 2 [(0, (pt b1 0)), (3, (pt b4 0)), (6, Qb y1), (17, .bool (y1 != 0))] fun a hs => ?_)))
 refine Qc ?_
 rcases ifbE hk with ⟨h8, hk⟩ | ⟨h8, hk⟩
 ·refine Qr hs h8 ?_
  refine Qd (Qa (pn hs 3 [(4, .slice none 0 0), (5, Qb y1)] fun a hs => ?_))
  refine Qc (Qi ?_)
  have hw := hw.nil
  obtain rfl := someE hk
  refine hQ _ _ (Q4 hs [.tmp 4, .tmp 5] rfl [.slice none 0 0, Qb y1] (by kernel_rfl) (by kernel_rfl) (.inl ⟨_, rfl, ⟨ih1, none, 0, ([]), p2, c2, rfl, hw.pk [0, 1, 2, 3, 5], hle1, (OSl.nil _ _), (h3.mono hle1)⟩⟩))
 refine Qs hs h8 ?_
 refine Qg (Qd (Qa (pu hs 1 fun a hs => ?_)))
 refine Qj hs (hw.at_ 3 rfl) 3 fun a hs => ?_
 obtain ⟨y2, h9, hk⟩ := bindE hk
 refine Qv hs (QaQ h9 (h5.mono hle1) (nilSub _) ((hw.pk [0, 1, 2, 3, 4]).pack 0)) fun a w v hv hs => ?_
 obtain ⟨p10, c10, d4, rfl, hw, h10⟩ := hv
 have hw := hw.unpack 1 rfl
 refine pu hs 1 fun a hs => QE hs hw 4 rfl 3 (v := .slice p10 y2.length c10) fun a w hs hw => ?_
 have hs := hs.cst (e' := [(0, (pt b1 0)), (3, (pt b4 0))])
 refine Qc (Qd (Qa (pu hs 3 fun a hs => ?_)))
 refine Qj hs (hw.at_ 1 rfl) 2 fun a hs => pu hs 3 fun a hs => QE hs hw 1 rfl 2 (v := Qe (IntKind.u64.wrap (x3 + 1))) fun a w hs hw => ?_
 have hs := hs.cst (e' := [(0, (pt b1 0)), (3, (pt b4 0))])
 have hw := hw.cL [d4, k37 b1 x1 x2 (IntKind.u64.wrap (x3 + 1)) x4 b2 x7 x8 x9 p2 x10 c2 x11 x12 x13 x14 p3 x15 c3, bx b2 [.slice p1 x5.length c1, x6] 113, d1, k8 b4 x16.f0 x16.f1 x16.f2 p10 y2 c10 x16.f4, F]
 refine Qc (Qd ?_)
 obtain ⟨S, hD, kS⟩ := mkSXw hw [[], [6, 9], [], [], [], []] (K := [6, 9]) rfl
 obtain ⟨y3, hx1, hk⟩ := bindE hk
 obtain ⟨J1, hJ1⟩ := mkJ fun a w => ∃ (x17 : List Int) (b5 : Nat) (p11 : Option Addr) (c11 : Nat) (d5 : Ch), QbN k x1 x3 x5 x16 y2 x17 = some r ∧ Sees a 40 [(0, (pt b1 0))] ∧ St g w [k42 b1 x1 x2 (IntKind.u64.wrap (x3 + 1)) x4 b2 x16.f0 x16.f1 x16.f2 p10 y2 c10 x16.f4 b5 x12 x13 x14 p3 x15 c3, bx b2 [.slice p1 x5.length c1, x6] 113, k38 b5 p11 x17 c11, d5, d4, d1, F] ih1 ∧ OSl e5 ih1 p11 c11 x17 d5
 refine Qo (by kernel_rfl) (N := 10) rfl S J1 ?_ ?_
 ·have hw := hw.drew
  have hS : S (bA 10 0) _ := SXn hD (hw.vws [0, 1, 2, 3, 4, 5])
  refine Qp (fuel := 8) kS hs hS [0, 1] fun a hs hS => ?_
  refine Qy kS hs hS 2 rfl (SXb hD 4 rfl) 0 fun a hs hS => ?_
  refine QF [3] (QH ?_)
  obtain ⟨y4, h11, hx1⟩ := bindE hx1
  refine QaR hs rfl (Qei h11 ((hw.pk [0, 1, 2, 3, 4, 5]).pack 0)) fun a w v hv hs => ?_
  obtain ⟨b6, p12, c12, d6, rfl, hw, h12⟩ := hv
  have hw := hw.unpack 2 rfl
  refine nx hD ((hw.vws [2, 3, 4, 5, 6, 7]).anti (Le.refl _)) fun hS => ?_
  refine Qp (fuel := 4) kS hs hS [4, 5] fun a hs hS => ?_
  refine QF [6] (QH ?_)
  refine QfM hs hw rfl 3 rfl 5 (v := .agg #[Qb x16.f0, Qk x16.f1, Qe x16.f2, .slice p10 y2.length c10, Qb x16.f4]) fun a w hs hw => ?_
  refine nx hD ((hw.vws [2, 4, 5, 6, 7]).anti (Le.refl _)) fun hS => ?_
  refine Qp (fuel := 1) kS hs hS [7, 8] fun a hs hS => ?_
  refine QF [9] (QH ?_)
  refine QfM hs hw rfl 3 rfl 10 (v := (pt b6 0)) fun a w hs hw => ?_
  refine nx hD ((hw.vws [2, 4, 5, 6, 7]).anti (Le.refl _)) fun hS => ?_
  refine QhI ?_
  obtain rfl := someE hx1
  exact (hJ1 _ _).2 ⟨y4, b6, p12, c12, d6, hk, hs.cst, hw.pk [3, 4, 0, 1, 2, 5, 7], h12⟩
 intro a w hh
 obtain ⟨x17, b5, p11, c11, d5, hk, hs, hw, h13⟩ := (hJ1 _ _).1 hh
 refine Qd (Qa (pu hs 1 fun a hs => ?_))
 obtain ⟨ih2, hle2, hw, h14⟩ := (hw.pk [4, 0, 1, 2, 3, 5, 6]).fz (h10.mono (Le.refl _))
 obtain ⟨ih3, hle3, hw, h15⟩ := (hw.pk [3, 0, 1, 2, 4, 5]).fz (h13.mono hle2)
 obtain ⟨y5, h16, hk⟩ := bindE hk
 refine Qv hs (Qa2 (x2 := x2) (x4 := x4) (x6 := (x6)) (x12 := (pt b5 0)) (x13 := x12) (x14 := x13) (x15 := x14) (x16 := x15) h16 (h1.mono ((hle1.trans hle2).trans hle3)) h2 (h14.mono hle3) rfl (h4.mono ((hle1.trans hle2).trans hle3)) (hG.mono ((hle1.trans hle2).trans hle3)) ((hw.pk [0, 1, 3, 2, 4]).pack 3)) fun a w v hv hs => ?_
 obtain ⟨ih4, p13, c13, d7, rfl, hw, hle4, h17⟩ := hv
 have hw := hw.unpack 4 rfl
 refine pn hs 2 [(4, .slice p13 y5.length c13), (5, Qb 0)] fun a hs => ?_
 have hw := hw.cL [d7, k42 b1 x1 x2 (IntKind.u64.wrap (x3 + 1)) x4 b2 x16.f0 x16.f1 x16.f2 p10 y2 c10 x16.f4 b5 x12 x13 x14 p3 x15 c3, bx b2 [.slice p1 x5.length c1, x6] 113, d1, k38 b5 p11 x17 c11, F]
 refine Qc (Qi ?_)
 obtain rfl := someE hk
 refine hQ _ _ (Q4 hs [.tmp 4, .tmp 5] rfl [.slice p13 y5.length c13, Qb 0] (by kernel_rfl) (by kernel_rfl) (.inr ⟨_, rfl, ⟨ih4, p13, c13, d7, b5, p11, c11, p10, c10, rfl, hw.pk [0, 4, 1, 2, 3, 5], (((hle1.trans hle2).trans hle3).trans hle4), h17, (h15.mono hle4), (h14.mono (hle3.trans hle4))⟩⟩))
def Qbv (x1 : Int) : Option ((List M48) × Int) :=
 some ([], IntKind.i64.wrap (x1 + 1))
theorem Qd6 {x1 x2 x3 x4 : Int} {x5 : List M44} {x6 : Value} {x7 x8 x9 : Int} {x10 : List Int} {x11 x12 x13 x14 : Int} {x15 : List Int} {d1 : Ch} {b1 b2 c1 c2 c3 : Nat} {p1 p2 p3 : Option Addr} {r : (List M48) × Int} (hk : Qbv x4 = some r) {g w : World} {F : Ch} {ih : IH} (h1 : OSl e44 ih p1 c1 x5 d1) (h2 : x6.oneCell' = true) (h3 : RSl e5 ih [] p2 c2 x10) (h4 : RSl e5 ih [] p3 c3 x15) (hw : St g w [k37 b1 x1 x2 x3 x4 b2 x7 x8 x9 p2 x10 c2 x11 x12 x13 x14 p3 x15 c3, bx b2 [.slice p1 x5.length c1, x6] 113, d1, F] ih) :
  CallsR Tryz.prog 14 #[(pt b1 0)] w fun v w' => ∃ (p4 : Option Addr) (c4 : Nat) (d2 : Ch), v = .slice p4 r.1.length c4 ∧ St g w' [d2, bx b1 [Qb x1, Qb x2, Qe x3, Qb r.2, (pt b2 0), Qb x7, Qk x8, Qe x9, .slice p2 x10.length c2, Qb x11, .pointer none, Qe x12, Qb x13, Qe x14, .slice p3 x15.length c3] 85, bx b2 [.slice p1 x5.length c1, x6] 113, d1, F] ih ∧ OSl e48 ih p4 c4 r.1 d2 := by
 refine f_i Tryz.func14 rfl 46 rfl fun a Qf hQ hQn hs => ?_
 refine Qd (Qa (pn hs 1 [(0, (pt b1 0))] fun a hs => ?_))
 refine Qc (Qd (Qd (Qa (pn hs 2 [(0, (pt b1 0)), (5, .bool false)] fun a hs => ?_))))
 refine Qc (QhJ hs (Qg (Qd (Qa (pu hs 3 fun a hs => ?_)))))
 refine Qj hs (hw.at_ 0 rfl) 3 fun a hs => pu hs 3 fun a hs => QE hs hw 0 rfl 3 (v := Qb (IntKind.i64.wrap (x4 + 1))) fun a w hs hw => ?_
 have hs := hs.cst (e' := [(0, (pt b1 0))])
 refine Qc (Qd (Qd (Qa (pu hs 1 fun a hs => ?_))))
 have h5 : Q2 = some () := rfl
 refine Qv hs (Q6 (x1 := x1) (x2 := x2) (x3 := x3) (x4 := IntKind.i64.wrap (x4 + 1)) (x5 := x5) (x6 := (x6)) (x7 := x7) (x8 := x8) (x9 := x9) (x10 := x10) (x11 := x11) (x12 := x12) (x13 := x13) (x14 := x14) (x15 := x15) h5 h1 h2 h3 h4 ((hw.pk [0, 1, 2, 3]).pack 3)) fun a w v hv hs => ?_
 obtain ⟨rfl, hw⟩ := hv
 have hw := hw.unpack 3 rfl
 refine pn hs 1 [(0, (pt b1 0)), (15, .bool true)] fun a hs => Qc (Qgb hs (Qd (Qa (pn hs 1 [(2, .slice none 0 0)] fun a hs => ?_))))
 refine Qc (Qi ?_)
 have hw := hw.nil
 obtain rfl := someE hk
 exact qr1 hQ hs ⟨none, 0, ([]), rfl, hw.pk [0, 1, 2, 3, 4], (OSl.nil _ _)⟩
def Qax (x1 : Int) : Option Bool :=
 some (x1 != 0)
theorem QfO {x1 x2 x3 x4 : Int} {x5 : List Int} {b1 c1 : Nat} {p1 : Option Addr} {r : Bool} (hk : Qax x2 = some r) {g w : World} {F : Ch} {ih : IH} (h1 : RSl e5 ih [] p1 c1 x5) (hw : St g w [k46 b1 x1 x2 x3 x4 p1 x5 c1, F] ih) :
  CallsR Tryz.prog 56 #[(pt b1 3)] w fun v w' => v = .bool r ∧ St g w' [bx b1 [Qk x1, QfL 0, Qk 0, Qk x2, Qb x3, Qe x4, .slice p1 x5.length c1] 126, F] ih := by
 refine f_i Tryz.func56 rfl 8 rfl fun a Qf hQ hQn hs => ?_
 refine Qd (Qa (pn hs 1 [(0, (pt b1 3))] fun a hs => ?_))
 refine Qc (Qd (Qa (pu hs 3 fun a hs => ?_)))
 refine QfF hs (by kernel_rfl) (QhH hw Tryz.func87 (by kernel_rfl) (by kernel_rfl) (by kernel_rfl) .u32 (by kernel_rfl) 0 rfl 3 (x := x2) (by kernel_rfl) (by kernel_rfl)) fun a hs => ?_
 refine pn hs 2 [(2, .bool (x2 != 0))] fun a hs => Qc (Qi ?_)
 obtain rfl := someE hk
 exact qr1 hQ hs ⟨rfl, hw.pk [0, 1]⟩
def QJ (x1 x2 x3 : Int) (x4 : List Int) : Option (M51 × Bool) :=
 (Qax x1).bind fun y1 =>
 if (!y1) = true then some ((M51.mk 0 0 ([])), false)
 else some ((M51.mk x2 x3 x4), true)
theorem QcB {x1 x2 x3 x4 : Int} {x5 : List Int} {b1 c1 : Nat} {p1 : Option Addr} {r : M51 × Bool} (hk : QJ x2 x3 x4 x5 = some r) {g w : World} {F : Ch} {ih : IH} (h1 : RSl e5 ih [] p1 c1 x5) (hw : St g w [k46 b1 x1 x2 x3 x4 p1 x5 c1, F] ih) :
  CallsR Tryz.prog 32 #[(pt b1 0)] w fun v w' => ∃ (p2 : Option Addr) (c2 : Nat), v = .tuple #[.agg #[Qb r.1.f0, Qe r.1.f1, .slice p2 r.1.f2.length c2], .bool r.2] ∧ St g w' [bx b1 [Qk x1, QfL 0, Qk 0, Qk x2, Qb x3, Qe x4, .slice p1 x5.length c1] 126, F] ih ∧ RSl e5 ih [] p2 c2 r.1.f2 := by
 refine f_i Tryz.func32 rfl 19 rfl fun a Qf hQ hQn hs => ?_
 refine Qd (Qa (QC hs hw [Qb 0, Qe 0, .slice none 0 0] 51 (fun b => (pt b 0)) (by kernel_rfl) (fun _ => by kernel_rfl) fun a w b2 hs hw => ?_))
 refine pn hs 1 [(0, (pt b1 0)), (2, (pt b2 0))] fun a hs => Qc (Qd (Qa (QC hs hw [Qb 0, Qe 0, .slice none 0 0] 51 (fun b => (pt b 0)) (by kernel_rfl) (fun _ => by kernel_rfl) fun a w b3 hs hw => ?_)))
 refine Qc (Qd (Qd (Qa (pu hs 6 fun a hs => ?_))))
 obtain ⟨y1, h2, hk⟩ := bindE hk
 refine Qv hs (QfO (x1 := x1) (x3 := x3) (x4 := x4) (x5 := x5) h2 h1 ((hw.pk [2, 0, 1, 3]).pack 1)) fun a w v hv hs => ?_
 obtain ⟨rfl, hw⟩ := hv
 have hw := hw.unpack 1 rfl
 refine pn hs 2 [(0, (pt b1 0)), (2, (pt b2 0)), (4, (pt b3 0)), (13, .bool (!y1))] fun a hs => ?_
 have hw := hw.cL [k46 b1 x1 x2 x3 x4 p1 x5 c1, k47 b3, k47 b2, F]
 refine Qc ?_
 rcases ifbE hk with ⟨h3, hk⟩ | ⟨h3, hk⟩
 ·refine Qr hs h3 ?_
  refine Qd (Qa (Qj hs (hw.at_ 1 rfl) 0 fun a hs => ?_))
  refine QE hs hw 2 rfl 0 (v := .agg #[Qb 0, Qe 0, .slice none 0 0]) fun a w hs hw => ?_
  refine pn hs 1 [(2, (pt b2 0)), (3, .bool false)] fun a hs => Qc (Qi ?_)
  obtain rfl := someE hk
  refine hQ _ _ (Qcs hs (l := [.cell 2 51, .tmp 3]) (vs := [.agg #[Qb 0, Qe 0, .slice none 0 0], .bool false]) rfl (⟨Qab hs (hw.at_ 2 rfl) (by kernel_rfl) (v := .agg #[Qb 0, Qe 0, .slice none 0 0]) (by kernel_rfl), ⟨Qaf hs (v := .bool false) (by kernel_rfl), trivial⟩⟩) (by kernel_rfl) ⟨none, 0, rfl, hw.pk [0, 3], (RSl.nil _ _ _)⟩)
 refine Qs hs h3 ?_
 refine Qg (Qd (Qa (pu hs 3 fun a hs => ?_)))
 refine Qj hs (hw.at_ 0 rfl) 4 fun a hs => QE hs hw 2 rfl 0 (v := .agg #[Qb x3, Qe x4, .slice p1 x5.length c1]) fun a w hs hw => pn hs 1 [(2, (pt b2 0)), (3, .bool true)] fun a hs => ?_
 refine Qc (Qi ?_)
 obtain rfl := someE hk
 refine hQ _ _ (Qcs hs (l := [.cell 2 51, .tmp 3]) (vs := [.agg #[Qb x3, Qe x4, .slice p1 x5.length c1], .bool true]) rfl (⟨Qab hs (hw.at_ 2 rfl) (by kernel_rfl) (v := .agg #[Qb x3, Qe x4, .slice p1 x5.length c1]) (by kernel_rfl), ⟨Qaf hs (v := .bool true) (by kernel_rfl), trivial⟩⟩) (by kernel_rfl) ⟨p1, c1, rfl, hw.pk [0, 3], h1⟩)
def Qw (x1 x2 x3 : Int) (x4 : List Int) : Option Bool :=
 (QJ x1 x2 x3 x4).bind fun y1 =>
 some (!y1.2)
theorem Q5 {x1 x2 x3 x4 : Int} {x5 : List M44} {x6 : Value} {x7 x8 x9 : Int} {x10 : List Int} {x11 x12 x13 x14 x15 : Int} {x16 : List Int} {x17 x18 x19 : Int} {x20 : List Int} {d1 : Ch} {b1 b2 c1 c2 b3 c3 c4 : Nat} {p1 p2 p3 p4 : Option Addr} {r : Bool} (hk : Qw x13 x14 x15 x16 = some r) {g w : World} {F : Ch} {ih : IH} (h1 : OSl e44 ih p1 c1 x5 d1) (h2 : x6.oneCell' = true) (h3 : RSl e5 ih [] p2 c2 x10) (h4 : RSl e5 ih [] p3 c3 x16) (h5 : RSl e5 ih [] p4 c4 x20) (hw : St g w [k42 b1 x1 x2 x3 x4 b2 x7 x8 x9 p2 x10 c2 x11 b3 x17 x18 x19 p4 x20 c4, bx b2 [.slice p1 x5.length c1, x6] 113, d1, k46 b3 x12 x13 x14 x15 p3 x16 c3, F] ih) :
  CallsR Tryz.prog 10 #[(pt b1 0)] w fun v w' => v = .bool r ∧ St g w' [bx b1 [Qb x1, Qb x2, Qe x3, Qb x4, (pt b2 0), Qb x7, Qk x8, Qe x9, .slice p2 x10.length c2, Qb x11, (pt b3 0), Qe x17, Qb x18, Qe x19, .slice p4 x20.length c4] 85, bx b2 [.slice p1 x5.length c1, x6] 113, d1, bx b3 [Qk x12, QfL 0, Qk 0, Qk x13, Qb x14, Qe x15, .slice p3 x16.length c3] 126, F] ih := by
 refine f_i Tryz.func10 rfl 24 rfl fun a Qf hQ hQn hs => ?_
 refine Qd (Qa (pn hs 1 [(0, (pt b1 0))] fun a hs => ?_))
 refine Qc (Qd (Qd (Qa (pu hs 6 fun a hs => ?_))))
 refine Qj hs (hw.at_ 0 rfl) 10 fun a hs => pn hs 2 [(0, (pt b1 0)), (13, .bool false)] fun a hs => Qc (QhJ hs (Qg (Qd (Qa (pu hs 3 fun a hs => ?_)))))
 refine Qj hs (hw.at_ 0 rfl) 10 fun a hs => ?_
 obtain ⟨y1, h6, hk⟩ := bindE hk
 refine Qv hs (QcB (x1 := x12) h6 h4 ((hw.pk [3, 0, 1, 2, 4]).pack 1)) fun a w v hv hs => ?_
 obtain ⟨p5, c5, rfl, hw, h7⟩ := hv
 have hw := hw.unpack 1 rfl
 refine pu hs 3 fun a hs => QaN hs hw [Qb 0, Qe 0, .slice none 0 0] 51 (fun b => (pt b 0)) fun a w b4 hs hw => QE hs hw 0 rfl 0 (v := .agg #[Qb y1.1.f0, Qe y1.1.f1, .slice p5 y1.1.f2.length c5]) fun a w hs hw => ?_
 refine pn hs 1 [(4, .bool y1.2)] fun a hs => ?_
 have hw := hw.cL [k48 b4 y1.1.f0 y1.1.f1 p5 y1.1.f2 c5, k46 b3 x12 x13 x14 x15 p3 x16 c3, k42 b1 x1 x2 x3 x4 b2 x7 x8 x9 p2 x10 c2 x11 b3 x17 x18 x19 p4 x20 c4, bx b2 [.slice p1 x5.length c1, x6] 113, d1, F]
 refine Qc (Qd (Qa (pn hs 3 [(2, .bool (!y1.2))] fun a hs => ?_)))
 refine Qc (Qi ?_)
 obtain rfl := someE hk
 exact qr1 hQ hs ⟨rfl, hw.pk [2, 3, 4, 1, 5]⟩
def Qcc (x1 : Int) (x2 : List M48) : Option ((List M48) × Int) :=
 some (x2, IntKind.i64.wrap (x1 + 1))
def Qcb (k : Nat) (x1 x2 : Int) (x3 : List M44) (x4 x5 x6 : Int) (x7 : List Int) (x8 x9 x10 x11 x12 : Int) : Option ((List M48) × Int) :=
 ((QK k x1 x2 x3 x4 x5 x6 x7 x8).bind fun y1 =>
  (app y1 [(M48.mk 10 x11 (IntKind.i64.wrap ((IntKind.i64.wrap (100 + ((IntKind.i64.wrap (x9 + 1)).tmod x10))) + 1)) x12 0 0 0 0 0 0 0 0 0 (M41.mk 0 0 0 0) (M44.mk 0 0 ([]) false 0) ([]) ([]) ([]))]).bind fun x13 =>
  some x13 : Option (List M48)).bind fun s1 => Qcc x9 s1
def QaL (k : Nat) (x1 x2 x3 x4 : Int) (x5 : List M44) (x6 x7 x8 : Int) (x9 : List Int) (x10 x11 x12 x13 : Int) (x14 : List Int) : Option ((List M48) × Int) :=
 (Qw x11 x12 x13 x14).bind fun y1 =>
 if (!y1) = true then some ([], IntKind.i64.wrap (x4 + 1))
 else (if (x2 == 0) = true then none
  else (Qq x1).bind fun y2 =>
  (Q7 k x5 x7).bind fun y3 =>
  some (y2, y3.f0) : Option (Int × Int)).bind fun s1 => Qcb k x1 x3 x5 x6 x7 x8 x9 x10 x4 x2 s1.1 s1.2
theorem Qd5 {k : Nat} {x1 x2 x3 x4 : Int} {x5 : List M44} {x6 : Value} {x7 x8 x9 : Int} {x10 : List Int} {x11 x12 x13 x14 x15 : Int} {x16 : List Int} {x17 x18 x19 : Int} {x20 : List Int} {d1 : Ch} {b1 b2 c1 c2 b3 c3 c4 : Nat} {p1 p2 p3 p4 : Option Addr} {r : (List M48) × Int} (hk : QaL k x1 x2 x3 x4 x5 x7 x8 x9 x10 x11 x13 x14 x15 x16 = some r) {g w : World} {F : Ch} {ih : IH} (h1 : OSl e44 ih p1 c1 x5 d1) (h2 : x6.oneCell' = true) (h3 : RSl e5 ih [] p2 c2 x10) (h4 : RSl e5 ih [] p3 c3 x16) (h5 : RSl e5 ih [] p4 c4 x20) (hG : Glob 0 gl0 162 ih) (hw : St g w [k42 b1 x1 x2 x3 x4 b2 x7 x8 x9 p2 x10 c2 x11 b3 x17 x18 x19 p4 x20 c4, bx b2 [.slice p1 x5.length c1, x6] 113, d1, k46 b3 x12 x13 x14 x15 p3 x16 c3, F] ih) :
  CallsR Tryz.prog 14 #[(pt b1 0)] w fun v w' => ∃ (ih' : IH) (p5 : Option Addr) (c5 : Nat) (d2 : Ch), v = .slice p5 r.1.length c5 ∧ St g w' [d2, bx b1 [Qb x1, Qb x2, Qe x3, Qb r.2, (pt b2 0), Qb x7, Qk x8, Qe x9, .slice p2 x10.length c2, Qb x11, (pt b3 0), Qe x17, Qb x18, Qe x19, .slice p4 x20.length c4] 85, bx b2 [.slice p1 x5.length c1, x6] 113, d1, bx b3 [Qk x12, QfL 0, Qk 0, Qk x13, Qb x14, Qe x15, .slice p3 x16.length c3] 126, F] ih' ∧ Le ih ih' ∧ OSl e48 ih' p5 c5 r.1 d2 := by
 refine f_i Tryz.func14 rfl 46 rfl fun a Qf hQ hQn hs => ?_
 refine Qd (Qa (pn hs 1 [(0, (pt b1 0))] fun a hs => ?_))
 refine Qc (Qd (Qd (Qa (pn hs 2 [(0, (pt b1 0)), (5, .bool false)] fun a hs => ?_))))
 refine Qc (QhJ hs (Qg (Qd (Qa (pu hs 3 fun a hs => ?_)))))
 refine Qj hs (hw.at_ 0 rfl) 3 fun a hs => pu hs 3 fun a hs => QE hs hw 0 rfl 3 (v := Qb (IntKind.i64.wrap (x4 + 1))) fun a w hs hw => ?_
 have hs := hs.cst (e' := [(0, (pt b1 0))])
 refine Qc (Qd (Qd (Qa (pu hs 1 fun a hs => ?_))))
 obtain ⟨y1, h6, hk⟩ := bindE hk
 refine Qv hs (Q5 (x1 := x1) (x2 := x2) (x3 := x3) (x4 := IntKind.i64.wrap (x4 + 1)) (x5 := x5) (x6 := (x6)) (x7 := x7) (x8 := x8) (x9 := x9) (x10 := x10) (x11 := x11) (x12 := x12) (x17 := x17) (x18 := x18) (x19 := x19) (x20 := x20) h6 h1 h2 h3 h4 h5 ((hw.pk [0, 1, 2, 3, 4]).pack 4)) fun a w v hv hs => ?_
 obtain ⟨rfl, hw⟩ := hv
 have hw := hw.unpack 4 rfl
 refine pn hs 1 [(0, (pt b1 0)), (15, .bool (!y1))] fun a hs => Qc ?_
 rcases ifbE hk with ⟨h7, hk⟩ | ⟨h7, hk⟩
 ·refine Qr hs h7 ?_
  refine Qd (Qa (pn hs 1 [(2, .slice none 0 0)] fun a hs => ?_))
  refine Qc (Qi ?_)
  have hw := hw.nil
  obtain rfl := someE hk
  exact qr1 hQ hs ⟨ih, none, 0, ([]), rfl, hw.pk [0, 1, 2, 3, 4, 5], (Le.refl _), (OSl.nil _ _)⟩
 refine Qs hs h7 ?_
 refine Qg (Qd ?_)
 have hw := hw.cL [k42 b1 x1 x2 x3 (IntKind.i64.wrap (x4 + 1)) b2 x7 x8 x9 p2 x10 c2 x11 b3 x17 x18 x19 p4 x20 c4, bx b2 [.slice p1 x5.length c1, x6] 113, d1, k46 b3 x12 x13 x14 x15 p3 x16 c3, F]
 obtain ⟨S, hD, kS⟩ := mkSXw hw [[], [], [], [], []] (K := []) rfl
 obtain ⟨y2, hx1, hk⟩ := bindE hk
 obtain ⟨J1, hJ1⟩ := mkJ fun a w => ∃ (x21 x22 : Int) (b4 : Nat) (ih1 : IH), Qcb k x1 x3 x5 x7 x8 x9 x10 x11 x4 x2 x21 x22 = some r ∧ Sees a 46 [(0, (pt b1 0)), (3, (pt b4 0))] ∧ St g w [k42 b1 x1 x2 x3 (IntKind.i64.wrap (x4 + 1)) b2 x7 x8 x9 p2 x10 c2 x11 b3 x17 x18 x19 p4 x20 c4, bx b2 [.slice p1 x5.length c1, x6] 113, k46 b3 x12 x13 x14 x15 p3 x16 c3, k49 b4 x21 (IntKind.i64.wrap ((IntKind.i64.wrap (100 + ((IntKind.i64.wrap (x4 + 1)).tmod x2))) + 1)) x22, d1, F] ih1 ∧ Le ih ih1
 refine Qo (by kernel_rfl) (N := 27) rfl S J1 ?_ ?_
 ·have hw := hw.drew
  have hS : S (bA 27 0) _ := SXn hD (hw.vws [0, 1, 2, 3, 4])
  refine Qp (fuel := 23) kS hs hS [0, 2, 3, 4] fun a hs hS => ?_
  refine Qy kS hs hS 5 rfl (SXb hD 0 rfl) 3 fun a hs hS => ?_
  refine Qp (fuel := 19) kS hs hS [6, 7, 8] fun a hs hS => ?_
  refine Qy kS hs hS 9 rfl (SXb hD 0 rfl) 1 fun a hs hS => ?_
  rcases ifbE hx1 with ⟨h8, hx1⟩ | ⟨h8, hx1⟩
  ·cases hx1
  refine QlS (fuel := 17) kS hs hS 10 rfl (by kernel_rfl) (by kernel_rfl) .i64 (i := IntKind.i64.wrap (x4 + 1)) (j := x2) (by kernel_rfl) (by kernel_rfl) (by simpa using h8) fun a hs hS => ?_
  refine Qgn hS fun hS => ?_
  refine Qp (fuel := 12) kS hs hS [11, 12, 13, 14, 15] fun a hs hS => ?_
  refine Qy kS hs hS 16 rfl (SXb hD 0 rfl) 4 fun a hs hS => ?_
  refine Qff (fuel := 7) kS hs hS [17, 18, 19, 20] [(0, (pt b1 0)), (16, (pt b1 0)), (28, Qb (IntKind.i64.wrap ((IntKind.i64.wrap (100 + ((IntKind.i64.wrap (x4 + 1)).tmod x2))) + 1))), (32, (pt b2 0)), (36, (pt b1 6))] fun a hs hS => ?_
  refine Qy kS hs hS 21 rfl (SXb hD 0 rfl) 6 fun a hs hS => ?_
  refine QF [1, 25] (QkI ?_ (QH ?_))
  ·obtain ⟨y3, h9, hx1⟩ := bindE hx1
   refine QaR hs rfl (QD (x2 := x2) (x3 := x3) (x4 := IntKind.i64.wrap (x4 + 1)) (x5 := x5) (x6 := (x6)) (x7 := x7) (x8 := x8) (x9 := x9) (x10 := x10) (x11 := x11) (x12 := (pt b3 0)) (x13 := x17) (x14 := x18) (x15 := x19) (x16 := x20) h9 h1 h2 h3 rfl h5 ((hw.pk [0, 1, 2, 3, 4]).pack 3)) fun a w v hv hs => ?_
   obtain ⟨rfl, hw⟩ := hv
   have hw := hw.unpack 3 rfl
   refine nx hD ((hw.vws [0, 1, 2, 3, 4]).anti (Le.refl _)) fun hS => ?_
   refine QF [22, 25] (QkI ?_ (QH ?_))
   ·obtain ⟨y4, h10, hx1⟩ := bindE hx1
    refine QaR hs rfl (Qah (x2 := (x6)) h10 h1 h2 ((hw.pk [1, 2, 0, 3, 4]).pack 2)) fun a w v hv hs => ?_
    obtain ⟨ih2, p6, c6, rfl, hw, hle1, h11⟩ := hv
    have hw := hw.unpack 2 rfl
    refine nx hD ((hw.vws [2, 0, 1, 3, 4]).anti hle1) fun hS => ?_
    refine Qp (fuel := 2) kS hs hS [23, 24] fun a hs hS => ?_
    refine QF [25] (QH ?_)
    refine Qhy hs rfl hw [Qb 0, Qb 0, Qb 0, Qb 0, Qe 0, Qe 0, Qe 0, Qe 0, Qe 0, Qe 0, Qb 0, Qk 0, Qb 0, Qb 0, Qb 0, Qe 0, Qb 0, Qb 0, Qe 0, .slice none 0 0, .bool false, Qb 0, .slice none 0 0, .slice none 0 0, .slice none 0 0] 48 (fun b => (pt b 0)) fun a w b5 hs hw => ?_
    refine nx hD ((hw.vws [3, 1, 2, 4, 5]).anti hle1) fun hS => ?_
    refine QF [26] (QH ?_)
    refine QfM hs hw rfl 0 rfl 0 (v := .agg #[Qb 10, Qb y3, Qb (IntKind.i64.wrap ((IntKind.i64.wrap (100 + ((IntKind.i64.wrap (x4 + 1)).tmod x2))) + 1)), Qb y4.f0, Qe 0, Qe 0, Qe 0, Qe 0, Qe 0, Qe 0, Qb 0, Qk 0, Qb 0, Qb 0, Qb 0, Qe 0, Qb 0, Qb 0, Qe 0, .slice none 0 0, .bool false, Qb 0, .slice none 0 0, .slice none 0 0, .slice none 0 0]) fun a w hs hw => ?_
    refine nx hD ((hw.vws [3, 1, 2, 4, 5]).anti hle1) fun hS => ?_
    refine QhI ?_
    obtain rfl := someE hx1
    exact (hJ1 _ _).2 ⟨y3, y4.f0, b5, ih2, hk, hs.cst, hw.pk [3, 1, 4, 0, 2, 5], hle1⟩
   refine Qhy hs rfl hw [Qb 0, Qb 0, Qb 0, Qb 0, Qe 0, Qe 0, Qe 0, Qe 0, Qe 0, Qe 0, Qb 0, Qk 0, Qb 0, Qb 0, Qb 0, Qe 0, Qb 0, Qb 0, Qe 0, .slice none 0 0, .bool false, Qb 0, .slice none 0 0, .slice none 0 0, .slice none 0 0] 48 (fun b => (pt b 0)) fun a w b6 hs hw => ?_
   refine nx hD ((hw.vws [1, 2, 3, 4, 5]).anti (Le.refl _)) fun hS => ?_
   refine QF [22] (QH ?_)
   obtain ⟨y5, h12, hx1⟩ := bindE hx1
   refine QaR hs rfl (Qah (x2 := (x6)) h12 h1 h2 ((hw.pk [2, 3, 0, 1, 4, 5]).pack 2)) fun a w v hv hs => ?_
   obtain ⟨ih3, p7, c7, rfl, hw, hle2, h13⟩ := hv
   have hw := hw.unpack 2 rfl
   refine nx hD ((hw.vws [3, 0, 1, 4, 5]).anti hle2) fun hS => ?_
   refine Qp (fuel := 1) kS hs hS [23, 24] fun a hs hS => ?_
   refine QF [26] (QH ?_)
   refine QfM hs hw rfl 2 rfl 0 (v := .agg #[Qb 10, Qb y3, Qb (IntKind.i64.wrap ((IntKind.i64.wrap (100 + ((IntKind.i64.wrap (x4 + 1)).tmod x2))) + 1)), Qb y5.f0, Qe 0, Qe 0, Qe 0, Qe 0, Qe 0, Qe 0, Qb 0, Qk 0, Qb 0, Qb 0, Qb 0, Qe 0, Qb 0, Qb 0, Qe 0, .slice none 0 0, .bool false, Qb 0, .slice none 0 0, .slice none 0 0, .slice none 0 0]) fun a w hs hw => ?_
   refine nx hD ((hw.vws [3, 0, 1, 4, 5]).anti hle2) fun hS => ?_
   refine QhI ?_
   obtain rfl := someE hx1
   exact (hJ1 _ _).2 ⟨y3, y5.f0, b6, ih3, hk, hs.cst, hw.pk [3, 0, 4, 2, 1, 5], hle2⟩
  refine Qhy hs rfl hw [Qb 0, Qb 0, Qb 0, Qb 0, Qe 0, Qe 0, Qe 0, Qe 0, Qe 0, Qe 0, Qb 0, Qk 0, Qb 0, Qb 0, Qb 0, Qe 0, Qb 0, Qb 0, Qe 0, .slice none 0 0, .bool false, Qb 0, .slice none 0 0, .slice none 0 0, .slice none 0 0] 48 (fun b => (pt b 0)) fun a w b7 hs hw => ?_
  refine nx hD ((hw.vws [1, 2, 3, 4, 5]).anti (Le.refl _)) fun hS => ?_
  refine QF [1] (QH ?_)
  obtain ⟨y6, h14, hx1⟩ := bindE hx1
  refine QaR hs rfl (QD (x2 := x2) (x3 := x3) (x4 := IntKind.i64.wrap (x4 + 1)) (x5 := x5) (x6 := (x6)) (x7 := x7) (x8 := x8) (x9 := x9) (x10 := x10) (x11 := x11) (x12 := (pt b3 0)) (x13 := x17) (x14 := x18) (x15 := x19) (x16 := x20) h14 h1 h2 h3 rfl h5 ((hw.pk [1, 2, 3, 0, 4, 5]).pack 3)) fun a w v hv hs => ?_
  obtain ⟨rfl, hw⟩ := hv
  have hw := hw.unpack 3 rfl
  refine nx hD ((hw.vws [0, 1, 2, 4, 5]).anti (Le.refl _)) fun hS => ?_
  refine QF [22] (QH ?_)
  obtain ⟨y7, h15, hx1⟩ := bindE hx1
  refine QaR hs rfl (Qah (x2 := (x6)) h15 h1 h2 ((hw.pk [1, 2, 0, 3, 4, 5]).pack 2)) fun a w v hv hs => ?_
  obtain ⟨ih4, p8, c8, rfl, hw, hle3, h16⟩ := hv
  have hw := hw.unpack 2 rfl
  refine nx hD ((hw.vws [2, 0, 1, 4, 5]).anti hle3) fun hS => ?_
  refine Qp (fuel := 1) kS hs hS [23, 24] fun a hs hS => ?_
  refine QF [26] (QH ?_)
  refine QfM hs hw rfl 3 rfl 0 (v := .agg #[Qb 10, Qb y6, Qb (IntKind.i64.wrap ((IntKind.i64.wrap (100 + ((IntKind.i64.wrap (x4 + 1)).tmod x2))) + 1)), Qb y7.f0, Qe 0, Qe 0, Qe 0, Qe 0, Qe 0, Qe 0, Qb 0, Qk 0, Qb 0, Qb 0, Qb 0, Qe 0, Qb 0, Qb 0, Qe 0, .slice none 0 0, .bool false, Qb 0, .slice none 0 0, .slice none 0 0, .slice none 0 0]) fun a w hs hw => ?_
  refine nx hD ((hw.vws [2, 0, 1, 4, 5]).anti hle3) fun hS => ?_
  refine QhI ?_
  obtain rfl := someE hx1
  exact (hJ1 _ _).2 ⟨y6, y7.f0, b7, ih4, hk, hs.cst, hw.pk [2, 0, 4, 3, 1, 5], hle3⟩
 intro a w hh
 obtain ⟨x21, x22, b4, ih1, hk, hs, hw, hle4⟩ := (hJ1 _ _).1 hh
 refine Qd ?_
 obtain ⟨S, hD, kS⟩ := mkSXw hw [[], [], [], [], [], []] (K := []) rfl
 obtain ⟨y8, hx2, hk⟩ := bindE hk
 obtain ⟨J2, hJ2⟩ := mkJ fun a w => ∃ (x23 : List M48) (p9 : Option Addr) (c9 : Nat) (d3 : Ch) (ih5 : IH), Qcc x4 x23 = some r ∧ Sees a 46 [(2, .slice p9 x23.length c9)] ∧ St g w [k42 b1 x1 x2 x3 (IntKind.i64.wrap (x4 + 1)) b2 x7 x8 x9 p2 x10 c2 x11 b3 x17 x18 x19 p4 x20 c4, bx b2 [.slice p1 x5.length c1, x6] 113, k46 b3 x12 x13 x14 x15 p3 x16 c3, d3, d1, F] ih5 ∧ Le ih1 ih5 ∧ OSl e48 ih5 p9 c9 x23 d3
 refine Qo (by kernel_rfl) (N := 6) rfl S J2 ?_ ?_
 ·have hw := hw.drew
  have hS : S (bA 6 0) _ := SXn hD (hw.vws [0, 1, 2, 3, 4, 5])
  refine Qp (fuel := 5) kS hs hS [0] fun a hs hS => ?_
  refine Qy kS hs hS 2 rfl (SXb hD 3 rfl) 0 fun a hs hS => ?_
  refine QF [1, 3] (QkI ?_ (QH ?_))
  ·obtain ⟨y9, h17, hx2⟩ := bindE hx2
   refine QaR hs rfl (Qa2 (x2 := x2) (x4 := IntKind.i64.wrap (x4 + 1)) (x6 := (x6)) (x12 := (pt b3 0)) (x13 := x17) (x14 := x18) (x15 := x19) (x16 := x20) h17 (h1.mono hle4) h2 (h3.mono hle4) rfl (h5.mono hle4) (hG.mono hle4) ((hw.pk [0, 1, 4, 2, 3, 5]).pack 3)) fun a w v hv hs => ?_
   obtain ⟨ih6, p10, c10, d4, rfl, hw, hle5, h18⟩ := hv
   have hw := hw.unpack 4 rfl
   refine nx hD ((hw.vws [1, 2, 4, 5, 3, 6]).anti hle5) fun hS => ?_
   refine QF [3] (QH ?_)
   refine Qhy hs rfl hw [Qb 10, Qb x21, Qb (IntKind.i64.wrap ((IntKind.i64.wrap (100 + ((IntKind.i64.wrap (x4 + 1)).tmod x2))) + 1)), Qb x22, Qe 0, Qe 0, Qe 0, Qe 0, Qe 0, Qe 0, Qb 0, Qk 0, Qb 0, Qb 0, Qb 0, Qe 0, Qb 0, Qb 0, Qe 0, .slice none 0 0, .bool false, Qb 0, .slice none 0 0, .slice none 0 0, .slice none 0 0] 48 (fun b => .slice (some ⟨b, 0, none⟩) 1 1) fun a w b8 hs hw => ?_
   refine nx hD ((hw.vws [2, 3, 5, 6, 4, 7]).anti hle5) fun hS => ?_
   refine QF [4] (QH ?_)
   obtain ⟨x24, h19, hx2⟩ := bindE hx2
   refine QjH hs rfl hw (E := e48) Qlx 1 rfl h18 (by kernel_rfl) (by kernel_rfl) (c2 := 1) (by kernel_rfl) (hw.at_ 0 rfl) (z := (M48.mk 10 x21 (IntKind.i64.wrap ((IntKind.i64.wrap (100 + ((IntKind.i64.wrap (x4 + 1)).tmod x2))) + 1)) x22 0 0 0 0 0 0 0 0 0 (M41.mk 0 0 0 0) (M44.mk 0 0 ([]) false 0) ([]) ([]) ([]))) ⟨none, 0, none, 0, none, 0, none, 0, rfl, (RSl.nil _ _ _), (RSl.nil _ _ _), (RSl.nil _ _ _), (RSl.nil _ _ _)⟩ h19 fun a w p11 c11 d5 h20 hw hs => ?_
   refine nx hD ((hw.vws [2, 3, 5, 6, 4, 7]).anti hle5) fun hS => ?_
   refine Qu kS hs hS fun a hs => ?_
   obtain rfl := someE hx2
   exact (hJ2 _ _).2 ⟨x24, p11, c11, d5, ih6, hk, hs.cst, hw.pk [2, 3, 5, 1, 4, 7], hle5, h20⟩
  refine Qhy hs rfl hw [Qb 10, Qb x21, Qb (IntKind.i64.wrap ((IntKind.i64.wrap (100 + ((IntKind.i64.wrap (x4 + 1)).tmod x2))) + 1)), Qb x22, Qe 0, Qe 0, Qe 0, Qe 0, Qe 0, Qe 0, Qb 0, Qk 0, Qb 0, Qb 0, Qb 0, Qe 0, Qb 0, Qb 0, Qe 0, .slice none 0 0, .bool false, Qb 0, .slice none 0 0, .slice none 0 0, .slice none 0 0] 48 (fun b => .slice (some ⟨b, 0, none⟩) 1 1) fun a w b9 hs hw => ?_
  refine nx hD ((hw.vws [1, 2, 3, 4, 5, 6]).anti (Le.refl _)) fun hS => ?_
  refine QF [1] (QH ?_)
  obtain ⟨y10, h21, hx2⟩ := bindE hx2
  refine QaR hs rfl (Qa2 (x2 := x2) (x4 := IntKind.i64.wrap (x4 + 1)) (x6 := (x6)) (x12 := (pt b3 0)) (x13 := x17) (x14 := x18) (x15 := x19) (x16 := x20) h21 (h1.mono hle4) h2 (h3.mono hle4) rfl (h5.mono hle4) (hG.mono hle4) ((hw.pk [1, 2, 5, 0, 3, 4, 6]).pack 3)) fun a w v hv hs => ?_
  obtain ⟨ih7, p12, c12, d6, rfl, hw, hle6, h22⟩ := hv
  have hw := hw.unpack 4 rfl
  refine nx hD ((hw.vws [1, 2, 5, 6, 3, 7]).anti hle6) fun hS => ?_
  refine QF [4] (QH ?_)
  obtain ⟨x25, h23, hx2⟩ := bindE hx2
  refine QjH hs rfl hw (E := e48) Qlx 0 rfl h22 (by kernel_rfl) (by kernel_rfl) (c2 := 1) (by kernel_rfl) (hw.at_ 4 rfl) (z := (M48.mk 10 x21 (IntKind.i64.wrap ((IntKind.i64.wrap (100 + ((IntKind.i64.wrap (x4 + 1)).tmod x2))) + 1)) x22 0 0 0 0 0 0 0 0 0 (M41.mk 0 0 0 0) (M44.mk 0 0 ([]) false 0) ([]) ([]) ([]))) ⟨none, 0, none, 0, none, 0, none, 0, rfl, (RSl.nil _ _ _), (RSl.nil _ _ _), (RSl.nil _ _ _), (RSl.nil _ _ _)⟩ h23 fun a w p13 c13 d7 h24 hw hs => ?_
  refine nx hD ((hw.vws [1, 2, 5, 6, 3, 7]).anti hle6) fun hS => ?_
  refine Qu kS hs hS fun a hs => ?_
  obtain rfl := someE hx2
  exact (hJ2 _ _).2 ⟨x25, p13, c13, d7, ih7, hk, hs.cst, hw.pk [1, 2, 5, 0, 3, 7], hle6, h24⟩
 intro a w hh
 obtain ⟨x23, p9, c9, d3, ih5, hk, hs, hw, hle7, h25⟩ := (hJ2 _ _).1 hh
 refine Qi ?_
 obtain rfl := someE hk
 exact qr1 hQ hs ⟨ih5, p9, c9, d3, rfl, hw.pk [3, 0, 1, 4, 2, 5], (hle4.trans hle7), h25⟩
def QaS (x1 : Int) : Option Int :=
 some x1
theorem Qdu {x1 x2 x3 x4 : Int} {x5 : List M44} {x6 : Value} {x7 x8 x9 : Int} {x10 : List Int} {x11 : Int} {x12 : Value} {x13 x14 x15 : Int} {x16 : List Int} {d1 : Ch} {b1 b2 c1 c2 c3 : Nat} {p1 p2 p3 : Option Addr} {r : Int} (hk : QaS x3 = some r) {g w : World} {F : Ch} {ih : IH} (h1 : OSl e44 ih p1 c1 x5 d1) (h2 : x6.oneCell' = true) (h3 : RSl e5 ih [] p2 c2 x10) (h4 : x12.oneCell' = true) (h5 : RSl e5 ih [] p3 c3 x16) (hw : St g w [k6 b1 x1 x2 x3 x4 b2 x7 x8 x9 p2 x10 c2 x11 x12 x13 x14 x15 p3 x16 c3, bx b2 [.slice p1 x5.length c1, x6] 113, d1, F] ih) :
  CallsR Tryz.prog 11 #[(pt b1 0)] w fun v w' => v = Qe r ∧ St g w' [bx b1 [Qb x1, Qb x2, Qe x3, Qb x4, (pt b2 0), Qb x7, Qk x8, Qe x9, .slice p2 x10.length c2, Qb x11, x12, Qe x13, Qb x14, Qe x15, .slice p3 x16.length c3] 85, bx b2 [.slice p1 x5.length c1, x6] 113, d1, F] ih := by
 refine f_i Tryz.func11 rfl 9 rfl fun a Qf hQ hQn hs => ?_
 refine Qd (Qa (pn hs 1 [(0, (pt b1 0))] fun a hs => ?_))
 refine Qc (Qd (Qd (Qa (pn hs 2 [(0, (pt b1 0)), (4, .bool false)] fun a hs => ?_))))
 refine Qc (QhJ hs (Qg (Qd (Qa (pu hs 3 fun a hs => ?_)))))
 refine Qj hs (hw.at_ 0 rfl) 2 fun a hs => pn hs 1 [(2, Qe x3)] fun a hs => Qc (Qi ?_)
 obtain rfl := someE hk
 exact qr1 hQ hs ⟨rfl, hw.pk [0, 1, 2, 3]⟩
def Qd3 : Option Bool :=
 some false
def Qd2 (x1 : Bool) : Option Bool :=
 some x1
def QX (k : Nat) : Option Bool :=
 (Qfa k 1 2).bind fun y1 =>
 (Qg0 k 3 1 y1.1).bind fun
  | .inl y2 =>
   (Qfc).bind fun y3 =>
   (Qfm).bind fun y4 =>
   some false
  | .inr y5 =>
   (Qbj k y5.1 0 y5.2.2.1 0 0 0 y5.2.2.2.2.2.1 0 (M26.mk 2 5 0 ([]) 0)).bind fun
    | .inl y6 =>
     (Qbv 0).bind fun y7 =>
     (if (y6.2.1 == 0) = true then (
       if ((y6.1.length : Int) == 1) = true then (
        (ix y6.1 0).bind fun x1 =>
        if (x1.f2 == 1) = true then (
         (ix y6.1 0).bind fun x2 =>
         if (x2.f1 == 203) = true then (
          if ((y7.1.length : Int) == 2) = true then some ()
          else some ())
         else some ())
        else some ())
       else some ())
      else some () : Option Unit).bind fun _ => Qd3
    | .inr y8 =>
     (QaL k y5.1 y5.2.1 y8.2.2.1 0 y5.2.2.1 y8.2.2.2.1 y8.2.2.2.2.1 y8.2.2.2.2.2.1 y8.2.2.2.2.2.2.1 y8.2.2.2.2.2.2.2 0 0 0 y8.2.1).bind fun y9 =>
     (if ((y8.1.length : Int) == 1) = true then (
       (ix y8.1 0).bind fun x3 =>
       if (x3.f2 == 1) = true then (
        (ix y8.1 0).bind fun x4 =>
        if (x4.f1 == 203) = true then (
         if ((y9.1.length : Int) == 2) = true then (
          (Qw 0 0 0 y8.2.1).bind fun y10 =>
          if y10 = true then (
           (QaS y8.2.2.1).bind fun y11 =>
           some (y11 == 1))
          else some false)
         else some false)
        else some false)
       else some false)
      else some false : Option Bool).bind fun s1 => Qd2 s1
theorem Qaa {k : Nat} {r : Bool} (hk : QX k = some r) {g w : World} {F : Ch} {ih : IH} (hG : Glob 0 gl0 162 ih) (hw : St g w [F] ih) :
  CallsR Tryz.prog 8 #[] w fun v w' => ∃ (ih' : IH), v = .bool r ∧ St g w' [F] ih' ∧ Le ih ih' := by
 refine f_i Tryz.func8 rfl 64 rfl fun a Qf hQ hQn hs => ?_
 refine Qd (Qa (pn hs 1 [] fun a hs => ?_))
 refine Qc (Qd (Qa ?_))
 obtain ⟨y1, h1, hk⟩ := bindE hk
 refine Qv hs (QgT h1 ((hw.pk [0]).pack 0)) fun a w v hv hs => ?_
 obtain ⟨ih1, p1, c1, d1, rfl, hw, hle1, h2⟩ := hv
 have hw := hw.unpack 1 rfl
 refine pn hs 5 [(1, .slice p1 y1.1.length c1)] fun a hs => Qc (Qd (Qa (pu hs 1 fun a hs => ?_)))
 obtain ⟨y2, h3, hk⟩ := bindE hk
 refine Qv hs (QhR h3 h2.read (memF 0 rfl) ((hw.pk [0, 1]).pack 0)) fun a w v hv hs => ?_
 rcases hv with ⟨y3, rfl, ⟨ih2, rfl, hw, hle2⟩⟩ | ⟨y4, rfl, ⟨ih3, b1, b2, p2, c2, d2, b3, b4, p3, c3, d3, p4, c4, d4, p5, c5, d5, rfl, hw, hle3, h4, h5, h6, h7⟩⟩
 ·try dsimp only at hk
  have hw := hw.unpack 0 rfl
  refine pn hs 5 [(3, .pointer none), (4, Qb 1)] fun a hs => ?_
  have hw := hw.cL [d1, F]
  refine Qc (Qd (Qa (pu hs 2 fun a hs => ?_)))
  obtain ⟨y5, h8, hk⟩ := bindE hk
  refine Qv hs (QgU (x1 := (M26.mk 2 5 0 ([]) 0)) h8 (RSl.nil _ _ _) ((hw.pk [1]).pack 0)) fun a w v hv hs => ?_
  obtain ⟨p6, c6, d6, rfl, hw, h9⟩ := hv
  have hw := hw.unpack 1 rfl
  refine pn hs 5 [(3, .pointer none), (4, Qb 1), (5, .slice p6 y5.length c6), (6, Qb 2)] fun a hs => Qc (Qd (Qa (pu hs 1 fun a hs => ?_)))
  obtain ⟨y6, h10, hk⟩ := bindE hk
  refine Qv hs (Qg6 h10 ((hw.pk [0, 1]).pack 0)) fun a w v hv hs => ?_
  obtain ⟨p7, c7, d7, rfl, hw, h11⟩ := hv
  have hw := hw.unpack 1 rfl
  refine pn hs 1 [(3, .pointer none), (4, Qb 1), (5, .slice p6 y5.length c6), (6, Qb 2), (7, .slice p7 y6.length c7)] fun a hs => ?_
  have hw := hw.cL [d7, d6, F]
  refine Qc (Qd (Qa (pn hs 40 [(0, .bool false)] fun a hs => ?_)))
  refine Qc (Qi ?_)
  obtain rfl := someE hk
  exact qr1 hQ hs ⟨ih2, rfl, hw.pk [2], (hle1.trans hle2)⟩
 try dsimp only at hk
 have hw := hw.unpack 8 rfl
 refine pn hs 5 [(3, (pt b1 0)), (4, Qb 0)] fun a hs => ?_
 have hw := hw.cL [k5 b1 y4.1 y4.2.1 b2 p4 y4.2.2.2.2.2.1 c4 p5 y4.2.2.2.2.2.2 c5, bx b2 [.slice p2 y4.2.2.1.length c2, (pt b3 0)] 113, d2, k4 b3 b4 p3 y4.2.2.2.2.1 c3, bx b4 [Qb y4.2.2.2.1] 3, d3, d4, d5, d1, F]
 refine Qc (Qd (Qa (pu hs 2 fun a hs => ?_)))
 obtain ⟨ih4, hle4, hw, h12⟩ := (hw.pk [6, 0, 1, 2, 3, 4, 5, 7, 8, 9]).fz (h6.mono (Le.refl _))
 obtain ⟨ih5, hle5, hw, h13⟩ := (hw.pk [6, 0, 1, 2, 3, 4, 5, 7, 8]).fz (h7.mono hle4)
 obtain ⟨y7, h14, hk⟩ := bindE hk
 refine Qv hs (QdR (x2 := y4.2.1) (x4 := 0) (x6 := (pt b3 0)) (x12 := 0) (x13 := 0) (x14 := 0) (x15 := y4.2.2.2.2.2.2) h14 (h4.mono (hle4.trans hle5)) rfl (h12.mono hle5) h13 (RSl.nil _ _ _) (hG.mono (((hle1.trans hle3).trans hle4).trans hle5)) ((hw.pk [0, 1, 2, 3, 4, 5, 7]).pack 3)) fun a w v hv hs => ?_
 rcases hv with ⟨y8, rfl, ⟨ih6, p8, c8, d8, p9, c9, rfl, hw, hle6, h15, h16⟩⟩ | ⟨y9, rfl, ⟨ih7, p10, c10, d9, b5, p11, c11, p12, c12, rfl, hw, hle7, h17, h18, h19⟩⟩
 ·try dsimp only at hk
  have hw := hw.unpack 4 rfl
  refine pn hs 5 [(3, (pt b1 0)), (4, Qb 0), (5, .slice p8 y8.1.length c8), (6, Qb y8.2.1)] fun a hs => ?_
  have hw := hw.cL [d8, k43 b1 y4.1 y4.2.1 y8.2.2.1 b2 y8.2.2.2.1 y8.2.2.2.2.1 y8.2.2.2.2.2.1 p9 y8.2.2.2.2.2.2.1 c9 y8.2.2.2.2.2.2.2 p5 y4.2.2.2.2.2.2 c5, bx b2 [.slice p2 y4.2.2.1.length c2, (pt b3 0)] 113, d2, k4 b3 b4 p3 y4.2.2.2.2.1 c3, bx b4 [Qb y4.2.2.2.1] 3, d3, F]
  refine Qc (Qd (Qa (pu hs 1 fun a hs => ?_)))
  obtain ⟨y10, h20, hk⟩ := bindE hk
  refine Qv hs (Qd6 (x1 := y4.1) (x2 := y4.2.1) (x3 := y8.2.2.1) (x5 := y4.2.2.1) (x6 := (pt b3 0)) (x7 := y8.2.2.2.1) (x8 := y8.2.2.2.2.1) (x9 := y8.2.2.2.2.2.1) (x10 := y8.2.2.2.2.2.2.1) (x11 := y8.2.2.2.2.2.2.2) (x12 := 0) (x13 := 0) (x14 := 0) (x15 := y4.2.2.2.2.2.2) h20 (h4.mono ((hle4.trans hle5).trans hle6)) rfl h16 (h13.mono hle6) ((hw.pk [1, 2, 3, 0, 4, 5, 6, 7]).pack 3)) fun a w v hv hs => ?_
  obtain ⟨p13, c13, d10, rfl, hw, h21⟩ := hv
  have hw := hw.unpack 4 rfl
  refine pn hs 1 [(3, (pt b1 0)), (4, Qb 0), (5, .slice p8 y8.1.length c8), (6, Qb y8.2.1), (7, .slice p13 y10.1.length c13)] fun a hs => Qc (Qd ?_)
  obtain ⟨y11, hx1, hk⟩ := bindE hk
  obtain ⟨J1, hJ1⟩ := mkJ fun a w => Qd3 = some r ∧ Sees a 64 [(0, .bool false)] ∧ St g w [F] ih6
  refine Qn J1 ?_ ?_
  ·refine pu hs 7 fun a hs => ?_
   rcases ifbE hx1 with ⟨h22, hx1⟩ | ⟨h22, hx1⟩
   ·have hs := hs.aB 31 h22
    refine pu hs 5 fun a hs => ?_
    rcases ifbE hx1 with ⟨h23, hx1⟩ | ⟨h23, hx1⟩
    ·have hs := hs.aB 36 h23
     refine pu hs 1 fun a hs => ?_
     obtain ⟨x1, h24, hx1⟩ := bindE hx1
     refine QeI hs h15 (by kernel_rfl) (by kernel_rfl) (k := .i64) (by kernel_rfl) 48 (by kernel_rfl) (by kernel_rfl) h24 fun a r941 cs henc at942 h25 hs => ?_
     obtain ⟨p14, c14, p15, c15, p16, c16, p17, c17, rfl, h26, h27, h28, h29⟩ := henc
     refine pu hs 1 fun a hs => Qj hs (at942 _ ((hw.vw 4 rfl).anti (Le.refl _))) 2 fun a hs => pn hs 3 [(3, (pt b1 0)), (5, .slice p8 y8.1.length c8), (7, .slice p13 y10.1.length c13), (43, .bool (x1.f2 == 1))] fun a hs => ?_
     rcases ifbE hx1 with ⟨h30, hx1⟩ | ⟨h30, hx1⟩
     ·have hs := hs.aB 43 h30
      refine pu hs 1 fun a hs => ?_
      obtain ⟨x2, h31, hx1⟩ := bindE hx1
      refine QeI hs h15 (by kernel_rfl) (by kernel_rfl) (k := .i64) (by kernel_rfl) 48 (by kernel_rfl) (by kernel_rfl) h31 fun a r959 cs henc at960 h32 hs => ?_
      obtain ⟨p18, c18, p19, c19, p20, c20, p21, c21, rfl, h33, h34, h35, h36⟩ := henc
      refine pu hs 1 fun a hs => Qj hs (at960 _ ((hw.vw 4 rfl).anti (Le.refl _))) 1 fun a hs => pu hs 3 fun a hs => ?_
      rcases ifbE hx1 with ⟨h37, hx1⟩ | ⟨h37, hx1⟩
      ·have hs := hs.aB 50 h37
       refine pu hs 5 fun a hs => ?_
       rcases ifbE hx1 with ⟨h38, hx1⟩ | ⟨h38, hx1⟩
       ·have hs := hs.aB 55 h38
        refine pn hs 1 [(3, (pt b1 0)), (55, .bool true), (56, (pt b1 0))] fun a hs => ?_
        have h39 : Q2 = some () := rfl
        refine Qv hs (Q6 (x1 := y4.1) (x2 := y4.2.1) (x3 := y8.2.2.1) (x4 := y10.2) (x5 := y4.2.2.1) (x6 := (pt b3 0)) (x7 := y8.2.2.2.1) (x8 := y8.2.2.2.2.1) (x9 := y8.2.2.2.2.2.1) (x10 := y8.2.2.2.2.2.2.1) (x11 := y8.2.2.2.2.2.2.2) (x12 := 0) (x13 := 0) (x14 := 0) (x15 := y4.2.2.2.2.2.2) h39 (h4.mono ((hle4.trans hle5).trans hle6)) rfl h16 (h13.mono hle6) ((hw.pk [1, 2, 3, 5, 6, 7, 8]).pack 3)) fun a w v hv hs => ?_
        obtain ⟨rfl, hw⟩ := hv
        have hw := hw.unpack 3 rfl
        refine pu hs 7 fun a hs => ?_
        have hw := hw.cL [k45 b1 y4.1 y4.2.1 y8.2.2.1 y10.2 b2 y8.2.2.2.1 y8.2.2.2.2.1 y8.2.2.2.2.2.1 p9 y8.2.2.2.2.2.2.1 c9 y8.2.2.2.2.2.2.2 p5 y4.2.2.2.2.2.2 c5, bx b2 [.slice p2 y4.2.2.1.length c2, (pt b3 0)] 113, d2, k4 b3 b4 p3 y4.2.2.2.2.1 c3, bx b4 [Qb y4.2.2.2.1] 3, d3, F]
        refine Qc ?_
        obtain rfl := someE hx1
        exact (hJ1 _ _).2 ⟨hk, hs.cst, hw.pk [6]⟩
       have hs := hs.aB 55 h38
       refine pn hs 9 [(0, .bool false)] fun a hs => Qc ?_
       obtain rfl := someE hx1
       exact (hJ1 _ _).2 ⟨hk, hs.cst, hw.pk [8]⟩
      have hs := hs.aB 50 h37
      refine pu hs 14 fun a hs => Qc ?_
      obtain rfl := someE hx1
      exact (hJ1 _ _).2 ⟨hk, hs.cst, hw.pk [8]⟩
     have hs := hs.aB 43 h30
     refine pu hs 21 fun a hs => Qc ?_
     obtain rfl := someE hx1
     exact (hJ1 _ _).2 ⟨hk, hs.cst, hw.pk [8]⟩
    have hs := hs.aB 36 h23
    refine pu hs 28 fun a hs => Qc ?_
    obtain rfl := someE hx1
    exact (hJ1 _ _).2 ⟨hk, hs.cst, hw.pk [8]⟩
   have hs := hs.aB 31 h22
   refine pu hs 33 fun a hs => Qc ?_
   obtain rfl := someE hx1
   exact (hJ1 _ _).2 ⟨hk, hs.cst, hw.pk [8]⟩
  intro a w hh
  obtain ⟨hk, hs, hw⟩ := (hJ1 _ _).1 hh
  refine Qi ?_
  obtain rfl := someE hk
  exact qr1 hQ hs ⟨ih6, rfl, hw.pk [0], ((((hle1.trans hle3).trans hle4).trans hle5).trans hle6)⟩
 try dsimp only at hk
 have hw := hw.unpack 5 rfl
 refine pn hs 5 [(3, (pt b1 0)), (4, Qb 0), (5, .slice p10 y9.1.length c10), (6, Qb 0)] fun a hs => ?_
 have hw := hw.cL [d9, k38 b5 p11 y9.2.1 c11, k44 b1 y4.1 y4.2.1 y9.2.2.1 b2 y9.2.2.2.1 y9.2.2.2.2.1 y9.2.2.2.2.2.1 p12 y9.2.2.2.2.2.2.1 c12 y9.2.2.2.2.2.2.2 b5 p5 y4.2.2.2.2.2.2 c5, bx b2 [.slice p2 y4.2.2.1.length c2, (pt b3 0)] 113, d2, k4 b3 b4 p3 y4.2.2.2.2.1 c3, bx b4 [Qb y4.2.2.2.1] 3, d3, F]
 refine Qc (Qd (Qa (pu hs 1 fun a hs => ?_)))
 obtain ⟨y12, h40, hk⟩ := bindE hk
 refine Qv hs (Qd5 (x6 := (pt b3 0)) (x12 := 0) (x17 := 0) (x18 := 0) (x19 := 0) (x20 := y4.2.2.2.2.2.2) h40 (h4.mono ((hle4.trans hle5).trans hle7)) rfl h19 h18 (h13.mono hle7) (hG.mono ((((hle1.trans hle3).trans hle4).trans hle5).trans hle7)) ((hw.pk [2, 3, 4, 1, 0, 5, 6, 7, 8]).pack 4)) fun a w v hv hs => ?_
 obtain ⟨ih8, p22, c22, d11, rfl, hw, hle8, h41⟩ := hv
 have hw := hw.unpack 5 rfl
 refine pn hs 1 [(3, (pt b1 0)), (4, Qb 0), (5, .slice p10 y9.1.length c10), (6, Qb 0), (7, .slice p22 y12.1.length c22)] fun a hs => Qc (Qd ?_)
 obtain ⟨y13, hx2, hk⟩ := bindE hk
 obtain ⟨J2, hJ2⟩ := mkJ fun a w => ∃ (x3 : Bool), Qd2 x3 = some r ∧ Sees a 64 [(0, .bool x3)] ∧ St g w [F] ih8
 refine Qn J2 ?_ ?_
 ·refine pu hs 12 fun a hs => ?_
  rcases ifbE hx2 with ⟨h42, hx2⟩ | ⟨h42, hx2⟩
  ·have hs := hs.aB 36 h42
   refine pu hs 1 fun a hs => ?_
   obtain ⟨x4, h43, hx2⟩ := bindE hx2
   refine QeI hs h17 (by kernel_rfl) (by kernel_rfl) (k := .i64) (by kernel_rfl) 48 (by kernel_rfl) (by kernel_rfl) h43 fun a r1106 cs henc at1107 h44 hs => ?_
   obtain ⟨p23, c23, p24, c24, p25, c25, p26, c26, rfl, h45, h46, h47, h48⟩ := henc
   refine pu hs 1 fun a hs => Qj hs (at1107 _ ((hw.vw 5 rfl).anti hle8)) 2 fun a hs => pu hs 3 fun a hs => ?_
   rcases ifbE hx2 with ⟨h49, hx2⟩ | ⟨h49, hx2⟩
   ·have hs := hs.aB 43 h49
    refine pn hs 1 [(3, (pt b1 0)), (7, .slice p22 y12.1.length c22), (43, .bool true), (44, .slice p10 y9.1.length c10)] fun a hs => ?_
    obtain ⟨x5, h50, hx2⟩ := bindE hx2
    refine QeI hs h17 (by kernel_rfl) (by kernel_rfl) (k := .i64) (by kernel_rfl) 48 (by kernel_rfl) (by kernel_rfl) h50 fun a r1124 cs henc at1125 h51 hs => ?_
    obtain ⟨p27, c27, p28, c28, p29, c29, p30, c30, rfl, h52, h53, h54, h55⟩ := henc
    refine pu hs 1 fun a hs => Qj hs (at1125 _ ((hw.vw 5 rfl).anti hle8)) 1 fun a hs => pu hs 3 fun a hs => ?_
    rcases ifbE hx2 with ⟨h56, hx2⟩ | ⟨h56, hx2⟩
    ·have hs := hs.aB 50 h56
     refine pu hs 5 fun a hs => ?_
     rcases ifbE hx2 with ⟨h57, hx2⟩ | ⟨h57, hx2⟩
     ·have hs := hs.aB 55 h57
      refine pu hs 1 fun a hs => ?_
      obtain ⟨y14, h58, hx2⟩ := bindE hx2
      refine Qv hs (Q5 (x1 := y4.1) (x2 := y4.2.1) (x3 := y9.2.2.1) (x4 := y12.2) (x5 := y4.2.2.1) (x6 := (pt b3 0)) (x7 := y9.2.2.2.1) (x8 := y9.2.2.2.2.1) (x9 := y9.2.2.2.2.2.1) (x10 := y9.2.2.2.2.2.2.1) (x11 := y9.2.2.2.2.2.2.2) (x12 := 0) (x17 := 0) (x18 := 0) (x19 := 0) (x20 := y4.2.2.2.2.2.2) h58 (h4.mono (((hle4.trans hle5).trans hle7).trans hle8)) rfl (h19.mono hle8) (h18.mono hle8) (h13.mono (hle7.trans hle8)) ((hw.pk [1, 2, 3, 4, 6, 7, 8, 9]).pack 4)) fun a w v hv hs => ?_
      obtain ⟨rfl, hw⟩ := hv
      have hw := hw.unpack 4 rfl
      refine pn hs 2 [(3, (pt b1 0)), (59, .bool y14)] fun a hs => ?_
      rcases ifbE hx2 with ⟨h59, hx2⟩ | ⟨h59, hx2⟩
      ·have hs := hs.aB 59 h59
       have hw := hw.cL [k50 b1 y4.1 y4.2.1 y9.2.2.1 y12.2 b2 y9.2.2.2.1 y9.2.2.2.2.1 y9.2.2.2.2.2.1 p12 y9.2.2.2.2.2.2.1 c12 y9.2.2.2.2.2.2.2 b5 p5 y4.2.2.2.2.2.2 c5, bx b2 [.slice p2 y4.2.2.1.length c2, (pt b3 0)] 113, d2, k38 b5 p11 y9.2.1 c11, k4 b3 b4 p3 y4.2.2.2.2.1 c3, bx b4 [Qb y4.2.2.2.1] 3, d3, F]
       refine pu hs 1 fun a hs => ?_
       obtain ⟨y15, h60, hx2⟩ := bindE hx2
       refine Qv hs (Qdu (x1 := y4.1) (x2 := y4.2.1) (x4 := y12.2) (x5 := y4.2.2.1) (x6 := (pt b3 0)) (x7 := y9.2.2.2.1) (x8 := y9.2.2.2.2.1) (x9 := y9.2.2.2.2.2.1) (x10 := y9.2.2.2.2.2.2.1) (x11 := y9.2.2.2.2.2.2.2) (x12 := (pt b5 0)) (x13 := 0) (x14 := 0) (x15 := 0) (x16 := y4.2.2.2.2.2.2) h60 (h4.mono (((hle4.trans hle5).trans hle7).trans hle8)) rfl (h19.mono hle8) rfl (h13.mono (hle7.trans hle8)) ((hw.pk [0, 1, 2, 3, 4, 5, 6, 7]).pack 3)) fun a w v hv hs => ?_
       obtain ⟨rfl, hw⟩ := hv
       have hw := hw.unpack 3 rfl
       refine pu hs 3 fun a hs => Qc ?_
       obtain rfl := someE hx2
       exact (hJ2 _ _).2 ⟨(y15 == 1), hk, hs.cst, hw.pk [7]⟩
      have hs := hs.aB 59 h59
      refine pu hs 5 fun a hs => ?_
      have hw := hw.cL [k50 b1 y4.1 y4.2.1 y9.2.2.1 y12.2 b2 y9.2.2.2.1 y9.2.2.2.2.1 y9.2.2.2.2.2.1 p12 y9.2.2.2.2.2.2.1 c12 y9.2.2.2.2.2.2.2 b5 p5 y4.2.2.2.2.2.2 c5, bx b2 [.slice p2 y4.2.2.1.length c2, (pt b3 0)] 113, d2, k38 b5 p11 y9.2.1 c11, k4 b3 b4 p3 y4.2.2.2.2.1 c3, bx b4 [Qb y4.2.2.2.1] 3, d3, F]
      refine Qc ?_
      obtain rfl := someE hx2
      exact (hJ2 _ _).2 ⟨false, hk, hs.cst, hw.pk [7]⟩
     have hs := hs.aB 55 h57
     refine pu hs 9 fun a hs => Qc ?_
     obtain rfl := someE hx2
     exact (hJ2 _ _).2 ⟨false, hk, hs.cst, hw.pk [9]⟩
    have hs := hs.aB 50 h56
    refine pu hs 14 fun a hs => Qc ?_
    obtain rfl := someE hx2
    exact (hJ2 _ _).2 ⟨false, hk, hs.cst, hw.pk [9]⟩
   have hs := hs.aB 43 h49
   refine pn hs 21 [(0, .bool false)] fun a hs => Qc ?_
   obtain rfl := someE hx2
   exact (hJ2 _ _).2 ⟨false, hk, hs.cst, hw.pk [9]⟩
  have hs := hs.aB 36 h42
  refine pu hs 28 fun a hs => Qc ?_
  obtain rfl := someE hx2
  exact (hJ2 _ _).2 ⟨false, hk, hs.cst, hw.pk [9]⟩
 intro a w hh
 obtain ⟨x3, hk, hs, hw⟩ := (hJ2 _ _).1 hh
 refine Qi ?_
 obtain rfl := someE hk
 exact qr1 hQ hs ⟨ih8, rfl, hw.pk [0], (((((hle1.trans hle3).trans hle4).trans hle5).trans hle7).trans hle8)⟩
def Qb3 (x1 : List Int) : Option (List Int) :=
 some x1
def QaK (x1 : M44) : Option (List Int) :=
 (app ([]) x1.f2).bind fun x2 =>
 (if (x1.f4 != 0) = true then (
   (app x2 [x1.f4]).bind fun x3 =>
   some x3)
  else some x2 : Option (List Int)).bind fun s1 => Qb3 s1
theorem QdY {x1 : M44} {c1 : Nat} {p1 : Option Addr} {r : (List Int)} (hk : QaK x1 = some r) {g w : World} {F : Ch} {ih : IH} (h1 : RSl e3 ih [] p1 c1 x1.f2) (hw : St g w [F] ih) :
  CallsR Tryz.prog 66 #[A44 x1 p1 c1] w fun v w' => ∃ (p2 : Option Addr) (c2 : Nat) (d1 : Ch), v = .slice p2 r.length c2 ∧ St g w' [d1, F] ih ∧ OSl e3 ih p2 c2 r d1 := by
 refine f_i Tryz.func66 rfl 16 rfl fun a Qf hQ hQn hs => ?_
 refine Qd (Qa (QC hs hw [Qb x1.f0, Qe x1.f1, .slice p1 x1.f2.length c1, .bool x1.f3, Qb x1.f4] 44 (fun b => (pt b 0)) (by kernel_rfl) (fun _ => by kernel_rfl) fun a w b1 hs hw => ?_))
 refine pn hs 1 [(1, (pt b1 0))] fun a hs => Qc (Qd (Qa (pu hs 1 fun a hs => ?_)))
 refine Qj hs (hw.at_ 0 rfl) 2 fun a hs => ?_
 have hw := hw.nil
 obtain ⟨x2, h2, hk⟩ := bindE hk
 refine Qi1 hs hw (E := e3) QhS 0 rfl (OSl.nil _ _) (by kernel_rfl) (by kernel_rfl) (h1.mono (Le.refl _)) (hw.vwAll.nil.anti (Le.refl _)) (by kernel_rfl) h2 fun a w p3 c3 d2 h3 hw hs => ?_
 refine pn hs 1 [(1, (pt b1 0)), (3, .slice p3 x2.length c3)] fun a hs => Qc ?_
 obtain ⟨y1, hx1, hk⟩ := bindE hk
 obtain ⟨J1, hJ1⟩ := mkJ fun a w => ∃ (x3 : List Int) (p4 : Option Addr) (c4 : Nat) (d3 : Ch), Qb3 x3 = some r ∧ Sees a 16 [(3, .slice p4 x3.length c4)] ∧ St g w [d3, F] ih ∧ OSl e3 ih p4 c4 x3 d3
 refine QaG J1 ?_ ?_
 ·refine Qd (Qa (pu hs 1 fun a hs => ?_))
  refine Qj hs (hw.at_ 1 rfl) 4 fun a hs => pn hs 1 [(1, (pt b1 0)), (3, .slice p3 x2.length c3), (9, .bool (x1.f4 != 0))] fun a hs => Qc ?_
  rcases ifbE hx1 with ⟨h4, hx1⟩ | ⟨h4, hx1⟩
  ·refine Qr hs h4 ?_
   refine Qa (pu hs 2 fun a hs => ?_)
   refine Qj hs (hw.at_ 1 rfl) 4 fun a hs => QaN hs hw [Qb x1.f4] 3 (fun b => .slice (some ⟨b, 0, none⟩) 1 1) fun a w b2 hs hw => ?_
   obtain ⟨x4, h5, hx1⟩ := bindE hx1
   refine Qhk hs hw (E := e3) QhS 1 rfl h3 (by kernel_rfl) (by kernel_rfl) (c2 := 1) (by kernel_rfl) (hw.at_ 0 rfl) (z := x1.f4) rfl h5 fun a w p5 c5 d4 h6 hw hs => ?_
   refine pu hs 1 fun a hs => Qc ?_
   obtain rfl := someE hx1
   exact (hJ1 _ _).2 ⟨x4, p5, c5, d4, hk, hs.cst, hw.pk [1, 3], h6⟩
  refine Qs hs h4 (Qg ?_)
  obtain rfl := someE hx1
  exact (hJ1 _ _).2 ⟨x2, p3, c3, d2, hk, hs.cst, hw.pk [0, 2], h3⟩
 intro a w hh
 obtain ⟨x3, p4, c4, d3, hk, hs, hw, h7⟩ := (hJ1 _ _).1 hh
 refine Qd (Qa (pn hs 2 [(2, .slice p4 x3.length c4)] fun a hs => ?_))
 refine Qc (Qi ?_)
 obtain rfl := someE hk
 exact qr1 hQ hs ⟨p4, c4, d3, rfl, hw.pk [0, 1], h7⟩
def Qc5 : Option Bool :=
 some false
def catenaryref04_Has_l4 (x1 : List Int) (x2 : Int) : Nat → Int → Option (Sum Bool Unit)
 | 0, _ => none
 | j + 1, x3 =>
  if (decide (x3 < (x1.length : Int))) = true then (
   (ix x1 x3).bind fun x4 =>
   if (x4 == x2) = true then some (.inl true)
   else catenaryref04_Has_l4 x1 x2 j (IntKind.i64.wrap (x3 + 1)))
  else some (.inr ())
def QcX (k : Nat) (x1 : List Int) (x2 : Int) : Option Bool :=
 (catenaryref04_Has_l4 x1 x2 k 0 : Option (Sum Bool Unit)).bind fun
  | .inl z => some z
  | .inr _ => Qc5
theorem Qhh {k : Nat} {x1 : List Int} {x2 : Int} {d1 : Ch} {c1 : Nat} {p1 : Option Addr} {r : Bool} (hk : QcX k x1 x2 = some r) {g w : World} {F : Ch} {ih : IH} (h1 : RSl e3 ih d1 p1 c1 x1) (h2 : ∀ q ∈ d1, q ∈ F) (hw : St g w [F] ih) :
  CallsR Tryz.prog 114 #[.slice p1 x1.length c1, Qb x2] w fun v w' => v = .bool r ∧ St g w' [F] ih := by
 refine f_i Tryz.func114 rfl 18 rfl fun a Qf hQ hQn hs => ?_
 refine Qd (Qa (pn hs 1 [(0, .slice p1 x1.length c1), (1, Qb x2)] fun a hs => ?_))
 refine Qc (Qd (Qd (Qa (pn hs 1 [(0, .slice p1 x1.length c1), (1, Qb x2), (5, Qb 0)] fun a hs => ?_))))
 refine Qc (Ql ?_)
 obtain ⟨y1, hx1, hk⟩ := bindE hk
 obtain ⟨J1, hJ1⟩ := mkJ fun a w => Qc5 = some r ∧ Sees a 18 [] ∧ St g w [F] ih
 obtain ⟨I1, hI1⟩ := QhB fun j a w => ∃ (x3 : Int), catenaryref04_Has_l4 x1 x2 j x3 = some y1 ∧ Sees a 18 [(0, .slice p1 x1.length c1), (1, Qb x2), (5, Qb x3)] ∧ St g w [F] ih
 refine Qau 0 J1 ?_ ?_
 ·refine QbO I1 k ((hI1 _ _ _).2 ⟨0, hx1, hs.cst, hw.pk [0]⟩) (fun a w h3 => ?_) fun j a w hh => ?_
  ·obtain ⟨_, h, _⟩ := (hI1 _ _ _).1 h3
   cases h
  obtain ⟨x3, hx1, hs, hw⟩ := (hI1 _ _ _).1 hh
  refine Qd (Qd (Qa (pn hs 4 [(0, .slice p1 x1.length c1), (1, Qb x2), (5, Qb x3), (9, .bool (decide (x3 < (x1.length : Int))))] fun a hs => ?_)))
  refine Qc ?_
  rcases ifbE hx1 with ⟨h4, hx1⟩ | ⟨h4, hx1⟩
  ·refine Qr hs h4 ?_
   refine Qg (Qd (Ql (Qd (Qa (pu hs 2 fun a hs => ?_)))))
   obtain ⟨x4, h5, hx1⟩ := bindE hx1
   refine QbT hs h1 (by kernel_rfl) (by kernel_rfl) (k := .i64) (by kernel_rfl) 3 (by kernel_rfl) (by kernel_rfl) h5 fun a r100 cs henc at101 hs => ?_
   obtain rfl := henc
   refine Qj hs (at101 _ (((hw.vw 0 rfl).sub h2).anti (Le.refl _))) 0 fun a hs => pn hs 2 [(0, .slice p1 x1.length c1), (1, Qb x2), (5, Qb x3), (17, .bool (x4 == x2))] fun a hs => ?_
   refine Qc ?_
   rcases ifbE hx1 with ⟨h6, hx1⟩ | ⟨h6, hx1⟩
   ·refine Qr hs h6 ?_
    refine Qd (Qa (pn hs 1 [(4, .bool true)] fun a hs => ?_))
    refine Qc (Qi ?_)
    obtain rfl := someE hx1
    obtain rfl := someE hk
    exact qr1 hQ hs ⟨rfl, hw.pk [0]⟩
   refine Qs hs h6 ?_
   refine Qg (Qa (pu hs 3 fun a hs => ?_))
   refine Qc ?_
   exact (hI1 _ _ _).2 ⟨(IntKind.i64.wrap (x3 + 1)), hx1, hs.cst, hw.pk [0]⟩
  refine Qs hs h4 (Qa3 ?_)
  obtain rfl := someE hx1
  exact (hJ1 _ _).2 ⟨hk, hs.cst, hw.pk [0]⟩
 intro a w hh
 obtain ⟨hk, hs, hw⟩ := (hJ1 _ _).1 hh
 refine Qd (Qa (pn hs 1 [(4, .bool false)] fun a hs => ?_))
 refine Qc (Qi ?_)
 obtain rfl := someE hk
 exact qr1 hQ hs ⟨rfl, hw.pk [0]⟩
def QbC : Option Bool :=
 some true
def QQ (rec_catenaryref09_Unlike_l11 : Int → Option (Sum Bool Unit)) (x1 : Int) (x2 : Bool) : Option (Sum Bool Unit) :=
 if x2 = true then some (.inl false)
 else rec_catenaryref09_Unlike_l11 (IntKind.i64.wrap (x1 + 1))
def catenaryref09_Unlike_l11 (k : Nat) (x1 : List Int) : Nat → Int → Option (Sum Bool Unit)
 | 0, _ => none
 | j + 1, x2 =>
  if (decide (x2 < (x1.length : Int))) = true then (
   ((ix x1 x2).bind fun x3 =>
    if (decide (x3 < 1)) = true then some true
    else (ix x1 x2).bind fun x4 =>
    if (decide (x4 > 24)) = true then some true
    else (sl x1 0 x2).bind fun x5 =>
    (ix x1 x2).bind fun x6 =>
    (QcX k x5 x6).bind fun y1 =>
    some y1 : Option Bool).bind fun s1 => QQ (catenaryref09_Unlike_l11 k x1 j) x2 s1)
  else some (.inr ())
def QaJ (k : Nat) (x1 : List Int) : Option Bool :=
 (catenaryref09_Unlike_l11 k x1 k 0 : Option (Sum Bool Unit)).bind fun
  | .inl z => some z
  | .inr _ => QbC
theorem QdX {k : Nat} {x1 : List Int} {d1 : Ch} {c1 : Nat} {p1 : Option Addr} {r : Bool} (hk : QaJ k x1 = some r) {g w : World} {F : Ch} {ih : IH} (h1 : RSl e3 ih d1 p1 c1 x1) (h2 : ∀ q ∈ d1, q ∈ F) (hw : St g w [F] ih) :
  CallsR Tryz.prog 67 #[.slice p1 x1.length c1] w fun v w' => v = .bool r ∧ St g w' [F] ih := by
 refine f_i Tryz.func67 rfl 32 rfl fun a Qf hQ hQn hs => ?_
 refine Qd (Qa (pn hs 1 [(0, .slice p1 x1.length c1)] fun a hs => ?_))
 refine Qc (Qd (Qd (Qa (pn hs 1 [(0, .slice p1 x1.length c1), (3, Qb 0)] fun a hs => ?_))))
 refine Qc (Ql ?_)
 obtain ⟨y1, hx1, hk⟩ := bindE hk
 obtain ⟨J1, hJ1⟩ := mkJ fun a w => QbC = some r ∧ Sees a 32 [] ∧ St g w [F] ih
 obtain ⟨I1, hI1⟩ := QhB fun j a w => ∃ (x2 : Int), catenaryref09_Unlike_l11 k x1 j x2 = some y1 ∧ Sees a 32 [(0, .slice p1 x1.length c1), (3, Qb x2)] ∧ St g w [F] ih
 refine Qau 0 J1 ?_ ?_
 ·refine QbO I1 k ((hI1 _ _ _).2 ⟨0, hx1, hs.cst, hw.pk [0]⟩) (fun a w h3 => ?_) fun j a w hh => ?_
  ·obtain ⟨_, h, _⟩ := (hI1 _ _ _).1 h3
   cases h
  obtain ⟨x2, hx1, hs, hw⟩ := (hI1 _ _ _).1 hh
  refine Qd (Qd (Qa (pn hs 4 [(0, .slice p1 x1.length c1), (3, Qb x2), (7, .bool (decide (x2 < (x1.length : Int))))] fun a hs => ?_)))
  refine Qc ?_
  rcases ifbE hx1 with ⟨h4, hx1⟩ | ⟨h4, hx1⟩
  ·refine Qr hs h4 ?_
   refine Qg (Qd (Ql (Qd ?_)))
   obtain ⟨S, hD, kS⟩ := mkSXw hw [[]] (K := []) rfl
   obtain ⟨y2, hx2, hx1⟩ := bindE hx1
   obtain ⟨J2, hJ2⟩ := mkJ fun a w => ∃ (x3 : Bool), QQ (catenaryref09_Unlike_l11 k x1 j) x2 x3 = some y1 ∧ Sees a 32 [(0, .slice p1 x1.length c1), (3, Qb x2), (31, .bool x3)] ∧ St g w [F] ih
   refine Qo (by kernel_rfl) (N := 22) rfl S J2 ?_ ?_
   ·have hw := hw.drew
    have hS : S (bA 22 0) _ := SXn hD (hw.vws [0])
    refine Qp (fuel := 20) kS hs hS [0, 1] fun a hs hS => ?_
    obtain ⟨x4, h5, hx2⟩ := bindE hx2
    refine Qay (fuel := 19) kS hs hS 2 rfl (by kernel_rfl) h1 (by kernel_rfl) (by kernel_rfl) (k := .i64) (by kernel_rfl) 3 (by kernel_rfl) (by kernel_rfl) h5 fun a r570 cs henc at571 hs hS => ?_
    refine Qgn hS fun hS => ?_
    obtain rfl := henc
    refine Qy kS hs hS 3 rfl (fun l w hu hS => at571 w (((Qfi hD 0 rfl (by kernel_rfl) l w hu hS).sub h2).anti (Le.refl _))) 0 fun a hs hS => ?_
    refine Qp (fuel := 16) kS hs hS [4, 5] fun a hs hS => ?_
    rcases ifbE hx2 with ⟨h6, hx2⟩ | ⟨h6, hx2⟩
    ·have hs := hs.aB 15 h6
     refine Qu kS hs hS fun a hs => ?_
     obtain rfl := someE hx2
     exact (hJ2 _ _).2 ⟨true, hx1, hs.cst, hw.pk [0]⟩
    have hs := hs.aB 15 h6
    refine Qp (fuel := 14) kS hs hS [6, 7] fun a hs hS => ?_
    obtain ⟨x5, h7, hx2⟩ := bindE hx2
    refine Qay (fuel := 13) kS hs hS 8 rfl (by kernel_rfl) h1 (by kernel_rfl) (by kernel_rfl) (k := .i64) (by kernel_rfl) 3 (by kernel_rfl) (by kernel_rfl) h7 fun a r575 cs henc at576 hs hS => ?_
    refine Qgn hS fun hS => ?_
    obtain rfl := henc
    refine Qy kS hs hS 9 rfl (fun l w hu hS => at576 w (((Qfi hD 0 rfl (by kernel_rfl) l w hu hS).sub h2).anti (Le.refl _))) 0 fun a hs hS => ?_
    refine Qff (fuel := 9) kS hs hS [10, 11, 12] [(0, .slice p1 x1.length c1), (3, Qb x2), (22, .bool (decide (x5 > 24)))] fun a hs hS => ?_
    rcases ifbE hx2 with ⟨h8, hx2⟩ | ⟨h8, hx2⟩
    ·have hs := hs.aB 22 h8
     refine Qu kS hs hS fun a hs => ?_
     obtain rfl := someE hx2
     exact (hJ2 _ _).2 ⟨true, hx1, hs.cst, hw.pk [0]⟩
    have hs := hs.aB 22 h8
    refine Qp (fuel := 7) kS hs hS [13, 14] fun a hs hS => ?_
    obtain ⟨x6, h9, hx2⟩ := bindE hx2
    refine Qmm (fuel := 6) kS hs hS 15 rfl (by kernel_rfl) h1 (by kernel_rfl) (by kernel_rfl) 3 (by kernel_rfl) (by kernel_rfl) (by kernel_rfl) (by kernel_rfl) (by kernel_rfl) h9 (.inl rfl) fun a p2 c2 h10 hs hS => ?_
    refine Qgn hS fun hS => ?_
    refine Qp (fuel := 4) kS hs hS [16, 17] fun a hs hS => ?_
    obtain ⟨x7, h11, hx2⟩ := bindE hx2
    refine Qay (fuel := 3) kS hs hS 18 rfl (by kernel_rfl) h1 (by kernel_rfl) (by kernel_rfl) (k := .i64) (by kernel_rfl) 3 (by kernel_rfl) (by kernel_rfl) h11 fun a r585 cs henc at586 hs hS => ?_
    refine Qgn hS fun hS => ?_
    obtain rfl := henc
    refine Qy kS hs hS 19 rfl (fun l w hu hS => at586 w (((Qfi hD 0 rfl (by kernel_rfl) l w hu hS).sub h2).anti (Le.refl _))) 0 fun a hs hS => ?_
    refine QF [20] (QH ?_)
    obtain ⟨y3, h12, hx2⟩ := bindE hx2
    refine QaR hs rfl (Qhh h12 h10 (fun q hq => memF 0 rfl q (h2 q hq)) ((hw.pk [0]).pack 0)) fun a w v hv hs => ?_
    obtain ⟨rfl, hw⟩ := hv
    have hw := hw.unpack 0 rfl
    refine nx hD ((hw.vws [0]).anti (Le.refl _)) fun hS => ?_
    refine Qu kS hs hS fun a hs => ?_
    obtain rfl := someE hx2
    exact (hJ2 _ _).2 ⟨y3, hx1, hs.cst, hw.pk [0]⟩
   intro a w hh
   obtain ⟨x3, hx1, hs, hw⟩ := (hJ2 _ _).1 hh
   rcases ifbE hx1 with ⟨h13, hx1⟩ | ⟨h13, hx1⟩
   ·refine Qr hs h13 ?_
    refine Qd (Qa (pn hs 1 [(2, .bool false)] fun a hs => ?_))
    refine Qc (Qi ?_)
    obtain rfl := someE hx1
    obtain rfl := someE hk
    exact qr1 hQ hs ⟨rfl, hw.pk [0]⟩
   refine Qs hs h13 ?_
   refine Qg (Qa (pu hs 3 fun a hs => ?_))
   refine Qc ?_
   exact (hI1 _ _ _).2 ⟨(IntKind.i64.wrap (x2 + 1)), hx1, hs.cst, hw.pk [0]⟩
  refine Qs hs h4 (Qa3 ?_)
  obtain rfl := someE hx1
  exact (hJ1 _ _).2 ⟨hk, hs.cst, hw.pk [0]⟩
 intro a w hh
 obtain ⟨hk, hs, hw⟩ := (hJ1 _ _).1 hh
 refine Qd (Qa (pn hs 1 [(2, .bool true)] fun a hs => ?_))
 refine Qc (Qi ?_)
 obtain rfl := someE hk
 exact qr1 hQ hs ⟨rfl, hw.pk [0]⟩
def QV (k : Nat) (x1 : M44) : Option Bool :=
 if ((decide (x1.f0 < 0)) || ((decide (x1.f0 > 3)) || ((x1.f1 == 0) || (((x1.f2.length : Int) == 0) || (decide ((x1.f2.length : Int) > 5)))))) = true then some false
 else if (x1.f3 && (((x1.f2.length : Int) == 1) || (x1.f4 != 0))) = true then some false
 else (QaK x1).bind fun y1 =>
 (QaJ k y1).bind fun y2 =>
 some y2
theorem QaB {k : Nat} {x1 : M44} {c1 : Nat} {p1 : Option Addr} {r : Bool} (hk : QV k x1 = some r) {g w : World} {F : Ch} {ih : IH} (h1 : RSl e3 ih [] p1 c1 x1.f2) (hw : St g w [F] ih) :
  CallsR Tryz.prog 65 #[A44 x1 p1 c1] w fun v w' => v = .bool r ∧ St g w' [F] ih := by
 refine f_i Tryz.func65 rfl 44 rfl fun a Qf hQ hQn hs => ?_
 refine Qd (Qa (QC hs hw [Qb x1.f0, Qe x1.f1, .slice p1 x1.f2.length c1, .bool x1.f3, Qb x1.f4] 44 (fun b => (pt b 0)) (by kernel_rfl) (fun _ => by kernel_rfl) fun a w b1 hs hw => ?_))
 refine pn hs 1 [(1, (pt b1 0))] fun a hs => Qc (Qd (Qd ?_))
 obtain ⟨J1, hJ1⟩ := mkJ fun a w => Sees a 44 [(1, (pt b1 0)), (27, .bool ((decide (x1.f0 < 0)) || ((decide (x1.f0 > 3)) || ((x1.f1 == 0) || (((x1.f2.length : Int) == 0) || (decide ((x1.f2.length : Int) > 5)))))))] ∧ St g w [k2 b1 x1.f0 x1.f1 p1 x1.f2 c1 x1.f3 x1.f4, F] ih
 refine Qn J1 ?_ ?_
 ·refine pu hs 1 fun a hs => Qj hs (hw.at_ 0 rfl) 0 fun a hs => pu hs 2 fun a hs => ?_
  rcases boolE (decide (x1.f0 < 0)) with h2 | h2
  ·have hs := hs.aB 6 h2
   refine pu hs 21 fun a hs => Qc ?_
   exact (hJ1 _ _).2 ⟨(hs.bB 27 h2 true ((decide (x1.f0 < 0)) || ((decide (x1.f0 > 3)) || ((x1.f1 == 0) || (((x1.f2.length : Int) == 0) || (decide ((x1.f2.length : Int) > 5))))))).cst, hw.pk [0, 1]⟩
  have hs := hs.aB 6 h2
  refine pu hs 1 fun a hs => Qj hs (hw.at_ 0 rfl) 0 fun a hs => pn hs 3 [(1, (pt b1 0)), (11, .bool (decide (x1.f0 > 3)))] fun a hs => ?_
  rcases boolE (decide (x1.f0 > 3)) with h3 | h3
  ·have hs := hs.aB 11 h3
   refine pu hs 16 fun a hs => Qc ?_
   exact (hJ1 _ _).2 ⟨(hs.altB (b := true) 27 ((decide (x1.f0 < 0)) || ((decide (x1.f0 > 3)) || ((x1.f1 == 0) || (((x1.f2.length : Int) == 0) || (decide ((x1.f2.length : Int) > 5)))))) (by kernel_rfl) (by first | (rw [h2, h3] <;> rfl) | (revert h2 h3; simp +contextual))).cast [1, 27] (by kernel_rfl), hw.pk [0, 1]⟩
  have hs := hs.aB 11 h3
  refine pu hs 1 fun a hs => Qj hs (hw.at_ 0 rfl) 1 fun a hs => pu hs 3 fun a hs => ?_
  rcases boolE (x1.f1 == 0) with h4 | h4
  ·have hs := hs.aB 16 h4
   refine pu hs 11 fun a hs => Qc ?_
   exact (hJ1 _ _).2 ⟨(hs.altB (b := true) 27 ((decide (x1.f0 < 0)) || ((decide (x1.f0 > 3)) || ((x1.f1 == 0) || (((x1.f2.length : Int) == 0) || (decide ((x1.f2.length : Int) > 5)))))) (by kernel_rfl) (by first | (rw [h2, h3, h4] <;> rfl) | (revert h2 h3 h4; simp +contextual))).cast [1, 27] (by kernel_rfl), hw.pk [0, 1]⟩
  have hs := hs.aB 16 h4
  refine pu hs 1 fun a hs => Qj hs (hw.at_ 0 rfl) 2 fun a hs => pn hs 4 [(1, (pt b1 0)), (22, .bool ((x1.f2.length : Int) == 0))] fun a hs => ?_
  rcases boolE ((x1.f2.length : Int) == 0) with h5 | h5
  ·have hs := hs.aB 22 h5
   refine pu hs 5 fun a hs => Qc ?_
   exact (hJ1 _ _).2 ⟨(hs.altB (b := true) 27 ((decide (x1.f0 < 0)) || ((decide (x1.f0 > 3)) || ((x1.f1 == 0) || (((x1.f2.length : Int) == 0) || (decide ((x1.f2.length : Int) > 5)))))) (by kernel_rfl) (by first | (rw [h2, h3, h4, h5] <;> rfl) | (revert h2 h3 h4 h5; simp +contextual))).cast [1, 27] (by kernel_rfl), hw.pk [0, 1]⟩
  have hs := hs.aB 22 h5
  refine pu hs 1 fun a hs => Qj hs (hw.at_ 0 rfl) 2 fun a hs => pu hs 3 fun a hs => Qc ?_
  exact (hJ1 _ _).2 ⟨(hs.altB (b := (decide ((x1.f2.length : Int) > 5))) 27 ((decide (x1.f0 < 0)) || ((decide (x1.f0 > 3)) || ((x1.f1 == 0) || (((x1.f2.length : Int) == 0) || (decide ((x1.f2.length : Int) > 5)))))) (by kernel_rfl) (by first | (rw [h2, h3, h4, h5] <;> rfl) | (revert h2 h3 h4 h5; simp +contextual))).cast [1, 27] (by kernel_rfl), hw.pk [0, 1]⟩
 intro a w hh
 obtain ⟨hs, hw⟩ := (hJ1 _ _).1 hh
 rcases ifbE hk with ⟨h6, hk⟩ | ⟨h6, hk⟩
 ·refine Qr hs h6 ?_
  refine Qd (Qa (pn hs 1 [(2, .bool false)] fun a hs => ?_))
  refine Qc (Qi ?_)
  obtain rfl := someE hk
  exact qr1 hQ hs ⟨rfl, hw.pk [1]⟩
 refine Qs hs h6 ?_
 refine Qg (Qd (Qd ?_))
 obtain ⟨J2, hJ2⟩ := mkJ fun a w => Sees a 44 [(1, (pt b1 0)), (40, .bool (x1.f3 && (((x1.f2.length : Int) == 1) || (x1.f4 != 0))))] ∧ St g w [k2 b1 x1.f0 x1.f1 p1 x1.f2 c1 x1.f3 x1.f4, F] ih
 refine Qn J2 ?_ ?_
 ·refine pu hs 1 fun a hs => Qj hs (hw.at_ 0 rfl) 3 fun a hs => pu hs 1 fun a hs => ?_
  rcases boolE x1.f3 with h7 | h7
  ·have hs := hs.aB 30 h7
   refine pu hs 1 fun a hs => Qj hs (hw.at_ 0 rfl) 2 fun a hs => pn hs 3 [(1, (pt b1 0)), (30, .bool true), (35, .bool ((x1.f2.length : Int) == 1))] fun a hs => ?_
   rcases boolE ((x1.f2.length : Int) == 1) with h8 | h8
   ·have hs := hs.aB 35 h8
    refine pu hs 5 fun a hs => Qc ?_
    exact (hJ2 _ _).2 ⟨(hs.altB (b := true) 40 (x1.f3 && (((x1.f2.length : Int) == 1) || (x1.f4 != 0))) (by kernel_rfl) (by first | (rw [h7, h8] <;> rfl) | (revert h7 h8; simp +contextual))).cast [1, 40] (by kernel_rfl), hw.pk [0, 1]⟩
   have hs := hs.aB 35 h8
   refine pu hs 1 fun a hs => Qj hs (hw.at_ 0 rfl) 4 fun a hs => pu hs 3 fun a hs => Qc ?_
   exact (hJ2 _ _).2 ⟨(hs.altB (b := (x1.f4 != 0)) 40 (x1.f3 && (((x1.f2.length : Int) == 1) || (x1.f4 != 0))) (by kernel_rfl) (by first | (rw [h7, h8] <;> rfl) | (revert h7 h8; simp +contextual))).cast [1, 40] (by kernel_rfl), hw.pk [0, 1]⟩
  have hs := hs.aB 30 h7
  refine pu hs 10 fun a hs => Qc ?_
  exact (hJ2 _ _).2 ⟨(hs.bB 40 h7 false (x1.f3 && (((x1.f2.length : Int) == 1) || (x1.f4 != 0)))).cst, hw.pk [0, 1]⟩
 intro a w hh
 obtain ⟨hs, hw⟩ := (hJ2 _ _).1 hh
 rcases ifbE hk with ⟨h9, hk⟩ | ⟨h9, hk⟩
 ·refine Qr hs h9 ?_
  refine Qd (Qa (pn hs 1 [(2, .bool false)] fun a hs => ?_))
  refine Qc (Qi ?_)
  obtain rfl := someE hk
  exact qr1 hQ hs ⟨rfl, hw.pk [1]⟩
 refine Qs hs h9 ?_
 refine Qg (Qd (Qa (Qj hs (hw.at_ 0 rfl) 0 fun a hs => ?_)))
 obtain ⟨y1, h10, hk⟩ := bindE hk
 refine Qv hs (QdY h10 h1 ((hw.pk [1]).pack 0)) fun a w v hv hs => ?_
 obtain ⟨p2, c2, d1, rfl, hw, h11⟩ := hv
 have hw := hw.unpack 1 rfl
 obtain ⟨y2, h12, hk⟩ := bindE hk
 refine Qv hs (QdX h12 h11.read (memF 0 rfl) ((hw.pk [0, 1]).pack 0)) fun a w v hv hs => ?_
 obtain ⟨rfl, hw⟩ := hv
 have hw := hw.unpack 0 rfl
 refine pn hs 1 [(2, .bool y2)] fun a hs => ?_
 have hw := hw.cL [d1, F]
 refine Qc (Qi ?_)
 obtain rfl := someE hk
 exact qr1 hQ hs ⟨rfl, hw.pk [1]⟩
def QcP (x1 : Bool) : Option Bool :=
 some x1
def QcO (k : Nat) (x1 : List M44) (x2 : List Int) : Option Bool :=
 (if (decide ((x1.length : Int) ≥ 1)) = true then (
   if (decide ((x1.length : Int) ≤ 4)) = true then (
    (QaJ k x2).bind fun y1 =>
    some y1)
   else some false)
  else some false : Option Bool).bind fun s1 => QcP s1
def QaC (rec_catenaryref09_All_l13 : (List Int) → Int → Option (Sum Bool (List Int))) (x1 : List M44) (x2 : Int) (x3 : List Int) (x4 : Bool) : Option (Sum Bool (List Int)) :=
 if x4 = true then some (.inl false)
 else (ix x1 x2).bind fun x5 =>
 (QaK x5).bind fun y1 =>
 (app x3 y1).bind fun x6 =>
 rec_catenaryref09_All_l13 x6 (IntKind.i64.wrap (x2 + 1))
def QW (k : Nat) (x1 : List M44) : Nat → (List Int) → Int → Option (Sum Bool (List Int))
 | 0, _, _ => none
 | j + 1, x2, x3 =>
  if (decide (x3 < (x1.length : Int))) = true then (
   ((ix x1 x3).bind fun x4 =>
    (QV k x4).bind fun y1 =>
    if (!y1) = true then some true
    else (ix x1 x3).bind fun x5 =>
    some (x5.f0 != x3) : Option Bool).bind fun s1 => QaC (QW k x1 j) x1 x3 x2 s1)
  else some (.inr x2)
def Qar (k : Nat) (x1 : List M44) : Option Bool :=
 (QW k x1 k ([]) 0 : Option (Sum Bool (List Int))).bind fun
  | .inl z => some z
  | .inr s1 => QcO k x1 s1
theorem Qhg {k : Nat} {x1 : List M44} {d1 : Ch} {c1 : Nat} {p1 : Option Addr} {r : Bool} (hk : Qar k x1 = some r) {g w : World} {F : Ch} {ih : IH} (h1 : RSl e44 ih d1 p1 c1 x1) (h2 : ∀ q ∈ d1, q ∈ F) (hw : St g w [F] ih) :
  CallsR Tryz.prog 38 #[.slice p1 x1.length c1] w fun v w' => v = .bool r ∧ St g w' [F] ih := by
 refine f_i Tryz.func38 rfl 45 rfl fun a Qf hQ hQn hs => ?_
 refine Qd (Qa (pn hs 1 [(0, .slice p1 x1.length c1)] fun a hs => ?_))
 refine Qc (Qd (Qa (pn hs 1 [(0, .slice p1 x1.length c1), (3, .slice none 0 0)] fun a hs => ?_)))
 refine Qc (Qd (Qd (Qa (pn hs 1 [(0, .slice p1 x1.length c1), (3, .slice none 0 0), (4, Qb 0)] fun a hs => ?_))))
 refine Qc (Ql ?_)
 obtain ⟨y1, hx1, hk⟩ := bindE hk
 have hw := hw.nil
 obtain ⟨J1, hJ1⟩ := mkJ fun a w => ∃ (x2 : List Int) (p2 : Option Addr) (c2 : Nat) (d2 : Ch), QcO k x1 x2 = some r ∧ Sees a 45 [(0, .slice p1 x1.length c1), (3, .slice p2 x2.length c2)] ∧ St g w [d2, F] ih ∧ OSl e3 ih p2 c2 x2 d2
 obtain ⟨I1, hI1⟩ := QhB fun j a w => ∃ (x3 : List Int) (x4 : Int) (p3 : Option Addr) (c3 : Nat) (d3 : Ch), QW k x1 j x3 x4 = some y1 ∧ Sees a 45 [(0, .slice p1 x1.length c1), (3, .slice p3 x3.length c3), (4, Qb x4)] ∧ St g w [d3, F] ih ∧ OSl e3 ih p3 c3 x3 d3
 refine Qau 0 J1 ?_ ?_
 ·refine QbO I1 k ((hI1 _ _ _).2 ⟨([]), 0, none, 0, ([]), hx1, hs.cst, hw.pk [0, 1], (OSl.nil _ _)⟩) (fun a w h3 => ?_) fun j a w hh => ?_
  ·obtain ⟨_, _, _, _, _, h, _⟩ := (hI1 _ _ _).1 h3
   cases h
  obtain ⟨x3, x4, p3, c3, d3, hx1, hs, hw, h4⟩ := (hI1 _ _ _).1 hh
  refine Qd (Qd (Qa (pn hs 4 [(0, .slice p1 x1.length c1), (3, .slice p3 x3.length c3), (4, Qb x4), (8, .bool (decide (x4 < (x1.length : Int))))] fun a hs => ?_)))
  refine Qc ?_
  rcases ifbE hx1 with ⟨h5, hx1⟩ | ⟨h5, hx1⟩
  ·refine Qr hs h5 ?_
   refine Qg (Qd (Ql (Qd (Qd ?_))))
   obtain ⟨y2, hx2, hx1⟩ := bindE hx1
   obtain ⟨J2, hJ2⟩ := mkJ fun a w => ∃ (x5 : Bool), QaC (QW k x1 j) x1 x4 x3 x5 = some y1 ∧ Sees a 45 [(0, .slice p1 x1.length c1), (3, .slice p3 x3.length c3), (4, Qb x4), (25, .bool x5)] ∧ St g w [d3, F] ih
   refine Qn J2 ?_ ?_
   ·refine pu hs 2 fun a hs => ?_
    obtain ⟨x6, h6, hx2⟩ := bindE hx2
    refine QbT hs h1 (by kernel_rfl) (by kernel_rfl) (k := .i64) (by kernel_rfl) 44 (by kernel_rfl) (by kernel_rfl) h6 fun a r870 cs henc at871 hs => ?_
    obtain ⟨p4, c4, rfl, h7⟩ := henc
    refine Qj hs (at871 _ (((hw.vw 1 rfl).sub h2).anti (Le.refl _))) 0 fun a hs => ?_
    obtain ⟨y3, h8, hx2⟩ := bindE hx2
    refine Qv hs (QaB h8 h7 ((hw.pk [0, 1]).pack 0)) fun a w v hv hs => ?_
    obtain ⟨rfl, hw⟩ := hv
    have hw := hw.unpack 0 rfl
    refine pu hs 2 fun a hs => ?_
    rcases ifbE hx2 with ⟨h9, hx2⟩ | ⟨h9, hx2⟩
    ·have hs := hs.aB 17 h9
     refine pu hs 8 fun a hs => Qc ?_
     obtain rfl := someE hx2
     exact (hJ2 _ _).2 ⟨true, hx1, hs.cst, hw.pk [0, 1]⟩
    have hs := hs.aB 17 h9
    refine pu hs 2 fun a hs => ?_
    obtain ⟨x7, h10, hx2⟩ := bindE hx2
    refine QbT hs h1 (by kernel_rfl) (by kernel_rfl) (k := .i64) (by kernel_rfl) 44 (by kernel_rfl) (by kernel_rfl) h10 fun a r880 cs henc at881 hs => ?_
    obtain ⟨p5, c5, rfl, h11⟩ := henc
    refine pu hs 1 fun a hs => Qj hs (at881 _ (((hw.vw 1 rfl).sub h2).anti (Le.refl _))) 0 fun a hs => pn hs 3 [(0, .slice p1 x1.length c1), (3, .slice p3 x3.length c3), (4, Qb x4), (25, .bool (x7.f0 != x4))] fun a hs => ?_
    refine Qc ?_
    obtain rfl := someE hx2
    exact (hJ2 _ _).2 ⟨(x7.f0 != x4), hx1, hs.cst, hw.pk [0, 1]⟩
   intro a w hh
   obtain ⟨x5, hx1, hs, hw⟩ := (hJ2 _ _).1 hh
   rcases ifbE hx1 with ⟨h12, hx1⟩ | ⟨h12, hx1⟩
   ·refine Qr hs h12 ?_
    refine Qd (Qa (pn hs 1 [(2, .bool false)] fun a hs => ?_))
    refine Qc (Qi ?_)
    obtain rfl := someE hx1
    obtain rfl := someE hk
    exact qr1 hQ hs ⟨rfl, hw.pk [1]⟩
   refine Qs hs h12 ?_
   refine Qg (Qa (pu hs 3 fun a hs => ?_))
   obtain ⟨x8, h13, hx1⟩ := bindE hx1
   refine QbT hs h1 (by kernel_rfl) (by kernel_rfl) (k := .i64) (by kernel_rfl) 44 (by kernel_rfl) (by kernel_rfl) h13 fun a r847 cs henc at848 hs => ?_
   obtain ⟨p6, c6, rfl, h14⟩ := henc
   refine Qj hs (at848 _ (((hw.vw 1 rfl).sub h2).anti (Le.refl _))) 0 fun a hs => ?_
   obtain ⟨y4, h15, hx1⟩ := bindE hx1
   refine Qv hs (QdY h15 h14 ((hw.pk [0, 1]).pack 0)) fun a w v hv hs => ?_
   obtain ⟨p7, c7, d4, rfl, hw, h16⟩ := hv
   have hw := hw.unpack 1 rfl
   obtain ⟨x9, h17, hx1⟩ := bindE hx1
   refine Qi1 hs hw (E := e3) QhS 1 rfl h4 (by kernel_rfl) (by kernel_rfl) (h16.read.mono (Le.refl _)) ((hw.vw 0 rfl).anti (Le.refl _)) (by kernel_rfl) h17 fun a w p8 c8 d5 h18 hw hs => ?_
   refine pn hs 1 [(0, .slice p1 x1.length c1), (4, Qb x4), (3, .slice p8 x9.length c8)] fun a hs => Qc (Qa (pu hs 3 fun a hs => ?_))
   refine Qc ?_
   exact (hI1 _ _ _).2 ⟨x9, (IntKind.i64.wrap (x4 + 1)), p8, c8, d5, hx1, hs.cst, hw.pk [1, 2], h18⟩
  refine Qs hs h5 (Qa3 ?_)
  obtain rfl := someE hx1
  exact (hJ1 _ _).2 ⟨x3, p3, c3, d3, hk, hs.cst, hw.pk [0, 1], h4⟩
 intro a w hh
 obtain ⟨x2, p2, c2, d2, hk, hs, hw, h19⟩ := (hJ1 _ _).1 hh
 refine Qd ?_
 obtain ⟨y5, hx3, hk⟩ := bindE hk
 obtain ⟨J3, hJ3⟩ := mkJ fun a w => ∃ (x10 : Bool), QcP x10 = some r ∧ Sees a 45 [(2, .bool x10)] ∧ St g w [F] ih
 refine Qn J3 ?_ ?_
 ·refine pu hs 4 fun a hs => ?_
  rcases ifbE hx3 with ⟨h20, hx3⟩ | ⟨h20, hx3⟩
  ·have hs := hs.aB 36 h20
   refine pu hs 5 fun a hs => ?_
   rcases ifbE hx3 with ⟨h21, hx3⟩ | ⟨h21, hx3⟩
   ·have hs := hs.aB 41 h21
    refine pu hs 1 fun a hs => ?_
    obtain ⟨y6, h22, hx3⟩ := bindE hx3
    refine Qv hs (QdX h22 h19.read (memF 0 rfl) ((hw.pk [0, 1]).pack 0)) fun a w v hv hs => ?_
    obtain ⟨rfl, hw⟩ := hv
    have hw := hw.unpack 0 rfl
    refine pu hs 2 fun a hs => Qc ?_
    obtain rfl := someE hx3
    exact (hJ3 _ _).2 ⟨y6, hk, hs.cst, hw.pk [1]⟩
   have hs := hs.aB 41 h21
   refine pu hs 4 fun a hs => Qc ?_
   obtain rfl := someE hx3
   exact (hJ3 _ _).2 ⟨false, hk, hs.cst, hw.pk [1]⟩
  have hs := hs.aB 36 h20
  refine pu hs 9 fun a hs => Qc ?_
  obtain rfl := someE hx3
  exact (hJ3 _ _).2 ⟨false, hk, hs.cst, hw.pk [1]⟩
 intro a w hh
 obtain ⟨x10, hk, hs, hw⟩ := (hJ3 _ _).1 hh
 refine Qi ?_
 obtain rfl := someE hk
 exact qr1 hQ hs ⟨rfl, hw.pk [0]⟩
def Qaq (x1 x2 : Int) (x3 : List M44) (x4 : Bool) : Option (M60 × Int) :=
 if x4 = true then some ((M60.mk 0 0 0 0 ([]) (M26.mk 0 0 0 ([]) 0) 0 (M51.mk 0 0 ([])) 0 (M51.mk 0 0 ([]))), 1)
 else some ((M60.mk x1 x2 0 0 x3 (M26.mk 0 0 0 ([]) 0) 0 (M51.mk 0 0 ([])) 0 (M51.mk 0 0 ([]))), 0)
def QbV (k : Nat) (x1 x2 : Int) (x3 : List M44) : Option (M60 × Int) :=
 (if (decide (x1 < 1)) = true then some true
  else if (decide (x1 > 6)) = true then some true
  else if (decide (x2 < 1)) = true then some true
  else if (decide (x2 > 5)) = true then some true
  else (Qar k x3).bind fun y1 =>
  some (!y1) : Option Bool).bind fun s1 => Qaq x1 x2 x3 s1
theorem Qel {k : Nat} {x1 x2 : Int} {x3 : List M44} {c1 : Nat} {p1 : Option Addr} {r : M60 × Int} (hk : QbV k x1 x2 x3 = some r) {g w : World} {F : Ch} {ih : IH} (h1 : RSl e44 ih [] p1 c1 x3) (hw : St g w [F] ih) :
  CallsR Tryz.prog 16 #[Qb x1, Qb x2, .slice p1 x3.length c1] w fun v w' => ∃ (p2 : Option Addr) (c2 : Nat) (p3 : Option Addr) (c3 : Nat) (p4 : Option Addr) (c4 : Nat) (p5 : Option Addr) (c5 : Nat), v = .tuple #[.agg #[Qb r.1.f0, Qb r.1.f1, Qe r.1.f2, Qb r.1.f3, .slice p2 r.1.f4.length c2, Qb r.1.f5.f0, Qk r.1.f5.f1, Qe r.1.f5.f2, .slice p3 r.1.f5.f3.length c3, Qb r.1.f5.f4, Qb r.1.f6, Qb r.1.f7.f0, Qe r.1.f7.f1, .slice p4 r.1.f7.f2.length c4, Qe r.1.f8, Qb r.1.f9.f0, Qe r.1.f9.f1, .slice p5 r.1.f9.f2.length c5], Qb r.2] ∧ St g w' [F] ih ∧ RSl e44 ih [] p2 c2 r.1.f4 ∧ RSl e5 ih [] p3 c3 r.1.f5.f3 ∧ RSl e5 ih [] p4 c4 r.1.f7.f2 ∧ RSl e5 ih [] p5 c5 r.1.f9.f2 := by
 refine f_i Tryz.func16 rfl 32 rfl fun a Qf hQ hQn hs => ?_
 refine Qd (Qa (QC hs hw [Qb 0, Qb 0, Qe 0, Qb 0, .slice none 0 0, Qb 0, Qk 0, Qe 0, .slice none 0 0, Qb 0, Qb 0, Qb 0, Qe 0, .slice none 0 0, Qe 0, Qb 0, Qe 0, .slice none 0 0] 60 (fun b => (pt b 0)) (by kernel_rfl) (fun _ => by kernel_rfl) fun a w b1 hs hw => ?_))
 refine pn hs 1 [(0, Qb x1), (1, Qb x2), (2, .slice p1 x3.length c1), (6, (pt b1 0))] fun a hs => Qc (Qd (Qd ?_))
 obtain ⟨y1, hx1, hk⟩ := bindE hk
 obtain ⟨J1, hJ1⟩ := mkJ fun a w => ∃ (x4 : Bool), Qaq x1 x2 x3 x4 = some r ∧ Sees a 32 [(0, Qb x1), (1, Qb x2), (2, .slice p1 x3.length c1), (6, (pt b1 0)), (26, .bool x4)] ∧ St g w [k51 b1, F] ih
 refine Qn J1 ?_ ?_
 ·refine pu hs 3 fun a hs => ?_
  rcases ifbE hx1 with ⟨h2, hx1⟩ | ⟨h2, hx1⟩
  ·have hs := hs.aB 10 h2
   refine pu hs 16 fun a hs => Qc ?_
   obtain rfl := someE hx1
   exact (hJ1 _ _).2 ⟨true, hk, hs.cst, hw.pk [0, 1]⟩
  have hs := hs.aB 10 h2
  refine pu hs 4 fun a hs => ?_
  rcases ifbE hx1 with ⟨h3, hx1⟩ | ⟨h3, hx1⟩
  ·have hs := hs.aB 14 h3
   refine pu hs 12 fun a hs => Qc ?_
   obtain rfl := someE hx1
   exact (hJ1 _ _).2 ⟨true, hk, hs.cst, hw.pk [0, 1]⟩
  have hs := hs.aB 14 h3
  refine pu hs 4 fun a hs => ?_
  rcases ifbE hx1 with ⟨h4, hx1⟩ | ⟨h4, hx1⟩
  ·have hs := hs.aB 18 h4
   refine pu hs 8 fun a hs => Qc ?_
   obtain rfl := someE hx1
   exact (hJ1 _ _).2 ⟨true, hk, hs.cst, hw.pk [0, 1]⟩
  have hs := hs.aB 18 h4
  refine pu hs 4 fun a hs => ?_
  rcases ifbE hx1 with ⟨h5, hx1⟩ | ⟨h5, hx1⟩
  ·have hs := hs.aB 22 h5
   refine pu hs 4 fun a hs => Qc ?_
   obtain rfl := someE hx1
   exact (hJ1 _ _).2 ⟨true, hk, hs.cst, hw.pk [0, 1]⟩
  have hs := hs.aB 22 h5
  refine pu hs 1 fun a hs => ?_
  obtain ⟨y2, h6, hx1⟩ := bindE hx1
  refine Qv hs (Qhg h6 h1 (nilSub _) ((hw.pk [0, 1]).pack 0)) fun a w v hv hs => ?_
  obtain ⟨rfl, hw⟩ := hv
  have hw := hw.unpack 0 rfl
  refine pn hs 2 [(0, Qb x1), (1, Qb x2), (2, .slice p1 x3.length c1), (6, (pt b1 0)), (26, .bool (!y2))] fun a hs => Qc ?_
  obtain rfl := someE hx1
  exact (hJ1 _ _).2 ⟨(!y2), hk, hs.cst, hw.pk [0, 1]⟩
 intro a w hh
 obtain ⟨x4, hk, hs, hw⟩ := (hJ1 _ _).1 hh
 rcases ifbE hk with ⟨h7, hk⟩ | ⟨h7, hk⟩
 ·refine Qr hs h7 ?_
  refine Qd (Qa (pu hs 1 fun a hs => ?_))
  refine QE hs hw 0 rfl 0 (v := .agg #[Qb 0, Qb 0, Qe 0, Qb 0, .slice none 0 0, Qb 0, Qk 0, Qe 0, .slice none 0 0, Qb 0, Qb 0, Qb 0, Qe 0, .slice none 0 0, Qe 0, Qb 0, Qe 0, .slice none 0 0]) fun a w hs hw => ?_
  refine pn hs 1 [(6, (pt b1 0)), (7, Qb 1)] fun a hs => Qc (Qi ?_)
  obtain rfl := someE hk
  refine hQ _ _ (Qcs hs (l := [.cell 6 60, .tmp 7]) (vs := [.agg #[Qb 0, Qb 0, Qe 0, Qb 0, .slice none 0 0, Qb 0, Qk 0, Qe 0, .slice none 0 0, Qb 0, Qb 0, Qb 0, Qe 0, .slice none 0 0, Qe 0, Qb 0, Qe 0, .slice none 0 0], Qb 1]) rfl (⟨Qab hs (hw.at_ 0 rfl) (by kernel_rfl) (v := .agg #[Qb 0, Qb 0, Qe 0, Qb 0, .slice none 0 0, Qb 0, Qk 0, Qe 0, .slice none 0 0, Qb 0, Qb 0, Qb 0, Qe 0, .slice none 0 0, Qe 0, Qb 0, Qe 0, .slice none 0 0]) (by kernel_rfl), ⟨Qaf hs (v := Qb 1) (by kernel_rfl), trivial⟩⟩) (by kernel_rfl) ⟨none, 0, none, 0, none, 0, none, 0, rfl, hw.pk [1], (RSl.nil _ _ _), (RSl.nil _ _ _), (RSl.nil _ _ _), (RSl.nil _ _ _)⟩)
 refine Qs hs h7 ?_
 refine Qg (Qd (Qa (pu hs 4 fun a hs => ?_)))
 refine QE hs hw 0 rfl 0 (v := .agg #[Qb x1, Qb x2, Qe 0, Qb 0, .slice p1 x3.length c1, Qb 0, Qk 0, Qe 0, .slice none 0 0, Qb 0, Qb 0, Qb 0, Qe 0, .slice none 0 0, Qe 0, Qb 0, Qe 0, .slice none 0 0]) fun a w hs hw => ?_
 refine pn hs 1 [(6, (pt b1 0)), (7, Qb 0)] fun a hs => Qc (Qi ?_)
 obtain rfl := someE hk
 refine hQ _ _ (Qcs hs (l := [.cell 6 60, .tmp 7]) (vs := [.agg #[Qb x1, Qb x2, Qe 0, Qb 0, .slice p1 x3.length c1, Qb 0, Qk 0, Qe 0, .slice none 0 0, Qb 0, Qb 0, Qb 0, Qe 0, .slice none 0 0, Qe 0, Qb 0, Qe 0, .slice none 0 0], Qb 0]) rfl (⟨Qab hs (hw.at_ 0 rfl) (by kernel_rfl) (v := .agg #[Qb x1, Qb x2, Qe 0, Qb 0, .slice p1 x3.length c1, Qb 0, Qk 0, Qe 0, .slice none 0 0, Qb 0, Qb 0, Qb 0, Qe 0, .slice none 0 0, Qe 0, Qb 0, Qe 0, .slice none 0 0]) (by kernel_rfl), ⟨Qaf hs (v := Qb 0) (by kernel_rfl), trivial⟩⟩) (by kernel_rfl) ⟨p1, c1, none, 0, none, 0, none, 0, rfl, hw.pk [1], h1, (RSl.nil _ _ _), (RSl.nil _ _ _), (RSl.nil _ _ _)⟩)
def Qc7 (x1 : M48) : Option Bool :=
 some ((decide ((x1.f16.length : Int) > 8)) || ((decide ((x1.f15.length : Int) > 600)) || ((decide ((x1.f17.length : Int) > 2100)) || (decide ((x1.f14.f2.length : Int) > 30)))))
def catenarylaw14_Far_l4 (x1 : M48) : Nat → Int → Option (Sum Bool Unit)
 | 0, _ => none
 | j + 1, x2 =>
  if ((decide (x2 < (x1.f16.length : Int))) && (decide (x2 < 9))) = true then (
   (ix x1.f16 x2).bind fun x3 =>
   if (decide ((x3.f6.length : Int) > 2100)) = true then some (.inl true)
   else catenarylaw14_Far_l4 x1 j (IntKind.i64.wrap (x2 + 1)))
  else some (.inr ())
def QbD (k : Nat) (x1 : M48) : Option Bool :=
 (catenarylaw14_Far_l4 x1 k 0 : Option (Sum Bool Unit)).bind fun
  | .inl z => some z
  | .inr _ => Qc7 x1
theorem Qfb {k : Nat} {x1 : M48} {c1 c2 c3 c4 : Nat} {p1 p2 p3 p4 : Option Addr} {r : Bool} (hk : QbD k x1 = some r) {g w : World} {F : Ch} {ih : IH} (h1 : RSl e3 ih [] p1 c1 x1.f14.f2) (h2 : RSl Qcf ih [] p2 c2 x1.f15) (h3 : RSl e96 ih [] p3 c3 x1.f16) (h4 : RSl e5 ih [] p4 c4 x1.f17) (hw : St g w [F] ih) :
  CallsR Tryz.prog 17 #[A48 x1 p1 c1 p2 c2 p3 c3 p4 c4] w fun v w' => v = .bool r ∧ St g w' [F] ih := by
 refine f_i Tryz.func17 rfl 46 rfl fun a Qf hQ hQn hs => ?_
 refine Qd (Qa (QC hs hw [Qb x1.f0, Qb x1.f1, Qb x1.f2, Qb x1.f3, Qe x1.f4, Qe x1.f5, Qe x1.f6, Qe x1.f7, Qe x1.f8, Qe x1.f9, Qb x1.f10, Qk x1.f11, Qb x1.f12, Qb x1.f13.f0, Qb x1.f13.f1, Qe x1.f13.f2, Qb x1.f13.f3, Qb x1.f14.f0, Qe x1.f14.f1, .slice p1 x1.f14.f2.length c1, .bool x1.f14.f3, Qb x1.f14.f4, .slice p2 x1.f15.length c2, .slice p3 x1.f16.length c3, .slice p4 x1.f17.length c4] 48 (fun b => (pt b 0)) (by kernel_rfl) (fun _ => by kernel_rfl) fun a w b1 hs hw => ?_))
 refine pn hs 1 [(1, (pt b1 0))] fun a hs => Qc (Qd (Qd (Qa (pn hs 1 [(1, (pt b1 0)), (3, Qb 0)] fun a hs => ?_))))
 refine Qc (Ql ?_)
 obtain ⟨y1, hx1, hk⟩ := bindE hk
 obtain ⟨J1, hJ1⟩ := mkJ fun a w => Qc7 x1 = some r ∧ Sees a 46 [(1, (pt b1 0))] ∧ St g w [k10 b1 x1.f0 x1.f1 x1.f2 x1.f3 x1.f4 x1.f5 x1.f6 x1.f7 x1.f8 x1.f9 x1.f10 x1.f11 x1.f12 x1.f13.f0 x1.f13.f1 x1.f13.f2 x1.f13.f3 x1.f14.f0 x1.f14.f1 p1 x1.f14.f2 c1 x1.f14.f3 x1.f14.f4 p2 x1.f15 c2 p3 x1.f16 c3 p4 x1.f17 c4, F] ih
 obtain ⟨I1, hI1⟩ := QhB fun j a w => ∃ (x2 : Int), catenarylaw14_Far_l4 x1 j x2 = some y1 ∧ Sees a 46 [(1, (pt b1 0)), (3, Qb x2)] ∧ St g w [k10 b1 x1.f0 x1.f1 x1.f2 x1.f3 x1.f4 x1.f5 x1.f6 x1.f7 x1.f8 x1.f9 x1.f10 x1.f11 x1.f12 x1.f13.f0 x1.f13.f1 x1.f13.f2 x1.f13.f3 x1.f14.f0 x1.f14.f1 p1 x1.f14.f2 c1 x1.f14.f3 x1.f14.f4 p2 x1.f15 c2 p3 x1.f16 c3 p4 x1.f17 c4, F] ih
 refine Qau 0 J1 ?_ ?_
 ·refine QbO I1 k ((hI1 _ _ _).2 ⟨0, hx1, hs.cst, hw.pk [0, 1]⟩) (fun a w h5 => ?_) fun j a w hh => ?_
  ·obtain ⟨_, h, _⟩ := (hI1 _ _ _).1 h5
   cases h
  obtain ⟨x2, hx1, hs, hw⟩ := (hI1 _ _ _).1 hh
  refine Qd (Qd ?_)
  obtain ⟨J2, hJ2⟩ := mkJ fun a w => Sees a 46 [(1, (pt b1 0)), (3, Qb x2), (12, .bool ((decide (x2 < (x1.f16.length : Int))) && (decide (x2 < 9))))] ∧ St g w [k10 b1 x1.f0 x1.f1 x1.f2 x1.f3 x1.f4 x1.f5 x1.f6 x1.f7 x1.f8 x1.f9 x1.f10 x1.f11 x1.f12 x1.f13.f0 x1.f13.f1 x1.f13.f2 x1.f13.f3 x1.f14.f0 x1.f14.f1 p1 x1.f14.f2 c1 x1.f14.f3 x1.f14.f4 p2 x1.f15 c2 p3 x1.f16 c3 p4 x1.f17 c4, F] ih
  refine Qn J2 ?_ ?_
  ·refine pu hs 2 fun a hs => Qj hs (hw.at_ 0 rfl) 23 fun a hs => pu hs 3 fun a hs => ?_
   rcases boolE (decide (x2 < (x1.f16.length : Int))) with h6 | h6
   ·have hs := hs.aB 9 h6
    refine pu hs 3 fun a hs => Qc ?_
    exact (hJ2 _ _).2 ⟨(hs.bB 12 h6 (decide (x2 < 9)) ((decide (x2 < (x1.f16.length : Int))) && (decide (x2 < 9)))).cst, hw.pk [0, 1]⟩
   have hs := hs.aB 9 h6
   refine pu hs 3 fun a hs => Qc ?_
   exact (hJ2 _ _).2 ⟨(hs.bB 12 h6 false ((decide (x2 < (x1.f16.length : Int))) && (decide (x2 < 9)))).cst, hw.pk [0, 1]⟩
  intro a w hh
  obtain ⟨hs, hw⟩ := (hJ2 _ _).1 hh
  rcases ifbE hx1 with ⟨h7, hx1⟩ | ⟨h7, hx1⟩
  ·refine Qr hs h7 ?_
   refine Qg (Qd (Ql (Qd (Qa (pu hs 1 fun a hs => ?_)))))
   refine Qj hs (hw.at_ 0 rfl) 23 fun a hs => pu hs 1 fun a hs => ?_
   obtain ⟨x3, h8, hx1⟩ := bindE hx1
   refine QbT hs h3 (by kernel_rfl) (by kernel_rfl) (k := .i64) (by kernel_rfl) 96 (by kernel_rfl) (by kernel_rfl) h8 fun a r221 cs henc at222 hs => ?_
   obtain ⟨p5, c5, rfl, h9⟩ := henc
   refine pu hs 1 fun a hs => Qj hs (at222 _ (hw.vwAll.nil.anti (Le.refl _))) 6 fun a hs => pn hs 2 [(1, (pt b1 0)), (3, Qb x2), (22, .bool (decide ((x3.f6.length : Int) > 2100)))] fun a hs => ?_
   refine Qc ?_
   rcases ifbE hx1 with ⟨h10, hx1⟩ | ⟨h10, hx1⟩
   ·refine Qr hs h10 ?_
    refine Qd (Qa (pn hs 1 [(2, .bool true)] fun a hs => ?_))
    refine Qc (Qi ?_)
    obtain rfl := someE hx1
    obtain rfl := someE hk
    exact qr1 hQ hs ⟨rfl, hw.pk [1]⟩
   refine Qs hs h10 ?_
   refine Qg (Qa (pu hs 3 fun a hs => ?_))
   refine Qc ?_
   exact (hI1 _ _ _).2 ⟨(IntKind.i64.wrap (x2 + 1)), hx1, hs.cst, hw.pk [0, 1]⟩
  refine Qs hs h7 (Qa3 ?_)
  obtain rfl := someE hx1
  exact (hJ1 _ _).2 ⟨hk, hs.cst, hw.pk [0, 1]⟩
 intro a w hh
 obtain ⟨hk, hs, hw⟩ := (hJ1 _ _).1 hh
 refine Qd ?_
 obtain ⟨J3, hJ3⟩ := mkJ fun a w => Sees a 46 [(2, .bool ((decide ((x1.f16.length : Int) > 8)) || ((decide ((x1.f15.length : Int) > 600)) || ((decide ((x1.f17.length : Int) > 2100)) || (decide ((x1.f14.f2.length : Int) > 30))))))] ∧ St g w [F] ih
 refine Qn J3 ?_ ?_
 ·refine pu hs 1 fun a hs => Qj hs (hw.at_ 0 rfl) 23 fun a hs => pu hs 3 fun a hs => ?_
  rcases boolE (decide ((x1.f16.length : Int) > 8)) with h11 | h11
  ·have hs := hs.aB 27 h11
   refine pu hs 19 fun a hs => Qc ?_
   exact (hJ3 _ _).2 ⟨(hs.bB 2 h11 true ((decide ((x1.f16.length : Int) > 8)) || ((decide ((x1.f15.length : Int) > 600)) || ((decide ((x1.f17.length : Int) > 2100)) || (decide ((x1.f14.f2.length : Int) > 30)))))).cst, hw.pk [1]⟩
  have hs := hs.aB 27 h11
  refine pu hs 1 fun a hs => Qj hs (hw.at_ 0 rfl) 22 fun a hs => pn hs 4 [(1, (pt b1 0)), (33, .bool (decide ((x1.f15.length : Int) > 600)))] fun a hs => ?_
  rcases boolE (decide ((x1.f15.length : Int) > 600)) with h12 | h12
  ·have hs := hs.aB 33 h12
   refine pu hs 13 fun a hs => Qc ?_
   exact (hJ3 _ _).2 ⟨(hs.altB (b := true) 2 ((decide ((x1.f16.length : Int) > 8)) || ((decide ((x1.f15.length : Int) > 600)) || ((decide ((x1.f17.length : Int) > 2100)) || (decide ((x1.f14.f2.length : Int) > 30))))) (by kernel_rfl) (by first | (rw [h11, h12] <;> rfl) | (revert h11 h12; simp +contextual))).cast [2] (by kernel_rfl), hw.pk [1]⟩
  have hs := hs.aB 33 h12
  refine pu hs 1 fun a hs => Qj hs (hw.at_ 0 rfl) 24 fun a hs => pu hs 4 fun a hs => ?_
  rcases boolE (decide ((x1.f17.length : Int) > 2100)) with h13 | h13
  ·have hs := hs.aB 39 h13
   refine pu hs 7 fun a hs => Qc ?_
   exact (hJ3 _ _).2 ⟨(hs.altB (b := true) 2 ((decide ((x1.f16.length : Int) > 8)) || ((decide ((x1.f15.length : Int) > 600)) || ((decide ((x1.f17.length : Int) > 2100)) || (decide ((x1.f14.f2.length : Int) > 30))))) (by kernel_rfl) (by first | (rw [h11, h12, h13] <;> rfl) | (revert h11 h12 h13; simp +contextual))).cast [2] (by kernel_rfl), hw.pk [1]⟩
  have hs := hs.aB 39 h13
  refine pu hs 2 fun a hs => Qj hs (hw.at_ 0 rfl) 19 fun a hs => pn hs 4 [(2, .bool (decide ((x1.f14.f2.length : Int) > 30)))] fun a hs => Qc ?_
  exact (hJ3 _ _).2 ⟨(hs.altB (b := (decide ((x1.f14.f2.length : Int) > 30))) 2 ((decide ((x1.f16.length : Int) > 8)) || ((decide ((x1.f15.length : Int) > 600)) || ((decide ((x1.f17.length : Int) > 2100)) || (decide ((x1.f14.f2.length : Int) > 30))))) (by kernel_rfl) (by first | (rw [h11, h12, h13] <;> rfl) | (revert h11 h12 h13; simp +contextual))).cast [2] (by kernel_rfl), hw.pk [1]⟩
 intro a w hh
 obtain ⟨hs, hw⟩ := (hJ3 _ _).1 hh
 refine Qi ?_
 obtain rfl := someE hk
 exact qr1 hQ hs ⟨rfl, hw.pk [0]⟩
def QaV (x1 x2 : Int) : Option Int :=
 if (decide (x2 < 1)) = true then some 0
 else (some ((IntKind.u64.wrap ((IntKind.u64.wrap (x1)) * 2654435761)).tmod 4294967296)).bind fun x3 =>
 if ((IntKind.u64.wrap (x2)) == 0) = true then none
 else (some (IntKind.i64.wrap ((IntKind.u64.wrap (x3.tdiv 65536)).tmod (IntKind.u64.wrap (x2))))).bind fun x4 =>
 some x4
theorem QgO {x1 x2 : Int} {r : Int} (hk : QaV x1 x2 = some r) {g w : World} {F : Ch} {ih : IH} (hw : St g w [F] ih) :
  CallsR Tryz.prog 70 #[Qk x1, Qb x2] w fun v w' => v = Qb r ∧ St g w' [F] ih := by
 refine f_i Tryz.func70 rfl 18 rfl fun a Qf hQ hQn hs => ?_
 refine Qd (Qa (pn hs 1 [(0, Qk x1), (1, Qb x2)] fun a hs => ?_))
 refine Qc (Qd (Qd (Qa (pn hs 2 [(0, Qk x1), (1, Qb x2), (7, .bool (decide (x2 < 1)))] fun a hs => ?_))))
 refine Qc ?_
 rcases ifbE hk with ⟨h1, hk⟩ | ⟨h1, hk⟩
 ·refine Qr hs h1 ?_
  refine Qd (Qa (pn hs 1 [(4, Qb 0)] fun a hs => ?_))
  refine Qc (Qi ?_)
  obtain rfl := someE hk
  exact qr1 hQ hs ⟨rfl, hw.pk [0]⟩
 refine Qs hs h1 ?_
 refine Qg (Qd (Qa (pu hs 4 fun a hs => ?_)))
 obtain ⟨x3, h2, hk⟩ := bindE hk
 have hs := hs.alt 11 (by kernel_rfl) (congrArg (Value.int .u64) (someE h2))
 refine pn hs 1 [(1, Qb x2), (5, Qe x3)] fun a hs => Qc (Qd (Qa (pu hs 4 fun a hs => ?_)))
 rcases ifbE hk with ⟨h3, hk⟩ | ⟨h3, hk⟩
 ·cases hk
 refine QmC hs (by kernel_rfl) .u64 (i := IntKind.u64.wrap (x3.tdiv 65536)) (j := IntKind.u64.wrap (x2)) (by kernel_rfl) (by kernel_rfl) (by simpa using h3) fun a hs => ?_
 refine pu hs 1 fun a hs => ?_
 obtain ⟨x4, h4, hk⟩ := bindE hk
 have hs := hs.alt 17 (by kernel_rfl) (congrArg (Value.int .i64) (someE h4))
 refine pn hs 1 [(4, Qb x4)] fun a hs => Qc (Qi ?_)
 obtain rfl := someE hk
 exact qr1 hQ hs ⟨rfl, hw.pk [0]⟩
def Qcg (x1 x2 : Int) (x3 : List Int) (x4 : Bool) (x5 : Int) : Option M44 :=
 some (M44.mk x1 x2 x3 x4 x5)
def QU (x1 : M60) : Option M44 :=
 ((QaV x1.f5.f1 (x1.f4.length : Int)).bind fun y1 =>
  (ix x1.f4 y1).bind fun x2 =>
  some (x2.f0, x2.f1, x2.f2, x2.f3, x2.f4) : Option (Int × Int × (List Int) × Bool × Int)).bind fun s1 => Qcg s1.1 s1.2.1 s1.2.2.1 s1.2.2.2.1 s1.2.2.2.2
theorem QcF {x1 : M60} {c1 c2 c3 c4 : Nat} {p1 p2 p3 p4 : Option Addr} {r : M44} (hk : QU x1 = some r) {g w : World} {F : Ch} {ih : IH} (h1 : RSl e44 ih [] p1 c1 x1.f4) (h2 : RSl e5 ih [] p2 c2 x1.f5.f3) (h3 : RSl e5 ih [] p3 c3 x1.f7.f2) (h4 : RSl e5 ih [] p4 c4 x1.f9.f2) (hw : St g w [F] ih) :
  CallsR Tryz.prog 40 #[A60 x1 p1 c1 p2 c2 p3 c3 p4 c4] w fun v w' => ∃ (p5 : Option Addr) (c5 : Nat), v = .agg #[Qb r.f0, Qe r.f1, .slice p5 r.f2.length c5, .bool r.f3, Qb r.f4] ∧ St g w' [F] ih ∧ RSl e3 ih [] p5 c5 r.f2 := by
 refine f_i Tryz.func40 rfl 14 rfl fun a Qf hQ hQn hs => ?_
 refine Qd (Qa (QC hs hw [Qb x1.f0, Qb x1.f1, Qe x1.f2, Qb x1.f3, .slice p1 x1.f4.length c1, Qb x1.f5.f0, Qk x1.f5.f1, Qe x1.f5.f2, .slice p2 x1.f5.f3.length c2, Qb x1.f5.f4, Qb x1.f6, Qb x1.f7.f0, Qe x1.f7.f1, .slice p3 x1.f7.f2.length c3, Qe x1.f8, Qb x1.f9.f0, Qe x1.f9.f1, .slice p4 x1.f9.f2.length c4] 60 (fun b => (pt b 0)) (by kernel_rfl) (fun _ => by kernel_rfl) fun a w b1 hs hw => ?_))
 refine QaN hs hw [Qb 0, Qe 0, .slice none 0 0, .bool false, Qb 0] 44 (fun b => (pt b 0)) fun a w b2 hs hw => ?_
 have hs := hs.cst (e' := [(1, (pt b1 0)), (2, (pt b2 0))])
 refine Qc (Qd ?_)
 have hw := hw.cL [k3 b2, k52 b1 x1.f0 x1.f1 x1.f2 x1.f3 p1 x1.f4 c1 x1.f5.f0 x1.f5.f1 x1.f5.f2 p2 x1.f5.f3 c2 x1.f5.f4 x1.f6 x1.f7.f0 x1.f7.f1 p3 x1.f7.f2 c3 x1.f8 x1.f9.f0 x1.f9.f1 p4 x1.f9.f2 c4, F]
 obtain ⟨S, hD, kS⟩ := mkSXw hw [[11], [], []] (K := [11]) rfl
 obtain ⟨y1, hx1, hk⟩ := bindE hk
 obtain ⟨J1, hJ1⟩ := mkJ fun a w => ∃ (x2 x3 : Int) (x4 : List Int) (x5 : Bool) (x6 : Int) (p6 : Option Addr) (c6 : Nat), Qcg x2 x3 x4 x5 x6 = some r ∧ Sees a 14 [(2, (pt b2 0))] ∧ St g w [k2 b2 x2 x3 p6 x4 c6 x5 x6, F] ih ∧ RSl e3 ih [] p6 c6 x4
 refine Qo (by kernel_rfl) (N := 12) rfl S J1 ?_ ?_
 ·have hw := hw.drew
  have hS : S (bA 12 0) _ := SXn hD (hw.vws [0, 1, 2])
  refine Qp (fuel := 11) kS hs hS [0] fun a hs hS => ?_
  refine Qy kS hs hS 1 rfl (SXb hD 1 rfl) 4 fun a hs hS => ?_
  refine Qp (fuel := 8) kS hs hS [2, 3] fun a hs hS => ?_
  refine Qy kS hs hS 4 rfl (SXb hD 1 rfl) 6 fun a hs hS => ?_
  refine Qp (fuel := 6) kS hs hS [5] fun a hs hS => ?_
  refine Qy kS hs hS 6 rfl (SXb hD 1 rfl) 4 fun a hs hS => ?_
  refine Qff (fuel := 4) kS hs hS [7] [(2, (pt b2 0)), (4, .slice p1 x1.f4.length c1), (7, Qk x1.f5.f1), (10, Qb (x1.f4.length : Int))] fun a hs hS => ?_
  refine QF [8] (QH ?_)
  obtain ⟨y2, h5, hx1⟩ := bindE hx1
  refine QaR hs rfl (QgO h5 ((hw.pk [0, 1, 2]).pack 0)) fun a w v hv hs => ?_
  obtain ⟨rfl, hw⟩ := hv
  have hw := hw.unpack 0 rfl
  refine nx hD ((hw.vws [0, 1, 2]).anti (Le.refl _)) fun hS => ?_
  obtain ⟨x7, h6, hx1⟩ := bindE hx1
  refine Qay (fuel := 2) kS hs hS 9 rfl (by kernel_rfl) h1 (by kernel_rfl) (by kernel_rfl) (k := .i64) (by kernel_rfl) 44 (by kernel_rfl) (by kernel_rfl) h6 fun a r106 cs henc at107 hs hS => ?_
  refine Qgn hS fun hS => ?_
  obtain ⟨p7, c7, rfl, h7⟩ := henc
  refine Qy kS hs hS 10 rfl (fun l w hu hS => at107 w ((Qi8 hD l w hu hS).anti (Le.refl _))) 0 fun a hs hS => ?_
  refine QF [11] (QH ?_)
  refine QfM hs hw rfl 0 rfl 0 (v := A44 x7 p7 c7) fun a w hs hw => ?_
  refine nx hD ((hw.vws [1, 2]).anti (Le.refl _)) fun hS => ?_
  refine QhI ?_
  obtain rfl := someE hx1
  exact (hJ1 _ _).2 ⟨x7.f0, x7.f1, x7.f2, x7.f3, x7.f4, p7, c7, hk, hs.cst, hw.pk [0, 2], h7⟩
 intro a w hh
 obtain ⟨x2, x3, x4, x5, x6, p6, c6, hk, hs, hw, h8⟩ := (hJ1 _ _).1 hh
 refine Qi ?_
 obtain rfl := someE hk
 refine hQ _ _ (QaU hs rfl (hw.at_ 0 rfl) (by kernel_rfl) (v := .agg #[Qb x2, Qe x3, .slice p6 x4.length c6, .bool x5, Qb x6]) (by kernel_rfl) ⟨p6, c6, rfl, hw.pk [1], h8⟩)
def QbW (x1 : Int) : Option Int :=
 some x1
def Qbr (k : Nat) (x1 : M44) (x2 : Int) : Option Int :=
 (QV k x1).bind fun y1 =>
 if (!y1) = true then some 0
 else if (decide (x2 < 0)) = true then (
  (ix x1.f2 0).bind fun x3 =>
  some x3)
 else (if ((x1.f2.length : Int) == 0) = true then none
  else (ix x1.f2 (x2.tmod (x1.f2.length : Int))).bind fun x4 =>
  some x4 : Option Int).bind fun s1 => QbW s1
theorem Qgr {k : Nat} {x1 : M44} {x2 : Int} {c1 : Nat} {p1 : Option Addr} {r : Int} (hk : Qbr k x1 x2 = some r) {g w : World} {F : Ch} {ih : IH} (h1 : RSl e3 ih [] p1 c1 x1.f2) (hw : St g w [F] ih) :
  CallsR Tryz.prog 68 #[A44 x1 p1 c1, Qb x2] w fun v w' => v = Qb r ∧ St g w' [F] ih := by
 refine f_i Tryz.func68 rfl 23 rfl fun a Qf hQ hQn hs => ?_
 refine Qd (Qa (QC hs hw [Qb x1.f0, Qe x1.f1, .slice p1 x1.f2.length c1, .bool x1.f3, Qb x1.f4] 44 (fun b => (pt b 0)) (by kernel_rfl) (fun _ => by kernel_rfl) fun a w b1 hs hw => ?_))
 refine pn hs 1 [(1, Qb x2), (2, (pt b1 0))] fun a hs => Qc (Qd (Qd (Qa (Qj hs (hw.at_ 0 rfl) 0 fun a hs => ?_))))
 obtain ⟨y1, h2, hk⟩ := bindE hk
 refine Qv hs (QaB h2 h1 ((hw.pk [0, 1]).pack 0)) fun a w v hv hs => ?_
 obtain ⟨rfl, hw⟩ := hv
 have hw := hw.unpack 0 rfl
 refine pn hs 1 [(1, Qb x2), (2, (pt b1 0)), (7, .bool (!y1))] fun a hs => Qc ?_
 rcases ifbE hk with ⟨h3, hk⟩ | ⟨h3, hk⟩
 ·refine Qr hs h3 ?_
  refine Qd (Qa (pn hs 1 [(4, Qb 0)] fun a hs => ?_))
  refine Qc (Qi ?_)
  obtain rfl := someE hk
  exact qr1 hQ hs ⟨rfl, hw.pk [1]⟩
 refine Qs hs h3 ?_
 refine Qg (Qd (Qd (Qa (pn hs 2 [(1, Qb x2), (2, (pt b1 0)), (9, .bool (decide (x2 < 0)))] fun a hs => ?_))))
 refine Qc ?_
 rcases ifbE hk with ⟨h4, hk⟩ | ⟨h4, hk⟩
 ·refine Qr hs h4 ?_
  refine Qd (Qa (pu hs 1 fun a hs => ?_))
  refine Qj hs (hw.at_ 0 rfl) 2 fun a hs => ?_
  obtain ⟨x3, h5, hk⟩ := bindE hk
  refine QbT hs h1 (by kernel_rfl) (by kernel_rfl) (k := .i64) (by kernel_rfl) 3 (by kernel_rfl) (by kernel_rfl) h5 fun a r63 cs henc at64 hs => ?_
  obtain rfl := henc
  refine Qj hs (at64 _ (hw.vwAll.nil.anti (Le.refl _))) 0 fun a hs => pn hs 1 [(4, Qb x3)] fun a hs => Qc (Qi ?_)
  obtain rfl := someE hk
  exact qr1 hQ hs ⟨rfl, hw.pk [1]⟩
 refine Qs hs h4 ?_
 refine Qg (Qd ?_)
 have hw := hw.cL [k2 b1 x1.f0 x1.f1 p1 x1.f2 c1 x1.f3 x1.f4, F]
 obtain ⟨S, hD, kS⟩ := mkSXw hw [[], []] (K := []) rfl
 obtain ⟨y2, hx1, hk⟩ := bindE hk
 obtain ⟨J1, hJ1⟩ := mkJ fun a w => ∃ (x4 : Int), QbW x4 = some r ∧ Sees a 23 [(4, Qb x4)] ∧ St g w [F] ih
 refine Qo (by kernel_rfl) (N := 10) rfl S J1 ?_ ?_
 ·have hw := hw.drew
  have hS : S (bA 10 0) _ := SXn hD (hw.vws [0, 1])
  refine Qp (fuel := 9) kS hs hS [0] fun a hs hS => ?_
  refine Qy kS hs hS 1 rfl (SXb hD 0 rfl) 2 fun a hs hS => ?_
  refine Qp (fuel := 6) kS hs hS [2, 3] fun a hs hS => ?_
  refine Qy kS hs hS 4 rfl (SXb hD 0 rfl) 2 fun a hs hS => ?_
  refine Qp (fuel := 4) kS hs hS [5] fun a hs hS => ?_
  rcases ifbE hx1 with ⟨h6, hx1⟩ | ⟨h6, hx1⟩
  ·cases hx1
  refine QlS (fuel := 3) kS hs hS 6 rfl (by kernel_rfl) (by kernel_rfl) .i64 (i := x2) (j := (x1.f2.length : Int)) (by kernel_rfl) (by kernel_rfl) (by simpa using h6) fun a hs hS => ?_
  refine Qgn hS fun hS => ?_
  obtain ⟨x5, h7, hx1⟩ := bindE hx1
  refine Qay (fuel := 2) kS hs hS 7 rfl (by kernel_rfl) h1 (by kernel_rfl) (by kernel_rfl) (k := .i64) (by kernel_rfl) 3 (by kernel_rfl) (by kernel_rfl) h7 fun a r83 cs henc at84 hs hS => ?_
  refine Qgn hS fun hS => ?_
  obtain rfl := henc
  refine Qy kS hs hS 8 rfl (fun l w hu hS => at84 w ((Qi8 hD l w hu hS).anti (Le.refl _))) 0 fun a hs hS => ?_
  refine Qu kS hs hS fun a hs => ?_
  obtain rfl := someE hx1
  exact (hJ1 _ _).2 ⟨x5, hk, hs.cst, hw.pk [1]⟩
 intro a w hh
 obtain ⟨x4, hk, hs, hw⟩ := (hJ1 _ _).1 hh
 refine Qi ?_
 obtain rfl := someE hk
 exact qr1 hQ hs ⟨rfl, hw.pk [0]⟩
def QbX (x1 : M96) (x2 : Bool) : Option Int :=
 if ((x1.f3 != 2) && (x1.f3 != 3)) = true then some 1
 else if (decide ((x1.f6.length : Int) > 2048)) = true then some 6
 else if ((!((decide (x1.f0 > 0)) == x2)) || ((decide (x1.f1 < 1)) || ((decide (x1.f1 > 6)) || ((x1.f2 == 0) || ((x1.f3 == 2) && (decide (x1.f5 > 0))))))) = true then some 4
 else some 0
theorem QgQ {x1 : M96} {x2 : Bool} {c1 : Nat} {p1 : Option Addr} {r : Int} (hk : QbX x1 x2 = some r) {g w : World} {F : Ch} {ih : IH} (h1 : RSl e5 ih [] p1 c1 x1.f6) (hw : St g w [F] ih) :
  CallsR Tryz.prog 115 #[A96 x1 p1 c1, .bool x2] w fun v w' => v = Qb r ∧ St g w' [F] ih := by
 refine f_i Tryz.func115 rfl 47 rfl fun a Qf hQ hQn hs => ?_
 refine Qd (Qa (QC hs hw [Qe x1.f0, Qb x1.f1, Qe x1.f2, Qb x1.f3, Qk x1.f4, Qe x1.f5, .slice p1 x1.f6.length c1] 96 (fun b => (pt b 0)) (by kernel_rfl) (fun _ => by kernel_rfl) fun a w b1 hs hw => ?_))
 refine pn hs 1 [(1, .bool x2), (2, (pt b1 0))] fun a hs => Qc (Qd (Qd ?_))
 obtain ⟨J1, hJ1⟩ := mkJ fun a w => Sees a 47 [(1, .bool x2), (2, (pt b1 0)), (12, .bool ((x1.f3 != 2) && (x1.f3 != 3)))] ∧ St g w [k9 b1 x1.f0 x1.f1 x1.f2 x1.f3 x1.f4 x1.f5 p1 x1.f6 c1, F] ih
 refine Qn J1 ?_ ?_
 ·refine pu hs 1 fun a hs => Qj hs (hw.at_ 0 rfl) 3 fun a hs => pu hs 2 fun a hs => ?_
  rcases boolE (x1.f3 != 2) with h2 | h2
  ·have hs := hs.aB 8 h2
   refine pu hs 1 fun a hs => Qj hs (hw.at_ 0 rfl) 3 fun a hs => pn hs 2 [(1, .bool x2), (2, (pt b1 0)), (12, .bool (x1.f3 != 3))] fun a hs => Qc ?_
   exact (hJ1 _ _).2 ⟨(hs.bB 12 h2 (x1.f3 != 3) ((x1.f3 != 2) && (x1.f3 != 3))).cst, hw.pk [0, 1]⟩
  have hs := hs.aB 8 h2
  refine pu hs 4 fun a hs => Qc ?_
  exact (hJ1 _ _).2 ⟨(hs.bB 12 h2 false ((x1.f3 != 2) && (x1.f3 != 3))).cst, hw.pk [0, 1]⟩
 intro a w hh
 obtain ⟨hs, hw⟩ := (hJ1 _ _).1 hh
 rcases ifbE hk with ⟨h3, hk⟩ | ⟨h3, hk⟩
 ·refine Qr hs h3 ?_
  refine Qd (Qa (pn hs 1 [(4, Qb 1)] fun a hs => ?_))
  refine Qc (Qi ?_)
  obtain rfl := someE hk
  exact qr1 hQ hs ⟨rfl, hw.pk [1]⟩
 refine Qs hs h3 ?_
 refine Qg (Qd (Qd (Qa (pu hs 1 fun a hs => ?_))))
 refine Qj hs (hw.at_ 0 rfl) 6 fun a hs => pn hs 2 [(1, .bool x2), (2, (pt b1 0)), (16, .bool (decide ((x1.f6.length : Int) > 2048)))] fun a hs => Qc ?_
 rcases ifbE hk with ⟨h4, hk⟩ | ⟨h4, hk⟩
 ·refine Qr hs h4 ?_
  refine Qd (Qa (pn hs 1 [(4, Qb 6)] fun a hs => ?_))
  refine Qc (Qi ?_)
  obtain rfl := someE hk
  exact qr1 hQ hs ⟨rfl, hw.pk [1]⟩
 refine Qs hs h4 ?_
 refine Qg (Qd (Qd ?_))
 obtain ⟨J2, hJ2⟩ := mkJ fun a w => Sees a 47 [(46, .bool ((!((decide (x1.f0 > 0)) == x2)) || ((decide (x1.f1 < 1)) || ((decide (x1.f1 > 6)) || ((x1.f2 == 0) || ((x1.f3 == 2) && (decide (x1.f5 > 0))))))))] ∧ St g w [F] ih
 refine Qn J2 ?_ ?_
 ·refine pu hs 1 fun a hs => Qj hs (hw.at_ 0 rfl) 0 fun a hs => pu hs 4 fun a hs => ?_
  rcases boolE (!((decide (x1.f0 > 0)) == x2)) with h5 | h5
  ·have hs := hs.aB 22 h5
   refine pu hs 24 fun a hs => Qc ?_
   exact (hJ2 _ _).2 ⟨(hs.bB 46 h5 true ((!((decide (x1.f0 > 0)) == x2)) || ((decide (x1.f1 < 1)) || ((decide (x1.f1 > 6)) || ((x1.f2 == 0) || ((x1.f3 == 2) && (decide (x1.f5 > 0)))))))).cst, hw.pk [1]⟩
  have hs := hs.aB 22 h5
  refine pu hs 1 fun a hs => Qj hs (hw.at_ 0 rfl) 1 fun a hs => pn hs 3 [(2, (pt b1 0)), (27, .bool (decide (x1.f1 < 1)))] fun a hs => ?_
  rcases boolE (decide (x1.f1 < 1)) with h6 | h6
  ·have hs := hs.aB 27 h6
   refine pu hs 19 fun a hs => Qc ?_
   exact (hJ2 _ _).2 ⟨(hs.altB (b := true) 46 ((!((decide (x1.f0 > 0)) == x2)) || ((decide (x1.f1 < 1)) || ((decide (x1.f1 > 6)) || ((x1.f2 == 0) || ((x1.f3 == 2) && (decide (x1.f5 > 0))))))) (by kernel_rfl) (by first | (rw [h5, h6] <;> rfl) | (revert h5 h6; simp +contextual))).cast [46] (by kernel_rfl), hw.pk [1]⟩
  have hs := hs.aB 27 h6
  refine pu hs 1 fun a hs => Qj hs (hw.at_ 0 rfl) 1 fun a hs => pu hs 3 fun a hs => ?_
  rcases boolE (decide (x1.f1 > 6)) with h7 | h7
  ·have hs := hs.aB 32 h7
   refine pu hs 14 fun a hs => Qc ?_
   exact (hJ2 _ _).2 ⟨(hs.altB (b := true) 46 ((!((decide (x1.f0 > 0)) == x2)) || ((decide (x1.f1 < 1)) || ((decide (x1.f1 > 6)) || ((x1.f2 == 0) || ((x1.f3 == 2) && (decide (x1.f5 > 0))))))) (by kernel_rfl) (by first | (rw [h5, h6, h7] <;> rfl) | (revert h5 h6 h7; simp +contextual))).cast [46] (by kernel_rfl), hw.pk [1]⟩
  have hs := hs.aB 32 h7
  refine pu hs 1 fun a hs => Qj hs (hw.at_ 0 rfl) 2 fun a hs => pn hs 3 [(2, (pt b1 0)), (37, .bool (x1.f2 == 0))] fun a hs => ?_
  rcases boolE (x1.f2 == 0) with h8 | h8
  ·have hs := hs.aB 37 h8
   refine pu hs 9 fun a hs => Qc ?_
   exact (hJ2 _ _).2 ⟨(hs.altB (b := true) 46 ((!((decide (x1.f0 > 0)) == x2)) || ((decide (x1.f1 < 1)) || ((decide (x1.f1 > 6)) || ((x1.f2 == 0) || ((x1.f3 == 2) && (decide (x1.f5 > 0))))))) (by kernel_rfl) (by first | (rw [h5, h6, h7, h8] <;> rfl) | (revert h5 h6 h7 h8; simp +contextual))).cast [46] (by kernel_rfl), hw.pk [1]⟩
  have hs := hs.aB 37 h8
  refine pu hs 1 fun a hs => Qj hs (hw.at_ 0 rfl) 3 fun a hs => pu hs 2 fun a hs => ?_
  rcases boolE (x1.f3 == 2) with h9 | h9
  ·have hs := hs.aB 41 h9
   refine pu hs 1 fun a hs => Qj hs (hw.at_ 0 rfl) 5 fun a hs => pn hs 3 [(46, .bool (decide (x1.f5 > 0)))] fun a hs => Qc ?_
   exact (hJ2 _ _).2 ⟨(hs.altB (b := (decide (x1.f5 > 0))) 46 ((!((decide (x1.f0 > 0)) == x2)) || ((decide (x1.f1 < 1)) || ((decide (x1.f1 > 6)) || ((x1.f2 == 0) || ((x1.f3 == 2) && (decide (x1.f5 > 0))))))) (by kernel_rfl) (by first | (rw [h5, h6, h7, h8, h9] <;> rfl) | (revert h5 h6 h7 h8 h9; simp +contextual))).cast [46] (by kernel_rfl), hw.pk [1]⟩
  have hs := hs.aB 41 h9
  refine pu hs 5 fun a hs => Qc ?_
  exact (hJ2 _ _).2 ⟨(hs.altB (b := false) 46 ((!((decide (x1.f0 > 0)) == x2)) || ((decide (x1.f1 < 1)) || ((decide (x1.f1 > 6)) || ((x1.f2 == 0) || ((x1.f3 == 2) && (decide (x1.f5 > 0))))))) (by kernel_rfl) (by first | (rw [h5, h6, h7, h8, h9] <;> rfl) | (revert h5 h6 h7 h8 h9; simp +contextual))).cast [46] (by kernel_rfl), hw.pk [1]⟩
 intro a w hh
 obtain ⟨hs, hw⟩ := (hJ2 _ _).1 hh
 rcases ifbE hk with ⟨h10, hk⟩ | ⟨h10, hk⟩
 ·refine Qr hs h10 ?_
  refine Qd (Qa (pn hs 1 [(4, Qb 4)] fun a hs => ?_))
  refine Qc (Qi ?_)
  obtain rfl := someE hk
  exact qr1 hQ hs ⟨rfl, hw.pk [0]⟩
 refine Qs hs h10 ?_
 refine Qg (Qd (Qa (pn hs 1 [(4, Qb 0)] fun a hs => ?_)))
 refine Qc (Qi ?_)
 obtain rfl := someE hk
 exact qr1 hQ hs ⟨rfl, hw.pk [0]⟩
def QaX (x1 : M96) : Option Int :=
 (QbX x1 false).bind fun y1 =>
 some y1
theorem QgR {x1 : M96} {c1 : Nat} {p1 : Option Addr} {r : Int} (hk : QaX x1 = some r) {g w : World} {F : Ch} {ih : IH} (h1 : RSl e5 ih [] p1 c1 x1.f6) (hw : St g w [F] ih) :
  CallsR Tryz.prog 71 #[A96 x1 p1 c1] w fun v w' => v = Qb r ∧ St g w' [F] ih := by
 refine f_i Tryz.func71 rfl 5 rfl fun a Qf hQ hQn hs => ?_
 refine Qd (Qa (QC hs hw [Qe x1.f0, Qb x1.f1, Qe x1.f2, Qb x1.f3, Qk x1.f4, Qe x1.f5, .slice p1 x1.f6.length c1] 96 (fun b => (pt b 0)) (by kernel_rfl) (fun _ => by kernel_rfl) fun a w b1 hs hw => ?_))
 refine pn hs 1 [(1, (pt b1 0))] fun a hs => Qc (Qd (Qa (Qj hs (hw.at_ 0 rfl) 0 fun a hs => ?_)))
 obtain ⟨y1, h2, hk⟩ := bindE hk
 refine Qv hs (QgQ h2 h1 ((hw.pk [1]).pack 0)) fun a w v hv hs => ?_
 obtain ⟨rfl, hw⟩ := hv
 have hw := hw.unpack 0 rfl
 refine pn hs 1 [(2, Qb y1)] fun a hs => Qc (Qi ?_)
 obtain rfl := someE hk
 exact qr1 hQ hs ⟨rfl, hw.pk [0]⟩
def QG (x1 : M26) (x2 x3 : Int) : Option (M96 × Int) :=
 (QaX (M96.mk 0 x2 x3 x1.f0 x1.f1 x1.f2 x1.f3)).bind fun y1 =>
 if (y1 != 0) = true then some ((M96.mk 0 0 0 0 0 0 ([])), y1)
 else some ((M96.mk 0 x2 x3 x1.f0 x1.f1 x1.f2 x1.f3), 0)
theorem QdL {x1 : M26} {x2 x3 : Int} {c1 : Nat} {p1 : Option Addr} {r : M96 × Int} (hk : QG x1 x2 x3 = some r) {g w : World} {F : Ch} {ih : IH} (h1 : RSl e5 ih [] p1 c1 x1.f3) (hw : St g w [F] ih) :
  CallsR Tryz.prog 41 #[A26 x1 p1 c1, Qb x2, Qe x3] w fun v w' => ∃ (p2 : Option Addr) (c2 : Nat), v = .tuple #[.agg #[Qe r.1.f0, Qb r.1.f1, Qe r.1.f2, Qb r.1.f3, Qk r.1.f4, Qe r.1.f5, .slice p2 r.1.f6.length c2], Qb r.2] ∧ St g w' [F] ih ∧ RSl e5 ih [] p2 c2 r.1.f6 := by
 refine f_i Tryz.func41 rfl 28 rfl fun a Qf hQ hQn hs => ?_
 refine Qd (Qa (QC hs hw [Qb x1.f0, Qk x1.f1, Qe x1.f2, .slice p1 x1.f3.length c1, Qb x1.f4] 26 (fun b => (pt b 0)) (by kernel_rfl) (fun _ => by kernel_rfl) fun a w b1 hs hw => ?_))
 refine QaN hs hw [Qe 0, Qb 0, Qe 0, Qb 0, Qk 0, Qe 0, .slice none 0 0] 96 (fun b => (pt b 0)) fun a w b2 hs hw => ?_
 refine pn hs 1 [(1, Qb x2), (2, Qe x3), (3, (pt b1 0)), (6, (pt b2 0))] fun a hs => Qc (Qd (Qa (pu hs 3 fun a hs => ?_)))
 refine Qj hs (hw.at_ 1 rfl) 0 fun a hs => pu hs 1 fun a hs => Qj hs (hw.at_ 1 rfl) 1 fun a hs => pu hs 1 fun a hs => Qj hs (hw.at_ 1 rfl) 2 fun a hs => pn hs 1 [(6, (pt b2 0)), (10, Qb x2), (11, Qe x3), (13, Qb x1.f0), (15, Qk x1.f1), (17, Qe x1.f2), (18, (pt b1 3))] fun a hs => ?_
 refine Qj hs (hw.at_ 1 rfl) 3 fun a hs => pu hs 1 fun a hs => QaN hs hw [Qe 0, Qb 0, Qe 0, Qb 0, Qk 0, Qe 0, .slice none 0 0] 96 (fun b => (pt b 0)) fun a w b3 hs hw => ?_
 refine QE hs hw 0 rfl 0 (v := .agg #[Qe 0, Qb x2, Qe x3, Qb x1.f0, Qk x1.f1, Qe x1.f2, .slice p1 x1.f3.length c1]) fun a w hs hw => ?_
 have hs := hs.cst (e' := [(6, (pt b2 0)), (8, (pt b3 0))])
 have hw := hw.cL [k36 b3 x2 x3 x1.f0 x1.f1 x1.f2 p1 x1.f3 c1, k7 b2, k8 b1 x1.f0 x1.f1 x1.f2 p1 x1.f3 c1 x1.f4, F]
 refine Qc (Qd (Qd (Qa (Qj hs (hw.at_ 0 rfl) 0 fun a hs => ?_))))
 obtain ⟨y1, h2, hk⟩ := bindE hk
 refine Qv hs (QgR h2 h1 ((hw.pk [0, 1, 3]).pack 0)) fun a w v hv hs => ?_
 obtain ⟨rfl, hw⟩ := hv
 have hw := hw.unpack 0 rfl
 refine pn hs 1 [(6, (pt b2 0)), (8, (pt b3 0)), (9, Qb y1)] fun a hs => Qc (Qd (Qa (pn hs 2 [(6, (pt b2 0)), (8, (pt b3 0)), (9, Qb y1), (24, .bool (y1 != 0))] fun a hs => ?_)))
 refine Qc ?_
 rcases ifbE hk with ⟨h3, hk⟩ | ⟨h3, hk⟩
 ·refine Qr hs h3 ?_
  refine Qd (Qa (pu hs 2 fun a hs => ?_))
  refine QE hs hw 1 rfl 0 (v := .agg #[Qe 0, Qb 0, Qe 0, Qb 0, Qk 0, Qe 0, .slice none 0 0]) fun a w hs hw => ?_
  refine pn hs 1 [(6, (pt b2 0)), (7, Qb y1)] fun a hs => Qc (Qi ?_)
  obtain rfl := someE hk
  refine hQ _ _ (Qcs hs (l := [.cell 6 96, .tmp 7]) (vs := [.agg #[Qe 0, Qb 0, Qe 0, Qb 0, Qk 0, Qe 0, .slice none 0 0], Qb y1]) rfl (⟨Qab hs (hw.at_ 1 rfl) (by kernel_rfl) (v := .agg #[Qe 0, Qb 0, Qe 0, Qb 0, Qk 0, Qe 0, .slice none 0 0]) (by kernel_rfl), ⟨Qaf hs (v := Qb y1) (by kernel_rfl), trivial⟩⟩) (by kernel_rfl) ⟨none, 0, rfl, hw.pk [2], (RSl.nil _ _ _)⟩)
 refine Qs hs h3 ?_
 refine Qg (Qd (Qa (Qj hs (hw.at_ 0 rfl) 0 fun a hs => ?_)))
 refine QE hs hw 1 rfl 0 (v := .agg #[Qe 0, Qb x2, Qe x3, Qb x1.f0, Qk x1.f1, Qe x1.f2, .slice p1 x1.f3.length c1]) fun a w hs hw => ?_
 refine pn hs 1 [(6, (pt b2 0)), (7, Qb 0)] fun a hs => Qc (Qi ?_)
 obtain rfl := someE hk
 refine hQ _ _ (Qcs hs (l := [.cell 6 96, .tmp 7]) (vs := [.agg #[Qe 0, Qb x2, Qe x3, Qb x1.f0, Qk x1.f1, Qe x1.f2, .slice p1 x1.f3.length c1], Qb 0]) rfl (⟨Qab hs (hw.at_ 1 rfl) (by kernel_rfl) (v := .agg #[Qe 0, Qb x2, Qe x3, Qb x1.f0, Qk x1.f1, Qe x1.f2, .slice p1 x1.f3.length c1]) (by kernel_rfl), ⟨Qaf hs (v := Qb 0) (by kernel_rfl), trivial⟩⟩) (by kernel_rfl) ⟨p1, c1, rfl, hw.pk [2], h1⟩)
def Qct (k : Nat) (x1 : M44) : Option Int :=
 (QV k x1).bind fun y1 =>
 if (!y1) = true then some 0
 else (ix x1.f2 0).bind fun x2 =>
 some x2
theorem QeC {k : Nat} {x1 : M44} {c1 : Nat} {p1 : Option Addr} {r : Int} (hk : Qct k x1 = some r) {g w : World} {F : Ch} {ih : IH} (h1 : RSl e3 ih [] p1 c1 x1.f2) (hw : St g w [F] ih) :
  CallsR Tryz.prog 69 #[A44 x1 p1 c1] w fun v w' => v = Qb r ∧ St g w' [F] ih := by
 refine f_i Tryz.func69 rfl 10 rfl fun a Qf hQ hQn hs => ?_
 refine Qd (Qa (QC hs hw [Qb x1.f0, Qe x1.f1, .slice p1 x1.f2.length c1, .bool x1.f3, Qb x1.f4] 44 (fun b => (pt b 0)) (by kernel_rfl) (fun _ => by kernel_rfl) fun a w b1 hs hw => ?_))
 refine pn hs 1 [(1, (pt b1 0))] fun a hs => Qc (Qd (Qd (Qa (Qj hs (hw.at_ 0 rfl) 0 fun a hs => ?_))))
 obtain ⟨y1, h2, hk⟩ := bindE hk
 refine Qv hs (QaB h2 h1 ((hw.pk [0, 1]).pack 0)) fun a w v hv hs => ?_
 obtain ⟨rfl, hw⟩ := hv
 have hw := hw.unpack 0 rfl
 refine pn hs 1 [(1, (pt b1 0)), (5, .bool (!y1))] fun a hs => Qc ?_
 rcases ifbE hk with ⟨h3, hk⟩ | ⟨h3, hk⟩
 ·refine Qr hs h3 ?_
  refine Qd (Qa (pn hs 1 [(2, Qb 0)] fun a hs => ?_))
  refine Qc (Qi ?_)
  obtain rfl := someE hk
  exact qr1 hQ hs ⟨rfl, hw.pk [1]⟩
 refine Qs hs h3 ?_
 refine Qg (Qd (Qa (pu hs 1 fun a hs => ?_)))
 refine Qj hs (hw.at_ 0 rfl) 2 fun a hs => ?_
 obtain ⟨x2, h4, hk⟩ := bindE hk
 refine QbT hs h1 (by kernel_rfl) (by kernel_rfl) (k := .i64) (by kernel_rfl) 3 (by kernel_rfl) (by kernel_rfl) h4 fun a r39 cs henc at40 hs => ?_
 obtain rfl := henc
 refine Qj hs (at40 _ (hw.vwAll.nil.anti (Le.refl _))) 0 fun a hs => pn hs 1 [(2, Qb x2)] fun a hs => Qc (Qi ?_)
 obtain rfl := someE hk
 exact qr1 hQ hs ⟨rfl, hw.pk [1]⟩
def Qc1 (x1 : List M48) : Option (List M48) :=
 some x1
def Qc0 (x1 : List M48) : Option (List M48) :=
 some x1
def Q9 (k : Nat) (x1 : M60) : Option (List M48) :=
 (QU x1).bind fun y1 =>
 if (x1.f5.f0 == 1) = true then (
  ((Qbr k y1 x1.f5.f4).bind fun y2 =>
   some ([(M48.mk 19 (IntKind.i64.wrap (200 + x1.f0)) y2 y1.f0 y1.f1 0 x1.f2 0 0 0 0 x1.f5.f1 0 (M41.mk 0 0 0 0) (M44.mk 0 0 ([]) false 0) ([]) ([]) ([]))]) : Option (List M48)).bind fun s1 => Qc1 s1)
 else (QG x1.f5 x1.f0 x1.f2).bind fun y3 =>
 ((Qct k y1).bind fun y4 =>
  some ([(M48.mk 17 (IntKind.i64.wrap (200 + x1.f0)) y4 y1.f0 y1.f1 0 0 0 0 0 0 0 0 (M41.mk 0 0 0 0) (M44.mk 0 0 ([]) false 0) ([]) ([(M96.mk y3.1.f0 y3.1.f1 y3.1.f2 y3.1.f3 y3.1.f4 y3.1.f5 y3.1.f6)]) ([]))]) : Option (List M48)).bind fun s2 => Qc0 s2
theorem Qds {k : Nat} {x1 : M60} {c1 c2 c3 c4 : Nat} {p1 p2 p3 p4 : Option Addr} {r : (List M48)} (hk : Q9 k x1 = some r) {g w : World} {F : Ch} {ih : IH} (h1 : RSl e44 ih [] p1 c1 x1.f4) (h2 : RSl e5 ih [] p2 c2 x1.f5.f3) (h3 : RSl e5 ih [] p3 c3 x1.f7.f2) (h4 : RSl e5 ih [] p4 c4 x1.f9.f2) (hw : St g w [F] ih) :
  CallsR Tryz.prog 39 #[A60 x1 p1 c1 p2 c2 p3 c3 p4 c4] w fun v w' => ∃ (ih' : IH) (p5 : Option Addr) (c5 : Nat) (d1 : Ch), v = .slice p5 r.length c5 ∧ St g w' [d1, F] ih' ∧ Le ih ih' ∧ OSl e48 ih' p5 c5 r d1 := by
 refine f_i Tryz.func39 rfl 54 rfl fun a Qf hQ hQn hs => ?_
 refine Qd (Qa (QC hs hw [Qb x1.f0, Qb x1.f1, Qe x1.f2, Qb x1.f3, .slice p1 x1.f4.length c1, Qb x1.f5.f0, Qk x1.f5.f1, Qe x1.f5.f2, .slice p2 x1.f5.f3.length c2, Qb x1.f5.f4, Qb x1.f6, Qb x1.f7.f0, Qe x1.f7.f1, .slice p3 x1.f7.f2.length c3, Qe x1.f8, Qb x1.f9.f0, Qe x1.f9.f1, .slice p4 x1.f9.f2.length c4] 60 (fun b => (pt b 0)) (by kernel_rfl) (fun _ => by kernel_rfl) fun a w b1 hs hw => ?_))
 refine pn hs 1 [(1, (pt b1 0))] fun a hs => Qc (Qd (Qa (Qj hs (hw.at_ 0 rfl) 0 fun a hs => ?_)))
 obtain ⟨y1, h5, hk⟩ := bindE hk
 refine Qv hs (QcF h5 h1 h2 h3 h4 ((hw.pk [0, 1]).pack 0)) fun a w v hv hs => ?_
 obtain ⟨p6, c6, rfl, hw, h6⟩ := hv
 have hw := hw.unpack 0 rfl
 refine QaN hs hw [Qb 0, Qe 0, .slice none 0 0, .bool false, Qb 0] 44 (fun b => (pt b 0)) fun a w b2 hs hw => ?_
 refine QE hs hw 0 rfl 0 (v := A44 y1 p6 c6) fun a w hs hw => ?_
 have hs := hs.cst (e' := [(1, (pt b1 0)), (3, (pt b2 0))])
 have hw := hw.cL [k2 b2 y1.f0 y1.f1 p6 y1.f2 c6 y1.f3 y1.f4, k52 b1 x1.f0 x1.f1 x1.f2 x1.f3 p1 x1.f4 c1 x1.f5.f0 x1.f5.f1 x1.f5.f2 p2 x1.f5.f3 c2 x1.f5.f4 x1.f6 x1.f7.f0 x1.f7.f1 p3 x1.f7.f2 c3 x1.f8 x1.f9.f0 x1.f9.f1 p4 x1.f9.f2 c4, F]
 refine Qc (Qd (Qd (Qa (pu hs 2 fun a hs => ?_))))
 refine Qj hs (hw.at_ 1 rfl) 5 fun a hs => pn hs 1 [(1, (pt b1 0)), (3, (pt b2 0)), (11, .bool (x1.f5.f0 == 1))] fun a hs => Qc ?_
 rcases ifbE hk with ⟨h7, hk⟩ | ⟨h7, hk⟩
 ·refine Qr hs h7 (Qd ?_)
  obtain ⟨S, hD, kS⟩ := mkSXw hw [[], [], []] (K := []) rfl
  obtain ⟨y2, hx1, hk⟩ := bindE hk
  obtain ⟨J1, hJ1⟩ := mkJ fun a w => ∃ (x2 : List M48) (p7 : Option Addr) (c7 : Nat) (d2 : Ch), Qc1 x2 = some r ∧ Sees a 54 [(2, .slice p7 x2.length c7)] ∧ St g w [d2, F] ih ∧ OSl e48 ih p7 c7 x2 d2
  refine Qo (by kernel_rfl) (N := 20) rfl S J1 ?_ ?_
  ·have hw := hw.drew
   have hS : S (bA 20 0) _ := SXn hD (hw.vws [0, 1, 2])
   refine Qp (fuel := 19) kS hs hS [0] fun a hs hS => ?_
   refine Qy kS hs hS 1 rfl (SXb hD 1 rfl) 0 fun a hs hS => ?_
   refine Qp (fuel := 17) kS hs hS [2] fun a hs hS => ?_
   refine Qy kS hs hS 3 rfl (SXb hD 0 rfl) 0 fun a hs hS => ?_
   refine Qp (fuel := 14) kS hs hS [4, 5] fun a hs hS => ?_
   refine Qy kS hs hS 6 rfl (SXb hD 1 rfl) 9 fun a hs hS => ?_
   refine Qff (fuel := 12) kS hs hS [8] [(1, (pt b1 0)), (3, (pt b2 0)), (14, Qb (IntKind.i64.wrap (200 + x1.f0))), (15, A44 y1 p6 c6), (18, Qb x1.f5.f4), (20, (pt b2 0))] fun a hs hS => ?_
   refine Qy kS hs hS 9 rfl (SXb hD 0 rfl) 0 fun a hs hS => ?_
   refine Qp (fuel := 10) kS hs hS [10] fun a hs hS => ?_
   refine Qy kS hs hS 11 rfl (SXb hD 0 rfl) 1 fun a hs hS => ?_
   refine Qp (fuel := 8) kS hs hS [12] fun a hs hS => ?_
   refine Qy kS hs hS 13 rfl (SXb hD 1 rfl) 2 fun a hs hS => ?_
   refine Qff (fuel := 5) kS hs hS [14, 15] [(14, Qb (IntKind.i64.wrap (200 + x1.f0))), (15, A44 y1 p6 c6), (18, Qb x1.f5.f4), (21, Qb y1.f0), (23, Qe y1.f1), (25, Qe x1.f2), (27, (pt b1 6))] fun a hs hS => ?_
   refine Qy kS hs hS 16 rfl (SXb hD 1 rfl) 6 fun a hs hS => ?_
   refine QF [7] (QH ?_)
   obtain ⟨y3, h8, hx1⟩ := bindE hx1
   refine QaR hs rfl (Qgr h8 h6 ((hw.pk [0, 1, 2]).pack 0)) fun a w v hv hs => ?_
   obtain ⟨rfl, hw⟩ := hv
   have hw := hw.unpack 0 rfl
   refine nx hD ((hw.vws [0, 1, 2]).anti (Le.refl _)) fun hS => ?_
   refine Qp (fuel := 2) kS hs hS [17] fun a hs hS => ?_
   refine QF [18] (QH ?_)
   refine Qhy hs rfl hw [Qb 19, Qb (IntKind.i64.wrap (200 + x1.f0)), Qb y3, Qb y1.f0, Qe y1.f1, Qe 0, Qe x1.f2, Qe 0, Qe 0, Qe 0, Qb 0, Qk x1.f5.f1, Qb 0, Qb 0, Qb 0, Qe 0, Qb 0, Qb 0, Qe 0, .slice none 0 0, .bool false, Qb 0, .slice none 0 0, .slice none 0 0, .slice none 0 0] 48 (fun b => .slice (some ⟨b, 0, none⟩) 1 1) fun a w b3 hs hw => ?_
   refine nx hD ((hw.vws [1, 2, 3]).anti (Le.refl _)) fun hS => ?_
   refine Qu kS hs hS fun a hs => ?_
   obtain rfl := someE hx1
   exact (hJ1 _ _).2 ⟨([(M48.mk 19 (IntKind.i64.wrap (200 + x1.f0)) y3 y1.f0 y1.f1 0 x1.f2 0 0 0 0 x1.f5.f1 0 (M41.mk 0 0 0 0) (M44.mk 0 0 ([]) false 0) ([]) ([]) ([]))]), (some ⟨b3, 0, none⟩), 1, (k39 b3 (IntKind.i64.wrap (200 + x1.f0)) y3 y1.f0 y1.f1 x1.f2 x1.f5.f1), hk, hs.cst, hw.pk [0, 3], (OSl.of1 (E := e48) (ih := ih) (b := b3) (z := (M48.mk 19 (IntKind.i64.wrap (200 + x1.f0)) y3 y1.f0 y1.f1 0 x1.f2 0 0 0 0 x1.f5.f1 0 (M41.mk 0 0 0 0) (M44.mk 0 0 ([]) false 0) ([]) ([]) ([]))) ⟨none, 0, none, 0, none, 0, none, 0, rfl, (RSl.nil _ _ _), (RSl.nil _ _ _), (RSl.nil _ _ _), (RSl.nil _ _ _)⟩ (by simp [maxLen]))⟩
  intro a w hh
  obtain ⟨x2, p7, c7, d2, hk, hs, hw, h9⟩ := (hJ1 _ _).1 hh
  refine Qi ?_
  obtain rfl := someE hk
  exact qr1 hQ hs ⟨ih, p7, c7, d2, rfl, hw.pk [0, 1], (Le.refl _), h9⟩
 refine Qs hs h7 ?_
 refine Qg (Qd (Qa (pu hs 1 fun a hs => ?_)))
 refine Qj hs (hw.at_ 1 rfl) 5 fun a hs => pu hs 1 fun a hs => Qj hs (hw.at_ 1 rfl) 0 fun a hs => pu hs 1 fun a hs => Qj hs (hw.at_ 1 rfl) 2 fun a hs => ?_
 obtain ⟨y4, h10, hk⟩ := bindE hk
 refine Qv hs (QdL h10 h2 ((hw.pk [0, 1, 2]).pack 0)) fun a w v hv hs => ?_
 obtain ⟨p8, c8, rfl, hw, h11⟩ := hv
 have hw := hw.unpack 0 rfl
 refine pn hs 3 [(1, (pt b1 0)), (3, (pt b2 0)), (39, .agg #[Qe y4.1.f0, Qb y4.1.f1, Qe y4.1.f2, Qb y4.1.f3, Qk y4.1.f4, Qe y4.1.f5, .slice p8 y4.1.f6.length c8]), (40, Qb y4.2)] fun a hs => ?_
 refine QaN hs hw [Qe 0, Qb 0, Qe 0, Qb 0, Qk 0, Qe 0, .slice none 0 0] 96 (fun b => (pt b 0)) fun a w b4 hs hw => ?_
 refine QE hs hw 0 rfl 0 (v := .agg #[Qe y4.1.f0, Qb y4.1.f1, Qe y4.1.f2, Qb y4.1.f3, Qk y4.1.f4, Qe y4.1.f5, .slice p8 y4.1.f6.length c8]) fun a w hs hw => ?_
 refine pn hs 1 [(1, (pt b1 0)), (3, (pt b2 0)), (4, (pt b4 0))] fun a hs => ?_
 have hw := hw.cL [k9 b4 y4.1.f0 y4.1.f1 y4.1.f2 y4.1.f3 y4.1.f4 y4.1.f5 p8 y4.1.f6 c8, k2 b2 y1.f0 y1.f1 p6 y1.f2 c6 y1.f3 y1.f4, k52 b1 x1.f0 x1.f1 x1.f2 x1.f3 p1 x1.f4 c1 x1.f5.f0 x1.f5.f1 x1.f5.f2 p2 x1.f5.f3 c2 x1.f5.f4 x1.f6 x1.f7.f0 x1.f7.f1 p3 x1.f7.f2 c3 x1.f8 x1.f9.f0 x1.f9.f1 p4 x1.f9.f2 c4, F]
 refine Qc (Qd ?_)
 obtain ⟨S, hD, kS⟩ := mkSXw hw [[], [], [], []] (K := []) rfl
 obtain ⟨y5, hx2, hk⟩ := bindE hk
 obtain ⟨J2, hJ2⟩ := mkJ fun a w => ∃ (x3 : List M48) (p9 : Option Addr) (c9 : Nat) (d3 : Ch) (ih1 : IH), Qc0 x3 = some r ∧ Sees a 54 [(2, .slice p9 x3.length c9)] ∧ St g w [d3, F] ih1 ∧ Le ih ih1 ∧ OSl e48 ih1 p9 c9 x3 d3
 refine Qo (by kernel_rfl) (N := 14) rfl S J2 ?_ ?_
 ·have hw := hw.drew
  have hS : S (bA 14 0) _ := SXn hD (hw.vws [0, 1, 2, 3])
  refine Qp (fuel := 13) kS hs hS [0] fun a hs hS => ?_
  refine Qy kS hs hS 1 rfl (SXb hD 2 rfl) 0 fun a hs hS => ?_
  refine Qp (fuel := 11) kS hs hS [2] fun a hs hS => ?_
  refine Qy kS hs hS 3 rfl (SXb hD 1 rfl) 0 fun a hs hS => ?_
  refine Qp (fuel := 9) kS hs hS [5] fun a hs hS => ?_
  refine Qy kS hs hS 6 rfl (SXb hD 1 rfl) 0 fun a hs hS => ?_
  refine Qff (fuel := 7) kS hs hS [7] [(4, (pt b4 0)), (43, Qb (IntKind.i64.wrap (200 + x1.f0))), (44, A44 y1 p6 c6), (47, Qb y1.f0), (48, (pt b2 1))] fun a hs hS => ?_
  refine Qy kS hs hS 8 rfl (SXb hD 1 rfl) 1 fun a hs hS => ?_
  refine Qy kS hs hS 9 rfl (SXb hD 0 rfl) 0 fun a hs hS => ?_
  refine QF [4, 10] (QkI ?_ (QH ?_))
  ·obtain ⟨y6, h12, hx2⟩ := bindE hx2
   refine QaR hs rfl (QeC h12 h6 ((hw.pk [0, 1, 2, 3]).pack 0)) fun a w v hv hs => ?_
   obtain ⟨rfl, hw⟩ := hv
   have hw := hw.unpack 0 rfl
   refine nx hD ((hw.vws [0, 1, 2, 3]).anti (Le.refl _)) fun hS => ?_
   refine QF [10] (QH ?_)
   refine Qhy hs rfl hw [Qe y4.1.f0, Qb y4.1.f1, Qe y4.1.f2, Qb y4.1.f3, Qk y4.1.f4, Qe y4.1.f5, .slice p8 y4.1.f6.length c8] 96 (fun b => .slice (some ⟨b, 0, none⟩) 1 1) fun a w b5 hs hw => ?_
   refine nx hD ((hw.vws [1, 2, 3, 4]).anti (Le.refl _)) fun hS => ?_
   obtain ⟨ih2, hle1, hw, h13⟩ := (hw.pk [0, 1, 2, 3, 4]).fz ((OSl.of1 (E := e96) (ih := ih) (b := b5) (z := (M96.mk y4.1.f0 y4.1.f1 y4.1.f2 y4.1.f3 y4.1.f4 y4.1.f5 y4.1.f6)) ⟨p8, c8, rfl, h11⟩ (by simp [maxLen])).mono (Le.refl _))
   refine Qp (fuel := 2) kS hs hS [11] fun a hs hS => ?_
   refine QF [12] (QH ?_)
   refine Qhy hs rfl hw [Qb 17, Qb (IntKind.i64.wrap (200 + x1.f0)), Qb y6, Qb y1.f0, Qe y1.f1, Qe 0, Qe 0, Qe 0, Qe 0, Qe 0, Qb 0, Qk 0, Qb 0, Qb 0, Qb 0, Qe 0, Qb 0, Qb 0, Qe 0, .slice none 0 0, .bool false, Qb 0, .slice none 0 0, .slice (some ⟨b5, 0, none⟩) ([(M96.mk y4.1.f0 y4.1.f1 y4.1.f2 y4.1.f3 y4.1.f4 y4.1.f5 y4.1.f6)]).length 1, .slice none 0 0] 48 (fun b => .slice (some ⟨b, 0, none⟩) 1 1) fun a w b6 hs hw => ?_
   refine nx hD ((hw.vws [1, 2, 3, 4]).anti hle1) fun hS => ?_
   refine Qu kS hs hS fun a hs => ?_
   obtain rfl := someE hx2
   exact (hJ2 _ _).2 ⟨([(M48.mk 17 (IntKind.i64.wrap (200 + x1.f0)) y6 y1.f0 y1.f1 0 0 0 0 0 0 0 0 (M41.mk 0 0 0 0) (M44.mk 0 0 ([]) false 0) ([]) ([(M96.mk y4.1.f0 y4.1.f1 y4.1.f2 y4.1.f3 y4.1.f4 y4.1.f5 y4.1.f6)]) ([]))]), (some ⟨b6, 0, none⟩), 1, (k40 b6 (IntKind.i64.wrap (200 + x1.f0)) y6 y1.f0 y1.f1 (some ⟨b5, 0, none⟩) ([(M96.mk y4.1.f0 y4.1.f1 y4.1.f2 y4.1.f3 y4.1.f4 y4.1.f5 y4.1.f6)]) 1), ih2, hk, hs.cst, hw.pk [0, 4], hle1, (OSl.of1 (E := e48) (ih := ih2) (b := b6) (z := (M48.mk 17 (IntKind.i64.wrap (200 + x1.f0)) y6 y1.f0 y1.f1 0 0 0 0 0 0 0 0 (M41.mk 0 0 0 0) (M44.mk 0 0 ([]) false 0) ([]) ([(M96.mk y4.1.f0 y4.1.f1 y4.1.f2 y4.1.f3 y4.1.f4 y4.1.f5 y4.1.f6)]) ([]))) ⟨none, 0, none, 0, (some ⟨b5, 0, none⟩), 1, none, 0, rfl, (RSl.nil _ _ _), (RSl.nil _ _ _), h13, (RSl.nil _ _ _)⟩ (by simp [maxLen]))⟩
  refine Qhy hs rfl hw [Qe y4.1.f0, Qb y4.1.f1, Qe y4.1.f2, Qb y4.1.f3, Qk y4.1.f4, Qe y4.1.f5, .slice p8 y4.1.f6.length c8] 96 (fun b => .slice (some ⟨b, 0, none⟩) 1 1) fun a w b7 hs hw => ?_
  refine nx hD ((hw.vws [1, 2, 3, 4]).anti (Le.refl _)) fun hS => ?_
  refine QF [4] (QH ?_)
  obtain ⟨y7, h14, hx2⟩ := bindE hx2
  refine QaR hs rfl (QeC h14 h6 ((hw.pk [0, 1, 2, 3, 4]).pack 0)) fun a w v hv hs => ?_
  obtain ⟨rfl, hw⟩ := hv
  have hw := hw.unpack 0 rfl
  refine nx hD ((hw.vws [1, 2, 3, 4]).anti (Le.refl _)) fun hS => ?_
  obtain ⟨ih3, hle2, hw, h15⟩ := (hw.pk [0, 1, 2, 3, 4]).fz ((OSl.of1 (E := e96) (ih := ih) (b := b7) (z := (M96.mk y4.1.f0 y4.1.f1 y4.1.f2 y4.1.f3 y4.1.f4 y4.1.f5 y4.1.f6)) ⟨p8, c8, rfl, h11⟩ (by simp [maxLen])).mono (Le.refl _))
  refine Qp (fuel := 2) kS hs hS [11] fun a hs hS => ?_
  refine QF [12] (QH ?_)
  refine Qhy hs rfl hw [Qb 17, Qb (IntKind.i64.wrap (200 + x1.f0)), Qb y7, Qb y1.f0, Qe y1.f1, Qe 0, Qe 0, Qe 0, Qe 0, Qe 0, Qb 0, Qk 0, Qb 0, Qb 0, Qb 0, Qe 0, Qb 0, Qb 0, Qe 0, .slice none 0 0, .bool false, Qb 0, .slice none 0 0, .slice (some ⟨b7, 0, none⟩) ([(M96.mk y4.1.f0 y4.1.f1 y4.1.f2 y4.1.f3 y4.1.f4 y4.1.f5 y4.1.f6)]).length 1, .slice none 0 0] 48 (fun b => .slice (some ⟨b, 0, none⟩) 1 1) fun a w b8 hs hw => ?_
  refine nx hD ((hw.vws [1, 2, 3, 4]).anti hle2) fun hS => ?_
  refine Qu kS hs hS fun a hs => ?_
  obtain rfl := someE hx2
  exact (hJ2 _ _).2 ⟨([(M48.mk 17 (IntKind.i64.wrap (200 + x1.f0)) y7 y1.f0 y1.f1 0 0 0 0 0 0 0 0 (M41.mk 0 0 0 0) (M44.mk 0 0 ([]) false 0) ([]) ([(M96.mk y4.1.f0 y4.1.f1 y4.1.f2 y4.1.f3 y4.1.f4 y4.1.f5 y4.1.f6)]) ([]))]), (some ⟨b8, 0, none⟩), 1, (k40 b8 (IntKind.i64.wrap (200 + x1.f0)) y7 y1.f0 y1.f1 (some ⟨b7, 0, none⟩) ([(M96.mk y4.1.f0 y4.1.f1 y4.1.f2 y4.1.f3 y4.1.f4 y4.1.f5 y4.1.f6)]) 1), ih3, hk, hs.cst, hw.pk [0, 4], hle2, (OSl.of1 (E := e48) (ih := ih3) (b := b8) (z := (M48.mk 17 (IntKind.i64.wrap (200 + x1.f0)) y7 y1.f0 y1.f1 0 0 0 0 0 0 0 0 (M41.mk 0 0 0 0) (M44.mk 0 0 ([]) false 0) ([]) ([(M96.mk y4.1.f0 y4.1.f1 y4.1.f2 y4.1.f3 y4.1.f4 y4.1.f5 y4.1.f6)]) ([]))) ⟨none, 0, none, 0, (some ⟨b7, 0, none⟩), 1, none, 0, rfl, (RSl.nil _ _ _), (RSl.nil _ _ _), h15, (RSl.nil _ _ _)⟩ (by simp [maxLen]))⟩
 intro a w hh
 obtain ⟨x3, p9, c9, d3, ih1, hk, hs, hw, hle3, h16⟩ := (hJ2 _ _).1 hh
 refine Qi ?_
 obtain rfl := someE hk
 exact qr1 hQ hs ⟨ih1, p9, c9, d3, rfl, hw.pk [0, 1], hle3, h16⟩
def QcG (x1 : M60) (x2 : List M48) : Option (M60 × (List M48)) :=
 some ((M60.mk x1.f0 x1.f1 x1.f2 (IntKind.i64.wrap (x1.f3 + 1)) x1.f4 x1.f5 x1.f6 x1.f7 x1.f8 x1.f9), x2)
def QN (k : Nat) (x1 : M60) : Option (M60 × (List M48)) :=
 if (x1.f6 != 1) = true then some ((M60.mk x1.f0 x1.f1 x1.f2 (IntKind.i64.wrap (x1.f3 + 1)) x1.f4 x1.f5 x1.f6 x1.f7 x1.f8 x1.f9), [])
 else (if (x1.f1 == 0) = true then none
  else (Q9 k (M60.mk x1.f0 x1.f1 x1.f2 (IntKind.i64.wrap (x1.f3 + 1)) x1.f4 x1.f5 x1.f6 x1.f7 x1.f8 x1.f9)).bind fun y1 =>
  (QU (M60.mk x1.f0 x1.f1 x1.f2 (IntKind.i64.wrap (x1.f3 + 1)) x1.f4 x1.f5 x1.f6 x1.f7 x1.f8 x1.f9)).bind fun y2 =>
  (app y1 [(M48.mk 10 (IntKind.i64.wrap (200 + x1.f0)) (IntKind.i64.wrap (101 + ((IntKind.i64.wrap (x1.f3 + 1)).tmod x1.f1))) y2.f0 0 0 0 0 0 0 0 0 0 (M41.mk 0 0 0 0) (M44.mk 0 0 ([]) false 0) ([]) ([]) ([]))]).bind fun x2 =>
  some x2 : Option (List M48)).bind fun s1 => QcG x1 s1
theorem QeA {k : Nat} {x1 : M60} {c1 c2 c3 c4 : Nat} {p1 p2 p3 p4 : Option Addr} {r : M60 × (List M48)} (hk : QN k x1 = some r) {g w : World} {F : Ch} {ih : IH} (h1 : RSl e44 ih [] p1 c1 x1.f4) (h2 : RSl e5 ih [] p2 c2 x1.f5.f3) (h3 : RSl e5 ih [] p3 c3 x1.f7.f2) (h4 : RSl e5 ih [] p4 c4 x1.f9.f2) (hw : St g w [F] ih) :
  CallsR Tryz.prog 18 #[A60 x1 p1 c1 p2 c2 p3 c3 p4 c4] w fun v w' => ∃ (ih' : IH) (p5 : Option Addr) (c5 : Nat) (p6 : Option Addr) (c6 : Nat) (p7 : Option Addr) (c7 : Nat) (p8 : Option Addr) (c8 : Nat) (p9 : Option Addr) (c9 : Nat) (d1 : Ch), v = .tuple #[.agg #[Qb r.1.f0, Qb r.1.f1, Qe r.1.f2, Qb r.1.f3, .slice p5 r.1.f4.length c5, Qb r.1.f5.f0, Qk r.1.f5.f1, Qe r.1.f5.f2, .slice p6 r.1.f5.f3.length c6, Qb r.1.f5.f4, Qb r.1.f6, Qb r.1.f7.f0, Qe r.1.f7.f1, .slice p7 r.1.f7.f2.length c7, Qe r.1.f8, Qb r.1.f9.f0, Qe r.1.f9.f1, .slice p8 r.1.f9.f2.length c8], .slice p9 r.2.length c9] ∧ St g w' [d1, F] ih' ∧ Le ih ih' ∧ RSl e44 ih' [] p5 c5 r.1.f4 ∧ RSl e5 ih' [] p6 c6 r.1.f5.f3 ∧ RSl e5 ih' [] p7 c7 r.1.f7.f2 ∧ RSl e5 ih' [] p8 c8 r.1.f9.f2 ∧ OSl e48 ih' p9 c9 r.2 d1 := by
 refine f_i Tryz.func18 rfl 30 rfl fun a Qf hQ hQn hs => ?_
 refine Qd (Qa (QC hs hw [Qb x1.f0, Qb x1.f1, Qe x1.f2, Qb x1.f3, .slice p1 x1.f4.length c1, Qb x1.f5.f0, Qk x1.f5.f1, Qe x1.f5.f2, .slice p2 x1.f5.f3.length c2, Qb x1.f5.f4, Qb x1.f6, Qb x1.f7.f0, Qe x1.f7.f1, .slice p3 x1.f7.f2.length c3, Qe x1.f8, Qb x1.f9.f0, Qe x1.f9.f1, .slice p4 x1.f9.f2.length c4] 60 (fun b => (pt b 0)) (by kernel_rfl) (fun _ => by kernel_rfl) fun a w b1 hs hw => ?_))
 refine QaN hs hw [Qb 0, Qb 0, Qe 0, Qb 0, .slice none 0 0, Qb 0, Qk 0, Qe 0, .slice none 0 0, Qb 0, Qb 0, Qb 0, Qe 0, .slice none 0 0, Qe 0, Qb 0, Qe 0, .slice none 0 0] 60 (fun b => (pt b 0)) fun a w b2 hs hw => ?_
 refine pn hs 1 [(1, (pt b1 0)), (2, (pt b2 0))] fun a hs => Qc (Qd (Qa (pu hs 1 fun a hs => ?_)))
 refine Qj hs (hw.at_ 1 rfl) 3 fun a hs => pu hs 2 fun a hs => QE hs hw 1 rfl 3 (v := Qb (IntKind.i64.wrap (x1.f3 + 1))) fun a w hs hw => ?_
 have hs := hs.cst (e' := [(1, (pt b1 0)), (2, (pt b2 0))])
 refine Qc (Qd (Qd (Qa (pu hs 1 fun a hs => ?_))))
 refine Qj hs (hw.at_ 1 rfl) 10 fun a hs => pn hs 1 [(1, (pt b1 0)), (2, (pt b2 0)), (10, .bool (x1.f6 != 1))] fun a hs => Qc ?_
 rcases ifbE hk with ⟨h5, hk⟩ | ⟨h5, hk⟩
 ·refine Qr hs h5 ?_
  refine Qd (Qa (Qj hs (hw.at_ 1 rfl) 0 fun a hs => ?_))
  refine QE hs hw 0 rfl 0 (v := .agg #[Qb x1.f0, Qb x1.f1, Qe x1.f2, Qb (IntKind.i64.wrap (x1.f3 + 1)), .slice p1 x1.f4.length c1, Qb x1.f5.f0, Qk x1.f5.f1, Qe x1.f5.f2, .slice p2 x1.f5.f3.length c2, Qb x1.f5.f4, Qb x1.f6, Qb x1.f7.f0, Qe x1.f7.f1, .slice p3 x1.f7.f2.length c3, Qe x1.f8, Qb x1.f9.f0, Qe x1.f9.f1, .slice p4 x1.f9.f2.length c4]) fun a w hs hw => ?_
  refine pn hs 1 [(2, (pt b2 0)), (3, .slice none 0 0)] fun a hs => ?_
  have hw := hw.cL [k52 b2 x1.f0 x1.f1 x1.f2 (IntKind.i64.wrap (x1.f3 + 1)) p1 x1.f4 c1 x1.f5.f0 x1.f5.f1 x1.f5.f2 p2 x1.f5.f3 c2 x1.f5.f4 x1.f6 x1.f7.f0 x1.f7.f1 p3 x1.f7.f2 c3 x1.f8 x1.f9.f0 x1.f9.f1 p4 x1.f9.f2 c4, k52 b1 x1.f0 x1.f1 x1.f2 (IntKind.i64.wrap (x1.f3 + 1)) p1 x1.f4 c1 x1.f5.f0 x1.f5.f1 x1.f5.f2 p2 x1.f5.f3 c2 x1.f5.f4 x1.f6 x1.f7.f0 x1.f7.f1 p3 x1.f7.f2 c3 x1.f8 x1.f9.f0 x1.f9.f1 p4 x1.f9.f2 c4, F]
  refine Qc (Qi ?_)
  have hw := hw.nil
  obtain rfl := someE hk
  refine hQ _ _ (Qcs hs (l := [.cell 2 60, .tmp 3]) (vs := [.agg #[Qb x1.f0, Qb x1.f1, Qe x1.f2, Qb (IntKind.i64.wrap (x1.f3 + 1)), .slice p1 x1.f4.length c1, Qb x1.f5.f0, Qk x1.f5.f1, Qe x1.f5.f2, .slice p2 x1.f5.f3.length c2, Qb x1.f5.f4, Qb x1.f6, Qb x1.f7.f0, Qe x1.f7.f1, .slice p3 x1.f7.f2.length c3, Qe x1.f8, Qb x1.f9.f0, Qe x1.f9.f1, .slice p4 x1.f9.f2.length c4], .slice none 0 0]) rfl (⟨Qab hs (hw.at_ 1 rfl) (by kernel_rfl) (v := .agg #[Qb x1.f0, Qb x1.f1, Qe x1.f2, Qb (IntKind.i64.wrap (x1.f3 + 1)), .slice p1 x1.f4.length c1, Qb x1.f5.f0, Qk x1.f5.f1, Qe x1.f5.f2, .slice p2 x1.f5.f3.length c2, Qb x1.f5.f4, Qb x1.f6, Qb x1.f7.f0, Qe x1.f7.f1, .slice p3 x1.f7.f2.length c3, Qe x1.f8, Qb x1.f9.f0, Qe x1.f9.f1, .slice p4 x1.f9.f2.length c4]) (by kernel_rfl), ⟨Qaf hs (v := .slice none 0 0) (by kernel_rfl), trivial⟩⟩) (by kernel_rfl) ⟨ih, p1, c1, p2, c2, p3, c3, p4, c4, none, 0, ([]), rfl, hw.pk [0, 3], (Le.refl _), h1, h2, h3, h4, (OSl.nil _ _)⟩)
 refine Qs hs h5 ?_
 refine Qg (Qd ?_)
 have hw := hw.cL [k51 b2, k52 b1 x1.f0 x1.f1 x1.f2 (IntKind.i64.wrap (x1.f3 + 1)) p1 x1.f4 c1 x1.f5.f0 x1.f5.f1 x1.f5.f2 p2 x1.f5.f3 c2 x1.f5.f4 x1.f6 x1.f7.f0 x1.f7.f1 p3 x1.f7.f2 c3 x1.f8 x1.f9.f0 x1.f9.f1 p4 x1.f9.f2 c4, F]
 obtain ⟨S, hD, kS⟩ := mkSXw hw [[18], [], []] (K := [18]) rfl
 obtain ⟨y1, hx1, hk⟩ := bindE hk
 obtain ⟨J1, hJ1⟩ := mkJ fun a w => ∃ (x2 : List M48) (p10 : Option Addr) (c10 : Nat) (d2 : Ch) (ih1 : IH), QcG x1 x2 = some r ∧ Sees a 30 [(2, (pt b2 0)), (3, .slice p10 x2.length c10)] ∧ St g w [k52 b2 x1.f0 x1.f1 x1.f2 (IntKind.i64.wrap (x1.f3 + 1)) p1 x1.f4 c1 x1.f5.f0 x1.f5.f1 x1.f5.f2 p2 x1.f5.f3 c2 x1.f5.f4 x1.f6 x1.f7.f0 x1.f7.f1 p3 x1.f7.f2 c3 x1.f8 x1.f9.f0 x1.f9.f1 p4 x1.f9.f2 c4, d2, F] ih1 ∧ Le ih ih1 ∧ OSl e48 ih1 p10 c10 x2 d2
 refine Qo (by kernel_rfl) (N := 20) rfl S J1 ?_ ?_
 ·have hw := hw.drew
  have hS : S (bA 20 0) _ := SXn hD (hw.vws [0, 1, 2])
  refine Qy kS hs hS 0 rfl (SXb hD 1 rfl) 0 fun a hs hS => ?_
  refine Qy kS hs hS 1 rfl (SXb hD 1 rfl) 0 fun a hs hS => ?_
  refine Qp (fuel := 17) kS hs hS [3] fun a hs hS => ?_
  refine Qy kS hs hS 4 rfl (SXb hD 1 rfl) 0 fun a hs hS => ?_
  refine Qp (fuel := 14) kS hs hS [5, 6] fun a hs hS => ?_
  refine Qy kS hs hS 7 rfl (SXb hD 1 rfl) 3 fun a hs hS => ?_
  refine Qff (fuel := 12) kS hs hS [8] [(1, (pt b1 0)), (2, (pt b2 0)), (12, .agg #[Qb x1.f0, Qb x1.f1, Qe x1.f2, Qb (IntKind.i64.wrap (x1.f3 + 1)), .slice p1 x1.f4.length c1, Qb x1.f5.f0, Qk x1.f5.f1, Qe x1.f5.f2, .slice p2 x1.f5.f3.length c2, Qb x1.f5.f4, Qb x1.f6, Qb x1.f7.f0, Qe x1.f7.f1, .slice p3 x1.f7.f2.length c3, Qe x1.f8, Qb x1.f9.f0, Qe x1.f9.f1, .slice p4 x1.f9.f2.length c4]), (13, .agg #[Qb x1.f0, Qb x1.f1, Qe x1.f2, Qb (IntKind.i64.wrap (x1.f3 + 1)), .slice p1 x1.f4.length c1, Qb x1.f5.f0, Qk x1.f5.f1, Qe x1.f5.f2, .slice p2 x1.f5.f3.length c2, Qb x1.f5.f4, Qb x1.f6, Qb x1.f7.f0, Qe x1.f7.f1, .slice p3 x1.f7.f2.length c3, Qe x1.f8, Qb x1.f9.f0, Qe x1.f9.f1, .slice p4 x1.f9.f2.length c4]), (17, Qb (IntKind.i64.wrap (200 + x1.f0))), (19, Qb (IntKind.i64.wrap (x1.f3 + 1))), (20, (pt b1 1))] fun a hs hS => ?_
  refine Qy kS hs hS 9 rfl (SXb hD 1 rfl) 1 fun a hs hS => ?_
  rcases ifbE hx1 with ⟨h6, hx1⟩ | ⟨h6, hx1⟩
  ·cases hx1
  refine QlS (fuel := 10) kS hs hS 10 rfl (by kernel_rfl) (by kernel_rfl) .i64 (i := IntKind.i64.wrap (x1.f3 + 1)) (j := x1.f1) (by kernel_rfl) (by kernel_rfl) (by simpa using h6) fun a hs hS => ?_
  refine Qgn hS fun hS => ?_
  refine Qp (fuel := 9) kS hs hS [11] fun a hs hS => ?_
  refine Qy kS hs hS 12 rfl (SXb hD 1 rfl) 0 fun a hs hS => ?_
  refine QF [2] (QH ?_)
  obtain ⟨y2, h7, hx1⟩ := bindE hx1
  refine QaR hs rfl (Qds h7 h1 h2 h3 h4 ((hw.pk [0, 1, 2]).pack 0)) fun a w v hv hs => ?_
  obtain ⟨ih2, p11, c11, d3, rfl, hw, hle1, h8⟩ := hv
  have hw := hw.unpack 1 rfl
  refine nx hD ((hw.vws [1, 2, 3]).anti hle1) fun hS => ?_
  refine QF [13] (QH ?_)
  obtain ⟨y3, h9, hx1⟩ := bindE hx1
  refine QaR hs rfl (QcF h9 (h1.mono hle1) (h2.mono hle1) (h3.mono hle1) (h4.mono hle1) ((hw.pk [0, 1, 2, 3]).pack 0)) fun a w v hv hs => ?_
  obtain ⟨p12, c12, rfl, hw, h10⟩ := hv
  have hw := hw.unpack 0 rfl
  refine nx hD ((hw.vws [1, 2, 3]).anti hle1) fun hS => ?_
  refine Qp (fuel := 4) kS hs hS [14, 15] fun a hs hS => ?_
  refine QF [16] (QH ?_)
  refine Qhy hs rfl hw [Qb 10, Qb (IntKind.i64.wrap (200 + x1.f0)), Qb (IntKind.i64.wrap (101 + ((IntKind.i64.wrap (x1.f3 + 1)).tmod x1.f1))), Qb y3.f0, Qe 0, Qe 0, Qe 0, Qe 0, Qe 0, Qe 0, Qb 0, Qk 0, Qb 0, Qb 0, Qb 0, Qe 0, Qb 0, Qb 0, Qe 0, .slice none 0 0, .bool false, Qb 0, .slice none 0 0, .slice none 0 0, .slice none 0 0] 48 (fun b => .slice (some ⟨b, 0, none⟩) 1 1) fun a w b3 hs hw => ?_
  refine nx hD ((hw.vws [2, 3, 4]).anti hle1) fun hS => ?_
  refine QF [17] (QH ?_)
  obtain ⟨x3, h11, hx1⟩ := bindE hx1
  refine QjH hs rfl hw (E := e48) Qlx 1 rfl h8 (by kernel_rfl) (by kernel_rfl) (c2 := 1) (by kernel_rfl) (hw.at_ 0 rfl) (z := (M48.mk 10 (IntKind.i64.wrap (200 + x1.f0)) (IntKind.i64.wrap (101 + ((IntKind.i64.wrap (x1.f3 + 1)).tmod x1.f1))) y3.f0 0 0 0 0 0 0 0 0 0 (M41.mk 0 0 0 0) (M44.mk 0 0 ([]) false 0) ([]) ([]) ([]))) ⟨none, 0, none, 0, none, 0, none, 0, rfl, (RSl.nil _ _ _), (RSl.nil _ _ _), (RSl.nil _ _ _), (RSl.nil _ _ _)⟩ h11 fun a w p13 c13 d4 h12 hw hs => ?_
  refine nx hD ((hw.vws [2, 3, 4]).anti hle1) fun hS => ?_
  refine QF [18] (QH ?_)
  refine QfM hs hw rfl 2 rfl 0 (v := .agg #[Qb x1.f0, Qb x1.f1, Qe x1.f2, Qb (IntKind.i64.wrap (x1.f3 + 1)), .slice p1 x1.f4.length c1, Qb x1.f5.f0, Qk x1.f5.f1, Qe x1.f5.f2, .slice p2 x1.f5.f3.length c2, Qb x1.f5.f4, Qb x1.f6, Qb x1.f7.f0, Qe x1.f7.f1, .slice p3 x1.f7.f2.length c3, Qe x1.f8, Qb x1.f9.f0, Qe x1.f9.f1, .slice p4 x1.f9.f2.length c4]) fun a w hs hw => ?_
  refine nx hD ((hw.vws [3, 4]).anti hle1) fun hS => ?_
  refine Qu kS hs hS fun a hs => ?_
  obtain rfl := someE hx1
  exact (hJ1 _ _).2 ⟨x3, p13, c13, d4, ih2, hk, hs.cst, hw.pk [2, 1, 4], hle1, h12⟩
 intro a w hh
 obtain ⟨x2, p10, c10, d2, ih1, hk, hs, hw, hle2, h13⟩ := (hJ1 _ _).1 hh
 refine Qi ?_
 obtain rfl := someE hk
 refine hQ _ _ (Qcs hs (l := [.cell 2 60, .tmp 3]) (vs := [.agg #[Qb x1.f0, Qb x1.f1, Qe x1.f2, Qb (IntKind.i64.wrap (x1.f3 + 1)), .slice p1 x1.f4.length c1, Qb x1.f5.f0, Qk x1.f5.f1, Qe x1.f5.f2, .slice p2 x1.f5.f3.length c2, Qb x1.f5.f4, Qb x1.f6, Qb x1.f7.f0, Qe x1.f7.f1, .slice p3 x1.f7.f2.length c3, Qe x1.f8, Qb x1.f9.f0, Qe x1.f9.f1, .slice p4 x1.f9.f2.length c4], .slice p10 x2.length c10]) rfl (⟨Qab hs (hw.at_ 0 rfl) (by kernel_rfl) (v := .agg #[Qb x1.f0, Qb x1.f1, Qe x1.f2, Qb (IntKind.i64.wrap (x1.f3 + 1)), .slice p1 x1.f4.length c1, Qb x1.f5.f0, Qk x1.f5.f1, Qe x1.f5.f2, .slice p2 x1.f5.f3.length c2, Qb x1.f5.f4, Qb x1.f6, Qb x1.f7.f0, Qe x1.f7.f1, .slice p3 x1.f7.f2.length c3, Qe x1.f8, Qb x1.f9.f0, Qe x1.f9.f1, .slice p4 x1.f9.f2.length c4]) (by kernel_rfl), ⟨Qaf hs (v := .slice p10 x2.length c10) (by kernel_rfl), trivial⟩⟩) (by kernel_rfl) ⟨ih1, p1, c1, p2, c2, p3, c3, p4, c4, p10, c10, d2, rfl, hw.pk [1, 2], hle2, (h1.mono hle2), (h2.mono hle2), (h3.mono hle2), (h4.mono hle2), h13⟩)
def Qcj (x1 : M60) (x2 : M26) (x3 : List M48) : Option (M60 × (List M48) × Int) :=
 some ((M60.mk x1.f0 x1.f1 (IntKind.u64.wrap (x1.f2 + 1)) x1.f3 x1.f4 x2 1 (M51.mk 0 0 ([])) x1.f8 x1.f9), x3, 0)
def Qa6 (k : Nat) (x1 : M60) (x2 : M26) : Option (M60 × (List M48) × Int) :=
 ((Q9 k (M60.mk x1.f0 x1.f1 (IntKind.u64.wrap (x1.f2 + 1)) x1.f3 x1.f4 x2 1 (M51.mk 0 0 ([])) x1.f8 x1.f9)).bind fun y1 =>
  some y1 : Option (List M48)).bind fun s1 => Qcj x1 x2 s1
def Qt (k : Nat) (x1 : M60) (x2 : M26) : Option (M60 × (List M48) × Int) :=
 if (x1.f6 == 1) = true then some (x1, [], 12)
 else if ((decide (x2.f0 < 1)) || (decide (x2.f0 > 3))) = true then some (x1, [], 1)
 else (if (x2.f0 == 1) = true then (
   if ((decide (x2.f2 > 0)) || (decide ((x2.f3.length : Int) > 0))) = true then some (.inl (x1, [], 4))
   else some (.inr ()))
  else (QG x2 x1.f0 (IntKind.u64.wrap (x1.f2 + 1))).bind fun y1 =>
  if (y1.2 != 0) = true then some (.inl (x1, [], y1.2))
  else some (.inr ()) : Option (Sum (M60 × (List M48) × Int) Unit)).bind fun
  | .inl z => some z
  | .inr _ => Qa6 k x1 x2
theorem QcK {k : Nat} {x1 : M60} {x2 : M26} {c1 c2 c3 c4 c5 : Nat} {p1 p2 p3 p4 p5 : Option Addr} {r : M60 × (List M48) × Int} (hk : Qt k x1 x2 = some r) {g w : World} {F : Ch} {ih : IH} (h1 : RSl e44 ih [] p1 c1 x1.f4) (h2 : RSl e5 ih [] p2 c2 x1.f5.f3) (h3 : RSl e5 ih [] p3 c3 x1.f7.f2) (h4 : RSl e5 ih [] p4 c4 x1.f9.f2) (h5 : RSl e5 ih [] p5 c5 x2.f3) (hw : St g w [F] ih) :
  CallsR Tryz.prog 19 #[A60 x1 p1 c1 p2 c2 p3 c3 p4 c4, A26 x2 p5 c5] w fun v w' => ∃ (ih' : IH) (p6 : Option Addr) (c6 : Nat) (p7 : Option Addr) (c7 : Nat) (p8 : Option Addr) (c8 : Nat) (p9 : Option Addr) (c9 : Nat) (p10 : Option Addr) (c10 : Nat) (d1 : Ch), v = .tuple #[.agg #[Qb r.1.f0, Qb r.1.f1, Qe r.1.f2, Qb r.1.f3, .slice p6 r.1.f4.length c6, Qb r.1.f5.f0, Qk r.1.f5.f1, Qe r.1.f5.f2, .slice p7 r.1.f5.f3.length c7, Qb r.1.f5.f4, Qb r.1.f6, Qb r.1.f7.f0, Qe r.1.f7.f1, .slice p8 r.1.f7.f2.length c8, Qe r.1.f8, Qb r.1.f9.f0, Qe r.1.f9.f1, .slice p9 r.1.f9.f2.length c9], .slice p10 r.2.1.length c10, Qb r.2.2] ∧ St g w' [d1, F] ih' ∧ Le ih ih' ∧ RSl e44 ih' [] p6 c6 r.1.f4 ∧ RSl e5 ih' [] p7 c7 r.1.f5.f3 ∧ RSl e5 ih' [] p8 c8 r.1.f7.f2 ∧ RSl e5 ih' [] p9 c9 r.1.f9.f2 ∧ OSl e48 ih' p10 c10 r.2.1 d1 := by
 refine f_i Tryz.func19 rfl 61 rfl fun a Qf hQ hQn hs => ?_
 refine Qd (Qa (QC hs hw [Qb x1.f0, Qb x1.f1, Qe x1.f2, Qb x1.f3, .slice p1 x1.f4.length c1, Qb x1.f5.f0, Qk x1.f5.f1, Qe x1.f5.f2, .slice p2 x1.f5.f3.length c2, Qb x1.f5.f4, Qb x1.f6, Qb x1.f7.f0, Qe x1.f7.f1, .slice p3 x1.f7.f2.length c3, Qe x1.f8, Qb x1.f9.f0, Qe x1.f9.f1, .slice p4 x1.f9.f2.length c4] 60 (fun b => (pt b 0)) (by kernel_rfl) (fun _ => by kernel_rfl) fun a w b1 hs hw => ?_))
 refine QaN hs hw [Qb x2.f0, Qk x2.f1, Qe x2.f2, .slice p5 x2.f3.length c5, Qb x2.f4] 26 (fun b => (pt b 0)) fun a w b2 hs hw => ?_
 refine QaN hs hw [Qb 0, Qb 0, Qe 0, Qb 0, .slice none 0 0, Qb 0, Qk 0, Qe 0, .slice none 0 0, Qb 0, Qb 0, Qb 0, Qe 0, .slice none 0 0, Qe 0, Qb 0, Qe 0, .slice none 0 0] 60 (fun b => (pt b 0)) fun a w b3 hs hw => ?_
 refine pn hs 2 [(2, (pt b1 0)), (3, (pt b2 0)), (4, (pt b3 0))] fun a hs => Qc (Qd (Qd (Qa (pu hs 1 fun a hs => ?_))))
 refine Qj hs (hw.at_ 2 rfl) 10 fun a hs => pn hs 1 [(2, (pt b1 0)), (3, (pt b2 0)), (4, (pt b3 0)), (11, .bool (x1.f6 == 1))] fun a hs => Qc ?_
 rcases ifbE hk with ⟨h6, hk⟩ | ⟨h6, hk⟩
 ·refine Qr hs h6 ?_
  refine Qd (Qa (Qj hs (hw.at_ 2 rfl) 0 fun a hs => ?_))
  refine QE hs hw 0 rfl 0 (v := A60 x1 p1 c1 p2 c2 p3 c3 p4 c4) fun a w hs hw => ?_
  refine pn hs 2 [(4, (pt b3 0)), (5, .slice none 0 0), (6, Qb 12)] fun a hs => ?_
  have hw := hw.cL [k52 b3 x1.f0 x1.f1 x1.f2 x1.f3 p1 x1.f4 c1 x1.f5.f0 x1.f5.f1 x1.f5.f2 p2 x1.f5.f3 c2 x1.f5.f4 x1.f6 x1.f7.f0 x1.f7.f1 p3 x1.f7.f2 c3 x1.f8 x1.f9.f0 x1.f9.f1 p4 x1.f9.f2 c4, k8 b2 x2.f0 x2.f1 x2.f2 p5 x2.f3 c5 x2.f4, k52 b1 x1.f0 x1.f1 x1.f2 x1.f3 p1 x1.f4 c1 x1.f5.f0 x1.f5.f1 x1.f5.f2 p2 x1.f5.f3 c2 x1.f5.f4 x1.f6 x1.f7.f0 x1.f7.f1 p3 x1.f7.f2 c3 x1.f8 x1.f9.f0 x1.f9.f1 p4 x1.f9.f2 c4, F]
  refine Qc (Qi ?_)
  have hw := hw.nil
  obtain rfl := someE hk
  refine hQ _ _ (Qcs hs (l := [.cell 4 60, .tmp 5, .tmp 6]) (vs := [A60 x1 p1 c1 p2 c2 p3 c3 p4 c4, .slice none 0 0, Qb 12]) rfl (⟨Qab hs (hw.at_ 1 rfl) (by kernel_rfl) (v := A60 x1 p1 c1 p2 c2 p3 c3 p4 c4) (by kernel_rfl), ⟨Qaf hs (v := .slice none 0 0) (by kernel_rfl), ⟨Qaf hs (v := Qb 12) (by kernel_rfl), trivial⟩⟩⟩) (by kernel_rfl) ⟨ih, p1, c1, p2, c2, p3, c3, p4, c4, none, 0, ([]), rfl, hw.pk [0, 4], (Le.refl _), h1, h2, h3, h4, (OSl.nil _ _)⟩)
 refine Qs hs h6 ?_
 refine Qg (Qd (Qd ?_))
 obtain ⟨J1, hJ1⟩ := mkJ fun a w => Sees a 61 [(2, (pt b1 0)), (3, (pt b2 0)), (4, (pt b3 0)), (20, .bool ((decide (x2.f0 < 1)) || (decide (x2.f0 > 3))))] ∧ St g w [k51 b3, k8 b2 x2.f0 x2.f1 x2.f2 p5 x2.f3 c5 x2.f4, k52 b1 x1.f0 x1.f1 x1.f2 x1.f3 p1 x1.f4 c1 x1.f5.f0 x1.f5.f1 x1.f5.f2 p2 x1.f5.f3 c2 x1.f5.f4 x1.f6 x1.f7.f0 x1.f7.f1 p3 x1.f7.f2 c3 x1.f8 x1.f9.f0 x1.f9.f1 p4 x1.f9.f2 c4, F] ih
 refine Qn J1 ?_ ?_
 ·refine pu hs 1 fun a hs => Qj hs (hw.at_ 1 rfl) 0 fun a hs => pu hs 2 fun a hs => ?_
  rcases boolE (decide (x2.f0 < 1)) with h7 | h7
  ·have hs := hs.aB 16 h7
   refine pu hs 4 fun a hs => Qc ?_
   exact (hJ1 _ _).2 ⟨(hs.bB 20 h7 true ((decide (x2.f0 < 1)) || (decide (x2.f0 > 3)))).cst, hw.pk [0, 1, 2, 3]⟩
  have hs := hs.aB 16 h7
  refine pu hs 1 fun a hs => Qj hs (hw.at_ 1 rfl) 0 fun a hs => pn hs 2 [(2, (pt b1 0)), (3, (pt b2 0)), (4, (pt b3 0)), (20, .bool (decide (x2.f0 > 3)))] fun a hs => ?_
  refine Qc ?_
  exact (hJ1 _ _).2 ⟨(hs.bB 20 h7 (decide (x2.f0 > 3)) ((decide (x2.f0 < 1)) || (decide (x2.f0 > 3)))).cst, hw.pk [0, 1, 2, 3]⟩
 intro a w hh
 obtain ⟨hs, hw⟩ := (hJ1 _ _).1 hh
 rcases ifbE hk with ⟨h8, hk⟩ | ⟨h8, hk⟩
 ·refine Qr hs h8 ?_
  refine Qd (Qa (Qj hs (hw.at_ 2 rfl) 0 fun a hs => ?_))
  refine QE hs hw 0 rfl 0 (v := A60 x1 p1 c1 p2 c2 p3 c3 p4 c4) fun a w hs hw => ?_
  refine pn hs 2 [(4, (pt b3 0)), (5, .slice none 0 0), (6, Qb 1)] fun a hs => Qc (Qi ?_)
  have hw := hw.nil
  obtain rfl := someE hk
  refine hQ _ _ (Qcs hs (l := [.cell 4 60, .tmp 5, .tmp 6]) (vs := [A60 x1 p1 c1 p2 c2 p3 c3 p4 c4, .slice none 0 0, Qb 1]) rfl (⟨Qab hs (hw.at_ 1 rfl) (by kernel_rfl) (v := A60 x1 p1 c1 p2 c2 p3 c3 p4 c4) (by kernel_rfl), ⟨Qaf hs (v := .slice none 0 0) (by kernel_rfl), ⟨Qaf hs (v := Qb 1) (by kernel_rfl), trivial⟩⟩⟩) (by kernel_rfl) ⟨ih, p1, c1, p2, c2, p3, c3, p4, c4, none, 0, ([]), rfl, hw.pk [0, 4], (Le.refl _), h1, h2, h3, h4, (OSl.nil _ _)⟩)
 refine Qs hs h8 (Qg ?_)
 obtain ⟨y1, hx1, hk⟩ := bindE hk
 obtain ⟨J2, hJ2⟩ := mkJ fun a w => Qa6 k x1 x2 = some r ∧ Sees a 61 [(2, (pt b1 0)), (3, (pt b2 0)), (4, (pt b3 0))] ∧ St g w [k51 b3, k8 b2 x2.f0 x2.f1 x2.f2 p5 x2.f3 c5 x2.f4, k52 b1 x1.f0 x1.f1 x1.f2 x1.f3 p1 x1.f4 c1 x1.f5.f0 x1.f5.f1 x1.f5.f2 p2 x1.f5.f3 c2 x1.f5.f4 x1.f6 x1.f7.f0 x1.f7.f1 p3 x1.f7.f2 c3 x1.f8 x1.f9.f0 x1.f9.f1 p4 x1.f9.f2 c4, F] ih
 refine QaG J2 ?_ ?_
 ·refine Qd (Qa (pu hs 1 fun a hs => ?_))
  refine Qj hs (hw.at_ 1 rfl) 0 fun a hs => pn hs 1 [(2, (pt b1 0)), (3, (pt b2 0)), (4, (pt b3 0)), (24, .bool (x2.f0 == 1))] fun a hs => Qc ?_
  rcases ifbE hx1 with ⟨h9, hx1⟩ | ⟨h9, hx1⟩
  ·refine Qr hs h9 (Qd ?_)
   obtain ⟨J3, hJ3⟩ := mkJ fun a w => Sees a 61 [(2, (pt b1 0)), (3, (pt b2 0)), (4, (pt b3 0)), (33, .bool ((decide (x2.f2 > 0)) || (decide ((x2.f3.length : Int) > 0))))] ∧ St g w [k51 b3, k8 b2 x2.f0 x2.f1 x2.f2 p5 x2.f3 c5 x2.f4, k52 b1 x1.f0 x1.f1 x1.f2 x1.f3 p1 x1.f4 c1 x1.f5.f0 x1.f5.f1 x1.f5.f2 p2 x1.f5.f3 c2 x1.f5.f4 x1.f6 x1.f7.f0 x1.f7.f1 p3 x1.f7.f2 c3 x1.f8 x1.f9.f0 x1.f9.f1 p4 x1.f9.f2 c4, F] ih
   refine Qn J3 ?_ ?_
   ·refine pu hs 1 fun a hs => Qj hs (hw.at_ 1 rfl) 2 fun a hs => pu hs 2 fun a hs => ?_
    rcases boolE (decide (x2.f2 > 0)) with h10 | h10
    ·have hs := hs.aB 28 h10
     refine pu hs 5 fun a hs => Qc ?_
     exact (hJ3 _ _).2 ⟨(hs.bB 33 h10 true ((decide (x2.f2 > 0)) || (decide ((x2.f3.length : Int) > 0)))).cst, hw.pk [0, 1, 2, 3]⟩
    have hs := hs.aB 28 h10
    refine pu hs 1 fun a hs => Qj hs (hw.at_ 1 rfl) 3 fun a hs => pn hs 3 [(2, (pt b1 0)), (3, (pt b2 0)), (4, (pt b3 0)), (33, .bool (decide ((x2.f3.length : Int) > 0)))] fun a hs => ?_
    refine Qc ?_
    exact (hJ3 _ _).2 ⟨(hs.bB 33 h10 (decide ((x2.f3.length : Int) > 0)) ((decide (x2.f2 > 0)) || (decide ((x2.f3.length : Int) > 0)))).cst, hw.pk [0, 1, 2, 3]⟩
   intro a w hh
   obtain ⟨hs, hw⟩ := (hJ3 _ _).1 hh
   rcases ifbE hx1 with ⟨h11, hx1⟩ | ⟨h11, hx1⟩
   ·refine Qr hs h11 ?_
    refine Qd (Qa (Qj hs (hw.at_ 2 rfl) 0 fun a hs => ?_))
    refine QE hs hw 0 rfl 0 (v := A60 x1 p1 c1 p2 c2 p3 c3 p4 c4) fun a w hs hw => ?_
    refine pn hs 2 [(4, (pt b3 0)), (5, .slice none 0 0), (6, Qb 4)] fun a hs => Qc (Qi ?_)
    have hw := hw.nil
    obtain rfl := someE hx1
    obtain rfl := someE hk
    refine hQ _ _ (Qcs hs (l := [.cell 4 60, .tmp 5, .tmp 6]) (vs := [A60 x1 p1 c1 p2 c2 p3 c3 p4 c4, .slice none 0 0, Qb 4]) rfl (⟨Qab hs (hw.at_ 1 rfl) (by kernel_rfl) (v := A60 x1 p1 c1 p2 c2 p3 c3 p4 c4) (by kernel_rfl), ⟨Qaf hs (v := .slice none 0 0) (by kernel_rfl), ⟨Qaf hs (v := Qb 4) (by kernel_rfl), trivial⟩⟩⟩) (by kernel_rfl) ⟨ih, p1, c1, p2, c2, p3, c3, p4, c4, none, 0, ([]), rfl, hw.pk [0, 4], (Le.refl _), h1, h2, h3, h4, (OSl.nil _ _)⟩)
   refine Qs hs h11 (Qg ?_)
   obtain rfl := someE hx1
   exact (hJ2 _ _).2 ⟨hk, hs.cst, hw.pk [0, 1, 2, 3]⟩
  refine Qs hs h9 ?_
  refine Qd (Qa (Qj hs (hw.at_ 1 rfl) 0 fun a hs => ?_))
  refine pu hs 1 fun a hs => Qj hs (hw.at_ 2 rfl) 0 fun a hs => pu hs 1 fun a hs => Qj hs (hw.at_ 2 rfl) 2 fun a hs => pn hs 1 [(2, (pt b1 0)), (3, (pt b2 0)), (4, (pt b3 0)), (36, A26 x2 p5 c5), (38, Qb x1.f0), (41, Qe (IntKind.u64.wrap (x1.f2 + 1)))] fun a hs => ?_
  obtain ⟨y2, h12, hx1⟩ := bindE hx1
  refine Qv hs (QdL h12 h5 ((hw.pk [0, 1, 2, 3]).pack 0)) fun a w v hv hs => ?_
  obtain ⟨p11, c11, rfl, hw, h13⟩ := hv
  have hw := hw.unpack 0 rfl
  refine pu hs 3 fun a hs => QaN hs hw [Qe 0, Qb 0, Qe 0, Qb 0, Qk 0, Qe 0, .slice none 0 0] 96 (fun b => (pt b 0)) fun a w b4 hs hw => QE hs hw 0 rfl 0 (v := .agg #[Qe y2.1.f0, Qb y2.1.f1, Qe y2.1.f2, Qb y2.1.f3, Qk y2.1.f4, Qe y2.1.f5, .slice p11 y2.1.f6.length c11]) fun a w hs hw => ?_
  refine pn hs 1 [(2, (pt b1 0)), (3, (pt b2 0)), (4, (pt b3 0)), (8, Qb y2.2)] fun a hs => ?_
  have hw := hw.cL [k9 b4 y2.1.f0 y2.1.f1 y2.1.f2 y2.1.f3 y2.1.f4 y2.1.f5 p11 y2.1.f6 c11, k51 b3, k8 b2 x2.f0 x2.f1 x2.f2 p5 x2.f3 c5 x2.f4, k52 b1 x1.f0 x1.f1 x1.f2 x1.f3 p1 x1.f4 c1 x1.f5.f0 x1.f5.f1 x1.f5.f2 p2 x1.f5.f3 c2 x1.f5.f4 x1.f6 x1.f7.f0 x1.f7.f1 p3 x1.f7.f2 c3 x1.f8 x1.f9.f0 x1.f9.f1 p4 x1.f9.f2 c4, F]
  refine Qc (Qd (Qa (pn hs 2 [(2, (pt b1 0)), (3, (pt b2 0)), (4, (pt b3 0)), (8, Qb y2.2), (46, .bool (y2.2 != 0))] fun a hs => ?_)))
  refine Qc ?_
  rcases ifbE hx1 with ⟨h14, hx1⟩ | ⟨h14, hx1⟩
  ·refine Qr hs h14 ?_
   refine Qd (Qa (Qj hs (hw.at_ 3 rfl) 0 fun a hs => ?_))
   refine pu hs 1 fun a hs => QE hs hw 1 rfl 0 (v := A60 x1 p1 c1 p2 c2 p3 c3 p4 c4) fun a w hs hw => pn hs 2 [(4, (pt b3 0)), (5, .slice none 0 0), (6, Qb y2.2)] fun a hs => ?_
   refine Qc (Qi ?_)
   have hw := hw.nil
   obtain rfl := someE hx1
   obtain rfl := someE hk
   refine hQ _ _ (Qcs hs (l := [.cell 4 60, .tmp 5, .tmp 6]) (vs := [A60 x1 p1 c1 p2 c2 p3 c3 p4 c4, .slice none 0 0, Qb y2.2]) rfl (⟨Qab hs (hw.at_ 2 rfl) (by kernel_rfl) (v := A60 x1 p1 c1 p2 c2 p3 c3 p4 c4) (by kernel_rfl), ⟨Qaf hs (v := .slice none 0 0) (by kernel_rfl), ⟨Qaf hs (v := Qb y2.2) (by kernel_rfl), trivial⟩⟩⟩) (by kernel_rfl) ⟨ih, p1, c1, p2, c2, p3, c3, p4, c4, none, 0, ([]), rfl, hw.pk [0, 5], (Le.refl _), h1, h2, h3, h4, (OSl.nil _ _)⟩)
  refine Qs hs h14 (Qg ?_)
  obtain rfl := someE hx1
  exact (hJ2 _ _).2 ⟨hk, hs.cst, hw.pk [1, 2, 3, 4]⟩
 intro a w hh
 obtain ⟨hk, hs, hw⟩ := (hJ2 _ _).1 hh
 refine Qd (Qa (pu hs 1 fun a hs => ?_))
 refine Qj hs (hw.at_ 2 rfl) 2 fun a hs => pu hs 2 fun a hs => QE hs hw 2 rfl 2 (v := Qe (IntKind.u64.wrap (x1.f2 + 1))) fun a w hs hw => ?_
 have hs := hs.cst (e' := [(2, (pt b1 0)), (3, (pt b2 0)), (4, (pt b3 0))])
 refine Qc (Qd (Qa (Qj hs (hw.at_ 1 rfl) 0 fun a hs => ?_)))
 refine pu hs 1 fun a hs => QE hs hw 2 rfl 5 (v := A26 x2 p5 c5) fun a w hs hw => ?_
 have hs := hs.cst (e' := [(2, (pt b1 0)), (4, (pt b3 0))])
 refine Qc (Qd (Qa (pu hs 1 fun a hs => ?_)))
 refine QE hs hw 2 rfl 10 (v := Qb 1) fun a w hs hw => ?_
 have hs := hs.cst (e' := [(2, (pt b1 0)), (4, (pt b3 0))])
 refine Qc (Qd (Qa (pu hs 2 fun a hs => ?_)))
 refine QE hs hw 2 rfl 11 (v := .agg #[Qb 0, Qe 0, .slice none 0 0]) fun a w hs hw => ?_
 have hs := hs.cst (e' := [(2, (pt b1 0)), (4, (pt b3 0))])
 have hw := hw.cL [k51 b3, k8 b2 x2.f0 x2.f1 x2.f2 p5 x2.f3 c5 x2.f4, k55 b1 x1.f0 x1.f1 (IntKind.u64.wrap (x1.f2 + 1)) x1.f3 p1 x1.f4 c1 x2.f0 x2.f1 x2.f2 p5 x2.f3 c5 x2.f4 x1.f8 x1.f9.f0 x1.f9.f1 p4 x1.f9.f2 c4, F]
 refine Qc (Qd ?_)
 obtain ⟨S, hD, kS⟩ := mkSXw hw [[3], [], [], []] (K := [3]) rfl
 obtain ⟨y3, hx2, hk⟩ := bindE hk
 obtain ⟨J4, hJ4⟩ := mkJ fun a w => ∃ (x3 : List M48) (p12 : Option Addr) (c12 : Nat) (d2 : Ch) (ih1 : IH), Qcj x1 x2 x3 = some r ∧ Sees a 61 [(4, (pt b3 0)), (5, .slice p12 x3.length c12), (6, Qb 0)] ∧ St g w [k55 b3 x1.f0 x1.f1 (IntKind.u64.wrap (x1.f2 + 1)) x1.f3 p1 x1.f4 c1 x2.f0 x2.f1 x2.f2 p5 x2.f3 c5 x2.f4 x1.f8 x1.f9.f0 x1.f9.f1 p4 x1.f9.f2 c4, d2, F] ih1 ∧ Le ih ih1 ∧ OSl e48 ih1 p12 c12 x3 d2
 refine Qo (by kernel_rfl) (N := 6) rfl S J4 ?_ ?_
 ·have hw := hw.drew
  have hS : S (bA 6 0) _ := SXn hD (hw.vws [0, 1, 2, 3])
  refine Qy kS hs hS 0 rfl (SXb hD 2 rfl) 0 fun a hs hS => ?_
  refine Qy kS hs hS 1 rfl (SXb hD 2 rfl) 0 fun a hs hS => ?_
  refine QF [2] (QH ?_)
  obtain ⟨y4, h15, hx2⟩ := bindE hx2
  refine QaR hs rfl (Qds h15 h1 h5 (RSl.nil _ _ _) h4 ((hw.pk [0, 1, 2, 3]).pack 0)) fun a w v hv hs => ?_
  obtain ⟨ih2, p13, c13, d3, rfl, hw, hle1, h16⟩ := hv
  have hw := hw.unpack 1 rfl
  refine nx hD ((hw.vws [1, 2, 3, 4]).anti hle1) fun hS => ?_
  refine QF [3] (QH ?_)
  refine QfM hs hw rfl 1 rfl 0 (v := .agg #[Qb x1.f0, Qb x1.f1, Qe (IntKind.u64.wrap (x1.f2 + 1)), Qb x1.f3, .slice p1 x1.f4.length c1, Qb x2.f0, Qk x2.f1, Qe x2.f2, .slice p5 x2.f3.length c5, Qb x2.f4, Qb 1, Qb 0, Qe 0, .slice none 0 0, Qe x1.f8, Qb x1.f9.f0, Qe x1.f9.f1, .slice p4 x1.f9.f2.length c4]) fun a w hs hw => ?_
  refine nx hD ((hw.vws [2, 3, 4]).anti hle1) fun hS => ?_
  refine Qu kS hs hS fun a hs => ?_
  obtain rfl := someE hx2
  exact (hJ4 _ _).2 ⟨y4, p13, c13, d3, ih2, hk, hs.cst, hw.pk [1, 0, 4], hle1, h16⟩
 intro a w hh
 obtain ⟨x3, p12, c12, d2, ih1, hk, hs, hw, hle2, h17⟩ := (hJ4 _ _).1 hh
 refine Qi ?_
 obtain rfl := someE hk
 refine hQ _ _ (Qcs hs (l := [.cell 4 60, .tmp 5, .tmp 6]) (vs := [.agg #[Qb x1.f0, Qb x1.f1, Qe (IntKind.u64.wrap (x1.f2 + 1)), Qb x1.f3, .slice p1 x1.f4.length c1, Qb x2.f0, Qk x2.f1, Qe x2.f2, .slice p5 x2.f3.length c5, Qb x2.f4, Qb 1, Qb 0, Qe 0, .slice none 0 0, Qe x1.f8, Qb x1.f9.f0, Qe x1.f9.f1, .slice p4 x1.f9.f2.length c4], .slice p12 x3.length c12, Qb 0]) rfl (⟨Qab hs (hw.at_ 0 rfl) (by kernel_rfl) (v := .agg #[Qb x1.f0, Qb x1.f1, Qe (IntKind.u64.wrap (x1.f2 + 1)), Qb x1.f3, .slice p1 x1.f4.length c1, Qb x2.f0, Qk x2.f1, Qe x2.f2, .slice p5 x2.f3.length c5, Qb x2.f4, Qb 1, Qb 0, Qe 0, .slice none 0 0, Qe x1.f8, Qb x1.f9.f0, Qe x1.f9.f1, .slice p4 x1.f9.f2.length c4]) (by kernel_rfl), ⟨Qaf hs (v := .slice p12 x3.length c12) (by kernel_rfl), ⟨Qaf hs (v := Qb 0) (by kernel_rfl), trivial⟩⟩⟩) (by kernel_rfl) ⟨ih1, p1, c1, p5, c5, none, 0, p4, c4, p12, c12, d2, rfl, hw.pk [1, 2], hle2, (h1.mono hle2), (h5.mono hle2), (RSl.nil _ _ _), (h4.mono hle2), h17⟩)
def QfQ (x1 : Bool) : Option Bool :=
 some x1
def QfI (k : Nat) (x1 x2 : M44) : Option Bool :=
 ((QdB k x2).bind fun y1 =>
  if y1 = true then (
   if (x1.f0 == x2.f0) = true then some (decide (x1.f1 < x2.f1))
   else some false)
  else some false : Option Bool).bind fun s1 => QfQ s1
theorem QjC {k : Nat} {x1 x2 : M44} {c1 c2 : Nat} {p1 p2 : Option Addr} {r : Bool} (hk : QfI k x1 x2 = some r) {g w : World} {F : Ch} {ih : IH} (h1 : RSl e3 ih [] p1 c1 x1.f2) (h2 : RSl e3 ih [] p2 c2 x2.f2) (hw : St g w [F] ih) :
  CallsR Tryz.prog 63 #[A44 x1 p1 c1, A44 x2 p2 c2] w fun v w' => v = .bool r ∧ St g w' [F] ih := by
 refine f_i Tryz.func63 rfl 21 rfl fun a Qf hQ hQn hs => ?_
 refine Qd (Qa (QC hs hw [Qb x1.f0, Qe x1.f1, .slice p1 x1.f2.length c1, .bool x1.f3, Qb x1.f4] 44 (fun b => (pt b 0)) (by kernel_rfl) (fun _ => by kernel_rfl) fun a w b1 hs hw => ?_))
 refine QaN hs hw [Qb x2.f0, Qe x2.f1, .slice p2 x2.f2.length c2, .bool x2.f3, Qb x2.f4] 44 (fun b => (pt b 0)) fun a w b2 hs hw => ?_
 refine pn hs 1 [(2, (pt b1 0)), (3, (pt b2 0))] fun a hs => Qc (Qd ?_)
 obtain ⟨y1, hx1, hk⟩ := bindE hk
 obtain ⟨J1, hJ1⟩ := mkJ fun a w => ∃ (x3 : Bool), QfQ x3 = some r ∧ Sees a 21 [(4, .bool x3)] ∧ St g w [F] ih
 refine Qn J1 ?_ ?_
 ·refine Qj hs (hw.at_ 0 rfl) 0 fun a hs => ?_
  obtain ⟨y2, h3, hx1⟩ := bindE hx1
  refine Qv hs (Qej h3 h2 ((hw.pk [0, 1, 2]).pack 0)) fun a w v hv hs => ?_
  obtain ⟨rfl, hw⟩ := hv
  have hw := hw.unpack 0 rfl
  refine pu hs 1 fun a hs => ?_
  rcases ifbE hx1 with ⟨h4, hx1⟩ | ⟨h4, hx1⟩
  ·have hs := hs.aB 7 h4
   refine pu hs 1 fun a hs => Qj hs (hw.at_ 1 rfl) 0 fun a hs => pu hs 1 fun a hs => Qj hs (hw.at_ 0 rfl) 0 fun a hs => pn hs 3 [(2, (pt b1 0)), (3, (pt b2 0)), (14, .bool (x1.f0 == x2.f0))] fun a hs => ?_
   rcases ifbE hx1 with ⟨h5, hx1⟩ | ⟨h5, hx1⟩
   ·have hs := hs.aB 14 h5
    refine pu hs 1 fun a hs => Qj hs (hw.at_ 1 rfl) 1 fun a hs => pu hs 1 fun a hs => Qj hs (hw.at_ 0 rfl) 1 fun a hs => pu hs 3 fun a hs => ?_
    have hw := hw.cL [k2 b2 x2.f0 x2.f1 p2 x2.f2 c2 x2.f3 x2.f4, k2 b1 x1.f0 x1.f1 p1 x1.f2 c1 x1.f3 x1.f4, F]
    refine Qc ?_
    obtain rfl := someE hx1
    exact (hJ1 _ _).2 ⟨(decide (x1.f1 < x2.f1)), hk, hs.cst, hw.pk [2]⟩
   have hs := hs.aB 14 h5
   refine pu hs 7 fun a hs => ?_
   have hw := hw.cL [k2 b2 x2.f0 x2.f1 p2 x2.f2 c2 x2.f3 x2.f4, k2 b1 x1.f0 x1.f1 p1 x1.f2 c1 x1.f3 x1.f4, F]
   refine Qc ?_
   obtain rfl := someE hx1
   exact (hJ1 _ _).2 ⟨false, hk, hs.cst, hw.pk [2]⟩
  have hs := hs.aB 7 h4
  refine pu hs 14 fun a hs => ?_
  have hw := hw.cL [k2 b2 x2.f0 x2.f1 p2 x2.f2 c2 x2.f3 x2.f4, k2 b1 x1.f0 x1.f1 p1 x1.f2 c1 x1.f3 x1.f4, F]
  refine Qc ?_
  obtain rfl := someE hx1
  exact (hJ1 _ _).2 ⟨false, hk, hs.cst, hw.pk [2]⟩
 intro a w hh
 obtain ⟨x3, hk, hs, hw⟩ := (hJ1 _ _).1 hh
 refine Qi ?_
 obtain rfl := someE hk
 exact qr1 hQ hs ⟨rfl, hw.pk [0]⟩
def Qdd (x1 : List M44) : Option (Bool × (List M44)) :=
 some (true, x1)
def Qdc (k : Nat) (x1 : List M44) (x2 : M44) (x3 : Bool) : Option (Bool × (List M44)) :=
 if x3 = true then some (false, x1)
 else ((Qe8 k ([x2])).bind fun y1 =>
  (ix y1 0).bind fun x4 =>
  (ix x1 x2.f0).bind fun x5 =>
  some (x1.set x2.f0.toNat x4) : Option (List M44)).bind fun s1 => Qdd s1
def QbP (k : Nat) (x1 : List M44) (x2 : M44) : Option (Bool × (List M44)) :=
 (if (decide (x2.f0 < 0)) = true then some true
  else (Qbk x1).bind fun y1 =>
  if (decide (x2.f0 ≥ y1)) = true then some true
  else (ix x1 x2.f0).bind fun x3 =>
  (QfI k x3 x2).bind fun y2 =>
  some (!y2) : Option Bool).bind fun s1 => Qdc k x1 x2 s1
theorem Qfe {k : Nat} {x1 : List M44} {x2 : Value} {x3 : M44} {d1 : Ch} {b1 c1 c2 : Nat} {p1 p2 : Option Addr} {r : Bool × (List M44)} (hk : QbP k x1 x3 = some r) {g w : World} {F : Ch} {ih : IH} (h1 : OSl e44 ih p1 c1 x1 d1) (h2 : x2.oneCell' = true) (h3 : RSl e3 ih [] p2 c2 x3.f2) (hw : St g w [bx b1 [.slice p1 x1.length c1, x2] 113, d1, F] ih) :
  CallsR Tryz.prog 35 #[(pt b1 0), A44 x3 p2 c2] w fun v w' => ∃ (ih' : IH) (p3 : Option Addr) (c3 : Nat) (d2 : Ch), v = .bool r.1 ∧ St g w' [bx b1 [.slice p3 r.2.length c3, x2] 113, d2, F] ih' ∧ Le ih ih' ∧ OSl e44 ih' p3 c3 r.2 d2 := by
 refine f_i Tryz.func35 rfl 40 rfl fun a Qf hQ hQn hs => ?_
 refine Qd (Qa (QC hs hw [Qb x3.f0, Qe x3.f1, .slice p2 x3.f2.length c2, .bool x3.f3, Qb x3.f4] 44 (fun b => (pt b 0)) (by kernel_rfl) (fun _ => by kernel_rfl) fun a w b2 hs hw => ?_))
 refine pn hs 1 [(0, (pt b1 0)), (3, (pt b2 0))] fun a hs => Qc (Qd (Qd ?_))
 have hw := hw.cL [k2 b2 x3.f0 x3.f1 p2 x3.f2 c2 x3.f3 x3.f4, bx b1 [.slice p1 x1.length c1, x2] 113, d1, F]
 obtain ⟨S, hD, kS⟩ := mkSXw hw [[], [], [], []] (K := []) rfl
 obtain ⟨y1, hx1, hk⟩ := bindE hk
 obtain ⟨J1, hJ1⟩ := mkJ fun a w => ∃ (x4 : Bool), Qdc k x1 x3 x4 = some r ∧ Sees a 40 [(0, (pt b1 0)), (3, (pt b2 0)), (27, .bool x4)] ∧ St g w [k2 b2 x3.f0 x3.f1 p2 x3.f2 c2 x3.f3 x3.f4, bx b1 [.slice p1 x1.length c1, x2] 113, d1, F] ih
 refine Qo (by kernel_rfl) (N := 23) rfl S J1 ?_ ?_
 ·have hw := hw.drew
  have hS : S (bA 23 0) _ := SXn hD (hw.vws [0, 1, 2, 3])
  refine Qp (fuel := 22) kS hs hS [0] fun a hs hS => ?_
  refine Qy kS hs hS 1 rfl (SXb hD 0 rfl) 0 fun a hs hS => ?_
  refine Qp (fuel := 19) kS hs hS [2, 3] fun a hs hS => ?_
  rcases ifbE hx1 with ⟨h4, hx1⟩ | ⟨h4, hx1⟩
  ·have hs := hs.aB 8 h4
   refine Qu kS hs hS fun a hs => ?_
   obtain rfl := someE hx1
   exact (hJ1 _ _).2 ⟨true, hk, hs.cst, hw.pk [0, 1, 2, 3]⟩
  have hs := hs.aB 8 h4
  refine Qp (fuel := 18) kS hs hS [4] fun a hs hS => ?_
  refine Qy kS hs hS 5 rfl (SXb hD 0 rfl) 0 fun a hs hS => ?_
  refine Qff (fuel := 16) kS hs hS [6] [(0, (pt b1 0)), (3, (pt b2 0)), (8, .bool false), (10, Qb x3.f0), (11, (pt b1 0))] fun a hs hS => ?_
  refine QF [7] (QH ?_)
  obtain ⟨y2, h5, hx1⟩ := bindE hx1
  refine QaR hs rfl (QeH (x2 := (x2)) h5 h1 h2 ((hw.pk [1, 2, 0, 3]).pack 2)) fun a w v hv hs => ?_
  obtain ⟨rfl, hw⟩ := hv
  have hw := hw.unpack 2 rfl
  refine nx hD ((hw.vws [2, 0, 1, 3]).anti (Le.refl _)) fun hS => ?_
  refine Qp (fuel := 12) kS hs hS [8, 9, 10] fun a hs hS => ?_
  rcases ifbE hx1 with ⟨h6, hx1⟩ | ⟨h6, hx1⟩
  ·have hs := hs.aB 15 h6
   refine Qu kS hs hS fun a hs => ?_
   obtain rfl := someE hx1
   exact (hJ1 _ _).2 ⟨true, hk, hs.cst, hw.pk [2, 0, 1, 3]⟩
  have hs := hs.aB 15 h6
  refine Qp (fuel := 9) kS hs hS [11, 12, 13] fun a hs hS => ?_
  refine Qy kS hs hS 14 rfl (SXb hD 1 rfl) 0 fun a hs hS => ?_
  refine Qp (fuel := 7) kS hs hS [15] fun a hs hS => ?_
  refine Qy kS hs hS 16 rfl (SXb hD 0 rfl) 0 fun a hs hS => ?_
  obtain ⟨x5, h7, hx1⟩ := bindE hx1
  refine Qjo (fuel := 5) kS hs hS 17 rfl (by kernel_rfl) h1 (by kernel_rfl) (by kernel_rfl) (k := .i64) (by kernel_rfl) 44 (by kernel_rfl) (by kernel_rfl) h7 fun a r326 cs henc at327 h8 hs hS => ?_
  refine Qgn hS fun hS => ?_
  obtain ⟨p4, c4, rfl, h9⟩ := henc
  refine Qy kS hs hS 18 rfl (fun l w hu hS => at327 w ((Qfi hD 2 rfl (by kernel_rfl) l w hu hS).anti (Le.refl _))) 0 fun a hs hS => ?_
  refine Qy kS hs hS 19 rfl (SXb hD 0 rfl) 0 fun a hs hS => ?_
  refine QF [20] (QH ?_)
  obtain ⟨y3, h10, hx1⟩ := bindE hx1
  refine QaR hs rfl (QjC h10 h9 h3 ((hw.pk [0, 1, 2, 3]).pack 0)) fun a w v hv hs => ?_
  obtain ⟨rfl, hw⟩ := hv
  have hw := hw.unpack 0 rfl
  refine nx hD ((hw.vws [2, 0, 1, 3]).anti (Le.refl _)) fun hS => ?_
  refine Qu kS hs hS fun a hs => ?_
  obtain rfl := someE hx1
  exact (hJ1 _ _).2 ⟨(!y3), hk, hs.cst, hw.pk [2, 0, 1, 3]⟩
 intro a w hh
 obtain ⟨x4, hk, hs, hw⟩ := (hJ1 _ _).1 hh
 rcases ifbE hk with ⟨h11, hk⟩ | ⟨h11, hk⟩
 ·refine Qr hs h11 ?_
  refine Qd (Qa (pn hs 1 [(4, .bool false)] fun a hs => ?_))
  refine Qc (Qi ?_)
  obtain rfl := someE hk
  exact qr1 hQ hs ⟨ih, p1, c1, d1, rfl, hw.pk [1, 2, 3], (Le.refl _), h1⟩
 refine Qs hs h11 ?_
 refine Qg (Qd ?_)
 obtain ⟨S, hD, kS⟩ := mkSXw hw [[], [12], [12], []] (K := [12, 12]) rfl
 obtain ⟨y4, hx2, hk⟩ := bindE hk
 obtain ⟨J2, hJ2⟩ := mkJ fun a w => ∃ (x6 : List M44) (p5 : Option Addr) (c5 : Nat) (d3 : Ch) (ih1 : IH), Qdd x6 = some r ∧ Sees a 40 [] ∧ St g w [bx b1 [.slice p5 x6.length c5, x2] 113, d3, F] ih1 ∧ Le ih ih1 ∧ OSl e44 ih1 p5 c5 x6 d3
 refine Qo (by kernel_rfl) (N := 13) rfl S J2 ?_ ?_
 ·have hw := hw.drew
  have hS : S (bA 13 0) _ := SXn hD (hw.vws [0, 1, 2, 3])
  refine Qp (fuel := 10) kS hs hS [0, 1, 2] fun a hs hS => ?_
  refine Qy kS hs hS 3 rfl (SXb hD 1 rfl) 0 fun a hs hS => ?_
  refine Qp (fuel := 8) kS hs hS [4] fun a hs hS => ?_
  refine Qy kS hs hS 5 rfl (SXb hD 0 rfl) 0 fun a hs hS => ?_
  refine Qy kS hs hS 6 rfl (SXb hD 0 rfl) 0 fun a hs hS => ?_
  refine QF [7] (QH ?_)
  refine Qhy hs rfl hw [Qb x3.f0, Qe x3.f1, .slice p2 x3.f2.length c2, .bool x3.f3, Qb x3.f4] 44 (fun b => .slice (some ⟨b, 0, none⟩) 1 1) fun a w b3 hs hw => ?_
  refine nx hD ((hw.vws [1, 2, 3, 4]).anti (Le.refl _)) fun hS => ?_
  refine QF [8] (QH ?_)
  obtain ⟨y5, h12, hx2⟩ := bindE hx2
  refine QaR hs rfl (Qhf h12 ((OSl.of1 (E := e44) (ih := ih) (b := b3) (z := x3) ⟨p2, c2, rfl, h3⟩ (by simp [maxLen])).read) (memF 0 rfl) ((hw.pk [0, 1, 2, 3, 4]).pack 0)) fun a w v hv hs => ?_
  obtain ⟨ih2, p6, c6, d4, rfl, hw, hle1, h13⟩ := hv
  have hw := hw.unpack 1 rfl
  refine nx hD ((hw.vws [2, 3, 4, 5]).anti hle1) fun hS => ?_
  obtain ⟨x7, h14, hx2⟩ := bindE hx2
  refine Qjo (fuel := 3) kS hs hS 9 rfl (by kernel_rfl) h13 (by kernel_rfl) (by kernel_rfl) (k := .i64) (by kernel_rfl) 44 (by kernel_rfl) (by kernel_rfl) h14 fun a r298 cs henc at299 h15 hs hS => ?_
  refine Qgn hS fun hS => ?_
  obtain ⟨p7, c7, rfl, h16⟩ := henc
  refine QF [10] (QH ?_)
  refine QmL hs rfl (at299 _ ((hw.vw 0 rfl).anti (Le.refl _))) 0 (by kernel_rfl) (by kernel_rfl) (v := A44 x7 p7 c7) (by kernel_rfl) fun a hs => ?_
  refine nx hD ((hw.vws [2, 3, 4, 5]).anti hle1) fun hS => ?_
  obtain ⟨x8, h17, hx2⟩ := bindE hx2
  refine Qjo (fuel := 1) kS hs hS 11 rfl (by kernel_rfl) h1 (by kernel_rfl) (by kernel_rfl) (k := .i64) (by kernel_rfl) 44 (by kernel_rfl) (by kernel_rfl) h17 fun a r306 cs henc at307 h18 hs hS => ?_
  refine Qgn hS fun hS => ?_
  obtain ⟨p8, c8, rfl, h19⟩ := henc
  refine QF [12] (QH ?_)
  refine QlL hs hw 4 rfl (h1.mono hle1) h18 x7 h17 0 rfl (by kernel_rfl) (by kernel_rfl) (v := A44 x7 p7 c7) (by kernel_rfl) (by kernel_rfl) (by kernel_rfl) (by kernel_rfl) ⟨p8, c8, rfl, (h19.mono hle1)⟩ (fun w hv => at307 w (hv.anti hle1)) ⟨p7, c7, rfl, h16⟩ fun a w d5 h20 hw hs => ?_
  have h21 : x1.length = (x1.set x3.f0.toNat x7).length := List.length_set.symm
  try rw [h21] at hs
  try rw [h21] at hw
  refine nx hD ((hw.vws [2, 5]).anti hle1) fun hS => ?_
  refine QhI ?_
  obtain rfl := someE hx2
  exact (hJ2 _ _).2 ⟨(x1.set x3.f0.toNat x7), p1, c1, d5, ih2, hk, hs.cst, hw.pk [3, 4, 5], hle1, h20⟩
 intro a w hh
 obtain ⟨x6, p5, c5, d3, ih1, hk, hs, hw, hle2, h22⟩ := (hJ2 _ _).1 hh
 refine Qd (Qa (pn hs 1 [(4, .bool true)] fun a hs => ?_))
 refine Qc (Qi ?_)
 obtain rfl := someE hk
 exact qr1 hQ hs ⟨ih1, p5, c5, d3, rfl, hw.pk [0, 1, 2], hle2, h22⟩
def QbL (x1 : List M44) : Option ((List M48) × (List M44)) :=
 some ([], x1)
def QbK (x1 : List M44) : Option (Sum ((List M48) × (List M44)) (List M44)) :=
 some (.inr x1)
def QbJ (x1 : List M44) : Option (Sum ((List M48) × (List M44)) (List M44)) :=
 some (.inr x1)
def QbI (k : Nat) (x1 : M48) (x2 : List M44) : Option ((List M48) × (List M44)) :=
 (if (x1.f0 == 11) = true then (
   ((QbP k x2 x1.f14).bind fun y1 =>
    if y1.1 = true then some y1.2
    else some y1.2 : Option (List M44)).bind fun s1 => QbK s1)
  else if (x1.f0 == 18) = true then some (.inr x2)
  else if (x1.f0 == 20) = true then QbJ x2
  else some (.inr x2) : Option (Sum ((List M48) × (List M44)) (List M44))).bind fun
  | .inl z => some z
  | .inr s2 => QbL s2
def QbH (k : Nat) (x1 : List M44) (x2 : M48) (x3 : Int) (x4 : Bool) : Option ((List M48) × (List M44)) :=
 if x4 = true then some ([], x1)
 else ((Qdr x2.f1).bind fun y1 =>
  if y1 = true then (
   if (x2.f6 == x3) = true then some ()
   else some ())
  else some () : Option Unit).bind fun _ => QbI k x2 x1
def Qbx (k : Nat) (x1 x2 : Int) (x3 : List M44) (x4 : M48) : Option ((List M48) × (List M44)) :=
 ((Qdz k x4).bind fun y1 =>
  if (y1 != 0) = true then some true
  else (Qq x1).bind fun y2 =>
  some (x4.f2 != y2) : Option Bool).bind fun s1 => QbH k x3 x4 x2 s1
theorem Qgz {k : Nat} {x1 x2 x3 x4 : Int} {x5 : List M44} {x6 : Value} {x7 x8 x9 : Int} {x10 : List Int} {x11 x12 x13 x14 : Int} {x15 : List Int} {x16 : M48} {d1 : Ch} {b1 b2 c1 c2 c3 c4 c5 c6 c7 : Nat} {p1 p2 p3 p4 p5 p6 p7 : Option Addr} {r : (List M48) × (List M44)} (hk : Qbx k x1 x3 x5 x16 = some r) {g w : World} {F : Ch} {ih : IH} (h1 : OSl e44 ih p1 c1 x5 d1) (h2 : x6.oneCell' = true) (h3 : RSl e5 ih [] p2 c2 x10) (h4 : RSl e5 ih [] p3 c3 x15) (h5 : RSl e3 ih [] p4 c4 x16.f14.f2) (h6 : RSl Qcf ih [] p5 c5 x16.f15) (h7 : RSl e96 ih [] p6 c6 x16.f16) (h8 : RSl e5 ih [] p7 c7 x16.f17) (hG : Glob 0 gl0 162 ih) (hw : St g w [k37 b1 x1 x2 x3 x4 b2 x7 x8 x9 p2 x10 c2 x11 x12 x13 x14 p3 x15 c3, bx b2 [.slice p1 x5.length c1, x6] 113, d1, F] ih) :
  CallsR Tryz.prog 12 #[(pt b1 0), A48 x16 p4 c4 p5 c5 p6 c6 p7 c7] w fun v w' => ∃ (ih' : IH) (p8 : Option Addr) (c8 : Nat) (d2 : Ch) (p9 : Option Addr) (c9 : Nat) (d3 : Ch), v = .slice p8 r.1.length c8 ∧ St g w' [d2, bx b1 [Qb x1, Qb x2, Qe x3, Qb x4, (pt b2 0), Qb x7, Qk x8, Qe x9, .slice p2 x10.length c2, Qb x11, .pointer none, Qe x12, Qb x13, Qe x14, .slice p3 x15.length c3] 85, bx b2 [.slice p9 r.2.length c9, x6] 113, d3, F] ih' ∧ Le ih ih' ∧ OSl e48 ih' p8 c8 r.1 d2 ∧ OSl e44 ih' p9 c9 r.2 d3 := by
 refine f_i Tryz.func12 rfl 115 rfl fun a Qf hQ hQn hs => ?_
 refine Qd (Qa (QC hs hw [Qb x16.f0, Qb x16.f1, Qb x16.f2, Qb x16.f3, Qe x16.f4, Qe x16.f5, Qe x16.f6, Qe x16.f7, Qe x16.f8, Qe x16.f9, Qb x16.f10, Qk x16.f11, Qb x16.f12, Qb x16.f13.f0, Qb x16.f13.f1, Qe x16.f13.f2, Qb x16.f13.f3, Qb x16.f14.f0, Qe x16.f14.f1, .slice p4 x16.f14.f2.length c4, .bool x16.f14.f3, Qb x16.f14.f4, .slice p5 x16.f15.length c5, .slice p6 x16.f16.length c6, .slice p7 x16.f17.length c7] 48 (fun b => (pt b 0)) (by kernel_rfl) (fun _ => by kernel_rfl) fun a w b3 hs hw => ?_))
 refine pn hs 1 [(0, (pt b1 0)), (3, (pt b3 0))] fun a hs => Qc (Qd (Qd ?_))
 have hw := hw.cL [k10 b3 x16.f0 x16.f1 x16.f2 x16.f3 x16.f4 x16.f5 x16.f6 x16.f7 x16.f8 x16.f9 x16.f10 x16.f11 x16.f12 x16.f13.f0 x16.f13.f1 x16.f13.f2 x16.f13.f3 x16.f14.f0 x16.f14.f1 p4 x16.f14.f2 c4 x16.f14.f3 x16.f14.f4 p5 x16.f15 c5 p6 x16.f16 c6 p7 x16.f17 c7, k37 b1 x1 x2 x3 x4 b2 x7 x8 x9 p2 x10 c2 x11 x12 x13 x14 p3 x15 c3, bx b2 [.slice p1 x5.length c1, x6] 113, d1, F]
 obtain ⟨S, hD, kS⟩ := mkSXw hw [[], [], [], [], []] (K := []) rfl
 obtain ⟨y1, hx1, hk⟩ := bindE hk
 obtain ⟨J1, hJ1⟩ := mkJ fun a w => ∃ (x17 : Bool) (ih1 : IH), QbH k x5 x16 x3 x17 = some r ∧ Sees a 115 [(0, (pt b1 0)), (3, (pt b3 0)), (20, .bool x17)] ∧ St g w [k10 b3 x16.f0 x16.f1 x16.f2 x16.f3 x16.f4 x16.f5 x16.f6 x16.f7 x16.f8 x16.f9 x16.f10 x16.f11 x16.f12 x16.f13.f0 x16.f13.f1 x16.f13.f2 x16.f13.f3 x16.f14.f0 x16.f14.f1 p4 x16.f14.f2 c4 x16.f14.f3 x16.f14.f4 p5 x16.f15 c5 p6 x16.f16 c6 p7 x16.f17 c7, k37 b1 x1 x2 x3 x4 b2 x7 x8 x9 p2 x10 c2 x11 x12 x13 x14 p3 x15 c3, bx b2 [.slice p1 x5.length c1, x6] 113, d1, F] ih1 ∧ Le ih ih1
 refine Qo (by kernel_rfl) (N := 14) rfl S J1 ?_ ?_
 ·have hw := hw.drew
  have hS : S (bA 14 0) _ := SXn hD (hw.vws [0, 1, 2, 3, 4])
  refine Qp (fuel := 11) kS hs hS [0, 1, 2] fun a hs hS => ?_
  refine Qy kS hs hS 3 rfl (SXb hD 0 rfl) 0 fun a hs hS => ?_
  refine QF [4] (QH ?_)
  obtain ⟨y2, h9, hx1⟩ := bindE hx1
  refine QaR hs rfl (QfB h9 h5 h6 h7 h8 (hG.mono (Le.refl _)) ((hw.pk [0, 1, 2, 3, 4]).pack 0)) fun a w v hv hs => ?_
  obtain ⟨ih2, rfl, hw, hle1⟩ := hv
  have hw := hw.unpack 0 rfl
  refine nx hD ((hw.vws [0, 1, 2, 3, 4]).anti hle1) fun hS => ?_
  refine Qp (fuel := 6) kS hs hS [5, 6, 7] fun a hs hS => ?_
  rcases ifbE hx1 with ⟨h10, hx1⟩ | ⟨h10, hx1⟩
  ·have hs := hs.aB 14 h10
   refine Qu kS hs hS fun a hs => ?_
   obtain rfl := someE hx1
   exact (hJ1 _ _).2 ⟨true, ih2, hk, hs.cst, hw.pk [0, 1, 2, 3, 4], hle1⟩
  have hs := hs.aB 14 h10
  refine Qp (fuel := 5) kS hs hS [8] fun a hs hS => ?_
  refine Qy kS hs hS 9 rfl (SXb hD 0 rfl) 2 fun a hs hS => ?_
  refine Qff (fuel := 3) kS hs hS [10] [(0, (pt b1 0)), (3, (pt b3 0)), (14, .bool false), (16, Qb x16.f2), (17, (pt b1 0))] fun a hs hS => ?_
  refine QF [11] (QH ?_)
  obtain ⟨y3, h11, hx1⟩ := bindE hx1
  refine QaR hs rfl (QD (x2 := x2) (x3 := x3) (x4 := x4) (x5 := x5) (x6 := (x6)) (x7 := x7) (x8 := x8) (x9 := x9) (x10 := x10) (x11 := x11) (x12 := (.pointer none)) (x13 := x12) (x14 := x13) (x15 := x14) (x16 := x15) h11 (h1.mono hle1) h2 (h3.mono hle1) rfl (h4.mono hle1) ((hw.pk [1, 2, 3, 0, 4]).pack 3)) fun a w v hv hs => ?_
  obtain ⟨rfl, hw⟩ := hv
  have hw := hw.unpack 3 rfl
  refine nx hD ((hw.vws [3, 0, 1, 2, 4]).anti hle1) fun hS => ?_
  refine Qu kS hs hS fun a hs => ?_
  obtain rfl := someE hx1
  exact (hJ1 _ _).2 ⟨(x16.f2 != y3), ih2, hk, hs.cst, hw.pk [3, 0, 1, 2, 4], hle1⟩
 intro a w hh
 obtain ⟨x17, ih1, hk, hs, hw, hle2⟩ := (hJ1 _ _).1 hh
 rcases ifbE hk with ⟨h12, hk⟩ | ⟨h12, hk⟩
 ·refine Qr hs h12 ?_
  refine Qd (Qa (pn hs 1 [(4, .slice none 0 0)] fun a hs => ?_))
  refine Qc (Qi ?_)
  have hw := hw.nil
  obtain rfl := someE hk
  exact qr1 hQ hs ⟨ih1, none, 0, ([]), p1, c1, d1, rfl, hw.pk [0, 2, 3, 4, 5], hle2, (OSl.nil _ _), (h1.mono hle2)⟩
 refine Qs hs h12 ?_
 refine Qg (Qd (Qa (pu hs 4 fun a hs => ?_)))
 refine Qj hs (hw.at_ 1 rfl) 5 fun a hs => pn hs 2 [(0, (pt b1 0)), (3, (pt b3 0)), (5, .bool (x7 == 1))] fun a hs => Qc (Qd ?_)
 obtain ⟨S, hD, kS⟩ := mkSXw hw [[], [], [], [], []] (K := []) rfl
 obtain ⟨y4, hx2, hk⟩ := bindE hk
 obtain ⟨J2, hJ2⟩ := mkJ fun a w => QbI k x16 x5 = some r ∧ Sees a 115 [(0, (pt b1 0)), (3, (pt b3 0)), (5, .bool (x7 == 1)), (6, .bool false)] ∧ St g w [k10 b3 x16.f0 x16.f1 x16.f2 x16.f3 x16.f4 x16.f5 x16.f6 x16.f7 x16.f8 x16.f9 x16.f10 x16.f11 x16.f12 x16.f13.f0 x16.f13.f1 x16.f13.f2 x16.f13.f3 x16.f14.f0 x16.f14.f1 p4 x16.f14.f2 c4 x16.f14.f3 x16.f14.f4 p5 x16.f15 c5 p6 x16.f16 c6 p7 x16.f17 c7, k37 b1 x1 x2 x3 x4 b2 x7 x8 x9 p2 x10 c2 x11 x12 x13 x14 p3 x15 c3, bx b2 [.slice p1 x5.length c1, x6] 113, d1, F] ih1
 refine Qo (by kernel_rfl) (N := 17) rfl S J2 ?_ ?_
 ·have hw := hw.drew
  have hS : S (bA 17 0) _ := SXn hD (hw.vws [0, 1, 2, 3, 4])
  refine Qp (fuel := 16) kS hs hS [0] fun a hs hS => ?_
  refine Qy kS hs hS 1 rfl (SXb hD 0 rfl) 1 fun a hs hS => ?_
  refine QF [2] (QH ?_)
  obtain ⟨y5, h13, hx2⟩ := bindE hx2
  refine QaR hs rfl (Qf4 h13 ((hw.pk [0, 1, 2, 3, 4]).pack 0)) fun a w v hv hs => ?_
  obtain ⟨rfl, hw⟩ := hv
  have hw := hw.unpack 0 rfl
  refine nx hD ((hw.vws [0, 1, 2, 3, 4]).anti (Le.refl _)) fun hS => ?_
  refine Qp (fuel := 13) kS hs hS [3] fun a hs hS => ?_
  rcases ifbE hx2 with ⟨h14, hx2⟩ | ⟨h14, hx2⟩
  ·have hs := hs.aB 30 h14
   refine Qp (fuel := 12) kS hs hS [4] fun a hs hS => ?_
   refine Qy kS hs hS 5 rfl (SXb hD 0 rfl) 6 fun a hs hS => ?_
   refine Qff (fuel := 8) kS hs hS [6, 7, 8] [(0, (pt b1 0)), (3, (pt b3 0)), (5, .bool (x7 == 1)), (30, .bool true), (32, Qe x16.f6), (35, (pt b1 2))] fun a hs hS => ?_
   refine Qy kS hs hS 9 rfl (SXb hD 1 rfl) 2 fun a hs hS => ?_
   refine Qp (fuel := 4) kS hs hS [10, 11, 12] fun a hs hS => ?_
   rcases ifbE hx2 with ⟨h15, hx2⟩ | ⟨h15, hx2⟩
   ·have hs := hs.aB 39 h15
    refine Qp (fuel := 3) kS hs hS [13] fun a hs hS => ?_
    refine QF [14] (QH ?_)
    have h16 : Q2 = some () := rfl
    refine QaR hs rfl (Q6 (x1 := x1) (x2 := x2) (x3 := x3) (x4 := x4) (x5 := x5) (x6 := (x6)) (x7 := x7) (x8 := x8) (x9 := x9) (x10 := x10) (x11 := x11) (x12 := x12) (x13 := x13) (x14 := x14) (x15 := x15) h16 (h1.mono hle2) h2 (h3.mono hle2) (h4.mono hle2) ((hw.pk [1, 2, 3, 0, 4]).pack 3)) fun a w v hv hs => ?_
    obtain ⟨rfl, hw⟩ := hv
    have hw := hw.unpack 3 rfl
    refine nx hD ((hw.vws [3, 0, 1, 2, 4]).anti (Le.refl _)) fun hS => ?_
    refine Qu kS hs hS fun a hs => ?_
    obtain rfl := someE hx2
    exact (hJ2 _ _).2 ⟨hk, hs.cst, hw.pk [3, 0, 1, 2, 4]⟩
   have hs := hs.aB 39 h15
   refine Qu kS hs hS fun a hs => ?_
   obtain rfl := someE hx2
   exact (hJ2 _ _).2 ⟨hk, hs.cst, hw.pk [0, 1, 2, 3, 4]⟩
  have hs := hs.aB 30 h14
  refine Qu kS hs hS fun a hs => ?_
  obtain rfl := someE hx2
  exact (hJ2 _ _).2 ⟨hk, hs.cst, hw.pk [0, 1, 2, 3, 4]⟩
 intro a w hh
 obtain ⟨hk, hs, hw⟩ := (hJ2 _ _).1 hh
 obtain ⟨y6, hx3, hk⟩ := bindE hk
 obtain ⟨J3, hJ3⟩ := mkJ fun a w => ∃ (x18 : List M44) (p10 : Option Addr) (c10 : Nat) (d4 : Ch) (ih3 : IH), QbL x18 = some r ∧ Sees a 115 [] ∧ St g w [k37 b1 x1 x2 x3 x4 b2 x7 x8 x9 p2 x10 c2 x11 x12 x13 x14 p3 x15 c3, bx b2 [.slice p10 x18.length c10, x6] 113, d4, F] ih3 ∧ Le ih1 ih3 ∧ OSl e44 ih3 p10 c10 x18 d4
 refine QaG J3 ?_ ?_
 ·refine Qd (Qa (pu hs 1 fun a hs => ?_))
  refine Qj hs (hw.at_ 0 rfl) 0 fun a hs => ?_
  have hs := hs.cst (e' := [(0, (pt b1 0)), (3, (pt b3 0)), (5, .bool (x7 == 1)), (6, .bool false), (44, Qb x16.f0)])
  refine Qc (Ql (Qd (Qa (pn hs 2 [(0, (pt b1 0)), (3, (pt b3 0)), (5, .bool (x7 == 1)), (6, .bool false), (44, Qb x16.f0), (45, .bool (x16.f0 == 11))] fun a hs => ?_))))
  refine Qc ?_
  rcases ifbE hx3 with ⟨h17, hx3⟩ | ⟨h17, hx3⟩
  ·refine Qr hs h17 (Qd ?_)
   obtain ⟨S, hD, kS⟩ := mkSXw hw [[], [], [6], [6], []] (K := [6, 6]) rfl
   obtain ⟨y7, hx4, hx3⟩ := bindE hx3
   obtain ⟨J4, hJ4⟩ := mkJ fun a w => ∃ (x19 : List M44) (p11 : Option Addr) (c11 : Nat) (d5 : Ch) (ih4 : IH), QbK x19 = some y6 ∧ Sees a 115 [(0, (pt b1 0)), (74, .bool false)] ∧ St g w [k37 b1 x1 x2 x3 x4 b2 x7 x8 x9 p2 x10 c2 x11 x12 x13 x14 p3 x15 c3, bx b2 [.slice p11 x19.length c11, x6] 113, d5, F] ih4 ∧ Le ih1 ih4 ∧ OSl e44 ih4 p11 c11 x19 d5
   refine Qo (by kernel_rfl) (N := 28) rfl S J4 ?_ ?_
   ·have hw := hw.drew
    have hS : S (bA 28 0) _ := SXn hD (hw.vws [0, 1, 2, 3, 4])
    refine Qp (fuel := 25) kS hs hS [0, 1, 2] fun a hs hS => ?_
    refine Qy kS hs hS 3 rfl (SXb hD 1 rfl) 4 fun a hs hS => ?_
    refine Qp (fuel := 23) kS hs hS [4] fun a hs hS => ?_
    refine Qy kS hs hS 5 rfl (SXb hD 0 rfl) 17 fun a hs hS => ?_
    refine QF [6] (QH ?_)
    obtain ⟨y8, h18, hx4⟩ := bindE hx4
    refine QaR hs rfl (Qfe (x2 := (x6)) h18 (h1.mono hle2) h2 (h5.mono hle2) ((hw.pk [2, 3, 0, 1, 4]).pack 2)) fun a w v hv hs => ?_
    obtain ⟨ih5, p12, c12, d6, rfl, hw, hle3, h19⟩ := hv
    have hw := hw.unpack 2 rfl
    refine nx hD ((hw.vws [2, 3, 4]).anti hle3) fun hS => ?_
    refine Qp (fuel := 20) kS hs hS [7] fun a hs hS => ?_
    rcases ifbE hx4 with ⟨h20, hx4⟩ | ⟨h20, hx4⟩
    ·have hs := hs.aB 54 h20
     refine Qff (fuel := 19) kS hs hS [8] [(0, (pt b1 0)), (3, (pt b3 0)), (54, .bool true), (55, (pt b1 0))] fun a hs hS => ?_
     refine QF [9] (QH ?_)
     have h21 : Q2 = some () := rfl
     refine QaR hs rfl (Q6 (x1 := x1) (x2 := x2) (x3 := x3) (x4 := x4) (x5 := y8.2) (x6 := (x6)) (x7 := x7) (x8 := x8) (x9 := x9) (x10 := x10) (x11 := x11) (x12 := x12) (x13 := x13) (x14 := x14) (x15 := x15) h21 h19 h2 (h3.mono (hle2.trans hle3)) (h4.mono (hle2.trans hle3)) ((hw.pk [3, 0, 1, 2, 4]).pack 3)) fun a w v hv hs => ?_
     obtain ⟨rfl, hw⟩ := hv
     have hw := hw.unpack 3 rfl
     refine nx hD ((hw.vws [3, 0, 4]).anti hle3) fun hS => ?_
     refine Qu kS hs hS fun a hs => ?_
     obtain rfl := someE hx4
     exact (hJ4 _ _).2 ⟨y8.2, p12, c12, d6, ih5, hx3, hs.cst, hw.pk [0, 1, 2, 4], hle3, h19⟩
    have hs := hs.aB 54 h20
    refine Qu kS hs hS fun a hs => ?_
    obtain rfl := someE hx4
    exact (hJ4 _ _).2 ⟨y8.2, p12, c12, d6, ih5, hx3, hs.cst, hw.pk [3, 0, 1, 4], hle3, h19⟩
   intro a w hh
   obtain ⟨x19, p11, c11, d5, ih4, hx3, hs, hw, hle4, h22⟩ := (hJ4 _ _).1 hh
   refine QhJ hs (Qg ?_)
   obtain rfl := someE hx3
   exact (hJ3 _ _).2 ⟨x19, p11, c11, d5, ih4, hk, hs.cst, hw.pk [0, 1, 2, 3], hle4, h22⟩
  refine Qs hs h17 ?_
  refine Qd (Qa (pn hs 2 [(0, (pt b1 0)), (3, (pt b3 0)), (5, .bool (x7 == 1)), (6, .bool false), (44, Qb x16.f0), (77, .bool (x16.f0 == 18))] fun a hs => ?_))
  refine Qc ?_
  rcases ifbE hx3 with ⟨h23, hx3⟩ | ⟨h23, hx3⟩
  ·refine Qr hs h23 ?_
   refine Qd (Qa (pn hs 5 [(0, (pt b1 0)), (3, (pt b3 0)), (83, .bool false)] fun a hs => ?_))
   refine Qc (QhJ hs (Qg ?_))
   obtain rfl := someE hx3
   exact (hJ3 _ _).2 ⟨x5, p1, c1, d1, ih1, hk, hs.cst, hw.pk [1, 2, 3, 4], (Le.refl _), (h1.mono hle2)⟩
  refine Qs hs h23 ?_
  refine Qd (Qa (pn hs 2 [(0, (pt b1 0)), (3, (pt b3 0)), (5, .bool (x7 == 1)), (6, .bool false), (91, .bool (x16.f0 == 20))] fun a hs => ?_))
  refine Qc ?_
  rcases ifbE hx3 with ⟨h24, hx3⟩ | ⟨h24, hx3⟩
  ·refine Qr hs h24 (Qd ?_)
   obtain ⟨S, hD, kS⟩ := mkSXw hw [[], [], [], [], []] (K := []) rfl
   obtain ⟨y9, hx5⟩ : ∃ y, (some () : Option Unit) = some y := ⟨_, rfl⟩
   obtain ⟨J5, hJ5⟩ := mkJ fun a w => QbJ x5 = some y6 ∧ Sees a 115 [(0, (pt b1 0)), (3, (pt b3 0)), (106, .bool false)] ∧ St g w [k10 b3 x16.f0 x16.f1 x16.f2 x16.f3 x16.f4 x16.f5 x16.f6 x16.f7 x16.f8 x16.f9 x16.f10 x16.f11 x16.f12 x16.f13.f0 x16.f13.f1 x16.f13.f2 x16.f13.f3 x16.f14.f0 x16.f14.f1 p4 x16.f14.f2 c4 x16.f14.f3 x16.f14.f4 p5 x16.f15 c5 p6 x16.f16 c6 p7 x16.f17 c7, k37 b1 x1 x2 x3 x4 b2 x7 x8 x9 p2 x10 c2 x11 x12 x13 x14 p3 x15 c3, bx b2 [.slice p1 x5.length c1, x6] 113, d1, F] ih1
   refine Qo (by kernel_rfl) (N := 14) rfl S J5 ?_ ?_
   ·have hw := hw.drew
    have hS : S (bA 14 0) _ := SXn hD (hw.vws [0, 1, 2, 3, 4])
    refine Qu kS hs hS fun a hs => ?_
    obtain rfl := someE hx5
    exact (hJ5 _ _).2 ⟨hx3, hs.cst, hw.pk [0, 1, 2, 3, 4]⟩
   intro a w hh
   obtain ⟨hx3, hs, hw⟩ := (hJ5 _ _).1 hh
   refine QhJ hs (Qg ?_)
   obtain rfl := someE hx3
   exact (hJ3 _ _).2 ⟨x5, p1, c1, d1, ih1, hk, hs.cst, hw.pk [1, 2, 3, 4], (Le.refl _), (h1.mono hle2)⟩
  refine Qs hs h24 (Qg ?_)
  obtain rfl := someE hx3
  exact (hJ3 _ _).2 ⟨x5, p1, c1, d1, ih1, hk, hs.cst, hw.pk [1, 2, 3, 4], (Le.refl _), (h1.mono hle2)⟩
 intro a w hh
 obtain ⟨x18, p10, c10, d4, ih3, hk, hs, hw, hle5, h25⟩ := (hJ3 _ _).1 hh
 refine Qd (Qa (pn hs 1 [(4, .slice none 0 0)] fun a hs => ?_))
 refine Qc (Qi ?_)
 have hw := hw.nil
 obtain rfl := someE hk
 exact qr1 hQ hs ⟨ih3, none, 0, ([]), p10, c10, d4, rfl, hw.pk [0, 1, 2, 3, 4], (hle2.trans hle5), (OSl.nil _ _), h25⟩
def Qa0 (x1 : Int) : Option (List Int) :=
 (ix ([([]), ([98, 108]), ([98, 108, 116]), ([98, 108, 109]), ([98, 108]), ([108, 109]), ([98, 108]), ([108]), ([98]), ([109]), ([99]), ([102]), ([99, 101, 115, 100, 117]), ([99, 101, 115, 100, 110, 108]), ([99, 101, 115, 108, 110, 97]), ([99, 101, 110, 107]), ([99, 101, 110, 107, 118]), ([99, 101, 117]), ([110, 111, 118]), ([99, 101, 110, 107]), ([110, 107, 118, 97])]) x1).bind fun x2 =>
 some x2
theorem Qem {x1 : Int} {r : (List Int)} (hk : Qa0 x1 = some r) {g w : World} {F : Ch} {ih : IH} (hw : St g w [F] ih) :
  CallsR Tryz.prog 72 #[Qb x1] w fun v w' => v = .string (strOf r) ∧ St g w' [F] ih := by
 refine f_i Tryz.func72 rfl 9 rfl fun a Qf hQ hQn hs => ?_
 refine Qd (Qa (pn hs 1 [(0, Qb x1)] fun a hs => ?_))
 refine Qc (Qd (Qa (QC hs hw [.string (strOf ([])), .string (strOf ([98, 108])), .string (strOf ([98, 108, 116])), .string (strOf ([98, 108, 109])), .string (strOf ([98, 108])), .string (strOf ([108, 109])), .string (strOf ([98, 108])), .string (strOf ([108])), .string (strOf ([98])), .string (strOf ([109])), .string (strOf ([99])), .string (strOf ([102])), .string (strOf ([99, 101, 115, 100, 117])), .string (strOf ([99, 101, 115, 100, 110, 108])), .string (strOf ([99, 101, 115, 108, 110, 97])), .string (strOf ([99, 101, 110, 107])), .string (strOf ([99, 101, 110, 107, 118])), .string (strOf ([99, 101, 117])), .string (strOf ([110, 111, 118])), .string (strOf ([99, 101, 110, 107])), .string (strOf ([110, 107, 118, 97]))] 9 (fun b => .slice (some ⟨b, 0, none⟩) 21 21) (by kernel_rfl) (fun _ => by kernel_rfl) fun a w b1 hs hw => ?_)))
 refine pn hs 1 [(0, Qb x1), (3, .slice (some ⟨b1, 0, none⟩) 21 21)] fun a hs => Qc (Qd (Qa (pu hs 2 fun a hs => ?_)))
 obtain ⟨x2, h1, hk⟩ := bindE hk
 refine QeI hs (OSl.ofL (E := e9) (ih := ih) (b := b1) (zs := [([]), ([98, 108]), ([98, 108, 116]), ([98, 108, 109]), ([98, 108]), ([108, 109]), ([98, 108]), ([108]), ([98]), ([109]), ([99]), ([102]), ([99, 101, 115, 100, 117]), ([99, 101, 115, 100, 110, 108]), ([99, 101, 115, 108, 110, 97]), ([99, 101, 110, 107]), ([99, 101, 110, 107, 118]), ([99, 101, 117]), ([110, 111, 118]), ([99, 101, 110, 107]), ([110, 107, 118, 97])]) (EL.cons (E := e9) (c1 := [.string (strOf ([]))]) rfl (EL.cons (E := e9) (c1 := [.string (strOf ([98, 108]))]) rfl (EL.cons (E := e9) (c1 := [.string (strOf ([98, 108, 116]))]) rfl (EL.cons (E := e9) (c1 := [.string (strOf ([98, 108, 109]))]) rfl (EL.cons (E := e9) (c1 := [.string (strOf ([98, 108]))]) rfl (EL.cons (E := e9) (c1 := [.string (strOf ([108, 109]))]) rfl (EL.cons (E := e9) (c1 := [.string (strOf ([98, 108]))]) rfl (EL.cons (E := e9) (c1 := [.string (strOf ([108]))]) rfl (EL.cons (E := e9) (c1 := [.string (strOf ([98]))]) rfl (EL.cons (E := e9) (c1 := [.string (strOf ([109]))]) rfl (EL.cons (E := e9) (c1 := [.string (strOf ([99]))]) rfl (EL.cons (E := e9) (c1 := [.string (strOf ([102]))]) rfl (EL.cons (E := e9) (c1 := [.string (strOf ([99, 101, 115, 100, 117]))]) rfl (EL.cons (E := e9) (c1 := [.string (strOf ([99, 101, 115, 100, 110, 108]))]) rfl (EL.cons (E := e9) (c1 := [.string (strOf ([99, 101, 115, 108, 110, 97]))]) rfl (EL.cons (E := e9) (c1 := [.string (strOf ([99, 101, 110, 107]))]) rfl (EL.cons (E := e9) (c1 := [.string (strOf ([99, 101, 110, 107, 118]))]) rfl (EL.cons (E := e9) (c1 := [.string (strOf ([99, 101, 117]))]) rfl (EL.cons (E := e9) (c1 := [.string (strOf ([110, 111, 118]))]) rfl (EL.cons (E := e9) (c1 := [.string (strOf ([99, 101, 110, 107]))]) rfl (EL.cons (E := e9) (c1 := [.string (strOf ([110, 107, 118, 97]))]) rfl EL.nil))))))))))))))))))))) rfl (by simp [maxLen])) (by kernel_rfl) (by kernel_rfl) (k := .i64) (by kernel_rfl) 9 (by kernel_rfl) (by kernel_rfl) h1 fun a r29 cs henc at30 h2 hs => ?_
 obtain rfl := henc
 refine Qj hs (at30 _ ((hw.vw 0 rfl).anti (Le.refl _))) 0 fun a hs => pn hs 1 [(2, .string (strOf x2))] fun a hs => Qc (Qi ?_)
 obtain rfl := someE hk
 exact qr1 hQ hs ⟨rfl, hw.pk [1]⟩
def Qc4 (x1 : Int) : Option Bool :=
 some ((decide (x1 ≥ 1)) && (decide (x1 ≤ 5)))
theorem Qgw {x1 : Int} {r : Bool} (hk : Qc4 x1 = some r) {g w : World} {F : Ch} {ih : IH} (hw : St g w [F] ih) :
  CallsR Tryz.prog 188 #[Qb x1] w fun v w' => v = .bool r ∧ St g w' [F] ih := by
 refine f_i Tryz.func188 rfl 9 rfl fun a Qf hQ hQn hs => ?_
 refine Qd (Qa (pn hs 1 [(0, Qb x1)] fun a hs => ?_))
 refine Qc (Qd ?_)
 obtain ⟨J1, hJ1⟩ := mkJ fun a w => Sees a 9 [(2, .bool ((decide (x1 ≥ 1)) && (decide (x1 ≤ 5))))] ∧ St g w [F] ih
 refine Qn J1 ?_ ?_
 ·refine pu hs 3 fun a hs => ?_
  rcases boolE (decide (x1 ≥ 1)) with h1 | h1
  ·have hs := hs.aB 5 h1
   refine pu hs 4 fun a hs => Qc ?_
   exact (hJ1 _ _).2 ⟨(hs.bB 2 h1 (decide (x1 ≤ 5)) ((decide (x1 ≥ 1)) && (decide (x1 ≤ 5)))).cst, hw.pk [0]⟩
  have hs := hs.aB 5 h1
  refine pu hs 4 fun a hs => Qc ?_
  exact (hJ1 _ _).2 ⟨(hs.bB 2 h1 false ((decide (x1 ≥ 1)) && (decide (x1 ≤ 5)))).cst, hw.pk [0]⟩
 intro a w hh
 obtain ⟨hs, hw⟩ := (hJ1 _ _).1 hh
 refine Qi ?_
 obtain rfl := someE hk
 exact qr1 hQ hs ⟨rfl, hw.pk [0]⟩
def Qdt (x1 x2 : Int) (x3 : Bool) : Option (Int × Int) :=
 if x3 = true then some (0, 1)
 else (some (IntKind.u64.wrap ((IntKind.u64.wrap (x1 * 8)) + (IntKind.u64.wrap (x2))))).bind fun x4 =>
 some (x4, 0)
def Qew (x1 x2 : Int) : Option (Int × Int) :=
 (if (decide (x1 < 1)) = true then some true
  else if (decide (x1 > 1152921504606846975)) = true then some true
  else (Qc4 x2).bind fun y1 =>
  some (!y1) : Option Bool).bind fun s1 => Qdt x1 x2 s1
theorem Qhw {x1 x2 : Int} {r : Int × Int} (hk : Qew x1 x2 = some r) {g w : World} {F : Ch} {ih : IH} (hw : St g w [F] ih) :
  CallsR Tryz.prog 149 #[Qe x1, Qb x2] w fun v w' => v = .tuple #[Qe r.1, Qb r.2] ∧ St g w' [F] ih := by
 refine f_i Tryz.func149 rfl 22 rfl fun a Qf hQ hQn hs => ?_
 refine Qd (Qa (pn hs 2 [(0, Qe x1), (1, Qb x2)] fun a hs => ?_))
 refine Qc (Qd (Qd ?_))
 obtain ⟨y1, hx1, hk⟩ := bindE hk
 obtain ⟨J1, hJ1⟩ := mkJ fun a w => ∃ (x3 : Bool), Qdt x1 x2 x3 = some r ∧ Sees a 22 [(0, Qe x1), (1, Qb x2), (16, .bool x3)] ∧ St g w [F] ih
 refine Qn J1 ?_ ?_
 ·refine pu hs 3 fun a hs => ?_
  rcases ifbE hx1 with ⟨h1, hx1⟩ | ⟨h1, hx1⟩
  ·have hs := hs.aB 8 h1
   refine pu hs 8 fun a hs => Qc ?_
   obtain rfl := someE hx1
   exact (hJ1 _ _).2 ⟨true, hk, hs.cst, hw.pk [0]⟩
  have hs := hs.aB 8 h1
  refine pu hs 4 fun a hs => ?_
  rcases ifbE hx1 with ⟨h2, hx1⟩ | ⟨h2, hx1⟩
  ·have hs := hs.aB 12 h2
   refine pu hs 4 fun a hs => Qc ?_
   obtain rfl := someE hx1
   exact (hJ1 _ _).2 ⟨true, hk, hs.cst, hw.pk [0]⟩
  have hs := hs.aB 12 h2
  refine pu hs 1 fun a hs => ?_
  obtain ⟨y2, h3, hx1⟩ := bindE hx1
  refine Qv hs (Qgw h3 ((hw.pk [0]).pack 0)) fun a w v hv hs => ?_
  obtain ⟨rfl, hw⟩ := hv
  have hw := hw.unpack 0 rfl
  refine pu hs 2 fun a hs => Qc ?_
  obtain rfl := someE hx1
  exact (hJ1 _ _).2 ⟨(!y2), hk, hs.cst, hw.pk [0]⟩
 intro a w hh
 obtain ⟨x3, hk, hs, hw⟩ := (hJ1 _ _).1 hh
 rcases ifbE hk with ⟨h4, hk⟩ | ⟨h4, hk⟩
 ·refine Qr hs h4 ?_
  refine Qd (Qa (pn hs 2 [(4, Qe 0), (5, Qb 1)] fun a hs => ?_))
  refine Qc (Qi ?_)
  obtain rfl := someE hk
  refine hQ _ _ (Q4 hs [.tmp 4, .tmp 5] rfl [Qe 0, Qb 1] (by kernel_rfl) (by kernel_rfl) ⟨rfl, hw.pk [0]⟩)
 refine Qs hs h4 ?_
 refine Qg (Qd (Qa (pu hs 5 fun a hs => ?_)))
 obtain ⟨x4, h5, hk⟩ := bindE hk
 have hs := hs.alt 21 (by kernel_rfl) (congrArg (Value.int .u64) (someE h5))
 refine pn hs 2 [(4, Qe x4), (5, Qb 0)] fun a hs => Qc (Qi ?_)
 obtain rfl := someE hk
 refine hQ _ _ (Q4 hs [.tmp 4, .tmp 5] rfl [Qe x4, Qb 0] (by kernel_rfl) (by kernel_rfl) ⟨rfl, hw.pk [0]⟩)
def Qbb (x1 : Int) : Option Bool :=
 (Qew (IntKind.u64.wrap (x1.tdiv 8)) (IntKind.i64.wrap (x1.tmod 8))).bind fun y1 =>
 some (y1.2 == 0)
theorem QdQ {x1 : Int} {r : Bool} (hk : Qbb x1 = some r) {g w : World} {F : Ch} {ih : IH} (hw : St g w [F] ih) :
  CallsR Tryz.prog 116 #[Qe x1] w fun v w' => v = .bool r ∧ St g w' [F] ih := by
 refine f_i Tryz.func116 rfl 16 rfl fun a Qf hQ hQn hs => ?_
 refine Qd (Qa (pn hs 1 [(0, Qe x1)] fun a hs => ?_))
 refine Qc (Qd (Qa (pu hs 5 fun a hs => ?_)))
 obtain ⟨y1, h1, hk⟩ := bindE hk
 refine Qv hs (Qhw h1 ((hw.pk [0]).pack 0)) fun a w v hv hs => ?_
 obtain ⟨rfl, hw⟩ := hv
 have hw := hw.unpack 0 rfl
 refine pn hs 5 [(4, Qb y1.2)] fun a hs => Qc (Qd (Qa (pn hs 3 [(2, .bool (y1.2 == 0))] fun a hs => ?_)))
 refine Qc (Qi ?_)
 obtain rfl := someE hk
 exact qr1 hQ hs ⟨rfl, hw.pk [0]⟩
def Qas (x1 : M41) : Option Int :=
 if ((decide (x1.f0 < 0)) || (decide (x1.f0 > 4))) = true then some 1
 else if (x1.f0 == 0) = true then (
  if ((x1.f1 != 0) || ((x1.f2 != 0) || (x1.f3 != 0))) = true then some 4
  else some 0)
 else if ((decide (x1.f1 < 0)) || ((decide (x1.f1 > 3)) || ((x1.f2 == 0) || ((decide (x1.f3 < 1)) || (decide (x1.f3 > 24)))))) = true then some 4
 else some 0
theorem QcQ {x1 : M41} {r : Int} (hk : Qas x1 = some r) {g w : World} {F : Ch} {ih : IH} (hw : St g w [F] ih) :
  CallsR Tryz.prog 117 #[A41 x1] w fun v w' => v = Qb r ∧ St g w' [F] ih := by
 refine f_i Tryz.func117 rfl 50 rfl fun a Qf hQ hQn hs => ?_
 refine Qd (Qa (QC hs hw [Qb x1.f0, Qb x1.f1, Qe x1.f2, Qb x1.f3] 41 (fun b => (pt b 0)) (by kernel_rfl) (fun _ => by kernel_rfl) fun a w b1 hs hw => ?_))
 refine pn hs 1 [(1, (pt b1 0))] fun a hs => Qc (Qd (Qd ?_))
 obtain ⟨J1, hJ1⟩ := mkJ fun a w => Sees a 50 [(1, (pt b1 0)), (10, .bool ((decide (x1.f0 < 0)) || (decide (x1.f0 > 4))))] ∧ St g w [k34 b1 x1.f0 x1.f1 x1.f2 x1.f3, F] ih
 refine Qn J1 ?_ ?_
 ·refine pu hs 1 fun a hs => Qj hs (hw.at_ 0 rfl) 0 fun a hs => pu hs 2 fun a hs => ?_
  rcases boolE (decide (x1.f0 < 0)) with h1 | h1
  ·have hs := hs.aB 6 h1
   refine pu hs 4 fun a hs => Qc ?_
   exact (hJ1 _ _).2 ⟨(hs.bB 10 h1 true ((decide (x1.f0 < 0)) || (decide (x1.f0 > 4)))).cst, hw.pk [0, 1]⟩
  have hs := hs.aB 6 h1
  refine pu hs 1 fun a hs => Qj hs (hw.at_ 0 rfl) 0 fun a hs => pn hs 2 [(1, (pt b1 0)), (10, .bool (decide (x1.f0 > 4)))] fun a hs => Qc ?_
  exact (hJ1 _ _).2 ⟨(hs.bB 10 h1 (decide (x1.f0 > 4)) ((decide (x1.f0 < 0)) || (decide (x1.f0 > 4)))).cst, hw.pk [0, 1]⟩
 intro a w hh
 obtain ⟨hs, hw⟩ := (hJ1 _ _).1 hh
 rcases ifbE hk with ⟨h2, hk⟩ | ⟨h2, hk⟩
 ·refine Qr hs h2 ?_
  refine Qd (Qa (pn hs 1 [(2, Qb 1)] fun a hs => ?_))
  refine Qc (Qi ?_)
  obtain rfl := someE hk
  exact qr1 hQ hs ⟨rfl, hw.pk [1]⟩
 refine Qs hs h2 ?_
 refine Qg (Qd (Qd (Qa (pu hs 1 fun a hs => ?_))))
 refine Qj hs (hw.at_ 0 rfl) 0 fun a hs => pn hs 1 [(1, (pt b1 0)), (13, .bool (x1.f0 == 0))] fun a hs => Qc ?_
 rcases ifbE hk with ⟨h3, hk⟩ | ⟨h3, hk⟩
 ·refine Qr hs h3 ?_
  refine Qd (Qd ?_)
  obtain ⟨J2, hJ2⟩ := mkJ fun a w => Sees a 50 [(26, .bool ((x1.f1 != 0) || ((x1.f2 != 0) || (x1.f3 != 0))))] ∧ St g w [F] ih
  refine Qn J2 ?_ ?_
  ·refine pu hs 1 fun a hs => Qj hs (hw.at_ 0 rfl) 1 fun a hs => pu hs 2 fun a hs => ?_
   rcases boolE (x1.f1 != 0) with h4 | h4
   ·have hs := hs.aB 17 h4
    refine pu hs 9 fun a hs => Qc ?_
    exact (hJ2 _ _).2 ⟨(hs.bB 26 h4 true ((x1.f1 != 0) || ((x1.f2 != 0) || (x1.f3 != 0)))).cst, hw.pk [1]⟩
   have hs := hs.aB 17 h4
   refine pu hs 1 fun a hs => Qj hs (hw.at_ 0 rfl) 2 fun a hs => pn hs 3 [(1, (pt b1 0)), (22, .bool (x1.f2 != 0))] fun a hs => ?_
   rcases boolE (x1.f2 != 0) with h5 | h5
   ·have hs := hs.aB 22 h5
    refine pu hs 4 fun a hs => Qc ?_
    exact (hJ2 _ _).2 ⟨(hs.altB (b := true) 26 ((x1.f1 != 0) || ((x1.f2 != 0) || (x1.f3 != 0))) (by kernel_rfl) (by first | (rw [h4, h5] <;> rfl) | (revert h4 h5; simp +contextual))).cast [26] (by kernel_rfl), hw.pk [1]⟩
   have hs := hs.aB 22 h5
   refine pu hs 1 fun a hs => Qj hs (hw.at_ 0 rfl) 3 fun a hs => pu hs 2 fun a hs => Qc ?_
   exact (hJ2 _ _).2 ⟨(hs.altB (b := (x1.f3 != 0)) 26 ((x1.f1 != 0) || ((x1.f2 != 0) || (x1.f3 != 0))) (by kernel_rfl) (by first | (rw [h4, h5] <;> rfl) | (revert h4 h5; simp +contextual))).cast [26] (by kernel_rfl), hw.pk [1]⟩
  intro a w hh
  obtain ⟨hs, hw⟩ := (hJ2 _ _).1 hh
  rcases ifbE hk with ⟨h6, hk⟩ | ⟨h6, hk⟩
  ·refine Qr hs h6 ?_
   refine Qd (Qa (pn hs 1 [(2, Qb 4)] fun a hs => ?_))
   refine Qc (Qi ?_)
   obtain rfl := someE hk
   exact qr1 hQ hs ⟨rfl, hw.pk [0]⟩
  refine Qs hs h6 ?_
  refine Qg (Qd (Qa (pn hs 1 [(2, Qb 0)] fun a hs => ?_)))
  refine Qc (Qi ?_)
  obtain rfl := someE hk
  exact qr1 hQ hs ⟨rfl, hw.pk [0]⟩
 refine Qs hs h3 ?_
 refine Qg (Qd (Qd ?_))
 obtain ⟨J3, hJ3⟩ := mkJ fun a w => Sees a 50 [(49, .bool ((decide (x1.f1 < 0)) || ((decide (x1.f1 > 3)) || ((x1.f2 == 0) || ((decide (x1.f3 < 1)) || (decide (x1.f3 > 24)))))))] ∧ St g w [F] ih
 refine Qn J3 ?_ ?_
 ·refine pu hs 1 fun a hs => Qj hs (hw.at_ 0 rfl) 1 fun a hs => pu hs 2 fun a hs => ?_
  rcases boolE (decide (x1.f1 < 0)) with h7 | h7
  ·have hs := hs.aB 30 h7
   refine pu hs 19 fun a hs => Qc ?_
   exact (hJ3 _ _).2 ⟨(hs.bB 49 h7 true ((decide (x1.f1 < 0)) || ((decide (x1.f1 > 3)) || ((x1.f2 == 0) || ((decide (x1.f3 < 1)) || (decide (x1.f3 > 24))))))).cst, hw.pk [1]⟩
  have hs := hs.aB 30 h7
  refine pu hs 1 fun a hs => Qj hs (hw.at_ 0 rfl) 1 fun a hs => pn hs 3 [(1, (pt b1 0)), (35, .bool (decide (x1.f1 > 3)))] fun a hs => ?_
  rcases boolE (decide (x1.f1 > 3)) with h8 | h8
  ·have hs := hs.aB 35 h8
   refine pu hs 14 fun a hs => Qc ?_
   exact (hJ3 _ _).2 ⟨(hs.altB (b := true) 49 ((decide (x1.f1 < 0)) || ((decide (x1.f1 > 3)) || ((x1.f2 == 0) || ((decide (x1.f3 < 1)) || (decide (x1.f3 > 24)))))) (by kernel_rfl) (by first | (rw [h7, h8] <;> rfl) | (revert h7 h8; simp +contextual))).cast [49] (by kernel_rfl), hw.pk [1]⟩
  have hs := hs.aB 35 h8
  refine pu hs 1 fun a hs => Qj hs (hw.at_ 0 rfl) 2 fun a hs => pu hs 3 fun a hs => ?_
  rcases boolE (x1.f2 == 0) with h9 | h9
  ·have hs := hs.aB 40 h9
   refine pu hs 9 fun a hs => Qc ?_
   exact (hJ3 _ _).2 ⟨(hs.altB (b := true) 49 ((decide (x1.f1 < 0)) || ((decide (x1.f1 > 3)) || ((x1.f2 == 0) || ((decide (x1.f3 < 1)) || (decide (x1.f3 > 24)))))) (by kernel_rfl) (by first | (rw [h7, h8, h9] <;> rfl) | (revert h7 h8 h9; simp +contextual))).cast [49] (by kernel_rfl), hw.pk [1]⟩
  have hs := hs.aB 40 h9
  refine pu hs 1 fun a hs => Qj hs (hw.at_ 0 rfl) 3 fun a hs => pn hs 3 [(1, (pt b1 0)), (45, .bool (decide (x1.f3 < 1)))] fun a hs => ?_
  rcases boolE (decide (x1.f3 < 1)) with h10 | h10
  ·have hs := hs.aB 45 h10
   refine pu hs 4 fun a hs => Qc ?_
   exact (hJ3 _ _).2 ⟨(hs.altB (b := true) 49 ((decide (x1.f1 < 0)) || ((decide (x1.f1 > 3)) || ((x1.f2 == 0) || ((decide (x1.f3 < 1)) || (decide (x1.f3 > 24)))))) (by kernel_rfl) (by first | (rw [h7, h8, h9, h10] <;> rfl) | (revert h7 h8 h9 h10; simp +contextual))).cast [49] (by kernel_rfl), hw.pk [1]⟩
  have hs := hs.aB 45 h10
  refine pu hs 1 fun a hs => Qj hs (hw.at_ 0 rfl) 3 fun a hs => pu hs 2 fun a hs => Qc ?_
  exact (hJ3 _ _).2 ⟨(hs.altB (b := (decide (x1.f3 > 24))) 49 ((decide (x1.f1 < 0)) || ((decide (x1.f1 > 3)) || ((x1.f2 == 0) || ((decide (x1.f3 < 1)) || (decide (x1.f3 > 24)))))) (by kernel_rfl) (by first | (rw [h7, h8, h9, h10] <;> rfl) | (revert h7 h8 h9 h10; simp +contextual))).cast [49] (by kernel_rfl), hw.pk [1]⟩
 intro a w hh
 obtain ⟨hs, hw⟩ := (hJ3 _ _).1 hh
 rcases ifbE hk with ⟨h11, hk⟩ | ⟨h11, hk⟩
 ·refine Qr hs h11 ?_
  refine Qd (Qa (pn hs 1 [(2, Qb 4)] fun a hs => ?_))
  refine Qc (Qi ?_)
  obtain rfl := someE hk
  exact qr1 hQ hs ⟨rfl, hw.pk [0]⟩
 refine Qs hs h11 ?_
 refine Qg (Qd (Qa (pn hs 1 [(2, Qb 0)] fun a hs => ?_)))
 refine Qc (Qi ?_)
 obtain rfl := someE hk
 exact qr1 hQ hs ⟨rfl, hw.pk [0]⟩
end Go.Proofs.YteiinkhbgpldeaaGreatDoor.Sx
