/- The walk of CallerPlays. Conditions: those ahead of each colon. -/
import Derived.Test.YteiinkhbgpldeaaGreatDoorWCallerPlays3
namespace Go.Proofs.YteiinkhbgpldeaaGreatDoor.Sx
open Go Go.Proofs
set_option maxRecDepth 100000
set_option linter.unusedVariables false
def Qca (x1 : Bool) : Option Bool :=
 some x1
def Qb9 (k : Nat) (y1 : M26) (x1 : M60) (x2 : List M44) (x3 : Bool) : Option Bool :=
 if x3 = true then some false
 else (if (y1.f0 == x1.f5.f0) = true then (
   if (y1.f1 == x1.f5.f1) = true then (
    if (y1.f2 == x1.f5.f2) = true then (
     if (y1.f4 == x1.f5.f4) = true then (
      (Qz k y1.f3 x1.f5.f3).bind fun y2 =>
      if y2 = true then (
       (Qav k x2).bind fun y3 =>
       (QaA k y3 x1.f4).bind fun y4 =>
       some y4)
      else some false)
     else some false)
    else some false)
   else some false)
  else some false : Option Bool).bind fun s1 => Qca s1
def Qb8 (k : Nat) (x1 : M60) (x2 : Int) (y1 : M51) (y2 : M26) (x3 : List M44) (x4 : Bool) : Option Bool :=
 if x4 = true then some false
 else (if (!(false == (x1.f6 == 1))) = true then some true
  else if (!(false == (x1.f6 == 2))) = true then some true
  else (QaS x2).bind fun y3 =>
  if (y3 != x1.f2) = true then some true
  else if (y1.f0 != x1.f7.f0) = true then some true
  else if (y1.f1 != x1.f7.f1) = true then some true
  else (Qz k y1.f2 x1.f7.f2).bind fun y4 =>
  some (!y4) : Option Bool).bind fun s1 => Qb9 k y2 x1 x3 s1
def Qbu (k : Nat) (x1 : Int) (x2 : List M44) (x3 x4 x5 : Int) (x6 : List Int) (x7 x8 x9 x10 : Int) (x11 : List Int) (x12 : M60) : Option Bool :=
 (QcT).bind fun y1 =>
 (Qce x3 x4 x5 x6 x7).bind fun y2 =>
 (Qbi x8 x9 x10 x11).bind fun y3 =>
 (if (y3.1 != x12.f8) = true then some true
  else if (y3.2.f0 != x12.f9.f0) = true then some true
  else if (y3.2.f1 != x12.f9.f1) = true then some true
  else (Qz k y3.2.f2 x12.f9.f2).bind fun y4 =>
  some (!y4) : Option Bool).bind fun s1 => Qb8 k x12 x1 y1 y2 x2 s1
theorem Qgx {k : Nat} {x1 x2 x3 x4 : Int} {x5 : List M44} {x6 : Value} {x7 x8 x9 : Int} {x10 : List Int} {x11 x12 x13 x14 : Int} {x15 : List Int} {x16 : M60} {d1 : Ch} {b1 b2 c1 c2 c3 c4 c5 c6 c7 : Nat} {p1 p2 p3 p4 p5 p6 p7 : Option Addr} {r : Bool} (hk : Qbu k x3 x5 x7 x8 x9 x10 x11 x12 x13 x14 x15 x16 = some r) {g w : World} {F : Ch} {ih : IH} (h1 : OSl e44 ih p1 c1 x5 d1) (h2 : x6.oneCell' = true) (h3 : RSl e5 ih [] p2 c2 x10) (h4 : RSl e5 ih [] p3 c3 x15) (h5 : RSl e44 ih [] p4 c4 x16.f4) (h6 : RSl e5 ih [] p5 c5 x16.f5.f3) (h7 : RSl e5 ih [] p6 c6 x16.f7.f2) (h8 : RSl e5 ih [] p7 c7 x16.f9.f2) (hw : St g w [k37 b1 x1 x2 x3 x4 b2 x7 x8 x9 p2 x10 c2 x11 x12 x13 x14 p3 x15 c3, bx b2 [.slice p1 x5.length c1, x6] 113, d1, F] ih) :
  CallsR Tryz.prog 22 #[(pt b1 0), A60 x16 p4 c4 p5 c5 p6 c6 p7 c7] w fun v w' => ∃ (ih' : IH), v = .bool r ∧ St g w' [bx b1 [Qb x1, Qb x2, Qe x3, Qb x4, (pt b2 0), Qb x7, Qk x8, Qe x9, .slice p2 x10.length c2, Qb x11, .pointer none, Qe x12, Qb x13, Qe x14, .slice p3 x15.length c3] 85, bx b2 [.slice p1 x5.length c1, x6] 113, d1, F] ih' ∧ Le ih ih' := by
 refine f_i Tryz.func22 rfl 142 rfl fun a Qf hQ hQn hs => ?_
 refine Qd (Qa (QC hs hw [Qb x16.f0, Qb x16.f1, Qe x16.f2, Qb x16.f3, .slice p4 x16.f4.length c4, Qb x16.f5.f0, Qk x16.f5.f1, Qe x16.f5.f2, .slice p5 x16.f5.f3.length c5, Qb x16.f5.f4, Qb x16.f6, Qb x16.f7.f0, Qe x16.f7.f1, .slice p6 x16.f7.f2.length c6, Qe x16.f8, Qb x16.f9.f0, Qe x16.f9.f1, .slice p7 x16.f9.f2.length c7] 60 (fun b => (pt b 0)) (by kernel_rfl) (fun _ => by kernel_rfl) fun a w b3 hs hw => ?_))
 refine pn hs 1 [(0, (pt b1 0)), (3, (pt b3 0))] fun a hs => Qc (Qd (Qa (pu hs 1 fun a hs => ?_)))
 obtain ⟨y1, h9, hk⟩ := bindE hk
 refine Qv hs (Qf9 (x1 := x1) (x2 := x2) (x3 := x3) (x4 := x4) (x5 := x5) (x6 := (x6)) (x7 := x7) (x8 := x8) (x9 := x9) (x10 := x10) (x11 := x11) (x12 := x12) (x13 := x13) (x14 := x14) (x15 := x15) h9 h1 h2 h3 h4 ((hw.pk [1, 2, 3, 0, 4]).pack 3)) fun a w v hv hs => ?_
 obtain ⟨ih1, p8, c8, rfl, hw, hle1, h10⟩ := hv
 have hw := hw.unpack 3 rfl
 refine pu hs 3 fun a hs => QaN hs hw [Qb 0, Qe 0, .slice none 0 0] 51 (fun b => (pt b 0)) fun a w b4 hs hw => QE hs hw 0 rfl 0 (v := A51 y1 p8 c8) fun a w hs hw => ?_
 refine pn hs 1 [(0, (pt b1 0)), (3, (pt b3 0)), (5, (pt b4 0)), (6, .bool false)] fun a hs => ?_
 have hw := hw.cL [k48 b4 y1.f0 y1.f1 p8 y1.f2 c8, k37 b1 x1 x2 x3 x4 b2 x7 x8 x9 p2 x10 c2 x11 x12 x13 x14 p3 x15 c3, bx b2 [.slice p1 x5.length c1, x6] 113, d1, k52 b3 x16.f0 x16.f1 x16.f2 x16.f3 p4 x16.f4 c4 x16.f5.f0 x16.f5.f1 x16.f5.f2 p5 x16.f5.f3 c5 x16.f5.f4 x16.f6 x16.f7.f0 x16.f7.f1 p6 x16.f7.f2 c6 x16.f8 x16.f9.f0 x16.f9.f1 p7 x16.f9.f2 c7, F]
 refine Qc (Qd (Qa (pu hs 1 fun a hs => ?_)))
 obtain ⟨y2, h11, hk⟩ := bindE hk
 refine Qv hs (Qfn (x1 := x1) (x2 := x2) (x3 := x3) (x4 := x4) (x5 := x5) (x6 := (x6)) (x12 := (.pointer none)) (x13 := x12) (x14 := x13) (x15 := x14) (x16 := x15) h11 (h1.mono hle1) h2 (h3.mono hle1) rfl (h4.mono hle1) ((hw.pk [1, 2, 3, 0, 4, 5]).pack 3)) fun a w v hv hs => ?_
 obtain ⟨ih2, p9, c9, rfl, hw, hle2, h12⟩ := hv
 have hw := hw.unpack 3 rfl
 refine QaN hs hw [Qb 0, Qk 0, Qe 0, .slice none 0 0, Qb 0] 26 (fun b => (pt b 0)) fun a w b5 hs hw => ?_
 refine QE hs hw 0 rfl 0 (v := A26 y2 p9 c9) fun a w hs hw => ?_
 have hs := hs.cst (e' := [(0, (pt b1 0)), (3, (pt b3 0)), (5, (pt b4 0)), (6, .bool false), (7, (pt b5 0))])
 have hw := hw.cL [k8 b5 y2.f0 y2.f1 y2.f2 p9 y2.f3 c9 y2.f4, k37 b1 x1 x2 x3 x4 b2 x7 x8 x9 p2 x10 c2 x11 x12 x13 x14 p3 x15 c3, bx b2 [.slice p1 x5.length c1, x6] 113, d1, k48 b4 y1.f0 y1.f1 p8 y1.f2 c8, k52 b3 x16.f0 x16.f1 x16.f2 x16.f3 p4 x16.f4 c4 x16.f5.f0 x16.f5.f1 x16.f5.f2 p5 x16.f5.f3 c5 x16.f5.f4 x16.f6 x16.f7.f0 x16.f7.f1 p6 x16.f7.f2 c6 x16.f8 x16.f9.f0 x16.f9.f1 p7 x16.f9.f2 c7, F]
 refine Qc (Qd (Qa (pu hs 1 fun a hs => ?_)))
 obtain ⟨y3, h13, hk⟩ := bindE hk
 refine Qv hs (QeG (x1 := x1) (x2 := x2) (x3 := x3) (x4 := x4) (x5 := x5) (x6 := (x6)) (x7 := x7) (x8 := x8) (x9 := x9) (x10 := x10) (x11 := x11) (x12 := (.pointer none)) h13 (h1.mono (hle1.trans hle2)) h2 (h3.mono (hle1.trans hle2)) rfl (h4.mono (hle1.trans hle2)) ((hw.pk [1, 2, 3, 0, 4, 5, 6]).pack 3)) fun a w v hv hs => ?_
 obtain ⟨ih3, p10, c10, rfl, hw, hle3, h14⟩ := hv
 have hw := hw.unpack 3 rfl
 refine pu hs 3 fun a hs => QaN hs hw [Qb 0, Qe 0, .slice none 0 0] 51 (fun b => (pt b 0)) fun a w b6 hs hw => pu hs 1 fun a hs => QE hs hw 0 rfl 0 (v := .agg #[Qb y3.2.f0, Qe y3.2.f1, .slice p10 y3.2.f2.length c10]) fun a w hs hw => ?_
 have hs := hs.cst (e' := [(0, (pt b1 0)), (3, (pt b3 0)), (5, (pt b4 0)), (6, .bool false), (7, (pt b5 0)), (9, (pt b6 0)), (8, Qe y3.1)])
 have hw := hw.cL [k48 b6 y3.2.f0 y3.2.f1 p10 y3.2.f2 c10, k37 b1 x1 x2 x3 x4 b2 x7 x8 x9 p2 x10 c2 x11 x12 x13 x14 p3 x15 c3, bx b2 [.slice p1 x5.length c1, x6] 113, d1, k8 b5 y2.f0 y2.f1 y2.f2 p9 y2.f3 c9 y2.f4, k48 b4 y1.f0 y1.f1 p8 y1.f2 c8, k52 b3 x16.f0 x16.f1 x16.f2 x16.f3 p4 x16.f4 c4 x16.f5.f0 x16.f5.f1 x16.f5.f2 p5 x16.f5.f3 c5 x16.f5.f4 x16.f6 x16.f7.f0 x16.f7.f1 p6 x16.f7.f2 c6 x16.f8 x16.f9.f0 x16.f9.f1 p7 x16.f9.f2 c7, F]
 refine Qc (Qd (Qd ?_))
 obtain ⟨y4, hx1, hk⟩ := bindE hk
 obtain ⟨J1, hJ1⟩ := mkJ fun a w => ∃ (x17 : Bool), Qb8 k x16 x3 y1 y2 x5 x17 = some r ∧ Sees a 142 [(0, (pt b1 0)), (3, (pt b3 0)), (5, (pt b4 0)), (6, .bool false), (7, (pt b5 0)), (50, .bool x17)] ∧ St g w [k37 b1 x1 x2 x3 x4 b2 x7 x8 x9 p2 x10 c2 x11 x12 x13 x14 p3 x15 c3, bx b2 [.slice p1 x5.length c1, x6] 113, k8 b5 y2.f0 y2.f1 y2.f2 p9 y2.f3 c9 y2.f4, k48 b4 y1.f0 y1.f1 p8 y1.f2 c8, k52 b3 x16.f0 x16.f1 x16.f2 x16.f3 p4 x16.f4 c4 x16.f5.f0 x16.f5.f1 x16.f5.f2 p5 x16.f5.f3 c5 x16.f5.f4 x16.f6 x16.f7.f0 x16.f7.f1 p6 x16.f7.f2 c6 x16.f8 x16.f9.f0 x16.f9.f1 p7 x16.f9.f2 c7, d1, F] ih3
 refine Qn J1 ?_ ?_
 ·refine pu hs 2 fun a hs => Qj hs (hw.at_ 6 rfl) 14 fun a hs => pu hs 2 fun a hs => ?_
  rcases ifbE hx1 with ⟨h15, hx1⟩ | ⟨h15, hx1⟩
  ·have hs := hs.aB 26 h15
   refine pu hs 24 fun a hs => Qc ?_
   obtain rfl := someE hx1
   exact (hJ1 _ _).2 ⟨true, hk, hs.cst, hw.pk [1, 2, 4, 5, 6, 3, 7]⟩
  have hs := hs.aB 26 h15
  refine pu hs 1 fun a hs => Qj hs (hw.at_ 0 rfl) 0 fun a hs => pn hs 2 [(0, (pt b1 0)), (3, (pt b3 0)), (5, (pt b4 0)), (6, .bool false), (7, (pt b5 0)), (9, (pt b6 0)), (26, .bool false), (28, Qb y3.2.f0), (30, (pt b3 15))] fun a hs => ?_
  refine Qj hs (hw.at_ 6 rfl) 15 fun a hs => pu hs 3 fun a hs => ?_
  rcases ifbE hx1 with ⟨h16, hx1⟩ | ⟨h16, hx1⟩
  ·have hs := hs.aB 34 h16
   refine pu hs 16 fun a hs => Qc ?_
   obtain rfl := someE hx1
   exact (hJ1 _ _).2 ⟨true, hk, hs.cst, hw.pk [1, 2, 4, 5, 6, 3, 7]⟩
  have hs := hs.aB 34 h16
  refine pu hs 1 fun a hs => Qj hs (hw.at_ 0 rfl) 1 fun a hs => pu hs 2 fun a hs => Qj hs (hw.at_ 6 rfl) 16 fun a hs => pn hs 3 [(0, (pt b1 0)), (3, (pt b3 0)), (5, (pt b4 0)), (6, .bool false), (7, (pt b5 0)), (9, (pt b6 0)), (42, .bool (y3.2.f1 != x16.f9.f1))] fun a hs => ?_
  rcases ifbE hx1 with ⟨h17, hx1⟩ | ⟨h17, hx1⟩
  ·have hs := hs.aB 42 h17
   refine pu hs 8 fun a hs => Qc ?_
   obtain rfl := someE hx1
   exact (hJ1 _ _).2 ⟨true, hk, hs.cst, hw.pk [1, 2, 4, 5, 6, 3, 7]⟩
  have hs := hs.aB 42 h17
  refine pu hs 1 fun a hs => Qj hs (hw.at_ 0 rfl) 2 fun a hs => pu hs 2 fun a hs => Qj hs (hw.at_ 6 rfl) 17 fun a hs => ?_
  obtain ⟨y5, h18, hx1⟩ := bindE hx1
  refine Qv hs (QL h18 h14 (nilSub _) (h8.mono ((hle1.trans hle2).trans hle3)) (nilSub _) ((hw.pk [1, 2, 3, 4, 5, 6, 7]).pack 0)) fun a w v hv hs => ?_
  obtain ⟨rfl, hw⟩ := hv
  have hw := hw.unpack 0 rfl
  refine pu hs 2 fun a hs => Qc ?_
  obtain rfl := someE hx1
  exact (hJ1 _ _).2 ⟨(!y5), hk, hs.cst, hw.pk [0, 1, 3, 4, 5, 2, 6]⟩
 intro a w hh
 obtain ⟨x17, hk, hs, hw⟩ := (hJ1 _ _).1 hh
 rcases ifbE hk with ⟨h19, hk⟩ | ⟨h19, hk⟩
 ·refine Qr hs h19 ?_
  refine Qd (Qa (pn hs 1 [(4, .bool false)] fun a hs => ?_))
  refine Qc (Qi ?_)
  obtain rfl := someE hk
  exact qr1 hQ hs ⟨ih3, rfl, hw.pk [0, 1, 5, 6], ((hle1.trans hle2).trans hle3)⟩
 refine Qs hs h19 ?_
 refine Qg (Qd (Qd ?_))
 obtain ⟨S, hD, kS⟩ := mkSXw hw [[], [], [], [], [], [], []] (K := []) rfl
 obtain ⟨y6, hx2, hk⟩ := bindE hk
 obtain ⟨J2, hJ2⟩ := mkJ fun a w => ∃ (x18 : Bool), Qb9 k y2 x16 x5 x18 = some r ∧ Sees a 142 [(0, (pt b1 0)), (3, (pt b3 0)), (7, (pt b5 0)), (95, .bool x18)] ∧ St g w [k37 b1 x1 x2 x3 x4 b2 x7 x8 x9 p2 x10 c2 x11 x12 x13 x14 p3 x15 c3, bx b2 [.slice p1 x5.length c1, x6] 113, k8 b5 y2.f0 y2.f1 y2.f2 p9 y2.f3 c9 y2.f4, k52 b3 x16.f0 x16.f1 x16.f2 x16.f3 p4 x16.f4 c4 x16.f5.f0 x16.f5.f1 x16.f5.f2 p5 x16.f5.f3 c5 x16.f5.f4 x16.f6 x16.f7.f0 x16.f7.f1 p6 x16.f7.f2 c6 x16.f8 x16.f9.f0 x16.f9.f1 p7 x16.f9.f2 c7, d1, F] ih3
 refine Qo (by kernel_rfl) (N := 45) rfl S J2 ?_ ?_
 ·have hw := hw.drew
  have hS : S (bA 45 0) _ := SXn hD (hw.vws [0, 1, 2, 3, 4, 5, 6])
  refine Qp (fuel := 43) kS hs hS [0, 2] fun a hs hS => ?_
  refine Qy kS hs hS 3 rfl (SXb hD 4 rfl) 10 fun a hs hS => ?_
  refine Qp (fuel := 41) kS hs hS [4] fun a hs hS => ?_
  refine QF [1] (QH ?_)
  have h20 : Q2 = some () := rfl
  refine QaR hs rfl (Q6 (x1 := x1) (x2 := x2) (x3 := x3) (x4 := x4) (x5 := x5) (x6 := (x6)) (x7 := x7) (x8 := x8) (x9 := x9) (x10 := x10) (x11 := x11) (x12 := x12) (x13 := x13) (x14 := x14) (x15 := x15) h20 (h1.mono ((hle1.trans hle2).trans hle3)) h2 (h3.mono ((hle1.trans hle2).trans hle3)) (h4.mono ((hle1.trans hle2).trans hle3)) ((hw.pk [0, 1, 5, 2, 3, 4, 6]).pack 3)) fun a w v hv hs => ?_
  obtain ⟨rfl, hw⟩ := hv
  have hw := hw.unpack 3 rfl
  refine nx hD ((hw.vws [0, 1, 3, 4, 5, 2, 6]).anti (Le.refl _)) fun hS => ?_
  refine Qp (fuel := 38) kS hs hS [5, 6] fun a hs hS => ?_
  rcases ifbE hx2 with ⟨h21, hx2⟩ | ⟨h21, hx2⟩
  ·have hs := hs.aB 57 h21
   refine Qu kS hs hS fun a hs => ?_
   obtain rfl := someE hx2
   exact (hJ2 _ _).2 ⟨true, hk, hs.cst, hw.pk [0, 1, 3, 5, 2, 6]⟩
  have hs := hs.aB 57 h21
  refine Qp (fuel := 36) kS hs hS [7, 8] fun a hs hS => ?_
  refine Qy kS hs hS 9 rfl (SXb hD 4 rfl) 10 fun a hs hS => ?_
  refine Qff (fuel := 31) kS hs hS [10, 11, 12, 13] [(0, (pt b1 0)), (3, (pt b3 0)), (5, (pt b4 0)), (7, (pt b5 0)), (64, .bool (!(false == (x16.f6 == 2))))] fun a hs hS => ?_
  rcases ifbE hx2 with ⟨h22, hx2⟩ | ⟨h22, hx2⟩
  ·have hs := hs.aB 64 h22
   refine Qu kS hs hS fun a hs => ?_
   obtain rfl := someE hx2
   exact (hJ2 _ _).2 ⟨true, hk, hs.cst, hw.pk [0, 1, 3, 5, 2, 6]⟩
  have hs := hs.aB 64 h22
  refine Qp (fuel := 29) kS hs hS [14, 16] fun a hs hS => ?_
  refine Qy kS hs hS 17 rfl (SXb hD 4 rfl) 2 fun a hs hS => ?_
  refine QF [15] (QH ?_)
  obtain ⟨y7, h23, hx2⟩ := bindE hx2
  refine QaR hs rfl (Qdu (x1 := x1) (x2 := x2) (x4 := x4) (x5 := x5) (x6 := (x6)) (x7 := x7) (x8 := x8) (x9 := x9) (x10 := x10) (x11 := x11) (x12 := (.pointer none)) (x13 := x12) (x14 := x13) (x15 := x14) (x16 := x15) h23 (h1.mono ((hle1.trans hle2).trans hle3)) h2 (h3.mono ((hle1.trans hle2).trans hle3)) rfl (h4.mono ((hle1.trans hle2).trans hle3)) ((hw.pk [0, 1, 2, 3, 4, 5, 6]).pack 3)) fun a w v hv hs => ?_
  obtain ⟨rfl, hw⟩ := hv
  have hw := hw.unpack 3 rfl
  refine nx hD ((hw.vws [0, 1, 3, 4, 5, 2, 6]).anti (Le.refl _)) fun hS => ?_
  refine Qp (fuel := 24) kS hs hS [18, 19, 20] fun a hs hS => ?_
  rcases ifbE hx2 with ⟨h24, hx2⟩ | ⟨h24, hx2⟩
  ·have hs := hs.aB 71 h24
   refine Qu kS hs hS fun a hs => ?_
   obtain rfl := someE hx2
   exact (hJ2 _ _).2 ⟨true, hk, hs.cst, hw.pk [0, 1, 3, 5, 2, 6]⟩
  have hs := hs.aB 71 h24
  refine Qp (fuel := 23) kS hs hS [21] fun a hs hS => ?_
  refine Qy kS hs hS 22 rfl (SXb hD 3 rfl) 0 fun a hs hS => ?_
  refine Qff (fuel := 20) kS hs hS [23, 24] [(0, (pt b1 0)), (3, (pt b3 0)), (5, (pt b4 0)), (7, (pt b5 0)), (71, .bool false), (73, Qb y1.f0), (75, (pt b3 11))] fun a hs hS => ?_
  refine Qy kS hs hS 25 rfl (SXb hD 4 rfl) 11 fun a hs hS => ?_
  refine Qp (fuel := 16) kS hs hS [26, 27, 28] fun a hs hS => ?_
  rcases ifbE hx2 with ⟨h25, hx2⟩ | ⟨h25, hx2⟩
  ·have hs := hs.aB 79 h25
   refine Qu kS hs hS fun a hs => ?_
   obtain rfl := someE hx2
   exact (hJ2 _ _).2 ⟨true, hk, hs.cst, hw.pk [0, 1, 3, 5, 2, 6]⟩
  have hs := hs.aB 79 h25
  refine Qp (fuel := 15) kS hs hS [29] fun a hs hS => ?_
  refine Qy kS hs hS 30 rfl (SXb hD 3 rfl) 1 fun a hs hS => ?_
  refine Qp (fuel := 12) kS hs hS [31, 32] fun a hs hS => ?_
  refine Qy kS hs hS 33 rfl (SXb hD 4 rfl) 12 fun a hs hS => ?_
  refine Qff (fuel := 8) kS hs hS [34, 35, 36] [(0, (pt b1 0)), (3, (pt b3 0)), (5, (pt b4 0)), (7, (pt b5 0)), (87, .bool (y1.f1 != x16.f7.f1))] fun a hs hS => ?_
  rcases ifbE hx2 with ⟨h26, hx2⟩ | ⟨h26, hx2⟩
  ·have hs := hs.aB 87 h26
   refine Qu kS hs hS fun a hs => ?_
   obtain rfl := someE hx2
   exact (hJ2 _ _).2 ⟨true, hk, hs.cst, hw.pk [0, 1, 3, 5, 2, 6]⟩
  have hs := hs.aB 87 h26
  refine Qp (fuel := 7) kS hs hS [37] fun a hs hS => ?_
  refine Qy kS hs hS 38 rfl (SXb hD 3 rfl) 2 fun a hs hS => ?_
  refine Qp (fuel := 4) kS hs hS [39, 40] fun a hs hS => ?_
  refine Qy kS hs hS 41 rfl (SXb hD 4 rfl) 13 fun a hs hS => ?_
  refine QF [42] (QH ?_)
  obtain ⟨y8, h27, hx2⟩ := bindE hx2
  refine QaR hs rfl (QL h27 (h10.mono (hle2.trans hle3)) (nilSub _) (h7.mono ((hle1.trans hle2).trans hle3)) (nilSub _) ((hw.pk [0, 1, 2, 3, 4, 5, 6]).pack 0)) fun a w v hv hs => ?_
  obtain ⟨rfl, hw⟩ := hv
  have hw := hw.unpack 0 rfl
  refine nx hD ((hw.vws [0, 1, 3, 4, 5, 2, 6]).anti (Le.refl _)) fun hS => ?_
  refine Qu kS hs hS fun a hs => ?_
  obtain rfl := someE hx2
  exact (hJ2 _ _).2 ⟨(!y8), hk, hs.cst, hw.pk [0, 1, 3, 5, 2, 6]⟩
 intro a w hh
 obtain ⟨x18, hk, hs, hw⟩ := (hJ2 _ _).1 hh
 rcases ifbE hk with ⟨h28, hk⟩ | ⟨h28, hk⟩
 ·refine Qr hs h28 ?_
  refine Qd (Qa (pn hs 1 [(4, .bool false)] fun a hs => ?_))
  refine Qc (Qi ?_)
  obtain rfl := someE hk
  exact qr1 hQ hs ⟨ih3, rfl, hw.pk [0, 1, 4, 5], ((hle1.trans hle2).trans hle3)⟩
 refine Qs hs h28 ?_
 refine Qg (Qd ?_)
 obtain ⟨S, hD, kS⟩ := mkSXw hw [[], [], [], [], [], []] (K := []) rfl
 obtain ⟨y9, hx3, hk⟩ := bindE hk
 obtain ⟨J3, hJ3⟩ := mkJ fun a w => ∃ (x19 : Bool) (ih4 : IH), Qca x19 = some r ∧ Sees a 142 [(4, .bool x19)] ∧ St g w [k37 b1 x1 x2 x3 x4 b2 x7 x8 x9 p2 x10 c2 x11 x12 x13 x14 p3 x15 c3, bx b2 [.slice p1 x5.length c1, x6] 113, d1, F] ih4 ∧ Le ih3 ih4
 refine Qo (by kernel_rfl) (N := 47) rfl S J3 ?_ ?_
 ·have hw := hw.drew
  have hS : S (bA 47 0) _ := SXn hD (hw.vws [0, 1, 2, 3, 4, 5])
  refine Qp (fuel := 46) kS hs hS [0] fun a hs hS => ?_
  refine Qy kS hs hS 1 rfl (SXb hD 2 rfl) 0 fun a hs hS => ?_
  refine Qp (fuel := 43) kS hs hS [2, 3] fun a hs hS => ?_
  refine Qy kS hs hS 4 rfl (SXb hD 3 rfl) 5 fun a hs hS => ?_
  refine Qp (fuel := 40) kS hs hS [5, 6] fun a hs hS => ?_
  rcases ifbE hx3 with ⟨h29, hx3⟩ | ⟨h29, hx3⟩
  ·have hs := hs.aB 102 h29
   refine Qff (fuel := 39) kS hs hS [7] [(0, (pt b1 0)), (3, (pt b3 0)), (7, (pt b5 0)), (102, .bool true), (103, (pt b5 1))] fun a hs hS => ?_
   refine Qy kS hs hS 8 rfl (SXb hD 2 rfl) 1 fun a hs hS => ?_
   refine Qp (fuel := 36) kS hs hS [9, 10] fun a hs hS => ?_
   refine Qy kS hs hS 11 rfl (SXb hD 3 rfl) 6 fun a hs hS => ?_
   refine Qp (fuel := 32) kS hs hS [12, 13, 14] fun a hs hS => ?_
   rcases ifbE hx3 with ⟨h30, hx3⟩ | ⟨h30, hx3⟩
   ·have hs := hs.aB 110 h30
    refine Qp (fuel := 31) kS hs hS [15] fun a hs hS => ?_
    refine Qy kS hs hS 16 rfl (SXb hD 2 rfl) 2 fun a hs hS => ?_
    refine Qff (fuel := 28) kS hs hS [17, 18] [(0, (pt b1 0)), (3, (pt b3 0)), (7, (pt b5 0)), (110, .bool true), (112, Qe y2.f2), (114, (pt b3 7))] fun a hs hS => ?_
    refine Qy kS hs hS 19 rfl (SXb hD 3 rfl) 7 fun a hs hS => ?_
    refine Qp (fuel := 24) kS hs hS [20, 21, 22] fun a hs hS => ?_
    rcases ifbE hx3 with ⟨h31, hx3⟩ | ⟨h31, hx3⟩
    ·have hs := hs.aB 118 h31
     refine Qp (fuel := 23) kS hs hS [23] fun a hs hS => ?_
     refine Qy kS hs hS 24 rfl (SXb hD 2 rfl) 4 fun a hs hS => ?_
     refine Qp (fuel := 20) kS hs hS [25, 26] fun a hs hS => ?_
     refine Qy kS hs hS 27 rfl (SXb hD 3 rfl) 9 fun a hs hS => ?_
     refine Qff (fuel := 16) kS hs hS [28, 29, 30] [(0, (pt b1 0)), (3, (pt b3 0)), (7, (pt b5 0)), (126, .bool (y2.f4 == x16.f5.f4))] fun a hs hS => ?_
     rcases ifbE hx3 with ⟨h32, hx3⟩ | ⟨h32, hx3⟩
     ·have hs := hs.aB 126 h32
      refine Qp (fuel := 15) kS hs hS [31] fun a hs hS => ?_
      refine Qy kS hs hS 32 rfl (SXb hD 2 rfl) 3 fun a hs hS => ?_
      refine Qp (fuel := 12) kS hs hS [33, 34] fun a hs hS => ?_
      refine Qy kS hs hS 35 rfl (SXb hD 3 rfl) 8 fun a hs hS => ?_
      refine QF [36] (QH ?_)
      obtain ⟨y10, h33, hx3⟩ := bindE hx3
      refine QaR hs rfl (QL h33 (h12.mono hle3) (nilSub _) (h6.mono ((hle1.trans hle2).trans hle3)) (nilSub _) ((hw.pk [0, 1, 2, 3, 4, 5]).pack 0)) fun a w v hv hs => ?_
      obtain ⟨rfl, hw⟩ := hv
      have hw := hw.unpack 0 rfl
      refine nx hD ((hw.vws [0, 1, 2, 3, 4, 5]).anti (Le.refl _)) fun hS => ?_
      refine Qp (fuel := 8) kS hs hS [37, 38] fun a hs hS => ?_
      rcases ifbE hx3 with ⟨h34, hx3⟩ | ⟨h34, hx3⟩
      ·have hs := hs.aB 134 h34
       refine Qff (fuel := 6) kS hs hS [39, 42] [(134, .bool true), (135, (pt b1 0)), (138, (pt b3 4))] fun a hs hS => ?_
       refine Qy kS hs hS 43 rfl (SXb hD 3 rfl) 4 fun a hs hS => ?_
       refine QF [40] (QH ?_)
       have h35 : Qdv = some () := rfl
       refine QaR hs rfl (Qeo (x1 := x1) (x2 := x2) (x3 := x3) (x4 := x4) (x5 := x5) (x6 := (x6)) (x7 := x7) (x8 := x8) (x9 := x9) (x10 := x10) (x11 := x11) (x12 := (.pointer none)) (x13 := x12) (x14 := x13) (x15 := x14) (x16 := x15) h35 (h1.mono ((hle1.trans hle2).trans hle3)) h2 (h3.mono ((hle1.trans hle2).trans hle3)) rfl (h4.mono ((hle1.trans hle2).trans hle3)) ((hw.pk [0, 1, 4, 2, 3, 5]).pack 3)) fun a w v hv hs => ?_
       obtain ⟨rfl, hw⟩ := hv
       have hw := hw.unpack 3 rfl
       refine nx hD ((hw.vws [0, 1, 3, 4, 2, 5]).anti (Le.refl _)) fun hS => ?_
       refine QF [41] (QH ?_)
       obtain ⟨y11, h36, hx3⟩ := bindE hx3
       refine QaR hs rfl (Qdw (x2 := (x6)) h36 (h1.mono ((hle1.trans hle2).trans hle3)) h2 ((hw.pk [1, 2, 0, 3, 4, 5]).pack 2)) fun a w v hv hs => ?_
       obtain ⟨ih5, p11, c11, d2, rfl, hw, hle4, h37⟩ := hv
       have hw := hw.unpack 3 rfl
       refine nx hD ((hw.vws [3, 1, 4, 5, 2, 6]).anti hle4) fun hS => ?_
       refine QF [44] (QH ?_)
       obtain ⟨y12, h38, hx3⟩ := bindE hx3
       refine QaR hs rfl (QdN h38 h37.read (memF 0 rfl) (h5.mono (((hle1.trans hle2).trans hle3).trans hle4)) (nilSub _) ((hw.pk [0, 1, 2, 3, 4, 5, 6]).pack 0)) fun a w v hv hs => ?_
       obtain ⟨rfl, hw⟩ := hv
       have hw := hw.unpack 0 rfl
       refine nx hD ((hw.vws [3, 1, 4, 5, 2, 6]).anti hle4) fun hS => ?_
       refine Qu kS hs hS fun a hs => ?_
       obtain rfl := someE hx3
       exact (hJ3 _ _).2 ⟨y12, ih5, hk, hs.cst, hw.pk [3, 1, 2, 6], hle4⟩
      have hs := hs.aB 134 h34
      refine Qu kS hs hS fun a hs => ?_
      obtain rfl := someE hx3
      exact (hJ3 _ _).2 ⟨false, ih3, hk, hs.cst, hw.pk [0, 1, 4, 5], (Le.refl _)⟩
     have hs := hs.aB 126 h32
     refine Qu kS hs hS fun a hs => ?_
     obtain rfl := someE hx3
     exact (hJ3 _ _).2 ⟨false, ih3, hk, hs.cst, hw.pk [0, 1, 4, 5], (Le.refl _)⟩
    have hs := hs.aB 118 h31
    refine Qu kS hs hS fun a hs => ?_
    obtain rfl := someE hx3
    exact (hJ3 _ _).2 ⟨false, ih3, hk, hs.cst, hw.pk [0, 1, 4, 5], (Le.refl _)⟩
   have hs := hs.aB 110 h30
   refine Qu kS hs hS fun a hs => ?_
   obtain rfl := someE hx3
   exact (hJ3 _ _).2 ⟨false, ih3, hk, hs.cst, hw.pk [0, 1, 4, 5], (Le.refl _)⟩
  have hs := hs.aB 102 h29
  refine Qu kS hs hS fun a hs => ?_
  obtain rfl := someE hx3
  exact (hJ3 _ _).2 ⟨false, ih3, hk, hs.cst, hw.pk [0, 1, 4, 5], (Le.refl _)⟩
 intro a w hh
 obtain ⟨x19, ih4, hk, hs, hw, hle5⟩ := (hJ3 _ _).1 hh
 refine Qi ?_
 obtain rfl := someE hk
 exact qr1 hQ hs ⟨ih4, rfl, hw.pk [0, 1, 2, 3], (((hle1.trans hle2).trans hle3).trans hle5)⟩
def QcS (x1 x2 x3 : Int) (x4 : List Int) : Option (M51 × Bool) :=
 (QJ x1 x2 x3 x4).bind fun y1 =>
 (QaI y1.1.f2).bind fun y2 =>
 some ((M51.mk y1.1.f0 y1.1.f1 y2), y1.2)
theorem Qf8 {x1 x2 x3 x4 : Int} {x5 : List M44} {x6 : Value} {x7 x8 x9 : Int} {x10 : List Int} {x11 x12 x13 x14 x15 : Int} {x16 : List Int} {x17 x18 x19 : Int} {x20 : List Int} {d1 : Ch} {b1 b2 c1 c2 b3 c3 c4 : Nat} {p1 p2 p3 p4 : Option Addr} {r : M51 × Bool} (hk : QcS x13 x14 x15 x16 = some r) {g w : World} {F : Ch} {ih : IH} (h1 : OSl e44 ih p1 c1 x5 d1) (h2 : x6.oneCell' = true) (h3 : RSl e5 ih [] p2 c2 x10) (h4 : RSl e5 ih [] p3 c3 x16) (h5 : RSl e5 ih [] p4 c4 x20) (hw : St g w [k42 b1 x1 x2 x3 x4 b2 x7 x8 x9 p2 x10 c2 x11 b3 x17 x18 x19 p4 x20 c4, bx b2 [.slice p1 x5.length c1, x6] 113, d1, k46 b3 x12 x13 x14 x15 p3 x16 c3, F] ih) :
  CallsR Tryz.prog 13 #[(pt b1 0)] w fun v w' => ∃ (ih' : IH) (p5 : Option Addr) (c5 : Nat), v = .tuple #[.agg #[Qb r.1.f0, Qe r.1.f1, .slice p5 r.1.f2.length c5], .bool r.2] ∧ St g w' [bx b1 [Qb x1, Qb x2, Qe x3, Qb x4, (pt b2 0), Qb x7, Qk x8, Qe x9, .slice p2 x10.length c2, Qb x11, (pt b3 0), Qe x17, Qb x18, Qe x19, .slice p4 x20.length c4] 85, bx b2 [.slice p1 x5.length c1, x6] 113, d1, bx b3 [Qk x12, QfL 0, Qk 0, Qk x13, Qb x14, Qe x15, .slice p3 x16.length c3] 126, F] ih' ∧ Le ih ih' ∧ RSl e5 ih' [] p5 c5 r.1.f2 := by
 refine f_i Tryz.func13 rfl 23 rfl fun a Qf hQ hQn hs => ?_
 refine Qd (Qa (QC hs hw [Qb 0, Qe 0, .slice none 0 0] 51 (fun b => (pt b 0)) (by kernel_rfl) (fun _ => by kernel_rfl) fun a w b4 hs hw => ?_))
 refine pn hs 1 [(0, (pt b1 0)), (2, (pt b4 0))] fun a hs => Qc (Qd (Qd (Qa (pn hs 2 [(0, (pt b1 0)), (2, (pt b4 0)), (7, .bool false)] fun a hs => ?_))))
 refine Qc (QhJ hs (Qg (Qd (Qa (pu hs 3 fun a hs => ?_)))))
 refine Qj hs (hw.at_ 1 rfl) 10 fun a hs => ?_
 obtain ⟨y1, h6, hk⟩ := bindE hk
 refine Qv hs (QcB (x1 := x12) h6 h4 ((hw.pk [4, 0, 1, 2, 3, 5]).pack 1)) fun a w v hv hs => ?_
 obtain ⟨p6, c6, rfl, hw, h7⟩ := hv
 have hw := hw.unpack 1 rfl
 refine pu hs 3 fun a hs => QaN hs hw [Qb 0, Qe 0, .slice none 0 0] 51 (fun b => (pt b 0)) fun a w b5 hs hw => QE hs hw 0 rfl 0 (v := .agg #[Qb y1.1.f0, Qe y1.1.f1, .slice p6 y1.1.f2.length c6]) fun a w hs hw => ?_
 refine pn hs 1 [(2, (pt b4 0)), (4, (pt b5 0)), (5, .bool y1.2)] fun a hs => ?_
 have hw := hw.cL [k48 b5 y1.1.f0 y1.1.f1 p6 y1.1.f2 c6, k46 b3 x12 x13 x14 x15 p3 x16 c3, k47 b4, k42 b1 x1 x2 x3 x4 b2 x7 x8 x9 p2 x10 c2 x11 b3 x17 x18 x19 p4 x20 c4, bx b2 [.slice p1 x5.length c1, x6] 113, d1, F]
 refine Qc (Qd (Qa (pu hs 1 fun a hs => ?_)))
 refine Qj hs (hw.at_ 0 rfl) 2 fun a hs => ?_
 obtain ⟨y2, h8, hk⟩ := bindE hk
 refine Qv hs (QaQ h8 h7 (nilSub _) ((hw.pk [0, 1, 2, 3, 4, 5, 6]).pack 0)) fun a w v hv hs => ?_
 obtain ⟨p7, c7, d2, rfl, hw, h9⟩ := hv
 have hw := hw.unpack 1 rfl
 refine pu hs 1 fun a hs => QE hs hw 1 rfl 2 (v := .slice p7 y2.length c7) fun a w hs hw => ?_
 have hs := hs.cst (e' := [(2, (pt b4 0)), (4, (pt b5 0)), (5, .bool y1.2)])
 refine Qc (Qd (Qa (Qj hs (hw.at_ 1 rfl) 0 fun a hs => ?_)))
 refine pu hs 1 fun a hs => QE hs hw 3 rfl 0 (v := .agg #[Qb y1.1.f0, Qe y1.1.f1, .slice p7 y2.length c7]) fun a w hs hw => pn hs 1 [(2, (pt b4 0)), (3, .bool y1.2)] fun a hs => ?_
 have hw := hw.cL [d2, k48 b5 y1.1.f0 y1.1.f1 p7 y2 c7, k46 b3 x12 x13 x14 x15 p3 x16 c3, k48 b4 y1.1.f0 y1.1.f1 p7 y2 c7, k42 b1 x1 x2 x3 x4 b2 x7 x8 x9 p2 x10 c2 x11 b3 x17 x18 x19 p4 x20 c4, bx b2 [.slice p1 x5.length c1, x6] 113, d1, F]
 refine Qc (Qi ?_)
 obtain ⟨ih1, hle1, hw, h10⟩ := (hw.pk [0, 1, 2, 3, 4, 5, 6, 7]).fz (h9.mono (Le.refl _))
 obtain rfl := someE hk
 refine hQ _ _ (Qcs hs (l := [.cell 2 51, .tmp 3]) (vs := [.agg #[Qb y1.1.f0, Qe y1.1.f1, .slice p7 y2.length c7], .bool y1.2]) rfl (⟨Qab hs (hw.at_ 2 rfl) (by kernel_rfl) (v := .agg #[Qb y1.1.f0, Qe y1.1.f1, .slice p7 y2.length c7]) (by kernel_rfl), ⟨Qaf hs (v := .bool y1.2) (by kernel_rfl), trivial⟩⟩) (by kernel_rfl) ⟨ih1, p7, c7, rfl, hw.pk [3, 4, 5, 1, 6], hle1, h10⟩)
def Qb7 (x1 : Bool) : Option Bool :=
 some x1
def Qb6 (k : Nat) (y1 : M26) (x1 : M60) (x2 : List M44) (x3 : Bool) : Option Bool :=
 if x3 = true then some false
 else (if (y1.f0 == x1.f5.f0) = true then (
   if (y1.f1 == x1.f5.f1) = true then (
    if (y1.f2 == x1.f5.f2) = true then (
     if (y1.f4 == x1.f5.f4) = true then (
      (Qz k y1.f3 x1.f5.f3).bind fun y2 =>
      if y2 = true then (
       (Qav k x2).bind fun y3 =>
       (QaA k y3 x1.f4).bind fun y4 =>
       some y4)
      else some false)
     else some false)
    else some false)
   else some false)
  else some false : Option Bool).bind fun s1 => Qb7 s1
def Qb5 (k : Nat) (x1 x2 x3 : Int) (x4 : List Int) (x5 : M60) (y1 : M51 × Bool) (x6 : Int) (y2 : M26) (x7 : List M44) (x8 : Bool) : Option Bool :=
 if x8 = true then some false
 else ((Qw x1 x2 x3 x4).bind fun y3 =>
  if (!(y3 == (x5.f6 == 1))) = true then some true
  else if (!(y1.2 == (x5.f6 == 2))) = true then some true
  else (QaS x6).bind fun y4 =>
  if (y4 != x5.f2) = true then some true
  else if (y1.1.f0 != x5.f7.f0) = true then some true
  else if (y1.1.f1 != x5.f7.f1) = true then some true
  else (Qz k y1.1.f2 x5.f7.f2).bind fun y5 =>
  some (!y5) : Option Bool).bind fun s1 => Qb6 k y2 x5 x7 s1
def Q1 (k : Nat) (x1 : Int) (x2 : List M44) (x3 x4 x5 : Int) (x6 : List Int) (x7 x8 x9 x10 : Int) (x11 : List Int) (x12 x13 x14 : Int) (x15 : List Int) (x16 : M60) : Option Bool :=
 (QcS x8 x9 x10 x11).bind fun y1 =>
 (Qce x3 x4 x5 x6 x7).bind fun y2 =>
 (Qbi x12 x13 x14 x15).bind fun y3 =>
 (if (y3.1 != x16.f8) = true then some true
  else if (y3.2.f0 != x16.f9.f0) = true then some true
  else if (y3.2.f1 != x16.f9.f1) = true then some true
  else (Qz k y3.2.f2 x16.f9.f2).bind fun y4 =>
  some (!y4) : Option Bool).bind fun s1 => Qb5 k x8 x9 x10 x11 x16 y1 x1 y2 x2 s1
theorem Qd1 {k : Nat} {x1 x2 x3 x4 : Int} {x5 : List M44} {x6 : Value} {x7 x8 x9 : Int} {x10 : List Int} {x11 x12 x13 x14 x15 : Int} {x16 : List Int} {x17 x18 x19 : Int} {x20 : List Int} {x21 : M60} {d1 : Ch} {b1 b2 c1 c2 b3 c3 c4 c5 c6 c7 c8 : Nat} {p1 p2 p3 p4 p5 p6 p7 p8 : Option Addr} {r : Bool} (hk : Q1 k x3 x5 x7 x8 x9 x10 x11 x13 x14 x15 x16 x17 x18 x19 x20 x21 = some r) {g w : World} {F : Ch} {ih : IH} (h1 : OSl e44 ih p1 c1 x5 d1) (h2 : x6.oneCell' = true) (h3 : RSl e5 ih [] p2 c2 x10) (h4 : RSl e5 ih [] p3 c3 x16) (h5 : RSl e5 ih [] p4 c4 x20) (h6 : RSl e44 ih [] p5 c5 x21.f4) (h7 : RSl e5 ih [] p6 c6 x21.f5.f3) (h8 : RSl e5 ih [] p7 c7 x21.f7.f2) (h9 : RSl e5 ih [] p8 c8 x21.f9.f2) (hw : St g w [k42 b1 x1 x2 x3 x4 b2 x7 x8 x9 p2 x10 c2 x11 b3 x17 x18 x19 p4 x20 c4, bx b2 [.slice p1 x5.length c1, x6] 113, d1, k46 b3 x12 x13 x14 x15 p3 x16 c3, F] ih) :
  CallsR Tryz.prog 22 #[(pt b1 0), A60 x21 p5 c5 p6 c6 p7 c7 p8 c8] w fun v w' => ∃ (ih' : IH), v = .bool r ∧ St g w' [bx b1 [Qb x1, Qb x2, Qe x3, Qb x4, (pt b2 0), Qb x7, Qk x8, Qe x9, .slice p2 x10.length c2, Qb x11, (pt b3 0), Qe x17, Qb x18, Qe x19, .slice p4 x20.length c4] 85, bx b2 [.slice p1 x5.length c1, x6] 113, d1, bx b3 [Qk x12, QfL 0, Qk 0, Qk x13, Qb x14, Qe x15, .slice p3 x16.length c3] 126, F] ih' ∧ Le ih ih' := by
 refine f_i Tryz.func22 rfl 142 rfl fun a Qf hQ hQn hs => ?_
 refine Qd (Qa (QC hs hw [Qb x21.f0, Qb x21.f1, Qe x21.f2, Qb x21.f3, .slice p5 x21.f4.length c5, Qb x21.f5.f0, Qk x21.f5.f1, Qe x21.f5.f2, .slice p6 x21.f5.f3.length c6, Qb x21.f5.f4, Qb x21.f6, Qb x21.f7.f0, Qe x21.f7.f1, .slice p7 x21.f7.f2.length c7, Qe x21.f8, Qb x21.f9.f0, Qe x21.f9.f1, .slice p8 x21.f9.f2.length c8] 60 (fun b => (pt b 0)) (by kernel_rfl) (fun _ => by kernel_rfl) fun a w b4 hs hw => ?_))
 refine pn hs 1 [(0, (pt b1 0)), (3, (pt b4 0))] fun a hs => Qc (Qd (Qa (pu hs 1 fun a hs => ?_)))
 obtain ⟨y1, h10, hk⟩ := bindE hk
 refine Qv hs (Qf8 (x1 := x1) (x2 := x2) (x3 := x3) (x4 := x4) (x5 := x5) (x6 := (x6)) (x7 := x7) (x8 := x8) (x9 := x9) (x10 := x10) (x11 := x11) (x12 := x12) (x17 := x17) (x18 := x18) (x19 := x19) (x20 := x20) h10 h1 h2 h3 h4 h5 ((hw.pk [1, 2, 3, 4, 0, 5]).pack 4)) fun a w v hv hs => ?_
 obtain ⟨ih1, p9, c9, rfl, hw, hle1, h11⟩ := hv
 have hw := hw.unpack 4 rfl
 refine pu hs 3 fun a hs => QaN hs hw [Qb 0, Qe 0, .slice none 0 0] 51 (fun b => (pt b 0)) fun a w b5 hs hw => QE hs hw 0 rfl 0 (v := .agg #[Qb y1.1.f0, Qe y1.1.f1, .slice p9 y1.1.f2.length c9]) fun a w hs hw => ?_
 refine pn hs 1 [(0, (pt b1 0)), (3, (pt b4 0)), (5, (pt b5 0)), (6, .bool y1.2)] fun a hs => ?_
 have hw := hw.cL [k48 b5 y1.1.f0 y1.1.f1 p9 y1.1.f2 c9, k42 b1 x1 x2 x3 x4 b2 x7 x8 x9 p2 x10 c2 x11 b3 x17 x18 x19 p4 x20 c4, bx b2 [.slice p1 x5.length c1, x6] 113, d1, k46 b3 x12 x13 x14 x15 p3 x16 c3, k52 b4 x21.f0 x21.f1 x21.f2 x21.f3 p5 x21.f4 c5 x21.f5.f0 x21.f5.f1 x21.f5.f2 p6 x21.f5.f3 c6 x21.f5.f4 x21.f6 x21.f7.f0 x21.f7.f1 p7 x21.f7.f2 c7 x21.f8 x21.f9.f0 x21.f9.f1 p8 x21.f9.f2 c8, F]
 refine Qc (Qd (Qa (pu hs 1 fun a hs => ?_)))
 obtain ⟨y2, h12, hk⟩ := bindE hk
 refine Qv hs (Qfn (x1 := x1) (x2 := x2) (x3 := x3) (x4 := x4) (x5 := x5) (x6 := (x6)) (x12 := (pt b3 0)) (x13 := x17) (x14 := x18) (x15 := x19) (x16 := x20) h12 (h1.mono hle1) h2 (h3.mono hle1) rfl (h5.mono hle1) ((hw.pk [1, 2, 3, 0, 4, 5, 6]).pack 3)) fun a w v hv hs => ?_
 obtain ⟨ih2, p10, c10, rfl, hw, hle2, h13⟩ := hv
 have hw := hw.unpack 3 rfl
 refine QaN hs hw [Qb 0, Qk 0, Qe 0, .slice none 0 0, Qb 0] 26 (fun b => (pt b 0)) fun a w b6 hs hw => ?_
 refine QE hs hw 0 rfl 0 (v := A26 y2 p10 c10) fun a w hs hw => ?_
 have hs := hs.cst (e' := [(0, (pt b1 0)), (3, (pt b4 0)), (5, (pt b5 0)), (6, .bool y1.2), (7, (pt b6 0))])
 have hw := hw.cL [k8 b6 y2.f0 y2.f1 y2.f2 p10 y2.f3 c10 y2.f4, k42 b1 x1 x2 x3 x4 b2 x7 x8 x9 p2 x10 c2 x11 b3 x17 x18 x19 p4 x20 c4, bx b2 [.slice p1 x5.length c1, x6] 113, d1, k48 b5 y1.1.f0 y1.1.f1 p9 y1.1.f2 c9, k46 b3 x12 x13 x14 x15 p3 x16 c3, k52 b4 x21.f0 x21.f1 x21.f2 x21.f3 p5 x21.f4 c5 x21.f5.f0 x21.f5.f1 x21.f5.f2 p6 x21.f5.f3 c6 x21.f5.f4 x21.f6 x21.f7.f0 x21.f7.f1 p7 x21.f7.f2 c7 x21.f8 x21.f9.f0 x21.f9.f1 p8 x21.f9.f2 c8, F]
 refine Qc (Qd (Qa (pu hs 1 fun a hs => ?_)))
 obtain ⟨y3, h14, hk⟩ := bindE hk
 refine Qv hs (QeG (x1 := x1) (x2 := x2) (x3 := x3) (x4 := x4) (x5 := x5) (x6 := (x6)) (x7 := x7) (x8 := x8) (x9 := x9) (x10 := x10) (x11 := x11) (x12 := (pt b3 0)) h14 (h1.mono (hle1.trans hle2)) h2 (h3.mono (hle1.trans hle2)) rfl (h5.mono (hle1.trans hle2)) ((hw.pk [1, 2, 3, 0, 4, 5, 6, 7]).pack 3)) fun a w v hv hs => ?_
 obtain ⟨ih3, p11, c11, rfl, hw, hle3, h15⟩ := hv
 have hw := hw.unpack 3 rfl
 refine pu hs 3 fun a hs => QaN hs hw [Qb 0, Qe 0, .slice none 0 0] 51 (fun b => (pt b 0)) fun a w b7 hs hw => pu hs 1 fun a hs => QE hs hw 0 rfl 0 (v := .agg #[Qb y3.2.f0, Qe y3.2.f1, .slice p11 y3.2.f2.length c11]) fun a w hs hw => ?_
 have hs := hs.cst (e' := [(0, (pt b1 0)), (3, (pt b4 0)), (5, (pt b5 0)), (6, .bool y1.2), (7, (pt b6 0)), (9, (pt b7 0)), (8, Qe y3.1)])
 have hw := hw.cL [k48 b7 y3.2.f0 y3.2.f1 p11 y3.2.f2 c11, k42 b1 x1 x2 x3 x4 b2 x7 x8 x9 p2 x10 c2 x11 b3 x17 x18 x19 p4 x20 c4, bx b2 [.slice p1 x5.length c1, x6] 113, d1, k8 b6 y2.f0 y2.f1 y2.f2 p10 y2.f3 c10 y2.f4, k48 b5 y1.1.f0 y1.1.f1 p9 y1.1.f2 c9, k46 b3 x12 x13 x14 x15 p3 x16 c3, k52 b4 x21.f0 x21.f1 x21.f2 x21.f3 p5 x21.f4 c5 x21.f5.f0 x21.f5.f1 x21.f5.f2 p6 x21.f5.f3 c6 x21.f5.f4 x21.f6 x21.f7.f0 x21.f7.f1 p7 x21.f7.f2 c7 x21.f8 x21.f9.f0 x21.f9.f1 p8 x21.f9.f2 c8, F]
 refine Qc (Qd (Qd ?_))
 obtain ⟨y4, hx1, hk⟩ := bindE hk
 obtain ⟨J1, hJ1⟩ := mkJ fun a w => ∃ (x22 : Bool), Qb5 k x13 x14 x15 x16 x21 y1 x3 y2 x5 x22 = some r ∧ Sees a 142 [(0, (pt b1 0)), (3, (pt b4 0)), (5, (pt b5 0)), (6, .bool y1.2), (7, (pt b6 0)), (50, .bool x22)] ∧ St g w [k42 b1 x1 x2 x3 x4 b2 x7 x8 x9 p2 x10 c2 x11 b3 x17 x18 x19 p4 x20 c4, bx b2 [.slice p1 x5.length c1, x6] 113, k8 b6 y2.f0 y2.f1 y2.f2 p10 y2.f3 c10 y2.f4, k48 b5 y1.1.f0 y1.1.f1 p9 y1.1.f2 c9, k46 b3 x12 x13 x14 x15 p3 x16 c3, k52 b4 x21.f0 x21.f1 x21.f2 x21.f3 p5 x21.f4 c5 x21.f5.f0 x21.f5.f1 x21.f5.f2 p6 x21.f5.f3 c6 x21.f5.f4 x21.f6 x21.f7.f0 x21.f7.f1 p7 x21.f7.f2 c7 x21.f8 x21.f9.f0 x21.f9.f1 p8 x21.f9.f2 c8, d1, F] ih3
 refine Qn J1 ?_ ?_
 ·refine pu hs 2 fun a hs => Qj hs (hw.at_ 7 rfl) 14 fun a hs => pu hs 2 fun a hs => ?_
  rcases ifbE hx1 with ⟨h16, hx1⟩ | ⟨h16, hx1⟩
  ·have hs := hs.aB 26 h16
   refine pu hs 24 fun a hs => Qc ?_
   obtain rfl := someE hx1
   exact (hJ1 _ _).2 ⟨true, hk, hs.cst, hw.pk [1, 2, 4, 5, 6, 7, 3, 8]⟩
  have hs := hs.aB 26 h16
  refine pu hs 1 fun a hs => Qj hs (hw.at_ 0 rfl) 0 fun a hs => pn hs 2 [(0, (pt b1 0)), (3, (pt b4 0)), (5, (pt b5 0)), (6, .bool y1.2), (7, (pt b6 0)), (9, (pt b7 0)), (26, .bool false), (28, Qb y3.2.f0), (30, (pt b4 15))] fun a hs => ?_
  refine Qj hs (hw.at_ 7 rfl) 15 fun a hs => pu hs 3 fun a hs => ?_
  rcases ifbE hx1 with ⟨h17, hx1⟩ | ⟨h17, hx1⟩
  ·have hs := hs.aB 34 h17
   refine pu hs 16 fun a hs => Qc ?_
   obtain rfl := someE hx1
   exact (hJ1 _ _).2 ⟨true, hk, hs.cst, hw.pk [1, 2, 4, 5, 6, 7, 3, 8]⟩
  have hs := hs.aB 34 h17
  refine pu hs 1 fun a hs => Qj hs (hw.at_ 0 rfl) 1 fun a hs => pu hs 2 fun a hs => Qj hs (hw.at_ 7 rfl) 16 fun a hs => pn hs 3 [(0, (pt b1 0)), (3, (pt b4 0)), (5, (pt b5 0)), (6, .bool y1.2), (7, (pt b6 0)), (9, (pt b7 0)), (42, .bool (y3.2.f1 != x21.f9.f1))] fun a hs => ?_
  rcases ifbE hx1 with ⟨h18, hx1⟩ | ⟨h18, hx1⟩
  ·have hs := hs.aB 42 h18
   refine pu hs 8 fun a hs => Qc ?_
   obtain rfl := someE hx1
   exact (hJ1 _ _).2 ⟨true, hk, hs.cst, hw.pk [1, 2, 4, 5, 6, 7, 3, 8]⟩
  have hs := hs.aB 42 h18
  refine pu hs 1 fun a hs => Qj hs (hw.at_ 0 rfl) 2 fun a hs => pu hs 2 fun a hs => Qj hs (hw.at_ 7 rfl) 17 fun a hs => ?_
  obtain ⟨y5, h19, hx1⟩ := bindE hx1
  refine Qv hs (QL h19 h15 (nilSub _) (h9.mono ((hle1.trans hle2).trans hle3)) (nilSub _) ((hw.pk [1, 2, 3, 4, 5, 6, 7, 8]).pack 0)) fun a w v hv hs => ?_
  obtain ⟨rfl, hw⟩ := hv
  have hw := hw.unpack 0 rfl
  refine pu hs 2 fun a hs => Qc ?_
  obtain rfl := someE hx1
  exact (hJ1 _ _).2 ⟨(!y5), hk, hs.cst, hw.pk [0, 1, 3, 4, 5, 6, 2, 7]⟩
 intro a w hh
 obtain ⟨x22, hk, hs, hw⟩ := (hJ1 _ _).1 hh
 rcases ifbE hk with ⟨h20, hk⟩ | ⟨h20, hk⟩
 ·refine Qr hs h20 ?_
  refine Qd (Qa (pn hs 1 [(4, .bool false)] fun a hs => ?_))
  refine Qc (Qi ?_)
  obtain rfl := someE hk
  exact qr1 hQ hs ⟨ih3, rfl, hw.pk [0, 1, 6, 4, 7], ((hle1.trans hle2).trans hle3)⟩
 refine Qs hs h20 ?_
 refine Qg (Qd (Qd ?_))
 obtain ⟨S, hD, kS⟩ := mkSXw hw [[], [], [], [], [], [], [], []] (K := []) rfl
 obtain ⟨y6, hx2, hk⟩ := bindE hk
 obtain ⟨J2, hJ2⟩ := mkJ fun a w => ∃ (x23 : Bool), Qb6 k y2 x21 x5 x23 = some r ∧ Sees a 142 [(0, (pt b1 0)), (3, (pt b4 0)), (7, (pt b6 0)), (95, .bool x23)] ∧ St g w [k42 b1 x1 x2 x3 x4 b2 x7 x8 x9 p2 x10 c2 x11 b3 x17 x18 x19 p4 x20 c4, bx b2 [.slice p1 x5.length c1, x6] 113, k8 b6 y2.f0 y2.f1 y2.f2 p10 y2.f3 c10 y2.f4, k46 b3 x12 x13 x14 x15 p3 x16 c3, k52 b4 x21.f0 x21.f1 x21.f2 x21.f3 p5 x21.f4 c5 x21.f5.f0 x21.f5.f1 x21.f5.f2 p6 x21.f5.f3 c6 x21.f5.f4 x21.f6 x21.f7.f0 x21.f7.f1 p7 x21.f7.f2 c7 x21.f8 x21.f9.f0 x21.f9.f1 p8 x21.f9.f2 c8, d1, F] ih3
 refine Qo (by kernel_rfl) (N := 45) rfl S J2 ?_ ?_
 ·have hw := hw.drew
  have hS : S (bA 45 0) _ := SXn hD (hw.vws [0, 1, 2, 3, 4, 5, 6, 7])
  refine Qp (fuel := 43) kS hs hS [0, 2] fun a hs hS => ?_
  refine Qy kS hs hS 3 rfl (SXb hD 5 rfl) 10 fun a hs hS => ?_
  refine Qp (fuel := 41) kS hs hS [4] fun a hs hS => ?_
  refine QF [1] (QH ?_)
  obtain ⟨y7, h21, hx2⟩ := bindE hx2
  refine QaR hs rfl (Q5 (x1 := x1) (x2 := x2) (x3 := x3) (x4 := x4) (x5 := x5) (x6 := (x6)) (x7 := x7) (x8 := x8) (x9 := x9) (x10 := x10) (x11 := x11) (x12 := x12) (x17 := x17) (x18 := x18) (x19 := x19) (x20 := x20) h21 (h1.mono ((hle1.trans hle2).trans hle3)) h2 (h3.mono ((hle1.trans hle2).trans hle3)) (h4.mono ((hle1.trans hle2).trans hle3)) (h5.mono ((hle1.trans hle2).trans hle3)) ((hw.pk [0, 1, 6, 4, 2, 3, 5, 7]).pack 4)) fun a w v hv hs => ?_
  obtain ⟨rfl, hw⟩ := hv
  have hw := hw.unpack 4 rfl
  refine nx hD ((hw.vws [0, 1, 4, 5, 3, 6, 2, 7]).anti (Le.refl _)) fun hS => ?_
  refine Qp (fuel := 38) kS hs hS [5, 6] fun a hs hS => ?_
  rcases ifbE hx2 with ⟨h22, hx2⟩ | ⟨h22, hx2⟩
  ·have hs := hs.aB 57 h22
   refine Qu kS hs hS fun a hs => ?_
   obtain rfl := someE hx2
   exact (hJ2 _ _).2 ⟨true, hk, hs.cst, hw.pk [0, 1, 4, 3, 6, 2, 7]⟩
  have hs := hs.aB 57 h22
  refine Qp (fuel := 36) kS hs hS [7, 8] fun a hs hS => ?_
  refine Qy kS hs hS 9 rfl (SXb hD 5 rfl) 10 fun a hs hS => ?_
  refine Qff (fuel := 31) kS hs hS [10, 11, 12, 13] [(0, (pt b1 0)), (3, (pt b4 0)), (5, (pt b5 0)), (7, (pt b6 0)), (64, .bool (!(y1.2 == (x21.f6 == 2))))] fun a hs hS => ?_
  rcases ifbE hx2 with ⟨h23, hx2⟩ | ⟨h23, hx2⟩
  ·have hs := hs.aB 64 h23
   refine Qu kS hs hS fun a hs => ?_
   obtain rfl := someE hx2
   exact (hJ2 _ _).2 ⟨true, hk, hs.cst, hw.pk [0, 1, 4, 3, 6, 2, 7]⟩
  have hs := hs.aB 64 h23
  refine Qp (fuel := 29) kS hs hS [14, 16] fun a hs hS => ?_
  refine Qy kS hs hS 17 rfl (SXb hD 5 rfl) 2 fun a hs hS => ?_
  refine QF [15] (QH ?_)
  obtain ⟨y8, h24, hx2⟩ := bindE hx2
  refine QaR hs rfl (Qdu (x1 := x1) (x2 := x2) (x4 := x4) (x5 := x5) (x6 := (x6)) (x7 := x7) (x8 := x8) (x9 := x9) (x10 := x10) (x11 := x11) (x12 := (pt b3 0)) (x13 := x17) (x14 := x18) (x15 := x19) (x16 := x20) h24 (h1.mono ((hle1.trans hle2).trans hle3)) h2 (h3.mono ((hle1.trans hle2).trans hle3)) rfl (h5.mono ((hle1.trans hle2).trans hle3)) ((hw.pk [0, 1, 2, 3, 4, 5, 6, 7]).pack 3)) fun a w v hv hs => ?_
  obtain ⟨rfl, hw⟩ := hv
  have hw := hw.unpack 3 rfl
  refine nx hD ((hw.vws [0, 1, 4, 5, 3, 6, 2, 7]).anti (Le.refl _)) fun hS => ?_
  refine Qp (fuel := 24) kS hs hS [18, 19, 20] fun a hs hS => ?_
  rcases ifbE hx2 with ⟨h25, hx2⟩ | ⟨h25, hx2⟩
  ·have hs := hs.aB 71 h25
   refine Qu kS hs hS fun a hs => ?_
   obtain rfl := someE hx2
   exact (hJ2 _ _).2 ⟨true, hk, hs.cst, hw.pk [0, 1, 4, 3, 6, 2, 7]⟩
  have hs := hs.aB 71 h25
  refine Qp (fuel := 23) kS hs hS [21] fun a hs hS => ?_
  refine Qy kS hs hS 22 rfl (SXb hD 3 rfl) 0 fun a hs hS => ?_
  refine Qff (fuel := 20) kS hs hS [23, 24] [(0, (pt b1 0)), (3, (pt b4 0)), (5, (pt b5 0)), (7, (pt b6 0)), (71, .bool false), (73, Qb y1.1.f0), (75, (pt b4 11))] fun a hs hS => ?_
  refine Qy kS hs hS 25 rfl (SXb hD 5 rfl) 11 fun a hs hS => ?_
  refine Qp (fuel := 16) kS hs hS [26, 27, 28] fun a hs hS => ?_
  rcases ifbE hx2 with ⟨h26, hx2⟩ | ⟨h26, hx2⟩
  ·have hs := hs.aB 79 h26
   refine Qu kS hs hS fun a hs => ?_
   obtain rfl := someE hx2
   exact (hJ2 _ _).2 ⟨true, hk, hs.cst, hw.pk [0, 1, 4, 3, 6, 2, 7]⟩
  have hs := hs.aB 79 h26
  refine Qp (fuel := 15) kS hs hS [29] fun a hs hS => ?_
  refine Qy kS hs hS 30 rfl (SXb hD 3 rfl) 1 fun a hs hS => ?_
  refine Qp (fuel := 12) kS hs hS [31, 32] fun a hs hS => ?_
  refine Qy kS hs hS 33 rfl (SXb hD 5 rfl) 12 fun a hs hS => ?_
  refine Qff (fuel := 8) kS hs hS [34, 35, 36] [(0, (pt b1 0)), (3, (pt b4 0)), (5, (pt b5 0)), (7, (pt b6 0)), (87, .bool (y1.1.f1 != x21.f7.f1))] fun a hs hS => ?_
  rcases ifbE hx2 with ⟨h27, hx2⟩ | ⟨h27, hx2⟩
  ·have hs := hs.aB 87 h27
   refine Qu kS hs hS fun a hs => ?_
   obtain rfl := someE hx2
   exact (hJ2 _ _).2 ⟨true, hk, hs.cst, hw.pk [0, 1, 4, 3, 6, 2, 7]⟩
  have hs := hs.aB 87 h27
  refine Qp (fuel := 7) kS hs hS [37] fun a hs hS => ?_
  refine Qy kS hs hS 38 rfl (SXb hD 3 rfl) 2 fun a hs hS => ?_
  refine Qp (fuel := 4) kS hs hS [39, 40] fun a hs hS => ?_
  refine Qy kS hs hS 41 rfl (SXb hD 5 rfl) 13 fun a hs hS => ?_
  refine QF [42] (QH ?_)
  obtain ⟨y9, h28, hx2⟩ := bindE hx2
  refine QaR hs rfl (QL h28 (h11.mono (hle2.trans hle3)) (nilSub _) (h8.mono ((hle1.trans hle2).trans hle3)) (nilSub _) ((hw.pk [0, 1, 2, 3, 4, 5, 6, 7]).pack 0)) fun a w v hv hs => ?_
  obtain ⟨rfl, hw⟩ := hv
  have hw := hw.unpack 0 rfl
  refine nx hD ((hw.vws [0, 1, 4, 5, 3, 6, 2, 7]).anti (Le.refl _)) fun hS => ?_
  refine Qu kS hs hS fun a hs => ?_
  obtain rfl := someE hx2
  exact (hJ2 _ _).2 ⟨(!y9), hk, hs.cst, hw.pk [0, 1, 4, 3, 6, 2, 7]⟩
 intro a w hh
 obtain ⟨x23, hk, hs, hw⟩ := (hJ2 _ _).1 hh
 rcases ifbE hk with ⟨h29, hk⟩ | ⟨h29, hk⟩
 ·refine Qr hs h29 ?_
  refine Qd (Qa (pn hs 1 [(4, .bool false)] fun a hs => ?_))
  refine Qc (Qi ?_)
  obtain rfl := someE hk
  exact qr1 hQ hs ⟨ih3, rfl, hw.pk [0, 1, 5, 3, 6], ((hle1.trans hle2).trans hle3)⟩
 refine Qs hs h29 ?_
 refine Qg (Qd ?_)
 obtain ⟨S, hD, kS⟩ := mkSXw hw [[], [], [], [], [], [], []] (K := []) rfl
 obtain ⟨y10, hx3, hk⟩ := bindE hk
 obtain ⟨J3, hJ3⟩ := mkJ fun a w => ∃ (x24 : Bool) (ih4 : IH), Qb7 x24 = some r ∧ Sees a 142 [(4, .bool x24)] ∧ St g w [k42 b1 x1 x2 x3 x4 b2 x7 x8 x9 p2 x10 c2 x11 b3 x17 x18 x19 p4 x20 c4, bx b2 [.slice p1 x5.length c1, x6] 113, k46 b3 x12 x13 x14 x15 p3 x16 c3, d1, F] ih4 ∧ Le ih3 ih4
 refine Qo (by kernel_rfl) (N := 47) rfl S J3 ?_ ?_
 ·have hw := hw.drew
  have hS : S (bA 47 0) _ := SXn hD (hw.vws [0, 1, 2, 3, 4, 5, 6])
  refine Qp (fuel := 46) kS hs hS [0] fun a hs hS => ?_
  refine Qy kS hs hS 1 rfl (SXb hD 2 rfl) 0 fun a hs hS => ?_
  refine Qp (fuel := 43) kS hs hS [2, 3] fun a hs hS => ?_
  refine Qy kS hs hS 4 rfl (SXb hD 4 rfl) 5 fun a hs hS => ?_
  refine Qp (fuel := 40) kS hs hS [5, 6] fun a hs hS => ?_
  rcases ifbE hx3 with ⟨h30, hx3⟩ | ⟨h30, hx3⟩
  ·have hs := hs.aB 102 h30
   refine Qff (fuel := 39) kS hs hS [7] [(0, (pt b1 0)), (3, (pt b4 0)), (7, (pt b6 0)), (102, .bool true), (103, (pt b6 1))] fun a hs hS => ?_
   refine Qy kS hs hS 8 rfl (SXb hD 2 rfl) 1 fun a hs hS => ?_
   refine Qp (fuel := 36) kS hs hS [9, 10] fun a hs hS => ?_
   refine Qy kS hs hS 11 rfl (SXb hD 4 rfl) 6 fun a hs hS => ?_
   refine Qp (fuel := 32) kS hs hS [12, 13, 14] fun a hs hS => ?_
   rcases ifbE hx3 with ⟨h31, hx3⟩ | ⟨h31, hx3⟩
   ·have hs := hs.aB 110 h31
    refine Qp (fuel := 31) kS hs hS [15] fun a hs hS => ?_
    refine Qy kS hs hS 16 rfl (SXb hD 2 rfl) 2 fun a hs hS => ?_
    refine Qff (fuel := 28) kS hs hS [17, 18] [(0, (pt b1 0)), (3, (pt b4 0)), (7, (pt b6 0)), (110, .bool true), (112, Qe y2.f2), (114, (pt b4 7))] fun a hs hS => ?_
    refine Qy kS hs hS 19 rfl (SXb hD 4 rfl) 7 fun a hs hS => ?_
    refine Qp (fuel := 24) kS hs hS [20, 21, 22] fun a hs hS => ?_
    rcases ifbE hx3 with ⟨h32, hx3⟩ | ⟨h32, hx3⟩
    ·have hs := hs.aB 118 h32
     refine Qp (fuel := 23) kS hs hS [23] fun a hs hS => ?_
     refine Qy kS hs hS 24 rfl (SXb hD 2 rfl) 4 fun a hs hS => ?_
     refine Qp (fuel := 20) kS hs hS [25, 26] fun a hs hS => ?_
     refine Qy kS hs hS 27 rfl (SXb hD 4 rfl) 9 fun a hs hS => ?_
     refine Qff (fuel := 16) kS hs hS [28, 29, 30] [(0, (pt b1 0)), (3, (pt b4 0)), (7, (pt b6 0)), (126, .bool (y2.f4 == x21.f5.f4))] fun a hs hS => ?_
     rcases ifbE hx3 with ⟨h33, hx3⟩ | ⟨h33, hx3⟩
     ·have hs := hs.aB 126 h33
      refine Qp (fuel := 15) kS hs hS [31] fun a hs hS => ?_
      refine Qy kS hs hS 32 rfl (SXb hD 2 rfl) 3 fun a hs hS => ?_
      refine Qp (fuel := 12) kS hs hS [33, 34] fun a hs hS => ?_
      refine Qy kS hs hS 35 rfl (SXb hD 4 rfl) 8 fun a hs hS => ?_
      refine QF [36] (QH ?_)
      obtain ⟨y11, h34, hx3⟩ := bindE hx3
      refine QaR hs rfl (QL h34 (h13.mono hle3) (nilSub _) (h7.mono ((hle1.trans hle2).trans hle3)) (nilSub _) ((hw.pk [0, 1, 2, 3, 4, 5, 6]).pack 0)) fun a w v hv hs => ?_
      obtain ⟨rfl, hw⟩ := hv
      have hw := hw.unpack 0 rfl
      refine nx hD ((hw.vws [0, 1, 2, 3, 4, 5, 6]).anti (Le.refl _)) fun hS => ?_
      refine Qp (fuel := 8) kS hs hS [37, 38] fun a hs hS => ?_
      rcases ifbE hx3 with ⟨h35, hx3⟩ | ⟨h35, hx3⟩
      ·have hs := hs.aB 134 h35
       refine Qff (fuel := 6) kS hs hS [39, 42] [(134, .bool true), (135, (pt b1 0)), (138, (pt b4 4))] fun a hs hS => ?_
       refine Qy kS hs hS 43 rfl (SXb hD 4 rfl) 4 fun a hs hS => ?_
       refine QF [40] (QH ?_)
       have h36 : Qdv = some () := rfl
       refine QaR hs rfl (Qeo (x1 := x1) (x2 := x2) (x3 := x3) (x4 := x4) (x5 := x5) (x6 := (x6)) (x7 := x7) (x8 := x8) (x9 := x9) (x10 := x10) (x11 := x11) (x12 := (pt b3 0)) (x13 := x17) (x14 := x18) (x15 := x19) (x16 := x20) h36 (h1.mono ((hle1.trans hle2).trans hle3)) h2 (h3.mono ((hle1.trans hle2).trans hle3)) rfl (h5.mono ((hle1.trans hle2).trans hle3)) ((hw.pk [0, 1, 5, 2, 3, 4, 6]).pack 3)) fun a w v hv hs => ?_
       obtain ⟨rfl, hw⟩ := hv
       have hw := hw.unpack 3 rfl
       refine nx hD ((hw.vws [0, 1, 3, 4, 5, 2, 6]).anti (Le.refl _)) fun hS => ?_
       refine QF [41] (QH ?_)
       obtain ⟨y12, h37, hx3⟩ := bindE hx3
       refine QaR hs rfl (Qdw (x2 := (x6)) h37 (h1.mono ((hle1.trans hle2).trans hle3)) h2 ((hw.pk [1, 2, 0, 3, 4, 5, 6]).pack 2)) fun a w v hv hs => ?_
       obtain ⟨ih5, p12, c12, d2, rfl, hw, hle4, h38⟩ := hv
       have hw := hw.unpack 3 rfl
       refine nx hD ((hw.vws [3, 1, 4, 5, 6, 2, 7]).anti hle4) fun hS => ?_
       refine QF [44] (QH ?_)
       obtain ⟨y13, h39, hx3⟩ := bindE hx3
       refine QaR hs rfl (QdN h39 h38.read (memF 0 rfl) (h6.mono (((hle1.trans hle2).trans hle3).trans hle4)) (nilSub _) ((hw.pk [0, 1, 2, 3, 4, 5, 6, 7]).pack 0)) fun a w v hv hs => ?_
       obtain ⟨rfl, hw⟩ := hv
       have hw := hw.unpack 0 rfl
       refine nx hD ((hw.vws [3, 1, 4, 5, 6, 2, 7]).anti hle4) fun hS => ?_
       refine Qu kS hs hS fun a hs => ?_
       obtain rfl := someE hx3
       exact (hJ3 _ _).2 ⟨y13, ih5, hk, hs.cst, hw.pk [3, 1, 5, 2, 7], hle4⟩
      have hs := hs.aB 134 h35
      refine Qu kS hs hS fun a hs => ?_
      obtain rfl := someE hx3
      exact (hJ3 _ _).2 ⟨false, ih3, hk, hs.cst, hw.pk [0, 1, 3, 5, 6], (Le.refl _)⟩
     have hs := hs.aB 126 h33
     refine Qu kS hs hS fun a hs => ?_
     obtain rfl := someE hx3
     exact (hJ3 _ _).2 ⟨false, ih3, hk, hs.cst, hw.pk [0, 1, 3, 5, 6], (Le.refl _)⟩
    have hs := hs.aB 118 h32
    refine Qu kS hs hS fun a hs => ?_
    obtain rfl := someE hx3
    exact (hJ3 _ _).2 ⟨false, ih3, hk, hs.cst, hw.pk [0, 1, 3, 5, 6], (Le.refl _)⟩
   have hs := hs.aB 110 h31
   refine Qu kS hs hS fun a hs => ?_
   obtain rfl := someE hx3
   exact (hJ3 _ _).2 ⟨false, ih3, hk, hs.cst, hw.pk [0, 1, 3, 5, 6], (Le.refl _)⟩
  have hs := hs.aB 102 h30
  refine Qu kS hs hS fun a hs => ?_
  obtain rfl := someE hx3
  exact (hJ3 _ _).2 ⟨false, ih3, hk, hs.cst, hw.pk [0, 1, 3, 5, 6], (Le.refl _)⟩
 intro a w hh
 obtain ⟨x24, ih4, hk, hs, hw, hle5⟩ := (hJ3 _ _).1 hh
 refine Qi ?_
 obtain rfl := someE hk
 exact qr1 hQ hs ⟨ih4, rfl, hw.pk [0, 1, 3, 2, 4], (((hle1.trans hle2).trans hle3).trans hle5)⟩
def QbM (k : Nat) (x1 x2 : Int) (x3 : List M44) (x4 : M26) (y1 x5 : List Int) : Option (Sum ((List M48) × Int × Int × Int × Int × Int × (List Int) × Int) ((List M48) × (List Int) × Int × Int × Int × Int × (List Int) × Int)) :=
 (QK k x1 (IntKind.u64.wrap (x2 + 1)) x3 x4.f0 x4.f1 x4.f2 y1 x4.f4).bind fun y2 =>
 some (.inr (y2, x5, IntKind.u64.wrap (x2 + 1), x4.f0, x4.f1, x4.f2, y1, x4.f4))
def QcU (k : Nat) (x1 x2 : Int) (x3 : List M44) (x4 x5 x6 : Int) (x7 : List Int) (x8 x9 x10 x11 : Int) (x12 : List Int) (x13 : M26) : Option (Sum ((List M48) × Int × Int × Int × Int × Int × (List Int) × Int) ((List M48) × (List Int) × Int × Int × Int × Int × (List Int) × Int)) :=
 (Qw x9 x10 x11 x12).bind fun y1 =>
 if y1 = true then some (.inl ([], 12, x2, x4, x5, x6, x7, x8))
 else (Qat k x1 x2 x13).bind fun y2 =>
 if (y2 != 0) = true then some (.inl ([], y2, x2, x4, x5, x6, x7, x8))
 else (QaI x13.f3).bind fun y3 =>
 ((QaT).bind fun y4 =>
  some y4 : Option (List Int)).bind fun s1 => QbM k x1 x2 x3 x13 y3 s1
theorem Qga {k : Nat} {x1 x2 x3 x4 : Int} {x5 : List M44} {x6 : Value} {x7 x8 x9 : Int} {x10 : List Int} {x11 x12 x13 x14 x15 : Int} {x16 : List Int} {x17 x18 x19 : Int} {x20 : List Int} {x21 : M26} {d1 : Ch} {b1 b2 c1 c2 b3 c3 c4 c5 : Nat} {p1 p2 p3 p4 p5 : Option Addr} {r : Sum ((List M48) × Int × Int × Int × Int × Int × (List Int) × Int) ((List M48) × (List Int) × Int × Int × Int × Int × (List Int) × Int)} (hk : QcU k x1 x3 x5 x7 x8 x9 x10 x11 x13 x14 x15 x16 x21 = some r) {g w : World} {F : Ch} {ih : IH} (h1 : OSl e44 ih p1 c1 x5 d1) (h2 : x6.oneCell' = true) (h3 : RSl e5 ih [] p2 c2 x10) (h4 : RSl e5 ih [] p3 c3 x16) (h5 : RSl e5 ih [] p4 c4 x20) (h6 : RSl e5 ih [] p5 c5 x21.f3) (hG : Glob 0 gl0 162 ih) (hw : St g w [k42 b1 x1 x2 x3 x4 b2 x7 x8 x9 p2 x10 c2 x11 b3 x17 x18 x19 p4 x20 c4, bx b2 [.slice p1 x5.length c1, x6] 113, d1, k46 b3 x12 x13 x14 x15 p3 x16 c3, F] ih) :
  CallsR Tryz.prog 9 #[(pt b1 0), A26 x21 p5 c5] w fun v w' => (∃ r0 : (List M48) × Int × Int × Int × Int × Int × (List Int) × Int, r = .inl r0 ∧ ∃ (ih' : IH) (p6 : Option Addr) (c6 : Nat) (d2 : Ch) (p7 : Option Addr) (c7 : Nat), v = .tuple #[.slice p6 r0.1.length c6, Qb r0.2.1] ∧ St g w' [d2, bx b1 [Qb x1, Qb x2, Qe r0.2.2.1, Qb x4, (pt b2 0), Qb r0.2.2.2.1, Qk r0.2.2.2.2.1, Qe r0.2.2.2.2.2.1, .slice p7 r0.2.2.2.2.2.2.1.length c7, Qb r0.2.2.2.2.2.2.2, (pt b3 0), Qe x17, Qb x18, Qe x19, .slice p4 x20.length c4] 85, bx b2 [.slice p1 x5.length c1, x6] 113, d1, bx b3 [Qk x12, QfL 0, Qk 0, Qk x13, Qb x14, Qe x15, .slice p3 x16.length c3] 126, F] ih' ∧ Le ih ih' ∧ OSl e48 ih' p6 c6 r0.1 d2 ∧ RSl e5 ih' [] p7 c7 r0.2.2.2.2.2.2.1) ∨ (∃ r1 : (List M48) × (List Int) × Int × Int × Int × Int × (List Int) × Int, r = .inr r1 ∧ ∃ (ih' : IH) (p8 : Option Addr) (c8 : Nat) (d3 : Ch) (b4 : Nat) (p9 : Option Addr) (c9 : Nat) (p10 : Option Addr) (c10 : Nat), v = .tuple #[.slice p8 r1.1.length c8, Qb 0] ∧ St g w' [d3, k38 b4 p9 r1.2.1 c9, bx b1 [Qb x1, Qb x2, Qe r1.2.2.1, Qb x4, (pt b2 0), Qb r1.2.2.2.1, Qk r1.2.2.2.2.1, Qe r1.2.2.2.2.2.1, .slice p10 r1.2.2.2.2.2.2.1.length c10, Qb r1.2.2.2.2.2.2.2, (pt b4 0), Qe x17, Qb x18, Qe x19, .slice p4 x20.length c4] 85, bx b2 [.slice p1 x5.length c1, x6] 113, d1, bx b3 [Qk x12, QfL 0, Qk 0, Qk x13, Qb x14, Qe x15, .slice p3 x16.length c3] 126, F] ih' ∧ Le ih ih' ∧ OSl e48 ih' p8 c8 r1.1 d3 ∧ RSl e5 ih' [] p9 c9 r1.2.1 ∧ RSl e5 ih' [] p10 c10 r1.2.2.2.2.2.2.1) := by
 refine f_i Tryz.func9 rfl 40 rfl fun a Qf hQ hQn hs => ?_
 refine Qd (Qa (QC hs hw [Qb x21.f0, Qk x21.f1, Qe x21.f2, .slice p5 x21.f3.length c5, Qb x21.f4] 26 (fun b => (pt b 0)) (by kernel_rfl) (fun _ => by kernel_rfl) fun a w b5 hs hw => ?_))
 refine pn hs 2 [(0, (pt b1 0)), (3, (pt b5 0))] fun a hs => Qc (Qd (Ql (Qd (Qa (pn hs 3 [(0, (pt b1 0)), (3, (pt b5 0)), (7, .bool false)] fun a hs => ?_)))))
 refine Qc (QhJ hs (Qd (Qa (pu hs 1 fun a hs => ?_))))
 obtain ⟨y1, h7, hk⟩ := bindE hk
 refine Qv hs (Q5 (x1 := x1) (x2 := x2) (x3 := x3) (x4 := x4) (x5 := x5) (x6 := (x6)) (x7 := x7) (x8 := x8) (x9 := x9) (x10 := x10) (x11 := x11) (x12 := x12) (x17 := x17) (x18 := x18) (x19 := x19) (x20 := x20) h7 h1 h2 h3 h4 h5 ((hw.pk [1, 2, 3, 4, 0, 5]).pack 4)) fun a w v hv hs => ?_
 obtain ⟨rfl, hw⟩ := hv
 have hw := hw.unpack 4 rfl
 refine pn hs 1 [(0, (pt b1 0)), (3, (pt b5 0)), (10, .bool y1)] fun a hs => Qc ?_
 rcases ifbE hk with ⟨h8, hk⟩ | ⟨h8, hk⟩
 ·refine Qr hs h8 ?_
  refine Qd (Qa (pn hs 2 [(4, .slice none 0 0), (5, Qb 12)] fun a hs => ?_))
  refine Qc (Qi ?_)
  have hw := hw.nil
  obtain rfl := someE hk
  refine hQ _ _ (Q4 hs [.tmp 4, .tmp 5] rfl [.slice none 0 0, Qb 12] (by kernel_rfl) (by kernel_rfl) (.inl ⟨_, rfl, ⟨ih, none, 0, ([]), p2, c2, rfl, hw.pk [0, 1, 2, 3, 4, 6], (Le.refl _), (OSl.nil _ _), h3⟩⟩))
 refine Qs hs h8 ?_
 refine Qg (Qd (Qd (Qa (pu hs 1 fun a hs => ?_))))
 refine Qj hs (hw.at_ 4 rfl) 0 fun a hs => ?_
 obtain ⟨y2, h9, hk⟩ := bindE hk
 refine Qv hs (Qen (x2 := x2) (x4 := x4) (x5 := x5) (x6 := (x6)) (x7 := x7) (x8 := x8) (x9 := x9) (x10 := x10) (x11 := x11) (x12 := (pt b3 0)) (x13 := x17) (x14 := x18) (x15 := x19) (x16 := x20) h9 h1 h2 h3 rfl h5 h6 (hG.mono (Le.refl _)) ((hw.pk [0, 1, 2, 3, 4, 5]).pack 3)) fun a w v hv hs => ?_
 obtain ⟨ih1, rfl, hw, hle1⟩ := hv
 have hw := hw.unpack 3 rfl
 refine pn hs 1 [(0, (pt b1 0)), (3, (pt b5 0)), (6, Qb y2)] fun a hs => ?_
 have hw := hw.cL [k42 b1 x1 x2 x3 x4 b2 x7 x8 x9 p2 x10 c2 x11 b3 x17 x18 x19 p4 x20 c4, bx b2 [.slice p1 x5.length c1, x6] 113, d1, k46 b3 x12 x13 x14 x15 p3 x16 c3, k8 b5 x21.f0 x21.f1 x21.f2 p5 x21.f3 c5 x21.f4, F]
 refine Qc (Qd (Qa (pn hs 2 [(0, (pt b1 0)), (3, (pt b5 0)), (6, Qb y2), (17, .bool (y2 != 0))] fun a hs => ?_)))
 refine Qc ?_
 rcases ifbE hk with ⟨h10, hk⟩ | ⟨h10, hk⟩
 ·refine Qr hs h10 ?_
  refine Qd (Qa (pn hs 3 [(4, .slice none 0 0), (5, Qb y2)] fun a hs => ?_))
  refine Qc (Qi ?_)
  have hw := hw.nil
  obtain rfl := someE hk
  refine hQ _ _ (Q4 hs [.tmp 4, .tmp 5] rfl [.slice none 0 0, Qb y2] (by kernel_rfl) (by kernel_rfl) (.inl ⟨_, rfl, ⟨ih1, none, 0, ([]), p2, c2, rfl, hw.pk [0, 1, 2, 3, 4, 6], hle1, (OSl.nil _ _), (h3.mono hle1)⟩⟩))
 refine Qs hs h10 ?_
 refine Qg (Qd (Qa (pu hs 1 fun a hs => ?_)))
 refine Qj hs (hw.at_ 4 rfl) 3 fun a hs => ?_
 obtain ⟨y3, h11, hk⟩ := bindE hk
 refine Qv hs (QaQ h11 (h6.mono hle1) (nilSub _) ((hw.pk [0, 1, 2, 3, 4, 5]).pack 0)) fun a w v hv hs => ?_
 obtain ⟨p11, c11, d4, rfl, hw, h12⟩ := hv
 have hw := hw.unpack 1 rfl
 refine pu hs 1 fun a hs => QE hs hw 5 rfl 3 (v := .slice p11 y3.length c11) fun a w hs hw => ?_
 have hs := hs.cst (e' := [(0, (pt b1 0)), (3, (pt b5 0))])
 refine Qc (Qd (Qa (pu hs 3 fun a hs => ?_)))
 refine Qj hs (hw.at_ 1 rfl) 2 fun a hs => pu hs 3 fun a hs => QE hs hw 1 rfl 2 (v := Qe (IntKind.u64.wrap (x3 + 1))) fun a w hs hw => ?_
 have hs := hs.cst (e' := [(0, (pt b1 0)), (3, (pt b5 0))])
 have hw := hw.cL [d4, k42 b1 x1 x2 (IntKind.u64.wrap (x3 + 1)) x4 b2 x7 x8 x9 p2 x10 c2 x11 b3 x17 x18 x19 p4 x20 c4, bx b2 [.slice p1 x5.length c1, x6] 113, d1, k46 b3 x12 x13 x14 x15 p3 x16 c3, k8 b5 x21.f0 x21.f1 x21.f2 p11 y3 c11 x21.f4, F]
 refine Qc (Qd ?_)
 obtain ⟨S, hD, kS⟩ := mkSXw hw [[], [6, 9], [], [], [], [], []] (K := [6, 9]) rfl
 obtain ⟨y4, hx1, hk⟩ := bindE hk
 obtain ⟨J1, hJ1⟩ := mkJ fun a w => ∃ (x22 : List Int) (b6 : Nat) (p12 : Option Addr) (c12 : Nat) (d5 : Ch), QbM k x1 x3 x5 x21 y3 x22 = some r ∧ Sees a 40 [(0, (pt b1 0))] ∧ St g w [k42 b1 x1 x2 (IntKind.u64.wrap (x3 + 1)) x4 b2 x21.f0 x21.f1 x21.f2 p11 y3 c11 x21.f4 b6 x17 x18 x19 p4 x20 c4, bx b2 [.slice p1 x5.length c1, x6] 113, k46 b3 x12 x13 x14 x15 p3 x16 c3, k38 b6 p12 x22 c12, d5, d4, d1, F] ih1 ∧ OSl e5 ih1 p12 c12 x22 d5
 refine Qo (by kernel_rfl) (N := 10) rfl S J1 ?_ ?_
 ·have hw := hw.drew
  have hS : S (bA 10 0) _ := SXn hD (hw.vws [0, 1, 2, 3, 4, 5, 6])
  refine Qp (fuel := 8) kS hs hS [0, 1] fun a hs hS => ?_
  refine Qy kS hs hS 2 rfl (SXb hD 5 rfl) 0 fun a hs hS => ?_
  refine QF [3] (QH ?_)
  obtain ⟨y5, h13, hx1⟩ := bindE hx1
  refine QaR hs rfl (Qei h13 ((hw.pk [0, 1, 2, 3, 4, 5, 6]).pack 0)) fun a w v hv hs => ?_
  obtain ⟨b7, p13, c13, d6, rfl, hw, h14⟩ := hv
  have hw := hw.unpack 2 rfl
  refine nx hD ((hw.vws [2, 3, 4, 5, 6, 7, 8]).anti (Le.refl _)) fun hS => ?_
  refine Qp (fuel := 4) kS hs hS [4, 5] fun a hs hS => ?_
  refine QF [6] (QH ?_)
  refine QfM hs hw rfl 3 rfl 5 (v := .agg #[Qb x21.f0, Qk x21.f1, Qe x21.f2, .slice p11 y3.length c11, Qb x21.f4]) fun a w hs hw => ?_
  refine nx hD ((hw.vws [2, 4, 5, 6, 7, 8]).anti (Le.refl _)) fun hS => ?_
  refine Qp (fuel := 1) kS hs hS [7, 8] fun a hs hS => ?_
  refine QF [9] (QH ?_)
  refine QfM hs hw rfl 3 rfl 10 (v := (pt b7 0)) fun a w hs hw => ?_
  refine nx hD ((hw.vws [2, 4, 5, 6, 7, 8]).anti (Le.refl _)) fun hS => ?_
  refine QhI ?_
  obtain rfl := someE hx1
  exact (hJ1 _ _).2 ⟨y5, b7, p13, c13, d6, hk, hs.cst, hw.pk [3, 4, 6, 0, 1, 2, 5, 8], h14⟩
 intro a w hh
 obtain ⟨x22, b6, p12, c12, d5, hk, hs, hw, h15⟩ := (hJ1 _ _).1 hh
 refine Qd (Qa (pu hs 1 fun a hs => ?_))
 obtain ⟨ih2, hle2, hw, h16⟩ := (hw.pk [5, 0, 1, 2, 3, 4, 6, 7]).fz (h12.mono (Le.refl _))
 obtain ⟨ih3, hle3, hw, h17⟩ := (hw.pk [4, 0, 1, 2, 3, 5, 6]).fz (h15.mono hle2)
 obtain ⟨y6, h18, hk⟩ := bindE hk
 refine Qv hs (Qa2 (x2 := x2) (x4 := x4) (x6 := (x6)) (x12 := (pt b6 0)) (x13 := x17) (x14 := x18) (x15 := x19) (x16 := x20) h18 (h1.mono ((hle1.trans hle2).trans hle3)) h2 (h16.mono hle3) rfl (h5.mono ((hle1.trans hle2).trans hle3)) (hG.mono ((hle1.trans hle2).trans hle3)) ((hw.pk [0, 1, 4, 2, 3, 5]).pack 3)) fun a w v hv hs => ?_
 obtain ⟨ih4, p14, c14, d7, rfl, hw, hle4, h19⟩ := hv
 have hw := hw.unpack 4 rfl
 refine pn hs 2 [(4, .slice p14 y6.length c14), (5, Qb 0)] fun a hs => ?_
 have hw := hw.cL [d7, k42 b1 x1 x2 (IntKind.u64.wrap (x3 + 1)) x4 b2 x21.f0 x21.f1 x21.f2 p11 y3 c11 x21.f4 b6 x17 x18 x19 p4 x20 c4, bx b2 [.slice p1 x5.length c1, x6] 113, d1, k46 b3 x12 x13 x14 x15 p3 x16 c3, k38 b6 p12 x22 c12, F]
 refine Qc (Qi ?_)
 obtain rfl := someE hk
 refine hQ _ _ (Q4 hs [.tmp 4, .tmp 5] rfl [.slice p14 y6.length c14, Qb 0] (by kernel_rfl) (by kernel_rfl) (.inr ⟨_, rfl, ⟨ih4, p14, c14, d7, b6, p12, c12, p11, c11, rfl, hw.pk [0, 5, 1, 2, 3, 4, 6], (((hle1.trans hle2).trans hle3).trans hle4), h19, (h17.mono hle4), (h16.mono (hle3.trans hle4))⟩⟩))
def QdH (x1 : Int) : Option Bool :=
 some (x1 != 0)
theorem Qfq {x1 x2 x3 x4 : Int} {x5 : List Int} {b1 c1 : Nat} {p1 : Option Addr} {r : Bool} (hk : QdH x1 = some r) {g w : World} {F : Ch} {ih : IH} (h1 : RSl e5 ih [] p1 c1 x5) (hw : St g w [k46 b1 x1 x2 x3 x4 p1 x5 c1, F] ih) :
  CallsR Tryz.prog 56 #[(pt b1 0)] w fun v w' => v = .bool r ∧ St g w' [bx b1 [Qk x1, QfL 0, Qk 0, Qk x2, Qb x3, Qe x4, .slice p1 x5.length c1] 126, F] ih := by
 refine f_i Tryz.func56 rfl 8 rfl fun a Qf hQ hQn hs => ?_
 refine Qd (Qa (pn hs 1 [(0, (pt b1 0))] fun a hs => ?_))
 refine Qc (Qd (Qa (pu hs 3 fun a hs => ?_)))
 refine QfF hs (by kernel_rfl) (QhH hw Tryz.func87 (by kernel_rfl) (by kernel_rfl) (by kernel_rfl) .u32 (by kernel_rfl) 0 rfl 0 (x := x1) (by kernel_rfl) (by kernel_rfl)) fun a hs => ?_
 refine pn hs 2 [(2, .bool (x1 != 0))] fun a hs => Qc (Qi ?_)
 obtain rfl := someE hk
 exact qr1 hQ hs ⟨rfl, hw.pk [0, 1]⟩
def QdA : Option Unit :=
 some ()
theorem Qfg {x1 x2 x3 x4 : Int} {x5 : List Int} {b1 c1 : Nat} {p1 : Option Addr} {r : Unit} (hk : QdA = some r) {g w : World} {F : Ch} {ih : IH} (h1 : RSl e5 ih [] p1 c1 x5) (hw : St g w [k46 b1 x1 x2 x3 x4 p1 x5 c1, F] ih) :
  CallsR Tryz.prog 209 #[(pt b1 1)] w fun v w' => v = .tuple #[] ∧ St g w' [bx b1 [Qk x1, QfL 1, Qk 0, Qk x2, Qb x3, Qe x4, .slice p1 x5.length c1] 126, F] ih := by
 refine f_i Tryz.func209 rfl 13 rfl fun a Qf hQ hQn hs => ?_
 refine Qd (Qa (QfF hs (by kernel_rfl) (QgZ Tryz.func217 (by kernel_rfl) (by kernel_rfl) (by kernel_rfl) .disable (by kernel_rfl) (by kernel_rfl)) fun a hs => ?_))
 have hs := hs.cst (e' := [(0, (pt b1 1))])
 refine Qc (Qd (Qd (Qa (pu hs 3 fun a hs => ?_))))
 refine Ql0 hs (by kernel_rfl) (Qlb hw Tryz.func218 (by kernel_rfl) (by kernel_rfl) (by kernel_rfl) .i32 (by kernel_rfl) 0 rfl 1 (x := 0) (by kernel_rfl) 1 (by kernel_rfl)) fun a w hs hw => ?_
 have hs := hs.cst (e' := [(0, (pt b1 1)), (6, .bool true)])
 refine Qc (Qgb hs (Qd (Qgb hs (Qd (Qa (QfF hs (by kernel_rfl) (QgZ Tryz.func219 (by kernel_rfl) (by kernel_rfl) (by kernel_rfl) .enable (by kernel_rfl) (by kernel_rfl)) fun a hs => ?_))))))
 refine Qc (Qa (pu hs 1 fun a hs => ?_))
 refine QfF hs (by kernel_rfl) (Qi4 hw (t := 120) (by kernel_rfl) (by kernel_rfl) (by kernel_rfl) 0 rfl 1 (v := QfL 1) (by kernel_rfl) (by kernel_rfl)) fun a hs => ?_
 refine QfF hs (by kernel_rfl) (Qi3 Tryz.func220 (by kernel_rfl) (by kernel_rfl) (by kernel_rfl) .acquire (by kernel_rfl) (q := ⟨b1, 1, none⟩) (by kernel_rfl)) fun a hs => ?_
 have hs := hs.cst (e' := [])
 refine Qc (Qi ?_)
 obtain rfl := someE hk
 refine hQ _ _ (Q4 hs [] rfl [] (by kernel_rfl) (by kernel_rfl) ⟨rfl, hw.pk [0, 1]⟩)
def QgD : Option Unit :=
 some ()
theorem Qhz {x1 x2 x3 x4 : Int} {x5 : List Int} {b1 c1 : Nat} {p1 : Option Addr} {r : Unit} (hk : QgD = some r) {g w : World} {F : Ch} {ih : IH} (h1 : RSl e5 ih [] p1 c1 x5) (hw : St g w [k46 b1 x1 x2 x3 x4 p1 x5 c1, F] ih) :
  CallsR Tryz.prog 186 #[(pt b1 1)] w fun v w' => v = .tuple #[] ∧ St g w' [bx b1 [Qk x1, QfL 1, Qk 0, Qk x2, Qb x3, Qe x4, .slice p1 x5.length c1] 126, F] ih := by
 refine f_i Tryz.func186 rfl 6 rfl fun a Qf hQ hQn hs => ?_
 refine Qa (pu hs 3 fun a hs => ?_)
 have h2 : QdA = some () := rfl
 refine Qv hs (Qfg (x1 := x1) (x2 := x2) (x3 := x3) (x4 := x4) (x5 := x5) h2 h1 ((hw.pk [0, 1]).pack 1)) fun a w v hv hs => ?_
 obtain ⟨rfl, hw⟩ := hv
 have hw := hw.unpack 1 rfl
 have hs := hs.cst (e' := [])
 refine Qc ?_
 obtain rfl := someE hk
 refine hQn _ _ (Q4 hs [] rfl [] (by kernel_rfl) (by kernel_rfl) ⟨rfl, hw.pk [0, 1]⟩)
def QdG (x1 : Int) : Option Bool :=
 some (x1 != 0)
theorem Qfp {x1 x2 x3 x4 : Int} {x5 : List Int} {b1 c1 : Nat} {p1 : Option Addr} {r : Bool} (hk : QdG x1 = some r) {g w : World} {F : Ch} {ih : IH} (h1 : RSl e5 ih [] p1 c1 x5) (hw : St g w [k63 b1 x1 x2 x3 x4 p1 x5 c1, F] ih) :
  CallsR Tryz.prog 56 #[(pt b1 0)] w fun v w' => v = .bool r ∧ St g w' [bx b1 [Qk x1, QfL 1, Qk 0, Qk x2, Qb x3, Qe x4, .slice p1 x5.length c1] 126, F] ih := by
 refine f_i Tryz.func56 rfl 8 rfl fun a Qf hQ hQn hs => ?_
 refine Qd (Qa (pn hs 1 [(0, (pt b1 0))] fun a hs => ?_))
 refine Qc (Qd (Qa (pu hs 3 fun a hs => ?_)))
 refine QfF hs (by kernel_rfl) (QhH hw Tryz.func87 (by kernel_rfl) (by kernel_rfl) (by kernel_rfl) .u32 (by kernel_rfl) 0 rfl 0 (x := x1) (by kernel_rfl) (by kernel_rfl)) fun a hs => ?_
 refine pn hs 2 [(2, .bool (x1 != 0))] fun a hs => Qc (Qi ?_)
 obtain rfl := someE hk
 exact qr1 hQ hs ⟨rfl, hw.pk [0, 1]⟩
def QeM : Option Unit :=
 some ()
theorem QfD {r : Unit} (hk : QeM = some r) {g w : World} {F : Ch} {ih : IH} (hw : St g w [F] ih) :
  CallsR Tryz.prog 148 #[.bool true] w fun v w' => v = Qk 1 ∧ St g w' [F] ih := by
 refine f_i Tryz.func148 rfl 4 rfl fun a Qf hQ hQn hs => ?_
 refine Qd (Qa (pn hs 1 [(0, .bool true)] fun a hs => ?_))
 refine Qc (Qd (Qd (Qa (pn hs 1 [(3, .bool true)] fun a hs => ?_))))
 refine Qc (Qgb hs (Qd (Qa (pn hs 1 [(2, Qk 1)] fun a hs => ?_))))
 refine Qc (Qi ?_)
 obtain rfl := someE hk
 exact qr1 hQ hs ⟨rfl, hw.pk [0]⟩
def Qdf : Option Unit :=
 some ()
def QdU : Option Unit :=
 Qdf
theorem QfE {x1 x2 x3 x4 : Int} {x5 : List Int} {b1 c1 : Nat} {p1 : Option Addr} {r : Unit} (hk : QdU = some r) {g w : World} {F : Ch} {ih : IH} (h1 : RSl e5 ih [] p1 c1 x5) (hw : St g w [k63 b1 x1 x2 x3 x4 p1 x5 c1, F] ih) :
  CallsR Tryz.prog 113 #[(pt b1 3), .bool true] w fun v w' => v = .tuple #[] ∧ St g w' [bx b1 [Qk x1, QfL 1, Qk 0, Qk 1, Qb x3, Qe x4, .slice p1 x5.length c1] 126, F] ih := by
 refine f_i Tryz.func113 rfl 10 rfl fun a Qf hQ hQn hs => ?_
 obtain ⟨S, hD, kS⟩ := mkSXw hw [[5], []] (K := [5]) rfl
 obtain ⟨y1, hx1⟩ : ∃ y, (some () : Option Unit) = some y := ⟨_, rfl⟩
 obtain ⟨J1, hJ1⟩ := mkJ fun a w => Qdf = some r ∧ Sees a 10 [] ∧ St g w [k64 b1 x1 x3 x4 p1 x5 c1, F] ih
 refine Qo (by kernel_rfl) (N := 6) rfl S J1 ?_ ?_
 ·have hw := hw.drew
  have hS : S (bA 6 0) _ := SXn hD (hw.vws [0, 1])
  refine Qp (fuel := 2) kS hs hS [0, 1, 2, 3] fun a hs hS => ?_
  refine QF [4] (QH ?_)
  have h2 : QeM = some () := rfl
  refine QaR hs rfl (QfD h2 ((hw.pk [0, 1]).pack 0)) fun a w v hv hs => ?_
  obtain ⟨rfl, hw⟩ := hv
  have hw := hw.unpack 0 rfl
  refine nx hD ((hw.vws [0, 1]).anti (Le.refl _)) fun hS => ?_
  refine QF [5] (QH ?_)
  refine Ql5 hs rfl (by kernel_rfl) (QiH hw Tryz.func147 (by kernel_rfl) (by kernel_rfl) (by kernel_rfl) .u32 (by kernel_rfl) 0 rfl 3 (x := Qk x2) (by kernel_rfl) 1 (by kernel_rfl)) fun a w hs hw => ?_
  refine nx hD ((hw.vws [1]).anti (Le.refl _)) fun hS => ?_
  refine QhI ?_
  obtain rfl := someE hx1
  exact (hJ1 _ _).2 ⟨hk, hs.cst, hw.pk [0, 1]⟩
 intro a w hh
 obtain ⟨hk, hs, hw⟩ := (hJ1 _ _).1 hh
 obtain rfl := someE hk
 refine hQn _ _ (Q4 hs [] rfl [] (by kernel_rfl) (by kernel_rfl) ⟨rfl, hw.pk [0, 1]⟩)
def QcA (x1 x2 : Int) (x3 : List Int) : Option (Int × Int × (List Int)) :=
 some (x1, x2, x3)
theorem Qeu {x1 x2 : Int} {x3 : List Int} {x4 x5 x6 x7 : Int} {x8 : List Int} {b1 c1 b2 b3 c2 b4 : Nat} {p1 p2 : Option Addr} {r : Int × Int × (List Int)} (hk : QcA x1 x2 x3 = some r) {g w : World} {F : Ch} {ih : IH} (h1 : RSl e5 ih [] p1 c1 x3) (h2 : RSl e5 ih [] p2 c2 x8) (hw : St g w [k48 b1 x1 x2 p1 x3 c1, bx b2 [(pt b3 0)] 83, k63 b3 x4 x5 x6 x7 p2 x8 c2, bx b4 [.bool false] 4, F] ih) :
  CallsR Tryz.prog 112 #[(pt b1 0), (pt b2 0), (pt b4 0)] w fun v w' => ∃ (p3 : Option Addr) (c3 : Nat), v = .tuple #[] ∧ St g w' [bx b1 [Qb x1, Qe x2, .slice p1 x3.length c1] 51, bx b2 [(pt b3 0)] 83, bx b3 [Qk x4, QfL 1, Qk 0, Qk 1, Qb r.1, Qe r.2.1, .slice p3 r.2.2.length c3] 126, bx b4 [.bool true] 4, F] ih ∧ RSl e5 ih [] p3 c3 r.2.2 := by
 refine f_i Tryz.func112 rfl 11 rfl fun a Qf hQ hQn hs => ?_
 refine Qd (Qa (Qj hs (hw.at_ 1 rfl) 0 fun a hs => ?_))
 refine Qj hs (hw.at_ 0 rfl) 0 fun a hs => pu hs 2 fun a hs => QE hs hw 2 rfl 4 (v := .agg #[Qb x1, Qe x2, .slice p1 x3.length c1]) fun a w hs hw => QE hs hw 3 rfl 0 (v := .bool true) fun a w hs hw => ?_
 have hs := hs.cst (e' := [(1, (pt b2 0))])
 refine Qc (Qa (Qj hs (hw.at_ 1 rfl) 0 fun a hs => ?_))
 refine pu hs 2 fun a hs => ?_
 have h3 : QdU = some () := rfl
 refine Qv hs (QfE (x1 := x4) (x2 := x5) (x3 := x1) (x4 := x2) (x5 := x3) h3 h1 ((hw.pk [2, 0, 1, 3, 4]).pack 1)) fun a w v hv hs => ?_
 obtain ⟨rfl, hw⟩ := hv
 have hw := hw.unpack 1 rfl
 have hs := hs.cst (e' := [])
 have hw := hw.cL [k64 b3 x4 x1 x2 p1 x3 c1, k48 b1 x1 x2 p1 x3 c1, bx b2 [(pt b3 0)] 83, bx b4 [.bool true] 4, F]
 refine Qc ?_
 obtain rfl := someE hk
 refine hQn _ _ (Q4 hs [] rfl [] (by kernel_rfl) (by kernel_rfl) ⟨p1, c1, rfl, hw.pk [1, 2, 0, 3, 4], h1⟩)
def Qcy : Option Unit :=
 some ()
def Qdx : Option Unit :=
 Qcy
theorem QeN {x1 x2 x3 x4 : Int} {x5 : List Int} {b1 c1 : Nat} {p1 : Option Addr} {r : Unit} (hk : Qdx = some r) {g w : World} {F : Ch} {ih : IH} (h1 : RSl e5 ih [] p1 c1 x5) (hw : St g w [k63 b1 x1 x2 x3 x4 p1 x5 c1, F] ih) :
  CallsDR Tryz.prog 113 #[(pt b1 0), .bool true] w fun v w' => v = .tuple #[] ∧ St g w' [bx b1 [Qk 1, QfL 1, Qk 0, Qk x2, Qb x3, Qe x4, .slice p1 x5.length c1] 126, F] ih := by
 refine QmR (vs := [(pt b1 0), .bool true]) Tryz.func113 rfl 10 rfl (by kernel_rfl) _ rfl fun a Qf hQ hQn hs => ?_
 obtain ⟨S, hD, kS⟩ := mkSXw hw [[5], []] (K := [5]) rfl
 obtain ⟨y1, hx1⟩ : ∃ y, (some () : Option Unit) = some y := ⟨_, rfl⟩
 obtain ⟨J1, hJ1⟩ := mkJ fun a w => Qcy = some r ∧ Sees a 10 [] ∧ St g w [k65 b1 x2 x3 x4 p1 x5 c1, F] ih
 refine Qo (by kernel_rfl) (N := 6) rfl S J1 ?_ ?_
 ·have hw := hw.drew
  have hS : S (bA 6 0) _ := SXn hD (hw.vws [0, 1])
  refine Qp (fuel := 2) kS hs hS [0, 1, 2, 3] fun a hs hS => ?_
  refine QF [4] (QH ?_)
  have h2 : QeM = some () := rfl
  refine QaR hs rfl (QfD h2 ((hw.pk [0, 1]).pack 0)) fun a w v hv hs => ?_
  obtain ⟨rfl, hw⟩ := hv
  have hw := hw.unpack 0 rfl
  refine nx hD ((hw.vws [0, 1]).anti (Le.refl _)) fun hS => ?_
  refine QF [5] (QH ?_)
  refine Ql5 hs rfl (by kernel_rfl) (QiH hw Tryz.func147 (by kernel_rfl) (by kernel_rfl) (by kernel_rfl) .u32 (by kernel_rfl) 0 rfl 0 (x := Qk x1) (by kernel_rfl) 1 (by kernel_rfl)) fun a w hs hw => ?_
  refine nx hD ((hw.vws [1]).anti (Le.refl _)) fun hS => ?_
  refine QhI ?_
  obtain rfl := someE hx1
  exact (hJ1 _ _).2 ⟨hk, hs.cst, hw.pk [0, 1]⟩
 intro a w hh
 obtain ⟨hk, hs, hw⟩ := (hJ1 _ _).1 hh
 obtain rfl := someE hk
 refine hQn _ _ (Q4 hs [] rfl [] (by kernel_rfl) (by kernel_rfl) ⟨rfl, hw.pk [0, 1]⟩)
def QcY : Option Unit :=
 some ()
theorem QeK {x1 x2 x3 x4 : Int} {x5 : List Int} {b1 c1 : Nat} {p1 : Option Addr} {r : Unit} (hk : QcY = some r) {g w : World} {F : Ch} {ih : IH} (h1 : RSl e5 ih [] p1 c1 x5) (hw : St g w [k63 b1 x1 x2 x3 x4 p1 x5 c1, F] ih) :
  CallsR Tryz.prog 210 #[(pt b1 1)] w fun v w' => v = .tuple #[] ∧ St g w' [bx b1 [Qk x1, QfL 0, Qk 0, Qk x2, Qb x3, Qe x4, .slice p1 x5.length c1] 126, F] ih := by
 refine f_i Tryz.func210 rfl 21 rfl fun a Qf hQ hQn hs => ?_
 refine Qd (Qgb hs (Qd (Qa (pu hs 3 fun a hs => ?_))))
 refine Qj hs (hw.at_ 0 rfl) 1 fun a hs => ?_
 have hs := hs.cst (e' := [(0, (pt b1 1))])
 refine Qc (Qd (Qa (pu hs 1 fun a hs => ?_)))
 refine QfF hs (by kernel_rfl) (Qi4 hw (t := 120) (by kernel_rfl) (by kernel_rfl) (by kernel_rfl) 0 rfl 1 (v := QfL 1) (by kernel_rfl) (by kernel_rfl)) fun a hs => ?_
 refine QfF hs (by kernel_rfl) (Qi3 Tryz.func222 (by kernel_rfl) (by kernel_rfl) (by kernel_rfl) .releaseMerge (by kernel_rfl) (q := ⟨b1, 1, none⟩) (by kernel_rfl)) fun a hs => ?_
 have hs := hs.cst (e' := [(0, (pt b1 1))])
 refine Qc (Qa (QfF hs (by kernel_rfl) (QgZ Tryz.func217 (by kernel_rfl) (by kernel_rfl) (by kernel_rfl) .disable (by kernel_rfl) (by kernel_rfl)) fun a hs => ?_))
 refine Qc (Qd (Qa (pu hs 3 fun a hs => ?_)))
 refine Ql0 hs (by kernel_rfl) (Qlc hw Tryz.func223 (by kernel_rfl) (by kernel_rfl) (by kernel_rfl) .i32 (by kernel_rfl) 0 rfl 1 (x := 1) (by kernel_rfl) (-1) 0 (by kernel_rfl) (by kernel_rfl)) fun a w hs hw => ?_
 refine pn hs 1 [(0, (pt b1 1)), (2, QfL 0)] fun a hs => Qc (Qd (Qd (Qa (pn hs 2 [(0, (pt b1 1)), (2, QfL 0), (16, .bool false)] fun a hs => ?_))))
 refine Qc (QhJ hs (Qg (Qa (QfF hs (by kernel_rfl) (QgZ Tryz.func219 (by kernel_rfl) (by kernel_rfl) (by kernel_rfl) .enable (by kernel_rfl) (by kernel_rfl)) fun a hs => ?_))))
 refine Qc ?_
 obtain rfl := someE hk
 refine hQn _ _ (Q4 hs [] rfl [] (by kernel_rfl) (by kernel_rfl) ⟨rfl, hw.pk [0, 1]⟩)
def Qd8 : Option Unit :=
 some ()
theorem Qez {x1 x2 x3 x4 : Int} {x5 : List Int} {b1 c1 : Nat} {p1 : Option Addr} {r : Unit} (hk : Qd8 = some r) {g w : World} {F : Ch} {ih : IH} (h1 : RSl e5 ih [] p1 c1 x5) (hw : St g w [k63 b1 x1 x2 x3 x4 p1 x5 c1, F] ih) :
  CallsDR Tryz.prog 187 #[(pt b1 1)] w fun v w' => v = .tuple #[] ∧ St g w' [bx b1 [Qk x1, QfL 0, Qk 0, Qk x2, Qb x3, Qe x4, .slice p1 x5.length c1] 126, F] ih := by
 refine QmR (vs := [(pt b1 1)]) Tryz.func187 rfl 6 rfl (by kernel_rfl) _ rfl fun a Qf hQ hQn hs => ?_
 refine Qa (pu hs 3 fun a hs => ?_)
 have h2 : QcY = some () := rfl
 refine Qv hs (QeK (x1 := x1) (x2 := x2) (x3 := x3) (x4 := x4) (x5 := x5) h2 h1 ((hw.pk [0, 1]).pack 1)) fun a w v hv hs => ?_
 obtain ⟨rfl, hw⟩ := hv
 have hw := hw.unpack 1 rfl
 have hs := hs.cst (e' := [])
 refine Qc ?_
 obtain rfl := someE hk
 refine hQn _ _ (Q4 hs [] rfl [] (by kernel_rfl) (by kernel_rfl) ⟨rfl, hw.pk [0, 1]⟩)
def Qge (x1 x2 x3 x4 : Int) (x5 : List Int) (x6 x7 : Int) (x8 : List Int) : Option (Int × Int × Int × Int × (List Int) × Bool) :=
 (QdG x1).bind fun y1 =>
 if (!y1) = true then (
  (QcA x6 x7 x8).bind fun y2 =>
  some (1, 1, y2.1, y2.2.1, y2.2.2, true))
 else some (x1, x2, x3, x4, x5, false)
theorem Qhj {x1 x2 x3 x4 : Int} {x5 : List Int} {x6 x7 : Int} {x8 : List Int} {b1 c1 b2 c2 b3 b4 : Nat} {p1 p2 : Option Addr} {r : Int × Int × Int × Int × (List Int) × Bool} (hk : Qge x1 x2 x3 x4 x5 x6 x7 x8 = some r) {g w : World} {F : Ch} {ih : IH} (h1 : RSl e5 ih [] p1 c1 x5) (h2 : RSl e5 ih [] p2 c2 x8) (hw : St g w [k46 b1 x1 x2 x3 x4 p1 x5 c1, k48 b2 x6 x7 p2 x8 c2, bx b3 [(pt b1 0)] 83, bx b4 [.bool false] 4, F] ih) :
  CallsR Tryz.prog 146 #[(pt b1 0), .func (.func 112) #[] #[(pt b2 0), (pt b3 0), (pt b4 0)]] w fun v w' => ∃ (p3 : Option Addr) (c3 : Nat), v = .tuple #[] ∧ St g w' [bx b1 [Qk r.1, QfL 0, Qk 0, Qk r.2.1, Qb r.2.2.1, Qe r.2.2.2.1, .slice p3 r.2.2.2.2.1.length c3] 126, bx b2 [Qb x6, Qe x7, .slice p2 x8.length c2] 51, bx b3 [(pt b1 0)] 83, bx b4 [.bool r.2.2.2.2.2] 4, F] ih ∧ RSl e5 ih [] p3 c3 r.2.2.2.2.1 := by
 refine QmQ (vs := [(pt b1 0), .func (.func 112) #[] #[(pt b2 0), (pt b3 0), (pt b4 0)]]) Tryz.func146 rfl 21 rfl (by kernel_rfl) [(0, (pt b1 0)), (1, .func (.func 112) #[] #[(pt b2 0), (pt b3 0), (pt b4 0)])] (by kernel_rfl) fun a Qf hQ hQn hs => ?_
 refine Qd (Qa (pu hs 3 fun a hs => ?_))
 have h3 : QgD = some () := rfl
 refine Qv hs (Qhz (x1 := x1) (x2 := x2) (x3 := x3) (x4 := x4) (x5 := x5) h3 h1 ((hw.pk [0, 1, 2, 3, 4]).pack 1)) fun a w v hv hs => ?_
 obtain ⟨rfl, hw⟩ := hv
 have hw := hw.unpack 1 rfl
 have hs := hs.cst (e' := [(0, (pt b1 0)), (1, .func (.func 112) #[] #[(pt b2 0), (pt b3 0), (pt b4 0)])])
 refine Qc (Qd (Ql8 hs 3 [0, 1, 10] [(0, (pt b1 0)), (1, .func (.func 112) #[] #[(pt b2 0), (pt b3 0), (pt b4 0)]), (10, (pt b1 1))] (by kernel_rfl) rfl (by kernel_rfl) (by kernel_rfl) (vs := #[(pt b1 1)]) (by kernel_rfl) fun a hs => ?_))
 refine Qd (Qa (pu hs 3 fun a hs => ?_))
 obtain ⟨y1, h4, hk⟩ := bindE hk
 refine Qv hs (Qfp (x2 := x2) (x3 := x3) (x4 := x4) (x5 := x5) h4 h1 ((hw.pk [0, 1, 2, 3, 4]).pack 1)) fun a w v hv hs => ?_
 obtain ⟨rfl, hw⟩ := hv
 have hw := hw.unpack 1 rfl
 refine pn hs 1 [(0, (pt b1 0)), (1, .func (.func 112) #[] #[(pt b2 0), (pt b3 0), (pt b4 0)]), (15, .bool (!y1))] fun a hs => ?_
 have hw := hw.cL [k63 b1 x1 x2 x3 x4 p1 x5 c1, k48 b2 x6 x7 p2 x8 c2, bx b3 [(pt b1 0)] 83, bx b4 [.bool false] 4, F]
 refine Qc ?_
 rcases ifbE hk with ⟨h5, hk⟩ | ⟨h5, hk⟩
 ·refine Qr hs h5 ?_
  refine Qd (Ql8 hs 3 [1, 18] [(1, .func (.func 112) #[] #[(pt b2 0), (pt b3 0), (pt b4 0)]), (18, (pt b1 0))] (by kernel_rfl) rfl (by kernel_rfl) (by kernel_rfl) (vs := #[(pt b1 0), .bool true]) (by kernel_rfl) fun a hs => ?_)
  refine Qa (pu hs 1 fun a hs => ?_)
  obtain ⟨y2, h6, hk⟩ := bindE hk
  refine Qv hs (Qeu (x4 := x1) (x5 := x2) (x6 := x3) (x7 := x4) (x8 := x5) h6 h2 h1 ((hw.pk [1, 2, 0, 3, 4]).pack 4)) fun a w v hv hs => ?_
  obtain ⟨p4, c4, rfl, hw, h7⟩ := hv
  have hw := hw.unpack 4 rfl
  have hs := hs.cst (e' := [])
  refine Qc (hQn _ _ (Qla hs ?_))
  have h8 : Qdx = some () := rfl
  refine QhE (by kernel_rfl) (QeN (x1 := x1) (x2 := 1) (x3 := y2.1) (x4 := y2.2.1) (x5 := y2.2.2) h8 h7 ((hw.pk [2, 0, 1, 3, 4]).pack 1)) fun v w hv => ?_
  obtain ⟨rfl, hw⟩ := hv
  have hw := hw.unpack 1 rfl
  have h9 : Qd8 = some () := rfl
  refine QhE (by kernel_rfl) (Qez (x1 := 1) (x2 := 1) (x3 := y2.1) (x4 := y2.2.1) (x5 := y2.2.2) h9 h7 ((hw.pk [0, 1, 2, 3, 4]).pack 1)) fun v w hv => ?_
  obtain ⟨rfl, hw⟩ := hv
  have hw := hw.unpack 1 rfl
  obtain rfl := someE hk
  refine QjI rfl ⟨p4, c4, rfl, hw.pk [0, 1, 2, 3, 4], h7⟩
 refine Qs hs h5 ?_
 refine Qg (hQn _ _ (Qla hs ?_))
 have h10 : Qd8 = some () := rfl
 refine QhE (by kernel_rfl) (Qez (x1 := x1) (x2 := x2) (x3 := x3) (x4 := x4) (x5 := x5) h10 h1 ((hw.pk [0, 1, 2, 3, 4]).pack 1)) fun v w hv => ?_
 obtain ⟨rfl, hw⟩ := hv
 have hw := hw.unpack 1 rfl
 obtain rfl := someE hk
 refine QjI rfl ⟨p1, c1, rfl, hw.pk [0, 1, 2, 3, 4], h1⟩
def QhL (x1 x2 x3 x4 : Int) (x5 : List Int) (x6 x7 : Int) (x8 : List Int) : Option (Int × Int × Int × Int × (List Int) × Bool) :=
 (QdH x1).bind fun y1 =>
 if (!y1) = true then (
  (Qge x1 x2 x3 x4 x5 x6 x7 x8).bind fun y2 =>
  some (y2.1, y2.2.1, y2.2.2.1, y2.2.2.2.1, y2.2.2.2.2.1, y2.2.2.2.2.2))
 else some (x1, x2, x3, x4, x5, false)
theorem QiR {x1 x2 x3 x4 : Int} {x5 : List Int} {x6 x7 : Int} {x8 : List Int} {b1 c1 b2 c2 b3 b4 : Nat} {p1 p2 : Option Addr} {r : Int × Int × Int × Int × (List Int) × Bool} (hk : QhL x1 x2 x3 x4 x5 x6 x7 x8 = some r) {g w : World} {F : Ch} {ih : IH} (h1 : RSl e5 ih [] p1 c1 x5) (h2 : RSl e5 ih [] p2 c2 x8) (hw : St g w [k46 b1 x1 x2 x3 x4 p1 x5 c1, k48 b2 x6 x7 p2 x8 c2, bx b3 [(pt b1 0)] 83, bx b4 [.bool false] 4, F] ih) :
  CallsR Tryz.prog 111 #[(pt b1 0), .func (.func 112) #[] #[(pt b2 0), (pt b3 0), (pt b4 0)]] w fun v w' => ∃ (p3 : Option Addr) (c3 : Nat), v = .tuple #[] ∧ St g w' [bx b1 [Qk r.1, QfL 0, Qk 0, Qk r.2.1, Qb r.2.2.1, Qe r.2.2.2.1, .slice p3 r.2.2.2.2.1.length c3] 126, bx b2 [Qb x6, Qe x7, .slice p2 x8.length c2] 51, bx b3 [(pt b1 0)] 83, bx b4 [.bool r.2.2.2.2.2] 4, F] ih ∧ RSl e5 ih [] p3 c3 r.2.2.2.2.1 := by
 refine f_i Tryz.func111 rfl 12 rfl fun a Qf hQ hQn hs => ?_
 refine Qd (Qa (pu hs 3 fun a hs => ?_))
 obtain ⟨y1, h3, hk⟩ := bindE hk
 refine Qv hs (Qfq (x2 := x2) (x3 := x3) (x4 := x4) (x5 := x5) h3 h1 ((hw.pk [0, 1, 2, 3, 4]).pack 1)) fun a w v hv hs => ?_
 obtain ⟨rfl, hw⟩ := hv
 have hw := hw.unpack 1 rfl
 refine pn hs 1 [(0, (pt b1 0)), (1, .func (.func 112) #[] #[(pt b2 0), (pt b3 0), (pt b4 0)]), (8, .bool (!y1))] fun a hs => Qc ?_
 rcases ifbE hk with ⟨h4, hk⟩ | ⟨h4, hk⟩
 ·refine Qr hs h4 ?_
  refine Qa (pu hs 2 fun a hs => ?_)
  obtain ⟨y2, h5, hk⟩ := bindE hk
  refine Qv hs (Qhj h5 h1 h2 ((hw.pk [0, 1, 2, 3, 4]).pack 4)) fun a w v hv hs => ?_
  obtain ⟨p4, c4, rfl, hw, h6⟩ := hv
  have hw := hw.unpack 4 rfl
  have hs := hs.cst (e' := [])
  have hw := hw.cL [k46 b1 y2.1 y2.2.1 y2.2.2.1 y2.2.2.2.1 p4 y2.2.2.2.2.1 c4, k48 b2 x6 x7 p2 x8 c2, bx b3 [(pt b1 0)] 83, bx b4 [.bool y2.2.2.2.2.2] 4, F]
  refine Qc ?_
  obtain rfl := someE hk
  refine hQn _ _ (Q4 hs [] rfl [] (by kernel_rfl) (by kernel_rfl) ⟨p4, c4, rfl, hw.pk [0, 1, 2, 3, 4], h6⟩)
 refine Qs hs h4 (Qg ?_)
 obtain rfl := someE hk
 refine hQn _ _ (Q4 hs [] rfl [] (by kernel_rfl) (by kernel_rfl) ⟨p1, c1, rfl, hw.pk [0, 1, 2, 3, 4], h1⟩)
def Qcz (x1 x2 x3 x4 : Int) (x5 : List Int) (x6 : M51) : Option (Bool × Int × Int × Int × Int × (List Int)) :=
 (QhL x1 x2 x3 x4 x5 x6.f0 x6.f1 x6.f2).bind fun y1 =>
 some (y1.2.2.2.2.2, y1.1, y1.2.1, y1.2.2.1, y1.2.2.2.1, y1.2.2.2.2.1)
theorem Qet {x1 x2 x3 x4 : Int} {x5 : List Int} {x6 : M51} {b1 c1 c2 : Nat} {p1 p2 : Option Addr} {r : Bool × Int × Int × Int × Int × (List Int)} (hk : Qcz x1 x2 x3 x4 x5 x6 = some r) {g w : World} {F : Ch} {ih : IH} (h1 : RSl e5 ih [] p1 c1 x5) (h2 : RSl e5 ih [] p2 c2 x6.f2) (hw : St g w [k46 b1 x1 x2 x3 x4 p1 x5 c1, F] ih) :
  CallsR Tryz.prog 64 #[(pt b1 0), A51 x6 p2 c2] w fun v w' => ∃ (p3 : Option Addr) (c3 : Nat), v = .bool r.1 ∧ St g w' [bx b1 [Qk r.2.1, QfL 0, Qk 0, Qk r.2.2.1, Qb r.2.2.2.1, Qe r.2.2.2.2.1, .slice p3 r.2.2.2.2.2.length c3] 126, F] ih ∧ RSl e5 ih [] p3 c3 r.2.2.2.2.2 := by
 refine f_i Tryz.func64 rfl 14 rfl fun a Qf hQ hQn hs => ?_
 refine Qd (Qa (QC hs hw [(pt b1 0)] 83 (fun b => (pt b 0)) (by kernel_rfl) (fun _ => by kernel_rfl) fun a w b2 hs hw => ?_))
 refine QaN hs hw [Qb x6.f0, Qe x6.f1, .slice p2 x6.f2.length c2] 51 (fun b => (pt b 0)) fun a w b3 hs hw => ?_
 refine pn hs 1 [(2, (pt b2 0)), (3, (pt b3 0))] fun a hs => Qc (Qd (Qd (Qa (Qj hs (hw.at_ 1 rfl) 0 fun a hs => ?_))))
 refine pn hs 1 [(2, (pt b2 0)), (3, (pt b3 0)), (7, .bool false)] fun a hs => Qc (QhJ hs (Qg (Qd (Qa (QC hs hw [.bool false] 4 (fun b => (pt b 0)) (by kernel_rfl) (fun _ => by kernel_rfl) fun a w b4 hs hw => ?_)))))
 refine QE hs hw 0 rfl 0 (v := .bool false) fun a w hs hw => ?_
 have hw := hw.cL [bx b4 [.bool false] 4, k48 b3 x6.f0 x6.f1 p2 x6.f2 c2, bx b2 [(pt b1 0)] 83, k46 b1 x1 x2 x3 x4 p1 x5 c1, F]
 refine Qc (Qd (Qa (Qj hs (hw.at_ 2 rfl) 0 fun a hs => ?_)))
 refine pu hs 3 fun a hs => ?_
 obtain ⟨y1, h3, hk⟩ := bindE hk
 refine Qv hs (QiR h3 h1 h2 ((hw.pk [3, 1, 2, 0, 4]).pack 4)) fun a w v hv hs => ?_
 obtain ⟨p4, c4, rfl, hw, h4⟩ := hv
 have hw := hw.unpack 4 rfl
 have hs := hs.cst (e' := [(5, (pt b4 0))])
 refine Qc (Qd (Qa (Qj hs (hw.at_ 3 rfl) 0 fun a hs => ?_)))
 refine pn hs 1 [(4, .bool y1.2.2.2.2.2)] fun a hs => Qc (Qi ?_)
 obtain rfl := someE hk
 exact qr1 hQ hs ⟨p4, c4, rfl, hw.pk [0, 4], h4⟩
def Qdl (x1 : Int) (x2 : M51) (x3 x4 x5 x6 : Int) (x7 : List Int) : Option (Int × Int × Int × (List Int) × Int × Int × Int × Int × (List Int)) :=
 some (x1, x2.f0, x2.f1, x2.f2, x3, x4, x5, x6, x7)
def Qdk (x1 : Int) (x2 : M51) (x3 x4 x5 : Int) (x6 : List Int) (x7 : Bool) (x8 x9 x10 x11 : Int) (x12 : List Int) : Option (Int × Int × Int × (List Int) × Int × Int × Int × Int × (List Int)) :=
 if x7 = true then Qdl x1 x2 x8 x9 x10 x11 x12
 else some (x3, x4, x5, x6, x8, x9, x10, x11, x12)
def Qcr (x1 x2 x3 x4 x5 : Int) (x6 : List Int) (x7 x8 x9 : Int) (x10 : List Int) (x11 : M51) : Option (Int × Int × Int × (List Int) × Int × Int × Int × Int × (List Int)) :=
 ((Qcz x2 x3 x4 x5 x6 x11).bind fun y1 =>
  some (y1.1, y1.2.1, y1.2.2.1, y1.2.2.2.1, y1.2.2.2.2.1, y1.2.2.2.2.2) : Option (Bool × Int × Int × Int × Int × (List Int))).bind fun s1 => Qdk x1 x11 x7 x8 x9 x10 s1.1 s1.2.1 s1.2.2.1 s1.2.2.2.1 s1.2.2.2.2.1 s1.2.2.2.2.2
theorem QdC {x1 x2 x3 x4 : Int} {x5 : List M44} {x6 : Value} {x7 x8 x9 : Int} {x10 : List Int} {x11 x12 x13 x14 x15 : Int} {x16 : List Int} {x17 x18 x19 : Int} {x20 : List Int} {x21 : M51} {d1 : Ch} {b1 b2 c1 c2 b3 c3 c4 c5 : Nat} {p1 p2 p3 p4 p5 : Option Addr} {r : Int × Int × Int × (List Int) × Int × Int × Int × Int × (List Int)} (hk : Qcr x3 x12 x13 x14 x15 x16 x17 x18 x19 x20 x21 = some r) {g w : World} {F : Ch} {ih : IH} (h1 : OSl e44 ih p1 c1 x5 d1) (h2 : x6.oneCell' = true) (h3 : RSl e5 ih [] p2 c2 x10) (h4 : RSl e5 ih [] p3 c3 x16) (h5 : RSl e5 ih [] p4 c4 x20) (h6 : RSl e5 ih [] p5 c5 x21.f2) (hw : St g w [k42 b1 x1 x2 x3 x4 b2 x7 x8 x9 p2 x10 c2 x11 b3 x17 x18 x19 p4 x20 c4, bx b2 [.slice p1 x5.length c1, x6] 113, d1, k46 b3 x12 x13 x14 x15 p3 x16 c3, F] ih) :
  CallsR Tryz.prog 37 #[(pt b1 0), A51 x21 p5 c5] w fun v w' => ∃ (p6 : Option Addr) (c6 : Nat) (p7 : Option Addr) (c7 : Nat), v = .tuple #[] ∧ St g w' [bx b1 [Qb x1, Qb x2, Qe x3, Qb x4, (pt b2 0), Qb x7, Qk x8, Qe x9, .slice p2 x10.length c2, Qb x11, (pt b3 0), Qe r.1, Qb r.2.1, Qe r.2.2.1, .slice p6 r.2.2.2.1.length c6] 85, bx b2 [.slice p1 x5.length c1, x6] 113, d1, bx b3 [Qk r.2.2.2.2.1, QfL 0, Qk 0, Qk r.2.2.2.2.2.1, Qb r.2.2.2.2.2.2.1, Qe r.2.2.2.2.2.2.2.1, .slice p7 r.2.2.2.2.2.2.2.2.length c7] 126, F] ih ∧ RSl e5 ih [] p6 c6 r.2.2.2.1 ∧ RSl e5 ih [] p7 c7 r.2.2.2.2.2.2.2.2 := by
 refine f_i Tryz.func37 rfl 21 rfl fun a Qf hQ hQn hs => ?_
 refine Qd (Qa (QC hs hw [Qb x21.f0, Qe x21.f1, .slice p5 x21.f2.length c5] 51 (fun b => (pt b 0)) (by kernel_rfl) (fun _ => by kernel_rfl) fun a w b4 hs hw => ?_))
 have hs := hs.cst (e' := [(0, (pt b1 0)), (3, (pt b4 0))])
 refine Qc (Qd ?_)
 have hw := hw.cL [k48 b4 x21.f0 x21.f1 p5 x21.f2 c5, k42 b1 x1 x2 x3 x4 b2 x7 x8 x9 p2 x10 c2 x11 b3 x17 x18 x19 p4 x20 c4, bx b2 [.slice p1 x5.length c1, x6] 113, d1, k46 b3 x12 x13 x14 x15 p3 x16 c3, F]
 obtain ⟨S, hD, kS⟩ := mkSXw hw [[], [], [], [], [5], []] (K := [5]) rfl
 obtain ⟨y1, hx1, hk⟩ := bindE hk
 obtain ⟨J1, hJ1⟩ := mkJ fun a w => ∃ (x22 : Bool) (x23 x24 x25 x26 : Int) (x27 : List Int) (p8 : Option Addr) (c8 : Nat), Qdk x3 x21 x17 x18 x19 x20 x22 x23 x24 x25 x26 x27 = some r ∧ Sees a 21 [(0, (pt b1 0)), (3, (pt b4 0)), (9, .bool x22)] ∧ St g w [k48 b4 x21.f0 x21.f1 p5 x21.f2 c5, k42 b1 x1 x2 x3 x4 b2 x7 x8 x9 p2 x10 c2 x11 b3 x17 x18 x19 p4 x20 c4, bx b2 [.slice p1 x5.length c1, x6] 113, k46 b3 x23 x24 x25 x26 p8 x27 c8, d1, F] ih ∧ RSl e5 ih [] p8 c8 x27
 refine Qo (by kernel_rfl) (N := 6) rfl S J1 ?_ ?_
 ·have hw := hw.drew
  have hS : S (bA 6 0) _ := SXn hD (hw.vws [0, 1, 2, 3, 4, 5])
  refine Qp (fuel := 3) kS hs hS [0, 1, 2] fun a hs hS => ?_
  refine Qy kS hs hS 3 rfl (SXb hD 1 rfl) 10 fun a hs hS => ?_
  refine Qy kS hs hS 4 rfl (SXb hD 0 rfl) 0 fun a hs hS => ?_
  refine QF [5] (QH ?_)
  obtain ⟨y2, h7, hx1⟩ := bindE hx1
  refine QaR hs rfl (Qet h7 h4 h6 ((hw.pk [4, 0, 1, 2, 3, 5]).pack 1)) fun a w v hv hs => ?_
  obtain ⟨p9, c9, rfl, hw, h8⟩ := hv
  have hw := hw.unpack 1 rfl
  refine nx hD ((hw.vws [1, 2, 3, 4, 5]).anti (Le.refl _)) fun hS => ?_
  refine QhI ?_
  obtain rfl := someE hx1
  exact (hJ1 _ _).2 ⟨y2.1, y2.2.1, y2.2.2.1, y2.2.2.2.1, y2.2.2.2.2.1, y2.2.2.2.2.2, p9, c9, hk, hs.cst, hw.pk [1, 2, 3, 0, 4, 5], h8⟩
 intro a w hh
 obtain ⟨x22, x23, x24, x25, x26, x27, p8, c8, hk, hs, hw, h9⟩ := (hJ1 _ _).1 hh
 rcases ifbE hk with ⟨h10, hk⟩ | ⟨h10, hk⟩
 ·refine Qr hs h10 ?_
  obtain ⟨S, hD, kS⟩ := mkSXw hw [[], [9, 12], [], [], [], []] (K := [9, 12]) rfl
  obtain ⟨y3, hx2⟩ : ∃ y, (some () : Option Unit) = some y := ⟨_, rfl⟩
  obtain ⟨J2, hJ2⟩ := mkJ fun a w => Qdl x3 x21 x23 x24 x25 x26 x27 = some r ∧ Sees a 21 [] ∧ St g w [k42 b1 x1 x2 x3 x4 b2 x7 x8 x9 p2 x10 c2 x11 b3 x3 x21.f0 x21.f1 p5 x21.f2 c5, bx b2 [.slice p1 x5.length c1, x6] 113, k46 b3 x23 x24 x25 x26 p8 x27 c8, d1, F] ih
  refine Qo (by kernel_rfl) (N := 13) rfl S J2 ?_ ?_
  ·have hw := hw.drew
   have hS : S (bA 13 0) _ := SXn hD (hw.vws [0, 1, 2, 3, 4, 5])
   refine Qp (fuel := 8) kS hs hS [0, 1, 2, 3, 4] fun a hs hS => ?_
   refine Qy kS hs hS 5 rfl (SXb hD 1 rfl) 2 fun a hs hS => ?_
   refine Qy kS hs hS 6 rfl (SXb hD 0 rfl) 0 fun a hs hS => ?_
   refine Qp (fuel := 4) kS hs hS [7, 8] fun a hs hS => ?_
   refine QF [9] (QH ?_)
   refine QfM hs hw rfl 1 rfl 11 (v := Qe x3) fun a w hs hw => ?_
   refine nx hD ((hw.vws [0, 2, 3, 4, 5]).anti (Le.refl _)) fun hS => ?_
   refine Qp (fuel := 1) kS hs hS [10, 11] fun a hs hS => ?_
   refine QF [12] (QH ?_)
   refine QfM hs hw rfl 1 rfl 12 (v := A51 x21 p5 c5) fun a w hs hw => ?_
   refine nx hD ((hw.vws [0, 2, 3, 4, 5]).anti (Le.refl _)) fun hS => ?_
   refine QhI ?_
   obtain rfl := someE hx2
   exact (hJ2 _ _).2 ⟨hk, hs.cst, hw.pk [1, 2, 3, 4, 5]⟩
  intro a w hh
  obtain ⟨hk, hs, hw⟩ := (hJ2 _ _).1 hh
  obtain rfl := someE hk
  refine hQn _ _ (Q4 hs [] rfl [] (by kernel_rfl) (by kernel_rfl) ⟨p5, c5, p8, c8, rfl, hw.pk [0, 1, 3, 2, 4], h6, h9⟩)
 refine Qs hs h10 (Qg ?_)
 obtain rfl := someE hk
 refine hQn _ _ (Q4 hs [] rfl [] (by kernel_rfl) (by kernel_rfl) ⟨p4, c4, p8, c8, rfl, hw.pk [1, 2, 4, 3, 5], h5, h9⟩)
def QdE (x1 x2 x3 : Int) (x4 : List Int) (x5 : List M44) (x6 x7 x8 x9 : Int) (x10 : List Int) : Option ((List M48) × Int × Int × Int × (List Int) × (List M44) × Int × Int × Int × Int × (List Int)) :=
 some ([], x1, x2, x3, x4, x5, x6, x7, x8, x9, x10)
def QbG (k : Nat) (x1 x2 x3 x4 x5 : Int) (x6 : List Int) (x7 x8 x9 x10 : Int) (x11 : List Int) (x12 x13 x14 x15 : Int) (x16 : List Int) (x17 : Bool) (x18 : List M44) : Option (Sum ((List M48) × Int × Int × Int × (List Int) × (List M44) × Int × Int × Int × Int × (List Int)) (Int × Int × Int × (List Int) × (List M44) × Int × Int × Int × Int × (List Int))) :=
 if x17 = true then (
  (QK k x1 x2 x18 x3 x4 x5 x6 x7).bind fun y1 =>
  some (.inl (y1, x8, x9, x10, x11, x18, x12, x13, x14, x15, x16)))
 else some (.inr (x8, x9, x10, x11, x18, x12, x13, x14, x15, x16))
def QdD (x1 : List M44) (x2 x3 x4 : Int) (x5 : List Int) (x6 x7 x8 x9 : Int) (x10 : List Int) : Option (Sum ((List M48) × Int × Int × Int × (List Int) × (List M44) × Int × Int × Int × Int × (List Int)) (Int × Int × Int × (List Int) × (List M44) × Int × Int × Int × Int × (List Int))) :=
 some (.inr (x2, x3, x4, x5, x1, x6, x7, x8, x9, x10))
def QaF (x1 : M48) (x2 x3 x4 x5 x6 : Int) (x7 : List Int) (x8 x9 x10 : Int) (x11 : List Int) (x12 : List M44) (x13 : Bool) : Option (Sum ((List M48) × Int × Int × Int × (List Int) × (List M44) × Int × Int × Int × Int × (List Int)) (Int × Int × Int × (List Int) × (List M44) × Int × Int × Int × Int × (List Int))) :=
 if x13 = true then (
  ((QaI x1.f17).bind fun y1 =>
   (Qcr x2 x3 x4 x5 x6 x7 x8 x9 x10 x11 (M51.mk 0 x1.f9 y1)).bind fun y2 =>
   some (y2.1, y2.2.1, y2.2.2.1, y2.2.2.2.1, y2.2.2.2.2.1, y2.2.2.2.2.2.1, y2.2.2.2.2.2.2.1, y2.2.2.2.2.2.2.2.1, y2.2.2.2.2.2.2.2.2) : Option (Int × Int × Int × (List Int) × Int × Int × Int × Int × (List Int))).bind fun s1 => QdD x12 s1.1 s1.2.1 s1.2.2.1 s1.2.2.2.1 s1.2.2.2.2.1 s1.2.2.2.2.2.1 s1.2.2.2.2.2.2.1 s1.2.2.2.2.2.2.2.1 s1.2.2.2.2.2.2.2.2)
 else some (.inr (x8, x9, x10, x11, x12, x3, x4, x5, x6, x7))
def QbF (k : Nat) (x1 : M48) (x2 : List M44) (x3 x4 x5 : Int) (x6 : List Int) (x7 x8 x9 x10 x11 : Int) (x12 : List Int) (x13 x14 x15 x16 : Int) (x17 : List Int) (x18 : Int) (x19 : Bool) : Option ((List M48) × Int × Int × Int × (List Int) × (List M44) × Int × Int × Int × Int × (List Int)) :=
 (if (x1.f0 == 11) = true then (
   ((QbP k x2 x1.f14).bind fun y1 =>
    if y1.1 = true then (
     (Qw x3 x4 x5 x6).bind fun y2 =>
     if y2 = true then (
      (Q7 k y1.2 x7).bind fun y3 =>
      some ((y3.f0 == x1.f14.f0), y1.2))
     else some (false, y1.2))
    else some (false, y1.2) : Option (Bool × (List M44))).bind fun s1 => QbG k x8 x9 x10 x7 x11 x12 x13 x14 x15 x16 x17 x18 x3 x4 x5 x6 s1.1 s1.2)
  else if (x1.f0 == 18) = true then (
   if (x19 && (!(x10 == 1))) = true then (
    (Qcr x9 x18 x3 x4 x5 x6 x14 x15 x16 x17 (M51.mk x1.f12 x1.f9 ([]))).bind fun y4 =>
    some (.inr (y4.1, y4.2.1, y4.2.2.1, y4.2.2.2.1, x2, y4.2.2.2.2.1, y4.2.2.2.2.2.1, y4.2.2.2.2.2.2.1, y4.2.2.2.2.2.2.2.1, y4.2.2.2.2.2.2.2.2)))
   else some (.inr (x14, x15, x16, x17, x2, x18, x3, x4, x5, x6)))
  else if (x1.f0 == 20) = true then (
   (if x19 = true then (
     if (x10 == 1) = true then some (x1.f11 == x7)
     else some false)
    else some false : Option Bool).bind fun s2 => QaF x1 x9 x18 x3 x4 x5 x6 x14 x15 x16 x17 x2 s2)
  else some (.inr (x14, x15, x16, x17, x2, x18, x3, x4, x5, x6)) : Option (Sum ((List M48) × Int × Int × Int × (List Int) × (List M44) × Int × Int × Int × Int × (List Int)) (Int × Int × Int × (List Int) × (List M44) × Int × Int × Int × Int × (List Int)))).bind fun
  | .inl z => some z
  | .inr s3 => QdE s3.1 s3.2.1 s3.2.2.1 s3.2.2.2.1 s3.2.2.2.2.1 s3.2.2.2.2.2.1 s3.2.2.2.2.2.2.1 s3.2.2.2.2.2.2.2.1 s3.2.2.2.2.2.2.2.2.1 s3.2.2.2.2.2.2.2.2.2
def QbE (k : Nat) (x1 x2 x3 : Int) (x4 : List Int) (x5 : List M44) (x6 x7 x8 x9 : Int) (x10 : List Int) (x11 : M48) (x12 x13 x14 x15 x16 : Int) (x17 : List Int) (x18 : Int) (x19 : Bool) : Option ((List M48) × Int × Int × Int × (List Int) × (List M44) × Int × Int × Int × Int × (List Int)) :=
 if x19 = true then some ([], x1, x2, x3, x4, x5, x6, x7, x8, x9, x10)
 else ((Qdr x11.f1).bind fun y1 =>
  if y1 = true then (
   if (x11.f6 == x12) = true then (
    (Qw x7 x8 x9 x10).bind fun y2 =>
    some y2)
   else some false)
  else some false : Option Bool).bind fun s1 => QbF k x11 x5 x7 x8 x9 x10 x13 x14 x12 x15 x16 x17 x18 x1 x2 x3 x4 x6 s1
def Qbw (k : Nat) (x1 x2 : Int) (x3 : List M44) (x4 x5 x6 : Int) (x7 : List Int) (x8 x9 x10 x11 x12 : Int) (x13 : List Int) (x14 x15 x16 : Int) (x17 : List Int) (x18 : M48) : Option ((List M48) × Int × Int × Int × (List Int) × (List M44) × Int × Int × Int × Int × (List Int)) :=
 ((Qdz k x18).bind fun y1 =>
  if (y1 != 0) = true then some true
  else (Qq x1).bind fun y2 =>
  some (x18.f2 != y2) : Option Bool).bind fun s1 => QbE k x14 x15 x16 x17 x3 x9 x10 x11 x12 x13 x18 x2 x5 x1 x4 x6 x7 x8 s1
theorem Qgy {k : Nat} {x1 x2 x3 x4 : Int} {x5 : List M44} {x6 : Value} {x7 x8 x9 : Int} {x10 : List Int} {x11 x12 x13 x14 x15 : Int} {x16 : List Int} {x17 x18 x19 : Int} {x20 : List Int} {x21 : M48} {d1 : Ch} {b1 b2 c1 c2 b3 c3 c4 c5 c6 c7 c8 : Nat} {p1 p2 p3 p4 p5 p6 p7 p8 : Option Addr} {r : (List M48) × Int × Int × Int × (List Int) × (List M44) × Int × Int × Int × Int × (List Int)} (hk : Qbw k x1 x3 x5 x7 x8 x9 x10 x11 x12 x13 x14 x15 x16 x17 x18 x19 x20 x21 = some r) {g w : World} {F : Ch} {ih : IH} (h1 : OSl e44 ih p1 c1 x5 d1) (h2 : x6.oneCell' = true) (h3 : RSl e5 ih [] p2 c2 x10) (h4 : RSl e5 ih [] p3 c3 x16) (h5 : RSl e5 ih [] p4 c4 x20) (h6 : RSl e3 ih [] p5 c5 x21.f14.f2) (h7 : RSl Qcf ih [] p6 c6 x21.f15) (h8 : RSl e96 ih [] p7 c7 x21.f16) (h9 : RSl e5 ih [] p8 c8 x21.f17) (hG : Glob 0 gl0 162 ih) (hw : St g w [k42 b1 x1 x2 x3 x4 b2 x7 x8 x9 p2 x10 c2 x11 b3 x17 x18 x19 p4 x20 c4, bx b2 [.slice p1 x5.length c1, x6] 113, d1, k46 b3 x12 x13 x14 x15 p3 x16 c3, F] ih) :
  CallsR Tryz.prog 12 #[(pt b1 0), A48 x21 p5 c5 p6 c6 p7 c7 p8 c8] w fun v w' => ∃ (ih' : IH) (p9 : Option Addr) (c9 : Nat) (d2 : Ch) (p10 : Option Addr) (c10 : Nat) (p11 : Option Addr) (c11 : Nat) (d3 : Ch) (p12 : Option Addr) (c12 : Nat), v = .slice p9 r.1.length c9 ∧ St g w' [d2, bx b1 [Qb x1, Qb x2, Qe x3, Qb x4, (pt b2 0), Qb x7, Qk x8, Qe x9, .slice p2 x10.length c2, Qb x11, (pt b3 0), Qe r.2.1, Qb r.2.2.1, Qe r.2.2.2.1, .slice p10 r.2.2.2.2.1.length c10] 85, bx b2 [.slice p11 r.2.2.2.2.2.1.length c11, x6] 113, d3, bx b3 [Qk r.2.2.2.2.2.2.1, QfL 0, Qk 0, Qk r.2.2.2.2.2.2.2.1, Qb r.2.2.2.2.2.2.2.2.1, Qe r.2.2.2.2.2.2.2.2.2.1, .slice p12 r.2.2.2.2.2.2.2.2.2.2.length c12] 126, F] ih' ∧ Le ih ih' ∧ OSl e48 ih' p9 c9 r.1 d2 ∧ RSl e5 ih' [] p10 c10 r.2.2.2.2.1 ∧ OSl e44 ih' p11 c11 r.2.2.2.2.2.1 d3 ∧ RSl e5 ih' [] p12 c12 r.2.2.2.2.2.2.2.2.2.2 := by
 refine f_i Tryz.func12 rfl 115 rfl fun a Qf hQ hQn hs => ?_
 refine Qd (Qa (QC hs hw [Qb x21.f0, Qb x21.f1, Qb x21.f2, Qb x21.f3, Qe x21.f4, Qe x21.f5, Qe x21.f6, Qe x21.f7, Qe x21.f8, Qe x21.f9, Qb x21.f10, Qk x21.f11, Qb x21.f12, Qb x21.f13.f0, Qb x21.f13.f1, Qe x21.f13.f2, Qb x21.f13.f3, Qb x21.f14.f0, Qe x21.f14.f1, .slice p5 x21.f14.f2.length c5, .bool x21.f14.f3, Qb x21.f14.f4, .slice p6 x21.f15.length c6, .slice p7 x21.f16.length c7, .slice p8 x21.f17.length c8] 48 (fun b => (pt b 0)) (by kernel_rfl) (fun _ => by kernel_rfl) fun a w b4 hs hw => ?_))
 refine pn hs 1 [(0, (pt b1 0)), (3, (pt b4 0))] fun a hs => Qc (Qd (Qd ?_))
 have hw := hw.cL [k10 b4 x21.f0 x21.f1 x21.f2 x21.f3 x21.f4 x21.f5 x21.f6 x21.f7 x21.f8 x21.f9 x21.f10 x21.f11 x21.f12 x21.f13.f0 x21.f13.f1 x21.f13.f2 x21.f13.f3 x21.f14.f0 x21.f14.f1 p5 x21.f14.f2 c5 x21.f14.f3 x21.f14.f4 p6 x21.f15 c6 p7 x21.f16 c7 p8 x21.f17 c8, k42 b1 x1 x2 x3 x4 b2 x7 x8 x9 p2 x10 c2 x11 b3 x17 x18 x19 p4 x20 c4, bx b2 [.slice p1 x5.length c1, x6] 113, d1, k46 b3 x12 x13 x14 x15 p3 x16 c3, F]
 obtain ⟨S, hD, kS⟩ := mkSXw hw [[], [], [], [], [], []] (K := []) rfl
 obtain ⟨y1, hx1, hk⟩ := bindE hk
 obtain ⟨J1, hJ1⟩ := mkJ fun a w => ∃ (x22 : Bool) (ih1 : IH), QbE k x17 x18 x19 x20 x5 x12 x13 x14 x15 x16 x21 x3 x8 x1 x7 x9 x10 x11 x22 = some r ∧ Sees a 115 [(0, (pt b1 0)), (3, (pt b4 0)), (20, .bool x22)] ∧ St g w [k10 b4 x21.f0 x21.f1 x21.f2 x21.f3 x21.f4 x21.f5 x21.f6 x21.f7 x21.f8 x21.f9 x21.f10 x21.f11 x21.f12 x21.f13.f0 x21.f13.f1 x21.f13.f2 x21.f13.f3 x21.f14.f0 x21.f14.f1 p5 x21.f14.f2 c5 x21.f14.f3 x21.f14.f4 p6 x21.f15 c6 p7 x21.f16 c7 p8 x21.f17 c8, k42 b1 x1 x2 x3 x4 b2 x7 x8 x9 p2 x10 c2 x11 b3 x17 x18 x19 p4 x20 c4, bx b2 [.slice p1 x5.length c1, x6] 113, k46 b3 x12 x13 x14 x15 p3 x16 c3, d1, F] ih1 ∧ Le ih ih1
 refine Qo (by kernel_rfl) (N := 14) rfl S J1 ?_ ?_
 ·have hw := hw.drew
  have hS : S (bA 14 0) _ := SXn hD (hw.vws [0, 1, 2, 3, 4, 5])
  refine Qp (fuel := 11) kS hs hS [0, 1, 2] fun a hs hS => ?_
  refine Qy kS hs hS 3 rfl (SXb hD 0 rfl) 0 fun a hs hS => ?_
  refine QF [4] (QH ?_)
  obtain ⟨y2, h10, hx1⟩ := bindE hx1
  refine QaR hs rfl (QfB h10 h6 h7 h8 h9 (hG.mono (Le.refl _)) ((hw.pk [0, 1, 2, 3, 4, 5]).pack 0)) fun a w v hv hs => ?_
  obtain ⟨ih2, rfl, hw, hle1⟩ := hv
  have hw := hw.unpack 0 rfl
  refine nx hD ((hw.vws [0, 1, 2, 3, 4, 5]).anti hle1) fun hS => ?_
  refine Qp (fuel := 6) kS hs hS [5, 6, 7] fun a hs hS => ?_
  rcases ifbE hx1 with ⟨h11, hx1⟩ | ⟨h11, hx1⟩
  ·have hs := hs.aB 14 h11
   refine Qu kS hs hS fun a hs => ?_
   obtain rfl := someE hx1
   exact (hJ1 _ _).2 ⟨true, ih2, hk, hs.cst, hw.pk [0, 1, 2, 4, 3, 5], hle1⟩
  have hs := hs.aB 14 h11
  refine Qp (fuel := 5) kS hs hS [8] fun a hs hS => ?_
  refine Qy kS hs hS 9 rfl (SXb hD 0 rfl) 2 fun a hs hS => ?_
  refine Qff (fuel := 3) kS hs hS [10] [(0, (pt b1 0)), (3, (pt b4 0)), (14, .bool false), (16, Qb x21.f2), (17, (pt b1 0))] fun a hs hS => ?_
  refine QF [11] (QH ?_)
  obtain ⟨y3, h12, hx1⟩ := bindE hx1
  refine QaR hs rfl (QD (x2 := x2) (x3 := x3) (x4 := x4) (x5 := x5) (x6 := (x6)) (x7 := x7) (x8 := x8) (x9 := x9) (x10 := x10) (x11 := x11) (x12 := (pt b3 0)) (x13 := x17) (x14 := x18) (x15 := x19) (x16 := x20) h12 (h1.mono hle1) h2 (h3.mono hle1) rfl (h5.mono hle1) ((hw.pk [1, 2, 3, 0, 4, 5]).pack 3)) fun a w v hv hs => ?_
  obtain ⟨rfl, hw⟩ := hv
  have hw := hw.unpack 3 rfl
  refine nx hD ((hw.vws [3, 0, 1, 2, 4, 5]).anti hle1) fun hS => ?_
  refine Qu kS hs hS fun a hs => ?_
  obtain rfl := someE hx1
  exact (hJ1 _ _).2 ⟨(x21.f2 != y3), ih2, hk, hs.cst, hw.pk [3, 0, 1, 4, 2, 5], hle1⟩
 intro a w hh
 obtain ⟨x22, ih1, hk, hs, hw, hle2⟩ := (hJ1 _ _).1 hh
 rcases ifbE hk with ⟨h13, hk⟩ | ⟨h13, hk⟩
 ·refine Qr hs h13 ?_
  refine Qd (Qa (pn hs 1 [(4, .slice none 0 0)] fun a hs => ?_))
  refine Qc (Qi ?_)
  have hw := hw.nil
  obtain rfl := someE hk
  exact qr1 hQ hs ⟨ih1, none, 0, ([]), p4, c4, p1, c1, d1, p3, c3, rfl, hw.pk [0, 2, 3, 5, 4, 6], hle2, (OSl.nil _ _), (h5.mono hle2), (h1.mono hle2), (h4.mono hle2)⟩
 refine Qs hs h13 ?_
 refine Qg (Qd (Qa (pu hs 4 fun a hs => ?_)))
 refine Qj hs (hw.at_ 1 rfl) 5 fun a hs => pn hs 2 [(0, (pt b1 0)), (3, (pt b4 0)), (5, .bool (x7 == 1))] fun a hs => Qc (Qd ?_)
 obtain ⟨S, hD, kS⟩ := mkSXw hw [[], [], [], [], [], []] (K := []) rfl
 obtain ⟨y4, hx2, hk⟩ := bindE hk
 obtain ⟨J2, hJ2⟩ := mkJ fun a w => ∃ (x23 : Bool), QbF k x21 x5 x13 x14 x15 x16 x8 x1 x3 x7 x9 x10 x11 x17 x18 x19 x20 x12 x23 = some r ∧ Sees a 115 [(0, (pt b1 0)), (3, (pt b4 0)), (5, .bool (x7 == 1)), (6, .bool x23)] ∧ St g w [k10 b4 x21.f0 x21.f1 x21.f2 x21.f3 x21.f4 x21.f5 x21.f6 x21.f7 x21.f8 x21.f9 x21.f10 x21.f11 x21.f12 x21.f13.f0 x21.f13.f1 x21.f13.f2 x21.f13.f3 x21.f14.f0 x21.f14.f1 p5 x21.f14.f2 c5 x21.f14.f3 x21.f14.f4 p6 x21.f15 c6 p7 x21.f16 c7 p8 x21.f17 c8, k42 b1 x1 x2 x3 x4 b2 x7 x8 x9 p2 x10 c2 x11 b3 x17 x18 x19 p4 x20 c4, bx b2 [.slice p1 x5.length c1, x6] 113, k46 b3 x12 x13 x14 x15 p3 x16 c3, d1, F] ih1
 refine Qo (by kernel_rfl) (N := 17) rfl S J2 ?_ ?_
 ·have hw := hw.drew
  have hS : S (bA 17 0) _ := SXn hD (hw.vws [0, 1, 2, 3, 4, 5])
  refine Qp (fuel := 16) kS hs hS [0] fun a hs hS => ?_
  refine Qy kS hs hS 1 rfl (SXb hD 0 rfl) 1 fun a hs hS => ?_
  refine QF [2] (QH ?_)
  obtain ⟨y5, h14, hx2⟩ := bindE hx2
  refine QaR hs rfl (Qf4 h14 ((hw.pk [0, 1, 2, 3, 4, 5]).pack 0)) fun a w v hv hs => ?_
  obtain ⟨rfl, hw⟩ := hv
  have hw := hw.unpack 0 rfl
  refine nx hD ((hw.vws [0, 1, 2, 3, 4, 5]).anti (Le.refl _)) fun hS => ?_
  refine Qp (fuel := 13) kS hs hS [3] fun a hs hS => ?_
  rcases ifbE hx2 with ⟨h15, hx2⟩ | ⟨h15, hx2⟩
  ·have hs := hs.aB 30 h15
   refine Qp (fuel := 12) kS hs hS [4] fun a hs hS => ?_
   refine Qy kS hs hS 5 rfl (SXb hD 0 rfl) 6 fun a hs hS => ?_
   refine Qff (fuel := 8) kS hs hS [6, 7, 8] [(0, (pt b1 0)), (3, (pt b4 0)), (5, .bool (x7 == 1)), (30, .bool true), (32, Qe x21.f6), (35, (pt b1 2))] fun a hs hS => ?_
   refine Qy kS hs hS 9 rfl (SXb hD 1 rfl) 2 fun a hs hS => ?_
   refine Qp (fuel := 4) kS hs hS [10, 11, 12] fun a hs hS => ?_
   rcases ifbE hx2 with ⟨h16, hx2⟩ | ⟨h16, hx2⟩
   ·have hs := hs.aB 39 h16
    refine Qp (fuel := 3) kS hs hS [13] fun a hs hS => ?_
    refine QF [14] (QH ?_)
    obtain ⟨y6, h17, hx2⟩ := bindE hx2
    refine QaR hs rfl (Q5 (x1 := x1) (x2 := x2) (x3 := x3) (x4 := x4) (x5 := x5) (x6 := (x6)) (x7 := x7) (x8 := x8) (x9 := x9) (x10 := x10) (x11 := x11) (x12 := x12) (x17 := x17) (x18 := x18) (x19 := x19) (x20 := x20) h17 (h1.mono hle2) h2 (h3.mono hle2) (h4.mono hle2) (h5.mono hle2) ((hw.pk [1, 2, 4, 3, 0, 5]).pack 4)) fun a w v hv hs => ?_
    obtain ⟨rfl, hw⟩ := hv
    have hw := hw.unpack 4 rfl
    refine nx hD ((hw.vws [4, 0, 1, 3, 2, 5]).anti (Le.refl _)) fun hS => ?_
    refine Qu kS hs hS fun a hs => ?_
    obtain rfl := someE hx2
    exact (hJ2 _ _).2 ⟨y6, hk, hs.cst, hw.pk [4, 0, 1, 3, 2, 5]⟩
   have hs := hs.aB 39 h16
   refine Qu kS hs hS fun a hs => ?_
   obtain rfl := someE hx2
   exact (hJ2 _ _).2 ⟨false, hk, hs.cst, hw.pk [0, 1, 2, 3, 4, 5]⟩
  have hs := hs.aB 30 h15
  refine Qu kS hs hS fun a hs => ?_
  obtain rfl := someE hx2
  exact (hJ2 _ _).2 ⟨false, hk, hs.cst, hw.pk [0, 1, 2, 3, 4, 5]⟩
 intro a w hh
 obtain ⟨x23, hk, hs, hw⟩ := (hJ2 _ _).1 hh
 obtain ⟨y7, hx3, hk⟩ := bindE hk
 obtain ⟨J3, hJ3⟩ := mkJ fun a w => ∃ (x24 x25 x26 : Int) (x27 : List Int) (x28 : List M44) (x29 x30 x31 x32 : Int) (x33 : List Int) (p13 : Option Addr) (c13 : Nat) (p14 : Option Addr) (c14 : Nat) (d4 : Ch) (p15 : Option Addr) (c15 : Nat) (ih3 : IH), QdE x24 x25 x26 x27 x28 x29 x30 x31 x32 x33 = some r ∧ Sees a 115 [] ∧ St g w [k42 b1 x1 x2 x3 x4 b2 x7 x8 x9 p2 x10 c2 x11 b3 x24 x25 x26 p13 x27 c13, bx b2 [.slice p14 x28.length c14, x6] 113, k46 b3 x29 x30 x31 x32 p15 x33 c15, d4, F] ih3 ∧ Le ih1 ih3 ∧ RSl e5 ih3 [] p13 c13 x27 ∧ OSl e44 ih3 p14 c14 x28 d4 ∧ RSl e5 ih3 [] p15 c15 x33
 refine QaG J3 ?_ ?_
 ·refine Qd (Qa (pu hs 1 fun a hs => ?_))
  refine Qj hs (hw.at_ 0 rfl) 0 fun a hs => ?_
  have hs := hs.cst (e' := [(0, (pt b1 0)), (3, (pt b4 0)), (5, .bool (x7 == 1)), (6, .bool x23), (44, Qb x21.f0)])
  refine Qc (Ql (Qd (Qa (pn hs 2 [(0, (pt b1 0)), (3, (pt b4 0)), (5, .bool (x7 == 1)), (6, .bool x23), (44, Qb x21.f0), (45, .bool (x21.f0 == 11))] fun a hs => ?_))))
  refine Qc ?_
  rcases ifbE hx3 with ⟨h18, hx3⟩ | ⟨h18, hx3⟩
  ·refine Qr hs h18 (Qd ?_)
   obtain ⟨S, hD, kS⟩ := mkSXw hw [[], [], [6], [], [6], []] (K := [6, 6]) rfl
   obtain ⟨y8, hx4, hx3⟩ := bindE hx3
   obtain ⟨J4, hJ4⟩ := mkJ fun a w => ∃ (x34 : Bool) (x35 : List M44) (p16 : Option Addr) (c16 : Nat) (d5 : Ch) (ih4 : IH), QbG k x1 x3 x7 x8 x9 x10 x11 x17 x18 x19 x20 x12 x13 x14 x15 x16 x34 x35 = some y7 ∧ Sees a 115 [(0, (pt b1 0)), (74, .bool x34)] ∧ St g w [k42 b1 x1 x2 x3 x4 b2 x7 x8 x9 p2 x10 c2 x11 b3 x17 x18 x19 p4 x20 c4, bx b2 [.slice p16 x35.length c16, x6] 113, k46 b3 x12 x13 x14 x15 p3 x16 c3, d5, F] ih4 ∧ Le ih1 ih4 ∧ OSl e44 ih4 p16 c16 x35 d5
   refine Qo (by kernel_rfl) (N := 28) rfl S J4 ?_ ?_
   ·have hw := hw.drew
    have hS : S (bA 28 0) _ := SXn hD (hw.vws [0, 1, 2, 3, 4, 5])
    refine Qp (fuel := 25) kS hs hS [0, 1, 2] fun a hs hS => ?_
    refine Qy kS hs hS 3 rfl (SXb hD 1 rfl) 4 fun a hs hS => ?_
    refine Qp (fuel := 23) kS hs hS [4] fun a hs hS => ?_
    refine Qy kS hs hS 5 rfl (SXb hD 0 rfl) 17 fun a hs hS => ?_
    refine QF [6] (QH ?_)
    obtain ⟨y9, h19, hx4⟩ := bindE hx4
    refine QaR hs rfl (Qfe (x2 := (x6)) h19 (h1.mono hle2) h2 (h6.mono hle2) ((hw.pk [2, 4, 0, 1, 3, 5]).pack 2)) fun a w v hv hs => ?_
    obtain ⟨ih5, p17, c17, d6, rfl, hw, hle3, h20⟩ := hv
    have hw := hw.unpack 2 rfl
    refine nx hD ((hw.vws [2, 3, 4, 5]).anti hle3) fun hS => ?_
    refine Qp (fuel := 20) kS hs hS [7] fun a hs hS => ?_
    rcases ifbE hx4 with ⟨h21, hx4⟩ | ⟨h21, hx4⟩
    ·have hs := hs.aB 54 h21
     refine Qff (fuel := 19) kS hs hS [8] [(0, (pt b1 0)), (3, (pt b4 0)), (54, .bool true), (55, (pt b1 0))] fun a hs hS => ?_
     refine QF [9] (QH ?_)
     obtain ⟨y10, h22, hx4⟩ := bindE hx4
     refine QaR hs rfl (Q5 (x1 := x1) (x2 := x2) (x3 := x3) (x4 := x4) (x5 := y9.2) (x6 := (x6)) (x7 := x7) (x8 := x8) (x9 := x9) (x10 := x10) (x11 := x11) (x12 := x12) (x17 := x17) (x18 := x18) (x19 := x19) (x20 := x20) h22 h20 h2 (h3.mono (hle2.trans hle3)) (h4.mono (hle2.trans hle3)) (h5.mono (hle2.trans hle3)) ((hw.pk [3, 0, 1, 4, 2, 5]).pack 4)) fun a w v hv hs => ?_
     obtain ⟨rfl, hw⟩ := hv
     have hw := hw.unpack 4 rfl
     refine nx hD ((hw.vws [4, 0, 3, 5]).anti hle3) fun hS => ?_
     refine Qp (fuel := 16) kS hs hS [10, 11] fun a hs hS => ?_
     rcases ifbE hx4 with ⟨h23, hx4⟩ | ⟨h23, hx4⟩
     ·have hs := hs.aB 58 h23
      refine Qp (fuel := 13) kS hs hS [12, 13, 14] fun a hs hS => ?_
      refine Qy kS hs hS 15 rfl (SXb hD 1 rfl) 4 fun a hs hS => ?_
      refine Qp (fuel := 8) kS hs hS [16, 17, 18, 19] fun a hs hS => ?_
      refine Qy kS hs hS 20 rfl (SXb hD 1 rfl) 6 fun a hs hS => ?_
      refine Qff (fuel := 5) kS hs hS [23, 24] [(0, (pt b1 0)), (58, .bool true), (62, (pt b2 0)), (67, Qk x8), (71, (pt b4 17))] fun a hs hS => ?_
      refine Qy kS hs hS 25 rfl (SXb hD 0 rfl) 17 fun a hs hS => ?_
      refine QF [21] (QH ?_)
      obtain ⟨y11, h24, hx4⟩ := bindE hx4
      refine QaR hs rfl (Qah (x2 := (x6)) h24 h20 h2 ((hw.pk [1, 2, 0, 3, 4, 5]).pack 2)) fun a w v hv hs => ?_
      obtain ⟨ih6, p18, c18, rfl, hw, hle4, h25⟩ := hv
      have hw := hw.unpack 2 rfl
      refine nx hD ((hw.vws [4, 2, 3, 5]).anti (hle3.trans hle4)) fun hS => ?_
      refine Qu kS hs hS fun a hs => ?_
      obtain rfl := someE hx4
      exact (hJ4 _ _).2 ⟨(y11.f0 == x21.f14.f0), y9.2, p17, c17, d6, ih6, hx3, hs.cst, hw.pk [2, 0, 3, 1, 5], (hle3.trans hle4), (h20.mono hle4)⟩
     have hs := hs.aB 58 h23
     refine Qu kS hs hS fun a hs => ?_
     obtain rfl := someE hx4
     exact (hJ4 _ _).2 ⟨false, y9.2, p17, c17, d6, ih5, hx3, hs.cst, hw.pk [0, 1, 3, 2, 5], hle3, h20⟩
    have hs := hs.aB 54 h21
    refine Qu kS hs hS fun a hs => ?_
    obtain rfl := someE hx4
    exact (hJ4 _ _).2 ⟨false, y9.2, p17, c17, d6, ih5, hx3, hs.cst, hw.pk [3, 0, 4, 1, 5], hle3, h20⟩
   intro a w hh
   obtain ⟨x34, x35, p16, c16, d5, ih4, hx3, hs, hw, hle5, h26⟩ := (hJ4 _ _).1 hh
   rcases ifbE hx3 with ⟨h27, hx3⟩ | ⟨h27, hx3⟩
   ·refine Qr hs h27 ?_
    refine Qd (Qa (pu hs 1 fun a hs => ?_))
    obtain ⟨y12, h28, hx3⟩ := bindE hx3
    refine Qv hs (Qa2 (x2 := x2) (x4 := x4) (x6 := (x6)) (x12 := (pt b3 0)) (x13 := x17) (x14 := x18) (x15 := x19) (x16 := x20) h28 h26 h2 (h3.mono (hle2.trans hle5)) rfl (h5.mono (hle2.trans hle5)) (hG.mono (hle2.trans hle5)) ((hw.pk [0, 1, 3, 2, 4]).pack 3)) fun a w v hv hs => ?_
    obtain ⟨ih7, p19, c19, d7, rfl, hw, hle6, h29⟩ := hv
    have hw := hw.unpack 4 rfl
    refine pn hs 1 [(4, .slice p19 y12.length c19)] fun a hs => Qc (Qi ?_)
    obtain rfl := someE hx3
    obtain rfl := someE hk
    exact qr1 hQ hs ⟨ih7, p19, c19, d7, p4, c4, p16, c16, d5, p3, c3, rfl, hw.pk [0, 1, 2, 3, 4, 5], ((hle2.trans hle5).trans hle6), h29, (h5.mono ((hle2.trans hle5).trans hle6)), (h26.mono hle6), (h4.mono ((hle2.trans hle5).trans hle6))⟩
   refine Qs hs h27 (Qg ?_)
   obtain rfl := someE hx3
   exact (hJ3 _ _).2 ⟨x17, x18, x19, x20, x35, x12, x13, x14, x15, x16, p4, c4, p16, c16, d5, p3, c3, ih4, hk, hs.cst, hw.pk [0, 1, 2, 3, 4], hle5, (h5.mono (hle2.trans hle5)), h26, (h4.mono (hle2.trans hle5))⟩
  refine Qs hs h18 ?_
  refine Qd (Qa (pn hs 2 [(0, (pt b1 0)), (3, (pt b4 0)), (5, .bool (x7 == 1)), (6, .bool x23), (44, Qb x21.f0), (77, .bool (x21.f0 == 18))] fun a hs => ?_))
  refine Qc ?_
  rcases ifbE hx3 with ⟨h30, hx3⟩ | ⟨h30, hx3⟩
  ·refine Qr hs h30 (Qd ?_)
   obtain ⟨J5, hJ5⟩ := mkJ fun a w => Sees a 115 [(0, (pt b1 0)), (3, (pt b4 0)), (83, .bool (x23 && (!(x7 == 1))))] ∧ St g w [k10 b4 x21.f0 x21.f1 x21.f2 x21.f3 x21.f4 x21.f5 x21.f6 x21.f7 x21.f8 x21.f9 x21.f10 x21.f11 x21.f12 x21.f13.f0 x21.f13.f1 x21.f13.f2 x21.f13.f3 x21.f14.f0 x21.f14.f1 p5 x21.f14.f2 c5 x21.f14.f3 x21.f14.f4 p6 x21.f15 c6 p7 x21.f16 c7 p8 x21.f17 c8, k42 b1 x1 x2 x3 x4 b2 x7 x8 x9 p2 x10 c2 x11 b3 x17 x18 x19 p4 x20 c4, bx b2 [.slice p1 x5.length c1, x6] 113, k46 b3 x12 x13 x14 x15 p3 x16 c3, d1, F] ih1
   refine Qn J5 ?_ ?_
   ·refine pu hs 2 fun a hs => ?_
    rcases boolE x23 with h31 | h31
    ·have hs := hs.aB 80 h31
     refine pu hs 3 fun a hs => Qc ?_
     exact (hJ5 _ _).2 ⟨(hs.bB 83 h31 (!(x7 == 1)) (x23 && (!(x7 == 1)))).cst, hw.pk [0, 1, 2, 3, 4, 5]⟩
    have hs := hs.aB 80 h31
    refine pu hs 3 fun a hs => Qc ?_
    exact (hJ5 _ _).2 ⟨(hs.bB 83 h31 false (x23 && (!(x7 == 1)))).cst, hw.pk [0, 1, 2, 3, 4, 5]⟩
   intro a w hh
   obtain ⟨hs, hw⟩ := (hJ5 _ _).1 hh
   rcases ifbE hx3 with ⟨h32, hx3⟩ | ⟨h32, hx3⟩
   ·refine Qr hs h32 ?_
    refine Qa (pu hs 2 fun a hs => ?_)
    refine Qj hs (hw.at_ 0 rfl) 12 fun a hs => pu hs 1 fun a hs => Qj hs (hw.at_ 0 rfl) 9 fun a hs => pu hs 1 fun a hs => ?_
    obtain ⟨y13, h33, hx3⟩ := bindE hx3
    refine Qv hs (QdC (x1 := x1) (x2 := x2) (x4 := x4) (x5 := x5) (x6 := (x6)) (x7 := x7) (x8 := x8) (x9 := x9) (x10 := x10) (x11 := x11) h33 (h1.mono hle2) h2 (h3.mono hle2) (h4.mono hle2) (h5.mono hle2) (RSl.nil _ _ _) ((hw.pk [1, 2, 4, 3, 5]).pack 4)) fun a w v hv hs => ?_
    obtain ⟨p20, c20, p21, c21, rfl, hw, h34, h35⟩ := hv
    have hw := hw.unpack 4 rfl
    refine Qc ?_
    obtain rfl := someE hx3
    exact (hJ3 _ _).2 ⟨y13.1, y13.2.1, y13.2.2.1, y13.2.2.2.1, x5, y13.2.2.2.2.1, y13.2.2.2.2.2.1, y13.2.2.2.2.2.2.1, y13.2.2.2.2.2.2.2.1, y13.2.2.2.2.2.2.2.2, p20, c20, p1, c1, d1, p21, c21, ih1, hk, hs.cst, hw.pk [0, 1, 3, 2, 4], (Le.refl _), h34, (h1.mono hle2), h35⟩
   refine Qs hs h32 (Qg ?_)
   obtain rfl := someE hx3
   exact (hJ3 _ _).2 ⟨x17, x18, x19, x20, x5, x12, x13, x14, x15, x16, p4, c4, p1, c1, d1, p3, c3, ih1, hk, hs.cst, hw.pk [1, 2, 3, 4, 5], (Le.refl _), (h5.mono hle2), (h1.mono hle2), (h4.mono hle2)⟩
  refine Qs hs h30 ?_
  refine Qd (Qa (pn hs 2 [(0, (pt b1 0)), (3, (pt b4 0)), (5, .bool (x7 == 1)), (6, .bool x23), (91, .bool (x21.f0 == 20))] fun a hs => ?_))
  refine Qc ?_
  rcases ifbE hx3 with ⟨h36, hx3⟩ | ⟨h36, hx3⟩
  ·refine Qr hs h36 (Qd ?_)
   obtain ⟨S, hD, kS⟩ := mkSXw hw [[], [], [], [], [], []] (K := []) rfl
   obtain ⟨y14, hx5, hx3⟩ := bindE hx3
   obtain ⟨J6, hJ6⟩ := mkJ fun a w => ∃ (x36 : Bool), QaF x21 x3 x12 x13 x14 x15 x16 x17 x18 x19 x20 x5 x36 = some y7 ∧ Sees a 115 [(0, (pt b1 0)), (3, (pt b4 0)), (106, .bool x36)] ∧ St g w [k10 b4 x21.f0 x21.f1 x21.f2 x21.f3 x21.f4 x21.f5 x21.f6 x21.f7 x21.f8 x21.f9 x21.f10 x21.f11 x21.f12 x21.f13.f0 x21.f13.f1 x21.f13.f2 x21.f13.f3 x21.f14.f0 x21.f14.f1 p5 x21.f14.f2 c5 x21.f14.f3 x21.f14.f4 p6 x21.f15 c6 p7 x21.f16 c7 p8 x21.f17 c8, k42 b1 x1 x2 x3 x4 b2 x7 x8 x9 p2 x10 c2 x11 b3 x17 x18 x19 p4 x20 c4, bx b2 [.slice p1 x5.length c1, x6] 113, k46 b3 x12 x13 x14 x15 p3 x16 c3, d1, F] ih1
   refine Qo (by kernel_rfl) (N := 14) rfl S J6 ?_ ?_
   ·have hw := hw.drew
    have hS : S (bA 14 0) _ := SXn hD (hw.vws [0, 1, 2, 3, 4, 5])
    refine Qp (fuel := 12) kS hs hS [0, 1] fun a hs hS => ?_
    rcases ifbE hx5 with ⟨h37, hx5⟩ | ⟨h37, hx5⟩
    ·have hs := hs.aB 94 h37
     refine Qp (fuel := 9) kS hs hS [2, 3, 4] fun a hs hS => ?_
     rcases ifbE hx5 with ⟨h38, hx5⟩ | ⟨h38, hx5⟩
     ·have hs := hs.aB 97 h38
      refine Qp (fuel := 8) kS hs hS [5] fun a hs hS => ?_
      refine Qy kS hs hS 6 rfl (SXb hD 0 rfl) 11 fun a hs hS => ?_
      refine Qp (fuel := 3) kS hs hS [7, 8, 9, 10] fun a hs hS => ?_
      refine Qy kS hs hS 11 rfl (SXb hD 1 rfl) 6 fun a hs hS => ?_
      refine Qu kS hs hS fun a hs => ?_
      obtain rfl := someE hx5
      exact (hJ6 _ _).2 ⟨(x21.f11 == x8), hx3, hs.cst, hw.pk [0, 1, 2, 3, 4, 5]⟩
     have hs := hs.aB 97 h38
     refine Qu kS hs hS fun a hs => ?_
     obtain rfl := someE hx5
     exact (hJ6 _ _).2 ⟨false, hx3, hs.cst, hw.pk [0, 1, 2, 3, 4, 5]⟩
    have hs := hs.aB 94 h37
    refine Qu kS hs hS fun a hs => ?_
    obtain rfl := someE hx5
    exact (hJ6 _ _).2 ⟨false, hx3, hs.cst, hw.pk [0, 1, 2, 3, 4, 5]⟩
   intro a w hh
   obtain ⟨x36, hx3, hs, hw⟩ := (hJ6 _ _).1 hh
   rcases ifbE hx3 with ⟨h39, hx3⟩ | ⟨h39, hx3⟩
   ·refine Qr hs h39 ?_
    obtain ⟨S, hD, kS⟩ := mkSXw hw [[], [7], [], [7], [], []] (K := [7, 7]) rfl
    obtain ⟨y15, hx6, hx3⟩ := bindE hx3
    obtain ⟨J7, hJ7⟩ := mkJ fun a w => ∃ (x37 x38 x39 : Int) (x40 : List Int) (x41 x42 x43 x44 : Int) (x45 : List Int) (p22 : Option Addr) (c22 : Nat) (p23 : Option Addr) (c23 : Nat) (ih8 : IH), QdD x5 x37 x38 x39 x40 x41 x42 x43 x44 x45 = some y7 ∧ Sees a 115 [] ∧ St g w [k42 b1 x1 x2 x3 x4 b2 x7 x8 x9 p2 x10 c2 x11 b3 x37 x38 x39 p22 x40 c22, bx b2 [.slice p1 x5.length c1, x6] 113, k46 b3 x41 x42 x43 x44 p23 x45 c23, d1, F] ih8 ∧ Le ih1 ih8 ∧ RSl e5 ih8 [] p22 c22 x40 ∧ RSl e5 ih8 [] p23 c23 x45
    refine Qo (by kernel_rfl) (N := 8) rfl S J7 ?_ ?_
    ·have hw := hw.drew
     have hS : S (bA 8 0) _ := SXn hD (hw.vws [0, 1, 2, 3, 4, 5])
     refine Qp (fuel := 6) kS hs hS [0, 1] fun a hs hS => ?_
     refine Qy kS hs hS 2 rfl (SXb hD 0 rfl) 9 fun a hs hS => ?_
     refine Qp (fuel := 4) kS hs hS [3] fun a hs hS => ?_
     refine Qy kS hs hS 4 rfl (SXb hD 0 rfl) 24 fun a hs hS => ?_
     refine QF [5] (QH ?_)
     obtain ⟨y16, h40, hx6⟩ := bindE hx6
     refine QaR hs rfl (QaQ h40 (h9.mono hle2) (nilSub _) ((hw.pk [0, 1, 2, 3, 4, 5]).pack 0)) fun a w v hv hs => ?_
     obtain ⟨p24, c24, d8, rfl, hw, h41⟩ := hv
     have hw := hw.unpack 1 rfl
     refine nx hD ((hw.vws [1, 2, 3, 4, 5, 6]).anti (Le.refl _)) fun hS => ?_
     obtain ⟨ih9, hle7, hw, h42⟩ := (hw.pk [0, 1, 2, 3, 4, 5, 6]).fz (h41.mono (Le.refl _))
     refine Qp (fuel := 1) kS hs hS [6] fun a hs hS => ?_
     refine QF [7] (QH ?_)
     obtain ⟨y17, h43, hx6⟩ := bindE hx6
     refine QaR hs rfl (QdC (x1 := x1) (x2 := x2) (x4 := x4) (x5 := x5) (x6 := (x6)) (x7 := x7) (x8 := x8) (x9 := x9) (x10 := x10) (x11 := x11) h43 (h1.mono (hle2.trans hle7)) h2 (h3.mono (hle2.trans hle7)) (h4.mono (hle2.trans hle7)) (h5.mono (hle2.trans hle7)) h42 ((hw.pk [1, 2, 4, 3, 0, 5]).pack 4)) fun a w v hv hs => ?_
     obtain ⟨p25, c25, p26, c26, rfl, hw, h44, h45⟩ := hv
     have hw := hw.unpack 4 rfl
     refine nx hD ((hw.vws [4, 1, 2, 5]).anti hle7) fun hS => ?_
     refine QhI ?_
     obtain rfl := someE hx6
     exact (hJ7 _ _).2 ⟨y17.1, y17.2.1, y17.2.2.1, y17.2.2.2.1, y17.2.2.2.2.1, y17.2.2.2.2.2.1, y17.2.2.2.2.2.2.1, y17.2.2.2.2.2.2.2.1, y17.2.2.2.2.2.2.2.2, p25, c25, p26, c26, ih9, hx3, hs.cst, hw.pk [0, 1, 3, 2, 5], hle7, h44, h45⟩
    intro a w hh
    obtain ⟨x37, x38, x39, x40, x41, x42, x43, x44, x45, p22, c22, p23, c23, ih8, hx3, hs, hw, hle8, h46, h47⟩ := (hJ7 _ _).1 hh
    obtain rfl := someE hx3
    exact (hJ3 _ _).2 ⟨x37, x38, x39, x40, x5, x41, x42, x43, x44, x45, p22, c22, p1, c1, d1, p23, c23, ih8, hk, hs.cst, hw.pk [0, 1, 2, 3, 4], hle8, h46, (h1.mono (hle2.trans hle8)), h47⟩
   refine Qs hs h39 (Qg ?_)
   obtain rfl := someE hx3
   exact (hJ3 _ _).2 ⟨x17, x18, x19, x20, x5, x12, x13, x14, x15, x16, p4, c4, p1, c1, d1, p3, c3, ih1, hk, hs.cst, hw.pk [1, 2, 3, 4, 5], (Le.refl _), (h5.mono hle2), (h1.mono hle2), (h4.mono hle2)⟩
  refine Qs hs h36 (Qg ?_)
  obtain rfl := someE hx3
  exact (hJ3 _ _).2 ⟨x17, x18, x19, x20, x5, x12, x13, x14, x15, x16, p4, c4, p1, c1, d1, p3, c3, ih1, hk, hs.cst, hw.pk [1, 2, 3, 4, 5], (Le.refl _), (h5.mono hle2), (h1.mono hle2), (h4.mono hle2)⟩
 intro a w hh
 obtain ⟨x24, x25, x26, x27, x28, x29, x30, x31, x32, x33, p13, c13, p14, c14, d4, p15, c15, ih3, hk, hs, hw, hle9, h48, h49, h50⟩ := (hJ3 _ _).1 hh
 refine Qd (Qa (pn hs 1 [(4, .slice none 0 0)] fun a hs => ?_))
 refine Qc (Qi ?_)
 have hw := hw.nil
 obtain rfl := someE hk
 exact qr1 hQ hs ⟨ih3, none, 0, ([]), p13, c13, p14, c14, d4, p15, c15, rfl, hw.pk [0, 1, 2, 4, 3, 5], (hle2.trans hle9), (OSl.nil _ _), h48, h49, h50⟩
end Go.Proofs.YteiinkhbgpldeaaGreatDoor.Sx
