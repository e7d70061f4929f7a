/- The walk of CallerPlays. Conditions: those ahead of each colon. -/
import Derived.Test.YteiinkhbgpldeaaGreatDoorWCallerPlays2
namespace Go.Proofs.YteiinkhbgpldeaaGreatDoor.Sx
open Go Go.Proofs
set_option maxRecDepth 100000
set_option linter.unusedVariables false
def Qbs (x1 : M96) (x2 : Bool) : Option Bool :=
 if ((decide (x1.f1 < 1)) || ((decide (x1.f1 > 6)) || ((x1.f2 == 0) || (decide ((x1.f6.length : Int) > 2048))))) = true then some false
 else if (bif (x1.f3 != 2) then ((x1.f3 != 3) || ((x1.f3 == 2) && (decide (x1.f5 > 0)))) else ((x1.f3 == 2) && (decide (x1.f5 > 0)))) = true then some false
 else some (bif x2 then ((x1.f0 == 0) || ((!x2) && (decide (x1.f0 > 0)))) else ((!x2) && (decide (x1.f0 > 0))))
theorem Qgs {x1 : M96} {x2 : Bool} {c1 : Nat} {p1 : Option Addr} {r : Bool} (hk : Qbs x1 x2 = some r) {g w : World} {F : Ch} {ih : IH} (h1 : RSl e5 ih [] p1 c1 x1.f6) (hw : St g w [F] ih) :
  CallsR Tryz.prog 118 #[A96 x1 p1 c1, .bool x2] w fun v w' => v = .bool r ∧ St g w' [F] ih := by
 refine f_i Tryz.func118 rfl 57 rfl fun a Qf hQ hQn hs => ?_
 refine Qd (Qa (QC hs hw [Qe x1.f0, Qb x1.f1, Qe x1.f2, Qb x1.f3, Qk x1.f4, Qe x1.f5, .slice p1 x1.f6.length c1] 96 (fun b => (pt b 0)) (by kernel_rfl) (fun _ => by kernel_rfl) fun a w b1 hs hw => ?_))
 refine pn hs 1 [(1, .bool x2), (2, (pt b1 0))] fun a hs => Qc (Qd (Qd ?_))
 obtain ⟨J1, hJ1⟩ := mkJ fun a w => Sees a 57 [(1, .bool x2), (2, (pt b1 0)), (23, .bool ((decide (x1.f1 < 1)) || ((decide (x1.f1 > 6)) || ((x1.f2 == 0) || (decide ((x1.f6.length : Int) > 2048))))))] ∧ St g w [k9 b1 x1.f0 x1.f1 x1.f2 x1.f3 x1.f4 x1.f5 p1 x1.f6 c1, F] ih
 refine Qn J1 ?_ ?_
 ·refine pu hs 1 fun a hs => Qj hs (hw.at_ 0 rfl) 1 fun a hs => pu hs 2 fun a hs => ?_
  rcases boolE (decide (x1.f1 < 1)) with h2 | h2
  ·have hs := hs.aB 8 h2
   refine pu hs 15 fun a hs => Qc ?_
   exact (hJ1 _ _).2 ⟨(hs.bB 23 h2 true ((decide (x1.f1 < 1)) || ((decide (x1.f1 > 6)) || ((x1.f2 == 0) || (decide ((x1.f6.length : Int) > 2048)))))).cst, hw.pk [0, 1]⟩
  have hs := hs.aB 8 h2
  refine pu hs 1 fun a hs => Qj hs (hw.at_ 0 rfl) 1 fun a hs => pn hs 3 [(1, .bool x2), (2, (pt b1 0)), (13, .bool (decide (x1.f1 > 6)))] fun a hs => ?_
  rcases boolE (decide (x1.f1 > 6)) with h3 | h3
  ·have hs := hs.aB 13 h3
   refine pu hs 10 fun a hs => Qc ?_
   exact (hJ1 _ _).2 ⟨(hs.altB (b := true) 23 ((decide (x1.f1 < 1)) || ((decide (x1.f1 > 6)) || ((x1.f2 == 0) || (decide ((x1.f6.length : Int) > 2048))))) (by kernel_rfl) (by first | (rw [h2, h3] <;> rfl) | (revert h2 h3; simp +contextual))).cast [1, 2, 23] (by kernel_rfl), hw.pk [0, 1]⟩
  have hs := hs.aB 13 h3
  refine pu hs 1 fun a hs => Qj hs (hw.at_ 0 rfl) 2 fun a hs => pu hs 3 fun a hs => ?_
  rcases boolE (x1.f2 == 0) with h4 | h4
  ·have hs := hs.aB 18 h4
   refine pu hs 5 fun a hs => Qc ?_
   exact (hJ1 _ _).2 ⟨(hs.altB (b := true) 23 ((decide (x1.f1 < 1)) || ((decide (x1.f1 > 6)) || ((x1.f2 == 0) || (decide ((x1.f6.length : Int) > 2048))))) (by kernel_rfl) (by first | (rw [h2, h3, h4] <;> rfl) | (revert h2 h3 h4; simp +contextual))).cast [1, 2, 23] (by kernel_rfl), hw.pk [0, 1]⟩
  have hs := hs.aB 18 h4
  refine pu hs 1 fun a hs => Qj hs (hw.at_ 0 rfl) 6 fun a hs => pn hs 3 [(1, .bool x2), (2, (pt b1 0)), (23, .bool (decide ((x1.f6.length : Int) > 2048)))] fun a hs => ?_
  refine Qc ?_
  exact (hJ1 _ _).2 ⟨(hs.altB (b := (decide ((x1.f6.length : Int) > 2048))) 23 ((decide (x1.f1 < 1)) || ((decide (x1.f1 > 6)) || ((x1.f2 == 0) || (decide ((x1.f6.length : Int) > 2048))))) (by kernel_rfl) (by first | (rw [h2, h3, h4] <;> rfl) | (revert h2 h3 h4; simp +contextual))).cast [1, 2, 23] (by kernel_rfl), hw.pk [0, 1]⟩
 intro a w hh
 obtain ⟨hs, hw⟩ := (hJ1 _ _).1 hh
 rcases ifbE hk with ⟨h5, hk⟩ | ⟨h5, hk⟩
 ·refine Qr hs h5 ?_
  refine Qd (Qa (pn hs 1 [(4, .bool false)] fun a hs => ?_))
  refine Qc (Qi ?_)
  obtain rfl := someE hk
  exact qr1 hQ hs ⟨rfl, hw.pk [1]⟩
 refine Qs hs h5 ?_
 refine Qg (Qd (Qd ?_))
 obtain ⟨J2, hJ2⟩ := mkJ fun a w => Sees a 57 [(1, .bool x2), (2, (pt b1 0)), (41, .bool (bif (x1.f3 != 2) then ((x1.f3 != 3) || ((x1.f3 == 2) && (decide (x1.f5 > 0)))) else ((x1.f3 == 2) && (decide (x1.f5 > 0)))))] ∧ St g w [k9 b1 x1.f0 x1.f1 x1.f2 x1.f3 x1.f4 x1.f5 p1 x1.f6 c1, F] ih
 refine Qn J2 ?_ ?_
 ·refine pu hs 1 fun a hs => Qj hs (hw.at_ 0 rfl) 3 fun a hs => pu hs 2 fun a hs => ?_
  rcases boolE (x1.f3 != 2) with h6 | h6
  ·have hs := hs.aB 27 h6
   refine pu hs 1 fun a hs => Qj hs (hw.at_ 0 rfl) 3 fun a hs => pn hs 3 [(1, .bool x2), (2, (pt b1 0)), (32, .bool (x1.f3 != 3))] fun a hs => ?_
   rcases boolE (x1.f3 != 3) with h7 | h7
   ·have hs := hs.aB 32 h7
    refine pu hs 9 fun a hs => Qc ?_
    exact (hJ2 _ _).2 ⟨(hs.altB (b := true) 41 (bif (x1.f3 != 2) then ((x1.f3 != 3) || ((x1.f3 == 2) && (decide (x1.f5 > 0)))) else ((x1.f3 == 2) && (decide (x1.f5 > 0)))) (by kernel_rfl) (by first | (rw [h6, h7] <;> rfl) | (revert h6 h7; simp +contextual))).cast [1, 2, 41] (by kernel_rfl), hw.pk [0, 1]⟩
   have hs := hs.aB 32 h7
   refine pu hs 1 fun a hs => Qj hs (hw.at_ 0 rfl) 3 fun a hs => pu hs 2 fun a hs => ?_
   rcases boolE (x1.f3 == 2) with h8 | h8
   ·have hs := hs.aB 36 h8
    refine pu hs 1 fun a hs => Qj hs (hw.at_ 0 rfl) 5 fun a hs => pn hs 3 [(1, .bool x2), (2, (pt b1 0)), (41, .bool (decide (x1.f5 > 0)))] fun a hs => Qc ?_
    exact (hJ2 _ _).2 ⟨(hs.altB (b := (decide (x1.f5 > 0))) 41 (bif (x1.f3 != 2) then ((x1.f3 != 3) || ((x1.f3 == 2) && (decide (x1.f5 > 0)))) else ((x1.f3 == 2) && (decide (x1.f5 > 0)))) (by kernel_rfl) (by first | (rw [h6, h7, h8] <;> rfl) | (revert h6 h7 h8; simp +contextual))).cast [1, 2, 41] (by kernel_rfl), hw.pk [0, 1]⟩
   have hs := hs.aB 36 h8
   refine pu hs 5 fun a hs => Qc ?_
   exact (hJ2 _ _).2 ⟨(hs.altB (b := false) 41 (bif (x1.f3 != 2) then ((x1.f3 != 3) || ((x1.f3 == 2) && (decide (x1.f5 > 0)))) else ((x1.f3 == 2) && (decide (x1.f5 > 0)))) (by kernel_rfl) (by first | (rw [h6, h7, h8] <;> rfl) | (revert h6 h7 h8; simp +contextual))).cast [1, 2, 41] (by kernel_rfl), hw.pk [0, 1]⟩
  have hs := hs.aB 27 h6
  refine pu hs 6 fun a hs => Qj hs (hw.at_ 0 rfl) 3 fun a hs => pn hs 2 [(1, .bool x2), (2, (pt b1 0)), (32, .bool false), (36, .bool (x1.f3 == 2))] fun a hs => ?_
  rcases boolE (x1.f3 == 2) with h9 | h9
  ·have hs := hs.aB 36 h9
   refine pu hs 1 fun a hs => Qj hs (hw.at_ 0 rfl) 5 fun a hs => pu hs 3 fun a hs => Qc ?_
   exact (hJ2 _ _).2 ⟨(hs.altB (b := (decide (x1.f5 > 0))) 41 (bif (x1.f3 != 2) then ((x1.f3 != 3) || ((x1.f3 == 2) && (decide (x1.f5 > 0)))) else ((x1.f3 == 2) && (decide (x1.f5 > 0)))) (by kernel_rfl) (by first | (rw [h6, h9] <;> rfl) | (revert h6 h9; simp +contextual))).cast [1, 2, 41] (by kernel_rfl), hw.pk [0, 1]⟩
  have hs := hs.aB 36 h9
  refine pu hs 5 fun a hs => Qc ?_
  exact (hJ2 _ _).2 ⟨(hs.altB (b := false) 41 (bif (x1.f3 != 2) then ((x1.f3 != 3) || ((x1.f3 == 2) && (decide (x1.f5 > 0)))) else ((x1.f3 == 2) && (decide (x1.f5 > 0)))) (by kernel_rfl) (by first | (rw [h6, h9] <;> rfl) | (revert h6 h9; simp +contextual))).cast [1, 2, 41] (by kernel_rfl), hw.pk [0, 1]⟩
 intro a w hh
 obtain ⟨hs, hw⟩ := (hJ2 _ _).1 hh
 rcases ifbE hk with ⟨h10, hk⟩ | ⟨h10, hk⟩
 ·refine Qr hs h10 ?_
  refine Qd (Qa (pn hs 1 [(4, .bool false)] fun a hs => ?_))
  refine Qc (Qi ?_)
  obtain rfl := someE hk
  exact qr1 hQ hs ⟨rfl, hw.pk [1]⟩
 refine Qs hs h10 ?_
 refine Qg (Qd ?_)
 obtain ⟨J3, hJ3⟩ := mkJ fun a w => Sees a 57 [(4, .bool (bif x2 then ((x1.f0 == 0) || ((!x2) && (decide (x1.f0 > 0)))) else ((!x2) && (decide (x1.f0 > 0)))))] ∧ St g w [F] ih
 refine Qn J3 ?_ ?_
 ·refine pu hs 2 fun a hs => ?_
  rcases boolE x2 with h11 | h11
  ·have hs := hs.aB 43 h11
   refine pu hs 1 fun a hs => Qj hs (hw.at_ 0 rfl) 0 fun a hs => pu hs 3 fun a hs => ?_
   rcases boolE (x1.f0 == 0) with h12 | h12
   ·have hs := hs.aB 48 h12
    refine pu hs 9 fun a hs => Qc ?_
    exact (hJ3 _ _).2 ⟨(hs.altB (b := true) 4 (bif x2 then ((x1.f0 == 0) || ((!x2) && (decide (x1.f0 > 0)))) else ((!x2) && (decide (x1.f0 > 0)))) (by kernel_rfl) (by first | (rw [h11, h12] <;> rfl) | (revert h11 h12; simp +contextual))).cast [4] (by kernel_rfl), hw.pk [1]⟩
   have hs := hs.aB 48 h12
   refine pu hs 3 fun a hs => ?_
   rcases boolE (!x2) with h13 | h13
   ·have hs := hs.aB 51 h13
    refine pn hs 1 [(48, .bool false), (51, .bool true), (52, (pt b1 0))] fun a hs => Qj hs (hw.at_ 0 rfl) 0 fun a hs => pu hs 4 fun a hs => Qc ?_
    exact (hJ3 _ _).2 ⟨(hs.altB (b := (decide (x1.f0 > 0))) 4 (bif x2 then ((x1.f0 == 0) || ((!x2) && (decide (x1.f0 > 0)))) else ((!x2) && (decide (x1.f0 > 0)))) (by kernel_rfl) (by first | (rw [h11, h12, h13] <;> rfl) | (revert h11 h12 h13; simp +contextual))).cast [4] (by kernel_rfl), hw.pk [1]⟩
   have hs := hs.aB 51 h13
   refine pn hs 6 [(4, .bool false)] fun a hs => Qc ?_
   exact (hJ3 _ _).2 ⟨(hs.altB (b := false) 4 (bif x2 then ((x1.f0 == 0) || ((!x2) && (decide (x1.f0 > 0)))) else ((!x2) && (decide (x1.f0 > 0)))) (by kernel_rfl) (by first | (rw [h11, h12, h13] <;> rfl) | (revert h11 h12 h13; simp +contextual))).cast [4] (by kernel_rfl), hw.pk [1]⟩
  have hs := hs.aB 43 h11
  refine pu hs 8 fun a hs => ?_
  rcases boolE (!x2) with h14 | h14
  ·have hs := hs.aB 51 h14
   refine pu hs 1 fun a hs => Qj hs (hw.at_ 0 rfl) 0 fun a hs => pu hs 4 fun a hs => Qc ?_
   exact (hJ3 _ _).2 ⟨(hs.altB (b := (decide (x1.f0 > 0))) 4 (bif x2 then ((x1.f0 == 0) || ((!x2) && (decide (x1.f0 > 0)))) else ((!x2) && (decide (x1.f0 > 0)))) (by kernel_rfl) (by first | (rw [h11, h14] <;> rfl) | (revert h11 h14; simp +contextual))).cast [4] (by kernel_rfl), hw.pk [1]⟩
  have hs := hs.aB 51 h14
  refine pu hs 6 fun a hs => Qc ?_
  exact (hJ3 _ _).2 ⟨(hs.altB (b := false) 4 (bif x2 then ((x1.f0 == 0) || ((!x2) && (decide (x1.f0 > 0)))) else ((!x2) && (decide (x1.f0 > 0)))) (by kernel_rfl) (by first | (rw [h11, h14] <;> rfl) | (revert h11 h14; simp +contextual))).cast [4] (by kernel_rfl), hw.pk [1]⟩
 intro a w hh
 obtain ⟨hs, hw⟩ := (hJ3 _ _).1 hh
 refine Qi ?_
 obtain rfl := someE hk
 exact qr1 hQ hs ⟨rfl, hw.pk [0]⟩
def QdV (x1 : M48) : Option Bool :=
 some (decide ((x1.f15.length : Int) ≤ 512))
def Qa8 (rec_catenaryref10_fine_l17 : Int → Option (Sum Bool Unit)) (x1 : Int) (x2 : Bool) : Option (Sum Bool Unit) :=
 if x2 = true then some (.inl false)
 else rec_catenaryref10_fine_l17 (IntKind.i64.wrap (x1 + 1))
def catenaryref10_fine_l17 (x1 : M48) : Nat → Int → Option (Sum Bool Unit)
 | 0, _ => none
 | j + 1, x2 =>
  if (decide (x2 < (x1.f15.length : Int))) = true then (
   (ix x1.f15 x2).bind fun x3 =>
   (if (decide (x3.f0 < 0)) = true then some true
    else if (decide (x3.f0 ≥ 512)) = true then some true
    else if (decide (x2 > 0)) = true then (
     (ix x1.f15 (IntKind.i64.wrap (x2 - 1))).bind fun x4 =>
     if (decide (x3.f0 ≤ x4.f0)) = true then some true
     else (Qbb x3.f1).bind fun y1 =>
     if (!y1) = true then some true
     else (Qas x3.f2).bind fun y2 =>
     some (y2 != 0))
    else (Qbb x3.f1).bind fun y3 =>
    if (!y3) = true then some true
    else (Qas x3.f2).bind fun y4 =>
    some (y4 != 0) : Option Bool).bind fun s1 => Qa8 (catenaryref10_fine_l17 x1 j) x2 s1)
  else some (.inr ())
def Qa7 (x1 : M48) : Option Bool :=
 some ((decide ((x1.f16.length : Int) ≤ 4)) && ((x1.f0 != 17) || ((x1.f16.length : Int) == 1)))
def Qcl (rec_catenaryref10_fine_l23 : Int → Option (Sum Bool Unit)) (x1 : Int) (x2 : Bool) : Option (Sum Bool Unit) :=
 if x2 = true then some (.inl false)
 else rec_catenaryref10_fine_l23 (IntKind.i64.wrap (x1 + 1))
def catenaryref10_fine_l23 (x1 : M48) : Nat → Int → Option (Sum Bool Unit)
 | 0, _ => none
 | j + 1, x2 =>
  if (decide (x2 < (x1.f16.length : Int))) = true then (
   ((ix x1.f16 x2).bind fun x3 =>
    (Qbs x3 (x1.f0 == 17)).bind fun y1 =>
    some (!y1) : Option Bool).bind fun s1 => Qcl (catenaryref10_fine_l23 x1 j) x2 s1)
  else some (.inr ())
def Qcu (k : Nat) (x1 : M48) (x2 : Int) : Option Bool :=
 if (x2 == 99) = true then some ((decide (x1.f3 ≥ 0)) && (decide (x1.f3 < 4)))
 else if (x2 == 101) = true then some (decide (x1.f4 > 0))
 else if (x2 == 98) = true then (
  (Qbb x1.f5).bind fun y1 =>
  some y1)
 else if (x2 == 108) = true then some ((decide (x1.f10 ≥ 0)) && (decide (x1.f10 ≤ 512)))
 else if (x2 == 111) = true then some ((decide (x1.f12 ≥ 0)) && (decide (x1.f12 ≤ 255)))
 else if (x2 == 109) = true then (
  (Qas x1.f13).bind fun y2 =>
  some (y2 == 0))
 else if (x2 == 102) = true then (
  (QV k x1.f14).bind fun y3 =>
  some y3)
 else if (x2 == 116) = true then (
  (catenaryref10_fine_l17 x1 k 0 : Option (Sum Bool Unit)).bind fun
   | .inl z => some z
   | .inr _ => QdV x1)
 else if (x2 == 117) = true then (
  (catenaryref10_fine_l23 x1 k 0 : Option (Sum Bool Unit)).bind fun
   | .inl z => some z
   | .inr _ => Qa7 x1)
 else if (x2 == 97) = true then (
  if (x1.f0 == 14) = true then some (decide ((x1.f17.length : Int) ≤ 1024))
  else some (decide ((x1.f17.length : Int) ≤ 2048)))
 else some true
theorem Qg3 {k : Nat} {x1 : M48} {x2 : Int} {c1 c2 c3 c4 : Nat} {p1 p2 p3 p4 : Option Addr} {r : Bool} (hk : Qcu k x1 x2 = some r) {g w : World} {F : Ch} {ih : IH} (h1 : RSl e3 ih [] p1 c1 x1.f14.f2) (h2 : RSl Qcf ih [] p2 c2 x1.f15) (h3 : RSl e96 ih [] p3 c3 x1.f16) (h4 : RSl e5 ih [] p4 c4 x1.f17) (hw : St g w [F] ih) :
  CallsR Tryz.prog 73 #[A48 x1 p1 c1 p2 c2 p3 c3 p4 c4, vu8 x2] w fun v w' => v = .bool r ∧ St g w' [F] ih := by
 refine f_i Tryz.func73 rfl 161 rfl fun a Qf hQ hQn hs => ?_
 refine Qd (Qa (QC hs hw [Qb x1.f0, Qb x1.f1, Qb x1.f2, Qb x1.f3, Qe x1.f4, Qe x1.f5, Qe x1.f6, Qe x1.f7, Qe x1.f8, Qe x1.f9, Qb x1.f10, Qk x1.f11, Qb x1.f12, Qb x1.f13.f0, Qb x1.f13.f1, Qe x1.f13.f2, Qb x1.f13.f3, Qb x1.f14.f0, Qe x1.f14.f1, .slice p1 x1.f14.f2.length c1, .bool x1.f14.f3, Qb x1.f14.f4, .slice p2 x1.f15.length c2, .slice p3 x1.f16.length c3, .slice p4 x1.f17.length c4] 48 (fun b => (pt b 0)) (by kernel_rfl) (fun _ => by kernel_rfl) fun a w b1 hs hw => ?_))
 refine pn hs 1 [(1, vu8 x2), (2, (pt b1 0))] fun a hs => Qc (Qd (Qd (Qa (pn hs 1 [(2, (pt b1 0)), (8, vu8 x2)] fun a hs => ?_))))
 refine Qc (Ql (Qd (Qa (pn hs 2 [(2, (pt b1 0)), (8, vu8 x2), (9, .bool (x2 == 99))] fun a hs => ?_))))
 refine Qc ?_
 rcases ifbE hk with ⟨h5, hk⟩ | ⟨h5, hk⟩
 ·refine Qr hs h5 (Qd ?_)
  obtain ⟨J1, hJ1⟩ := mkJ fun a w => Sees a 161 [(4, .bool ((decide (x1.f3 ≥ 0)) && (decide (x1.f3 < 4))))] ∧ St g w [F] ih
  refine Qn J1 ?_ ?_
  ·refine pu hs 1 fun a hs => Qj hs (hw.at_ 0 rfl) 3 fun a hs => pu hs 2 fun a hs => ?_
   rcases boolE (decide (x1.f3 ≥ 0)) with h6 | h6
   ·have hs := hs.aB 14 h6
    refine pu hs 1 fun a hs => Qj hs (hw.at_ 0 rfl) 3 fun a hs => pn hs 3 [(4, .bool (decide (x1.f3 < 4)))] fun a hs => Qc ?_
    exact (hJ1 _ _).2 ⟨(hs.bB 4 h6 (decide (x1.f3 < 4)) ((decide (x1.f3 ≥ 0)) && (decide (x1.f3 < 4)))).cst, hw.pk [1]⟩
   have hs := hs.aB 14 h6
   refine pu hs 5 fun a hs => Qc ?_
   exact (hJ1 _ _).2 ⟨(hs.bB 4 h6 false ((decide (x1.f3 ≥ 0)) && (decide (x1.f3 < 4)))).cst, hw.pk [1]⟩
  intro a w hh
  obtain ⟨hs, hw⟩ := (hJ1 _ _).1 hh
  refine Qi ?_
  obtain rfl := someE hk
  exact qr1 hQ hs ⟨rfl, hw.pk [0]⟩
 refine Qs hs h5 ?_
 refine Qd (Qa (pn hs 2 [(2, (pt b1 0)), (8, vu8 x2), (19, .bool (x2 == 101))] fun a hs => ?_))
 refine Qc ?_
 rcases ifbE hk with ⟨h7, hk⟩ | ⟨h7, hk⟩
 ·refine Qr hs h7 ?_
  refine Qd (Qa (pu hs 1 fun a hs => ?_))
  refine Qj hs (hw.at_ 0 rfl) 4 fun a hs => pn hs 2 [(4, .bool (decide (x1.f4 > 0)))] fun a hs => Qc (Qi ?_)
  obtain rfl := someE hk
  exact qr1 hQ hs ⟨rfl, hw.pk [1]⟩
 refine Qs hs h7 ?_
 refine Qd (Qa (pn hs 2 [(2, (pt b1 0)), (8, vu8 x2), (24, .bool (x2 == 98))] fun a hs => ?_))
 refine Qc ?_
 rcases ifbE hk with ⟨h8, hk⟩ | ⟨h8, hk⟩
 ·refine Qr hs h8 ?_
  refine Qd (Qa (pu hs 1 fun a hs => ?_))
  refine Qj hs (hw.at_ 0 rfl) 5 fun a hs => ?_
  obtain ⟨y1, h9, hk⟩ := bindE hk
  refine Qv hs (QdQ h9 ((hw.pk [1]).pack 0)) fun a w v hv hs => ?_
  obtain ⟨rfl, hw⟩ := hv
  have hw := hw.unpack 0 rfl
  refine pn hs 1 [(4, .bool y1)] fun a hs => Qc (Qi ?_)
  obtain rfl := someE hk
  exact qr1 hQ hs ⟨rfl, hw.pk [0]⟩
 refine Qs hs h8 ?_
 refine Qd (Qa (pn hs 2 [(2, (pt b1 0)), (8, vu8 x2), (29, .bool (x2 == 108))] fun a hs => ?_))
 refine Qc ?_
 rcases ifbE hk with ⟨h10, hk⟩ | ⟨h10, hk⟩
 ·refine Qr hs h10 (Qd ?_)
  obtain ⟨J2, hJ2⟩ := mkJ fun a w => Sees a 161 [(4, .bool ((decide (x1.f10 ≥ 0)) && (decide (x1.f10 ≤ 512))))] ∧ St g w [F] ih
  refine Qn J2 ?_ ?_
  ·refine pu hs 1 fun a hs => Qj hs (hw.at_ 0 rfl) 10 fun a hs => pu hs 2 fun a hs => ?_
   rcases boolE (decide (x1.f10 ≥ 0)) with h11 | h11
   ·have hs := hs.aB 34 h11
    refine pu hs 1 fun a hs => Qj hs (hw.at_ 0 rfl) 10 fun a hs => pn hs 3 [(4, .bool (decide (x1.f10 ≤ 512)))] fun a hs => Qc ?_
    exact (hJ2 _ _).2 ⟨(hs.bB 4 h11 (decide (x1.f10 ≤ 512)) ((decide (x1.f10 ≥ 0)) && (decide (x1.f10 ≤ 512)))).cst, hw.pk [1]⟩
   have hs := hs.aB 34 h11
   refine pu hs 5 fun a hs => Qc ?_
   exact (hJ2 _ _).2 ⟨(hs.bB 4 h11 false ((decide (x1.f10 ≥ 0)) && (decide (x1.f10 ≤ 512)))).cst, hw.pk [1]⟩
  intro a w hh
  obtain ⟨hs, hw⟩ := (hJ2 _ _).1 hh
  refine Qi ?_
  obtain rfl := someE hk
  exact qr1 hQ hs ⟨rfl, hw.pk [0]⟩
 refine Qs hs h10 ?_
 refine Qd (Qa (pn hs 2 [(2, (pt b1 0)), (8, vu8 x2), (39, .bool (x2 == 111))] fun a hs => ?_))
 refine Qc ?_
 rcases ifbE hk with ⟨h12, hk⟩ | ⟨h12, hk⟩
 ·refine Qr hs h12 (Qd ?_)
  obtain ⟨J3, hJ3⟩ := mkJ fun a w => Sees a 161 [(4, .bool ((decide (x1.f12 ≥ 0)) && (decide (x1.f12 ≤ 255))))] ∧ St g w [F] ih
  refine Qn J3 ?_ ?_
  ·refine pu hs 1 fun a hs => Qj hs (hw.at_ 0 rfl) 12 fun a hs => pu hs 2 fun a hs => ?_
   rcases boolE (decide (x1.f12 ≥ 0)) with h13 | h13
   ·have hs := hs.aB 44 h13
    refine pu hs 1 fun a hs => Qj hs (hw.at_ 0 rfl) 12 fun a hs => pn hs 3 [(4, .bool (decide (x1.f12 ≤ 255)))] fun a hs => Qc ?_
    exact (hJ3 _ _).2 ⟨(hs.bB 4 h13 (decide (x1.f12 ≤ 255)) ((decide (x1.f12 ≥ 0)) && (decide (x1.f12 ≤ 255)))).cst, hw.pk [1]⟩
   have hs := hs.aB 44 h13
   refine pu hs 5 fun a hs => Qc ?_
   exact (hJ3 _ _).2 ⟨(hs.bB 4 h13 false ((decide (x1.f12 ≥ 0)) && (decide (x1.f12 ≤ 255)))).cst, hw.pk [1]⟩
  intro a w hh
  obtain ⟨hs, hw⟩ := (hJ3 _ _).1 hh
  refine Qi ?_
  obtain rfl := someE hk
  exact qr1 hQ hs ⟨rfl, hw.pk [0]⟩
 refine Qs hs h12 ?_
 refine Qd (Qa (pn hs 2 [(2, (pt b1 0)), (8, vu8 x2), (49, .bool (x2 == 109))] fun a hs => ?_))
 refine Qc ?_
 rcases ifbE hk with ⟨h14, hk⟩ | ⟨h14, hk⟩
 ·refine Qr hs h14 ?_
  refine Qd (Qa (pu hs 1 fun a hs => ?_))
  refine Qj hs (hw.at_ 0 rfl) 13 fun a hs => ?_
  obtain ⟨y2, h15, hk⟩ := bindE hk
  refine Qv hs (QcQ h15 ((hw.pk [1]).pack 0)) fun a w v hv hs => ?_
  obtain ⟨rfl, hw⟩ := hv
  have hw := hw.unpack 0 rfl
  refine pn hs 2 [(4, .bool (y2 == 0))] fun a hs => Qc (Qi ?_)
  obtain rfl := someE hk
  exact qr1 hQ hs ⟨rfl, hw.pk [0]⟩
 refine Qs hs h14 ?_
 refine Qd (Qa (pn hs 2 [(2, (pt b1 0)), (8, vu8 x2), (55, .bool (x2 == 102))] fun a hs => ?_))
 refine Qc ?_
 rcases ifbE hk with ⟨h16, hk⟩ | ⟨h16, hk⟩
 ·refine Qr hs h16 ?_
  refine Qd (Qa (pu hs 1 fun a hs => ?_))
  refine Qj hs (hw.at_ 0 rfl) 17 fun a hs => ?_
  obtain ⟨y3, h17, hk⟩ := bindE hk
  refine Qv hs (QaB h17 h1 ((hw.pk [1]).pack 0)) fun a w v hv hs => ?_
  obtain ⟨rfl, hw⟩ := hv
  have hw := hw.unpack 0 rfl
  refine pn hs 1 [(4, .bool y3)] fun a hs => Qc (Qi ?_)
  obtain rfl := someE hk
  exact qr1 hQ hs ⟨rfl, hw.pk [0]⟩
 refine Qs hs h16 ?_
 refine Qd (Qa (pn hs 2 [(2, (pt b1 0)), (8, vu8 x2), (60, .bool (x2 == 116))] fun a hs => ?_))
 refine Qc ?_
 rcases ifbE hk with ⟨h18, hk⟩ | ⟨h18, hk⟩
 ·refine Qr hs h18 ?_
  refine Qd (Qd (Qa (pn hs 1 [(2, (pt b1 0)), (5, Qb 0)] fun a hs => ?_)))
  refine Qc (Ql ?_)
  obtain ⟨y4, hx1, hk⟩ := bindE hk
  obtain ⟨J4, hJ4⟩ := mkJ fun a w => QdV x1 = some r ∧ Sees a 161 [(2, (pt b1 0))] ∧ St g w [k10 b1 x1.f0 x1.f1 x1.f2 x1.f3 x1.f4 x1.f5 x1.f6 x1.f7 x1.f8 x1.f9 x1.f10 x1.f11 x1.f12 x1.f13.f0 x1.f13.f1 x1.f13.f2 x1.f13.f3 x1.f14.f0 x1.f14.f1 p1 x1.f14.f2 c1 x1.f14.f3 x1.f14.f4 p2 x1.f15 c2 p3 x1.f16 c3 p4 x1.f17 c4, F] ih
  obtain ⟨I1, hI1⟩ := QhB fun j a w => ∃ (x3 : Int), catenaryref10_fine_l17 x1 j x3 = some y4 ∧ Sees a 161 [(2, (pt b1 0)), (5, Qb x3)] ∧ St g w [k10 b1 x1.f0 x1.f1 x1.f2 x1.f3 x1.f4 x1.f5 x1.f6 x1.f7 x1.f8 x1.f9 x1.f10 x1.f11 x1.f12 x1.f13.f0 x1.f13.f1 x1.f13.f2 x1.f13.f3 x1.f14.f0 x1.f14.f1 p1 x1.f14.f2 c1 x1.f14.f3 x1.f14.f4 p2 x1.f15 c2 p3 x1.f16 c3 p4 x1.f17 c4, F] ih
  refine Qau 1 J4 ?_ ?_
  ·refine QbO I1 k ((hI1 _ _ _).2 ⟨0, hx1, hs.cst, hw.pk [0, 1]⟩) (fun a w h19 => ?_) fun j a w hh => ?_
   ·obtain ⟨_, h, _⟩ := (hI1 _ _ _).1 h19
    cases h
   obtain ⟨x3, hx1, hs, hw⟩ := (hI1 _ _ _).1 hh
   refine Qd (Qd (Qa (pu hs 2 fun a hs => ?_)))
   refine Qj hs (hw.at_ 0 rfl) 22 fun a hs => pn hs 2 [(2, (pt b1 0)), (5, Qb x3), (66, .bool (decide (x3 < (x1.f15.length : Int))))] fun a hs => Qc ?_
   rcases ifbE hx1 with ⟨h20, hx1⟩ | ⟨h20, hx1⟩
   ·refine Qr hs h20 ?_
    refine Qg (Qd (Ql (Qd (Qa (pu hs 1 fun a hs => ?_)))))
    refine Qj hs (hw.at_ 0 rfl) 22 fun a hs => pu hs 1 fun a hs => ?_
    obtain ⟨x4, h21, hx1⟩ := bindE hx1
    refine QbT hs h2 (by kernel_rfl) (by kernel_rfl) (k := .i64) (by kernel_rfl) 156 (by kernel_rfl) (by kernel_rfl) h21 fun a r727 cs henc at728 hs => ?_
    obtain rfl := henc
    refine Qj hs (at728 _ (hw.vwAll.nil.anti (Le.refl _))) 0 fun a hs => QaN hs hw [Qb 0, Qe 0, Qb 0, Qb 0, Qe 0, Qb 0] 156 (fun b => (pt b 0)) fun a w b2 hs hw => ?_
    refine QE hs hw 0 rfl 0 (v := Qnp x4) fun a w hs hw => ?_
    have hs := hs.cst (e' := [(2, (pt b1 0)), (5, Qb x3), (6, (pt b2 0))])
    refine Qc (Qd ?_)
    have hw := hw.cL [k35 b2 x4.f0 x4.f1 x4.f2.f0 x4.f2.f1 x4.f2.f2 x4.f2.f3, k10 b1 x1.f0 x1.f1 x1.f2 x1.f3 x1.f4 x1.f5 x1.f6 x1.f7 x1.f8 x1.f9 x1.f10 x1.f11 x1.f12 x1.f13.f0 x1.f13.f1 x1.f13.f2 x1.f13.f3 x1.f14.f0 x1.f14.f1 p1 x1.f14.f2 c1 x1.f14.f3 x1.f14.f4 p2 x1.f15 c2 p3 x1.f16 c3 p4 x1.f17 c4, F]
    obtain ⟨S, hD, kS⟩ := mkSXw hw [[], [], []] (K := []) rfl
    obtain ⟨y5, hx2, hx1⟩ := bindE hx1
    obtain ⟨J5, hJ5⟩ := mkJ fun a w => ∃ (x5 : Bool), Qa8 (catenaryref10_fine_l17 x1 j) x3 x5 = some y4 ∧ Sees a 161 [(2, (pt b1 0)), (5, Qb x3), (109, .bool x5)] ∧ St g w [k10 b1 x1.f0 x1.f1 x1.f2 x1.f3 x1.f4 x1.f5 x1.f6 x1.f7 x1.f8 x1.f9 x1.f10 x1.f11 x1.f12 x1.f13.f0 x1.f13.f1 x1.f13.f2 x1.f13.f3 x1.f14.f0 x1.f14.f1 p1 x1.f14.f2 c1 x1.f14.f3 x1.f14.f4 p2 x1.f15 c2 p3 x1.f16 c3 p4 x1.f17 c4, F] ih
    refine Qo (by kernel_rfl) (N := 36) rfl S J5 ?_ ?_
    ·have hw := hw.drew
     have hS : S (bA 36 0) _ := SXn hD (hw.vws [0, 1, 2])
     refine Qp (fuel := 35) kS hs hS [0] fun a hs hS => ?_
     refine Qy kS hs hS 1 rfl (SXb hD 0 rfl) 0 fun a hs hS => ?_
     refine Qp (fuel := 32) kS hs hS [2, 3] fun a hs hS => ?_
     rcases ifbE hx2 with ⟨h22, hx2⟩ | ⟨h22, hx2⟩
     ·have hs := hs.aB 77 h22
      refine Qu kS hs hS fun a hs => ?_
      obtain rfl := someE hx2
      exact (hJ5 _ _).2 ⟨true, hx1, hs.cst, hw.pk [1, 2]⟩
     have hs := hs.aB 77 h22
     refine Qp (fuel := 31) kS hs hS [4] fun a hs hS => ?_
     refine Qy kS hs hS 5 rfl (SXb hD 0 rfl) 0 fun a hs hS => ?_
     refine Qff (fuel := 27) kS hs hS [6, 7, 8] [(2, (pt b1 0)), (5, Qb x3), (6, (pt b2 0)), (82, .bool (decide (x4.f0 ≥ 512)))] fun a hs hS => ?_
     rcases ifbE hx2 with ⟨h23, hx2⟩ | ⟨h23, hx2⟩
     ·have hs := hs.aB 82 h23
      refine Qu kS hs hS fun a hs => ?_
      obtain rfl := someE hx2
      exact (hJ5 _ _).2 ⟨true, hx1, hs.cst, hw.pk [1, 2]⟩
     have hs := hs.aB 82 h23
     refine Qp (fuel := 24) kS hs hS [9, 10, 11] fun a hs hS => ?_
     rcases ifbE hx2 with ⟨h24, hx2⟩ | ⟨h24, hx2⟩
     ·have hs := hs.aB 85 h24
      refine Qp (fuel := 23) kS hs hS [12] fun a hs hS => ?_
      refine Qy kS hs hS 13 rfl (SXb hD 0 rfl) 0 fun a hs hS => ?_
      refine Qp (fuel := 21) kS hs hS [14] fun a hs hS => ?_
      refine Qy kS hs hS 15 rfl (SXb hD 1 rfl) 22 fun a hs hS => ?_
      refine Qff (fuel := 18) kS hs hS [16, 17] [(2, (pt b1 0)), (5, Qb x3), (6, (pt b2 0)), (82, .bool false), (85, .bool true), (87, Qb x4.f0), (89, .slice p2 x1.f15.length c2), (91, Qb (IntKind.i64.wrap (x3 - 1)))] fun a hs hS => ?_
      obtain ⟨x6, h25, hx2⟩ := bindE hx2
      refine Qay (fuel := 17) kS hs hS 18 rfl (by kernel_rfl) h2 (by kernel_rfl) (by kernel_rfl) (k := .i64) (by kernel_rfl) 156 (by kernel_rfl) (by kernel_rfl) h25 fun a r778 cs henc at779 hs hS => ?_
      refine Qgn hS fun hS => ?_
      obtain rfl := henc
      refine Qp (fuel := 16) kS hs hS [19] fun a hs hS => ?_
      refine Qy kS hs hS 20 rfl (fun l w hu hS => at779 w ((Qi8 hD l w hu hS).anti (Le.refl _))) 0 fun a hs hS => ?_
      refine Qp (fuel := 11) kS hs hS [21, 22, 23, 24] fun a hs hS => ?_
      rcases ifbE hx2 with ⟨h26, hx2⟩ | ⟨h26, hx2⟩
      ·have hs := hs.aB 98 h26
       refine Qu kS hs hS fun a hs => ?_
       obtain rfl := someE hx2
       exact (hJ5 _ _).2 ⟨true, hx1, hs.cst, hw.pk [1, 2]⟩
      have hs := hs.aB 98 h26
      refine Qp (fuel := 10) kS hs hS [25] fun a hs hS => ?_
      refine Qy kS hs hS 26 rfl (SXb hD 0 rfl) 1 fun a hs hS => ?_
      refine QF [27] (QH ?_)
      obtain ⟨y6, h27, hx2⟩ := bindE hx2
      refine QaR hs rfl (QdQ h27 ((hw.pk [0, 1, 2]).pack 0)) fun a w v hv hs => ?_
      obtain ⟨rfl, hw⟩ := hv
      have hw := hw.unpack 0 rfl
      refine nx hD ((hw.vws [0, 1, 2]).anti (Le.refl _)) fun hS => ?_
      refine Qff (fuel := 5) kS hs hS [28, 29, 30] [(2, (pt b1 0)), (5, Qb x3), (6, (pt b2 0)), (104, .bool (!y6))] fun a hs hS => ?_
      rcases ifbE hx2 with ⟨h28, hx2⟩ | ⟨h28, hx2⟩
      ·have hs := hs.aB 104 h28
       refine Qu kS hs hS fun a hs => ?_
       obtain rfl := someE hx2
       exact (hJ5 _ _).2 ⟨true, hx1, hs.cst, hw.pk [1, 2]⟩
      have hs := hs.aB 104 h28
      refine Qp (fuel := 4) kS hs hS [31] fun a hs hS => ?_
      refine Qy kS hs hS 32 rfl (SXb hD 0 rfl) 2 fun a hs hS => ?_
      refine QF [33] (QH ?_)
      obtain ⟨y7, h29, hx2⟩ := bindE hx2
      refine QaR hs rfl (QcQ h29 ((hw.pk [0, 1, 2]).pack 0)) fun a w v hv hs => ?_
      obtain ⟨rfl, hw⟩ := hv
      have hw := hw.unpack 0 rfl
      refine nx hD ((hw.vws [0, 1, 2]).anti (Le.refl _)) fun hS => ?_
      refine Qu kS hs hS fun a hs => ?_
      obtain rfl := someE hx2
      exact (hJ5 _ _).2 ⟨(y7 != 0), hx1, hs.cst, hw.pk [1, 2]⟩
     have hs := hs.aB 85 h24
     refine Qp (fuel := 10) kS hs hS [12, 13, 14, 15, 16, 17, 18, 19, 20, 21, 22, 23, 24, 25] fun a hs hS => ?_
     refine Qy kS hs hS 26 rfl (SXb hD 0 rfl) 1 fun a hs hS => ?_
     refine QF [27] (QH ?_)
     obtain ⟨y8, h30, hx2⟩ := bindE hx2
     refine QaR hs rfl (QdQ h30 ((hw.pk [0, 1, 2]).pack 0)) fun a w v hv hs => ?_
     obtain ⟨rfl, hw⟩ := hv
     have hw := hw.unpack 0 rfl
     refine nx hD ((hw.vws [0, 1, 2]).anti (Le.refl _)) fun hS => ?_
     refine Qp (fuel := 5) kS hs hS [28, 29, 30] fun a hs hS => ?_
     rcases ifbE hx2 with ⟨h31, hx2⟩ | ⟨h31, hx2⟩
     ·have hs := hs.aB 104 h31
      refine Qu kS hs hS fun a hs => ?_
      obtain rfl := someE hx2
      exact (hJ5 _ _).2 ⟨true, hx1, hs.cst, hw.pk [1, 2]⟩
     have hs := hs.aB 104 h31
     refine Qp (fuel := 4) kS hs hS [31] fun a hs hS => ?_
     refine Qy kS hs hS 32 rfl (SXb hD 0 rfl) 2 fun a hs hS => ?_
     refine QF [33] (QH ?_)
     obtain ⟨y9, h32, hx2⟩ := bindE hx2
     refine QaR hs rfl (QcQ h32 ((hw.pk [0, 1, 2]).pack 0)) fun a w v hv hs => ?_
     obtain ⟨rfl, hw⟩ := hv
     have hw := hw.unpack 0 rfl
     refine nx hD ((hw.vws [0, 1, 2]).anti (Le.refl _)) fun hS => ?_
     refine Qu kS hs hS fun a hs => ?_
     obtain rfl := someE hx2
     exact (hJ5 _ _).2 ⟨(y9 != 0), hx1, hs.cst, hw.pk [1, 2]⟩
    intro a w hh
    obtain ⟨x5, hx1, hs, hw⟩ := (hJ5 _ _).1 hh
    rcases ifbE hx1 with ⟨h33, hx1⟩ | ⟨h33, hx1⟩
    ·refine Qr hs h33 ?_
     refine Qd (Qa (pn hs 1 [(4, .bool false)] fun a hs => ?_))
     refine Qc (Qi ?_)
     obtain rfl := someE hx1
     obtain rfl := someE hk
     exact qr1 hQ hs ⟨rfl, hw.pk [1]⟩
    refine Qs hs h33 ?_
    refine Qg (Qa (pu hs 3 fun a hs => ?_))
    refine Qc ?_
    exact (hI1 _ _ _).2 ⟨(IntKind.i64.wrap (x3 + 1)), hx1, hs.cst, hw.pk [0, 1]⟩
   refine Qs hs h20 (Qa3 ?_)
   obtain rfl := someE hx1
   exact (hJ4 _ _).2 ⟨hk, hs.cst, hw.pk [0, 1]⟩
  intro a w hh
  obtain ⟨hk, hs, hw⟩ := (hJ4 _ _).1 hh
  refine Qd (Qa (pu hs 1 fun a hs => ?_))
  refine Qj hs (hw.at_ 0 rfl) 22 fun a hs => pn hs 3 [(4, .bool (decide ((x1.f15.length : Int) ≤ 512)))] fun a hs => Qc (Qi ?_)
  obtain rfl := someE hk
  exact qr1 hQ hs ⟨rfl, hw.pk [1]⟩
 refine Qs hs h18 ?_
 refine Qd (Qa (pn hs 2 [(2, (pt b1 0)), (8, vu8 x2), (114, .bool (x2 == 117))] fun a hs => ?_))
 refine Qc ?_
 rcases ifbE hk with ⟨h34, hk⟩ | ⟨h34, hk⟩
 ·refine Qr hs h34 ?_
  refine Qd (Qd (Qa (pn hs 1 [(2, (pt b1 0)), (7, Qb 0)] fun a hs => ?_)))
  refine Qc (Ql ?_)
  obtain ⟨y10, hx3, hk⟩ := bindE hk
  obtain ⟨J6, hJ6⟩ := mkJ fun a w => Qa7 x1 = some r ∧ Sees a 161 [(2, (pt b1 0))] ∧ St g w [k10 b1 x1.f0 x1.f1 x1.f2 x1.f3 x1.f4 x1.f5 x1.f6 x1.f7 x1.f8 x1.f9 x1.f10 x1.f11 x1.f12 x1.f13.f0 x1.f13.f1 x1.f13.f2 x1.f13.f3 x1.f14.f0 x1.f14.f1 p1 x1.f14.f2 c1 x1.f14.f3 x1.f14.f4 p2 x1.f15 c2 p3 x1.f16 c3 p4 x1.f17 c4, F] ih
  obtain ⟨I2, hI2⟩ := QhB fun j a w => ∃ (x7 : Int), catenaryref10_fine_l23 x1 j x7 = some y10 ∧ Sees a 161 [(2, (pt b1 0)), (7, Qb x7)] ∧ St g w [k10 b1 x1.f0 x1.f1 x1.f2 x1.f3 x1.f4 x1.f5 x1.f6 x1.f7 x1.f8 x1.f9 x1.f10 x1.f11 x1.f12 x1.f13.f0 x1.f13.f1 x1.f13.f2 x1.f13.f3 x1.f14.f0 x1.f14.f1 p1 x1.f14.f2 c1 x1.f14.f3 x1.f14.f4 p2 x1.f15 c2 p3 x1.f16 c3 p4 x1.f17 c4, F] ih
  refine Qau 3 J6 ?_ ?_
  ·refine QbO I2 k ((hI2 _ _ _).2 ⟨0, hx3, hs.cst, hw.pk [0, 1]⟩) (fun a w h19 => ?_) fun j a w hh => ?_
   ·obtain ⟨_, h, _⟩ := (hI2 _ _ _).1 h19
    cases h
   obtain ⟨x7, hx3, hs, hw⟩ := (hI2 _ _ _).1 hh
   refine Qd (Qd (Qa (pu hs 2 fun a hs => ?_)))
   refine Qj hs (hw.at_ 0 rfl) 23 fun a hs => pn hs 2 [(2, (pt b1 0)), (7, Qb x7), (120, .bool (decide (x7 < (x1.f16.length : Int))))] fun a hs => Qc ?_
   rcases ifbE hx3 with ⟨h35, hx3⟩ | ⟨h35, hx3⟩
   ·refine Qr hs h35 ?_
    refine Qg (Qd (Ql (Qd ?_)))
    obtain ⟨S, hD, kS⟩ := mkSXw hw [[], []] (K := []) rfl
    obtain ⟨y11, hx4, hx3⟩ := bindE hx3
    obtain ⟨J7, hJ7⟩ := mkJ fun a w => ∃ (x8 : Bool), Qcl (catenaryref10_fine_l23 x1 j) x7 x8 = some y10 ∧ Sees a 161 [(2, (pt b1 0)), (7, Qb x7), (132, .bool x8)] ∧ St g w [k10 b1 x1.f0 x1.f1 x1.f2 x1.f3 x1.f4 x1.f5 x1.f6 x1.f7 x1.f8 x1.f9 x1.f10 x1.f11 x1.f12 x1.f13.f0 x1.f13.f1 x1.f13.f2 x1.f13.f3 x1.f14.f0 x1.f14.f1 p1 x1.f14.f2 c1 x1.f14.f3 x1.f14.f4 p2 x1.f15 c2 p3 x1.f16 c3 p4 x1.f17 c4, F] ih
    refine Qo (by kernel_rfl) (N := 10) rfl S J7 ?_ ?_
    ·have hw := hw.drew
     have hS : S (bA 10 0) _ := SXn hD (hw.vws [0, 1])
     refine Qp (fuel := 9) kS hs hS [0] fun a hs hS => ?_
     refine Qy kS hs hS 1 rfl (SXb hD 0 rfl) 23 fun a hs hS => ?_
     refine Qp (fuel := 7) kS hs hS [2] fun a hs hS => ?_
     obtain ⟨x9, h36, hx4⟩ := bindE hx4
     refine Qay (fuel := 6) kS hs hS 3 rfl (by kernel_rfl) h3 (by kernel_rfl) (by kernel_rfl) (k := .i64) (by kernel_rfl) 96 (by kernel_rfl) (by kernel_rfl) h36 fun a r940 cs henc at941 hs hS => ?_
     refine Qgn hS fun hS => ?_
     obtain ⟨p5, c5, rfl, h37⟩ := henc
     refine Qy kS hs hS 4 rfl (fun l w hu hS => at941 w ((Qi8 hD l w hu hS).anti (Le.refl _))) 0 fun a hs hS => ?_
     refine Qp (fuel := 4) kS hs hS [5] fun a hs hS => ?_
     refine Qy kS hs hS 6 rfl (SXb hD 0 rfl) 0 fun a hs hS => ?_
     refine Qff (fuel := 2) kS hs hS [7] [(2, (pt b1 0)), (7, Qb x7), (127, A96 x9 p5 c5), (130, .bool (x1.f0 == 17))] fun a hs hS => ?_
     refine QF [8] (QH ?_)
     obtain ⟨y12, h38, hx4⟩ := bindE hx4
     refine QaR hs rfl (Qgs h38 h37 ((hw.pk [0, 1]).pack 0)) fun a w v hv hs => ?_
     obtain ⟨rfl, hw⟩ := hv
     have hw := hw.unpack 0 rfl
     refine nx hD ((hw.vws [0, 1]).anti (Le.refl _)) fun hS => ?_
     refine Qu kS hs hS fun a hs => ?_
     obtain rfl := someE hx4
     exact (hJ7 _ _).2 ⟨(!y12), hx3, hs.cst, hw.pk [0, 1]⟩
    intro a w hh
    obtain ⟨x8, hx3, hs, hw⟩ := (hJ7 _ _).1 hh
    rcases ifbE hx3 with ⟨h39, hx3⟩ | ⟨h39, hx3⟩
    ·refine Qr hs h39 ?_
     refine Qd (Qa (pn hs 1 [(4, .bool false)] fun a hs => ?_))
     refine Qc (Qi ?_)
     obtain rfl := someE hx3
     obtain rfl := someE hk
     exact qr1 hQ hs ⟨rfl, hw.pk [1]⟩
    refine Qs hs h39 ?_
    refine Qg (Qa (pu hs 3 fun a hs => ?_))
    refine Qc ?_
    exact (hI2 _ _ _).2 ⟨(IntKind.i64.wrap (x7 + 1)), hx3, hs.cst, hw.pk [0, 1]⟩
   refine Qs hs h35 (Qa3 ?_)
   obtain rfl := someE hx3
   exact (hJ6 _ _).2 ⟨hk, hs.cst, hw.pk [0, 1]⟩
  intro a w hh
  obtain ⟨hk, hs, hw⟩ := (hJ6 _ _).1 hh
  refine Qd ?_
  obtain ⟨J8, hJ8⟩ := mkJ fun a w => Sees a 161 [(4, .bool ((decide ((x1.f16.length : Int) ≤ 4)) && ((x1.f0 != 17) || ((x1.f16.length : Int) == 1))))] ∧ St g w [F] ih
  refine Qn J8 ?_ ?_
  ·refine pu hs 1 fun a hs => Qj hs (hw.at_ 0 rfl) 23 fun a hs => pu hs 3 fun a hs => ?_
   rcases boolE (decide ((x1.f16.length : Int) ≤ 4)) with h40 | h40
   ·have hs := hs.aB 137 h40
    refine pu hs 1 fun a hs => Qj hs (hw.at_ 0 rfl) 0 fun a hs => pn hs 2 [(2, (pt b1 0)), (137, .bool true), (141, .bool (x1.f0 != 17))] fun a hs => ?_
    rcases boolE (x1.f0 != 17) with h41 | h41
    ·have hs := hs.aB 141 h41
     refine pu hs 7 fun a hs => Qc ?_
     exact (hJ8 _ _).2 ⟨(hs.altB (b := true) 4 ((decide ((x1.f16.length : Int) ≤ 4)) && ((x1.f0 != 17) || ((x1.f16.length : Int) == 1))) (by kernel_rfl) (by first | (rw [h40, h41] <;> rfl) | (revert h40 h41; simp +contextual))).cast [4] (by kernel_rfl), hw.pk [1]⟩
    have hs := hs.aB 141 h41
    refine pu hs 1 fun a hs => Qj hs (hw.at_ 0 rfl) 23 fun a hs => pu hs 5 fun a hs => Qc ?_
    exact (hJ8 _ _).2 ⟨(hs.altB (b := ((x1.f16.length : Int) == 1)) 4 ((decide ((x1.f16.length : Int) ≤ 4)) && ((x1.f0 != 17) || ((x1.f16.length : Int) == 1))) (by kernel_rfl) (by first | (rw [h40, h41] <;> rfl) | (revert h40 h41; simp +contextual))).cast [4] (by kernel_rfl), hw.pk [1]⟩
   have hs := hs.aB 137 h40
   refine pu hs 11 fun a hs => Qc ?_
   exact (hJ8 _ _).2 ⟨(hs.bB 4 h40 false ((decide ((x1.f16.length : Int) ≤ 4)) && ((x1.f0 != 17) || ((x1.f16.length : Int) == 1)))).cst, hw.pk [1]⟩
  intro a w hh
  obtain ⟨hs, hw⟩ := (hJ8 _ _).1 hh
  refine Qi ?_
  obtain rfl := someE hk
  exact qr1 hQ hs ⟨rfl, hw.pk [0]⟩
 refine Qs hs h34 ?_
 refine Qd (Qa (pn hs 2 [(2, (pt b1 0)), (148, .bool (x2 == 97))] fun a hs => ?_))
 refine Qc ?_
 rcases ifbE hk with ⟨h42, hk⟩ | ⟨h42, hk⟩
 ·refine Qr hs h42 ?_
  refine Qd (Qd (Qa (pu hs 1 fun a hs => ?_)))
  refine Qj hs (hw.at_ 0 rfl) 0 fun a hs => pn hs 1 [(2, (pt b1 0)), (152, .bool (x1.f0 == 14))] fun a hs => Qc ?_
  rcases ifbE hk with ⟨h43, hk⟩ | ⟨h43, hk⟩
  ·refine Qr hs h43 ?_
   refine Qd (Qa (pu hs 1 fun a hs => ?_))
   refine Qj hs (hw.at_ 0 rfl) 24 fun a hs => pn hs 3 [(4, .bool (decide ((x1.f17.length : Int) ≤ 1024)))] fun a hs => Qc (Qi ?_)
   obtain rfl := someE hk
   exact qr1 hQ hs ⟨rfl, hw.pk [1]⟩
  refine Qs hs h43 ?_
  refine Qg (Qd (Qa (pu hs 1 fun a hs => ?_)))
  refine Qj hs (hw.at_ 0 rfl) 24 fun a hs => pn hs 3 [(4, .bool (decide ((x1.f17.length : Int) ≤ 2048)))] fun a hs => Qc (Qi ?_)
  obtain rfl := someE hk
  exact qr1 hQ hs ⟨rfl, hw.pk [1]⟩
 refine Qs hs h42 ?_
 refine Qg (Qd (Qa (pn hs 1 [(4, .bool true)] fun a hs => ?_)))
 refine Qc (Qi ?_)
 obtain rfl := someE hk
 exact qr1 hQ hs ⟨rfl, hw.pk [1]⟩
def Qbf (x1 : Int) : Option Bool :=
 some ((decide (x1 ≥ 1)) && (decide (x1 ≤ 24)))
theorem QeE {x1 : Int} {r : Bool} (hk : Qbf x1 = some r) {g w : World} {F : Ch} {ih : IH} (hw : St g w [F] ih) :
  CallsR Tryz.prog 44 #[Qb x1] w fun v w' => v = .bool r ∧ St g w' [F] ih := by
 refine f_i Tryz.func44 rfl 9 rfl fun a Qf hQ hQn hs => ?_
 refine Qd (Qa (pn hs 1 [(0, Qb x1)] fun a hs => ?_))
 refine Qc (Qd ?_)
 obtain ⟨J1, hJ1⟩ := mkJ fun a w => Sees a 9 [(2, .bool ((decide (x1 ≥ 1)) && (decide (x1 ≤ 24))))] ∧ St g w [F] ih
 refine Qn J1 ?_ ?_
 ·refine pu hs 3 fun a hs => ?_
  rcases boolE (decide (x1 ≥ 1)) with h1 | h1
  ·have hs := hs.aB 5 h1
   refine pu hs 4 fun a hs => Qc ?_
   exact (hJ1 _ _).2 ⟨(hs.bB 2 h1 (decide (x1 ≤ 24)) ((decide (x1 ≥ 1)) && (decide (x1 ≤ 24)))).cst, hw.pk [0]⟩
  have hs := hs.aB 5 h1
  refine pu hs 4 fun a hs => Qc ?_
  exact (hJ1 _ _).2 ⟨(hs.bB 2 h1 false ((decide (x1 ≥ 1)) && (decide (x1 ≤ 24)))).cst, hw.pk [0]⟩
 intro a w hh
 obtain ⟨hs, hw⟩ := (hJ1 _ _).1 hh
 refine Qi ?_
 obtain rfl := someE hk
 exact qr1 hQ hs ⟨rfl, hw.pk [0]⟩
def Qc2 (x1 : Int) : Option Bool :=
 some ((decide (x1 ≥ 101)) && (decide (x1 ≤ 105)))
theorem Qgu {x1 : Int} {r : Bool} (hk : Qc2 x1 = some r) {g w : World} {F : Ch} {ih : IH} (hw : St g w [F] ih) :
  CallsR Tryz.prog 119 #[Qb x1] w fun v w' => v = .bool r ∧ St g w' [F] ih := by
 refine f_i Tryz.func119 rfl 9 rfl fun a Qf hQ hQn hs => ?_
 refine Qd (Qa (pn hs 1 [(0, Qb x1)] fun a hs => ?_))
 refine Qc (Qd ?_)
 obtain ⟨J1, hJ1⟩ := mkJ fun a w => Sees a 9 [(2, .bool ((decide (x1 ≥ 101)) && (decide (x1 ≤ 105))))] ∧ St g w [F] ih
 refine Qn J1 ?_ ?_
 ·refine pu hs 3 fun a hs => ?_
  rcases boolE (decide (x1 ≥ 101)) with h1 | h1
  ·have hs := hs.aB 5 h1
   refine pu hs 4 fun a hs => Qc ?_
   exact (hJ1 _ _).2 ⟨(hs.bB 2 h1 (decide (x1 ≤ 105)) ((decide (x1 ≥ 101)) && (decide (x1 ≤ 105)))).cst, hw.pk [0]⟩
  have hs := hs.aB 5 h1
  refine pu hs 4 fun a hs => Qc ?_
  exact (hJ1 _ _).2 ⟨(hs.bB 2 h1 false ((decide (x1 ≥ 101)) && (decide (x1 ≤ 105)))).cst, hw.pk [0]⟩
 intro a w hh
 obtain ⟨hs, hw⟩ := (hJ1 _ _).1 hh
 refine Qi ?_
 obtain rfl := someE hk
 exact qr1 hQ hs ⟨rfl, hw.pk [0]⟩
def Qc3 (x1 : Int) : Option Bool :=
 some ((decide (x1 ≥ 201)) && (decide (x1 ≤ 206)))
theorem Qgv {x1 : Int} {r : Bool} (hk : Qc3 x1 = some r) {g w : World} {F : Ch} {ih : IH} (hw : St g w [F] ih) :
  CallsR Tryz.prog 120 #[Qb x1] w fun v w' => v = .bool r ∧ St g w' [F] ih := by
 refine f_i Tryz.func120 rfl 9 rfl fun a Qf hQ hQn hs => ?_
 refine Qd (Qa (pn hs 1 [(0, Qb x1)] fun a hs => ?_))
 refine Qc (Qd ?_)
 obtain ⟨J1, hJ1⟩ := mkJ fun a w => Sees a 9 [(2, .bool ((decide (x1 ≥ 201)) && (decide (x1 ≤ 206))))] ∧ St g w [F] ih
 refine Qn J1 ?_ ?_
 ·refine pu hs 3 fun a hs => ?_
  rcases boolE (decide (x1 ≥ 201)) with h1 | h1
  ·have hs := hs.aB 5 h1
   refine pu hs 4 fun a hs => Qc ?_
   exact (hJ1 _ _).2 ⟨(hs.bB 2 h1 (decide (x1 ≤ 206)) ((decide (x1 ≥ 201)) && (decide (x1 ≤ 206)))).cst, hw.pk [0]⟩
  have hs := hs.aB 5 h1
  refine pu hs 4 fun a hs => Qc ?_
  exact (hJ1 _ _).2 ⟨(hs.bB 2 h1 false ((decide (x1 ≥ 201)) && (decide (x1 ≤ 206)))).cst, hw.pk [0]⟩
 intro a w hh
 obtain ⟨hs, hw⟩ := (hJ1 _ _).1 hh
 refine Qi ?_
 obtain rfl := someE hk
 exact qr1 hQ hs ⟨rfl, hw.pk [0]⟩
def QbB (x1 : Bool) : Option Bool :=
 some x1
def Qaz (x1 : Int) : Option Bool :=
 ((Qbf x1).bind fun y1 =>
  if y1 = true then some true
  else (Qc2 x1).bind fun y2 =>
  if y2 = true then some true
  else (Qc3 x1).bind fun y3 =>
  some y3 : Option Bool).bind fun s1 => QbB s1
theorem QdM {x1 : Int} {r : Bool} (hk : Qaz x1 = some r) {g w : World} {F : Ch} {ih : IH} (hw : St g w [F] ih) :
  CallsR Tryz.prog 74 #[Qb x1] w fun v w' => v = .bool r ∧ St g w' [F] ih := by
 refine f_i Tryz.func74 rfl 13 rfl fun a Qf hQ hQn hs => ?_
 refine Qd (Qa (pn hs 1 [(0, Qb x1)] fun a hs => ?_))
 refine Qc (Qd ?_)
 obtain ⟨y1, hx1, hk⟩ := bindE hk
 obtain ⟨J1, hJ1⟩ := mkJ fun a w => ∃ (x2 : Bool), QbB x2 = some r ∧ Sees a 13 [(2, .bool x2)] ∧ St g w [F] ih
 refine Qn J1 ?_ ?_
 ·refine pu hs 1 fun a hs => ?_
  obtain ⟨y2, h1, hx1⟩ := bindE hx1
  refine Qv hs (QeE h1 ((hw.pk [0]).pack 0)) fun a w v hv hs => ?_
  obtain ⟨rfl, hw⟩ := hv
  have hw := hw.unpack 0 rfl
  refine pu hs 1 fun a hs => ?_
  rcases ifbE hx1 with ⟨h2, hx1⟩ | ⟨h2, hx1⟩
  ·have hs := hs.aB 5 h2
   refine pu hs 8 fun a hs => Qc ?_
   obtain rfl := someE hx1
   exact (hJ1 _ _).2 ⟨true, hk, hs.cst, hw.pk [0]⟩
  have hs := hs.aB 5 h2
  refine pu hs 1 fun a hs => ?_
  obtain ⟨y3, h3, hx1⟩ := bindE hx1
  refine Qv hs (Qgu h3 ((hw.pk [0]).pack 0)) fun a w v hv hs => ?_
  obtain ⟨rfl, hw⟩ := hv
  have hw := hw.unpack 0 rfl
  refine pu hs 2 fun a hs => ?_
  rcases ifbE hx1 with ⟨h4, hx1⟩ | ⟨h4, hx1⟩
  ·have hs := hs.aB 9 h4
   refine pu hs 4 fun a hs => ?_
   have hw := hw.cL [F]
   refine Qc ?_
   obtain rfl := someE hx1
   exact (hJ1 _ _).2 ⟨true, hk, hs.cst, hw.pk [0]⟩
  have hs := hs.aB 9 h4
  have hw := hw.cL [F]
  refine pu hs 1 fun a hs => ?_
  obtain ⟨y4, h5, hx1⟩ := bindE hx1
  refine Qv hs (Qgv h5 ((hw.pk [0]).pack 0)) fun a w v hv hs => ?_
  obtain ⟨rfl, hw⟩ := hv
  have hw := hw.unpack 0 rfl
  refine pn hs 2 [(2, .bool y4)] fun a hs => Qc ?_
  obtain rfl := someE hx1
  exact (hJ1 _ _).2 ⟨y4, hk, hs.cst, hw.pk [0]⟩
 intro a w hh
 obtain ⟨x2, hk, hs, hw⟩ := (hJ1 _ _).1 hh
 refine Qi ?_
 obtain rfl := someE hk
 exact qr1 hQ hs ⟨rfl, hw.pk [0]⟩
def QbY (x1 : M48) (x2 x3 x4 x5 x6 x7 x8 x9 x10 x11 x12 x13 x14 x15 x16 x17 : Int) (x18 : List Int) (x19 : Bool) (x20 : Int) (x21 : List M156) (x22 : List M96) (x23 : List Int) : Option M48 :=
 some (M48.mk x1.f0 x1.f1 x1.f2 x2 x3 x4 x5 x6 x7 x8 x9 x10 x11 (M41.mk x12 x13 x14 x15) (M44.mk x16 x17 x18 x19 x20) x21 x22 x23)
def Qbt (x1 x2 : M48) (x3 : Int) : Option M48 :=
 (if (x3 == 99) = true then some (x2.f3, x1.f4, x1.f5, x1.f6, x1.f7, x1.f8, x1.f9, x1.f10, x1.f11, x1.f12, x1.f13.f0, x1.f13.f1, x1.f13.f2, x1.f13.f3, x1.f14.f0, x1.f14.f1, x1.f14.f2, x1.f14.f3, x1.f14.f4, x1.f15, x1.f16, x1.f17)
  else if (x3 == 101) = true then some (x1.f3, x2.f4, x1.f5, x1.f6, x1.f7, x1.f8, x1.f9, x1.f10, x1.f11, x1.f12, x1.f13.f0, x1.f13.f1, x1.f13.f2, x1.f13.f3, x1.f14.f0, x1.f14.f1, x1.f14.f2, x1.f14.f3, x1.f14.f4, x1.f15, x1.f16, x1.f17)
  else if (x3 == 98) = true then some (x1.f3, x1.f4, x2.f5, x1.f6, x1.f7, x1.f8, x1.f9, x1.f10, x1.f11, x1.f12, x1.f13.f0, x1.f13.f1, x1.f13.f2, x1.f13.f3, x1.f14.f0, x1.f14.f1, x1.f14.f2, x1.f14.f3, x1.f14.f4, x1.f15, x1.f16, x1.f17)
  else if (x3 == 115) = true then some (x1.f3, x1.f4, x1.f5, x1.f6, x2.f7, x1.f8, x1.f9, x1.f10, x1.f11, x1.f12, x1.f13.f0, x1.f13.f1, x1.f13.f2, x1.f13.f3, x1.f14.f0, x1.f14.f1, x1.f14.f2, x1.f14.f3, x1.f14.f4, x1.f15, x1.f16, x1.f17)
  else if (x3 == 100) = true then some (x1.f3, x1.f4, x1.f5, x1.f6, x1.f7, x2.f8, x1.f9, x1.f10, x1.f11, x1.f12, x1.f13.f0, x1.f13.f1, x1.f13.f2, x1.f13.f3, x1.f14.f0, x1.f14.f1, x1.f14.f2, x1.f14.f3, x1.f14.f4, x1.f15, x1.f16, x1.f17)
  else if (x3 == 108) = true then some (x1.f3, x1.f4, x1.f5, x1.f6, x1.f7, x1.f8, x1.f9, x2.f10, x1.f11, x1.f12, x1.f13.f0, x1.f13.f1, x1.f13.f2, x1.f13.f3, x1.f14.f0, x1.f14.f1, x1.f14.f2, x1.f14.f3, x1.f14.f4, x1.f15, x1.f16, x1.f17)
  else if (x3 == 110) = true then some (x1.f3, x1.f4, x1.f5, x2.f6, x1.f7, x1.f8, x1.f9, x1.f10, x1.f11, x1.f12, x1.f13.f0, x1.f13.f1, x1.f13.f2, x1.f13.f3, x1.f14.f0, x1.f14.f1, x1.f14.f2, x1.f14.f3, x1.f14.f4, x1.f15, x1.f16, x1.f17)
  else if (x3 == 111) = true then some (x1.f3, x1.f4, x1.f5, x1.f6, x1.f7, x1.f8, x1.f9, x1.f10, x1.f11, x2.f12, x1.f13.f0, x1.f13.f1, x1.f13.f2, x1.f13.f3, x1.f14.f0, x1.f14.f1, x1.f14.f2, x1.f14.f3, x1.f14.f4, x1.f15, x1.f16, x1.f17)
  else if (x3 == 107) = true then some (x1.f3, x1.f4, x1.f5, x1.f6, x1.f7, x1.f8, x1.f9, x1.f10, x2.f11, x1.f12, x1.f13.f0, x1.f13.f1, x1.f13.f2, x1.f13.f3, x1.f14.f0, x1.f14.f1, x1.f14.f2, x1.f14.f3, x1.f14.f4, x1.f15, x1.f16, x1.f17)
  else if (x3 == 118) = true then some (x1.f3, x1.f4, x1.f5, x1.f6, x1.f7, x1.f8, x2.f9, x1.f10, x1.f11, x1.f12, x1.f13.f0, x1.f13.f1, x1.f13.f2, x1.f13.f3, x1.f14.f0, x1.f14.f1, x1.f14.f2, x1.f14.f3, x1.f14.f4, x1.f15, x1.f16, x1.f17)
  else if (x3 == 109) = true then some (x1.f3, x1.f4, x1.f5, x1.f6, x1.f7, x1.f8, x1.f9, x1.f10, x1.f11, x1.f12, x2.f13.f0, x2.f13.f1, x2.f13.f2, x2.f13.f3, x1.f14.f0, x1.f14.f1, x1.f14.f2, x1.f14.f3, x1.f14.f4, x1.f15, x1.f16, x1.f17)
  else if (x3 == 102) = true then some (x1.f3, x1.f4, x1.f5, x1.f6, x1.f7, x1.f8, x1.f9, x1.f10, x1.f11, x1.f12, x1.f13.f0, x1.f13.f1, x1.f13.f2, x1.f13.f3, x2.f14.f0, x2.f14.f1, x2.f14.f2, x2.f14.f3, x2.f14.f4, x1.f15, x1.f16, x1.f17)
  else if (x3 == 116) = true then some (x1.f3, x1.f4, x1.f5, x1.f6, x1.f7, x1.f8, x1.f9, x1.f10, x1.f11, x1.f12, x1.f13.f0, x1.f13.f1, x1.f13.f2, x1.f13.f3, x1.f14.f0, x1.f14.f1, x1.f14.f2, x1.f14.f3, x1.f14.f4, x2.f15, x1.f16, x1.f17)
  else if (x3 == 117) = true then some (x1.f3, x1.f4, x1.f5, x1.f6, x1.f7, x1.f8, x1.f9, x1.f10, x1.f11, x1.f12, x1.f13.f0, x1.f13.f1, x1.f13.f2, x1.f13.f3, x1.f14.f0, x1.f14.f1, x1.f14.f2, x1.f14.f3, x1.f14.f4, x1.f15, x2.f16, x1.f17)
  else some (x1.f3, x1.f4, x1.f5, x1.f6, x1.f7, x1.f8, x1.f9, x1.f10, x1.f11, x1.f12, x1.f13.f0, x1.f13.f1, x1.f13.f2, x1.f13.f3, x1.f14.f0, x1.f14.f1, x1.f14.f2, x1.f14.f3, x1.f14.f4, x1.f15, x1.f16, x2.f17) : Option (Int × Int × Int × Int × Int × Int × Int × Int × Int × Int × Int × Int × Int × Int × Int × Int × (List Int) × Bool × Int × (List M156) × (List M96) × (List Int))).bind fun s1 => QbY x1 s1.1 s1.2.1 s1.2.2.1 s1.2.2.2.1 s1.2.2.2.2.1 s1.2.2.2.2.2.1 s1.2.2.2.2.2.2.1 s1.2.2.2.2.2.2.2.1 s1.2.2.2.2.2.2.2.2.1 s1.2.2.2.2.2.2.2.2.2.1 s1.2.2.2.2.2.2.2.2.2.2.1 s1.2.2.2.2.2.2.2.2.2.2.2.1 s1.2.2.2.2.2.2.2.2.2.2.2.2.1 s1.2.2.2.2.2.2.2.2.2.2.2.2.2.1 s1.2.2.2.2.2.2.2.2.2.2.2.2.2.2.1 s1.2.2.2.2.2.2.2.2.2.2.2.2.2.2.2.1 s1.2.2.2.2.2.2.2.2.2.2.2.2.2.2.2.2.1 s1.2.2.2.2.2.2.2.2.2.2.2.2.2.2.2.2.2.1 s1.2.2.2.2.2.2.2.2.2.2.2.2.2.2.2.2.2.2.1 s1.2.2.2.2.2.2.2.2.2.2.2.2.2.2.2.2.2.2.2.1 s1.2.2.2.2.2.2.2.2.2.2.2.2.2.2.2.2.2.2.2.2.1 s1.2.2.2.2.2.2.2.2.2.2.2.2.2.2.2.2.2.2.2.2.2
theorem Qgt {x1 x2 : M48} {x3 : Int} {c1 c2 c3 c4 c5 c6 c7 c8 : Nat} {p1 p2 p3 p4 p5 p6 p7 p8 : Option Addr} {r : M48} (hk : Qbt x1 x2 x3 = some r) {g w : World} {F : Ch} {ih : IH} (h1 : RSl e3 ih [] p1 c1 x1.f14.f2) (h2 : RSl Qcf ih [] p2 c2 x1.f15) (h3 : RSl e96 ih [] p3 c3 x1.f16) (h4 : RSl e5 ih [] p4 c4 x1.f17) (h5 : RSl e3 ih [] p5 c5 x2.f14.f2) (h6 : RSl Qcf ih [] p6 c6 x2.f15) (h7 : RSl e96 ih [] p7 c7 x2.f16) (h8 : RSl e5 ih [] p8 c8 x2.f17) (hw : St g w [F] ih) :
  CallsR Tryz.prog 121 #[A48 x1 p1 c1 p2 c2 p3 c3 p4 c4, A48 x2 p5 c5 p6 c6 p7 c7 p8 c8, vu8 x3] w fun v w' => ∃ (p9 : Option Addr) (c9 : Nat) (p10 : Option Addr) (c10 : Nat) (p11 : Option Addr) (c11 : Nat) (p12 : Option Addr) (c12 : Nat), v = .agg #[Qb r.f0, Qb r.f1, Qb r.f2, Qb r.f3, Qe r.f4, Qe r.f5, Qe r.f6, Qe r.f7, Qe r.f8, Qe r.f9, Qb r.f10, Qk r.f11, Qb r.f12, Qb r.f13.f0, Qb r.f13.f1, Qe r.f13.f2, Qb r.f13.f3, Qb r.f14.f0, Qe r.f14.f1, .slice p9 r.f14.f2.length c9, .bool r.f14.f3, Qb r.f14.f4, .slice p10 r.f15.length c10, .slice p11 r.f16.length c11, .slice p12 r.f17.length c12] ∧ St g w' [F] ih ∧ RSl e3 ih [] p9 c9 r.f14.f2 ∧ RSl Qcf ih [] p10 c10 r.f15 ∧ RSl e96 ih [] p11 c11 r.f16 ∧ RSl e5 ih [] p12 c12 r.f17 := by
 refine f_i Tryz.func121 rfl 82 rfl fun a Qf hQ hQn hs => ?_
 refine Qd (Qa (QC hs hw [Qb x1.f0, Qb x1.f1, Qb x1.f2, Qb x1.f3, Qe x1.f4, Qe x1.f5, Qe x1.f6, Qe x1.f7, Qe x1.f8, Qe x1.f9, Qb x1.f10, Qk x1.f11, Qb x1.f12, Qb x1.f13.f0, Qb x1.f13.f1, Qe x1.f13.f2, Qb x1.f13.f3, Qb x1.f14.f0, Qe x1.f14.f1, .slice p1 x1.f14.f2.length c1, .bool x1.f14.f3, Qb x1.f14.f4, .slice p2 x1.f15.length c2, .slice p3 x1.f16.length c3, .slice p4 x1.f17.length c4] 48 (fun b => (pt b 0)) (by kernel_rfl) (fun _ => by kernel_rfl) fun a w b1 hs hw => ?_))
 refine QaN hs hw [Qb x2.f0, Qb x2.f1, Qb x2.f2, Qb x2.f3, Qe x2.f4, Qe x2.f5, Qe x2.f6, Qe x2.f7, Qe x2.f8, Qe x2.f9, Qb x2.f10, Qk x2.f11, Qb x2.f12, Qb x2.f13.f0, Qb x2.f13.f1, Qe x2.f13.f2, Qb x2.f13.f3, Qb x2.f14.f0, Qe x2.f14.f1, .slice p5 x2.f14.f2.length c5, .bool x2.f14.f3, Qb x2.f14.f4, .slice p6 x2.f15.length c6, .slice p7 x2.f16.length c7, .slice p8 x2.f17.length c8] 48 (fun b => (pt b 0)) fun a w b2 hs hw => ?_
 refine QaN hs hw [Qb 0, Qb 0, Qb 0, Qb 0, Qe 0, Qe 0, Qe 0, Qe 0, Qe 0, Qe 0, Qb 0, Qk 0, Qb 0, Qb 0, Qb 0, Qe 0, Qb 0, Qb 0, Qe 0, .slice none 0 0, .bool false, Qb 0, .slice none 0 0, .slice none 0 0, .slice none 0 0] 48 (fun b => (pt b 0)) fun a w b3 hs hw => ?_
 have hs := hs.cst (e' := [(2, vu8 x3), (3, (pt b1 0)), (4, (pt b2 0)), (6, (pt b3 0))])
 refine Qc ?_
 obtain ⟨y1, hx1, hk⟩ := bindE hk
 obtain ⟨J1, hJ1⟩ := mkJ fun a w => ∃ (x4 x5 x6 x7 x8 x9 x10 x11 x12 x13 x14 x15 x16 x17 x18 x19 : Int) (x20 : List Int) (x21 : Bool) (x22 : Int) (x23 : List M156) (x24 : List M96) (x25 : List Int) (p13 : Option Addr) (c13 : Nat) (p14 : Option Addr) (c14 : Nat) (p15 : Option Addr) (c15 : Nat) (p16 : Option Addr) (c16 : Nat), QbY x1 x4 x5 x6 x7 x8 x9 x10 x11 x12 x13 x14 x15 x16 x17 x18 x19 x20 x21 x22 x23 x24 x25 = some r ∧ Sees a 82 [(3, (pt b1 0)), (6, (pt b3 0))] ∧ St g w [k12 b3, k10 b1 x1.f0 x1.f1 x1.f2 x4 x5 x6 x7 x8 x9 x10 x11 x12 x13 x14 x15 x16 x17 x18 x19 p13 x20 c13 x21 x22 p14 x23 c14 p15 x24 c15 p16 x25 c16, F] ih ∧ RSl e3 ih [] p13 c13 x20 ∧ RSl Qcf ih [] p14 c14 x23 ∧ RSl e96 ih [] p15 c15 x24 ∧ RSl e5 ih [] p16 c16 x25
 refine QaG J1 ?_ ?_
 ·refine Qd (Qa (pn hs 1 [(3, (pt b1 0)), (4, (pt b2 0)), (6, (pt b3 0)), (7, vu8 x3)] fun a hs => ?_))
  refine Qc (Ql (Qd (Qa (pn hs 2 [(3, (pt b1 0)), (4, (pt b2 0)), (6, (pt b3 0)), (7, vu8 x3), (11, .bool (x3 == 99))] fun a hs => ?_))))
  refine Qc ?_
  rcases ifbE hx1 with ⟨h9, hx1⟩ | ⟨h9, hx1⟩
  ·refine Qr hs h9 ?_
   refine Qa (pu hs 1 fun a hs => ?_)
   refine Qj hs (hw.at_ 1 rfl) 3 fun a hs => pu hs 1 fun a hs => QE hs hw 2 rfl 3 (v := Qb x2.f3) fun a w hs hw => ?_
   have hw := hw.cL [k12 b3, k10 b2 x2.f0 x2.f1 x2.f2 x2.f3 x2.f4 x2.f5 x2.f6 x2.f7 x2.f8 x2.f9 x2.f10 x2.f11 x2.f12 x2.f13.f0 x2.f13.f1 x2.f13.f2 x2.f13.f3 x2.f14.f0 x2.f14.f1 p5 x2.f14.f2 c5 x2.f14.f3 x2.f14.f4 p6 x2.f15 c6 p7 x2.f16 c7 p8 x2.f17 c8, k10 b1 x1.f0 x1.f1 x1.f2 x2.f3 x1.f4 x1.f5 x1.f6 x1.f7 x1.f8 x1.f9 x1.f10 x1.f11 x1.f12 x1.f13.f0 x1.f13.f1 x1.f13.f2 x1.f13.f3 x1.f14.f0 x1.f14.f1 p1 x1.f14.f2 c1 x1.f14.f3 x1.f14.f4 p2 x1.f15 c2 p3 x1.f16 c3 p4 x1.f17 c4, F]
   refine Qc ?_
   obtain rfl := someE hx1
   exact (hJ1 _ _).2 ⟨x2.f3, x1.f4, x1.f5, x1.f6, x1.f7, x1.f8, x1.f9, x1.f10, x1.f11, x1.f12, x1.f13.f0, x1.f13.f1, x1.f13.f2, x1.f13.f3, x1.f14.f0, x1.f14.f1, x1.f14.f2, x1.f14.f3, x1.f14.f4, x1.f15, x1.f16, x1.f17, p1, c1, p2, c2, p3, c3, p4, c4, hk, hs.cst, hw.pk [0, 2, 3], h1, h2, h3, h4⟩
  refine Qs hs h9 ?_
  refine Qd (Qa (pn hs 2 [(3, (pt b1 0)), (4, (pt b2 0)), (6, (pt b3 0)), (7, vu8 x3), (16, .bool (x3 == 101))] fun a hs => ?_))
  refine Qc ?_
  rcases ifbE hx1 with ⟨h10, hx1⟩ | ⟨h10, hx1⟩
  ·refine Qr hs h10 ?_
   refine Qa (pu hs 1 fun a hs => ?_)
   refine Qj hs (hw.at_ 1 rfl) 4 fun a hs => pu hs 1 fun a hs => QE hs hw 2 rfl 4 (v := Qe x2.f4) fun a w hs hw => ?_
   have hw := hw.cL [k12 b3, k10 b2 x2.f0 x2.f1 x2.f2 x2.f3 x2.f4 x2.f5 x2.f6 x2.f7 x2.f8 x2.f9 x2.f10 x2.f11 x2.f12 x2.f13.f0 x2.f13.f1 x2.f13.f2 x2.f13.f3 x2.f14.f0 x2.f14.f1 p5 x2.f14.f2 c5 x2.f14.f3 x2.f14.f4 p6 x2.f15 c6 p7 x2.f16 c7 p8 x2.f17 c8, k10 b1 x1.f0 x1.f1 x1.f2 x1.f3 x2.f4 x1.f5 x1.f6 x1.f7 x1.f8 x1.f9 x1.f10 x1.f11 x1.f12 x1.f13.f0 x1.f13.f1 x1.f13.f2 x1.f13.f3 x1.f14.f0 x1.f14.f1 p1 x1.f14.f2 c1 x1.f14.f3 x1.f14.f4 p2 x1.f15 c2 p3 x1.f16 c3 p4 x1.f17 c4, F]
   refine Qc ?_
   obtain rfl := someE hx1
   exact (hJ1 _ _).2 ⟨x1.f3, x2.f4, x1.f5, x1.f6, x1.f7, x1.f8, x1.f9, x1.f10, x1.f11, x1.f12, x1.f13.f0, x1.f13.f1, x1.f13.f2, x1.f13.f3, x1.f14.f0, x1.f14.f1, x1.f14.f2, x1.f14.f3, x1.f14.f4, x1.f15, x1.f16, x1.f17, p1, c1, p2, c2, p3, c3, p4, c4, hk, hs.cst, hw.pk [0, 2, 3], h1, h2, h3, h4⟩
  refine Qs hs h10 ?_
  refine Qd (Qa (pn hs 2 [(3, (pt b1 0)), (4, (pt b2 0)), (6, (pt b3 0)), (7, vu8 x3), (21, .bool (x3 == 98))] fun a hs => ?_))
  refine Qc ?_
  rcases ifbE hx1 with ⟨h11, hx1⟩ | ⟨h11, hx1⟩
  ·refine Qr hs h11 ?_
   refine Qa (pu hs 1 fun a hs => ?_)
   refine Qj hs (hw.at_ 1 rfl) 5 fun a hs => pu hs 1 fun a hs => QE hs hw 2 rfl 5 (v := Qe x2.f5) fun a w hs hw => ?_
   have hw := hw.cL [k12 b3, k10 b2 x2.f0 x2.f1 x2.f2 x2.f3 x2.f4 x2.f5 x2.f6 x2.f7 x2.f8 x2.f9 x2.f10 x2.f11 x2.f12 x2.f13.f0 x2.f13.f1 x2.f13.f2 x2.f13.f3 x2.f14.f0 x2.f14.f1 p5 x2.f14.f2 c5 x2.f14.f3 x2.f14.f4 p6 x2.f15 c6 p7 x2.f16 c7 p8 x2.f17 c8, k10 b1 x1.f0 x1.f1 x1.f2 x1.f3 x1.f4 x2.f5 x1.f6 x1.f7 x1.f8 x1.f9 x1.f10 x1.f11 x1.f12 x1.f13.f0 x1.f13.f1 x1.f13.f2 x1.f13.f3 x1.f14.f0 x1.f14.f1 p1 x1.f14.f2 c1 x1.f14.f3 x1.f14.f4 p2 x1.f15 c2 p3 x1.f16 c3 p4 x1.f17 c4, F]
   refine Qc ?_
   obtain rfl := someE hx1
   exact (hJ1 _ _).2 ⟨x1.f3, x1.f4, x2.f5, x1.f6, x1.f7, x1.f8, x1.f9, x1.f10, x1.f11, x1.f12, x1.f13.f0, x1.f13.f1, x1.f13.f2, x1.f13.f3, x1.f14.f0, x1.f14.f1, x1.f14.f2, x1.f14.f3, x1.f14.f4, x1.f15, x1.f16, x1.f17, p1, c1, p2, c2, p3, c3, p4, c4, hk, hs.cst, hw.pk [0, 2, 3], h1, h2, h3, h4⟩
  refine Qs hs h11 ?_
  refine Qd (Qa (pn hs 2 [(3, (pt b1 0)), (4, (pt b2 0)), (6, (pt b3 0)), (7, vu8 x3), (26, .bool (x3 == 115))] fun a hs => ?_))
  refine Qc ?_
  rcases ifbE hx1 with ⟨h12, hx1⟩ | ⟨h12, hx1⟩
  ·refine Qr hs h12 ?_
   refine Qa (pu hs 1 fun a hs => ?_)
   refine Qj hs (hw.at_ 1 rfl) 7 fun a hs => pu hs 1 fun a hs => QE hs hw 2 rfl 7 (v := Qe x2.f7) fun a w hs hw => ?_
   have hw := hw.cL [k12 b3, k10 b2 x2.f0 x2.f1 x2.f2 x2.f3 x2.f4 x2.f5 x2.f6 x2.f7 x2.f8 x2.f9 x2.f10 x2.f11 x2.f12 x2.f13.f0 x2.f13.f1 x2.f13.f2 x2.f13.f3 x2.f14.f0 x2.f14.f1 p5 x2.f14.f2 c5 x2.f14.f3 x2.f14.f4 p6 x2.f15 c6 p7 x2.f16 c7 p8 x2.f17 c8, k10 b1 x1.f0 x1.f1 x1.f2 x1.f3 x1.f4 x1.f5 x1.f6 x2.f7 x1.f8 x1.f9 x1.f10 x1.f11 x1.f12 x1.f13.f0 x1.f13.f1 x1.f13.f2 x1.f13.f3 x1.f14.f0 x1.f14.f1 p1 x1.f14.f2 c1 x1.f14.f3 x1.f14.f4 p2 x1.f15 c2 p3 x1.f16 c3 p4 x1.f17 c4, F]
   refine Qc ?_
   obtain rfl := someE hx1
   exact (hJ1 _ _).2 ⟨x1.f3, x1.f4, x1.f5, x1.f6, x2.f7, x1.f8, x1.f9, x1.f10, x1.f11, x1.f12, x1.f13.f0, x1.f13.f1, x1.f13.f2, x1.f13.f3, x1.f14.f0, x1.f14.f1, x1.f14.f2, x1.f14.f3, x1.f14.f4, x1.f15, x1.f16, x1.f17, p1, c1, p2, c2, p3, c3, p4, c4, hk, hs.cst, hw.pk [0, 2, 3], h1, h2, h3, h4⟩
  refine Qs hs h12 ?_
  refine Qd (Qa (pn hs 2 [(3, (pt b1 0)), (4, (pt b2 0)), (6, (pt b3 0)), (7, vu8 x3), (31, .bool (x3 == 100))] fun a hs => ?_))
  refine Qc ?_
  rcases ifbE hx1 with ⟨h13, hx1⟩ | ⟨h13, hx1⟩
  ·refine Qr hs h13 ?_
   refine Qa (pu hs 1 fun a hs => ?_)
   refine Qj hs (hw.at_ 1 rfl) 8 fun a hs => pu hs 1 fun a hs => QE hs hw 2 rfl 8 (v := Qe x2.f8) fun a w hs hw => ?_
   have hw := hw.cL [k12 b3, k10 b2 x2.f0 x2.f1 x2.f2 x2.f3 x2.f4 x2.f5 x2.f6 x2.f7 x2.f8 x2.f9 x2.f10 x2.f11 x2.f12 x2.f13.f0 x2.f13.f1 x2.f13.f2 x2.f13.f3 x2.f14.f0 x2.f14.f1 p5 x2.f14.f2 c5 x2.f14.f3 x2.f14.f4 p6 x2.f15 c6 p7 x2.f16 c7 p8 x2.f17 c8, k10 b1 x1.f0 x1.f1 x1.f2 x1.f3 x1.f4 x1.f5 x1.f6 x1.f7 x2.f8 x1.f9 x1.f10 x1.f11 x1.f12 x1.f13.f0 x1.f13.f1 x1.f13.f2 x1.f13.f3 x1.f14.f0 x1.f14.f1 p1 x1.f14.f2 c1 x1.f14.f3 x1.f14.f4 p2 x1.f15 c2 p3 x1.f16 c3 p4 x1.f17 c4, F]
   refine Qc ?_
   obtain rfl := someE hx1
   exact (hJ1 _ _).2 ⟨x1.f3, x1.f4, x1.f5, x1.f6, x1.f7, x2.f8, x1.f9, x1.f10, x1.f11, x1.f12, x1.f13.f0, x1.f13.f1, x1.f13.f2, x1.f13.f3, x1.f14.f0, x1.f14.f1, x1.f14.f2, x1.f14.f3, x1.f14.f4, x1.f15, x1.f16, x1.f17, p1, c1, p2, c2, p3, c3, p4, c4, hk, hs.cst, hw.pk [0, 2, 3], h1, h2, h3, h4⟩
  refine Qs hs h13 ?_
  refine Qd (Qa (pn hs 2 [(3, (pt b1 0)), (4, (pt b2 0)), (6, (pt b3 0)), (7, vu8 x3), (36, .bool (x3 == 108))] fun a hs => ?_))
  refine Qc ?_
  rcases ifbE hx1 with ⟨h14, hx1⟩ | ⟨h14, hx1⟩
  ·refine Qr hs h14 ?_
   refine Qa (pu hs 1 fun a hs => ?_)
   refine Qj hs (hw.at_ 1 rfl) 10 fun a hs => pu hs 1 fun a hs => QE hs hw 2 rfl 10 (v := Qb x2.f10) fun a w hs hw => ?_
   have hw := hw.cL [k12 b3, k10 b2 x2.f0 x2.f1 x2.f2 x2.f3 x2.f4 x2.f5 x2.f6 x2.f7 x2.f8 x2.f9 x2.f10 x2.f11 x2.f12 x2.f13.f0 x2.f13.f1 x2.f13.f2 x2.f13.f3 x2.f14.f0 x2.f14.f1 p5 x2.f14.f2 c5 x2.f14.f3 x2.f14.f4 p6 x2.f15 c6 p7 x2.f16 c7 p8 x2.f17 c8, k10 b1 x1.f0 x1.f1 x1.f2 x1.f3 x1.f4 x1.f5 x1.f6 x1.f7 x1.f8 x1.f9 x2.f10 x1.f11 x1.f12 x1.f13.f0 x1.f13.f1 x1.f13.f2 x1.f13.f3 x1.f14.f0 x1.f14.f1 p1 x1.f14.f2 c1 x1.f14.f3 x1.f14.f4 p2 x1.f15 c2 p3 x1.f16 c3 p4 x1.f17 c4, F]
   refine Qc ?_
   obtain rfl := someE hx1
   exact (hJ1 _ _).2 ⟨x1.f3, x1.f4, x1.f5, x1.f6, x1.f7, x1.f8, x1.f9, x2.f10, x1.f11, x1.f12, x1.f13.f0, x1.f13.f1, x1.f13.f2, x1.f13.f3, x1.f14.f0, x1.f14.f1, x1.f14.f2, x1.f14.f3, x1.f14.f4, x1.f15, x1.f16, x1.f17, p1, c1, p2, c2, p3, c3, p4, c4, hk, hs.cst, hw.pk [0, 2, 3], h1, h2, h3, h4⟩
  refine Qs hs h14 ?_
  refine Qd (Qa (pn hs 2 [(3, (pt b1 0)), (4, (pt b2 0)), (6, (pt b3 0)), (7, vu8 x3), (41, .bool (x3 == 110))] fun a hs => ?_))
  refine Qc ?_
  rcases ifbE hx1 with ⟨h15, hx1⟩ | ⟨h15, hx1⟩
  ·refine Qr hs h15 ?_
   refine Qa (pu hs 1 fun a hs => ?_)
   refine Qj hs (hw.at_ 1 rfl) 6 fun a hs => pu hs 1 fun a hs => QE hs hw 2 rfl 6 (v := Qe x2.f6) fun a w hs hw => ?_
   have hw := hw.cL [k12 b3, k10 b2 x2.f0 x2.f1 x2.f2 x2.f3 x2.f4 x2.f5 x2.f6 x2.f7 x2.f8 x2.f9 x2.f10 x2.f11 x2.f12 x2.f13.f0 x2.f13.f1 x2.f13.f2 x2.f13.f3 x2.f14.f0 x2.f14.f1 p5 x2.f14.f2 c5 x2.f14.f3 x2.f14.f4 p6 x2.f15 c6 p7 x2.f16 c7 p8 x2.f17 c8, k10 b1 x1.f0 x1.f1 x1.f2 x1.f3 x1.f4 x1.f5 x2.f6 x1.f7 x1.f8 x1.f9 x1.f10 x1.f11 x1.f12 x1.f13.f0 x1.f13.f1 x1.f13.f2 x1.f13.f3 x1.f14.f0 x1.f14.f1 p1 x1.f14.f2 c1 x1.f14.f3 x1.f14.f4 p2 x1.f15 c2 p3 x1.f16 c3 p4 x1.f17 c4, F]
   refine Qc ?_
   obtain rfl := someE hx1
   exact (hJ1 _ _).2 ⟨x1.f3, x1.f4, x1.f5, x2.f6, x1.f7, x1.f8, x1.f9, x1.f10, x1.f11, x1.f12, x1.f13.f0, x1.f13.f1, x1.f13.f2, x1.f13.f3, x1.f14.f0, x1.f14.f1, x1.f14.f2, x1.f14.f3, x1.f14.f4, x1.f15, x1.f16, x1.f17, p1, c1, p2, c2, p3, c3, p4, c4, hk, hs.cst, hw.pk [0, 2, 3], h1, h2, h3, h4⟩
  refine Qs hs h15 ?_
  refine Qd (Qa (pn hs 2 [(3, (pt b1 0)), (4, (pt b2 0)), (6, (pt b3 0)), (7, vu8 x3), (46, .bool (x3 == 111))] fun a hs => ?_))
  refine Qc ?_
  rcases ifbE hx1 with ⟨h16, hx1⟩ | ⟨h16, hx1⟩
  ·refine Qr hs h16 ?_
   refine Qa (pu hs 1 fun a hs => ?_)
   refine Qj hs (hw.at_ 1 rfl) 12 fun a hs => pu hs 1 fun a hs => QE hs hw 2 rfl 12 (v := Qb x2.f12) fun a w hs hw => ?_
   have hw := hw.cL [k12 b3, k10 b2 x2.f0 x2.f1 x2.f2 x2.f3 x2.f4 x2.f5 x2.f6 x2.f7 x2.f8 x2.f9 x2.f10 x2.f11 x2.f12 x2.f13.f0 x2.f13.f1 x2.f13.f2 x2.f13.f3 x2.f14.f0 x2.f14.f1 p5 x2.f14.f2 c5 x2.f14.f3 x2.f14.f4 p6 x2.f15 c6 p7 x2.f16 c7 p8 x2.f17 c8, k10 b1 x1.f0 x1.f1 x1.f2 x1.f3 x1.f4 x1.f5 x1.f6 x1.f7 x1.f8 x1.f9 x1.f10 x1.f11 x2.f12 x1.f13.f0 x1.f13.f1 x1.f13.f2 x1.f13.f3 x1.f14.f0 x1.f14.f1 p1 x1.f14.f2 c1 x1.f14.f3 x1.f14.f4 p2 x1.f15 c2 p3 x1.f16 c3 p4 x1.f17 c4, F]
   refine Qc ?_
   obtain rfl := someE hx1
   exact (hJ1 _ _).2 ⟨x1.f3, x1.f4, x1.f5, x1.f6, x1.f7, x1.f8, x1.f9, x1.f10, x1.f11, x2.f12, x1.f13.f0, x1.f13.f1, x1.f13.f2, x1.f13.f3, x1.f14.f0, x1.f14.f1, x1.f14.f2, x1.f14.f3, x1.f14.f4, x1.f15, x1.f16, x1.f17, p1, c1, p2, c2, p3, c3, p4, c4, hk, hs.cst, hw.pk [0, 2, 3], h1, h2, h3, h4⟩
  refine Qs hs h16 ?_
  refine Qd (Qa (pn hs 2 [(3, (pt b1 0)), (4, (pt b2 0)), (6, (pt b3 0)), (7, vu8 x3), (51, .bool (x3 == 107))] fun a hs => ?_))
  refine Qc ?_
  rcases ifbE hx1 with ⟨h17, hx1⟩ | ⟨h17, hx1⟩
  ·refine Qr hs h17 ?_
   refine Qa (pu hs 1 fun a hs => ?_)
   refine Qj hs (hw.at_ 1 rfl) 11 fun a hs => pu hs 1 fun a hs => QE hs hw 2 rfl 11 (v := Qk x2.f11) fun a w hs hw => ?_
   have hw := hw.cL [k12 b3, k10 b2 x2.f0 x2.f1 x2.f2 x2.f3 x2.f4 x2.f5 x2.f6 x2.f7 x2.f8 x2.f9 x2.f10 x2.f11 x2.f12 x2.f13.f0 x2.f13.f1 x2.f13.f2 x2.f13.f3 x2.f14.f0 x2.f14.f1 p5 x2.f14.f2 c5 x2.f14.f3 x2.f14.f4 p6 x2.f15 c6 p7 x2.f16 c7 p8 x2.f17 c8, k10 b1 x1.f0 x1.f1 x1.f2 x1.f3 x1.f4 x1.f5 x1.f6 x1.f7 x1.f8 x1.f9 x1.f10 x2.f11 x1.f12 x1.f13.f0 x1.f13.f1 x1.f13.f2 x1.f13.f3 x1.f14.f0 x1.f14.f1 p1 x1.f14.f2 c1 x1.f14.f3 x1.f14.f4 p2 x1.f15 c2 p3 x1.f16 c3 p4 x1.f17 c4, F]
   refine Qc ?_
   obtain rfl := someE hx1
   exact (hJ1 _ _).2 ⟨x1.f3, x1.f4, x1.f5, x1.f6, x1.f7, x1.f8, x1.f9, x1.f10, x2.f11, x1.f12, x1.f13.f0, x1.f13.f1, x1.f13.f2, x1.f13.f3, x1.f14.f0, x1.f14.f1, x1.f14.f2, x1.f14.f3, x1.f14.f4, x1.f15, x1.f16, x1.f17, p1, c1, p2, c2, p3, c3, p4, c4, hk, hs.cst, hw.pk [0, 2, 3], h1, h2, h3, h4⟩
  refine Qs hs h17 ?_
  refine Qd (Qa (pn hs 2 [(3, (pt b1 0)), (4, (pt b2 0)), (6, (pt b3 0)), (7, vu8 x3), (56, .bool (x3 == 118))] fun a hs => ?_))
  refine Qc ?_
  rcases ifbE hx1 with ⟨h18, hx1⟩ | ⟨h18, hx1⟩
  ·refine Qr hs h18 ?_
   refine Qa (pu hs 1 fun a hs => ?_)
   refine Qj hs (hw.at_ 1 rfl) 9 fun a hs => pu hs 1 fun a hs => QE hs hw 2 rfl 9 (v := Qe x2.f9) fun a w hs hw => ?_
   have hw := hw.cL [k12 b3, k10 b2 x2.f0 x2.f1 x2.f2 x2.f3 x2.f4 x2.f5 x2.f6 x2.f7 x2.f8 x2.f9 x2.f10 x2.f11 x2.f12 x2.f13.f0 x2.f13.f1 x2.f13.f2 x2.f13.f3 x2.f14.f0 x2.f14.f1 p5 x2.f14.f2 c5 x2.f14.f3 x2.f14.f4 p6 x2.f15 c6 p7 x2.f16 c7 p8 x2.f17 c8, k10 b1 x1.f0 x1.f1 x1.f2 x1.f3 x1.f4 x1.f5 x1.f6 x1.f7 x1.f8 x2.f9 x1.f10 x1.f11 x1.f12 x1.f13.f0 x1.f13.f1 x1.f13.f2 x1.f13.f3 x1.f14.f0 x1.f14.f1 p1 x1.f14.f2 c1 x1.f14.f3 x1.f14.f4 p2 x1.f15 c2 p3 x1.f16 c3 p4 x1.f17 c4, F]
   refine Qc ?_
   obtain rfl := someE hx1
   exact (hJ1 _ _).2 ⟨x1.f3, x1.f4, x1.f5, x1.f6, x1.f7, x1.f8, x2.f9, x1.f10, x1.f11, x1.f12, x1.f13.f0, x1.f13.f1, x1.f13.f2, x1.f13.f3, x1.f14.f0, x1.f14.f1, x1.f14.f2, x1.f14.f3, x1.f14.f4, x1.f15, x1.f16, x1.f17, p1, c1, p2, c2, p3, c3, p4, c4, hk, hs.cst, hw.pk [0, 2, 3], h1, h2, h3, h4⟩
  refine Qs hs h18 ?_
  refine Qd (Qa (pn hs 2 [(3, (pt b1 0)), (4, (pt b2 0)), (6, (pt b3 0)), (7, vu8 x3), (61, .bool (x3 == 109))] fun a hs => ?_))
  refine Qc ?_
  rcases ifbE hx1 with ⟨h19, hx1⟩ | ⟨h19, hx1⟩
  ·refine Qr hs h19 ?_
   refine Qa (pu hs 1 fun a hs => ?_)
   refine Qj hs (hw.at_ 1 rfl) 13 fun a hs => pu hs 1 fun a hs => QE hs hw 2 rfl 13 (v := A41 x2.f13) fun a w hs hw => ?_
   have hw := hw.cL [k12 b3, k10 b2 x2.f0 x2.f1 x2.f2 x2.f3 x2.f4 x2.f5 x2.f6 x2.f7 x2.f8 x2.f9 x2.f10 x2.f11 x2.f12 x2.f13.f0 x2.f13.f1 x2.f13.f2 x2.f13.f3 x2.f14.f0 x2.f14.f1 p5 x2.f14.f2 c5 x2.f14.f3 x2.f14.f4 p6 x2.f15 c6 p7 x2.f16 c7 p8 x2.f17 c8, k10 b1 x1.f0 x1.f1 x1.f2 x1.f3 x1.f4 x1.f5 x1.f6 x1.f7 x1.f8 x1.f9 x1.f10 x1.f11 x1.f12 x2.f13.f0 x2.f13.f1 x2.f13.f2 x2.f13.f3 x1.f14.f0 x1.f14.f1 p1 x1.f14.f2 c1 x1.f14.f3 x1.f14.f4 p2 x1.f15 c2 p3 x1.f16 c3 p4 x1.f17 c4, F]
   refine Qc ?_
   obtain rfl := someE hx1
   exact (hJ1 _ _).2 ⟨x1.f3, x1.f4, x1.f5, x1.f6, x1.f7, x1.f8, x1.f9, x1.f10, x1.f11, x1.f12, x2.f13.f0, x2.f13.f1, x2.f13.f2, x2.f13.f3, x1.f14.f0, x1.f14.f1, x1.f14.f2, x1.f14.f3, x1.f14.f4, x1.f15, x1.f16, x1.f17, p1, c1, p2, c2, p3, c3, p4, c4, hk, hs.cst, hw.pk [0, 2, 3], h1, h2, h3, h4⟩
  refine Qs hs h19 ?_
  refine Qd (Qa (pn hs 2 [(3, (pt b1 0)), (4, (pt b2 0)), (6, (pt b3 0)), (7, vu8 x3), (66, .bool (x3 == 102))] fun a hs => ?_))
  refine Qc ?_
  rcases ifbE hx1 with ⟨h20, hx1⟩ | ⟨h20, hx1⟩
  ·refine Qr hs h20 ?_
   refine Qa (pu hs 1 fun a hs => ?_)
   refine Qj hs (hw.at_ 1 rfl) 17 fun a hs => pu hs 1 fun a hs => QE hs hw 2 rfl 17 (v := A44 x2.f14 p5 c5) fun a w hs hw => ?_
   have hw := hw.cL [k12 b3, k10 b2 x2.f0 x2.f1 x2.f2 x2.f3 x2.f4 x2.f5 x2.f6 x2.f7 x2.f8 x2.f9 x2.f10 x2.f11 x2.f12 x2.f13.f0 x2.f13.f1 x2.f13.f2 x2.f13.f3 x2.f14.f0 x2.f14.f1 p5 x2.f14.f2 c5 x2.f14.f3 x2.f14.f4 p6 x2.f15 c6 p7 x2.f16 c7 p8 x2.f17 c8, k10 b1 x1.f0 x1.f1 x1.f2 x1.f3 x1.f4 x1.f5 x1.f6 x1.f7 x1.f8 x1.f9 x1.f10 x1.f11 x1.f12 x1.f13.f0 x1.f13.f1 x1.f13.f2 x1.f13.f3 x2.f14.f0 x2.f14.f1 p5 x2.f14.f2 c5 x2.f14.f3 x2.f14.f4 p2 x1.f15 c2 p3 x1.f16 c3 p4 x1.f17 c4, F]
   refine Qc ?_
   obtain rfl := someE hx1
   exact (hJ1 _ _).2 ⟨x1.f3, x1.f4, x1.f5, x1.f6, x1.f7, x1.f8, x1.f9, x1.f10, x1.f11, x1.f12, x1.f13.f0, x1.f13.f1, x1.f13.f2, x1.f13.f3, x2.f14.f0, x2.f14.f1, x2.f14.f2, x2.f14.f3, x2.f14.f4, x1.f15, x1.f16, x1.f17, p5, c5, p2, c2, p3, c3, p4, c4, hk, hs.cst, hw.pk [0, 2, 3], h5, h2, h3, h4⟩
  refine Qs hs h20 ?_
  refine Qd (Qa (pn hs 2 [(3, (pt b1 0)), (4, (pt b2 0)), (6, (pt b3 0)), (7, vu8 x3), (71, .bool (x3 == 116))] fun a hs => ?_))
  refine Qc ?_
  rcases ifbE hx1 with ⟨h21, hx1⟩ | ⟨h21, hx1⟩
  ·refine Qr hs h21 ?_
   refine Qa (pu hs 1 fun a hs => ?_)
   refine Qj hs (hw.at_ 1 rfl) 22 fun a hs => pu hs 1 fun a hs => QE hs hw 2 rfl 22 (v := .slice p6 x2.f15.length c6) fun a w hs hw => ?_
   have hw := hw.cL [k12 b3, k10 b2 x2.f0 x2.f1 x2.f2 x2.f3 x2.f4 x2.f5 x2.f6 x2.f7 x2.f8 x2.f9 x2.f10 x2.f11 x2.f12 x2.f13.f0 x2.f13.f1 x2.f13.f2 x2.f13.f3 x2.f14.f0 x2.f14.f1 p5 x2.f14.f2 c5 x2.f14.f3 x2.f14.f4 p6 x2.f15 c6 p7 x2.f16 c7 p8 x2.f17 c8, k10 b1 x1.f0 x1.f1 x1.f2 x1.f3 x1.f4 x1.f5 x1.f6 x1.f7 x1.f8 x1.f9 x1.f10 x1.f11 x1.f12 x1.f13.f0 x1.f13.f1 x1.f13.f2 x1.f13.f3 x1.f14.f0 x1.f14.f1 p1 x1.f14.f2 c1 x1.f14.f3 x1.f14.f4 p6 x2.f15 c6 p3 x1.f16 c3 p4 x1.f17 c4, F]
   refine Qc ?_
   obtain rfl := someE hx1
   exact (hJ1 _ _).2 ⟨x1.f3, x1.f4, x1.f5, x1.f6, x1.f7, x1.f8, x1.f9, x1.f10, x1.f11, x1.f12, x1.f13.f0, x1.f13.f1, x1.f13.f2, x1.f13.f3, x1.f14.f0, x1.f14.f1, x1.f14.f2, x1.f14.f3, x1.f14.f4, x2.f15, x1.f16, x1.f17, p1, c1, p6, c6, p3, c3, p4, c4, hk, hs.cst, hw.pk [0, 2, 3], h1, h6, h3, h4⟩
  refine Qs hs h21 ?_
  refine Qd (Qa (pn hs 2 [(3, (pt b1 0)), (4, (pt b2 0)), (6, (pt b3 0)), (76, .bool (x3 == 117))] fun a hs => ?_))
  refine Qc ?_
  rcases ifbE hx1 with ⟨h22, hx1⟩ | ⟨h22, hx1⟩
  ·refine Qr hs h22 ?_
   refine Qa (pu hs 1 fun a hs => ?_)
   refine Qj hs (hw.at_ 1 rfl) 23 fun a hs => pu hs 1 fun a hs => QE hs hw 2 rfl 23 (v := .slice p7 x2.f16.length c7) fun a w hs hw => ?_
   have hw := hw.cL [k12 b3, k10 b2 x2.f0 x2.f1 x2.f2 x2.f3 x2.f4 x2.f5 x2.f6 x2.f7 x2.f8 x2.f9 x2.f10 x2.f11 x2.f12 x2.f13.f0 x2.f13.f1 x2.f13.f2 x2.f13.f3 x2.f14.f0 x2.f14.f1 p5 x2.f14.f2 c5 x2.f14.f3 x2.f14.f4 p6 x2.f15 c6 p7 x2.f16 c7 p8 x2.f17 c8, k10 b1 x1.f0 x1.f1 x1.f2 x1.f3 x1.f4 x1.f5 x1.f6 x1.f7 x1.f8 x1.f9 x1.f10 x1.f11 x1.f12 x1.f13.f0 x1.f13.f1 x1.f13.f2 x1.f13.f3 x1.f14.f0 x1.f14.f1 p1 x1.f14.f2 c1 x1.f14.f3 x1.f14.f4 p2 x1.f15 c2 p7 x2.f16 c7 p4 x1.f17 c4, F]
   refine Qc ?_
   obtain rfl := someE hx1
   exact (hJ1 _ _).2 ⟨x1.f3, x1.f4, x1.f5, x1.f6, x1.f7, x1.f8, x1.f9, x1.f10, x1.f11, x1.f12, x1.f13.f0, x1.f13.f1, x1.f13.f2, x1.f13.f3, x1.f14.f0, x1.f14.f1, x1.f14.f2, x1.f14.f3, x1.f14.f4, x1.f15, x2.f16, x1.f17, p1, c1, p2, c2, p7, c7, p4, c4, hk, hs.cst, hw.pk [0, 2, 3], h1, h2, h7, h4⟩
  refine Qs hs h22 ?_
  refine Qa (pu hs 1 fun a hs => ?_)
  refine Qj hs (hw.at_ 1 rfl) 24 fun a hs => pu hs 1 fun a hs => QE hs hw 2 rfl 24 (v := .slice p8 x2.f17.length c8) fun a w hs hw => ?_
  have hw := hw.cL [k12 b3, k10 b2 x2.f0 x2.f1 x2.f2 x2.f3 x2.f4 x2.f5 x2.f6 x2.f7 x2.f8 x2.f9 x2.f10 x2.f11 x2.f12 x2.f13.f0 x2.f13.f1 x2.f13.f2 x2.f13.f3 x2.f14.f0 x2.f14.f1 p5 x2.f14.f2 c5 x2.f14.f3 x2.f14.f4 p6 x2.f15 c6 p7 x2.f16 c7 p8 x2.f17 c8, k10 b1 x1.f0 x1.f1 x1.f2 x1.f3 x1.f4 x1.f5 x1.f6 x1.f7 x1.f8 x1.f9 x1.f10 x1.f11 x1.f12 x1.f13.f0 x1.f13.f1 x1.f13.f2 x1.f13.f3 x1.f14.f0 x1.f14.f1 p1 x1.f14.f2 c1 x1.f14.f3 x1.f14.f4 p2 x1.f15 c2 p3 x1.f16 c3 p8 x2.f17 c8, F]
  refine Qc ?_
  obtain rfl := someE hx1
  exact (hJ1 _ _).2 ⟨x1.f3, x1.f4, x1.f5, x1.f6, x1.f7, x1.f8, x1.f9, x1.f10, x1.f11, x1.f12, x1.f13.f0, x1.f13.f1, x1.f13.f2, x1.f13.f3, x1.f14.f0, x1.f14.f1, x1.f14.f2, x1.f14.f3, x1.f14.f4, x1.f15, x1.f16, x2.f17, p1, c1, p2, c2, p3, c3, p8, c8, hk, hs.cst, hw.pk [0, 2, 3], h1, h2, h3, h8⟩
 intro a w hh
 obtain ⟨x4, x5, x6, x7, x8, x9, x10, x11, x12, x13, x14, x15, x16, x17, x18, x19, x20, x21, x22, x23, x24, x25, p13, c13, p14, c14, p15, c15, p16, c16, hk, hs, hw, h23, h24, h25, h26⟩ := (hJ1 _ _).1 hh
 refine Qd (Qa (Qj hs (hw.at_ 1 rfl) 0 fun a hs => ?_))
 refine QE hs hw 0 rfl 0 (v := .agg #[Qb x1.f0, Qb x1.f1, Qb x1.f2, Qb x4, Qe x5, Qe x6, Qe x7, Qe x8, Qe x9, Qe x10, Qb x11, Qk x12, Qb x13, Qb x14, Qb x15, Qe x16, Qb x17, Qb x18, Qe x19, .slice p13 x20.length c13, .bool x21, Qb x22, .slice p14 x23.length c14, .slice p15 x24.length c15, .slice p16 x25.length c16]) fun a w hs hw => ?_
 have hs := hs.cst (e' := [(6, (pt b3 0))])
 refine Qc (Qi ?_)
 obtain rfl := someE hk
 refine hQ _ _ (QaU hs rfl (hw.at_ 0 rfl) (by kernel_rfl) (v := .agg #[Qb x1.f0, Qb x1.f1, Qb x1.f2, Qb x4, Qe x5, Qe x6, Qe x7, Qe x8, Qe x9, Qe x10, Qb x11, Qk x12, Qb x13, Qb x14, Qb x15, Qe x16, Qb x17, Qb x18, Qe x19, .slice p13 x20.length c13, .bool x21, Qb x22, .slice p14 x23.length c14, .slice p15 x24.length c15, .slice p16 x25.length c16]) (by kernel_rfl) ⟨p13, c13, p14, c14, p15, c15, p16, c16, rfl, hw.pk [2], h23, h24, h25, h26⟩)
def QdW (x1 x2 x3 x4 x5 x6 x7 x8 x9 x10 x11 x12 x13 x14 x15 x16 x17 x18 x19 : Int) (x20 : List Int) (x21 : Bool) (x22 : Int) (x23 : List M156) (x24 : List M96) (x25 : List Int) : Option M48 :=
 some (M48.mk x1 x2 x3 x4 x5 x6 x7 x8 x9 x10 x11 x12 x13 (M41.mk x14 x15 x16 x17) (M44.mk x18 x19 x20 x21 x22) x23 x24 x25)
def Qa9 (rec_catenaryref10_Bare_l11 : Int → Int → Int → Int → Int → Int → Int → Int → Int → Int → Int → Int → Int → Int → Int → Int → Int → Int → Int → Int → (List Int) → Bool → Int → (List M156) → (List M96) → (List Int) → Option (Int × Int × Int × Int × Int × Int × Int × Int × Int × Int × Int × Int × Int × Int × Int × Int × Int × Int × Int × (List Int) × Bool × Int × (List M156) × (List M96) × (List Int))) (x1 x2 x3 x4 x5 x6 x7 x8 x9 x10 x11 x12 x13 x14 x15 x16 x17 x18 x19 x20 : Int) (x21 : List Int) (x22 : Bool) (x23 : Int) (x24 : List M156) (x25 : List M96) (x26 : List Int) : Option (Int × Int × Int × Int × Int × Int × Int × Int × Int × Int × Int × Int × Int × Int × Int × Int × Int × Int × Int × (List Int) × Bool × Int × (List M156) × (List M96) × (List Int)) :=
 rec_catenaryref10_Bare_l11 (IntKind.i64.wrap (x1 + 1)) x2 x3 x4 x5 x6 x7 x8 x9 x10 x11 x12 x13 x14 x15 x16 x17 x18 x19 x20 x21 x22 x23 x24 x25 x26
def QM (y1 : (List Int)) (x1 : M48) : Nat → Int → Int → Int → Int → Int → Int → Int → Int → Int → Int → Int → Int → Int → Int → Int → Int → Int → Int → Int → Int → (List Int) → Bool → Int → (List M156) → (List M96) → (List Int) → Option (Int × Int × Int × Int × Int × Int × Int × Int × Int × Int × Int × Int × Int × Int × Int × Int × Int × Int × Int × (List Int) × Bool × Int × (List M156) × (List M96) × (List Int))
 | 0, _, _, _, _, _, _, _, _, _, _, _, _, _, _, _, _, _, _, _, _, _, _, _, _, _, _ => none
 | j + 1, x2, x3, x4, x5, x6, x7, x8, x9, x10, x11, x12, x13, x14, x15, x16, x17, x18, x19, x20, x21, x22, x23, x24, x25, x26, x27 =>
  if (decide (x2 < (y1.length : Int))) = true then (
   ((ix y1 x2).bind fun x28 =>
    (Qbt (M48.mk x3 x4 x5 x6 x7 x8 x9 x10 x11 x12 x13 x14 x15 (M41.mk x16 x17 x18 x19) (M44.mk x20 x21 x22 x23 x24) x25 x26 x27) x1 (chr x28)).bind fun y2 =>
    some (y2.f0, y2.f1, y2.f2, y2.f3, y2.f4, y2.f5, y2.f6, y2.f7, y2.f8, y2.f9, y2.f10, y2.f11, y2.f12, y2.f13.f0, y2.f13.f1, y2.f13.f2, y2.f13.f3, y2.f14.f0, y2.f14.f1, y2.f14.f2, y2.f14.f3, y2.f14.f4, y2.f15, y2.f16, y2.f17) : Option (Int × Int × Int × Int × Int × Int × Int × Int × Int × Int × Int × Int × Int × Int × Int × Int × Int × Int × Int × (List Int) × Bool × Int × (List M156) × (List M96) × (List Int))).bind fun s1 => Qa9 (QM y1 x1 j) x2 s1.1 s1.2.1 s1.2.2.1 s1.2.2.2.1 s1.2.2.2.2.1 s1.2.2.2.2.2.1 s1.2.2.2.2.2.2.1 s1.2.2.2.2.2.2.2.1 s1.2.2.2.2.2.2.2.2.1 s1.2.2.2.2.2.2.2.2.2.1 s1.2.2.2.2.2.2.2.2.2.2.1 s1.2.2.2.2.2.2.2.2.2.2.2.1 s1.2.2.2.2.2.2.2.2.2.2.2.2.1 s1.2.2.2.2.2.2.2.2.2.2.2.2.2.1 s1.2.2.2.2.2.2.2.2.2.2.2.2.2.2.1 s1.2.2.2.2.2.2.2.2.2.2.2.2.2.2.2.1 s1.2.2.2.2.2.2.2.2.2.2.2.2.2.2.2.2.1 s1.2.2.2.2.2.2.2.2.2.2.2.2.2.2.2.2.2.1 s1.2.2.2.2.2.2.2.2.2.2.2.2.2.2.2.2.2.2.1 s1.2.2.2.2.2.2.2.2.2.2.2.2.2.2.2.2.2.2.2.1 s1.2.2.2.2.2.2.2.2.2.2.2.2.2.2.2.2.2.2.2.2.1 s1.2.2.2.2.2.2.2.2.2.2.2.2.2.2.2.2.2.2.2.2.2.1 s1.2.2.2.2.2.2.2.2.2.2.2.2.2.2.2.2.2.2.2.2.2.2.1 s1.2.2.2.2.2.2.2.2.2.2.2.2.2.2.2.2.2.2.2.2.2.2.2.1 s1.2.2.2.2.2.2.2.2.2.2.2.2.2.2.2.2.2.2.2.2.2.2.2.2)
  else some (x3, x4, x5, x6, x7, x8, x9, x10, x11, x12, x13, x14, x15, x16, x17, x18, x19, x20, x21, x22, x23, x24, x25, x26, x27)
def Qcv (k : Nat) (x1 : M48) : Option M48 :=
 (Qa0 x1.f0).bind fun y1 =>
 (QM y1 x1 k 0 x1.f0 x1.f1 x1.f2 0 0 0 0 0 0 0 0 0 0 0 0 0 0 0 0 ([]) false 0 ([]) ([]) ([]) : Option (Int × Int × Int × Int × Int × Int × Int × Int × Int × Int × Int × Int × Int × Int × Int × Int × Int × Int × Int × (List Int) × Bool × Int × (List M156) × (List M96) × (List Int))).bind fun s1 => QdW s1.1 s1.2.1 s1.2.2.1 s1.2.2.2.1 s1.2.2.2.2.1 s1.2.2.2.2.2.1 s1.2.2.2.2.2.2.1 s1.2.2.2.2.2.2.2.1 s1.2.2.2.2.2.2.2.2.1 s1.2.2.2.2.2.2.2.2.2.1 s1.2.2.2.2.2.2.2.2.2.2.1 s1.2.2.2.2.2.2.2.2.2.2.2.1 s1.2.2.2.2.2.2.2.2.2.2.2.2.1 s1.2.2.2.2.2.2.2.2.2.2.2.2.2.1 s1.2.2.2.2.2.2.2.2.2.2.2.2.2.2.1 s1.2.2.2.2.2.2.2.2.2.2.2.2.2.2.2.1 s1.2.2.2.2.2.2.2.2.2.2.2.2.2.2.2.2.1 s1.2.2.2.2.2.2.2.2.2.2.2.2.2.2.2.2.2.1 s1.2.2.2.2.2.2.2.2.2.2.2.2.2.2.2.2.2.2.1 s1.2.2.2.2.2.2.2.2.2.2.2.2.2.2.2.2.2.2.2.1 s1.2.2.2.2.2.2.2.2.2.2.2.2.2.2.2.2.2.2.2.2.1 s1.2.2.2.2.2.2.2.2.2.2.2.2.2.2.2.2.2.2.2.2.2.1 s1.2.2.2.2.2.2.2.2.2.2.2.2.2.2.2.2.2.2.2.2.2.2.1 s1.2.2.2.2.2.2.2.2.2.2.2.2.2.2.2.2.2.2.2.2.2.2.2.1 s1.2.2.2.2.2.2.2.2.2.2.2.2.2.2.2.2.2.2.2.2.2.2.2.2
theorem Qg4 {k : Nat} {x1 : M48} {c1 c2 c3 c4 : Nat} {p1 p2 p3 p4 : Option Addr} {r : M48} (hk : Qcv k x1 = some r) {g w : World} {F : Ch} {ih : IH} (h1 : RSl e3 ih [] p1 c1 x1.f14.f2) (h2 : RSl Qcf ih [] p2 c2 x1.f15) (h3 : RSl e96 ih [] p3 c3 x1.f16) (h4 : RSl e5 ih [] p4 c4 x1.f17) (hw : St g w [F] ih) :
  CallsR Tryz.prog 75 #[A48 x1 p1 c1 p2 c2 p3 c3 p4 c4] w fun v w' => ∃ (p5 : Option Addr) (c5 : Nat) (p6 : Option Addr) (c6 : Nat) (p7 : Option Addr) (c7 : Nat) (p8 : Option Addr) (c8 : Nat), v = .agg #[Qb r.f0, Qb r.f1, Qb r.f2, Qb r.f3, Qe r.f4, Qe r.f5, Qe r.f6, Qe r.f7, Qe r.f8, Qe r.f9, Qb r.f10, Qk r.f11, Qb r.f12, Qb r.f13.f0, Qb r.f13.f1, Qe r.f13.f2, Qb r.f13.f3, Qb r.f14.f0, Qe r.f14.f1, .slice p5 r.f14.f2.length c5, .bool r.f14.f3, Qb r.f14.f4, .slice p6 r.f15.length c6, .slice p7 r.f16.length c7, .slice p8 r.f17.length c8] ∧ St g w' [F] ih ∧ RSl e3 ih [] p5 c5 r.f14.f2 ∧ RSl Qcf ih [] p6 c6 r.f15 ∧ RSl e96 ih [] p7 c7 r.f16 ∧ RSl e5 ih [] p8 c8 r.f17 := by
 refine f_i Tryz.func75 rfl 29 rfl fun a Qf hQ hQn hs => ?_
 refine Qd (Qa (QC hs hw [Qb x1.f0, Qb x1.f1, Qb x1.f2, Qb x1.f3, Qe x1.f4, Qe x1.f5, Qe x1.f6, Qe x1.f7, Qe x1.f8, Qe x1.f9, Qb x1.f10, Qk x1.f11, Qb x1.f12, Qb x1.f13.f0, Qb x1.f13.f1, Qe x1.f13.f2, Qb x1.f13.f3, Qb x1.f14.f0, Qe x1.f14.f1, .slice p1 x1.f14.f2.length c1, .bool x1.f14.f3, Qb x1.f14.f4, .slice p2 x1.f15.length c2, .slice p3 x1.f16.length c3, .slice p4 x1.f17.length c4] 48 (fun b => (pt b 0)) (by kernel_rfl) (fun _ => by kernel_rfl) fun a w b1 hs hw => ?_))
 refine QaN hs hw [Qb 0, Qb 0, Qb 0, Qb 0, Qe 0, Qe 0, Qe 0, Qe 0, Qe 0, Qe 0, Qb 0, Qk 0, Qb 0, Qb 0, Qb 0, Qe 0, Qb 0, Qb 0, Qe 0, .slice none 0 0, .bool false, Qb 0, .slice none 0 0, .slice none 0 0, .slice none 0 0] 48 (fun b => (pt b 0)) fun a w b2 hs hw => ?_
 have hs := hs.cst (e' := [(1, (pt b1 0)), (2, (pt b2 0))])
 refine Qc (Qd (Qa (pu hs 1 fun a hs => ?_)))
 refine Qj hs (hw.at_ 1 rfl) 0 fun a hs => pu hs 1 fun a hs => Qj hs (hw.at_ 1 rfl) 1 fun a hs => pu hs 1 fun a hs => Qj hs (hw.at_ 1 rfl) 2 fun a hs => pn hs 1 [(1, (pt b1 0)), (2, (pt b2 0)), (12, .agg #[Qb x1.f0, Qb x1.f1, Qb x1.f2, Qb 0, Qe 0, Qe 0, Qe 0, Qe 0, Qe 0, Qe 0, Qb 0, Qk 0, Qb 0, Qb 0, Qb 0, Qe 0, Qb 0, Qb 0, Qe 0, .slice none 0 0, .bool false, Qb 0, .slice none 0 0, .slice none 0 0, .slice none 0 0])] fun a hs => ?_
 refine QaN hs hw [Qb 0, Qb 0, Qb 0, Qb 0, Qe 0, Qe 0, Qe 0, Qe 0, Qe 0, Qe 0, Qb 0, Qk 0, Qb 0, Qb 0, Qb 0, Qe 0, Qb 0, Qb 0, Qe 0, .slice none 0 0, .bool false, Qb 0, .slice none 0 0, .slice none 0 0, .slice none 0 0] 48 (fun b => (pt b 0)) fun a w b3 hs hw => ?_
 refine QE hs hw 0 rfl 0 (v := .agg #[Qb x1.f0, Qb x1.f1, Qb x1.f2, Qb 0, Qe 0, Qe 0, Qe 0, Qe 0, Qe 0, Qe 0, Qb 0, Qk 0, Qb 0, Qb 0, Qb 0, Qe 0, Qb 0, Qb 0, Qe 0, .slice none 0 0, .bool false, Qb 0, .slice none 0 0, .slice none 0 0, .slice none 0 0]) fun a w hs hw => ?_
 have hw := hw.cL [k11 b3 x1.f0 x1.f1 x1.f2, k12 b2, k10 b1 x1.f0 x1.f1 x1.f2 x1.f3 x1.f4 x1.f5 x1.f6 x1.f7 x1.f8 x1.f9 x1.f10 x1.f11 x1.f12 x1.f13.f0 x1.f13.f1 x1.f13.f2 x1.f13.f3 x1.f14.f0 x1.f14.f1 p1 x1.f14.f2 c1 x1.f14.f3 x1.f14.f4 p2 x1.f15 c2 p3 x1.f16 c3 p4 x1.f17 c4, F]
 refine Qc (Qd (Qa (pu hs 1 fun a hs => ?_)))
 refine Qj hs (hw.at_ 2 rfl) 0 fun a hs => ?_
 obtain ⟨y1, h5, hk⟩ := bindE hk
 refine Qv hs (Qem h5 ((hw.pk [0, 1, 2, 3]).pack 0)) fun a w v hv hs => ?_
 obtain ⟨rfl, hw⟩ := hv
 have hw := hw.unpack 0 rfl
 refine pn hs 1 [(1, (pt b1 0)), (2, (pt b2 0)), (3, (pt b3 0)), (4, .string (strOf y1))] fun a hs => Qc (Qd (Qd (Qa (pn hs 1 [(1, (pt b1 0)), (2, (pt b2 0)), (3, (pt b3 0)), (4, .string (strOf y1)), (5, Qb 0)] fun a hs => ?_))))
 refine Qc (Ql ?_)
 obtain ⟨y2, hx1, hk⟩ := bindE hk
 obtain ⟨J1, hJ1⟩ := mkJ fun a w => ∃ (x2 x3 x4 x5 x6 x7 x8 x9 x10 x11 x12 x13 x14 x15 x16 x17 x18 x19 x20 : Int) (x21 : List Int) (x22 : Bool) (x23 : Int) (x24 : List M156) (x25 : List M96) (x26 : List Int) (p9 : Option Addr) (c9 : Nat) (p10 : Option Addr) (c10 : Nat) (p11 : Option Addr) (c11 : Nat) (p12 : Option Addr) (c12 : Nat), QdW x2 x3 x4 x5 x6 x7 x8 x9 x10 x11 x12 x13 x14 x15 x16 x17 x18 x19 x20 x21 x22 x23 x24 x25 x26 = some r ∧ Sees a 29 [(2, (pt b2 0)), (3, (pt b3 0))] ∧ St g w [k10 b3 x2 x3 x4 x5 x6 x7 x8 x9 x10 x11 x12 x13 x14 x15 x16 x17 x18 x19 x20 p9 x21 c9 x22 x23 p10 x24 c10 p11 x25 c11 p12 x26 c12, k12 b2, F] ih ∧ RSl e3 ih [] p9 c9 x21 ∧ RSl Qcf ih [] p10 c10 x24 ∧ RSl e96 ih [] p11 c11 x25 ∧ RSl e5 ih [] p12 c12 x26
 obtain ⟨I1, hI1⟩ := QhB fun j a w => ∃ (x27 x28 x29 x30 x31 x32 x33 x34 x35 x36 x37 x38 x39 x40 x41 x42 x43 x44 x45 x46 : Int) (x47 : List Int) (x48 : Bool) (x49 : Int) (x50 : List M156) (x51 : List M96) (x52 : List Int) (p13 : Option Addr) (c13 : Nat) (p14 : Option Addr) (c14 : Nat) (p15 : Option Addr) (c15 : Nat) (p16 : Option Addr) (c16 : Nat), QM y1 x1 j x27 x28 x29 x30 x31 x32 x33 x34 x35 x36 x37 x38 x39 x40 x41 x42 x43 x44 x45 x46 x47 x48 x49 x50 x51 x52 = some y2 ∧ Sees a 29 [(1, (pt b1 0)), (2, (pt b2 0)), (3, (pt b3 0)), (4, .string (strOf y1)), (5, Qb x27)] ∧ St g w [k10 b3 x28 x29 x30 x31 x32 x33 x34 x35 x36 x37 x38 x39 x40 x41 x42 x43 x44 x45 x46 p13 x47 c13 x48 x49 p14 x50 c14 p15 x51 c15 p16 x52 c16, k12 b2, k10 b1 x1.f0 x1.f1 x1.f2 x1.f3 x1.f4 x1.f5 x1.f6 x1.f7 x1.f8 x1.f9 x1.f10 x1.f11 x1.f12 x1.f13.f0 x1.f13.f1 x1.f13.f2 x1.f13.f3 x1.f14.f0 x1.f14.f1 p1 x1.f14.f2 c1 x1.f14.f3 x1.f14.f4 p2 x1.f15 c2 p3 x1.f16 c3 p4 x1.f17 c4, F] ih ∧ RSl e3 ih [] p13 c13 x47 ∧ RSl Qcf ih [] p14 c14 x50 ∧ RSl e96 ih [] p15 c15 x51 ∧ RSl e5 ih [] p16 c16 x52
 refine Qau 0 J1 ?_ ?_
 ·refine QbO I1 k ((hI1 _ _ _).2 ⟨0, x1.f0, x1.f1, x1.f2, 0, 0, 0, 0, 0, 0, 0, 0, 0, 0, 0, 0, 0, 0, 0, 0, ([]), false, 0, ([]), ([]), ([]), none, 0, none, 0, none, 0, none, 0, hx1, hs.cst, hw.pk [0, 1, 2, 3], (RSl.nil _ _ _), (RSl.nil _ _ _), (RSl.nil _ _ _), (RSl.nil _ _ _)⟩) (fun a w h6 => ?_) fun j a w hh => ?_
  ·obtain ⟨_, _, _, _, _, _, _, _, _, _, _, _, _, _, _, _, _, _, _, _, _, _, _, _, _, _, _, _, _, _, _, _, _, _, h, _⟩ := (hI1 _ _ _).1 h6
   cases h
  obtain ⟨x27, x28, x29, x30, x31, x32, x33, x34, x35, x36, x37, x38, x39, x40, x41, x42, x43, x44, x45, x46, x47, x48, x49, x50, x51, x52, p13, c13, p14, c14, p15, c15, p16, c16, hx1, hs, hw, h7, h8, h9, h10⟩ := (hI1 _ _ _).1 hh
  refine Qd (Qd (Qa (pu hs 2 fun a hs => ?_)))
  refine QfF hs (by kernel_rfl) (QjL (xs := y1) (by kernel_rfl) (by kernel_rfl)) fun a hs => ?_
  refine pn hs 1 [(1, (pt b1 0)), (2, (pt b2 0)), (3, (pt b3 0)), (4, .string (strOf y1)), (5, Qb x27), (19, .bool (decide (x27 < (y1.length : Int))))] fun a hs => Qc ?_
  rcases ifbE hx1 with ⟨h11, hx1⟩ | ⟨h11, hx1⟩
  ·refine Qr hs h11 ?_
   refine Qg (Qd (Ql ?_))
   obtain ⟨S, hD, kS⟩ := mkSXw hw [[6], [], [], []] (K := [6]) rfl
   obtain ⟨y3, hx2, hx1⟩ := bindE hx1
   obtain ⟨J2, hJ2⟩ := mkJ fun a w => ∃ (x53 x54 x55 x56 x57 x58 x59 x60 x61 x62 x63 x64 x65 x66 x67 x68 x69 x70 x71 : Int) (x72 : List Int) (x73 : Bool) (x74 : Int) (x75 : List M156) (x76 : List M96) (x77 : List Int) (p17 : Option Addr) (c17 : Nat) (p18 : Option Addr) (c18 : Nat) (p19 : Option Addr) (c19 : Nat) (p20 : Option Addr) (c20 : Nat), Qa9 (QM y1 x1 j) x27 x53 x54 x55 x56 x57 x58 x59 x60 x61 x62 x63 x64 x65 x66 x67 x68 x69 x70 x71 x72 x73 x74 x75 x76 x77 = some y2 ∧ Sees a 29 [(1, (pt b1 0)), (2, (pt b2 0)), (3, (pt b3 0)), (4, .string (strOf y1)), (5, Qb x27)] ∧ St g w [k10 b3 x53 x54 x55 x56 x57 x58 x59 x60 x61 x62 x63 x64 x65 x66 x67 x68 x69 x70 x71 p17 x72 c17 x73 x74 p18 x75 c18 p19 x76 c19 p20 x77 c20, k12 b2, k10 b1 x1.f0 x1.f1 x1.f2 x1.f3 x1.f4 x1.f5 x1.f6 x1.f7 x1.f8 x1.f9 x1.f10 x1.f11 x1.f12 x1.f13.f0 x1.f13.f1 x1.f13.f2 x1.f13.f3 x1.f14.f0 x1.f14.f1 p1 x1.f14.f2 c1 x1.f14.f3 x1.f14.f4 p2 x1.f15 c2 p3 x1.f16 c3 p4 x1.f17 c4, F] ih ∧ RSl e3 ih [] p17 c17 x72 ∧ RSl Qcf ih [] p18 c18 x75 ∧ RSl e96 ih [] p19 c19 x76 ∧ RSl e5 ih [] p20 c20 x77
   refine Qo (by kernel_rfl) (N := 7) rfl S J2 ?_ ?_
   ·have hw := hw.drew
    have hS : S (bA 7 0) _ := SXn hD (hw.vws [0, 1, 2, 3])
    refine Qy kS hs hS 0 rfl (SXb hD 0 rfl) 0 fun a hs hS => ?_
    refine Qy kS hs hS 1 rfl (SXb hD 2 rfl) 0 fun a hs hS => ?_
    refine Qp (fuel := 3) kS hs hS [2, 3] fun a hs hS => ?_
    obtain ⟨x78, h12, hx2⟩ := bindE hx2
    refine QgJ (fuel := 2) kS hs hS 4 rfl (by kernel_rfl) noT (by kernel_rfl) (fun w _ => (QjM (xs := y1) (k := .i64) (by kernel_rfl) (by kernel_rfl) (by kernel_rfl) h12)) fun a hs hS => ?_
    refine Qgn hS fun hS => ?_
    refine QF [5] (QH ?_)
    obtain ⟨y4, h13, hx2⟩ := bindE hx2
    refine QaR hs rfl (Qgt h13 h7 h8 h9 h10 h1 h2 h3 h4 ((hw.pk [0, 1, 2, 3]).pack 0)) fun a w v hv hs => ?_
    obtain ⟨p21, c21, p22, c22, p23, c23, p24, c24, rfl, hw, h14, h15, h16, h17⟩ := hv
    have hw := hw.unpack 0 rfl
    refine nx hD ((hw.vws [0, 1, 2, 3]).anti (Le.refl _)) fun hS => ?_
    refine QF [6] (QH ?_)
    refine QfM hs hw rfl 0 rfl 0 (v := A48 y4 p21 c21 p22 c22 p23 c23 p24 c24) fun a w hs hw => ?_
    refine nx hD ((hw.vws [1, 2, 3]).anti (Le.refl _)) fun hS => ?_
    refine QhI ?_
    obtain rfl := someE hx2
    exact (hJ2 _ _).2 ⟨y4.f0, y4.f1, y4.f2, y4.f3, y4.f4, y4.f5, y4.f6, y4.f7, y4.f8, y4.f9, y4.f10, y4.f11, y4.f12, y4.f13.f0, y4.f13.f1, y4.f13.f2, y4.f13.f3, y4.f14.f0, y4.f14.f1, y4.f14.f2, y4.f14.f3, y4.f14.f4, y4.f15, y4.f16, y4.f17, p21, c21, p22, c22, p23, c23, p24, c24, hx1, hs.cst, hw.pk [0, 1, 2, 3], h14, h15, h16, h17⟩
   intro a w hh
   obtain ⟨x53, x54, x55, x56, x57, x58, x59, x60, x61, x62, x63, x64, x65, x66, x67, x68, x69, x70, x71, x72, x73, x74, x75, x76, x77, p17, c17, p18, c18, p19, c19, p20, c20, hx1, hs, hw, h18, h19, h20, h21⟩ := (hJ2 _ _).1 hh
   refine Qa (pu hs 3 fun a hs => ?_)
   refine Qc ?_
   exact (hI1 _ _ _).2 ⟨(IntKind.i64.wrap (x27 + 1)), x53, x54, x55, x56, x57, x58, x59, x60, x61, x62, x63, x64, x65, x66, x67, x68, x69, x70, x71, x72, x73, x74, x75, x76, x77, p17, c17, p18, c18, p19, c19, p20, c20, hx1, hs.cst, hw.pk [0, 1, 2, 3], h18, h19, h20, h21⟩
  refine Qs hs h11 (Qa3 ?_)
  obtain rfl := someE hx1
  exact (hJ1 _ _).2 ⟨x28, x29, x30, x31, x32, x33, x34, x35, x36, x37, x38, x39, x40, x41, x42, x43, x44, x45, x46, x47, x48, x49, x50, x51, x52, p13, c13, p14, c14, p15, c15, p16, c16, hk, hs.cst, hw.pk [0, 1, 3], h7, h8, h9, h10⟩
 intro a w hh
 obtain ⟨x2, x3, x4, x5, x6, x7, x8, x9, x10, x11, x12, x13, x14, x15, x16, x17, x18, x19, x20, x21, x22, x23, x24, x25, x26, p9, c9, p10, c10, p11, c11, p12, c12, hk, hs, hw, h22, h23, h24, h25⟩ := (hJ1 _ _).1 hh
 refine Qd (Qa (Qj hs (hw.at_ 0 rfl) 0 fun a hs => ?_))
 refine QE hs hw 1 rfl 0 (v := .agg #[Qb x2, Qb x3, Qb x4, Qb x5, Qe x6, Qe x7, Qe x8, Qe x9, Qe x10, Qe x11, Qb x12, Qk x13, Qb x14, Qb x15, Qb x16, Qe x17, Qb x18, Qb x19, Qe x20, .slice p9 x21.length c9, .bool x22, Qb x23, .slice p10 x24.length c10, .slice p11 x25.length c11, .slice p12 x26.length c12]) fun a w hs hw => ?_
 have hs := hs.cst (e' := [(2, (pt b2 0))])
 refine Qc (Qi ?_)
 obtain rfl := someE hk
 refine hQ _ _ (QaU hs rfl (hw.at_ 1 rfl) (by kernel_rfl) (v := .agg #[Qb x2, Qb x3, Qb x4, Qb x5, Qe x6, Qe x7, Qe x8, Qe x9, Qe x10, Qe x11, Qb x12, Qk x13, Qb x14, Qb x15, Qb x16, Qe x17, Qb x18, Qb x19, Qe x20, .slice p9 x21.length c9, .bool x22, Qb x23, .slice p10 x24.length c10, .slice p11 x25.length c11, .slice p12 x26.length c12]) (by kernel_rfl) ⟨p9, c9, p10, c10, p11, c11, p12, c12, rfl, hw.pk [2], h22, h23, h24, h25⟩)
def QdZ : Option Bool :=
 some true
def Qcm (rec_catenaryref04_Same_l11 : Int → Option (Sum Bool Unit)) (x1 : Int) (x2 : Bool) : Option (Sum Bool Unit) :=
 if x2 = true then some (.inl false)
 else rec_catenaryref04_Same_l11 (IntKind.i64.wrap (x1 + 1))
def catenaryref04_Same_l11 (x1 : List Int) (x2 : List Int) : Nat → Int → Option (Sum Bool Unit)
 | 0, _ => none
 | j + 1, x3 =>
  if (decide (x3 < (x1.length : Int))) = true then (
   ((ix x1 x3).bind fun x4 =>
    (ix x2 x3).bind fun x5 =>
    some (x4 != x5) : Option Bool).bind fun s1 => Qcm (catenaryref04_Same_l11 x1 x2 j) x3 s1)
  else some (.inr ())
def Qcw (k : Nat) (x1 x2 : List Int) : Option Bool :=
 if ((x1.length : Int) != (x2.length : Int)) = true then some false
 else (catenaryref04_Same_l11 x1 x2 k 0 : Option (Sum Bool Unit)).bind fun
  | .inl z => some z
  | .inr _ => QdZ
theorem Qg5 {k : Nat} {x1 x2 : List Int} {d1 d2 : Ch} {c1 c2 : Nat} {p1 p2 : Option Addr} {r : Bool} (hk : Qcw k x1 x2 = some r) {g w : World} {F : Ch} {ih : IH} (h1 : RSl e3 ih d1 p1 c1 x1) (h2 : ∀ q ∈ d1, q ∈ F) (h3 : RSl e3 ih d2 p2 c2 x2) (h4 : ∀ q ∈ d2, q ∈ F) (hw : St g w [F] ih) :
  CallsR Tryz.prog 122 #[.slice p1 x1.length c1, .slice p2 x2.length c2] w fun v w' => v = .bool r ∧ St g w' [F] ih := by
 refine f_i Tryz.func122 rfl 26 rfl fun a Qf hQ hQn hs => ?_
 refine Qd (Qa (pn hs 1 [(0, .slice p1 x1.length c1), (1, .slice p2 x2.length c2)] fun a hs => ?_))
 refine Qc (Qd (Qd (Qa (pn hs 5 [(0, .slice p1 x1.length c1), (1, .slice p2 x2.length c2), (10, .bool ((x1.length : Int) != (x2.length : Int)))] fun a hs => ?_))))
 refine Qc ?_
 rcases ifbE hk with ⟨h5, hk⟩ | ⟨h5, hk⟩
 ·refine Qr hs h5 ?_
  refine Qd (Qa (pn hs 1 [(4, .bool false)] fun a hs => ?_))
  refine Qc (Qi ?_)
  obtain rfl := someE hk
  exact qr1 hQ hs ⟨rfl, hw.pk [0]⟩
 refine Qs hs h5 ?_
 refine Qg (Qd (Qd (Qa (pn hs 1 [(0, .slice p1 x1.length c1), (1, .slice p2 x2.length c2), (5, Qb 0)] fun a hs => ?_))))
 refine Qc (Ql ?_)
 obtain ⟨y1, hx1, hk⟩ := bindE hk
 obtain ⟨J1, hJ1⟩ := mkJ fun a w => QdZ = some r ∧ Sees a 26 [] ∧ St g w [F] ih
 obtain ⟨I1, hI1⟩ := QhB fun j a w => ∃ (x3 : Int), catenaryref04_Same_l11 x1 x2 j x3 = some y1 ∧ Sees a 26 [(0, .slice p1 x1.length c1), (1, .slice p2 x2.length c2), (5, Qb x3)] ∧ St g w [F] ih
 refine Qau 0 J1 ?_ ?_
 ·refine QbO I1 k ((hI1 _ _ _).2 ⟨0, hx1, hs.cst, hw.pk [0]⟩) (fun a w h6 => ?_) fun j a w hh => ?_
  ·obtain ⟨_, h, _⟩ := (hI1 _ _ _).1 h6
   cases h
  obtain ⟨x3, hx1, hs, hw⟩ := (hI1 _ _ _).1 hh
  refine Qd (Qd (Qa (pn hs 4 [(0, .slice p1 x1.length c1), (1, .slice p2 x2.length c2), (5, Qb x3), (14, .bool (decide (x3 < (x1.length : Int))))] fun a hs => ?_)))
  refine Qc ?_
  rcases ifbE hx1 with ⟨h7, hx1⟩ | ⟨h7, hx1⟩
  ·refine Qr hs h7 ?_
   refine Qg (Qd (Ql (Qd ?_)))
   obtain ⟨S, hD, kS⟩ := mkSXw hw [[]] (K := []) rfl
   obtain ⟨y2, hx2, hx1⟩ := bindE hx1
   obtain ⟨J2, hJ2⟩ := mkJ fun a w => ∃ (x4 : Bool), Qcm (catenaryref04_Same_l11 x1 x2 j) x3 x4 = some y1 ∧ Sees a 26 [(0, .slice p1 x1.length c1), (1, .slice p2 x2.length c2), (5, Qb x3), (25, .bool x4)] ∧ St g w [F] ih
   refine Qo (by kernel_rfl) (N := 9) rfl S J2 ?_ ?_
   ·have hw := hw.drew
    have hS : S (bA 9 0) _ := SXn hD (hw.vws [0])
    refine Qp (fuel := 7) kS hs hS [0, 1] fun a hs hS => ?_
    obtain ⟨x5, h8, hx2⟩ := bindE hx2
    refine Qay (fuel := 6) kS hs hS 2 rfl (by kernel_rfl) h1 (by kernel_rfl) (by kernel_rfl) (k := .i64) (by kernel_rfl) 3 (by kernel_rfl) (by kernel_rfl) h8 fun a r279 cs henc at280 hs hS => ?_
    refine Qgn hS fun hS => ?_
    obtain rfl := henc
    refine Qy kS hs hS 3 rfl (fun l w hu hS => at280 w (((Qfi hD 0 rfl (by kernel_rfl) l w hu hS).sub h2).anti (Le.refl _))) 0 fun a hs hS => ?_
    refine Qp (fuel := 3) kS hs hS [4, 5] fun a hs hS => ?_
    obtain ⟨x6, h9, hx2⟩ := bindE hx2
    refine Qay (fuel := 2) kS hs hS 6 rfl (by kernel_rfl) h3 (by kernel_rfl) (by kernel_rfl) (k := .i64) (by kernel_rfl) 3 (by kernel_rfl) (by kernel_rfl) h9 fun a r283 cs henc at284 hs hS => ?_
    refine Qgn hS fun hS => ?_
    obtain rfl := henc
    refine Qy kS hs hS 7 rfl (fun l w hu hS => at284 w (((Qfi hD 0 rfl (by kernel_rfl) l w hu hS).sub h4).anti (Le.refl _))) 0 fun a hs hS => ?_
    refine Qu kS hs hS fun a hs => ?_
    obtain rfl := someE hx2
    exact (hJ2 _ _).2 ⟨(x5 != x6), hx1, hs.cst, hw.pk [0]⟩
   intro a w hh
   obtain ⟨x4, hx1, hs, hw⟩ := (hJ2 _ _).1 hh
   rcases ifbE hx1 with ⟨h10, hx1⟩ | ⟨h10, hx1⟩
   ·refine Qr hs h10 ?_
    refine Qd (Qa (pn hs 1 [(4, .bool false)] fun a hs => ?_))
    refine Qc (Qi ?_)
    obtain rfl := someE hx1
    obtain rfl := someE hk
    exact qr1 hQ hs ⟨rfl, hw.pk [0]⟩
   refine Qs hs h10 ?_
   refine Qg (Qa (pu hs 3 fun a hs => ?_))
   refine Qc ?_
   exact (hI1 _ _ _).2 ⟨(IntKind.i64.wrap (x3 + 1)), hx1, hs.cst, hw.pk [0]⟩
  refine Qs hs h7 (Qa3 ?_)
  obtain rfl := someE hx1
  exact (hJ1 _ _).2 ⟨hk, hs.cst, hw.pk [0]⟩
 intro a w hh
 obtain ⟨hk, hs, hw⟩ := (hJ1 _ _).1 hh
 refine Qd (Qa (pn hs 1 [(4, .bool true)] fun a hs => ?_))
 refine Qc (Qi ?_)
 obtain rfl := someE hk
 exact qr1 hQ hs ⟨rfl, hw.pk [0]⟩
def QcN (x1 : Bool) : Option Bool :=
 some x1
def Qbg (k : Nat) (x1 x2 : M44) : Option Bool :=
 (if (x1.f0 == x2.f0) = true then (
   if (x1.f1 == x2.f1) = true then (
    if (x1.f3 == x2.f3) = true then (
     if (x1.f4 == x2.f4) = true then (
      (Qcw k x1.f2 x2.f2).bind fun y1 =>
      some y1)
     else some false)
    else some false)
   else some false)
  else some false : Option Bool).bind fun s1 => QcN s1
theorem QeF {k : Nat} {x1 x2 : M44} {c1 c2 : Nat} {p1 p2 : Option Addr} {r : Bool} (hk : Qbg k x1 x2 = some r) {g w : World} {F : Ch} {ih : IH} (h1 : RSl e3 ih [] p1 c1 x1.f2) (h2 : RSl e3 ih [] p2 c2 x2.f2) (hw : St g w [F] ih) :
  CallsR Tryz.prog 77 #[A44 x1 p1 c1, A44 x2 p2 c2] w fun v w' => v = .bool r ∧ St g w' [F] ih := by
 refine f_i Tryz.func77 rfl 38 rfl fun a Qf hQ hQn hs => ?_
 refine Qd (Qa (QC hs hw [Qb x1.f0, Qe x1.f1, .slice p1 x1.f2.length c1, .bool x1.f3, Qb x1.f4] 44 (fun b => (pt b 0)) (by kernel_rfl) (fun _ => by kernel_rfl) fun a w b1 hs hw => ?_))
 refine QaN hs hw [Qb x2.f0, Qe x2.f1, .slice p2 x2.f2.length c2, .bool x2.f3, Qb x2.f4] 44 (fun b => (pt b 0)) fun a w b2 hs hw => ?_
 refine pn hs 1 [(2, (pt b1 0)), (3, (pt b2 0))] fun a hs => Qc (Qd ?_)
 obtain ⟨y1, hx1, hk⟩ := bindE hk
 obtain ⟨J1, hJ1⟩ := mkJ fun a w => ∃ (x3 : Bool), QcN x3 = some r ∧ Sees a 38 [(4, .bool x3)] ∧ St g w [F] ih
 refine Qn J1 ?_ ?_
 ·refine pu hs 1 fun a hs => Qj hs (hw.at_ 1 rfl) 0 fun a hs => pu hs 1 fun a hs => Qj hs (hw.at_ 0 rfl) 0 fun a hs => pu hs 2 fun a hs => ?_
  rcases ifbE hx1 with ⟨h3, hx1⟩ | ⟨h3, hx1⟩
  ·have hs := hs.aB 10 h3
   refine pn hs 1 [(2, (pt b1 0)), (3, (pt b2 0)), (10, .bool true), (11, (pt b1 1))] fun a hs => Qj hs (hw.at_ 1 rfl) 1 fun a hs => pu hs 1 fun a hs => Qj hs (hw.at_ 0 rfl) 1 fun a hs => ?_
   refine pu hs 3 fun a hs => ?_
   rcases ifbE hx1 with ⟨h4, hx1⟩ | ⟨h4, hx1⟩
   ·have hs := hs.aB 17 h4
    refine pu hs 1 fun a hs => Qj hs (hw.at_ 1 rfl) 3 fun a hs => pn hs 1 [(2, (pt b1 0)), (3, (pt b2 0)), (17, .bool true), (19, .bool x1.f3), (20, (pt b2 3))] fun a hs => ?_
    refine Qj hs (hw.at_ 0 rfl) 3 fun a hs => pu hs 3 fun a hs => ?_
    rcases ifbE hx1 with ⟨h5, hx1⟩ | ⟨h5, hx1⟩
    ·have hs := hs.aB 24 h5
     refine pu hs 1 fun a hs => Qj hs (hw.at_ 1 rfl) 4 fun a hs => pu hs 1 fun a hs => Qj hs (hw.at_ 0 rfl) 4 fun a hs => pn hs 3 [(2, (pt b1 0)), (3, (pt b2 0)), (31, .bool (x1.f4 == x2.f4))] fun a hs => ?_
     rcases ifbE hx1 with ⟨h6, hx1⟩ | ⟨h6, hx1⟩
     ·have hs := hs.aB 31 h6
      refine pu hs 1 fun a hs => Qj hs (hw.at_ 1 rfl) 2 fun a hs => pu hs 1 fun a hs => Qj hs (hw.at_ 0 rfl) 2 fun a hs => ?_
      obtain ⟨y2, h7, hx1⟩ := bindE hx1
      refine Qv hs (Qg5 h7 h1 (nilSub _) h2 (nilSub _) ((hw.pk [2]).pack 0)) fun a w v hv hs => ?_
      obtain ⟨rfl, hw⟩ := hv
      have hw := hw.unpack 0 rfl
      refine pu hs 2 fun a hs => ?_
      have hw := hw.cL [F]
      refine Qc ?_
      obtain rfl := someE hx1
      exact (hJ1 _ _).2 ⟨y2, hk, hs.cst, hw.pk [0]⟩
     have hs := hs.aB 31 h6
     refine pu hs 7 fun a hs => Qc ?_
     obtain rfl := someE hx1
     exact (hJ1 _ _).2 ⟨false, hk, hs.cst, hw.pk [2]⟩
    have hs := hs.aB 24 h5
    refine pu hs 14 fun a hs => Qc ?_
    obtain rfl := someE hx1
    exact (hJ1 _ _).2 ⟨false, hk, hs.cst, hw.pk [2]⟩
   have hs := hs.aB 17 h4
   refine pu hs 21 fun a hs => Qc ?_
   obtain rfl := someE hx1
   exact (hJ1 _ _).2 ⟨false, hk, hs.cst, hw.pk [2]⟩
  have hs := hs.aB 10 h3
  refine pn hs 28 [(4, .bool false)] fun a hs => Qc ?_
  obtain rfl := someE hx1
  exact (hJ1 _ _).2 ⟨false, hk, hs.cst, hw.pk [2]⟩
 intro a w hh
 obtain ⟨x3, hk, hs, hw⟩ := (hJ1 _ _).1 hh
 refine Qi ?_
 obtain rfl := someE hk
 exact qr1 hQ hs ⟨rfl, hw.pk [0]⟩
def QcM : Option Bool :=
 some true
def QaY (rec_catenaryref10_SameVotes_l11 : Int → Option (Sum Bool Unit)) (x1 : Int) (x2 : Bool) : Option (Sum Bool Unit) :=
 if x2 = true then some (.inl false)
 else rec_catenaryref10_SameVotes_l11 (IntKind.i64.wrap (x1 + 1))
def catenaryref10_SameVotes_l11 (x1 : List M156) (x2 : List M156) : Nat → Int → Option (Sum Bool Unit)
 | 0, _ => none
 | j + 1, x3 =>
  if (decide (x3 < (x1.length : Int))) = true then (
   ((ix x1 x3).bind fun x4 =>
    (ix x2 x3).bind fun x5 =>
    some (!((x4.f0 == x5.f0) && ((x4.f1 == x5.f1) && (((x4.f2.f0 == x5.f2.f0) && ((x4.f2.f1 == x5.f2.f1) && ((x4.f2.f2 == x5.f2.f2) && ((x4.f2.f3 == x5.f2.f3) && true)))) && true)))) : Option Bool).bind fun s1 => QaY (catenaryref10_SameVotes_l11 x1 x2 j) x3 s1)
  else some (.inr ())
def QaO (k : Nat) (x1 x2 : List M156) : Option Bool :=
 if ((x1.length : Int) != (x2.length : Int)) = true then some false
 else (catenaryref10_SameVotes_l11 x1 x2 k 0 : Option (Sum Bool Unit)).bind fun
  | .inl z => some z
  | .inr _ => QcM
theorem QfC {k : Nat} {x1 x2 : List M156} {d1 d2 : Ch} {c1 c2 : Nat} {p1 p2 : Option Addr} {r : Bool} (hk : QaO k x1 x2 = some r) {g w : World} {F : Ch} {ih : IH} (h1 : RSl Qcf ih d1 p1 c1 x1) (h2 : ∀ q ∈ d1, q ∈ F) (h3 : RSl Qcf ih d2 p2 c2 x2) (h4 : ∀ q ∈ d2, q ∈ F) (hw : St g w [F] ih) :
  CallsR Tryz.prog 78 #[.slice p1 x1.length c1, .slice p2 x2.length c2] w fun v w' => v = .bool r ∧ St g w' [F] ih := by
 refine f_i Tryz.func78 rfl 26 rfl fun a Qf hQ hQn hs => ?_
 refine Qd (Qa (pn hs 1 [(0, .slice p1 x1.length c1), (1, .slice p2 x2.length c2)] fun a hs => ?_))
 refine Qc (Qd (Qd (Qa (pn hs 5 [(0, .slice p1 x1.length c1), (1, .slice p2 x2.length c2), (10, .bool ((x1.length : Int) != (x2.length : Int)))] fun a hs => ?_))))
 refine Qc ?_
 rcases ifbE hk with ⟨h5, hk⟩ | ⟨h5, hk⟩
 ·refine Qr hs h5 ?_
  refine Qd (Qa (pn hs 1 [(4, .bool false)] fun a hs => ?_))
  refine Qc (Qi ?_)
  obtain rfl := someE hk
  exact qr1 hQ hs ⟨rfl, hw.pk [0]⟩
 refine Qs hs h5 ?_
 refine Qg (Qd (Qd (Qa (pn hs 1 [(0, .slice p1 x1.length c1), (1, .slice p2 x2.length c2), (5, Qb 0)] fun a hs => ?_))))
 refine Qc (Ql ?_)
 obtain ⟨y1, hx1, hk⟩ := bindE hk
 obtain ⟨J1, hJ1⟩ := mkJ fun a w => QcM = some r ∧ Sees a 26 [] ∧ St g w [F] ih
 obtain ⟨I1, hI1⟩ := QhB fun j a w => ∃ (x3 : Int), catenaryref10_SameVotes_l11 x1 x2 j x3 = some y1 ∧ Sees a 26 [(0, .slice p1 x1.length c1), (1, .slice p2 x2.length c2), (5, Qb x3)] ∧ St g w [F] ih
 refine Qau 0 J1 ?_ ?_
 ·refine QbO I1 k ((hI1 _ _ _).2 ⟨0, hx1, hs.cst, hw.pk [0]⟩) (fun a w h6 => ?_) fun j a w hh => ?_
  ·obtain ⟨_, h, _⟩ := (hI1 _ _ _).1 h6
   cases h
  obtain ⟨x3, hx1, hs, hw⟩ := (hI1 _ _ _).1 hh
  refine Qd (Qd (Qa (pn hs 4 [(0, .slice p1 x1.length c1), (1, .slice p2 x2.length c2), (5, Qb x3), (14, .bool (decide (x3 < (x1.length : Int))))] fun a hs => ?_)))
  refine Qc ?_
  rcases ifbE hx1 with ⟨h7, hx1⟩ | ⟨h7, hx1⟩
  ·refine Qr hs h7 ?_
   refine Qg (Qd (Ql (Qd ?_)))
   obtain ⟨S, hD, kS⟩ := mkSXw hw [[]] (K := []) rfl
   obtain ⟨y2, hx2, hx1⟩ := bindE hx1
   obtain ⟨J2, hJ2⟩ := mkJ fun a w => ∃ (x4 : Bool), QaY (catenaryref10_SameVotes_l11 x1 x2 j) x3 x4 = some y1 ∧ Sees a 26 [(0, .slice p1 x1.length c1), (1, .slice p2 x2.length c2), (5, Qb x3), (25, .bool x4)] ∧ St g w [F] ih
   refine Qo (by kernel_rfl) (N := 9) rfl S J2 ?_ ?_
   ·have hw := hw.drew
    have hS : S (bA 9 0) _ := SXn hD (hw.vws [0])
    refine Qp (fuel := 7) kS hs hS [0, 1] fun a hs hS => ?_
    obtain ⟨x5, h8, hx2⟩ := bindE hx2
    refine Qay (fuel := 6) kS hs hS 2 rfl (by kernel_rfl) h1 (by kernel_rfl) (by kernel_rfl) (k := .i64) (by kernel_rfl) 156 (by kernel_rfl) (by kernel_rfl) h8 fun a r279 cs henc at280 hs hS => ?_
    refine Qgn hS fun hS => ?_
    obtain rfl := henc
    refine Qy kS hs hS 3 rfl (fun l w hu hS => at280 w (((Qfi hD 0 rfl (by kernel_rfl) l w hu hS).sub h2).anti (Le.refl _))) 0 fun a hs hS => ?_
    refine Qp (fuel := 3) kS hs hS [4, 5] fun a hs hS => ?_
    obtain ⟨x6, h9, hx2⟩ := bindE hx2
    refine Qay (fuel := 2) kS hs hS 6 rfl (by kernel_rfl) h3 (by kernel_rfl) (by kernel_rfl) (k := .i64) (by kernel_rfl) 156 (by kernel_rfl) (by kernel_rfl) h9 fun a r283 cs henc at284 hs hS => ?_
    refine Qgn hS fun hS => ?_
    obtain rfl := henc
    refine Qy kS hs hS 7 rfl (fun l w hu hS => at284 w (((Qfi hD 0 rfl (by kernel_rfl) l w hu hS).sub h4).anti (Le.refl _))) 0 fun a hs hS => ?_
    refine Qno (fuel := 0) kS hs hS 8 rfl (by kernel_rfl) (c1 := [Qb x5.f0, Qe x5.f1, Qb x5.f2.f0, Qb x5.f2.f1, Qe x5.f2.f2, Qb x5.f2.f3]) (c2 := [Qb x6.f0, Qe x6.f1, Qb x6.f2.f0, Qb x6.f2.f1, Qe x6.f2.f2, Qb x6.f2.f3]) ((x5.f0 == x6.f0) && ((x5.f1 == x6.f1) && (((x5.f2.f0 == x6.f2.f0) && ((x5.f2.f1 == x6.f2.f1) && ((x5.f2.f2 == x6.f2.f2) && ((x5.f2.f3 == x6.f2.f3) && true)))) && true))) (by kernel_rfl) (by kernel_rfl) (by kernel_rfl) (by kernel_rfl) (by kernel_rfl) fun a hs hS => ?_
    refine Qgn hS fun hS => ?_
    refine QhI ?_
    obtain rfl := someE hx2
    exact (hJ2 _ _).2 ⟨(!((x5.f0 == x6.f0) && ((x5.f1 == x6.f1) && (((x5.f2.f0 == x6.f2.f0) && ((x5.f2.f1 == x6.f2.f1) && ((x5.f2.f2 == x6.f2.f2) && ((x5.f2.f3 == x6.f2.f3) && true)))) && true)))), hx1, hs.cst, hw.pk [0]⟩
   intro a w hh
   obtain ⟨x4, hx1, hs, hw⟩ := (hJ2 _ _).1 hh
   rcases ifbE hx1 with ⟨h10, hx1⟩ | ⟨h10, hx1⟩
   ·refine Qr hs h10 ?_
    refine Qd (Qa (pn hs 1 [(4, .bool false)] fun a hs => ?_))
    refine Qc (Qi ?_)
    obtain rfl := someE hx1
    obtain rfl := someE hk
    exact qr1 hQ hs ⟨rfl, hw.pk [0]⟩
   refine Qs hs h10 ?_
   refine Qg (Qa (pu hs 3 fun a hs => ?_))
   refine Qc ?_
   exact (hI1 _ _ _).2 ⟨(IntKind.i64.wrap (x3 + 1)), hx1, hs.cst, hw.pk [0]⟩
  refine Qs hs h7 (Qa3 ?_)
  obtain rfl := someE hx1
  exact (hJ1 _ _).2 ⟨hk, hs.cst, hw.pk [0]⟩
 intro a w hh
 obtain ⟨hk, hs, hw⟩ := (hJ1 _ _).1 hh
 refine Qd (Qa (pn hs 1 [(4, .bool true)] fun a hs => ?_))
 refine Qc (Qi ?_)
 obtain rfl := someE hk
 exact qr1 hQ hs ⟨rfl, hw.pk [0]⟩
def Qd0 : Option Bool :=
 some true
def Qcn (rec_catenaryref01_Same_l11 : Int → Option (Sum Bool Unit)) (x1 : Int) (x2 : Bool) : Option (Sum Bool Unit) :=
 if x2 = true then some (.inl false)
 else rec_catenaryref01_Same_l11 (IntKind.i64.wrap (x1 + 1))
def catenaryref01_Same_l11 (x1 : List Int) (x2 : List Int) : Nat → Int → Option (Sum Bool Unit)
 | 0, _ => none
 | j + 1, x3 =>
  if (decide (x3 < (x1.length : Int))) = true then (
   ((ix x1 x3).bind fun x4 =>
    (ix x2 x3).bind fun x5 =>
    some (x4 != x5) : Option Bool).bind fun s1 => Qcn (catenaryref01_Same_l11 x1 x2 j) x3 s1)
  else some (.inr ())
def Qz (k : Nat) (x1 x2 : List Int) : Option Bool :=
 if ((x1.length : Int) != (x2.length : Int)) = true then some false
 else (catenaryref01_Same_l11 x1 x2 k 0 : Option (Sum Bool Unit)).bind fun
  | .inl z => some z
  | .inr _ => Qd0
theorem QL {k : Nat} {x1 x2 : List Int} {d1 d2 : Ch} {c1 c2 : Nat} {p1 p2 : Option Addr} {r : Bool} (hk : Qz k x1 x2 = some r) {g w : World} {F : Ch} {ih : IH} (h1 : RSl e5 ih d1 p1 c1 x1) (h2 : ∀ q ∈ d1, q ∈ F) (h3 : RSl e5 ih d2 p2 c2 x2) (h4 : ∀ q ∈ d2, q ∈ F) (hw : St g w [F] ih) :
  CallsR Tryz.prog 15 #[.slice p1 x1.length c1, .slice p2 x2.length c2] w fun v w' => v = .bool r ∧ St g w' [F] ih := by
 refine f_i Tryz.func15 rfl 26 rfl fun a Qf hQ hQn hs => ?_
 refine Qd (Qa (pn hs 1 [(0, .slice p1 x1.length c1), (1, .slice p2 x2.length c2)] fun a hs => ?_))
 refine Qc (Qd (Qd (Qa (pn hs 5 [(0, .slice p1 x1.length c1), (1, .slice p2 x2.length c2), (10, .bool ((x1.length : Int) != (x2.length : Int)))] fun a hs => ?_))))
 refine Qc ?_
 rcases ifbE hk with ⟨h5, hk⟩ | ⟨h5, hk⟩
 ·refine Qr hs h5 ?_
  refine Qd (Qa (pn hs 1 [(4, .bool false)] fun a hs => ?_))
  refine Qc (Qi ?_)
  obtain rfl := someE hk
  exact qr1 hQ hs ⟨rfl, hw.pk [0]⟩
 refine Qs hs h5 ?_
 refine Qg (Qd (Qd (Qa (pn hs 1 [(0, .slice p1 x1.length c1), (1, .slice p2 x2.length c2), (5, Qb 0)] fun a hs => ?_))))
 refine Qc (Ql ?_)
 obtain ⟨y1, hx1, hk⟩ := bindE hk
 obtain ⟨J1, hJ1⟩ := mkJ fun a w => Qd0 = some r ∧ Sees a 26 [] ∧ St g w [F] ih
 obtain ⟨I1, hI1⟩ := QhB fun j a w => ∃ (x3 : Int), catenaryref01_Same_l11 x1 x2 j x3 = some y1 ∧ Sees a 26 [(0, .slice p1 x1.length c1), (1, .slice p2 x2.length c2), (5, Qb x3)] ∧ St g w [F] ih
 refine Qau 0 J1 ?_ ?_
 ·refine QbO I1 k ((hI1 _ _ _).2 ⟨0, hx1, hs.cst, hw.pk [0]⟩) (fun a w h6 => ?_) fun j a w hh => ?_
  ·obtain ⟨_, h, _⟩ := (hI1 _ _ _).1 h6
   cases h
  obtain ⟨x3, hx1, hs, hw⟩ := (hI1 _ _ _).1 hh
  refine Qd (Qd (Qa (pn hs 4 [(0, .slice p1 x1.length c1), (1, .slice p2 x2.length c2), (5, Qb x3), (14, .bool (decide (x3 < (x1.length : Int))))] fun a hs => ?_)))
  refine Qc ?_
  rcases ifbE hx1 with ⟨h7, hx1⟩ | ⟨h7, hx1⟩
  ·refine Qr hs h7 ?_
   refine Qg (Qd (Ql (Qd ?_)))
   obtain ⟨S, hD, kS⟩ := mkSXw hw [[]] (K := []) rfl
   obtain ⟨y2, hx2, hx1⟩ := bindE hx1
   obtain ⟨J2, hJ2⟩ := mkJ fun a w => ∃ (x4 : Bool), Qcn (catenaryref01_Same_l11 x1 x2 j) x3 x4 = some y1 ∧ Sees a 26 [(0, .slice p1 x1.length c1), (1, .slice p2 x2.length c2), (5, Qb x3), (25, .bool x4)] ∧ St g w [F] ih
   refine Qo (by kernel_rfl) (N := 9) rfl S J2 ?_ ?_
   ·have hw := hw.drew
    have hS : S (bA 9 0) _ := SXn hD (hw.vws [0])
    refine Qp (fuel := 7) kS hs hS [0, 1] fun a hs hS => ?_
    obtain ⟨x5, h8, hx2⟩ := bindE hx2
    refine Qay (fuel := 6) kS hs hS 2 rfl (by kernel_rfl) h1 (by kernel_rfl) (by kernel_rfl) (k := .i64) (by kernel_rfl) 5 (by kernel_rfl) (by kernel_rfl) h8 fun a r279 cs henc at280 hs hS => ?_
    refine Qgn hS fun hS => ?_
    obtain rfl := henc
    refine Qy kS hs hS 3 rfl (fun l w hu hS => at280 w (((Qfi hD 0 rfl (by kernel_rfl) l w hu hS).sub h2).anti (Le.refl _))) 0 fun a hs hS => ?_
    refine Qp (fuel := 3) kS hs hS [4, 5] fun a hs hS => ?_
    obtain ⟨x6, h9, hx2⟩ := bindE hx2
    refine Qay (fuel := 2) kS hs hS 6 rfl (by kernel_rfl) h3 (by kernel_rfl) (by kernel_rfl) (k := .i64) (by kernel_rfl) 5 (by kernel_rfl) (by kernel_rfl) h9 fun a r283 cs henc at284 hs hS => ?_
    refine Qgn hS fun hS => ?_
    obtain rfl := henc
    refine Qy kS hs hS 7 rfl (fun l w hu hS => at284 w (((Qfi hD 0 rfl (by kernel_rfl) l w hu hS).sub h4).anti (Le.refl _))) 0 fun a hs hS => ?_
    refine Qu kS hs hS fun a hs => ?_
    obtain rfl := someE hx2
    exact (hJ2 _ _).2 ⟨(x5 != x6), hx1, hs.cst, hw.pk [0]⟩
   intro a w hh
   obtain ⟨x4, hx1, hs, hw⟩ := (hJ2 _ _).1 hh
   rcases ifbE hx1 with ⟨h10, hx1⟩ | ⟨h10, hx1⟩
   ·refine Qr hs h10 ?_
    refine Qd (Qa (pn hs 1 [(4, .bool false)] fun a hs => ?_))
    refine Qc (Qi ?_)
    obtain rfl := someE hx1
    obtain rfl := someE hk
    exact qr1 hQ hs ⟨rfl, hw.pk [0]⟩
   refine Qs hs h10 ?_
   refine Qg (Qa (pu hs 3 fun a hs => ?_))
   refine Qc ?_
   exact (hI1 _ _ _).2 ⟨(IntKind.i64.wrap (x3 + 1)), hx1, hs.cst, hw.pk [0]⟩
  refine Qs hs h7 (Qa3 ?_)
  obtain rfl := someE hx1
  exact (hJ1 _ _).2 ⟨hk, hs.cst, hw.pk [0]⟩
 intro a w hh
 obtain ⟨hk, hs, hw⟩ := (hJ1 _ _).1 hh
 refine Qd (Qa (pn hs 1 [(4, .bool true)] fun a hs => ?_))
 refine Qc (Qi ?_)
 obtain rfl := someE hk
 exact qr1 hQ hs ⟨rfl, hw.pk [0]⟩
def QaZ (x1 : Bool) : Option Bool :=
 some x1
def QaD (k : Nat) (x1 x2 : M96) : Option Bool :=
 (if (x1.f0 == x2.f0) = true then (
   if (x1.f1 == x2.f1) = true then (
    if (x1.f2 == x2.f2) = true then (
     if (x1.f3 == x2.f3) = true then (
      if (x1.f4 == x2.f4) = true then (
       if (x1.f5 == x2.f5) = true then (
        (Qz k x1.f6 x2.f6).bind fun y1 =>
        some y1)
       else some false)
      else some false)
     else some false)
    else some false)
   else some false)
  else some false : Option Bool).bind fun s1 => QaZ s1
theorem Qfh {k : Nat} {x1 x2 : M96} {c1 c2 : Nat} {p1 p2 : Option Addr} {r : Bool} (hk : QaD k x1 x2 = some r) {g w : World} {F : Ch} {ih : IH} (h1 : RSl e5 ih [] p1 c1 x1.f6) (h2 : RSl e5 ih [] p2 c2 x2.f6) (hw : St g w [F] ih) :
  CallsR Tryz.prog 123 #[A96 x1 p1 c1, A96 x2 p2 c2] w fun v w' => v = .bool r ∧ St g w' [F] ih := by
 refine f_i Tryz.func123 rfl 52 rfl fun a Qf hQ hQn hs => ?_
 refine Qd (Qa (QC hs hw [Qe x1.f0, Qb x1.f1, Qe x1.f2, Qb x1.f3, Qk x1.f4, Qe x1.f5, .slice p1 x1.f6.length c1] 96 (fun b => (pt b 0)) (by kernel_rfl) (fun _ => by kernel_rfl) fun a w b1 hs hw => ?_))
 refine QaN hs hw [Qe x2.f0, Qb x2.f1, Qe x2.f2, Qb x2.f3, Qk x2.f4, Qe x2.f5, .slice p2 x2.f6.length c2] 96 (fun b => (pt b 0)) fun a w b2 hs hw => ?_
 refine pn hs 1 [(2, (pt b1 0)), (3, (pt b2 0))] fun a hs => Qc (Qd ?_)
 obtain ⟨y1, hx1, hk⟩ := bindE hk
 obtain ⟨J1, hJ1⟩ := mkJ fun a w => ∃ (x3 : Bool), QaZ x3 = some r ∧ Sees a 52 [(4, .bool x3)] ∧ St g w [F] ih
 refine Qn J1 ?_ ?_
 ·refine pu hs 1 fun a hs => Qj hs (hw.at_ 1 rfl) 0 fun a hs => pu hs 1 fun a hs => Qj hs (hw.at_ 0 rfl) 0 fun a hs => pu hs 2 fun a hs => ?_
  rcases ifbE hx1 with ⟨h3, hx1⟩ | ⟨h3, hx1⟩
  ·have hs := hs.aB 10 h3
   refine pn hs 1 [(2, (pt b1 0)), (3, (pt b2 0)), (10, .bool true), (11, (pt b1 1))] fun a hs => Qj hs (hw.at_ 1 rfl) 1 fun a hs => pu hs 1 fun a hs => Qj hs (hw.at_ 0 rfl) 1 fun a hs => ?_
   refine pu hs 3 fun a hs => ?_
   rcases ifbE hx1 with ⟨h4, hx1⟩ | ⟨h4, hx1⟩
   ·have hs := hs.aB 17 h4
    refine pu hs 1 fun a hs => Qj hs (hw.at_ 1 rfl) 2 fun a hs => pn hs 1 [(2, (pt b1 0)), (3, (pt b2 0)), (17, .bool true), (19, Qe x1.f2), (20, (pt b2 2))] fun a hs => ?_
    refine Qj hs (hw.at_ 0 rfl) 2 fun a hs => pu hs 3 fun a hs => ?_
    rcases ifbE hx1 with ⟨h5, hx1⟩ | ⟨h5, hx1⟩
    ·have hs := hs.aB 24 h5
     refine pu hs 1 fun a hs => Qj hs (hw.at_ 1 rfl) 3 fun a hs => pu hs 1 fun a hs => Qj hs (hw.at_ 0 rfl) 3 fun a hs => pn hs 3 [(2, (pt b1 0)), (3, (pt b2 0)), (31, .bool (x1.f3 == x2.f3))] fun a hs => ?_
     rcases ifbE hx1 with ⟨h6, hx1⟩ | ⟨h6, hx1⟩
     ·have hs := hs.aB 31 h6
      refine pu hs 1 fun a hs => Qj hs (hw.at_ 1 rfl) 4 fun a hs => pu hs 1 fun a hs => Qj hs (hw.at_ 0 rfl) 4 fun a hs => pu hs 3 fun a hs => ?_
      rcases ifbE hx1 with ⟨h7, hx1⟩ | ⟨h7, hx1⟩
      ·have hs := hs.aB 38 h7
       refine pn hs 1 [(2, (pt b1 0)), (3, (pt b2 0)), (38, .bool true), (39, (pt b1 5))] fun a hs => Qj hs (hw.at_ 1 rfl) 5 fun a hs => pu hs 1 fun a hs => Qj hs (hw.at_ 0 rfl) 5 fun a hs => ?_
       refine pu hs 3 fun a hs => ?_
       rcases ifbE hx1 with ⟨h8, hx1⟩ | ⟨h8, hx1⟩
       ·have hs := hs.aB 45 h8
        refine pu hs 1 fun a hs => Qj hs (hw.at_ 1 rfl) 6 fun a hs => pn hs 1 [(45, .bool true), (47, .slice p1 x1.f6.length c1), (48, (pt b2 6))] fun a hs => Qj hs (hw.at_ 0 rfl) 6 fun a hs => ?_
        obtain ⟨y2, h9, hx1⟩ := bindE hx1
        refine Qv hs (QL h9 h1 (nilSub _) h2 (nilSub _) ((hw.pk [2]).pack 0)) fun a w v hv hs => ?_
        obtain ⟨rfl, hw⟩ := hv
        have hw := hw.unpack 0 rfl
        refine pu hs 2 fun a hs => ?_
        have hw := hw.cL [F]
        refine Qc ?_
        obtain rfl := someE hx1
        exact (hJ1 _ _).2 ⟨y2, hk, hs.cst, hw.pk [0]⟩
       have hs := hs.aB 45 h8
       refine pu hs 7 fun a hs => Qc ?_
       obtain rfl := someE hx1
       exact (hJ1 _ _).2 ⟨false, hk, hs.cst, hw.pk [2]⟩
      have hs := hs.aB 38 h7
      refine pn hs 14 [(4, .bool false)] fun a hs => Qc ?_
      obtain rfl := someE hx1
      exact (hJ1 _ _).2 ⟨false, hk, hs.cst, hw.pk [2]⟩
     have hs := hs.aB 31 h6
     refine pu hs 21 fun a hs => Qc ?_
     obtain rfl := someE hx1
     exact (hJ1 _ _).2 ⟨false, hk, hs.cst, hw.pk [2]⟩
    have hs := hs.aB 24 h5
    refine pu hs 28 fun a hs => Qc ?_
    obtain rfl := someE hx1
    exact (hJ1 _ _).2 ⟨false, hk, hs.cst, hw.pk [2]⟩
   have hs := hs.aB 17 h4
   refine pu hs 35 fun a hs => Qc ?_
   obtain rfl := someE hx1
   exact (hJ1 _ _).2 ⟨false, hk, hs.cst, hw.pk [2]⟩
  have hs := hs.aB 10 h3
  refine pn hs 42 [(4, .bool false)] fun a hs => Qc ?_
  obtain rfl := someE hx1
  exact (hJ1 _ _).2 ⟨false, hk, hs.cst, hw.pk [2]⟩
 intro a w hh
 obtain ⟨x3, hk, hs, hw⟩ := (hJ1 _ _).1 hh
 refine Qi ?_
 obtain rfl := someE hk
 exact qr1 hQ hs ⟨rfl, hw.pk [0]⟩
def Qcd : Option Bool :=
 some true
def QaH (rec_catenaryref10_SameUpdates_l11 : Int → Option (Sum Bool Unit)) (x1 : Int) (x2 : Bool) : Option (Sum Bool Unit) :=
 if x2 = true then some (.inl false)
 else rec_catenaryref10_SameUpdates_l11 (IntKind.i64.wrap (x1 + 1))
def catenaryref10_SameUpdates_l11 (k : Nat) (x1 : List M96) (x2 : List M96) : Nat → Int → Option (Sum Bool Unit)
 | 0, _ => none
 | j + 1, x3 =>
  if (decide (x3 < (x1.length : Int))) = true then (
   ((ix x1 x3).bind fun x4 =>
    (ix x2 x3).bind fun x5 =>
    (QaD k x4 x5).bind fun y1 =>
    some (!y1) : Option Bool).bind fun s1 => QaH (catenaryref10_SameUpdates_l11 k x1 x2 j) x3 s1)
  else some (.inr ())
def Qaw (k : Nat) (x1 x2 : List M96) : Option Bool :=
 if ((x1.length : Int) != (x2.length : Int)) = true then some false
 else (catenaryref10_SameUpdates_l11 k x1 x2 k 0 : Option (Sum Bool Unit)).bind fun
  | .inl z => some z
  | .inr _ => Qcd
theorem Qe9 {k : Nat} {x1 x2 : List M96} {d1 d2 : Ch} {c1 c2 : Nat} {p1 p2 : Option Addr} {r : Bool} (hk : Qaw k x1 x2 = some r) {g w : World} {F : Ch} {ih : IH} (h1 : RSl e96 ih d1 p1 c1 x1) (h2 : ∀ q ∈ d1, q ∈ F) (h3 : RSl e96 ih d2 p2 c2 x2) (h4 : ∀ q ∈ d2, q ∈ F) (hw : St g w [F] ih) :
  CallsR Tryz.prog 79 #[.slice p1 x1.length c1, .slice p2 x2.length c2] w fun v w' => v = .bool r ∧ St g w' [F] ih := by
 refine f_i Tryz.func79 rfl 27 rfl fun a Qf hQ hQn hs => ?_
 refine Qd (Qa (pn hs 1 [(0, .slice p1 x1.length c1), (1, .slice p2 x2.length c2)] fun a hs => ?_))
 refine Qc (Qd (Qd (Qa (pn hs 5 [(0, .slice p1 x1.length c1), (1, .slice p2 x2.length c2), (10, .bool ((x1.length : Int) != (x2.length : Int)))] fun a hs => ?_))))
 refine Qc ?_
 rcases ifbE hk with ⟨h5, hk⟩ | ⟨h5, hk⟩
 ·refine Qr hs h5 ?_
  refine Qd (Qa (pn hs 1 [(4, .bool false)] fun a hs => ?_))
  refine Qc (Qi ?_)
  obtain rfl := someE hk
  exact qr1 hQ hs ⟨rfl, hw.pk [0]⟩
 refine Qs hs h5 ?_
 refine Qg (Qd (Qd (Qa (pn hs 1 [(0, .slice p1 x1.length c1), (1, .slice p2 x2.length c2), (5, Qb 0)] fun a hs => ?_))))
 refine Qc (Ql ?_)
 obtain ⟨y1, hx1, hk⟩ := bindE hk
 obtain ⟨J1, hJ1⟩ := mkJ fun a w => Qcd = some r ∧ Sees a 27 [] ∧ St g w [F] ih
 obtain ⟨I1, hI1⟩ := QhB fun j a w => ∃ (x3 : Int), catenaryref10_SameUpdates_l11 k x1 x2 j x3 = some y1 ∧ Sees a 27 [(0, .slice p1 x1.length c1), (1, .slice p2 x2.length c2), (5, Qb x3)] ∧ St g w [F] ih
 refine Qau 0 J1 ?_ ?_
 ·refine QbO I1 k ((hI1 _ _ _).2 ⟨0, hx1, hs.cst, hw.pk [0]⟩) (fun a w h6 => ?_) fun j a w hh => ?_
  ·obtain ⟨_, h, _⟩ := (hI1 _ _ _).1 h6
   cases h
  obtain ⟨x3, hx1, hs, hw⟩ := (hI1 _ _ _).1 hh
  refine Qd (Qd (Qa (pn hs 4 [(0, .slice p1 x1.length c1), (1, .slice p2 x2.length c2), (5, Qb x3), (14, .bool (decide (x3 < (x1.length : Int))))] fun a hs => ?_)))
  refine Qc ?_
  rcases ifbE hx1 with ⟨h7, hx1⟩ | ⟨h7, hx1⟩
  ·refine Qr hs h7 ?_
   refine Qg (Qd (Ql (Qd ?_)))
   obtain ⟨S, hD, kS⟩ := mkSXw hw [[]] (K := []) rfl
   obtain ⟨y2, hx2, hx1⟩ := bindE hx1
   obtain ⟨J2, hJ2⟩ := mkJ fun a w => ∃ (x4 : Bool), QaH (catenaryref10_SameUpdates_l11 k x1 x2 j) x3 x4 = some y1 ∧ Sees a 27 [(0, .slice p1 x1.length c1), (1, .slice p2 x2.length c2), (5, Qb x3), (26, .bool x4)] ∧ St g w [F] ih
   refine Qo (by kernel_rfl) (N := 10) rfl S J2 ?_ ?_
   ·have hw := hw.drew
    have hS : S (bA 10 0) _ := SXn hD (hw.vws [0])
    refine Qp (fuel := 8) kS hs hS [0, 1] fun a hs hS => ?_
    obtain ⟨x5, h8, hx2⟩ := bindE hx2
    refine Qay (fuel := 7) kS hs hS 2 rfl (by kernel_rfl) h1 (by kernel_rfl) (by kernel_rfl) (k := .i64) (by kernel_rfl) 96 (by kernel_rfl) (by kernel_rfl) h8 fun a r463 cs henc at464 hs hS => ?_
    refine Qgn hS fun hS => ?_
    obtain ⟨p3, c3, rfl, h9⟩ := henc
    refine Qy kS hs hS 3 rfl (fun l w hu hS => at464 w (((Qfi hD 0 rfl (by kernel_rfl) l w hu hS).sub h2).anti (Le.refl _))) 0 fun a hs hS => ?_
    refine Qp (fuel := 4) kS hs hS [4, 5] fun a hs hS => ?_
    obtain ⟨x6, h10, hx2⟩ := bindE hx2
    refine Qay (fuel := 3) kS hs hS 6 rfl (by kernel_rfl) h3 (by kernel_rfl) (by kernel_rfl) (k := .i64) (by kernel_rfl) 96 (by kernel_rfl) (by kernel_rfl) h10 fun a r470 cs henc at471 hs hS => ?_
    refine Qgn hS fun hS => ?_
    obtain ⟨p4, c4, rfl, h11⟩ := henc
    refine Qy kS hs hS 7 rfl (fun l w hu hS => at471 w (((Qfi hD 0 rfl (by kernel_rfl) l w hu hS).sub h4).anti (Le.refl _))) 0 fun a hs hS => ?_
    refine QF [8] (QH ?_)
    obtain ⟨y3, h12, hx2⟩ := bindE hx2
    refine QaR hs rfl (Qfh h12 h9 h11 ((hw.pk [0]).pack 0)) fun a w v hv hs => ?_
    obtain ⟨rfl, hw⟩ := hv
    have hw := hw.unpack 0 rfl
    refine nx hD ((hw.vws [0]).anti (Le.refl _)) fun hS => ?_
    refine Qu kS hs hS fun a hs => ?_
    obtain rfl := someE hx2
    exact (hJ2 _ _).2 ⟨(!y3), hx1, hs.cst, hw.pk [0]⟩
   intro a w hh
   obtain ⟨x4, hx1, hs, hw⟩ := (hJ2 _ _).1 hh
   rcases ifbE hx1 with ⟨h13, hx1⟩ | ⟨h13, hx1⟩
   ·refine Qr hs h13 ?_
    refine Qd (Qa (pn hs 1 [(4, .bool false)] fun a hs => ?_))
    refine Qc (Qi ?_)
    obtain rfl := someE hx1
    obtain rfl := someE hk
    exact qr1 hQ hs ⟨rfl, hw.pk [0]⟩
   refine Qs hs h13 ?_
   refine Qg (Qa (pu hs 3 fun a hs => ?_))
   refine Qc ?_
   exact (hI1 _ _ _).2 ⟨(IntKind.i64.wrap (x3 + 1)), hx1, hs.cst, hw.pk [0]⟩
  refine Qs hs h7 (Qa3 ?_)
  obtain rfl := someE hx1
  exact (hJ1 _ _).2 ⟨hk, hs.cst, hw.pk [0]⟩
 intro a w hh
 obtain ⟨hk, hs, hw⟩ := (hJ1 _ _).1 hh
 refine Qd (Qa (pn hs 1 [(4, .bool true)] fun a hs => ?_))
 refine Qc (Qi ?_)
 obtain rfl := someE hk
 exact qr1 hQ hs ⟨rfl, hw.pk [0]⟩
def QcL (x1 : Bool) : Option Bool :=
 some x1
def Qbe (k : Nat) (x1 x2 : M48) : Option Bool :=
 if ((x1.f0 != x2.f0) || ((x1.f1 != x2.f1) || ((x1.f2 != x2.f2) || ((x1.f3 != x2.f3) || ((x1.f4 != x2.f4) || ((x1.f5 != x2.f5) || (x1.f6 != x2.f6))))))) = true then some false
 else if ((x1.f7 != x2.f7) || ((x1.f8 != x2.f8) || ((x1.f9 != x2.f9) || ((x1.f10 != x2.f10) || ((x1.f11 != x2.f11) || ((x1.f12 != x2.f12) || (!((x1.f13.f0 == x2.f13.f0) && ((x1.f13.f1 == x2.f13.f1) && ((x1.f13.f2 == x2.f13.f2) && ((x1.f13.f3 == x2.f13.f3) && true))))))))))) = true then some false
 else ((Qbg k x1.f14 x2.f14).bind fun y1 =>
  if y1 = true then (
   (QaO k x1.f15 x2.f15).bind fun y2 =>
   if y2 = true then (
    (Qaw k x1.f16 x2.f16).bind fun y3 =>
    if y3 = true then (
     (Qz k x1.f17 x2.f17).bind fun y4 =>
     some y4)
    else some false)
   else some false)
  else some false : Option Bool).bind fun s1 => QcL s1
theorem QeD {k : Nat} {x1 x2 : M48} {c1 c2 c3 c4 c5 c6 c7 c8 : Nat} {p1 p2 p3 p4 p5 p6 p7 p8 : Option Addr} {r : Bool} (hk : Qbe k x1 x2 = some r) {g w : World} {F : Ch} {ih : IH} (h1 : RSl e3 ih [] p1 c1 x1.f14.f2) (h2 : RSl Qcf ih [] p2 c2 x1.f15) (h3 : RSl e96 ih [] p3 c3 x1.f16) (h4 : RSl e5 ih [] p4 c4 x1.f17) (h5 : RSl e3 ih [] p5 c5 x2.f14.f2) (h6 : RSl Qcf ih [] p6 c6 x2.f15) (h7 : RSl e96 ih [] p7 c7 x2.f16) (h8 : RSl e5 ih [] p8 c8 x2.f17) (hw : St g w [F] ih) :
  CallsR Tryz.prog 45 #[A48 x1 p1 c1 p2 c2 p3 c3 p4 c4, A48 x2 p5 c5 p6 c6 p7 c7 p8 c8] w fun v w' => v = .bool r ∧ St g w' [F] ih := by
 refine f_i Tryz.func45 rfl 125 rfl fun a Qf hQ hQn hs => ?_
 refine Qd (Qa (QC hs hw [Qb x1.f0, Qb x1.f1, Qb x1.f2, Qb x1.f3, Qe x1.f4, Qe x1.f5, Qe x1.f6, Qe x1.f7, Qe x1.f8, Qe x1.f9, Qb x1.f10, Qk x1.f11, Qb x1.f12, Qb x1.f13.f0, Qb x1.f13.f1, Qe x1.f13.f2, Qb x1.f13.f3, Qb x1.f14.f0, Qe x1.f14.f1, .slice p1 x1.f14.f2.length c1, .bool x1.f14.f3, Qb x1.f14.f4, .slice p2 x1.f15.length c2, .slice p3 x1.f16.length c3, .slice p4 x1.f17.length c4] 48 (fun b => (pt b 0)) (by kernel_rfl) (fun _ => by kernel_rfl) fun a w b1 hs hw => ?_))
 refine QaN hs hw [Qb x2.f0, Qb x2.f1, Qb x2.f2, Qb x2.f3, Qe x2.f4, Qe x2.f5, Qe x2.f6, Qe x2.f7, Qe x2.f8, Qe x2.f9, Qb x2.f10, Qk x2.f11, Qb x2.f12, Qb x2.f13.f0, Qb x2.f13.f1, Qe x2.f13.f2, Qb x2.f13.f3, Qb x2.f14.f0, Qe x2.f14.f1, .slice p5 x2.f14.f2.length c5, .bool x2.f14.f3, Qb x2.f14.f4, .slice p6 x2.f15.length c6, .slice p7 x2.f16.length c7, .slice p8 x2.f17.length c8] 48 (fun b => (pt b 0)) fun a w b2 hs hw => ?_
 refine pn hs 1 [(2, (pt b1 0)), (3, (pt b2 0))] fun a hs => Qc (Qd (Qd ?_))
 obtain ⟨J1, hJ1⟩ := mkJ fun a w => Sees a 125 [(2, (pt b1 0)), (3, (pt b2 0)), (51, .bool ((x1.f0 != x2.f0) || ((x1.f1 != x2.f1) || ((x1.f2 != x2.f2) || ((x1.f3 != x2.f3) || ((x1.f4 != x2.f4) || ((x1.f5 != x2.f5) || (x1.f6 != x2.f6))))))))] ∧ St g w [k10 b2 x2.f0 x2.f1 x2.f2 x2.f3 x2.f4 x2.f5 x2.f6 x2.f7 x2.f8 x2.f9 x2.f10 x2.f11 x2.f12 x2.f13.f0 x2.f13.f1 x2.f13.f2 x2.f13.f3 x2.f14.f0 x2.f14.f1 p5 x2.f14.f2 c5 x2.f14.f3 x2.f14.f4 p6 x2.f15 c6 p7 x2.f16 c7 p8 x2.f17 c8, k10 b1 x1.f0 x1.f1 x1.f2 x1.f3 x1.f4 x1.f5 x1.f6 x1.f7 x1.f8 x1.f9 x1.f10 x1.f11 x1.f12 x1.f13.f0 x1.f13.f1 x1.f13.f2 x1.f13.f3 x1.f14.f0 x1.f14.f1 p1 x1.f14.f2 c1 x1.f14.f3 x1.f14.f4 p2 x1.f15 c2 p3 x1.f16 c3 p4 x1.f17 c4, F] ih
 refine Qn J1 ?_ ?_
 ·refine pu hs 1 fun a hs => Qj hs (hw.at_ 1 rfl) 0 fun a hs => pu hs 1 fun a hs => Qj hs (hw.at_ 0 rfl) 0 fun a hs => pu hs 2 fun a hs => ?_
  rcases boolE (x1.f0 != x2.f0) with h9 | h9
  ·have hs := hs.aB 10 h9
   refine pn hs 41 [(2, (pt b1 0)), (3, (pt b2 0)), (51, .bool true)] fun a hs => Qc ?_
   exact (hJ1 _ _).2 ⟨(hs.bB 51 h9 true ((x1.f0 != x2.f0) || ((x1.f1 != x2.f1) || ((x1.f2 != x2.f2) || ((x1.f3 != x2.f3) || ((x1.f4 != x2.f4) || ((x1.f5 != x2.f5) || (x1.f6 != x2.f6)))))))).cst, hw.pk [0, 1, 2]⟩
  have hs := hs.aB 10 h9
  refine pn hs 1 [(2, (pt b1 0)), (3, (pt b2 0)), (10, .bool false), (11, (pt b1 1))] fun a hs => Qj hs (hw.at_ 1 rfl) 1 fun a hs => pu hs 1 fun a hs => Qj hs (hw.at_ 0 rfl) 1 fun a hs => ?_
  refine pu hs 3 fun a hs => ?_
  rcases boolE (x1.f1 != x2.f1) with h10 | h10
  ·have hs := hs.aB 17 h10
   refine pu hs 34 fun a hs => Qc ?_
   exact (hJ1 _ _).2 ⟨(hs.altB (b := true) 51 ((x1.f0 != x2.f0) || ((x1.f1 != x2.f1) || ((x1.f2 != x2.f2) || ((x1.f3 != x2.f3) || ((x1.f4 != x2.f4) || ((x1.f5 != x2.f5) || (x1.f6 != x2.f6))))))) (by kernel_rfl) (by first | (rw [h9, h10] <;> rfl) | (revert h9 h10; simp +contextual))).cast [2, 3, 51] (by kernel_rfl), hw.pk [0, 1, 2]⟩
  have hs := hs.aB 17 h10
  refine pu hs 1 fun a hs => Qj hs (hw.at_ 1 rfl) 2 fun a hs => pn hs 1 [(2, (pt b1 0)), (3, (pt b2 0)), (17, .bool false), (19, Qb x1.f2), (20, (pt b2 2))] fun a hs => ?_
  refine Qj hs (hw.at_ 0 rfl) 2 fun a hs => pu hs 3 fun a hs => ?_
  rcases boolE (x1.f2 != x2.f2) with h11 | h11
  ·have hs := hs.aB 24 h11
   refine pu hs 27 fun a hs => Qc ?_
   exact (hJ1 _ _).2 ⟨(hs.altB (b := true) 51 ((x1.f0 != x2.f0) || ((x1.f1 != x2.f1) || ((x1.f2 != x2.f2) || ((x1.f3 != x2.f3) || ((x1.f4 != x2.f4) || ((x1.f5 != x2.f5) || (x1.f6 != x2.f6))))))) (by kernel_rfl) (by first | (rw [h9, h10, h11] <;> rfl) | (revert h9 h10 h11; simp +contextual))).cast [2, 3, 51] (by kernel_rfl), hw.pk [0, 1, 2]⟩
  have hs := hs.aB 24 h11
  refine pu hs 1 fun a hs => Qj hs (hw.at_ 1 rfl) 3 fun a hs => pu hs 1 fun a hs => Qj hs (hw.at_ 0 rfl) 3 fun a hs => pn hs 3 [(2, (pt b1 0)), (3, (pt b2 0)), (31, .bool (x1.f3 != x2.f3))] fun a hs => ?_
  rcases boolE (x1.f3 != x2.f3) with h12 | h12
  ·have hs := hs.aB 31 h12
   refine pu hs 20 fun a hs => Qc ?_
   exact (hJ1 _ _).2 ⟨(hs.altB (b := true) 51 ((x1.f0 != x2.f0) || ((x1.f1 != x2.f1) || ((x1.f2 != x2.f2) || ((x1.f3 != x2.f3) || ((x1.f4 != x2.f4) || ((x1.f5 != x2.f5) || (x1.f6 != x2.f6))))))) (by kernel_rfl) (by first | (rw [h9, h10, h11, h12] <;> rfl) | (revert h9 h10 h11 h12; simp +contextual))).cast [2, 3, 51] (by kernel_rfl), hw.pk [0, 1, 2]⟩
  have hs := hs.aB 31 h12
  refine pu hs 1 fun a hs => Qj hs (hw.at_ 1 rfl) 4 fun a hs => pu hs 1 fun a hs => Qj hs (hw.at_ 0 rfl) 4 fun a hs => pu hs 3 fun a hs => ?_
  rcases boolE (x1.f4 != x2.f4) with h13 | h13
  ·have hs := hs.aB 38 h13
   refine pn hs 13 [(2, (pt b1 0)), (3, (pt b2 0)), (51, .bool true)] fun a hs => Qc ?_
   exact (hJ1 _ _).2 ⟨(hs.altB (b := true) 51 ((x1.f0 != x2.f0) || ((x1.f1 != x2.f1) || ((x1.f2 != x2.f2) || ((x1.f3 != x2.f3) || ((x1.f4 != x2.f4) || ((x1.f5 != x2.f5) || (x1.f6 != x2.f6))))))) (by kernel_rfl) (by first | (rw [h9, h10, h11, h12, h13] <;> rfl) | (revert h9 h10 h11 h12 h13; simp +contextual))).cast [2, 3, 51] (by kernel_rfl), hw.pk [0, 1, 2]⟩
  have hs := hs.aB 38 h13
  refine pn hs 1 [(2, (pt b1 0)), (3, (pt b2 0)), (38, .bool false), (39, (pt b1 5))] fun a hs => Qj hs (hw.at_ 1 rfl) 5 fun a hs => pu hs 1 fun a hs => Qj hs (hw.at_ 0 rfl) 5 fun a hs => ?_
  refine pu hs 3 fun a hs => ?_
  rcases boolE (x1.f5 != x2.f5) with h14 | h14
  ·have hs := hs.aB 45 h14
   refine pu hs 6 fun a hs => Qc ?_
   exact (hJ1 _ _).2 ⟨(hs.altB (b := true) 51 ((x1.f0 != x2.f0) || ((x1.f1 != x2.f1) || ((x1.f2 != x2.f2) || ((x1.f3 != x2.f3) || ((x1.f4 != x2.f4) || ((x1.f5 != x2.f5) || (x1.f6 != x2.f6))))))) (by kernel_rfl) (by first | (rw [h9, h10, h11, h12, h13, h14] <;> rfl) | (revert h9 h10 h11 h12 h13 h14; simp +contextual))).cast [2, 3, 51] (by kernel_rfl), hw.pk [0, 1, 2]⟩
  have hs := hs.aB 45 h14
  refine pu hs 1 fun a hs => Qj hs (hw.at_ 1 rfl) 6 fun a hs => pn hs 1 [(2, (pt b1 0)), (3, (pt b2 0)), (45, .bool false), (47, Qe x1.f6), (48, (pt b2 6))] fun a hs => ?_
  refine Qj hs (hw.at_ 0 rfl) 6 fun a hs => pu hs 2 fun a hs => Qc ?_
  exact (hJ1 _ _).2 ⟨(hs.altB (b := (x1.f6 != x2.f6)) 51 ((x1.f0 != x2.f0) || ((x1.f1 != x2.f1) || ((x1.f2 != x2.f2) || ((x1.f3 != x2.f3) || ((x1.f4 != x2.f4) || ((x1.f5 != x2.f5) || (x1.f6 != x2.f6))))))) (by kernel_rfl) (by first | (rw [h9, h10, h11, h12, h13, h14] <;> rfl) | (revert h9 h10 h11 h12 h13 h14; simp +contextual))).cast [2, 3, 51] (by kernel_rfl), hw.pk [0, 1, 2]⟩
 intro a w hh
 obtain ⟨hs, hw⟩ := (hJ1 _ _).1 hh
 rcases ifbE hk with ⟨h15, hk⟩ | ⟨h15, hk⟩
 ·refine Qr hs h15 ?_
  refine Qd (Qa (pn hs 1 [(4, .bool false)] fun a hs => ?_))
  refine Qc (Qi ?_)
  obtain rfl := someE hk
  exact qr1 hQ hs ⟨rfl, hw.pk [2]⟩
 refine Qs hs h15 ?_
 refine Qg (Qd (Qd ?_))
 obtain ⟨J2, hJ2⟩ := mkJ fun a w => Sees a 125 [(2, (pt b1 0)), (3, (pt b2 0)), (98, .bool ((x1.f7 != x2.f7) || ((x1.f8 != x2.f8) || ((x1.f9 != x2.f9) || ((x1.f10 != x2.f10) || ((x1.f11 != x2.f11) || ((x1.f12 != x2.f12) || (!((x1.f13.f0 == x2.f13.f0) && ((x1.f13.f1 == x2.f13.f1) && ((x1.f13.f2 == x2.f13.f2) && ((x1.f13.f3 == x2.f13.f3) && true))))))))))))] ∧ St g w [k10 b2 x2.f0 x2.f1 x2.f2 x2.f3 x2.f4 x2.f5 x2.f6 x2.f7 x2.f8 x2.f9 x2.f10 x2.f11 x2.f12 x2.f13.f0 x2.f13.f1 x2.f13.f2 x2.f13.f3 x2.f14.f0 x2.f14.f1 p5 x2.f14.f2 c5 x2.f14.f3 x2.f14.f4 p6 x2.f15 c6 p7 x2.f16 c7 p8 x2.f17 c8, k10 b1 x1.f0 x1.f1 x1.f2 x1.f3 x1.f4 x1.f5 x1.f6 x1.f7 x1.f8 x1.f9 x1.f10 x1.f11 x1.f12 x1.f13.f0 x1.f13.f1 x1.f13.f2 x1.f13.f3 x1.f14.f0 x1.f14.f1 p1 x1.f14.f2 c1 x1.f14.f3 x1.f14.f4 p2 x1.f15 c2 p3 x1.f16 c3 p4 x1.f17 c4, F] ih
 refine Qn J2 ?_ ?_
 ·refine pu hs 1 fun a hs => Qj hs (hw.at_ 1 rfl) 7 fun a hs => pu hs 1 fun a hs => Qj hs (hw.at_ 0 rfl) 7 fun a hs => pu hs 2 fun a hs => ?_
  rcases boolE (x1.f7 != x2.f7) with h16 | h16
  ·have hs := hs.aB 57 h16
   refine pn hs 41 [(2, (pt b1 0)), (3, (pt b2 0)), (98, .bool true)] fun a hs => Qc ?_
   exact (hJ2 _ _).2 ⟨(hs.bB 98 h16 true ((x1.f7 != x2.f7) || ((x1.f8 != x2.f8) || ((x1.f9 != x2.f9) || ((x1.f10 != x2.f10) || ((x1.f11 != x2.f11) || ((x1.f12 != x2.f12) || (!((x1.f13.f0 == x2.f13.f0) && ((x1.f13.f1 == x2.f13.f1) && ((x1.f13.f2 == x2.f13.f2) && ((x1.f13.f3 == x2.f13.f3) && true)))))))))))).cst, hw.pk [0, 1, 2]⟩
  have hs := hs.aB 57 h16
  refine pn hs 1 [(2, (pt b1 0)), (3, (pt b2 0)), (57, .bool false), (58, (pt b1 8))] fun a hs => Qj hs (hw.at_ 1 rfl) 8 fun a hs => pu hs 1 fun a hs => Qj hs (hw.at_ 0 rfl) 8 fun a hs => ?_
  refine pu hs 3 fun a hs => ?_
  rcases boolE (x1.f8 != x2.f8) with h17 | h17
  ·have hs := hs.aB 64 h17
   refine pu hs 34 fun a hs => Qc ?_
   exact (hJ2 _ _).2 ⟨(hs.altB (b := true) 98 ((x1.f7 != x2.f7) || ((x1.f8 != x2.f8) || ((x1.f9 != x2.f9) || ((x1.f10 != x2.f10) || ((x1.f11 != x2.f11) || ((x1.f12 != x2.f12) || (!((x1.f13.f0 == x2.f13.f0) && ((x1.f13.f1 == x2.f13.f1) && ((x1.f13.f2 == x2.f13.f2) && ((x1.f13.f3 == x2.f13.f3) && true))))))))))) (by kernel_rfl) (by first | (rw [h16, h17] <;> rfl) | (revert h16 h17; simp +contextual))).cast [2, 3, 98] (by kernel_rfl), hw.pk [0, 1, 2]⟩
  have hs := hs.aB 64 h17
  refine pu hs 1 fun a hs => Qj hs (hw.at_ 1 rfl) 9 fun a hs => pn hs 1 [(2, (pt b1 0)), (3, (pt b2 0)), (64, .bool false), (66, Qe x1.f9), (67, (pt b2 9))] fun a hs => ?_
  refine Qj hs (hw.at_ 0 rfl) 9 fun a hs => pu hs 3 fun a hs => ?_
  rcases boolE (x1.f9 != x2.f9) with h18 | h18
  ·have hs := hs.aB 71 h18
   refine pu hs 27 fun a hs => Qc ?_
   exact (hJ2 _ _).2 ⟨(hs.altB (b := true) 98 ((x1.f7 != x2.f7) || ((x1.f8 != x2.f8) || ((x1.f9 != x2.f9) || ((x1.f10 != x2.f10) || ((x1.f11 != x2.f11) || ((x1.f12 != x2.f12) || (!((x1.f13.f0 == x2.f13.f0) && ((x1.f13.f1 == x2.f13.f1) && ((x1.f13.f2 == x2.f13.f2) && ((x1.f13.f3 == x2.f13.f3) && true))))))))))) (by kernel_rfl) (by first | (rw [h16, h17, h18] <;> rfl) | (revert h16 h17 h18; simp +contextual))).cast [2, 3, 98] (by kernel_rfl), hw.pk [0, 1, 2]⟩
  have hs := hs.aB 71 h18
  refine pu hs 1 fun a hs => Qj hs (hw.at_ 1 rfl) 10 fun a hs => pu hs 1 fun a hs => Qj hs (hw.at_ 0 rfl) 10 fun a hs => pn hs 3 [(2, (pt b1 0)), (3, (pt b2 0)), (78, .bool (x1.f10 != x2.f10))] fun a hs => ?_
  rcases boolE (x1.f10 != x2.f10) with h19 | h19
  ·have hs := hs.aB 78 h19
   refine pu hs 20 fun a hs => Qc ?_
   exact (hJ2 _ _).2 ⟨(hs.altB (b := true) 98 ((x1.f7 != x2.f7) || ((x1.f8 != x2.f8) || ((x1.f9 != x2.f9) || ((x1.f10 != x2.f10) || ((x1.f11 != x2.f11) || ((x1.f12 != x2.f12) || (!((x1.f13.f0 == x2.f13.f0) && ((x1.f13.f1 == x2.f13.f1) && ((x1.f13.f2 == x2.f13.f2) && ((x1.f13.f3 == x2.f13.f3) && true))))))))))) (by kernel_rfl) (by first | (rw [h16, h17, h18, h19] <;> rfl) | (revert h16 h17 h18 h19; simp +contextual))).cast [2, 3, 98] (by kernel_rfl), hw.pk [0, 1, 2]⟩
  have hs := hs.aB 78 h19
  refine pu hs 1 fun a hs => Qj hs (hw.at_ 1 rfl) 11 fun a hs => pu hs 1 fun a hs => Qj hs (hw.at_ 0 rfl) 11 fun a hs => pu hs 3 fun a hs => ?_
  rcases boolE (x1.f11 != x2.f11) with h20 | h20
  ·have hs := hs.aB 85 h20
   refine pn hs 13 [(2, (pt b1 0)), (3, (pt b2 0)), (98, .bool true)] fun a hs => Qc ?_
   exact (hJ2 _ _).2 ⟨(hs.altB (b := true) 98 ((x1.f7 != x2.f7) || ((x1.f8 != x2.f8) || ((x1.f9 != x2.f9) || ((x1.f10 != x2.f10) || ((x1.f11 != x2.f11) || ((x1.f12 != x2.f12) || (!((x1.f13.f0 == x2.f13.f0) && ((x1.f13.f1 == x2.f13.f1) && ((x1.f13.f2 == x2.f13.f2) && ((x1.f13.f3 == x2.f13.f3) && true))))))))))) (by kernel_rfl) (by first | (rw [h16, h17, h18, h19, h20] <;> rfl) | (revert h16 h17 h18 h19 h20; simp +contextual))).cast [2, 3, 98] (by kernel_rfl), hw.pk [0, 1, 2]⟩
  have hs := hs.aB 85 h20
  refine pn hs 1 [(2, (pt b1 0)), (3, (pt b2 0)), (85, .bool false), (86, (pt b1 12))] fun a hs => Qj hs (hw.at_ 1 rfl) 12 fun a hs => pu hs 1 fun a hs => Qj hs (hw.at_ 0 rfl) 12 fun a hs => ?_
  refine pu hs 3 fun a hs => ?_
  rcases boolE (x1.f12 != x2.f12) with h21 | h21
  ·have hs := hs.aB 92 h21
   refine pu hs 6 fun a hs => Qc ?_
   exact (hJ2 _ _).2 ⟨(hs.altB (b := true) 98 ((x1.f7 != x2.f7) || ((x1.f8 != x2.f8) || ((x1.f9 != x2.f9) || ((x1.f10 != x2.f10) || ((x1.f11 != x2.f11) || ((x1.f12 != x2.f12) || (!((x1.f13.f0 == x2.f13.f0) && ((x1.f13.f1 == x2.f13.f1) && ((x1.f13.f2 == x2.f13.f2) && ((x1.f13.f3 == x2.f13.f3) && true))))))))))) (by kernel_rfl) (by first | (rw [h16, h17, h18, h19, h20, h21] <;> rfl) | (revert h16 h17 h18 h19 h20 h21; simp +contextual))).cast [2, 3, 98] (by kernel_rfl), hw.pk [0, 1, 2]⟩
  have hs := hs.aB 92 h21
  refine pu hs 1 fun a hs => Qj hs (hw.at_ 1 rfl) 13 fun a hs => pn hs 1 [(2, (pt b1 0)), (3, (pt b2 0)), (92, .bool false), (94, A41 x1.f13), (95, (pt b2 13))] fun a hs => ?_
  refine Qj hs (hw.at_ 0 rfl) 13 fun a hs => Qm8 hs (c1 := [Qb x1.f13.f0, Qb x1.f13.f1, Qe x1.f13.f2, Qb x1.f13.f3]) (c2 := [Qb x2.f13.f0, Qb x2.f13.f1, Qe x2.f13.f2, Qb x2.f13.f3]) ((x1.f13.f0 == x2.f13.f0) && ((x1.f13.f1 == x2.f13.f1) && ((x1.f13.f2 == x2.f13.f2) && ((x1.f13.f3 == x2.f13.f3) && true)))) (by kernel_rfl) (by kernel_rfl) (by kernel_rfl) (by kernel_rfl) (by kernel_rfl) fun a hs => ?_
  refine pu hs 1 fun a hs => Qc ?_
  exact (hJ2 _ _).2 ⟨(hs.altB (b := (!((x1.f13.f0 == x2.f13.f0) && ((x1.f13.f1 == x2.f13.f1) && ((x1.f13.f2 == x2.f13.f2) && ((x1.f13.f3 == x2.f13.f3) && true)))))) 98 ((x1.f7 != x2.f7) || ((x1.f8 != x2.f8) || ((x1.f9 != x2.f9) || ((x1.f10 != x2.f10) || ((x1.f11 != x2.f11) || ((x1.f12 != x2.f12) || (!((x1.f13.f0 == x2.f13.f0) && ((x1.f13.f1 == x2.f13.f1) && ((x1.f13.f2 == x2.f13.f2) && ((x1.f13.f3 == x2.f13.f3) && true))))))))))) (by kernel_rfl) (by first | (rw [h16, h17, h18, h19, h20, h21] <;> rfl) | (revert h16 h17 h18 h19 h20 h21; simp +contextual))).cast [2, 3, 98] (by kernel_rfl), hw.pk [0, 1, 2]⟩
 intro a w hh
 obtain ⟨hs, hw⟩ := (hJ2 _ _).1 hh
 rcases ifbE hk with ⟨h22, hk⟩ | ⟨h22, hk⟩
 ·refine Qr hs h22 ?_
  refine Qd (Qa (pn hs 1 [(4, .bool false)] fun a hs => ?_))
  refine Qc (Qi ?_)
  obtain rfl := someE hk
  exact qr1 hQ hs ⟨rfl, hw.pk [2]⟩
 refine Qs hs h22 ?_
 refine Qg (Qd ?_)
 obtain ⟨y1, hx1, hk⟩ := bindE hk
 obtain ⟨J3, hJ3⟩ := mkJ fun a w => ∃ (x3 : Bool), QcL x3 = some r ∧ Sees a 125 [(4, .bool x3)] ∧ St g w [F] ih
 refine Qn J3 ?_ ?_
 ·refine pu hs 1 fun a hs => Qj hs (hw.at_ 1 rfl) 17 fun a hs => pu hs 1 fun a hs => Qj hs (hw.at_ 0 rfl) 17 fun a hs => ?_
  obtain ⟨y2, h23, hx1⟩ := bindE hx1
  refine Qv hs (QeF h23 h1 h5 ((hw.pk [0, 1, 2]).pack 0)) fun a w v hv hs => ?_
  obtain ⟨rfl, hw⟩ := hv
  have hw := hw.unpack 0 rfl
  refine pu hs 1 fun a hs => ?_
  rcases ifbE hx1 with ⟨h24, hx1⟩ | ⟨h24, hx1⟩
  ·have hs := hs.aB 104 h24
   refine pn hs 1 [(2, (pt b1 0)), (3, (pt b2 0)), (104, .bool true), (105, (pt b1 22))] fun a hs => Qj hs (hw.at_ 1 rfl) 22 fun a hs => pu hs 1 fun a hs => Qj hs (hw.at_ 0 rfl) 22 fun a hs => ?_
   obtain ⟨y3, h25, hx1⟩ := bindE hx1
   refine Qv hs (QfC h25 h2 (nilSub _) h6 (nilSub _) ((hw.pk [0, 1, 2]).pack 0)) fun a w v hv hs => ?_
   obtain ⟨rfl, hw⟩ := hv
   have hw := hw.unpack 0 rfl
   refine pu hs 2 fun a hs => ?_
   rcases ifbE hx1 with ⟨h26, hx1⟩ | ⟨h26, hx1⟩
   ·have hs := hs.aB 111 h26
    refine pu hs 1 fun a hs => Qj hs (hw.at_ 1 rfl) 23 fun a hs => pn hs 1 [(2, (pt b1 0)), (3, (pt b2 0)), (111, .bool true), (113, .slice p3 x1.f16.length c3), (114, (pt b2 23))] fun a hs => ?_
    refine Qj hs (hw.at_ 0 rfl) 23 fun a hs => ?_
    have hw := hw.cL [k10 b2 x2.f0 x2.f1 x2.f2 x2.f3 x2.f4 x2.f5 x2.f6 x2.f7 x2.f8 x2.f9 x2.f10 x2.f11 x2.f12 x2.f13.f0 x2.f13.f1 x2.f13.f2 x2.f13.f3 x2.f14.f0 x2.f14.f1 p5 x2.f14.f2 c5 x2.f14.f3 x2.f14.f4 p6 x2.f15 c6 p7 x2.f16 c7 p8 x2.f17 c8, k10 b1 x1.f0 x1.f1 x1.f2 x1.f3 x1.f4 x1.f5 x1.f6 x1.f7 x1.f8 x1.f9 x1.f10 x1.f11 x1.f12 x1.f13.f0 x1.f13.f1 x1.f13.f2 x1.f13.f3 x1.f14.f0 x1.f14.f1 p1 x1.f14.f2 c1 x1.f14.f3 x1.f14.f4 p2 x1.f15 c2 p3 x1.f16 c3 p4 x1.f17 c4, F]
    obtain ⟨y4, h27, hx1⟩ := bindE hx1
    refine Qv hs (Qe9 h27 h3 (nilSub _) h7 (nilSub _) ((hw.pk [0, 1, 2]).pack 0)) fun a w v hv hs => ?_
    obtain ⟨rfl, hw⟩ := hv
    have hw := hw.unpack 0 rfl
    refine pu hs 2 fun a hs => ?_
    rcases ifbE hx1 with ⟨h28, hx1⟩ | ⟨h28, hx1⟩
    ·have hs := hs.aB 118 h28
     refine pu hs 1 fun a hs => Qj hs (hw.at_ 1 rfl) 24 fun a hs => pu hs 1 fun a hs => Qj hs (hw.at_ 0 rfl) 24 fun a hs => ?_
     obtain ⟨y5, h29, hx1⟩ := bindE hx1
     refine Qv hs (QL h29 h4 (nilSub _) h8 (nilSub _) ((hw.pk [2]).pack 0)) fun a w v hv hs => ?_
     obtain ⟨rfl, hw⟩ := hv
     have hw := hw.unpack 0 rfl
     refine pn hs 2 [(4, .bool y5)] fun a hs => ?_
     have hw := hw.cL [F]
     refine Qc ?_
     obtain rfl := someE hx1
     exact (hJ3 _ _).2 ⟨y5, hk, hs.cst, hw.pk [0]⟩
    have hs := hs.aB 118 h28
    refine pu hs 7 fun a hs => Qc ?_
    obtain rfl := someE hx1
    exact (hJ3 _ _).2 ⟨false, hk, hs.cst, hw.pk [2]⟩
   have hs := hs.aB 111 h26
   refine pu hs 14 fun a hs => ?_
   have hw := hw.cL [k10 b2 x2.f0 x2.f1 x2.f2 x2.f3 x2.f4 x2.f5 x2.f6 x2.f7 x2.f8 x2.f9 x2.f10 x2.f11 x2.f12 x2.f13.f0 x2.f13.f1 x2.f13.f2 x2.f13.f3 x2.f14.f0 x2.f14.f1 p5 x2.f14.f2 c5 x2.f14.f3 x2.f14.f4 p6 x2.f15 c6 p7 x2.f16 c7 p8 x2.f17 c8, k10 b1 x1.f0 x1.f1 x1.f2 x1.f3 x1.f4 x1.f5 x1.f6 x1.f7 x1.f8 x1.f9 x1.f10 x1.f11 x1.f12 x1.f13.f0 x1.f13.f1 x1.f13.f2 x1.f13.f3 x1.f14.f0 x1.f14.f1 p1 x1.f14.f2 c1 x1.f14.f3 x1.f14.f4 p2 x1.f15 c2 p3 x1.f16 c3 p4 x1.f17 c4, F]
   refine Qc ?_
   obtain rfl := someE hx1
   exact (hJ3 _ _).2 ⟨false, hk, hs.cst, hw.pk [2]⟩
  have hs := hs.aB 104 h24
  refine pn hs 21 [(4, .bool false)] fun a hs => Qc ?_
  obtain rfl := someE hx1
  exact (hJ3 _ _).2 ⟨false, hk, hs.cst, hw.pk [2]⟩
 intro a w hh
 obtain ⟨x3, hk, hs, hw⟩ := (hJ3 _ _).1 hh
 refine Qi ?_
 obtain rfl := someE hk
 exact qr1 hQ hs ⟨rfl, hw.pk [0]⟩
def Qb1 (x1 : Bool) : Option Int :=
 if x1 = true then some 4
 else some 0
def Qb0 (k : Nat) (x1 : M48) : Option Int :=
 ((Qaz x1.f1).bind fun y1 =>
  if (!y1) = true then some true
  else (Qaz x1.f2).bind fun y2 =>
  if (!y2) = true then some true
  else (Qcv k x1).bind fun y3 =>
  (Qbe k x1 y3).bind fun y4 =>
  some (!y4) : Option Bool).bind fun s1 => Qb1 s1
def QbZ (rec_catenaryref10_Check_l13 : Int → Option (Sum Int Unit)) (x1 : Int) (x2 : Bool) : Option (Sum Int Unit) :=
 if x2 = true then some (.inl 4)
 else rec_catenaryref10_Check_l13 (IntKind.i64.wrap (x1 + 1))
def catenaryref10_Check_l13 (k : Nat) (y1 : (List Int)) (x1 : M48) : Nat → Int → Option (Sum Int Unit)
 | 0, _ => none
 | j + 1, x2 =>
  if (decide (x2 < (y1.length : Int))) = true then (
   ((ix y1 x2).bind fun x3 =>
    (Qcu k x1 (chr x3)).bind fun y2 =>
    some (!y2) : Option Bool).bind fun s1 => QbZ (catenaryref10_Check_l13 k y1 x1 j) x2 s1)
  else some (.inr ())
def Qb2 (k : Nat) (x1 : M48) : Option Int :=
 if ((decide (x1.f0 < 1)) || (decide (x1.f0 > 20))) = true then some 1
 else (Qa0 x1.f0).bind fun y1 =>
 (catenaryref10_Check_l13 k y1 x1 k 0 : Option (Sum Int Unit)).bind fun
  | .inl z => some z
  | .inr _ => Qb0 k x1
theorem QgS {k : Nat} {x1 : M48} {c1 c2 c3 c4 : Nat} {p1 p2 p3 p4 : Option Addr} {r : Int} (hk : Qb2 k x1 = some r) {g w : World} {F : Ch} {ih : IH} (h1 : RSl e3 ih [] p1 c1 x1.f14.f2) (h2 : RSl Qcf ih [] p2 c2 x1.f15) (h3 : RSl e96 ih [] p3 c3 x1.f16) (h4 : RSl e5 ih [] p4 c4 x1.f17) (hw : St g w [F] ih) :
  CallsR Tryz.prog 42 #[A48 x1 p1 c1 p2 c2 p3 c3 p4 c4] w fun v w' => v = Qb r ∧ St g w' [F] ih := by
 refine f_i Tryz.func42 rfl 45 rfl fun a Qf hQ hQn hs => ?_
 refine Qd (Qa (QC hs hw [Qb x1.f0, Qb x1.f1, Qb x1.f2, Qb x1.f3, Qe x1.f4, Qe x1.f5, Qe x1.f6, Qe x1.f7, Qe x1.f8, Qe x1.f9, Qb x1.f10, Qk x1.f11, Qb x1.f12, Qb x1.f13.f0, Qb x1.f13.f1, Qe x1.f13.f2, Qb x1.f13.f3, Qb x1.f14.f0, Qe x1.f14.f1, .slice p1 x1.f14.f2.length c1, .bool x1.f14.f3, Qb x1.f14.f4, .slice p2 x1.f15.length c2, .slice p3 x1.f16.length c3, .slice p4 x1.f17.length c4] 48 (fun b => (pt b 0)) (by kernel_rfl) (fun _ => by kernel_rfl) fun a w b1 hs hw => ?_))
 refine pn hs 1 [(1, (pt b1 0))] fun a hs => Qc (Qd (Qd ?_))
 obtain ⟨J1, hJ1⟩ := mkJ fun a w => Sees a 45 [(1, (pt b1 0)), (12, .bool ((decide (x1.f0 < 1)) || (decide (x1.f0 > 20))))] ∧ St g w [k10 b1 x1.f0 x1.f1 x1.f2 x1.f3 x1.f4 x1.f5 x1.f6 x1.f7 x1.f8 x1.f9 x1.f10 x1.f11 x1.f12 x1.f13.f0 x1.f13.f1 x1.f13.f2 x1.f13.f3 x1.f14.f0 x1.f14.f1 p1 x1.f14.f2 c1 x1.f14.f3 x1.f14.f4 p2 x1.f15 c2 p3 x1.f16 c3 p4 x1.f17 c4, F] ih
 refine Qn J1 ?_ ?_
 ·refine pu hs 1 fun a hs => Qj hs (hw.at_ 0 rfl) 0 fun a hs => pu hs 2 fun a hs => ?_
  rcases boolE (decide (x1.f0 < 1)) with h5 | h5
  ·have hs := hs.aB 8 h5
   refine pu hs 4 fun a hs => Qc ?_
   exact (hJ1 _ _).2 ⟨(hs.bB 12 h5 true ((decide (x1.f0 < 1)) || (decide (x1.f0 > 20)))).cst, hw.pk [0, 1]⟩
  have hs := hs.aB 8 h5
  refine pu hs 1 fun a hs => Qj hs (hw.at_ 0 rfl) 0 fun a hs => pn hs 2 [(1, (pt b1 0)), (12, .bool (decide (x1.f0 > 20)))] fun a hs => Qc ?_
  exact (hJ1 _ _).2 ⟨(hs.bB 12 h5 (decide (x1.f0 > 20)) ((decide (x1.f0 < 1)) || (decide (x1.f0 > 20)))).cst, hw.pk [0, 1]⟩
 intro a w hh
 obtain ⟨hs, hw⟩ := (hJ1 _ _).1 hh
 rcases ifbE hk with ⟨h6, hk⟩ | ⟨h6, hk⟩
 ·refine Qr hs h6 ?_
  refine Qd (Qa (pn hs 1 [(2, Qb 1)] fun a hs => ?_))
  refine Qc (Qi ?_)
  obtain rfl := someE hk
  exact qr1 hQ hs ⟨rfl, hw.pk [1]⟩
 refine Qs hs h6 ?_
 refine Qg (Qd (Qa (pu hs 1 fun a hs => ?_)))
 refine Qj hs (hw.at_ 0 rfl) 0 fun a hs => ?_
 obtain ⟨y1, h7, hk⟩ := bindE hk
 refine Qv hs (Qem h7 ((hw.pk [0, 1]).pack 0)) fun a w v hv hs => ?_
 obtain ⟨rfl, hw⟩ := hv
 have hw := hw.unpack 0 rfl
 refine pn hs 1 [(1, (pt b1 0)), (3, .string (strOf y1))] fun a hs => Qc (Qd (Qd (Qa (pn hs 1 [(1, (pt b1 0)), (3, .string (strOf y1)), (4, Qb 0)] fun a hs => ?_))))
 refine Qc (Ql ?_)
 obtain ⟨y2, hx1, hk⟩ := bindE hk
 obtain ⟨J2, hJ2⟩ := mkJ fun a w => Qb0 k x1 = some r ∧ Sees a 45 [(1, (pt b1 0))] ∧ St g w [k10 b1 x1.f0 x1.f1 x1.f2 x1.f3 x1.f4 x1.f5 x1.f6 x1.f7 x1.f8 x1.f9 x1.f10 x1.f11 x1.f12 x1.f13.f0 x1.f13.f1 x1.f13.f2 x1.f13.f3 x1.f14.f0 x1.f14.f1 p1 x1.f14.f2 c1 x1.f14.f3 x1.f14.f4 p2 x1.f15 c2 p3 x1.f16 c3 p4 x1.f17 c4, F] ih
 obtain ⟨I1, hI1⟩ := QhB fun j a w => ∃ (x2 : Int), catenaryref10_Check_l13 k y1 x1 j x2 = some y2 ∧ Sees a 45 [(1, (pt b1 0)), (3, .string (strOf y1)), (4, Qb x2)] ∧ St g w [k10 b1 x1.f0 x1.f1 x1.f2 x1.f3 x1.f4 x1.f5 x1.f6 x1.f7 x1.f8 x1.f9 x1.f10 x1.f11 x1.f12 x1.f13.f0 x1.f13.f1 x1.f13.f2 x1.f13.f3 x1.f14.f0 x1.f14.f1 p1 x1.f14.f2 c1 x1.f14.f3 x1.f14.f4 p2 x1.f15 c2 p3 x1.f16 c3 p4 x1.f17 c4, F] ih
 refine Qau 0 J2 ?_ ?_
 ·refine QbO I1 k ((hI1 _ _ _).2 ⟨0, hx1, hs.cst, hw.pk [0, 1]⟩) (fun a w h8 => ?_) fun j a w hh => ?_
  ·obtain ⟨_, h, _⟩ := (hI1 _ _ _).1 h8
   cases h
  obtain ⟨x2, hx1, hs, hw⟩ := (hI1 _ _ _).1 hh
  refine Qd (Qd (Qa (pu hs 2 fun a hs => ?_)))
  refine QfF hs (by kernel_rfl) (QjL (xs := y1) (by kernel_rfl) (by kernel_rfl)) fun a hs => ?_
  refine pn hs 1 [(1, (pt b1 0)), (3, .string (strOf y1)), (4, Qb x2), (19, .bool (decide (x2 < (y1.length : Int))))] fun a hs => Qc ?_
  rcases ifbE hx1 with ⟨h9, hx1⟩ | ⟨h9, hx1⟩
  ·refine Qr hs h9 ?_
   refine Qg (Qd (Ql (Qd ?_)))
   obtain ⟨S, hD, kS⟩ := mkSXw hw [[], []] (K := []) rfl
   obtain ⟨y3, hx2, hx1⟩ := bindE hx1
   obtain ⟨J3, hJ3⟩ := mkJ fun a w => ∃ (x3 : Bool), QbZ (catenaryref10_Check_l13 k y1 x1 j) x2 x3 = some y2 ∧ Sees a 45 [(1, (pt b1 0)), (3, .string (strOf y1)), (4, Qb x2), (27, .bool x3)] ∧ St g w [k10 b1 x1.f0 x1.f1 x1.f2 x1.f3 x1.f4 x1.f5 x1.f6 x1.f7 x1.f8 x1.f9 x1.f10 x1.f11 x1.f12 x1.f13.f0 x1.f13.f1 x1.f13.f2 x1.f13.f3 x1.f14.f0 x1.f14.f1 p1 x1.f14.f2 c1 x1.f14.f3 x1.f14.f4 p2 x1.f15 c2 p3 x1.f16 c3 p4 x1.f17 c4, F] ih
   refine Qo (by kernel_rfl) (N := 6) rfl S J3 ?_ ?_
   ·have hw := hw.drew
    have hS : S (bA 6 0) _ := SXn hD (hw.vws [0, 1])
    refine Qy kS hs hS 0 rfl (SXb hD 0 rfl) 0 fun a hs hS => ?_
    refine Qp (fuel := 3) kS hs hS [1, 2] fun a hs hS => ?_
    obtain ⟨x4, h10, hx2⟩ := bindE hx2
    refine QgJ (fuel := 2) kS hs hS 3 rfl (by kernel_rfl) noT (by kernel_rfl) (fun w _ => (QjM (xs := y1) (k := .i64) (by kernel_rfl) (by kernel_rfl) (by kernel_rfl) h10)) fun a hs hS => ?_
    refine Qgn hS fun hS => ?_
    refine QF [4] (QH ?_)
    obtain ⟨y4, h11, hx2⟩ := bindE hx2
    refine QaR hs rfl (Qg3 h11 h1 h2 h3 h4 ((hw.pk [0, 1]).pack 0)) fun a w v hv hs => ?_
    obtain ⟨rfl, hw⟩ := hv
    have hw := hw.unpack 0 rfl
    refine nx hD ((hw.vws [0, 1]).anti (Le.refl _)) fun hS => ?_
    refine Qu kS hs hS fun a hs => ?_
    obtain rfl := someE hx2
    exact (hJ3 _ _).2 ⟨(!y4), hx1, hs.cst, hw.pk [0, 1]⟩
   intro a w hh
   obtain ⟨x3, hx1, hs, hw⟩ := (hJ3 _ _).1 hh
   rcases ifbE hx1 with ⟨h12, hx1⟩ | ⟨h12, hx1⟩
   ·refine Qr hs h12 ?_
    refine Qd (Qa (pn hs 1 [(2, Qb 4)] fun a hs => ?_))
    refine Qc (Qi ?_)
    obtain rfl := someE hx1
    obtain rfl := someE hk
    exact qr1 hQ hs ⟨rfl, hw.pk [1]⟩
   refine Qs hs h12 ?_
   refine Qg (Qa (pu hs 3 fun a hs => ?_))
   refine Qc ?_
   exact (hI1 _ _ _).2 ⟨(IntKind.i64.wrap (x2 + 1)), hx1, hs.cst, hw.pk [0, 1]⟩
  refine Qs hs h9 (Qa3 ?_)
  obtain rfl := someE hx1
  exact (hJ2 _ _).2 ⟨hk, hs.cst, hw.pk [0, 1]⟩
 intro a w hh
 obtain ⟨hk, hs, hw⟩ := (hJ2 _ _).1 hh
 refine Qd (Qd ?_)
 obtain ⟨S, hD, kS⟩ := mkSXw hw [[], []] (K := []) rfl
 obtain ⟨y5, hx3, hk⟩ := bindE hk
 obtain ⟨J4, hJ4⟩ := mkJ fun a w => ∃ (x5 : Bool), Qb1 x5 = some r ∧ Sees a 45 [(44, .bool x5)] ∧ St g w [F] ih
 refine Qo (by kernel_rfl) (N := 17) rfl S J4 ?_ ?_
 ·have hw := hw.drew
  have hS : S (bA 17 0) _ := SXn hD (hw.vws [0, 1])
  refine Qp (fuel := 16) kS hs hS [0] fun a hs hS => ?_
  refine Qy kS hs hS 1 rfl (SXb hD 0 rfl) 1 fun a hs hS => ?_
  refine QF [2] (QH ?_)
  obtain ⟨y6, h13, hx3⟩ := bindE hx3
  refine QaR hs rfl (QdM h13 ((hw.pk [0, 1]).pack 0)) fun a w v hv hs => ?_
  obtain ⟨rfl, hw⟩ := hv
  have hw := hw.unpack 0 rfl
  refine nx hD ((hw.vws [0, 1]).anti (Le.refl _)) fun hS => ?_
  refine Qp (fuel := 12) kS hs hS [3, 4] fun a hs hS => ?_
  rcases ifbE hx3 with ⟨h14, hx3⟩ | ⟨h14, hx3⟩
  ·have hs := hs.aB 32 h14
   refine Qu kS hs hS fun a hs => ?_
   obtain rfl := someE hx3
   exact (hJ4 _ _).2 ⟨true, hk, hs.cst, hw.pk [1]⟩
  have hs := hs.aB 32 h14
  refine Qp (fuel := 11) kS hs hS [5] fun a hs hS => ?_
  refine Qy kS hs hS 6 rfl (SXb hD 0 rfl) 2 fun a hs hS => ?_
  refine QF [7] (QH ?_)
  obtain ⟨y7, h15, hx3⟩ := bindE hx3
  refine QaR hs rfl (QdM h15 ((hw.pk [0, 1]).pack 0)) fun a w v hv hs => ?_
  obtain ⟨rfl, hw⟩ := hv
  have hw := hw.unpack 0 rfl
  refine nx hD ((hw.vws [0, 1]).anti (Le.refl _)) fun hS => ?_
  refine Qff (fuel := 6) kS hs hS [8, 9, 10] [(1, (pt b1 0)), (38, .bool (!y7))] fun a hs hS => ?_
  rcases ifbE hx3 with ⟨h16, hx3⟩ | ⟨h16, hx3⟩
  ·have hs := hs.aB 38 h16
   refine Qu kS hs hS fun a hs => ?_
   obtain rfl := someE hx3
   exact (hJ4 _ _).2 ⟨true, hk, hs.cst, hw.pk [1]⟩
  have hs := hs.aB 38 h16
  refine Qy kS hs hS 11 rfl (SXb hD 0 rfl) 0 fun a hs hS => ?_
  refine Qy kS hs hS 12 rfl (SXb hD 0 rfl) 0 fun a hs hS => ?_
  refine QF [13] (QH ?_)
  obtain ⟨y8, h17, hx3⟩ := bindE hx3
  refine QaR hs rfl (Qg4 h17 h1 h2 h3 h4 ((hw.pk [0, 1]).pack 0)) fun a w v hv hs => ?_
  obtain ⟨p5, c5, p6, c6, p7, c7, p8, c8, rfl, hw, h18, h19, h20, h21⟩ := hv
  have hw := hw.unpack 0 rfl
  refine nx hD ((hw.vws [0, 1]).anti (Le.refl _)) fun hS => ?_
  refine QF [14] (QH ?_)
  obtain ⟨y9, h22, hx3⟩ := bindE hx3
  refine QaR hs rfl (QeD h22 h1 h2 h3 h4 h18 h19 h20 h21 ((hw.pk [0, 1]).pack 0)) fun a w v hv hs => ?_
  obtain ⟨rfl, hw⟩ := hv
  have hw := hw.unpack 0 rfl
  refine nx hD ((hw.vws [0, 1]).anti (Le.refl _)) fun hS => ?_
  refine Qu kS hs hS fun a hs => ?_
  obtain rfl := someE hx3
  exact (hJ4 _ _).2 ⟨(!y9), hk, hs.cst, hw.pk [1]⟩
 intro a w hh
 obtain ⟨x5, hk, hs, hw⟩ := (hJ4 _ _).1 hh
 rcases ifbE hk with ⟨h23, hk⟩ | ⟨h23, hk⟩
 ·refine Qr hs h23 ?_
  refine Qd (Qa (pn hs 1 [(2, Qb 4)] fun a hs => ?_))
  refine Qc (Qi ?_)
  obtain rfl := someE hk
  exact qr1 hQ hs ⟨rfl, hw.pk [0]⟩
 refine Qs hs h23 ?_
 refine Qg (Qd (Qa (pn hs 1 [(2, Qb 0)] fun a hs => ?_)))
 refine Qc (Qi ?_)
 obtain rfl := someE hk
 exact qr1 hQ hs ⟨rfl, hw.pk [0]⟩
def Qck (x1 : Bool) : Option Bool :=
 some x1
def QaW (k : Nat) (x1 x2 : M44) : Option Bool :=
 ((QV k x2).bind fun y1 =>
  if y1 = true then (
   if (x2.f0 == x1.f0) = true then some (decide (x2.f1 > x1.f1))
   else some false)
  else some false : Option Bool).bind fun s1 => Qck s1
theorem QgP {k : Nat} {x1 x2 : M44} {c1 c2 : Nat} {p1 p2 : Option Addr} {r : Bool} (hk : QaW k x1 x2 = some r) {g w : World} {F : Ch} {ih : IH} (h1 : RSl e3 ih [] p1 c1 x1.f2) (h2 : RSl e3 ih [] p2 c2 x2.f2) (hw : St g w [F] ih) :
  CallsR Tryz.prog 76 #[A44 x1 p1 c1, A44 x2 p2 c2] w fun v w' => v = .bool r ∧ St g w' [F] ih := by
 refine f_i Tryz.func76 rfl 21 rfl fun a Qf hQ hQn hs => ?_
 refine Qd (Qa (QC hs hw [Qb x1.f0, Qe x1.f1, .slice p1 x1.f2.length c1, .bool x1.f3, Qb x1.f4] 44 (fun b => (pt b 0)) (by kernel_rfl) (fun _ => by kernel_rfl) fun a w b1 hs hw => ?_))
 refine QaN hs hw [Qb x2.f0, Qe x2.f1, .slice p2 x2.f2.length c2, .bool x2.f3, Qb x2.f4] 44 (fun b => (pt b 0)) fun a w b2 hs hw => ?_
 refine pn hs 1 [(2, (pt b1 0)), (3, (pt b2 0))] fun a hs => Qc (Qd ?_)
 obtain ⟨y1, hx1, hk⟩ := bindE hk
 obtain ⟨J1, hJ1⟩ := mkJ fun a w => ∃ (x3 : Bool), Qck x3 = some r ∧ Sees a 21 [(4, .bool x3)] ∧ St g w [F] ih
 refine Qn J1 ?_ ?_
 ·refine Qj hs (hw.at_ 0 rfl) 0 fun a hs => ?_
  obtain ⟨y2, h3, hx1⟩ := bindE hx1
  refine Qv hs (QaB h3 h2 ((hw.pk [0, 1, 2]).pack 0)) fun a w v hv hs => ?_
  obtain ⟨rfl, hw⟩ := hv
  have hw := hw.unpack 0 rfl
  refine pu hs 1 fun a hs => ?_
  rcases ifbE hx1 with ⟨h4, hx1⟩ | ⟨h4, hx1⟩
  ·have hs := hs.aB 7 h4
   refine pu hs 1 fun a hs => Qj hs (hw.at_ 0 rfl) 0 fun a hs => pu hs 1 fun a hs => Qj hs (hw.at_ 1 rfl) 0 fun a hs => pn hs 3 [(2, (pt b1 0)), (3, (pt b2 0)), (14, .bool (x2.f0 == x1.f0))] fun a hs => ?_
   rcases ifbE hx1 with ⟨h5, hx1⟩ | ⟨h5, hx1⟩
   ·have hs := hs.aB 14 h5
    refine pu hs 1 fun a hs => Qj hs (hw.at_ 0 rfl) 1 fun a hs => pu hs 1 fun a hs => Qj hs (hw.at_ 1 rfl) 1 fun a hs => pu hs 3 fun a hs => ?_
    have hw := hw.cL [k2 b2 x2.f0 x2.f1 p2 x2.f2 c2 x2.f3 x2.f4, k2 b1 x1.f0 x1.f1 p1 x1.f2 c1 x1.f3 x1.f4, F]
    refine Qc ?_
    obtain rfl := someE hx1
    exact (hJ1 _ _).2 ⟨(decide (x2.f1 > x1.f1)), hk, hs.cst, hw.pk [2]⟩
   have hs := hs.aB 14 h5
   refine pu hs 7 fun a hs => ?_
   have hw := hw.cL [k2 b2 x2.f0 x2.f1 p2 x2.f2 c2 x2.f3 x2.f4, k2 b1 x1.f0 x1.f1 p1 x1.f2 c1 x1.f3 x1.f4, F]
   refine Qc ?_
   obtain rfl := someE hx1
   exact (hJ1 _ _).2 ⟨false, hk, hs.cst, hw.pk [2]⟩
  have hs := hs.aB 7 h4
  refine pu hs 14 fun a hs => ?_
  have hw := hw.cL [k2 b2 x2.f0 x2.f1 p2 x2.f2 c2 x2.f3 x2.f4, k2 b1 x1.f0 x1.f1 p1 x1.f2 c1 x1.f3 x1.f4, F]
  refine Qc ?_
  obtain rfl := someE hx1
  exact (hJ1 _ _).2 ⟨false, hk, hs.cst, hw.pk [2]⟩
 intro a w hh
 obtain ⟨x3, hk, hs, hw⟩ := (hJ1 _ _).1 hh
 refine Qi ?_
 obtain rfl := someE hk
 exact qr1 hQ hs ⟨rfl, hw.pk [0]⟩
def QbA (x1 : List M44) (x2 : M44) (x3 : Bool) : Option ((List M44) × Bool) :=
 if x3 = true then some (x1, false)
 else (app ([]) x1).bind fun x4 =>
 (ix x4 x2.f0).bind fun x5 =>
 some ((x4.set x2.f0.toNat x2), true)
def Qbd (k : Nat) (x1 : List M44) (x2 : M44) : Option ((List M44) × Bool) :=
 (if (decide (x2.f0 < 0)) = true then some true
  else if (decide (x2.f0 ≥ (x1.length : Int))) = true then some true
  else (ix x1 x2.f0).bind fun x3 =>
  (QaW k x3 x2).bind fun y1 =>
  some (!y1) : Option Bool).bind fun s1 => QbA x1 x2 s1
theorem Qf7 {k : Nat} {x1 : List M44} {x2 : M44} {c1 c2 : Nat} {p1 p2 : Option Addr} {r : (List M44) × Bool} (hk : Qbd k x1 x2 = some r) {g w : World} {F : Ch} {ih : IH} (h1 : RSl e44 ih [] p1 c1 x1) (h2 : RSl e3 ih [] p2 c2 x2.f2) (hw : St g w [F] ih) :
  CallsR Tryz.prog 43 #[.slice p1 x1.length c1, A44 x2 p2 c2] w fun v w' => ∃ (ih' : IH) (p3 : Option Addr) (c3 : Nat), v = .tuple #[.slice p3 r.1.length c3, .bool r.2] ∧ St g w' [F] ih' ∧ Le ih ih' ∧ RSl e44 ih' [] p3 c3 r.1 := by
 refine f_i Tryz.func43 rfl 36 rfl fun a Qf hQ hQn hs => ?_
 refine Qd (Qa (QC hs hw [Qb x2.f0, Qe x2.f1, .slice p2 x2.f2.length c2, .bool x2.f3, Qb x2.f4] 44 (fun b => (pt b 0)) (by kernel_rfl) (fun _ => by kernel_rfl) fun a w b1 hs hw => ?_))
 refine pn hs 2 [(0, .slice p1 x1.length c1), (3, (pt b1 0))] fun a hs => Qc (Qd (Qd ?_))
 have hw := hw.cL [k2 b1 x2.f0 x2.f1 p2 x2.f2 c2 x2.f3 x2.f4, F]
 obtain ⟨S, hD, kS⟩ := mkSXw hw [[], []] (K := []) rfl
 obtain ⟨y1, hx1, hk⟩ := bindE hk
 obtain ⟨J1, hJ1⟩ := mkJ fun a w => ∃ (x3 : Bool), QbA x1 x2 x3 = some r ∧ Sees a 36 [(0, .slice p1 x1.length c1), (3, (pt b1 0)), (26, .bool x3)] ∧ St g w [k2 b1 x2.f0 x2.f1 p2 x2.f2 c2 x2.f3 x2.f4, F] ih
 refine Qo (by kernel_rfl) (N := 20) rfl S J1 ?_ ?_
 ·have hw := hw.drew
  have hS : S (bA 20 0) _ := SXn hD (hw.vws [0, 1])
  refine Qp (fuel := 19) kS hs hS [0] fun a hs hS => ?_
  refine Qy kS hs hS 1 rfl (SXb hD 0 rfl) 0 fun a hs hS => ?_
  refine Qp (fuel := 16) kS hs hS [2, 3] fun a hs hS => ?_
  rcases ifbE hx1 with ⟨h3, hx1⟩ | ⟨h3, hx1⟩
  ·have hs := hs.aB 10 h3
   refine Qu kS hs hS fun a hs => ?_
   obtain rfl := someE hx1
   exact (hJ1 _ _).2 ⟨true, hk, hs.cst, hw.pk [0, 1]⟩
  have hs := hs.aB 10 h3
  refine Qp (fuel := 15) kS hs hS [4] fun a hs hS => ?_
  refine Qy kS hs hS 5 rfl (SXb hD 0 rfl) 0 fun a hs hS => ?_
  refine Qff (fuel := 9) kS hs hS [6, 7, 8, 9, 10] [(0, .slice p1 x1.length c1), (3, (pt b1 0)), (17, .bool (decide (x2.f0 ≥ (x1.length : Int))))] fun a hs hS => ?_
  rcases ifbE hx1 with ⟨h4, hx1⟩ | ⟨h4, hx1⟩
  ·have hs := hs.aB 17 h4
   refine Qu kS hs hS fun a hs => ?_
   obtain rfl := someE hx1
   exact (hJ1 _ _).2 ⟨true, hk, hs.cst, hw.pk [0, 1]⟩
  have hs := hs.aB 17 h4
  refine Qp (fuel := 7) kS hs hS [11, 12] fun a hs hS => ?_
  refine Qy kS hs hS 13 rfl (SXb hD 0 rfl) 0 fun a hs hS => ?_
  obtain ⟨x4, h5, hx1⟩ := bindE hx1
  refine Qay (fuel := 5) kS hs hS 14 rfl (by kernel_rfl) h1 (by kernel_rfl) (by kernel_rfl) (k := .i64) (by kernel_rfl) 44 (by kernel_rfl) (by kernel_rfl) h5 fun a r174 cs henc at175 hs hS => ?_
  refine Qgn hS fun hS => ?_
  obtain ⟨p4, c4, rfl, h6⟩ := henc
  refine Qy kS hs hS 15 rfl (fun l w hu hS => at175 w ((Qi8 hD l w hu hS).anti (Le.refl _))) 0 fun a hs hS => ?_
  refine Qy kS hs hS 16 rfl (SXb hD 0 rfl) 0 fun a hs hS => ?_
  refine QF [17] (QH ?_)
  obtain ⟨y2, h7, hx1⟩ := bindE hx1
  refine QaR hs rfl (QgP h7 h6 h2 ((hw.pk [0, 1]).pack 0)) fun a w v hv hs => ?_
  obtain ⟨rfl, hw⟩ := hv
  have hw := hw.unpack 0 rfl
  refine nx hD ((hw.vws [0, 1]).anti (Le.refl _)) fun hS => ?_
  refine Qu kS hs hS fun a hs => ?_
  obtain rfl := someE hx1
  exact (hJ1 _ _).2 ⟨(!y2), hk, hs.cst, hw.pk [0, 1]⟩
 intro a w hh
 obtain ⟨x3, hk, hs, hw⟩ := (hJ1 _ _).1 hh
 rcases ifbE hk with ⟨h8, hk⟩ | ⟨h8, hk⟩
 ·refine Qr hs h8 ?_
  refine Qd (Qa (pn hs 3 [(4, .slice p1 x1.length c1), (5, .bool false)] fun a hs => ?_))
  refine Qc (Qi ?_)
  obtain rfl := someE hk
  refine hQ _ _ (Q4 hs [.tmp 4, .tmp 5] rfl [.slice p1 x1.length c1, .bool false] (by kernel_rfl) (by kernel_rfl) ⟨ih, p1, c1, rfl, hw.pk [1], (Le.refl _), h1⟩)
 refine Qs hs h8 ?_
 refine Qg (Qd (Qa (pu hs 1 fun a hs => ?_)))
 have hw := hw.nil
 obtain ⟨x5, h9, hk⟩ := bindE hk
 refine Qi1 hs hw (E := e44) Qly 0 rfl (OSl.nil _ _) (by kernel_rfl) (by kernel_rfl) (h1.mono (Le.refl _)) (hw.vwAll.nil.anti (Le.refl _)) (by kernel_rfl) h9 fun a w p5 c5 d1 h10 hw hs => ?_
 refine pn hs 1 [(3, (pt b1 0)), (6, .slice p5 x5.length c5)] fun a hs => Qc (Qd (Qa (pu hs 2 fun a hs => ?_)))
 refine Qj hs (hw.at_ 1 rfl) 0 fun a hs => Qj hs (hw.at_ 1 rfl) 0 fun a hs => ?_
 obtain ⟨x6, h11, hk⟩ := bindE hk
 refine QeI hs h10 (by kernel_rfl) (by kernel_rfl) (k := .i64) (by kernel_rfl) 44 (by kernel_rfl) (by kernel_rfl) h11 fun a r154 cs henc at155 h12 hs => ?_
 obtain ⟨p6, c6, rfl, h13⟩ := henc
 have hs := hs.cst (e' := [(6, .slice p5 x5.length c5), (33, A44 x2 p2 c2), (34, .pointer (some r154))])
 refine Qj9 hs hw 0 rfl h10 h12 x2 h11 0 (by kernel_rfl) (by kernel_rfl) (v := A44 x2 p2 c2) (by kernel_rfl) (by kernel_rfl) (by kernel_rfl) (by kernel_rfl) ⟨p6, c6, rfl, h13⟩ (fun w hv => at155 w (hv.anti (Le.refl _))) ⟨p2, c2, rfl, h2⟩ fun a w d2 h14 hw hs => ?_
 have h15 : x5.length = (x5.set x2.f0.toNat x2).length := List.length_set.symm
 try rw [h15] at hs
 try rw [h15] at hw
 refine Qc (Qd (Qa (pn hs 3 [(4, .slice p5 (x5.set x2.f0.toNat x2).length c5), (5, .bool true)] fun a hs => ?_)))
 refine Qc (Qi ?_)
 obtain ⟨ih1, hle1, hw, h16⟩ := (hw.pk [0, 1, 2]).fz (h14.mono (Le.refl _))
 obtain rfl := someE hk
 refine hQ _ _ (Q4 hs [.tmp 4, .tmp 5] rfl [.slice p5 (x5.set x2.f0.toNat x2).length c5, .bool true] (by kernel_rfl) (by kernel_rfl) ⟨ih1, p5, c5, rfl, hw.pk [1], hle1, h16⟩)
def QcJ (x1 : M60) (y1 : (List M44) × Bool) (x2 : List M48) : Option (M60 × (List M48)) :=
 some ((M60.mk x1.f0 x1.f1 x1.f2 x1.f3 y1.1 x1.f5 x1.f6 x1.f7 x1.f8 x1.f9), x2)
def QcI (k : Nat) (x1 : M60) (y1 : (List M44) × Bool) (x2 : Bool) : Option (M60 × (List M48)) :=
 if x2 = true then (
  ((Q9 k (M60.mk x1.f0 x1.f1 x1.f2 x1.f3 y1.1 x1.f5 x1.f6 x1.f7 x1.f8 x1.f9)).bind fun y2 =>
   some y2 : Option (List M48)).bind fun s1 => QcJ x1 y1 s1)
 else some ((M60.mk x1.f0 x1.f1 x1.f2 x1.f3 y1.1 x1.f5 x1.f6 x1.f7 x1.f8 x1.f9), [])
def QcH (x1 : M60) (x2 x3 x4 : Int) (x5 : List Int) (x6 x7 x8 : Int) (x9 : List Int) : Option (M60 × (List M48)) :=
 some ((M60.mk x1.f0 x1.f1 x1.f2 x1.f3 x1.f4 x1.f5 x2 (M51.mk x3 x4 x5) x6 (M51.mk x7 x8 x9)), [])
def Qci (x1 : M48) (x2 : M60) (x3 x4 x5 : Int) (x6 : List Int) (x7 x8 x9 : Int) (x10 : List Int) : Option (M60 × (List M48)) :=
 (if ((x1.f0 == 20) && ((x2.f5.f0 == 1) && (x1.f11 == x2.f5.f1))) = true then some (2, 0, x1.f9, x1.f17, x2.f2, 0, x1.f9, x1.f17)
  else some (x3, x4, x5, x6, x7, x8, x9, x10) : Option (Int × Int × Int × (List Int) × Int × Int × Int × (List Int))).bind fun s1 => QcH x2 s1.1 s1.2.1 s1.2.2.1 s1.2.2.2.1 s1.2.2.2.2.1 s1.2.2.2.2.2.1 s1.2.2.2.2.2.2.1 s1.2.2.2.2.2.2.2
def Qch (x1 : M60) (x2 : M48) (x3 : Bool) : Option (M60 × (List M48)) :=
 if x3 = true then some (x1, [])
 else (if ((x2.f0 == 18) && (x1.f5.f0 != 1)) = true then some (2, x2.f12, x2.f9, [], x1.f2, x2.f12, x2.f9, [])
  else some (x1.f6, x1.f7.f0, x1.f7.f1, x1.f7.f2, x1.f8, x1.f9.f0, x1.f9.f1, x1.f9.f2) : Option (Int × Int × Int × (List Int) × Int × Int × Int × (List Int))).bind fun s1 => Qci x2 x1 s1.1 s1.2.1 s1.2.2.1 s1.2.2.2.1 s1.2.2.2.2.1 s1.2.2.2.2.2.1 s1.2.2.2.2.2.2.1 s1.2.2.2.2.2.2.2
def Qa5 (k : Nat) (x1 : M60) (x2 : M48) (x3 : Bool) : Option (M60 × (List M48)) :=
 if x3 = true then some (x1, [])
 else if (x2.f0 == 11) = true then (
  (Qbd k x1.f4 x2.f14).bind fun y1 =>
  (if y1.2 = true then (
    if (x1.f6 == 1) = true then (
     (QU (M60.mk x1.f0 x1.f1 x1.f2 x1.f3 y1.1 x1.f5 x1.f6 x1.f7 x1.f8 x1.f9)).bind fun y2 =>
     some (y2.f0 == x2.f14.f0))
    else some false)
   else some false : Option Bool).bind fun s1 => QcI k x1 y1 s1)
 else (if (x1.f6 != 1) = true then some true
  else (Qbf x2.f1).bind fun y3 =>
  if (!y3) = true then some true
  else some (x2.f6 != x1.f2) : Option Bool).bind fun s2 => Qch x1 x2 s2
def QO (k : Nat) (x1 : M60) (x2 : M48) : Option (M60 × (List M48)) :=
 ((Qb2 k x2).bind fun y1 =>
  if (y1 != 0) = true then some true
  else some (x2.f2 != (IntKind.i64.wrap (200 + x1.f0))) : Option Bool).bind fun s1 => Qa5 k x1 x2 s1
theorem QeB {k : Nat} {x1 : M60} {x2 : M48} {c1 c2 c3 c4 c5 c6 c7 c8 : Nat} {p1 p2 p3 p4 p5 p6 p7 p8 : Option Addr} {r : M60 × (List M48)} (hk : QO k x1 x2 = some r) {g w : World} {F : Ch} {ih : IH} (h1 : RSl e44 ih [] p1 c1 x1.f4) (h2 : RSl e5 ih [] p2 c2 x1.f5.f3) (h3 : RSl e5 ih [] p3 c3 x1.f7.f2) (h4 : RSl e5 ih [] p4 c4 x1.f9.f2) (h5 : RSl e3 ih [] p5 c5 x2.f14.f2) (h6 : RSl Qcf ih [] p6 c6 x2.f15) (h7 : RSl e96 ih [] p7 c7 x2.f16) (h8 : RSl e5 ih [] p8 c8 x2.f17) (hw : St g w [F] ih) :
  CallsR Tryz.prog 20 #[A60 x1 p1 c1 p2 c2 p3 c3 p4 c4, A48 x2 p5 c5 p6 c6 p7 c7 p8 c8] w fun v w' => ∃ (ih' : IH) (p9 : Option Addr) (c9 : Nat) (p10 : Option Addr) (c10 : Nat) (p11 : Option Addr) (c11 : Nat) (p12 : Option Addr) (c12 : Nat) (p13 : Option Addr) (c13 : Nat) (d1 : Ch), v = .tuple #[.agg #[Qb r.1.f0, Qb r.1.f1, Qe r.1.f2, Qb r.1.f3, .slice p9 r.1.f4.length c9, Qb r.1.f5.f0, Qk r.1.f5.f1, Qe r.1.f5.f2, .slice p10 r.1.f5.f3.length c10, Qb r.1.f5.f4, Qb r.1.f6, Qb r.1.f7.f0, Qe r.1.f7.f1, .slice p11 r.1.f7.f2.length c11, Qe r.1.f8, Qb r.1.f9.f0, Qe r.1.f9.f1, .slice p12 r.1.f9.f2.length c12], .slice p13 r.2.length c13] ∧ St g w' [d1, F] ih' ∧ Le ih ih' ∧ RSl e44 ih' [] p9 c9 r.1.f4 ∧ RSl e5 ih' [] p10 c10 r.1.f5.f3 ∧ RSl e5 ih' [] p11 c11 r.1.f7.f2 ∧ RSl e5 ih' [] p12 c12 r.1.f9.f2 ∧ OSl e48 ih' p13 c13 r.2 d1 := by
 refine f_i Tryz.func20 rfl 122 rfl fun a Qf hQ hQn hs => ?_
 refine Qd (Qa (QC hs hw [Qb x1.f0, Qb x1.f1, Qe x1.f2, Qb x1.f3, .slice p1 x1.f4.length c1, Qb x1.f5.f0, Qk x1.f5.f1, Qe x1.f5.f2, .slice p2 x1.f5.f3.length c2, Qb x1.f5.f4, Qb x1.f6, Qb x1.f7.f0, Qe x1.f7.f1, .slice p3 x1.f7.f2.length c3, Qe x1.f8, Qb x1.f9.f0, Qe x1.f9.f1, .slice p4 x1.f9.f2.length c4] 60 (fun b => (pt b 0)) (by kernel_rfl) (fun _ => by kernel_rfl) fun a w b1 hs hw => ?_))
 refine QaN hs hw [Qb x2.f0, Qb x2.f1, Qb x2.f2, Qb x2.f3, Qe x2.f4, Qe x2.f5, Qe x2.f6, Qe x2.f7, Qe x2.f8, Qe x2.f9, Qb x2.f10, Qk x2.f11, Qb x2.f12, Qb x2.f13.f0, Qb x2.f13.f1, Qe x2.f13.f2, Qb x2.f13.f3, Qb x2.f14.f0, Qe x2.f14.f1, .slice p5 x2.f14.f2.length c5, .bool x2.f14.f3, Qb x2.f14.f4, .slice p6 x2.f15.length c6, .slice p7 x2.f16.length c7, .slice p8 x2.f17.length c8] 48 (fun b => (pt b 0)) fun a w b2 hs hw => ?_
 refine QaN hs hw [Qb 0, Qb 0, Qe 0, Qb 0, .slice none 0 0, Qb 0, Qk 0, Qe 0, .slice none 0 0, Qb 0, Qb 0, Qb 0, Qe 0, .slice none 0 0, Qe 0, Qb 0, Qe 0, .slice none 0 0] 60 (fun b => (pt b 0)) fun a w b3 hs hw => ?_
 refine pn hs 1 [(2, (pt b1 0)), (3, (pt b2 0)), (4, (pt b3 0))] fun a hs => Qc (Qd (Qd ?_))
 obtain ⟨y1, hx1, hk⟩ := bindE hk
 obtain ⟨J1, hJ1⟩ := mkJ fun a w => ∃ (x3 : Bool), Qa5 k x1 x2 x3 = some r ∧ Sees a 122 [(2, (pt b1 0)), (3, (pt b2 0)), (4, (pt b3 0)), (18, .bool x3)] ∧ St g w [k51 b3, k10 b2 x2.f0 x2.f1 x2.f2 x2.f3 x2.f4 x2.f5 x2.f6 x2.f7 x2.f8 x2.f9 x2.f10 x2.f11 x2.f12 x2.f13.f0 x2.f13.f1 x2.f13.f2 x2.f13.f3 x2.f14.f0 x2.f14.f1 p5 x2.f14.f2 c5 x2.f14.f3 x2.f14.f4 p6 x2.f15 c6 p7 x2.f16 c7 p8 x2.f17 c8, k52 b1 x1.f0 x1.f1 x1.f2 x1.f3 p1 x1.f4 c1 x1.f5.f0 x1.f5.f1 x1.f5.f2 p2 x1.f5.f3 c2 x1.f5.f4 x1.f6 x1.f7.f0 x1.f7.f1 p3 x1.f7.f2 c3 x1.f8 x1.f9.f0 x1.f9.f1 p4 x1.f9.f2 c4, F] ih
 refine Qn J1 ?_ ?_
 ·refine Qj hs (hw.at_ 1 rfl) 0 fun a hs => ?_
  obtain ⟨y2, h9, hx1⟩ := bindE hx1
  refine Qv hs (QgS h9 h5 h6 h7 h8 ((hw.pk [0, 1, 2, 3]).pack 0)) fun a w v hv hs => ?_
  obtain ⟨rfl, hw⟩ := hv
  have hw := hw.unpack 0 rfl
  refine pu hs 2 fun a hs => ?_
  rcases ifbE hx1 with ⟨h10, hx1⟩ | ⟨h10, hx1⟩
  ·have hs := hs.aB 11 h10
   refine pu hs 7 fun a hs => ?_
   have hw := hw.cL [k51 b3, k10 b2 x2.f0 x2.f1 x2.f2 x2.f3 x2.f4 x2.f5 x2.f6 x2.f7 x2.f8 x2.f9 x2.f10 x2.f11 x2.f12 x2.f13.f0 x2.f13.f1 x2.f13.f2 x2.f13.f3 x2.f14.f0 x2.f14.f1 p5 x2.f14.f2 c5 x2.f14.f3 x2.f14.f4 p6 x2.f15 c6 p7 x2.f16 c7 p8 x2.f17 c8, k52 b1 x1.f0 x1.f1 x1.f2 x1.f3 p1 x1.f4 c1 x1.f5.f0 x1.f5.f1 x1.f5.f2 p2 x1.f5.f3 c2 x1.f5.f4 x1.f6 x1.f7.f0 x1.f7.f1 p3 x1.f7.f2 c3 x1.f8 x1.f9.f0 x1.f9.f1 p4 x1.f9.f2 c4, F]
   refine Qc ?_
   obtain rfl := someE hx1
   exact (hJ1 _ _).2 ⟨true, hk, hs.cst, hw.pk [0, 1, 2, 3]⟩
  have hs := hs.aB 11 h10
  refine pu hs 1 fun a hs => Qj hs (hw.at_ 1 rfl) 2 fun a hs => pu hs 1 fun a hs => Qj hs (hw.at_ 2 rfl) 0 fun a hs => pn hs 3 [(2, (pt b1 0)), (3, (pt b2 0)), (4, (pt b3 0)), (18, .bool (x2.f2 != (IntKind.i64.wrap (200 + x1.f0))))] fun a hs => ?_
  have hw := hw.cL [k51 b3, k10 b2 x2.f0 x2.f1 x2.f2 x2.f3 x2.f4 x2.f5 x2.f6 x2.f7 x2.f8 x2.f9 x2.f10 x2.f11 x2.f12 x2.f13.f0 x2.f13.f1 x2.f13.f2 x2.f13.f3 x2.f14.f0 x2.f14.f1 p5 x2.f14.f2 c5 x2.f14.f3 x2.f14.f4 p6 x2.f15 c6 p7 x2.f16 c7 p8 x2.f17 c8, k52 b1 x1.f0 x1.f1 x1.f2 x1.f3 p1 x1.f4 c1 x1.f5.f0 x1.f5.f1 x1.f5.f2 p2 x1.f5.f3 c2 x1.f5.f4 x1.f6 x1.f7.f0 x1.f7.f1 p3 x1.f7.f2 c3 x1.f8 x1.f9.f0 x1.f9.f1 p4 x1.f9.f2 c4, F]
  refine Qc ?_
  obtain rfl := someE hx1
  exact (hJ1 _ _).2 ⟨(x2.f2 != (IntKind.i64.wrap (200 + x1.f0))), hk, hs.cst, hw.pk [0, 1, 2, 3]⟩
 intro a w hh
 obtain ⟨x3, hk, hs, hw⟩ := (hJ1 _ _).1 hh
 rcases ifbE hk with ⟨h11, hk⟩ | ⟨h11, hk⟩
 ·refine Qr hs h11 ?_
  refine Qd (Qa (Qj hs (hw.at_ 2 rfl) 0 fun a hs => ?_))
  refine QE hs hw 0 rfl 0 (v := A60 x1 p1 c1 p2 c2 p3 c3 p4 c4) fun a w hs hw => ?_
  refine pn hs 1 [(4, (pt b3 0)), (5, .slice none 0 0)] fun a hs => Qc (Qi ?_)
  have hw := hw.nil
  obtain rfl := someE hk
  refine hQ _ _ (Qcs hs (l := [.cell 4 60, .tmp 5]) (vs := [A60 x1 p1 c1 p2 c2 p3 c3 p4 c4, .slice none 0 0]) rfl (⟨Qab hs (hw.at_ 1 rfl) (by kernel_rfl) (v := A60 x1 p1 c1 p2 c2 p3 c3 p4 c4) (by kernel_rfl), ⟨Qaf hs (v := .slice none 0 0) (by kernel_rfl), trivial⟩⟩) (by kernel_rfl) ⟨ih, p1, c1, p2, c2, p3, c3, p4, c4, none, 0, ([]), rfl, hw.pk [0, 4], (Le.refl _), h1, h2, h3, h4, (OSl.nil _ _)⟩)
 refine Qs hs h11 ?_
 refine Qg (Qd (Qd (Qa (pu hs 1 fun a hs => ?_))))
 refine Qj hs (hw.at_ 1 rfl) 0 fun a hs => pn hs 1 [(2, (pt b1 0)), (3, (pt b2 0)), (4, (pt b3 0)), (22, .bool (x2.f0 == 11))] fun a hs => Qc ?_
 rcases ifbE hk with ⟨h12, hk⟩ | ⟨h12, hk⟩
 ·refine Qr hs h12 ?_
  refine Qd (Qa (pu hs 1 fun a hs => ?_))
  refine Qj hs (hw.at_ 2 rfl) 4 fun a hs => pu hs 1 fun a hs => Qj hs (hw.at_ 1 rfl) 17 fun a hs => ?_
  obtain ⟨y3, h13, hk⟩ := bindE hk
  refine Qv hs (Qf7 h13 h1 h5 ((hw.pk [0, 1, 2, 3]).pack 0)) fun a w v hv hs => ?_
  obtain ⟨ih1, p14, c14, rfl, hw, hle1, h14⟩ := hv
  have hw := hw.unpack 0 rfl
  refine pn hs 5 [(2, (pt b1 0)), (3, (pt b2 0)), (4, (pt b3 0)), (6, .slice p14 y3.1.length c14), (7, .bool y3.2)] fun a hs => Qc (Qd (Qa (pu hs 2 fun a hs => ?_)))
  refine QE hs hw 2 rfl 4 (v := .slice p14 y3.1.length c14) fun a w hs hw => ?_
  have hs := hs.cst (e' := [(2, (pt b1 0)), (3, (pt b2 0)), (4, (pt b3 0)), (7, .bool y3.2)])
  refine Qc (Qd (Qd ?_))
  have hw := hw.cL [k51 b3, k10 b2 x2.f0 x2.f1 x2.f2 x2.f3 x2.f4 x2.f5 x2.f6 x2.f7 x2.f8 x2.f9 x2.f10 x2.f11 x2.f12 x2.f13.f0 x2.f13.f1 x2.f13.f2 x2.f13.f3 x2.f14.f0 x2.f14.f1 p5 x2.f14.f2 c5 x2.f14.f3 x2.f14.f4 p6 x2.f15 c6 p7 x2.f16 c7 p8 x2.f17 c8, k52 b1 x1.f0 x1.f1 x1.f2 x1.f3 p14 y3.1 c14 x1.f5.f0 x1.f5.f1 x1.f5.f2 p2 x1.f5.f3 c2 x1.f5.f4 x1.f6 x1.f7.f0 x1.f7.f1 p3 x1.f7.f2 c3 x1.f8 x1.f9.f0 x1.f9.f1 p4 x1.f9.f2 c4, F]
  obtain ⟨S, hD, kS⟩ := mkSXw hw [[], [], [], []] (K := []) rfl
  obtain ⟨y4, hx2, hk⟩ := bindE hk
  obtain ⟨J2, hJ2⟩ := mkJ fun a w => ∃ (x4 : Bool), QcI k x1 y3 x4 = some r ∧ Sees a 122 [(2, (pt b1 0)), (4, (pt b3 0)), (47, .bool x4)] ∧ St g w [k51 b3, k52 b1 x1.f0 x1.f1 x1.f2 x1.f3 p14 y3.1 c14 x1.f5.f0 x1.f5.f1 x1.f5.f2 p2 x1.f5.f3 c2 x1.f5.f4 x1.f6 x1.f7.f0 x1.f7.f1 p3 x1.f7.f2 c3 x1.f8 x1.f9.f0 x1.f9.f1 p4 x1.f9.f2 c4, F] ih1
  refine Qo (by kernel_rfl) (N := 15) rfl S J2 ?_ ?_
  ·have hw := hw.drew
   have hS : S (bA 15 0) _ := SXn hD (hw.vws [0, 1, 2, 3])
   refine Qp (fuel := 13) kS hs hS [0, 1] fun a hs hS => ?_
   rcases ifbE hx2 with ⟨h15, hx2⟩ | ⟨h15, hx2⟩
   ·have hs := hs.aB 34 h15
    refine Qp (fuel := 12) kS hs hS [2] fun a hs hS => ?_
    refine Qy kS hs hS 3 rfl (SXb hD 2 rfl) 10 fun a hs hS => ?_
    refine Qp (fuel := 8) kS hs hS [4, 5, 6] fun a hs hS => ?_
    rcases ifbE hx2 with ⟨h16, hx2⟩ | ⟨h16, hx2⟩
    ·have hs := hs.aB 39 h16
     refine Qy kS hs hS 7 rfl (SXb hD 2 rfl) 0 fun a hs hS => ?_
     refine Qff (fuel := 5) kS hs hS [10, 11] [(2, (pt b1 0)), (4, (pt b3 0)), (39, .bool true), (40, .agg #[Qb x1.f0, Qb x1.f1, Qe x1.f2, Qb x1.f3, .slice p14 y3.1.length c14, Qb x1.f5.f0, Qk x1.f5.f1, Qe x1.f5.f2, .slice p2 x1.f5.f3.length c2, Qb x1.f5.f4, Qb x1.f6, Qb x1.f7.f0, Qe x1.f7.f1, .slice p3 x1.f7.f2.length c3, Qe x1.f8, Qb x1.f9.f0, Qe x1.f9.f1, .slice p4 x1.f9.f2.length c4]), (44, (pt b2 17))] fun a hs hS => ?_
     refine Qy kS hs hS 12 rfl (SXb hD 1 rfl) 17 fun a hs hS => ?_
     refine QF [8] (QH ?_)
     obtain ⟨y5, h17, hx2⟩ := bindE hx2
     refine QaR hs rfl (QcF h17 h14 (h2.mono hle1) (h3.mono hle1) (h4.mono hle1) ((hw.pk [0, 1, 2, 3]).pack 0)) fun a w v hv hs => ?_
     obtain ⟨p15, c15, rfl, hw, h18⟩ := hv
     have hw := hw.unpack 0 rfl
     refine nx hD ((hw.vws [0, 1, 2, 3]).anti (Le.refl _)) fun hS => ?_
     refine Qu kS hs hS fun a hs => ?_
     obtain rfl := someE hx2
     exact (hJ2 _ _).2 ⟨(y5.f0 == x2.f14.f0), hk, hs.cst, hw.pk [0, 2, 3]⟩
    have hs := hs.aB 39 h16
    refine Qu kS hs hS fun a hs => ?_
    obtain rfl := someE hx2
    exact (hJ2 _ _).2 ⟨false, hk, hs.cst, hw.pk [0, 2, 3]⟩
   have hs := hs.aB 34 h15
   refine Qu kS hs hS fun a hs => ?_
   obtain rfl := someE hx2
   exact (hJ2 _ _).2 ⟨false, hk, hs.cst, hw.pk [0, 2, 3]⟩
  intro a w hh
  obtain ⟨x4, hk, hs, hw⟩ := (hJ2 _ _).1 hh
  rcases ifbE hk with ⟨h19, hk⟩ | ⟨h19, hk⟩
  ·refine Qr hs h19 (Qd ?_)
   obtain ⟨S, hD, kS⟩ := mkSXw hw [[3], [], []] (K := [3]) rfl
   obtain ⟨y6, hx3, hk⟩ := bindE hk
   obtain ⟨J3, hJ3⟩ := mkJ fun a w => ∃ (x5 : List M48) (p16 : Option Addr) (c16 : Nat) (d2 : Ch) (ih2 : IH), QcJ x1 y3 x5 = some r ∧ Sees a 122 [(4, (pt b3 0)), (5, .slice p16 x5.length c16)] ∧ St g w [k52 b3 x1.f0 x1.f1 x1.f2 x1.f3 p14 y3.1 c14 x1.f5.f0 x1.f5.f1 x1.f5.f2 p2 x1.f5.f3 c2 x1.f5.f4 x1.f6 x1.f7.f0 x1.f7.f1 p3 x1.f7.f2 c3 x1.f8 x1.f9.f0 x1.f9.f1 p4 x1.f9.f2 c4, d2, F] ih2 ∧ Le ih1 ih2 ∧ OSl e48 ih2 p16 c16 x5 d2
   refine Qo (by kernel_rfl) (N := 5) rfl S J3 ?_ ?_
   ·have hw := hw.drew
    have hS : S (bA 5 0) _ := SXn hD (hw.vws [0, 1, 2])
    refine Qy kS hs hS 0 rfl (SXb hD 1 rfl) 0 fun a hs hS => ?_
    refine Qy kS hs hS 1 rfl (SXb hD 1 rfl) 0 fun a hs hS => ?_
    refine QF [2] (QH ?_)
    obtain ⟨y7, h20, hx3⟩ := bindE hx3
    refine QaR hs rfl (Qds h20 h14 (h2.mono hle1) (h3.mono hle1) (h4.mono hle1) ((hw.pk [0, 1, 2]).pack 0)) fun a w v hv hs => ?_
    obtain ⟨ih3, p17, c17, d3, rfl, hw, hle2, h21⟩ := hv
    have hw := hw.unpack 1 rfl
    refine nx hD ((hw.vws [1, 2, 3]).anti hle2) fun hS => ?_
    refine QF [3] (QH ?_)
    refine QfM hs hw rfl 1 rfl 0 (v := .agg #[Qb x1.f0, Qb x1.f1, Qe x1.f2, Qb x1.f3, .slice p14 y3.1.length c14, Qb x1.f5.f0, Qk x1.f5.f1, Qe x1.f5.f2, .slice p2 x1.f5.f3.length c2, Qb x1.f5.f4, Qb x1.f6, Qb x1.f7.f0, Qe x1.f7.f1, .slice p3 x1.f7.f2.length c3, Qe x1.f8, Qb x1.f9.f0, Qe x1.f9.f1, .slice p4 x1.f9.f2.length c4]) fun a w hs hw => ?_
    refine nx hD ((hw.vws [2, 3]).anti hle2) fun hS => ?_
    refine Qu kS hs hS fun a hs => ?_
    obtain rfl := someE hx3
    exact (hJ3 _ _).2 ⟨y7, p17, c17, d3, ih3, hk, hs.cst, hw.pk [1, 0, 3], hle2, h21⟩
   intro a w hh
   obtain ⟨x5, p16, c16, d2, ih2, hk, hs, hw, hle3, h22⟩ := (hJ3 _ _).1 hh
   refine Qi ?_
   obtain rfl := someE hk
   refine hQ _ _ (Qcs hs (l := [.cell 4 60, .tmp 5]) (vs := [.agg #[Qb x1.f0, Qb x1.f1, Qe x1.f2, Qb x1.f3, .slice p14 y3.1.length c14, Qb x1.f5.f0, Qk x1.f5.f1, Qe x1.f5.f2, .slice p2 x1.f5.f3.length c2, Qb x1.f5.f4, Qb x1.f6, Qb x1.f7.f0, Qe x1.f7.f1, .slice p3 x1.f7.f2.length c3, Qe x1.f8, Qb x1.f9.f0, Qe x1.f9.f1, .slice p4 x1.f9.f2.length c4], .slice p16 x5.length c16]) rfl (⟨Qab hs (hw.at_ 0 rfl) (by kernel_rfl) (v := .agg #[Qb x1.f0, Qb x1.f1, Qe x1.f2, Qb x1.f3, .slice p14 y3.1.length c14, Qb x1.f5.f0, Qk x1.f5.f1, Qe x1.f5.f2, .slice p2 x1.f5.f3.length c2, Qb x1.f5.f4, Qb x1.f6, Qb x1.f7.f0, Qe x1.f7.f1, .slice p3 x1.f7.f2.length c3, Qe x1.f8, Qb x1.f9.f0, Qe x1.f9.f1, .slice p4 x1.f9.f2.length c4]) (by kernel_rfl), ⟨Qaf hs (v := .slice p16 x5.length c16) (by kernel_rfl), trivial⟩⟩) (by kernel_rfl) ⟨ih2, p14, c14, p2, c2, p3, c3, p4, c4, p16, c16, d2, rfl, hw.pk [1, 2], (hle1.trans hle3), (h14.mono hle3), (h2.mono (hle1.trans hle3)), (h3.mono (hle1.trans hle3)), (h4.mono (hle1.trans hle3)), h22⟩)
  refine Qs hs h19 ?_
  refine Qg (Qd (Qa (Qj hs (hw.at_ 1 rfl) 0 fun a hs => ?_)))
  refine QE hs hw 0 rfl 0 (v := .agg #[Qb x1.f0, Qb x1.f1, Qe x1.f2, Qb x1.f3, .slice p14 y3.1.length c14, Qb x1.f5.f0, Qk x1.f5.f1, Qe x1.f5.f2, .slice p2 x1.f5.f3.length c2, Qb x1.f5.f4, Qb x1.f6, Qb x1.f7.f0, Qe x1.f7.f1, .slice p3 x1.f7.f2.length c3, Qe x1.f8, Qb x1.f9.f0, Qe x1.f9.f1, .slice p4 x1.f9.f2.length c4]) fun a w hs hw => ?_
  refine pn hs 1 [(4, (pt b3 0)), (5, .slice none 0 0)] fun a hs => Qc (Qi ?_)
  have hw := hw.nil
  obtain rfl := someE hk
  refine hQ _ _ (Qcs hs (l := [.cell 4 60, .tmp 5]) (vs := [.agg #[Qb x1.f0, Qb x1.f1, Qe x1.f2, Qb x1.f3, .slice p14 y3.1.length c14, Qb x1.f5.f0, Qk x1.f5.f1, Qe x1.f5.f2, .slice p2 x1.f5.f3.length c2, Qb x1.f5.f4, Qb x1.f6, Qb x1.f7.f0, Qe x1.f7.f1, .slice p3 x1.f7.f2.length c3, Qe x1.f8, Qb x1.f9.f0, Qe x1.f9.f1, .slice p4 x1.f9.f2.length c4], .slice none 0 0]) rfl (⟨Qab hs (hw.at_ 1 rfl) (by kernel_rfl) (v := .agg #[Qb x1.f0, Qb x1.f1, Qe x1.f2, Qb x1.f3, .slice p14 y3.1.length c14, Qb x1.f5.f0, Qk x1.f5.f1, Qe x1.f5.f2, .slice p2 x1.f5.f3.length c2, Qb x1.f5.f4, Qb x1.f6, Qb x1.f7.f0, Qe x1.f7.f1, .slice p3 x1.f7.f2.length c3, Qe x1.f8, Qb x1.f9.f0, Qe x1.f9.f1, .slice p4 x1.f9.f2.length c4]) (by kernel_rfl), ⟨Qaf hs (v := .slice none 0 0) (by kernel_rfl), trivial⟩⟩) (by kernel_rfl) ⟨ih1, p14, c14, p2, c2, p3, c3, p4, c4, none, 0, ([]), rfl, hw.pk [0, 3], hle1, h14, (h2.mono hle1), (h3.mono hle1), (h4.mono hle1), (OSl.nil _ _)⟩)
 refine Qs hs h12 ?_
 refine Qg (Qd (Qd ?_))
 obtain ⟨y8, hx4, hk⟩ := bindE hk
 obtain ⟨J4, hJ4⟩ := mkJ fun a w => ∃ (x6 : Bool), Qch x1 x2 x6 = some r ∧ Sees a 122 [(2, (pt b1 0)), (3, (pt b2 0)), (4, (pt b3 0)), (67, .bool x6)] ∧ St g w [k51 b3, k10 b2 x2.f0 x2.f1 x2.f2 x2.f3 x2.f4 x2.f5 x2.f6 x2.f7 x2.f8 x2.f9 x2.f10 x2.f11 x2.f12 x2.f13.f0 x2.f13.f1 x2.f13.f2 x2.f13.f3 x2.f14.f0 x2.f14.f1 p5 x2.f14.f2 c5 x2.f14.f3 x2.f14.f4 p6 x2.f15 c6 p7 x2.f16 c7 p8 x2.f17 c8, k52 b1 x1.f0 x1.f1 x1.f2 x1.f3 p1 x1.f4 c1 x1.f5.f0 x1.f5.f1 x1.f5.f2 p2 x1.f5.f3 c2 x1.f5.f4 x1.f6 x1.f7.f0 x1.f7.f1 p3 x1.f7.f2 c3 x1.f8 x1.f9.f0 x1.f9.f1 p4 x1.f9.f2 c4, F] ih
 refine Qn J4 ?_ ?_
 ·refine pu hs 1 fun a hs => Qj hs (hw.at_ 2 rfl) 10 fun a hs => pu hs 2 fun a hs => ?_
  rcases ifbE hx4 with ⟨h23, hx4⟩ | ⟨h23, hx4⟩
  ·have hs := hs.aB 55 h23
   refine pu hs 12 fun a hs => Qc ?_
   obtain rfl := someE hx4
   exact (hJ4 _ _).2 ⟨true, hk, hs.cst, hw.pk [0, 1, 2, 3]⟩
  have hs := hs.aB 55 h23
  refine pu hs 1 fun a hs => Qj hs (hw.at_ 1 rfl) 1 fun a hs => ?_
  obtain ⟨y9, h24, hx4⟩ := bindE hx4
  refine Qv hs (QeE h24 ((hw.pk [0, 1, 2, 3]).pack 0)) fun a w v hv hs => ?_
  obtain ⟨rfl, hw⟩ := hv
  have hw := hw.unpack 0 rfl
  refine pn hs 3 [(2, (pt b1 0)), (3, (pt b2 0)), (4, (pt b3 0)), (61, .bool (!y9))] fun a hs => ?_
  rcases ifbE hx4 with ⟨h25, hx4⟩ | ⟨h25, hx4⟩
  ·have hs := hs.aB 61 h25
   refine pu hs 6 fun a hs => Qc ?_
   obtain rfl := someE hx4
   exact (hJ4 _ _).2 ⟨true, hk, hs.cst, hw.pk [0, 1, 2, 3]⟩
  have hs := hs.aB 61 h25
  refine pu hs 1 fun a hs => Qj hs (hw.at_ 1 rfl) 6 fun a hs => pu hs 1 fun a hs => Qj hs (hw.at_ 2 rfl) 2 fun a hs => pu hs 2 fun a hs => Qc ?_
  obtain rfl := someE hx4
  exact (hJ4 _ _).2 ⟨(x2.f6 != x1.f2), hk, hs.cst, hw.pk [0, 1, 2, 3]⟩
 intro a w hh
 obtain ⟨x6, hk, hs, hw⟩ := (hJ4 _ _).1 hh
 rcases ifbE hk with ⟨h26, hk⟩ | ⟨h26, hk⟩
 ·refine Qr hs h26 ?_
  refine Qd (Qa (Qj hs (hw.at_ 2 rfl) 0 fun a hs => ?_))
  refine QE hs hw 0 rfl 0 (v := A60 x1 p1 c1 p2 c2 p3 c3 p4 c4) fun a w hs hw => ?_
  refine pn hs 1 [(4, (pt b3 0)), (5, .slice none 0 0)] fun a hs => Qc (Qi ?_)
  have hw := hw.nil
  obtain rfl := someE hk
  refine hQ _ _ (Qcs hs (l := [.cell 4 60, .tmp 5]) (vs := [A60 x1 p1 c1 p2 c2 p3 c3 p4 c4, .slice none 0 0]) rfl (⟨Qab hs (hw.at_ 1 rfl) (by kernel_rfl) (v := A60 x1 p1 c1 p2 c2 p3 c3 p4 c4) (by kernel_rfl), ⟨Qaf hs (v := .slice none 0 0) (by kernel_rfl), trivial⟩⟩) (by kernel_rfl) ⟨ih, p1, c1, p2, c2, p3, c3, p4, c4, none, 0, ([]), rfl, hw.pk [0, 4], (Le.refl _), h1, h2, h3, h4, (OSl.nil _ _)⟩)
 refine Qs hs h26 (Qg ?_)
 obtain ⟨y10, hx5, hk⟩ := bindE hk
 obtain ⟨J5, hJ5⟩ := mkJ fun a w => ∃ (x7 x8 x9 : Int) (x10 : List Int) (x11 x12 x13 : Int) (x14 : List Int) (p18 : Option Addr) (c18 : Nat) (p19 : Option Addr) (c19 : Nat), Qci x2 x1 x7 x8 x9 x10 x11 x12 x13 x14 = some r ∧ Sees a 122 [(2, (pt b1 0)), (3, (pt b2 0)), (4, (pt b3 0))] ∧ St g w [k51 b3, k10 b2 x2.f0 x2.f1 x2.f2 x2.f3 x2.f4 x2.f5 x2.f6 x2.f7 x2.f8 x2.f9 x2.f10 x2.f11 x2.f12 x2.f13.f0 x2.f13.f1 x2.f13.f2 x2.f13.f3 x2.f14.f0 x2.f14.f1 p5 x2.f14.f2 c5 x2.f14.f3 x2.f14.f4 p6 x2.f15 c6 p7 x2.f16 c7 p8 x2.f17 c8, k52 b1 x1.f0 x1.f1 x1.f2 x1.f3 p1 x1.f4 c1 x1.f5.f0 x1.f5.f1 x1.f5.f2 p2 x1.f5.f3 c2 x1.f5.f4 x7 x8 x9 p18 x10 c18 x11 x12 x13 p19 x14 c19, F] ih ∧ RSl e5 ih [] p18 c18 x10 ∧ RSl e5 ih [] p19 c19 x14
 refine QaG J5 ?_ ?_
 ·refine Qd ?_
  obtain ⟨J6, hJ6⟩ := mkJ fun a w => Sees a 122 [(2, (pt b1 0)), (3, (pt b2 0)), (4, (pt b3 0)), (77, .bool ((x2.f0 == 18) && (x1.f5.f0 != 1)))] ∧ St g w [k51 b3, k10 b2 x2.f0 x2.f1 x2.f2 x2.f3 x2.f4 x2.f5 x2.f6 x2.f7 x2.f8 x2.f9 x2.f10 x2.f11 x2.f12 x2.f13.f0 x2.f13.f1 x2.f13.f2 x2.f13.f3 x2.f14.f0 x2.f14.f1 p5 x2.f14.f2 c5 x2.f14.f3 x2.f14.f4 p6 x2.f15 c6 p7 x2.f16 c7 p8 x2.f17 c8, k52 b1 x1.f0 x1.f1 x1.f2 x1.f3 p1 x1.f4 c1 x1.f5.f0 x1.f5.f1 x1.f5.f2 p2 x1.f5.f3 c2 x1.f5.f4 x1.f6 x1.f7.f0 x1.f7.f1 p3 x1.f7.f2 c3 x1.f8 x1.f9.f0 x1.f9.f1 p4 x1.f9.f2 c4, F] ih
  refine Qn J6 ?_ ?_
  ·refine pu hs 1 fun a hs => Qj hs (hw.at_ 1 rfl) 0 fun a hs => pu hs 2 fun a hs => ?_
   rcases boolE (x2.f0 == 18) with h27 | h27
   ·have hs := hs.aB 72 h27
    refine pu hs 2 fun a hs => Qj hs (hw.at_ 2 rfl) 5 fun a hs => pn hs 2 [(2, (pt b1 0)), (3, (pt b2 0)), (4, (pt b3 0)), (77, .bool (x1.f5.f0 != 1))] fun a hs => Qc ?_
    exact (hJ6 _ _).2 ⟨(hs.bB 77 h27 (x1.f5.f0 != 1) ((x2.f0 == 18) && (x1.f5.f0 != 1))).cst, hw.pk [0, 1, 2, 3]⟩
   have hs := hs.aB 72 h27
   refine pu hs 5 fun a hs => Qc ?_
   exact (hJ6 _ _).2 ⟨(hs.bB 77 h27 false ((x2.f0 == 18) && (x1.f5.f0 != 1))).cst, hw.pk [0, 1, 2, 3]⟩
  intro a w hh
  obtain ⟨hs, hw⟩ := (hJ6 _ _).1 hh
  rcases ifbE hx5 with ⟨h28, hx5⟩ | ⟨h28, hx5⟩
  ·refine Qr hs h28 ?_
   refine Qd (Qa (pu hs 1 fun a hs => ?_))
   refine QE hs hw 2 rfl 10 (v := Qb 2) fun a w hs hw => ?_
   have hs := hs.cst (e' := [(2, (pt b1 0)), (3, (pt b2 0)), (4, (pt b3 0))])
   refine Qc (Qd (Qa (pu hs 1 fun a hs => ?_)))
   refine Qj hs (hw.at_ 1 rfl) 12 fun a hs => pu hs 1 fun a hs => Qj hs (hw.at_ 1 rfl) 9 fun a hs => pu hs 2 fun a hs => QE hs hw 2 rfl 11 (v := .agg #[Qb x2.f12, Qe x2.f9, .slice none 0 0]) fun a w hs hw => ?_
   have hs := hs.cst (e' := [(2, (pt b1 0)), (3, (pt b2 0)), (4, (pt b3 0))])
   refine Qc (Qd (Qa (pu hs 1 fun a hs => ?_)))
   refine Qj hs (hw.at_ 2 rfl) 2 fun a hs => pu hs 1 fun a hs => QE hs hw 2 rfl 14 (v := Qe x1.f2) fun a w hs hw => ?_
   have hs := hs.cst (e' := [(2, (pt b1 0)), (3, (pt b2 0)), (4, (pt b3 0))])
   refine Qc (Qa (pu hs 1 fun a hs => ?_))
   refine Qj hs (hw.at_ 2 rfl) 11 fun a hs => pu hs 1 fun a hs => QE hs hw 2 rfl 15 (v := .agg #[Qb x2.f12, Qe x2.f9, .slice none 0 0]) fun a w hs hw => ?_
   have hw := hw.cL [k51 b3, k10 b2 x2.f0 x2.f1 x2.f2 x2.f3 x2.f4 x2.f5 x2.f6 x2.f7 x2.f8 x2.f9 x2.f10 x2.f11 x2.f12 x2.f13.f0 x2.f13.f1 x2.f13.f2 x2.f13.f3 x2.f14.f0 x2.f14.f1 p5 x2.f14.f2 c5 x2.f14.f3 x2.f14.f4 p6 x2.f15 c6 p7 x2.f16 c7 p8 x2.f17 c8, k58 b1 x1.f0 x1.f1 x1.f2 x1.f3 p1 x1.f4 c1 x1.f5.f0 x1.f5.f1 x1.f5.f2 p2 x1.f5.f3 c2 x1.f5.f4 x2.f12 x2.f9 x1.f2 x2.f12 x2.f9, F]
   refine Qc ?_
   obtain rfl := someE hx5
   exact (hJ5 _ _).2 ⟨2, x2.f12, x2.f9, ([]), x1.f2, x2.f12, x2.f9, ([]), none, 0, none, 0, hk, hs.cst, hw.pk [0, 1, 2, 3], (RSl.nil _ _ _), (RSl.nil _ _ _)⟩
  refine Qs hs h28 (Qg ?_)
  obtain rfl := someE hx5
  exact (hJ5 _ _).2 ⟨x1.f6, x1.f7.f0, x1.f7.f1, x1.f7.f2, x1.f8, x1.f9.f0, x1.f9.f1, x1.f9.f2, p3, c3, p4, c4, hk, hs.cst, hw.pk [0, 1, 2, 3], h3, h4⟩
 intro a w hh
 obtain ⟨x7, x8, x9, x10, x11, x12, x13, x14, p18, c18, p19, c19, hk, hs, hw, h29, h30⟩ := (hJ5 _ _).1 hh
 obtain ⟨y11, hx6, hk⟩ := bindE hk
 obtain ⟨J7, hJ7⟩ := mkJ fun a w => ∃ (x15 x16 x17 : Int) (x18 : List Int) (x19 x20 x21 : Int) (x22 : List Int) (p20 : Option Addr) (c20 : Nat) (p21 : Option Addr) (c21 : Nat), QcH x1 x15 x16 x17 x18 x19 x20 x21 x22 = some r ∧ Sees a 122 [(2, (pt b1 0)), (4, (pt b3 0))] ∧ St g w [k51 b3, k52 b1 x1.f0 x1.f1 x1.f2 x1.f3 p1 x1.f4 c1 x1.f5.f0 x1.f5.f1 x1.f5.f2 p2 x1.f5.f3 c2 x1.f5.f4 x15 x16 x17 p20 x18 c20 x19 x20 x21 p21 x22 c21, F] ih ∧ RSl e5 ih [] p20 c20 x18 ∧ RSl e5 ih [] p21 c21 x22
 refine QaG J7 ?_ ?_
 ·refine Qd ?_
  obtain ⟨J8, hJ8⟩ := mkJ fun a w => Sees a 122 [(2, (pt b1 0)), (3, (pt b2 0)), (4, (pt b3 0)), (107, .bool ((x2.f0 == 20) && ((x1.f5.f0 == 1) && (x2.f11 == x1.f5.f1))))] ∧ St g w [k51 b3, k10 b2 x2.f0 x2.f1 x2.f2 x2.f3 x2.f4 x2.f5 x2.f6 x2.f7 x2.f8 x2.f9 x2.f10 x2.f11 x2.f12 x2.f13.f0 x2.f13.f1 x2.f13.f2 x2.f13.f3 x2.f14.f0 x2.f14.f1 p5 x2.f14.f2 c5 x2.f14.f3 x2.f14.f4 p6 x2.f15 c6 p7 x2.f16 c7 p8 x2.f17 c8, k52 b1 x1.f0 x1.f1 x1.f2 x1.f3 p1 x1.f4 c1 x1.f5.f0 x1.f5.f1 x1.f5.f2 p2 x1.f5.f3 c2 x1.f5.f4 x7 x8 x9 p18 x10 c18 x11 x12 x13 p19 x14 c19, F] ih
  refine Qn J8 ?_ ?_
  ·refine pu hs 1 fun a hs => Qj hs (hw.at_ 1 rfl) 0 fun a hs => pu hs 2 fun a hs => ?_
   rcases boolE (x2.f0 == 20) with h31 | h31
   ·have hs := hs.aB 94 h31
    refine pu hs 2 fun a hs => Qj hs (hw.at_ 2 rfl) 5 fun a hs => pn hs 3 [(2, (pt b1 0)), (3, (pt b2 0)), (4, (pt b3 0)), (100, .bool (x1.f5.f0 == 1))] fun a hs => ?_
    rcases boolE (x1.f5.f0 == 1) with h32 | h32
    ·have hs := hs.aB 100 h32
     refine pu hs 1 fun a hs => Qj hs (hw.at_ 1 rfl) 11 fun a hs => pu hs 2 fun a hs => Qj hs (hw.at_ 2 rfl) 6 fun a hs => pu hs 2 fun a hs => Qc ?_
     exact (hJ8 _ _).2 ⟨(hs.altB (b := (x2.f11 == x1.f5.f1)) 107 ((x2.f0 == 20) && ((x1.f5.f0 == 1) && (x2.f11 == x1.f5.f1))) (by kernel_rfl) (by first | (rw [h31, h32] <;> rfl) | (revert h31 h32; simp +contextual))).cast [2, 3, 4, 107] (by kernel_rfl), hw.pk [0, 1, 2, 3]⟩
    have hs := hs.aB 100 h32
    refine pu hs 7 fun a hs => Qc ?_
    exact (hJ8 _ _).2 ⟨(hs.altB (b := false) 107 ((x2.f0 == 20) && ((x1.f5.f0 == 1) && (x2.f11 == x1.f5.f1))) (by kernel_rfl) (by first | (rw [h31, h32] <;> rfl) | (revert h31 h32; simp +contextual))).cast [2, 3, 4, 107] (by kernel_rfl), hw.pk [0, 1, 2, 3]⟩
   have hs := hs.aB 94 h31
   refine pu hs 13 fun a hs => Qc ?_
   exact (hJ8 _ _).2 ⟨(hs.bB 107 h31 false ((x2.f0 == 20) && ((x1.f5.f0 == 1) && (x2.f11 == x1.f5.f1)))).cst, hw.pk [0, 1, 2, 3]⟩
  intro a w hh
  obtain ⟨hs, hw⟩ := (hJ8 _ _).1 hh
  rcases ifbE hx6 with ⟨h33, hx6⟩ | ⟨h33, hx6⟩
  ·refine Qr hs h33 ?_
   refine Qd (Qa (pu hs 1 fun a hs => ?_))
   refine QE hs hw 2 rfl 10 (v := Qb 2) fun a w hs hw => ?_
   have hs := hs.cst (e' := [(2, (pt b1 0)), (3, (pt b2 0)), (4, (pt b3 0))])
   refine Qc (Qd (Qa (pu hs 1 fun a hs => ?_)))
   refine Qj hs (hw.at_ 1 rfl) 9 fun a hs => pu hs 1 fun a hs => Qj hs (hw.at_ 1 rfl) 24 fun a hs => pu hs 2 fun a hs => QE hs hw 2 rfl 11 (v := .agg #[Qb 0, Qe x2.f9, .slice p8 x2.f17.length c8]) fun a w hs hw => ?_
   have hs := hs.cst (e' := [(2, (pt b1 0)), (4, (pt b3 0))])
   refine Qc (Qd (Qa (pu hs 1 fun a hs => ?_)))
   refine Qj hs (hw.at_ 2 rfl) 2 fun a hs => pu hs 1 fun a hs => QE hs hw 2 rfl 14 (v := Qe x1.f2) fun a w hs hw => ?_
   have hs := hs.cst (e' := [(2, (pt b1 0)), (4, (pt b3 0))])
   refine Qc (Qa (pu hs 1 fun a hs => ?_))
   refine Qj hs (hw.at_ 2 rfl) 11 fun a hs => pu hs 1 fun a hs => QE hs hw 2 rfl 15 (v := .agg #[Qb 0, Qe x2.f9, .slice p8 x2.f17.length c8]) fun a w hs hw => ?_
   have hw := hw.cL [k51 b3, k10 b2 x2.f0 x2.f1 x2.f2 x2.f3 x2.f4 x2.f5 x2.f6 x2.f7 x2.f8 x2.f9 x2.f10 x2.f11 x2.f12 x2.f13.f0 x2.f13.f1 x2.f13.f2 x2.f13.f3 x2.f14.f0 x2.f14.f1 p5 x2.f14.f2 c5 x2.f14.f3 x2.f14.f4 p6 x2.f15 c6 p7 x2.f16 c7 p8 x2.f17 c8, k59 b1 x1.f0 x1.f1 x1.f2 x1.f3 p1 x1.f4 c1 x1.f5.f0 x1.f5.f1 x1.f5.f2 p2 x1.f5.f3 c2 x1.f5.f4 x2.f9 p8 x2.f17 c8 x1.f2 x2.f9 p8 x2.f17 c8, F]
   refine Qc ?_
   obtain rfl := someE hx6
   exact (hJ7 _ _).2 ⟨2, 0, x2.f9, x2.f17, x1.f2, 0, x2.f9, x2.f17, p8, c8, p8, c8, hk, hs.cst, hw.pk [0, 2, 3], h8, h8⟩
  refine Qs hs h33 (Qg ?_)
  obtain rfl := someE hx6
  exact (hJ7 _ _).2 ⟨x7, x8, x9, x10, x11, x12, x13, x14, p18, c18, p19, c19, hk, hs.cst, hw.pk [0, 2, 3], h29, h30⟩
 intro a w hh
 obtain ⟨x15, x16, x17, x18, x19, x20, x21, x22, p20, c20, p21, c21, hk, hs, hw, h34, h35⟩ := (hJ7 _ _).1 hh
 refine Qd (Qa (Qj hs (hw.at_ 1 rfl) 0 fun a hs => ?_))
 refine QE hs hw 0 rfl 0 (v := .agg #[Qb x1.f0, Qb x1.f1, Qe x1.f2, Qb x1.f3, .slice p1 x1.f4.length c1, Qb x1.f5.f0, Qk x1.f5.f1, Qe x1.f5.f2, .slice p2 x1.f5.f3.length c2, Qb x1.f5.f4, Qb x15, Qb x16, Qe x17, .slice p20 x18.length c20, Qe x19, Qb x20, Qe x21, .slice p21 x22.length c21]) fun a w hs hw => ?_
 refine pn hs 1 [(4, (pt b3 0)), (5, .slice none 0 0)] fun a hs => Qc (Qi ?_)
 have hw := hw.nil
 obtain rfl := someE hk
 refine hQ _ _ (Qcs hs (l := [.cell 4 60, .tmp 5]) (vs := [.agg #[Qb x1.f0, Qb x1.f1, Qe x1.f2, Qb x1.f3, .slice p1 x1.f4.length c1, Qb x1.f5.f0, Qk x1.f5.f1, Qe x1.f5.f2, .slice p2 x1.f5.f3.length c2, Qb x1.f5.f4, Qb x15, Qb x16, Qe x17, .slice p20 x18.length c20, Qe x19, Qb x20, Qe x21, .slice p21 x22.length c21], .slice none 0 0]) rfl (⟨Qab hs (hw.at_ 1 rfl) (by kernel_rfl) (v := .agg #[Qb x1.f0, Qb x1.f1, Qe x1.f2, Qb x1.f3, .slice p1 x1.f4.length c1, Qb x1.f5.f0, Qk x1.f5.f1, Qe x1.f5.f2, .slice p2 x1.f5.f3.length c2, Qb x1.f5.f4, Qb x15, Qb x16, Qe x17, .slice p20 x18.length c20, Qe x19, Qb x20, Qe x21, .slice p21 x22.length c21]) (by kernel_rfl), ⟨Qaf hs (v := .slice none 0 0) (by kernel_rfl), trivial⟩⟩) (by kernel_rfl) ⟨ih, p1, c1, p2, c2, p20, c20, p21, c21, none, 0, ([]), rfl, hw.pk [0, 3], (Le.refl _), h1, h2, h34, h35, (OSl.nil _ _)⟩)
def Qd4 : Option Bool :=
 some true
def Qco (rec_catenarylaw14_Same_l11 : Int → Option (Sum Bool Unit)) (x1 : Int) (x2 : Bool) : Option (Sum Bool Unit) :=
 if x2 = true then some (.inl false)
 else rec_catenarylaw14_Same_l11 (IntKind.i64.wrap (x1 + 1))
def catenarylaw14_Same_l11 (k : Nat) (x1 : List M48) (x2 : List M48) : Nat → Int → Option (Sum Bool Unit)
 | 0, _ => none
 | j + 1, x3 =>
  if (decide (x3 < (x1.length : Int))) = true then (
   ((ix x1 x3).bind fun x4 =>
    (ix x2 x3).bind fun x5 =>
    (Qbe k x4 x5).bind fun y1 =>
    some (!y1) : Option Bool).bind fun s1 => Qco (catenarylaw14_Same_l11 k x1 x2 j) x3 s1)
  else some (.inr ())
def QaE (k : Nat) (x1 x2 : List M48) : Option Bool :=
 if ((x1.length : Int) != (x2.length : Int)) = true then some false
 else (catenarylaw14_Same_l11 k x1 x2 k 0 : Option (Sum Bool Unit)).bind fun
  | .inl z => some z
  | .inr _ => Qd4
theorem Qc6 {k : Nat} {x1 x2 : List M48} {d1 d2 : Ch} {c1 c2 : Nat} {p1 p2 : Option Addr} {r : Bool} (hk : QaE k x1 x2 = some r) {g w : World} {F : Ch} {ih : IH} (h1 : RSl e48 ih d1 p1 c1 x1) (h2 : ∀ q ∈ d1, q ∈ F) (h3 : RSl e48 ih d2 p2 c2 x2) (h4 : ∀ q ∈ d2, q ∈ F) (hw : St g w [F] ih) :
  CallsR Tryz.prog 21 #[.slice p1 x1.length c1, .slice p2 x2.length c2] w fun v w' => v = .bool r ∧ St g w' [F] ih := by
 refine f_i Tryz.func21 rfl 27 rfl fun a Qf hQ hQn hs => ?_
 refine Qd (Qa (pn hs 1 [(0, .slice p1 x1.length c1), (1, .slice p2 x2.length c2)] fun a hs => ?_))
 refine Qc (Qd (Qd (Qa (pn hs 5 [(0, .slice p1 x1.length c1), (1, .slice p2 x2.length c2), (10, .bool ((x1.length : Int) != (x2.length : Int)))] fun a hs => ?_))))
 refine Qc ?_
 rcases ifbE hk with ⟨h5, hk⟩ | ⟨h5, hk⟩
 ·refine Qr hs h5 ?_
  refine Qd (Qa (pn hs 1 [(4, .bool false)] fun a hs => ?_))
  refine Qc (Qi ?_)
  obtain rfl := someE hk
  exact qr1 hQ hs ⟨rfl, hw.pk [0]⟩
 refine Qs hs h5 ?_
 refine Qg (Qd (Qd (Qa (pn hs 1 [(0, .slice p1 x1.length c1), (1, .slice p2 x2.length c2), (5, Qb 0)] fun a hs => ?_))))
 refine Qc (Ql ?_)
 obtain ⟨y1, hx1, hk⟩ := bindE hk
 obtain ⟨J1, hJ1⟩ := mkJ fun a w => Qd4 = some r ∧ Sees a 27 [] ∧ St g w [F] ih
 obtain ⟨I1, hI1⟩ := QhB fun j a w => ∃ (x3 : Int), catenarylaw14_Same_l11 k x1 x2 j x3 = some y1 ∧ Sees a 27 [(0, .slice p1 x1.length c1), (1, .slice p2 x2.length c2), (5, Qb x3)] ∧ St g w [F] ih
 refine Qau 0 J1 ?_ ?_
 ·refine QbO I1 k ((hI1 _ _ _).2 ⟨0, hx1, hs.cst, hw.pk [0]⟩) (fun a w h6 => ?_) fun j a w hh => ?_
  ·obtain ⟨_, h, _⟩ := (hI1 _ _ _).1 h6
   cases h
  obtain ⟨x3, hx1, hs, hw⟩ := (hI1 _ _ _).1 hh
  refine Qd (Qd (Qa (pn hs 4 [(0, .slice p1 x1.length c1), (1, .slice p2 x2.length c2), (5, Qb x3), (14, .bool (decide (x3 < (x1.length : Int))))] fun a hs => ?_)))
  refine Qc ?_
  rcases ifbE hx1 with ⟨h7, hx1⟩ | ⟨h7, hx1⟩
  ·refine Qr hs h7 ?_
   refine Qg (Qd (Ql (Qd ?_)))
   obtain ⟨S, hD, kS⟩ := mkSXw hw [[]] (K := []) rfl
   obtain ⟨y2, hx2, hx1⟩ := bindE hx1
   obtain ⟨J2, hJ2⟩ := mkJ fun a w => ∃ (x4 : Bool), Qco (catenarylaw14_Same_l11 k x1 x2 j) x3 x4 = some y1 ∧ Sees a 27 [(0, .slice p1 x1.length c1), (1, .slice p2 x2.length c2), (5, Qb x3), (26, .bool x4)] ∧ St g w [F] ih
   refine Qo (by kernel_rfl) (N := 10) rfl S J2 ?_ ?_
   ·have hw := hw.drew
    have hS : S (bA 10 0) _ := SXn hD (hw.vws [0])
    refine Qp (fuel := 8) kS hs hS [0, 1] fun a hs hS => ?_
    obtain ⟨x5, h8, hx2⟩ := bindE hx2
    refine Qay (fuel := 7) kS hs hS 2 rfl (by kernel_rfl) h1 (by kernel_rfl) (by kernel_rfl) (k := .i64) (by kernel_rfl) 48 (by kernel_rfl) (by kernel_rfl) h8 fun a r877 cs henc at878 hs hS => ?_
    refine Qgn hS fun hS => ?_
    obtain ⟨p3, c3, p4, c4, p5, c5, p6, c6, rfl, h9, h10, h11, h12⟩ := henc
    refine Qy kS hs hS 3 rfl (fun l w hu hS => at878 w (((Qfi hD 0 rfl (by kernel_rfl) l w hu hS).sub h2).anti (Le.refl _))) 0 fun a hs hS => ?_
    refine Qp (fuel := 4) kS hs hS [4, 5] fun a hs hS => ?_
    obtain ⟨x6, h13, hx2⟩ := bindE hx2
    refine Qay (fuel := 3) kS hs hS 6 rfl (by kernel_rfl) h3 (by kernel_rfl) (by kernel_rfl) (k := .i64) (by kernel_rfl) 48 (by kernel_rfl) (by kernel_rfl) h13 fun a r893 cs henc at894 hs hS => ?_
    refine Qgn hS fun hS => ?_
    obtain ⟨p7, c7, p8, c8, p9, c9, p10, c10, rfl, h14, h15, h16, h17⟩ := henc
    refine Qy kS hs hS 7 rfl (fun l w hu hS => at894 w (((Qfi hD 0 rfl (by kernel_rfl) l w hu hS).sub h4).anti (Le.refl _))) 0 fun a hs hS => ?_
    refine QF [8] (QH ?_)
    obtain ⟨y3, h18, hx2⟩ := bindE hx2
    refine QaR hs rfl (QeD h18 h9 h10 h11 h12 h14 h15 h16 h17 ((hw.pk [0]).pack 0)) fun a w v hv hs => ?_
    obtain ⟨rfl, hw⟩ := hv
    have hw := hw.unpack 0 rfl
    refine nx hD ((hw.vws [0]).anti (Le.refl _)) fun hS => ?_
    refine Qu kS hs hS fun a hs => ?_
    obtain rfl := someE hx2
    exact (hJ2 _ _).2 ⟨(!y3), hx1, hs.cst, hw.pk [0]⟩
   intro a w hh
   obtain ⟨x4, hx1, hs, hw⟩ := (hJ2 _ _).1 hh
   rcases ifbE hx1 with ⟨h19, hx1⟩ | ⟨h19, hx1⟩
   ·refine Qr hs h19 ?_
    refine Qd (Qa (pn hs 1 [(4, .bool false)] fun a hs => ?_))
    refine Qc (Qi ?_)
    obtain rfl := someE hx1
    obtain rfl := someE hk
    exact qr1 hQ hs ⟨rfl, hw.pk [0]⟩
   refine Qs hs h19 ?_
   refine Qg (Qa (pu hs 3 fun a hs => ?_))
   refine Qc ?_
   exact (hI1 _ _ _).2 ⟨(IntKind.i64.wrap (x3 + 1)), hx1, hs.cst, hw.pk [0]⟩
  refine Qs hs h7 (Qa3 ?_)
  obtain rfl := someE hx1
  exact (hJ1 _ _).2 ⟨hk, hs.cst, hw.pk [0]⟩
 intro a w hh
 obtain ⟨hk, hs, hw⟩ := (hJ1 _ _).1 hh
 refine Qd (Qa (pn hs 1 [(4, .bool true)] fun a hs => ?_))
 refine Qc (Qi ?_)
 obtain rfl := someE hk
 exact qr1 hQ hs ⟨rfl, hw.pk [0]⟩
def QcC : Option Unit :=
 some ()
theorem Qev {r : Unit} (hk : QcC = some r) {g w : World} {F : Ch} {ih : IH} (hw : St g w [F] ih) :
  CallsR Tryz.prog 32 #[.pointer none] w fun v w' => v = .tuple #[.agg #[Qb 0, Qe 0, .slice none 0 0], .bool false] ∧ St g w' [F] ih := by
 refine f_i Tryz.func32 rfl 19 rfl fun a Qf hQ hQn hs => ?_
 refine Qd (Qa (QC hs hw [Qb 0, Qe 0, .slice none 0 0] 51 (fun b => (pt b 0)) (by kernel_rfl) (fun _ => by kernel_rfl) fun a w b1 hs hw => ?_))
 refine pn hs 1 [(0, .pointer none), (2, (pt b1 0))] fun a hs => Qc (Qd (Qa (QC hs hw [Qb 0, Qe 0, .slice none 0 0] 51 (fun b => (pt b 0)) (by kernel_rfl) (fun _ => by kernel_rfl) fun a w b2 hs hw => ?_)))
 refine Qc (Qd (Qd (Qa (pn hs 9 [(0, .pointer none), (2, (pt b1 0)), (4, (pt b2 0)), (13, .bool true)] fun a hs => ?_))))
 refine Qc (Qgb hs (Qd (Qa (Qj hs (hw.at_ 0 rfl) 0 fun a hs => ?_))))
 refine QE hs hw 1 rfl 0 (v := .agg #[Qb 0, Qe 0, .slice none 0 0]) fun a w hs hw => ?_
 refine pn hs 1 [(2, (pt b1 0)), (3, .bool false)] fun a hs => Qc (Qi ?_)
 obtain rfl := someE hk
 refine hQ _ _ (Qcs hs (l := [.cell 2 51, .tmp 3]) (vs := [.agg #[Qb 0, Qe 0, .slice none 0 0], .bool false]) rfl (⟨Qab hs (hw.at_ 1 rfl) (by kernel_rfl) (v := .agg #[Qb 0, Qe 0, .slice none 0 0]) (by kernel_rfl), ⟨Qaf hs (v := .bool false) (by kernel_rfl), trivial⟩⟩) (by kernel_rfl) ⟨rfl, hw.pk [2]⟩)
def QcT : Option M51 :=
 (QaI ([])).bind fun y1 =>
 some (M51.mk 0 0 y1)
theorem Qf9 {x1 x2 x3 x4 : Int} {x5 : List M44} {x6 : Value} {x7 x8 x9 : Int} {x10 : List Int} {x11 x12 x13 x14 : Int} {x15 : List Int} {d1 : Ch} {b1 b2 c1 c2 c3 : Nat} {p1 p2 p3 : Option Addr} {r : M51} (hk : QcT = some r) {g w : World} {F : Ch} {ih : IH} (h1 : OSl e44 ih p1 c1 x5 d1) (h2 : x6.oneCell' = true) (h3 : RSl e5 ih [] p2 c2 x10) (h4 : RSl e5 ih [] p3 c3 x15) (hw : St g w [k37 b1 x1 x2 x3 x4 b2 x7 x8 x9 p2 x10 c2 x11 x12 x13 x14 p3 x15 c3, bx b2 [.slice p1 x5.length c1, x6] 113, d1, F] ih) :
  CallsR Tryz.prog 13 #[(pt b1 0)] w fun v w' => ∃ (ih' : IH) (p4 : Option Addr) (c4 : Nat), v = .tuple #[.agg #[Qb r.f0, Qe r.f1, .slice p4 r.f2.length c4], .bool false] ∧ St g w' [bx b1 [Qb x1, Qb x2, Qe x3, Qb x4, (pt b2 0), Qb x7, Qk x8, Qe x9, .slice p2 x10.length c2, Qb x11, .pointer none, Qe x12, Qb x13, Qe x14, .slice p3 x15.length c3] 85, bx b2 [.slice p1 x5.length c1, x6] 113, d1, F] ih' ∧ Le ih ih' ∧ RSl e5 ih' [] p4 c4 r.f2 := by
 refine f_i Tryz.func13 rfl 23 rfl fun a Qf hQ hQn hs => ?_
 refine Qd (Qa (QC hs hw [Qb 0, Qe 0, .slice none 0 0] 51 (fun b => (pt b 0)) (by kernel_rfl) (fun _ => by kernel_rfl) fun a w b3 hs hw => ?_))
 refine pn hs 1 [(0, (pt b1 0)), (2, (pt b3 0))] fun a hs => Qc (Qd (Qd (Qa (pn hs 2 [(0, (pt b1 0)), (2, (pt b3 0)), (7, .bool false)] fun a hs => ?_))))
 refine Qc (QhJ hs (Qg (Qd (Qa (pu hs 3 fun a hs => ?_)))))
 refine Qj hs (hw.at_ 1 rfl) 10 fun a hs => ?_
 have h5 : QcC = some () := rfl
 refine Qv hs (Qev h5 ((hw.pk [0, 1, 2, 3, 4]).pack 0)) fun a w v hv hs => ?_
 obtain ⟨rfl, hw⟩ := hv
 have hw := hw.unpack 0 rfl
 refine pu hs 3 fun a hs => QaN hs hw [Qb 0, Qe 0, .slice none 0 0] 51 (fun b => (pt b 0)) fun a w b4 hs hw => QE hs hw 0 rfl 0 (v := .agg #[Qb 0, Qe 0, .slice none 0 0]) fun a w hs hw => ?_
 refine pn hs 1 [(2, (pt b3 0)), (4, (pt b4 0)), (5, .bool false)] fun a hs => ?_
 have hw := hw.cL [k47 b4, k47 b3, k37 b1 x1 x2 x3 x4 b2 x7 x8 x9 p2 x10 c2 x11 x12 x13 x14 p3 x15 c3, bx b2 [.slice p1 x5.length c1, x6] 113, d1, F]
 refine Qc (Qd (Qa (pu hs 1 fun a hs => ?_)))
 refine Qj hs (hw.at_ 0 rfl) 2 fun a hs => ?_
 obtain ⟨y1, h6, hk⟩ := bindE hk
 refine Qv hs (QaQ h6 (RSl.nil _ _ _) (nilSub _) ((hw.pk [0, 1, 2, 3, 4, 5]).pack 0)) fun a w v hv hs => ?_
 obtain ⟨p5, c5, d2, rfl, hw, h7⟩ := hv
 have hw := hw.unpack 1 rfl
 refine pu hs 1 fun a hs => QE hs hw 1 rfl 2 (v := .slice p5 y1.length c5) fun a w hs hw => ?_
 have hs := hs.cst (e' := [(2, (pt b3 0)), (4, (pt b4 0)), (5, .bool false)])
 refine Qc (Qd (Qa (Qj hs (hw.at_ 1 rfl) 0 fun a hs => ?_)))
 refine pu hs 1 fun a hs => QE hs hw 2 rfl 0 (v := .agg #[Qb 0, Qe 0, .slice p5 y1.length c5]) fun a w hs hw => pn hs 1 [(2, (pt b3 0)), (3, .bool false)] fun a hs => ?_
 have hw := hw.cL [d2, k60 b4 p5 y1 c5, k60 b3 p5 y1 c5, k37 b1 x1 x2 x3 x4 b2 x7 x8 x9 p2 x10 c2 x11 x12 x13 x14 p3 x15 c3, bx b2 [.slice p1 x5.length c1, x6] 113, d1, F]
 refine Qc (Qi ?_)
 obtain ⟨ih1, hle1, hw, h8⟩ := (hw.pk [0, 1, 2, 3, 4, 5, 6]).fz (h7.mono (Le.refl _))
 obtain rfl := someE hk
 refine hQ _ _ (Qcs hs (l := [.cell 2 51, .tmp 3]) (vs := [.agg #[Qb 0, Qe 0, .slice p5 y1.length c5], .bool false]) rfl (⟨Qab hs (hw.at_ 1 rfl) (by kernel_rfl) (v := .agg #[Qb 0, Qe 0, .slice p5 y1.length c5]) (by kernel_rfl), ⟨Qaf hs (v := .bool false) (by kernel_rfl), trivial⟩⟩) (by kernel_rfl) ⟨ih1, p5, c5, rfl, hw.pk [2, 3, 4, 5], hle1, h8⟩)
def Qce (x1 x2 x3 : Int) (x4 : List Int) (x5 : Int) : Option M26 :=
 (QaI x4).bind fun y1 =>
 some (M26.mk x1 x2 x3 y1 x5)
theorem Qfn {x1 x2 x3 x4 : Int} {x5 : List M44} {x6 : Value} {x7 x8 x9 : Int} {x10 : List Int} {x11 : Int} {x12 : Value} {x13 x14 x15 : Int} {x16 : List Int} {d1 : Ch} {b1 b2 c1 c2 c3 : Nat} {p1 p2 p3 : Option Addr} {r : M26} (hk : Qce x7 x8 x9 x10 x11 = some r) {g w : World} {F : Ch} {ih : IH} (h1 : OSl e44 ih p1 c1 x5 d1) (h2 : x6.oneCell' = true) (h3 : RSl e5 ih [] p2 c2 x10) (h4 : x12.oneCell' = true) (h5 : RSl e5 ih [] p3 c3 x16) (hw : St g w [k6 b1 x1 x2 x3 x4 b2 x7 x8 x9 p2 x10 c2 x11 x12 x13 x14 x15 p3 x16 c3, bx b2 [.slice p1 x5.length c1, x6] 113, d1, F] ih) :
  CallsR Tryz.prog 24 #[(pt b1 0)] w fun v w' => ∃ (ih' : IH) (p4 : Option Addr) (c4 : Nat), v = .agg #[Qb r.f0, Qk r.f1, Qe r.f2, .slice p4 r.f3.length c4, Qb r.f4] ∧ St g w' [bx b1 [Qb x1, Qb x2, Qe x3, Qb x4, (pt b2 0), Qb x7, Qk x8, Qe x9, .slice p2 x10.length c2, Qb x11, x12, Qe x13, Qb x14, Qe x15, .slice p3 x16.length c3] 85, bx b2 [.slice p1 x5.length c1, x6] 113, d1, F] ih' ∧ Le ih ih' ∧ RSl e5 ih' [] p4 c4 r.f3 := by
 refine f_i Tryz.func24 rfl 16 rfl fun a Qf hQ hQn hs => ?_
 refine Qd (Qa (QC hs hw [Qb 0, Qk 0, Qe 0, .slice none 0 0, Qb 0] 26 (fun b => (pt b 0)) (by kernel_rfl) (fun _ => by kernel_rfl) fun a w b3 hs hw => ?_))
 have hs := hs.cst (e' := [(0, (pt b1 0)), (2, (pt b3 0))])
 refine Qc (Qd (Qd (Qa (pn hs 2 [(0, (pt b1 0)), (2, (pt b3 0)), (5, .bool false)] fun a hs => ?_))))
 refine Qc (QhJ hs (Qg (Qd (Qa (pu hs 3 fun a hs => ?_)))))
 refine Qj hs (hw.at_ 1 rfl) 5 fun a hs => QaN hs hw [Qb 0, Qk 0, Qe 0, .slice none 0 0, Qb 0] 26 (fun b => (pt b 0)) fun a w b4 hs hw => QE hs hw 0 rfl 0 (v := .agg #[Qb x7, Qk x8, Qe x9, .slice p2 x10.length c2, Qb x11]) fun a w hs hw => ?_
 have hs := hs.cst (e' := [(2, (pt b3 0)), (3, (pt b4 0))])
 refine Qc (Qd (Qa (pu hs 1 fun a hs => ?_)))
 refine Qj hs (hw.at_ 0 rfl) 3 fun a hs => ?_
 obtain ⟨y1, h6, hk⟩ := bindE hk
 refine Qv hs (QaQ h6 h3 (nilSub _) ((hw.pk [0, 1, 2, 3, 4, 5]).pack 0)) fun a w v hv hs => ?_
 obtain ⟨p5, c5, d2, rfl, hw, h7⟩ := hv
 have hw := hw.unpack 1 rfl
 refine pu hs 1 fun a hs => QE hs hw 1 rfl 3 (v := .slice p5 y1.length c5) fun a w hs hw => ?_
 have hs := hs.cst (e' := [(2, (pt b3 0)), (3, (pt b4 0))])
 have hw := hw.cL [d2, k8 b4 x7 x8 x9 p5 y1 c5 x11, k61 b3, k6 b1 x1 x2 x3 x4 b2 x7 x8 x9 p2 x10 c2 x11 x12 x13 x14 x15 p3 x16 c3, bx b2 [.slice p1 x5.length c1, x6] 113, d1, F]
 refine Qc (Qd (Qa (Qj hs (hw.at_ 1 rfl) 0 fun a hs => ?_)))
 refine QE hs hw 2 rfl 0 (v := .agg #[Qb x7, Qk x8, Qe x9, .slice p5 y1.length c5, Qb x11]) fun a w hs hw => ?_
 have hs := hs.cst (e' := [(2, (pt b3 0))])
 refine Qc (Qi ?_)
 obtain ⟨ih1, hle1, hw, h8⟩ := (hw.pk [0, 1, 2, 3, 4, 5, 6]).fz (h7.mono (Le.refl _))
 obtain rfl := someE hk
 refine hQ _ _ (QaU hs rfl (hw.at_ 1 rfl) (by kernel_rfl) (v := .agg #[Qb x7, Qk x8, Qe x9, .slice p5 y1.length c5, Qb x11]) (by kernel_rfl) ⟨ih1, p5, c5, rfl, hw.pk [2, 3, 4, 5], hle1, h8⟩)
def Qbh (x1 x2 x3 : Int) (y1 : List Int) : Option (Int × M51) :=
 some (x1, (M51.mk x2 x3 y1))
def Qbi (x1 x2 x3 : Int) (x4 : List Int) : Option (Int × M51) :=
 (QaI x4).bind fun y1 =>
 Qbh x1 x2 x3 y1
theorem QeG {x1 x2 x3 x4 : Int} {x5 : List M44} {x6 : Value} {x7 x8 x9 : Int} {x10 : List Int} {x11 : Int} {x12 : Value} {x13 x14 x15 : Int} {x16 : List Int} {d1 : Ch} {b1 b2 c1 c2 c3 : Nat} {p1 p2 p3 : Option Addr} {r : Int × M51} (hk : Qbi x13 x14 x15 x16 = some r) {g w : World} {F : Ch} {ih : IH} (h1 : OSl e44 ih p1 c1 x5 d1) (h2 : x6.oneCell' = true) (h3 : RSl e5 ih [] p2 c2 x10) (h4 : x12.oneCell' = true) (h5 : RSl e5 ih [] p3 c3 x16) (hw : St g w [k6 b1 x1 x2 x3 x4 b2 x7 x8 x9 p2 x10 c2 x11 x12 x13 x14 x15 p3 x16 c3, bx b2 [.slice p1 x5.length c1, x6] 113, d1, F] ih) :
  CallsR Tryz.prog 25 #[(pt b1 0)] w fun v w' => ∃ (ih' : IH) (p4 : Option Addr) (c4 : Nat), v = .tuple #[Qe r.1, .agg #[Qb r.2.f0, Qe r.2.f1, .slice p4 r.2.f2.length c4]] ∧ St g w' [bx b1 [Qb x1, Qb x2, Qe x3, Qb x4, (pt b2 0), Qb x7, Qk x8, Qe x9, .slice p2 x10.length c2, Qb x11, x12, Qe x13, Qb x14, Qe x15, .slice p3 x16.length c3] 85, bx b2 [.slice p1 x5.length c1, x6] 113, d1, F] ih' ∧ Le ih ih' ∧ RSl e5 ih' [] p4 c4 r.2.f2 := by
 refine f_i Tryz.func25 rfl 21 rfl fun a Qf hQ hQn hs => ?_
 refine Qd (Qa (pu hs 1 fun a hs => ?_))
 refine QaN hs hw [Qb 0, Qe 0, .slice none 0 0] 51 (fun b => (pt b 0)) fun a w b3 hs hw => ?_
 have hs := hs.cst (e' := [(0, (pt b1 0)), (3, (pt b3 0))])
 refine Qc (Qd (Qd (Qa (pn hs 2 [(0, (pt b1 0)), (3, (pt b3 0)), (6, .bool false)] fun a hs => ?_))))
 refine Qc (QhJ hs (Qg (Qd (Qa (pu hs 3 fun a hs => ?_)))))
 refine Qj hs (hw.at_ 1 rfl) 12 fun a hs => QaN hs hw [Qb 0, Qe 0, .slice none 0 0] 51 (fun b => (pt b 0)) fun a w b4 hs hw => QE hs hw 0 rfl 0 (v := .agg #[Qb x14, Qe x15, .slice p3 x16.length c3]) fun a w hs hw => ?_
 have hs := hs.cst (e' := [(0, (pt b1 0)), (3, (pt b3 0)), (4, (pt b4 0))])
 refine Qc (Qd (Qa (pu hs 1 fun a hs => ?_)))
 refine Qj hs (hw.at_ 0 rfl) 2 fun a hs => ?_
 obtain ⟨y1, h6, hk⟩ := bindE hk
 refine Qv hs (QaQ h6 h5 (nilSub _) ((hw.pk [0, 1, 2, 3, 4, 5]).pack 0)) fun a w v hv hs => ?_
 obtain ⟨p5, c5, d2, rfl, hw, h7⟩ := hv
 have hw := hw.unpack 1 rfl
 refine pu hs 1 fun a hs => QE hs hw 1 rfl 2 (v := .slice p5 y1.length c5) fun a w hs hw => ?_
 have hs := hs.cst (e' := [(0, (pt b1 0)), (3, (pt b3 0)), (4, (pt b4 0))])
 have hw := hw.cL [d2, k48 b4 x14 x15 p5 y1 c5, k47 b3, k6 b1 x1 x2 x3 x4 b2 x7 x8 x9 p2 x10 c2 x11 x12 x13 x14 x15 p3 x16 c3, bx b2 [.slice p1 x5.length c1, x6] 113, d1, F]
 refine Qc (Qd ?_)
 obtain ⟨S, hD, kS⟩ := mkSXw hw [[], [], [6], [], [], [], []] (K := [6]) rfl
 obtain ⟨y2, hx1⟩ : ∃ y, (some () : Option Unit) = some y := ⟨_, rfl⟩
 obtain ⟨J1, hJ1⟩ := mkJ fun a w => Qbh x13 x14 x15 y1 = some r ∧ Sees a 21 [(3, (pt b3 0)), (2, Qe x13)] ∧ St g w [k48 b3 x14 x15 p5 y1 c5, k6 b1 x1 x2 x3 x4 b2 x7 x8 x9 p2 x10 c2 x11 x12 x13 x14 x15 p3 x16 c3, bx b2 [.slice p1 x5.length c1, x6] 113, d2, d1, F] ih
 refine Qo (by kernel_rfl) (N := 7) rfl S J1 ?_ ?_
 ·have hw := hw.drew
  have hS : S (bA 7 0) _ := SXn hD (hw.vws [0, 1, 2, 3, 4, 5, 6])
  refine Qp (fuel := 4) kS hs hS [0, 1, 2] fun a hs hS => ?_
  refine Qy kS hs hS 3 rfl (SXb hD 3 rfl) 11 fun a hs hS => ?_
  refine Qy kS hs hS 4 rfl (SXb hD 1 rfl) 0 fun a hs hS => ?_
  refine Qp (fuel := 1) kS hs hS [5] fun a hs hS => ?_
  refine QF [6] (QH ?_)
  refine QfM hs hw rfl 2 rfl 0 (v := .agg #[Qb x14, Qe x15, .slice p5 y1.length c5]) fun a w hs hw => ?_
  refine nx hD ((hw.vws [0, 1, 3, 4, 5, 6]).anti (Le.refl _)) fun hS => ?_
  refine QhI ?_
  obtain rfl := someE hx1
  exact (hJ1 _ _).2 ⟨hk, hs.cst, hw.pk [2, 3, 4, 0, 5, 6]⟩
 intro a w hh
 obtain ⟨hk, hs, hw⟩ := (hJ1 _ _).1 hh
 refine Qi ?_
 obtain ⟨ih1, hle1, hw, h8⟩ := (hw.pk [3, 0, 1, 2, 4, 5]).fz (h7.mono (Le.refl _))
 obtain rfl := someE hk
 refine hQ _ _ (Qcs hs (l := [.tmp 2, .cell 3 51]) (vs := [Qe x13, .agg #[Qb x14, Qe x15, .slice p5 y1.length c5]]) rfl (⟨Qaf hs (v := Qe x13) (by kernel_rfl), ⟨Qab hs (hw.at_ 0 rfl) (by kernel_rfl) (v := .agg #[Qb x14, Qe x15, .slice p5 y1.length c5]) (by kernel_rfl), trivial⟩⟩) (by kernel_rfl) ⟨ih1, p5, c5, rfl, hw.pk [1, 2, 3, 4], hle1, h8⟩)
def Qdv : Option Unit :=
 some ()
theorem Qeo {x1 x2 x3 x4 : Int} {x5 : List M44} {x6 : Value} {x7 x8 x9 : Int} {x10 : List Int} {x11 : Int} {x12 : Value} {x13 x14 x15 : Int} {x16 : List Int} {d1 : Ch} {b1 b2 c1 c2 c3 : Nat} {p1 p2 p3 : Option Addr} {r : Unit} (hk : Qdv = some r) {g w : World} {F : Ch} {ih : IH} (h1 : OSl e44 ih p1 c1 x5 d1) (h2 : x6.oneCell' = true) (h3 : RSl e5 ih [] p2 c2 x10) (h4 : x12.oneCell' = true) (h5 : RSl e5 ih [] p3 c3 x16) (hw : St g w [k6 b1 x1 x2 x3 x4 b2 x7 x8 x9 p2 x10 c2 x11 x12 x13 x14 x15 p3 x16 c3, bx b2 [.slice p1 x5.length c1, x6] 113, d1, F] ih) :
  CallsR Tryz.prog 26 #[(pt b1 0)] w fun v w' => v = (pt b2 0) ∧ St g w' [bx b1 [Qb x1, Qb x2, Qe x3, Qb x4, (pt b2 0), Qb x7, Qk x8, Qe x9, .slice p2 x10.length c2, Qb x11, x12, Qe x13, Qb x14, Qe x15, .slice p3 x16.length c3] 85, bx b2 [.slice p1 x5.length c1, x6] 113, d1, F] ih := by
 refine f_i Tryz.func26 rfl 9 rfl fun a Qf hQ hQn hs => ?_
 refine Qd (Qa (pn hs 1 [(0, (pt b1 0))] fun a hs => ?_))
 refine Qc (Qd (Qd (Qa (pn hs 2 [(0, (pt b1 0)), (4, .bool false)] fun a hs => ?_))))
 refine Qc (QhJ hs (Qg (Qd (Qa (pu hs 3 fun a hs => ?_)))))
 refine Qj hs (hw.at_ 0 rfl) 4 fun a hs => pn hs 1 [(2, (pt b2 0))] fun a hs => Qc (Qi ?_)
 obtain rfl := someE hk
 exact qr1 hQ hs ⟨rfl, hw.pk [0, 1, 2, 3]⟩
def Qdj : Option Bool :=
 some true
def Qbl (rec_catenaryref09_SameAll_l11 : Int → Option (Sum Bool Unit)) (x1 : Int) (x2 : Bool) : Option (Sum Bool Unit) :=
 if x2 = true then some (.inl false)
 else rec_catenaryref09_SameAll_l11 (IntKind.i64.wrap (x1 + 1))
def catenaryref09_SameAll_l11 (k : Nat) (x1 : List M44) (x2 : List M44) : Nat → Int → Option (Sum Bool Unit)
 | 0, _ => none
 | j + 1, x3 =>
  if (decide (x3 < (x1.length : Int))) = true then (
   ((ix x1 x3).bind fun x4 =>
    (ix x2 x3).bind fun x5 =>
    (Qbg k x4 x5).bind fun y1 =>
    some (!y1) : Option Bool).bind fun s1 => Qbl (catenaryref09_SameAll_l11 k x1 x2 j) x3 s1)
  else some (.inr ())
def QaA (k : Nat) (x1 x2 : List M44) : Option Bool :=
 if ((x1.length : Int) != (x2.length : Int)) = true then some false
 else (catenaryref09_SameAll_l11 k x1 x2 k 0 : Option (Sum Bool Unit)).bind fun
  | .inl z => some z
  | .inr _ => Qdj
theorem QdN {k : Nat} {x1 x2 : List M44} {d1 d2 : Ch} {c1 c2 : Nat} {p1 p2 : Option Addr} {r : Bool} (hk : QaA k x1 x2 = some r) {g w : World} {F : Ch} {ih : IH} (h1 : RSl e44 ih d1 p1 c1 x1) (h2 : ∀ q ∈ d1, q ∈ F) (h3 : RSl e44 ih d2 p2 c2 x2) (h4 : ∀ q ∈ d2, q ∈ F) (hw : St g w [F] ih) :
  CallsR Tryz.prog 46 #[.slice p1 x1.length c1, .slice p2 x2.length c2] w fun v w' => v = .bool r ∧ St g w' [F] ih := by
 refine f_i Tryz.func46 rfl 27 rfl fun a Qf hQ hQn hs => ?_
 refine Qd (Qa (pn hs 1 [(0, .slice p1 x1.length c1), (1, .slice p2 x2.length c2)] fun a hs => ?_))
 refine Qc (Qd (Qd (Qa (pn hs 5 [(0, .slice p1 x1.length c1), (1, .slice p2 x2.length c2), (10, .bool ((x1.length : Int) != (x2.length : Int)))] fun a hs => ?_))))
 refine Qc ?_
 rcases ifbE hk with ⟨h5, hk⟩ | ⟨h5, hk⟩
 ·refine Qr hs h5 ?_
  refine Qd (Qa (pn hs 1 [(4, .bool false)] fun a hs => ?_))
  refine Qc (Qi ?_)
  obtain rfl := someE hk
  exact qr1 hQ hs ⟨rfl, hw.pk [0]⟩
 refine Qs hs h5 ?_
 refine Qg (Qd (Qd (Qa (pn hs 1 [(0, .slice p1 x1.length c1), (1, .slice p2 x2.length c2), (5, Qb 0)] fun a hs => ?_))))
 refine Qc (Ql ?_)
 obtain ⟨y1, hx1, hk⟩ := bindE hk
 obtain ⟨J1, hJ1⟩ := mkJ fun a w => Qdj = some r ∧ Sees a 27 [] ∧ St g w [F] ih
 obtain ⟨I1, hI1⟩ := QhB fun j a w => ∃ (x3 : Int), catenaryref09_SameAll_l11 k x1 x2 j x3 = some y1 ∧ Sees a 27 [(0, .slice p1 x1.length c1), (1, .slice p2 x2.length c2), (5, Qb x3)] ∧ St g w [F] ih
 refine Qau 0 J1 ?_ ?_
 ·refine QbO I1 k ((hI1 _ _ _).2 ⟨0, hx1, hs.cst, hw.pk [0]⟩) (fun a w h6 => ?_) fun j a w hh => ?_
  ·obtain ⟨_, h, _⟩ := (hI1 _ _ _).1 h6
   cases h
  obtain ⟨x3, hx1, hs, hw⟩ := (hI1 _ _ _).1 hh
  refine Qd (Qd (Qa (pn hs 4 [(0, .slice p1 x1.length c1), (1, .slice p2 x2.length c2), (5, Qb x3), (14, .bool (decide (x3 < (x1.length : Int))))] fun a hs => ?_)))
  refine Qc ?_
  rcases ifbE hx1 with ⟨h7, hx1⟩ | ⟨h7, hx1⟩
  ·refine Qr hs h7 ?_
   refine Qg (Qd (Ql (Qd ?_)))
   obtain ⟨S, hD, kS⟩ := mkSXw hw [[]] (K := []) rfl
   obtain ⟨y2, hx2, hx1⟩ := bindE hx1
   obtain ⟨J2, hJ2⟩ := mkJ fun a w => ∃ (x4 : Bool), Qbl (catenaryref09_SameAll_l11 k x1 x2 j) x3 x4 = some y1 ∧ Sees a 27 [(0, .slice p1 x1.length c1), (1, .slice p2 x2.length c2), (5, Qb x3), (26, .bool x4)] ∧ St g w [F] ih
   refine Qo (by kernel_rfl) (N := 10) rfl S J2 ?_ ?_
   ·have hw := hw.drew
    have hS : S (bA 10 0) _ := SXn hD (hw.vws [0])
    refine Qp (fuel := 8) kS hs hS [0, 1] fun a hs hS => ?_
    obtain ⟨x5, h8, hx2⟩ := bindE hx2
    refine Qay (fuel := 7) kS hs hS 2 rfl (by kernel_rfl) h1 (by kernel_rfl) (by kernel_rfl) (k := .i64) (by kernel_rfl) 44 (by kernel_rfl) (by kernel_rfl) h8 fun a r463 cs henc at464 hs hS => ?_
    refine Qgn hS fun hS => ?_
    obtain ⟨p3, c3, rfl, h9⟩ := henc
    refine Qy kS hs hS 3 rfl (fun l w hu hS => at464 w (((Qfi hD 0 rfl (by kernel_rfl) l w hu hS).sub h2).anti (Le.refl _))) 0 fun a hs hS => ?_
    refine Qp (fuel := 4) kS hs hS [4, 5] fun a hs hS => ?_
    obtain ⟨x6, h10, hx2⟩ := bindE hx2
    refine Qay (fuel := 3) kS hs hS 6 rfl (by kernel_rfl) h3 (by kernel_rfl) (by kernel_rfl) (k := .i64) (by kernel_rfl) 44 (by kernel_rfl) (by kernel_rfl) h10 fun a r470 cs henc at471 hs hS => ?_
    refine Qgn hS fun hS => ?_
    obtain ⟨p4, c4, rfl, h11⟩ := henc
    refine Qy kS hs hS 7 rfl (fun l w hu hS => at471 w (((Qfi hD 0 rfl (by kernel_rfl) l w hu hS).sub h4).anti (Le.refl _))) 0 fun a hs hS => ?_
    refine QF [8] (QH ?_)
    obtain ⟨y3, h12, hx2⟩ := bindE hx2
    refine QaR hs rfl (QeF h12 h9 h11 ((hw.pk [0]).pack 0)) fun a w v hv hs => ?_
    obtain ⟨rfl, hw⟩ := hv
    have hw := hw.unpack 0 rfl
    refine nx hD ((hw.vws [0]).anti (Le.refl _)) fun hS => ?_
    refine Qu kS hs hS fun a hs => ?_
    obtain rfl := someE hx2
    exact (hJ2 _ _).2 ⟨(!y3), hx1, hs.cst, hw.pk [0]⟩
   intro a w hh
   obtain ⟨x4, hx1, hs, hw⟩ := (hJ2 _ _).1 hh
   rcases ifbE hx1 with ⟨h13, hx1⟩ | ⟨h13, hx1⟩
   ·refine Qr hs h13 ?_
    refine Qd (Qa (pn hs 1 [(4, .bool false)] fun a hs => ?_))
    refine Qc (Qi ?_)
    obtain rfl := someE hx1
    obtain rfl := someE hk
    exact qr1 hQ hs ⟨rfl, hw.pk [0]⟩
   refine Qs hs h13 ?_
   refine Qg (Qa (pu hs 3 fun a hs => ?_))
   refine Qc ?_
   exact (hI1 _ _ _).2 ⟨(IntKind.i64.wrap (x3 + 1)), hx1, hs.cst, hw.pk [0]⟩
  refine Qs hs h7 (Qa3 ?_)
  obtain rfl := someE hx1
  exact (hJ1 _ _).2 ⟨hk, hs.cst, hw.pk [0]⟩
 intro a w hh
 obtain ⟨hk, hs, hw⟩ := (hJ1 _ _).1 hh
 refine Qd (Qa (pn hs 1 [(4, .bool true)] fun a hs => ?_))
 refine Qc (Qi ?_)
 obtain rfl := someE hk
 exact qr1 hQ hs ⟨rfl, hw.pk [0]⟩
end Go.Proofs.YteiinkhbgpldeaaGreatDoor.Sx
