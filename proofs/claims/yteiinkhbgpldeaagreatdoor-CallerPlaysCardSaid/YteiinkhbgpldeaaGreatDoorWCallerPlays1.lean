/- The walk of CallerPlays. Conditions: those ahead of each colon. -/
import Derived.Test.YteiinkhbgpldeaaGreatDoorWCallerPlays0
namespace Go.Proofs.YteiinkhbgpldeaaGreatDoor.Sx
open Go Go.Proofs
set_option maxRecDepth 100000
set_option linter.unusedVariables false
def Qdy : Option Bool :=
 some true
def Qby (rec_slices_Equal_int_int_l11 : Int → Option (Sum Bool Unit)) (x1 : Int) (x2 : Bool) : Option (Sum Bool Unit) :=
 if x2 = true then some (.inl false)
 else rec_slices_Equal_int_int_l11 (IntKind.i64.wrap (x1 + 1))
def slices_Equal_int_int_l11 (x1 : List Int) (x2 : List Int) : Nat → Int → Option (Sum Bool Unit)
 | 0, _ => none
 | j + 1, x3 =>
  if (decide (x3 < (x1.length : Int))) = true then (
   ((ix x1 x3).bind fun x4 =>
    (ix x2 x3).bind fun x5 =>
    some (x4 != x5) : Option Bool).bind fun s1 => Qby (slices_Equal_int_int_l11 x1 x2 j) x3 s1)
  else some (.inr ())
def Qbq (k : Nat) (x1 x2 : List Int) : Option Bool :=
 if ((x1.length : Int) != (x2.length : Int)) = true then some false
 else (slices_Equal_int_int_l11 x1 x2 k 0 : Option (Sum Bool Unit)).bind fun
  | .inl z => some z
  | .inr _ => Qdy
theorem Qgq {k : Nat} {x1 x2 : List Int} {d1 d2 : Ch} {c1 c2 : Nat} {p1 p2 : Option Addr} {r : Bool} (hk : Qbq k x1 x2 = some r) {g w : World} {F : Ch} {ih : IH} (h1 : RSl e3 ih d1 p1 c1 x1) (h2 : ∀ q ∈ d1, q ∈ F) (h3 : RSl e3 ih d2 p2 c2 x2) (h4 : ∀ q ∈ d2, q ∈ F) (hw : St g w [F] ih) :
  CallsR Tryz.prog 128 #[.slice p1 x1.length c1, .slice p2 x2.length c2] w fun v w' => v = .bool r ∧ St g w' [F] ih := by
 refine f_i Tryz.func128 rfl 26 rfl fun a Qf hQ hQn hs => ?_
 refine Qd (Qa (pn hs 1 [(0, .slice p1 x1.length c1), (1, .slice p2 x2.length c2)] fun a hs => ?_))
 refine Qc (Qd (Qd (Qa (pn hs 5 [(0, .slice p1 x1.length c1), (1, .slice p2 x2.length c2), (10, .bool ((x1.length : Int) != (x2.length : Int)))] fun a hs => ?_))))
 refine Qc ?_
 rcases ifbE hk with ⟨h5, hk⟩ | ⟨h5, hk⟩
 ·refine Qr hs h5 ?_
  refine Qd (Qa (pn hs 1 [(4, .bool false)] fun a hs => ?_))
  refine Qc (Qi ?_)
  obtain rfl := someE hk
  exact qr1 hQ hs ⟨rfl, hw.pk [0]⟩
 refine Qs hs h5 ?_
 refine Qg (Qd (Qd (Qa (pn hs 3 [(0, .slice p1 x1.length c1), (1, .slice p2 x2.length c2), (12, Qb (x1.length : Int)), (13, Qb 0)] fun a hs => ?_))))
 refine Qc (Ql ?_)
 obtain ⟨y1, hx1, hk⟩ := bindE hk
 obtain ⟨J1, hJ1⟩ := mkJ fun a w => Qdy = some r ∧ Sees a 26 [] ∧ St g w [F] ih
 obtain ⟨I1, hI1⟩ := QhB fun j a w => ∃ (x3 : Int), slices_Equal_int_int_l11 x1 x2 j x3 = some y1 ∧ Sees a 26 [(0, .slice p1 x1.length c1), (1, .slice p2 x2.length c2), (12, Qb (x1.length : Int)), (13, Qb x3)] ∧ St g w [F] ih
 refine Qau 0 J1 ?_ ?_
 ·refine QbO I1 k ((hI1 _ _ _).2 ⟨0, hx1, hs.cst, hw.pk [0]⟩) (fun a w h6 => ?_) fun j a w hh => ?_
  ·obtain ⟨_, h, _⟩ := (hI1 _ _ _).1 h6
   cases h
  obtain ⟨x3, hx1, hs, hw⟩ := (hI1 _ _ _).1 hh
  refine Qd (Qa (pn hs 1 [(0, .slice p1 x1.length c1), (1, .slice p2 x2.length c2), (12, Qb (x1.length : Int)), (13, Qb x3), (14, .bool (decide (x3 < (x1.length : Int))))] fun a hs => ?_))
  refine Qc (Qd ?_)
  rcases ifbE hx1 with ⟨h7, hx1⟩ | ⟨h7, hx1⟩
  ·refine Qr hs h7 ?_
   refine Qg (Qd (Ql (Qd (Qa (pn hs 2 [(0, .slice p1 x1.length c1), (1, .slice p2 x2.length c2), (12, Qb (x1.length : Int)), (13, Qb x3), (5, Qb x3)] fun a hs => ?_)))))
   refine Qc (Qd ?_)
   obtain ⟨S, hD, kS⟩ := mkSXw hw [[]] (K := []) rfl
   obtain ⟨y2, hx2, hx1⟩ := bindE hx1
   obtain ⟨J2, hJ2⟩ := mkJ fun a w => ∃ (x4 : Bool), Qby (slices_Equal_int_int_l11 x1 x2 j) x3 x4 = some y1 ∧ Sees a 26 [(0, .slice p1 x1.length c1), (1, .slice p2 x2.length c2), (12, Qb (x1.length : Int)), (13, Qb x3), (24, .bool x4)] ∧ St g w [F] ih
   refine Qo (by kernel_rfl) (N := 9) rfl S J2 ?_ ?_
   ·have hw := hw.drew
    have hS : S (bA 9 0) _ := SXn hD (hw.vws [0])
    refine Qp (fuel := 7) kS hs hS [0, 1] fun a hs hS => ?_
    obtain ⟨x5, h8, hx2⟩ := bindE hx2
    refine Qay (fuel := 6) kS hs hS 2 rfl (by kernel_rfl) h1 (by kernel_rfl) (by kernel_rfl) (k := .i64) (by kernel_rfl) 3 (by kernel_rfl) (by kernel_rfl) h8 fun a r279 cs henc at280 hs hS => ?_
    refine Qgn hS fun hS => ?_
    obtain rfl := henc
    refine Qy kS hs hS 3 rfl (fun l w hu hS => at280 w (((Qfi hD 0 rfl (by kernel_rfl) l w hu hS).sub h2).anti (Le.refl _))) 0 fun a hs hS => ?_
    refine Qp (fuel := 3) kS hs hS [4, 5] fun a hs hS => ?_
    obtain ⟨x6, h9, hx2⟩ := bindE hx2
    refine Qay (fuel := 2) kS hs hS 6 rfl (by kernel_rfl) h3 (by kernel_rfl) (by kernel_rfl) (k := .i64) (by kernel_rfl) 3 (by kernel_rfl) (by kernel_rfl) h9 fun a r283 cs henc at284 hs hS => ?_
    refine Qgn hS fun hS => ?_
    obtain rfl := henc
    refine Qy kS hs hS 7 rfl (fun l w hu hS => at284 w (((Qfi hD 0 rfl (by kernel_rfl) l w hu hS).sub h4).anti (Le.refl _))) 0 fun a hs hS => ?_
    refine Qu kS hs hS fun a hs => ?_
    obtain rfl := someE hx2
    exact (hJ2 _ _).2 ⟨(x5 != x6), hx1, hs.cst, hw.pk [0]⟩
   intro a w hh
   obtain ⟨x4, hx1, hs, hw⟩ := (hJ2 _ _).1 hh
   rcases ifbE hx1 with ⟨h10, hx1⟩ | ⟨h10, hx1⟩
   ·refine Qr hs h10 ?_
    refine Qd (Qa (pn hs 1 [(4, .bool false)] fun a hs => ?_))
    refine Qc (Qi ?_)
    obtain rfl := someE hx1
    obtain rfl := someE hk
    exact qr1 hQ hs ⟨rfl, hw.pk [0]⟩
   refine Qs hs h10 ?_
   refine Qg (Qa (pu hs 2 fun a hs => ?_))
   refine Qc ?_
   exact (hI1 _ _ _).2 ⟨(IntKind.i64.wrap (x3 + 1)), hx1, hs.cst, hw.pk [0]⟩
  refine Qs hs h7 (Qa3 ?_)
  obtain rfl := someE hx1
  exact (hJ1 _ _).2 ⟨hk, hs.cst, hw.pk [0]⟩
 intro a w hh
 obtain ⟨hk, hs, hw⟩ := (hJ1 _ _).1 hh
 refine Qd (Qa (pn hs 1 [(4, .bool true)] fun a hs => ?_))
 refine Qc (Qi ?_)
 obtain rfl := someE hk
 exact qr1 hQ hs ⟨rfl, hw.pk [0]⟩
def QgK (x1 : Bool) : Option Bool :=
 some x1
def Qhu (k : Nat) (x1 x2 : M44) : Option Bool :=
 (if (x1.f0 == x2.f0) = true then (
   if (x1.f1 == x2.f1) = true then (
    if (x1.f3 == x2.f3) = true then (
     if (x1.f4 == x2.f4) = true then (
      (Qbq k x1.f2 x2.f2).bind fun y1 =>
      some y1)
     else some false)
    else some false)
   else some false)
  else some false : Option Bool).bind fun s1 => QgK s1
theorem Qj3 {k : Nat} {x1 x2 : M44} {c1 c2 : Nat} {p1 p2 : Option Addr} {r : Bool} (hk : Qhu k x1 x2 = some r) {g w : World} {F : Ch} {ih : IH} (h1 : RSl e3 ih [] p1 c1 x1.f2) (h2 : RSl e3 ih [] p2 c2 x2.f2) (hw : St g w [F] ih) :
  CallsR Tryz.prog 90 #[A44 x1 p1 c1, A44 x2 p2 c2] w fun v w' => v = .bool r ∧ St g w' [F] ih := by
 refine f_i Tryz.func90 rfl 38 rfl fun a Qf hQ hQn hs => ?_
 refine Qd (Qa (QC hs hw [Qb x1.f0, Qe x1.f1, .slice p1 x1.f2.length c1, .bool x1.f3, Qb x1.f4] 44 (fun b => (pt b 0)) (by kernel_rfl) (fun _ => by kernel_rfl) fun a w b1 hs hw => ?_))
 refine QaN hs hw [Qb x2.f0, Qe x2.f1, .slice p2 x2.f2.length c2, .bool x2.f3, Qb x2.f4] 44 (fun b => (pt b 0)) fun a w b2 hs hw => ?_
 refine pn hs 1 [(2, (pt b1 0)), (3, (pt b2 0))] fun a hs => Qc (Qd ?_)
 obtain ⟨y1, hx1, hk⟩ := bindE hk
 obtain ⟨J1, hJ1⟩ := mkJ fun a w => ∃ (x3 : Bool), QgK x3 = some r ∧ Sees a 38 [(4, .bool x3)] ∧ St g w [F] ih
 refine Qn J1 ?_ ?_
 ·refine pu hs 1 fun a hs => Qj hs (hw.at_ 1 rfl) 0 fun a hs => pu hs 1 fun a hs => Qj hs (hw.at_ 0 rfl) 0 fun a hs => pu hs 2 fun a hs => ?_
  rcases ifbE hx1 with ⟨h3, hx1⟩ | ⟨h3, hx1⟩
  ·have hs := hs.aB 10 h3
   refine pn hs 1 [(2, (pt b1 0)), (3, (pt b2 0)), (10, .bool true), (11, (pt b1 1))] fun a hs => Qj hs (hw.at_ 1 rfl) 1 fun a hs => pu hs 1 fun a hs => Qj hs (hw.at_ 0 rfl) 1 fun a hs => ?_
   refine pu hs 3 fun a hs => ?_
   rcases ifbE hx1 with ⟨h4, hx1⟩ | ⟨h4, hx1⟩
   ·have hs := hs.aB 17 h4
    refine pu hs 1 fun a hs => Qj hs (hw.at_ 1 rfl) 3 fun a hs => pn hs 1 [(2, (pt b1 0)), (3, (pt b2 0)), (17, .bool true), (19, .bool x1.f3), (20, (pt b2 3))] fun a hs => ?_
    refine Qj hs (hw.at_ 0 rfl) 3 fun a hs => pu hs 3 fun a hs => ?_
    rcases ifbE hx1 with ⟨h5, hx1⟩ | ⟨h5, hx1⟩
    ·have hs := hs.aB 24 h5
     refine pu hs 1 fun a hs => Qj hs (hw.at_ 1 rfl) 4 fun a hs => pu hs 1 fun a hs => Qj hs (hw.at_ 0 rfl) 4 fun a hs => pn hs 3 [(2, (pt b1 0)), (3, (pt b2 0)), (31, .bool (x1.f4 == x2.f4))] fun a hs => ?_
     rcases ifbE hx1 with ⟨h6, hx1⟩ | ⟨h6, hx1⟩
     ·have hs := hs.aB 31 h6
      refine pu hs 1 fun a hs => Qj hs (hw.at_ 1 rfl) 2 fun a hs => pu hs 1 fun a hs => Qj hs (hw.at_ 0 rfl) 2 fun a hs => ?_
      obtain ⟨y2, h7, hx1⟩ := bindE hx1
      refine Qv hs (Qgq h7 h1 (nilSub _) h2 (nilSub _) ((hw.pk [2]).pack 0)) fun a w v hv hs => ?_
      obtain ⟨rfl, hw⟩ := hv
      have hw := hw.unpack 0 rfl
      refine pu hs 2 fun a hs => ?_
      have hw := hw.cL [F]
      refine Qc ?_
      obtain rfl := someE hx1
      exact (hJ1 _ _).2 ⟨y2, hk, hs.cst, hw.pk [0]⟩
     have hs := hs.aB 31 h6
     refine pu hs 7 fun a hs => Qc ?_
     obtain rfl := someE hx1
     exact (hJ1 _ _).2 ⟨false, hk, hs.cst, hw.pk [2]⟩
    have hs := hs.aB 24 h5
    refine pu hs 14 fun a hs => Qc ?_
    obtain rfl := someE hx1
    exact (hJ1 _ _).2 ⟨false, hk, hs.cst, hw.pk [2]⟩
   have hs := hs.aB 17 h4
   refine pu hs 21 fun a hs => Qc ?_
   obtain rfl := someE hx1
   exact (hJ1 _ _).2 ⟨false, hk, hs.cst, hw.pk [2]⟩
  have hs := hs.aB 10 h3
  refine pn hs 28 [(4, .bool false)] fun a hs => Qc ?_
  obtain rfl := someE hx1
  exact (hJ1 _ _).2 ⟨false, hk, hs.cst, hw.pk [2]⟩
 intro a w hh
 obtain ⟨x3, hk, hs, hw⟩ := (hJ1 _ _).1 hh
 refine Qi ?_
 obtain rfl := someE hk
 exact qr1 hQ hs ⟨rfl, hw.pk [0]⟩
def Qba : Option Bool :=
 some true
def Qad (rec_slices_Equal_api_Vote_api_Vote_l11 : Int → Option (Sum Bool Unit)) (x1 : Int) (x2 : Bool) : Option (Sum Bool Unit) :=
 if x2 = true then some (.inl false)
 else rec_slices_Equal_api_Vote_api_Vote_l11 (IntKind.i64.wrap (x1 + 1))
def slices_Equal_api_Vote_api_Vote_l11 (x1 : List M156) (x2 : List M156) : Nat → Int → Option (Sum Bool Unit)
 | 0, _ => none
 | j + 1, x3 =>
  if (decide (x3 < (x1.length : Int))) = true then (
   ((ix x1 x3).bind fun x4 =>
    (ix x2 x3).bind fun x5 =>
    some (!((x4.f0 == x5.f0) && ((x4.f1 == x5.f1) && (((x4.f2.f0 == x5.f2.f0) && ((x4.f2.f1 == x5.f2.f1) && ((x4.f2.f2 == x5.f2.f2) && ((x4.f2.f3 == x5.f2.f3) && true)))) && true)))) : Option Bool).bind fun s1 => Qad (slices_Equal_api_Vote_api_Vote_l11 x1 x2 j) x3 s1)
  else some (.inr ())
def Q3 (k : Nat) (x1 x2 : List M156) : Option Bool :=
 if ((x1.length : Int) != (x2.length : Int)) = true then some false
 else (slices_Equal_api_Vote_api_Vote_l11 x1 x2 k 0 : Option (Sum Bool Unit)).bind fun
  | .inl z => some z
  | .inr _ => Qba
theorem QdT {k : Nat} {x1 x2 : List M156} {d1 d2 : Ch} {c1 c2 : Nat} {p1 p2 : Option Addr} {r : Bool} (hk : Q3 k x1 x2 = some r) {g w : World} {F : Ch} {ih : IH} (h1 : RSl Qcf ih d1 p1 c1 x1) (h2 : ∀ q ∈ d1, q ∈ F) (h3 : RSl Qcf ih d2 p2 c2 x2) (h4 : ∀ q ∈ d2, q ∈ F) (hw : St g w [F] ih) :
  CallsR Tryz.prog 91 #[.slice p1 x1.length c1, .slice p2 x2.length c2] w fun v w' => v = .bool r ∧ St g w' [F] ih := by
 refine f_i Tryz.func91 rfl 26 rfl fun a Qf hQ hQn hs => ?_
 refine Qd (Qa (pn hs 1 [(0, .slice p1 x1.length c1), (1, .slice p2 x2.length c2)] fun a hs => ?_))
 refine Qc (Qd (Qd (Qa (pn hs 5 [(0, .slice p1 x1.length c1), (1, .slice p2 x2.length c2), (10, .bool ((x1.length : Int) != (x2.length : Int)))] fun a hs => ?_))))
 refine Qc ?_
 rcases ifbE hk with ⟨h5, hk⟩ | ⟨h5, hk⟩
 ·refine Qr hs h5 ?_
  refine Qd (Qa (pn hs 1 [(4, .bool false)] fun a hs => ?_))
  refine Qc (Qi ?_)
  obtain rfl := someE hk
  exact qr1 hQ hs ⟨rfl, hw.pk [0]⟩
 refine Qs hs h5 ?_
 refine Qg (Qd (Qd (Qa (pn hs 3 [(0, .slice p1 x1.length c1), (1, .slice p2 x2.length c2), (12, Qb (x1.length : Int)), (13, Qb 0)] fun a hs => ?_))))
 refine Qc (Ql ?_)
 obtain ⟨y1, hx1, hk⟩ := bindE hk
 obtain ⟨J1, hJ1⟩ := mkJ fun a w => Qba = some r ∧ Sees a 26 [] ∧ St g w [F] ih
 obtain ⟨I1, hI1⟩ := QhB fun j a w => ∃ (x3 : Int), slices_Equal_api_Vote_api_Vote_l11 x1 x2 j x3 = some y1 ∧ Sees a 26 [(0, .slice p1 x1.length c1), (1, .slice p2 x2.length c2), (12, Qb (x1.length : Int)), (13, Qb x3)] ∧ St g w [F] ih
 refine Qau 0 J1 ?_ ?_
 ·refine QbO I1 k ((hI1 _ _ _).2 ⟨0, hx1, hs.cst, hw.pk [0]⟩) (fun a w h6 => ?_) fun j a w hh => ?_
  ·obtain ⟨_, h, _⟩ := (hI1 _ _ _).1 h6
   cases h
  obtain ⟨x3, hx1, hs, hw⟩ := (hI1 _ _ _).1 hh
  refine Qd (Qa (pn hs 1 [(0, .slice p1 x1.length c1), (1, .slice p2 x2.length c2), (12, Qb (x1.length : Int)), (13, Qb x3), (14, .bool (decide (x3 < (x1.length : Int))))] fun a hs => ?_))
  refine Qc (Qd ?_)
  rcases ifbE hx1 with ⟨h7, hx1⟩ | ⟨h7, hx1⟩
  ·refine Qr hs h7 ?_
   refine Qg (Qd (Ql (Qd (Qa (pn hs 2 [(0, .slice p1 x1.length c1), (1, .slice p2 x2.length c2), (12, Qb (x1.length : Int)), (13, Qb x3), (5, Qb x3)] fun a hs => ?_)))))
   refine Qc (Qd ?_)
   obtain ⟨S, hD, kS⟩ := mkSXw hw [[]] (K := []) rfl
   obtain ⟨y2, hx2, hx1⟩ := bindE hx1
   obtain ⟨J2, hJ2⟩ := mkJ fun a w => ∃ (x4 : Bool), Qad (slices_Equal_api_Vote_api_Vote_l11 x1 x2 j) x3 x4 = some y1 ∧ Sees a 26 [(0, .slice p1 x1.length c1), (1, .slice p2 x2.length c2), (12, Qb (x1.length : Int)), (13, Qb x3), (24, .bool x4)] ∧ St g w [F] ih
   refine Qo (by kernel_rfl) (N := 9) rfl S J2 ?_ ?_
   ·have hw := hw.drew
    have hS : S (bA 9 0) _ := SXn hD (hw.vws [0])
    refine Qp (fuel := 7) kS hs hS [0, 1] fun a hs hS => ?_
    obtain ⟨x5, h8, hx2⟩ := bindE hx2
    refine Qay (fuel := 6) kS hs hS 2 rfl (by kernel_rfl) h1 (by kernel_rfl) (by kernel_rfl) (k := .i64) (by kernel_rfl) 156 (by kernel_rfl) (by kernel_rfl) h8 fun a r279 cs henc at280 hs hS => ?_
    refine Qgn hS fun hS => ?_
    obtain rfl := henc
    refine Qy kS hs hS 3 rfl (fun l w hu hS => at280 w (((Qfi hD 0 rfl (by kernel_rfl) l w hu hS).sub h2).anti (Le.refl _))) 0 fun a hs hS => ?_
    refine Qp (fuel := 3) kS hs hS [4, 5] fun a hs hS => ?_
    obtain ⟨x6, h9, hx2⟩ := bindE hx2
    refine Qay (fuel := 2) kS hs hS 6 rfl (by kernel_rfl) h3 (by kernel_rfl) (by kernel_rfl) (k := .i64) (by kernel_rfl) 156 (by kernel_rfl) (by kernel_rfl) h9 fun a r283 cs henc at284 hs hS => ?_
    refine Qgn hS fun hS => ?_
    obtain rfl := henc
    refine Qy kS hs hS 7 rfl (fun l w hu hS => at284 w (((Qfi hD 0 rfl (by kernel_rfl) l w hu hS).sub h4).anti (Le.refl _))) 0 fun a hs hS => ?_
    refine Qno (fuel := 0) kS hs hS 8 rfl (by kernel_rfl) (c1 := [Qb x5.f0, Qe x5.f1, Qb x5.f2.f0, Qb x5.f2.f1, Qe x5.f2.f2, Qb x5.f2.f3]) (c2 := [Qb x6.f0, Qe x6.f1, Qb x6.f2.f0, Qb x6.f2.f1, Qe x6.f2.f2, Qb x6.f2.f3]) ((x5.f0 == x6.f0) && ((x5.f1 == x6.f1) && (((x5.f2.f0 == x6.f2.f0) && ((x5.f2.f1 == x6.f2.f1) && ((x5.f2.f2 == x6.f2.f2) && ((x5.f2.f3 == x6.f2.f3) && true)))) && true))) (by kernel_rfl) (by kernel_rfl) (by kernel_rfl) (by kernel_rfl) (by kernel_rfl) fun a hs hS => ?_
    refine Qgn hS fun hS => ?_
    refine QhI ?_
    obtain rfl := someE hx2
    exact (hJ2 _ _).2 ⟨(!((x5.f0 == x6.f0) && ((x5.f1 == x6.f1) && (((x5.f2.f0 == x6.f2.f0) && ((x5.f2.f1 == x6.f2.f1) && ((x5.f2.f2 == x6.f2.f2) && ((x5.f2.f3 == x6.f2.f3) && true)))) && true)))), hx1, hs.cst, hw.pk [0]⟩
   intro a w hh
   obtain ⟨x4, hx1, hs, hw⟩ := (hJ2 _ _).1 hh
   rcases ifbE hx1 with ⟨h10, hx1⟩ | ⟨h10, hx1⟩
   ·refine Qr hs h10 ?_
    refine Qd (Qa (pn hs 1 [(4, .bool false)] fun a hs => ?_))
    refine Qc (Qi ?_)
    obtain rfl := someE hx1
    obtain rfl := someE hk
    exact qr1 hQ hs ⟨rfl, hw.pk [0]⟩
   refine Qs hs h10 ?_
   refine Qg (Qa (pu hs 2 fun a hs => ?_))
   refine Qc ?_
   exact (hI1 _ _ _).2 ⟨(IntKind.i64.wrap (x3 + 1)), hx1, hs.cst, hw.pk [0]⟩
  refine Qs hs h7 (Qa3 ?_)
  obtain rfl := someE hx1
  exact (hJ1 _ _).2 ⟨hk, hs.cst, hw.pk [0]⟩
 intro a w hh
 obtain ⟨hk, hs, hw⟩ := (hJ1 _ _).1 hh
 refine Qd (Qa (pn hs 1 [(4, .bool true)] fun a hs => ?_))
 refine Qc (Qi ?_)
 obtain rfl := someE hk
 exact qr1 hQ hs ⟨rfl, hw.pk [0]⟩
def Qfd (x1 x2 : List Int) : Option Bool :=
 some (beqS x1 x2)
theorem Qhx {x1 x2 : List Int} {d1 d2 : Ch} {c1 c2 : Nat} {p1 p2 : Option Addr} {r : Bool} (hk : Qfd x1 x2 = some r) {g w : World} {F : Ch} {ih : IH} (h1 : RSl e5 ih d1 p1 c1 x1) (h2 : ∀ q ∈ d1, q ∈ F) (h3 : RSl e5 ih d2 p2 c2 x2) (h4 : ∀ q ∈ d2, q ∈ F) (hw : St g w [F] ih) :
  CallsR Tryz.prog 94 #[.slice p1 x1.length c1, .slice p2 x2.length c2] w fun v w' => v = .bool r ∧ St g w' [F] ih := by
 refine f_i Tryz.func94 rfl 10 rfl fun a Qf hQ hQn hs => ?_
 refine Qd (Qa (pn hs 1 [(0, .slice p1 x1.length c1), (1, .slice p2 x2.length c2)] fun a hs => ?_))
 refine Qc (Qd (Qa (pu hs 1 fun a hs => ?_)))
 refine QkZ hs (t := 5) h1 (((hw.vw 0 rfl).sub h2).anti (Le.refl _)) (by kernel_rfl) (by kernel_rfl) 5 (by kernel_rfl) (by kernel_rfl) (by kernel_rfl) fun a hs => ?_
 refine pu hs 1 fun a hs => QkZ hs (t := 5) h3 (((hw.vw 0 rfl).sub h4).anti (Le.refl _)) (by kernel_rfl) (by kernel_rfl) 5 (by kernel_rfl) (by kernel_rfl) (by kernel_rfl) fun a hs => ?_
 refine Qm9 hs (s1 := (strOf x1)) (s2 := (strOf x2)) (beqS x1 x2) (by kernel_rfl) (by kernel_rfl) (by kernel_rfl) (by kernel_rfl) (by kernel_rfl) fun a hs => ?_
 refine pn hs 1 [(4, .bool (beqS x1 x2))] fun a hs => Qc (Qi ?_)
 obtain rfl := someE hk
 exact qr1 hQ hs ⟨rfl, hw.pk [0]⟩
def QcZ (x1 : Bool) : Option Bool :=
 some x1
def QcV (x1 x2 : M96) : Option Bool :=
 (if (x1.f0 == x2.f0) = true then (
   if (x1.f1 == x2.f1) = true then (
    if (x1.f2 == x2.f2) = true then (
     if (x1.f3 == x2.f3) = true then (
      if (x1.f4 == x2.f4) = true then (
       if (x1.f5 == x2.f5) = true then (
        (Qfd x1.f6 x2.f6).bind fun y1 =>
        some y1)
       else some false)
      else some false)
     else some false)
    else some false)
   else some false)
  else some false : Option Bool).bind fun s1 => QcZ s1
theorem Qhc {x1 x2 : M96} {c1 c2 : Nat} {p1 p2 : Option Addr} {r : Bool} (hk : QcV x1 x2 = some r) {g w : World} {F : Ch} {ih : IH} (h1 : RSl e5 ih [] p1 c1 x1.f6) (h2 : RSl e5 ih [] p2 c2 x2.f6) (hw : St g w [F] ih) :
  CallsR Tryz.prog 93 #[A96 x1 p1 c1, A96 x2 p2 c2] w fun v w' => v = .bool r ∧ St g w' [F] ih := by
 refine f_i Tryz.func93 rfl 52 rfl fun a Qf hQ hQn hs => ?_
 refine Qd (Qa (QC hs hw [Qe x1.f0, Qb x1.f1, Qe x1.f2, Qb x1.f3, Qk x1.f4, Qe x1.f5, .slice p1 x1.f6.length c1] 96 (fun b => (pt b 0)) (by kernel_rfl) (fun _ => by kernel_rfl) fun a w b1 hs hw => ?_))
 refine QaN hs hw [Qe x2.f0, Qb x2.f1, Qe x2.f2, Qb x2.f3, Qk x2.f4, Qe x2.f5, .slice p2 x2.f6.length c2] 96 (fun b => (pt b 0)) fun a w b2 hs hw => ?_
 refine pn hs 1 [(2, (pt b1 0)), (3, (pt b2 0))] fun a hs => Qc (Qd ?_)
 obtain ⟨y1, hx1, hk⟩ := bindE hk
 obtain ⟨J1, hJ1⟩ := mkJ fun a w => ∃ (x3 : Bool), QcZ x3 = some r ∧ Sees a 52 [(4, .bool x3)] ∧ St g w [F] ih
 refine Qn J1 ?_ ?_
 ·refine pu hs 1 fun a hs => Qj hs (hw.at_ 1 rfl) 0 fun a hs => pu hs 1 fun a hs => Qj hs (hw.at_ 0 rfl) 0 fun a hs => pu hs 2 fun a hs => ?_
  rcases ifbE hx1 with ⟨h3, hx1⟩ | ⟨h3, hx1⟩
  ·have hs := hs.aB 10 h3
   refine pn hs 1 [(2, (pt b1 0)), (3, (pt b2 0)), (10, .bool true), (11, (pt b1 1))] fun a hs => Qj hs (hw.at_ 1 rfl) 1 fun a hs => pu hs 1 fun a hs => Qj hs (hw.at_ 0 rfl) 1 fun a hs => ?_
   refine pu hs 3 fun a hs => ?_
   rcases ifbE hx1 with ⟨h4, hx1⟩ | ⟨h4, hx1⟩
   ·have hs := hs.aB 17 h4
    refine pu hs 1 fun a hs => Qj hs (hw.at_ 1 rfl) 2 fun a hs => pn hs 1 [(2, (pt b1 0)), (3, (pt b2 0)), (17, .bool true), (19, Qe x1.f2), (20, (pt b2 2))] fun a hs => ?_
    refine Qj hs (hw.at_ 0 rfl) 2 fun a hs => pu hs 3 fun a hs => ?_
    rcases ifbE hx1 with ⟨h5, hx1⟩ | ⟨h5, hx1⟩
    ·have hs := hs.aB 24 h5
     refine pu hs 1 fun a hs => Qj hs (hw.at_ 1 rfl) 3 fun a hs => pu hs 1 fun a hs => Qj hs (hw.at_ 0 rfl) 3 fun a hs => pn hs 3 [(2, (pt b1 0)), (3, (pt b2 0)), (31, .bool (x1.f3 == x2.f3))] fun a hs => ?_
     rcases ifbE hx1 with ⟨h6, hx1⟩ | ⟨h6, hx1⟩
     ·have hs := hs.aB 31 h6
      refine pu hs 1 fun a hs => Qj hs (hw.at_ 1 rfl) 4 fun a hs => pu hs 1 fun a hs => Qj hs (hw.at_ 0 rfl) 4 fun a hs => pu hs 3 fun a hs => ?_
      rcases ifbE hx1 with ⟨h7, hx1⟩ | ⟨h7, hx1⟩
      ·have hs := hs.aB 38 h7
       refine pn hs 1 [(2, (pt b1 0)), (3, (pt b2 0)), (38, .bool true), (39, (pt b1 5))] fun a hs => Qj hs (hw.at_ 1 rfl) 5 fun a hs => pu hs 1 fun a hs => Qj hs (hw.at_ 0 rfl) 5 fun a hs => ?_
       refine pu hs 3 fun a hs => ?_
       rcases ifbE hx1 with ⟨h8, hx1⟩ | ⟨h8, hx1⟩
       ·have hs := hs.aB 45 h8
        refine pu hs 1 fun a hs => Qj hs (hw.at_ 1 rfl) 6 fun a hs => pn hs 1 [(45, .bool true), (47, .slice p1 x1.f6.length c1), (48, (pt b2 6))] fun a hs => Qj hs (hw.at_ 0 rfl) 6 fun a hs => ?_
        obtain ⟨y2, h9, hx1⟩ := bindE hx1
        refine Qv hs (Qhx h9 h1 (nilSub _) h2 (nilSub _) ((hw.pk [2]).pack 0)) fun a w v hv hs => ?_
        obtain ⟨rfl, hw⟩ := hv
        have hw := hw.unpack 0 rfl
        refine pu hs 2 fun a hs => ?_
        have hw := hw.cL [F]
        refine Qc ?_
        obtain rfl := someE hx1
        exact (hJ1 _ _).2 ⟨y2, hk, hs.cst, hw.pk [0]⟩
       have hs := hs.aB 45 h8
       refine pu hs 7 fun a hs => Qc ?_
       obtain rfl := someE hx1
       exact (hJ1 _ _).2 ⟨false, hk, hs.cst, hw.pk [2]⟩
      have hs := hs.aB 38 h7
      refine pn hs 14 [(4, .bool false)] fun a hs => Qc ?_
      obtain rfl := someE hx1
      exact (hJ1 _ _).2 ⟨false, hk, hs.cst, hw.pk [2]⟩
     have hs := hs.aB 31 h6
     refine pu hs 21 fun a hs => Qc ?_
     obtain rfl := someE hx1
     exact (hJ1 _ _).2 ⟨false, hk, hs.cst, hw.pk [2]⟩
    have hs := hs.aB 24 h5
    refine pu hs 28 fun a hs => Qc ?_
    obtain rfl := someE hx1
    exact (hJ1 _ _).2 ⟨false, hk, hs.cst, hw.pk [2]⟩
   have hs := hs.aB 17 h4
   refine pu hs 35 fun a hs => Qc ?_
   obtain rfl := someE hx1
   exact (hJ1 _ _).2 ⟨false, hk, hs.cst, hw.pk [2]⟩
  have hs := hs.aB 10 h3
  refine pn hs 42 [(4, .bool false)] fun a hs => Qc ?_
  obtain rfl := someE hx1
  exact (hJ1 _ _).2 ⟨false, hk, hs.cst, hw.pk [2]⟩
 intro a w hh
 obtain ⟨x3, hk, hs, hw⟩ := (hJ1 _ _).1 hh
 refine Qi ?_
 obtain rfl := someE hk
 exact qr1 hQ hs ⟨rfl, hw.pk [0]⟩
def QB : Option Bool :=
 some true
def slices_EqualFunc_api_Update_api_Update_api_Update_api_Update_l4 (x1 : List M96) (x2 : List M96) : Nat → Int → Option (Sum Bool Unit)
 | 0, _ => none
 | j + 1, x3 =>
  if (decide (x3 < (x1.length : Int))) = true then (
   (ix x1 x3).bind fun x4 =>
   (ix x2 x3).bind fun x5 =>
   (QcV x4 x5).bind fun y1 =>
   if (!y1) = true then some (.inl false)
   else slices_EqualFunc_api_Update_api_Update_api_Update_api_Update_l4 x1 x2 j (IntKind.i64.wrap (x3 + 1)))
  else some (.inr ())
def Qm (k : Nat) (x1 x2 : List M96) : Option Bool :=
 if ((x1.length : Int) != (x2.length : Int)) = true then some false
 else (slices_EqualFunc_api_Update_api_Update_api_Update_api_Update_l4 x1 x2 k 0 : Option (Sum Bool Unit)).bind fun
  | .inl z => some z
  | .inr _ => QB
theorem Qag {k : Nat} {x1 x2 : List M96} {d1 d2 : Ch} {c1 c2 : Nat} {p1 p2 : Option Addr} {r : Bool} (hk : Qm k x1 x2 = some r) {g w : World} {F : Ch} {ih : IH} (h1 : RSl e96 ih d1 p1 c1 x1) (h2 : ∀ q ∈ d1, q ∈ F) (h3 : RSl e96 ih d2 p2 c2 x2) (h4 : ∀ q ∈ d2, q ∈ F) (hw : St g w [F] ih) :
  CallsR Tryz.prog 92 #[.slice p1 x1.length c1, .slice p2 x2.length c2, .func (.func 93) #[] #[]] w fun v w' => v = .bool r ∧ St g w' [F] ih := by
 refine f_i Tryz.func92 rfl 32 rfl fun a Qf hQ hQn hs => ?_
 refine Qd (Qa (pn hs 1 [(0, .slice p1 x1.length c1), (1, .slice p2 x2.length c2), (2, .func (.func 93) #[] #[])] fun a hs => ?_))
 refine Qc (Qd (Qd (Qa (pn hs 5 [(0, .slice p1 x1.length c1), (1, .slice p2 x2.length c2), (2, .func (.func 93) #[] #[]), (14, .bool ((x1.length : Int) != (x2.length : Int)))] fun a hs => ?_))))
 refine Qc ?_
 rcases ifbE hk with ⟨h5, hk⟩ | ⟨h5, hk⟩
 ·refine Qr hs h5 ?_
  refine Qd (Qa (pn hs 1 [(6, .bool false)] fun a hs => ?_))
  refine Qc (Qi ?_)
  obtain rfl := someE hk
  exact qr1 hQ hs ⟨rfl, hw.pk [0]⟩
 refine Qs hs h5 ?_
 refine Qg (Qd (Qd (Qa (pn hs 3 [(1, .slice p2 x2.length c2), (2, .func (.func 93) #[] #[]), (15, .slice p1 x1.length c1), (16, Qb (x1.length : Int)), (17, Qb 0)] fun a hs => ?_))))
 refine Qc (Ql ?_)
 obtain ⟨y1, hx1, hk⟩ := bindE hk
 obtain ⟨J1, hJ1⟩ := mkJ fun a w => QB = some r ∧ Sees a 32 [] ∧ St g w [F] ih
 obtain ⟨I1, hI1⟩ := QhB fun j a w => ∃ (x3 : Int), slices_EqualFunc_api_Update_api_Update_api_Update_api_Update_l4 x1 x2 j x3 = some y1 ∧ Sees a 32 [(1, .slice p2 x2.length c2), (2, .func (.func 93) #[] #[]), (15, .slice p1 x1.length c1), (16, Qb (x1.length : Int)), (17, Qb x3)] ∧ St g w [F] ih
 refine Qau 0 J1 ?_ ?_
 ·refine QbO I1 k ((hI1 _ _ _).2 ⟨0, hx1, hs.cst, hw.pk [0]⟩) (fun a w h6 => ?_) fun j a w hh => ?_
  ·obtain ⟨_, h, _⟩ := (hI1 _ _ _).1 h6
   cases h
  obtain ⟨x3, hx1, hs, hw⟩ := (hI1 _ _ _).1 hh
  refine Qd (Qa (pn hs 1 [(1, .slice p2 x2.length c2), (2, .func (.func 93) #[] #[]), (15, .slice p1 x1.length c1), (16, Qb (x1.length : Int)), (17, Qb x3), (18, .bool (decide (x3 < (x1.length : Int))))] fun a hs => ?_))
  refine Qc (Qd ?_)
  rcases ifbE hx1 with ⟨h7, hx1⟩ | ⟨h7, hx1⟩
  ·refine Qr hs h7 ?_
   refine Qg (Qd (Ql (Qd (Qa (pu hs 1 fun a hs => ?_)))))
   obtain ⟨x4, h8, hx1⟩ := bindE hx1
   refine QbT hs h1 (by kernel_rfl) (by kernel_rfl) (k := .i64) (by kernel_rfl) 96 (by kernel_rfl) (by kernel_rfl) h8 fun a r336 cs henc at337 hs => ?_
   obtain ⟨p3, c3, rfl, h9⟩ := henc
   refine Qj hs (at337 _ (((hw.vw 0 rfl).sub h2).anti (Le.refl _))) 0 fun a hs => QaN hs hw [Qe 0, Qb 0, Qe 0, Qb 0, Qk 0, Qe 0, .slice none 0 0] 96 (fun b => (pt b 0)) fun a w b1 hs hw => ?_
   refine pu hs 1 fun a hs => QE hs hw 0 rfl 0 (v := A96 x4 p3 c3) fun a w hs hw => ?_
   have hs := hs.cst (e' := [(1, .slice p2 x2.length c2), (2, .func (.func 93) #[] #[]), (15, .slice p1 x1.length c1), (16, Qb (x1.length : Int)), (17, Qb x3), (8, (pt b1 0)), (7, Qb x3)])
   refine Qc (Qd (Qa (pu hs 2 fun a hs => ?_)))
   obtain ⟨x5, h10, hx1⟩ := bindE hx1
   refine QbT hs h3 (by kernel_rfl) (by kernel_rfl) (k := .i64) (by kernel_rfl) 96 (by kernel_rfl) (by kernel_rfl) h10 fun a r354 cs henc at355 hs => ?_
   obtain ⟨p4, c4, rfl, h11⟩ := henc
   refine Qj hs (at355 _ (((hw.vw 1 rfl).sub h4).anti (Le.refl _))) 0 fun a hs => QaN hs hw [Qe 0, Qb 0, Qe 0, Qb 0, Qk 0, Qe 0, .slice none 0 0] 96 (fun b => (pt b 0)) fun a w b2 hs hw => ?_
   refine QE hs hw 0 rfl 0 (v := A96 x5 p4 c4) fun a w hs hw => ?_
   have hs := hs.cst (e' := [(1, .slice p2 x2.length c2), (2, .func (.func 93) #[] #[]), (15, .slice p1 x1.length c1), (16, Qb (x1.length : Int)), (17, Qb x3), (8, (pt b1 0)), (9, (pt b2 0))])
   have hw := hw.cL [k9 b2 x5.f0 x5.f1 x5.f2 x5.f3 x5.f4 x5.f5 p4 x5.f6 c4, k9 b1 x4.f0 x4.f1 x4.f2 x4.f3 x4.f4 x4.f5 p3 x4.f6 c3, F]
   refine Qc (Qd (Qa (pu hs 1 fun a hs => ?_)))
   refine Qj hs (hw.at_ 1 rfl) 0 fun a hs => Qj hs (hw.at_ 0 rfl) 0 fun a hs => ?_
   obtain ⟨y2, h12, hx1⟩ := bindE hx1
   refine Qv hs (Qhc h12 h9 h11 ((hw.pk [2]).pack 0)) fun a w v hv hs => ?_
   obtain ⟨rfl, hw⟩ := hv
   have hw := hw.unpack 0 rfl
   refine pn hs 1 [(1, .slice p2 x2.length c2), (2, .func (.func 93) #[] #[]), (15, .slice p1 x1.length c1), (16, Qb (x1.length : Int)), (17, Qb x3), (30, .bool (!y2))] fun a hs => ?_
   refine Qc ?_
   rcases ifbE hx1 with ⟨h13, hx1⟩ | ⟨h13, hx1⟩
   ·refine Qr hs h13 ?_
    refine Qd (Qa (pn hs 1 [(6, .bool false)] fun a hs => ?_))
    refine Qc (Qi ?_)
    obtain rfl := someE hx1
    obtain rfl := someE hk
    exact qr1 hQ hs ⟨rfl, hw.pk [0]⟩
   refine Qs hs h13 ?_
   refine Qg (Qa (pu hs 2 fun a hs => ?_))
   refine Qc ?_
   exact (hI1 _ _ _).2 ⟨(IntKind.i64.wrap (x3 + 1)), hx1, hs.cst, hw.pk [0]⟩
  refine Qs hs h7 (Qa3 ?_)
  obtain rfl := someE hx1
  exact (hJ1 _ _).2 ⟨hk, hs.cst, hw.pk [0]⟩
 intro a w hh
 obtain ⟨hk, hs, hw⟩ := (hJ1 _ _).1 hh
 refine Qd (Qa (pn hs 1 [(6, .bool true)] fun a hs => ?_))
 refine Qc (Qi ?_)
 obtain rfl := someE hk
 exact qr1 hQ hs ⟨rfl, hw.pk [0]⟩
def QfA (x1 : Bool) : Option Bool :=
 some x1
def Qfz (k : Nat) (x1 x2 : M48) (x3 : Bool) : Option Bool :=
 if x3 = true then some false
 else ((Q3 k x1.f15 x2.f15).bind fun y1 =>
  if y1 = true then (
   (Qm k x1.f16 x2.f16).bind fun y2 =>
   if y2 = true then (
    (Qfd x1.f17 x2.f17).bind fun y3 =>
    some y3)
   else some false)
  else some false : Option Bool).bind fun s1 => QfA s1
def Qf3 (k : Nat) (x1 x2 : M48) : Option Bool :=
 if ((x1.f0 != x2.f0) || ((x1.f1 != x2.f1) || ((x1.f2 != x2.f2) || ((x1.f3 != x2.f3) || ((x1.f10 != x2.f10) || ((x1.f11 != x2.f11) || (x1.f12 != x2.f12))))))) = true then some false
 else if ((x1.f4 != x2.f4) || ((x1.f5 != x2.f5) || ((x1.f6 != x2.f6) || ((x1.f7 != x2.f7) || ((x1.f8 != x2.f8) || (x1.f9 != x2.f9)))))) = true then some false
 else (if (!((x1.f13.f0 == x2.f13.f0) && ((x1.f13.f1 == x2.f13.f1) && ((x1.f13.f2 == x2.f13.f2) && ((x1.f13.f3 == x2.f13.f3) && true))))) = true then some true
  else (Qhu k x1.f14 x2.f14).bind fun y1 =>
  some (!y1) : Option Bool).bind fun s1 => Qfz k x1 x2 s1
theorem Qjl {k : Nat} {x1 x2 : M48} {c1 c2 c3 c4 c5 c6 c7 c8 : Nat} {p1 p2 p3 p4 p5 p6 p7 p8 : Option Addr} {r : Bool} (hk : Qf3 k x1 x2 = some r) {g w : World} {F : Ch} {ih : IH} (h1 : RSl e3 ih [] p1 c1 x1.f14.f2) (h2 : RSl Qcf ih [] p2 c2 x1.f15) (h3 : RSl e96 ih [] p3 c3 x1.f16) (h4 : RSl e5 ih [] p4 c4 x1.f17) (h5 : RSl e3 ih [] p5 c5 x2.f14.f2) (h6 : RSl Qcf ih [] p6 c6 x2.f15) (h7 : RSl e96 ih [] p7 c7 x2.f16) (h8 : RSl e5 ih [] p8 c8 x2.f17) (hw : St g w [F] ih) :
  CallsR Tryz.prog 59 #[A48 x1 p1 c1 p2 c2 p3 c3 p4 c4, A48 x2 p5 c5 p6 c6 p7 c7 p8 c8] w fun v w' => v = .bool r ∧ St g w' [F] ih := by
 refine f_i Tryz.func59 rfl 127 rfl fun a Qf hQ hQn hs => ?_
 refine Qd (Qa (QC hs hw [Qb x1.f0, Qb x1.f1, Qb x1.f2, Qb x1.f3, Qe x1.f4, Qe x1.f5, Qe x1.f6, Qe x1.f7, Qe x1.f8, Qe x1.f9, Qb x1.f10, Qk x1.f11, Qb x1.f12, Qb x1.f13.f0, Qb x1.f13.f1, Qe x1.f13.f2, Qb x1.f13.f3, Qb x1.f14.f0, Qe x1.f14.f1, .slice p1 x1.f14.f2.length c1, .bool x1.f14.f3, Qb x1.f14.f4, .slice p2 x1.f15.length c2, .slice p3 x1.f16.length c3, .slice p4 x1.f17.length c4] 48 (fun b => (pt b 0)) (by kernel_rfl) (fun _ => by kernel_rfl) fun a w b1 hs hw => ?_))
 refine QaN hs hw [Qb x2.f0, Qb x2.f1, Qb x2.f2, Qb x2.f3, Qe x2.f4, Qe x2.f5, Qe x2.f6, Qe x2.f7, Qe x2.f8, Qe x2.f9, Qb x2.f10, Qk x2.f11, Qb x2.f12, Qb x2.f13.f0, Qb x2.f13.f1, Qe x2.f13.f2, Qb x2.f13.f3, Qb x2.f14.f0, Qe x2.f14.f1, .slice p5 x2.f14.f2.length c5, .bool x2.f14.f3, Qb x2.f14.f4, .slice p6 x2.f15.length c6, .slice p7 x2.f16.length c7, .slice p8 x2.f17.length c8] 48 (fun b => (pt b 0)) fun a w b2 hs hw => ?_
 refine pn hs 1 [(2, (pt b1 0)), (3, (pt b2 0))] fun a hs => Qc (Qd (Ql (Qd ?_)))
 obtain ⟨J1, hJ1⟩ := mkJ fun a w => Sees a 127 [(2, (pt b1 0)), (3, (pt b2 0)), (5, .bool ((x1.f0 != x2.f0) || ((x1.f1 != x2.f1) || ((x1.f2 != x2.f2) || ((x1.f3 != x2.f3) || ((x1.f10 != x2.f10) || ((x1.f11 != x2.f11) || (x1.f12 != x2.f12))))))))] ∧ St g w [k10 b2 x2.f0 x2.f1 x2.f2 x2.f3 x2.f4 x2.f5 x2.f6 x2.f7 x2.f8 x2.f9 x2.f10 x2.f11 x2.f12 x2.f13.f0 x2.f13.f1 x2.f13.f2 x2.f13.f3 x2.f14.f0 x2.f14.f1 p5 x2.f14.f2 c5 x2.f14.f3 x2.f14.f4 p6 x2.f15 c6 p7 x2.f16 c7 p8 x2.f17 c8, k10 b1 x1.f0 x1.f1 x1.f2 x1.f3 x1.f4 x1.f5 x1.f6 x1.f7 x1.f8 x1.f9 x1.f10 x1.f11 x1.f12 x1.f13.f0 x1.f13.f1 x1.f13.f2 x1.f13.f3 x1.f14.f0 x1.f14.f1 p1 x1.f14.f2 c1 x1.f14.f3 x1.f14.f4 p2 x1.f15 c2 p3 x1.f16 c3 p4 x1.f17 c4, F] ih
 refine Qn J1 ?_ ?_
 ·refine pu hs 1 fun a hs => Qj hs (hw.at_ 1 rfl) 0 fun a hs => pu hs 1 fun a hs => Qj hs (hw.at_ 0 rfl) 0 fun a hs => pu hs 2 fun a hs => ?_
  rcases boolE (x1.f0 != x2.f0) with h9 | h9
  ·have hs := hs.aB 11 h9
   refine pn hs 42 [(2, (pt b1 0)), (3, (pt b2 0)), (5, .bool true)] fun a hs => Qc ?_
   exact (hJ1 _ _).2 ⟨(hs.bB 5 h9 true ((x1.f0 != x2.f0) || ((x1.f1 != x2.f1) || ((x1.f2 != x2.f2) || ((x1.f3 != x2.f3) || ((x1.f10 != x2.f10) || ((x1.f11 != x2.f11) || (x1.f12 != x2.f12)))))))).cst, hw.pk [0, 1, 2]⟩
  have hs := hs.aB 11 h9
  refine pn hs 1 [(2, (pt b1 0)), (3, (pt b2 0)), (11, .bool false), (12, (pt b1 1))] fun a hs => Qj hs (hw.at_ 1 rfl) 1 fun a hs => pu hs 1 fun a hs => Qj hs (hw.at_ 0 rfl) 1 fun a hs => ?_
  refine pu hs 3 fun a hs => ?_
  rcases boolE (x1.f1 != x2.f1) with h10 | h10
  ·have hs := hs.aB 18 h10
   refine pu hs 35 fun a hs => Qc ?_
   exact (hJ1 _ _).2 ⟨(hs.altB (b := true) 5 ((x1.f0 != x2.f0) || ((x1.f1 != x2.f1) || ((x1.f2 != x2.f2) || ((x1.f3 != x2.f3) || ((x1.f10 != x2.f10) || ((x1.f11 != x2.f11) || (x1.f12 != x2.f12))))))) (by kernel_rfl) (by first | (rw [h9, h10] <;> rfl) | (revert h9 h10; simp +contextual))).cast [2, 3, 5] (by kernel_rfl), hw.pk [0, 1, 2]⟩
  have hs := hs.aB 18 h10
  refine pu hs 1 fun a hs => Qj hs (hw.at_ 1 rfl) 2 fun a hs => pn hs 1 [(2, (pt b1 0)), (3, (pt b2 0)), (18, .bool false), (20, Qb x1.f2), (21, (pt b2 2))] fun a hs => ?_
  refine Qj hs (hw.at_ 0 rfl) 2 fun a hs => pu hs 3 fun a hs => ?_
  rcases boolE (x1.f2 != x2.f2) with h11 | h11
  ·have hs := hs.aB 25 h11
   refine pu hs 28 fun a hs => Qc ?_
   exact (hJ1 _ _).2 ⟨(hs.altB (b := true) 5 ((x1.f0 != x2.f0) || ((x1.f1 != x2.f1) || ((x1.f2 != x2.f2) || ((x1.f3 != x2.f3) || ((x1.f10 != x2.f10) || ((x1.f11 != x2.f11) || (x1.f12 != x2.f12))))))) (by kernel_rfl) (by first | (rw [h9, h10, h11] <;> rfl) | (revert h9 h10 h11; simp +contextual))).cast [2, 3, 5] (by kernel_rfl), hw.pk [0, 1, 2]⟩
  have hs := hs.aB 25 h11
  refine pu hs 1 fun a hs => Qj hs (hw.at_ 1 rfl) 3 fun a hs => pu hs 1 fun a hs => Qj hs (hw.at_ 0 rfl) 3 fun a hs => pn hs 3 [(2, (pt b1 0)), (3, (pt b2 0)), (32, .bool (x1.f3 != x2.f3))] fun a hs => ?_
  rcases boolE (x1.f3 != x2.f3) with h12 | h12
  ·have hs := hs.aB 32 h12
   refine pu hs 21 fun a hs => Qc ?_
   exact (hJ1 _ _).2 ⟨(hs.altB (b := true) 5 ((x1.f0 != x2.f0) || ((x1.f1 != x2.f1) || ((x1.f2 != x2.f2) || ((x1.f3 != x2.f3) || ((x1.f10 != x2.f10) || ((x1.f11 != x2.f11) || (x1.f12 != x2.f12))))))) (by kernel_rfl) (by first | (rw [h9, h10, h11, h12] <;> rfl) | (revert h9 h10 h11 h12; simp +contextual))).cast [2, 3, 5] (by kernel_rfl), hw.pk [0, 1, 2]⟩
  have hs := hs.aB 32 h12
  refine pu hs 1 fun a hs => Qj hs (hw.at_ 1 rfl) 10 fun a hs => pu hs 1 fun a hs => Qj hs (hw.at_ 0 rfl) 10 fun a hs => pu hs 3 fun a hs => ?_
  rcases boolE (x1.f10 != x2.f10) with h13 | h13
  ·have hs := hs.aB 39 h13
   refine pn hs 14 [(2, (pt b1 0)), (3, (pt b2 0)), (5, .bool true)] fun a hs => Qc ?_
   exact (hJ1 _ _).2 ⟨(hs.altB (b := true) 5 ((x1.f0 != x2.f0) || ((x1.f1 != x2.f1) || ((x1.f2 != x2.f2) || ((x1.f3 != x2.f3) || ((x1.f10 != x2.f10) || ((x1.f11 != x2.f11) || (x1.f12 != x2.f12))))))) (by kernel_rfl) (by first | (rw [h9, h10, h11, h12, h13] <;> rfl) | (revert h9 h10 h11 h12 h13; simp +contextual))).cast [2, 3, 5] (by kernel_rfl), hw.pk [0, 1, 2]⟩
  have hs := hs.aB 39 h13
  refine pn hs 1 [(2, (pt b1 0)), (3, (pt b2 0)), (39, .bool false), (40, (pt b1 11))] fun a hs => Qj hs (hw.at_ 1 rfl) 11 fun a hs => pu hs 1 fun a hs => Qj hs (hw.at_ 0 rfl) 11 fun a hs => ?_
  refine pu hs 3 fun a hs => ?_
  rcases boolE (x1.f11 != x2.f11) with h14 | h14
  ·have hs := hs.aB 46 h14
   refine pu hs 7 fun a hs => Qc ?_
   exact (hJ1 _ _).2 ⟨(hs.altB (b := true) 5 ((x1.f0 != x2.f0) || ((x1.f1 != x2.f1) || ((x1.f2 != x2.f2) || ((x1.f3 != x2.f3) || ((x1.f10 != x2.f10) || ((x1.f11 != x2.f11) || (x1.f12 != x2.f12))))))) (by kernel_rfl) (by first | (rw [h9, h10, h11, h12, h13, h14] <;> rfl) | (revert h9 h10 h11 h12 h13 h14; simp +contextual))).cast [2, 3, 5] (by kernel_rfl), hw.pk [0, 1, 2]⟩
  have hs := hs.aB 46 h14
  refine pu hs 1 fun a hs => Qj hs (hw.at_ 1 rfl) 12 fun a hs => pn hs 1 [(2, (pt b1 0)), (3, (pt b2 0)), (46, .bool false), (48, Qb x1.f12), (49, (pt b2 12))] fun a hs => ?_
  refine Qj hs (hw.at_ 0 rfl) 12 fun a hs => pu hs 3 fun a hs => Qc ?_
  exact (hJ1 _ _).2 ⟨(hs.altB (b := (x1.f12 != x2.f12)) 5 ((x1.f0 != x2.f0) || ((x1.f1 != x2.f1) || ((x1.f2 != x2.f2) || ((x1.f3 != x2.f3) || ((x1.f10 != x2.f10) || ((x1.f11 != x2.f11) || (x1.f12 != x2.f12))))))) (by kernel_rfl) (by first | (rw [h9, h10, h11, h12, h13, h14] <;> rfl) | (revert h9 h10 h11 h12 h13 h14; simp +contextual))).cast [2, 3, 5] (by kernel_rfl), hw.pk [0, 1, 2]⟩
 intro a w hh
 obtain ⟨hs, hw⟩ := (hJ1 _ _).1 hh
 rcases ifbE hk with ⟨h15, hk⟩ | ⟨h15, hk⟩
 ·refine Qr hs h15 ?_
  refine Qd (Qa (pn hs 1 [(4, .bool false)] fun a hs => ?_))
  refine Qc (Qi ?_)
  obtain rfl := someE hk
  exact qr1 hQ hs ⟨rfl, hw.pk [2]⟩
 refine Qs hs h15 (Qd ?_)
 obtain ⟨J2, hJ2⟩ := mkJ fun a w => Sees a 127 [(2, (pt b1 0)), (3, (pt b2 0)), (53, .bool ((x1.f4 != x2.f4) || ((x1.f5 != x2.f5) || ((x1.f6 != x2.f6) || ((x1.f7 != x2.f7) || ((x1.f8 != x2.f8) || (x1.f9 != x2.f9)))))))] ∧ St g w [k10 b2 x2.f0 x2.f1 x2.f2 x2.f3 x2.f4 x2.f5 x2.f6 x2.f7 x2.f8 x2.f9 x2.f10 x2.f11 x2.f12 x2.f13.f0 x2.f13.f1 x2.f13.f2 x2.f13.f3 x2.f14.f0 x2.f14.f1 p5 x2.f14.f2 c5 x2.f14.f3 x2.f14.f4 p6 x2.f15 c6 p7 x2.f16 c7 p8 x2.f17 c8, k10 b1 x1.f0 x1.f1 x1.f2 x1.f3 x1.f4 x1.f5 x1.f6 x1.f7 x1.f8 x1.f9 x1.f10 x1.f11 x1.f12 x1.f13.f0 x1.f13.f1 x1.f13.f2 x1.f13.f3 x1.f14.f0 x1.f14.f1 p1 x1.f14.f2 c1 x1.f14.f3 x1.f14.f4 p2 x1.f15 c2 p3 x1.f16 c3 p4 x1.f17 c4, F] ih
 refine Qn J2 ?_ ?_
 ·refine pu hs 1 fun a hs => Qj hs (hw.at_ 1 rfl) 4 fun a hs => pu hs 1 fun a hs => Qj hs (hw.at_ 0 rfl) 4 fun a hs => pu hs 2 fun a hs => ?_
  rcases boolE (x1.f4 != x2.f4) with h16 | h16
  ·have hs := hs.aB 59 h16
   refine pn hs 35 [(2, (pt b1 0)), (3, (pt b2 0)), (53, .bool true)] fun a hs => Qc ?_
   exact (hJ2 _ _).2 ⟨(hs.bB 53 h16 true ((x1.f4 != x2.f4) || ((x1.f5 != x2.f5) || ((x1.f6 != x2.f6) || ((x1.f7 != x2.f7) || ((x1.f8 != x2.f8) || (x1.f9 != x2.f9))))))).cst, hw.pk [0, 1, 2]⟩
  have hs := hs.aB 59 h16
  refine pn hs 1 [(2, (pt b1 0)), (3, (pt b2 0)), (59, .bool false), (60, (pt b1 5))] fun a hs => Qj hs (hw.at_ 1 rfl) 5 fun a hs => pu hs 1 fun a hs => Qj hs (hw.at_ 0 rfl) 5 fun a hs => ?_
  refine pu hs 3 fun a hs => ?_
  rcases boolE (x1.f5 != x2.f5) with h17 | h17
  ·have hs := hs.aB 66 h17
   refine pu hs 28 fun a hs => Qc ?_
   exact (hJ2 _ _).2 ⟨(hs.altB (b := true) 53 ((x1.f4 != x2.f4) || ((x1.f5 != x2.f5) || ((x1.f6 != x2.f6) || ((x1.f7 != x2.f7) || ((x1.f8 != x2.f8) || (x1.f9 != x2.f9)))))) (by kernel_rfl) (by first | (rw [h16, h17] <;> rfl) | (revert h16 h17; simp +contextual))).cast [2, 3, 53] (by kernel_rfl), hw.pk [0, 1, 2]⟩
  have hs := hs.aB 66 h17
  refine pu hs 1 fun a hs => Qj hs (hw.at_ 1 rfl) 6 fun a hs => pn hs 1 [(2, (pt b1 0)), (3, (pt b2 0)), (66, .bool false), (68, Qe x1.f6), (69, (pt b2 6))] fun a hs => ?_
  refine Qj hs (hw.at_ 0 rfl) 6 fun a hs => pu hs 3 fun a hs => ?_
  rcases boolE (x1.f6 != x2.f6) with h18 | h18
  ·have hs := hs.aB 73 h18
   refine pu hs 21 fun a hs => Qc ?_
   exact (hJ2 _ _).2 ⟨(hs.altB (b := true) 53 ((x1.f4 != x2.f4) || ((x1.f5 != x2.f5) || ((x1.f6 != x2.f6) || ((x1.f7 != x2.f7) || ((x1.f8 != x2.f8) || (x1.f9 != x2.f9)))))) (by kernel_rfl) (by first | (rw [h16, h17, h18] <;> rfl) | (revert h16 h17 h18; simp +contextual))).cast [2, 3, 53] (by kernel_rfl), hw.pk [0, 1, 2]⟩
  have hs := hs.aB 73 h18
  refine pu hs 1 fun a hs => Qj hs (hw.at_ 1 rfl) 7 fun a hs => pu hs 1 fun a hs => Qj hs (hw.at_ 0 rfl) 7 fun a hs => pn hs 3 [(2, (pt b1 0)), (3, (pt b2 0)), (80, .bool (x1.f7 != x2.f7))] fun a hs => ?_
  rcases boolE (x1.f7 != x2.f7) with h19 | h19
  ·have hs := hs.aB 80 h19
   refine pu hs 14 fun a hs => Qc ?_
   exact (hJ2 _ _).2 ⟨(hs.altB (b := true) 53 ((x1.f4 != x2.f4) || ((x1.f5 != x2.f5) || ((x1.f6 != x2.f6) || ((x1.f7 != x2.f7) || ((x1.f8 != x2.f8) || (x1.f9 != x2.f9)))))) (by kernel_rfl) (by first | (rw [h16, h17, h18, h19] <;> rfl) | (revert h16 h17 h18 h19; simp +contextual))).cast [2, 3, 53] (by kernel_rfl), hw.pk [0, 1, 2]⟩
  have hs := hs.aB 80 h19
  refine pu hs 1 fun a hs => Qj hs (hw.at_ 1 rfl) 8 fun a hs => pu hs 1 fun a hs => Qj hs (hw.at_ 0 rfl) 8 fun a hs => pu hs 3 fun a hs => ?_
  rcases boolE (x1.f8 != x2.f8) with h20 | h20
  ·have hs := hs.aB 87 h20
   refine pn hs 7 [(2, (pt b1 0)), (3, (pt b2 0)), (53, .bool true)] fun a hs => Qc ?_
   exact (hJ2 _ _).2 ⟨(hs.altB (b := true) 53 ((x1.f4 != x2.f4) || ((x1.f5 != x2.f5) || ((x1.f6 != x2.f6) || ((x1.f7 != x2.f7) || ((x1.f8 != x2.f8) || (x1.f9 != x2.f9)))))) (by kernel_rfl) (by first | (rw [h16, h17, h18, h19, h20] <;> rfl) | (revert h16 h17 h18 h19 h20; simp +contextual))).cast [2, 3, 53] (by kernel_rfl), hw.pk [0, 1, 2]⟩
  have hs := hs.aB 87 h20
  refine pn hs 1 [(2, (pt b1 0)), (3, (pt b2 0)), (87, .bool false), (88, (pt b1 9))] fun a hs => Qj hs (hw.at_ 1 rfl) 9 fun a hs => pu hs 1 fun a hs => Qj hs (hw.at_ 0 rfl) 9 fun a hs => ?_
  refine pu hs 3 fun a hs => Qc ?_
  exact (hJ2 _ _).2 ⟨(hs.altB (b := (x1.f9 != x2.f9)) 53 ((x1.f4 != x2.f4) || ((x1.f5 != x2.f5) || ((x1.f6 != x2.f6) || ((x1.f7 != x2.f7) || ((x1.f8 != x2.f8) || (x1.f9 != x2.f9)))))) (by kernel_rfl) (by first | (rw [h16, h17, h18, h19, h20] <;> rfl) | (revert h16 h17 h18 h19 h20; simp +contextual))).cast [2, 3, 53] (by kernel_rfl), hw.pk [0, 1, 2]⟩
 intro a w hh
 obtain ⟨hs, hw⟩ := (hJ2 _ _).1 hh
 rcases ifbE hk with ⟨h21, hk⟩ | ⟨h21, hk⟩
 ·refine Qr hs h21 ?_
  refine Qd (Qa (pn hs 1 [(4, .bool false)] fun a hs => ?_))
  refine Qc (Qi ?_)
  obtain rfl := someE hk
  exact qr1 hQ hs ⟨rfl, hw.pk [2]⟩
 refine Qs hs h21 (Qd ?_)
 obtain ⟨y1, hx1, hk⟩ := bindE hk
 obtain ⟨J3, hJ3⟩ := mkJ fun a w => ∃ (x3 : Bool), Qfz k x1 x2 x3 = some r ∧ Sees a 127 [(2, (pt b1 0)), (3, (pt b2 0)), (94, .bool x3)] ∧ St g w [k10 b2 x2.f0 x2.f1 x2.f2 x2.f3 x2.f4 x2.f5 x2.f6 x2.f7 x2.f8 x2.f9 x2.f10 x2.f11 x2.f12 x2.f13.f0 x2.f13.f1 x2.f13.f2 x2.f13.f3 x2.f14.f0 x2.f14.f1 p5 x2.f14.f2 c5 x2.f14.f3 x2.f14.f4 p6 x2.f15 c6 p7 x2.f16 c7 p8 x2.f17 c8, k10 b1 x1.f0 x1.f1 x1.f2 x1.f3 x1.f4 x1.f5 x1.f6 x1.f7 x1.f8 x1.f9 x1.f10 x1.f11 x1.f12 x1.f13.f0 x1.f13.f1 x1.f13.f2 x1.f13.f3 x1.f14.f0 x1.f14.f1 p1 x1.f14.f2 c1 x1.f14.f3 x1.f14.f4 p2 x1.f15 c2 p3 x1.f16 c3 p4 x1.f17 c4, F] ih
 refine Qn J3 ?_ ?_
 ·refine pu hs 1 fun a hs => Qj hs (hw.at_ 1 rfl) 13 fun a hs => pu hs 1 fun a hs => Qj hs (hw.at_ 0 rfl) 13 fun a hs => Qm8 hs (c1 := [Qb x1.f13.f0, Qb x1.f13.f1, Qe x1.f13.f2, Qb x1.f13.f3]) (c2 := [Qb x2.f13.f0, Qb x2.f13.f1, Qe x2.f13.f2, Qb x2.f13.f3]) ((x1.f13.f0 == x2.f13.f0) && ((x1.f13.f1 == x2.f13.f1) && ((x1.f13.f2 == x2.f13.f2) && ((x1.f13.f3 == x2.f13.f3) && true)))) (by kernel_rfl) (by kernel_rfl) (by kernel_rfl) (by kernel_rfl) (by kernel_rfl) fun a hs => ?_
  refine pu hs 1 fun a hs => ?_
  rcases ifbE hx1 with ⟨h22, hx1⟩ | ⟨h22, hx1⟩
  ·have hs := hs.aB 100 h22
   refine pn hs 8 [(2, (pt b1 0)), (3, (pt b2 0)), (94, .bool true)] fun a hs => Qc ?_
   obtain rfl := someE hx1
   exact (hJ3 _ _).2 ⟨true, hk, hs.cst, hw.pk [0, 1, 2]⟩
  have hs := hs.aB 100 h22
  refine pn hs 1 [(2, (pt b1 0)), (3, (pt b2 0)), (100, .bool false), (101, (pt b1 17))] fun a hs => Qj hs (hw.at_ 1 rfl) 17 fun a hs => pu hs 1 fun a hs => Qj hs (hw.at_ 0 rfl) 17 fun a hs => ?_
  obtain ⟨y2, h23, hx1⟩ := bindE hx1
  refine Qv hs (Qj3 h23 h1 h5 ((hw.pk [0, 1, 2]).pack 0)) fun a w v hv hs => ?_
  obtain ⟨rfl, hw⟩ := hv
  have hw := hw.unpack 0 rfl
  refine pu hs 3 fun a hs => Qc ?_
  obtain rfl := someE hx1
  exact (hJ3 _ _).2 ⟨(!y2), hk, hs.cst, hw.pk [0, 1, 2]⟩
 intro a w hh
 obtain ⟨x3, hk, hs, hw⟩ := (hJ3 _ _).1 hh
 rcases ifbE hk with ⟨h24, hk⟩ | ⟨h24, hk⟩
 ·refine Qr hs h24 ?_
  refine Qd (Qa (pn hs 1 [(4, .bool false)] fun a hs => ?_))
  refine Qc (Qi ?_)
  obtain rfl := someE hk
  exact qr1 hQ hs ⟨rfl, hw.pk [2]⟩
 refine Qs hs h24 ?_
 refine Qg (Qd ?_)
 obtain ⟨y3, hx2, hk⟩ := bindE hk
 obtain ⟨J4, hJ4⟩ := mkJ fun a w => ∃ (x4 : Bool), QfA x4 = some r ∧ Sees a 127 [(4, .bool x4)] ∧ St g w [F] ih
 refine Qn J4 ?_ ?_
 ·refine pu hs 1 fun a hs => Qj hs (hw.at_ 1 rfl) 22 fun a hs => pu hs 1 fun a hs => Qj hs (hw.at_ 0 rfl) 22 fun a hs => ?_
  obtain ⟨y4, h25, hx2⟩ := bindE hx2
  refine Qv hs (QdT h25 h2 (nilSub _) h6 (nilSub _) ((hw.pk [0, 1, 2]).pack 0)) fun a w v hv hs => ?_
  obtain ⟨rfl, hw⟩ := hv
  have hw := hw.unpack 0 rfl
  refine pu hs 1 fun a hs => ?_
  rcases ifbE hx2 with ⟨h26, hx2⟩ | ⟨h26, hx2⟩
  ·have hs := hs.aB 113 h26
   refine pn hs 1 [(2, (pt b1 0)), (3, (pt b2 0)), (113, .bool true), (114, (pt b1 23))] fun a hs => Qj hs (hw.at_ 1 rfl) 23 fun a hs => pu hs 1 fun a hs => Qj hs (hw.at_ 0 rfl) 23 fun a hs => ?_
   obtain ⟨y5, h27, hx2⟩ := bindE hx2
   refine Qv hs (Qag h27 h3 (nilSub _) h7 (nilSub _) ((hw.pk [0, 1, 2]).pack 0)) fun a w v hv hs => ?_
   obtain ⟨rfl, hw⟩ := hv
   have hw := hw.unpack 0 rfl
   refine pu hs 2 fun a hs => ?_
   rcases ifbE hx2 with ⟨h28, hx2⟩ | ⟨h28, hx2⟩
   ·have hs := hs.aB 120 h28
    refine pu hs 1 fun a hs => Qj hs (hw.at_ 1 rfl) 24 fun a hs => pn hs 1 [(120, .bool true), (122, .slice p4 x1.f17.length c4), (123, (pt b2 24))] fun a hs => Qj hs (hw.at_ 0 rfl) 24 fun a hs => ?_
    have hw := hw.cL [k10 b2 x2.f0 x2.f1 x2.f2 x2.f3 x2.f4 x2.f5 x2.f6 x2.f7 x2.f8 x2.f9 x2.f10 x2.f11 x2.f12 x2.f13.f0 x2.f13.f1 x2.f13.f2 x2.f13.f3 x2.f14.f0 x2.f14.f1 p5 x2.f14.f2 c5 x2.f14.f3 x2.f14.f4 p6 x2.f15 c6 p7 x2.f16 c7 p8 x2.f17 c8, k10 b1 x1.f0 x1.f1 x1.f2 x1.f3 x1.f4 x1.f5 x1.f6 x1.f7 x1.f8 x1.f9 x1.f10 x1.f11 x1.f12 x1.f13.f0 x1.f13.f1 x1.f13.f2 x1.f13.f3 x1.f14.f0 x1.f14.f1 p1 x1.f14.f2 c1 x1.f14.f3 x1.f14.f4 p2 x1.f15 c2 p3 x1.f16 c3 p4 x1.f17 c4, F]
    obtain ⟨y6, h29, hx2⟩ := bindE hx2
    refine Qv hs (Qhx h29 h4 (nilSub _) h8 (nilSub _) ((hw.pk [2]).pack 0)) fun a w v hv hs => ?_
    obtain ⟨rfl, hw⟩ := hv
    have hw := hw.unpack 0 rfl
    refine pu hs 2 fun a hs => Qc ?_
    obtain rfl := someE hx2
    exact (hJ4 _ _).2 ⟨y6, hk, hs.cst, hw.pk [0]⟩
   have hs := hs.aB 120 h28
   refine pu hs 7 fun a hs => ?_
   have hw := hw.cL [k10 b2 x2.f0 x2.f1 x2.f2 x2.f3 x2.f4 x2.f5 x2.f6 x2.f7 x2.f8 x2.f9 x2.f10 x2.f11 x2.f12 x2.f13.f0 x2.f13.f1 x2.f13.f2 x2.f13.f3 x2.f14.f0 x2.f14.f1 p5 x2.f14.f2 c5 x2.f14.f3 x2.f14.f4 p6 x2.f15 c6 p7 x2.f16 c7 p8 x2.f17 c8, k10 b1 x1.f0 x1.f1 x1.f2 x1.f3 x1.f4 x1.f5 x1.f6 x1.f7 x1.f8 x1.f9 x1.f10 x1.f11 x1.f12 x1.f13.f0 x1.f13.f1 x1.f13.f2 x1.f13.f3 x1.f14.f0 x1.f14.f1 p1 x1.f14.f2 c1 x1.f14.f3 x1.f14.f4 p2 x1.f15 c2 p3 x1.f16 c3 p4 x1.f17 c4, F]
   refine Qc ?_
   obtain rfl := someE hx2
   exact (hJ4 _ _).2 ⟨false, hk, hs.cst, hw.pk [2]⟩
  have hs := hs.aB 113 h26
  refine pn hs 14 [(4, .bool false)] fun a hs => Qc ?_
  obtain rfl := someE hx2
  exact (hJ4 _ _).2 ⟨false, hk, hs.cst, hw.pk [2]⟩
 intro a w hh
 obtain ⟨x4, hk, hs, hw⟩ := (hJ4 _ _).1 hh
 refine Qi ?_
 obtain rfl := someE hk
 exact qr1 hQ hs ⟨rfl, hw.pk [0]⟩
def QhN : Option Unit :=
 some ()
theorem QiT {r : Unit} (hk : QhN = some r) {g w : World} {F : Ch} {ih : IH} (hw : St g w [F] ih) :
  CallsR Tryz.prog 129 #[Qb 1, .func (.func 130) #[] #[], .func (.func 131) #[] #[]] w fun v w' => ∃ (b1 b2 : Nat), v = .agg #[.func (.func 130) #[] #[], .func (.func 152) #[] #[(pt b1 0), (pt b2 0)], .func (.func 154) #[] #[(pt b2 0), (pt b1 0)]] ∧ St g w' [bx b1 [.func (.func 131) #[] #[]] 181, bx b2 [Qb 1] 3, F] ih := by
 refine f_i Tryz.func129 rfl 11 rfl fun a Qf hQ hQn hs => ?_
 refine Qd (Qa (QC hs hw [Qb 1] 3 (fun b => (pt b 0)) (by kernel_rfl) (fun _ => by kernel_rfl) fun a w b3 hs hw => ?_))
 refine QaN hs hw [.func (.func 131) #[] #[]] 181 (fun b => (pt b 0)) fun a w b4 hs hw => ?_
 refine QaN hs hw [.nilFunc, .nilFunc, .nilFunc] 134 (fun b => (pt b 0)) fun a w b5 hs hw => ?_
 have hs := hs.cst (e' := [(1, .func (.func 130) #[] #[]), (3, (pt b3 0)), (5, (pt b4 0)), (6, (pt b5 0))])
 refine Qc (Qd (Qa (pu hs 4 fun a hs => ?_)))
 refine QE hs hw 0 rfl 0 (v := .agg #[.func (.func 130) #[] #[], .func (.func 152) #[] #[(pt b4 0), (pt b3 0)], .func (.func 154) #[] #[(pt b3 0), (pt b4 0)]]) fun a w hs hw => ?_
 have hs := hs.cst (e' := [(6, (pt b5 0))])
 have hw := hw.cL [k28 b5 b4 b3 b3 b4, bx b4 [.func (.func 131) #[] #[]] 181, bx b3 [Qb 1] 3, F]
 refine Qc (Qi ?_)
 obtain rfl := someE hk
 refine hQ _ _ (QaU hs rfl (hw.at_ 0 rfl) (by kernel_rfl) (v := .agg #[.func (.func 130) #[] #[], .func (.func 152) #[] #[(pt b4 0), (pt b3 0)], .func (.func 154) #[] #[(pt b3 0), (pt b4 0)]]) (by kernel_rfl) ⟨b4, b3, rfl, hw.pk [1, 2, 3]⟩)
def Qg8 : Option Unit :=
 some ()
theorem QhV {r : Unit} (hk : Qg8 = some r) {g w : World} {F : Ch} {ih : IH} (hw : St g w [F] ih) :
  CallsR Tryz.prog 129 #[Qb 2, .func (.func 132) #[] #[], .func (.func 133) #[] #[]] w fun v w' => ∃ (b1 b2 : Nat), v = .agg #[.func (.func 132) #[] #[], .func (.func 152) #[] #[(pt b1 0), (pt b2 0)], .func (.func 154) #[] #[(pt b2 0), (pt b1 0)]] ∧ St g w' [bx b1 [.func (.func 133) #[] #[]] 181, bx b2 [Qb 2] 3, F] ih := by
 refine f_i Tryz.func129 rfl 11 rfl fun a Qf hQ hQn hs => ?_
 refine Qd (Qa (QC hs hw [Qb 2] 3 (fun b => (pt b 0)) (by kernel_rfl) (fun _ => by kernel_rfl) fun a w b3 hs hw => ?_))
 refine QaN hs hw [.func (.func 133) #[] #[]] 181 (fun b => (pt b 0)) fun a w b4 hs hw => ?_
 refine QaN hs hw [.nilFunc, .nilFunc, .nilFunc] 134 (fun b => (pt b 0)) fun a w b5 hs hw => ?_
 have hs := hs.cst (e' := [(1, .func (.func 132) #[] #[]), (3, (pt b3 0)), (5, (pt b4 0)), (6, (pt b5 0))])
 refine Qc (Qd (Qa (pu hs 4 fun a hs => ?_)))
 refine QE hs hw 0 rfl 0 (v := .agg #[.func (.func 132) #[] #[], .func (.func 152) #[] #[(pt b4 0), (pt b3 0)], .func (.func 154) #[] #[(pt b3 0), (pt b4 0)]]) fun a w hs hw => ?_
 have hs := hs.cst (e' := [(6, (pt b5 0))])
 have hw := hw.cL [k29 b5 b4 b3 b3 b4, bx b4 [.func (.func 133) #[] #[]] 181, bx b3 [Qb 2] 3, F]
 refine Qc (Qi ?_)
 obtain rfl := someE hk
 refine hQ _ _ (QaU hs rfl (hw.at_ 0 rfl) (by kernel_rfl) (v := .agg #[.func (.func 132) #[] #[], .func (.func 152) #[] #[(pt b4 0), (pt b3 0)], .func (.func 154) #[] #[(pt b3 0), (pt b4 0)]]) (by kernel_rfl) ⟨b4, b3, rfl, hw.pk [1, 2, 3]⟩)
def Qin : Option Unit :=
 some ()
theorem Qje {r : Unit} (hk : Qin = some r) {g w : World} {F : Ch} {ih : IH} (hw : St g w [F] ih) :
  CallsR Tryz.prog 134 #[.func (.func 135) #[] #[], .func (.func 136) #[] #[]] w fun v w' => ∃ (b1 : Nat), v = .agg #[.func (.func 135) #[] #[], .func (.func 156) #[] #[(pt b1 0)], .func (.func 157) #[] #[(pt b1 0)]] ∧ St g w' [bx b1 [.func (.func 136) #[] #[]] 184, F] ih := by
 refine f_i Tryz.func134 rfl 9 rfl fun a Qf hQ hQn hs => ?_
 refine Qd (Qa (QC hs hw [.func (.func 136) #[] #[]] 184 (fun b => (pt b 0)) (by kernel_rfl) (fun _ => by kernel_rfl) fun a w b2 hs hw => ?_))
 refine QaN hs hw [.nilFunc, .nilFunc, .nilFunc] 134 (fun b => (pt b 0)) fun a w b3 hs hw => ?_
 have hs := hs.cst (e' := [(0, .func (.func 135) #[] #[]), (3, (pt b2 0)), (4, (pt b3 0))])
 refine Qc (Qd (Qa (pu hs 4 fun a hs => ?_)))
 refine QE hs hw 0 rfl 0 (v := .agg #[.func (.func 135) #[] #[], .func (.func 156) #[] #[(pt b2 0)], .func (.func 157) #[] #[(pt b2 0)]]) fun a w hs hw => ?_
 have hs := hs.cst (e' := [(4, (pt b3 0))])
 refine Qc (Qi ?_)
 obtain rfl := someE hk
 refine hQ _ _ (QaU hs rfl (hw.at_ 0 rfl) (by kernel_rfl) (v := .agg #[.func (.func 135) #[] #[], .func (.func 156) #[] #[(pt b2 0)], .func (.func 157) #[] #[(pt b2 0)]]) (by kernel_rfl) ⟨b2, rfl, hw.pk [1, 2]⟩)
def Qhq : Option Unit :=
 some ()
theorem Qim {r : Unit} (hk : Qhq = some r) {g w : World} {F : Ch} {ih : IH} (hw : St g w [F] ih) :
  CallsR Tryz.prog 134 #[.func (.func 137) #[] #[], .func (.func 139) #[] #[]] w fun v w' => ∃ (b1 : Nat), v = .agg #[.func (.func 137) #[] #[], .func (.func 156) #[] #[(pt b1 0)], .func (.func 157) #[] #[(pt b1 0)]] ∧ St g w' [bx b1 [.func (.func 139) #[] #[]] 184, F] ih := by
 refine f_i Tryz.func134 rfl 9 rfl fun a Qf hQ hQn hs => ?_
 refine Qd (Qa (QC hs hw [.func (.func 139) #[] #[]] 184 (fun b => (pt b 0)) (by kernel_rfl) (fun _ => by kernel_rfl) fun a w b2 hs hw => ?_))
 refine QaN hs hw [.nilFunc, .nilFunc, .nilFunc] 134 (fun b => (pt b 0)) fun a w b3 hs hw => ?_
 have hs := hs.cst (e' := [(0, .func (.func 137) #[] #[]), (3, (pt b2 0)), (4, (pt b3 0))])
 refine Qc (Qd (Qa (pu hs 4 fun a hs => ?_)))
 refine QE hs hw 0 rfl 0 (v := .agg #[.func (.func 137) #[] #[], .func (.func 156) #[] #[(pt b2 0)], .func (.func 157) #[] #[(pt b2 0)]]) fun a w hs hw => ?_
 have hs := hs.cst (e' := [(4, (pt b3 0))])
 refine Qc (Qi ?_)
 obtain rfl := someE hk
 refine hQ _ _ (QaU hs rfl (hw.at_ 0 rfl) (by kernel_rfl) (v := .agg #[.func (.func 137) #[] #[], .func (.func 156) #[] #[(pt b2 0)], .func (.func 157) #[] #[(pt b2 0)]]) (by kernel_rfl) ⟨b2, rfl, hw.pk [1, 2]⟩)
def Qhp : Option Unit :=
 some ()
theorem Qil {r : Unit} (hk : Qhp = some r) {g w : World} {F : Ch} {ih : IH} (hw : St g w [F] ih) :
  CallsR Tryz.prog 134 #[.func (.func 140) #[] #[], .func (.func 141) #[] #[]] w fun v w' => ∃ (b1 : Nat), v = .agg #[.func (.func 140) #[] #[], .func (.func 156) #[] #[(pt b1 0)], .func (.func 157) #[] #[(pt b1 0)]] ∧ St g w' [bx b1 [.func (.func 141) #[] #[]] 184, F] ih := by
 refine f_i Tryz.func134 rfl 9 rfl fun a Qf hQ hQn hs => ?_
 refine Qd (Qa (QC hs hw [.func (.func 141) #[] #[]] 184 (fun b => (pt b 0)) (by kernel_rfl) (fun _ => by kernel_rfl) fun a w b2 hs hw => ?_))
 refine QaN hs hw [.nilFunc, .nilFunc, .nilFunc] 134 (fun b => (pt b 0)) fun a w b3 hs hw => ?_
 have hs := hs.cst (e' := [(0, .func (.func 140) #[] #[]), (3, (pt b2 0)), (4, (pt b3 0))])
 refine Qc (Qd (Qa (pu hs 4 fun a hs => ?_)))
 refine QE hs hw 0 rfl 0 (v := .agg #[.func (.func 140) #[] #[], .func (.func 156) #[] #[(pt b2 0)], .func (.func 157) #[] #[(pt b2 0)]]) fun a w hs hw => ?_
 have hs := hs.cst (e' := [(4, (pt b3 0))])
 refine Qc (Qi ?_)
 obtain rfl := someE hk
 refine hQ _ _ (QaU hs rfl (hw.at_ 0 rfl) (by kernel_rfl) (v := .agg #[.func (.func 140) #[] #[], .func (.func 156) #[] #[(pt b2 0)], .func (.func 157) #[] #[(pt b2 0)]]) (by kernel_rfl) ⟨b2, rfl, hw.pk [1, 2]⟩)
def Qho : Option Unit :=
 some ()
theorem Qik {r : Unit} (hk : Qho = some r) {g w : World} {F : Ch} {ih : IH} (hw : St g w [F] ih) :
  CallsR Tryz.prog 134 #[.func (.func 140) #[] #[], .func (.func 142) #[] #[]] w fun v w' => ∃ (b1 : Nat), v = .agg #[.func (.func 140) #[] #[], .func (.func 156) #[] #[(pt b1 0)], .func (.func 157) #[] #[(pt b1 0)]] ∧ St g w' [bx b1 [.func (.func 142) #[] #[]] 184, F] ih := by
 refine f_i Tryz.func134 rfl 9 rfl fun a Qf hQ hQn hs => ?_
 refine Qd (Qa (QC hs hw [.func (.func 142) #[] #[]] 184 (fun b => (pt b 0)) (by kernel_rfl) (fun _ => by kernel_rfl) fun a w b2 hs hw => ?_))
 refine QaN hs hw [.nilFunc, .nilFunc, .nilFunc] 134 (fun b => (pt b 0)) fun a w b3 hs hw => ?_
 have hs := hs.cst (e' := [(0, .func (.func 140) #[] #[]), (3, (pt b2 0)), (4, (pt b3 0))])
 refine Qc (Qd (Qa (pu hs 4 fun a hs => ?_)))
 refine QE hs hw 0 rfl 0 (v := .agg #[.func (.func 140) #[] #[], .func (.func 156) #[] #[(pt b2 0)], .func (.func 157) #[] #[(pt b2 0)]]) fun a w hs hw => ?_
 have hs := hs.cst (e' := [(4, (pt b3 0))])
 refine Qc (Qi ?_)
 obtain rfl := someE hk
 refine hQ _ _ (QaU hs rfl (hw.at_ 0 rfl) (by kernel_rfl) (v := .agg #[.func (.func 140) #[] #[], .func (.func 156) #[] #[(pt b2 0)], .func (.func 157) #[] #[(pt b2 0)]]) (by kernel_rfl) ⟨b2, rfl, hw.pk [1, 2]⟩)
def Qhn : Option Unit :=
 some ()
theorem Qij {r : Unit} (hk : Qhn = some r) {g w : World} {F : Ch} {ih : IH} (hw : St g w [F] ih) :
  CallsR Tryz.prog 134 #[.func (.func 140) #[] #[], .func (.func 143) #[] #[]] w fun v w' => ∃ (b1 : Nat), v = .agg #[.func (.func 140) #[] #[], .func (.func 156) #[] #[(pt b1 0)], .func (.func 157) #[] #[(pt b1 0)]] ∧ St g w' [bx b1 [.func (.func 143) #[] #[]] 184, F] ih := by
 refine f_i Tryz.func134 rfl 9 rfl fun a Qf hQ hQn hs => ?_
 refine Qd (Qa (QC hs hw [.func (.func 143) #[] #[]] 184 (fun b => (pt b 0)) (by kernel_rfl) (fun _ => by kernel_rfl) fun a w b2 hs hw => ?_))
 refine QaN hs hw [.nilFunc, .nilFunc, .nilFunc] 134 (fun b => (pt b 0)) fun a w b3 hs hw => ?_
 have hs := hs.cst (e' := [(0, .func (.func 140) #[] #[]), (3, (pt b2 0)), (4, (pt b3 0))])
 refine Qc (Qd (Qa (pu hs 4 fun a hs => ?_)))
 refine QE hs hw 0 rfl 0 (v := .agg #[.func (.func 140) #[] #[], .func (.func 156) #[] #[(pt b2 0)], .func (.func 157) #[] #[(pt b2 0)]]) fun a w hs hw => ?_
 have hs := hs.cst (e' := [(4, (pt b3 0))])
 refine Qc (Qi ?_)
 obtain rfl := someE hk
 refine hQ _ _ (QaU hs rfl (hw.at_ 0 rfl) (by kernel_rfl) (v := .agg #[.func (.func 140) #[] #[], .func (.func 156) #[] #[(pt b2 0)], .func (.func 157) #[] #[(pt b2 0)]]) (by kernel_rfl) ⟨b2, rfl, hw.pk [1, 2]⟩)
def Qhm : Option Unit :=
 some ()
theorem Qii {r : Unit} (hk : Qhm = some r) {g w : World} {F : Ch} {ih : IH} (hw : St g w [F] ih) :
  CallsR Tryz.prog 134 #[.func (.func 140) #[] #[], .func (.func 144) #[] #[]] w fun v w' => ∃ (b1 : Nat), v = .agg #[.func (.func 140) #[] #[], .func (.func 156) #[] #[(pt b1 0)], .func (.func 157) #[] #[(pt b1 0)]] ∧ St g w' [bx b1 [.func (.func 144) #[] #[]] 184, F] ih := by
 refine f_i Tryz.func134 rfl 9 rfl fun a Qf hQ hQn hs => ?_
 refine Qd (Qa (QC hs hw [.func (.func 144) #[] #[]] 184 (fun b => (pt b 0)) (by kernel_rfl) (fun _ => by kernel_rfl) fun a w b2 hs hw => ?_))
 refine QaN hs hw [.nilFunc, .nilFunc, .nilFunc] 134 (fun b => (pt b 0)) fun a w b3 hs hw => ?_
 have hs := hs.cst (e' := [(0, .func (.func 140) #[] #[]), (3, (pt b2 0)), (4, (pt b3 0))])
 refine Qc (Qd (Qa (pu hs 4 fun a hs => ?_)))
 refine QE hs hw 0 rfl 0 (v := .agg #[.func (.func 140) #[] #[], .func (.func 156) #[] #[(pt b2 0)], .func (.func 157) #[] #[(pt b2 0)]]) fun a w hs hw => ?_
 have hs := hs.cst (e' := [(4, (pt b3 0))])
 refine Qc (Qi ?_)
 obtain rfl := someE hk
 refine hQ _ _ (QaU hs rfl (hw.at_ 0 rfl) (by kernel_rfl) (v := .agg #[.func (.func 140) #[] #[], .func (.func 156) #[] #[(pt b2 0)], .func (.func 157) #[] #[(pt b2 0)]]) (by kernel_rfl) ⟨b2, rfl, hw.pk [1, 2]⟩)
def QhO (x1 : Int) : Option Nat :=
 if (x1 == 128) = true then some 0
 else if (x1 == 256) = true then some 1
 else if (x1 == 1024) = true then some 2
 else if (x1 == 2048) = true then some 3
 else if (x1 == 4096) = true then some 4
 else if (x1 == 8192) = true then some 5
 else some 6
theorem QiV {x1 : Int} {r : Nat} (hk : QhO x1 = some r) {g w : World} {F : Ch} {ih : IH} (hw : St g w [F] ih) :
  CallsR Tryz.prog 145 #[Qb x1] w fun v w' => ∃ (ih' : IH) (u1 u2 u3 : Value), v = .agg #[u1, u2, u3] ∧ St g w' [F] ih' ∧ Le ih ih' ∧ Qbz.enc ih' r [u1, u2, u3] := by
 refine f_i Tryz.func145 rfl 23 rfl fun a Qf hQ hQn hs => ?_
 refine Qd (Qa (QC hs hw [.nilFunc, .nilFunc, .nilFunc] 134 (fun b => (pt b 0)) (by kernel_rfl) (fun _ => by kernel_rfl) fun a w b1 hs hw => ?_))
 have hs := hs.cst (e' := [(0, Qb x1), (2, (pt b1 0))])
 refine Qc (Qd (Qa (pn hs 1 [(2, (pt b1 0)), (3, Qb x1)] fun a hs => ?_)))
 refine Qc (Ql (Qd (Qa (pn hs 2 [(2, (pt b1 0)), (3, Qb x1), (5, .bool (x1 == 128))] fun a hs => ?_))))
 refine Qc ?_
 rcases ifbE hk with ⟨h1, hk⟩ | ⟨h1, hk⟩
 ·refine Qr hs h1 ?_
  refine Qd (Qa (pu hs 1 fun a hs => ?_))
  refine QE hs hw 0 rfl 0 (v := .agg #[.func (.func 159) #[] #[], .func (.func 160) #[] #[], .func (.func 161) #[] #[]]) fun a w hs hw => ?_
  have hs := hs.cst (e' := [(2, (pt b1 0))])
  refine Qc (Qi ?_)
  obtain rfl := someE hk
  refine hQ _ _ (QaU hs rfl (hw.at_ 0 rfl) (by kernel_rfl) (v := .agg #[.func (.func 159) #[] #[], .func (.func 160) #[] #[], .func (.func 161) #[] #[]]) (by kernel_rfl) ⟨ih, (.func (.func 159) #[] #[]), (.func (.func 160) #[] #[]), (.func (.func 161) #[] #[]), rfl, hw.pk [1], (Le.refl _), (Qln)⟩)
 refine Qs hs h1 ?_
 refine Qd (Qa (pn hs 2 [(2, (pt b1 0)), (3, Qb x1), (8, .bool (x1 == 256))] fun a hs => ?_))
 refine Qc ?_
 rcases ifbE hk with ⟨h2, hk⟩ | ⟨h2, hk⟩
 ·refine Qr hs h2 ?_
  refine Qd (Qa (pu hs 1 fun a hs => ?_))
  refine QE hs hw 0 rfl 0 (v := .agg #[.func (.func 140) #[] #[], .func (.func 162) #[] #[], .func (.func 163) #[] #[]]) fun a w hs hw => ?_
  have hs := hs.cst (e' := [(2, (pt b1 0))])
  refine Qc (Qi ?_)
  obtain rfl := someE hk
  refine hQ _ _ (QaU hs rfl (hw.at_ 0 rfl) (by kernel_rfl) (v := .agg #[.func (.func 140) #[] #[], .func (.func 162) #[] #[], .func (.func 163) #[] #[]]) (by kernel_rfl) ⟨ih, (.func (.func 140) #[] #[]), (.func (.func 162) #[] #[]), (.func (.func 163) #[] #[]), rfl, hw.pk [1], (Le.refl _), (Qlm)⟩)
 refine Qs hs h2 ?_
 refine Qd (Qa (pn hs 2 [(2, (pt b1 0)), (3, Qb x1), (11, .bool (x1 == 1024))] fun a hs => ?_))
 refine Qc ?_
 rcases ifbE hk with ⟨h3, hk⟩ | ⟨h3, hk⟩
 ·refine Qr hs h3 ?_
  refine Qd (Qa (pu hs 1 fun a hs => ?_))
  refine QE hs hw 0 rfl 0 (v := .agg #[.func (.func 164) #[] #[], .func (.func 166) #[] #[], .func (.func 168) #[] #[]]) fun a w hs hw => ?_
  have hs := hs.cst (e' := [(2, (pt b1 0))])
  refine Qc (Qi ?_)
  obtain rfl := someE hk
  refine hQ _ _ (QaU hs rfl (hw.at_ 0 rfl) (by kernel_rfl) (v := .agg #[.func (.func 164) #[] #[], .func (.func 166) #[] #[], .func (.func 168) #[] #[]]) (by kernel_rfl) ⟨ih, (.func (.func 164) #[] #[]), (.func (.func 166) #[] #[]), (.func (.func 168) #[] #[]), rfl, hw.pk [1], (Le.refl _), (Qll)⟩)
 refine Qs hs h3 ?_
 refine Qd (Qa (pn hs 2 [(2, (pt b1 0)), (3, Qb x1), (14, .bool (x1 == 2048))] fun a hs => ?_))
 refine Qc ?_
 rcases ifbE hk with ⟨h4, hk⟩ | ⟨h4, hk⟩
 ·refine Qr hs h4 ?_
  refine Qd (Qa (pu hs 1 fun a hs => ?_))
  refine QE hs hw 0 rfl 0 (v := .agg #[.func (.func 169) #[] #[], .func (.func 170) #[] #[], .func (.func 172) #[] #[]]) fun a w hs hw => ?_
  have hs := hs.cst (e' := [(2, (pt b1 0))])
  refine Qc (Qi ?_)
  obtain rfl := someE hk
  refine hQ _ _ (QaU hs rfl (hw.at_ 0 rfl) (by kernel_rfl) (v := .agg #[.func (.func 169) #[] #[], .func (.func 170) #[] #[], .func (.func 172) #[] #[]]) (by kernel_rfl) ⟨ih, (.func (.func 169) #[] #[]), (.func (.func 170) #[] #[]), (.func (.func 172) #[] #[]), rfl, hw.pk [1], (Le.refl _), (Qlk)⟩)
 refine Qs hs h4 ?_
 refine Qd (Qa (pn hs 2 [(2, (pt b1 0)), (3, Qb x1), (17, .bool (x1 == 4096))] fun a hs => ?_))
 refine Qc ?_
 rcases ifbE hk with ⟨h5, hk⟩ | ⟨h5, hk⟩
 ·refine Qr hs h5 ?_
  refine Qd (Qa (pu hs 1 fun a hs => ?_))
  refine QE hs hw 0 rfl 0 (v := .agg #[.func (.func 173) #[] #[], .func (.func 175) #[] #[], .func (.func 176) #[] #[]]) fun a w hs hw => ?_
  have hs := hs.cst (e' := [(2, (pt b1 0))])
  refine Qc (Qi ?_)
  obtain rfl := someE hk
  refine hQ _ _ (QaU hs rfl (hw.at_ 0 rfl) (by kernel_rfl) (v := .agg #[.func (.func 173) #[] #[], .func (.func 175) #[] #[], .func (.func 176) #[] #[]]) (by kernel_rfl) ⟨ih, (.func (.func 173) #[] #[]), (.func (.func 175) #[] #[]), (.func (.func 176) #[] #[]), rfl, hw.pk [1], (Le.refl _), (Qlj)⟩)
 refine Qs hs h5 ?_
 refine Qd (Qa (pn hs 2 [(2, (pt b1 0)), (20, .bool (x1 == 8192))] fun a hs => ?_))
 refine Qc ?_
 rcases ifbE hk with ⟨h6, hk⟩ | ⟨h6, hk⟩
 ·refine Qr hs h6 ?_
  refine Qd (Qa (pu hs 1 fun a hs => ?_))
  refine QE hs hw 0 rfl 0 (v := .agg #[.func (.func 177) #[] #[], .func (.func 178) #[] #[], .func (.func 179) #[] #[]]) fun a w hs hw => ?_
  have hs := hs.cst (e' := [(2, (pt b1 0))])
  refine Qc (Qi ?_)
  obtain rfl := someE hk
  refine hQ _ _ (QaU hs rfl (hw.at_ 0 rfl) (by kernel_rfl) (v := .agg #[.func (.func 177) #[] #[], .func (.func 178) #[] #[], .func (.func 179) #[] #[]]) (by kernel_rfl) ⟨ih, (.func (.func 177) #[] #[]), (.func (.func 178) #[] #[]), (.func (.func 179) #[] #[]), rfl, hw.pk [1], (Le.refl _), (Qli)⟩)
 refine Qs hs h6 ?_
 refine Qd (Qa (pu hs 1 fun a hs => ?_))
 refine QE hs hw 0 rfl 0 (v := .agg #[.func (.func 180) #[] #[], .func (.func 182) #[] #[], .func (.func 184) #[] #[]]) fun a w hs hw => ?_
 have hs := hs.cst (e' := [(2, (pt b1 0))])
 refine Qc (Qi ?_)
 obtain rfl := someE hk
 refine hQ _ _ (QaU hs rfl (hw.at_ 0 rfl) (by kernel_rfl) (v := .agg #[.func (.func 180) #[] #[], .func (.func 182) #[] #[], .func (.func 184) #[] #[]]) (by kernel_rfl) ⟨ih, (.func (.func 180) #[] #[]), (.func (.func 182) #[] #[]), (.func (.func 184) #[] #[]), rfl, hw.pk [1], (Le.refl _), (Qlh)⟩)
def QeO (x1 : Int) : Option Nat :=
 if (x1 == 1) = true then some 7
 else if (x1 == 32) = true then some 8
 else if (x1 == 2) = true then some 9
 else if (x1 == 4) = true then some 10
 else if (x1 == 8) = true then some 11
 else if (x1 == 16) = true then some 12
 else if (x1 == 64) = true then some 13
 else if (x1 == 512) = true then some 14
 else (QhO x1).bind fun y1 =>
 some y1
theorem Qd9 {x1 : Int} {r : Nat} (hk : QeO x1 = some r) {g w : World} {F : Ch} {ih : IH} (hw : St g w [F] ih) :
  CallsR Tryz.prog 110 #[Qb x1] w fun v w' => ∃ (ih' : IH) (u1 u2 u3 : Value), v = .agg #[u1, u2, u3] ∧ St g w' [F] ih' ∧ Le ih ih' ∧ Qbz.enc ih' r [u1, u2, u3] := by
 refine f_i Tryz.func110 rfl 30 rfl fun a Qf hQ hQn hs => ?_
 refine Qd (Qa (QC hs hw [.nilFunc, .nilFunc, .nilFunc] 134 (fun b => (pt b 0)) (by kernel_rfl) (fun _ => by kernel_rfl) fun a w b1 hs hw => ?_))
 have hs := hs.cst (e' := [(0, Qb x1), (2, (pt b1 0))])
 refine Qc (Qd (Qa (pn hs 1 [(0, Qb x1), (2, (pt b1 0)), (3, Qb x1)] fun a hs => ?_)))
 refine Qc (Ql (Qd (Qa (pn hs 2 [(0, Qb x1), (2, (pt b1 0)), (3, Qb x1), (6, .bool (x1 == 1))] fun a hs => ?_))))
 refine Qc ?_
 rcases ifbE hk with ⟨h1, hk⟩ | ⟨h1, hk⟩
 ·refine Qr hs h1 ?_
  refine Qd (Qa ?_)
  have h2 : QhN = some () := rfl
  refine Qv hs (QiT h2 ((hw.pk [0, 1]).pack 0)) fun a w v hv hs => ?_
  obtain ⟨b2, b3, rfl, hw⟩ := hv
  have hw := hw.unpack 2 rfl
  refine QE hs hw 2 rfl 0 (v := .agg #[.func (.func 130) #[] #[], .func (.func 152) #[] #[(pt b2 0), (pt b3 0)], .func (.func 154) #[] #[(pt b3 0), (pt b2 0)]]) fun a w hs hw => ?_
  have hw := hw.cL [bx b2 [.func (.func 131) #[] #[]] 181, bx b3 [Qb 1] 3, k28 b1 b2 b3 b3 b2, F]
  refine Qc (Qi ?_)
  obtain ⟨ih1, hle1, hw, h3⟩ := (hw.pk [0, 1, 2, 3]).fzB
  obtain ⟨ih2, hle2, hw, h4⟩ := (hw.pk [0, 1, 2]).fzB
  obtain rfl := someE hk
  refine hQ _ _ (QaU hs rfl (hw.at_ 0 rfl) (by kernel_rfl) (v := .agg #[.func (.func 130) #[] #[], .func (.func 152) #[] #[(pt b2 0), (pt b3 0)], .func (.func 154) #[] #[(pt b3 0), (pt b2 0)]]) (by kernel_rfl) ⟨ih2, (.func (.func 130) #[] #[]), (.func (.func 152) #[] #[(pt b2 0), (pt b3 0)]), (.func (.func 154) #[] #[(pt b3 0), (pt b2 0)]), rfl, hw.pk [1], (hle1.trans hle2), (Qlg (h3.mono hle2) h4)⟩)
 refine Qs hs h1 ?_
 refine Qd (Qa (pn hs 2 [(0, Qb x1), (2, (pt b1 0)), (3, Qb x1), (9, .bool (x1 == 32))] fun a hs => ?_))
 refine Qc ?_
 rcases ifbE hk with ⟨h5, hk⟩ | ⟨h5, hk⟩
 ·refine Qr hs h5 ?_
  refine Qd (Qa ?_)
  have h6 : Qg8 = some () := rfl
  refine Qv hs (QhV h6 ((hw.pk [0, 1]).pack 0)) fun a w v hv hs => ?_
  obtain ⟨b4, b5, rfl, hw⟩ := hv
  have hw := hw.unpack 2 rfl
  refine QE hs hw 2 rfl 0 (v := .agg #[.func (.func 132) #[] #[], .func (.func 152) #[] #[(pt b4 0), (pt b5 0)], .func (.func 154) #[] #[(pt b5 0), (pt b4 0)]]) fun a w hs hw => ?_
  have hw := hw.cL [bx b4 [.func (.func 133) #[] #[]] 181, bx b5 [Qb 2] 3, k29 b1 b4 b5 b5 b4, F]
  refine Qc (Qi ?_)
  obtain ⟨ih3, hle3, hw, h7⟩ := (hw.pk [0, 1, 2, 3]).fzB
  obtain ⟨ih4, hle4, hw, h8⟩ := (hw.pk [0, 1, 2]).fzB
  obtain rfl := someE hk
  refine hQ _ _ (QaU hs rfl (hw.at_ 0 rfl) (by kernel_rfl) (v := .agg #[.func (.func 132) #[] #[], .func (.func 152) #[] #[(pt b4 0), (pt b5 0)], .func (.func 154) #[] #[(pt b5 0), (pt b4 0)]]) (by kernel_rfl) ⟨ih4, (.func (.func 132) #[] #[]), (.func (.func 152) #[] #[(pt b4 0), (pt b5 0)]), (.func (.func 154) #[] #[(pt b5 0), (pt b4 0)]), rfl, hw.pk [1], (hle3.trans hle4), (Qlf (h7.mono hle4) h8)⟩)
 refine Qs hs h5 ?_
 refine Qd (Qa (pn hs 2 [(0, Qb x1), (2, (pt b1 0)), (3, Qb x1), (12, .bool (x1 == 2))] fun a hs => ?_))
 refine Qc ?_
 rcases ifbE hk with ⟨h9, hk⟩ | ⟨h9, hk⟩
 ·refine Qr hs h9 ?_
  refine Qd (Qa ?_)
  have h10 : Qin = some () := rfl
  refine Qv hs (Qje h10 ((hw.pk [0, 1]).pack 0)) fun a w v hv hs => ?_
  obtain ⟨b6, rfl, hw⟩ := hv
  have hw := hw.unpack 1 rfl
  refine QE hs hw 1 rfl 0 (v := .agg #[.func (.func 135) #[] #[], .func (.func 156) #[] #[(pt b6 0)], .func (.func 157) #[] #[(pt b6 0)]]) fun a w hs hw => ?_
  have hw := hw.cL [bx b6 [.func (.func 136) #[] #[]] 184, k30 b1 b6 b6, F]
  refine Qc (Qi ?_)
  obtain ⟨ih5, hle5, hw, h11⟩ := (hw.pk [0, 1, 2]).fzB
  obtain rfl := someE hk
  refine hQ _ _ (QaU hs rfl (hw.at_ 0 rfl) (by kernel_rfl) (v := .agg #[.func (.func 135) #[] #[], .func (.func 156) #[] #[(pt b6 0)], .func (.func 157) #[] #[(pt b6 0)]]) (by kernel_rfl) ⟨ih5, (.func (.func 135) #[] #[]), (.func (.func 156) #[] #[(pt b6 0)]), (.func (.func 157) #[] #[(pt b6 0)]), rfl, hw.pk [1], hle5, (Qle h11)⟩)
 refine Qs hs h9 ?_
 refine Qd (Qa (pn hs 2 [(0, Qb x1), (2, (pt b1 0)), (3, Qb x1), (15, .bool (x1 == 4))] fun a hs => ?_))
 refine Qc ?_
 rcases ifbE hk with ⟨h12, hk⟩ | ⟨h12, hk⟩
 ·refine Qr hs h12 ?_
  refine Qd (Qa ?_)
  have h13 : Qhq = some () := rfl
  refine Qv hs (Qim h13 ((hw.pk [0, 1]).pack 0)) fun a w v hv hs => ?_
  obtain ⟨b7, rfl, hw⟩ := hv
  have hw := hw.unpack 1 rfl
  refine QE hs hw 1 rfl 0 (v := .agg #[.func (.func 137) #[] #[], .func (.func 156) #[] #[(pt b7 0)], .func (.func 157) #[] #[(pt b7 0)]]) fun a w hs hw => ?_
  have hw := hw.cL [bx b7 [.func (.func 139) #[] #[]] 184, k31 b1 b7 b7, F]
  refine Qc (Qi ?_)
  obtain ⟨ih6, hle6, hw, h14⟩ := (hw.pk [0, 1, 2]).fzB
  obtain rfl := someE hk
  refine hQ _ _ (QaU hs rfl (hw.at_ 0 rfl) (by kernel_rfl) (v := .agg #[.func (.func 137) #[] #[], .func (.func 156) #[] #[(pt b7 0)], .func (.func 157) #[] #[(pt b7 0)]]) (by kernel_rfl) ⟨ih6, (.func (.func 137) #[] #[]), (.func (.func 156) #[] #[(pt b7 0)]), (.func (.func 157) #[] #[(pt b7 0)]), rfl, hw.pk [1], hle6, (QkE h14)⟩)
 refine Qs hs h12 ?_
 refine Qd (Qa (pn hs 2 [(0, Qb x1), (2, (pt b1 0)), (3, Qb x1), (18, .bool (x1 == 8))] fun a hs => ?_))
 refine Qc ?_
 rcases ifbE hk with ⟨h15, hk⟩ | ⟨h15, hk⟩
 ·refine Qr hs h15 ?_
  refine Qd (Qa ?_)
  have h16 : Qhp = some () := rfl
  refine Qv hs (Qil h16 ((hw.pk [0, 1]).pack 0)) fun a w v hv hs => ?_
  obtain ⟨b8, rfl, hw⟩ := hv
  have hw := hw.unpack 1 rfl
  refine QE hs hw 1 rfl 0 (v := .agg #[.func (.func 140) #[] #[], .func (.func 156) #[] #[(pt b8 0)], .func (.func 157) #[] #[(pt b8 0)]]) fun a w hs hw => ?_
  have hw := hw.cL [bx b8 [.func (.func 141) #[] #[]] 184, k32 b1 b8 b8, F]
  refine Qc (Qi ?_)
  obtain ⟨ih7, hle7, hw, h17⟩ := (hw.pk [0, 1, 2]).fzB
  obtain rfl := someE hk
  refine hQ _ _ (QaU hs rfl (hw.at_ 0 rfl) (by kernel_rfl) (v := .agg #[.func (.func 140) #[] #[], .func (.func 156) #[] #[(pt b8 0)], .func (.func 157) #[] #[(pt b8 0)]]) (by kernel_rfl) ⟨ih7, (.func (.func 140) #[] #[]), (.func (.func 156) #[] #[(pt b8 0)]), (.func (.func 157) #[] #[(pt b8 0)]), rfl, hw.pk [1], hle7, (QkD h17)⟩)
 refine Qs hs h15 ?_
 refine Qd (Qa (pn hs 2 [(0, Qb x1), (2, (pt b1 0)), (3, Qb x1), (21, .bool (x1 == 16))] fun a hs => ?_))
 refine Qc ?_
 rcases ifbE hk with ⟨h18, hk⟩ | ⟨h18, hk⟩
 ·refine Qr hs h18 ?_
  refine Qd (Qa ?_)
  have h19 : Qho = some () := rfl
  refine Qv hs (Qik h19 ((hw.pk [0, 1]).pack 0)) fun a w v hv hs => ?_
  obtain ⟨b9, rfl, hw⟩ := hv
  have hw := hw.unpack 1 rfl
  refine QE hs hw 1 rfl 0 (v := .agg #[.func (.func 140) #[] #[], .func (.func 156) #[] #[(pt b9 0)], .func (.func 157) #[] #[(pt b9 0)]]) fun a w hs hw => ?_
  have hw := hw.cL [bx b9 [.func (.func 142) #[] #[]] 184, k32 b1 b9 b9, F]
  refine Qc (Qi ?_)
  obtain ⟨ih8, hle8, hw, h20⟩ := (hw.pk [0, 1, 2]).fzB
  obtain rfl := someE hk
  refine hQ _ _ (QaU hs rfl (hw.at_ 0 rfl) (by kernel_rfl) (v := .agg #[.func (.func 140) #[] #[], .func (.func 156) #[] #[(pt b9 0)], .func (.func 157) #[] #[(pt b9 0)]]) (by kernel_rfl) ⟨ih8, (.func (.func 140) #[] #[]), (.func (.func 156) #[] #[(pt b9 0)]), (.func (.func 157) #[] #[(pt b9 0)]), rfl, hw.pk [1], hle8, (QkC h20)⟩)
 refine Qs hs h18 ?_
 refine Qd (Qa (pn hs 2 [(0, Qb x1), (2, (pt b1 0)), (3, Qb x1), (24, .bool (x1 == 64))] fun a hs => ?_))
 refine Qc ?_
 rcases ifbE hk with ⟨h21, hk⟩ | ⟨h21, hk⟩
 ·refine Qr hs h21 ?_
  refine Qd (Qa ?_)
  have h22 : Qhn = some () := rfl
  refine Qv hs (Qij h22 ((hw.pk [0, 1]).pack 0)) fun a w v hv hs => ?_
  obtain ⟨b10, rfl, hw⟩ := hv
  have hw := hw.unpack 1 rfl
  refine QE hs hw 1 rfl 0 (v := .agg #[.func (.func 140) #[] #[], .func (.func 156) #[] #[(pt b10 0)], .func (.func 157) #[] #[(pt b10 0)]]) fun a w hs hw => ?_
  have hw := hw.cL [bx b10 [.func (.func 143) #[] #[]] 184, k32 b1 b10 b10, F]
  refine Qc (Qi ?_)
  obtain ⟨ih9, hle9, hw, h23⟩ := (hw.pk [0, 1, 2]).fzB
  obtain rfl := someE hk
  refine hQ _ _ (QaU hs rfl (hw.at_ 0 rfl) (by kernel_rfl) (v := .agg #[.func (.func 140) #[] #[], .func (.func 156) #[] #[(pt b10 0)], .func (.func 157) #[] #[(pt b10 0)]]) (by kernel_rfl) ⟨ih9, (.func (.func 140) #[] #[]), (.func (.func 156) #[] #[(pt b10 0)]), (.func (.func 157) #[] #[(pt b10 0)]), rfl, hw.pk [1], hle9, (QkB h23)⟩)
 refine Qs hs h21 ?_
 refine Qd (Qa (pn hs 2 [(0, Qb x1), (2, (pt b1 0)), (27, .bool (x1 == 512))] fun a hs => ?_))
 refine Qc ?_
 rcases ifbE hk with ⟨h24, hk⟩ | ⟨h24, hk⟩
 ·refine Qr hs h24 ?_
  refine Qd (Qa ?_)
  have h25 : Qhm = some () := rfl
  refine Qv hs (Qii h25 ((hw.pk [0, 1]).pack 0)) fun a w v hv hs => ?_
  obtain ⟨b11, rfl, hw⟩ := hv
  have hw := hw.unpack 1 rfl
  refine QE hs hw 1 rfl 0 (v := .agg #[.func (.func 140) #[] #[], .func (.func 156) #[] #[(pt b11 0)], .func (.func 157) #[] #[(pt b11 0)]]) fun a w hs hw => ?_
  have hw := hw.cL [bx b11 [.func (.func 144) #[] #[]] 184, k32 b1 b11 b11, F]
  refine Qc (Qi ?_)
  obtain ⟨ih10, hle10, hw, h26⟩ := (hw.pk [0, 1, 2]).fzB
  obtain rfl := someE hk
  refine hQ _ _ (QaU hs rfl (hw.at_ 0 rfl) (by kernel_rfl) (v := .agg #[.func (.func 140) #[] #[], .func (.func 156) #[] #[(pt b11 0)], .func (.func 157) #[] #[(pt b11 0)]]) (by kernel_rfl) ⟨ih10, (.func (.func 140) #[] #[]), (.func (.func 156) #[] #[(pt b11 0)]), (.func (.func 157) #[] #[(pt b11 0)]), rfl, hw.pk [1], hle10, (QkA h26)⟩)
 refine Qs hs h24 ?_
 refine Qd (Qa (pu hs 1 fun a hs => ?_))
 obtain ⟨y1, h27, hk⟩ := bindE hk
 refine Qv hs (QiV h27 ((hw.pk [0, 1]).pack 0)) fun a w v hv hs => ?_
 obtain ⟨ih11, u4, u5, u6, rfl, hw, hle11, h28⟩ := hv
 have hw := hw.unpack 0 rfl
 refine QjU hs hw 0 rfl 0 (by kernel_rfl) (by kernel_rfl) (v := .agg #[u4, u5, u6]) (by kernel_rfl) (by kernel_rfl) (by kernel_rfl) (Qbz.one h28) fun a w hs hw => ?_
 have hs := hs.cst (e' := [(2, (pt b1 0))])
 have hw := hw.cL [bx b1 [u4, u5, u6] 134, F]
 refine Qc (Qi ?_)
 obtain rfl := someE hk
 refine hQ _ _ (QaU hs rfl (hw.at_ 0 rfl) (by kernel_rfl) (v := .agg #[u4, u5, u6]) (by kernel_rfl) ⟨ih11, u4, u5, u6, rfl, hw.pk [1], hle11, (Qbz.mono h28 (Le.refl _))⟩)
def Qgk (x1 : List Nat) : Option (List Nat) :=
 some x1
def Qgj (x1 : M161) (x2 : List Nat) : Option (List Nat) :=
 (if (x1.f1.f5 != 0) = true then (
   (QeO x1.f1.f5).bind fun y1 =>
   (app x2 [y1]).bind fun x3 =>
   some x3)
  else some x2 : Option (List Nat)).bind fun s1 => Qgk s1
def Qgi (x1 : M161) (x2 : List Nat) : Option (List Nat) :=
 (if (x1.f1.f4 != 0) = true then (
   (QeO x1.f1.f4).bind fun y1 =>
   (app x2 [y1]).bind fun x3 =>
   some x3)
  else some x2 : Option (List Nat)).bind fun s1 => Qgj x1 s1
def Qgh (x1 : M161) (x2 : List Nat) : Option (List Nat) :=
 (if (x1.f1.f3 != 0) = true then (
   (QeO x1.f1.f3).bind fun y1 =>
   (app x2 [y1]).bind fun x3 =>
   some x3)
  else some x2 : Option (List Nat)).bind fun s1 => Qgi x1 s1
def Qgg (x1 : M161) (x2 : List Nat) : Option (List Nat) :=
 (if (x1.f1.f2 != 0) = true then (
   (QeO x1.f1.f2).bind fun y1 =>
   (app x2 [y1]).bind fun x3 =>
   some x3)
  else some x2 : Option (List Nat)).bind fun s1 => Qgh x1 s1
def Qgf (x1 : M161) (x2 : List Nat) : Option (List Nat) :=
 (if (x1.f1.f1 != 0) = true then (
   (QeO x1.f1.f1).bind fun y1 =>
   (app x2 [y1]).bind fun x3 =>
   some x3)
  else some x2 : Option (List Nat)).bind fun s1 => Qgg x1 s1
def Qfk (x1 : Int) : Option (List Nat) :=
 (ix QhF x1).bind fun x2 =>
 (if (x2.f1.f0 != 0) = true then (
   (QeO x2.f1.f0).bind fun y1 =>
   some ([y1]))
  else some ([]) : Option (List Nat)).bind fun s1 => Qgf x2 s1
theorem QiU {x1 : Int} {r : (List Nat)} (hk : Qfk x1 = some r) {g w : World} {F : Ch} {ih : IH} (hG : Glob 0 gl0 162 ih) (hw : St g w [F] ih) :
  CallsR Tryz.prog 61 #[Qb x1] w fun v w' => ∃ (ih' : IH) (p1 : Option Addr) (c1 : Nat) (d1 : Ch), v = .slice p1 r.length c1 ∧ St g w' [d1, F] ih' ∧ Le ih ih' ∧ OSl Qbz ih' p1 c1 r d1 := by
 refine f_i Tryz.func61 rfl 22 rfl fun a Qf hQ hQn hs => ?_
 refine Qd (Qa (pn hs 1 [(0, Qb x1)] fun a hs => ?_))
 refine Qc (Qd (Qa (pn hs 1 [(0, Qb x1), (3, .slice none 0 0)] fun a hs => ?_)))
 refine Qc (Qd (Qd (Qa (pu hs 1 fun a hs => ?_))))
 obtain ⟨x2, h1, hk⟩ := bindE hk
 refine Qka hs (QiG hG) (by kernel_rfl) (by kernel_rfl) (k := .i64) (by kernel_rfl) 161 (by kernel_rfl) (by kernel_rfl) h1 fun a r1378 cs henc at1379 hs => ?_
 obtain rfl := henc
 refine pu hs 1 fun a hs => Qj hs (at1379 _ (hw.vwAll.nil.anti (Le.refl _))) 1 fun a hs => pn hs 1 [(3, .slice none 0 0), (9, .agg #[Qb x2.f1.f0, Qb x2.f1.f1, Qb x2.f1.f2, Qb x2.f1.f3, Qb x2.f1.f4, Qb x2.f1.f5]), (10, Qb 0)] fun a hs => ?_
 refine Qc (Ql (wpIn_loop_rounds 7 ?_))
 refine QdF (Qd (Qa (pn hs 1 [(3, .slice none 0 0), (9, .agg #[Qb x2.f1.f0, Qb x2.f1.f1, Qb x2.f1.f2, Qb x2.f1.f3, Qb x2.f1.f4, Qb x2.f1.f5]), (10, Qb 0), (11, .bool true)] fun a hs => ?_)))
 refine Qc (Qd (Qgb hs (Qg ?_)))
 obtain ⟨y1, hx1, hk⟩ := bindE hk
 obtain ⟨J1, hJ1⟩ := mkJ fun a w => ∃ (x3 : List Nat) (p2 : Option Addr) (c2 : Nat) (d2 : Ch) (ih1 : IH), Qgf x2 x3 = some r ∧ Sees a 22 [(9, .agg #[Qb x2.f1.f0, Qb x2.f1.f1, Qb x2.f1.f2, Qb x2.f1.f3, Qb x2.f1.f4, Qb x2.f1.f5]), (10, Qb 0), (3, .slice p2 x3.length c2)] ∧ St g w [d2, F] ih1 ∧ Le ih ih1 ∧ OSl Qbz ih1 p2 c2 x3 d2
 refine QaG J1 ?_ ?_
 ·refine Ql (Qd (Qa (pn hs 2 [(3, .slice none 0 0), (9, .agg #[Qb x2.f1.f0, Qb x2.f1.f1, Qb x2.f1.f2, Qb x2.f1.f3, Qb x2.f1.f4, Qb x2.f1.f5]), (10, Qb 0), (5, Qb x2.f1.f0)] fun a hs => ?_)))
  refine Qc (Qd (Qa (pn hs 2 [(3, .slice none 0 0), (9, .agg #[Qb x2.f1.f0, Qb x2.f1.f1, Qb x2.f1.f2, Qb x2.f1.f3, Qb x2.f1.f4, Qb x2.f1.f5]), (10, Qb 0), (5, Qb x2.f1.f0), (14, .bool (x2.f1.f0 != 0))] fun a hs => ?_)))
  refine Qc ?_
  rcases ifbE hx1 with ⟨h2, hx1⟩ | ⟨h2, hx1⟩
  ·refine Qr hs h2 ?_
   refine Qa (pu hs 2 fun a hs => ?_)
   obtain ⟨y2, h3, hx1⟩ := bindE hx1
   refine Qv hs (Qd9 h3 ((hw.pk [0]).pack 0)) fun a w v hv hs => ?_
   obtain ⟨ih2, u1, u2, u3, rfl, hw, hle1, h4⟩ := hv
   have hw := hw.unpack 0 rfl
   refine QaN hs hw [u1, u2, u3] 134 (fun b => .slice (some ⟨b, 0, none⟩) 1 1) fun a w b1 hs hw => ?_
   have hw := hw.nil
   have h5 : app (α := Nat) ([]) [y2] = some ([y2]) := rfl
   refine Qhk hs hw (E := Qbz) Qg1 0 rfl (OSl.nil _ _) (by kernel_rfl) (by kernel_rfl) (c2 := 1) (by kernel_rfl) (hw.at_ 1 rfl) (z := y2) (Qbz.mono h4 (Le.refl _)) h5 fun a w p3 c3 d3 h6 hw hs => ?_
   refine pu hs 1 fun a hs => ?_
   have hw := hw.cL [d3, bx b1 [u1, u2, u3] 134, F]
   refine Qc ?_
   obtain rfl := someE hx1
   exact (hJ1 _ _).2 ⟨([y2]), p3, c3, d3, ih2, hk, hs.cst, hw.pk [0, 2], hle1, h6⟩
  refine Qs hs h2 (Qg ?_)
  obtain rfl := someE hx1
  have hw := hw.nil
  exact (hJ1 _ _).2 ⟨([]), none, 0, ([]), ih, hk, hs.cst, hw.pk [0, 1], (Le.refl _), (OSl.nil _ _)⟩
 intro a w hh
 obtain ⟨x3, p2, c2, d2, ih1, hk, hs, hw, hle2, h7⟩ := (hJ1 _ _).1 hh
 refine Qa (pn hs 2 [(9, .agg #[Qb x2.f1.f0, Qb x2.f1.f1, Qb x2.f1.f2, Qb x2.f1.f3, Qb x2.f1.f4, Qb x2.f1.f5]), (10, Qb 1), (3, .slice p2 x3.length c2)] fun a hs => ?_)
 refine Qc (QdF (Qd (Qa (pn hs 1 [(9, .agg #[Qb x2.f1.f0, Qb x2.f1.f1, Qb x2.f1.f2, Qb x2.f1.f3, Qb x2.f1.f4, Qb x2.f1.f5]), (10, Qb 1), (3, .slice p2 x3.length c2), (11, .bool true)] fun a hs => ?_))))
 refine Qc (Qd (Qgb hs (Qg ?_)))
 obtain ⟨y3, hx2, hk⟩ := bindE hk
 obtain ⟨J2, hJ2⟩ := mkJ fun a w => ∃ (x4 : List Nat) (p4 : Option Addr) (c4 : Nat) (d4 : Ch) (ih3 : IH), Qgg x2 x4 = some r ∧ Sees a 22 [(9, .agg #[Qb x2.f1.f0, Qb x2.f1.f1, Qb x2.f1.f2, Qb x2.f1.f3, Qb x2.f1.f4, Qb x2.f1.f5]), (10, Qb 1), (3, .slice p4 x4.length c4)] ∧ St g w [d4, F] ih3 ∧ Le ih1 ih3 ∧ OSl Qbz ih3 p4 c4 x4 d4
 refine QaG J2 ?_ ?_
 ·refine Ql (Qd (Qa (pn hs 2 [(9, .agg #[Qb x2.f1.f0, Qb x2.f1.f1, Qb x2.f1.f2, Qb x2.f1.f3, Qb x2.f1.f4, Qb x2.f1.f5]), (10, Qb 1), (3, .slice p2 x3.length c2), (5, Qb x2.f1.f1)] fun a hs => ?_)))
  refine Qc (Qd (Qa (pn hs 2 [(9, .agg #[Qb x2.f1.f0, Qb x2.f1.f1, Qb x2.f1.f2, Qb x2.f1.f3, Qb x2.f1.f4, Qb x2.f1.f5]), (10, Qb 1), (3, .slice p2 x3.length c2), (5, Qb x2.f1.f1), (14, .bool (x2.f1.f1 != 0))] fun a hs => ?_)))
  refine Qc ?_
  rcases ifbE hx2 with ⟨h8, hx2⟩ | ⟨h8, hx2⟩
  ·refine Qr hs h8 ?_
   refine Qa (pu hs 2 fun a hs => ?_)
   obtain ⟨y4, h9, hx2⟩ := bindE hx2
   refine Qv hs (Qd9 h9 ((hw.pk [0, 1]).pack 0)) fun a w v hv hs => ?_
   obtain ⟨ih4, u4, u5, u6, rfl, hw, hle3, h10⟩ := hv
   have hw := hw.unpack 0 rfl
   refine QaN hs hw [u4, u5, u6] 134 (fun b => .slice (some ⟨b, 0, none⟩) 1 1) fun a w b2 hs hw => ?_
   obtain ⟨x5, h11, hx2⟩ := bindE hx2
   refine Qhk hs hw (E := Qbz) Qg1 1 rfl (h7.mono hle3) (by kernel_rfl) (by kernel_rfl) (c2 := 1) (by kernel_rfl) (hw.at_ 0 rfl) (z := y4) (Qbz.mono h10 (Le.refl _)) h11 fun a w p5 c5 d5 h12 hw hs => ?_
   refine pu hs 1 fun a hs => Qc ?_
   obtain rfl := someE hx2
   exact (hJ2 _ _).2 ⟨x5, p5, c5, d5, ih4, hk, hs.cst, hw.pk [1, 2], hle3, h12⟩
  refine Qs hs h8 (Qg ?_)
  obtain rfl := someE hx2
  exact (hJ2 _ _).2 ⟨x3, p2, c2, d2, ih1, hk, hs.cst, hw.pk [0, 1], (Le.refl _), h7⟩
 intro a w hh
 obtain ⟨x4, p4, c4, d4, ih3, hk, hs, hw, hle4, h13⟩ := (hJ2 _ _).1 hh
 refine Qa (pn hs 2 [(9, .agg #[Qb x2.f1.f0, Qb x2.f1.f1, Qb x2.f1.f2, Qb x2.f1.f3, Qb x2.f1.f4, Qb x2.f1.f5]), (10, Qb 2), (3, .slice p4 x4.length c4)] fun a hs => ?_)
 refine Qc (QdF (Qd (Qa (pn hs 1 [(9, .agg #[Qb x2.f1.f0, Qb x2.f1.f1, Qb x2.f1.f2, Qb x2.f1.f3, Qb x2.f1.f4, Qb x2.f1.f5]), (10, Qb 2), (3, .slice p4 x4.length c4), (11, .bool true)] fun a hs => ?_))))
 refine Qc (Qd (Qgb hs (Qg ?_)))
 obtain ⟨y5, hx3, hk⟩ := bindE hk
 obtain ⟨J3, hJ3⟩ := mkJ fun a w => ∃ (x6 : List Nat) (p6 : Option Addr) (c6 : Nat) (d6 : Ch) (ih5 : IH), Qgh x2 x6 = some r ∧ Sees a 22 [(9, .agg #[Qb x2.f1.f0, Qb x2.f1.f1, Qb x2.f1.f2, Qb x2.f1.f3, Qb x2.f1.f4, Qb x2.f1.f5]), (10, Qb 2), (3, .slice p6 x6.length c6)] ∧ St g w [d6, F] ih5 ∧ Le ih3 ih5 ∧ OSl Qbz ih5 p6 c6 x6 d6
 refine QaG J3 ?_ ?_
 ·refine Ql (Qd (Qa (pn hs 2 [(9, .agg #[Qb x2.f1.f0, Qb x2.f1.f1, Qb x2.f1.f2, Qb x2.f1.f3, Qb x2.f1.f4, Qb x2.f1.f5]), (10, Qb 2), (3, .slice p4 x4.length c4), (5, Qb x2.f1.f2)] fun a hs => ?_)))
  refine Qc (Qd (Qa (pn hs 2 [(9, .agg #[Qb x2.f1.f0, Qb x2.f1.f1, Qb x2.f1.f2, Qb x2.f1.f3, Qb x2.f1.f4, Qb x2.f1.f5]), (10, Qb 2), (3, .slice p4 x4.length c4), (5, Qb x2.f1.f2), (14, .bool (x2.f1.f2 != 0))] fun a hs => ?_)))
  refine Qc ?_
  rcases ifbE hx3 with ⟨h14, hx3⟩ | ⟨h14, hx3⟩
  ·refine Qr hs h14 ?_
   refine Qa (pu hs 2 fun a hs => ?_)
   obtain ⟨y6, h15, hx3⟩ := bindE hx3
   refine Qv hs (Qd9 h15 ((hw.pk [0, 1]).pack 0)) fun a w v hv hs => ?_
   obtain ⟨ih6, u7, u8, u9, rfl, hw, hle5, h16⟩ := hv
   have hw := hw.unpack 0 rfl
   refine QaN hs hw [u7, u8, u9] 134 (fun b => .slice (some ⟨b, 0, none⟩) 1 1) fun a w b3 hs hw => ?_
   obtain ⟨x7, h17, hx3⟩ := bindE hx3
   refine Qhk hs hw (E := Qbz) Qg1 1 rfl (h13.mono hle5) (by kernel_rfl) (by kernel_rfl) (c2 := 1) (by kernel_rfl) (hw.at_ 0 rfl) (z := y6) (Qbz.mono h16 (Le.refl _)) h17 fun a w p7 c7 d7 h18 hw hs => ?_
   refine pu hs 1 fun a hs => Qc ?_
   obtain rfl := someE hx3
   exact (hJ3 _ _).2 ⟨x7, p7, c7, d7, ih6, hk, hs.cst, hw.pk [1, 2], hle5, h18⟩
  refine Qs hs h14 (Qg ?_)
  obtain rfl := someE hx3
  exact (hJ3 _ _).2 ⟨x4, p4, c4, d4, ih3, hk, hs.cst, hw.pk [0, 1], (Le.refl _), h13⟩
 intro a w hh
 obtain ⟨x6, p6, c6, d6, ih5, hk, hs, hw, hle6, h19⟩ := (hJ3 _ _).1 hh
 refine Qa (pn hs 2 [(9, .agg #[Qb x2.f1.f0, Qb x2.f1.f1, Qb x2.f1.f2, Qb x2.f1.f3, Qb x2.f1.f4, Qb x2.f1.f5]), (10, Qb 3), (3, .slice p6 x6.length c6)] fun a hs => ?_)
 refine Qc (QdF (Qd (Qa (pn hs 1 [(9, .agg #[Qb x2.f1.f0, Qb x2.f1.f1, Qb x2.f1.f2, Qb x2.f1.f3, Qb x2.f1.f4, Qb x2.f1.f5]), (10, Qb 3), (3, .slice p6 x6.length c6), (11, .bool true)] fun a hs => ?_))))
 refine Qc (Qd (Qgb hs (Qg ?_)))
 obtain ⟨y7, hx4, hk⟩ := bindE hk
 obtain ⟨J4, hJ4⟩ := mkJ fun a w => ∃ (x8 : List Nat) (p8 : Option Addr) (c8 : Nat) (d8 : Ch) (ih7 : IH), Qgi x2 x8 = some r ∧ Sees a 22 [(9, .agg #[Qb x2.f1.f0, Qb x2.f1.f1, Qb x2.f1.f2, Qb x2.f1.f3, Qb x2.f1.f4, Qb x2.f1.f5]), (10, Qb 3), (3, .slice p8 x8.length c8)] ∧ St g w [d8, F] ih7 ∧ Le ih5 ih7 ∧ OSl Qbz ih7 p8 c8 x8 d8
 refine QaG J4 ?_ ?_
 ·refine Ql (Qd (Qa (pn hs 2 [(9, .agg #[Qb x2.f1.f0, Qb x2.f1.f1, Qb x2.f1.f2, Qb x2.f1.f3, Qb x2.f1.f4, Qb x2.f1.f5]), (10, Qb 3), (3, .slice p6 x6.length c6), (5, Qb x2.f1.f3)] fun a hs => ?_)))
  refine Qc (Qd (Qa (pn hs 2 [(9, .agg #[Qb x2.f1.f0, Qb x2.f1.f1, Qb x2.f1.f2, Qb x2.f1.f3, Qb x2.f1.f4, Qb x2.f1.f5]), (10, Qb 3), (3, .slice p6 x6.length c6), (5, Qb x2.f1.f3), (14, .bool (x2.f1.f3 != 0))] fun a hs => ?_)))
  refine Qc ?_
  rcases ifbE hx4 with ⟨h20, hx4⟩ | ⟨h20, hx4⟩
  ·refine Qr hs h20 ?_
   refine Qa (pu hs 2 fun a hs => ?_)
   obtain ⟨y8, h21, hx4⟩ := bindE hx4
   refine Qv hs (Qd9 h21 ((hw.pk [0, 1]).pack 0)) fun a w v hv hs => ?_
   obtain ⟨ih8, u10, u11, u12, rfl, hw, hle7, h22⟩ := hv
   have hw := hw.unpack 0 rfl
   refine QaN hs hw [u10, u11, u12] 134 (fun b => .slice (some ⟨b, 0, none⟩) 1 1) fun a w b4 hs hw => ?_
   obtain ⟨x9, h23, hx4⟩ := bindE hx4
   refine Qhk hs hw (E := Qbz) Qg1 1 rfl (h19.mono hle7) (by kernel_rfl) (by kernel_rfl) (c2 := 1) (by kernel_rfl) (hw.at_ 0 rfl) (z := y8) (Qbz.mono h22 (Le.refl _)) h23 fun a w p9 c9 d9 h24 hw hs => ?_
   refine pu hs 1 fun a hs => Qc ?_
   obtain rfl := someE hx4
   exact (hJ4 _ _).2 ⟨x9, p9, c9, d9, ih8, hk, hs.cst, hw.pk [1, 2], hle7, h24⟩
  refine Qs hs h20 (Qg ?_)
  obtain rfl := someE hx4
  exact (hJ4 _ _).2 ⟨x6, p6, c6, d6, ih5, hk, hs.cst, hw.pk [0, 1], (Le.refl _), h19⟩
 intro a w hh
 obtain ⟨x8, p8, c8, d8, ih7, hk, hs, hw, hle8, h25⟩ := (hJ4 _ _).1 hh
 refine Qa (pn hs 2 [(9, .agg #[Qb x2.f1.f0, Qb x2.f1.f1, Qb x2.f1.f2, Qb x2.f1.f3, Qb x2.f1.f4, Qb x2.f1.f5]), (10, Qb 4), (3, .slice p8 x8.length c8)] fun a hs => ?_)
 refine Qc (QdF (Qd (Qa (pn hs 1 [(9, .agg #[Qb x2.f1.f0, Qb x2.f1.f1, Qb x2.f1.f2, Qb x2.f1.f3, Qb x2.f1.f4, Qb x2.f1.f5]), (10, Qb 4), (3, .slice p8 x8.length c8), (11, .bool true)] fun a hs => ?_))))
 refine Qc (Qd (Qgb hs (Qg ?_)))
 obtain ⟨y9, hx5, hk⟩ := bindE hk
 obtain ⟨J5, hJ5⟩ := mkJ fun a w => ∃ (x10 : List Nat) (p10 : Option Addr) (c10 : Nat) (d10 : Ch) (ih9 : IH), Qgj x2 x10 = some r ∧ Sees a 22 [(9, .agg #[Qb x2.f1.f0, Qb x2.f1.f1, Qb x2.f1.f2, Qb x2.f1.f3, Qb x2.f1.f4, Qb x2.f1.f5]), (10, Qb 4), (3, .slice p10 x10.length c10)] ∧ St g w [d10, F] ih9 ∧ Le ih7 ih9 ∧ OSl Qbz ih9 p10 c10 x10 d10
 refine QaG J5 ?_ ?_
 ·refine Ql (Qd (Qa (pn hs 2 [(9, .agg #[Qb x2.f1.f0, Qb x2.f1.f1, Qb x2.f1.f2, Qb x2.f1.f3, Qb x2.f1.f4, Qb x2.f1.f5]), (10, Qb 4), (3, .slice p8 x8.length c8), (5, Qb x2.f1.f4)] fun a hs => ?_)))
  refine Qc (Qd (Qa (pn hs 2 [(9, .agg #[Qb x2.f1.f0, Qb x2.f1.f1, Qb x2.f1.f2, Qb x2.f1.f3, Qb x2.f1.f4, Qb x2.f1.f5]), (10, Qb 4), (3, .slice p8 x8.length c8), (5, Qb x2.f1.f4), (14, .bool (x2.f1.f4 != 0))] fun a hs => ?_)))
  refine Qc ?_
  rcases ifbE hx5 with ⟨h26, hx5⟩ | ⟨h26, hx5⟩
  ·refine Qr hs h26 ?_
   refine Qa (pu hs 2 fun a hs => ?_)
   obtain ⟨y10, h27, hx5⟩ := bindE hx5
   refine Qv hs (Qd9 h27 ((hw.pk [0, 1]).pack 0)) fun a w v hv hs => ?_
   obtain ⟨ih10, u13, u14, u15, rfl, hw, hle9, h28⟩ := hv
   have hw := hw.unpack 0 rfl
   refine QaN hs hw [u13, u14, u15] 134 (fun b => .slice (some ⟨b, 0, none⟩) 1 1) fun a w b5 hs hw => ?_
   obtain ⟨x11, h29, hx5⟩ := bindE hx5
   refine Qhk hs hw (E := Qbz) Qg1 1 rfl (h25.mono hle9) (by kernel_rfl) (by kernel_rfl) (c2 := 1) (by kernel_rfl) (hw.at_ 0 rfl) (z := y10) (Qbz.mono h28 (Le.refl _)) h29 fun a w p11 c11 d11 h30 hw hs => ?_
   refine pu hs 1 fun a hs => Qc ?_
   obtain rfl := someE hx5
   exact (hJ5 _ _).2 ⟨x11, p11, c11, d11, ih10, hk, hs.cst, hw.pk [1, 2], hle9, h30⟩
  refine Qs hs h26 (Qg ?_)
  obtain rfl := someE hx5
  exact (hJ5 _ _).2 ⟨x8, p8, c8, d8, ih7, hk, hs.cst, hw.pk [0, 1], (Le.refl _), h25⟩
 intro a w hh
 obtain ⟨x10, p10, c10, d10, ih9, hk, hs, hw, hle10, h31⟩ := (hJ5 _ _).1 hh
 refine Qa (pn hs 2 [(9, .agg #[Qb x2.f1.f0, Qb x2.f1.f1, Qb x2.f1.f2, Qb x2.f1.f3, Qb x2.f1.f4, Qb x2.f1.f5]), (10, Qb 5), (3, .slice p10 x10.length c10)] fun a hs => ?_)
 refine Qc (QdF (Qd (Qa (pn hs 1 [(9, .agg #[Qb x2.f1.f0, Qb x2.f1.f1, Qb x2.f1.f2, Qb x2.f1.f3, Qb x2.f1.f4, Qb x2.f1.f5]), (10, Qb 5), (3, .slice p10 x10.length c10), (11, .bool true)] fun a hs => ?_))))
 refine Qc (Qd (Qgb hs (Qg ?_)))
 obtain ⟨y11, hx6, hk⟩ := bindE hk
 obtain ⟨J6, hJ6⟩ := mkJ fun a w => ∃ (x12 : List Nat) (p12 : Option Addr) (c12 : Nat) (d12 : Ch) (ih11 : IH), Qgk x12 = some r ∧ Sees a 22 [(9, .agg #[Qb x2.f1.f0, Qb x2.f1.f1, Qb x2.f1.f2, Qb x2.f1.f3, Qb x2.f1.f4, Qb x2.f1.f5]), (10, Qb 5), (3, .slice p12 x12.length c12)] ∧ St g w [d12, F] ih11 ∧ Le ih9 ih11 ∧ OSl Qbz ih11 p12 c12 x12 d12
 refine QaG J6 ?_ ?_
 ·refine Ql (Qd (Qa (pn hs 2 [(9, .agg #[Qb x2.f1.f0, Qb x2.f1.f1, Qb x2.f1.f2, Qb x2.f1.f3, Qb x2.f1.f4, Qb x2.f1.f5]), (10, Qb 5), (3, .slice p10 x10.length c10), (5, Qb x2.f1.f5)] fun a hs => ?_)))
  refine Qc (Qd (Qa (pn hs 2 [(9, .agg #[Qb x2.f1.f0, Qb x2.f1.f1, Qb x2.f1.f2, Qb x2.f1.f3, Qb x2.f1.f4, Qb x2.f1.f5]), (10, Qb 5), (3, .slice p10 x10.length c10), (5, Qb x2.f1.f5), (14, .bool (x2.f1.f5 != 0))] fun a hs => ?_)))
  refine Qc ?_
  rcases ifbE hx6 with ⟨h32, hx6⟩ | ⟨h32, hx6⟩
  ·refine Qr hs h32 ?_
   refine Qa (pu hs 2 fun a hs => ?_)
   obtain ⟨y12, h33, hx6⟩ := bindE hx6
   refine Qv hs (Qd9 h33 ((hw.pk [0, 1]).pack 0)) fun a w v hv hs => ?_
   obtain ⟨ih12, u16, u17, u18, rfl, hw, hle11, h34⟩ := hv
   have hw := hw.unpack 0 rfl
   refine QaN hs hw [u16, u17, u18] 134 (fun b => .slice (some ⟨b, 0, none⟩) 1 1) fun a w b6 hs hw => ?_
   obtain ⟨x13, h35, hx6⟩ := bindE hx6
   refine Qhk hs hw (E := Qbz) Qg1 1 rfl (h31.mono hle11) (by kernel_rfl) (by kernel_rfl) (c2 := 1) (by kernel_rfl) (hw.at_ 0 rfl) (z := y12) (Qbz.mono h34 (Le.refl _)) h35 fun a w p13 c13 d13 h36 hw hs => ?_
   refine pu hs 1 fun a hs => Qc ?_
   obtain rfl := someE hx6
   exact (hJ6 _ _).2 ⟨x13, p13, c13, d13, ih12, hk, hs.cst, hw.pk [1, 2], hle11, h36⟩
  refine Qs hs h32 (Qg ?_)
  obtain rfl := someE hx6
  exact (hJ6 _ _).2 ⟨x10, p10, c10, d10, ih9, hk, hs.cst, hw.pk [0, 1], (Le.refl _), h31⟩
 intro a w hh
 obtain ⟨x12, p12, c12, d12, ih11, hk, hs, hw, hle12, h37⟩ := (hJ6 _ _).1 hh
 refine Qa (pn hs 2 [(9, .agg #[Qb x2.f1.f0, Qb x2.f1.f1, Qb x2.f1.f2, Qb x2.f1.f3, Qb x2.f1.f4, Qb x2.f1.f5]), (10, Qb 6), (3, .slice p12 x12.length c12)] fun a hs => ?_)
 refine Qc (QdF (Qd (Qa (pn hs 1 [(9, .agg #[Qb x2.f1.f0, Qb x2.f1.f1, Qb x2.f1.f2, Qb x2.f1.f3, Qb x2.f1.f4, Qb x2.f1.f5]), (10, Qb 6), (3, .slice p12 x12.length c12), (11, .bool false)] fun a hs => ?_))))
 refine Qc (Qd (QhJ hs (Qa3 ?_)))
 refine Qd (Qa (pn hs 2 [(2, .slice p12 x12.length c12)] fun a hs => ?_))
 refine Qc (Qi ?_)
 obtain rfl := someE hk
 exact qr1 hQ hs ⟨ih11, p12, c12, d12, rfl, hw.pk [0, 1], (((((hle2.trans hle4).trans hle6).trans hle8).trans hle10).trans hle12), h37⟩
def Qg9 (x1 : M48) : Option Bool :=
 some ((decide (x1.f12 ≥ 0)) && (decide (x1.f12 ≤ 255)))
theorem QhY {x1 : M48} {c1 c2 c3 c4 : Nat} {p1 p2 p3 p4 : Option Addr} {r : Bool} (hk : Qg9 x1 = some r) {g w : World} {F : Ch} {ih : IH} (h1 : RSl e3 ih [] p1 c1 x1.f14.f2) (h2 : RSl Qcf ih [] p2 c2 x1.f15) (h3 : RSl e96 ih [] p3 c3 x1.f16) (h4 : RSl e5 ih [] p4 c4 x1.f17) (hw : St g w [F] ih) :
  CallsR Tryz.prog 159 #[A48 x1 p1 c1 p2 c2 p3 c3 p4 c4] w fun v w' => v = .bool r ∧ St g w' [F] ih := by
 refine f_i Tryz.func159 rfl 11 rfl fun a Qf hQ hQn hs => ?_
 refine Qd (Qa (QC hs hw [Qb x1.f0, Qb x1.f1, Qb x1.f2, Qb x1.f3, Qe x1.f4, Qe x1.f5, Qe x1.f6, Qe x1.f7, Qe x1.f8, Qe x1.f9, Qb x1.f10, Qk x1.f11, Qb x1.f12, Qb x1.f13.f0, Qb x1.f13.f1, Qe x1.f13.f2, Qb x1.f13.f3, Qb x1.f14.f0, Qe x1.f14.f1, .slice p1 x1.f14.f2.length c1, .bool x1.f14.f3, Qb x1.f14.f4, .slice p2 x1.f15.length c2, .slice p3 x1.f16.length c3, .slice p4 x1.f17.length c4] 48 (fun b => (pt b 0)) (by kernel_rfl) (fun _ => by kernel_rfl) fun a w b1 hs hw => ?_))
 refine pn hs 1 [(1, (pt b1 0))] fun a hs => Qc (Qd ?_)
 obtain ⟨J1, hJ1⟩ := mkJ fun a w => Sees a 11 [(2, .bool ((decide (x1.f12 ≥ 0)) && (decide (x1.f12 ≤ 255))))] ∧ St g w [F] ih
 refine Qn J1 ?_ ?_
 ·refine pu hs 1 fun a hs => Qj hs (hw.at_ 0 rfl) 12 fun a hs => pu hs 2 fun a hs => ?_
  rcases boolE (decide (x1.f12 ≥ 0)) with h5 | h5
  ·have hs := hs.aB 6 h5
   refine pu hs 1 fun a hs => Qj hs (hw.at_ 0 rfl) 12 fun a hs => pn hs 3 [(2, .bool (decide (x1.f12 ≤ 255)))] fun a hs => Qc ?_
   exact (hJ1 _ _).2 ⟨(hs.bB 2 h5 (decide (x1.f12 ≤ 255)) ((decide (x1.f12 ≥ 0)) && (decide (x1.f12 ≤ 255)))).cst, hw.pk [1]⟩
  have hs := hs.aB 6 h5
  refine pu hs 5 fun a hs => Qc ?_
  exact (hJ1 _ _).2 ⟨(hs.bB 2 h5 false ((decide (x1.f12 ≥ 0)) && (decide (x1.f12 ≤ 255)))).cst, hw.pk [1]⟩
 intro a w hh
 obtain ⟨hs, hw⟩ := (hJ1 _ _).1 hh
 refine Qi ?_
 obtain rfl := someE hk
 exact qr1 hQ hs ⟨rfl, hw.pk [0]⟩
def QeL : Option Unit :=
 some ()
theorem Qeh {x1 : M48} {c1 c2 c3 c4 : Nat} {p1 p2 p3 p4 : Option Addr} {r : Unit} (hk : QeL = some r) {g w : World} {F : Ch} {ih : IH} (h1 : RSl e3 ih [] p1 c1 x1.f14.f2) (h2 : RSl Qcf ih [] p2 c2 x1.f15) (h3 : RSl e96 ih [] p3 c3 x1.f16) (h4 : RSl e5 ih [] p4 c4 x1.f17) (hw : St g w [F] ih) :
  CallsR Tryz.prog 140 #[A48 x1 p1 c1 p2 c2 p3 c3 p4 c4] w fun v w' => v = .bool true ∧ St g w' [F] ih := by
 refine f_i Tryz.func140 rfl 3 rfl fun a Qf hQ hQn hs => ?_
 refine Qd (Qa (QC hs hw [Qb x1.f0, Qb x1.f1, Qb x1.f2, Qb x1.f3, Qe x1.f4, Qe x1.f5, Qe x1.f6, Qe x1.f7, Qe x1.f8, Qe x1.f9, Qb x1.f10, Qk x1.f11, Qb x1.f12, Qb x1.f13.f0, Qb x1.f13.f1, Qe x1.f13.f2, Qb x1.f13.f3, Qb x1.f14.f0, Qe x1.f14.f1, .slice p1 x1.f14.f2.length c1, .bool x1.f14.f3, Qb x1.f14.f4, .slice p2 x1.f15.length c2, .slice p3 x1.f16.length c3, .slice p4 x1.f17.length c4] 48 (fun b => (pt b 0)) (by kernel_rfl) (fun _ => by kernel_rfl) fun a w b1 hs hw => ?_))
 refine pn hs 1 [] fun a hs => Qc (Qd (Qa (pn hs 1 [(2, .bool true)] fun a hs => ?_)))
 refine Qc (Qi ?_)
 obtain rfl := someE hk
 exact qr1 hQ hs ⟨rfl, hw.pk [1]⟩
def QcW (x1 : M41) : Option Int :=
 if ((decide (x1.f0 < 0)) || (decide (x1.f0 ≥ 5))) = true then some 1
 else if ((x1.f0 == 0) && (!((x1.f0 == 0) && ((x1.f1 == 0) && ((x1.f2 == 0) && ((x1.f3 == 0) && true)))))) = true then some 4
 else if (x1.f0 == 0) = true then some 0
 else if ((decide (x1.f1 < 0)) || ((decide (x1.f1 ≥ 4)) || ((decide (x1.f2 < 1)) || ((decide (x1.f3 < 1)) || (decide (x1.f3 > 24)))))) = true then some 4
 else some 0
theorem QgN {x1 : M41} {r : Int} (hk : QcW x1 = some r) {g w : World} {F : Ch} {ih : IH} (hw : St g w [F] ih) :
  CallsR Tryz.prog 165 #[A41 x1] w fun v w' => v = Qb r ∧ St g w' [F] ih := by
 refine f_i Tryz.func165 rfl 49 rfl fun a Qf hQ hQn hs => ?_
 refine Qd (Qa (QC hs hw [Qb x1.f0, Qb x1.f1, Qe x1.f2, Qb x1.f3] 41 (fun b => (pt b 0)) (by kernel_rfl) (fun _ => by kernel_rfl) fun a w b1 hs hw => ?_))
 refine pn hs 1 [(1, (pt b1 0))] fun a hs => Qc (Qd (Ql (Qd ?_)))
 obtain ⟨J1, hJ1⟩ := mkJ fun a w => Sees a 49 [(1, (pt b1 0)), (3, .bool ((decide (x1.f0 < 0)) || (decide (x1.f0 ≥ 5))))] ∧ St g w [k34 b1 x1.f0 x1.f1 x1.f2 x1.f3, F] ih
 refine Qn J1 ?_ ?_
 ·refine pu hs 1 fun a hs => Qj hs (hw.at_ 0 rfl) 0 fun a hs => pu hs 2 fun a hs => ?_
  rcases boolE (decide (x1.f0 < 0)) with h1 | h1
  ·have hs := hs.aB 7 h1
   refine pu hs 5 fun a hs => Qc ?_
   exact (hJ1 _ _).2 ⟨(hs.bB 3 h1 true ((decide (x1.f0 < 0)) || (decide (x1.f0 ≥ 5)))).cst, hw.pk [0, 1]⟩
  have hs := hs.aB 7 h1
  refine pu hs 1 fun a hs => Qj hs (hw.at_ 0 rfl) 0 fun a hs => pn hs 3 [(1, (pt b1 0)), (3, .bool (decide (x1.f0 ≥ 5)))] fun a hs => Qc ?_
  exact (hJ1 _ _).2 ⟨(hs.bB 3 h1 (decide (x1.f0 ≥ 5)) ((decide (x1.f0 < 0)) || (decide (x1.f0 ≥ 5)))).cst, hw.pk [0, 1]⟩
 intro a w hh
 obtain ⟨hs, hw⟩ := (hJ1 _ _).1 hh
 rcases ifbE hk with ⟨h2, hk⟩ | ⟨h2, hk⟩
 ·refine Qr hs h2 ?_
  refine Qd (Qa (pn hs 1 [(2, Qb 1)] fun a hs => ?_))
  refine Qc (Qi ?_)
  obtain rfl := someE hk
  exact qr1 hQ hs ⟨rfl, hw.pk [1]⟩
 refine Qs hs h2 (Qd ?_)
 obtain ⟨J2, hJ2⟩ := mkJ fun a w => Sees a 49 [(1, (pt b1 0)), (12, .bool ((x1.f0 == 0) && (!((x1.f0 == 0) && ((x1.f1 == 0) && ((x1.f2 == 0) && ((x1.f3 == 0) && true)))))))] ∧ St g w [k34 b1 x1.f0 x1.f1 x1.f2 x1.f3, F] ih
 refine Qn J2 ?_ ?_
 ·refine pu hs 1 fun a hs => Qj hs (hw.at_ 0 rfl) 0 fun a hs => pu hs 2 fun a hs => ?_
  rcases boolE (x1.f0 == 0) with h3 | h3
  ·have hs := hs.aB 16 h3
   refine Qj hs (hw.at_ 0 rfl) 0 fun a hs => pu hs 1 fun a hs => Qm8 hs (c1 := [Qb x1.f0, Qb x1.f1, Qe x1.f2, Qb x1.f3]) (c2 := [Qb 0, Qb 0, Qe 0, Qb 0]) ((x1.f0 == 0) && ((x1.f1 == 0) && ((x1.f2 == 0) && ((x1.f3 == 0) && true)))) (by kernel_rfl) (by kernel_rfl) (by kernel_rfl) (by kernel_rfl) (by kernel_rfl) fun a hs => ?_
   refine pn hs 2 [(1, (pt b1 0)), (12, .bool (!((x1.f0 == 0) && ((x1.f1 == 0) && ((x1.f2 == 0) && ((x1.f3 == 0) && true))))))] fun a hs => Qc ?_
   exact (hJ2 _ _).2 ⟨(hs.bB 12 h3 (!((x1.f0 == 0) && ((x1.f1 == 0) && ((x1.f2 == 0) && ((x1.f3 == 0) && true))))) ((x1.f0 == 0) && (!((x1.f0 == 0) && ((x1.f1 == 0) && ((x1.f2 == 0) && ((x1.f3 == 0) && true))))))).cst, hw.pk [0, 1]⟩
  have hs := hs.aB 16 h3
  refine pu hs 5 fun a hs => Qc ?_
  exact (hJ2 _ _).2 ⟨(hs.bB 12 h3 false ((x1.f0 == 0) && (!((x1.f0 == 0) && ((x1.f1 == 0) && ((x1.f2 == 0) && ((x1.f3 == 0) && true))))))).cst, hw.pk [0, 1]⟩
 intro a w hh
 obtain ⟨hs, hw⟩ := (hJ2 _ _).1 hh
 rcases ifbE hk with ⟨h4, hk⟩ | ⟨h4, hk⟩
 ·refine Qr hs h4 ?_
  refine Qd (Qa (pn hs 1 [(2, Qb 4)] fun a hs => ?_))
  refine Qc (Qi ?_)
  obtain rfl := someE hk
  exact qr1 hQ hs ⟨rfl, hw.pk [1]⟩
 refine Qs hs h4 ?_
 refine Qd (Qa (pu hs 1 fun a hs => ?_))
 refine Qj hs (hw.at_ 0 rfl) 0 fun a hs => pn hs 2 [(1, (pt b1 0)), (21, .bool (x1.f0 == 0))] fun a hs => Qc ?_
 rcases ifbE hk with ⟨h5, hk⟩ | ⟨h5, hk⟩
 ·refine Qr hs h5 ?_
  refine Qd (Qa (pn hs 1 [(2, Qb 0)] fun a hs => ?_))
  refine Qc (Qi ?_)
  obtain rfl := someE hk
  exact qr1 hQ hs ⟨rfl, hw.pk [1]⟩
 refine Qs hs h5 (Qd ?_)
 obtain ⟨J3, hJ3⟩ := mkJ fun a w => Sees a 49 [(25, .bool ((decide (x1.f1 < 0)) || ((decide (x1.f1 ≥ 4)) || ((decide (x1.f2 < 1)) || ((decide (x1.f3 < 1)) || (decide (x1.f3 > 24)))))))] ∧ St g w [F] ih
 refine Qn J3 ?_ ?_
 ·refine pu hs 1 fun a hs => Qj hs (hw.at_ 0 rfl) 1 fun a hs => pu hs 2 fun a hs => ?_
  rcases boolE (decide (x1.f1 < 0)) with h6 | h6
  ·have hs := hs.aB 29 h6
   refine pu hs 20 fun a hs => Qc ?_
   exact (hJ3 _ _).2 ⟨(hs.bB 25 h6 true ((decide (x1.f1 < 0)) || ((decide (x1.f1 ≥ 4)) || ((decide (x1.f2 < 1)) || ((decide (x1.f3 < 1)) || (decide (x1.f3 > 24))))))).cst, hw.pk [1]⟩
  have hs := hs.aB 29 h6
  refine pu hs 1 fun a hs => Qj hs (hw.at_ 0 rfl) 1 fun a hs => pn hs 3 [(1, (pt b1 0)), (34, .bool (decide (x1.f1 ≥ 4)))] fun a hs => ?_
  rcases boolE (decide (x1.f1 ≥ 4)) with h7 | h7
  ·have hs := hs.aB 34 h7
   refine pu hs 15 fun a hs => Qc ?_
   exact (hJ3 _ _).2 ⟨(hs.altB (b := true) 25 ((decide (x1.f1 < 0)) || ((decide (x1.f1 ≥ 4)) || ((decide (x1.f2 < 1)) || ((decide (x1.f3 < 1)) || (decide (x1.f3 > 24)))))) (by kernel_rfl) (by first | (rw [h6, h7] <;> rfl) | (revert h6 h7; simp +contextual))).cast [25] (by kernel_rfl), hw.pk [1]⟩
  have hs := hs.aB 34 h7
  refine pu hs 1 fun a hs => Qj hs (hw.at_ 0 rfl) 2 fun a hs => pu hs 3 fun a hs => ?_
  rcases boolE (decide (x1.f2 < 1)) with h8 | h8
  ·have hs := hs.aB 39 h8
   refine pu hs 10 fun a hs => Qc ?_
   exact (hJ3 _ _).2 ⟨(hs.altB (b := true) 25 ((decide (x1.f1 < 0)) || ((decide (x1.f1 ≥ 4)) || ((decide (x1.f2 < 1)) || ((decide (x1.f3 < 1)) || (decide (x1.f3 > 24)))))) (by kernel_rfl) (by first | (rw [h6, h7, h8] <;> rfl) | (revert h6 h7 h8; simp +contextual))).cast [25] (by kernel_rfl), hw.pk [1]⟩
  have hs := hs.aB 39 h8
  refine pu hs 1 fun a hs => Qj hs (hw.at_ 0 rfl) 3 fun a hs => pn hs 3 [(1, (pt b1 0)), (44, .bool (decide (x1.f3 < 1)))] fun a hs => ?_
  rcases boolE (decide (x1.f3 < 1)) with h9 | h9
  ·have hs := hs.aB 44 h9
   refine pu hs 5 fun a hs => Qc ?_
   exact (hJ3 _ _).2 ⟨(hs.altB (b := true) 25 ((decide (x1.f1 < 0)) || ((decide (x1.f1 ≥ 4)) || ((decide (x1.f2 < 1)) || ((decide (x1.f3 < 1)) || (decide (x1.f3 > 24)))))) (by kernel_rfl) (by first | (rw [h6, h7, h8, h9] <;> rfl) | (revert h6 h7 h8 h9; simp +contextual))).cast [25] (by kernel_rfl), hw.pk [1]⟩
  have hs := hs.aB 44 h9
  refine pu hs 1 fun a hs => Qj hs (hw.at_ 0 rfl) 3 fun a hs => pu hs 3 fun a hs => Qc ?_
  exact (hJ3 _ _).2 ⟨(hs.altB (b := (decide (x1.f3 > 24))) 25 ((decide (x1.f1 < 0)) || ((decide (x1.f1 ≥ 4)) || ((decide (x1.f2 < 1)) || ((decide (x1.f3 < 1)) || (decide (x1.f3 > 24)))))) (by kernel_rfl) (by first | (rw [h6, h7, h8, h9] <;> rfl) | (revert h6 h7 h8 h9; simp +contextual))).cast [25] (by kernel_rfl), hw.pk [1]⟩
 intro a w hh
 obtain ⟨hs, hw⟩ := (hJ3 _ _).1 hh
 rcases ifbE hk with ⟨h10, hk⟩ | ⟨h10, hk⟩
 ·refine Qr hs h10 ?_
  refine Qd (Qa (pn hs 1 [(2, Qb 4)] fun a hs => ?_))
  refine Qc (Qi ?_)
  obtain rfl := someE hk
  exact qr1 hQ hs ⟨rfl, hw.pk [0]⟩
 refine Qs hs h10 ?_
 refine Qg (Qd (Qa (pn hs 1 [(2, Qb 0)] fun a hs => ?_)))
 refine Qc (Qi ?_)
 obtain rfl := someE hk
 exact qr1 hQ hs ⟨rfl, hw.pk [0]⟩
def Qed (x1 : M48) : Option Bool :=
 (QcW x1.f13).bind fun y1 =>
 some (y1 == 0)
theorem QhX {x1 : M48} {c1 c2 c3 c4 : Nat} {p1 p2 p3 p4 : Option Addr} {r : Bool} (hk : Qed x1 = some r) {g w : World} {F : Ch} {ih : IH} (h1 : RSl e3 ih [] p1 c1 x1.f14.f2) (h2 : RSl Qcf ih [] p2 c2 x1.f15) (h3 : RSl e96 ih [] p3 c3 x1.f16) (h4 : RSl e5 ih [] p4 c4 x1.f17) (hw : St g w [F] ih) :
  CallsR Tryz.prog 164 #[A48 x1 p1 c1 p2 c2 p3 c3 p4 c4] w fun v w' => v = .bool r ∧ St g w' [F] ih := by
 refine f_i Tryz.func164 rfl 7 rfl fun a Qf hQ hQn hs => ?_
 refine Qd (Qa (QC hs hw [Qb x1.f0, Qb x1.f1, Qb x1.f2, Qb x1.f3, Qe x1.f4, Qe x1.f5, Qe x1.f6, Qe x1.f7, Qe x1.f8, Qe x1.f9, Qb x1.f10, Qk x1.f11, Qb x1.f12, Qb x1.f13.f0, Qb x1.f13.f1, Qe x1.f13.f2, Qb x1.f13.f3, Qb x1.f14.f0, Qe x1.f14.f1, .slice p1 x1.f14.f2.length c1, .bool x1.f14.f3, Qb x1.f14.f4, .slice p2 x1.f15.length c2, .slice p3 x1.f16.length c3, .slice p4 x1.f17.length c4] 48 (fun b => (pt b 0)) (by kernel_rfl) (fun _ => by kernel_rfl) fun a w b1 hs hw => ?_))
 refine pn hs 1 [(1, (pt b1 0))] fun a hs => Qc (Qd (Qa (pu hs 1 fun a hs => ?_)))
 refine Qj hs (hw.at_ 0 rfl) 13 fun a hs => ?_
 obtain ⟨y1, h5, hk⟩ := bindE hk
 refine Qv hs (QgN h5 ((hw.pk [1]).pack 0)) fun a w v hv hs => ?_
 obtain ⟨rfl, hw⟩ := hv
 have hw := hw.unpack 0 rfl
 refine pn hs 2 [(2, .bool (y1 == 0))] fun a hs => Qc (Qi ?_)
 obtain rfl := someE hk
 exact qr1 hQ hs ⟨rfl, hw.pk [0]⟩
def Qec (k : Nat) (x1 : M48) : Option Bool :=
 (QdB k x1.f14).bind fun y1 =>
 some y1
theorem QhW {k : Nat} {x1 : M48} {c1 c2 c3 c4 : Nat} {p1 p2 p3 p4 : Option Addr} {r : Bool} (hk : Qec k x1 = some r) {g w : World} {F : Ch} {ih : IH} (h1 : RSl e3 ih [] p1 c1 x1.f14.f2) (h2 : RSl Qcf ih [] p2 c2 x1.f15) (h3 : RSl e96 ih [] p3 c3 x1.f16) (h4 : RSl e5 ih [] p4 c4 x1.f17) (hw : St g w [F] ih) :
  CallsR Tryz.prog 169 #[A48 x1 p1 c1 p2 c2 p3 c3 p4 c4] w fun v w' => v = .bool r ∧ St g w' [F] ih := by
 refine f_i Tryz.func169 rfl 6 rfl fun a Qf hQ hQn hs => ?_
 refine Qd (Qa (QC hs hw [Qb x1.f0, Qb x1.f1, Qb x1.f2, Qb x1.f3, Qe x1.f4, Qe x1.f5, Qe x1.f6, Qe x1.f7, Qe x1.f8, Qe x1.f9, Qb x1.f10, Qk x1.f11, Qb x1.f12, Qb x1.f13.f0, Qb x1.f13.f1, Qe x1.f13.f2, Qb x1.f13.f3, Qb x1.f14.f0, Qe x1.f14.f1, .slice p1 x1.f14.f2.length c1, .bool x1.f14.f3, Qb x1.f14.f4, .slice p2 x1.f15.length c2, .slice p3 x1.f16.length c3, .slice p4 x1.f17.length c4] 48 (fun b => (pt b 0)) (by kernel_rfl) (fun _ => by kernel_rfl) fun a w b1 hs hw => ?_))
 refine pn hs 1 [(1, (pt b1 0))] fun a hs => Qc (Qd (Qa (pu hs 1 fun a hs => ?_)))
 refine Qj hs (hw.at_ 0 rfl) 17 fun a hs => ?_
 obtain ⟨y1, h5, hk⟩ := bindE hk
 refine Qv hs (Qej h5 h1 ((hw.pk [1]).pack 0)) fun a w v hv hs => ?_
 obtain ⟨rfl, hw⟩ := hv
 have hw := hw.unpack 0 rfl
 refine pn hs 1 [(2, .bool y1)] fun a hs => Qc (Qi ?_)
 obtain rfl := someE hk
 exact qr1 hQ hs ⟨rfl, hw.pk [0]⟩
def Qgc (x1 : Int) : Option Bool :=
 some ((decide (x1 ≥ 1)) && (decide (x1 ≤ 5)))
theorem QiK {x1 : Int} {r : Bool} (hk : Qgc x1 = some r) {g w : World} {F : Ch} {ih : IH} (hw : St g w [F] ih) :
  CallsR Tryz.prog 158 #[Qb x1] w fun v w' => v = .bool r ∧ St g w' [F] ih := by
 refine f_i Tryz.func158 rfl 9 rfl fun a Qf hQ hQn hs => ?_
 refine Qd (Qa (pn hs 1 [(0, Qb x1)] fun a hs => ?_))
 refine Qc (Qd ?_)
 obtain ⟨J1, hJ1⟩ := mkJ fun a w => Sees a 9 [(2, .bool ((decide (x1 ≥ 1)) && (decide (x1 ≤ 5))))] ∧ St g w [F] ih
 refine Qn J1 ?_ ?_
 ·refine pu hs 3 fun a hs => ?_
  rcases boolE (decide (x1 ≥ 1)) with h1 | h1
  ·have hs := hs.aB 5 h1
   refine pu hs 4 fun a hs => Qc ?_
   exact (hJ1 _ _).2 ⟨(hs.bB 2 h1 (decide (x1 ≤ 5)) ((decide (x1 ≥ 1)) && (decide (x1 ≤ 5)))).cst, hw.pk [0]⟩
  have hs := hs.aB 5 h1
  refine pu hs 4 fun a hs => Qc ?_
  exact (hJ1 _ _).2 ⟨(hs.bB 2 h1 false ((decide (x1 ≥ 1)) && (decide (x1 ≤ 5)))).cst, hw.pk [0]⟩
 intro a w hh
 obtain ⟨hs, hw⟩ := (hJ1 _ _).1 hh
 refine Qi ?_
 obtain rfl := someE hk
 exact qr1 hQ hs ⟨rfl, hw.pk [0]⟩
def QgV (x1 : Bool) : Option Bool :=
 some x1
def QfJ (x1 : Int) : Option Bool :=
 (if (decide ((IntKind.u64.wrap (x1.tdiv 8)) ≥ 1)) = true then (
   if (decide ((IntKind.u64.wrap (x1.tdiv 8)) < 1152921504606846976)) = true then (
    (Qgc (IntKind.i64.wrap (x1.tmod 8))).bind fun y1 =>
    some y1)
   else some false)
  else some false : Option Bool).bind fun s1 => QgV s1
theorem Qhi {x1 : Int} {r : Bool} (hk : QfJ x1 = some r) {g w : World} {F : Ch} {ih : IH} (hw : St g w [F] ih) :
  CallsR Tryz.prog 138 #[Qe x1] w fun v w' => v = .bool r ∧ St g w' [F] ih := by
 refine f_i Tryz.func138 rfl 17 rfl fun a Qf hQ hQn hs => ?_
 refine Qd (Qa (pn hs 1 [(0, Qe x1)] fun a hs => ?_))
 refine Qc (Qd ?_)
 obtain ⟨y1, hx1, hk⟩ := bindE hk
 obtain ⟨J1, hJ1⟩ := mkJ fun a w => ∃ (x2 : Bool), QgV x2 = some r ∧ Sees a 17 [(2, .bool x2)] ∧ St g w [F] ih
 refine Qn J1 ?_ ?_
 ·refine pu hs 4 fun a hs => ?_
  rcases ifbE hx1 with ⟨h1, hx1⟩ | ⟨h1, hx1⟩
  ·have hs := hs.aB 6 h1
   refine pu hs 5 fun a hs => ?_
   rcases ifbE hx1 with ⟨h2, hx1⟩ | ⟨h2, hx1⟩
   ·have hs := hs.aB 11 h2
    refine pu hs 3 fun a hs => ?_
    obtain ⟨y2, h3, hx1⟩ := bindE hx1
    refine Qv hs (QiK h3 ((hw.pk [0]).pack 0)) fun a w v hv hs => ?_
    obtain ⟨rfl, hw⟩ := hv
    have hw := hw.unpack 0 rfl
    refine pu hs 2 fun a hs => Qc ?_
    obtain rfl := someE hx1
    exact (hJ1 _ _).2 ⟨y2, hk, hs.cst, hw.pk [0]⟩
   have hs := hs.aB 11 h2
   refine pu hs 6 fun a hs => Qc ?_
   obtain rfl := someE hx1
   exact (hJ1 _ _).2 ⟨false, hk, hs.cst, hw.pk [0]⟩
  have hs := hs.aB 6 h1
  refine pu hs 11 fun a hs => Qc ?_
  obtain rfl := someE hx1
  exact (hJ1 _ _).2 ⟨false, hk, hs.cst, hw.pk [0]⟩
 intro a w hh
 obtain ⟨x2, hk, hs, hw⟩ := (hJ1 _ _).1 hh
 refine Qi ?_
 obtain rfl := someE hk
 exact qr1 hQ hs ⟨rfl, hw.pk [0]⟩
def Qeq (x1 : List M156) : Option Bool :=
 some (decide ((x1.length : Int) ≤ 512))
def Qdn (rec_letter_votes_l13 : Int → Option (Sum Bool Unit)) (x1 : Int) (x2 : Bool) : Option (Sum Bool Unit) :=
 if x2 = true then some (.inl false)
 else rec_letter_votes_l13 (IntKind.i64.wrap (x1 + 1))
def letter_votes_l13 (x1 : List M156) : Nat → Int → Option (Sum Bool Unit)
 | 0, _ => none
 | j + 1, x2 =>
  if (decide (x2 < (x1.length : Int))) = true then (
   (ix x1 x2).bind fun x3 =>
   (if (decide (x3.f0 < 0)) = true then some true
    else if (decide (x3.f0 ≥ 512)) = true then some true
    else if (decide (x2 > 0)) = true then (
     (ix x1 (IntKind.i64.wrap (x2 - 1))).bind fun x4 =>
     if (decide (x3.f0 ≤ x4.f0)) = true then some true
     else (QfJ x3.f1).bind fun y1 =>
     if (!y1) = true then some true
     else (QcW x3.f2).bind fun y2 =>
     some (y2 != 0))
    else (QfJ x3.f1).bind fun y3 =>
    if (!y3) = true then some true
    else (QcW x3.f2).bind fun y4 =>
    some (y4 != 0) : Option Bool).bind fun s1 => Qdn (letter_votes_l13 x1 j) x2 s1)
  else some (.inr ())
def Qfj (k : Nat) (x1 : List M156) : Option Bool :=
 (letter_votes_l13 x1 k 0 : Option (Sum Bool Unit)).bind fun
  | .inl z => some z
  | .inr _ => Qeq x1
theorem QiS {k : Nat} {x1 : List M156} {d1 : Ch} {c1 : Nat} {p1 : Option Addr} {r : Bool} (hk : Qfj k x1 = some r) {g w : World} {F : Ch} {ih : IH} (h1 : RSl Qcf ih d1 p1 c1 x1) (h2 : ∀ q ∈ d1, q ∈ F) (hw : St g w [F] ih) :
  CallsR Tryz.prog 174 #[.slice p1 x1.length c1] w fun v w' => v = .bool r ∧ St g w' [F] ih := by
 refine f_i Tryz.func174 rfl 51 rfl fun a Qf hQ hQn hs => ?_
 refine Qd (Qa (pn hs 1 [(0, .slice p1 x1.length c1)] fun a hs => ?_))
 refine Qc (Qd (Qd (Qa (pn hs 3 [(0, .slice p1 x1.length c1), (5, .slice p1 x1.length c1), (6, Qb (x1.length : Int)), (7, Qb 0)] fun a hs => ?_))))
 refine Qc (Ql ?_)
 obtain ⟨y1, hx1, hk⟩ := bindE hk
 obtain ⟨J1, hJ1⟩ := mkJ fun a w => Qeq x1 = some r ∧ Sees a 51 [(0, .slice p1 x1.length c1)] ∧ St g w [F] ih
 obtain ⟨I1, hI1⟩ := QhB fun j a w => ∃ (x2 : Int), letter_votes_l13 x1 j x2 = some y1 ∧ Sees a 51 [(0, .slice p1 x1.length c1), (5, .slice p1 x1.length c1), (6, Qb (x1.length : Int)), (7, Qb x2)] ∧ St g w [F] ih
 refine Qau 0 J1 ?_ ?_
 ·refine QbO I1 k ((hI1 _ _ _).2 ⟨0, hx1, hs.cst, hw.pk [0]⟩) (fun a w h3 => ?_) fun j a w hh => ?_
  ·obtain ⟨_, h, _⟩ := (hI1 _ _ _).1 h3
   cases h
  obtain ⟨x2, hx1, hs, hw⟩ := (hI1 _ _ _).1 hh
  refine Qd (Qa (pn hs 1 [(0, .slice p1 x1.length c1), (5, .slice p1 x1.length c1), (6, Qb (x1.length : Int)), (7, Qb x2), (8, .bool (decide (x2 < (x1.length : Int))))] fun a hs => ?_))
  refine Qc (Qd ?_)
  rcases ifbE hx1 with ⟨h4, hx1⟩ | ⟨h4, hx1⟩
  ·refine Qr hs h4 ?_
   refine Qg (Qd (Ql (Qd (Qa (pu hs 1 fun a hs => ?_)))))
   obtain ⟨x3, h5, hx1⟩ := bindE hx1
   refine QbT hs h1 (by kernel_rfl) (by kernel_rfl) (k := .i64) (by kernel_rfl) 156 (by kernel_rfl) (by kernel_rfl) h5 fun a r565 cs henc at566 hs => ?_
   obtain rfl := henc
   refine Qj hs (at566 _ (((hw.vw 0 rfl).sub h2).anti (Le.refl _))) 0 fun a hs => QaN hs hw [Qb 0, Qe 0, Qb 0, Qb 0, Qe 0, Qb 0] 156 (fun b => (pt b 0)) fun a w b1 hs hw => ?_
   refine pu hs 1 fun a hs => QE hs hw 0 rfl 0 (v := Qnp x3) fun a w hs hw => ?_
   have hs := hs.cst (e' := [(0, .slice p1 x1.length c1), (5, .slice p1 x1.length c1), (6, Qb (x1.length : Int)), (7, Qb x2), (4, (pt b1 0)), (3, Qb x2)])
   refine Qc (Qd ?_)
   have hw := hw.cL [k35 b1 x3.f0 x3.f1 x3.f2.f0 x3.f2.f1 x3.f2.f2 x3.f2.f3, F]
   obtain ⟨S, hD, kS⟩ := mkSXw hw [[], []] (K := []) rfl
   obtain ⟨y2, hx2, hx1⟩ := bindE hx1
   obtain ⟨J2, hJ2⟩ := mkJ fun a w => ∃ (x4 : Bool), Qdn (letter_votes_l13 x1 j) x2 x4 = some y1 ∧ Sees a 51 [(0, .slice p1 x1.length c1), (5, .slice p1 x1.length c1), (6, Qb (x1.length : Int)), (7, Qb x2), (46, .bool x4)] ∧ St g w [F] ih
   refine Qo (by kernel_rfl) (N := 35) rfl S J2 ?_ ?_
   ·have hw := hw.drew
    have hS : S (bA 35 0) _ := SXn hD (hw.vws [0, 1])
    refine Qp (fuel := 34) kS hs hS [0] fun a hs hS => ?_
    refine Qy kS hs hS 1 rfl (SXb hD 0 rfl) 0 fun a hs hS => ?_
    refine Qp (fuel := 31) kS hs hS [2, 3] fun a hs hS => ?_
    rcases ifbE hx2 with ⟨h6, hx2⟩ | ⟨h6, hx2⟩
    ·have hs := hs.aB 15 h6
     refine Qu kS hs hS fun a hs => ?_
     obtain rfl := someE hx2
     exact (hJ2 _ _).2 ⟨true, hx1, hs.cst, hw.pk [1]⟩
    have hs := hs.aB 15 h6
    refine Qp (fuel := 30) kS hs hS [4] fun a hs hS => ?_
    refine Qy kS hs hS 5 rfl (SXb hD 0 rfl) 0 fun a hs hS => ?_
    refine Qff (fuel := 26) kS hs hS [6, 7, 8] [(0, .slice p1 x1.length c1), (5, .slice p1 x1.length c1), (6, Qb (x1.length : Int)), (7, Qb x2), (4, (pt b1 0)), (3, Qb x2), (20, .bool (decide (x3.f0 ≥ 512)))] fun a hs hS => ?_
    rcases ifbE hx2 with ⟨h7, hx2⟩ | ⟨h7, hx2⟩
    ·have hs := hs.aB 20 h7
     refine Qu kS hs hS fun a hs => ?_
     obtain rfl := someE hx2
     exact (hJ2 _ _).2 ⟨true, hx1, hs.cst, hw.pk [1]⟩
    have hs := hs.aB 20 h7
    refine Qp (fuel := 23) kS hs hS [9, 10, 11] fun a hs hS => ?_
    rcases ifbE hx2 with ⟨h8, hx2⟩ | ⟨h8, hx2⟩
    ·have hs := hs.aB 23 h8
     refine Qp (fuel := 22) kS hs hS [12] fun a hs hS => ?_
     refine Qy kS hs hS 13 rfl (SXb hD 0 rfl) 0 fun a hs hS => ?_
     refine Qp (fuel := 18) kS hs hS [14, 15, 16] fun a hs hS => ?_
     obtain ⟨x5, h9, hx2⟩ := bindE hx2
     refine Qay (fuel := 17) kS hs hS 17 rfl (by kernel_rfl) h1 (by kernel_rfl) (by kernel_rfl) (k := .i64) (by kernel_rfl) 156 (by kernel_rfl) (by kernel_rfl) h9 fun a r616 cs henc at617 hs hS => ?_
     refine Qgn hS fun hS => ?_
     obtain rfl := henc
     refine Qp (fuel := 16) kS hs hS [18] fun a hs hS => ?_
     refine Qy kS hs hS 19 rfl (fun l w hu hS => at617 w (((Qfi hD 1 rfl (by kernel_rfl) l w hu hS).sub h2).anti (Le.refl _))) 0 fun a hs hS => ?_
     refine Qff (fuel := 11) kS hs hS [20, 21, 22, 23] [(0, .slice p1 x1.length c1), (5, .slice p1 x1.length c1), (6, Qb (x1.length : Int)), (7, Qb x2), (4, (pt b1 0)), (35, .bool (decide (x3.f0 ≤ x5.f0)))] fun a hs hS => ?_
     rcases ifbE hx2 with ⟨h10, hx2⟩ | ⟨h10, hx2⟩
     ·have hs := hs.aB 35 h10
      refine Qu kS hs hS fun a hs => ?_
      obtain rfl := someE hx2
      exact (hJ2 _ _).2 ⟨true, hx1, hs.cst, hw.pk [1]⟩
     have hs := hs.aB 35 h10
     refine Qp (fuel := 10) kS hs hS [24] fun a hs hS => ?_
     refine Qy kS hs hS 25 rfl (SXb hD 0 rfl) 1 fun a hs hS => ?_
     refine QF [26] (QH ?_)
     obtain ⟨y3, h11, hx2⟩ := bindE hx2
     refine QaR hs rfl (Qhi h11 ((hw.pk [0, 1]).pack 0)) fun a w v hv hs => ?_
     obtain ⟨rfl, hw⟩ := hv
     have hw := hw.unpack 0 rfl
     refine nx hD ((hw.vws [0, 1]).anti (Le.refl _)) fun hS => ?_
     refine Qp (fuel := 5) kS hs hS [27, 28, 29] fun a hs hS => ?_
     rcases ifbE hx2 with ⟨h12, hx2⟩ | ⟨h12, hx2⟩
     ·have hs := hs.aB 41 h12
      refine Qu kS hs hS fun a hs => ?_
      obtain rfl := someE hx2
      exact (hJ2 _ _).2 ⟨true, hx1, hs.cst, hw.pk [1]⟩
     have hs := hs.aB 41 h12
     refine Qp (fuel := 4) kS hs hS [30] fun a hs hS => ?_
     refine Qy kS hs hS 31 rfl (SXb hD 0 rfl) 2 fun a hs hS => ?_
     refine QF [32] (QH ?_)
     obtain ⟨y4, h13, hx2⟩ := bindE hx2
     refine QaR hs rfl (QgN h13 ((hw.pk [0, 1]).pack 0)) fun a w v hv hs => ?_
     obtain ⟨rfl, hw⟩ := hv
     have hw := hw.unpack 0 rfl
     refine nx hD ((hw.vws [0, 1]).anti (Le.refl _)) fun hS => ?_
     refine Qu kS hs hS fun a hs => ?_
     obtain rfl := someE hx2
     exact (hJ2 _ _).2 ⟨(y4 != 0), hx1, hs.cst, hw.pk [1]⟩
    have hs := hs.aB 23 h8
    refine Qp (fuel := 10) kS hs hS [12, 13, 14, 15, 16, 17, 18, 19, 20, 21, 22, 23, 24] fun a hs hS => ?_
    refine Qy kS hs hS 25 rfl (SXb hD 0 rfl) 1 fun a hs hS => ?_
    refine QF [26] (QH ?_)
    obtain ⟨y5, h14, hx2⟩ := bindE hx2
    refine QaR hs rfl (Qhi h14 ((hw.pk [0, 1]).pack 0)) fun a w v hv hs => ?_
    obtain ⟨rfl, hw⟩ := hv
    have hw := hw.unpack 0 rfl
    refine nx hD ((hw.vws [0, 1]).anti (Le.refl _)) fun hS => ?_
    refine Qp (fuel := 5) kS hs hS [27, 28, 29] fun a hs hS => ?_
    rcases ifbE hx2 with ⟨h15, hx2⟩ | ⟨h15, hx2⟩
    ·have hs := hs.aB 41 h15
     refine Qu kS hs hS fun a hs => ?_
     obtain rfl := someE hx2
     exact (hJ2 _ _).2 ⟨true, hx1, hs.cst, hw.pk [1]⟩
    have hs := hs.aB 41 h15
    refine Qp (fuel := 4) kS hs hS [30] fun a hs hS => ?_
    refine Qy kS hs hS 31 rfl (SXb hD 0 rfl) 2 fun a hs hS => ?_
    refine QF [32] (QH ?_)
    obtain ⟨y6, h16, hx2⟩ := bindE hx2
    refine QaR hs rfl (QgN h16 ((hw.pk [0, 1]).pack 0)) fun a w v hv hs => ?_
    obtain ⟨rfl, hw⟩ := hv
    have hw := hw.unpack 0 rfl
    refine nx hD ((hw.vws [0, 1]).anti (Le.refl _)) fun hS => ?_
    refine Qu kS hs hS fun a hs => ?_
    obtain rfl := someE hx2
    exact (hJ2 _ _).2 ⟨(y6 != 0), hx1, hs.cst, hw.pk [1]⟩
   intro a w hh
   obtain ⟨x4, hx1, hs, hw⟩ := (hJ2 _ _).1 hh
   rcases ifbE hx1 with ⟨h17, hx1⟩ | ⟨h17, hx1⟩
   ·refine Qr hs h17 ?_
    refine Qd (Qa (pn hs 1 [(2, .bool false)] fun a hs => ?_))
    refine Qc (Qi ?_)
    obtain rfl := someE hx1
    obtain rfl := someE hk
    exact qr1 hQ hs ⟨rfl, hw.pk [0]⟩
   refine Qs hs h17 ?_
   refine Qg (Qa (pu hs 2 fun a hs => ?_))
   refine Qc ?_
   exact (hI1 _ _ _).2 ⟨(IntKind.i64.wrap (x2 + 1)), hx1, hs.cst, hw.pk [0]⟩
  refine Qs hs h4 (Qa3 ?_)
  obtain rfl := someE hx1
  exact (hJ1 _ _).2 ⟨hk, hs.cst, hw.pk [0]⟩
 intro a w hh
 obtain ⟨hk, hs, hw⟩ := (hJ1 _ _).1 hh
 refine Qd (Qa (pn hs 4 [(2, .bool (decide ((x1.length : Int) ≤ 512)))] fun a hs => ?_))
 refine Qc (Qi ?_)
 obtain rfl := someE hk
 exact qr1 hQ hs ⟨rfl, hw.pk [0]⟩
def QdK (k : Nat) (x1 : M48) : Option Bool :=
 (Qfj k x1.f15).bind fun y1 =>
 some y1
theorem QhD {k : Nat} {x1 : M48} {c1 c2 c3 c4 : Nat} {p1 p2 p3 p4 : Option Addr} {r : Bool} (hk : QdK k x1 = some r) {g w : World} {F : Ch} {ih : IH} (h1 : RSl e3 ih [] p1 c1 x1.f14.f2) (h2 : RSl Qcf ih [] p2 c2 x1.f15) (h3 : RSl e96 ih [] p3 c3 x1.f16) (h4 : RSl e5 ih [] p4 c4 x1.f17) (hw : St g w [F] ih) :
  CallsR Tryz.prog 173 #[A48 x1 p1 c1 p2 c2 p3 c3 p4 c4] w fun v w' => v = .bool r ∧ St g w' [F] ih := by
 refine f_i Tryz.func173 rfl 6 rfl fun a Qf hQ hQn hs => ?_
 refine Qd (Qa (QC hs hw [Qb x1.f0, Qb x1.f1, Qb x1.f2, Qb x1.f3, Qe x1.f4, Qe x1.f5, Qe x1.f6, Qe x1.f7, Qe x1.f8, Qe x1.f9, Qb x1.f10, Qk x1.f11, Qb x1.f12, Qb x1.f13.f0, Qb x1.f13.f1, Qe x1.f13.f2, Qb x1.f13.f3, Qb x1.f14.f0, Qe x1.f14.f1, .slice p1 x1.f14.f2.length c1, .bool x1.f14.f3, Qb x1.f14.f4, .slice p2 x1.f15.length c2, .slice p3 x1.f16.length c3, .slice p4 x1.f17.length c4] 48 (fun b => (pt b 0)) (by kernel_rfl) (fun _ => by kernel_rfl) fun a w b1 hs hw => ?_))
 refine pn hs 1 [(1, (pt b1 0))] fun a hs => Qc (Qd (Qa (pu hs 1 fun a hs => ?_)))
 refine Qj hs (hw.at_ 0 rfl) 22 fun a hs => ?_
 obtain ⟨y1, h5, hk⟩ := bindE hk
 refine Qv hs (QiS h5 h2 (nilSub _) ((hw.pk [1]).pack 0)) fun a w v hv hs => ?_
 obtain ⟨rfl, hw⟩ := hv
 have hw := hw.unpack 0 rfl
 refine pn hs 1 [(2, .bool y1)] fun a hs => Qc (Qi ?_)
 obtain rfl := someE hk
 exact qr1 hQ hs ⟨rfl, hw.pk [0]⟩
def Qbc (x1 : M96) (x2 : Bool) : Option Bool :=
 if ((!(x2 == (x1.f0 == 0))) || ((decide (x1.f1 < 1)) || ((decide (x1.f1 > 6)) || (decide (x1.f2 < 1))))) = true then some false
 else if (bif (x1.f3 == 2) then ((x1.f5 != 0) || ((x1.f3 != 2) && (x1.f3 != 3))) else ((x1.f3 != 2) && (x1.f3 != 3))) = true then some false
 else some (decide ((x1.f6.length : Int) ≤ 2048))
theorem Qio {x1 : M96} {x2 : Bool} {c1 : Nat} {p1 : Option Addr} {r : Bool} (hk : Qbc x1 x2 = some r) {g w : World} {F : Ch} {ih : IH} (h1 : RSl e5 ih [] p1 c1 x1.f6) (hw : St g w [F] ih) :
  CallsR Tryz.prog 201 #[A96 x1 p1 c1, .bool x2] w fun v w' => v = .bool r ∧ St g w' [F] ih := by
 refine f_i Tryz.func201 rfl 49 rfl fun a Qf hQ hQn hs => ?_
 refine Qd (Qa (QC hs hw [Qe x1.f0, Qb x1.f1, Qe x1.f2, Qb x1.f3, Qk x1.f4, Qe x1.f5, .slice p1 x1.f6.length c1] 96 (fun b => (pt b 0)) (by kernel_rfl) (fun _ => by kernel_rfl) fun a w b1 hs hw => ?_))
 refine pn hs 1 [(1, .bool x2), (2, (pt b1 0))] fun a hs => Qc (Qd (Ql (Qd ?_)))
 obtain ⟨J1, hJ1⟩ := mkJ fun a w => Sees a 49 [(2, (pt b1 0)), (5, .bool ((!(x2 == (x1.f0 == 0))) || ((decide (x1.f1 < 1)) || ((decide (x1.f1 > 6)) || (decide (x1.f2 < 1))))))] ∧ St g w [k9 b1 x1.f0 x1.f1 x1.f2 x1.f3 x1.f4 x1.f5 p1 x1.f6 c1, F] ih
 refine Qn J1 ?_ ?_
 ·refine pu hs 2 fun a hs => Qj hs (hw.at_ 0 rfl) 0 fun a hs => pu hs 3 fun a hs => ?_
  rcases boolE (!(x2 == (x1.f0 == 0))) with h2 | h2
  ·have hs := hs.aB 11 h2
   refine pu hs 15 fun a hs => Qc ?_
   exact (hJ1 _ _).2 ⟨(hs.bB 5 h2 true ((!(x2 == (x1.f0 == 0))) || ((decide (x1.f1 < 1)) || ((decide (x1.f1 > 6)) || (decide (x1.f2 < 1)))))).cst, hw.pk [0, 1]⟩
  have hs := hs.aB 11 h2
  refine pu hs 1 fun a hs => Qj hs (hw.at_ 0 rfl) 1 fun a hs => pn hs 3 [(2, (pt b1 0)), (16, .bool (decide (x1.f1 < 1)))] fun a hs => ?_
  rcases boolE (decide (x1.f1 < 1)) with h3 | h3
  ·have hs := hs.aB 16 h3
   refine pu hs 10 fun a hs => Qc ?_
   exact (hJ1 _ _).2 ⟨(hs.altB (b := true) 5 ((!(x2 == (x1.f0 == 0))) || ((decide (x1.f1 < 1)) || ((decide (x1.f1 > 6)) || (decide (x1.f2 < 1))))) (by kernel_rfl) (by first | (rw [h2, h3] <;> rfl) | (revert h2 h3; simp +contextual))).cast [2, 5] (by kernel_rfl), hw.pk [0, 1]⟩
  have hs := hs.aB 16 h3
  refine pu hs 1 fun a hs => Qj hs (hw.at_ 0 rfl) 1 fun a hs => pu hs 3 fun a hs => ?_
  rcases boolE (decide (x1.f1 > 6)) with h4 | h4
  ·have hs := hs.aB 21 h4
   refine pu hs 5 fun a hs => Qc ?_
   exact (hJ1 _ _).2 ⟨(hs.altB (b := true) 5 ((!(x2 == (x1.f0 == 0))) || ((decide (x1.f1 < 1)) || ((decide (x1.f1 > 6)) || (decide (x1.f2 < 1))))) (by kernel_rfl) (by first | (rw [h2, h3, h4] <;> rfl) | (revert h2 h3 h4; simp +contextual))).cast [2, 5] (by kernel_rfl), hw.pk [0, 1]⟩
  have hs := hs.aB 21 h4
  refine pu hs 1 fun a hs => Qj hs (hw.at_ 0 rfl) 2 fun a hs => pn hs 3 [(2, (pt b1 0)), (5, .bool (decide (x1.f2 < 1)))] fun a hs => Qc ?_
  exact (hJ1 _ _).2 ⟨(hs.altB (b := (decide (x1.f2 < 1))) 5 ((!(x2 == (x1.f0 == 0))) || ((decide (x1.f1 < 1)) || ((decide (x1.f1 > 6)) || (decide (x1.f2 < 1))))) (by kernel_rfl) (by first | (rw [h2, h3, h4] <;> rfl) | (revert h2 h3 h4; simp +contextual))).cast [2, 5] (by kernel_rfl), hw.pk [0, 1]⟩
 intro a w hh
 obtain ⟨hs, hw⟩ := (hJ1 _ _).1 hh
 rcases ifbE hk with ⟨h5, hk⟩ | ⟨h5, hk⟩
 ·refine Qr hs h5 ?_
  refine Qd (Qa (pn hs 1 [(4, .bool false)] fun a hs => ?_))
  refine Qc (Qi ?_)
  obtain rfl := someE hk
  exact qr1 hQ hs ⟨rfl, hw.pk [1]⟩
 refine Qs hs h5 (Qd ?_)
 obtain ⟨J2, hJ2⟩ := mkJ fun a w => Sees a 49 [(2, (pt b1 0)), (26, .bool (bif (x1.f3 == 2) then ((x1.f5 != 0) || ((x1.f3 != 2) && (x1.f3 != 3))) else ((x1.f3 != 2) && (x1.f3 != 3))))] ∧ St g w [k9 b1 x1.f0 x1.f1 x1.f2 x1.f3 x1.f4 x1.f5 p1 x1.f6 c1, F] ih
 refine Qn J2 ?_ ?_
 ·refine pu hs 1 fun a hs => Qj hs (hw.at_ 0 rfl) 3 fun a hs => pu hs 2 fun a hs => ?_
  rcases boolE (x1.f3 == 2) with h6 | h6
  ·have hs := hs.aB 30 h6
   refine pu hs 1 fun a hs => Qj hs (hw.at_ 0 rfl) 5 fun a hs => pn hs 3 [(2, (pt b1 0)), (35, .bool (x1.f5 != 0))] fun a hs => ?_
   rcases boolE (x1.f5 != 0) with h7 | h7
   ·have hs := hs.aB 35 h7
    refine pu hs 10 fun a hs => Qc ?_
    exact (hJ2 _ _).2 ⟨(hs.altB (b := true) 26 (bif (x1.f3 == 2) then ((x1.f5 != 0) || ((x1.f3 != 2) && (x1.f3 != 3))) else ((x1.f3 != 2) && (x1.f3 != 3))) (by kernel_rfl) (by first | (rw [h6, h7] <;> rfl) | (revert h6 h7; simp +contextual))).cast [2, 26] (by kernel_rfl), hw.pk [0, 1]⟩
   have hs := hs.aB 35 h7
   refine pu hs 1 fun a hs => Qj hs (hw.at_ 0 rfl) 3 fun a hs => pu hs 2 fun a hs => ?_
   rcases boolE (x1.f3 != 2) with h8 | h8
   ·have hs := hs.aB 39 h8
    refine pu hs 1 fun a hs => Qj hs (hw.at_ 0 rfl) 3 fun a hs => pn hs 4 [(2, (pt b1 0)), (26, .bool (x1.f3 != 3))] fun a hs => Qc ?_
    exact (hJ2 _ _).2 ⟨(hs.altB (b := (x1.f3 != 3)) 26 (bif (x1.f3 == 2) then ((x1.f5 != 0) || ((x1.f3 != 2) && (x1.f3 != 3))) else ((x1.f3 != 2) && (x1.f3 != 3))) (by kernel_rfl) (by first | (rw [h6, h7, h8] <;> rfl) | (revert h6 h7 h8; simp +contextual))).cast [2, 26] (by kernel_rfl), hw.pk [0, 1]⟩
   have hs := hs.aB 39 h8
   refine pu hs 6 fun a hs => Qc ?_
   exact (hJ2 _ _).2 ⟨(hs.altB (b := false) 26 (bif (x1.f3 == 2) then ((x1.f5 != 0) || ((x1.f3 != 2) && (x1.f3 != 3))) else ((x1.f3 != 2) && (x1.f3 != 3))) (by kernel_rfl) (by first | (rw [h6, h7, h8] <;> rfl) | (revert h6 h7 h8; simp +contextual))).cast [2, 26] (by kernel_rfl), hw.pk [0, 1]⟩
  have hs := hs.aB 30 h6
  refine pu hs 6 fun a hs => Qj hs (hw.at_ 0 rfl) 3 fun a hs => pn hs 2 [(2, (pt b1 0)), (35, .bool false), (39, .bool (x1.f3 != 2))] fun a hs => ?_
  rcases boolE (x1.f3 != 2) with h9 | h9
  ·have hs := hs.aB 39 h9
   refine pu hs 1 fun a hs => Qj hs (hw.at_ 0 rfl) 3 fun a hs => pu hs 4 fun a hs => Qc ?_
   exact (hJ2 _ _).2 ⟨(hs.altB (b := (x1.f3 != 3)) 26 (bif (x1.f3 == 2) then ((x1.f5 != 0) || ((x1.f3 != 2) && (x1.f3 != 3))) else ((x1.f3 != 2) && (x1.f3 != 3))) (by kernel_rfl) (by first | (rw [h6, h9] <;> rfl) | (revert h6 h9; simp +contextual))).cast [2, 26] (by kernel_rfl), hw.pk [0, 1]⟩
  have hs := hs.aB 39 h9
  refine pu hs 6 fun a hs => Qc ?_
  exact (hJ2 _ _).2 ⟨(hs.altB (b := false) 26 (bif (x1.f3 == 2) then ((x1.f5 != 0) || ((x1.f3 != 2) && (x1.f3 != 3))) else ((x1.f3 != 2) && (x1.f3 != 3))) (by kernel_rfl) (by first | (rw [h6, h9] <;> rfl) | (revert h6 h9; simp +contextual))).cast [2, 26] (by kernel_rfl), hw.pk [0, 1]⟩
 intro a w hh
 obtain ⟨hs, hw⟩ := (hJ2 _ _).1 hh
 rcases ifbE hk with ⟨h10, hk⟩ | ⟨h10, hk⟩
 ·refine Qr hs h10 ?_
  refine Qd (Qa (pn hs 1 [(4, .bool false)] fun a hs => ?_))
  refine Qc (Qi ?_)
  obtain rfl := someE hk
  exact qr1 hQ hs ⟨rfl, hw.pk [1]⟩
 refine Qs hs h10 ?_
 refine Qg (Qd (Qa (pu hs 1 fun a hs => ?_)))
 refine Qj hs (hw.at_ 0 rfl) 6 fun a hs => pn hs 3 [(4, .bool (decide ((x1.f6.length : Int) ≤ 2048)))] fun a hs => Qc (Qi ?_)
 obtain rfl := someE hk
 exact qr1 hQ hs ⟨rfl, hw.pk [1]⟩
def Qer (x1 : M96) (x2 : Bool) : Option Bool :=
 (Qbc x1 x2).bind fun y1 =>
 some (!y1)
theorem Qhr {x1 : M96} {x2 : Bool} {c1 b1 : Nat} {p1 : Option Addr} {r : Bool} (hk : Qer x1 x2 = some r) {g w : World} {F : Ch} {ih : IH} (h1 : RSl e5 ih [] p1 c1 x1.f6) (hw : St g w [bx b1 [.bool x2] 4, F] ih) :
  CallsR Tryz.prog 200 #[A96 x1 p1 c1, (pt b1 0)] w fun v w' => v = .bool r ∧ St g w' [bx b1 [.bool x2] 4, F] ih := by
 refine f_i Tryz.func200 rfl 8 rfl fun a Qf hQ hQn hs => ?_
 refine Qd (Qa (QC hs hw [Qe x1.f0, Qb x1.f1, Qe x1.f2, Qb x1.f3, Qk x1.f4, Qe x1.f5, .slice p1 x1.f6.length c1] 96 (fun b => (pt b 0)) (by kernel_rfl) (fun _ => by kernel_rfl) fun a w b2 hs hw => ?_))
 refine pn hs 1 [(1, (pt b1 0)), (2, (pt b2 0))] fun a hs => Qc (Qd (Qa (Qj hs (hw.at_ 0 rfl) 0 fun a hs => ?_)))
 refine Qj hs (hw.at_ 1 rfl) 0 fun a hs => ?_
 obtain ⟨y1, h2, hk⟩ := bindE hk
 refine Qv hs (Qio h2 h1 ((hw.pk [1, 2]).pack 0)) fun a w v hv hs => ?_
 obtain ⟨rfl, hw⟩ := hv
 have hw := hw.unpack 0 rfl
 refine pn hs 2 [(3, .bool (!y1))] fun a hs => Qc (Qi ?_)
 obtain rfl := someE hk
 exact qr1 hQ hs ⟨rfl, hw.pk [0, 1]⟩
def Qap : Option Int :=
 some (-1)
def slices_IndexFunc_api_Update_api_Update_l4 (x1 : List M96) (x2 : Bool) : Nat → Int → Option (Sum Int Unit)
 | 0, _ => none
 | j + 1, x3 =>
  if (decide (x3 < (x1.length : Int))) = true then (
   (ix x1 x3).bind fun x4 =>
   (Qer x4 x2).bind fun y1 =>
   if y1 = true then some (.inl x3)
   else slices_IndexFunc_api_Update_api_Update_l4 x1 x2 j (IntKind.i64.wrap (x3 + 1)))
  else some (.inr ())
def QY (k : Nat) (x1 : List M96) (x2 : Bool) : Option Int :=
 (slices_IndexFunc_api_Update_api_Update_l4 x1 x2 k 0 : Option (Sum Int Unit)).bind fun
  | .inl z => some z
  | .inr _ => Qap
theorem Qcx {k : Nat} {x1 : List M96} {x2 : Bool} {d1 : Ch} {c1 b1 : Nat} {p1 : Option Addr} {r : Int} (hk : QY k x1 x2 = some r) {g w : World} {F : Ch} {ih : IH} (h1 : RSl e96 ih d1 p1 c1 x1) (h2 : ∀ q ∈ d1, q ∈ F) (hw : St g w [bx b1 [.bool x2] 4, F] ih) :
  CallsR Tryz.prog 214 #[.slice p1 x1.length c1, .func (.func 200) #[] #[(pt b1 0)]] w fun v w' => v = Qb r ∧ St g w' [bx b1 [.bool x2] 4, F] ih := by
 refine f_i Tryz.func214 rfl 19 rfl fun a Qf hQ hQn hs => ?_
 refine Qd (Qa (pn hs 1 [(0, .slice p1 x1.length c1), (1, .func (.func 200) #[] #[(pt b1 0)])] fun a hs => ?_))
 refine Qc (Qd (Qd (Qa (pn hs 3 [(0, .slice p1 x1.length c1), (1, .func (.func 200) #[] #[(pt b1 0)]), (7, Qb (x1.length : Int)), (8, Qb 0)] fun a hs => ?_))))
 refine Qc (Ql ?_)
 obtain ⟨y1, hx1, hk⟩ := bindE hk
 obtain ⟨J1, hJ1⟩ := mkJ fun a w => Qap = some r ∧ Sees a 19 [] ∧ St g w [bx b1 [.bool x2] 4, F] ih
 obtain ⟨I1, hI1⟩ := QhB fun j a w => ∃ (x3 : Int), slices_IndexFunc_api_Update_api_Update_l4 x1 x2 j x3 = some y1 ∧ Sees a 19 [(0, .slice p1 x1.length c1), (1, .func (.func 200) #[] #[(pt b1 0)]), (7, Qb (x1.length : Int)), (8, Qb x3)] ∧ St g w [bx b1 [.bool x2] 4, F] ih
 refine Qau 0 J1 ?_ ?_
 ·refine QbO I1 k ((hI1 _ _ _).2 ⟨0, hx1, hs.cst, hw.pk [0, 1]⟩) (fun a w h3 => ?_) fun j a w hh => ?_
  ·obtain ⟨_, h, _⟩ := (hI1 _ _ _).1 h3
   cases h
  obtain ⟨x3, hx1, hs, hw⟩ := (hI1 _ _ _).1 hh
  refine Qd (Qa (pn hs 1 [(0, .slice p1 x1.length c1), (1, .func (.func 200) #[] #[(pt b1 0)]), (7, Qb (x1.length : Int)), (8, Qb x3), (9, .bool (decide (x3 < (x1.length : Int))))] fun a hs => ?_))
  refine Qc (Qd ?_)
  rcases ifbE hx1 with ⟨h4, hx1⟩ | ⟨h4, hx1⟩
  ·refine Qr hs h4 ?_
   refine Qg (Qd (Ql (Qd (Qa (pn hs 2 [(0, .slice p1 x1.length c1), (1, .func (.func 200) #[] #[(pt b1 0)]), (7, Qb (x1.length : Int)), (8, Qb x3), (5, Qb x3)] fun a hs => ?_)))))
   refine Qc (Qd (Qa (pu hs 3 fun a hs => ?_)))
   obtain ⟨x4, h5, hx1⟩ := bindE hx1
   refine QbT hs h1 (by kernel_rfl) (by kernel_rfl) (k := .i64) (by kernel_rfl) 96 (by kernel_rfl) (by kernel_rfl) h5 fun a r177 cs henc at178 hs => ?_
   obtain ⟨p2, c2, rfl, h6⟩ := henc
   refine Qj hs (at178 _ (((hw.vw 1 rfl).sub h2).anti (Le.refl _))) 0 fun a hs => ?_
   obtain ⟨y2, h7, hx1⟩ := bindE hx1
   refine Qv hs (Qhr h7 h6 ((hw.pk [0, 1]).pack 1)) fun a w v hv hs => ?_
   obtain ⟨rfl, hw⟩ := hv
   have hw := hw.unpack 1 rfl
   have hs := hs.cst (e' := [(0, .slice p1 x1.length c1), (1, .func (.func 200) #[] #[(pt b1 0)]), (7, Qb (x1.length : Int)), (8, Qb x3), (5, Qb x3), (16, .bool y2)])
   refine Qc ?_
   rcases ifbE hx1 with ⟨h8, hx1⟩ | ⟨h8, hx1⟩
   ·refine Qr hs h8 ?_
    refine Qd (Qa (pn hs 2 [(4, Qb x3)] fun a hs => ?_))
    refine Qc (Qi ?_)
    obtain rfl := someE hx1
    obtain rfl := someE hk
    exact qr1 hQ hs ⟨rfl, hw.pk [0, 1]⟩
   refine Qs hs h8 ?_
   refine Qg (Qa (pu hs 2 fun a hs => ?_))
   refine Qc ?_
   exact (hI1 _ _ _).2 ⟨(IntKind.i64.wrap (x3 + 1)), hx1, hs.cst, hw.pk [0, 1]⟩
  refine Qs hs h4 (Qa3 ?_)
  obtain rfl := someE hx1
  exact (hJ1 _ _).2 ⟨hk, hs.cst, hw.pk [0, 1]⟩
 intro a w hh
 obtain ⟨hk, hs, hw⟩ := (hJ1 _ _).1 hh
 refine Qd (Qa (pn hs 1 [(4, Qb (-1))] fun a hs => ?_))
 refine Qc (Qi ?_)
 obtain rfl := someE hk
 exact qr1 hQ hs ⟨rfl, hw.pk [0, 1]⟩
def QA (k : Nat) (x1 : List M96) (x2 : Bool) : Option Bool :=
 (QY k x1 x2).bind fun y1 =>
 some (decide (y1 ≥ 0))
theorem QbS {k : Nat} {x1 : List M96} {x2 : Bool} {d1 : Ch} {c1 b1 : Nat} {p1 : Option Addr} {r : Bool} (hk : QA k x1 x2 = some r) {g w : World} {F : Ch} {ih : IH} (h1 : RSl e96 ih d1 p1 c1 x1) (h2 : ∀ q ∈ d1, q ∈ F) (hw : St g w [bx b1 [.bool x2] 4, F] ih) :
  CallsR Tryz.prog 199 #[.slice p1 x1.length c1, .func (.func 200) #[] #[(pt b1 0)]] w fun v w' => v = .bool r ∧ St g w' [bx b1 [.bool x2] 4, F] ih := by
 refine f_i Tryz.func199 rfl 9 rfl fun a Qf hQ hQn hs => ?_
 refine Qd (Qa (pn hs 1 [(0, .slice p1 x1.length c1), (1, .func (.func 200) #[] #[(pt b1 0)])] fun a hs => ?_))
 refine Qc (Qd (Qa (pu hs 2 fun a hs => ?_)))
 obtain ⟨y1, h3, hk⟩ := bindE hk
 refine Qv hs (Qcx h3 h1 (fun q hq => memF 0 rfl q (h2 q hq)) ((hw.pk [0, 1]).pack 1)) fun a w v hv hs => ?_
 obtain ⟨rfl, hw⟩ := hv
 have hw := hw.unpack 1 rfl
 refine pn hs 2 [(4, .bool (decide (y1 ≥ 0)))] fun a hs => Qc (Qi ?_)
 obtain rfl := someE hk
 exact qr1 hQ hs ⟨rfl, hw.pk [0, 1]⟩
def Qdg (k : Nat) (x1 : M48) : Option Bool :=
 if (bif (x1.f0 == 17) then (((x1.f16.length : Int) != 1) || (decide ((x1.f16.length : Int) > 4))) else (decide ((x1.f16.length : Int) > 4))) = true then some false
 else (QA k x1.f16 (x1.f0 == 17)).bind fun y1 =>
 some (!y1)
theorem QhU {k : Nat} {x1 : M48} {c1 c2 c3 c4 : Nat} {p1 p2 p3 p4 : Option Addr} {r : Bool} (hk : Qdg k x1 = some r) {g w : World} {F : Ch} {ih : IH} (h1 : RSl e3 ih [] p1 c1 x1.f14.f2) (h2 : RSl Qcf ih [] p2 c2 x1.f15) (h3 : RSl e96 ih [] p3 c3 x1.f16) (h4 : RSl e5 ih [] p4 c4 x1.f17) (hw : St g w [F] ih) :
  CallsR Tryz.prog 177 #[A48 x1 p1 c1 p2 c2 p3 c3 p4 c4] w fun v w' => v = .bool r ∧ St g w' [F] ih := by
 refine f_i Tryz.func177 rfl 25 rfl fun a Qf hQ hQn hs => ?_
 refine Qd (Qa (QC hs hw [Qb x1.f0, Qb x1.f1, Qb x1.f2, Qb x1.f3, Qe x1.f4, Qe x1.f5, Qe x1.f6, Qe x1.f7, Qe x1.f8, Qe x1.f9, Qb x1.f10, Qk x1.f11, Qb x1.f12, Qb x1.f13.f0, Qb x1.f13.f1, Qe x1.f13.f2, Qb x1.f13.f3, Qb x1.f14.f0, Qe x1.f14.f1, .slice p1 x1.f14.f2.length c1, .bool x1.f14.f3, Qb x1.f14.f4, .slice p2 x1.f15.length c2, .slice p3 x1.f16.length c3, .slice p4 x1.f17.length c4] 48 (fun b => (pt b 0)) (by kernel_rfl) (fun _ => by kernel_rfl) fun a w b1 hs hw => ?_))
 refine pn hs 1 [(1, (pt b1 0))] fun a hs => Qc (Qd (Qa (pu hs 1 fun a hs => ?_)))
 refine Qj hs (hw.at_ 0 rfl) 0 fun a hs => pu hs 1 fun a hs => QaN hs hw [.bool false] 4 (fun b => (pt b 0)) fun a w b2 hs hw => QE hs hw 0 rfl 0 (v := .bool (x1.f0 == 17)) fun a w hs hw => ?_
 have hs := hs.cst (e' := [(1, (pt b1 0)), (3, (pt b2 0))])
 refine Qc (Qd (Qd ?_))
 obtain ⟨J1, hJ1⟩ := mkJ fun a w => Sees a 25 [(1, (pt b1 0)), (3, (pt b2 0)), (19, .bool (bif (x1.f0 == 17) then (((x1.f16.length : Int) != 1) || (decide ((x1.f16.length : Int) > 4))) else (decide ((x1.f16.length : Int) > 4))))] ∧ St g w [bx b2 [.bool (x1.f0 == 17)] 4, k10 b1 x1.f0 x1.f1 x1.f2 x1.f3 x1.f4 x1.f5 x1.f6 x1.f7 x1.f8 x1.f9 x1.f10 x1.f11 x1.f12 x1.f13.f0 x1.f13.f1 x1.f13.f2 x1.f13.f3 x1.f14.f0 x1.f14.f1 p1 x1.f14.f2 c1 x1.f14.f3 x1.f14.f4 p2 x1.f15 c2 p3 x1.f16 c3 p4 x1.f17 c4, F] ih
 refine Qn J1 ?_ ?_
 ·refine Qj hs (hw.at_ 0 rfl) 0 fun a hs => pu hs 1 fun a hs => ?_
  rcases boolE (x1.f0 == 17) with h5 | h5
  ·have hs := hs.aB 8 h5
   refine pu hs 1 fun a hs => Qj hs (hw.at_ 1 rfl) 23 fun a hs => pu hs 4 fun a hs => ?_
   rcases boolE ((x1.f16.length : Int) != 1) with h6 | h6
   ·have hs := hs.aB 14 h6
    refine pn hs 5 [(1, (pt b1 0)), (3, (pt b2 0)), (19, .bool true)] fun a hs => Qc ?_
    exact (hJ1 _ _).2 ⟨(hs.altB (b := true) 19 (bif (x1.f0 == 17) then (((x1.f16.length : Int) != 1) || (decide ((x1.f16.length : Int) > 4))) else (decide ((x1.f16.length : Int) > 4))) (by kernel_rfl) (by first | (rw [h5, h6] <;> rfl) | (revert h5 h6; simp +contextual))).cast [1, 3, 19] (by kernel_rfl), hw.pk [0, 1, 2]⟩
   have hs := hs.aB 14 h6
   refine pn hs 1 [(1, (pt b1 0)), (3, (pt b2 0)), (14, .bool false), (15, (pt b1 23))] fun a hs => Qj hs (hw.at_ 1 rfl) 23 fun a hs => pu hs 3 fun a hs => Qc ?_
   exact (hJ1 _ _).2 ⟨(hs.altB (b := (decide ((x1.f16.length : Int) > 4))) 19 (bif (x1.f0 == 17) then (((x1.f16.length : Int) != 1) || (decide ((x1.f16.length : Int) > 4))) else (decide ((x1.f16.length : Int) > 4))) (by kernel_rfl) (by first | (rw [h5, h6] <;> rfl) | (revert h5 h6; simp +contextual))).cast [1, 3, 19] (by kernel_rfl), hw.pk [0, 1, 2]⟩
  have hs := hs.aB 8 h5
  refine pu hs 7 fun a hs => Qj hs (hw.at_ 1 rfl) 23 fun a hs => pu hs 3 fun a hs => Qc ?_
  exact (hJ1 _ _).2 ⟨(hs.bB 19 h5 (decide ((x1.f16.length : Int) > 4)) (bif (x1.f0 == 17) then (((x1.f16.length : Int) != 1) || (decide ((x1.f16.length : Int) > 4))) else (decide ((x1.f16.length : Int) > 4)))).cst, hw.pk [0, 1, 2]⟩
 intro a w hh
 obtain ⟨hs, hw⟩ := (hJ1 _ _).1 hh
 rcases ifbE hk with ⟨h7, hk⟩ | ⟨h7, hk⟩
 ·refine Qr hs h7 ?_
  refine Qd (Qa (pn hs 1 [(2, .bool false)] fun a hs => ?_))
  refine Qc (Qi ?_)
  obtain rfl := someE hk
  exact qr1 hQ hs ⟨rfl, hw.pk [2]⟩
 refine Qs hs h7 ?_
 refine Qg (Qd (Qa (pu hs 1 fun a hs => ?_)))
 refine Qj hs (hw.at_ 1 rfl) 23 fun a hs => pu hs 1 fun a hs => ?_
 obtain ⟨y1, h8, hk⟩ := bindE hk
 refine Qv hs (QbS h8 h3 (nilSub _) ((hw.pk [0, 2]).pack 1)) fun a w v hv hs => ?_
 obtain ⟨rfl, hw⟩ := hv
 have hw := hw.unpack 1 rfl
 refine pn hs 2 [(2, .bool (!y1))] fun a hs => Qc (Qi ?_)
 obtain rfl := someE hk
 exact qr1 hQ hs ⟨rfl, hw.pk [1]⟩
def Qhb (x1 : M48) : Option Int :=
 if (x1.f0 == 14) = true then some 1024
 else some 2048
theorem Qjf {x1 : M48} {c1 c2 c3 c4 : Nat} {p1 p2 p3 p4 : Option Addr} {r : Int} (hk : Qhb x1 = some r) {g w : World} {F : Ch} {ih : IH} (h1 : RSl e3 ih [] p1 c1 x1.f14.f2) (h2 : RSl Qcf ih [] p2 c2 x1.f15) (h3 : RSl e96 ih [] p3 c3 x1.f16) (h4 : RSl e5 ih [] p4 c4 x1.f17) (hw : St g w [F] ih) :
  CallsR Tryz.prog 181 #[A48 x1 p1 c1 p2 c2 p3 c3 p4 c4] w fun v w' => v = Qb r ∧ St g w' [F] ih := by
 refine f_i Tryz.func181 rfl 6 rfl fun a Qf hQ hQn hs => ?_
 refine Qd (Qa (QC hs hw [Qb x1.f0, Qb x1.f1, Qb x1.f2, Qb x1.f3, Qe x1.f4, Qe x1.f5, Qe x1.f6, Qe x1.f7, Qe x1.f8, Qe x1.f9, Qb x1.f10, Qk x1.f11, Qb x1.f12, Qb x1.f13.f0, Qb x1.f13.f1, Qe x1.f13.f2, Qb x1.f13.f3, Qb x1.f14.f0, Qe x1.f14.f1, .slice p1 x1.f14.f2.length c1, .bool x1.f14.f3, Qb x1.f14.f4, .slice p2 x1.f15.length c2, .slice p3 x1.f16.length c3, .slice p4 x1.f17.length c4] 48 (fun b => (pt b 0)) (by kernel_rfl) (fun _ => by kernel_rfl) fun a w b1 hs hw => ?_))
 refine pn hs 1 [(1, (pt b1 0))] fun a hs => Qc (Qd (Qd (Qa (pu hs 1 fun a hs => ?_))))
 refine Qj hs (hw.at_ 0 rfl) 0 fun a hs => pn hs 1 [(5, .bool (x1.f0 == 14))] fun a hs => Qc ?_
 rcases ifbE hk with ⟨h5, hk⟩ | ⟨h5, hk⟩
 ·refine Qr hs h5 ?_
  refine Qd (Qa (pn hs 1 [(2, Qb 1024)] fun a hs => ?_))
  refine Qc (Qi ?_)
  obtain rfl := someE hk
  exact qr1 hQ hs ⟨rfl, hw.pk [1]⟩
 refine Qs hs h5 ?_
 refine Qg (Qd (Qa (pn hs 1 [(2, Qb 2048)] fun a hs => ?_)))
 refine Qc (Qi ?_)
 obtain rfl := someE hk
 exact qr1 hQ hs ⟨rfl, hw.pk [1]⟩
def QdI (x1 : Bool) : Option Bool :=
 some x1
def QdJ (x1 : M48) : Option Bool :=
 ((Qhb x1).bind fun y1 =>
  some (decide ((x1.f17.length : Int) ≤ y1)) : Option Bool).bind fun s1 => QdI s1
theorem QhC {x1 : M48} {c1 c2 c3 c4 : Nat} {p1 p2 p3 p4 : Option Addr} {r : Bool} (hk : QdJ x1 = some r) {g w : World} {F : Ch} {ih : IH} (h1 : RSl e3 ih [] p1 c1 x1.f14.f2) (h2 : RSl Qcf ih [] p2 c2 x1.f15) (h3 : RSl e96 ih [] p3 c3 x1.f16) (h4 : RSl e5 ih [] p4 c4 x1.f17) (hw : St g w [F] ih) :
  CallsR Tryz.prog 180 #[A48 x1 p1 c1 p2 c2 p3 c3 p4 c4] w fun v w' => v = .bool r ∧ St g w' [F] ih := by
 refine f_i Tryz.func180 rfl 9 rfl fun a Qf hQ hQn hs => ?_
 refine Qd (Qa (QC hs hw [Qb x1.f0, Qb x1.f1, Qb x1.f2, Qb x1.f3, Qe x1.f4, Qe x1.f5, Qe x1.f6, Qe x1.f7, Qe x1.f8, Qe x1.f9, Qb x1.f10, Qk x1.f11, Qb x1.f12, Qb x1.f13.f0, Qb x1.f13.f1, Qe x1.f13.f2, Qb x1.f13.f3, Qb x1.f14.f0, Qe x1.f14.f1, .slice p1 x1.f14.f2.length c1, .bool x1.f14.f3, Qb x1.f14.f4, .slice p2 x1.f15.length c2, .slice p3 x1.f16.length c3, .slice p4 x1.f17.length c4] 48 (fun b => (pt b 0)) (by kernel_rfl) (fun _ => by kernel_rfl) fun a w b1 hs hw => ?_))
 refine pn hs 1 [(1, (pt b1 0))] fun a hs => Qc (Qd ?_)
 have hw := hw.cL [k10 b1 x1.f0 x1.f1 x1.f2 x1.f3 x1.f4 x1.f5 x1.f6 x1.f7 x1.f8 x1.f9 x1.f10 x1.f11 x1.f12 x1.f13.f0 x1.f13.f1 x1.f13.f2 x1.f13.f3 x1.f14.f0 x1.f14.f1 p1 x1.f14.f2 c1 x1.f14.f3 x1.f14.f4 p2 x1.f15 c2 p3 x1.f16 c3 p4 x1.f17 c4, F]
 obtain ⟨S, hD, kS⟩ := mkSXw hw [[], []] (K := []) rfl
 obtain ⟨y1, hx1, hk⟩ := bindE hk
 obtain ⟨J1, hJ1⟩ := mkJ fun a w => ∃ (x2 : Bool), QdI x2 = some r ∧ Sees a 9 [(2, .bool x2)] ∧ St g w [F] ih
 refine Qo (by kernel_rfl) (N := 7) rfl S J1 ?_ ?_
 ·have hw := hw.drew
  have hS : S (bA 7 0) _ := SXn hD (hw.vws [0, 1])
  refine Qp (fuel := 6) kS hs hS [0] fun a hs hS => ?_
  refine Qy kS hs hS 1 rfl (SXb hD 0 rfl) 24 fun a hs hS => ?_
  refine Qp (fuel := 4) kS hs hS [2] fun a hs hS => ?_
  refine Qy kS hs hS 3 rfl (SXb hD 0 rfl) 0 fun a hs hS => ?_
  refine QF [4] (QH ?_)
  obtain ⟨y2, h5, hx1⟩ := bindE hx1
  refine QaR hs rfl (Qjf h5 h1 h2 h3 h4 ((hw.pk [0, 1]).pack 0)) fun a w v hv hs => ?_
  obtain ⟨rfl, hw⟩ := hv
  have hw := hw.unpack 0 rfl
  refine nx hD ((hw.vws [0, 1]).anti (Le.refl _)) fun hS => ?_
  refine Qu kS hs hS fun a hs => ?_
  obtain rfl := someE hx1
  exact (hJ1 _ _).2 ⟨(decide ((x1.f17.length : Int) ≤ y2)), hk, hs.cst, hw.pk [1]⟩
 intro a w hh
 obtain ⟨x2, hk, hs, hw⟩ := (hJ1 _ _).1 hh
 refine Qi ?_
 obtain rfl := someE hk
 exact qr1 hQ hs ⟨rfl, hw.pk [0]⟩
def Qir (x1 : M48) : Option Bool :=
 some ((decide (x1.f3 ≥ 0)) && (decide (x1.f3 < 4)))
theorem Qjj {x1 : M48} {c1 c2 c3 c4 : Nat} {p1 p2 p3 p4 : Option Addr} {r : Bool} (hk : Qir x1 = some r) {g w : World} {F : Ch} {ih : IH} (h1 : RSl e3 ih [] p1 c1 x1.f14.f2) (h2 : RSl Qcf ih [] p2 c2 x1.f15) (h3 : RSl e96 ih [] p3 c3 x1.f16) (h4 : RSl e5 ih [] p4 c4 x1.f17) (hw : St g w [F] ih) :
  CallsR Tryz.prog 130 #[A48 x1 p1 c1 p2 c2 p3 c3 p4 c4] w fun v w' => v = .bool r ∧ St g w' [F] ih := by
 refine f_i Tryz.func130 rfl 11 rfl fun a Qf hQ hQn hs => ?_
 refine Qd (Qa (QC hs hw [Qb x1.f0, Qb x1.f1, Qb x1.f2, Qb x1.f3, Qe x1.f4, Qe x1.f5, Qe x1.f6, Qe x1.f7, Qe x1.f8, Qe x1.f9, Qb x1.f10, Qk x1.f11, Qb x1.f12, Qb x1.f13.f0, Qb x1.f13.f1, Qe x1.f13.f2, Qb x1.f13.f3, Qb x1.f14.f0, Qe x1.f14.f1, .slice p1 x1.f14.f2.length c1, .bool x1.f14.f3, Qb x1.f14.f4, .slice p2 x1.f15.length c2, .slice p3 x1.f16.length c3, .slice p4 x1.f17.length c4] 48 (fun b => (pt b 0)) (by kernel_rfl) (fun _ => by kernel_rfl) fun a w b1 hs hw => ?_))
 refine pn hs 1 [(1, (pt b1 0))] fun a hs => Qc (Qd ?_)
 obtain ⟨J1, hJ1⟩ := mkJ fun a w => Sees a 11 [(2, .bool ((decide (x1.f3 ≥ 0)) && (decide (x1.f3 < 4))))] ∧ St g w [F] ih
 refine Qn J1 ?_ ?_
 ·refine pu hs 1 fun a hs => Qj hs (hw.at_ 0 rfl) 3 fun a hs => pu hs 2 fun a hs => ?_
  rcases boolE (decide (x1.f3 ≥ 0)) with h5 | h5
  ·have hs := hs.aB 6 h5
   refine pu hs 1 fun a hs => Qj hs (hw.at_ 0 rfl) 3 fun a hs => pn hs 3 [(2, .bool (decide (x1.f3 < 4)))] fun a hs => Qc ?_
   exact (hJ1 _ _).2 ⟨(hs.bB 2 h5 (decide (x1.f3 < 4)) ((decide (x1.f3 ≥ 0)) && (decide (x1.f3 < 4)))).cst, hw.pk [1]⟩
  have hs := hs.aB 6 h5
  refine pu hs 5 fun a hs => Qc ?_
  exact (hJ1 _ _).2 ⟨(hs.bB 2 h5 false ((decide (x1.f3 ≥ 0)) && (decide (x1.f3 < 4)))).cst, hw.pk [1]⟩
 intro a w hh
 obtain ⟨hs, hw⟩ := (hJ1 _ _).1 hh
 refine Qi ?_
 obtain rfl := someE hk
 exact qr1 hQ hs ⟨rfl, hw.pk [0]⟩
def Qiq (x1 : M48) : Option Bool :=
 some ((decide (x1.f10 ≥ 0)) && (decide (x1.f10 ≤ 512)))
theorem Qji {x1 : M48} {c1 c2 c3 c4 : Nat} {p1 p2 p3 p4 : Option Addr} {r : Bool} (hk : Qiq x1 = some r) {g w : World} {F : Ch} {ih : IH} (h1 : RSl e3 ih [] p1 c1 x1.f14.f2) (h2 : RSl Qcf ih [] p2 c2 x1.f15) (h3 : RSl e96 ih [] p3 c3 x1.f16) (h4 : RSl e5 ih [] p4 c4 x1.f17) (hw : St g w [F] ih) :
  CallsR Tryz.prog 132 #[A48 x1 p1 c1 p2 c2 p3 c3 p4 c4] w fun v w' => v = .bool r ∧ St g w' [F] ih := by
 refine f_i Tryz.func132 rfl 11 rfl fun a Qf hQ hQn hs => ?_
 refine Qd (Qa (QC hs hw [Qb x1.f0, Qb x1.f1, Qb x1.f2, Qb x1.f3, Qe x1.f4, Qe x1.f5, Qe x1.f6, Qe x1.f7, Qe x1.f8, Qe x1.f9, Qb x1.f10, Qk x1.f11, Qb x1.f12, Qb x1.f13.f0, Qb x1.f13.f1, Qe x1.f13.f2, Qb x1.f13.f3, Qb x1.f14.f0, Qe x1.f14.f1, .slice p1 x1.f14.f2.length c1, .bool x1.f14.f3, Qb x1.f14.f4, .slice p2 x1.f15.length c2, .slice p3 x1.f16.length c3, .slice p4 x1.f17.length c4] 48 (fun b => (pt b 0)) (by kernel_rfl) (fun _ => by kernel_rfl) fun a w b1 hs hw => ?_))
 refine pn hs 1 [(1, (pt b1 0))] fun a hs => Qc (Qd ?_)
 obtain ⟨J1, hJ1⟩ := mkJ fun a w => Sees a 11 [(2, .bool ((decide (x1.f10 ≥ 0)) && (decide (x1.f10 ≤ 512))))] ∧ St g w [F] ih
 refine Qn J1 ?_ ?_
 ·refine pu hs 1 fun a hs => Qj hs (hw.at_ 0 rfl) 10 fun a hs => pu hs 2 fun a hs => ?_
  rcases boolE (decide (x1.f10 ≥ 0)) with h5 | h5
  ·have hs := hs.aB 6 h5
   refine pu hs 1 fun a hs => Qj hs (hw.at_ 0 rfl) 10 fun a hs => pn hs 3 [(2, .bool (decide (x1.f10 ≤ 512)))] fun a hs => Qc ?_
   exact (hJ1 _ _).2 ⟨(hs.bB 2 h5 (decide (x1.f10 ≤ 512)) ((decide (x1.f10 ≥ 0)) && (decide (x1.f10 ≤ 512)))).cst, hw.pk [1]⟩
  have hs := hs.aB 6 h5
  refine pu hs 5 fun a hs => Qc ?_
  exact (hJ1 _ _).2 ⟨(hs.bB 2 h5 false ((decide (x1.f10 ≥ 0)) && (decide (x1.f10 ≤ 512)))).cst, hw.pk [1]⟩
 intro a w hh
 obtain ⟨hs, hw⟩ := (hJ1 _ _).1 hh
 refine Qi ?_
 obtain rfl := someE hk
 exact qr1 hQ hs ⟨rfl, hw.pk [0]⟩
def Qip (x1 : M48) : Option Bool :=
 some (decide (x1.f4 ≥ 1))
theorem Qjh {x1 : M48} {c1 c2 c3 c4 : Nat} {p1 p2 p3 p4 : Option Addr} {r : Bool} (hk : Qip x1 = some r) {g w : World} {F : Ch} {ih : IH} (h1 : RSl e3 ih [] p1 c1 x1.f14.f2) (h2 : RSl Qcf ih [] p2 c2 x1.f15) (h3 : RSl e96 ih [] p3 c3 x1.f16) (h4 : RSl e5 ih [] p4 c4 x1.f17) (hw : St g w [F] ih) :
  CallsR Tryz.prog 135 #[A48 x1 p1 c1 p2 c2 p3 c3 p4 c4] w fun v w' => v = .bool r ∧ St g w' [F] ih := by
 refine f_i Tryz.func135 rfl 6 rfl fun a Qf hQ hQn hs => ?_
 refine Qd (Qa (QC hs hw [Qb x1.f0, Qb x1.f1, Qb x1.f2, Qb x1.f3, Qe x1.f4, Qe x1.f5, Qe x1.f6, Qe x1.f7, Qe x1.f8, Qe x1.f9, Qb x1.f10, Qk x1.f11, Qb x1.f12, Qb x1.f13.f0, Qb x1.f13.f1, Qe x1.f13.f2, Qb x1.f13.f3, Qb x1.f14.f0, Qe x1.f14.f1, .slice p1 x1.f14.f2.length c1, .bool x1.f14.f3, Qb x1.f14.f4, .slice p2 x1.f15.length c2, .slice p3 x1.f16.length c3, .slice p4 x1.f17.length c4] 48 (fun b => (pt b 0)) (by kernel_rfl) (fun _ => by kernel_rfl) fun a w b1 hs hw => ?_))
 refine pn hs 1 [(1, (pt b1 0))] fun a hs => Qc (Qd (Qa (pu hs 1 fun a hs => ?_)))
 refine Qj hs (hw.at_ 0 rfl) 4 fun a hs => pn hs 2 [(2, .bool (decide (x1.f4 ≥ 1)))] fun a hs => Qc (Qi ?_)
 obtain rfl := someE hk
 exact qr1 hQ hs ⟨rfl, hw.pk [1]⟩
def QfS (x1 : M48) : Option Bool :=
 (QfJ x1.f5).bind fun y1 =>
 some y1
theorem Qjg {x1 : M48} {c1 c2 c3 c4 : Nat} {p1 p2 p3 p4 : Option Addr} {r : Bool} (hk : QfS x1 = some r) {g w : World} {F : Ch} {ih : IH} (h1 : RSl e3 ih [] p1 c1 x1.f14.f2) (h2 : RSl Qcf ih [] p2 c2 x1.f15) (h3 : RSl e96 ih [] p3 c3 x1.f16) (h4 : RSl e5 ih [] p4 c4 x1.f17) (hw : St g w [F] ih) :
  CallsR Tryz.prog 137 #[A48 x1 p1 c1 p2 c2 p3 c3 p4 c4] w fun v w' => v = .bool r ∧ St g w' [F] ih := by
 refine f_i Tryz.func137 rfl 6 rfl fun a Qf hQ hQn hs => ?_
 refine Qd (Qa (QC hs hw [Qb x1.f0, Qb x1.f1, Qb x1.f2, Qb x1.f3, Qe x1.f4, Qe x1.f5, Qe x1.f6, Qe x1.f7, Qe x1.f8, Qe x1.f9, Qb x1.f10, Qk x1.f11, Qb x1.f12, Qb x1.f13.f0, Qb x1.f13.f1, Qe x1.f13.f2, Qb x1.f13.f3, Qb x1.f14.f0, Qe x1.f14.f1, .slice p1 x1.f14.f2.length c1, .bool x1.f14.f3, Qb x1.f14.f4, .slice p2 x1.f15.length c2, .slice p3 x1.f16.length c3, .slice p4 x1.f17.length c4] 48 (fun b => (pt b 0)) (by kernel_rfl) (fun _ => by kernel_rfl) fun a w b1 hs hw => ?_))
 refine pn hs 1 [(1, (pt b1 0))] fun a hs => Qc (Qd (Qa (pu hs 1 fun a hs => ?_)))
 refine Qj hs (hw.at_ 0 rfl) 5 fun a hs => ?_
 obtain ⟨y1, h5, hk⟩ := bindE hk
 refine Qv hs (Qhi h5 ((hw.pk [1]).pack 0)) fun a w v hv hs => ?_
 obtain ⟨rfl, hw⟩ := hv
 have hw := hw.unpack 0 rfl
 refine pn hs 1 [(2, .bool y1)] fun a hs => Qc (Qi ?_)
 obtain rfl := someE hk
 exact qr1 hQ hs ⟨rfl, hw.pk [0]⟩
def Qgl : Option Int :=
 some 0
def Qdo (rec_letter_Check_l14 : Int → Option (Sum Int Unit)) (x1 : Int) (x2 : Bool) : Option (Sum Int Unit) :=
 if x2 = true then some (.inl 4)
 else rec_letter_Check_l14 (IntKind.i64.wrap (x1 + 1))
def letter_Check_l14 (k : Nat) (y1 : (List Nat)) (x1 : M48) : Nat → Int → Option (Sum Int Unit)
 | 0, _ => none
 | j + 1, x2 =>
  if (decide (x2 < (y1.length : Int))) = true then (
   (ix y1 x2).bind fun x3 =>
   ((match x3 with
     | 0 => (
       (Qg9 x1).bind fun y2 =>
       some (!y2))
     | 1 => some false
     | 2 => (
       (Qed x1).bind fun y3 =>
       some (!y3))
     | 3 => (
       (Qec k x1).bind fun y4 =>
       some (!y4))
     | 4 => (
       (QdK k x1).bind fun y5 =>
       some (!y5))
     | 5 => (
       (Qdg k x1).bind fun y6 =>
       some (!y6))
     | 6 => (
       (QdJ x1).bind fun y7 =>
       some (!y7))
     | 7 => (
       (Qir x1).bind fun y8 =>
       some (!y8))
     | 8 => (
       (Qiq x1).bind fun y9 =>
       some (!y9))
     | 9 => (
       (Qip x1).bind fun y10 =>
       some (!y10))
     | 10 => (
       (QfS x1).bind fun y11 =>
       some (!y11))
     | 11 => some false
     | 12 => some false
     | 13 => some false
     | 14 => some false
     | _ => none) : Option Bool).bind fun s1 => Qdo (letter_Check_l14 k y1 x1 j) x2 s1)
  else some (.inr ())
def Qes (k : Nat) (x1 : M48) (x2 : Bool) : Option Int :=
 if x2 = true then some 4
 else (Qfk x1.f0).bind fun y1 =>
 (letter_Check_l14 k y1 x1 k 0 : Option (Sum Int Unit)).bind fun
  | .inl z => some z
  | .inr _ => Qgl
def Qdz (k : Nat) (x1 : M48) : Option Int :=
 (QgF x1.f0).bind fun y1 =>
 if (!y1) = true then some 1
 else ((Qdh x1.f1).bind fun y2 =>
  if (!y2) = true then some true
  else (Qdh x1.f2).bind fun y3 =>
  if (!y3) = true then some true
  else (Qf2 x1).bind fun y4 =>
  (Qf3 k x1 y4).bind fun y5 =>
  some (!y5) : Option Bool).bind fun s1 => Qes k x1 s1
theorem QfB {k : Nat} {x1 : M48} {c1 c2 c3 c4 : Nat} {p1 p2 p3 p4 : Option Addr} {r : Int} (hk : Qdz k x1 = some r) {g w : World} {F : Ch} {ih : IH} (h1 : RSl e3 ih [] p1 c1 x1.f14.f2) (h2 : RSl Qcf ih [] p2 c2 x1.f15) (h3 : RSl e96 ih [] p3 c3 x1.f16) (h4 : RSl e5 ih [] p4 c4 x1.f17) (hG : Glob 0 gl0 162 ih) (hw : St g w [F] ih) :
  CallsR Tryz.prog 33 #[A48 x1 p1 c1 p2 c2 p3 c3 p4 c4] w fun v w' => ∃ (ih' : IH), v = Qb r ∧ St g w' [F] ih' ∧ Le ih ih' := by
 refine f_i Tryz.func33 rfl 40 rfl fun a Qf hQ hQn hs => ?_
 refine Qd (Qa (QC hs hw [Qb x1.f0, Qb x1.f1, Qb x1.f2, Qb x1.f3, Qe x1.f4, Qe x1.f5, Qe x1.f6, Qe x1.f7, Qe x1.f8, Qe x1.f9, Qb x1.f10, Qk x1.f11, Qb x1.f12, Qb x1.f13.f0, Qb x1.f13.f1, Qe x1.f13.f2, Qb x1.f13.f3, Qb x1.f14.f0, Qe x1.f14.f1, .slice p1 x1.f14.f2.length c1, .bool x1.f14.f3, Qb x1.f14.f4, .slice p2 x1.f15.length c2, .slice p3 x1.f16.length c3, .slice p4 x1.f17.length c4] 48 (fun b => (pt b 0)) (by kernel_rfl) (fun _ => by kernel_rfl) fun a w b1 hs hw => ?_))
 refine pn hs 1 [(1, (pt b1 0))] fun a hs => Qc (Qd (Qd (Qa (pu hs 1 fun a hs => ?_))))
 refine Qj hs (hw.at_ 0 rfl) 0 fun a hs => ?_
 obtain ⟨y1, h5, hk⟩ := bindE hk
 refine Qv hs (QiW h5 ((hw.pk [0, 1]).pack 0)) fun a w v hv hs => ?_
 obtain ⟨rfl, hw⟩ := hv
 have hw := hw.unpack 0 rfl
 refine pn hs 1 [(1, (pt b1 0)), (8, .bool (!y1))] fun a hs => Qc ?_
 rcases ifbE hk with ⟨h6, hk⟩ | ⟨h6, hk⟩
 ·refine Qr hs h6 ?_
  refine Qd (Qa (pn hs 1 [(2, Qb 1)] fun a hs => ?_))
  refine Qc (Qi ?_)
  obtain rfl := someE hk
  exact qr1 hQ hs ⟨ih, rfl, hw.pk [1], (Le.refl _)⟩
 refine Qs hs h6 ?_
 refine Qg (Qd (Qd ?_))
 have hw := hw.cL [k10 b1 x1.f0 x1.f1 x1.f2 x1.f3 x1.f4 x1.f5 x1.f6 x1.f7 x1.f8 x1.f9 x1.f10 x1.f11 x1.f12 x1.f13.f0 x1.f13.f1 x1.f13.f2 x1.f13.f3 x1.f14.f0 x1.f14.f1 p1 x1.f14.f2 c1 x1.f14.f3 x1.f14.f4 p2 x1.f15 c2 p3 x1.f16 c3 p4 x1.f17 c4, F]
 obtain ⟨S, hD, kS⟩ := mkSXw hw [[], []] (K := []) rfl
 obtain ⟨y2, hx1, hk⟩ := bindE hk
 obtain ⟨J1, hJ1⟩ := mkJ fun a w => ∃ (x2 : Bool), Qes k x1 x2 = some r ∧ Sees a 40 [(1, (pt b1 0)), (25, .bool x2)] ∧ St g w [k10 b1 x1.f0 x1.f1 x1.f2 x1.f3 x1.f4 x1.f5 x1.f6 x1.f7 x1.f8 x1.f9 x1.f10 x1.f11 x1.f12 x1.f13.f0 x1.f13.f1 x1.f13.f2 x1.f13.f3 x1.f14.f0 x1.f14.f1 p1 x1.f14.f2 c1 x1.f14.f3 x1.f14.f4 p2 x1.f15 c2 p3 x1.f16 c3 p4 x1.f17 c4, F] ih
 refine Qo (by kernel_rfl) (N := 17) rfl S J1 ?_ ?_
 ·have hw := hw.drew
  have hS : S (bA 17 0) _ := SXn hD (hw.vws [0, 1])
  refine Qp (fuel := 16) kS hs hS [0] fun a hs hS => ?_
  refine Qy kS hs hS 1 rfl (SXb hD 0 rfl) 1 fun a hs hS => ?_
  refine QF [2] (QH ?_)
  obtain ⟨y3, h7, hx1⟩ := bindE hx1
  refine QaR hs rfl (Qgm h7 ((hw.pk [0, 1]).pack 0)) fun a w v hv hs => ?_
  obtain ⟨rfl, hw⟩ := hv
  have hw := hw.unpack 0 rfl
  refine nx hD ((hw.vws [0, 1]).anti (Le.refl _)) fun hS => ?_
  refine Qp (fuel := 12) kS hs hS [3, 4] fun a hs hS => ?_
  rcases ifbE hx1 with ⟨h8, hx1⟩ | ⟨h8, hx1⟩
  ·have hs := hs.aB 13 h8
   refine Qu kS hs hS fun a hs => ?_
   obtain rfl := someE hx1
   exact (hJ1 _ _).2 ⟨true, hk, hs.cst, hw.pk [0, 1]⟩
  have hs := hs.aB 13 h8
  refine Qp (fuel := 11) kS hs hS [5] fun a hs hS => ?_
  refine Qy kS hs hS 6 rfl (SXb hD 0 rfl) 2 fun a hs hS => ?_
  refine QF [7] (QH ?_)
  obtain ⟨y4, h9, hx1⟩ := bindE hx1
  refine QaR hs rfl (Qgm h9 ((hw.pk [0, 1]).pack 0)) fun a w v hv hs => ?_
  obtain ⟨rfl, hw⟩ := hv
  have hw := hw.unpack 0 rfl
  refine nx hD ((hw.vws [0, 1]).anti (Le.refl _)) fun hS => ?_
  refine Qff (fuel := 6) kS hs hS [8, 9, 10] [(1, (pt b1 0)), (19, .bool (!y4))] fun a hs hS => ?_
  rcases ifbE hx1 with ⟨h10, hx1⟩ | ⟨h10, hx1⟩
  ·have hs := hs.aB 19 h10
   refine Qu kS hs hS fun a hs => ?_
   obtain rfl := someE hx1
   exact (hJ1 _ _).2 ⟨true, hk, hs.cst, hw.pk [0, 1]⟩
  have hs := hs.aB 19 h10
  refine Qy kS hs hS 11 rfl (SXb hD 0 rfl) 0 fun a hs hS => ?_
  refine Qy kS hs hS 12 rfl (SXb hD 0 rfl) 0 fun a hs hS => ?_
  refine QF [13] (QH ?_)
  obtain ⟨y5, h11, hx1⟩ := bindE hx1
  refine QaR hs rfl (Qjk h11 h1 h2 h3 h4 (hG.mono (Le.refl _)) ((hw.pk [0, 1]).pack 0)) fun a w v hv hs => ?_
  obtain ⟨p5, c5, p6, c6, p7, c7, p8, c8, rfl, hw, h12, h13, h14, h15⟩ := hv
  have hw := hw.unpack 0 rfl
  refine nx hD ((hw.vws [0, 1]).anti (Le.refl _)) fun hS => ?_
  refine QF [14] (QH ?_)
  obtain ⟨y6, h16, hx1⟩ := bindE hx1
  refine QaR hs rfl (Qjl h16 h1 h2 h3 h4 h12 h13 h14 h15 ((hw.pk [0, 1]).pack 0)) fun a w v hv hs => ?_
  obtain ⟨rfl, hw⟩ := hv
  have hw := hw.unpack 0 rfl
  refine nx hD ((hw.vws [0, 1]).anti (Le.refl _)) fun hS => ?_
  refine Qu kS hs hS fun a hs => ?_
  obtain rfl := someE hx1
  exact (hJ1 _ _).2 ⟨(!y6), hk, hs.cst, hw.pk [0, 1]⟩
 intro a w hh
 obtain ⟨x2, hk, hs, hw⟩ := (hJ1 _ _).1 hh
 rcases ifbE hk with ⟨h17, hk⟩ | ⟨h17, hk⟩
 ·refine Qr hs h17 ?_
  refine Qd (Qa (pn hs 1 [(2, Qb 4)] fun a hs => ?_))
  refine Qc (Qi ?_)
  obtain rfl := someE hk
  exact qr1 hQ hs ⟨ih, rfl, hw.pk [1], (Le.refl _)⟩
 refine Qs hs h17 ?_
 refine Qg (Qd (Qd (Qa (pu hs 1 fun a hs => ?_))))
 refine Qj hs (hw.at_ 0 rfl) 0 fun a hs => ?_
 obtain ⟨y7, h18, hk⟩ := bindE hk
 refine Qv hs (QiU h18 (hG.mono (Le.refl _)) ((hw.pk [0, 1]).pack 0)) fun a w v hv hs => ?_
 obtain ⟨ih1, p9, c9, d1, rfl, hw, hle1, h19⟩ := hv
 have hw := hw.unpack 1 rfl
 refine pn hs 2 [(1, (pt b1 0)), (28, .slice p9 y7.length c9), (29, Qb (y7.length : Int)), (30, Qb 0)] fun a hs => Qc (Ql ?_)
 obtain ⟨y8, hx2, hk⟩ := bindE hk
 obtain ⟨J2, hJ2⟩ := mkJ fun a w => Qgl = some r ∧ Sees a 40 [] ∧ St g w [F] ih1
 obtain ⟨I1, hI1⟩ := QhB fun j a w => ∃ (x3 : Int), letter_Check_l14 k y7 x1 j x3 = some y8 ∧ Sees a 40 [(1, (pt b1 0)), (28, .slice p9 y7.length c9), (29, Qb (y7.length : Int)), (30, Qb x3)] ∧ St g w [k10 b1 x1.f0 x1.f1 x1.f2 x1.f3 x1.f4 x1.f5 x1.f6 x1.f7 x1.f8 x1.f9 x1.f10 x1.f11 x1.f12 x1.f13.f0 x1.f13.f1 x1.f13.f2 x1.f13.f3 x1.f14.f0 x1.f14.f1 p1 x1.f14.f2 c1 x1.f14.f3 x1.f14.f4 p2 x1.f15 c2 p3 x1.f16 c3 p4 x1.f17 c4, d1, F] ih1
 refine Qau 0 J2 ?_ ?_
 ·refine QbO I1 k ((hI1 _ _ _).2 ⟨0, hx2, hs.cst, hw.pk [1, 0, 2]⟩) (fun a w h20 => ?_) fun j a w hh => ?_
  ·obtain ⟨_, h, _⟩ := (hI1 _ _ _).1 h20
   cases h
  obtain ⟨x3, hx2, hs, hw⟩ := (hI1 _ _ _).1 hh
  refine Qd (Qa (pn hs 1 [(1, (pt b1 0)), (28, .slice p9 y7.length c9), (29, Qb (y7.length : Int)), (30, Qb x3), (31, .bool (decide (x3 < (y7.length : Int))))] fun a hs => ?_))
  refine Qc (Qd ?_)
  rcases ifbE hx2 with ⟨h21, hx2⟩ | ⟨h21, hx2⟩
  ·refine Qr hs h21 ?_
   refine Qg (Qd (Ql (Qd (Qa ?_))))
   obtain ⟨x4, h22, hx2⟩ := bindE hx2
   refine QeI hs h19 (by kernel_rfl) (by kernel_rfl) (k := .i64) (by kernel_rfl) 134 (by kernel_rfl) (by kernel_rfl) h22 fun a r2503 cs henc at2504 h23 hs => ?_
   obtain ⟨u1, u2, u3, rfl⟩ := Qkz henc
   have h24 := henc
   refine Qj hs (at2504 _ ((hw.vw 1 rfl).anti (Le.refl _))) 0 fun a hs => QaN hs hw [.nilFunc, .nilFunc, .nilFunc] 134 (fun b => (pt b 0)) fun a w b2 hs hw => QjU hs hw 0 rfl 0 (by kernel_rfl) (by kernel_rfl) (v := .agg #[u1, u2, u3]) (by kernel_rfl) (by kernel_rfl) (by kernel_rfl) (Qbz.one h24) fun a w hs hw => ?_
   have hs := hs.cst (e' := [(1, (pt b1 0)), (28, .slice p9 y7.length c9), (29, Qb (y7.length : Int)), (30, Qb x3), (4, (pt b2 0))])
   refine Qc (Qd ?_)
   obtain ⟨y9, hx3, hx2⟩ := bindE hx2
   obtain ⟨J3, hJ3⟩ := mkJ fun a w => ∃ (x5 : Bool), Qdo (letter_Check_l14 k y7 x1 j) x3 x5 = some y8 ∧ Sees a 40 [(1, (pt b1 0)), (28, .slice p9 y7.length c9), (29, Qb (y7.length : Int)), (30, Qb x3), (38, .bool x5)] ∧ St g w [k10 b1 x1.f0 x1.f1 x1.f2 x1.f3 x1.f4 x1.f5 x1.f6 x1.f7 x1.f8 x1.f9 x1.f10 x1.f11 x1.f12 x1.f13.f0 x1.f13.f1 x1.f13.f2 x1.f13.f3 x1.f14.f0 x1.f14.f1 p1 x1.f14.f2 c1 x1.f14.f3 x1.f14.f4 p2 x1.f15 c2 p3 x1.f16 c3 p4 x1.f17 c4, d1, F] ih1
   refine Qn J3 ?_ ?_
   ·refine pu hs 1 fun a hs => Qj hs (hw.at_ 0 rfl) 0 fun a hs => Qj hs (hw.at_ 1 rfl) 0 fun a hs => ?_
    have hsQ := hs
    have hwQ := hw
    have hkQ := hk
    have hx2486Q := hx2
    have hx2665Q := hx3
    rcases h24 with ⟨rfl, h25⟩ | ⟨rfl, h26⟩ | ⟨rfl, h27⟩ | ⟨rfl, h28⟩ | ⟨rfl, h29⟩ | ⟨rfl, h30⟩ | ⟨rfl, h31⟩ | ⟨rfl, b3, b4, h32, h33, h34⟩ | ⟨rfl, b5, b6, h35, h36, h37⟩ | ⟨rfl, b7, h38, h39⟩ | ⟨rfl, b8, h40, h41⟩ | ⟨rfl, b9, h42, h43⟩ | ⟨rfl, b10, h44, h45⟩ | ⟨rfl, b11, h46, h47⟩ | ⟨rfl, b12, h48, h49⟩
    ·cases h25
     have hs := hsQ
     have hw := hwQ
     have hk := hkQ
     have hx2 := hx2486Q
     have hx3 := hx2665Q
     try dsimp only at hx3
     obtain ⟨y10, h50, hx3⟩ := bindE hx3
     refine Qv hs (QhY h50 (h1.mono hle1) (h2.mono hle1) (h3.mono hle1) (h4.mono hle1) ((hw.pk [1, 2, 3]).pack 0)) fun a w v hv hs => ?_
     obtain ⟨rfl, hw⟩ := hv
     have hw := hw.unpack 0 rfl
     refine pu hs 1 fun a hs => ?_
     have hw := hw.cL [k10 b1 x1.f0 x1.f1 x1.f2 x1.f3 x1.f4 x1.f5 x1.f6 x1.f7 x1.f8 x1.f9 x1.f10 x1.f11 x1.f12 x1.f13.f0 x1.f13.f1 x1.f13.f2 x1.f13.f3 x1.f14.f0 x1.f14.f1 p1 x1.f14.f2 c1 x1.f14.f3 x1.f14.f4 p2 x1.f15 c2 p3 x1.f16 c3 p4 x1.f17 c4, d1, F]
     refine Qc ?_
     obtain rfl := someE hx3
     exact (hJ3 _ _).2 ⟨(!y10), hx2, hs.cst, hw.pk [0, 1, 2]⟩
    ·cases h26
     have hs := hsQ
     have hw := hwQ
     have hk := hkQ
     have hx2 := hx2486Q
     have hx3 := hx2665Q
     try dsimp only at hx3
     have h51 : QeL = some () := rfl
     refine Qv hs (Qeh (x1 := x1) h51 (h1.mono hle1) (h2.mono hle1) (h3.mono hle1) (h4.mono hle1) ((hw.pk [1, 2, 3]).pack 0)) fun a w v hv hs => ?_
     obtain ⟨rfl, hw⟩ := hv
     have hw := hw.unpack 0 rfl
     refine pu hs 1 fun a hs => ?_
     have hw := hw.cL [k10 b1 x1.f0 x1.f1 x1.f2 x1.f3 x1.f4 x1.f5 x1.f6 x1.f7 x1.f8 x1.f9 x1.f10 x1.f11 x1.f12 x1.f13.f0 x1.f13.f1 x1.f13.f2 x1.f13.f3 x1.f14.f0 x1.f14.f1 p1 x1.f14.f2 c1 x1.f14.f3 x1.f14.f4 p2 x1.f15 c2 p3 x1.f16 c3 p4 x1.f17 c4, d1, F]
     refine Qc ?_
     obtain rfl := someE hx3
     exact (hJ3 _ _).2 ⟨false, hx2, hs.cst, hw.pk [0, 1, 2]⟩
    ·cases h27
     have hs := hsQ
     have hw := hwQ
     have hk := hkQ
     have hx2 := hx2486Q
     have hx3 := hx2665Q
     try dsimp only at hx3
     obtain ⟨y11, h52, hx3⟩ := bindE hx3
     refine Qv hs (QhX h52 (h1.mono hle1) (h2.mono hle1) (h3.mono hle1) (h4.mono hle1) ((hw.pk [1, 2, 3]).pack 0)) fun a w v hv hs => ?_
     obtain ⟨rfl, hw⟩ := hv
     have hw := hw.unpack 0 rfl
     refine pu hs 1 fun a hs => ?_
     have hw := hw.cL [k10 b1 x1.f0 x1.f1 x1.f2 x1.f3 x1.f4 x1.f5 x1.f6 x1.f7 x1.f8 x1.f9 x1.f10 x1.f11 x1.f12 x1.f13.f0 x1.f13.f1 x1.f13.f2 x1.f13.f3 x1.f14.f0 x1.f14.f1 p1 x1.f14.f2 c1 x1.f14.f3 x1.f14.f4 p2 x1.f15 c2 p3 x1.f16 c3 p4 x1.f17 c4, d1, F]
     refine Qc ?_
     obtain rfl := someE hx3
     exact (hJ3 _ _).2 ⟨(!y11), hx2, hs.cst, hw.pk [0, 1, 2]⟩
    ·cases h28
     have hs := hsQ
     have hw := hwQ
     have hk := hkQ
     have hx2 := hx2486Q
     have hx3 := hx2665Q
     try dsimp only at hx3
     obtain ⟨y12, h53, hx3⟩ := bindE hx3
     refine Qv hs (QhW h53 (h1.mono hle1) (h2.mono hle1) (h3.mono hle1) (h4.mono hle1) ((hw.pk [1, 2, 3]).pack 0)) fun a w v hv hs => ?_
     obtain ⟨rfl, hw⟩ := hv
     have hw := hw.unpack 0 rfl
     refine pu hs 1 fun a hs => ?_
     have hw := hw.cL [k10 b1 x1.f0 x1.f1 x1.f2 x1.f3 x1.f4 x1.f5 x1.f6 x1.f7 x1.f8 x1.f9 x1.f10 x1.f11 x1.f12 x1.f13.f0 x1.f13.f1 x1.f13.f2 x1.f13.f3 x1.f14.f0 x1.f14.f1 p1 x1.f14.f2 c1 x1.f14.f3 x1.f14.f4 p2 x1.f15 c2 p3 x1.f16 c3 p4 x1.f17 c4, d1, F]
     refine Qc ?_
     obtain rfl := someE hx3
     exact (hJ3 _ _).2 ⟨(!y12), hx2, hs.cst, hw.pk [0, 1, 2]⟩
    ·cases h29
     have hs := hsQ
     have hw := hwQ
     have hk := hkQ
     have hx2 := hx2486Q
     have hx3 := hx2665Q
     try dsimp only at hx3
     obtain ⟨y13, h54, hx3⟩ := bindE hx3
     refine Qv hs (QhD h54 (h1.mono hle1) (h2.mono hle1) (h3.mono hle1) (h4.mono hle1) ((hw.pk [1, 2, 3]).pack 0)) fun a w v hv hs => ?_
     obtain ⟨rfl, hw⟩ := hv
     have hw := hw.unpack 0 rfl
     refine pu hs 1 fun a hs => ?_
     have hw := hw.cL [k10 b1 x1.f0 x1.f1 x1.f2 x1.f3 x1.f4 x1.f5 x1.f6 x1.f7 x1.f8 x1.f9 x1.f10 x1.f11 x1.f12 x1.f13.f0 x1.f13.f1 x1.f13.f2 x1.f13.f3 x1.f14.f0 x1.f14.f1 p1 x1.f14.f2 c1 x1.f14.f3 x1.f14.f4 p2 x1.f15 c2 p3 x1.f16 c3 p4 x1.f17 c4, d1, F]
     refine Qc ?_
     obtain rfl := someE hx3
     exact (hJ3 _ _).2 ⟨(!y13), hx2, hs.cst, hw.pk [0, 1, 2]⟩
    ·cases h30
     have hs := hsQ
     have hw := hwQ
     have hk := hkQ
     have hx2 := hx2486Q
     have hx3 := hx2665Q
     try dsimp only at hx3
     obtain ⟨y14, h55, hx3⟩ := bindE hx3
     refine Qv hs (QhU h55 (h1.mono hle1) (h2.mono hle1) (h3.mono hle1) (h4.mono hle1) ((hw.pk [1, 2, 3]).pack 0)) fun a w v hv hs => ?_
     obtain ⟨rfl, hw⟩ := hv
     have hw := hw.unpack 0 rfl
     refine pu hs 1 fun a hs => ?_
     have hw := hw.cL [k10 b1 x1.f0 x1.f1 x1.f2 x1.f3 x1.f4 x1.f5 x1.f6 x1.f7 x1.f8 x1.f9 x1.f10 x1.f11 x1.f12 x1.f13.f0 x1.f13.f1 x1.f13.f2 x1.f13.f3 x1.f14.f0 x1.f14.f1 p1 x1.f14.f2 c1 x1.f14.f3 x1.f14.f4 p2 x1.f15 c2 p3 x1.f16 c3 p4 x1.f17 c4, d1, F]
     refine Qc ?_
     obtain rfl := someE hx3
     exact (hJ3 _ _).2 ⟨(!y14), hx2, hs.cst, hw.pk [0, 1, 2]⟩
    ·cases h31
     have hs := hsQ
     have hw := hwQ
     have hk := hkQ
     have hx2 := hx2486Q
     have hx3 := hx2665Q
     try dsimp only at hx3
     obtain ⟨y15, h56, hx3⟩ := bindE hx3
     refine Qv hs (QhC h56 (h1.mono hle1) (h2.mono hle1) (h3.mono hle1) (h4.mono hle1) ((hw.pk [1, 2, 3]).pack 0)) fun a w v hv hs => ?_
     obtain ⟨rfl, hw⟩ := hv
     have hw := hw.unpack 0 rfl
     refine pu hs 1 fun a hs => ?_
     have hw := hw.cL [k10 b1 x1.f0 x1.f1 x1.f2 x1.f3 x1.f4 x1.f5 x1.f6 x1.f7 x1.f8 x1.f9 x1.f10 x1.f11 x1.f12 x1.f13.f0 x1.f13.f1 x1.f13.f2 x1.f13.f3 x1.f14.f0 x1.f14.f1 p1 x1.f14.f2 c1 x1.f14.f3 x1.f14.f4 p2 x1.f15 c2 p3 x1.f16 c3 p4 x1.f17 c4, d1, F]
     refine Qc ?_
     obtain rfl := someE hx3
     exact (hJ3 _ _).2 ⟨(!y15), hx2, hs.cst, hw.pk [0, 1, 2]⟩
    ·cases h32
     have hs := hsQ
     have hw := hwQ
     have hk := hkQ
     have hx2 := hx2486Q
     have hx3 := hx2665Q
     try dsimp only at hx3
     obtain ⟨y16, h57, hx3⟩ := bindE hx3
     refine Qv hs (Qjj h57 (h1.mono hle1) (h2.mono hle1) (h3.mono hle1) (h4.mono hle1) ((hw.pk [1, 2, 3]).pack 0)) fun a w v hv hs => ?_
     obtain ⟨rfl, hw⟩ := hv
     have hw := hw.unpack 0 rfl
     refine pu hs 1 fun a hs => ?_
     have hw := hw.cL [k10 b1 x1.f0 x1.f1 x1.f2 x1.f3 x1.f4 x1.f5 x1.f6 x1.f7 x1.f8 x1.f9 x1.f10 x1.f11 x1.f12 x1.f13.f0 x1.f13.f1 x1.f13.f2 x1.f13.f3 x1.f14.f0 x1.f14.f1 p1 x1.f14.f2 c1 x1.f14.f3 x1.f14.f4 p2 x1.f15 c2 p3 x1.f16 c3 p4 x1.f17 c4, d1, F]
     refine Qc ?_
     obtain rfl := someE hx3
     exact (hJ3 _ _).2 ⟨(!y16), hx2, hs.cst, hw.pk [0, 1, 2]⟩
    ·cases h35
     have hs := hsQ
     have hw := hwQ
     have hk := hkQ
     have hx2 := hx2486Q
     have hx3 := hx2665Q
     try dsimp only at hx3
     obtain ⟨y17, h58, hx3⟩ := bindE hx3
     refine Qv hs (Qji h58 (h1.mono hle1) (h2.mono hle1) (h3.mono hle1) (h4.mono hle1) ((hw.pk [1, 2, 3]).pack 0)) fun a w v hv hs => ?_
     obtain ⟨rfl, hw⟩ := hv
     have hw := hw.unpack 0 rfl
     refine pu hs 1 fun a hs => ?_
     have hw := hw.cL [k10 b1 x1.f0 x1.f1 x1.f2 x1.f3 x1.f4 x1.f5 x1.f6 x1.f7 x1.f8 x1.f9 x1.f10 x1.f11 x1.f12 x1.f13.f0 x1.f13.f1 x1.f13.f2 x1.f13.f3 x1.f14.f0 x1.f14.f1 p1 x1.f14.f2 c1 x1.f14.f3 x1.f14.f4 p2 x1.f15 c2 p3 x1.f16 c3 p4 x1.f17 c4, d1, F]
     refine Qc ?_
     obtain rfl := someE hx3
     exact (hJ3 _ _).2 ⟨(!y17), hx2, hs.cst, hw.pk [0, 1, 2]⟩
    ·cases h38
     have hs := hsQ
     have hw := hwQ
     have hk := hkQ
     have hx2 := hx2486Q
     have hx3 := hx2665Q
     try dsimp only at hx3
     obtain ⟨y18, h59, hx3⟩ := bindE hx3
     refine Qv hs (Qjh h59 (h1.mono hle1) (h2.mono hle1) (h3.mono hle1) (h4.mono hle1) ((hw.pk [1, 2, 3]).pack 0)) fun a w v hv hs => ?_
     obtain ⟨rfl, hw⟩ := hv
     have hw := hw.unpack 0 rfl
     refine pu hs 1 fun a hs => ?_
     have hw := hw.cL [k10 b1 x1.f0 x1.f1 x1.f2 x1.f3 x1.f4 x1.f5 x1.f6 x1.f7 x1.f8 x1.f9 x1.f10 x1.f11 x1.f12 x1.f13.f0 x1.f13.f1 x1.f13.f2 x1.f13.f3 x1.f14.f0 x1.f14.f1 p1 x1.f14.f2 c1 x1.f14.f3 x1.f14.f4 p2 x1.f15 c2 p3 x1.f16 c3 p4 x1.f17 c4, d1, F]
     refine Qc ?_
     obtain rfl := someE hx3
     exact (hJ3 _ _).2 ⟨(!y18), hx2, hs.cst, hw.pk [0, 1, 2]⟩
    ·cases h40
     have hs := hsQ
     have hw := hwQ
     have hk := hkQ
     have hx2 := hx2486Q
     have hx3 := hx2665Q
     try dsimp only at hx3
     obtain ⟨y19, h60, hx3⟩ := bindE hx3
     refine Qv hs (Qjg h60 (h1.mono hle1) (h2.mono hle1) (h3.mono hle1) (h4.mono hle1) ((hw.pk [1, 2, 3]).pack 0)) fun a w v hv hs => ?_
     obtain ⟨rfl, hw⟩ := hv
     have hw := hw.unpack 0 rfl
     refine pu hs 1 fun a hs => ?_
     have hw := hw.cL [k10 b1 x1.f0 x1.f1 x1.f2 x1.f3 x1.f4 x1.f5 x1.f6 x1.f7 x1.f8 x1.f9 x1.f10 x1.f11 x1.f12 x1.f13.f0 x1.f13.f1 x1.f13.f2 x1.f13.f3 x1.f14.f0 x1.f14.f1 p1 x1.f14.f2 c1 x1.f14.f3 x1.f14.f4 p2 x1.f15 c2 p3 x1.f16 c3 p4 x1.f17 c4, d1, F]
     refine Qc ?_
     obtain rfl := someE hx3
     exact (hJ3 _ _).2 ⟨(!y19), hx2, hs.cst, hw.pk [0, 1, 2]⟩
    ·cases h42
     have hs := hsQ
     have hw := hwQ
     have hk := hkQ
     have hx2 := hx2486Q
     have hx3 := hx2665Q
     try dsimp only at hx3
     have h61 : QeL = some () := rfl
     refine Qv hs (Qeh (x1 := x1) h61 (h1.mono hle1) (h2.mono hle1) (h3.mono hle1) (h4.mono hle1) ((hw.pk [1, 2, 3]).pack 0)) fun a w v hv hs => ?_
     obtain ⟨rfl, hw⟩ := hv
     have hw := hw.unpack 0 rfl
     refine pu hs 1 fun a hs => ?_
     have hw := hw.cL [k10 b1 x1.f0 x1.f1 x1.f2 x1.f3 x1.f4 x1.f5 x1.f6 x1.f7 x1.f8 x1.f9 x1.f10 x1.f11 x1.f12 x1.f13.f0 x1.f13.f1 x1.f13.f2 x1.f13.f3 x1.f14.f0 x1.f14.f1 p1 x1.f14.f2 c1 x1.f14.f3 x1.f14.f4 p2 x1.f15 c2 p3 x1.f16 c3 p4 x1.f17 c4, d1, F]
     refine Qc ?_
     obtain rfl := someE hx3
     exact (hJ3 _ _).2 ⟨false, hx2, hs.cst, hw.pk [0, 1, 2]⟩
    ·cases h44
     have hs := hsQ
     have hw := hwQ
     have hk := hkQ
     have hx2 := hx2486Q
     have hx3 := hx2665Q
     try dsimp only at hx3
     have h62 : QeL = some () := rfl
     refine Qv hs (Qeh (x1 := x1) h62 (h1.mono hle1) (h2.mono hle1) (h3.mono hle1) (h4.mono hle1) ((hw.pk [1, 2, 3]).pack 0)) fun a w v hv hs => ?_
     obtain ⟨rfl, hw⟩ := hv
     have hw := hw.unpack 0 rfl
     refine pu hs 1 fun a hs => ?_
     have hw := hw.cL [k10 b1 x1.f0 x1.f1 x1.f2 x1.f3 x1.f4 x1.f5 x1.f6 x1.f7 x1.f8 x1.f9 x1.f10 x1.f11 x1.f12 x1.f13.f0 x1.f13.f1 x1.f13.f2 x1.f13.f3 x1.f14.f0 x1.f14.f1 p1 x1.f14.f2 c1 x1.f14.f3 x1.f14.f4 p2 x1.f15 c2 p3 x1.f16 c3 p4 x1.f17 c4, d1, F]
     refine Qc ?_
     obtain rfl := someE hx3
     exact (hJ3 _ _).2 ⟨false, hx2, hs.cst, hw.pk [0, 1, 2]⟩
    ·cases h46
     have hs := hsQ
     have hw := hwQ
     have hk := hkQ
     have hx2 := hx2486Q
     have hx3 := hx2665Q
     try dsimp only at hx3
     have h63 : QeL = some () := rfl
     refine Qv hs (Qeh (x1 := x1) h63 (h1.mono hle1) (h2.mono hle1) (h3.mono hle1) (h4.mono hle1) ((hw.pk [1, 2, 3]).pack 0)) fun a w v hv hs => ?_
     obtain ⟨rfl, hw⟩ := hv
     have hw := hw.unpack 0 rfl
     refine pu hs 1 fun a hs => ?_
     have hw := hw.cL [k10 b1 x1.f0 x1.f1 x1.f2 x1.f3 x1.f4 x1.f5 x1.f6 x1.f7 x1.f8 x1.f9 x1.f10 x1.f11 x1.f12 x1.f13.f0 x1.f13.f1 x1.f13.f2 x1.f13.f3 x1.f14.f0 x1.f14.f1 p1 x1.f14.f2 c1 x1.f14.f3 x1.f14.f4 p2 x1.f15 c2 p3 x1.f16 c3 p4 x1.f17 c4, d1, F]
     refine Qc ?_
     obtain rfl := someE hx3
     exact (hJ3 _ _).2 ⟨false, hx2, hs.cst, hw.pk [0, 1, 2]⟩
    cases h48
    have hs := hsQ
    have hw := hwQ
    have hk := hkQ
    have hx2 := hx2486Q
    have hx3 := hx2665Q
    try dsimp only at hx3
    have h64 : QeL = some () := rfl
    refine Qv hs (Qeh (x1 := x1) h64 (h1.mono hle1) (h2.mono hle1) (h3.mono hle1) (h4.mono hle1) ((hw.pk [1, 2, 3]).pack 0)) fun a w v hv hs => ?_
    obtain ⟨rfl, hw⟩ := hv
    have hw := hw.unpack 0 rfl
    refine pu hs 1 fun a hs => ?_
    have hw := hw.cL [k10 b1 x1.f0 x1.f1 x1.f2 x1.f3 x1.f4 x1.f5 x1.f6 x1.f7 x1.f8 x1.f9 x1.f10 x1.f11 x1.f12 x1.f13.f0 x1.f13.f1 x1.f13.f2 x1.f13.f3 x1.f14.f0 x1.f14.f1 p1 x1.f14.f2 c1 x1.f14.f3 x1.f14.f4 p2 x1.f15 c2 p3 x1.f16 c3 p4 x1.f17 c4, d1, F]
    refine Qc ?_
    obtain rfl := someE hx3
    exact (hJ3 _ _).2 ⟨false, hx2, hs.cst, hw.pk [0, 1, 2]⟩
   intro a w hh
   obtain ⟨x5, hx2, hs, hw⟩ := (hJ3 _ _).1 hh
   rcases ifbE hx2 with ⟨h65, hx2⟩ | ⟨h65, hx2⟩
   ·refine Qr hs h65 ?_
    refine Qd (Qa (pn hs 1 [(2, Qb 4)] fun a hs => ?_))
    refine Qc (Qi ?_)
    obtain rfl := someE hx2
    obtain rfl := someE hk
    exact qr1 hQ hs ⟨ih1, rfl, hw.pk [2], hle1⟩
   refine Qs hs h65 ?_
   refine Qg (Qa (pu hs 2 fun a hs => ?_))
   refine Qc ?_
   exact (hI1 _ _ _).2 ⟨(IntKind.i64.wrap (x3 + 1)), hx2, hs.cst, hw.pk [0, 1, 2]⟩
  refine Qs hs h21 (Qa3 ?_)
  obtain rfl := someE hx2
  exact (hJ2 _ _).2 ⟨hk, hs.cst, hw.pk [2]⟩
 intro a w hh
 obtain ⟨hk, hs, hw⟩ := (hJ2 _ _).1 hh
 refine Qd (Qa (pn hs 1 [(2, Qb 0)] fun a hs => ?_))
 refine Qc (Qi ?_)
 obtain rfl := someE hk
 exact qr1 hQ hs ⟨ih1, rfl, hw.pk [0], hle1⟩
def QgA (k : Nat) (x1 : M96) (x2 : Int) : Option Int :=
 (QfN x1.f3).bind fun y1 =>
 if (!y1) = true then some 1
 else if (decide ((x1.f6.length : Int) > 2048)) = true then some 6
 else (Qdz k (M48.mk x2 1 1 0 1 0 0 0 0 0 0 0 0 (M41.mk 0 0 0 0) (M44.mk 0 0 ([]) false 0) ([]) ([x1]) ([]))).bind fun y2 =>
 some y2
theorem QiP {k : Nat} {x1 : M96} {x2 : Int} {c1 : Nat} {p1 : Option Addr} {r : Int} (hk : QgA k x1 x2 = some r) {g w : World} {F : Ch} {ih : IH} (h1 : RSl e5 ih [] p1 c1 x1.f6) (hG : Glob 0 gl0 162 ih) (hw : St g w [F] ih) :
  CallsR Tryz.prog 127 #[A96 x1 p1 c1, Qb x2] w fun v w' => ∃ (ih' : IH), v = Qb r ∧ St g w' [F] ih' ∧ Le ih ih' := by
 refine f_i Tryz.func127 rfl 20 rfl fun a Qf hQ hQn hs => ?_
 refine Qd (Qa (QC hs hw [Qe x1.f0, Qb x1.f1, Qe x1.f2, Qb x1.f3, Qk x1.f4, Qe x1.f5, .slice p1 x1.f6.length c1] 96 (fun b => (pt b 0)) (by kernel_rfl) (fun _ => by kernel_rfl) fun a w b1 hs hw => ?_))
 refine pn hs 1 [(1, Qb x2), (2, (pt b1 0))] fun a hs => Qc (Qd (Ql (Qd (Qa (pu hs 1 fun a hs => ?_)))))
 refine Qj hs (hw.at_ 0 rfl) 3 fun a hs => ?_
 obtain ⟨y1, h2, hk⟩ := bindE hk
 refine Qv hs (Qh9 h2 ((hw.pk [0, 1]).pack 0)) fun a w v hv hs => ?_
 obtain ⟨rfl, hw⟩ := hv
 have hw := hw.unpack 0 rfl
 refine pn hs 2 [(1, Qb x2), (2, (pt b1 0)), (5, .bool (!y1))] fun a hs => Qc ?_
 rcases ifbE hk with ⟨h3, hk⟩ | ⟨h3, hk⟩
 ·refine Qr hs h3 ?_
  refine Qd (Qa (pn hs 1 [(4, Qb 1)] fun a hs => ?_))
  refine Qc (Qi ?_)
  obtain rfl := someE hk
  exact qr1 hQ hs ⟨ih, rfl, hw.pk [1], (Le.refl _)⟩
 refine Qs hs h3 ?_
 refine Qd (Qa (pu hs 1 fun a hs => ?_))
 refine Qj hs (hw.at_ 0 rfl) 6 fun a hs => pn hs 3 [(1, Qb x2), (2, (pt b1 0)), (10, .bool (decide ((x1.f6.length : Int) > 2048)))] fun a hs => Qc ?_
 rcases ifbE hk with ⟨h4, hk⟩ | ⟨h4, hk⟩
 ·refine Qr hs h4 ?_
  refine Qd (Qa (pn hs 1 [(4, Qb 6)] fun a hs => ?_))
  refine Qc (Qi ?_)
  obtain rfl := someE hk
  exact qr1 hQ hs ⟨ih, rfl, hw.pk [1], (Le.refl _)⟩
 refine Qs hs h4 ?_
 refine Qg (Qd (Qa (pu hs 1 fun a hs => ?_)))
 refine Qj hs (hw.at_ 0 rfl) 0 fun a hs => QaN hs hw [Qe x1.f0, Qb x1.f1, Qe x1.f2, Qb x1.f3, Qk x1.f4, Qe x1.f5, .slice p1 x1.f6.length c1] 96 (fun b => .slice (some ⟨b, 0, none⟩) 1 1) fun a w b2 hs hw => ?_
 obtain ⟨ih1, hle1, hw, h5⟩ := (hw.pk [0, 1, 2]).fz ((OSl.of1 (E := e96) (ih := ih) (b := b2) (z := x1) ⟨p1, c1, rfl, h1⟩ (by simp [maxLen])).mono (Le.refl _))
 have hw := hw.cL [k9 b1 x1.f0 x1.f1 x1.f2 x1.f3 x1.f4 x1.f5 p1 x1.f6 c1, F]
 refine pu hs 1 fun a hs => ?_
 obtain ⟨y2, h6, hk⟩ := bindE hk
 refine Qv hs (QfB h6 (RSl.nil _ _ _) (RSl.nil _ _ _) h5 (RSl.nil _ _ _) (hG.mono hle1) ((hw.pk [1]).pack 0)) fun a w v hv hs => ?_
 obtain ⟨ih2, rfl, hw, hle2⟩ := hv
 have hw := hw.unpack 0 rfl
 refine pn hs 1 [(4, Qb y2)] fun a hs => Qc (Qi ?_)
 obtain rfl := someE hk
 exact qr1 hQ hs ⟨ih2, rfl, hw.pk [0], (hle1.trans hle2)⟩
def QgB (k : Nat) (x1 : M96) : Option Int :=
 (QgA k x1 17).bind fun y1 =>
 some y1
theorem QiQ {k : Nat} {x1 : M96} {c1 : Nat} {p1 : Option Addr} {r : Int} (hk : QgB k x1 = some r) {g w : World} {F : Ch} {ih : IH} (h1 : RSl e5 ih [] p1 c1 x1.f6) (hG : Glob 0 gl0 162 ih) (hw : St g w [F] ih) :
  CallsR Tryz.prog 84 #[A96 x1 p1 c1] w fun v w' => ∃ (ih' : IH), v = Qb r ∧ St g w' [F] ih' ∧ Le ih ih' := by
 refine f_i Tryz.func84 rfl 5 rfl fun a Qf hQ hQn hs => ?_
 refine Qd (Qa (QC hs hw [Qe x1.f0, Qb x1.f1, Qe x1.f2, Qb x1.f3, Qk x1.f4, Qe x1.f5, .slice p1 x1.f6.length c1] 96 (fun b => (pt b 0)) (by kernel_rfl) (fun _ => by kernel_rfl) fun a w b1 hs hw => ?_))
 refine pn hs 1 [(1, (pt b1 0))] fun a hs => Qc (Qd (Qa (Qj hs (hw.at_ 0 rfl) 0 fun a hs => ?_)))
 obtain ⟨y1, h2, hk⟩ := bindE hk
 refine Qv hs (QiP h2 h1 (hG.mono (Le.refl _)) ((hw.pk [1]).pack 0)) fun a w v hv hs => ?_
 obtain ⟨ih1, rfl, hw, hle1⟩ := hv
 have hw := hw.unpack 0 rfl
 refine pn hs 1 [(2, Qb y1)] fun a hs => Qc (Qi ?_)
 obtain rfl := someE hk
 exact qr1 hQ hs ⟨ih1, rfl, hw.pk [0], hle1⟩
def Qd7 (k : Nat) (x1 x2 : Int) (x3 : M26) (x4 : List Int) : Option (M96 × Int) :=
 (QgB k (M96.mk 0 x1 x2 x3.f0 x3.f1 x3.f2 x4)).bind fun y1 =>
 if (y1 != 0) = true then some ((M96.mk 0 0 0 0 0 0 ([])), y1)
 else some ((M96.mk 0 x1 x2 x3.f0 x3.f1 x3.f2 x4), 0)
def Qde (k : Nat) (x1 : M26) (x2 x3 : Int) : Option (M96 × Int) :=
 ((QaI x1.f3).bind fun y1 =>
  some y1 : Option (List Int)).bind fun s1 => Qd7 k x2 x3 x1 s1
theorem Qdm {k : Nat} {x1 : M26} {x2 x3 : Int} {c1 : Nat} {p1 : Option Addr} {r : M96 × Int} (hk : Qde k x1 x2 x3 = some r) {g w : World} {F : Ch} {ih : IH} (h1 : RSl e5 ih [] p1 c1 x1.f3) (hG : Glob 0 gl0 162 ih) (hw : St g w [F] ih) :
  CallsR Tryz.prog 53 #[A26 x1 p1 c1, Qb x2, Qe x3] w fun v w' => ∃ (ih' : IH) (p2 : Option Addr) (c2 : Nat), v = .tuple #[.agg #[Qe r.1.f0, Qb r.1.f1, Qe r.1.f2, Qb r.1.f3, Qk r.1.f4, Qe r.1.f5, .slice p2 r.1.f6.length c2], Qb r.2] ∧ St g w' [F] ih' ∧ Le ih ih' ∧ RSl e5 ih' [] p2 c2 r.1.f6 := by
 refine f_i Tryz.func53 rfl 29 rfl fun a Qf hQ hQn hs => ?_
 refine Qd (Qa (QC hs hw [Qb x1.f0, Qk x1.f1, Qe x1.f2, .slice p1 x1.f3.length c1, Qb x1.f4] 26 (fun b => (pt b 0)) (by kernel_rfl) (fun _ => by kernel_rfl) fun a w b1 hs hw => ?_))
 refine QaN hs hw [Qe 0, Qb 0, Qe 0, Qb 0, Qk 0, Qe 0, .slice none 0 0] 96 (fun b => (pt b 0)) fun a w b2 hs hw => ?_
 refine pn hs 1 [(1, Qb x2), (2, Qe x3), (3, (pt b1 0)), (6, (pt b2 0))] fun a hs => Qc (Qd ?_)
 have hw := hw.cL [k7 b2, k8 b1 x1.f0 x1.f1 x1.f2 p1 x1.f3 c1 x1.f4, F]
 obtain ⟨S, hD, kS⟩ := mkSXw hw [[], [], []] (K := []) rfl
 obtain ⟨y1, hx1, hk⟩ := bindE hk
 obtain ⟨J1, hJ1⟩ := mkJ fun a w => ∃ (x4 : List Int) (b3 : Nat) (p3 : Option Addr) (c3 : Nat) (ih1 : IH), Qd7 k x2 x3 x1 x4 = some r ∧ Sees a 29 [(6, (pt b2 0)), (8, (pt b3 0))] ∧ St g w [k7 b2, k36 b3 x2 x3 x1.f0 x1.f1 x1.f2 p3 x4 c3, F] ih1 ∧ Le ih ih1 ∧ RSl e5 ih1 [] p3 c3 x4
 refine Qo (by kernel_rfl) (N := 14) rfl S J1 ?_ ?_
 ·have hw := hw.drew
  have hS : S (bA 14 0) _ := SXn hD (hw.vws [0, 1, 2])
  refine Qp (fuel := 11) kS hs hS [0, 1, 2] fun a hs hS => ?_
  refine Qy kS hs hS 3 rfl (SXb hD 1 rfl) 0 fun a hs hS => ?_
  refine Qp (fuel := 9) kS hs hS [4] fun a hs hS => ?_
  refine Qy kS hs hS 5 rfl (SXb hD 1 rfl) 1 fun a hs hS => ?_
  refine Qp (fuel := 7) kS hs hS [6] fun a hs hS => ?_
  refine Qy kS hs hS 7 rfl (SXb hD 1 rfl) 2 fun a hs hS => ?_
  refine Qff (fuel := 5) kS hs hS [8] [(6, (pt b2 0)), (10, Qb x2), (11, Qe x3), (13, Qb x1.f0), (15, Qk x1.f1), (17, Qe x1.f2), (18, (pt b1 3))] fun a hs hS => ?_
  refine Qy kS hs hS 9 rfl (SXb hD 1 rfl) 3 fun a hs hS => ?_
  refine QF [10, 12] (QkI ?_ (QH ?_))
  ·obtain ⟨y2, h2, hx1⟩ := bindE hx1
   refine QaR hs rfl (QaQ h2 h1 (nilSub _) ((hw.pk [0, 1, 2]).pack 0)) fun a w v hv hs => ?_
   obtain ⟨p4, c4, d1, rfl, hw, h3⟩ := hv
   have hw := hw.unpack 1 rfl
   refine nx hD ((hw.vws [1, 2, 3]).anti (Le.refl _)) fun hS => ?_
   obtain ⟨ih2, hle1, hw, h4⟩ := (hw.pk [0, 1, 2, 3]).fz (h3.mono (Le.refl _))
   refine Qp (fuel := 2) kS hs hS [11] fun a hs hS => ?_
   refine QF [12] (QH ?_)
   refine Qhy hs rfl hw [Qe 0, Qb 0, Qe 0, Qb 0, Qk 0, Qe 0, .slice none 0 0] 96 (fun b => (pt b 0)) fun a w b4 hs hw => ?_
   refine nx hD ((hw.vws [1, 2, 3]).anti hle1) fun hS => ?_
   refine QF [13] (QH ?_)
   refine QfM hs hw rfl 0 rfl 0 (v := .agg #[Qe 0, Qb x2, Qe x3, Qb x1.f0, Qk x1.f1, Qe x1.f2, .slice p4 y2.length c4]) fun a w hs hw => ?_
   refine nx hD ((hw.vws [1, 2, 3]).anti hle1) fun hS => ?_
   refine QhI ?_
   obtain rfl := someE hx1
   exact (hJ1 _ _).2 ⟨y2, b4, p4, c4, ih2, hk, hs.cst, hw.pk [1, 0, 3], hle1, h4⟩
  refine Qhy hs rfl hw [Qe 0, Qb 0, Qe 0, Qb 0, Qk 0, Qe 0, .slice none 0 0] 96 (fun b => (pt b 0)) fun a w b5 hs hw => ?_
  refine nx hD ((hw.vws [1, 2, 3]).anti (Le.refl _)) fun hS => ?_
  refine QF [10] (QH ?_)
  obtain ⟨y3, h5, hx1⟩ := bindE hx1
  refine QaR hs rfl (QaQ h5 h1 (nilSub _) ((hw.pk [0, 1, 2, 3]).pack 0)) fun a w v hv hs => ?_
  obtain ⟨p5, c5, d2, rfl, hw, h6⟩ := hv
  have hw := hw.unpack 1 rfl
  refine nx hD ((hw.vws [2, 3, 4]).anti (Le.refl _)) fun hS => ?_
  obtain ⟨ih3, hle2, hw, h7⟩ := (hw.pk [0, 1, 2, 3, 4]).fz (h6.mono (Le.refl _))
  refine Qp (fuel := 1) kS hs hS [11] fun a hs hS => ?_
  refine QF [13] (QH ?_)
  refine QfM hs hw rfl 0 rfl 0 (v := .agg #[Qe 0, Qb x2, Qe x3, Qb x1.f0, Qk x1.f1, Qe x1.f2, .slice p5 y3.length c5]) fun a w hs hw => ?_
  refine nx hD ((hw.vws [1, 2, 3]).anti hle2) fun hS => ?_
  refine QhI ?_
  obtain rfl := someE hx1
  exact (hJ1 _ _).2 ⟨y3, b5, p5, c5, ih3, hk, hs.cst, hw.pk [1, 0, 3], hle2, h7⟩
 intro a w hh
 obtain ⟨x4, b3, p3, c3, ih1, hk, hs, hw, hle3, h8⟩ := (hJ1 _ _).1 hh
 refine Qd (Qd (Qa (Qj hs (hw.at_ 1 rfl) 0 fun a hs => ?_)))
 obtain ⟨y4, h9, hk⟩ := bindE hk
 refine Qv hs (QiQ h9 h8 (hG.mono hle3) ((hw.pk [0, 1, 2]).pack 0)) fun a w v hv hs => ?_
 obtain ⟨ih4, rfl, hw, hle4⟩ := hv
 have hw := hw.unpack 0 rfl
 refine pn hs 1 [(6, (pt b2 0)), (8, (pt b3 0)), (9, Qb y4)] fun a hs => Qc (Qd (Qa (pn hs 2 [(6, (pt b2 0)), (8, (pt b3 0)), (9, Qb y4), (25, .bool (y4 != 0))] fun a hs => ?_)))
 refine Qc ?_
 rcases ifbE hk with ⟨h10, hk⟩ | ⟨h10, hk⟩
 ·refine Qr hs h10 ?_
  refine Qd (Qa (pu hs 2 fun a hs => ?_))
  refine QE hs hw 0 rfl 0 (v := .agg #[Qe 0, Qb 0, Qe 0, Qb 0, Qk 0, Qe 0, .slice none 0 0]) fun a w hs hw => ?_
  refine pn hs 1 [(6, (pt b2 0)), (7, Qb y4)] fun a hs => Qc (Qi ?_)
  obtain rfl := someE hk
  refine hQ _ _ (Qcs hs (l := [.cell 6 96, .tmp 7]) (vs := [.agg #[Qe 0, Qb 0, Qe 0, Qb 0, Qk 0, Qe 0, .slice none 0 0], Qb y4]) rfl (⟨Qab hs (hw.at_ 0 rfl) (by kernel_rfl) (v := .agg #[Qe 0, Qb 0, Qe 0, Qb 0, Qk 0, Qe 0, .slice none 0 0]) (by kernel_rfl), ⟨Qaf hs (v := Qb y4) (by kernel_rfl), trivial⟩⟩) (by kernel_rfl) ⟨ih4, none, 0, rfl, hw.pk [2], (hle3.trans hle4), (RSl.nil _ _ _)⟩)
 refine Qs hs h10 ?_
 refine Qg (Qd (Qa (Qj hs (hw.at_ 1 rfl) 0 fun a hs => ?_)))
 refine QE hs hw 0 rfl 0 (v := .agg #[Qe 0, Qb x2, Qe x3, Qb x1.f0, Qk x1.f1, Qe x1.f2, .slice p3 x4.length c3]) fun a w hs hw => ?_
 refine pn hs 1 [(6, (pt b2 0)), (7, Qb 0)] fun a hs => Qc (Qi ?_)
 obtain rfl := someE hk
 refine hQ _ _ (Qcs hs (l := [.cell 6 96, .tmp 7]) (vs := [.agg #[Qe 0, Qb x2, Qe x3, Qb x1.f0, Qk x1.f1, Qe x1.f2, .slice p3 x4.length c3], Qb 0]) rfl (⟨Qab hs (hw.at_ 0 rfl) (by kernel_rfl) (v := .agg #[Qe 0, Qb x2, Qe x3, Qb x1.f0, Qk x1.f1, Qe x1.f2, .slice p3 x4.length c3]) (by kernel_rfl), ⟨Qaf hs (v := Qb 0) (by kernel_rfl), trivial⟩⟩) (by kernel_rfl) ⟨ih4, p3, c3, rfl, hw.pk [2], (hle3.trans hle4), (h8.mono hle4)⟩)
def Qcq (x1 : Int) : Option Int :=
 some x1
def Qcp (k : Nat) (x1 : M26) (x2 x3 : Int) (x4 : Bool) : Option Int :=
 if x4 = true then (
  ((Qde k x1 x2 (IntKind.u64.wrap (x3 + 1))).bind fun y1 =>
   some y1.2 : Option Int).bind fun s1 => Qcq s1)
 else some 1
def Qat (k : Nat) (x1 x2 : Int) (x3 : M26) : Option Int :=
 if (x3.f0 == 1) = true then (
  if ((x3.f2 != 0) || (decide ((x3.f3.length : Int) > 0))) = true then some 4
  else some 0)
 else (if (x3.f0 == 2) = true then some (x3.f0 == 2)
  else some (x3.f0 == 3) : Option Bool).bind fun s1 => Qcp k x3 x1 x2 s1
theorem Qen {k : Nat} {x1 x2 x3 x4 : Int} {x5 : List M44} {x6 : Value} {x7 x8 x9 : Int} {x10 : List Int} {x11 : Int} {x12 : Value} {x13 x14 x15 : Int} {x16 : List Int} {x17 : M26} {d1 : Ch} {b1 b2 c1 c2 c3 c4 : Nat} {p1 p2 p3 p4 : Option Addr} {r : Int} (hk : Qat k x1 x3 x17 = some r) {g w : World} {F : Ch} {ih : IH} (h1 : OSl e44 ih p1 c1 x5 d1) (h2 : x6.oneCell' = true) (h3 : RSl e5 ih [] p2 c2 x10) (h4 : x12.oneCell' = true) (h5 : RSl e5 ih [] p3 c3 x16) (h6 : RSl e5 ih [] p4 c4 x17.f3) (hG : Glob 0 gl0 162 ih) (hw : St g w [k6 b1 x1 x2 x3 x4 b2 x7 x8 x9 p2 x10 c2 x11 x12 x13 x14 x15 p3 x16 c3, bx b2 [.slice p1 x5.length c1, x6] 113, d1, F] ih) :
  CallsR Tryz.prog 28 #[(pt b1 0), A26 x17 p4 c4] w fun v w' => ∃ (ih' : IH), v = Qb r ∧ St g w' [bx b1 [Qb x1, Qb x2, Qe x3, Qb x4, (pt b2 0), Qb x7, Qk x8, Qe x9, .slice p2 x10.length c2, Qb x11, x12, Qe x13, Qb x14, Qe x15, .slice p3 x16.length c3] 85, bx b2 [.slice p1 x5.length c1, x6] 113, d1, F] ih' ∧ Le ih ih' := by
 refine f_i Tryz.func28 rfl 38 rfl fun a Qf hQ hQn hs => ?_
 refine Qd (Qa (QC hs hw [Qb x17.f0, Qk x17.f1, Qe x17.f2, .slice p4 x17.f3.length c4, Qb x17.f4] 26 (fun b => (pt b 0)) (by kernel_rfl) (fun _ => by kernel_rfl) fun a w b3 hs hw => ?_))
 refine pn hs 1 [(0, (pt b1 0)), (3, (pt b3 0))] fun a hs => Qc (Qd (Qa (pu hs 1 fun a hs => ?_)))
 refine Qj hs (hw.at_ 0 rfl) 0 fun a hs => ?_
 have hs := hs.cst (e' := [(0, (pt b1 0)), (3, (pt b3 0)), (8, Qb x17.f0)])
 refine Qc (Ql (Qd (Qa (pn hs 2 [(0, (pt b1 0)), (3, (pt b3 0)), (8, Qb x17.f0), (9, .bool (x17.f0 == 1))] fun a hs => ?_))))
 refine Qc ?_
 rcases ifbE hk with ⟨h7, hk⟩ | ⟨h7, hk⟩
 ·refine Qr hs h7 ?_
  refine Qd (Qd ?_)
  obtain ⟨J1, hJ1⟩ := mkJ fun a w => Sees a 38 [(19, .bool ((x17.f2 != 0) || (decide ((x17.f3.length : Int) > 0))))] ∧ St g w [k6 b1 x1 x2 x3 x4 b2 x7 x8 x9 p2 x10 c2 x11 x12 x13 x14 x15 p3 x16 c3, bx b2 [.slice p1 x5.length c1, x6] 113, d1, F] ih
  refine Qn J1 ?_ ?_
  ·refine pu hs 1 fun a hs => Qj hs (hw.at_ 0 rfl) 2 fun a hs => pu hs 2 fun a hs => ?_
   rcases boolE (x17.f2 != 0) with h8 | h8
   ·have hs := hs.aB 14 h8
    refine pu hs 5 fun a hs => Qc ?_
    exact (hJ1 _ _).2 ⟨(hs.bB 19 h8 true ((x17.f2 != 0) || (decide ((x17.f3.length : Int) > 0)))).cst, hw.pk [1, 2, 3, 4]⟩
   have hs := hs.aB 14 h8
   refine pu hs 1 fun a hs => Qj hs (hw.at_ 0 rfl) 3 fun a hs => pn hs 3 [(19, .bool (decide ((x17.f3.length : Int) > 0)))] fun a hs => Qc ?_
   exact (hJ1 _ _).2 ⟨(hs.bB 19 h8 (decide ((x17.f3.length : Int) > 0)) ((x17.f2 != 0) || (decide ((x17.f3.length : Int) > 0)))).cst, hw.pk [1, 2, 3, 4]⟩
  intro a w hh
  obtain ⟨hs, hw⟩ := (hJ1 _ _).1 hh
  rcases ifbE hk with ⟨h9, hk⟩ | ⟨h9, hk⟩
  ·refine Qr hs h9 ?_
   refine Qd (Qa (pn hs 1 [(4, Qb 4)] fun a hs => ?_))
   refine Qc (Qi ?_)
   obtain rfl := someE hk
   exact qr1 hQ hs ⟨ih, rfl, hw.pk [0, 1, 2, 3], (Le.refl _)⟩
  refine Qs hs h9 ?_
  refine Qg (Qd (Qa (pn hs 1 [(4, Qb 0)] fun a hs => ?_)))
  refine Qc (Qi ?_)
  obtain rfl := someE hk
  exact qr1 hQ hs ⟨ih, rfl, hw.pk [0, 1, 2, 3], (Le.refl _)⟩
 refine Qs hs h7 ?_
 obtain ⟨y1, hx1, hk⟩ := bindE hk
 obtain ⟨J2, hJ2⟩ := mkJ fun a w => ∃ (x18 : Bool), Qcp k x17 x1 x3 x18 = some r ∧ Sees a 38 [(0, (pt b1 0)), (3, (pt b3 0)), (20, .bool x18)] ∧ St g w [k8 b3 x17.f0 x17.f1 x17.f2 p4 x17.f3 c4 x17.f4, k6 b1 x1 x2 x3 x4 b2 x7 x8 x9 p2 x10 c2 x11 x12 x13 x14 x15 p3 x16 c3, bx b2 [.slice p1 x5.length c1, x6] 113, d1, F] ih
 refine QaG J2 ?_ ?_
 ·refine Qd (Qa (pn hs 2 [(0, (pt b1 0)), (3, (pt b3 0)), (8, Qb x17.f0), (20, .bool (x17.f0 == 2))] fun a hs => ?_))
  refine Qc ?_
  rcases ifbE hx1 with ⟨h10, hx1⟩ | ⟨h10, hx1⟩
  ·refine Qr hs h10 (Qg ?_)
   obtain rfl := someE hx1
   exact (hJ2 _ _).2 ⟨(x17.f0 == 2), hk, hs.cst, hw.pk [0, 1, 2, 3, 4]⟩
  refine Qs hs h10 ?_
  refine Qa (pu hs 2 fun a hs => ?_)
  refine Qc ?_
  obtain rfl := someE hx1
  exact (hJ2 _ _).2 ⟨(x17.f0 == 3), hk, hs.cst, hw.pk [0, 1, 2, 3, 4]⟩
 intro a w hh
 obtain ⟨x18, hk, hs, hw⟩ := (hJ2 _ _).1 hh
 rcases ifbE hk with ⟨h11, hk⟩ | ⟨h11, hk⟩
 ·refine Qr hs h11 (Qd ?_)
  obtain ⟨S, hD, kS⟩ := mkSXw hw [[], [], [], [], []] (K := []) rfl
  obtain ⟨y2, hx2, hk⟩ := bindE hk
  obtain ⟨J3, hJ3⟩ := mkJ fun a w => ∃ (x19 : Int) (ih1 : IH), Qcq x19 = some r ∧ Sees a 38 [(6, Qb x19)] ∧ St g w [k6 b1 x1 x2 x3 x4 b2 x7 x8 x9 p2 x10 c2 x11 x12 x13 x14 x15 p3 x16 c3, bx b2 [.slice p1 x5.length c1, x6] 113, d1, F] ih1 ∧ Le ih ih1
  refine Qo (by kernel_rfl) (N := 17) rfl S J3 ?_ ?_
  ·have hw := hw.drew
   have hS : S (bA 17 0) _ := SXn hD (hw.vws [0, 1, 2, 3, 4])
   refine Qy kS hs hS 0 rfl (SXb hD 0 rfl) 0 fun a hs hS => ?_
   refine Qp (fuel := 13) kS hs hS [1, 2, 3] fun a hs hS => ?_
   refine Qy kS hs hS 4 rfl (SXb hD 1 rfl) 0 fun a hs hS => ?_
   refine Qp (fuel := 9) kS hs hS [5, 6, 7] fun a hs hS => ?_
   refine Qy kS hs hS 8 rfl (SXb hD 1 rfl) 2 fun a hs hS => ?_
   refine Qff (fuel := 7) kS hs hS [9] [(24, A26 x17 p4 c4), (28, Qb x1), (33, Qe (IntKind.u64.wrap (x3 + 1)))] fun a hs hS => ?_
   refine QF [10, 14] (QkI ?_ (QH ?_))
   ·obtain ⟨y3, h12, hx2⟩ := bindE hx2
    refine QaR hs rfl (Qdm h12 h6 (hG.mono (Le.refl _)) ((hw.pk [0, 1, 2, 3, 4]).pack 0)) fun a w v hv hs => ?_
    obtain ⟨ih2, p5, c5, rfl, hw, hle1, h13⟩ := hv
    have hw := hw.unpack 0 rfl
    refine nx hD ((hw.vws [0, 1, 2, 3, 4]).anti hle1) fun hS => ?_
    refine Qp (fuel := 3) kS hs hS [11, 12, 13] fun a hs hS => ?_
    refine QF [14] (QH ?_)
    refine Qhy hs rfl hw [Qe 0, Qb 0, Qe 0, Qb 0, Qk 0, Qe 0, .slice none 0 0] 96 (fun b => (pt b 0)) fun a w b4 hs hw => ?_
    refine nx hD ((hw.vws [1, 2, 3, 4, 5]).anti hle1) fun hS => ?_
    refine QF [15] (QH ?_)
    refine QfM hs hw rfl 0 rfl 0 (v := .agg #[Qe y3.1.f0, Qb y3.1.f1, Qe y3.1.f2, Qb y3.1.f3, Qk y3.1.f4, Qe y3.1.f5, .slice p5 y3.1.f6.length c5]) fun a w hs hw => ?_
    refine nx hD ((hw.vws [1, 2, 3, 4, 5]).anti hle1) fun hS => ?_
    refine Qu kS hs hS fun a hs => ?_
    obtain rfl := someE hx2
    exact (hJ3 _ _).2 ⟨y3.2, ih2, hk, hs.cst, hw.pk [2, 3, 4, 5], hle1⟩
   refine Qhy hs rfl hw [Qe 0, Qb 0, Qe 0, Qb 0, Qk 0, Qe 0, .slice none 0 0] 96 (fun b => (pt b 0)) fun a w b5 hs hw => ?_
   refine nx hD ((hw.vws [1, 2, 3, 4, 5]).anti (Le.refl _)) fun hS => ?_
   refine QF [10] (QH ?_)
   obtain ⟨y4, h14, hx2⟩ := bindE hx2
   refine QaR hs rfl (Qdm h14 h6 (hG.mono (Le.refl _)) ((hw.pk [0, 1, 2, 3, 4, 5]).pack 0)) fun a w v hv hs => ?_
   obtain ⟨ih3, p6, c6, rfl, hw, hle2, h15⟩ := hv
   have hw := hw.unpack 0 rfl
   refine nx hD ((hw.vws [1, 2, 3, 4, 5]).anti hle2) fun hS => ?_
   refine Qp (fuel := 2) kS hs hS [11, 12, 13] fun a hs hS => ?_
   refine QF [15] (QH ?_)
   refine QfM hs hw rfl 0 rfl 0 (v := .agg #[Qe y4.1.f0, Qb y4.1.f1, Qe y4.1.f2, Qb y4.1.f3, Qk y4.1.f4, Qe y4.1.f5, .slice p6 y4.1.f6.length c6]) fun a w hs hw => ?_
   refine nx hD ((hw.vws [1, 2, 3, 4, 5]).anti hle2) fun hS => ?_
   refine Qu kS hs hS fun a hs => ?_
   obtain rfl := someE hx2
   exact (hJ3 _ _).2 ⟨y4.2, ih3, hk, hs.cst, hw.pk [2, 3, 4, 5], hle2⟩
  intro a w hh
  obtain ⟨x19, ih1, hk, hs, hw, hle3⟩ := (hJ3 _ _).1 hh
  refine Qd (Qa (pn hs 2 [(4, Qb x19)] fun a hs => ?_))
  refine Qc (Qi ?_)
  obtain rfl := someE hk
  exact qr1 hQ hs ⟨ih1, rfl, hw.pk [0, 1, 2, 3], hle3⟩
 refine Qs hs h11 ?_
 refine Qd (Qa (pn hs 1 [(4, Qb 1)] fun a hs => ?_))
 refine Qc (Qi ?_)
 obtain rfl := someE hk
 exact qr1 hQ hs ⟨ih, rfl, hw.pk [1, 2, 3, 4], (Le.refl _)⟩
def QaT : Option (List Int) :=
 some ([])
theorem Qei {r : (List Int)} (hk : QaT = some r) {g w : World} {F : Ch} {ih : IH} (hw : St g w [F] ih) :
  CallsR Tryz.prog 30 #[] w fun v w' => ∃ (b1 : Nat) (p1 : Option Addr) (c1 : Nat) (d1 : Ch), v = (pt b1 0) ∧ St g w' [k38 b1 p1 r c1, d1, F] ih ∧ OSl e5 ih p1 c1 r d1 := by
 refine f_i Tryz.func30 rfl 3 rfl fun a Qf hQ hQn hs => ?_
 refine Qd (Qa (pn hs 1 [] fun a hs => ?_))
 refine Qc (Qd (Qa (pu hs 1 fun a hs => ?_)))
 refine QaN hs hw [Qk 0, QfL 0, Qk 0, Qk 0, Qb 0, Qe 0, .slice none 0 0] 126 (fun b => (pt b 0)) fun a w b2 hs hw => ?_
 refine pn hs 1 [(0, (pt b2 0))] fun a hs => Qc (Qi ?_)
 have hw := hw.nil
 obtain rfl := someE hk
 exact qr1 hQ hs ⟨b2, none, 0, ([]), rfl, hw.pk [1, 0, 2], (OSl.nil _ _)⟩
def Qav (k : Nat) (x1 : List M44) : Option (List M44) :=
 (Qe8 k x1).bind fun y1 =>
 some y1
theorem Qdw {k : Nat} {x1 : List M44} {x2 : Value} {d1 : Ch} {b1 c1 : Nat} {p1 : Option Addr} {r : (List M44)} (hk : Qav k x1 = some r) {g w : World} {F : Ch} {ih : IH} (h1 : OSl e44 ih p1 c1 x1 d1) (h2 : x2.oneCell' = true) (hw : St g w [bx b1 [.slice p1 x1.length c1, x2] 113, d1, F] ih) :
  CallsR Tryz.prog 47 #[(pt b1 0)] w fun v w' => ∃ (ih' : IH) (p2 : Option Addr) (c2 : Nat) (d2 : Ch), v = .slice p2 r.length c2 ∧ St g w' [d2, bx b1 [.slice p1 x1.length c1, x2] 113, d1, F] ih' ∧ Le ih ih' ∧ OSl e44 ih' p2 c2 r d2 := by
 refine f_i Tryz.func47 rfl 10 rfl fun a Qf hQ hQn hs => ?_
 refine Qd (Qa (pn hs 1 [(0, (pt b1 0))] fun a hs => ?_))
 refine Qc (Qd (Qd (Qa (pn hs 2 [(0, (pt b1 0)), (4, .bool false)] fun a hs => ?_))))
 refine Qc (QhJ hs (Qg (Qd (Qa (pu hs 3 fun a hs => ?_)))))
 refine Qj hs (hw.at_ 0 rfl) 0 fun a hs => ?_
 obtain ⟨y1, h3, hk⟩ := bindE hk
 refine Qv hs (Qhf h3 h1.read (memF 1 rfl) ((hw.pk [0, 1, 2]).pack 0)) fun a w v hv hs => ?_
 obtain ⟨ih1, p3, c3, d3, rfl, hw, hle1, h4⟩ := hv
 have hw := hw.unpack 1 rfl
 refine pn hs 1 [(2, .slice p3 y1.length c3)] fun a hs => Qc (Qi ?_)
 obtain rfl := someE hk
 exact qr1 hQ hs ⟨ih1, p3, c3, d3, rfl, hw.pk [0, 1, 2, 3], hle1, h4⟩
def Qbk (x1 : List M44) : Option Int :=
 some (x1.length : Int)
theorem QeH {x1 : List M44} {x2 : Value} {d1 : Ch} {b1 c1 : Nat} {p1 : Option Addr} {r : Int} (hk : Qbk x1 = some r) {g w : World} {F : Ch} {ih : IH} (h1 : OSl e44 ih p1 c1 x1 d1) (h2 : x2.oneCell' = true) (hw : St g w [bx b1 [.slice p1 x1.length c1, x2] 113, d1, F] ih) :
  CallsR Tryz.prog 62 #[(pt b1 0)] w fun v w' => v = Qb r ∧ St g w' [bx b1 [.slice p1 x1.length c1, x2] 113, d1, F] ih := by
 refine f_i Tryz.func62 rfl 10 rfl fun a Qf hQ hQn hs => ?_
 refine Qd (Qa (pn hs 1 [(0, (pt b1 0))] fun a hs => ?_))
 refine Qc (Qd (Qd (Qa (pn hs 2 [(0, (pt b1 0)), (4, .bool false)] fun a hs => ?_))))
 refine Qc (QhJ hs (Qg (Qd (Qa (pu hs 3 fun a hs => ?_)))))
 refine Qj hs (hw.at_ 0 rfl) 0 fun a hs => pn hs 2 [(2, Qb (x1.length : Int))] fun a hs => Qc (Qi ?_)
 obtain rfl := someE hk
 exact qr1 hQ hs ⟨rfl, hw.pk [0, 1, 2]⟩
def Qgd (x1 x2 : Int) : Option Int :=
 if (decide (x2 < 1)) = true then some 0
 else (some (IntKind.i64.wrap ((IntKind.u32.wrap (x1 * 2654435761)).fdiv (2 ^ 16)))).bind fun x3 =>
 if (x2 == 0) = true then none
 else some (x3.tmod x2)
theorem Qjq {x1 x2 : Int} {r : Int} (hk : Qgd x1 x2 = some r) {g w : World} {F : Ch} {ih : IH} (hw : St g w [F] ih) :
  CallsR Tryz.prog 50 #[Qk x1, Qb x2] w fun v w' => v = Qb r ∧ St g w' [F] ih := by
 refine f_i Tryz.func50 rfl 13 rfl fun a Qf hQ hQn hs => ?_
 refine Qd (Qa (pn hs 1 [(0, Qk x1), (1, Qb x2)] fun a hs => ?_))
 refine Qc (Qd (Qd (Qa (pn hs 2 [(0, Qk x1), (1, Qb x2), (6, .bool (decide (x2 < 1)))] fun a hs => ?_))))
 refine Qc ?_
 rcases ifbE hk with ⟨h1, hk⟩ | ⟨h1, hk⟩
 ·refine Qr hs h1 ?_
  refine Qd (Qa (pn hs 1 [(4, Qb 0)] fun a hs => ?_))
  refine Qc (Qi ?_)
  obtain rfl := someE hk
  exact qr1 hQ hs ⟨rfl, hw.pk [0]⟩
 refine Qs hs h1 ?_
 refine Qg (Qd (Qa (pu hs 4 fun a hs => ?_)))
 obtain ⟨x3, h2, hk⟩ := bindE hk
 have hs := hs.alt 10 (by kernel_rfl) (congrArg (Value.int .i64) (someE h2))
 refine pu hs 1 fun a hs => ?_
 rcases ifbE hk with ⟨h3, hk⟩ | ⟨h3, hk⟩
 ·cases hk
 refine QmC hs (by kernel_rfl) .i64 (i := x3) (j := x2) (by kernel_rfl) (by kernel_rfl) (by simpa using h3) fun a hs => ?_
 refine pn hs 1 [(4, Qb (x3.tmod x2))] fun a hs => Qc (Qi ?_)
 obtain rfl := someE hk
 exact qr1 hQ hs ⟨rfl, hw.pk [0]⟩
def Q7 (k : Nat) (x1 : List M44) (x2 : Int) : Option M44 :=
 (Qav k x1).bind fun y1 =>
 (Qbk x1).bind fun y2 =>
 (Qgd x2 y2).bind fun y3 =>
 (ix y1 y3).bind fun x3 =>
 some x3
theorem Qah {k : Nat} {x1 : List M44} {x2 : Value} {x3 : Int} {d1 : Ch} {b1 c1 : Nat} {p1 : Option Addr} {r : M44} (hk : Q7 k x1 x3 = some r) {g w : World} {F : Ch} {ih : IH} (h1 : OSl e44 ih p1 c1 x1 d1) (h2 : x2.oneCell' = true) (hw : St g w [bx b1 [.slice p1 x1.length c1, x2] 113, d1, F] ih) :
  CallsR Tryz.prog 36 #[(pt b1 0), Qk x3] w fun v w' => ∃ (ih' : IH) (p2 : Option Addr) (c2 : Nat), v = .agg #[Qb r.f0, Qe r.f1, .slice p2 r.f2.length c2, .bool r.f3, Qb r.f4] ∧ St g w' [bx b1 [.slice p1 x1.length c1, x2] 113, d1, F] ih' ∧ Le ih ih' ∧ RSl e3 ih' [] p2 c2 r.f2 := by
 refine f_i Tryz.func36 rfl 16 rfl fun a Qf hQ hQn hs => ?_
 refine Qd (Qa (QC hs hw [Qb 0, Qe 0, .slice none 0 0, .bool false, Qb 0] 44 (fun b => (pt b 0)) (by kernel_rfl) (fun _ => by kernel_rfl) fun a w b2 hs hw => ?_))
 have hs := hs.cst (e' := [(0, (pt b1 0)), (1, Qk x3), (4, (pt b2 0))])
 refine Qc (Qd (Qd (Qa (pn hs 2 [(0, (pt b1 0)), (1, Qk x3), (4, (pt b2 0)), (6, .bool false)] fun a hs => ?_))))
 refine Qc (QhJ hs (Qg (Qd (Qa (pu hs 1 fun a hs => ?_)))))
 obtain ⟨y1, h3, hk⟩ := bindE hk
 refine Qv hs (Qdw (x2 := (x2)) h3 h1 h2 ((hw.pk [1, 2, 0, 3]).pack 2)) fun a w v hv hs => ?_
 obtain ⟨ih1, p3, c3, d2, rfl, hw, hle1, h4⟩ := hv
 have hw := hw.unpack 3 rfl
 refine pu hs 2 fun a hs => ?_
 obtain ⟨y2, h5, hk⟩ := bindE hk
 refine Qv hs (QeH (x2 := (x2)) h5 (h1.mono hle1) h2 ((hw.pk [1, 2, 0, 3, 4]).pack 2)) fun a w v hv hs => ?_
 obtain ⟨rfl, hw⟩ := hv
 have hw := hw.unpack 2 rfl
 have hw := hw.cL [bx b1 [.slice p1 x1.length c1, x2] 113, d1, d2, k3 b2, F]
 obtain ⟨y3, h6, hk⟩ := bindE hk
 refine Qv hs (Qjq h6 ((hw.pk [0, 1, 2, 3, 4]).pack 0)) fun a w v hv hs => ?_
 obtain ⟨rfl, hw⟩ := hv
 have hw := hw.unpack 0 rfl
 obtain ⟨x4, h7, hk⟩ := bindE hk
 refine QeI hs h4 (by kernel_rfl) (by kernel_rfl) (k := .i64) (by kernel_rfl) 44 (by kernel_rfl) (by kernel_rfl) h7 fun a r100 cs henc at101 h8 hs => ?_
 obtain ⟨p4, c4, rfl, h9⟩ := henc
 refine Qj hs (at101 _ ((hw.vw 2 rfl).anti (Le.refl _))) 0 fun a hs => QE hs hw 3 rfl 0 (v := A44 x4 p4 c4) fun a w hs hw => ?_
 have hs := hs.cst (e' := [(4, (pt b2 0))])
 refine Qc (Qi ?_)
 obtain rfl := someE hk
 refine hQ _ _ (QaU hs rfl (hw.at_ 3 rfl) (by kernel_rfl) (v := A44 x4 p4 c4) (by kernel_rfl) ⟨ih1, p4, c4, rfl, hw.pk [0, 1, 4], hle1, h9⟩)
def Qq (x1 : Int) : Option Int :=
 some (IntKind.i64.wrap (200 + x1))
theorem QD {x1 x2 x3 x4 : Int} {x5 : List M44} {x6 : Value} {x7 x8 x9 : Int} {x10 : List Int} {x11 : Int} {x12 : Value} {x13 x14 x15 : Int} {x16 : List Int} {d1 : Ch} {b1 b2 c1 c2 c3 : Nat} {p1 p2 p3 : Option Addr} {r : Int} (hk : Qq x1 = some r) {g w : World} {F : Ch} {ih : IH} (h1 : OSl e44 ih p1 c1 x5 d1) (h2 : x6.oneCell' = true) (h3 : RSl e5 ih [] p2 c2 x10) (h4 : x12.oneCell' = true) (h5 : RSl e5 ih [] p3 c3 x16) (hw : St g w [k6 b1 x1 x2 x3 x4 b2 x7 x8 x9 p2 x10 c2 x11 x12 x13 x14 x15 p3 x16 c3, bx b2 [.slice p1 x5.length c1, x6] 113, d1, F] ih) :
  CallsR Tryz.prog 23 #[(pt b1 0)] w fun v w' => v = Qb r ∧ St g w' [bx b1 [Qb x1, Qb x2, Qe x3, Qb x4, (pt b2 0), Qb x7, Qk x8, Qe x9, .slice p2 x10.length c2, Qb x11, x12, Qe x13, Qb x14, Qe x15, .slice p3 x16.length c3] 85, bx b2 [.slice p1 x5.length c1, x6] 113, d1, F] ih := by
 refine f_i Tryz.func23 rfl 10 rfl fun a Qf hQ hQn hs => ?_
 refine Qd (Qa (pn hs 1 [(0, (pt b1 0))] fun a hs => ?_))
 refine Qc (Qd (Qd (Qa (pn hs 2 [(0, (pt b1 0)), (4, .bool false)] fun a hs => ?_))))
 refine Qc (QhJ hs (Qg (Qd (Qa (pu hs 3 fun a hs => ?_)))))
 refine Qj hs (hw.at_ 0 rfl) 0 fun a hs => pn hs 2 [(2, Qb (IntKind.i64.wrap (200 + x1)))] fun a hs => Qc (Qi ?_)
 obtain rfl := someE hk
 exact qr1 hQ hs ⟨rfl, hw.pk [0, 1, 2, 3]⟩
def Qfs (x1 : Int) : Option Int :=
 some x1
def QfP (k : Nat) (x1 : M44) (x2 : Int) : Option Int :=
 (QdB k x1).bind fun y1 =>
 if (!y1) = true then some 0
 else (if ((x1.f2.length : Int) == 0) = true then none
  else (ix x1.f2 ((if 0 > x2 then 0 else x2).tmod (x1.f2.length : Int))).bind fun x3 =>
  some x3 : Option Int).bind fun s1 => Qfs s1
theorem Qjb {k : Nat} {x1 : M44} {x2 : Int} {c1 : Nat} {p1 : Option Addr} {r : Int} (hk : QfP k x1 x2 = some r) {g w : World} {F : Ch} {ih : IH} (h1 : RSl e3 ih [] p1 c1 x1.f2) (hw : St g w [F] ih) :
  CallsR Tryz.prog 85 #[A44 x1 p1 c1, Qb x2] w fun v w' => v = Qb r ∧ St g w' [F] ih := by
 refine f_i Tryz.func85 rfl 18 rfl fun a Qf hQ hQn hs => ?_
 refine Qd (Qa (QC hs hw [Qb x1.f0, Qe x1.f1, .slice p1 x1.f2.length c1, .bool x1.f3, Qb x1.f4] 44 (fun b => (pt b 0)) (by kernel_rfl) (fun _ => by kernel_rfl) fun a w b1 hs hw => ?_))
 refine pn hs 1 [(1, Qb x2), (2, (pt b1 0))] fun a hs => Qc (Qd (Qd (Qa (Qj hs (hw.at_ 0 rfl) 0 fun a hs => ?_))))
 obtain ⟨y1, h2, hk⟩ := bindE hk
 refine Qv hs (Qej h2 h1 ((hw.pk [0, 1]).pack 0)) fun a w v hv hs => ?_
 obtain ⟨rfl, hw⟩ := hv
 have hw := hw.unpack 0 rfl
 refine pn hs 1 [(1, Qb x2), (2, (pt b1 0)), (7, .bool (!y1))] fun a hs => Qc ?_
 rcases ifbE hk with ⟨h3, hk⟩ | ⟨h3, hk⟩
 ·refine Qr hs h3 ?_
  refine Qd (Qa (pn hs 1 [(4, Qb 0)] fun a hs => ?_))
  refine Qc (Qi ?_)
  obtain rfl := someE hk
  exact qr1 hQ hs ⟨rfl, hw.pk [1]⟩
 refine Qs hs h3 ?_
 refine Qg (Qd ?_)
 have hw := hw.cL [k2 b1 x1.f0 x1.f1 p1 x1.f2 c1 x1.f3 x1.f4, F]
 obtain ⟨S, hD, kS⟩ := mkSXw hw [[], []] (K := []) rfl
 obtain ⟨y2, hx1, hk⟩ := bindE hk
 obtain ⟨J1, hJ1⟩ := mkJ fun a w => ∃ (x3 : Int), Qfs x3 = some r ∧ Sees a 18 [(4, Qb x3)] ∧ St g w [F] ih
 refine Qo (by kernel_rfl) (N := 11) rfl S J1 ?_ ?_
 ·have hw := hw.drew
  have hS : S (bA 11 0) _ := SXn hD (hw.vws [0, 1])
  refine Qp (fuel := 10) kS hs hS [0] fun a hs hS => ?_
  refine Qy kS hs hS 1 rfl (SXb hD 0 rfl) 2 fun a hs hS => ?_
  refine Qp (fuel := 6) kS hs hS [2, 3, 4] fun a hs hS => ?_
  refine Qy kS hs hS 5 rfl (SXb hD 0 rfl) 2 fun a hs hS => ?_
  refine Qp (fuel := 4) kS hs hS [6] fun a hs hS => ?_
  rcases ifbE hx1 with ⟨h4, hx1⟩ | ⟨h4, hx1⟩
  ·cases hx1
  refine QlS (fuel := 3) kS hs hS 7 rfl (by kernel_rfl) (by kernel_rfl) .i64 (i := (if 0 > x2 then 0 else x2)) (j := (x1.f2.length : Int)) (by kernel_rfl) (by kernel_rfl) (by simpa using h4) fun a hs hS => ?_
  refine Qgn hS fun hS => ?_
  obtain ⟨x4, h5, hx1⟩ := bindE hx1
  refine Qay (fuel := 2) kS hs hS 8 rfl (by kernel_rfl) h1 (by kernel_rfl) (by kernel_rfl) (k := .i64) (by kernel_rfl) 3 (by kernel_rfl) (by kernel_rfl) h5 fun a r65 cs henc at66 hs hS => ?_
  refine Qgn hS fun hS => ?_
  obtain rfl := henc
  refine Qy kS hs hS 9 rfl (fun l w hu hS => at66 w ((Qi8 hD l w hu hS).anti (Le.refl _))) 0 fun a hs hS => ?_
  refine Qu kS hs hS fun a hs => ?_
  obtain rfl := someE hx1
  exact (hJ1 _ _).2 ⟨x4, hk, hs.cst, hw.pk [1]⟩
 intro a w hh
 obtain ⟨x3, hk, hs, hw⟩ := (hJ1 _ _).1 hh
 refine Qi ?_
 obtain rfl := someE hk
 exact qr1 hQ hs ⟨rfl, hw.pk [0]⟩
def QdS (k : Nat) (x1 : List M44) (x2 x3 : Int) : Option Int :=
 (Q7 k x1 x2).bind fun y1 =>
 (QfP k y1 x3).bind fun y2 =>
 some y2
theorem Qg7 {k : Nat} {x1 : List M44} {x2 : Value} {x3 x4 : Int} {d1 : Ch} {b1 c1 : Nat} {p1 : Option Addr} {r : Int} (hk : QdS k x1 x3 x4 = some r) {g w : World} {F : Ch} {ih : IH} (h1 : OSl e44 ih p1 c1 x1 d1) (h2 : x2.oneCell' = true) (hw : St g w [bx b1 [.slice p1 x1.length c1, x2] 113, d1, F] ih) :
  CallsR Tryz.prog 54 #[(pt b1 0), Qk x3, Qb x4] w fun v w' => ∃ (ih' : IH), v = Qb r ∧ St g w' [bx b1 [.slice p1 x1.length c1, x2] 113, d1, F] ih' ∧ Le ih ih' := by
 refine f_i Tryz.func54 rfl 12 rfl fun a Qf hQ hQn hs => ?_
 refine Qd (Qa (pn hs 1 [(0, (pt b1 0)), (1, Qk x3), (2, Qb x4)] fun a hs => ?_))
 refine Qc (Qd (Qa (pu hs 2 fun a hs => ?_)))
 obtain ⟨y1, h3, hk⟩ := bindE hk
 refine Qv hs (Qah (x2 := (x2)) h3 h1 h2 ((hw.pk [0, 1, 2]).pack 2)) fun a w v hv hs => ?_
 obtain ⟨ih1, p2, c2, rfl, hw, hle1, h4⟩ := hv
 have hw := hw.unpack 2 rfl
 refine pu hs 1 fun a hs => ?_
 obtain ⟨y2, h5, hk⟩ := bindE hk
 refine Qv hs (Qjb h5 h4 ((hw.pk [0, 1, 2]).pack 0)) fun a w v hv hs => ?_
 obtain ⟨rfl, hw⟩ := hv
 have hw := hw.unpack 0 rfl
 refine pn hs 1 [(6, Qb y2)] fun a hs => ?_
 have hw := hw.cL [bx b1 [.slice p1 x1.length c1, x2] 113, d1, F]
 refine Qc (Qi ?_)
 obtain rfl := someE hk
 exact qr1 hQ hs ⟨ih1, rfl, hw.pk [0, 1, 2], hle1⟩
def Qhl (k : Nat) (x1 : M44) : Option Int :=
 (QdB k x1).bind fun y1 =>
 if (!y1) = true then some 0
 else (ix x1.f2 0).bind fun x2 =>
 some x2
theorem QjV {k : Nat} {x1 : M44} {c1 : Nat} {p1 : Option Addr} {r : Int} (hk : Qhl k x1 = some r) {g w : World} {F : Ch} {ih : IH} (h1 : RSl e3 ih [] p1 c1 x1.f2) (hw : St g w [F] ih) :
  CallsR Tryz.prog 86 #[A44 x1 p1 c1] w fun v w' => v = Qb r ∧ St g w' [F] ih := by
 refine f_i Tryz.func86 rfl 10 rfl fun a Qf hQ hQn hs => ?_
 refine Qd (Qa (QC hs hw [Qb x1.f0, Qe x1.f1, .slice p1 x1.f2.length c1, .bool x1.f3, Qb x1.f4] 44 (fun b => (pt b 0)) (by kernel_rfl) (fun _ => by kernel_rfl) fun a w b1 hs hw => ?_))
 refine pn hs 1 [(1, (pt b1 0))] fun a hs => Qc (Qd (Qd (Qa (Qj hs (hw.at_ 0 rfl) 0 fun a hs => ?_))))
 obtain ⟨y1, h2, hk⟩ := bindE hk
 refine Qv hs (Qej h2 h1 ((hw.pk [0, 1]).pack 0)) fun a w v hv hs => ?_
 obtain ⟨rfl, hw⟩ := hv
 have hw := hw.unpack 0 rfl
 refine pn hs 1 [(1, (pt b1 0)), (5, .bool (!y1))] fun a hs => Qc ?_
 rcases ifbE hk with ⟨h3, hk⟩ | ⟨h3, hk⟩
 ·refine Qr hs h3 ?_
  refine Qd (Qa (pn hs 1 [(2, Qb 0)] fun a hs => ?_))
  refine Qc (Qi ?_)
  obtain rfl := someE hk
  exact qr1 hQ hs ⟨rfl, hw.pk [1]⟩
 refine Qs hs h3 ?_
 refine Qg (Qd (Qa (pu hs 1 fun a hs => ?_)))
 refine Qj hs (hw.at_ 0 rfl) 2 fun a hs => ?_
 obtain ⟨x2, h4, hk⟩ := bindE hk
 refine QbT hs h1 (by kernel_rfl) (by kernel_rfl) (k := .i64) (by kernel_rfl) 3 (by kernel_rfl) (by kernel_rfl) h4 fun a r39 cs henc at40 hs => ?_
 obtain rfl := henc
 refine Qj hs (at40 _ (hw.vwAll.nil.anti (Le.refl _))) 0 fun a hs => pn hs 1 [(2, Qb x2)] fun a hs => Qc (Qi ?_)
 obtain rfl := someE hk
 exact qr1 hQ hs ⟨rfl, hw.pk [1]⟩
def Qey (k : Nat) (x1 : List M44) (x2 : Int) : Option Int :=
 (Q7 k x1 x2).bind fun y1 =>
 (Qhl k y1).bind fun y2 =>
 some y2
theorem Qfo {k : Nat} {x1 : List M44} {x2 : Value} {x3 : Int} {d1 : Ch} {b1 c1 : Nat} {p1 : Option Addr} {r : Int} (hk : Qey k x1 x3 = some r) {g w : World} {F : Ch} {ih : IH} (h1 : OSl e44 ih p1 c1 x1 d1) (h2 : x2.oneCell' = true) (hw : St g w [bx b1 [.slice p1 x1.length c1, x2] 113, d1, F] ih) :
  CallsR Tryz.prog 55 #[(pt b1 0), Qk x3] w fun v w' => ∃ (ih' : IH), v = Qb r ∧ St g w' [bx b1 [.slice p1 x1.length c1, x2] 113, d1, F] ih' ∧ Le ih ih' := by
 refine f_i Tryz.func55 rfl 9 rfl fun a Qf hQ hQn hs => ?_
 refine Qd (Qa (pn hs 1 [(0, (pt b1 0)), (1, Qk x3)] fun a hs => ?_))
 refine Qc (Qd (Qa (pu hs 2 fun a hs => ?_)))
 obtain ⟨y1, h3, hk⟩ := bindE hk
 refine Qv hs (Qah (x2 := (x2)) h3 h1 h2 ((hw.pk [0, 1, 2]).pack 2)) fun a w v hv hs => ?_
 obtain ⟨ih1, p2, c2, rfl, hw, hle1, h4⟩ := hv
 have hw := hw.unpack 2 rfl
 obtain ⟨y2, h5, hk⟩ := bindE hk
 refine Qv hs (QjV h5 h4 ((hw.pk [0, 1, 2]).pack 0)) fun a w v hv hs => ?_
 obtain ⟨rfl, hw⟩ := hv
 have hw := hw.unpack 0 rfl
 refine pn hs 1 [(4, Qb y2)] fun a hs => ?_
 have hw := hw.cL [bx b1 [.slice p1 x1.length c1, x2] 113, d1, F]
 refine Qc (Qi ?_)
 obtain rfl := someE hk
 exact qr1 hQ hs ⟨ih1, rfl, hw.pk [0, 1, 2], hle1⟩
end Go.Proofs.YteiinkhbgpldeaaGreatDoor.Sx
