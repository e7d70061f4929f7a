/- The walk of CallerPlays. Conditions: those ahead of each colon. -/
import Derived.Test.YteiinkhbgpldeaaGreatDoorWCallerPlays4
namespace Go.Proofs.YteiinkhbgpldeaaGreatDoor.Sx
open Go Go.Proofs
set_option maxRecDepth 100000
set_option linter.unusedVariables false
def QZ (x1 : Bool) : Option Bool :=
 some x1
def Qao (x1 : Bool) : Option Bool :=
 some x1
def Qan (x1 : Bool) : Option Bool :=
 some x1
def Qam (k : Nat) (y1 : Int × Int × (List M44) × Int × (List (List Int)) × (List Int) × (List Int)) (x1 : M57) (x2 x3 x4 x5 x6 : Int) (x7 : List Int) (x8 : Int) (x9 : Option (Int × Int × Int × Int × (List Int))) (x10 x11 x12 : Int) (x13 : List Int) (x14 : List M44) : Option Bool :=
 (match x9 with
  | none => ((Qq y1.1).bind fun y2 =>
    if (y2 == (IntKind.i64.wrap (200 + x1.f0))) = true then (
     (QX k).bind fun y3 =>
     some y3)
    else some false : Option Bool).bind fun s1 => Qao s1
  | some (x15, x16, x17, x18, x19) => ((Qq y1.1).bind fun y4 =>
    if (y4 == (IntKind.i64.wrap (200 + x1.f0))) = true then (
     (QX k).bind fun y5 =>
     some y5)
    else some false : Option Bool).bind fun s2 => Qan s2)
def Qbo (rec_catenarylaw26_CallerPlays_2_l147 : Int → Int → Int → Int → Int → (List M44) → Int → Int → Int → (List Int) → Int → Int → Int → Int → (List Int) → Int → Int → Int → (List Int) → Int → Int → Int → Int → Int → (List Int) → Int → (Option (Int × Int × Int × Int × (List Int))) → Int → Int → Int → (List Int) → (List M44) → Option (Sum Bool (Int × Int × Int × Int × Int × (List Int) × Int × (Option (Int × Int × Int × Int × (List Int))) × Int × Int × Int × (List Int) × (List M44)))) (x1 x2 x3 x4 x5 : Int) (x6 : List M44) (x7 x8 x9 : Int) (x10 : List Int) (x11 x12 x13 x14 : Int) (x15 : List Int) (x16 x17 x18 : Int) (x19 : List Int) (x20 x21 x22 x23 x24 : Int) (x25 : List Int) (x26 x27 x28 x29 : Int) (x30 : List Int) (x31 : List M44) (x32 : Bool) : Option (Sum Bool (Int × Int × Int × Int × Int × (List Int) × Int × (Option (Int × Int × Int × Int × (List Int))) × Int × Int × Int × (List Int) × (List M44))) :=
 if x32 = true then some (.inl false)
 else rec_catenarylaw26_CallerPlays_2_l147 (IntKind.i64.wrap (x1 + 1)) x2 x3 x4 x5 x6 x7 x8 x9 x10 x11 x12 x13 x14 x15 x16 x17 x18 x19 x20 x21 x22 x23 x24 x25 x26 none x27 x28 x29 x30 x31
def Qbn (rec_catenarylaw26_CallerPlays_2_l147 : Int → Int → Int → Int → Int → (List M44) → Int → Int → Int → (List Int) → Int → Int → Int → Int → (List Int) → Int → Int → Int → (List Int) → Int → Int → Int → Int → Int → (List Int) → Int → (Option (Int × Int × Int × Int × (List Int))) → Int → Int → Int → (List Int) → (List M44) → Option (Sum Bool (Int × Int × Int × Int × Int × (List Int) × Int × (Option (Int × Int × Int × Int × (List Int))) × Int × Int × Int × (List Int) × (List M44)))) (x1 x2 x3 x4 x5 : Int) (x6 : List M44) (x7 x8 x9 : Int) (x10 : List Int) (x11 x12 x13 x14 : Int) (x15 : List Int) (x16 x17 x18 : Int) (x19 : List Int) (x20 x21 x22 x23 x24 : Int) (x25 : List Int) (x26 : Int) (x27 : List Int) (x28 x29 x30 : Int) (x31 : List Int) (x32 : List M44) (x33 : Bool) : Option (Sum Bool (Int × Int × Int × Int × Int × (List Int) × Int × (Option (Int × Int × Int × Int × (List Int))) × Int × Int × Int × (List Int) × (List M44))) :=
 if x33 = true then some (.inl false)
 else rec_catenarylaw26_CallerPlays_2_l147 (IntKind.i64.wrap (x1 + 1)) x2 x3 x4 x5 x6 x7 x8 x9 x10 x11 x12 x13 x14 x15 x16 x17 x18 x19 x20 x21 x22 x23 x24 x25 x26 (some (0, 0, 0, 0, x27)) x28 x29 x30 x31 x32
def Qx (k : Nat) (rec_catenarylaw26_CallerPlays_2_l147 : Int → Int → Int → Int → Int → (List M44) → Int → Int → Int → (List Int) → Int → Int → Int → Int → (List Int) → Int → Int → Int → (List Int) → Int → Int → Int → Int → Int → (List Int) → Int → (Option (Int × Int × Int × Int × (List Int))) → Int → Int → Int → (List Int) → (List M44) → Option (Sum Bool (Int × Int × Int × Int × Int × (List Int) × Int × (Option (Int × Int × Int × Int × (List Int))) × Int × Int × Int × (List Int) × (List M44)))) (x1 x2 x3 : Int) (x4 : List Int) (x5 : Int) (x6 x7 : List M48) (x8 x9 x10 x11 : Int) (x12 : List M44) (x13 x14 x15 : Int) (x16 : List Int) (x17 x18 x19 x20 : Int) (x21 : List Int) (x22 x23 x24 : Int) (x25 : List Int) (x26 x27 x28 x29 x30 : Int) (x31 : List Int) (x32 : Int) (x33 : Option (List Int)) (x34 : List M44) : Option (Sum Bool (Int × Int × Int × Int × Int × (List Int) × Int × (Option (Int × Int × Int × Int × (List Int))) × Int × Int × Int × (List Int) × (List M44))) :=
 (match x33 with
  | none => ((QaE k x6 x7).bind fun y1 =>
    if (!y1) = true then some true
    else (Qbu k x26 x34 x28 x29 x30 x31 x32 x1 x2 x3 x4 (M60.mk x8 x9 x10 x11 x12 (M26.mk x13 x14 x15 x16 x17) x18 (M51.mk x19 x20 x21) x22 (M51.mk x23 x24 x25))).bind fun y2 =>
    some (!y2) : Option Bool).bind fun s1 => Qbo (rec_catenarylaw26_CallerPlays_2_l147) x5 x8 x9 x10 x11 x12 x13 x14 x15 x16 x17 x18 x19 x20 x21 x22 x23 x24 x25 x26 x27 x28 x29 x30 x31 x32 x1 x2 x3 x4 x34 s1
  | some x35 => ((QaE k x6 x7).bind fun y3 =>
    if (!y3) = true then some true
    else (Q1 k x26 x34 x28 x29 x30 x31 x32 0 0 0 x35 x1 x2 x3 x4 (M60.mk x8 x9 x10 x11 x12 (M26.mk x13 x14 x15 x16 x17) x18 (M51.mk x19 x20 x21) x22 (M51.mk x23 x24 x25))).bind fun y4 =>
    some (!y4) : Option Bool).bind fun s2 => Qbn (rec_catenarylaw26_CallerPlays_2_l147) x5 x8 x9 x10 x11 x12 x13 x14 x15 x16 x17 x18 x19 x20 x21 x22 x23 x24 x25 x26 x27 x28 x29 x30 x31 x32 x35 x1 x2 x3 x4 x34 s2)
def Qal (k : Nat) (x1 x2 x3 x4 : Int) (x5 : List M44) (x6 x7 x8 : Int) (x9 : List Int) (x10 x11 x12 x13 : Int) (x14 : List Int) (x15 x16 x17 : Int) (x18 : List Int) (x19 : M64) (x20 : Int) (x21 : List M44) (x22 : List M48) (x23 x24 x25 x26 x27 : Int) (x28 : List Int) (x29 : Int) (x30 : Option (List Int)) : Option (Sum Bool ((List M48) × (List M48) × Int × Int × Int × Int × (List M44) × Int × Int × Int × (List Int) × Int × Int × Int × Int × (List Int) × Int × Int × Int × (List Int) × Int × Int × Int × Int × Int × (List Int) × Int × (Option (List Int)) × (List M44))) :=
 (match x30 with
  | none => (Qt k (M60.mk x1 x2 x3 x4 x5 (M26.mk x6 x7 x8 x9 x10) x11 (M51.mk x12 x13 x14) x15 (M51.mk x16 x17 x18)) x19.f1).bind fun y1 =>
   if (x23 != y1.2.2) = true then some (.inl false)
   else some (.inr (x22, y1.2.1, y1.1.f0, y1.1.f1, y1.1.f2, y1.1.f3, y1.1.f4, y1.1.f5.f0, y1.1.f5.f1, y1.1.f5.f2, y1.1.f5.f3, y1.1.f5.f4, y1.1.f6, y1.1.f7.f0, y1.1.f7.f1, y1.1.f7.f2, y1.1.f8, y1.1.f9.f0, y1.1.f9.f1, y1.1.f9.f2, x24, x20, x25, x26, x27, x28, x29, none, x21))
  | some x31 => (Qt k (M60.mk x1 x2 x3 x4 x5 (M26.mk x6 x7 x8 x9 x10) x11 (M51.mk x12 x13 x14) x15 (M51.mk x16 x17 x18)) x19.f1).bind fun y2 =>
   if (x23 != y2.2.2) = true then some (.inl false)
   else some (.inr (x22, y2.2.1, y2.1.f0, y2.1.f1, y2.1.f2, y2.1.f3, y2.1.f4, y2.1.f5.f0, y2.1.f5.f1, y2.1.f5.f2, y2.1.f5.f3, y2.1.f5.f4, y2.1.f6, y2.1.f7.f0, y2.1.f7.f1, y2.1.f7.f2, y2.1.f8, y2.1.f9.f0, y2.1.f9.f1, y2.1.f9.f2, x24, x20, x25, x26, x27, x28, x29, (some x31), x21)))
def QT (k : Nat) (rec_catenarylaw26_CallerPlays_2_l147 : Int → Int → Int → Int → Int → (List M44) → Int → Int → Int → (List Int) → Int → Int → Int → Int → (List Int) → Int → Int → Int → (List Int) → Int → Int → Int → Int → Int → (List Int) → Int → (Option (Int × Int × Int × Int × (List Int))) → Int → Int → Int → (List Int) → (List M44) → Option (Sum Bool (Int × Int × Int × Int × Int × (List Int) × Int × (Option (Int × Int × Int × Int × (List Int))) × Int × Int × Int × (List Int) × (List M44)))) (x1 : M64) (x2 x3 x4 x5 x6 : Int) (x7 : List M44) (x8 x9 x10 : Int) (x11 : List Int) (x12 x13 x14 x15 : Int) (x16 : List Int) (x17 x18 x19 : Int) (x20 : List Int) (x21 x22 x23 x24 : Int) (x25 : List Int) (x26 : Int) (x27 : List M44) (y1 : Int × Int × (List M44) × Int × (List (List Int)) × (List Int) × (List Int)) (x28 x29 x30 : Int) (x31 : List Int) (x32 x33 : Int) : Option (Sum Bool (Int × Int × Int × Int × Int × (List Int) × Int × (Option (Int × Int × Int × Int × (List Int))) × Int × Int × Int × (List Int) × (List M44))) :=
 (if (x1.f0 == 0) = true then (
   (Qbv x2).bind fun y2 =>
   (QN k (M60.mk x3 x4 x5 x6 x7 (M26.mk x8 x9 x10 x11 x12) x13 (M51.mk x14 x15 x16) x17 (M51.mk x18 x19 x20))).bind fun y3 =>
   some (.inr (y2.1, y3.2, y3.1.f0, y3.1.f1, y3.1.f2, y3.1.f3, y3.1.f4, y3.1.f5.f0, y3.1.f5.f1, y3.1.f5.f2, y3.1.f5.f3, y3.1.f5.f4, y3.1.f6, y3.1.f7.f0, y3.1.f7.f1, y3.1.f7.f2, y3.1.f8, y3.1.f9.f0, y3.1.f9.f1, y3.1.f9.f2, x21, y2.2, x22, x23, x24, x25, x26, none, x27)))
  else if (x1.f0 == 1) = true then (
   ((Qbj k y1.1 x21 x27 x22 x23 x24 x25 x26 x1.f1).bind fun
     | .inl y4 =>
      some (y4.1, y4.2.1, y4.2.2.1, y4.2.2.2.1, y4.2.2.2.2.1, y4.2.2.2.2.2.1, y4.2.2.2.2.2.2.1, y4.2.2.2.2.2.2.2, none)
     | .inr y5 =>
      some (y5.1, 0, y5.2.2.1, y5.2.2.2.1, y5.2.2.2.2.1, y5.2.2.2.2.2.1, y5.2.2.2.2.2.2.1, y5.2.2.2.2.2.2.2, (some y5.2.1)) : Option ((List M48) × Int × Int × Int × Int × Int × (List Int) × Int × (Option (List Int)))).bind fun s1 => Qal k x3 x4 x5 x6 x7 x8 x9 x10 x11 x12 x13 x14 x15 x16 x17 x18 x19 x20 x1 x2 x27 s1.1 s1.2.1 s1.2.2.1 s1.2.2.2.1 s1.2.2.2.2.1 s1.2.2.2.2.2.1 s1.2.2.2.2.2.2.1 s1.2.2.2.2.2.2.2.1 s1.2.2.2.2.2.2.2.2)
  else (Qbx k y1.1 x21 x27 (M48.mk x1.f3.f0 x1.f3.f1 x1.f3.f2 x1.f3.f3 x1.f3.f4 x1.f3.f5 x33 x1.f3.f7 x1.f3.f8 x1.f3.f9 x1.f3.f10 x1.f3.f11 x1.f3.f12 x1.f3.f13 x1.f3.f14 x1.f3.f15 x1.f3.f16 x1.f3.f17)).bind fun y6 =>
  (QO k (M60.mk x3 x4 x5 x6 x7 (M26.mk x8 x9 x10 x11 x12) x13 (M51.mk x14 x15 x16) x17 (M51.mk x18 x19 x20)) (M48.mk x1.f3.f0 x1.f3.f1 x1.f3.f2 x1.f3.f3 x1.f3.f4 x1.f3.f5 x33 x1.f3.f7 x1.f3.f8 x1.f3.f9 x1.f3.f10 x1.f3.f11 x1.f3.f12 x1.f3.f13 x1.f3.f14 x1.f3.f15 x1.f3.f16 x1.f3.f17)).bind fun y7 =>
  some (.inr (y6.1, y7.2, y7.1.f0, y7.1.f1, y7.1.f2, y7.1.f3, y7.1.f4, y7.1.f5.f0, y7.1.f5.f1, y7.1.f5.f2, y7.1.f5.f3, y7.1.f5.f4, y7.1.f6, y7.1.f7.f0, y7.1.f7.f1, y7.1.f7.f2, y7.1.f8, y7.1.f9.f0, y7.1.f9.f1, y7.1.f9.f2, x21, x2, x22, x23, x24, x25, x26, none, y6.2)) : Option (Sum Bool ((List M48) × (List M48) × Int × Int × Int × Int × (List M44) × Int × Int × Int × (List Int) × Int × Int × Int × Int × (List Int) × Int × Int × Int × (List Int) × Int × Int × Int × Int × Int × (List Int) × Int × (Option (List Int)) × (List M44)))).bind fun
  | .inl z => some (.inl z)
  | .inr s2 => Qx k (rec_catenarylaw26_CallerPlays_2_l147) x28 x29 x30 x31 x32 s2.1 s2.2.1 s2.2.2.1 s2.2.2.2.1 s2.2.2.2.2.1 s2.2.2.2.2.2.1 s2.2.2.2.2.2.2.1 s2.2.2.2.2.2.2.2.1 s2.2.2.2.2.2.2.2.2.1 s2.2.2.2.2.2.2.2.2.2.1 s2.2.2.2.2.2.2.2.2.2.2.1 s2.2.2.2.2.2.2.2.2.2.2.2.1 s2.2.2.2.2.2.2.2.2.2.2.2.2.1 s2.2.2.2.2.2.2.2.2.2.2.2.2.2.1 s2.2.2.2.2.2.2.2.2.2.2.2.2.2.2.1 s2.2.2.2.2.2.2.2.2.2.2.2.2.2.2.2.1 s2.2.2.2.2.2.2.2.2.2.2.2.2.2.2.2.2.1 s2.2.2.2.2.2.2.2.2.2.2.2.2.2.2.2.2.2.1 s2.2.2.2.2.2.2.2.2.2.2.2.2.2.2.2.2.2.2.1 s2.2.2.2.2.2.2.2.2.2.2.2.2.2.2.2.2.2.2.2.1 s2.2.2.2.2.2.2.2.2.2.2.2.2.2.2.2.2.2.2.2.2.1 s2.2.2.2.2.2.2.2.2.2.2.2.2.2.2.2.2.2.2.2.2.2.1 s2.2.2.2.2.2.2.2.2.2.2.2.2.2.2.2.2.2.2.2.2.2.2.1 s2.2.2.2.2.2.2.2.2.2.2.2.2.2.2.2.2.2.2.2.2.2.2.2.1 s2.2.2.2.2.2.2.2.2.2.2.2.2.2.2.2.2.2.2.2.2.2.2.2.2.1 s2.2.2.2.2.2.2.2.2.2.2.2.2.2.2.2.2.2.2.2.2.2.2.2.2.2.1 s2.2.2.2.2.2.2.2.2.2.2.2.2.2.2.2.2.2.2.2.2.2.2.2.2.2.2.1 s2.2.2.2.2.2.2.2.2.2.2.2.2.2.2.2.2.2.2.2.2.2.2.2.2.2.2.2.1 s2.2.2.2.2.2.2.2.2.2.2.2.2.2.2.2.2.2.2.2.2.2.2.2.2.2.2.2.2
def Qak (k : Nat) (rec_catenarylaw26_CallerPlays_2_l147 : Int → Int → Int → Int → Int → (List M44) → Int → Int → Int → (List Int) → Int → Int → Int → Int → (List Int) → Int → Int → Int → (List Int) → Int → Int → Int → Int → Int → (List Int) → Int → (Option (Int × Int × Int × Int × (List Int))) → Int → Int → Int → (List Int) → (List M44) → Option (Sum Bool (Int × Int × Int × Int × Int × (List Int) × Int × (Option (Int × Int × Int × Int × (List Int))) × Int × Int × Int × (List Int) × (List M44)))) (x1 : M64) (x2 x3 x4 x5 x6 : Int) (x7 : List M44) (x8 x9 x10 : Int) (x11 : List Int) (x12 x13 x14 x15 : Int) (x16 : List Int) (x17 x18 x19 : Int) (x20 : List Int) (x21 x22 x23 x24 : Int) (x25 : List Int) (x26 : Int) (x27 : List M44) (y1 : Int × Int × (List M44) × Int × (List (List Int)) × (List Int) × (List Int)) (x28 x29 x30 : Int) (x31 : List Int) (x32 : Int) (x33 : Bool) : Option (Sum Bool (Int × Int × Int × Int × Int × (List Int) × Int × (Option (Int × Int × Int × Int × (List Int))) × Int × Int × Int × (List Int) × (List M44))) :=
 if x33 = true then (
  (QX k).bind fun y2 =>
  some (.inl y2))
 else (if x1.f2 = true then some x2
  else some x1.f3.f6 : Option Int).bind fun s1 => QT k (rec_catenarylaw26_CallerPlays_2_l147) x1 x3 x4 x5 x2 x6 x7 x8 x9 x10 x11 x12 x13 x14 x15 x16 x17 x18 x19 x20 x21 x22 x23 x24 x25 x26 x27 y1 x28 x29 x30 x31 x32 s1
def Qbm (rec_catenarylaw26_CallerPlays_2_l147 : Int → Int → Int → Int → Int → (List M44) → Int → Int → Int → (List Int) → Int → Int → Int → Int → (List Int) → Int → Int → Int → (List Int) → Int → Int → Int → Int → Int → (List Int) → Int → (Option (Int × Int × Int × Int × (List Int))) → Int → Int → Int → (List Int) → (List M44) → Option (Sum Bool (Int × Int × Int × Int × Int × (List Int) × Int × (Option (Int × Int × Int × Int × (List Int))) × Int × Int × Int × (List Int) × (List M44)))) (x1 x2 x3 x4 x5 : Int) (x6 : List M44) (x7 x8 x9 : Int) (x10 : List Int) (x11 x12 x13 x14 : Int) (x15 : List Int) (x16 x17 x18 : Int) (x19 : List Int) (x20 x21 x22 x23 x24 : Int) (x25 : List Int) (x26 x27 x28 x29 x30 : Int) (x31 : List Int) (x32 x33 x34 : Int) (x35 : List Int) (x36 : List M44) (x37 : Bool) : Option (Sum Bool (Int × Int × Int × Int × Int × (List Int) × Int × (Option (Int × Int × Int × Int × (List Int))) × Int × Int × Int × (List Int) × (List M44))) :=
 if x37 = true then some (.inl false)
 else rec_catenarylaw26_CallerPlays_2_l147 (IntKind.i64.wrap (x1 + 1)) x2 x3 x4 x5 x6 x7 x8 x9 x10 x11 x12 x13 x14 x15 x16 x17 x18 x19 x20 x21 x22 x23 x24 x25 x26 (some (x27, x28, x29, x30, x31)) x32 x33 x34 x35 x36
def QS (k : Nat) (rec_catenarylaw26_CallerPlays_2_l147 : Int → Int → Int → Int → Int → (List M44) → Int → Int → Int → (List Int) → Int → Int → Int → Int → (List Int) → Int → Int → Int → (List Int) → Int → Int → Int → Int → Int → (List Int) → Int → (Option (Int × Int × Int × Int × (List Int))) → Int → Int → Int → (List Int) → (List M44) → Option (Sum Bool (Int × Int × Int × Int × Int × (List Int) × Int × (Option (Int × Int × Int × Int × (List Int))) × Int × Int × Int × (List Int) × (List M44)))) (x1 : Int) (x2 x3 : List M48) (x4 x5 x6 x7 : Int) (x8 : List M44) (x9 x10 x11 : Int) (x12 : List Int) (x13 x14 x15 x16 : Int) (x17 : List Int) (x18 x19 x20 : Int) (x21 : List Int) (x22 x23 x24 x25 x26 : Int) (x27 : List Int) (x28 x29 x30 x31 x32 : Int) (x33 : List Int) (x34 x35 x36 : Int) (x37 : List Int) (x38 : List M44) : Option (Sum Bool (Int × Int × Int × Int × Int × (List Int) × Int × (Option (Int × Int × Int × Int × (List Int))) × Int × Int × Int × (List Int) × (List M44))) :=
 ((QaE k x2 x3).bind fun y1 =>
  if (!y1) = true then some true
  else (Q1 k x22 x38 x24 x25 x26 x27 x28 x30 x31 x32 x33 x34 x35 x36 x37 (M60.mk x4 x5 x6 x7 x8 (M26.mk x9 x10 x11 x12 x13) x14 (M51.mk x15 x16 x17) x18 (M51.mk x19 x20 x21))).bind fun y2 =>
  some (!y2) : Option Bool).bind fun s1 => Qbm (rec_catenarylaw26_CallerPlays_2_l147) x1 x4 x5 x6 x7 x8 x9 x10 x11 x12 x13 x14 x15 x16 x17 x18 x19 x20 x21 x22 x23 x24 x25 x26 x27 x28 x29 x30 x31 x32 x33 x34 x35 x36 x37 x38 s1
def Qaj (k : Nat) (x1 x2 x3 x4 : Int) (x5 : List M44) (x6 x7 x8 : Int) (x9 : List Int) (x10 x11 x12 x13 : Int) (x14 : List Int) (x15 x16 x17 : Int) (x18 : List Int) (x19 : M64) (x20 x21 x22 x23 : Int) (x24 : List Int) (x25 : List M44) (x26 : List M48) (x27 x28 x29 x30 x31 : Int) (x32 : List Int) (x33 x34 x35 x36 x37 : Int) (x38 : List Int) : Option (Sum Bool ((List M48) × (List M48) × Int × Int × Int × Int × (List M44) × Int × Int × Int × (List Int) × Int × Int × Int × Int × (List Int) × Int × Int × Int × (List Int) × Int × Int × Int × Int × Int × (List Int) × Int × Int × Int × Int × Int × (List Int) × Int × Int × Int × (List Int) × (List M44))) :=
 (Qt k (M60.mk x1 x2 x3 x4 x5 (M26.mk x6 x7 x8 x9 x10) x11 (M51.mk x12 x13 x14) x15 (M51.mk x16 x17 x18)) x19.f1).bind fun y1 =>
 if (x27 != y1.2.2) = true then some (.inl false)
 else some (.inr (x26, y1.2.1, y1.1.f0, y1.1.f1, y1.1.f2, y1.1.f3, y1.1.f4, y1.1.f5.f0, y1.1.f5.f1, y1.1.f5.f2, y1.1.f5.f3, y1.1.f5.f4, y1.1.f6, y1.1.f7.f0, y1.1.f7.f1, y1.1.f7.f2, y1.1.f8, y1.1.f9.f0, y1.1.f9.f1, y1.1.f9.f2, x28, x20, x29, x30, x31, x32, x33, x34, x35, x36, x37, x38, x21, x22, x23, x24, x25))
def QR (k : Nat) (rec_catenarylaw26_CallerPlays_2_l147 : Int → Int → Int → Int → Int → (List M44) → Int → Int → Int → (List Int) → Int → Int → Int → Int → (List Int) → Int → Int → Int → (List Int) → Int → Int → Int → Int → Int → (List Int) → Int → (Option (Int × Int × Int × Int × (List Int))) → Int → Int → Int → (List Int) → (List M44) → Option (Sum Bool (Int × Int × Int × Int × Int × (List Int) × Int × (Option (Int × Int × Int × Int × (List Int))) × Int × Int × Int × (List Int) × (List M44)))) (x1 : M64) (y1 : Int × Int × (List M44) × Int × (List (List Int)) × (List Int) × (List Int)) (x2 x3 : Int) (x4 : List M44) (x5 x6 x7 : Int) (x8 : List Int) (x9 x10 x11 x12 : Int) (x13 : List Int) (x14 x15 x16 x17 : Int) (x18 : List M44) (x19 x20 x21 : Int) (x22 : List Int) (x23 x24 x25 x26 : Int) (x27 : List Int) (x28 x29 x30 : Int) (x31 : List Int) (x32 x33 x34 x35 : Int) (x36 : List Int) (x37 x38 : Int) : Option (Sum Bool (Int × Int × Int × Int × Int × (List Int) × Int × (Option (Int × Int × Int × Int × (List Int))) × Int × Int × Int × (List Int) × (List M44))) :=
 (if (x1.f0 == 0) = true then (
   (QaL k y1.1 y1.2.1 x2 x3 x4 x5 x6 x7 x8 x9 x10 x11 x12 x13).bind fun y2 =>
   (QN k (M60.mk x14 x15 x16 x17 x18 (M26.mk x19 x20 x21 x22 x23) x24 (M51.mk x25 x26 x27) x28 (M51.mk x29 x30 x31))).bind fun y3 =>
   some (.inr (y2.1, y3.2, y3.1.f0, y3.1.f1, y3.1.f2, y3.1.f3, y3.1.f4, y3.1.f5.f0, y3.1.f5.f1, y3.1.f5.f2, y3.1.f5.f3, y3.1.f5.f4, y3.1.f6, y3.1.f7.f0, y3.1.f7.f1, y3.1.f7.f2, y3.1.f8, y3.1.f9.f0, y3.1.f9.f1, y3.1.f9.f2, x2, y2.2, x5, x6, x7, x8, x9, x32, x10, x11, x12, x13, x33, x34, x35, x36, x4)))
  else if (x1.f0 == 1) = true then (
   ((QcU k y1.1 x2 x4 x5 x6 x7 x8 x9 x10 x11 x12 x13 x1.f1).bind fun
     | .inl y4 =>
      some (y4.1, y4.2.1, y4.2.2.1, y4.2.2.2.1, y4.2.2.2.2.1, y4.2.2.2.2.2.1, y4.2.2.2.2.2.2.1, y4.2.2.2.2.2.2.2, x32, x10, x11, x12, x13)
     | .inr y5 =>
      some (y5.1, 0, y5.2.2.1, y5.2.2.2.1, y5.2.2.2.2.1, y5.2.2.2.2.2.1, y5.2.2.2.2.2.2.1, y5.2.2.2.2.2.2.2, 0, 0, 0, 0, y5.2.1) : Option ((List M48) × Int × Int × Int × Int × Int × (List Int) × Int × Int × Int × Int × Int × (List Int))).bind fun s1 => Qaj k x14 x15 x16 x17 x18 x19 x20 x21 x22 x23 x24 x25 x26 x27 x28 x29 x30 x31 x1 x3 x33 x34 x35 x36 x4 s1.1 s1.2.1 s1.2.2.1 s1.2.2.2.1 s1.2.2.2.2.1 s1.2.2.2.2.2.1 s1.2.2.2.2.2.2.1 s1.2.2.2.2.2.2.2.1 s1.2.2.2.2.2.2.2.2.1 s1.2.2.2.2.2.2.2.2.2.1 s1.2.2.2.2.2.2.2.2.2.2.1 s1.2.2.2.2.2.2.2.2.2.2.2.1 s1.2.2.2.2.2.2.2.2.2.2.2.2)
  else (Qbw k y1.1 x2 x4 x5 x6 x7 x8 x9 x32 x10 x11 x12 x13 x33 x34 x35 x36 (M48.mk x1.f3.f0 x1.f3.f1 x1.f3.f2 x1.f3.f3 x1.f3.f4 x1.f3.f5 x38 x1.f3.f7 x1.f3.f8 x1.f3.f9 x1.f3.f10 x1.f3.f11 x1.f3.f12 x1.f3.f13 x1.f3.f14 x1.f3.f15 x1.f3.f16 x1.f3.f17)).bind fun y6 =>
  (QO k (M60.mk x14 x15 x16 x17 x18 (M26.mk x19 x20 x21 x22 x23) x24 (M51.mk x25 x26 x27) x28 (M51.mk x29 x30 x31)) (M48.mk x1.f3.f0 x1.f3.f1 x1.f3.f2 x1.f3.f3 x1.f3.f4 x1.f3.f5 x38 x1.f3.f7 x1.f3.f8 x1.f3.f9 x1.f3.f10 x1.f3.f11 x1.f3.f12 x1.f3.f13 x1.f3.f14 x1.f3.f15 x1.f3.f16 x1.f3.f17)).bind fun y7 =>
  some (.inr (y6.1, y7.2, y7.1.f0, y7.1.f1, y7.1.f2, y7.1.f3, y7.1.f4, y7.1.f5.f0, y7.1.f5.f1, y7.1.f5.f2, y7.1.f5.f3, y7.1.f5.f4, y7.1.f6, y7.1.f7.f0, y7.1.f7.f1, y7.1.f7.f2, y7.1.f8, y7.1.f9.f0, y7.1.f9.f1, y7.1.f9.f2, x2, x3, x5, x6, x7, x8, x9, y6.2.2.2.2.2.2.1, y6.2.2.2.2.2.2.2.1, y6.2.2.2.2.2.2.2.2.1, y6.2.2.2.2.2.2.2.2.2.1, y6.2.2.2.2.2.2.2.2.2.2, y6.2.1, y6.2.2.1, y6.2.2.2.1, y6.2.2.2.2.1, y6.2.2.2.2.2.1)) : Option (Sum Bool ((List M48) × (List M48) × Int × Int × Int × Int × (List M44) × Int × Int × Int × (List Int) × Int × Int × Int × Int × (List Int) × Int × Int × Int × (List Int) × Int × Int × Int × Int × Int × (List Int) × Int × Int × Int × Int × Int × (List Int) × Int × Int × Int × (List Int) × (List M44)))).bind fun
  | .inl z => some (.inl z)
  | .inr s2 => QS k (rec_catenarylaw26_CallerPlays_2_l147) x37 s2.1 s2.2.1 s2.2.2.1 s2.2.2.2.1 s2.2.2.2.2.1 s2.2.2.2.2.2.1 s2.2.2.2.2.2.2.1 s2.2.2.2.2.2.2.2.1 s2.2.2.2.2.2.2.2.2.1 s2.2.2.2.2.2.2.2.2.2.1 s2.2.2.2.2.2.2.2.2.2.2.1 s2.2.2.2.2.2.2.2.2.2.2.2.1 s2.2.2.2.2.2.2.2.2.2.2.2.2.1 s2.2.2.2.2.2.2.2.2.2.2.2.2.2.1 s2.2.2.2.2.2.2.2.2.2.2.2.2.2.2.1 s2.2.2.2.2.2.2.2.2.2.2.2.2.2.2.2.1 s2.2.2.2.2.2.2.2.2.2.2.2.2.2.2.2.2.1 s2.2.2.2.2.2.2.2.2.2.2.2.2.2.2.2.2.2.1 s2.2.2.2.2.2.2.2.2.2.2.2.2.2.2.2.2.2.2.1 s2.2.2.2.2.2.2.2.2.2.2.2.2.2.2.2.2.2.2.2.1 s2.2.2.2.2.2.2.2.2.2.2.2.2.2.2.2.2.2.2.2.2.1 s2.2.2.2.2.2.2.2.2.2.2.2.2.2.2.2.2.2.2.2.2.2.1 s2.2.2.2.2.2.2.2.2.2.2.2.2.2.2.2.2.2.2.2.2.2.2.1 s2.2.2.2.2.2.2.2.2.2.2.2.2.2.2.2.2.2.2.2.2.2.2.2.1 s2.2.2.2.2.2.2.2.2.2.2.2.2.2.2.2.2.2.2.2.2.2.2.2.2.1 s2.2.2.2.2.2.2.2.2.2.2.2.2.2.2.2.2.2.2.2.2.2.2.2.2.2.1 s2.2.2.2.2.2.2.2.2.2.2.2.2.2.2.2.2.2.2.2.2.2.2.2.2.2.2.1 s2.2.2.2.2.2.2.2.2.2.2.2.2.2.2.2.2.2.2.2.2.2.2.2.2.2.2.2.1 s2.2.2.2.2.2.2.2.2.2.2.2.2.2.2.2.2.2.2.2.2.2.2.2.2.2.2.2.2.1 s2.2.2.2.2.2.2.2.2.2.2.2.2.2.2.2.2.2.2.2.2.2.2.2.2.2.2.2.2.2.1 s2.2.2.2.2.2.2.2.2.2.2.2.2.2.2.2.2.2.2.2.2.2.2.2.2.2.2.2.2.2.2.1 s2.2.2.2.2.2.2.2.2.2.2.2.2.2.2.2.2.2.2.2.2.2.2.2.2.2.2.2.2.2.2.2.1 s2.2.2.2.2.2.2.2.2.2.2.2.2.2.2.2.2.2.2.2.2.2.2.2.2.2.2.2.2.2.2.2.2.1 s2.2.2.2.2.2.2.2.2.2.2.2.2.2.2.2.2.2.2.2.2.2.2.2.2.2.2.2.2.2.2.2.2.2.1 s2.2.2.2.2.2.2.2.2.2.2.2.2.2.2.2.2.2.2.2.2.2.2.2.2.2.2.2.2.2.2.2.2.2.2.1 s2.2.2.2.2.2.2.2.2.2.2.2.2.2.2.2.2.2.2.2.2.2.2.2.2.2.2.2.2.2.2.2.2.2.2.2.1 s2.2.2.2.2.2.2.2.2.2.2.2.2.2.2.2.2.2.2.2.2.2.2.2.2.2.2.2.2.2.2.2.2.2.2.2.2
def Qai (k : Nat) (rec_catenarylaw26_CallerPlays_2_l147 : Int → Int → Int → Int → Int → (List M44) → Int → Int → Int → (List Int) → Int → Int → Int → Int → (List Int) → Int → Int → Int → (List Int) → Int → Int → Int → Int → Int → (List Int) → Int → (Option (Int × Int × Int × Int × (List Int))) → Int → Int → Int → (List Int) → (List M44) → Option (Sum Bool (Int × Int × Int × Int × Int × (List Int) × Int × (Option (Int × Int × Int × Int × (List Int))) × Int × Int × Int × (List Int) × (List M44)))) (x1 : M64) (x2 : Int) (y1 : Int × Int × (List M44) × Int × (List (List Int)) × (List Int) × (List Int)) (x3 x4 : Int) (x5 : List M44) (x6 x7 x8 : Int) (x9 : List Int) (x10 x11 x12 x13 : Int) (x14 : List Int) (x15 x16 x17 : Int) (x18 : List M44) (x19 x20 x21 : Int) (x22 : List Int) (x23 x24 x25 x26 : Int) (x27 : List Int) (x28 x29 x30 : Int) (x31 : List Int) (x32 x33 x34 x35 : Int) (x36 : List Int) (x37 : Int) (x38 : Bool) : Option (Sum Bool (Int × Int × Int × Int × Int × (List Int) × Int × (Option (Int × Int × Int × Int × (List Int))) × Int × Int × Int × (List Int) × (List M44))) :=
 if x38 = true then (
  (QX k).bind fun y2 =>
  some (.inl y2))
 else (if x1.f2 = true then some x2
  else some x1.f3.f6 : Option Int).bind fun s1 => QR k (rec_catenarylaw26_CallerPlays_2_l147) x1 y1 x3 x4 x5 x6 x7 x8 x9 x10 x11 x12 x13 x14 x15 x16 x2 x17 x18 x19 x20 x21 x22 x23 x24 x25 x26 x27 x28 x29 x30 x31 x32 x33 x34 x35 x36 x37 s1
def Qh (k : Nat) (x1 : List M64) (y1 : Int × Int × (List M44) × Int × (List (List Int)) × (List Int) × (List Int)) : Nat → Int → Int → Int → Int → Int → (List M44) → Int → Int → Int → (List Int) → Int → Int → Int → Int → (List Int) → Int → Int → Int → (List Int) → Int → Int → Int → Int → Int → (List Int) → Int → (Option (Int × Int × Int × Int × (List Int))) → Int → Int → Int → (List Int) → (List M44) → Option (Sum Bool (Int × Int × Int × Int × Int × (List Int) × Int × (Option (Int × Int × Int × Int × (List Int))) × Int × Int × Int × (List Int) × (List M44)))
 | 0, _, _, _, _, _, _, _, _, _, _, _, _, _, _, _, _, _, _, _, _, _, _, _, _, _, _, _, _, _, _, _, _ => none
 | j + 1, x2, x3, x4, x5, x6, x7, x8, x9, x10, x11, x12, x13, x14, x15, x16, x17, x18, x19, x20, x21, x22, x23, x24, x25, x26, x27, x28, x29, x30, x31, x32, x33 =>
  (match x28 with
   | none => if ((decide (x2 < (x1.length : Int))) && (decide (x2 < 60))) = true then (
     (ix x1 x2).bind fun x34 =>
     ((QbD k x34.f3).bind fun y2 =>
      if y2 = true then some true
      else some (decide ((x34.f1.f3.length : Int) > 2100)) : Option Bool).bind fun s1 => Qak k (Qh k x1 y1 j) x34 x5 x22 x3 x4 x6 x7 x8 x9 x10 x11 x12 x13 x14 x15 x16 x17 x18 x19 x20 x21 x23 x24 x25 x26 x27 x33 y1 x29 x30 x31 x32 x2 s1)
    else some (.inr (x21, x22, x23, x24, x25, x26, x27, none, x29, x30, x31, x32, x33))
   | some (x35, x36, x37, x38, x39) => if ((decide (x2 < (x1.length : Int))) && (decide (x2 < 60))) = true then (
     (ix x1 x2).bind fun x40 =>
     ((QbD k x40.f3).bind fun y3 =>
      if y3 = true then some true
      else some (decide ((x40.f1.f3.length : Int) > 2100)) : Option Bool).bind fun s2 => Qai k (Qh k x1 y1 j) x40 x5 y1 x21 x22 x33 x23 x24 x25 x26 x27 x36 x37 x38 x39 x3 x4 x6 x7 x8 x9 x10 x11 x12 x13 x14 x15 x16 x17 x18 x19 x20 x35 x29 x30 x31 x32 x2 s2)
    else some (.inr (x21, x22, x23, x24, x25, x26, x27, (some (x35, x36, x37, x38, x39)), x29, x30, x31, x32, x33)))
def Qa1 (k : Nat) (x1 : M57) (x2 : List M44) (x3 : List M64) : Option Bool :=
 if (decide ((x2.length : Int) > 6)) = true then (
  (QX k).bind fun y1 =>
  some y1)
 else (Qg0 k x1.f0 x1.f1 x2).bind fun
  | .inl y2 =>
   (QbV k x1.f0 x1.f1 x2).bind fun y3 =>
   if (y3.2 != 0) = true then (
    (if (1 == y3.2) = true then (
      (QX k).bind fun y4 =>
      some y4)
     else some false : Option Bool).bind fun s1 => QZ s1)
   else none
  | .inr y5 =>
   (QbV k x1.f0 x1.f1 x2).bind fun y6 =>
   if (y6.2 != 0) = true then some false
   else (Qh k x3 y5 k 0 y6.1.f0 y6.1.f1 y6.1.f2 y6.1.f3 y6.1.f4 y6.1.f5.f0 y6.1.f5.f1 y6.1.f5.f2 y6.1.f5.f3 y6.1.f5.f4 y6.1.f6 y6.1.f7.f0 y6.1.f7.f1 y6.1.f7.f2 y6.1.f8 y6.1.f9.f0 y6.1.f9.f1 y6.1.f9.f2 0 0 0 0 0 y5.2.2.2.2.2.1 0 none 0 0 0 y5.2.2.2.2.2.2 y5.2.2.1 : Option (Sum Bool (Int × Int × Int × Int × Int × (List Int) × Int × (Option (Int × Int × Int × Int × (List Int))) × Int × Int × Int × (List Int) × (List M44)))).bind fun
    | .inl z => some z
    | .inr s2 => Qam k y5 x1 s2.1 s2.2.1 s2.2.2.1 s2.2.2.2.1 s2.2.2.2.2.1 s2.2.2.2.2.2.1 s2.2.2.2.2.2.2.1 s2.2.2.2.2.2.2.2.1 s2.2.2.2.2.2.2.2.2.1 s2.2.2.2.2.2.2.2.2.2.1 s2.2.2.2.2.2.2.2.2.2.2.1 s2.2.2.2.2.2.2.2.2.2.2.2.1 s2.2.2.2.2.2.2.2.2.2.2.2.2
theorem Qex {k : Nat} {x1 : M57} {x2 : List M44} {x3 : List M64} {c1 c2 : Nat} {p1 p2 : Option Addr} {r : Bool} (hk : Qa1 k x1 x2 x3 = some r) {g w : World} {F : Ch} {ih : IH} (h1 : RSl e44 ih [] p1 c1 x2) (h2 : RSl e64 ih [] p2 c2 x3) (hG : Glob 0 gl0 162 ih) (hw : St g w [F] ih) :
  CallsR Tryz.prog 4 #[.agg #[Qb x1.f0, Qb x1.f1], .slice p1 x2.length c1, .slice p2 x3.length c2] w fun v w' => ∃ (ih' : IH), v = .bool r ∧ St g w' [F] ih' ∧ Le ih ih' := by
 refine f_i Tryz.func4 rfl 153 rfl fun a Qf hQ hQn hs => ?_
 refine Qd (Qa (QC hs hw [Qb x1.f0, Qb x1.f1] 57 (fun b => (pt b 0)) (by kernel_rfl) (fun _ => by kernel_rfl) fun a w b1 hs hw => ?_))
 refine pn hs 1 [(1, .slice p1 x2.length c1), (2, .slice p2 x3.length c2), (3, (pt b1 0))] fun a hs => Qc (Qd (Qd (Qa (pn hs 3 [(1, .slice p1 x2.length c1), (2, .slice p2 x3.length c2), (3, (pt b1 0)), (22, .bool (decide ((x2.length : Int) > 6)))] fun a hs => ?_))))
 refine Qc ?_
 rcases ifbE hk with ⟨h3, hk⟩ | ⟨h3, hk⟩
 ·refine Qr hs h3 ?_
  refine Qd (Qa ?_)
  obtain ⟨y1, h4, hk⟩ := bindE hk
  refine Qv hs (Qaa h4 (hG.mono (Le.refl _)) ((hw.pk [1]).pack 0)) fun a w v hv hs => ?_
  obtain ⟨ih1, rfl, hw, hle1⟩ := hv
  have hw := hw.unpack 0 rfl
  refine pn hs 1 [(6, .bool y1)] fun a hs => Qc (Qi ?_)
  obtain rfl := someE hk
  exact qr1 hQ hs ⟨ih1, rfl, hw.pk [0], hle1⟩
 refine Qs hs h3 ?_
 refine Qg (Qd (Qa (pu hs 1 fun a hs => ?_)))
 refine Qj hs (hw.at_ 0 rfl) 0 fun a hs => pu hs 1 fun a hs => Qj hs (hw.at_ 0 rfl) 1 fun a hs => pu hs 1 fun a hs => ?_
 obtain ⟨y2, h5, hk⟩ := bindE hk
 refine Qv hs (QhR h5 h1 (nilSub _) ((hw.pk [0, 1]).pack 0)) fun a w v hv hs => ?_
 rcases hv with ⟨y3, rfl, ⟨ih2, rfl, hw, hle2⟩⟩ | ⟨y4, rfl, ⟨ih3, b2, b3, p3, c3, d1, b4, b5, p4, c4, d2, p5, c5, d3, p6, c6, d4, rfl, hw, hle3, h6, h7, h8, h9⟩⟩
 ·try dsimp only at hk
  have hw := hw.unpack 0 rfl
  refine pn hs 5 [(1, .slice p1 x2.length c1), (2, .slice p2 x3.length c2), (3, (pt b1 0)), (7, .pointer none), (8, Qb 1)] fun a hs => Qc (Qd (Qa (pu hs 1 fun a hs => ?_)))
  refine Qj hs (hw.at_ 0 rfl) 0 fun a hs => pu hs 1 fun a hs => Qj hs (hw.at_ 0 rfl) 1 fun a hs => pu hs 1 fun a hs => ?_
  obtain ⟨y5, h10, hk⟩ := bindE hk
  refine Qv hs (Qel h10 (h1.mono hle2) ((hw.pk [0, 1]).pack 0)) fun a w v hv hs => ?_
  obtain ⟨p7, c7, p8, c8, p9, c9, p10, c10, rfl, hw, h11, h12, h13, h14⟩ := hv
  have hw := hw.unpack 0 rfl
  refine pn hs 3 [(2, .slice p2 x3.length c2), (3, (pt b1 0)), (7, .pointer none), (8, Qb 1), (40, .agg #[Qb y5.1.f0, Qb y5.1.f1, Qe y5.1.f2, Qb y5.1.f3, .slice p7 y5.1.f4.length c7, Qb y5.1.f5.f0, Qk y5.1.f5.f1, Qe y5.1.f5.f2, .slice p8 y5.1.f5.f3.length c8, Qb y5.1.f5.f4, Qb y5.1.f6, Qb y5.1.f7.f0, Qe y5.1.f7.f1, .slice p9 y5.1.f7.f2.length c9, Qe y5.1.f8, Qb y5.1.f9.f0, Qe y5.1.f9.f1, .slice p10 y5.1.f9.f2.length c10]), (41, Qb y5.2)] fun a hs => ?_
  refine QaN hs hw [Qb 0, Qb 0, Qe 0, Qb 0, .slice none 0 0, Qb 0, Qk 0, Qe 0, .slice none 0 0, Qb 0, Qb 0, Qb 0, Qe 0, .slice none 0 0, Qe 0, Qb 0, Qe 0, .slice none 0 0] 60 (fun b => (pt b 0)) fun a w b6 hs hw => ?_
  refine QE hs hw 0 rfl 0 (v := .agg #[Qb y5.1.f0, Qb y5.1.f1, Qe y5.1.f2, Qb y5.1.f3, .slice p7 y5.1.f4.length c7, Qb y5.1.f5.f0, Qk y5.1.f5.f1, Qe y5.1.f5.f2, .slice p8 y5.1.f5.f3.length c8, Qb y5.1.f5.f4, Qb y5.1.f6, Qb y5.1.f7.f0, Qe y5.1.f7.f1, .slice p9 y5.1.f7.f2.length c9, Qe y5.1.f8, Qb y5.1.f9.f0, Qe y5.1.f9.f1, .slice p10 y5.1.f9.f2.length c10]) fun a w hs hw => ?_
  refine pn hs 1 [(2, .slice p2 x3.length c2), (3, (pt b1 0)), (7, .pointer none), (8, Qb 1), (9, (pt b6 0)), (10, Qb y5.2)] fun a hs => ?_
  have hw := hw.cL [k52 b6 y5.1.f0 y5.1.f1 y5.1.f2 y5.1.f3 p7 y5.1.f4 c7 y5.1.f5.f0 y5.1.f5.f1 y5.1.f5.f2 p8 y5.1.f5.f3 c8 y5.1.f5.f4 y5.1.f6 y5.1.f7.f0 y5.1.f7.f1 p9 y5.1.f7.f2 c9 y5.1.f8 y5.1.f9.f0 y5.1.f9.f1 p10 y5.1.f9.f2 c10, bx b1 [Qb x1.f0, Qb x1.f1] 57, F]
  refine Qc (Qd (Qd (Qa (pn hs 2 [(2, .slice p2 x3.length c2), (3, (pt b1 0)), (7, .pointer none), (8, Qb 1), (9, (pt b6 0)), (10, Qb y5.2), (43, .bool (y5.2 != 0))] fun a hs => ?_))))
  refine Qc ?_
  rcases ifbE hk with ⟨h15, hk⟩ | ⟨h15, hk⟩
  ·refine Qr hs h15 (Qd ?_)
   obtain ⟨y6, hx1, hk⟩ := bindE hk
   obtain ⟨J1, hJ1⟩ := mkJ fun a w => ∃ (x4 : Bool) (ih4 : IH), QZ x4 = some r ∧ Sees a 153 [(6, .bool x4)] ∧ St g w [F] ih4 ∧ Le ih2 ih4
   refine Qn J1 ?_ ?_
   ·refine pu hs 8 fun a hs => ?_
    rcases ifbE hx1 with ⟨h16, hx1⟩ | ⟨h16, hx1⟩
    ·have hs := hs.aB 51 h16
     obtain ⟨y7, h17, hx1⟩ := bindE hx1
     refine Qv hs (Qaa h17 (hG.mono hle2) ((hw.pk [2]).pack 0)) fun a w v hv hs => ?_
     obtain ⟨ih5, rfl, hw, hle4⟩ := hv
     have hw := hw.unpack 0 rfl
     refine pu hs 2 fun a hs => Qc ?_
     obtain rfl := someE hx1
     exact (hJ1 _ _).2 ⟨y7, ih5, hk, hs.cst, hw.pk [0], hle4⟩
    have hs := hs.aB 51 h16
    refine pu hs 3 fun a hs => Qc ?_
    obtain rfl := someE hx1
    exact (hJ1 _ _).2 ⟨false, ih2, hk, hs.cst, hw.pk [2], (Le.refl _)⟩
   intro a w hh
   obtain ⟨x4, ih4, hk, hs, hw, hle5⟩ := (hJ1 _ _).1 hh
   refine Qi ?_
   obtain rfl := someE hk
   exact qr1 hQ hs ⟨ih4, rfl, hw.pk [0], (hle2.trans hle5)⟩
  refine Qs hs h15 ?_
  cases hk
 try dsimp only at hk
 have hw := hw.unpack 8 rfl
 refine pn hs 5 [(1, .slice p1 x2.length c1), (2, .slice p2 x3.length c2), (3, (pt b1 0)), (7, (pt b2 0)), (8, Qb 0)] fun a hs => Qc (Qd (Qa (pu hs 1 fun a hs => ?_)))
 refine Qj hs (hw.at_ 8 rfl) 0 fun a hs => pu hs 1 fun a hs => Qj hs (hw.at_ 8 rfl) 1 fun a hs => pu hs 1 fun a hs => ?_
 obtain ⟨y8, h18, hk⟩ := bindE hk
 refine Qv hs (Qel h18 (h1.mono hle3) ((hw.pk [0, 1, 2, 3, 4, 5, 6, 7, 8, 9]).pack 0)) fun a w v hv hs => ?_
 obtain ⟨p11, c11, p12, c12, p13, c13, p14, c14, rfl, hw, h19, h20, h21, h22⟩ := hv
 have hw := hw.unpack 0 rfl
 refine pn hs 3 [(2, .slice p2 x3.length c2), (3, (pt b1 0)), (7, (pt b2 0)), (8, Qb 0), (40, .agg #[Qb y8.1.f0, Qb y8.1.f1, Qe y8.1.f2, Qb y8.1.f3, .slice p11 y8.1.f4.length c11, Qb y8.1.f5.f0, Qk y8.1.f5.f1, Qe y8.1.f5.f2, .slice p12 y8.1.f5.f3.length c12, Qb y8.1.f5.f4, Qb y8.1.f6, Qb y8.1.f7.f0, Qe y8.1.f7.f1, .slice p13 y8.1.f7.f2.length c13, Qe y8.1.f8, Qb y8.1.f9.f0, Qe y8.1.f9.f1, .slice p14 y8.1.f9.f2.length c14]), (41, Qb y8.2)] fun a hs => ?_
 refine QaN hs hw [Qb 0, Qb 0, Qe 0, Qb 0, .slice none 0 0, Qb 0, Qk 0, Qe 0, .slice none 0 0, Qb 0, Qb 0, Qb 0, Qe 0, .slice none 0 0, Qe 0, Qb 0, Qe 0, .slice none 0 0] 60 (fun b => (pt b 0)) fun a w b7 hs hw => ?_
 refine QE hs hw 0 rfl 0 (v := .agg #[Qb y8.1.f0, Qb y8.1.f1, Qe y8.1.f2, Qb y8.1.f3, .slice p11 y8.1.f4.length c11, Qb y8.1.f5.f0, Qk y8.1.f5.f1, Qe y8.1.f5.f2, .slice p12 y8.1.f5.f3.length c12, Qb y8.1.f5.f4, Qb y8.1.f6, Qb y8.1.f7.f0, Qe y8.1.f7.f1, .slice p13 y8.1.f7.f2.length c13, Qe y8.1.f8, Qb y8.1.f9.f0, Qe y8.1.f9.f1, .slice p14 y8.1.f9.f2.length c14]) fun a w hs hw => ?_
 refine pn hs 1 [(2, .slice p2 x3.length c2), (3, (pt b1 0)), (7, (pt b2 0)), (8, Qb 0), (9, (pt b7 0)), (10, Qb y8.2)] fun a hs => ?_
 have hw := hw.cL [k52 b7 y8.1.f0 y8.1.f1 y8.1.f2 y8.1.f3 p11 y8.1.f4 c11 y8.1.f5.f0 y8.1.f5.f1 y8.1.f5.f2 p12 y8.1.f5.f3 c12 y8.1.f5.f4 y8.1.f6 y8.1.f7.f0 y8.1.f7.f1 p13 y8.1.f7.f2 c13 y8.1.f8 y8.1.f9.f0 y8.1.f9.f1 p14 y8.1.f9.f2 c14, k5 b2 y4.1 y4.2.1 b3 p5 y4.2.2.2.2.2.1 c5 p6 y4.2.2.2.2.2.2 c6, bx b3 [.slice p3 y4.2.2.1.length c3, (pt b4 0)] 113, d1, k4 b4 b5 p4 y4.2.2.2.2.1 c4, bx b5 [Qb y4.2.2.2.1] 3, d2, d3, d4, bx b1 [Qb x1.f0, Qb x1.f1] 57, F]
 refine Qc (Qd (Qd (Qa (pn hs 2 [(2, .slice p2 x3.length c2), (3, (pt b1 0)), (7, (pt b2 0)), (8, Qb 0), (9, (pt b7 0)), (10, Qb y8.2), (43, .bool (y8.2 != 0))] fun a hs => ?_))))
 refine Qc ?_
 rcases ifbE hk with ⟨h23, hk⟩ | ⟨h23, hk⟩
 ·refine Qr hs h23 ?_
  refine Qd (Qa (pn hs 11 [(6, .bool false)] fun a hs => ?_))
  refine Qc (Qi ?_)
  obtain rfl := someE hk
  exact qr1 hQ hs ⟨ih3, rfl, hw.pk [10], hle3⟩
 refine Qs hs h23 ?_
 refine Qg (Qd (Qd (Qa (pn hs 1 [(2, .slice p2 x3.length c2), (3, (pt b1 0)), (7, (pt b2 0)), (8, Qb 0), (9, (pt b7 0)), (11, Qb 0)] fun a hs => ?_))))
 refine Qc (Ql ?_)
 obtain ⟨y9, hx2, hk⟩ := bindE hk
 obtain ⟨ih6, hle6, hw, h24⟩ := (hw.pk [7, 0, 1, 2, 3, 4, 5, 6, 8, 9, 10]).fz (h8.mono (Le.refl _))
 have hw := hw.nil
 obtain ⟨ih7, hle7, hw, h25⟩ := (hw.pk [8, 0, 1, 2, 3, 4, 5, 6, 7, 9, 10]).fz (h9.mono hle6)
 obtain ⟨J2, hJ2⟩ := mkJ fun a w => ∃ (x5 x6 x7 x8 x9 : Int) (x10 : List Int) (x11 : Int) (x12 : Option (Int × Int × Int × Int × (List Int))) (x13 x14 x15 : Int) (x16 : List Int) (x17 : List M44) (p15 : Option Addr) (c15 : Nat) (u1 : Value) (d5 : Ch) (p16 : Option Addr) (c16 : Nat) (p17 : Option Addr) (c17 : Nat) (d6 : Ch) (ih8 : IH), Qam k y4 x1 x5 x6 x7 x8 x9 x10 x11 x12 x13 x14 x15 x16 x17 = some r ∧ Sees a 153 [(3, (pt b1 0)), (7, (pt b2 0)), (8, Qb 0)] ∧ St g w [k6 b2 y4.1 y4.2.1 x5 x6 b3 x7 x8 x9 p15 x10 c15 x11 u1 x13 x14 x15 p16 x16 c16, bx b3 [.slice p17 x17.length c17, (pt b4 0)] 113, k4 b4 b5 p4 y4.2.2.2.2.1 c4, bx b5 [Qb y4.2.2.2.1] 3, bx b1 [Qb x1.f0, Qb x1.f1] 57, d6, d2, d5, F] ih8 ∧ Le ih3 ih8 ∧ RSl e5 ih8 [] p15 c15 x10 ∧ ((x12 = none ∧ u1 = .pointer none ∧ d5 = []) ∨ ∃ (x18 : Int) (x19 : Int) (x20 : Int) (x21 : Int) (x22 : List Int) (b8 : Nat) (p18 : Option Addr) (c18 : Nat), x12 = some (x18, x19, x20, x21, x22) ∧ u1 = (pt b8 0) ∧ d5 = bx b8 [Qk x18, QfL 0, Qk 0, Qk x19, Qb x20, Qe x21, .slice p18 x22.length c18] 126 ∧ RSl e5 ih8 [] p18 c18 x22) ∧ RSl e5 ih8 [] p16 c16 x16 ∧ OSl e44 ih8 p17 c17 x17 d6
 obtain ⟨I1, hI1⟩ := QhB fun j a w => ∃ (x23 x24 x25 x26 x27 : Int) (x28 : List M44) (x29 x30 x31 : Int) (x32 : List Int) (x33 x34 x35 x36 : Int) (x37 : List Int) (x38 x39 x40 : Int) (x41 : List Int) (x42 x43 x44 x45 x46 : Int) (x47 : List Int) (x48 : Int) (x49 : Option (Int × Int × Int × Int × (List Int))) (x50 x51 x52 : Int) (x53 : List Int) (x54 : List M44) (p19 : Option Addr) (c19 : Nat) (p20 : Option Addr) (c20 : Nat) (p21 : Option Addr) (c21 : Nat) (p22 : Option Addr) (c22 : Nat) (p23 : Option Addr) (c23 : Nat) (u2 : Value) (d7 : Ch) (p24 : Option Addr) (c24 : Nat) (p25 : Option Addr) (c25 : Nat) (d8 : Ch) (ih9 : IH), Qh k x3 y4 j x23 x24 x25 x26 x27 x28 x29 x30 x31 x32 x33 x34 x35 x36 x37 x38 x39 x40 x41 x42 x43 x44 x45 x46 x47 x48 x49 x50 x51 x52 x53 x54 = some y9 ∧ Sees a 153 [(2, .slice p2 x3.length c2), (3, (pt b1 0)), (7, (pt b2 0)), (8, Qb 0), (9, (pt b7 0)), (11, Qb x23)] ∧ St g w [k52 b7 x24 x25 x26 x27 p19 x28 c19 x29 x30 x31 p20 x32 c20 x33 x34 x35 x36 p21 x37 c21 x38 x39 x40 p22 x41 c22, k6 b2 y4.1 y4.2.1 x42 x43 b3 x44 x45 x46 p23 x47 c23 x48 u2 x50 x51 x52 p24 x53 c24, bx b3 [.slice p25 x54.length c25, (pt b4 0)] 113, k4 b4 b5 p4 y4.2.2.2.2.1 c4, bx b5 [Qb y4.2.2.2.1] 3, bx b1 [Qb x1.f0, Qb x1.f1] 57, d8, d2, d7, F] ih9 ∧ Le ih3 ih9 ∧ RSl e44 ih9 [] p19 c19 x28 ∧ RSl e5 ih9 [] p20 c20 x32 ∧ RSl e5 ih9 [] p21 c21 x37 ∧ RSl e5 ih9 [] p22 c22 x41 ∧ RSl e5 ih9 [] p23 c23 x47 ∧ ((x49 = none ∧ u2 = .pointer none ∧ d7 = []) ∨ ∃ (x55 : Int) (x56 : Int) (x57 : Int) (x58 : Int) (x59 : List Int) (b9 : Nat) (p26 : Option Addr) (c26 : Nat), x49 = some (x55, x56, x57, x58, x59) ∧ u2 = (pt b9 0) ∧ d7 = bx b9 [Qk x55, QfL 0, Qk 0, Qk x56, Qb x57, Qe x58, .slice p26 x59.length c26] 126 ∧ RSl e5 ih9 [] p26 c26 x59) ∧ RSl e5 ih9 [] p24 c24 x53 ∧ OSl e44 ih9 p25 c25 x54 d8
 refine Qau 0 J2 ?_ ?_
 ·refine QbO I1 k ((hI1 _ _ _).2 ⟨0, y8.1.f0, y8.1.f1, y8.1.f2, y8.1.f3, y8.1.f4, y8.1.f5.f0, y8.1.f5.f1, y8.1.f5.f2, y8.1.f5.f3, y8.1.f5.f4, y8.1.f6, y8.1.f7.f0, y8.1.f7.f1, y8.1.f7.f2, y8.1.f8, y8.1.f9.f0, y8.1.f9.f1, y8.1.f9.f2, 0, 0, 0, 0, 0, y4.2.2.2.2.2.1, 0, none, 0, 0, 0, y4.2.2.2.2.2.2, y4.2.2.1, p11, c11, p12, c12, p13, c13, p14, c14, p5, c5, (.pointer none), ([]), p6, c6, p3, c3, d1, ih7, hx2, hs.cst, hw.pk [1, 2, 3, 5, 6, 8, 4, 7, 0, 9], (hle6.trans hle7), (h19.mono (hle6.trans hle7)), (h20.mono (hle6.trans hle7)), (h21.mono (hle6.trans hle7)), (h22.mono (hle6.trans hle7)), (h24.mono hle7), (.inl ⟨rfl, rfl, rfl⟩), h25, (h6.mono (hle6.trans hle7))⟩) (fun a w h26 => ?_) fun j a w hh => ?_
  ·obtain ⟨_, _, _, _, _, _, _, _, _, _, _, _, _, _, _, _, _, _, _, _, _, _, _, _, _, _, _, _, _, _, _, _, _, _, _, _, _, _, _, _, _, _, _, _, _, _, _, _, _, _, h, _⟩ := (hI1 _ _ _).1 h26
   cases h
  obtain ⟨x23, x24, x25, x26, x27, x28, x29, x30, x31, x32, x33, x34, x35, x36, x37, x38, x39, x40, x41, x42, x43, x44, x45, x46, x47, x48, x49, x50, x51, x52, x53, x54, p19, c19, p20, c20, p21, c21, p22, c22, p23, c23, u2, d7, p24, c24, p25, c25, d8, ih9, hx2, hs, hw, hle8, h27, h28, h29, h30, h31, h32, h33, h34⟩ := (hI1 _ _ _).1 hh
  rcases h32 with ⟨rfl, rfl, rfl⟩ | ⟨x55, x56, x57, x58, x59, b9, p26, c26, rfl, rfl, rfl, h35⟩
  ·refine Qd (Qd ?_)
   obtain ⟨J3, hJ3⟩ := mkJ fun a w => Sees a 153 [(2, .slice p2 x3.length c2), (3, (pt b1 0)), (7, (pt b2 0)), (8, Qb 0), (9, (pt b7 0)), (11, Qb x23), (61, .bool ((decide (x23 < (x3.length : Int))) && (decide (x23 < 60))))] ∧ St g w [k52 b7 x24 x25 x26 x27 p19 x28 c19 x29 x30 x31 p20 x32 c20 x33 x34 x35 x36 p21 x37 c21 x38 x39 x40 p22 x41 c22, k37 b2 y4.1 y4.2.1 x42 x43 b3 x44 x45 x46 p23 x47 c23 x48 x50 x51 x52 p24 x53 c24, bx b3 [.slice p25 x54.length c25, (pt b4 0)] 113, k4 b4 b5 p4 y4.2.2.2.2.1 c4, bx b5 [Qb y4.2.2.2.1] 3, bx b1 [Qb x1.f0, Qb x1.f1] 57, d8, d2, F] ih9
   refine Qn J3 ?_ ?_
   ·refine pu hs 5 fun a hs => ?_
    rcases boolE (decide (x23 < (x3.length : Int))) with h36 | h36
    ·have hs := hs.aB 58 h36
     refine pu hs 3 fun a hs => Qc ?_
     exact (hJ3 _ _).2 ⟨(hs.bB 61 h36 (decide (x23 < 60)) ((decide (x23 < (x3.length : Int))) && (decide (x23 < 60)))).cst, hw.pk [0, 1, 2, 3, 4, 5, 6, 7, 9]⟩
    have hs := hs.aB 58 h36
    refine pu hs 3 fun a hs => Qc ?_
    exact (hJ3 _ _).2 ⟨(hs.bB 61 h36 false ((decide (x23 < (x3.length : Int))) && (decide (x23 < 60)))).cst, hw.pk [0, 1, 2, 3, 4, 5, 6, 7, 9]⟩
   intro a w hh
   obtain ⟨hs, hw⟩ := (hJ3 _ _).1 hh
   rcases ifbE hx2 with ⟨h37, hx2⟩ | ⟨h37, hx2⟩
   ·refine Qr hs h37 ?_
    refine Qg (Qd (Ql (Qd (Qa (pu hs 2 fun a hs => ?_)))))
    obtain ⟨x60, h38, hx2⟩ := bindE hx2
    refine QbT hs h2 (by kernel_rfl) (by kernel_rfl) (k := .i64) (by kernel_rfl) 64 (by kernel_rfl) (by kernel_rfl) h38 fun a r22990 cs henc at22991 hs => ?_
    obtain ⟨p27, c27, p28, c28, p29, c29, p30, c30, p31, c31, rfl, h39, h40, h41, h42, h43⟩ := henc
    refine Qj hs (at22991 _ (hw.vwAll.nil.anti (hle3.trans hle8))) 0 fun a hs => QaN hs hw [Qb 0, Qb 0, Qk 0, Qe 0, .slice none 0 0, Qb 0, .bool false, Qb 0, Qb 0, Qb 0, Qb 0, Qe 0, Qe 0, Qe 0, Qe 0, Qe 0, Qe 0, Qb 0, Qk 0, Qb 0, Qb 0, Qb 0, Qe 0, Qb 0, Qb 0, Qe 0, .slice none 0 0, .bool false, Qb 0, .slice none 0 0, .slice none 0 0, .slice none 0 0] 64 (fun b => (pt b 0)) fun a w b10 hs hw => ?_
    refine QE hs hw 0 rfl 0 (v := A64 x60 p27 c27 p28 c28 p29 c29 p30 c30 p31 c31) fun a w hs hw => ?_
    have hs := hs.cst (e' := [(2, .slice p2 x3.length c2), (3, (pt b1 0)), (7, (pt b2 0)), (8, Qb 0), (9, (pt b7 0)), (11, Qb x23), (12, (pt b10 0))])
    refine Qc (Qd (Qd ?_))
    obtain ⟨y10, hx3, hx2⟩ := bindE hx2
    obtain ⟨J4, hJ4⟩ := mkJ fun a w => ∃ (x61 : Bool), Qak k (Qh k x3 y4 j) x60 x26 x43 x24 x25 x27 x28 x29 x30 x31 x32 x33 x34 x35 x36 x37 x38 x39 x40 x41 x42 x44 x45 x46 x47 x48 x54 y4 x50 x51 x52 x53 x23 x61 = some y9 ∧ Sees a 153 [(2, .slice p2 x3.length c2), (3, (pt b1 0)), (7, (pt b2 0)), (8, Qb 0), (9, (pt b7 0)), (11, Qb x23), (12, (pt b10 0)), (77, .bool x61)] ∧ St g w [k53 b10 x60.f0 x60.f1.f0 x60.f1.f1 x60.f1.f2 p27 x60.f1.f3 c27 x60.f1.f4 x60.f2 x60.f3.f0 x60.f3.f1 x60.f3.f2 x60.f3.f3 x60.f3.f4 x60.f3.f5 x60.f3.f6 x60.f3.f7 x60.f3.f8 x60.f3.f9 x60.f3.f10 x60.f3.f11 x60.f3.f12 x60.f3.f13.f0 x60.f3.f13.f1 x60.f3.f13.f2 x60.f3.f13.f3 x60.f3.f14.f0 x60.f3.f14.f1 p28 x60.f3.f14.f2 c28 x60.f3.f14.f3 x60.f3.f14.f4 p29 x60.f3.f15 c29 p30 x60.f3.f16 c30 p31 x60.f3.f17 c31, k52 b7 x24 x25 x26 x27 p19 x28 c19 x29 x30 x31 p20 x32 c20 x33 x34 x35 x36 p21 x37 c21 x38 x39 x40 p22 x41 c22, k37 b2 y4.1 y4.2.1 x42 x43 b3 x44 x45 x46 p23 x47 c23 x48 x50 x51 x52 p24 x53 c24, bx b3 [.slice p25 x54.length c25, (pt b4 0)] 113, k4 b4 b5 p4 y4.2.2.2.2.1 c4, bx b5 [Qb y4.2.2.2.1] 3, bx b1 [Qb x1.f0, Qb x1.f1] 57, d8, d2, F] ih9
    refine Qn J4 ?_ ?_
    ·refine pu hs 1 fun a hs => Qj hs (hw.at_ 0 rfl) 7 fun a hs => ?_
     obtain ⟨y11, h44, hx3⟩ := bindE hx3
     refine Qv hs (Qfb h44 (h40.mono (hle3.trans hle8)) (h41.mono (hle3.trans hle8)) (h42.mono (hle3.trans hle8)) (h43.mono (hle3.trans hle8)) ((hw.pk [0, 1, 2, 3, 4, 5, 6, 7, 8, 9]).pack 0)) fun a w v hv hs => ?_
     obtain ⟨rfl, hw⟩ := hv
     have hw := hw.unpack 0 rfl
     refine pu hs 1 fun a hs => ?_
     rcases ifbE hx3 with ⟨h45, hx3⟩ | ⟨h45, hx3⟩
     ·have hs := hs.aB 71 h45
      refine pu hs 6 fun a hs => ?_
      have hw := hw.cL [k53 b10 x60.f0 x60.f1.f0 x60.f1.f1 x60.f1.f2 p27 x60.f1.f3 c27 x60.f1.f4 x60.f2 x60.f3.f0 x60.f3.f1 x60.f3.f2 x60.f3.f3 x60.f3.f4 x60.f3.f5 x60.f3.f6 x60.f3.f7 x60.f3.f8 x60.f3.f9 x60.f3.f10 x60.f3.f11 x60.f3.f12 x60.f3.f13.f0 x60.f3.f13.f1 x60.f3.f13.f2 x60.f3.f13.f3 x60.f3.f14.f0 x60.f3.f14.f1 p28 x60.f3.f14.f2 c28 x60.f3.f14.f3 x60.f3.f14.f4 p29 x60.f3.f15 c29 p30 x60.f3.f16 c30 p31 x60.f3.f17 c31, k52 b7 x24 x25 x26 x27 p19 x28 c19 x29 x30 x31 p20 x32 c20 x33 x34 x35 x36 p21 x37 c21 x38 x39 x40 p22 x41 c22, k37 b2 y4.1 y4.2.1 x42 x43 b3 x44 x45 x46 p23 x47 c23 x48 x50 x51 x52 p24 x53 c24, bx b3 [.slice p25 x54.length c25, (pt b4 0)] 113, k4 b4 b5 p4 y4.2.2.2.2.1 c4, bx b5 [Qb y4.2.2.2.1] 3, bx b1 [Qb x1.f0, Qb x1.f1] 57, d8, d2, F]
      refine Qc ?_
      obtain rfl := someE hx3
      exact (hJ4 _ _).2 ⟨true, hx2, hs.cst, hw.pk [0, 1, 2, 3, 4, 5, 6, 7, 8, 9]⟩
     have hs := hs.aB 71 h45
     refine pu hs 2 fun a hs => Qj hs (hw.at_ 0 rfl) 4 fun a hs => pn hs 3 [(2, .slice p2 x3.length c2), (3, (pt b1 0)), (7, (pt b2 0)), (8, Qb 0), (9, (pt b7 0)), (11, Qb x23), (12, (pt b10 0)), (77, .bool (decide ((x60.f1.f3.length : Int) > 2100)))] fun a hs => ?_
     have hw := hw.cL [k53 b10 x60.f0 x60.f1.f0 x60.f1.f1 x60.f1.f2 p27 x60.f1.f3 c27 x60.f1.f4 x60.f2 x60.f3.f0 x60.f3.f1 x60.f3.f2 x60.f3.f3 x60.f3.f4 x60.f3.f5 x60.f3.f6 x60.f3.f7 x60.f3.f8 x60.f3.f9 x60.f3.f10 x60.f3.f11 x60.f3.f12 x60.f3.f13.f0 x60.f3.f13.f1 x60.f3.f13.f2 x60.f3.f13.f3 x60.f3.f14.f0 x60.f3.f14.f1 p28 x60.f3.f14.f2 c28 x60.f3.f14.f3 x60.f3.f14.f4 p29 x60.f3.f15 c29 p30 x60.f3.f16 c30 p31 x60.f3.f17 c31, k52 b7 x24 x25 x26 x27 p19 x28 c19 x29 x30 x31 p20 x32 c20 x33 x34 x35 x36 p21 x37 c21 x38 x39 x40 p22 x41 c22, k37 b2 y4.1 y4.2.1 x42 x43 b3 x44 x45 x46 p23 x47 c23 x48 x50 x51 x52 p24 x53 c24, bx b3 [.slice p25 x54.length c25, (pt b4 0)] 113, k4 b4 b5 p4 y4.2.2.2.2.1 c4, bx b5 [Qb y4.2.2.2.1] 3, bx b1 [Qb x1.f0, Qb x1.f1] 57, d8, d2, F]
     refine Qc ?_
     obtain rfl := someE hx3
     exact (hJ4 _ _).2 ⟨(decide ((x60.f1.f3.length : Int) > 2100)), hx2, hs.cst, hw.pk [0, 1, 2, 3, 4, 5, 6, 7, 8, 9]⟩
    intro a w hh
    obtain ⟨x61, hx2, hs, hw⟩ := (hJ4 _ _).1 hh
    rcases ifbE hx2 with ⟨h46, hx2⟩ | ⟨h46, hx2⟩
    ·refine Qr hs h46 ?_
     refine Qd (Qa ?_)
     obtain ⟨y12, h47, hx2⟩ := bindE hx2
     refine Qv hs (Qaa h47 (hG.mono (hle3.trans hle8)) ((hw.pk [9]).pack 0)) fun a w v hv hs => ?_
     obtain ⟨ih10, rfl, hw, hle9⟩ := hv
     have hw := hw.unpack 0 rfl
     refine pn hs 1 [(6, .bool y12)] fun a hs => Qc (Qi ?_)
     obtain rfl := someE hx2
     obtain rfl := someE hk
     exact qr1 hQ hs ⟨ih10, rfl, hw.pk [0], ((hle3.trans hle8).trans hle9)⟩
    refine Qs hs h46 (Qg ?_)
    obtain ⟨y13, hx4, hx2⟩ := bindE hx2
    obtain ⟨J5, hJ5⟩ := mkJ fun a w => ∃ (x62 : Int), QT k (Qh k x3 y4 j) x60 x43 x24 x25 x26 x27 x28 x29 x30 x31 x32 x33 x34 x35 x36 x37 x38 x39 x40 x41 x42 x44 x45 x46 x47 x48 x54 y4 x50 x51 x52 x53 x23 x62 = some y9 ∧ Sees a 153 [(2, .slice p2 x3.length c2), (3, (pt b1 0)), (7, (pt b2 0)), (8, Qb 0), (9, (pt b7 0)), (11, Qb x23), (12, (pt b10 0))] ∧ St g w [k53 b10 x60.f0 x60.f1.f0 x60.f1.f1 x60.f1.f2 p27 x60.f1.f3 c27 x60.f1.f4 x60.f2 x60.f3.f0 x60.f3.f1 x60.f3.f2 x60.f3.f3 x60.f3.f4 x60.f3.f5 x62 x60.f3.f7 x60.f3.f8 x60.f3.f9 x60.f3.f10 x60.f3.f11 x60.f3.f12 x60.f3.f13.f0 x60.f3.f13.f1 x60.f3.f13.f2 x60.f3.f13.f3 x60.f3.f14.f0 x60.f3.f14.f1 p28 x60.f3.f14.f2 c28 x60.f3.f14.f3 x60.f3.f14.f4 p29 x60.f3.f15 c29 p30 x60.f3.f16 c30 p31 x60.f3.f17 c31, k52 b7 x24 x25 x26 x27 p19 x28 c19 x29 x30 x31 p20 x32 c20 x33 x34 x35 x36 p21 x37 c21 x38 x39 x40 p22 x41 c22, k37 b2 y4.1 y4.2.1 x42 x43 b3 x44 x45 x46 p23 x47 c23 x48 x50 x51 x52 p24 x53 c24, bx b3 [.slice p25 x54.length c25, (pt b4 0)] 113, k4 b4 b5 p4 y4.2.2.2.2.1 c4, bx b5 [Qb y4.2.2.2.1] 3, bx b1 [Qb x1.f0, Qb x1.f1] 57, d8, d2, F] ih9
    refine QaG J5 ?_ ?_
    ·refine Qd (Qa (pu hs 1 fun a hs => ?_))
     refine Qj hs (hw.at_ 0 rfl) 6 fun a hs => ?_
     have hs := hs.cst (e' := [(2, .slice p2 x3.length c2), (3, (pt b1 0)), (7, (pt b2 0)), (8, Qb 0), (9, (pt b7 0)), (11, Qb x23), (12, (pt b10 0)), (80, .bool x60.f2)])
     refine Qc ?_
     rcases ifbE hx4 with ⟨h48, hx4⟩ | ⟨h48, hx4⟩
     ·refine Qr hs h48 ?_
      refine Qa (pu hs 1 fun a hs => ?_)
      refine Qj hs (hw.at_ 1 rfl) 2 fun a hs => pu hs 2 fun a hs => QE hs hw 0 rfl 13 (v := Qe x26) fun a w hs hw => Qc ?_
      obtain rfl := someE hx4
      exact (hJ5 _ _).2 ⟨x26, hx2, hs.cst, hw.pk [0, 1, 2, 3, 4, 5, 6, 7, 8, 9]⟩
     refine Qs hs h48 (Qg ?_)
     obtain rfl := someE hx4
     exact (hJ5 _ _).2 ⟨x60.f3.f6, hx2, hs.cst, hw.pk [0, 1, 2, 3, 4, 5, 6, 7, 8, 9]⟩
    intro a w hh
    obtain ⟨x62, hx2, hs, hw⟩ := (hJ5 _ _).1 hh
    refine Qd (Qa (pn hs 2 [(2, .slice p2 x3.length c2), (3, (pt b1 0)), (7, (pt b2 0)), (8, Qb 0), (9, (pt b7 0)), (11, Qb x23), (12, (pt b10 0))] fun a hs => ?_))
    refine Qc ?_
    obtain ⟨y14, hx5, hx2⟩ := bindE hx2
    obtain ⟨J6, hJ6⟩ := mkJ fun a w => ∃ (x63 x64 : List M48) (x65 x66 x67 x68 : Int) (x69 : List M44) (x70 x71 x72 : Int) (x73 : List Int) (x74 x75 x76 x77 : Int) (x78 : List Int) (x79 x80 x81 : Int) (x82 : List Int) (x83 x84 x85 x86 x87 : Int) (x88 : List Int) (x89 : Int) (x90 : Option (List Int)) (x91 : List M44) (p32 : Option Addr) (c32 : Nat) (d9 : Ch) (p33 : Option Addr) (c33 : Nat) (d10 : Ch) (p34 : Option Addr) (c34 : Nat) (p35 : Option Addr) (c35 : Nat) (p36 : Option Addr) (c36 : Nat) (p37 : Option Addr) (c37 : Nat) (p38 : Option Addr) (c38 : Nat) (u3 : Value) (d11 : Ch) (p39 : Option Addr) (c39 : Nat) (d12 : Ch) (ih11 : IH), Qx k (Qh k x3 y4 j) x50 x51 x52 x53 x23 x63 x64 x65 x66 x67 x68 x69 x70 x71 x72 x73 x74 x75 x76 x77 x78 x79 x80 x81 x82 x83 x84 x85 x86 x87 x88 x89 x90 x91 = some y9 ∧ Sees a 153 [(2, .slice p2 x3.length c2), (3, (pt b1 0)), (7, (pt b2 0)), (8, Qb 0), (9, (pt b7 0)), (11, Qb x23), (13, .slice p32 x63.length c32), (14, .slice p33 x64.length c33)] ∧ St g w [k52 b7 x65 x66 x67 x68 p34 x69 c34 x70 x71 x72 p35 x73 c35 x74 x75 x76 x77 p36 x78 c36 x79 x80 x81 p37 x82 c37, k6 b2 y4.1 y4.2.1 x83 x84 b3 x85 x86 x87 p38 x88 c38 x89 u3 x50 x51 x52 p24 x53 c24, bx b3 [.slice p39 x91.length c39, (pt b4 0)] 113, k4 b4 b5 p4 y4.2.2.2.2.1 c4, bx b5 [Qb y4.2.2.2.1] 3, bx b1 [Qb x1.f0, Qb x1.f1] 57, d9, d10, d12, d2, d11, F] ih11 ∧ Le ih9 ih11 ∧ OSl e48 ih11 p32 c32 x63 d9 ∧ OSl e48 ih11 p33 c33 x64 d10 ∧ RSl e44 ih11 [] p34 c34 x69 ∧ RSl e5 ih11 [] p35 c35 x73 ∧ RSl e5 ih11 [] p36 c36 x78 ∧ RSl e5 ih11 [] p37 c37 x82 ∧ RSl e5 ih11 [] p38 c38 x88 ∧ ((x90 = none ∧ u3 = .pointer none ∧ d11 = []) ∨ ∃ (x92 : List Int) (b11 : Nat) (p40 : Option Addr) (c40 : Nat), x90 = some x92 ∧ u3 = (pt b11 0) ∧ d11 = bx b11 [Qk 0, QfL 0, Qk 0, Qk 0, Qb 0, Qe 0, .slice p40 x92.length c40] 126 ∧ RSl e5 ih11 [] p40 c40 x92) ∧ OSl e44 ih11 p39 c39 x91 d12
    refine QaG J6 ?_ ?_
    ·refine Qd (Qa (pu hs 1 fun a hs => ?_))
     refine Qj hs (hw.at_ 0 rfl) 0 fun a hs => ?_
     have hs := hs.cst (e' := [(2, .slice p2 x3.length c2), (3, (pt b1 0)), (7, (pt b2 0)), (8, Qb 0), (9, (pt b7 0)), (11, Qb x23), (12, (pt b10 0)), (86, Qb x60.f0)])
     refine Qc (Ql (Qd (Qa (pn hs 2 [(2, .slice p2 x3.length c2), (3, (pt b1 0)), (7, (pt b2 0)), (8, Qb 0), (9, (pt b7 0)), (11, Qb x23), (12, (pt b10 0)), (86, Qb x60.f0), (98, .bool (x60.f0 == 0))] fun a hs => ?_))))
     refine Qc ?_
     rcases ifbE hx5 with ⟨h49, hx5⟩ | ⟨h49, hx5⟩
     ·refine Qr hs h49 ?_
      refine Qd (Qa (pu hs 1 fun a hs => ?_))
      obtain ⟨y15, h50, hx5⟩ := bindE hx5
      refine Qv hs (Qd6 (x1 := y4.1) (x2 := y4.2.1) (x3 := x42) (x5 := x54) (x6 := (pt b4 0)) (x7 := x44) (x8 := x45) (x9 := x46) (x10 := x47) (x11 := x48) (x12 := x50) (x13 := x51) (x14 := x52) (x15 := x53) h50 h34 rfl h31 h33 ((hw.pk [2, 3, 7, 1, 4, 5, 6, 8, 9]).pack 3)) fun a w v hv hs => ?_
      obtain ⟨p41, c41, d13, rfl, hw, h51⟩ := hv
      have hw := hw.unpack 4 rfl
      refine pn hs 1 [(2, .slice p2 x3.length c2), (3, (pt b1 0)), (7, (pt b2 0)), (8, Qb 0), (9, (pt b7 0)), (11, Qb x23), (13, .slice p41 y15.1.length c41)] fun a hs => ?_
      refine Qc (Qa (Qj hs (hw.at_ 4 rfl) 0 fun a hs => ?_))
      obtain ⟨y16, h52, hx5⟩ := bindE hx5
      refine Qv hs (QeA h52 h27 h28 h29 h30 ((hw.pk [0, 1, 2, 3, 4, 5, 6, 7, 8, 9]).pack 0)) fun a w v hv hs => ?_
      obtain ⟨ih12, p42, c42, p43, c43, p44, c44, p45, c45, p46, c46, d14, rfl, hw, hle10, h53, h54, h55, h56, h57⟩ := hv
      have hw := hw.unpack 1 rfl
      refine pu hs 3 fun a hs => QE hs hw 5 rfl 0 (v := .agg #[Qb y16.1.f0, Qb y16.1.f1, Qe y16.1.f2, Qb y16.1.f3, .slice p42 y16.1.f4.length c42, Qb y16.1.f5.f0, Qk y16.1.f5.f1, Qe y16.1.f5.f2, .slice p43 y16.1.f5.f3.length c43, Qb y16.1.f5.f4, Qb y16.1.f6, Qb y16.1.f7.f0, Qe y16.1.f7.f1, .slice p44 y16.1.f7.f2.length c44, Qe y16.1.f8, Qb y16.1.f9.f0, Qe y16.1.f9.f1, .slice p45 y16.1.f9.f2.length c45]) fun a w hs hw => ?_
      refine pu hs 1 fun a hs => ?_
      have hw := hw.cL [d14, d13, k37 b2 y4.1 y4.2.1 x42 y15.2 b3 x44 x45 x46 p23 x47 c23 x48 x50 x51 x52 p24 x53 c24, bx b3 [.slice p25 x54.length c25, (pt b4 0)] 113, d8, k52 b7 y16.1.f0 y16.1.f1 y16.1.f2 y16.1.f3 p42 y16.1.f4 c42 y16.1.f5.f0 y16.1.f5.f1 y16.1.f5.f2 p43 y16.1.f5.f3 c43 y16.1.f5.f4 y16.1.f6 y16.1.f7.f0 y16.1.f7.f1 p44 y16.1.f7.f2 c44 y16.1.f8 y16.1.f9.f0 y16.1.f9.f1 p45 y16.1.f9.f2 c45, k4 b4 b5 p4 y4.2.2.2.2.1 c4, bx b5 [Qb y4.2.2.2.1] 3, bx b1 [Qb x1.f0, Qb x1.f1] 57, d2, F]
      refine Qc ?_
      obtain rfl := someE hx5
      have hw := hw.nil
      exact (hJ6 _ _).2 ⟨y15.1, y16.2, y16.1.f0, y16.1.f1, y16.1.f2, y16.1.f3, y16.1.f4, y16.1.f5.f0, y16.1.f5.f1, y16.1.f5.f2, y16.1.f5.f3, y16.1.f5.f4, y16.1.f6, y16.1.f7.f0, y16.1.f7.f1, y16.1.f7.f2, y16.1.f8, y16.1.f9.f0, y16.1.f9.f1, y16.1.f9.f2, x42, y15.2, x44, x45, x46, x47, x48, none, x54, p41, c41, d13, p46, c46, d14, p42, c42, p43, c43, p44, c44, p45, c45, p23, c23, (.pointer none), ([]), p25, c25, d8, ih12, hx2, hs.cst, hw.pk [6, 3, 4, 7, 8, 9, 2, 1, 5, 10, 0, 11], hle10, (h51.mono hle10), h57, h53, h54, h55, h56, (h31.mono hle10), (.inl ⟨rfl, rfl, rfl⟩), (h34.mono hle10)⟩
     refine Qs hs h49 ?_
     refine Qd (Qa (pn hs 2 [(2, .slice p2 x3.length c2), (3, (pt b1 0)), (7, (pt b2 0)), (8, Qb 0), (9, (pt b7 0)), (11, Qb x23), (12, (pt b10 0)), (107, .bool (x60.f0 == 1))] fun a hs => ?_))
     refine Qc ?_
     rcases ifbE hx5 with ⟨h58, hx5⟩ | ⟨h58, hx5⟩
     ·refine Qr hs h58 (Qd ?_)
      obtain ⟨y17, hx6, hx5⟩ := bindE hx5
      obtain ⟨J7, hJ7⟩ := mkJ fun a w => ∃ (x93 : List M48) (x94 x95 x96 x97 x98 : Int) (x99 : List Int) (x100 : Int) (x101 : Option (List Int)) (p47 : Option Addr) (c47 : Nat) (d15 : Ch) (p48 : Option Addr) (c48 : Nat) (u4 : Value) (d16 : Ch) (ih13 : IH), Qal k x24 x25 x26 x27 x28 x29 x30 x31 x32 x33 x34 x35 x36 x37 x38 x39 x40 x41 x60 x43 x54 x93 x94 x95 x96 x97 x98 x99 x100 x101 = some y14 ∧ Sees a 153 [(2, .slice p2 x3.length c2), (3, (pt b1 0)), (7, (pt b2 0)), (8, Qb 0), (9, (pt b7 0)), (11, Qb x23), (12, (pt b10 0)), (15, .slice p47 x93.length c47), (16, Qb x94)] ∧ St g w [k53 b10 x60.f0 x60.f1.f0 x60.f1.f1 x60.f1.f2 p27 x60.f1.f3 c27 x60.f1.f4 x60.f2 x60.f3.f0 x60.f3.f1 x60.f3.f2 x60.f3.f3 x60.f3.f4 x60.f3.f5 x62 x60.f3.f7 x60.f3.f8 x60.f3.f9 x60.f3.f10 x60.f3.f11 x60.f3.f12 x60.f3.f13.f0 x60.f3.f13.f1 x60.f3.f13.f2 x60.f3.f13.f3 x60.f3.f14.f0 x60.f3.f14.f1 p28 x60.f3.f14.f2 c28 x60.f3.f14.f3 x60.f3.f14.f4 p29 x60.f3.f15 c29 p30 x60.f3.f16 c30 p31 x60.f3.f17 c31, k52 b7 x24 x25 x26 x27 p19 x28 c19 x29 x30 x31 p20 x32 c20 x33 x34 x35 x36 p21 x37 c21 x38 x39 x40 p22 x41 c22, k6 b2 y4.1 y4.2.1 x95 x43 b3 x96 x97 x98 p48 x99 c48 x100 u4 x50 x51 x52 p24 x53 c24, bx b3 [.slice p25 x54.length c25, (pt b4 0)] 113, k4 b4 b5 p4 y4.2.2.2.2.1 c4, bx b5 [Qb y4.2.2.2.1] 3, bx b1 [Qb x1.f0, Qb x1.f1] 57, d15, d8, d2, d16, F] ih13 ∧ Le ih9 ih13 ∧ OSl e48 ih13 p47 c47 x93 d15 ∧ RSl e5 ih13 [] p48 c48 x99 ∧ ((x101 = none ∧ u4 = .pointer none ∧ d16 = []) ∨ ∃ (x102 : List Int) (b12 : Nat) (p49 : Option Addr) (c49 : Nat), x101 = some x102 ∧ u4 = (pt b12 0) ∧ d16 = bx b12 [Qk 0, QfL 0, Qk 0, Qk 0, Qb 0, Qe 0, .slice p49 x102.length c49] 126 ∧ RSl e5 ih13 [] p49 c49 x102)
      refine Qn J7 ?_ ?_
      ·refine pu hs 2 fun a hs => Qj hs (hw.at_ 0 rfl) 1 fun a hs => ?_
       obtain ⟨y18, h59, hx6⟩ := bindE hx6
       refine Qv hs (QdR (x2 := y4.2.1) (x4 := x43) (x6 := (pt b4 0)) (x12 := x50) (x13 := x51) (x14 := x52) (x15 := x53) h59 h34 rfl h31 h33 (h39.mono (hle3.trans hle8)) (hG.mono (hle3.trans hle8)) ((hw.pk [2, 3, 7, 0, 1, 4, 5, 6, 8, 9]).pack 3)) fun a w v hv hs => ?_
       rcases hv with ⟨y19, rfl, ⟨ih14, p50, c50, d17, p51, c51, rfl, hw, hle11, h60, h61⟩⟩ | ⟨y20, rfl, ⟨ih15, p52, c52, d18, b13, p53, c53, p54, c54, rfl, hw, hle12, h62, h63, h64⟩⟩
       ·try dsimp only at hx6
        have hw := hw.unpack 4 rfl
        refine pu hs 5 fun a hs => Qc ?_
        obtain rfl := someE hx6
        have hw := hw.nil
        exact (hJ7 _ _).2 ⟨y19.1, y19.2.1, y19.2.2.1, y19.2.2.2.1, y19.2.2.2.2.1, y19.2.2.2.2.2.1, y19.2.2.2.2.2.2.1, y19.2.2.2.2.2.2.2, none, p50, c50, d17, p51, c51, (.pointer none), ([]), ih14, hx5, hs.cst, hw.pk [5, 6, 2, 3, 7, 8, 9, 1, 4, 10, 0, 11], hle11, h60, h61, (.inl ⟨rfl, rfl, rfl⟩)⟩
       try dsimp only at hx6
       have hw := hw.unpack 5 rfl
       refine pu hs 5 fun a hs => Qc ?_
       obtain rfl := someE hx6
       exact (hJ7 _ _).2 ⟨y20.1, 0, y20.2.2.1, y20.2.2.2.1, y20.2.2.2.2.1, y20.2.2.2.2.2.1, y20.2.2.2.2.2.2.1, y20.2.2.2.2.2.2.2, (some y20.2.1), p52, c52, d18, p54, c54, (pt b13 0), (k38 b13 p53 y20.2.1 c53), ih15, hx5, hs.cst, hw.pk [5, 6, 2, 3, 7, 8, 9, 0, 4, 10, 1, 11], hle12, h62, h64, (.inr ⟨y20.2.1, b13, p53, c53, rfl, rfl, rfl, h63⟩)⟩
      intro a w hh
      obtain ⟨x93, x94, x95, x96, x97, x98, x99, x100, x101, p47, c47, d15, p48, c48, u4, d16, ih13, hx5, hs, hw, hle13, h65, h66, h67⟩ := (hJ7 _ _).1 hh
      rcases h67 with ⟨rfl, rfl, rfl⟩ | ⟨x102, b12, p49, c49, rfl, rfl, rfl, h68⟩
      ·refine Qd (Qa (Qj hs (hw.at_ 1 rfl) 0 fun a hs => ?_))
       refine pu hs 1 fun a hs => Qj hs (hw.at_ 0 rfl) 1 fun a hs => ?_
       obtain ⟨y21, h69, hx5⟩ := bindE hx5
       refine Qv hs (QcK h69 (h27.mono hle13) (h28.mono hle13) (h29.mono hle13) (h30.mono hle13) (h39.mono ((hle3.trans hle8).trans hle13)) ((hw.pk [1, 2, 3, 4, 5, 6, 7, 8, 9, 11]).pack 0)) fun a w v hv hs => ?_
       obtain ⟨ih16, p55, c55, p56, c56, p57, c57, p58, c58, p59, c59, d19, rfl, hw, hle14, h70, h71, h72, h73, h74⟩ := hv
       have hw := hw.unpack 1 rfl
       refine pu hs 4 fun a hs => QaN hs hw [Qb 0, Qb 0, Qe 0, Qb 0, .slice none 0 0, Qb 0, Qk 0, Qe 0, .slice none 0 0, Qb 0, Qb 0, Qb 0, Qe 0, .slice none 0 0, Qe 0, Qb 0, Qe 0, .slice none 0 0] 60 (fun b => (pt b 0)) fun a w b14 hs hw => ?_
       refine QE hs hw 0 rfl 0 (v := .agg #[Qb y21.1.f0, Qb y21.1.f1, Qe y21.1.f2, Qb y21.1.f3, .slice p55 y21.1.f4.length c55, Qb y21.1.f5.f0, Qk y21.1.f5.f1, Qe y21.1.f5.f2, .slice p56 y21.1.f5.f3.length c56, Qb y21.1.f5.f4, Qb y21.1.f6, Qb y21.1.f7.f0, Qe y21.1.f7.f1, .slice p57 y21.1.f7.f2.length c57, Qe y21.1.f8, Qb y21.1.f9.f0, Qe y21.1.f9.f1, .slice p58 y21.1.f9.f2.length c58]) fun a w hs hw => ?_
       refine pn hs 2 [(2, .slice p2 x3.length c2), (3, (pt b1 0)), (7, (pt b2 0)), (8, Qb 0), (9, (pt b7 0)), (11, Qb x23), (15, .slice p47 x93.length c47), (16, Qb x94), (17, (pt b14 0)), (18, .slice p59 y21.2.1.length c59), (19, Qb y21.2.2)] fun a hs => ?_
       have hw := hw.cL [k52 b14 y21.1.f0 y21.1.f1 y21.1.f2 y21.1.f3 p55 y21.1.f4 c55 y21.1.f5.f0 y21.1.f5.f1 y21.1.f5.f2 p56 y21.1.f5.f3 c56 y21.1.f5.f4 y21.1.f6 y21.1.f7.f0 y21.1.f7.f1 p57 y21.1.f7.f2 c57 y21.1.f8 y21.1.f9.f0 y21.1.f9.f1 p58 y21.1.f9.f2 c58, d19, k52 b7 x24 x25 x26 x27 p19 x28 c19 x29 x30 x31 p20 x32 c20 x33 x34 x35 x36 p21 x37 c21 x38 x39 x40 p22 x41 c22, k37 b2 y4.1 y4.2.1 x95 x43 b3 x96 x97 x98 p48 x99 c48 x100 x50 x51 x52 p24 x53 c24, bx b3 [.slice p25 x54.length c25, (pt b4 0)] 113, k4 b4 b5 p4 y4.2.2.2.2.1 c4, bx b5 [Qb y4.2.2.2.1] 3, bx b1 [Qb x1.f0, Qb x1.f1] 57, d15, d8, d2, F]
       refine Qc (Qd (Qa (Qj hs (hw.at_ 0 rfl) 0 fun a hs => ?_)))
       refine QE hs hw 2 rfl 0 (v := .agg #[Qb y21.1.f0, Qb y21.1.f1, Qe y21.1.f2, Qb y21.1.f3, .slice p55 y21.1.f4.length c55, Qb y21.1.f5.f0, Qk y21.1.f5.f1, Qe y21.1.f5.f2, .slice p56 y21.1.f5.f3.length c56, Qb y21.1.f5.f4, Qb y21.1.f6, Qb y21.1.f7.f0, Qe y21.1.f7.f1, .slice p57 y21.1.f7.f2.length c57, Qe y21.1.f8, Qb y21.1.f9.f0, Qe y21.1.f9.f1, .slice p58 y21.1.f9.f2.length c58]) fun a w hs hw => ?_
       have hs := hs.cst (e' := [(2, .slice p2 x3.length c2), (3, (pt b1 0)), (7, (pt b2 0)), (8, Qb 0), (9, (pt b7 0)), (11, Qb x23), (15, .slice p47 x93.length c47), (16, Qb x94), (18, .slice p59 y21.2.1.length c59), (19, Qb y21.2.2)])
       refine Qc (Qd (Qa (pn hs 2 [(2, .slice p2 x3.length c2), (3, (pt b1 0)), (7, (pt b2 0)), (8, Qb 0), (9, (pt b7 0)), (11, Qb x23), (16, Qb x94), (18, .slice p59 y21.2.1.length c59), (19, Qb y21.2.2), (13, .slice p47 x93.length c47)] fun a hs => ?_)))
       refine Qc (Qd (Qa (pn hs 2 [(2, .slice p2 x3.length c2), (3, (pt b1 0)), (7, (pt b2 0)), (8, Qb 0), (9, (pt b7 0)), (11, Qb x23), (16, Qb x94), (19, Qb y21.2.2), (13, .slice p47 x93.length c47), (14, .slice p59 y21.2.1.length c59)] fun a hs => ?_)))
       refine Qc (Qd (Qa (pn hs 3 [(2, .slice p2 x3.length c2), (3, (pt b1 0)), (7, (pt b2 0)), (8, Qb 0), (9, (pt b7 0)), (11, Qb x23), (13, .slice p47 x93.length c47), (14, .slice p59 y21.2.1.length c59), (129, .bool (x94 != y21.2.2))] fun a hs => ?_)))
       refine Qc ?_
       rcases ifbE hx5 with ⟨h75, hx5⟩ | ⟨h75, hx5⟩
       ·refine Qr hs h75 ?_
        refine Qd (Qa (pn hs 1 [(6, .bool false)] fun a hs => ?_))
        refine Qc (Qi ?_)
        obtain rfl := someE hx5
        obtain rfl := someE hx2
        obtain rfl := someE hk
        exact qr1 hQ hs ⟨ih16, rfl, hw.pk [11], (((hle3.trans hle8).trans hle13).trans hle14)⟩
       refine Qs hs h75 (Qg ?_)
       obtain rfl := someE hx5
       have hw := hw.nil
       exact (hJ6 _ _).2 ⟨x93, y21.2.1, y21.1.f0, y21.1.f1, y21.1.f2, y21.1.f3, y21.1.f4, y21.1.f5.f0, y21.1.f5.f1, y21.1.f5.f2, y21.1.f5.f3, y21.1.f5.f4, y21.1.f6, y21.1.f7.f0, y21.1.f7.f1, y21.1.f7.f2, y21.1.f8, y21.1.f9.f0, y21.1.f9.f1, y21.1.f9.f2, x95, x43, x96, x97, x98, x99, x100, none, x54, p47, c47, d15, p59, c59, d19, p55, c55, p56, c56, p57, c57, p58, c58, p48, c48, (.pointer none), ([]), p25, c25, d8, ih16, hx2, hs.cst, hw.pk [3, 4, 5, 6, 7, 8, 9, 2, 10, 11, 0, 12], (hle13.trans hle14), (h65.mono hle14), h74, h70, h71, h72, h73, (h66.mono hle14), (.inl ⟨rfl, rfl, rfl⟩), (h34.mono (hle13.trans hle14))⟩
      refine Qd (Qa (Qj hs (hw.at_ 1 rfl) 0 fun a hs => ?_))
      refine pu hs 1 fun a hs => Qj hs (hw.at_ 0 rfl) 1 fun a hs => ?_
      obtain ⟨y22, h76, hx5⟩ := bindE hx5
      refine Qv hs (QcK h76 (h27.mono hle13) (h28.mono hle13) (h29.mono hle13) (h30.mono hle13) (h39.mono ((hle3.trans hle8).trans hle13)) ((hw.pk [1, 2, 3, 4, 5, 6, 7, 8, 9, 10, 11]).pack 0)) fun a w v hv hs => ?_
      obtain ⟨ih17, p60, c60, p61, c61, p62, c62, p63, c63, p64, c64, d20, rfl, hw, hle15, h77, h78, h79, h80, h81⟩ := hv
      have hw := hw.unpack 1 rfl
      refine pu hs 4 fun a hs => QaN hs hw [Qb 0, Qb 0, Qe 0, Qb 0, .slice none 0 0, Qb 0, Qk 0, Qe 0, .slice none 0 0, Qb 0, Qb 0, Qb 0, Qe 0, .slice none 0 0, Qe 0, Qb 0, Qe 0, .slice none 0 0] 60 (fun b => (pt b 0)) fun a w b15 hs hw => ?_
      refine QE hs hw 0 rfl 0 (v := .agg #[Qb y22.1.f0, Qb y22.1.f1, Qe y22.1.f2, Qb y22.1.f3, .slice p60 y22.1.f4.length c60, Qb y22.1.f5.f0, Qk y22.1.f5.f1, Qe y22.1.f5.f2, .slice p61 y22.1.f5.f3.length c61, Qb y22.1.f5.f4, Qb y22.1.f6, Qb y22.1.f7.f0, Qe y22.1.f7.f1, .slice p62 y22.1.f7.f2.length c62, Qe y22.1.f8, Qb y22.1.f9.f0, Qe y22.1.f9.f1, .slice p63 y22.1.f9.f2.length c63]) fun a w hs hw => ?_
      refine pn hs 2 [(2, .slice p2 x3.length c2), (3, (pt b1 0)), (7, (pt b2 0)), (8, Qb 0), (9, (pt b7 0)), (11, Qb x23), (15, .slice p47 x93.length c47), (16, Qb x94), (17, (pt b15 0)), (18, .slice p64 y22.2.1.length c64), (19, Qb y22.2.2)] fun a hs => ?_
      have hw := hw.cL [k52 b15 y22.1.f0 y22.1.f1 y22.1.f2 y22.1.f3 p60 y22.1.f4 c60 y22.1.f5.f0 y22.1.f5.f1 y22.1.f5.f2 p61 y22.1.f5.f3 c61 y22.1.f5.f4 y22.1.f6 y22.1.f7.f0 y22.1.f7.f1 p62 y22.1.f7.f2 c62 y22.1.f8 y22.1.f9.f0 y22.1.f9.f1 p63 y22.1.f9.f2 c63, d20, k52 b7 x24 x25 x26 x27 p19 x28 c19 x29 x30 x31 p20 x32 c20 x33 x34 x35 x36 p21 x37 c21 x38 x39 x40 p22 x41 c22, k42 b2 y4.1 y4.2.1 x95 x43 b3 x96 x97 x98 p48 x99 c48 x100 b12 x50 x51 x52 p24 x53 c24, bx b3 [.slice p25 x54.length c25, (pt b4 0)] 113, k4 b4 b5 p4 y4.2.2.2.2.1 c4, bx b5 [Qb y4.2.2.2.1] 3, bx b1 [Qb x1.f0, Qb x1.f1] 57, d15, d8, d2, k38 b12 p49 x102 c49, F]
      refine Qc (Qd (Qa (Qj hs (hw.at_ 0 rfl) 0 fun a hs => ?_)))
      refine QE hs hw 2 rfl 0 (v := .agg #[Qb y22.1.f0, Qb y22.1.f1, Qe y22.1.f2, Qb y22.1.f3, .slice p60 y22.1.f4.length c60, Qb y22.1.f5.f0, Qk y22.1.f5.f1, Qe y22.1.f5.f2, .slice p61 y22.1.f5.f3.length c61, Qb y22.1.f5.f4, Qb y22.1.f6, Qb y22.1.f7.f0, Qe y22.1.f7.f1, .slice p62 y22.1.f7.f2.length c62, Qe y22.1.f8, Qb y22.1.f9.f0, Qe y22.1.f9.f1, .slice p63 y22.1.f9.f2.length c63]) fun a w hs hw => ?_
      have hs := hs.cst (e' := [(2, .slice p2 x3.length c2), (3, (pt b1 0)), (7, (pt b2 0)), (8, Qb 0), (9, (pt b7 0)), (11, Qb x23), (15, .slice p47 x93.length c47), (16, Qb x94), (18, .slice p64 y22.2.1.length c64), (19, Qb y22.2.2)])
      refine Qc (Qd (Qa (pn hs 2 [(2, .slice p2 x3.length c2), (3, (pt b1 0)), (7, (pt b2 0)), (8, Qb 0), (9, (pt b7 0)), (11, Qb x23), (16, Qb x94), (18, .slice p64 y22.2.1.length c64), (19, Qb y22.2.2), (13, .slice p47 x93.length c47)] fun a hs => ?_)))
      refine Qc (Qd (Qa (pn hs 2 [(2, .slice p2 x3.length c2), (3, (pt b1 0)), (7, (pt b2 0)), (8, Qb 0), (9, (pt b7 0)), (11, Qb x23), (16, Qb x94), (19, Qb y22.2.2), (13, .slice p47 x93.length c47), (14, .slice p64 y22.2.1.length c64)] fun a hs => ?_)))
      refine Qc (Qd (Qa (pn hs 3 [(2, .slice p2 x3.length c2), (3, (pt b1 0)), (7, (pt b2 0)), (8, Qb 0), (9, (pt b7 0)), (11, Qb x23), (13, .slice p47 x93.length c47), (14, .slice p64 y22.2.1.length c64), (129, .bool (x94 != y22.2.2))] fun a hs => ?_)))
      refine Qc ?_
      rcases ifbE hx5 with ⟨h82, hx5⟩ | ⟨h82, hx5⟩
      ·refine Qr hs h82 ?_
       refine Qd (Qa (pn hs 1 [(6, .bool false)] fun a hs => ?_))
       refine Qc (Qi ?_)
       obtain rfl := someE hx5
       obtain rfl := someE hx2
       obtain rfl := someE hk
       exact qr1 hQ hs ⟨ih17, rfl, hw.pk [12], (((hle3.trans hle8).trans hle13).trans hle15)⟩
      refine Qs hs h82 (Qg ?_)
      obtain rfl := someE hx5
      exact (hJ6 _ _).2 ⟨x93, y22.2.1, y22.1.f0, y22.1.f1, y22.1.f2, y22.1.f3, y22.1.f4, y22.1.f5.f0, y22.1.f5.f1, y22.1.f5.f2, y22.1.f5.f3, y22.1.f5.f4, y22.1.f6, y22.1.f7.f0, y22.1.f7.f1, y22.1.f7.f2, y22.1.f8, y22.1.f9.f0, y22.1.f9.f1, y22.1.f9.f2, x95, x43, x96, x97, x98, x99, x100, (some x102), x54, p47, c47, d15, p64, c64, d20, p60, c60, p61, c61, p62, c62, p63, c63, p48, c48, (pt b12 0), (k38 b12 p49 x102 c49), p25, c25, d8, ih17, hx2, hs.cst, hw.pk [2, 3, 4, 5, 6, 7, 8, 1, 9, 10, 11, 12], (hle13.trans hle15), (h65.mono hle15), h81, h77, h78, h79, h80, (h66.mono hle15), (.inr ⟨x102, b12, p49, c49, rfl, rfl, rfl, (h68.mono hle15)⟩), (h34.mono (hle13.trans hle15))⟩
     refine Qs hs h58 ?_
     refine Qd (Qa (pu hs 2 fun a hs => ?_))
     refine Qj hs (hw.at_ 0 rfl) 7 fun a hs => ?_
     obtain ⟨y23, h83, hx5⟩ := bindE hx5
     refine Qv hs (Qgz (x2 := y4.2.1) (x4 := x43) (x6 := (pt b4 0)) (x7 := x44) (x8 := x45) (x9 := x46) (x10 := x47) (x11 := x48) (x12 := x50) (x13 := x51) (x14 := x52) (x15 := x53) h83 h34 rfl h31 h33 (h40.mono (hle3.trans hle8)) (h41.mono (hle3.trans hle8)) (h42.mono (hle3.trans hle8)) (h43.mono (hle3.trans hle8)) (hG.mono (hle3.trans hle8)) ((hw.pk [2, 3, 7, 0, 1, 4, 5, 6, 8, 9]).pack 3)) fun a w v hv hs => ?_
     obtain ⟨ih18, p65, c65, d21, p66, c66, d22, rfl, hw, hle16, h84, h85⟩ := hv
     have hw := hw.unpack 4 rfl
     refine pn hs 1 [(2, .slice p2 x3.length c2), (3, (pt b1 0)), (7, (pt b2 0)), (8, Qb 0), (9, (pt b7 0)), (11, Qb x23), (12, (pt b10 0)), (13, .slice p65 y23.1.length c65)] fun a hs => ?_
     refine Qc (Qa (Qj hs (hw.at_ 5 rfl) 0 fun a hs => ?_))
     refine pu hs 1 fun a hs => Qj hs (hw.at_ 4 rfl) 7 fun a hs => ?_
     obtain ⟨y24, h86, hx5⟩ := bindE hx5
     refine Qv hs (QeB h86 (h27.mono hle16) (h28.mono hle16) (h29.mono hle16) (h30.mono hle16) (h40.mono ((hle3.trans hle8).trans hle16)) (h41.mono ((hle3.trans hle8).trans hle16)) (h42.mono ((hle3.trans hle8).trans hle16)) (h43.mono ((hle3.trans hle8).trans hle16)) ((hw.pk [0, 1, 2, 3, 5, 6, 7, 8, 9, 10]).pack 0)) fun a w v hv hs => ?_
     obtain ⟨ih19, p67, c67, p68, c68, p69, c69, p70, c70, p71, c71, d23, rfl, hw, hle17, h87, h88, h89, h90, h91⟩ := hv
     have hw := hw.unpack 1 rfl
     refine pu hs 3 fun a hs => QE hs hw 5 rfl 0 (v := .agg #[Qb y24.1.f0, Qb y24.1.f1, Qe y24.1.f2, Qb y24.1.f3, .slice p67 y24.1.f4.length c67, Qb y24.1.f5.f0, Qk y24.1.f5.f1, Qe y24.1.f5.f2, .slice p68 y24.1.f5.f3.length c68, Qb y24.1.f5.f4, Qb y24.1.f6, Qb y24.1.f7.f0, Qe y24.1.f7.f1, .slice p69 y24.1.f7.f2.length c69, Qe y24.1.f8, Qb y24.1.f9.f0, Qe y24.1.f9.f1, .slice p70 y24.1.f9.f2.length c70]) fun a w hs hw => ?_
     refine pu hs 1 fun a hs => ?_
     have hw := hw.cL [d23, d21, k37 b2 y4.1 y4.2.1 x42 x43 b3 x44 x45 x46 p23 x47 c23 x48 x50 x51 x52 p24 x53 c24, bx b3 [.slice p66 y23.2.length c66, (pt b4 0)] 113, d22, k52 b7 y24.1.f0 y24.1.f1 y24.1.f2 y24.1.f3 p67 y24.1.f4 c67 y24.1.f5.f0 y24.1.f5.f1 y24.1.f5.f2 p68 y24.1.f5.f3 c68 y24.1.f5.f4 y24.1.f6 y24.1.f7.f0 y24.1.f7.f1 p69 y24.1.f7.f2 c69 y24.1.f8 y24.1.f9.f0 y24.1.f9.f1 p70 y24.1.f9.f2 c70, k4 b4 b5 p4 y4.2.2.2.2.1 c4, bx b5 [Qb y4.2.2.2.1] 3, bx b1 [Qb x1.f0, Qb x1.f1] 57, d2, F]
     refine Qc ?_
     obtain rfl := someE hx5
     have hw := hw.nil
     exact (hJ6 _ _).2 ⟨y23.1, y24.2, y24.1.f0, y24.1.f1, y24.1.f2, y24.1.f3, y24.1.f4, y24.1.f5.f0, y24.1.f5.f1, y24.1.f5.f2, y24.1.f5.f3, y24.1.f5.f4, y24.1.f6, y24.1.f7.f0, y24.1.f7.f1, y24.1.f7.f2, y24.1.f8, y24.1.f9.f0, y24.1.f9.f1, y24.1.f9.f2, x42, x43, x44, x45, x46, x47, x48, none, y23.2, p65, c65, d21, p71, c71, d23, p67, c67, p68, c68, p69, c69, p70, c70, p23, c23, (.pointer none), ([]), p66, c66, d22, ih19, hx2, hs.cst, hw.pk [6, 3, 4, 7, 8, 9, 2, 1, 5, 10, 0, 11], (hle16.trans hle17), (h84.mono hle17), h91, h87, h88, h89, h90, (h31.mono (hle16.trans hle17)), (.inl ⟨rfl, rfl, rfl⟩), (h85.mono hle17)⟩
    intro a w hh
    obtain ⟨x63, x64, x65, x66, x67, x68, x69, x70, x71, x72, x73, x74, x75, x76, x77, x78, x79, x80, x81, x82, x83, x84, x85, x86, x87, x88, x89, x90, x91, p32, c32, d9, p33, c33, d10, p34, c34, p35, c35, p36, c36, p37, c37, p38, c38, u3, d11, p39, c39, d12, ih11, hx2, hs, hw, hle18, h92, h93, h94, h95, h96, h97, h98, h99, h100⟩ := (hJ6 _ _).1 hh
    rcases h99 with ⟨rfl, rfl, rfl⟩ | ⟨x92, b11, p40, c40, rfl, rfl, rfl, h101⟩
    ·refine Qd ?_
     obtain ⟨y25, hx7, hx2⟩ := bindE hx2
     obtain ⟨J8, hJ8⟩ := mkJ fun a w => ∃ (x103 : Bool) (ih20 : IH), Qbo (Qh k x3 y4 j) x23 x65 x66 x67 x68 x69 x70 x71 x72 x73 x74 x75 x76 x77 x78 x79 x80 x81 x82 x83 x84 x85 x86 x87 x88 x89 x50 x51 x52 x53 x91 x103 = some y9 ∧ Sees a 153 [(2, .slice p2 x3.length c2), (3, (pt b1 0)), (7, (pt b2 0)), (8, Qb 0), (9, (pt b7 0)), (11, Qb x23), (139, .bool x103)] ∧ St g w [k52 b7 x65 x66 x67 x68 p34 x69 c34 x70 x71 x72 p35 x73 c35 x74 x75 x76 x77 p36 x78 c36 x79 x80 x81 p37 x82 c37, k37 b2 y4.1 y4.2.1 x83 x84 b3 x85 x86 x87 p38 x88 c38 x89 x50 x51 x52 p24 x53 c24, bx b3 [.slice p39 x91.length c39, (pt b4 0)] 113, k4 b4 b5 p4 y4.2.2.2.2.1 c4, bx b5 [Qb y4.2.2.2.1] 3, bx b1 [Qb x1.f0, Qb x1.f1] 57, d12, d2, F] ih20 ∧ Le ih11 ih20
     refine Qn J8 ?_ ?_
     ·refine pu hs 2 fun a hs => ?_
      obtain ⟨y26, h102, hx7⟩ := bindE hx7
      refine Qv hs (Qc6 h102 h92.read (memF 6 rfl) h93.read (memF 7 rfl) ((hw.pk [0, 1, 2, 3, 4, 5, 6, 7, 8, 9, 11]).pack 0)) fun a w v hv hs => ?_
      obtain ⟨rfl, hw⟩ := hv
      have hw := hw.unpack 0 rfl
      refine pu hs 2 fun a hs => ?_
      rcases ifbE hx7 with ⟨h103, hx7⟩ | ⟨h103, hx7⟩
      ·have hs := hs.aB 134 h103
       refine pu hs 5 fun a hs => Qc ?_
       obtain rfl := someE hx7
       exact (hJ8 _ _).2 ⟨true, ih11, hx2, hs.cst, hw.pk [0, 1, 2, 3, 4, 5, 8, 9, 10], (Le.refl _)⟩
      have hs := hs.aB 134 h103
      refine pu hs 1 fun a hs => Qj hs (hw.at_ 0 rfl) 0 fun a hs => ?_
      obtain ⟨y27, h104, hx7⟩ := bindE hx7
      refine Qv hs (Qgx (x1 := y4.1) (x2 := y4.2.1) (x4 := x84) (x6 := (pt b4 0)) h104 h100 rfl h98 (h33.mono hle18) h94 h95 h96 h97 ((hw.pk [1, 2, 8, 0, 3, 4, 5, 9, 10]).pack 3)) fun a w v hv hs => ?_
      obtain ⟨ih21, rfl, hw, hle19⟩ := hv
      have hw := hw.unpack 3 rfl
      refine pu hs 2 fun a hs => ?_
      have hw := hw.cL [k37 b2 y4.1 y4.2.1 x83 x84 b3 x85 x86 x87 p38 x88 c38 x89 x50 x51 x52 p24 x53 c24, bx b3 [.slice p39 x91.length c39, (pt b4 0)] 113, d12, k52 b7 x65 x66 x67 x68 p34 x69 c34 x70 x71 x72 p35 x73 c35 x74 x75 x76 x77 p36 x78 c36 x79 x80 x81 p37 x82 c37, k4 b4 b5 p4 y4.2.2.2.2.1 c4, bx b5 [Qb y4.2.2.2.1] 3, bx b1 [Qb x1.f0, Qb x1.f1] 57, d2, F]
      refine Qc ?_
      obtain rfl := someE hx7
      exact (hJ8 _ _).2 ⟨(!y27), ih21, hx2, hs.cst, hw.pk [3, 0, 1, 4, 5, 6, 2, 7, 8], hle19⟩
     intro a w hh
     obtain ⟨x103, ih20, hx2, hs, hw, hle20⟩ := (hJ8 _ _).1 hh
     rcases ifbE hx2 with ⟨h105, hx2⟩ | ⟨h105, hx2⟩
     ·refine Qr hs h105 ?_
      refine Qd (Qa (pn hs 1 [(6, .bool false)] fun a hs => ?_))
      refine Qc (Qi ?_)
      obtain rfl := someE hx2
      obtain rfl := someE hk
      exact qr1 hQ hs ⟨ih20, rfl, hw.pk [8], (((hle3.trans hle8).trans hle18).trans hle20)⟩
     refine Qs hs h105 ?_
     refine Qg (Qa (pu hs 3 fun a hs => ?_))
     refine Qc ?_
     have hw := hw.nil
     exact (hI1 _ _ _).2 ⟨(IntKind.i64.wrap (x23 + 1)), x65, x66, x67, x68, x69, x70, x71, x72, x73, x74, x75, x76, x77, x78, x79, x80, x81, x82, x83, x84, x85, x86, x87, x88, x89, none, x50, x51, x52, x53, x91, p34, c34, p35, c35, p36, c36, p37, c37, p38, c38, (.pointer none), ([]), p24, c24, p39, c39, d12, ih20, hx2, hs.cst, hw.pk [1, 2, 3, 4, 5, 6, 7, 8, 0, 9], ((hle8.trans hle18).trans hle20), (h94.mono hle20), (h95.mono hle20), (h96.mono hle20), (h97.mono hle20), (h98.mono hle20), (.inl ⟨rfl, rfl, rfl⟩), (h33.mono (hle18.trans hle20)), (h100.mono hle20)⟩
    refine Qd ?_
    obtain ⟨y28, hx8, hx2⟩ := bindE hx2
    obtain ⟨J9, hJ9⟩ := mkJ fun a w => ∃ (x104 : Bool) (ih22 : IH), Qbn (Qh k x3 y4 j) x23 x65 x66 x67 x68 x69 x70 x71 x72 x73 x74 x75 x76 x77 x78 x79 x80 x81 x82 x83 x84 x85 x86 x87 x88 x89 x92 x50 x51 x52 x53 x91 x104 = some y9 ∧ Sees a 153 [(2, .slice p2 x3.length c2), (3, (pt b1 0)), (7, (pt b2 0)), (8, Qb 0), (9, (pt b7 0)), (11, Qb x23), (139, .bool x104)] ∧ St g w [k52 b7 x65 x66 x67 x68 p34 x69 c34 x70 x71 x72 p35 x73 c35 x74 x75 x76 x77 p36 x78 c36 x79 x80 x81 p37 x82 c37, k42 b2 y4.1 y4.2.1 x83 x84 b3 x85 x86 x87 p38 x88 c38 x89 b11 x50 x51 x52 p24 x53 c24, bx b3 [.slice p39 x91.length c39, (pt b4 0)] 113, k4 b4 b5 p4 y4.2.2.2.2.1 c4, bx b5 [Qb y4.2.2.2.1] 3, bx b1 [Qb x1.f0, Qb x1.f1] 57, k38 b11 p40 x92 c40, d12, d2, F] ih22 ∧ Le ih11 ih22
    refine Qn J9 ?_ ?_
    ·refine pu hs 2 fun a hs => ?_
     obtain ⟨y29, h106, hx8⟩ := bindE hx8
     refine Qv hs (Qc6 h106 h92.read (memF 6 rfl) h93.read (memF 7 rfl) ((hw.pk [0, 1, 2, 3, 4, 5, 6, 7, 8, 9, 10, 11]).pack 0)) fun a w v hv hs => ?_
     obtain ⟨rfl, hw⟩ := hv
     have hw := hw.unpack 0 rfl
     refine pu hs 2 fun a hs => ?_
     rcases ifbE hx8 with ⟨h107, hx8⟩ | ⟨h107, hx8⟩
     ·have hs := hs.aB 134 h107
      refine pu hs 5 fun a hs => Qc ?_
      obtain rfl := someE hx8
      exact (hJ9 _ _).2 ⟨true, ih11, hx2, hs.cst, hw.pk [0, 1, 2, 3, 4, 5, 10, 8, 9, 11], (Le.refl _)⟩
     have hs := hs.aB 134 h107
     refine pu hs 1 fun a hs => Qj hs (hw.at_ 0 rfl) 0 fun a hs => ?_
     obtain ⟨y30, h108, hx8⟩ := bindE hx8
     refine Qv hs (Qd1 (x1 := y4.1) (x2 := y4.2.1) (x4 := x84) (x6 := (pt b4 0)) (x12 := 0) h108 h100 rfl h98 h101 (h33.mono hle18) h94 h95 h96 h97 ((hw.pk [1, 2, 8, 10, 0, 3, 4, 5, 9, 11]).pack 4)) fun a w v hv hs => ?_
     obtain ⟨ih23, rfl, hw, hle21⟩ := hv
     have hw := hw.unpack 4 rfl
     refine pu hs 2 fun a hs => ?_
     have hw := hw.cL [k42 b2 y4.1 y4.2.1 x83 x84 b3 x85 x86 x87 p38 x88 c38 x89 b11 x50 x51 x52 p24 x53 c24, bx b3 [.slice p39 x91.length c39, (pt b4 0)] 113, d12, k38 b11 p40 x92 c40, k52 b7 x65 x66 x67 x68 p34 x69 c34 x70 x71 x72 p35 x73 c35 x74 x75 x76 x77 p36 x78 c36 x79 x80 x81 p37 x82 c37, k4 b4 b5 p4 y4.2.2.2.2.1 c4, bx b5 [Qb y4.2.2.2.1] 3, bx b1 [Qb x1.f0, Qb x1.f1] 57, d2, F]
     refine Qc ?_
     obtain rfl := someE hx8
     exact (hJ9 _ _).2 ⟨(!y30), ih23, hx2, hs.cst, hw.pk [4, 0, 1, 5, 6, 7, 3, 2, 8, 9], hle21⟩
    intro a w hh
    obtain ⟨x104, ih22, hx2, hs, hw, hle22⟩ := (hJ9 _ _).1 hh
    rcases ifbE hx2 with ⟨h109, hx2⟩ | ⟨h109, hx2⟩
    ·refine Qr hs h109 ?_
     refine Qd (Qa (pn hs 1 [(6, .bool false)] fun a hs => ?_))
     refine Qc (Qi ?_)
     obtain rfl := someE hx2
     obtain rfl := someE hk
     exact qr1 hQ hs ⟨ih22, rfl, hw.pk [9], (((hle3.trans hle8).trans hle18).trans hle22)⟩
    refine Qs hs h109 ?_
    refine Qg (Qa (pu hs 3 fun a hs => ?_))
    refine Qc ?_
    exact (hI1 _ _ _).2 ⟨(IntKind.i64.wrap (x23 + 1)), x65, x66, x67, x68, x69, x70, x71, x72, x73, x74, x75, x76, x77, x78, x79, x80, x81, x82, x83, x84, x85, x86, x87, x88, x89, (some (0, 0, 0, 0, x92)), x50, x51, x52, x53, x91, p34, c34, p35, c35, p36, c36, p37, c37, p38, c38, (pt b11 0), (k38 b11 p40 x92 c40), p24, c24, p39, c39, d12, ih22, hx2, hs.cst, hw.pk [0, 1, 2, 3, 4, 5, 7, 8, 6, 9], ((hle8.trans hle18).trans hle22), (h94.mono hle22), (h95.mono hle22), (h96.mono hle22), (h97.mono hle22), (h98.mono hle22), (.inr ⟨0, 0, 0, 0, x92, b11, p40, c40, rfl, rfl, rfl, (h101.mono hle22)⟩), (h33.mono (hle18.trans hle22)), (h100.mono hle22)⟩
   refine Qs hs h37 (Qa3 ?_)
   obtain rfl := someE hx2
   have hw := hw.nil
   exact (hJ2 _ _).2 ⟨x42, x43, x44, x45, x46, x47, x48, none, x50, x51, x52, x53, x54, p23, c23, (.pointer none), ([]), p24, c24, p25, c25, d8, ih9, hk, hs.cst, hw.pk [2, 3, 4, 5, 6, 7, 8, 0, 9], hle8, h31, (.inl ⟨rfl, rfl, rfl⟩), h33, h34⟩
  refine Qd (Qd ?_)
  obtain ⟨J10, hJ10⟩ := mkJ fun a w => Sees a 153 [(2, .slice p2 x3.length c2), (3, (pt b1 0)), (7, (pt b2 0)), (8, Qb 0), (9, (pt b7 0)), (11, Qb x23), (61, .bool ((decide (x23 < (x3.length : Int))) && (decide (x23 < 60))))] ∧ St g w [k52 b7 x24 x25 x26 x27 p19 x28 c19 x29 x30 x31 p20 x32 c20 x33 x34 x35 x36 p21 x37 c21 x38 x39 x40 p22 x41 c22, k42 b2 y4.1 y4.2.1 x42 x43 b3 x44 x45 x46 p23 x47 c23 x48 b9 x50 x51 x52 p24 x53 c24, bx b3 [.slice p25 x54.length c25, (pt b4 0)] 113, k4 b4 b5 p4 y4.2.2.2.2.1 c4, bx b5 [Qb y4.2.2.2.1] 3, bx b1 [Qb x1.f0, Qb x1.f1] 57, k46 b9 x55 x56 x57 x58 p26 x59 c26, d8, d2, F] ih9
  refine Qn J10 ?_ ?_
  ·refine pu hs 5 fun a hs => ?_
   rcases boolE (decide (x23 < (x3.length : Int))) with h110 | h110
   ·have hs := hs.aB 58 h110
    refine pu hs 3 fun a hs => Qc ?_
    exact (hJ10 _ _).2 ⟨(hs.bB 61 h110 (decide (x23 < 60)) ((decide (x23 < (x3.length : Int))) && (decide (x23 < 60)))).cst, hw.pk [0, 1, 2, 3, 4, 5, 8, 6, 7, 9]⟩
   have hs := hs.aB 58 h110
   refine pu hs 3 fun a hs => Qc ?_
   exact (hJ10 _ _).2 ⟨(hs.bB 61 h110 false ((decide (x23 < (x3.length : Int))) && (decide (x23 < 60)))).cst, hw.pk [0, 1, 2, 3, 4, 5, 8, 6, 7, 9]⟩
  intro a w hh
  obtain ⟨hs, hw⟩ := (hJ10 _ _).1 hh
  rcases ifbE hx2 with ⟨h111, hx2⟩ | ⟨h111, hx2⟩
  ·refine Qr hs h111 ?_
   refine Qg (Qd (Ql (Qd (Qa (pu hs 2 fun a hs => ?_)))))
   obtain ⟨x105, h112, hx2⟩ := bindE hx2
   refine QbT hs h2 (by kernel_rfl) (by kernel_rfl) (k := .i64) (by kernel_rfl) 64 (by kernel_rfl) (by kernel_rfl) h112 fun a r24226 cs henc at24227 hs => ?_
   obtain ⟨p72, c72, p73, c73, p74, c74, p75, c75, p76, c76, rfl, h113, h114, h115, h116, h117⟩ := henc
   refine Qj hs (at24227 _ (hw.vwAll.nil.anti (hle3.trans hle8))) 0 fun a hs => QaN hs hw [Qb 0, Qb 0, Qk 0, Qe 0, .slice none 0 0, Qb 0, .bool false, Qb 0, Qb 0, Qb 0, Qb 0, Qe 0, Qe 0, Qe 0, Qe 0, Qe 0, Qe 0, Qb 0, Qk 0, Qb 0, Qb 0, Qb 0, Qe 0, Qb 0, Qb 0, Qe 0, .slice none 0 0, .bool false, Qb 0, .slice none 0 0, .slice none 0 0, .slice none 0 0] 64 (fun b => (pt b 0)) fun a w b16 hs hw => ?_
   refine QE hs hw 0 rfl 0 (v := A64 x105 p72 c72 p73 c73 p74 c74 p75 c75 p76 c76) fun a w hs hw => ?_
   have hs := hs.cst (e' := [(2, .slice p2 x3.length c2), (3, (pt b1 0)), (7, (pt b2 0)), (8, Qb 0), (9, (pt b7 0)), (11, Qb x23), (12, (pt b16 0))])
   refine Qc (Qd (Qd ?_))
   obtain ⟨y31, hx9, hx2⟩ := bindE hx2
   obtain ⟨J11, hJ11⟩ := mkJ fun a w => ∃ (x106 : Bool), Qai k (Qh k x3 y4 j) x105 x26 y4 x42 x43 x54 x44 x45 x46 x47 x48 x56 x57 x58 x59 x24 x25 x27 x28 x29 x30 x31 x32 x33 x34 x35 x36 x37 x38 x39 x40 x41 x55 x50 x51 x52 x53 x23 x106 = some y9 ∧ Sees a 153 [(2, .slice p2 x3.length c2), (3, (pt b1 0)), (7, (pt b2 0)), (8, Qb 0), (9, (pt b7 0)), (11, Qb x23), (12, (pt b16 0)), (77, .bool x106)] ∧ St g w [k53 b16 x105.f0 x105.f1.f0 x105.f1.f1 x105.f1.f2 p72 x105.f1.f3 c72 x105.f1.f4 x105.f2 x105.f3.f0 x105.f3.f1 x105.f3.f2 x105.f3.f3 x105.f3.f4 x105.f3.f5 x105.f3.f6 x105.f3.f7 x105.f3.f8 x105.f3.f9 x105.f3.f10 x105.f3.f11 x105.f3.f12 x105.f3.f13.f0 x105.f3.f13.f1 x105.f3.f13.f2 x105.f3.f13.f3 x105.f3.f14.f0 x105.f3.f14.f1 p73 x105.f3.f14.f2 c73 x105.f3.f14.f3 x105.f3.f14.f4 p74 x105.f3.f15 c74 p75 x105.f3.f16 c75 p76 x105.f3.f17 c76, k52 b7 x24 x25 x26 x27 p19 x28 c19 x29 x30 x31 p20 x32 c20 x33 x34 x35 x36 p21 x37 c21 x38 x39 x40 p22 x41 c22, k42 b2 y4.1 y4.2.1 x42 x43 b3 x44 x45 x46 p23 x47 c23 x48 b9 x50 x51 x52 p24 x53 c24, bx b3 [.slice p25 x54.length c25, (pt b4 0)] 113, k4 b4 b5 p4 y4.2.2.2.2.1 c4, bx b5 [Qb y4.2.2.2.1] 3, bx b1 [Qb x1.f0, Qb x1.f1] 57, k46 b9 x55 x56 x57 x58 p26 x59 c26, d8, d2, F] ih9
   refine Qn J11 ?_ ?_
   ·refine pu hs 1 fun a hs => Qj hs (hw.at_ 0 rfl) 7 fun a hs => ?_
    obtain ⟨y32, h118, hx9⟩ := bindE hx9
    refine Qv hs (Qfb h118 (h114.mono (hle3.trans hle8)) (h115.mono (hle3.trans hle8)) (h116.mono (hle3.trans hle8)) (h117.mono (hle3.trans hle8)) ((hw.pk [0, 1, 2, 3, 4, 5, 6, 7, 8, 9, 10]).pack 0)) fun a w v hv hs => ?_
    obtain ⟨rfl, hw⟩ := hv
    have hw := hw.unpack 0 rfl
    refine pu hs 1 fun a hs => ?_
    rcases ifbE hx9 with ⟨h119, hx9⟩ | ⟨h119, hx9⟩
    ·have hs := hs.aB 71 h119
     refine pu hs 6 fun a hs => ?_
     have hw := hw.cL [k53 b16 x105.f0 x105.f1.f0 x105.f1.f1 x105.f1.f2 p72 x105.f1.f3 c72 x105.f1.f4 x105.f2 x105.f3.f0 x105.f3.f1 x105.f3.f2 x105.f3.f3 x105.f3.f4 x105.f3.f5 x105.f3.f6 x105.f3.f7 x105.f3.f8 x105.f3.f9 x105.f3.f10 x105.f3.f11 x105.f3.f12 x105.f3.f13.f0 x105.f3.f13.f1 x105.f3.f13.f2 x105.f3.f13.f3 x105.f3.f14.f0 x105.f3.f14.f1 p73 x105.f3.f14.f2 c73 x105.f3.f14.f3 x105.f3.f14.f4 p74 x105.f3.f15 c74 p75 x105.f3.f16 c75 p76 x105.f3.f17 c76, k52 b7 x24 x25 x26 x27 p19 x28 c19 x29 x30 x31 p20 x32 c20 x33 x34 x35 x36 p21 x37 c21 x38 x39 x40 p22 x41 c22, k42 b2 y4.1 y4.2.1 x42 x43 b3 x44 x45 x46 p23 x47 c23 x48 b9 x50 x51 x52 p24 x53 c24, bx b3 [.slice p25 x54.length c25, (pt b4 0)] 113, k4 b4 b5 p4 y4.2.2.2.2.1 c4, bx b5 [Qb y4.2.2.2.1] 3, bx b1 [Qb x1.f0, Qb x1.f1] 57, k46 b9 x55 x56 x57 x58 p26 x59 c26, d8, d2, F]
     refine Qc ?_
     obtain rfl := someE hx9
     exact (hJ11 _ _).2 ⟨true, hx2, hs.cst, hw.pk [0, 1, 2, 3, 4, 5, 6, 7, 8, 9, 10]⟩
    have hs := hs.aB 71 h119
    refine pu hs 2 fun a hs => Qj hs (hw.at_ 0 rfl) 4 fun a hs => pn hs 3 [(2, .slice p2 x3.length c2), (3, (pt b1 0)), (7, (pt b2 0)), (8, Qb 0), (9, (pt b7 0)), (11, Qb x23), (12, (pt b16 0)), (77, .bool (decide ((x105.f1.f3.length : Int) > 2100)))] fun a hs => ?_
    have hw := hw.cL [k53 b16 x105.f0 x105.f1.f0 x105.f1.f1 x105.f1.f2 p72 x105.f1.f3 c72 x105.f1.f4 x105.f2 x105.f3.f0 x105.f3.f1 x105.f3.f2 x105.f3.f3 x105.f3.f4 x105.f3.f5 x105.f3.f6 x105.f3.f7 x105.f3.f8 x105.f3.f9 x105.f3.f10 x105.f3.f11 x105.f3.f12 x105.f3.f13.f0 x105.f3.f13.f1 x105.f3.f13.f2 x105.f3.f13.f3 x105.f3.f14.f0 x105.f3.f14.f1 p73 x105.f3.f14.f2 c73 x105.f3.f14.f3 x105.f3.f14.f4 p74 x105.f3.f15 c74 p75 x105.f3.f16 c75 p76 x105.f3.f17 c76, k52 b7 x24 x25 x26 x27 p19 x28 c19 x29 x30 x31 p20 x32 c20 x33 x34 x35 x36 p21 x37 c21 x38 x39 x40 p22 x41 c22, k42 b2 y4.1 y4.2.1 x42 x43 b3 x44 x45 x46 p23 x47 c23 x48 b9 x50 x51 x52 p24 x53 c24, bx b3 [.slice p25 x54.length c25, (pt b4 0)] 113, k4 b4 b5 p4 y4.2.2.2.2.1 c4, bx b5 [Qb y4.2.2.2.1] 3, bx b1 [Qb x1.f0, Qb x1.f1] 57, k46 b9 x55 x56 x57 x58 p26 x59 c26, d8, d2, F]
    refine Qc ?_
    obtain rfl := someE hx9
    exact (hJ11 _ _).2 ⟨(decide ((x105.f1.f3.length : Int) > 2100)), hx2, hs.cst, hw.pk [0, 1, 2, 3, 4, 5, 6, 7, 8, 9, 10]⟩
   intro a w hh
   obtain ⟨x106, hx2, hs, hw⟩ := (hJ11 _ _).1 hh
   rcases ifbE hx2 with ⟨h120, hx2⟩ | ⟨h120, hx2⟩
   ·refine Qr hs h120 ?_
    refine Qd (Qa ?_)
    obtain ⟨y33, h121, hx2⟩ := bindE hx2
    refine Qv hs (Qaa h121 (hG.mono (hle3.trans hle8)) ((hw.pk [10]).pack 0)) fun a w v hv hs => ?_
    obtain ⟨ih24, rfl, hw, hle23⟩ := hv
    have hw := hw.unpack 0 rfl
    refine pn hs 1 [(6, .bool y33)] fun a hs => Qc (Qi ?_)
    obtain rfl := someE hx2
    obtain rfl := someE hk
    exact qr1 hQ hs ⟨ih24, rfl, hw.pk [0], ((hle3.trans hle8).trans hle23)⟩
   refine Qs hs h120 (Qg ?_)
   obtain ⟨y34, hx10, hx2⟩ := bindE hx2
   obtain ⟨J12, hJ12⟩ := mkJ fun a w => ∃ (x107 : Int), QR k (Qh k x3 y4 j) x105 y4 x42 x43 x54 x44 x45 x46 x47 x48 x56 x57 x58 x59 x24 x25 x26 x27 x28 x29 x30 x31 x32 x33 x34 x35 x36 x37 x38 x39 x40 x41 x55 x50 x51 x52 x53 x23 x107 = some y9 ∧ Sees a 153 [(2, .slice p2 x3.length c2), (3, (pt b1 0)), (7, (pt b2 0)), (8, Qb 0), (9, (pt b7 0)), (11, Qb x23), (12, (pt b16 0))] ∧ St g w [k53 b16 x105.f0 x105.f1.f0 x105.f1.f1 x105.f1.f2 p72 x105.f1.f3 c72 x105.f1.f4 x105.f2 x105.f3.f0 x105.f3.f1 x105.f3.f2 x105.f3.f3 x105.f3.f4 x105.f3.f5 x107 x105.f3.f7 x105.f3.f8 x105.f3.f9 x105.f3.f10 x105.f3.f11 x105.f3.f12 x105.f3.f13.f0 x105.f3.f13.f1 x105.f3.f13.f2 x105.f3.f13.f3 x105.f3.f14.f0 x105.f3.f14.f1 p73 x105.f3.f14.f2 c73 x105.f3.f14.f3 x105.f3.f14.f4 p74 x105.f3.f15 c74 p75 x105.f3.f16 c75 p76 x105.f3.f17 c76, k52 b7 x24 x25 x26 x27 p19 x28 c19 x29 x30 x31 p20 x32 c20 x33 x34 x35 x36 p21 x37 c21 x38 x39 x40 p22 x41 c22, k42 b2 y4.1 y4.2.1 x42 x43 b3 x44 x45 x46 p23 x47 c23 x48 b9 x50 x51 x52 p24 x53 c24, bx b3 [.slice p25 x54.length c25, (pt b4 0)] 113, k4 b4 b5 p4 y4.2.2.2.2.1 c4, bx b5 [Qb y4.2.2.2.1] 3, bx b1 [Qb x1.f0, Qb x1.f1] 57, k46 b9 x55 x56 x57 x58 p26 x59 c26, d8, d2, F] ih9
   refine QaG J12 ?_ ?_
   ·refine Qd (Qa (pu hs 1 fun a hs => ?_))
    refine Qj hs (hw.at_ 0 rfl) 6 fun a hs => ?_
    have hs := hs.cst (e' := [(2, .slice p2 x3.length c2), (3, (pt b1 0)), (7, (pt b2 0)), (8, Qb 0), (9, (pt b7 0)), (11, Qb x23), (12, (pt b16 0)), (80, .bool x105.f2)])
    refine Qc ?_
    rcases ifbE hx10 with ⟨h122, hx10⟩ | ⟨h122, hx10⟩
    ·refine Qr hs h122 ?_
     refine Qa (pu hs 1 fun a hs => ?_)
     refine Qj hs (hw.at_ 1 rfl) 2 fun a hs => pu hs 2 fun a hs => QE hs hw 0 rfl 13 (v := Qe x26) fun a w hs hw => Qc ?_
     obtain rfl := someE hx10
     exact (hJ12 _ _).2 ⟨x26, hx2, hs.cst, hw.pk [0, 1, 2, 3, 4, 5, 6, 7, 8, 9, 10]⟩
    refine Qs hs h122 (Qg ?_)
    obtain rfl := someE hx10
    exact (hJ12 _ _).2 ⟨x105.f3.f6, hx2, hs.cst, hw.pk [0, 1, 2, 3, 4, 5, 6, 7, 8, 9, 10]⟩
   intro a w hh
   obtain ⟨x107, hx2, hs, hw⟩ := (hJ12 _ _).1 hh
   refine Qd (Qa (pn hs 2 [(2, .slice p2 x3.length c2), (3, (pt b1 0)), (7, (pt b2 0)), (8, Qb 0), (9, (pt b7 0)), (11, Qb x23), (12, (pt b16 0))] fun a hs => ?_))
   refine Qc ?_
   obtain ⟨y35, hx11, hx2⟩ := bindE hx2
   obtain ⟨J13, hJ13⟩ := mkJ fun a w => ∃ (x108 x109 : List M48) (x110 x111 x112 x113 : Int) (x114 : List M44) (x115 x116 x117 : Int) (x118 : List Int) (x119 x120 x121 x122 : Int) (x123 : List Int) (x124 x125 x126 : Int) (x127 : List Int) (x128 x129 x130 x131 x132 : Int) (x133 : List Int) (x134 x135 x136 x137 x138 : Int) (x139 : List Int) (x140 x141 x142 : Int) (x143 : List Int) (x144 : List M44) (p77 : Option Addr) (c77 : Nat) (d24 : Ch) (p78 : Option Addr) (c78 : Nat) (d25 : Ch) (p79 : Option Addr) (c79 : Nat) (p80 : Option Addr) (c80 : Nat) (p81 : Option Addr) (c81 : Nat) (p82 : Option Addr) (c82 : Nat) (p83 : Option Addr) (c83 b17 : Nat) (p84 : Option Addr) (c84 : Nat) (p85 : Option Addr) (c85 : Nat) (p86 : Option Addr) (c86 : Nat) (d26 : Ch) (ih25 : IH), QS k (Qh k x3 y4 j) x23 x108 x109 x110 x111 x112 x113 x114 x115 x116 x117 x118 x119 x120 x121 x122 x123 x124 x125 x126 x127 x128 x129 x130 x131 x132 x133 x134 x135 x136 x137 x138 x139 x140 x141 x142 x143 x144 = some y9 ∧ Sees a 153 [(2, .slice p2 x3.length c2), (3, (pt b1 0)), (7, (pt b2 0)), (8, Qb 0), (9, (pt b7 0)), (11, Qb x23), (13, .slice p77 x108.length c77), (14, .slice p78 x109.length c78)] ∧ St g w [k52 b7 x110 x111 x112 x113 p79 x114 c79 x115 x116 x117 p80 x118 c80 x119 x120 x121 x122 p81 x123 c81 x124 x125 x126 p82 x127 c82, k42 b2 y4.1 y4.2.1 x128 x129 b3 x130 x131 x132 p83 x133 c83 x134 b17 x140 x141 x142 p85 x143 c85, bx b3 [.slice p86 x144.length c86, (pt b4 0)] 113, k4 b4 b5 p4 y4.2.2.2.2.1 c4, bx b5 [Qb y4.2.2.2.1] 3, bx b1 [Qb x1.f0, Qb x1.f1] 57, k46 b17 x135 x136 x137 x138 p84 x139 c84, d24, d25, d26, d2, F] ih25 ∧ Le ih9 ih25 ∧ OSl e48 ih25 p77 c77 x108 d24 ∧ OSl e48 ih25 p78 c78 x109 d25 ∧ RSl e44 ih25 [] p79 c79 x114 ∧ RSl e5 ih25 [] p80 c80 x118 ∧ RSl e5 ih25 [] p81 c81 x123 ∧ RSl e5 ih25 [] p82 c82 x127 ∧ RSl e5 ih25 [] p83 c83 x133 ∧ RSl e5 ih25 [] p84 c84 x139 ∧ RSl e5 ih25 [] p85 c85 x143 ∧ OSl e44 ih25 p86 c86 x144 d26
   refine QaG J13 ?_ ?_
   ·refine Qd (Qa (pu hs 1 fun a hs => ?_))
    refine Qj hs (hw.at_ 0 rfl) 0 fun a hs => ?_
    have hs := hs.cst (e' := [(2, .slice p2 x3.length c2), (3, (pt b1 0)), (7, (pt b2 0)), (8, Qb 0), (9, (pt b7 0)), (11, Qb x23), (12, (pt b16 0)), (86, Qb x105.f0)])
    refine Qc (Ql (Qd (Qa (pn hs 2 [(2, .slice p2 x3.length c2), (3, (pt b1 0)), (7, (pt b2 0)), (8, Qb 0), (9, (pt b7 0)), (11, Qb x23), (12, (pt b16 0)), (86, Qb x105.f0), (98, .bool (x105.f0 == 0))] fun a hs => ?_))))
    refine Qc ?_
    rcases ifbE hx11 with ⟨h123, hx11⟩ | ⟨h123, hx11⟩
    ·refine Qr hs h123 ?_
     refine Qd (Qa (pu hs 1 fun a hs => ?_))
     obtain ⟨y36, h124, hx11⟩ := bindE hx11
     refine Qv hs (Qd5 (x6 := (pt b4 0)) (x12 := x55) (x17 := x50) (x18 := x51) (x19 := x52) (x20 := x53) h124 h34 rfl h31 h35 h33 (hG.mono (hle3.trans hle8)) ((hw.pk [2, 3, 8, 7, 1, 4, 5, 6, 9, 10]).pack 4)) fun a w v hv hs => ?_
     obtain ⟨ih26, p87, c87, d27, rfl, hw, hle24, h125⟩ := hv
     have hw := hw.unpack 5 rfl
     refine pn hs 1 [(2, .slice p2 x3.length c2), (3, (pt b1 0)), (7, (pt b2 0)), (8, Qb 0), (9, (pt b7 0)), (11, Qb x23), (13, .slice p87 y36.1.length c87)] fun a hs => ?_
     refine Qc (Qa (Qj hs (hw.at_ 5 rfl) 0 fun a hs => ?_))
     obtain ⟨y37, h126, hx11⟩ := bindE hx11
     refine Qv hs (QeA h126 (h27.mono hle24) (h28.mono hle24) (h29.mono hle24) (h30.mono hle24) ((hw.pk [0, 1, 2, 3, 4, 5, 6, 7, 8, 9, 10]).pack 0)) fun a w v hv hs => ?_
     obtain ⟨ih27, p88, c88, p89, c89, p90, c90, p91, c91, p92, c92, d28, rfl, hw, hle25, h127, h128, h129, h130, h131⟩ := hv
     have hw := hw.unpack 1 rfl
     refine pu hs 3 fun a hs => QE hs hw 6 rfl 0 (v := .agg #[Qb y37.1.f0, Qb y37.1.f1, Qe y37.1.f2, Qb y37.1.f3, .slice p88 y37.1.f4.length c88, Qb y37.1.f5.f0, Qk y37.1.f5.f1, Qe y37.1.f5.f2, .slice p89 y37.1.f5.f3.length c89, Qb y37.1.f5.f4, Qb y37.1.f6, Qb y37.1.f7.f0, Qe y37.1.f7.f1, .slice p90 y37.1.f7.f2.length c90, Qe y37.1.f8, Qb y37.1.f9.f0, Qe y37.1.f9.f1, .slice p91 y37.1.f9.f2.length c91]) fun a w hs hw => ?_
     refine pu hs 1 fun a hs => ?_
     have hw := hw.cL [d28, d27, k42 b2 y4.1 y4.2.1 x42 y36.2 b3 x44 x45 x46 p23 x47 c23 x48 b9 x50 x51 x52 p24 x53 c24, bx b3 [.slice p25 x54.length c25, (pt b4 0)] 113, d8, k46 b9 x55 x56 x57 x58 p26 x59 c26, k52 b7 y37.1.f0 y37.1.f1 y37.1.f2 y37.1.f3 p88 y37.1.f4 c88 y37.1.f5.f0 y37.1.f5.f1 y37.1.f5.f2 p89 y37.1.f5.f3 c89 y37.1.f5.f4 y37.1.f6 y37.1.f7.f0 y37.1.f7.f1 p90 y37.1.f7.f2 c90 y37.1.f8 y37.1.f9.f0 y37.1.f9.f1 p91 y37.1.f9.f2 c91, k4 b4 b5 p4 y4.2.2.2.2.1 c4, bx b5 [Qb y4.2.2.2.1] 3, bx b1 [Qb x1.f0, Qb x1.f1] 57, d2, F]
     refine Qc ?_
     obtain rfl := someE hx11
     exact (hJ13 _ _).2 ⟨y36.1, y37.2, y37.1.f0, y37.1.f1, y37.1.f2, y37.1.f3, y37.1.f4, y37.1.f5.f0, y37.1.f5.f1, y37.1.f5.f2, y37.1.f5.f3, y37.1.f5.f4, y37.1.f6, y37.1.f7.f0, y37.1.f7.f1, y37.1.f7.f2, y37.1.f8, y37.1.f9.f0, y37.1.f9.f1, y37.1.f9.f2, x42, y36.2, x44, x45, x46, x47, x48, x55, x56, x57, x58, x59, x50, x51, x52, x53, x54, p87, c87, d27, p92, c92, d28, p88, c88, p89, c89, p90, c90, p91, c91, p23, c23, b9, p26, c26, p24, c24, p25, c25, d8, ih27, hx2, hs.cst, hw.pk [6, 2, 3, 7, 8, 9, 5, 1, 0, 4, 10, 11], (hle24.trans hle25), (h125.mono hle25), h131, h127, h128, h129, h130, (h31.mono (hle24.trans hle25)), (h35.mono (hle24.trans hle25)), (h33.mono (hle24.trans hle25)), (h34.mono (hle24.trans hle25))⟩
    refine Qs hs h123 ?_
    refine Qd (Qa (pn hs 2 [(2, .slice p2 x3.length c2), (3, (pt b1 0)), (7, (pt b2 0)), (8, Qb 0), (9, (pt b7 0)), (11, Qb x23), (12, (pt b16 0)), (107, .bool (x105.f0 == 1))] fun a hs => ?_))
    refine Qc ?_
    rcases ifbE hx11 with ⟨h132, hx11⟩ | ⟨h132, hx11⟩
    ·refine Qr hs h132 (Qd ?_)
     obtain ⟨y38, hx12, hx11⟩ := bindE hx11
     obtain ⟨J14, hJ14⟩ := mkJ fun a w => ∃ (x145 : List M48) (x146 x147 x148 x149 x150 : Int) (x151 : List Int) (x152 x153 x154 x155 x156 : Int) (x157 : List Int) (p93 : Option Addr) (c93 : Nat) (d29 : Ch) (p94 : Option Addr) (c94 b18 : Nat) (p95 : Option Addr) (c95 : Nat) (ih28 : IH), Qaj k x24 x25 x26 x27 x28 x29 x30 x31 x32 x33 x34 x35 x36 x37 x38 x39 x40 x41 x105 x43 x50 x51 x52 x53 x54 x145 x146 x147 x148 x149 x150 x151 x152 x153 x154 x155 x156 x157 = some y35 ∧ Sees a 153 [(2, .slice p2 x3.length c2), (3, (pt b1 0)), (7, (pt b2 0)), (8, Qb 0), (9, (pt b7 0)), (11, Qb x23), (12, (pt b16 0)), (15, .slice p93 x145.length c93), (16, Qb x146)] ∧ St g w [k53 b16 x105.f0 x105.f1.f0 x105.f1.f1 x105.f1.f2 p72 x105.f1.f3 c72 x105.f1.f4 x105.f2 x105.f3.f0 x105.f3.f1 x105.f3.f2 x105.f3.f3 x105.f3.f4 x105.f3.f5 x107 x105.f3.f7 x105.f3.f8 x105.f3.f9 x105.f3.f10 x105.f3.f11 x105.f3.f12 x105.f3.f13.f0 x105.f3.f13.f1 x105.f3.f13.f2 x105.f3.f13.f3 x105.f3.f14.f0 x105.f3.f14.f1 p73 x105.f3.f14.f2 c73 x105.f3.f14.f3 x105.f3.f14.f4 p74 x105.f3.f15 c74 p75 x105.f3.f16 c75 p76 x105.f3.f17 c76, k52 b7 x24 x25 x26 x27 p19 x28 c19 x29 x30 x31 p20 x32 c20 x33 x34 x35 x36 p21 x37 c21 x38 x39 x40 p22 x41 c22, k42 b2 y4.1 y4.2.1 x147 x43 b3 x148 x149 x150 p94 x151 c94 x152 b18 x50 x51 x52 p24 x53 c24, bx b3 [.slice p25 x54.length c25, (pt b4 0)] 113, k4 b4 b5 p4 y4.2.2.2.2.1 c4, bx b5 [Qb y4.2.2.2.1] 3, bx b1 [Qb x1.f0, Qb x1.f1] 57, k46 b18 x153 x154 x155 x156 p95 x157 c95, d29, d8, d2, F] ih28 ∧ Le ih9 ih28 ∧ OSl e48 ih28 p93 c93 x145 d29 ∧ RSl e5 ih28 [] p94 c94 x151 ∧ RSl e5 ih28 [] p95 c95 x157
     refine Qn J14 ?_ ?_
     ·refine pu hs 2 fun a hs => Qj hs (hw.at_ 0 rfl) 1 fun a hs => ?_
      obtain ⟨y39, h133, hx12⟩ := bindE hx12
      refine Qv hs (Qga (x2 := y4.2.1) (x4 := x43) (x6 := (pt b4 0)) (x12 := x55) (x17 := x50) (x18 := x51) (x19 := x52) (x20 := x53) h133 h34 rfl h31 h35 h33 (h113.mono (hle3.trans hle8)) (hG.mono (hle3.trans hle8)) ((hw.pk [2, 3, 8, 7, 0, 1, 4, 5, 6, 9, 10]).pack 4)) fun a w v hv hs => ?_
      rcases hv with ⟨y40, rfl, ⟨ih29, p96, c96, d30, p97, c97, rfl, hw, hle26, h134, h135⟩⟩ | ⟨y41, rfl, ⟨ih30, p98, c98, d31, b19, p99, c99, p100, c100, rfl, hw, hle27, h136, h137, h138⟩⟩
      ·try dsimp only at hx12
       have hw := hw.unpack 5 rfl
       refine pu hs 5 fun a hs => Qc ?_
       obtain rfl := someE hx12
       exact (hJ14 _ _).2 ⟨y40.1, y40.2.1, y40.2.2.1, y40.2.2.2.1, y40.2.2.2.2.1, y40.2.2.2.2.2.1, y40.2.2.2.2.2.2.1, y40.2.2.2.2.2.2.2, x55, x56, x57, x58, x59, p96, c96, d30, p97, c97, b9, p26, c26, ih29, hx11, hs.cst, hw.pk [5, 6, 1, 2, 7, 8, 9, 4, 0, 3, 10, 11], hle26, h134, h135, (h35.mono hle26)⟩
      try dsimp only at hx12
      have hw := hw.unpack 6 rfl
      refine pu hs 5 fun a hs => Qc ?_
      obtain rfl := someE hx12
      exact (hJ14 _ _).2 ⟨y41.1, 0, y41.2.2.1, y41.2.2.2.1, y41.2.2.2.2.1, y41.2.2.2.2.2.1, y41.2.2.2.2.2.2.1, y41.2.2.2.2.2.2.2, 0, 0, 0, 0, y41.2.1, p98, c98, d31, p100, c100, b19, p99, c99, ih30, hx11, hs.cst, hw.pk [6, 7, 2, 3, 8, 9, 10, 1, 0, 4, 11, 12], hle27, h136, h138, h137⟩
     intro a w hh
     obtain ⟨x145, x146, x147, x148, x149, x150, x151, x152, x153, x154, x155, x156, x157, p93, c93, d29, p94, c94, b18, p95, c95, ih28, hx11, hs, hw, hle28, h139, h140, h141⟩ := (hJ14 _ _).1 hh
     refine Qd (Qa (Qj hs (hw.at_ 1 rfl) 0 fun a hs => ?_))
     refine pu hs 1 fun a hs => Qj hs (hw.at_ 0 rfl) 1 fun a hs => ?_
     obtain ⟨y42, h142, hx11⟩ := bindE hx11
     refine Qv hs (QcK h142 (h27.mono hle28) (h28.mono hle28) (h29.mono hle28) (h30.mono hle28) (h113.mono ((hle3.trans hle8).trans hle28)) ((hw.pk [1, 2, 3, 4, 5, 6, 7, 8, 9, 10, 11]).pack 0)) fun a w v hv hs => ?_
     obtain ⟨ih31, p101, c101, p102, c102, p103, c103, p104, c104, p105, c105, d32, rfl, hw, hle29, h143, h144, h145, h146, h147⟩ := hv
     have hw := hw.unpack 1 rfl
     refine pu hs 4 fun a hs => QaN hs hw [Qb 0, Qb 0, Qe 0, Qb 0, .slice none 0 0, Qb 0, Qk 0, Qe 0, .slice none 0 0, Qb 0, Qb 0, Qb 0, Qe 0, .slice none 0 0, Qe 0, Qb 0, Qe 0, .slice none 0 0] 60 (fun b => (pt b 0)) fun a w b20 hs hw => ?_
     refine QE hs hw 0 rfl 0 (v := .agg #[Qb y42.1.f0, Qb y42.1.f1, Qe y42.1.f2, Qb y42.1.f3, .slice p101 y42.1.f4.length c101, Qb y42.1.f5.f0, Qk y42.1.f5.f1, Qe y42.1.f5.f2, .slice p102 y42.1.f5.f3.length c102, Qb y42.1.f5.f4, Qb y42.1.f6, Qb y42.1.f7.f0, Qe y42.1.f7.f1, .slice p103 y42.1.f7.f2.length c103, Qe y42.1.f8, Qb y42.1.f9.f0, Qe y42.1.f9.f1, .slice p104 y42.1.f9.f2.length c104]) fun a w hs hw => ?_
     refine pn hs 2 [(2, .slice p2 x3.length c2), (3, (pt b1 0)), (7, (pt b2 0)), (8, Qb 0), (9, (pt b7 0)), (11, Qb x23), (15, .slice p93 x145.length c93), (16, Qb x146), (17, (pt b20 0)), (18, .slice p105 y42.2.1.length c105), (19, Qb y42.2.2)] fun a hs => ?_
     have hw := hw.cL [k52 b20 y42.1.f0 y42.1.f1 y42.1.f2 y42.1.f3 p101 y42.1.f4 c101 y42.1.f5.f0 y42.1.f5.f1 y42.1.f5.f2 p102 y42.1.f5.f3 c102 y42.1.f5.f4 y42.1.f6 y42.1.f7.f0 y42.1.f7.f1 p103 y42.1.f7.f2 c103 y42.1.f8 y42.1.f9.f0 y42.1.f9.f1 p104 y42.1.f9.f2 c104, d32, k52 b7 x24 x25 x26 x27 p19 x28 c19 x29 x30 x31 p20 x32 c20 x33 x34 x35 x36 p21 x37 c21 x38 x39 x40 p22 x41 c22, k42 b2 y4.1 y4.2.1 x147 x43 b3 x148 x149 x150 p94 x151 c94 x152 b18 x50 x51 x52 p24 x53 c24, bx b3 [.slice p25 x54.length c25, (pt b4 0)] 113, k4 b4 b5 p4 y4.2.2.2.2.1 c4, bx b5 [Qb y4.2.2.2.1] 3, bx b1 [Qb x1.f0, Qb x1.f1] 57, k46 b18 x153 x154 x155 x156 p95 x157 c95, d29, d8, d2, F]
     refine Qc (Qd (Qa (Qj hs (hw.at_ 0 rfl) 0 fun a hs => ?_)))
     refine QE hs hw 2 rfl 0 (v := .agg #[Qb y42.1.f0, Qb y42.1.f1, Qe y42.1.f2, Qb y42.1.f3, .slice p101 y42.1.f4.length c101, Qb y42.1.f5.f0, Qk y42.1.f5.f1, Qe y42.1.f5.f2, .slice p102 y42.1.f5.f3.length c102, Qb y42.1.f5.f4, Qb y42.1.f6, Qb y42.1.f7.f0, Qe y42.1.f7.f1, .slice p103 y42.1.f7.f2.length c103, Qe y42.1.f8, Qb y42.1.f9.f0, Qe y42.1.f9.f1, .slice p104 y42.1.f9.f2.length c104]) fun a w hs hw => ?_
     have hs := hs.cst (e' := [(2, .slice p2 x3.length c2), (3, (pt b1 0)), (7, (pt b2 0)), (8, Qb 0), (9, (pt b7 0)), (11, Qb x23), (15, .slice p93 x145.length c93), (16, Qb x146), (18, .slice p105 y42.2.1.length c105), (19, Qb y42.2.2)])
     refine Qc (Qd (Qa (pn hs 2 [(2, .slice p2 x3.length c2), (3, (pt b1 0)), (7, (pt b2 0)), (8, Qb 0), (9, (pt b7 0)), (11, Qb x23), (16, Qb x146), (18, .slice p105 y42.2.1.length c105), (19, Qb y42.2.2), (13, .slice p93 x145.length c93)] fun a hs => ?_)))
     refine Qc (Qd (Qa (pn hs 2 [(2, .slice p2 x3.length c2), (3, (pt b1 0)), (7, (pt b2 0)), (8, Qb 0), (9, (pt b7 0)), (11, Qb x23), (16, Qb x146), (19, Qb y42.2.2), (13, .slice p93 x145.length c93), (14, .slice p105 y42.2.1.length c105)] fun a hs => ?_)))
     refine Qc (Qd (Qa (pn hs 3 [(2, .slice p2 x3.length c2), (3, (pt b1 0)), (7, (pt b2 0)), (8, Qb 0), (9, (pt b7 0)), (11, Qb x23), (13, .slice p93 x145.length c93), (14, .slice p105 y42.2.1.length c105), (129, .bool (x146 != y42.2.2))] fun a hs => ?_)))
     refine Qc ?_
     rcases ifbE hx11 with ⟨h148, hx11⟩ | ⟨h148, hx11⟩
     ·refine Qr hs h148 ?_
      refine Qd (Qa (pn hs 1 [(6, .bool false)] fun a hs => ?_))
      refine Qc (Qi ?_)
      obtain rfl := someE hx11
      obtain rfl := someE hx2
      obtain rfl := someE hk
      exact qr1 hQ hs ⟨ih31, rfl, hw.pk [12], (((hle3.trans hle8).trans hle28).trans hle29)⟩
     refine Qs hs h148 (Qg ?_)
     obtain rfl := someE hx11
     exact (hJ13 _ _).2 ⟨x145, y42.2.1, y42.1.f0, y42.1.f1, y42.1.f2, y42.1.f3, y42.1.f4, y42.1.f5.f0, y42.1.f5.f1, y42.1.f5.f2, y42.1.f5.f3, y42.1.f5.f4, y42.1.f6, y42.1.f7.f0, y42.1.f7.f1, y42.1.f7.f2, y42.1.f8, y42.1.f9.f0, y42.1.f9.f1, y42.1.f9.f2, x147, x43, x148, x149, x150, x151, x152, x153, x154, x155, x156, x157, x50, x51, x52, x53, x54, p93, c93, d29, p105, c105, d32, p101, c101, p102, c102, p103, c103, p104, c104, p94, c94, b18, p95, c95, p24, c24, p25, c25, d8, ih31, hx2, hs.cst, hw.pk [2, 3, 4, 5, 6, 7, 8, 9, 1, 10, 11, 12], (hle28.trans hle29), (h139.mono hle29), h147, h143, h144, h145, h146, (h140.mono hle29), (h141.mono hle29), (h33.mono (hle28.trans hle29)), (h34.mono (hle28.trans hle29))⟩
    refine Qs hs h132 ?_
    refine Qd (Qa (pu hs 2 fun a hs => ?_))
    refine Qj hs (hw.at_ 0 rfl) 7 fun a hs => ?_
    obtain ⟨y43, h149, hx11⟩ := bindE hx11
    refine Qv hs (Qgy (x2 := y4.2.1) (x4 := x43) (x6 := (pt b4 0)) h149 h34 rfl h31 h35 h33 (h114.mono (hle3.trans hle8)) (h115.mono (hle3.trans hle8)) (h116.mono (hle3.trans hle8)) (h117.mono (hle3.trans hle8)) (hG.mono (hle3.trans hle8)) ((hw.pk [2, 3, 8, 7, 0, 1, 4, 5, 6, 9, 10]).pack 4)) fun a w v hv hs => ?_
    obtain ⟨ih32, p106, c106, d33, p107, c107, p108, c108, d34, p109, c109, rfl, hw, hle30, h150, h151, h152, h153⟩ := hv
    have hw := hw.unpack 5 rfl
    refine pn hs 1 [(2, .slice p2 x3.length c2), (3, (pt b1 0)), (7, (pt b2 0)), (8, Qb 0), (9, (pt b7 0)), (11, Qb x23), (12, (pt b16 0)), (13, .slice p106 y43.1.length c106)] fun a hs => ?_
    refine Qc (Qa (Qj hs (hw.at_ 6 rfl) 0 fun a hs => ?_))
    refine pu hs 1 fun a hs => Qj hs (hw.at_ 5 rfl) 7 fun a hs => ?_
    obtain ⟨y44, h154, hx11⟩ := bindE hx11
    refine Qv hs (QeB h154 (h27.mono hle30) (h28.mono hle30) (h29.mono hle30) (h30.mono hle30) (h114.mono ((hle3.trans hle8).trans hle30)) (h115.mono ((hle3.trans hle8).trans hle30)) (h116.mono ((hle3.trans hle8).trans hle30)) (h117.mono ((hle3.trans hle8).trans hle30)) ((hw.pk [0, 1, 2, 3, 4, 6, 7, 8, 9, 10, 11]).pack 0)) fun a w v hv hs => ?_
    obtain ⟨ih33, p110, c110, p111, c111, p112, c112, p113, c113, p114, c114, d35, rfl, hw, hle31, h155, h156, h157, h158, h159⟩ := hv
    have hw := hw.unpack 1 rfl
    refine pu hs 3 fun a hs => QE hs hw 6 rfl 0 (v := .agg #[Qb y44.1.f0, Qb y44.1.f1, Qe y44.1.f2, Qb y44.1.f3, .slice p110 y44.1.f4.length c110, Qb y44.1.f5.f0, Qk y44.1.f5.f1, Qe y44.1.f5.f2, .slice p111 y44.1.f5.f3.length c111, Qb y44.1.f5.f4, Qb y44.1.f6, Qb y44.1.f7.f0, Qe y44.1.f7.f1, .slice p112 y44.1.f7.f2.length c112, Qe y44.1.f8, Qb y44.1.f9.f0, Qe y44.1.f9.f1, .slice p113 y44.1.f9.f2.length c113]) fun a w hs hw => ?_
    refine pu hs 1 fun a hs => ?_
    have hw := hw.cL [d35, d33, k42 b2 y4.1 y4.2.1 x42 x43 b3 x44 x45 x46 p23 x47 c23 x48 b9 y43.2.1 y43.2.2.1 y43.2.2.2.1 p107 y43.2.2.2.2.1 c107, bx b3 [.slice p108 y43.2.2.2.2.2.1.length c108, (pt b4 0)] 113, d34, k46 b9 y43.2.2.2.2.2.2.1 y43.2.2.2.2.2.2.2.1 y43.2.2.2.2.2.2.2.2.1 y43.2.2.2.2.2.2.2.2.2.1 p109 y43.2.2.2.2.2.2.2.2.2.2 c109, k52 b7 y44.1.f0 y44.1.f1 y44.1.f2 y44.1.f3 p110 y44.1.f4 c110 y44.1.f5.f0 y44.1.f5.f1 y44.1.f5.f2 p111 y44.1.f5.f3 c111 y44.1.f5.f4 y44.1.f6 y44.1.f7.f0 y44.1.f7.f1 p112 y44.1.f7.f2 c112 y44.1.f8 y44.1.f9.f0 y44.1.f9.f1 p113 y44.1.f9.f2 c113, k4 b4 b5 p4 y4.2.2.2.2.1 c4, bx b5 [Qb y4.2.2.2.1] 3, bx b1 [Qb x1.f0, Qb x1.f1] 57, d2, F]
    refine Qc ?_
    obtain rfl := someE hx11
    exact (hJ13 _ _).2 ⟨y43.1, y44.2, y44.1.f0, y44.1.f1, y44.1.f2, y44.1.f3, y44.1.f4, y44.1.f5.f0, y44.1.f5.f1, y44.1.f5.f2, y44.1.f5.f3, y44.1.f5.f4, y44.1.f6, y44.1.f7.f0, y44.1.f7.f1, y44.1.f7.f2, y44.1.f8, y44.1.f9.f0, y44.1.f9.f1, y44.1.f9.f2, x42, x43, x44, x45, x46, x47, x48, y43.2.2.2.2.2.2.1, y43.2.2.2.2.2.2.2.1, y43.2.2.2.2.2.2.2.2.1, y43.2.2.2.2.2.2.2.2.2.1, y43.2.2.2.2.2.2.2.2.2.2, y43.2.1, y43.2.2.1, y43.2.2.2.1, y43.2.2.2.2.1, y43.2.2.2.2.2.1, p106, c106, d33, p114, c114, d35, p110, c110, p111, c111, p112, c112, p113, c113, p23, c23, b9, p109, c109, p107, c107, p108, c108, d34, ih33, hx2, hs.cst, hw.pk [6, 2, 3, 7, 8, 9, 5, 1, 0, 4, 10, 11], (hle30.trans hle31), (h150.mono hle31), h159, h155, h156, h157, h158, (h31.mono (hle30.trans hle31)), (h153.mono hle31), (h151.mono hle31), (h152.mono hle31)⟩
   intro a w hh
   obtain ⟨x108, x109, x110, x111, x112, x113, x114, x115, x116, x117, x118, x119, x120, x121, x122, x123, x124, x125, x126, x127, x128, x129, x130, x131, x132, x133, x134, x135, x136, x137, x138, x139, x140, x141, x142, x143, x144, p77, c77, d24, p78, c78, d25, p79, c79, p80, c80, p81, c81, p82, c82, p83, c83, b17, p84, c84, p85, c85, p86, c86, d26, ih25, hx2, hs, hw, hle32, h160, h161, h162, h163, h164, h165, h166, h167, h168, h169⟩ := (hJ13 _ _).1 hh
   refine Qd ?_
   obtain ⟨y45, hx13, hx2⟩ := bindE hx2
   obtain ⟨J15, hJ15⟩ := mkJ fun a w => ∃ (x158 : Bool) (ih34 : IH), Qbm (Qh k x3 y4 j) x23 x110 x111 x112 x113 x114 x115 x116 x117 x118 x119 x120 x121 x122 x123 x124 x125 x126 x127 x128 x129 x130 x131 x132 x133 x134 x135 x136 x137 x138 x139 x140 x141 x142 x143 x144 x158 = some y9 ∧ Sees a 153 [(2, .slice p2 x3.length c2), (3, (pt b1 0)), (7, (pt b2 0)), (8, Qb 0), (9, (pt b7 0)), (11, Qb x23), (139, .bool x158)] ∧ St g w [k52 b7 x110 x111 x112 x113 p79 x114 c79 x115 x116 x117 p80 x118 c80 x119 x120 x121 x122 p81 x123 c81 x124 x125 x126 p82 x127 c82, k42 b2 y4.1 y4.2.1 x128 x129 b3 x130 x131 x132 p83 x133 c83 x134 b17 x140 x141 x142 p85 x143 c85, bx b3 [.slice p86 x144.length c86, (pt b4 0)] 113, k4 b4 b5 p4 y4.2.2.2.2.1 c4, bx b5 [Qb y4.2.2.2.1] 3, bx b1 [Qb x1.f0, Qb x1.f1] 57, k46 b17 x135 x136 x137 x138 p84 x139 c84, d26, d2, F] ih34 ∧ Le ih25 ih34
   refine Qn J15 ?_ ?_
   ·refine pu hs 2 fun a hs => ?_
    obtain ⟨y46, h170, hx13⟩ := bindE hx13
    refine Qv hs (Qc6 h170 h160.read (memF 7 rfl) h161.read (memF 8 rfl) ((hw.pk [0, 1, 2, 3, 4, 5, 6, 7, 8, 9, 10, 11]).pack 0)) fun a w v hv hs => ?_
    obtain ⟨rfl, hw⟩ := hv
    have hw := hw.unpack 0 rfl
    refine pu hs 2 fun a hs => ?_
    rcases ifbE hx13 with ⟨h171, hx13⟩ | ⟨h171, hx13⟩
    ·have hs := hs.aB 134 h171
     refine pu hs 5 fun a hs => Qc ?_
     obtain rfl := someE hx13
     exact (hJ15 _ _).2 ⟨true, ih25, hx2, hs.cst, hw.pk [0, 1, 2, 3, 4, 5, 6, 9, 10, 11], (Le.refl _)⟩
    have hs := hs.aB 134 h171
    refine pu hs 1 fun a hs => Qj hs (hw.at_ 0 rfl) 0 fun a hs => ?_
    obtain ⟨y47, h172, hx13⟩ := bindE hx13
    refine Qv hs (Qd1 (x1 := y4.1) (x2 := y4.2.1) (x4 := x129) (x6 := (pt b4 0)) (x12 := x135) h172 h169 rfl h166 h167 h168 h162 h163 h164 h165 ((hw.pk [1, 2, 9, 6, 0, 3, 4, 5, 10, 11]).pack 4)) fun a w v hv hs => ?_
    obtain ⟨ih35, rfl, hw, hle33⟩ := hv
    have hw := hw.unpack 4 rfl
    refine pu hs 2 fun a hs => ?_
    have hw := hw.cL [k42 b2 y4.1 y4.2.1 x128 x129 b3 x130 x131 x132 p83 x133 c83 x134 b17 x140 x141 x142 p85 x143 c85, bx b3 [.slice p86 x144.length c86, (pt b4 0)] 113, d26, k46 b17 x135 x136 x137 x138 p84 x139 c84, k52 b7 x110 x111 x112 x113 p79 x114 c79 x115 x116 x117 p80 x118 c80 x119 x120 x121 x122 p81 x123 c81 x124 x125 x126 p82 x127 c82, k4 b4 b5 p4 y4.2.2.2.2.1 c4, bx b5 [Qb y4.2.2.2.1] 3, bx b1 [Qb x1.f0, Qb x1.f1] 57, d2, F]
    refine Qc ?_
    obtain rfl := someE hx13
    exact (hJ15 _ _).2 ⟨(!y47), ih35, hx2, hs.cst, hw.pk [4, 0, 1, 5, 6, 7, 3, 2, 8, 9], hle33⟩
   intro a w hh
   obtain ⟨x158, ih34, hx2, hs, hw, hle34⟩ := (hJ15 _ _).1 hh
   rcases ifbE hx2 with ⟨h173, hx2⟩ | ⟨h173, hx2⟩
   ·refine Qr hs h173 ?_
    refine Qd (Qa (pn hs 1 [(6, .bool false)] fun a hs => ?_))
    refine Qc (Qi ?_)
    obtain rfl := someE hx2
    obtain rfl := someE hk
    exact qr1 hQ hs ⟨ih34, rfl, hw.pk [9], (((hle3.trans hle8).trans hle32).trans hle34)⟩
   refine Qs hs h173 ?_
   refine Qg (Qa (pu hs 3 fun a hs => ?_))
   refine Qc ?_
   exact (hI1 _ _ _).2 ⟨(IntKind.i64.wrap (x23 + 1)), x110, x111, x112, x113, x114, x115, x116, x117, x118, x119, x120, x121, x122, x123, x124, x125, x126, x127, x128, x129, x130, x131, x132, x133, x134, (some (x135, x136, x137, x138, x139)), x140, x141, x142, x143, x144, p79, c79, p80, c80, p81, c81, p82, c82, p83, c83, (pt b17 0), (k46 b17 x135 x136 x137 x138 p84 x139 c84), p85, c85, p86, c86, d26, ih34, hx2, hs.cst, hw.pk [0, 1, 2, 3, 4, 5, 7, 8, 6, 9], ((hle8.trans hle32).trans hle34), (h162.mono hle34), (h163.mono hle34), (h164.mono hle34), (h165.mono hle34), (h166.mono hle34), (.inr ⟨x135, x136, x137, x138, x139, b17, p84, c84, rfl, rfl, rfl, (h167.mono hle34)⟩), (h168.mono hle34), (h169.mono hle34)⟩
  refine Qs hs h111 (Qa3 ?_)
  obtain rfl := someE hx2
  exact (hJ2 _ _).2 ⟨x42, x43, x44, x45, x46, x47, x48, (some (x55, x56, x57, x58, x59)), x50, x51, x52, x53, x54, p23, c23, (pt b9 0), (k46 b9 x55 x56 x57 x58 p26 x59 c26), p24, c24, p25, c25, d8, ih9, hk, hs.cst, hw.pk [1, 2, 3, 4, 5, 7, 8, 6, 9], hle8, h31, (.inr ⟨x55, x56, x57, x58, x59, b9, p26, c26, rfl, rfl, rfl, h35⟩), h33, h34⟩
 intro a w hh
 obtain ⟨x5, x6, x7, x8, x9, x10, x11, x12, x13, x14, x15, x16, x17, p15, c15, u1, d5, p16, c16, p17, c17, d6, ih8, hk, hs, hw, hle35, h174, h175, h176, h177⟩ := (hJ2 _ _).1 hh
 rcases h175 with ⟨rfl, rfl, rfl⟩ | ⟨x18, x19, x20, x21, x22, b8, p18, c18, rfl, rfl, rfl, h178⟩
 ·refine Qd ?_
  obtain ⟨S, hD, kS⟩ := mkSXw hw [[], [], [], [], [], [], [], [], []] (K := []) rfl
  obtain ⟨y48, hx14, hk⟩ := bindE hk
  obtain ⟨J16, hJ16⟩ := mkJ fun a w => ∃ (x159 : Bool) (ih36 : IH), Qao x159 = some r ∧ Sees a 153 [(6, .bool x159)] ∧ St g w [F] ih36 ∧ Le ih8 ih36
  refine Qo (by kernel_rfl) (N := 14) rfl S J16 ?_ ?_
  ·have hw := hw.drew
   have hS : S (bA 14 0) _ := SXn hD (hw.vws [0, 1, 2, 3, 4, 5, 6, 7, 8])
   refine Qp (fuel := 9) kS hs hS [0, 1, 2, 3, 5] fun a hs hS => ?_
   refine Qy kS hs hS 6 rfl (SXb hD 4 rfl) 0 fun a hs hS => ?_
   refine Qp (fuel := 7) kS hs hS [7] fun a hs hS => ?_
   refine QF [4] (QH ?_)
   obtain ⟨y49, h179, hx14⟩ := bindE hx14
   refine QaR hs rfl (QD (x2 := y4.2.1) (x3 := x5) (x4 := x6) (x5 := x17) (x6 := (pt b4 0)) (x7 := x7) (x8 := x8) (x9 := x9) (x10 := x10) (x11 := x11) (x12 := (.pointer none)) (x13 := x13) (x14 := x14) (x15 := x15) (x16 := x16) h179 h177 rfl h174 rfl h176 ((hw.pk [0, 1, 5, 2, 3, 4, 6, 7, 8]).pack 3)) fun a w v hv hs => ?_
   obtain ⟨rfl, hw⟩ := hv
   have hw := hw.unpack 3 rfl
   refine nx hD ((hw.vws [0, 1, 3, 4, 5, 2, 6, 7, 8]).anti (Le.refl _)) fun hS => ?_
   refine Qp (fuel := 3) kS hs hS [8, 9, 10] fun a hs hS => ?_
   rcases ifbE hx14 with ⟨h180, hx14⟩ | ⟨h180, hx14⟩
   ·have hs := hs.aB 150 h180
    refine QF [11] (QH ?_)
    obtain ⟨y50, h181, hx14⟩ := bindE hx14
    refine QaR hs rfl (Qaa h181 (hG.mono (hle3.trans hle35)) ((hw.pk [0, 1, 2, 3, 4, 5, 6, 7, 8]).pack 0)) fun a w v hv hs => ?_
    obtain ⟨ih37, rfl, hw, hle36⟩ := hv
    have hw := hw.unpack 0 rfl
    refine nx hD ((hw.vws [0, 1, 3, 4, 5, 2, 6, 7, 8]).anti hle36) fun hS => ?_
    refine Qu kS hs hS fun a hs => ?_
    obtain rfl := someE hx14
    exact (hJ16 _ _).2 ⟨y50, ih37, hk, hs.cst, hw.pk [8], hle36⟩
   have hs := hs.aB 150 h180
   refine Qu kS hs hS fun a hs => ?_
   obtain rfl := someE hx14
   exact (hJ16 _ _).2 ⟨false, ih8, hk, hs.cst, hw.pk [8], (Le.refl _)⟩
  intro a w hh
  obtain ⟨x159, ih36, hk, hs, hw, hle37⟩ := (hJ16 _ _).1 hh
  refine Qi ?_
  obtain rfl := someE hk
  exact qr1 hQ hs ⟨ih36, rfl, hw.pk [0], ((hle3.trans hle35).trans hle37)⟩
 refine Qd ?_
 obtain ⟨S, hD, kS⟩ := mkSXw hw [[], [], [], [], [], [], [], [], []] (K := []) rfl
 obtain ⟨y51, hx15, hk⟩ := bindE hk
 obtain ⟨J17, hJ17⟩ := mkJ fun a w => ∃ (x160 : Bool) (ih38 : IH), Qan x160 = some r ∧ Sees a 153 [(6, .bool x160)] ∧ St g w [F] ih38 ∧ Le ih8 ih38
 refine Qo (by kernel_rfl) (N := 14) rfl S J17 ?_ ?_
 ·have hw := hw.drew
  have hS : S (bA 14 0) _ := SXn hD (hw.vws [0, 1, 2, 3, 4, 5, 6, 7, 8])
  refine Qp (fuel := 9) kS hs hS [0, 1, 2, 3, 5] fun a hs hS => ?_
  refine Qy kS hs hS 6 rfl (SXb hD 4 rfl) 0 fun a hs hS => ?_
  refine Qp (fuel := 7) kS hs hS [7] fun a hs hS => ?_
  refine QF [4] (QH ?_)
  obtain ⟨y52, h182, hx15⟩ := bindE hx15
  refine QaR hs rfl (QD (x2 := y4.2.1) (x3 := x5) (x4 := x6) (x5 := x17) (x6 := (pt b4 0)) (x7 := x7) (x8 := x8) (x9 := x9) (x10 := x10) (x11 := x11) (x12 := (pt b8 0)) (x13 := x13) (x14 := x14) (x15 := x15) (x16 := x16) h182 h177 rfl h174 rfl h176 ((hw.pk [0, 1, 5, 2, 3, 4, 6, 7, 8]).pack 3)) fun a w v hv hs => ?_
  obtain ⟨rfl, hw⟩ := hv
  have hw := hw.unpack 3 rfl
  refine nx hD ((hw.vws [0, 1, 3, 4, 5, 2, 6, 7, 8]).anti (Le.refl _)) fun hS => ?_
  refine Qp (fuel := 3) kS hs hS [8, 9, 10] fun a hs hS => ?_
  rcases ifbE hx15 with ⟨h183, hx15⟩ | ⟨h183, hx15⟩
  ·have hs := hs.aB 150 h183
   refine QF [11] (QH ?_)
   obtain ⟨y53, h184, hx15⟩ := bindE hx15
   refine QaR hs rfl (Qaa h184 (hG.mono (hle3.trans hle35)) ((hw.pk [0, 1, 2, 3, 4, 5, 6, 7, 8]).pack 0)) fun a w v hv hs => ?_
   obtain ⟨ih39, rfl, hw, hle38⟩ := hv
   have hw := hw.unpack 0 rfl
   refine nx hD ((hw.vws [0, 1, 3, 4, 5, 2, 6, 7, 8]).anti hle38) fun hS => ?_
   refine Qu kS hs hS fun a hs => ?_
   obtain rfl := someE hx15
   exact (hJ17 _ _).2 ⟨y53, ih39, hk, hs.cst, hw.pk [8], hle38⟩
  have hs := hs.aB 150 h183
  refine Qu kS hs hS fun a hs => ?_
  obtain rfl := someE hx15
  exact (hJ17 _ _).2 ⟨false, ih8, hk, hs.cst, hw.pk [8], (Le.refl _)⟩
 intro a w hh
 obtain ⟨x160, ih38, hk, hs, hw, hle39⟩ := (hJ17 _ _).1 hh
 refine Qi ?_
 obtain rfl := someE hk
 exact qr1 hQ hs ⟨ih38, rfl, hw.pk [0], ((hle3.trans hle35).trans hle39)⟩
end Go.Proofs.YteiinkhbgpldeaaGreatDoor.Sx
