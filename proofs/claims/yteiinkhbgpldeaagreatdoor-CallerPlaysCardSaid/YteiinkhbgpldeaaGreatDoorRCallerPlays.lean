/- The row of CallerPlays. Conditions: those ahead of each colon. -/
import Derived.Test.YteiinkhbgpldeaaGreatDoorRows
import Derived.Test.YteiinkhbgpldeaaGreatDoorPCallerPlays
import Derived.Test.YteiinkhbgpldeaaGreatDoorCards
import Derived.Test.YteiinkhbgpldeaaGreatDoorTie
import Derived.Deep.DeepHandedRow
import Derived.Lib.LaidTab
import Derived.Test.YteiinkhbgpldeaaGreatDoorSxG
import Derived.Test.YteiinkhbgpldeaaGreatDoorSxA
import Derived.WalkKit
import Derived.ProofKit
import Derived.OpenShut
import Derived.ShutString
import Derived.ChangeOld
import Derived.Below
import Derived.SizedLaws
import Derived.JoinedOf
import Derived.Carry
namespace Go.Proofs.YteiinkhbgpldeaaGreatDoor.callerPlays
open Go.ChangeShapes Go.WideShapes Go.ChangeAt Go.RowKit Go.Proofs.YteiinkhbgpldeaaGreatDoor.Sx
set_option linter.unusedVariables false
set_option maxRecDepth 100000
@[reducible] def Qnr : M57 → Prop := fun x => (wfInt .i64) x.f0 ∧ (wfInt .i64) x.f1
theorem Qnc : Opn Tryz.prog 57 e57 Qnr := by
  intro H enc w spare held fuel cs x h
  obtain ⟨xs, n, _, rfl, hl, hlen, hf⟩ := DataW.trod_array Tryz.underlying57 h
  obtain ⟨z0, g0⟩ := fldA hf hlen 0 0 1 rfl (by kernel_rfl) rfl
  obtain ⟨y0, en0, w0⟩ := (QI (t' := 3) Tryz.underlying3) enc w spare held n _ _ g0
  obtain ⟨z1, g1⟩ := fldA hf hlen 1 1 1 rfl (by kernel_rfl) rfl
  obtain ⟨y1, en1, w1⟩ := (QI (t' := 3) Tryz.underlying3) enc w spare held n _ _ g1
  have c2 : cs.drop 2 = [] := List.drop_eq_nil_of_le (by rw [hl]; exact Nat.le_of_eq (by kernel_rfl))
  have c1 := QP en1 c2 rfl
  have c0 := QP en0 c1 rfl
  exact ⟨⟨y0, y1⟩, c0, ⟨w0, w1⟩⟩
@[reducible] def Qnl : M44 → Prop := fun x => (wfInt .i64) x.f0 ∧ (wfInt .u64) x.f1 ∧ (wfSl (wfInt .i64)) x.f2 ∧ wfBool x.f3 ∧ (wfInt .i64) x.f4
theorem QmI : Opn Tryz.prog 44 e44 Qnl := by
  intro H enc w spare held fuel cs x h
  obtain ⟨xs, n, _, rfl, hl, hlen, hf⟩ := DataW.trod_struct Tryz.underlying44 h
  obtain ⟨z0, g0⟩ := fld hf hlen 0 rfl 3 0 1 rfl rfl (by kernel_rfl)
  obtain ⟨y0, en0, w0⟩ := (QI (t' := 3) Tryz.underlying3) enc w spare held n _ _ g0
  obtain ⟨z1, g1⟩ := fld hf hlen 1 rfl 23 1 1 rfl rfl (by kernel_rfl)
  obtain ⟨y1, en1, w1⟩ := (QI (t' := 23) Tryz.underlying23) enc w spare held n _ _ g1
  obtain ⟨z2, g2⟩ := fld hf hlen 2 rfl 42 2 1 rfl rfl (by kernel_rfl)
  obtain ⟨y2, en2, w2⟩ := (Qeg (t' := 42) (E := e3) Tryz.underlying42 (QI (t' := 3) Tryz.underlying3) (by kernel_rfl) (by decide)) enc w spare held n _ _ g2
  obtain ⟨p2, k2, en2, f2⟩ := en2
  obtain ⟨z3, g3⟩ := fld hf hlen 3 rfl 4 3 1 rfl rfl (by kernel_rfl)
  obtain ⟨y3, en3, w3⟩ := (Qkc (t' := 4) Tryz.underlying4) enc w spare held n _ _ g3
  obtain ⟨z4, g4⟩ := fld hf hlen 4 rfl 3 4 1 rfl rfl (by kernel_rfl)
  obtain ⟨y4, en4, w4⟩ := (QI (t' := 3) Tryz.underlying3) enc w spare held n _ _ g4
  have c5 : cs.drop 5 = [] := List.drop_eq_nil_of_le (by rw [hl]; exact Nat.le_of_eq (by kernel_rfl))
  have c4 := QP en4 c5 rfl
  have c3 := QP en3 c4 rfl
  have c2 := QP en2 c3 rfl
  have c1 := QP en1 c2 rfl
  have c0 := QP en0 c1 rfl
  exact ⟨⟨y0, y1, y2, y3, y4⟩, ⟨p2, k2, c0, f2⟩, ⟨w0, w1, w2, w3, w4⟩⟩
@[reducible] def Qnm : M26 → Prop := fun x => (wfInt .i64) x.f0 ∧ (wfInt .u32) x.f1 ∧ (wfInt .u64) x.f2 ∧ (wfSl (wfInt .u8)) x.f3 ∧ (wfInt .i64) x.f4
theorem Qne : Opn Tryz.prog 26 e26 Qnm := by
  intro H enc w spare held fuel cs x h
  obtain ⟨xs, n, _, rfl, hl, hlen, hf⟩ := DataW.trod_struct Tryz.underlying26 h
  obtain ⟨z0, g0⟩ := fld hf hlen 0 rfl 3 0 1 rfl rfl (by kernel_rfl)
  obtain ⟨y0, en0, w0⟩ := (QI (t' := 3) Tryz.underlying3) enc w spare held n _ _ g0
  obtain ⟨z1, g1⟩ := fld hf hlen 1 rfl 22 1 1 rfl rfl (by kernel_rfl)
  obtain ⟨y1, en1, w1⟩ := (QI (t' := 22) Tryz.underlying22) enc w spare held n _ _ g1
  obtain ⟨z2, g2⟩ := fld hf hlen 2 rfl 23 2 1 rfl rfl (by kernel_rfl)
  obtain ⟨y2, en2, w2⟩ := (QI (t' := 23) Tryz.underlying23) enc w spare held n _ _ g2
  obtain ⟨z3, g3⟩ := fld hf hlen 3 rfl 24 3 1 rfl rfl (by kernel_rfl)
  obtain ⟨y3, en3, w3⟩ := (Qeg (t' := 24) (E := e5) Tryz.underlying24 (QI (t' := 5) Tryz.underlying5) (by kernel_rfl) (by decide)) enc w spare held n _ _ g3
  obtain ⟨p3, k3, en3, f3⟩ := en3
  obtain ⟨z4, g4⟩ := fld hf hlen 4 rfl 3 4 1 rfl rfl (by kernel_rfl)
  obtain ⟨y4, en4, w4⟩ := (QI (t' := 3) Tryz.underlying3) enc w spare held n _ _ g4
  have c5 : cs.drop 5 = [] := List.drop_eq_nil_of_le (by rw [hl]; exact Nat.le_of_eq (by kernel_rfl))
  have c4 := QP en4 c5 rfl
  have c3 := QP en3 c4 rfl
  have c2 := QP en2 c3 rfl
  have c1 := QP en1 c2 rfl
  have c0 := QP en0 c1 rfl
  exact ⟨⟨y0, y1, y2, y3, y4⟩, ⟨p3, k3, c0, f3⟩, ⟨w0, w1, w2, w3, w4⟩⟩
@[reducible] def Qm7 : M41 → Prop := fun x => (wfInt .i64) x.f0 ∧ (wfInt .i64) x.f1 ∧ (wfInt .u64) x.f2 ∧ (wfInt .i64) x.f3
theorem QmJ : Opn Tryz.prog 41 e41 Qm7 := by
  intro H enc w spare held fuel cs x h
  obtain ⟨xs, n, _, rfl, hl, hlen, hf⟩ := DataW.trod_struct Tryz.underlying41 h
  obtain ⟨z0, g0⟩ := fld hf hlen 0 rfl 3 0 1 rfl rfl (by kernel_rfl)
  obtain ⟨y0, en0, w0⟩ := (QI (t' := 3) Tryz.underlying3) enc w spare held n _ _ g0
  obtain ⟨z1, g1⟩ := fld hf hlen 1 rfl 3 1 1 rfl rfl (by kernel_rfl)
  obtain ⟨y1, en1, w1⟩ := (QI (t' := 3) Tryz.underlying3) enc w spare held n _ _ g1
  obtain ⟨z2, g2⟩ := fld hf hlen 2 rfl 23 2 1 rfl rfl (by kernel_rfl)
  obtain ⟨y2, en2, w2⟩ := (QI (t' := 23) Tryz.underlying23) enc w spare held n _ _ g2
  obtain ⟨z3, g3⟩ := fld hf hlen 3 rfl 3 3 1 rfl rfl (by kernel_rfl)
  obtain ⟨y3, en3, w3⟩ := (QI (t' := 3) Tryz.underlying3) enc w spare held n _ _ g3
  have c4 : cs.drop 4 = [] := List.drop_eq_nil_of_le (by rw [hl]; exact Nat.le_of_eq (by kernel_rfl))
  have c3 := QP en3 c4 rfl
  have c2 := QP en2 c3 rfl
  have c1 := QP en1 c2 rfl
  have c0 := QP en0 c1 rfl
  exact ⟨⟨y0, y1, y2, y3⟩, c0, ⟨w0, w1, w2, w3⟩⟩
@[reducible] def QmB : M156 → Prop := fun x => (wfInt .i64) x.f0 ∧ (wfInt .u64) x.f1 ∧ Qm7 x.f2
theorem QmK : Opn Tryz.prog 156 Qcf QmB := by
  intro H enc w spare held fuel cs x h
  obtain ⟨xs, n, _, rfl, hl, hlen, hf⟩ := DataW.trod_struct Tryz.underlying156 h
  obtain ⟨z0, g0⟩ := fld hf hlen 0 rfl 3 0 1 rfl rfl (by kernel_rfl)
  obtain ⟨y0, en0, w0⟩ := (QI (t' := 3) Tryz.underlying3) enc w spare held n _ _ g0
  obtain ⟨z1, g1⟩ := fld hf hlen 1 rfl 23 1 1 rfl rfl (by kernel_rfl)
  obtain ⟨y1, en1, w1⟩ := (QI (t' := 23) Tryz.underlying23) enc w spare held n _ _ g1
  obtain ⟨z2, g2⟩ := fld hf hlen 2 rfl 41 2 4 rfl rfl (by kernel_rfl)
  obtain ⟨y2, en2, w2⟩ := QmJ enc w spare held n _ _ g2
  have c3 : cs.drop 6 = [] := List.drop_eq_nil_of_le (by rw [hl]; exact Nat.le_of_eq (by kernel_rfl))
  have c2 := QP en2 c3 rfl
  have c1 := QP en1 c2 rfl
  have c0 := QP en0 c1 rfl
  exact ⟨⟨y0, y1, y2⟩, c0, ⟨w0, w1, w2⟩⟩
@[reducible] def Qnj : M96 → Prop := fun x => (wfInt .u64) x.f0 ∧ (wfInt .i64) x.f1 ∧ (wfInt .u64) x.f2 ∧ (wfInt .i64) x.f3 ∧ (wfInt .u32) x.f4 ∧ (wfInt .u64) x.f5 ∧ (wfSl (wfInt .u8)) x.f6
theorem Qna : Opn Tryz.prog 96 e96 Qnj := by
  intro H enc w spare held fuel cs x h
  obtain ⟨xs, n, _, rfl, hl, hlen, hf⟩ := DataW.trod_struct Tryz.underlying96 h
  obtain ⟨z0, g0⟩ := fld hf hlen 0 rfl 23 0 1 rfl rfl (by kernel_rfl)
  obtain ⟨y0, en0, w0⟩ := (QI (t' := 23) Tryz.underlying23) enc w spare held n _ _ g0
  obtain ⟨z1, g1⟩ := fld hf hlen 1 rfl 3 1 1 rfl rfl (by kernel_rfl)
  obtain ⟨y1, en1, w1⟩ := (QI (t' := 3) Tryz.underlying3) enc w spare held n _ _ g1
  obtain ⟨z2, g2⟩ := fld hf hlen 2 rfl 23 2 1 rfl rfl (by kernel_rfl)
  obtain ⟨y2, en2, w2⟩ := (QI (t' := 23) Tryz.underlying23) enc w spare held n _ _ g2
  obtain ⟨z3, g3⟩ := fld hf hlen 3 rfl 3 3 1 rfl rfl (by kernel_rfl)
  obtain ⟨y3, en3, w3⟩ := (QI (t' := 3) Tryz.underlying3) enc w spare held n _ _ g3
  obtain ⟨z4, g4⟩ := fld hf hlen 4 rfl 22 4 1 rfl rfl (by kernel_rfl)
  obtain ⟨y4, en4, w4⟩ := (QI (t' := 22) Tryz.underlying22) enc w spare held n _ _ g4
  obtain ⟨z5, g5⟩ := fld hf hlen 5 rfl 23 5 1 rfl rfl (by kernel_rfl)
  obtain ⟨y5, en5, w5⟩ := (QI (t' := 23) Tryz.underlying23) enc w spare held n _ _ g5
  obtain ⟨z6, g6⟩ := fld hf hlen 6 rfl 24 6 1 rfl rfl (by kernel_rfl)
  obtain ⟨y6, en6, w6⟩ := (Qeg (t' := 24) (E := e5) Tryz.underlying24 (QI (t' := 5) Tryz.underlying5) (by kernel_rfl) (by decide)) enc w spare held n _ _ g6
  obtain ⟨p6, k6, en6, f6⟩ := en6
  have c7 : cs.drop 7 = [] := List.drop_eq_nil_of_le (by rw [hl]; exact Nat.le_of_eq (by kernel_rfl))
  have c6 := QP en6 c7 rfl
  have c5 := QP en5 c6 rfl
  have c4 := QP en4 c5 rfl
  have c3 := QP en3 c4 rfl
  have c2 := QP en2 c3 rfl
  have c1 := QP en1 c2 rfl
  have c0 := QP en0 c1 rfl
  exact ⟨⟨y0, y1, y2, y3, y4, y5, y6⟩, ⟨p6, k6, c0, f6⟩, ⟨w0, w1, w2, w3, w4, w5, w6⟩⟩
@[reducible] def Qnk : M48 → Prop := fun x => (wfInt .i64) x.f0 ∧ (wfInt .i64) x.f1 ∧ (wfInt .i64) x.f2 ∧ (wfInt .i64) x.f3 ∧ (wfInt .u64) x.f4 ∧ (wfInt .u64) x.f5 ∧ (wfInt .u64) x.f6 ∧ (wfInt .u64) x.f7 ∧ (wfInt .u64) x.f8 ∧ (wfInt .u64) x.f9 ∧ (wfInt .i64) x.f10 ∧ (wfInt .u32) x.f11 ∧ (wfInt .i64) x.f12 ∧ Qm7 x.f13 ∧ Qnl x.f14 ∧ (wfSl QmB) x.f15 ∧ (wfSl Qnj) x.f16 ∧ (wfSl (wfInt .u8)) x.f17
theorem Qnd : Opn Tryz.prog 48 e48 Qnk := by
  intro H enc w spare held fuel cs x h
  obtain ⟨xs, n, _, rfl, hl, hlen, hf⟩ := DataW.trod_struct Tryz.underlying48 h
  obtain ⟨z0, g0⟩ := fld hf hlen 0 rfl 3 0 1 rfl rfl (by kernel_rfl)
  obtain ⟨y0, en0, w0⟩ := (QI (t' := 3) Tryz.underlying3) enc w spare held n _ _ g0
  obtain ⟨z1, g1⟩ := fld hf hlen 1 rfl 3 1 1 rfl rfl (by kernel_rfl)
  obtain ⟨y1, en1, w1⟩ := (QI (t' := 3) Tryz.underlying3) enc w spare held n _ _ g1
  obtain ⟨z2, g2⟩ := fld hf hlen 2 rfl 3 2 1 rfl rfl (by kernel_rfl)
  obtain ⟨y2, en2, w2⟩ := (QI (t' := 3) Tryz.underlying3) enc w spare held n _ _ g2
  obtain ⟨z3, g3⟩ := fld hf hlen 3 rfl 3 3 1 rfl rfl (by kernel_rfl)
  obtain ⟨y3, en3, w3⟩ := (QI (t' := 3) Tryz.underlying3) enc w spare held n _ _ g3
  obtain ⟨z4, g4⟩ := fld hf hlen 4 rfl 23 4 1 rfl rfl (by kernel_rfl)
  obtain ⟨y4, en4, w4⟩ := (QI (t' := 23) Tryz.underlying23) enc w spare held n _ _ g4
  obtain ⟨z5, g5⟩ := fld hf hlen 5 rfl 23 5 1 rfl rfl (by kernel_rfl)
  obtain ⟨y5, en5, w5⟩ := (QI (t' := 23) Tryz.underlying23) enc w spare held n _ _ g5
  obtain ⟨z6, g6⟩ := fld hf hlen 6 rfl 23 6 1 rfl rfl (by kernel_rfl)
  obtain ⟨y6, en6, w6⟩ := (QI (t' := 23) Tryz.underlying23) enc w spare held n _ _ g6
  obtain ⟨z7, g7⟩ := fld hf hlen 7 rfl 23 7 1 rfl rfl (by kernel_rfl)
  obtain ⟨y7, en7, w7⟩ := (QI (t' := 23) Tryz.underlying23) enc w spare held n _ _ g7
  obtain ⟨z8, g8⟩ := fld hf hlen 8 rfl 23 8 1 rfl rfl (by kernel_rfl)
  obtain ⟨y8, en8, w8⟩ := (QI (t' := 23) Tryz.underlying23) enc w spare held n _ _ g8
  obtain ⟨z9, g9⟩ := fld hf hlen 9 rfl 23 9 1 rfl rfl (by kernel_rfl)
  obtain ⟨y9, en9, w9⟩ := (QI (t' := 23) Tryz.underlying23) enc w spare held n _ _ g9
  obtain ⟨z10, g10⟩ := fld hf hlen 10 rfl 3 10 1 rfl rfl (by kernel_rfl)
  obtain ⟨y10, en10, w10⟩ := (QI (t' := 3) Tryz.underlying3) enc w spare held n _ _ g10
  obtain ⟨z11, g11⟩ := fld hf hlen 11 rfl 22 11 1 rfl rfl (by kernel_rfl)
  obtain ⟨y11, en11, w11⟩ := (QI (t' := 22) Tryz.underlying22) enc w spare held n _ _ g11
  obtain ⟨z12, g12⟩ := fld hf hlen 12 rfl 29 12 1 rfl rfl (by kernel_rfl)
  obtain ⟨y12, en12, w12⟩ := (QI (t' := 29) Tryz.underlying29) enc w spare held n _ _ g12
  obtain ⟨z13, g13⟩ := fld hf hlen 13 rfl 41 13 4 rfl rfl (by kernel_rfl)
  obtain ⟨y13, en13, w13⟩ := QmJ enc w spare held n _ _ g13
  obtain ⟨z14, g14⟩ := fld hf hlen 14 rfl 44 17 5 rfl rfl (by kernel_rfl)
  obtain ⟨y14, en14, w14⟩ := QmI enc w spare held n _ _ g14
  obtain ⟨p14_0, p14_1, en14, f14_0⟩ := en14
  obtain ⟨z15, g15⟩ := fld hf hlen 15 rfl 45 22 1 rfl rfl (by kernel_rfl)
  obtain ⟨y15, en15, w15⟩ := (Qeg (t' := 45) (E := Qcf) Tryz.underlying45 QmK (by kernel_rfl) (by decide)) enc w spare held n _ _ g15
  obtain ⟨p15, k15, en15, f15⟩ := en15
  obtain ⟨z16, g16⟩ := fld hf hlen 16 rfl 46 23 1 rfl rfl (by kernel_rfl)
  obtain ⟨y16, en16, w16⟩ := (Qeg (t' := 46) (E := e96) Tryz.underlying46 Qna (by kernel_rfl) (by decide)) enc w spare held n _ _ g16
  obtain ⟨p16, k16, en16, f16⟩ := en16
  obtain ⟨z17, g17⟩ := fld hf hlen 17 rfl 24 24 1 rfl rfl (by kernel_rfl)
  obtain ⟨y17, en17, w17⟩ := (Qeg (t' := 24) (E := e5) Tryz.underlying24 (QI (t' := 5) Tryz.underlying5) (by kernel_rfl) (by decide)) enc w spare held n _ _ g17
  obtain ⟨p17, k17, en17, f17⟩ := en17
  have c18 : cs.drop 25 = [] := List.drop_eq_nil_of_le (by rw [hl]; exact Nat.le_of_eq (by kernel_rfl))
  have c17 := QP en17 c18 rfl
  have c16 := QP en16 c17 rfl
  have c15 := QP en15 c16 rfl
  have c14 := QP en14 c15 rfl
  have c13 := QP en13 c14 rfl
  have c12 := QP en12 c13 rfl
  have c11 := QP en11 c12 rfl
  have c10 := QP en10 c11 rfl
  have c9 := QP en9 c10 rfl
  have c8 := QP en8 c9 rfl
  have c7 := QP en7 c8 rfl
  have c6 := QP en6 c7 rfl
  have c5 := QP en5 c6 rfl
  have c4 := QP en4 c5 rfl
  have c3 := QP en3 c4 rfl
  have c2 := QP en2 c3 rfl
  have c1 := QP en1 c2 rfl
  have c0 := QP en0 c1 rfl
  exact ⟨⟨y0, y1, y2, y3, y4, y5, y6, y7, y8, y9, y10, y11, y12, y13, y14, y15, y16, y17⟩, ⟨p14_0, p14_1, p15, k15, p16, k16, p17, k17, c0, f14_0, f15, f16, f17⟩, ⟨w0, w1, w2, w3, w4, w5, w6, w7, w8, w9, w10, w11, w12, w13, w14, w15, w16, w17⟩⟩
@[reducible] def Qnq : M64 → Prop := fun x => (wfInt .i64) x.f0 ∧ Qnm x.f1 ∧ wfBool x.f2 ∧ Qnk x.f3
theorem Qnb : Opn Tryz.prog 64 e64 Qnq := by
  intro H enc w spare held fuel cs x h
  obtain ⟨xs, n, _, rfl, hl, hlen, hf⟩ := DataW.trod_struct Tryz.underlying64 h
  obtain ⟨z0, g0⟩ := fld hf hlen 0 rfl 3 0 1 rfl rfl (by kernel_rfl)
  obtain ⟨y0, en0, w0⟩ := (QI (t' := 3) Tryz.underlying3) enc w spare held n _ _ g0
  obtain ⟨z1, g1⟩ := fld hf hlen 1 rfl 26 1 5 rfl rfl (by kernel_rfl)
  obtain ⟨y1, en1, w1⟩ := Qne enc w spare held n _ _ g1
  obtain ⟨p1_0, p1_1, en1, f1_0⟩ := en1
  obtain ⟨z2, g2⟩ := fld hf hlen 2 rfl 4 6 1 rfl rfl (by kernel_rfl)
  obtain ⟨y2, en2, w2⟩ := (Qkc (t' := 4) Tryz.underlying4) enc w spare held n _ _ g2
  obtain ⟨z3, g3⟩ := fld hf hlen 3 rfl 48 7 25 rfl rfl (by kernel_rfl)
  obtain ⟨y3, en3, w3⟩ := Qnd enc w spare held n _ _ g3
  obtain ⟨p3_0, p3_1, p3_2, p3_3, p3_4, p3_5, p3_6, p3_7, en3, f3_0, f3_1, f3_2, f3_3⟩ := en3
  have c4 : cs.drop 32 = [] := List.drop_eq_nil_of_le (by rw [hl]; exact Nat.le_of_eq (by kernel_rfl))
  have c3 := QP en3 c4 rfl
  have c2 := QP en2 c3 rfl
  have c1 := QP en1 c2 rfl
  have c0 := QP en0 c1 rfl
  exact ⟨⟨y0, y1, y2, y3⟩, ⟨p1_0, p1_1, p3_0, p3_1, p3_2, p3_3, p3_4, p3_5, p3_6, p3_7, c0, f1_0, f3_0, f3_1, f3_2, f3_3⟩, ⟨w0, w1, w2, w3⟩⟩
theorem own : ownKnob Tryz.prog.godebug = none := by kernel_rfl
theorem laidOut : laidOutB Tryz.prog = true := by kernel_rfl
def gRows : List (List UInt8 × List Int) := [([], [0, 0, 0, 0, 0, 0]), ([112, 114, 101, 112, 97, 114, 101], [4, 32, 0, 0, 0, 0]), ([112, 114, 111, 109, 105, 115, 101], [4, 32, 4096, 0, 0, 0]), ([97, 99, 99, 101, 112, 116], [4, 32, 1024, 0, 0, 0]), ([97, 99, 99, 101, 112, 116, 101, 100], [4, 32, 0, 0, 0, 0]), ([99, 104, 111, 115, 101, 110], [32, 1024, 0, 0, 0, 0]), ([98, 101, 97, 116], [4, 32, 0, 0, 0, 0]), ([119, 97, 110, 116], [32, 0, 0, 0, 0, 0]), ([114, 101, 102, 117, 115, 101], [4, 0, 0, 0, 0, 0]), ([114, 101, 112, 111, 114, 116], [1024, 0, 0, 0, 0, 0]), ([108, 111, 99, 97, 116, 101], [1, 0, 0, 0, 0, 0]), ([99, 111, 110, 102, 105, 103], [2048, 0, 0, 0, 0, 0]), ([112, 117, 115, 104], [1, 2, 8, 16, 8192, 0]), ([97, 99, 107], [1, 2, 8, 16, 64, 32]), ([112, 97, 114, 116], [1, 2, 8, 32, 64, 16384]), ([113, 117, 101, 114, 121], [1, 2, 64, 256, 0, 0]), ([116, 111, 108, 100], [1, 2, 64, 256, 512, 0]), ([119, 114, 105, 116, 101], [1, 2, 8192, 0, 0, 0]), ([119, 114, 111, 116, 101], [64, 128, 512, 0, 0, 0]), ([114, 101, 97, 100], [1, 2, 64, 256, 0, 0]), ([103, 111, 116], [64, 256, 512, 16384, 0, 0])]
theorem gStands {W : World} (h : laidMetH Tryz.prog Rows.callerPlaysRow.laid W) : Glob 0 gl0 162 (hp W) :=
  Qmi (name := "catenary/letter.kinds") (D := Rows.laid_catenary_letter_kinds) (rest := []) (rs := gRows) (g := 0) (t := 162) (e := 161) (s := 9) (a := 159) (i := 3) (m := 6) (n := 21) (by kernel_rfl) (by kernel_rfl) Tryz.underlying162 (by kernel_rfl) Tryz.underlying161 rfl rfl rfl rfl Tryz.underlying9 (by kernel_rfl) Tryz.underlying159 Tryz.underlying3 (by kernel_rfl) (by kernel_rfl) (by kernel_rfl) (by kernel_rfl) (by kernel_rfl) h
noncomputable def QiF (os : Os) : World :=
  { World.holding Tryz.prog os ⟨#[], #[], []⟩ with heap := (World.holding Tryz.prog os ⟨#[], #[], []⟩).heap.modify 0 fun
      | .cells _ t frozen => .cells gl0.toArray t frozen
      | o => o }
theorem QlO (os : Os) : laidMet Tryz.prog Rows.callerPlaysRow.laid ((QiF os).forCall (fun _ _ => 0) ⟨#[], #[.agg #[.int .i64 0, .int .i64 0], .slice none 0 0, .slice none 0 0], []⟩).memory :=
  laidMet_of_run' 8 (by kernel_rfl) (by kernel_rfl)
theorem reads (os : Os) {H : Type} (enc : TypeId × Value → H) : ∃ places, DataW.whole enc Tryz.prog ((QiF os).forCall (fun _ _ => 0) ⟨#[], #[.agg #[.int .i64 0, .int .i64 0], .slice none 0 0, .slice none 0 0], []⟩).memory Tryz.f4.params.toList Rows.callerPlaysSpec.vars false #[.agg #[.int .i64 0, .int .i64 0], .slice none 0 0, .slice none 0 0].toList 8 = some ([.agg [.lit (.int .i64 0), .lit (.int .i64 0)], .nil, .nil], [], places) :=
  ⟨[], by kernel_rfl⟩
set_option maxRecDepth 100000 in
theorem lifted (os : Os) (started : os.Started) (H : Type) (enc : TypeId × Value → H) (F : Stop.Interp) :
    ReturnsInHanded {} Tryz.checked os 4 .any ((OpenSpec.ofChange Rows.callerPlaysSpec).preRow enc Tryz.prog Tryz.f4 Rows.callerPlaysRow.domain false Rows.callerPlaysRow.laid) (((OpenSpec.ofChange Rows.callerPlaysSpec).at F).post enc Tryz.prog Tryz.f4 false true false false) := by
  obtain ⟨places, hx⟩ := reads os enc
  refine returnsInHanded_of_row (C := Tryz.checked) (s := OpenSpec.ofChange Rows.callerPlaysSpec) own started (by kernel_rfl) Tryz.func4
    (witness_row_at (enc := enc) (C := Tryz.checked) false (QiF os) #[.agg #[.int .i64 0, .int .i64 0], .slice none 0 0, .slice none 0 0] rfl (by kernel_rfl) (by kernel_rfl) (by kernel_rfl)
      (OpenSpec.preRow_of_cond 8 hx (by kernel_rfl) (fun k hk => by cases hk) (by kernel_rfl) (QlO os))) ?_
  intro W base args ds gs before hval0 hW _ _ hsz0 hL _ _
  have hG := gStands hL
  have hval : ∀ (j : Nat) t v, Tryz.f4.params[j]? = some t → args[j]? = some v → Value.okWide Tryz.prog W .any base t v := hval0
  have hW' := hW
  obtain ⟨p, q, hA0, hV, rfl, hfz, hnd⟩ := hW
  have hA : DataW.TrodAll enc Tryz.prog W 0 (fun _ => true) true Tryz.f4.params.toList args.toList ds p := hA0
  rw [Tryz.params4] at hA hval
  obtain ⟨v0, vs0, d0, ds0, p0, q0, hargs, rfl, rfl, h0, r0⟩ := trodAll_cons hA
  obtain ⟨v1, vs1, d1, ds1, p1, q1, rfl, rfl, rfl, h1, r1⟩ := trodAll_cons r0
  obtain ⟨v2, vs2, d2, ds2, p2, q2, rfl, rfl, rfl, h2, r2⟩ := trodAll_cons r1
  obtain ⟨rfl, rfl, rfl⟩ := trodAll_nil r2
  obtain rfl : args = #[v0, v1, v2] := by cases args; simp_all
  obtain ⟨rfl, rfl⟩ := trodVars_none hV
  have k0 := h0
  have lt0 : ∀ x ∈ p0, x.block < W.heap.size := by obtain ⟨m, hm⟩ := k0; exact DataW.trod_lt m _ _ _ hm
  obtain ⟨y0, en0, w0⟩ := QjW Qnc h0
  obtain ⟨cs0, rfl, _⟩ := Qk2 Tryz.underlying57 (hval 0 57 v0 rfl rfl)
  have hc0 := en0
  obtain ⟨cs0⟩ := cs0
  simp only [Value.cells] at hc0
  subst hc0
  have k1 := h1
  have lt1 : ∀ x ∈ p1, x.block < W.heap.size := by obtain ⟨m, hm⟩ := k1; exact DataW.trod_lt m _ _ _ hm
  obtain ⟨y1, en1, w1⟩ := QjW (Qeg (t' := 28) (E := e44) Tryz.underlying28 QmI (by kernel_rfl) (by decide)) h1
  obtain ⟨a1, l1, c1, rfl⟩ := okWide_slice Tryz.underlying28 (hval 1 28 v1 rfl rfl)
  obtain ⟨pp1, kk1, hc1, f1⟩ := en1
  simp only [Value.cells, List.cons.injEq, Value.slice.injEq, and_true] at hc1
  obtain ⟨rfl, rfl, rfl⟩ := hc1
  have k2 := h2
  have lt2 : ∀ x ∈ p2, x.block < W.heap.size := by obtain ⟨m, hm⟩ := k2; exact DataW.trod_lt m _ _ _ hm
  obtain ⟨y2, en2, w2⟩ := QjW (Qeg (t' := 58) (E := e64) Tryz.underlying58 Qnb (by kernel_rfl) (by decide)) h2
  obtain ⟨a2, l2, c2, rfl⟩ := okWide_slice Tryz.underlying58 (hval 2 58 v2 rfl rfl)
  obtain ⟨pp2, kk2, hc2, f2⟩ := en2
  simp only [Value.cells, List.cons.injEq, Value.slice.injEq, and_true] at hc2
  obtain ⟨rfl, rfl, rfl⟩ := hc2
  clear hA0 hval0 hsz0
  obtain ⟨k, hk⟩ := Qif y0 y1 y2 w0 w1 w2
  refine (QjP (Qex hk f1 f2 hG (QlI W))).mono fun e W' hh => ?_
  obtain ⟨rfl, bel⟩ : e = .returned (.bool true) ∧ Below W.heap.size W W' := by
    obtain ⟨v, rfl, ih', rfl, hw, hle⟩ := hh
    exact ⟨rfl, QlW hw hle⟩
  exact ⟨_, rfl, _, _, _, [], _, [], hW', trodAll_mk1 (shut_bool Tryz.underlying4 _), (trodAll_cons_mk (Below.trod laidOut (by kernel_rfl) (of_decide_eq_true (by kernel_rfl)) k0 bel lt0) (trodAll_cons_mk (Below.trod laidOut (by kernel_rfl) (of_decide_eq_true (by kernel_rfl)) k1 bel lt1) (trodAll_cons_mk (Below.trod laidOut (by kernel_rfl) (of_decide_eq_true (by kernel_rfl)) k2 bel lt2) trodAll_mk0))), rfl, bel.frame _, fun h => by cases h⟩
theorem said : Rows.CallerPlaysSaid :=
  OpenClaim.holds_of_cond 4 Tryz.f4 rfl rfl rfl rfl rfl rfl rfl ⟨rfl, rfl, rfl, rfl, rfl⟩ rfl rfl rfl rfl rfl (by kernel_rfl) Tryz.func4 (by kernel_rfl)
    (of_decide_eq_true (by kernel_rfl)) (by unfold Func.isWrapper; first | (rw [if_pos (by decide +kernel)]; kernel_rfl) | (rw [if_neg (by decide +kernel)]; exact ⟨rfl, rfl⟩))
    (fun os started H enc _ F => by rw [OpenClaim.pre_eq_preRow]; exact lifted os started H enc F)
theorem plain (f : FuncId) (fn : Func) (hf : Tryz.pinned.checked.prog.funcNamed "catenary/catenarylaw26.CallerPlays" = some f) (hfn : Tryz.pinned.checked.prog.funcs[f]? = some fn) :
    false = Tryz.pinned.checked.prog.looks [] ∧ ∀ (j : Nat) t, fn.params[j]? = some t → Tryz.pinned.checked.prog.wantsStandIn t = false := by
  obtain rfl : f = 4 := Option.some.inj ((show Tryz.prog.funcNamed "catenary/catenarylaw26.CallerPlays" = some 4 by kernel_rfl).symm.trans hf) |>.symm
  obtain rfl : fn = Tryz.f4 := (Option.some.inj (Tryz.func4.symm.trans hfn)).symm
  refine ⟨by kernel_rfl, fun j t ht => ?_⟩
  rw [Tryz.params4] at ht
  have hm : t ∈ ([57, 28, 58] : List TypeId) := by simpa using Array.mem_of_getElem? ht
  have hall : ([57, 28, 58] : List TypeId).all (fun t => !Tryz.prog.wantsStandIn t) = true := by kernel_rfl
  have := List.all_eq_true.1 hall t hm
  exact (show Tryz.prog.wantsStandIn t = false by simpa using this)
theorem proved : Rows.CallerPlaysCardSaid :=
  Claim7.holds_tied_plain_at .later [] _ _ _ _ said (fun _ h => by cases h) (by kernel_rfl) (fun _ h => by cases h) callerPlays_row_tie rfl ⟨rfl, rfl⟩ (by kernel_rfl) rfl plain (by kernel_rfl)
end Go.Proofs.YteiinkhbgpldeaaGreatDoor.callerPlays
