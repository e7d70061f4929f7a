/- The row of CallerNil: the walk and the plain law, tied to the given statement.
   Conditions: those that each theorem states ahead of its colon, and no other. -/
import Derived.Test.YteiinkhbgpldeaaGreatDoorRows
import Derived.Test.YteiinkhbgpldeaaGreatDoorPCallerNil
import Derived.Test.YteiinkhbgpldeaaGreatDoorCards
import Derived.Test.YteiinkhbgpldeaaGreatDoorTie
import Derived.Deep.DeepHandedRow
import Derived.Lib.LaidTab
import Derived.Test.YteiinkhbgpldeaaGreatDoorSxG
import Derived.WalkKit
import Derived.ProofKit
import Derived.OpenShut
import Derived.ShutString
import Derived.ChangeOld
import Derived.Below
import Derived.SizedLaws
import Derived.JoinedOf
import Derived.Carry
namespace Go.Proofs.YteiinkhbgpldeaaGreatDoor.callerNil
open Go.ChangeShapes Go.WideShapes Go.ChangeAt Go.RowKit Go.Proofs.YteiinkhbgpldeaaGreatDoor.Sx
set_option linter.unusedVariables false
set_option maxRecDepth 100000
@[reducible] def wf26 : M26 → Prop := fun x => (wfInt .i64) x.f0 ∧ (wfInt .u32) x.f1 ∧ (wfInt .u64) x.f2 ∧ (wfSl (wfInt .u8)) x.f3 ∧ (wfInt .i64) x.f4
theorem opn26 : Opn Tryz.prog 26 e26 wf26 := by
  intro H enc w spare held fuel cs x h
  obtain ⟨xs, n, _, rfl, hl, hlen, hf⟩ := DataW.trod_struct Tryz.underlying26 h
  obtain ⟨z0, g0⟩ := fld hf hlen 0 rfl 3 0 1 rfl rfl (by kernel_rfl)
  obtain ⟨y0, en0, w0⟩ := (opn_int (t' := 3) Tryz.underlying3) enc w spare held n _ _ g0
  obtain ⟨z1, g1⟩ := fld hf hlen 1 rfl 22 1 1 rfl rfl (by kernel_rfl)
  obtain ⟨y1, en1, w1⟩ := (opn_int (t' := 22) Tryz.underlying22) enc w spare held n _ _ g1
  obtain ⟨z2, g2⟩ := fld hf hlen 2 rfl 23 2 1 rfl rfl (by kernel_rfl)
  obtain ⟨y2, en2, w2⟩ := (opn_int (t' := 23) Tryz.underlying23) enc w spare held n _ _ g2
  obtain ⟨z3, g3⟩ := fld hf hlen 3 rfl 24 3 1 rfl rfl (by kernel_rfl)
  obtain ⟨y3, en3, w3⟩ := (opn_slice (t' := 24) (E := e5) Tryz.underlying24 (opn_int (t' := 5) Tryz.underlying5) (by kernel_rfl) (by decide)) enc w spare held n _ _ g3
  obtain ⟨p3, k3, en3, f3⟩ := en3
  obtain ⟨z4, g4⟩ := fld hf hlen 4 rfl 3 4 1 rfl rfl (by kernel_rfl)
  obtain ⟨y4, en4, w4⟩ := (opn_int (t' := 3) Tryz.underlying3) enc w spare held n _ _ g4
  have c5 : cs.drop 5 = [] := List.drop_eq_nil_of_le (by rw [hl]; exact Nat.le_of_eq (by kernel_rfl))
  have c4 := piece2 en4 c5 rfl
  have c3 := piece2 en3 c4 rfl
  have c2 := piece2 en2 c3 rfl
  have c1 := piece2 en1 c2 rfl
  have c0 := piece2 en0 c1 rfl
  exact ⟨⟨y0, y1, y2, y3, y4⟩, ⟨p3, k3, c0, f3⟩, ⟨w0, w1, w2, w3, w4⟩⟩
@[reducible] def wf41 : M41 → Prop := fun x => (wfInt .i64) x.f0 ∧ (wfInt .i64) x.f1 ∧ (wfInt .u64) x.f2 ∧ (wfInt .i64) x.f3
theorem opn41 : Opn Tryz.prog 41 e41 wf41 := by
  intro H enc w spare held fuel cs x h
  obtain ⟨xs, n, _, rfl, hl, hlen, hf⟩ := DataW.trod_struct Tryz.underlying41 h
  obtain ⟨z0, g0⟩ := fld hf hlen 0 rfl 3 0 1 rfl rfl (by kernel_rfl)
  obtain ⟨y0, en0, w0⟩ := (opn_int (t' := 3) Tryz.underlying3) enc w spare held n _ _ g0
  obtain ⟨z1, g1⟩ := fld hf hlen 1 rfl 3 1 1 rfl rfl (by kernel_rfl)
  obtain ⟨y1, en1, w1⟩ := (opn_int (t' := 3) Tryz.underlying3) enc w spare held n _ _ g1
  obtain ⟨z2, g2⟩ := fld hf hlen 2 rfl 23 2 1 rfl rfl (by kernel_rfl)
  obtain ⟨y2, en2, w2⟩ := (opn_int (t' := 23) Tryz.underlying23) enc w spare held n _ _ g2
  obtain ⟨z3, g3⟩ := fld hf hlen 3 rfl 3 3 1 rfl rfl (by kernel_rfl)
  obtain ⟨y3, en3, w3⟩ := (opn_int (t' := 3) Tryz.underlying3) enc w spare held n _ _ g3
  have c4 : cs.drop 4 = [] := List.drop_eq_nil_of_le (by rw [hl]; exact Nat.le_of_eq (by kernel_rfl))
  have c3 := piece2 en3 c4 rfl
  have c2 := piece2 en2 c3 rfl
  have c1 := piece2 en1 c2 rfl
  have c0 := piece2 en0 c1 rfl
  exact ⟨⟨y0, y1, y2, y3⟩, c0, ⟨w0, w1, w2, w3⟩⟩
@[reducible] def wf44 : M44 → Prop := fun x => (wfInt .i64) x.f0 ∧ (wfInt .u64) x.f1 ∧ (wfSl (wfInt .i64)) x.f2 ∧ wfBool x.f3 ∧ (wfInt .i64) x.f4
theorem opn44 : Opn Tryz.prog 44 e44 wf44 := by
  intro H enc w spare held fuel cs x h
  obtain ⟨xs, n, _, rfl, hl, hlen, hf⟩ := DataW.trod_struct Tryz.underlying44 h
  obtain ⟨z0, g0⟩ := fld hf hlen 0 rfl 3 0 1 rfl rfl (by kernel_rfl)
  obtain ⟨y0, en0, w0⟩ := (opn_int (t' := 3) Tryz.underlying3) enc w spare held n _ _ g0
  obtain ⟨z1, g1⟩ := fld hf hlen 1 rfl 23 1 1 rfl rfl (by kernel_rfl)
  obtain ⟨y1, en1, w1⟩ := (opn_int (t' := 23) Tryz.underlying23) enc w spare held n _ _ g1
  obtain ⟨z2, g2⟩ := fld hf hlen 2 rfl 42 2 1 rfl rfl (by kernel_rfl)
  obtain ⟨y2, en2, w2⟩ := (opn_slice (t' := 42) (E := e3) Tryz.underlying42 (opn_int (t' := 3) Tryz.underlying3) (by kernel_rfl) (by decide)) enc w spare held n _ _ g2
  obtain ⟨p2, k2, en2, f2⟩ := en2
  obtain ⟨z3, g3⟩ := fld hf hlen 3 rfl 4 3 1 rfl rfl (by kernel_rfl)
  obtain ⟨y3, en3, w3⟩ := (opn_bool (t' := 4) Tryz.underlying4) enc w spare held n _ _ g3
  obtain ⟨z4, g4⟩ := fld hf hlen 4 rfl 3 4 1 rfl rfl (by kernel_rfl)
  obtain ⟨y4, en4, w4⟩ := (opn_int (t' := 3) Tryz.underlying3) enc w spare held n _ _ g4
  have c5 : cs.drop 5 = [] := List.drop_eq_nil_of_le (by rw [hl]; exact Nat.le_of_eq (by kernel_rfl))
  have c4 := piece2 en4 c5 rfl
  have c3 := piece2 en3 c4 rfl
  have c2 := piece2 en2 c3 rfl
  have c1 := piece2 en1 c2 rfl
  have c0 := piece2 en0 c1 rfl
  exact ⟨⟨y0, y1, y2, y3, y4⟩, ⟨p2, k2, c0, f2⟩, ⟨w0, w1, w2, w3, w4⟩⟩
@[reducible] def wf156 : M156 → Prop := fun x => (wfInt .i64) x.f0 ∧ (wfInt .u64) x.f1 ∧ wf41 x.f2
theorem opn156 : Opn Tryz.prog 156 e156 wf156 := by
  intro H enc w spare held fuel cs x h
  obtain ⟨xs, n, _, rfl, hl, hlen, hf⟩ := DataW.trod_struct Tryz.underlying156 h
  obtain ⟨z0, g0⟩ := fld hf hlen 0 rfl 3 0 1 rfl rfl (by kernel_rfl)
  obtain ⟨y0, en0, w0⟩ := (opn_int (t' := 3) Tryz.underlying3) enc w spare held n _ _ g0
  obtain ⟨z1, g1⟩ := fld hf hlen 1 rfl 23 1 1 rfl rfl (by kernel_rfl)
  obtain ⟨y1, en1, w1⟩ := (opn_int (t' := 23) Tryz.underlying23) enc w spare held n _ _ g1
  obtain ⟨z2, g2⟩ := fld hf hlen 2 rfl 41 2 4 rfl rfl (by kernel_rfl)
  obtain ⟨y2, en2, w2⟩ := opn41 enc w spare held n _ _ g2
  have c3 : cs.drop 6 = [] := List.drop_eq_nil_of_le (by rw [hl]; exact Nat.le_of_eq (by kernel_rfl))
  have c2 := piece2 en2 c3 rfl
  have c1 := piece2 en1 c2 rfl
  have c0 := piece2 en0 c1 rfl
  exact ⟨⟨y0, y1, y2⟩, c0, ⟨w0, w1, w2⟩⟩
@[reducible] def wf96 : M96 → Prop := fun x => (wfInt .u64) x.f0 ∧ (wfInt .i64) x.f1 ∧ (wfInt .u64) x.f2 ∧ (wfInt .i64) x.f3 ∧ (wfInt .u32) x.f4 ∧ (wfInt .u64) x.f5 ∧ (wfSl (wfInt .u8)) x.f6
theorem opn96 : Opn Tryz.prog 96 e96 wf96 := by
  intro H enc w spare held fuel cs x h
  obtain ⟨xs, n, _, rfl, hl, hlen, hf⟩ := DataW.trod_struct Tryz.underlying96 h
  obtain ⟨z0, g0⟩ := fld hf hlen 0 rfl 23 0 1 rfl rfl (by kernel_rfl)
  obtain ⟨y0, en0, w0⟩ := (opn_int (t' := 23) Tryz.underlying23) enc w spare held n _ _ g0
  obtain ⟨z1, g1⟩ := fld hf hlen 1 rfl 3 1 1 rfl rfl (by kernel_rfl)
  obtain ⟨y1, en1, w1⟩ := (opn_int (t' := 3) Tryz.underlying3) enc w spare held n _ _ g1
  obtain ⟨z2, g2⟩ := fld hf hlen 2 rfl 23 2 1 rfl rfl (by kernel_rfl)
  obtain ⟨y2, en2, w2⟩ := (opn_int (t' := 23) Tryz.underlying23) enc w spare held n _ _ g2
  obtain ⟨z3, g3⟩ := fld hf hlen 3 rfl 3 3 1 rfl rfl (by kernel_rfl)
  obtain ⟨y3, en3, w3⟩ := (opn_int (t' := 3) Tryz.underlying3) enc w spare held n _ _ g3
  obtain ⟨z4, g4⟩ := fld hf hlen 4 rfl 22 4 1 rfl rfl (by kernel_rfl)
  obtain ⟨y4, en4, w4⟩ := (opn_int (t' := 22) Tryz.underlying22) enc w spare held n _ _ g4
  obtain ⟨z5, g5⟩ := fld hf hlen 5 rfl 23 5 1 rfl rfl (by kernel_rfl)
  obtain ⟨y5, en5, w5⟩ := (opn_int (t' := 23) Tryz.underlying23) enc w spare held n _ _ g5
  obtain ⟨z6, g6⟩ := fld hf hlen 6 rfl 24 6 1 rfl rfl (by kernel_rfl)
  obtain ⟨y6, en6, w6⟩ := (opn_slice (t' := 24) (E := e5) Tryz.underlying24 (opn_int (t' := 5) Tryz.underlying5) (by kernel_rfl) (by decide)) enc w spare held n _ _ g6
  obtain ⟨p6, k6, en6, f6⟩ := en6
  have c7 : cs.drop 7 = [] := List.drop_eq_nil_of_le (by rw [hl]; exact Nat.le_of_eq (by kernel_rfl))
  have c6 := piece2 en6 c7 rfl
  have c5 := piece2 en5 c6 rfl
  have c4 := piece2 en4 c5 rfl
  have c3 := piece2 en3 c4 rfl
  have c2 := piece2 en2 c3 rfl
  have c1 := piece2 en1 c2 rfl
  have c0 := piece2 en0 c1 rfl
  exact ⟨⟨y0, y1, y2, y3, y4, y5, y6⟩, ⟨p6, k6, c0, f6⟩, ⟨w0, w1, w2, w3, w4, w5, w6⟩⟩
@[reducible] def wf48 : M48 → Prop := fun x => (wfInt .i64) x.f0 ∧ (wfInt .i64) x.f1 ∧ (wfInt .i64) x.f2 ∧ (wfInt .i64) x.f3 ∧ (wfInt .u64) x.f4 ∧ (wfInt .u64) x.f5 ∧ (wfInt .u64) x.f6 ∧ (wfInt .u64) x.f7 ∧ (wfInt .u64) x.f8 ∧ (wfInt .u64) x.f9 ∧ (wfInt .i64) x.f10 ∧ (wfInt .u32) x.f11 ∧ (wfInt .i64) x.f12 ∧ wf41 x.f13 ∧ wf44 x.f14 ∧ (wfSl wf156) x.f15 ∧ (wfSl wf96) x.f16 ∧ (wfSl (wfInt .u8)) x.f17
theorem opn48 : Opn Tryz.prog 48 e48 wf48 := by
  intro H enc w spare held fuel cs x h
  obtain ⟨xs, n, _, rfl, hl, hlen, hf⟩ := DataW.trod_struct Tryz.underlying48 h
  obtain ⟨z0, g0⟩ := fld hf hlen 0 rfl 3 0 1 rfl rfl (by kernel_rfl)
  obtain ⟨y0, en0, w0⟩ := (opn_int (t' := 3) Tryz.underlying3) enc w spare held n _ _ g0
  obtain ⟨z1, g1⟩ := fld hf hlen 1 rfl 3 1 1 rfl rfl (by kernel_rfl)
  obtain ⟨y1, en1, w1⟩ := (opn_int (t' := 3) Tryz.underlying3) enc w spare held n _ _ g1
  obtain ⟨z2, g2⟩ := fld hf hlen 2 rfl 3 2 1 rfl rfl (by kernel_rfl)
  obtain ⟨y2, en2, w2⟩ := (opn_int (t' := 3) Tryz.underlying3) enc w spare held n _ _ g2
  obtain ⟨z3, g3⟩ := fld hf hlen 3 rfl 3 3 1 rfl rfl (by kernel_rfl)
  obtain ⟨y3, en3, w3⟩ := (opn_int (t' := 3) Tryz.underlying3) enc w spare held n _ _ g3
  obtain ⟨z4, g4⟩ := fld hf hlen 4 rfl 23 4 1 rfl rfl (by kernel_rfl)
  obtain ⟨y4, en4, w4⟩ := (opn_int (t' := 23) Tryz.underlying23) enc w spare held n _ _ g4
  obtain ⟨z5, g5⟩ := fld hf hlen 5 rfl 23 5 1 rfl rfl (by kernel_rfl)
  obtain ⟨y5, en5, w5⟩ := (opn_int (t' := 23) Tryz.underlying23) enc w spare held n _ _ g5
  obtain ⟨z6, g6⟩ := fld hf hlen 6 rfl 23 6 1 rfl rfl (by kernel_rfl)
  obtain ⟨y6, en6, w6⟩ := (opn_int (t' := 23) Tryz.underlying23) enc w spare held n _ _ g6
  obtain ⟨z7, g7⟩ := fld hf hlen 7 rfl 23 7 1 rfl rfl (by kernel_rfl)
  obtain ⟨y7, en7, w7⟩ := (opn_int (t' := 23) Tryz.underlying23) enc w spare held n _ _ g7
  obtain ⟨z8, g8⟩ := fld hf hlen 8 rfl 23 8 1 rfl rfl (by kernel_rfl)
  obtain ⟨y8, en8, w8⟩ := (opn_int (t' := 23) Tryz.underlying23) enc w spare held n _ _ g8
  obtain ⟨z9, g9⟩ := fld hf hlen 9 rfl 23 9 1 rfl rfl (by kernel_rfl)
  obtain ⟨y9, en9, w9⟩ := (opn_int (t' := 23) Tryz.underlying23) enc w spare held n _ _ g9
  obtain ⟨z10, g10⟩ := fld hf hlen 10 rfl 3 10 1 rfl rfl (by kernel_rfl)
  obtain ⟨y10, en10, w10⟩ := (opn_int (t' := 3) Tryz.underlying3) enc w spare held n _ _ g10
  obtain ⟨z11, g11⟩ := fld hf hlen 11 rfl 22 11 1 rfl rfl (by kernel_rfl)
  obtain ⟨y11, en11, w11⟩ := (opn_int (t' := 22) Tryz.underlying22) enc w spare held n _ _ g11
  obtain ⟨z12, g12⟩ := fld hf hlen 12 rfl 29 12 1 rfl rfl (by kernel_rfl)
  obtain ⟨y12, en12, w12⟩ := (opn_int (t' := 29) Tryz.underlying29) enc w spare held n _ _ g12
  obtain ⟨z13, g13⟩ := fld hf hlen 13 rfl 41 13 4 rfl rfl (by kernel_rfl)
  obtain ⟨y13, en13, w13⟩ := opn41 enc w spare held n _ _ g13
  obtain ⟨z14, g14⟩ := fld hf hlen 14 rfl 44 17 5 rfl rfl (by kernel_rfl)
  obtain ⟨y14, en14, w14⟩ := opn44 enc w spare held n _ _ g14
  obtain ⟨p14_0, p14_1, en14, f14_0⟩ := en14
  obtain ⟨z15, g15⟩ := fld hf hlen 15 rfl 45 22 1 rfl rfl (by kernel_rfl)
  obtain ⟨y15, en15, w15⟩ := (opn_slice (t' := 45) (E := e156) Tryz.underlying45 opn156 (by kernel_rfl) (by decide)) enc w spare held n _ _ g15
  obtain ⟨p15, k15, en15, f15⟩ := en15
  obtain ⟨z16, g16⟩ := fld hf hlen 16 rfl 46 23 1 rfl rfl (by kernel_rfl)
  obtain ⟨y16, en16, w16⟩ := (opn_slice (t' := 46) (E := e96) Tryz.underlying46 opn96 (by kernel_rfl) (by decide)) enc w spare held n _ _ g16
  obtain ⟨p16, k16, en16, f16⟩ := en16
  obtain ⟨z17, g17⟩ := fld hf hlen 17 rfl 24 24 1 rfl rfl (by kernel_rfl)
  obtain ⟨y17, en17, w17⟩ := (opn_slice (t' := 24) (E := e5) Tryz.underlying24 (opn_int (t' := 5) Tryz.underlying5) (by kernel_rfl) (by decide)) enc w spare held n _ _ g17
  obtain ⟨p17, k17, en17, f17⟩ := en17
  have c18 : cs.drop 25 = [] := List.drop_eq_nil_of_le (by rw [hl]; exact Nat.le_of_eq (by kernel_rfl))
  have c17 := piece2 en17 c18 rfl
  have c16 := piece2 en16 c17 rfl
  have c15 := piece2 en15 c16 rfl
  have c14 := piece2 en14 c15 rfl
  have c13 := piece2 en13 c14 rfl
  have c12 := piece2 en12 c13 rfl
  have c11 := piece2 en11 c12 rfl
  have c10 := piece2 en10 c11 rfl
  have c9 := piece2 en9 c10 rfl
  have c8 := piece2 en8 c9 rfl
  have c7 := piece2 en7 c8 rfl
  have c6 := piece2 en6 c7 rfl
  have c5 := piece2 en5 c6 rfl
  have c4 := piece2 en4 c5 rfl
  have c3 := piece2 en3 c4 rfl
  have c2 := piece2 en2 c3 rfl
  have c1 := piece2 en1 c2 rfl
  have c0 := piece2 en0 c1 rfl
  exact ⟨⟨y0, y1, y2, y3, y4, y5, y6, y7, y8, y9, y10, y11, y12, y13, y14, y15, y16, y17⟩, ⟨p14_0, p14_1, p15, k15, p16, k16, p17, k17, c0, f14_0, f15, f16, f17⟩, ⟨w0, w1, w2, w3, w4, w5, w6, w7, w8, w9, w10, w11, w12, w13, w14, w15, w16, w17⟩⟩
theorem own : ownKnob Tryz.prog.godebug = none := by kernel_rfl
theorem laidOut : laidOutB Tryz.prog = true := by kernel_rfl
def gRows : List (List UInt8 × List Int) := [([], [0, 0, 0, 0, 0, 0]), ([112, 114, 101, 112, 97, 114, 101], [4, 32, 0, 0, 0, 0]), ([112, 114, 111, 109, 105, 115, 101], [4, 32, 4096, 0, 0, 0]), ([97, 99, 99, 101, 112, 116], [4, 32, 1024, 0, 0, 0]), ([97, 99, 99, 101, 112, 116, 101, 100], [4, 32, 0, 0, 0, 0]), ([99, 104, 111, 115, 101, 110], [32, 1024, 0, 0, 0, 0]), ([98, 101, 97, 116], [4, 32, 0, 0, 0, 0]), ([119, 97, 110, 116], [32, 0, 0, 0, 0, 0]), ([114, 101, 102, 117, 115, 101], [4, 0, 0, 0, 0, 0]), ([114, 101, 112, 111, 114, 116], [1024, 0, 0, 0, 0, 0]), ([108, 111, 99, 97, 116, 101], [1, 0, 0, 0, 0, 0]), ([99, 111, 110, 102, 105, 103], [2048, 0, 0, 0, 0, 0]), ([112, 117, 115, 104], [1, 2, 8, 16, 8192, 0]), ([97, 99, 107], [1, 2, 8, 16, 64, 32]), ([112, 97, 114, 116], [1, 2, 8, 32, 64, 16384]), ([113, 117, 101, 114, 121], [1, 2, 64, 256, 0, 0]), ([116, 111, 108, 100], [1, 2, 64, 256, 512, 0]), ([119, 114, 105, 116, 101], [1, 2, 8192, 0, 0, 0]), ([119, 114, 111, 116, 101], [64, 128, 512, 0, 0, 0]), ([114, 101, 97, 100], [1, 2, 64, 256, 0, 0]), ([103, 111, 116], [64, 256, 512, 16384, 0, 0])]
theorem gStands {W : World} (h : laidMetH Tryz.prog Rows.callerNilRow.laid W) : Glob 0 gl0 162 (hp W) :=
  glob_of (name := "catenary/letter.kinds") (D := Rows.laid_catenary_letter_kinds) (rest := []) (rs := gRows) (g := 0) (t := 162) (e := 161) (s := 9) (a := 159) (i := 3) (m := 6) (n := 21) (by kernel_rfl) (by kernel_rfl) Tryz.underlying162 (by kernel_rfl) Tryz.underlying161 rfl rfl rfl rfl Tryz.underlying9 (by kernel_rfl) Tryz.underlying159 Tryz.underlying3 (by kernel_rfl) (by kernel_rfl) (by kernel_rfl) (by kernel_rfl) (by kernel_rfl) h
noncomputable def laidWorld (os : Os) : World :=
  { World.holding Tryz.prog os ⟨#[], #[], []⟩ with heap := (World.holding Tryz.prog os ⟨#[], #[], []⟩).heap.modify 0 fun
      | .cells _ t frozen => .cells gl0.toArray t frozen
      | o => o }
theorem laid_met (os : Os) : laidMet Tryz.prog Rows.callerNilRow.laid ((laidWorld os).forCall (fun _ _ => 0) ⟨#[], #[.agg #[.int .i64 0, .int .u32 0, .int .u64 0, .slice none 0 0, .int .i64 0], .agg #[.int .i64 0, .int .i64 0, .int .i64 0, .int .i64 0, .int .u64 0, .int .u64 0, .int .u64 0, .int .u64 0, .int .u64 0, .int .u64 0, .int .i64 0, .int .u32 0, .int .i64 0, .int .i64 0, .int .i64 0, .int .u64 0, .int .i64 0, .int .i64 0, .int .u64 0, .slice none 0 0, .bool false, .int .i64 0, .slice none 0 0, .slice none 0 0, .slice none 0 0]], []⟩).memory :=
  laidMet_of_run' 8 (by kernel_rfl) (by kernel_rfl)
theorem reads (os : Os) {H : Type} (enc : TypeId × Value → H) : ∃ places, DataW.whole enc Tryz.prog ((laidWorld os).forCall (fun _ _ => 0) ⟨#[], #[.agg #[.int .i64 0, .int .u32 0, .int .u64 0, .slice none 0 0, .int .i64 0], .agg #[.int .i64 0, .int .i64 0, .int .i64 0, .int .i64 0, .int .u64 0, .int .u64 0, .int .u64 0, .int .u64 0, .int .u64 0, .int .u64 0, .int .i64 0, .int .u32 0, .int .i64 0, .int .i64 0, .int .i64 0, .int .u64 0, .int .i64 0, .int .i64 0, .int .u64 0, .slice none 0 0, .bool false, .int .i64 0, .slice none 0 0, .slice none 0 0, .slice none 0 0]], []⟩).memory Tryz.f5.params.toList Rows.callerNilSpec.vars false #[.agg #[.int .i64 0, .int .u32 0, .int .u64 0, .slice none 0 0, .int .i64 0], .agg #[.int .i64 0, .int .i64 0, .int .i64 0, .int .i64 0, .int .u64 0, .int .u64 0, .int .u64 0, .int .u64 0, .int .u64 0, .int .u64 0, .int .i64 0, .int .u32 0, .int .i64 0, .int .i64 0, .int .i64 0, .int .u64 0, .int .i64 0, .int .i64 0, .int .u64 0, .slice none 0 0, .bool false, .int .i64 0, .slice none 0 0, .slice none 0 0, .slice none 0 0]].toList 8 = some ([.agg [.lit (.int .i64 0), .lit (.int .u32 0), .lit (.int .u64 0), .nil, .lit (.int .i64 0)], .agg [.lit (.int .i64 0), .lit (.int .i64 0), .lit (.int .i64 0), .lit (.int .i64 0), .lit (.int .u64 0), .lit (.int .u64 0), .lit (.int .u64 0), .lit (.int .u64 0), .lit (.int .u64 0), .lit (.int .u64 0), .lit (.int .i64 0), .lit (.int .u32 0), .lit (.int .i64 0), .agg [.lit (.int .i64 0), .lit (.int .i64 0), .lit (.int .u64 0), .lit (.int .i64 0)], .agg [.lit (.int .i64 0), .lit (.int .u64 0), .nil, .lit (.bool false), .lit (.int .i64 0)], .nil, .nil, .nil]], [], places) :=
  ⟨[], by kernel_rfl⟩
set_option maxRecDepth 100000 in
theorem lifted (os : Os) (started : os.Started) (H : Type) (enc : TypeId × Value → H) (F : Stop.Interp) :
    ReturnsInHanded {} Tryz.checked os 5 .any ((OpenSpec.ofChange Rows.callerNilSpec).preRow enc Tryz.prog Tryz.f5 Rows.callerNilRow.domain false Rows.callerNilRow.laid) (((OpenSpec.ofChange Rows.callerNilSpec).at F).post enc Tryz.prog Tryz.f5 false true false false) := by
  obtain ⟨places, hx⟩ := reads os enc
  refine returnsInHanded_of_row (C := Tryz.checked) (s := OpenSpec.ofChange Rows.callerNilSpec) own started (by kernel_rfl) Tryz.func5
    (witness_row_at (enc := enc) (C := Tryz.checked) false (laidWorld os) #[.agg #[.int .i64 0, .int .u32 0, .int .u64 0, .slice none 0 0, .int .i64 0], .agg #[.int .i64 0, .int .i64 0, .int .i64 0, .int .i64 0, .int .u64 0, .int .u64 0, .int .u64 0, .int .u64 0, .int .u64 0, .int .u64 0, .int .i64 0, .int .u32 0, .int .i64 0, .int .i64 0, .int .i64 0, .int .u64 0, .int .i64 0, .int .i64 0, .int .u64 0, .slice none 0 0, .bool false, .int .i64 0, .slice none 0 0, .slice none 0 0, .slice none 0 0]] rfl (by kernel_rfl) (by kernel_rfl) (by kernel_rfl)
      (OpenSpec.preRow_of_cond 8 hx (by kernel_rfl) (fun k hk => by cases hk) (by kernel_rfl) (laid_met os))) ?_
  intro W base args ds gs before hval0 hW _ _ hsz0 hL _ _
  have hG := gStands hL
  have hval : ∀ (j : Nat) t v, Tryz.f5.params[j]? = some t → args[j]? = some v → Value.okWide Tryz.prog W .any base t v := hval0
  have hW' := hW
  obtain ⟨p, q, hA0, hV, rfl, hfz, hnd⟩ := hW
  have hA : DataW.TrodAll enc Tryz.prog W 0 (fun _ => true) true Tryz.f5.params.toList args.toList ds p := hA0
  rw [Tryz.params5] at hA hval
  obtain ⟨v0, vs0, d0, ds0, p0, q0, hargs, rfl, rfl, h0, r0⟩ := trodAll_cons hA
  obtain ⟨v1, vs1, d1, ds1, p1, q1, rfl, rfl, rfl, h1, r1⟩ := trodAll_cons r0
  obtain ⟨rfl, rfl, rfl⟩ := trodAll_nil r1
  obtain rfl : args = #[v0, v1] := by cases args; simp_all
  obtain ⟨rfl, rfl⟩ := trodVars_none hV
  have k0 := h0
  have lt0 : ∀ x ∈ p0, x.block < W.heap.size := by obtain ⟨m, hm⟩ := k0; exact DataW.trod_lt m _ _ _ hm
  obtain ⟨y0, en0, w0⟩ := opn_agg opn26 h0
  obtain ⟨cs0, rfl, _⟩ := okWide_struct Tryz.underlying26 (hval 0 26 v0 rfl rfl)
  obtain ⟨pp0_0, pp0_1, hc0, f0_0⟩ := en0
  obtain ⟨cs0⟩ := cs0
  simp only [Value.cells] at hc0
  subst hc0
  have k1 := h1
  have lt1 : ∀ x ∈ p1, x.block < W.heap.size := by obtain ⟨m, hm⟩ := k1; exact DataW.trod_lt m _ _ _ hm
  obtain ⟨y1, en1, w1⟩ := opn_agg opn48 h1
  obtain ⟨cs1, rfl, _⟩ := okWide_struct Tryz.underlying48 (hval 1 48 v1 rfl rfl)
  obtain ⟨pp1_0, pp1_1, pp1_2, pp1_3, pp1_4, pp1_5, pp1_6, pp1_7, hc1, f1_0, f1_1, f1_2, f1_3⟩ := en1
  obtain ⟨cs1⟩ := cs1
  simp only [Value.cells] at hc1
  subst hc1
  clear hA0 hval0 hsz0
  obtain ⟨k, hk⟩ := pureCallerNil y0 y1 w0 w1
  refine (callsR_calls (catenarylaw26_CallerNil_s hk f0_0 f1_0 f1_1 f1_2 f1_3 hG (st_start W))).mono fun e W' hh => ?_
  obtain ⟨rfl, bel⟩ : e = .returned (.bool true) ∧ Below W.heap.size W W' := by
    obtain ⟨v, rfl, ih', rfl, hw, hle⟩ := hh
    exact ⟨rfl, below_of hw hle⟩
  exact ⟨_, rfl, _, _, _, [], _, [], hW', trodAll_mk1 (shut_bool Tryz.underlying4 _), (trodAll_cons_mk (Below.trod laidOut (by kernel_rfl) (of_decide_eq_true (by kernel_rfl)) k0 bel lt0) (trodAll_cons_mk (Below.trod laidOut (by kernel_rfl) (of_decide_eq_true (by kernel_rfl)) k1 bel lt1) trodAll_mk0)), rfl, bel.frame _, fun h => by cases h⟩
theorem said : Rows.CallerNilSaid :=
  OpenClaim.holds_of_cond 5 Tryz.f5 rfl rfl rfl rfl rfl rfl rfl ⟨rfl, rfl, rfl, rfl, rfl⟩ rfl rfl rfl rfl rfl (by kernel_rfl) Tryz.func5 (by kernel_rfl)
    (of_decide_eq_true (by kernel_rfl)) (by unfold Func.isWrapper; first | (rw [if_pos (by decide +kernel)]; kernel_rfl) | (rw [if_neg (by decide +kernel)]; exact ⟨rfl, rfl⟩))
    (fun os started H enc _ F => by rw [OpenClaim.pre_eq_preRow]; exact lifted os started H enc F)
theorem plain (f : FuncId) (fn : Func) (hf : Tryz.pinned.checked.prog.funcNamed "catenary/catenarylaw26.CallerNil" = some f) (hfn : Tryz.pinned.checked.prog.funcs[f]? = some fn) :
    false = Tryz.pinned.checked.prog.looks [] ∧ ∀ (j : Nat) t, fn.params[j]? = some t → Tryz.pinned.checked.prog.wantsStandIn t = false := by
  obtain rfl : f = 5 := Option.some.inj ((show Tryz.prog.funcNamed "catenary/catenarylaw26.CallerNil" = some 5 by kernel_rfl).symm.trans hf) |>.symm
  obtain rfl : fn = Tryz.f5 := (Option.some.inj (Tryz.func5.symm.trans hfn)).symm
  refine ⟨by kernel_rfl, fun j t ht => ?_⟩
  rw [Tryz.params5] at ht
  have hm : t ∈ ([26, 48] : List TypeId) := by simpa using Array.mem_of_getElem? ht
  have hall : ([26, 48] : List TypeId).all (fun t => !Tryz.prog.wantsStandIn t) = true := by kernel_rfl
  have := List.all_eq_true.1 hall t hm
  exact (show Tryz.prog.wantsStandIn t = false by simpa using this)
theorem proved : Rows.CallerNilCardSaid :=
  Claim7.holds_tied_plain_at .later [] _ _ _ _ said (fun _ h => by cases h) (by kernel_rfl) (fun _ h => by cases h) callerNil_row_tie rfl ⟨rfl, rfl⟩ (by kernel_rfl) rfl plain (by kernel_rfl)
end Go.Proofs.YteiinkhbgpldeaaGreatDoor.callerNil
