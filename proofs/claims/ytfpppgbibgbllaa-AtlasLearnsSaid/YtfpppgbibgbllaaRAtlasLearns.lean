/- The row of AtlasLearns: the walk and the plain law, tied to the given statement.
   Conditions: those that each theorem states ahead of its colon, and no other. -/
import Derived.Test.YtfpppgbibgbllaaRows
import Derived.Test.YtfpppgbibgbllaaPAtlasLearns
import Derived.WalkKit
import Derived.ProofKit
import Derived.OpenShut
import Derived.ShutString
import Derived.ChangeOld
import Derived.Below
import Derived.SizedLaws
import Derived.JoinedOf
import Derived.Carry
namespace Go.Proofs.Ytfpppgbibgbllaa.atlasLearns
open Go.ChangeShapes Go.WideShapes Go.ChangeAt Go.RowKit Go.Proofs.Ytfpppgbibgbllaa.Sx
set_option linter.unusedVariables false
set_option maxRecDepth 100000
@[reducible] def wf53 : M53 → Prop := fun x => (wfInt .i64) x.f0 ∧ (wfInt .u64) x.f1 ∧ (wfSl (wfInt .i64)) x.f2 ∧ wfBool x.f3 ∧ (wfInt .i64) x.f4
theorem opn53 : Opn Try.prog 53 e53 wf53 := by
  intro H enc w spare held fuel cs x h
  obtain ⟨xs, n, _, rfl, hl, hlen, hf⟩ := DataW.trod_struct Try.underlying53 h
  obtain ⟨z0, g0⟩ := fld hf hlen 0 rfl 3 0 1 rfl rfl (by kernel_rfl)
  obtain ⟨y0, en0, w0⟩ := (opn_int (t' := 3) Try.underlying3) enc w spare held n _ _ g0
  obtain ⟨z1, g1⟩ := fld hf hlen 1 rfl 23 1 1 rfl rfl (by kernel_rfl)
  obtain ⟨y1, en1, w1⟩ := (opn_int (t' := 23) Try.underlying23) enc w spare held n _ _ g1
  obtain ⟨z2, g2⟩ := fld hf hlen 2 rfl 40 2 1 rfl rfl (by kernel_rfl)
  obtain ⟨y2, en2, w2⟩ := (opn_slice (t' := 40) (E := e3) Try.underlying40 (opn_int (t' := 3) Try.underlying3) (by kernel_rfl) (by decide)) enc w spare held n _ _ g2
  obtain ⟨p2, k2, en2, f2⟩ := en2
  obtain ⟨z3, g3⟩ := fld hf hlen 3 rfl 4 3 1 rfl rfl (by kernel_rfl)
  obtain ⟨y3, en3, w3⟩ := (opn_bool (t' := 4) Try.underlying4) enc w spare held n _ _ g3
  obtain ⟨z4, g4⟩ := fld hf hlen 4 rfl 3 4 1 rfl rfl (by kernel_rfl)
  obtain ⟨y4, en4, w4⟩ := (opn_int (t' := 3) Try.underlying3) enc w spare held n _ _ g4
  have c5 : cs.drop 5 = [] := List.drop_eq_nil_of_le (by rw [hl]; exact Nat.le_of_eq (by kernel_rfl))
  have c4 := piece2 en4 c5 rfl
  have c3 := piece2 en3 c4 rfl
  have c2 := piece2 en2 c3 rfl
  have c1 := piece2 en1 c2 rfl
  have c0 := piece2 en0 c1 rfl
  exact ⟨⟨y0, y1, y2, y3, y4⟩, ⟨p2, k2, c0, f2⟩, ⟨w0, w1, w2, w3, w4⟩⟩
theorem own : ownKnob Try.prog.godebug = none := by kernel_rfl
theorem laidOut : laidOutB Try.prog = true := by kernel_rfl
set_option maxRecDepth 100000 in
theorem lifted (os : Os) (started : os.Started) (H : Type) (enc : TypeId × Value → H) :
    ReturnsInHanded {} Try.checked os 11 .any (Rows.atlasLearnsSpec.pre6 enc Try.prog Try.f11 Rows.atlasLearnsRow.domain false) (Rows.atlasLearnsSpec.post enc Try.prog Try.f11 false true false false) := by
  refine returnsInHanded_of_change_sized (C := Try.checked) own started (by kernel_rfl) Try.func11
    (ChangeSpec.witness6 (enc := enc) (C := Try.checked) false ⟨#[], #[.slice none 0 0, .slice none 0 0, .int .u32 0], []⟩ 8 (by kernel_rfl) (by kernel_rfl) (by kernel_rfl) (by kernel_rfl)) ?_
  intro W base args ds gs before hval0 hW hcnd hsz0 _
  have hval : ∀ (j : Nat) t v, Try.f11.params[j]? = some t → args[j]? = some v → Value.okWide Try.prog W .any base t v := hval0
  have hW' := hW
  obtain ⟨p, q, hA0, hV, rfl, hfz, hnd⟩ := hW
  have hA : DataW.TrodAll enc Try.prog W 0 (fun _ => true) true Try.f11.params.toList args.toList ds p := hA0
  rw [Try.params11] at hA hval
  obtain ⟨v0, vs0, d0, ds0, p0, q0, hargs, rfl, rfl, h0, r0⟩ := trodAll_cons hA
  obtain ⟨v1, vs1, d1, ds1, p1, q1, rfl, rfl, rfl, h1, r1⟩ := trodAll_cons r0
  obtain ⟨v2, vs2, d2, ds2, p2, q2, rfl, rfl, rfl, h2, r2⟩ := trodAll_cons r1
  obtain ⟨rfl, rfl, rfl⟩ := trodAll_nil r2
  obtain rfl : args = #[v0, v1, v2] := by cases args; simp_all
  obtain ⟨rfl, rfl⟩ := trodVars_none hV
  have k0 := h0
  have lt0 : ∀ x ∈ p0, x.block < W.heap.size := by obtain ⟨m, hm⟩ := k0; exact DataW.trod_lt m _ _ _ hm
  obtain ⟨y0, en0, w0⟩ := opn_agg (opn_slice (t' := 79) (E := e53) Try.underlying79 opn53 (by kernel_rfl) (by decide)) h0
  obtain ⟨a0, l0, c0, rfl⟩ := okWide_slice Try.underlying79 (hval 0 79 v0 rfl rfl)
  obtain ⟨pp0, kk0, hc0, f0⟩ := en0
  simp only [Value.cells, List.cons.injEq, Value.slice.injEq, and_true] at hc0
  obtain ⟨rfl, rfl, rfl⟩ := hc0
  have k1 := h1
  have lt1 : ∀ x ∈ p1, x.block < W.heap.size := by obtain ⟨m, hm⟩ := k1; exact DataW.trod_lt m _ _ _ hm
  obtain ⟨y1, en1, w1⟩ := opn_agg (opn_slice (t' := 79) (E := e53) Try.underlying79 opn53 (by kernel_rfl) (by decide)) h1
  obtain ⟨a1, l1, c1, rfl⟩ := okWide_slice Try.underlying79 (hval 1 79 v1 rfl rfl)
  obtain ⟨pp1, kk1, hc1, f1⟩ := en1
  simp only [Value.cells, List.cons.injEq, Value.slice.injEq, and_true] at hc1
  obtain ⟨rfl, rfl, rfl⟩ := hc1
  obtain ⟨y2, rfl, rfl, rfl, w2⟩ := open_int Try.underlying31 (hval 2 31 v2 rfl rfl) h2
  clear hA0 hval0 hsz0
  obtain ⟨k, hk⟩ := pureAtlasLearns y0 y1 y2 w0 w1 w2
  refine (callsR_calls (catenarylaw25_AtlasLearns_2_s hk f0 f1 (st_start W))).mono fun e W' hh => ?_
  obtain ⟨rfl, bel⟩ : e = .returned (.bool true) ∧ Below W.heap.size W W' := by
    obtain ⟨v, rfl, ih', rfl, hw, hle⟩ := hh
    exact ⟨rfl, below_of hw hle⟩
  exact ⟨_, rfl, _, _, _, [], _, [], hW', trodAll_mk1 (shut_bool Try.underlying4 _), (trodAll_cons_mk (Below.trod laidOut (by kernel_rfl) (of_decide_eq_true (by kernel_rfl)) k0 bel lt0) (trodAll_cons_mk (Below.trod laidOut (by kernel_rfl) (of_decide_eq_true (by kernel_rfl)) k1 bel lt1) (trodAll_cons_mk (shut_int Try.underlying31 w2) trodAll_mk0))), rfl, bel.frame _, fun h => by cases h⟩
theorem over : Rows.atlasLearnsRow.holds Try.pinned (OpenSpec.ofChange Rows.atlasLearnsSpec) :=
  OpenClaim.holds_of_wide 11 Try.f11 rfl rfl rfl rfl rfl rfl rfl ⟨rfl, rfl, rfl, rfl, rfl⟩ rfl rfl rfl rfl rfl (by kernel_rfl) Try.func11 (by kernel_rfl)
    (of_decide_eq_true (by kernel_rfl)) (by unfold Func.isWrapper; first | (rw [if_pos (by decide +kernel)]; kernel_rfl) | (rw [if_neg (by decide +kernel)]; exact ⟨rfl, rfl⟩))
    (fun os started H enc _ => lifted os started H enc)
theorem proved : Rows.AtlasLearnsSaid := over
end Go.Proofs.Ytfpppgbibgbllaa.atlasLearns
