/- The row of CallerOnce: the walk and the plain law, tied to the given statement.
   Conditions: those that each theorem states ahead of its colon, and no other. -/
import Derived.Test.YteiinkhbgpldeaaGreatDoorRows
import Derived.Test.YteiinkhbgpldeaaGreatDoorPCallerOnce
import Derived.Test.YteiinkhbgpldeaaGreatDoorCards
import Derived.Test.YteiinkhbgpldeaaGreatDoorTie
import Derived.Deep.DeepHandedRow
import Derived.Lib.LaidTab
import Derived.Test.YteiinkhbgpldeaaGreatDoorSxG
import Derived.Test.YteiinkhbgpldeaaGreatDoorSxA
import Derived.WalkKit
import Derived.ProofKit
import Derived.OpenShut
import Derived.ShutString
import Derived.ChangeOld
import Derived.Below
import Derived.SizedLaws
import Derived.JoinedOf
import Derived.Carry
namespace Go.Proofs.YteiinkhbgpldeaaGreatDoor.callerOnce
open Go.ChangeShapes Go.WideShapes Go.ChangeAt Go.RowKit Go.Proofs.YteiinkhbgpldeaaGreatDoor.Sx
set_option linter.unusedVariables false
set_option maxRecDepth 100000
@[reducible] def wf26 : M26 → Prop := fun x => (wfInt .i64) x.f0 ∧ (wfInt .u32) x.f1 ∧ (wfInt .u64) x.f2 ∧ (wfSl (wfInt .u8)) x.f3 ∧ (wfInt .i64) x.f4
theorem opn26 : Opn Tryz.prog 26 e26 wf26 := by
  intro H enc w spare held fuel cs x h
  obtain ⟨xs, n, _, rfl, hl, hlen, hf⟩ := DataW.trod_struct Tryz.underlying26 h
  obtain ⟨z0, g0⟩ := fld hf hlen 0 rfl 3 0 1 rfl rfl (by kernel_rfl)
  obtain ⟨y0, en0, w0⟩ := (opn_int (t' := 3) Tryz.underlying3) enc w spare held n _ _ g0
  obtain ⟨z1, g1⟩ := fld hf hlen 1 rfl 22 1 1 rfl rfl (by kernel_rfl)
  obtain ⟨y1, en1, w1⟩ := (opn_int (t' := 22) Tryz.underlying22) enc w spare held n _ _ g1
  obtain ⟨z2, g2⟩ := fld hf hlen 2 rfl 23 2 1 rfl rfl (by kernel_rfl)
  obtain ⟨y2, en2, w2⟩ := (opn_int (t' := 23) Tryz.underlying23) enc w spare held n _ _ g2
  obtain ⟨z3, g3⟩ := fld hf hlen 3 rfl 24 3 1 rfl rfl (by kernel_rfl)
  obtain ⟨y3, en3, w3⟩ := (opn_slice (t' := 24) (E := e5) Tryz.underlying24 (opn_int (t' := 5) Tryz.underlying5) (by kernel_rfl) (by decide)) enc w spare held n _ _ g3
  obtain ⟨p3, k3, en3, f3⟩ := en3
  obtain ⟨z4, g4⟩ := fld hf hlen 4 rfl 3 4 1 rfl rfl (by kernel_rfl)
  obtain ⟨y4, en4, w4⟩ := (opn_int (t' := 3) Tryz.underlying3) enc w spare held n _ _ g4
  have c5 : cs.drop 5 = [] := List.drop_eq_nil_of_le (by rw [hl]; exact Nat.le_of_eq (by kernel_rfl))
  have c4 := piece2 en4 c5 rfl
  have c3 := piece2 en3 c4 rfl
  have c2 := piece2 en2 c3 rfl
  have c1 := piece2 en1 c2 rfl
  have c0 := piece2 en0 c1 rfl
  exact ⟨⟨y0, y1, y2, y3, y4⟩, ⟨p3, k3, c0, f3⟩, ⟨w0, w1, w2, w3, w4⟩⟩
@[reducible] def wf27 : M27 → Prop := fun x => (wfInt .u8) x.f0 ∧ (wfInt .u8) x.f1
theorem opn27 : Opn Tryz.prog 27 e27 wf27 := by
  intro H enc w spare held fuel cs x h
  obtain ⟨xs, n, _, rfl, hl, hlen, hf⟩ := DataW.trod_array Tryz.underlying27 h
  obtain ⟨z0, g0⟩ := fldA hf hlen 0 0 1 rfl (by kernel_rfl) rfl
  obtain ⟨y0, en0, w0⟩ := (opn_int (t' := 5) Tryz.underlying5) enc w spare held n _ _ g0
  obtain ⟨z1, g1⟩ := fldA hf hlen 1 1 1 rfl (by kernel_rfl) rfl
  obtain ⟨y1, en1, w1⟩ := (opn_int (t' := 5) Tryz.underlying5) enc w spare held n _ _ g1
  have c2 : cs.drop 2 = [] := List.drop_eq_nil_of_le (by rw [hl]; exact Nat.le_of_eq (by kernel_rfl))
  have c1 := piece2 en1 c2 rfl
  have c0 := piece2 en0 c1 rfl
  exact ⟨⟨y0, y1⟩, c0, ⟨w0, w1⟩⟩
theorem own : ownKnob Tryz.prog.godebug = none := by kernel_rfl
theorem laidOut : laidOutB Tryz.prog = true := by kernel_rfl
def gRows : List (List UInt8 × List Int) := [([], [0, 0, 0, 0, 0, 0]), ([112, 114, 101, 112, 97, 114, 101], [4, 32, 0, 0, 0, 0]), ([112, 114, 111, 109, 105, 115, 101], [4, 32, 4096, 0, 0, 0]), ([97, 99, 99, 101, 112, 116], [4, 32, 1024, 0, 0, 0]), ([97, 99, 99, 101, 112, 116, 101, 100], [4, 32, 0, 0, 0, 0]), ([99, 104, 111, 115, 101, 110], [32, 1024, 0, 0, 0, 0]), ([98, 101, 97, 116], [4, 32, 0, 0, 0, 0]), ([119, 97, 110, 116], [32, 0, 0, 0, 0, 0]), ([114, 101, 102, 117, 115, 101], [4, 0, 0, 0, 0, 0]), ([114, 101, 112, 111, 114, 116], [1024, 0, 0, 0, 0, 0]), ([108, 111, 99, 97, 116, 101], [1, 0, 0, 0, 0, 0]), ([99, 111, 110, 102, 105, 103], [2048, 0, 0, 0, 0, 0]), ([112, 117, 115, 104], [1, 2, 8, 16, 8192, 0]), ([97, 99, 107], [1, 2, 8, 16, 64, 32]), ([112, 97, 114, 116], [1, 2, 8, 32, 64, 16384]), ([113, 117, 101, 114, 121], [1, 2, 64, 256, 0, 0]), ([116, 111, 108, 100], [1, 2, 64, 256, 512, 0]), ([119, 114, 105, 116, 101], [1, 2, 8192, 0, 0, 0]), ([119, 114, 111, 116, 101], [64, 128, 512, 0, 0, 0]), ([114, 101, 97, 100], [1, 2, 64, 256, 0, 0]), ([103, 111, 116], [64, 256, 512, 16384, 0, 0])]
theorem gStands {W : World} (h : laidMetH Tryz.prog Rows.callerOnceRow.laid W) : Glob 0 gl0 162 (hp W) :=
  glob_of (name := "catenary/letter.kinds") (D := Rows.laid_catenary_letter_kinds) (rest := []) (rs := gRows) (g := 0) (t := 162) (e := 161) (s := 9) (a := 159) (i := 3) (m := 6) (n := 21) (by kernel_rfl) (by kernel_rfl) Tryz.underlying162 (by kernel_rfl) Tryz.underlying161 rfl rfl rfl rfl Tryz.underlying9 (by kernel_rfl) Tryz.underlying159 Tryz.underlying3 (by kernel_rfl) (by kernel_rfl) (by kernel_rfl) (by kernel_rfl) (by kernel_rfl) h
noncomputable def laidWorld (os : Os) : World :=
  { World.holding Tryz.prog os ⟨#[], #[], []⟩ with heap := (World.holding Tryz.prog os ⟨#[], #[], []⟩).heap.modify 0 fun
      | .cells _ t frozen => .cells gl0.toArray t frozen
      | o => o }
theorem laid_met (os : Os) : laidMet Tryz.prog Rows.callerOnceRow.laid ((laidWorld os).forCall (fun _ _ => 0) ⟨#[], #[.agg #[.int .i64 0, .int .u32 0, .int .u64 0, .slice none 0 0, .int .i64 0], .agg #[.int .u8 0, .int .u8 0], .agg #[.int .u8 0, .int .u8 0]], []⟩).memory :=
  laidMet_of_run' 8 (by kernel_rfl) (by kernel_rfl)
theorem reads (os : Os) {H : Type} (enc : TypeId × Value → H) : ∃ places, DataW.whole enc Tryz.prog ((laidWorld os).forCall (fun _ _ => 0) ⟨#[], #[.agg #[.int .i64 0, .int .u32 0, .int .u64 0, .slice none 0 0, .int .i64 0], .agg #[.int .u8 0, .int .u8 0], .agg #[.int .u8 0, .int .u8 0]], []⟩).memory Tryz.f3.params.toList Rows.callerOnceSpec.vars false #[.agg #[.int .i64 0, .int .u32 0, .int .u64 0, .slice none 0 0, .int .i64 0], .agg #[.int .u8 0, .int .u8 0], .agg #[.int .u8 0, .int .u8 0]].toList 8 = some ([.agg [.lit (.int .i64 0), .lit (.int .u32 0), .lit (.int .u64 0), .nil, .lit (.int .i64 0)], .agg [.lit (.int .u8 0), .lit (.int .u8 0)], .agg [.lit (.int .u8 0), .lit (.int .u8 0)]], [], places) :=
  ⟨[], by kernel_rfl⟩
set_option maxRecDepth 100000 in
theorem lifted (os : Os) (started : os.Started) (H : Type) (enc : TypeId × Value → H) (F : Stop.Interp) :
    ReturnsInHanded {} Tryz.checked os 3 .any ((OpenSpec.ofChange Rows.callerOnceSpec).preRow enc Tryz.prog Tryz.f3 Rows.callerOnceRow.domain false Rows.callerOnceRow.laid) (((OpenSpec.ofChange Rows.callerOnceSpec).at F).post enc Tryz.prog Tryz.f3 false true false false) := by
  obtain ⟨places, hx⟩ := reads os enc
  refine returnsInHanded_of_row (C := Tryz.checked) (s := OpenSpec.ofChange Rows.callerOnceSpec) own started (by kernel_rfl) Tryz.func3
    (witness_row_at (enc := enc) (C := Tryz.checked) false (laidWorld os) #[.agg #[.int .i64 0, .int .u32 0, .int .u64 0, .slice none 0 0, .int .i64 0], .agg #[.int .u8 0, .int .u8 0], .agg #[.int .u8 0, .int .u8 0]] rfl (by kernel_rfl) (by kernel_rfl) (by kernel_rfl)
      (OpenSpec.preRow_of_cond 8 hx (by kernel_rfl) (fun k hk => by cases hk) (by kernel_rfl) (laid_met os))) ?_
  intro W base args ds gs before hval0 hW _ _ hsz0 hL _ _
  have hG := gStands hL
  have hval : ∀ (j : Nat) t v, Tryz.f3.params[j]? = some t → args[j]? = some v → Value.okWide Tryz.prog W .any base t v := hval0
  have hW' := hW
  obtain ⟨p, q, hA0, hV, rfl, hfz, hnd⟩ := hW
  have hA : DataW.TrodAll enc Tryz.prog W 0 (fun _ => true) true Tryz.f3.params.toList args.toList ds p := hA0
  rw [Tryz.params3] at hA hval
  obtain ⟨v0, vs0, d0, ds0, p0, q0, hargs, rfl, rfl, h0, r0⟩ := trodAll_cons hA
  obtain ⟨v1, vs1, d1, ds1, p1, q1, rfl, rfl, rfl, h1, r1⟩ := trodAll_cons r0
  obtain ⟨v2, vs2, d2, ds2, p2, q2, rfl, rfl, rfl, h2, r2⟩ := trodAll_cons r1
  obtain ⟨rfl, rfl, rfl⟩ := trodAll_nil r2
  obtain rfl : args = #[v0, v1, v2] := by cases args; simp_all
  obtain ⟨rfl, rfl⟩ := trodVars_none hV
  have k0 := h0
  have lt0 : ∀ x ∈ p0, x.block < W.heap.size := by obtain ⟨m, hm⟩ := k0; exact DataW.trod_lt m _ _ _ hm
  obtain ⟨y0, en0, w0⟩ := opn_agg opn26 h0
  obtain ⟨cs0, rfl, _⟩ := okWide_struct Tryz.underlying26 (hval 0 26 v0 rfl rfl)
  obtain ⟨pp0_0, pp0_1, hc0, f0_0⟩ := en0
  obtain ⟨cs0⟩ := cs0
  simp only [Value.cells] at hc0
  subst hc0
  have k1 := h1
  have lt1 : ∀ x ∈ p1, x.block < W.heap.size := by obtain ⟨m, hm⟩ := k1; exact DataW.trod_lt m _ _ _ hm
  obtain ⟨y1, en1, w1⟩ := opn_agg opn27 h1
  obtain ⟨cs1, rfl, _⟩ := okWideArr Tryz.underlying27 (hval 1 27 v1 rfl rfl)
  have hc1 := en1
  obtain ⟨cs1⟩ := cs1
  simp only [Value.cells] at hc1
  subst hc1
  have k2 := h2
  have lt2 : ∀ x ∈ p2, x.block < W.heap.size := by obtain ⟨m, hm⟩ := k2; exact DataW.trod_lt m _ _ _ hm
  obtain ⟨y2, en2, w2⟩ := opn_agg opn27 h2
  obtain ⟨cs2, rfl, _⟩ := okWideArr Tryz.underlying27 (hval 2 27 v2 rfl rfl)
  have hc2 := en2
  obtain ⟨cs2⟩ := cs2
  simp only [Value.cells] at hc2
  subst hc2
  clear hA0 hval0 hsz0
  obtain ⟨k, hk⟩ := pureCallerOnce y0 y1 y2 w0 w1 w2
  refine (callsR_calls (catenarylaw26_CallerOnce_s hk f0_0 hG (st_start W))).mono fun e W' hh => ?_
  obtain ⟨rfl, bel⟩ : e = .returned (.bool true) ∧ Below W.heap.size W W' := by
    obtain ⟨v, rfl, ih', rfl, hw, hle⟩ := hh
    exact ⟨rfl, below_of hw hle⟩
  exact ⟨_, rfl, _, _, _, [], _, [], hW', trodAll_mk1 (shut_bool Tryz.underlying4 _), (trodAll_cons_mk (Below.trod laidOut (by kernel_rfl) (of_decide_eq_true (by kernel_rfl)) k0 bel lt0) (trodAll_cons_mk (Below.trod laidOut (by kernel_rfl) (of_decide_eq_true (by kernel_rfl)) k1 bel lt1) (trodAll_cons_mk (Below.trod laidOut (by kernel_rfl) (of_decide_eq_true (by kernel_rfl)) k2 bel lt2) trodAll_mk0))), rfl, bel.frame _, fun h => by cases h⟩
theorem said : Rows.CallerOnceSaid :=
  OpenClaim.holds_of_cond 3 Tryz.f3 rfl rfl rfl rfl rfl rfl rfl ⟨rfl, rfl, rfl, rfl, rfl⟩ rfl rfl rfl rfl rfl (by kernel_rfl) Tryz.func3 (by kernel_rfl)
    (of_decide_eq_true (by kernel_rfl)) (by unfold Func.isWrapper; first | (rw [if_pos (by decide +kernel)]; kernel_rfl) | (rw [if_neg (by decide +kernel)]; exact ⟨rfl, rfl⟩))
    (fun os started H enc _ F => by rw [OpenClaim.pre_eq_preRow]; exact lifted os started H enc F)
theorem plain (f : FuncId) (fn : Func) (hf : Tryz.pinned.checked.prog.funcNamed "catenary/catenarylaw26.CallerOnce" = some f) (hfn : Tryz.pinned.checked.prog.funcs[f]? = some fn) :
    false = Tryz.pinned.checked.prog.looks [] ∧ ∀ (j : Nat) t, fn.params[j]? = some t → Tryz.pinned.checked.prog.wantsStandIn t = false := by
  obtain rfl : f = 3 := Option.some.inj ((show Tryz.prog.funcNamed "catenary/catenarylaw26.CallerOnce" = some 3 by kernel_rfl).symm.trans hf) |>.symm
  obtain rfl : fn = Tryz.f3 := (Option.some.inj (Tryz.func3.symm.trans hfn)).symm
  refine ⟨by kernel_rfl, fun j t ht => ?_⟩
  rw [Tryz.params3] at ht
  have hm : t ∈ ([26, 27, 27] : List TypeId) := by simpa using Array.mem_of_getElem? ht
  have hall : ([26, 27, 27] : List TypeId).all (fun t => !Tryz.prog.wantsStandIn t) = true := by kernel_rfl
  have := List.all_eq_true.1 hall t hm
  exact (show Tryz.prog.wantsStandIn t = false by simpa using this)
theorem proved : Rows.CallerOnceCardSaid :=
  Claim7.holds_tied_plain_at .later [] _ _ _ _ said (fun _ h => by cases h) (by kernel_rfl) (fun _ h => by cases h) callerOnce_row_tie rfl ⟨rfl, rfl⟩ (by kernel_rfl) rfl plain (by kernel_rfl)
end Go.Proofs.YteiinkhbgpldeaaGreatDoor.callerOnce
