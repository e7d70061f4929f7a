/- The plain law of CallerPlays. Conditions: those ahead of each colon. -/
import Derived.Test.YteiinkhbgpldeaaGreatDoorPLet
set_option linter.unusedSimpArgs false
set_option linter.unusedVariables false
namespace Go.Proofs.YteiinkhbgpldeaaGreatDoor.Sx
open Go
theorem Qkr (a0 a1 a2 a3 a4 a5 a6 a7 a8 a9 b0 b1 b2 c d e f g : Bool) :
    (if (!a0 || (!a1 || (!a2 || (!a3 || (!a4 || (!a5 || !a6)))))) = true then some false else if (!a7 || (!a8 || (!a9 || (!b0 || (!b1 || (!b2 || !c)))))) = true then some false
      else (if d = true then (if e = true then (if f = true then some g else some false) else some false) else some false).bind fun y => some y) =
    some ((a0 && a1 && a2 && a3 && b0 && b1 && b2) && (a4 && a5 && a6 && a7 && a8 && a9) && (c && d) && (e && (f && g))) := by
  cases a0; · simp
  cases a1; · simp
  cases a2; · simp
  cases a3; · simp
  cases a4; · simp
  cases a5; · simp
  cases a6; · simp
  cases a7; · simp
  cases a8; · simp
  cases a9; · simp
  cases b0; · simp
  cases b1; · simp
  cases b2; · simp
  cases c; · simp
  cases d; · simp
  cases e; · simp
  cases f <;> simp
theorem Qj8 (x y : M48) (h : ShortR x) : Qbe 3000 x y = some (sameR x y) := by
  have hc := h.c
  have hv := h.v
  have hu := h.u
  have hd := h.d
  unfold Qbe QcL
  rw [Qkj _ _ (by omega) 3000 (by omega), Qmk _ _ (by omega) 3000 (by omega), Qml _ _ (by omega) 3000 (by omega) (fun u hu => by have := h.ud u hu; omega) (by decide), Qj1 _ _ (by omega) 3000 (by omega)]
  simp only [Option.bind_some]
  exact Qkr (x.f0 == y.f0) (x.f1 == y.f1) (x.f2 == y.f2) (x.f3 == y.f3) (x.f4 == y.f4) (x.f5 == y.f5) (x.f6 == y.f6) (x.f7 == y.f7) (x.f8 == y.f8) (x.f9 == y.f9) (x.f10 == y.f10) (x.f11 == y.f11) (x.f12 == y.f12) (cmdB x.f13 y.f13) (confB x.f14 y.f14) (eqL voteB x.f15 y.f15) (eqL updR x.f16 y.f16) (eqL (fun a b : Int => a == b) x.f17 y.f17)
theorem Qls (x : M48) (hw : WfL x) (h : ShortR x) : Qb2 3000 x = some (chk x) := by
  unfold Qb2 chk
  have hk : (decide (x.f0 < 1) || decide (x.f0 > 20)) = !knownP x.f0 := by
    unfold knownP
    rw [Bool.eq_iff_iff]
    simp only [Bool.or_eq_true, Bool.not_eq_true', Bool.and_eq_false_iff, decide_eq_true_eq, decide_eq_false_iff_not]
    omega
  rw [hk]
  cases hkn : knownP x.f0 with
  | false => rfl
  | true =>
    unfold knownP at hkn
    simp only [Bool.and_eq_true, decide_eq_true_eq] at hkn
    obtain ⟨k, hkk⟩ : ∃ k : Nat, x.f0 = (k : Int) := ⟨x.f0.toNat, by omega⟩
    obtain ⟨q1, q2⟩ := QjG k (by omega)
    obtain ⟨ps, hps⟩ := Option.isSome_iff_exists.1 q1
    have hp : partsR x.f0 = ps := by unfold partsR; rw [hkk, hps]; rfl
    have ht := QlG k (by omega)
    rw [← hkk] at hps q2 ht
    rw [hp] at q2 ht
    have hlen := Nat.le_of_ble_eq_true q2
    rw [hps]
    simp only [Option.bind_some, Bool.not_true, Bool.false_eq_true, if_false, if_true]
    rw [QjT ps (by omega) (catenaryref10_Check_l13 3000 ps x) (fun _ p => if fineP x (tagR (chr p)) then none else some 4) (fun j i p hx hi => by
      rw [catenaryref10_Check_l13, if_pos (Qdq hi), Q8, hx]
      simp only [Option.bind_some, QlP x hw h.toShort, QbZ]
      rw [Qac (by omega)]
      by_cases hf : fineP x (tagR (chr p)) = true <;> simp [hf, goS]) (fun j => by rw [catenaryref10_Check_l13, if_neg (by rw [QbU (Nat.le_refl _)]; decide)]) 3000 (by omega),
      Qe4 (fun _ p => fineP x (tagR (chr p))) (4 : Int) ps 0, Qg2]
    have hall : (tagsK x.f0).all (fineP x) = ps.all fun p => fineP x (tagR (chr p)) := by rw [← ht, List.all_map]; rfl
    rw [hall]
    unfold Qb0 Qb1
    rw [QlX x k ⟨by omega, by omega⟩ hkk]
    simp only [Option.bind_some, Qkw, Qj8 x _ h, Qks]
    cases (ps.all fun p => fineP x (tagR (chr p))) <;> cases addrP x.f1 <;> cases addrP x.f2 <;> cases sameB x (bareP (bitsK x.f0) x) <;> rfl
theorem Qia (xs : List M48) (h : ∀ x ∈ xs, ShortR x) (hl : xs.length ≤ 2900) : QaE 3000 xs xs = some true := by
  unfold QaE
  rw [if_neg (by simp), Qi9 sameR xs xs (by omega) rfl (catenarylaw14_Same_l11 3000 xs xs) (fun j i x y hx hy hi => by
    rw [catenarylaw14_Same_l11, if_pos (Qdq hi), Q8, hx]
    rw [hx] at hy
    cases hy
    simp only [Option.bind_some, Qj8 x x (h x (List.mem_of_getElem? hx)), Qco]
    rw [Qac (by omega)]
    cases sameR x x <;> rfl) (fun j => by rw [catenarylaw14_Same_l11, if_neg (by rw [QbU (Nat.le_refl _)]; decide)]) 3000 (by omega), Qfl Qkq]
  rfl
end Go.Proofs.YteiinkhbgpldeaaGreatDoor.Sx
