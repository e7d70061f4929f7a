/- Plain facts on whole numbers and places of lists. Conditions: those ahead of each colon. -/
import Derived.Test.YteiinkhbgpldeaaGreatDoorSx9
import Derived.Laws.BitsLemmas
import Derived.Laws.Bits64
set_option linter.unusedSimpArgs false
set_option linter.unusedVariables false
namespace Go.Proofs.YteiinkhbgpldeaaGreatDoor.Sx
open Go
theorem Qef {n : Int} : wfInt .u64 n ↔ 0 ≤ n ∧ n ≤ 18446744073709551615 := by
  simp [wfInt, Lit.wf, IntKind.min, IntKind.max, IntKind.bits, IntKind.signed]
theorem QkK {n : Int} : wfInt .i64 n ↔ -9223372036854775808 ≤ n ∧ n ≤ 9223372036854775807 := by
  simp [wfInt, Lit.wf, IntKind.min, IntKind.max, IntKind.bits, IntKind.signed]
theorem Qju {n : Int} : wfInt .u32 n ↔ 0 ≤ n ∧ n ≤ 4294967295 := by
  simp [wfInt, Lit.wf, IntKind.min, IntKind.max, IntKind.bits, IntKind.signed]
theorem w64 {n : Int} (h : -9223372036854775808 ≤ n) (h' : n ≤ 9223372036854775807) : IntKind.i64.wrap n = n := by rw [IntKind.wrap_i64]; omega
theorem Qmz {n : Int} (h : 0 ≤ n) (h' : n ≤ 18446744073709551615) : IntKind.u64.wrap n = n := by rw [IntKind.wrap_u64]; omega
theorem Q8 {α : Type} (xs : List α) (n : Nat) : ix xs (n : Int) = xs[n]? := by simp [ix]
theorem QjY {α : Type} (xs : List α) : ix xs 0 = xs[0]? := by simp [ix]
theorem Qe5 {α : Type} {xs : List α} {n : Nat} {x : α} (h : xs[n]? = some x) : xs.drop n = x :: xs.drop (n + 1) := by
  obtain ⟨hl, he⟩ := List.getElem?_eq_some_iff.1 h
  rw [List.drop_eq_getElem_cons hl, he]
theorem Qac {n : Nat} (h : n < 9223372036854775807) : IntKind.i64.wrap ((n : Int) + 1) = ((n + 1 : Nat) : Int) := by
  rw [w64 (by omega) (by omega)]; omega
theorem Qdp {α : Type} {xs ys : List α} (h : xs.length + ys.length ≤ 4294967296) : app xs ys = some (xs ++ ys) := by simp [app, h]
theorem place {α : Type} (xs : List α) (n : Nat) : (∃ x, xs[n]? = some x ∧ decide ((n : Int) < (xs.length : Int)) = true) ∨ (xs.length ≤ n ∧ decide ((n : Int) < (xs.length : Int)) = false) := by
  by_cases h : n < xs.length
  · exact .inl ⟨_, List.getElem?_eq_getElem h, by simp; omega⟩
  · exact .inr ⟨by omega, by simp; omega⟩
theorem QkX {α : Type} (xs : List α) (n : Nat) (h : n ≤ xs.length) : sl xs 0 (n : Int) = some (xs.take n) := by
  unfold sl
  rw [if_pos ⟨Int.le_refl _, by omega, by omega⟩]
  simp
theorem take_succ' {α : Type} {xs : List α} {n : Nat} {x : α} (h : xs[n]? = some x) : xs.take (n + 1) = xs.take n ++ [x] := by
  rw [List.take_add_one, h]; rfl
end Go.Proofs.YteiinkhbgpldeaaGreatDoor.Sx
