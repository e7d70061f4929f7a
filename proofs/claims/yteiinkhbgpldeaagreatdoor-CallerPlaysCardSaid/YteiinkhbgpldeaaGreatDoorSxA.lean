/- Plain facts for CallerPlays. Conditions: those ahead of each colon. -/
import Derived.Test.YteiinkhbgpldeaaGreatDoorSxT
import Derived.OpenShut
import Derived.WideShapes
set_option linter.unusedSimpArgs false
set_option linter.unusedVariables false
namespace Go.Proofs.YteiinkhbgpldeaaGreatDoor.Sx
open Go
theorem Qk2 {P : Program} {w : World} {r : Reach} {base : Nat} {t : TypeId} {v : Value} {n : Nat} {e : TypeId} (ht : P.underlying t = some (.array n e)) (h : Value.okWide P w r base t v) : ∃ cs, v = .agg cs ∧ cs.size = P.cellsOf t := by
  simp only [Value.okWide, ht] at h
  obtain ⟨cs, h1, h2, _⟩ := h
  exact ⟨cs, h1, h2⟩
theorem fldA {P : Program} {H : Type} {enc : TypeId × Value → H} {w : World} {spare : Nat → Bool} {held : Bool} {fuel : Nat} {cs : List Value} {xs : List (DataW H × List MemPlace)} {n : Nat} {e : TypeId}
    (hf : ∀ i, i < n → DataW.trod enc P w 0 spare held fuel e ((cs.drop (i * P.cellsOf e)).take (P.cellsOf e)) = xs[i]?) (hl : xs.length = n)
    (i o m : Nat) (hi : Nat.blt i n = true) (hm : P.cellsOf e = m) (ho : i * m = o) : ∃ z, DataW.trod enc P w 0 spare held fuel e ((cs.drop o).take m) = some z := by
  have hi' : i < n := Nat.le_of_ble_eq_true hi
  have := hf i hi'
  rw [hm, ho] at this
  exact ⟨_, this.trans (List.getElem?_eq_getElem (by omega))⟩
end Go.Proofs.YteiinkhbgpldeaaGreatDoor.Sx
