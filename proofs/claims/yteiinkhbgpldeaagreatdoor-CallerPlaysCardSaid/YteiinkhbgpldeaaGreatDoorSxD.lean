/- Deletion within a row. Conditions: those ahead of each colon. -/
import Derived.Test.YteiinkhbgpldeaaGreatDoorSxR
set_option linter.unusedSimpArgs false
set_option linter.unusedVariables false
namespace Go.Proofs.YteiinkhbgpldeaaGreatDoor.Sx
open Go
variable {P : Program} {ops : Array Oper} {Q : Exit → Act → World → Prop} {n : Nat} {g w : World} {L : List Ch} {ih : IH} {a : Act} {e : Env} {rest : List Oper} {dfs : List Deferred} {ro : Option Nat}
def Holds (E : ET) (ih : IH) (cur : List Value) (xs : List E.α) : Prop := ∀ i x, xs[i]? = some x → ∃ cs, E.enc ih x cs ∧ ∀ j v, cs[j]? = some v → cur[i * E.sz + j]? = some v
theorem Holds.take {E : ET} {cur : List Value} {xs : List E.α} (h : Holds E ih cur xs) (m : Nat) : Holds E ih cur (xs.take m) := fun i x hx => by
  rw [List.getElem?_take] at hx
  split at hx
  · exact h i x hx
  · cases hx
theorem Holds.app {E : ET} {cur us : List Value} {xs ys : List E.α} (h : Holds E ih cur xs) (hc : xs.length * E.sz ≤ cur.length) (hys : ∀ i x, ys[i]? = some x → ∃ cs, E.enc ih x cs ∧ ∀ j v, cs[j]? = some v → us[i * E.sz + j]? = some v) (tl : List Value) :
    Holds E ih (cur.take (xs.length * E.sz) ++ us ++ tl) (xs ++ ys) := by
  intro i x hx
  have hl1 : (cur.take (xs.length * E.sz)).length = xs.length * E.sz := by rw [List.length_take]; omega
  rw [List.getElem?_append] at hx
  split at hx
  · rename_i hlt
    obtain ⟨cs, he, hcs⟩ := h i x hx
    refine ⟨cs, he, fun j v hj => ?_⟩
    have hjl := (List.getElem?_eq_some_iff.1 hj).1
    rw [E.len he] at hjl
    have hb : i * E.sz + j < xs.length * E.sz := by
      have : (i + 1) * E.sz ≤ xs.length * E.sz := Nat.mul_le_mul_right _ hlt
      rw [Nat.add_mul] at this; omega
    rw [List.append_assoc, List.getElem?_append_left (by omega), List.getElem?_take, if_pos hb]
    exact hcs j v hj
  · rename_i hge
    obtain ⟨cs, he, hcs⟩ := hys _ x hx
    refine ⟨cs, he, fun j v hj => ?_⟩
    have h0 := hcs j v hj
    have h1 := (List.getElem?_eq_some_iff.1 h0).1
    have hmul : i * E.sz = xs.length * E.sz + (i - xs.length) * E.sz := by rw [← Nat.add_mul]; congr 1; omega
    rw [List.append_assoc, List.getElem?_append_right (by omega), hl1, hmul, show xs.length * E.sz + (i - xs.length) * E.sz + j - xs.length * E.sz = (i - xs.length) * E.sz + j by omega, List.getElem?_append_left h1]
    exact h0
variable {J : Act → World → Prop} {S : Array Bool → World → Prop} {fuel : Nat} {l : Array Bool}
end Go.Proofs.YteiinkhbgpldeaaGreatDoor.Sx
