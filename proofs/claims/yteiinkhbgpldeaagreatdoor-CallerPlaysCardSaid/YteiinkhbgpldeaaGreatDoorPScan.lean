/- The plain law of CallerPlays. Conditions: those ahead of each colon. -/
import Derived.Test.YteiinkhbgpldeaaGreatDoorPx
set_option linter.unusedSimpArgs false
set_option linter.unusedVariables false
namespace Go.Proofs.YteiinkhbgpldeaaGreatDoor.Sx
open Go
def firstS {α β : Type} (stop : Nat → α → Option β) : Nat → List α → Option β
  | _, [] => none
  | i, x :: l => match stop i x with
    | some b => some b
    | none => firstS stop (i + 1) l
def goS {β : Type} (o : Option β) (r : Option (Sum β Unit)) : Option (Sum β Unit) := match o with
  | some b => some (.inl b)
  | none => r
def sumS {β : Type} : Option β → Sum β Unit
  | some b => .inl b
  | none => .inr ()
theorem scan {α β : Type} (xs : List α) (hl : xs.length ≤ 1000000) (f : Nat → Int → Option (Sum β Unit)) (stop : Nat → α → Option β)
    (hs : ∀ (j i : Nat) x, xs[i]? = some x → i < xs.length → f (j + 1) (i : Int) = goS (stop i x) (f j ((i + 1 : Nat) : Int)))
    (he : ∀ j : Nat, f (j + 1) (xs.length : Int) = some (.inr ())) : ∀ j i : Nat, xs.length - i < j → i ≤ xs.length → f j (i : Int) = some (sumS (firstS stop i (xs.drop i))) := by
  intro j
  induction j with
  | zero => intro i h; exact absurd h (by omega)
  | succ j ih =>
    intro i h hi
    rcases place xs i with ⟨x, hx, hd⟩ | ⟨hx, hd⟩
    · have hpl := (List.getElem?_eq_some_iff.1 hx).1
      rw [hs j i x hx hpl, Qe5 hx, firstS]
      cases hst : stop i x with
      | some b => rfl
      | none => exact ih (i + 1) (by omega) (by omega)
    · have : i = xs.length := by omega
      subst this
      rw [he, List.drop_length]; rfl
theorem QjT {α β : Type} (xs : List α) (hl : xs.length ≤ 1000000) (f : Nat → Int → Option (Sum β Unit)) (stop : Nat → α → Option β)
    (hs : ∀ (j i : Nat) x, xs[i]? = some x → i < xs.length → f (j + 1) (i : Int) = goS (stop i x) (f j ((i + 1 : Nat) : Int)))
    (he : ∀ j : Nat, f (j + 1) (xs.length : Int) = some (.inr ())) (k : Nat) (hk : xs.length < k) : f k 0 = some (sumS (firstS stop 0 xs)) := by
  have := scan xs hl f stop hs he k 0 (by omega) (by omega)
  rwa [show ((0 : Nat) : Int) = 0 from rfl, List.drop_zero] at this
def allI {α : Type} (p : Nat → α → Bool) : Nat → List α → Bool
  | _, [] => true
  | i, x :: l => p i x && allI p (i + 1) l
theorem Qe4 {α β : Type} (p : Nat → α → Bool) (b : β) : ∀ (l : List α) (i : Nat), firstS (fun i x => if p i x then none else some b) i l = if allI p i l then none else some b
  | [], _ => rfl
  | x :: l, i => by
    rw [firstS, allI]
    cases hp : p i x with
    | false => simp
    | true => simp only [if_true, Bool.true_and]; exact Qe4 p b l (i + 1)
theorem Qg2 {α : Type} (p : α → Bool) : ∀ (l : List α) (i : Nat), allI (fun _ x => p x) i l = l.all p
  | [], _ => rfl
  | x :: l, i => by rw [allI, List.all_cons, Qg2 p l]
def eqL {α : Type} (p : α → α → Bool) : List α → List α → Bool
  | [], [] => true
  | x :: xs, y :: ys => p x y && eqL p xs ys
  | _, _ => false
theorem Qfl {α : Type} {p : α → α → Bool} (h : ∀ x, p x x = true) : ∀ xs : List α, eqL p xs xs = true
  | [] => rfl
  | x :: xs => by rw [eqL, h, Qfl h xs]; rfl
theorem QgH {α : Type} {p : α → α → Bool} : ∀ {xs ys : List α}, eqL p xs ys = true → xs.length = ys.length
  | [], [], _ => rfl
  | x :: xs, y :: ys, h => by
    rw [eqL, Bool.and_eq_true] at h
    rw [List.length_cons, List.length_cons, QgH h.2]
  | [], _ :: _, h => by cases h
  | _ :: _, [], h => by cases h
theorem Qj0 {α : Type} (p : α → α → Bool) (xs : List α) : eqL p xs [] = xs.isEmpty := by cases xs <;> rfl
theorem Qki {α : Type} (p : α → α → Bool) (ys : List α) : ∀ (xs : List α) (i : Nat), xs.length = (ys.drop i).length → allI (fun i x => match ys[i]? with | some y => p x y | none => false) i xs = eqL p xs (ys.drop i)
  | [], i, h => by
    have h0 : ys.drop i = [] := List.eq_nil_of_length_eq_zero (by rw [← h]; rfl)
    rw [h0]; rfl
  | x :: xs, i, h => by
    have hlt : i < ys.length := by
      rw [List.length_drop, List.length_cons] at h; omega
    have hy : ys[i]? = some ys[i] := List.getElem?_eq_getElem hlt
    rw [allI, Qe5 hy, eqL, hy]
    simp only
    rw [Qki p ys xs (i + 1) (by rw [List.length_drop] at h ⊢; rw [List.length_cons] at h; omega)]
theorem Qi9 {α : Type} (p : α → α → Bool) (xs ys : List α) (hl : xs.length ≤ 1000000) (hxy : xs.length = ys.length) (f : Nat → Int → Option (Sum Bool Unit))
    (hs : ∀ (j i : Nat) x y, xs[i]? = some x → ys[i]? = some y → i < xs.length → f (j + 1) (i : Int) = if p x y then f j ((i + 1 : Nat) : Int) else some (.inl false))
    (he : ∀ j : Nat, f (j + 1) (xs.length : Int) = some (.inr ())) (k : Nat) (hk : xs.length < k) : f k 0 = some (if eqL p xs ys then .inr () else .inl false) := by
  rw [QjT xs hl f (fun i x => if (match ys[i]? with | some y => p x y | none => false) then none else some false) (fun j i x hx hi => by
    obtain ⟨y, hy⟩ : ∃ y, ys[i]? = some y := ⟨_, List.getElem?_eq_getElem (by omega)⟩
    rw [hs j i x y hx hy hi, hy]
    by_cases hp : p x y = true
    · simp only [hp, if_true]; rfl
    · simp only [hp, if_false, Bool.false_eq_true]; rfl) he k hk, Qe4, Qki p ys xs 0 (by rw [List.drop_zero, hxy]), List.drop_zero]
  cases eqL p xs ys <;> rfl
theorem Qdq {n : Nat} {m : Nat} (h : n < m) : decide ((n : Int) < (m : Int)) = true := by simp; omega
theorem QbU {n : Nat} {m : Nat} (h : m ≤ n) : decide ((n : Int) < (m : Int)) = false := by simp; omega
theorem bindIf {α β : Type} (c : Prop) [Decidable c] (a b : α) (f : α → Option β) : (if c then some a else some b).bind f = f (if c then a else b) := by split <;> rfl
end Go.Proofs.YteiinkhbgpldeaaGreatDoor.Sx
