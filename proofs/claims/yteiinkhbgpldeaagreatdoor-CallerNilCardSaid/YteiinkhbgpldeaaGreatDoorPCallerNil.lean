/- The plain law of CallerNil: what the walk computes answers true.
   Conditions: those that each theorem states ahead of its colon, and no other. -/
import Derived.Test.YteiinkhbgpldeaaGreatDoorWCallerNil
import Derived.Test.YteiinkhbgpldeaaGreatDoorPx
set_option linter.unusedSimpArgs false
set_option linter.unusedVariables false
namespace Go.Proofs.YteiinkhbgpldeaaGreatDoor.Sx
open Go
theorem far_l (x : M48) : ∀ j i : Nat, 9 - i < j → i ≤ 9 → ∃ r, catenarylaw14_Far_l4 x j i = some r := by
  intro j
  induction j with
  | zero => intro i h; exact absurd h (by omega)
  | succ j ih =>
    intro i h hi
    rw [catenarylaw14_Far_l4]
    rcases place x.f16 i with ⟨u, hu, hd⟩ | ⟨hl, hd⟩
    · rw [hd]
      by_cases hc : i < 9
      · rw [if_pos (by simp; omega), ix_nat, hu, Option.bind_some]
        by_cases hz : decide ((u.f6.length : Int) > 2100) = true
        · rw [if_pos hz]; exact ⟨_, rfl⟩
        · rw [if_neg hz, next_i64 (by omega)]
          exact ih (i + 1) (by omega) (by omega)
      · rw [if_neg (by simp; omega)]; exact ⟨_, rfl⟩
    · rw [hd, if_neg (by simp)]; exact ⟨_, rfl⟩
theorem far_some (x : M48) : ∃ b, catenarylaw14_Far 3000 x = some b := by
  unfold catenarylaw14_Far catenarylaw14_Far_r3
  obtain ⟨r, hr⟩ := far_l x 3000 0 (by omega) (by omega)
  rw [show ((0 : Nat) : Int) = 0 from rfl] at hr
  rw [hr, Option.bind_some]
  cases r <;> exact ⟨_, rfl⟩
theorem awake26 : catenarylaw26_awake 3000 = some true := by kernel_rfl
theorem pureCallerNil {A B : Prop} (o : M26) (l : M48) (_ : A) (_ : B) : ∃ k, catenarylaw26_CallerNil k o l = some true := by
  refine ⟨3000, ?_⟩
  unfold catenarylaw26_CallerNil
  obtain ⟨b, hb⟩ := far_some l
  rw [hb, Option.bind_some]
  have hr : ∀ s, catenarylaw26_CallerNil_r4 3000 s = some true := by
    intro s
    unfold catenarylaw26_CallerNil_r4
    rw [awake26]
    cases s <;> rfl
  cases b
  · rw [if_neg (by decide), Option.bind_some]; exact hr _
  · rw [if_pos rfl, Option.bind_some]; exact hr _
end Go.Proofs.YteiinkhbgpldeaaGreatDoor.Sx
