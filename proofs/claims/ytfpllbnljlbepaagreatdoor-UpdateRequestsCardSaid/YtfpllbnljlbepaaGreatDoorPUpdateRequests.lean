/- The plain law of UpdateRequests: what the walk computes answers true.
   Conditions: those that each theorem states ahead of its colon, and no other. -/
import Derived.Test.YtfpllbnljlbepaaGreatDoorWUpdateRequests
import Derived.Test.YtfpllbnljlbepaaGreatDoorPx
set_option linter.unusedSimpArgs false
set_option linter.unusedVariables false
namespace Go.Proofs.YtfpllbnljlbepaaGreatDoor.Sx
open Go
theorem sameU (u : M26) : letter_SameUpdate u u = some true := by
  unfold letter_SameUpdate letter_SameUpdate_r2 bytes_Equal
  simp [beqS]
theorem eqf1 (k : Nat) (u : M26) : slices_EqualFunc_api_Update_api_Update_api_Update_api_Update (k + 2) [u] [u] = some true := by
  unfold slices_EqualFunc_api_Update_api_Update_api_Update_api_Update slices_EqualFunc_api_Update_api_Update_api_Update_api_Update_r3
  rw [if_neg (by simp), slices_EqualFunc_api_Update_api_Update_api_Update_api_Update_l4, if_pos (by simp), show ix [u] 0 = some u from rfl]
  simp only [Option.bind_some, sameU, Bool.not_true, Bool.false_eq_true, if_false]
  rw [slices_EqualFunc_api_Update_api_Update_api_Update_api_Update_l4, if_neg (by show ¬ decide (IntKind.i64.wrap (0 + 1) < 1) = true; decide)]
  rfl
theorem idx2 (k : Nat) (u : M26) (b : Bool) (h : letter_updates_1 u = some b) : slices_ContainsFunc_api_Update_api_Update (k + 2) [u] = some b := by
  unfold slices_ContainsFunc_api_Update_api_Update slices_IndexFunc_api_Update_api_Update slices_IndexFunc_api_Update_api_Update_r3
  rw [slices_IndexFunc_api_Update_api_Update_l4, if_pos (by simp), show ix [u] 0 = some u from rfl]
  simp only [Option.bind_some, h]
  cases b with
  | true => rfl
  | false =>
    rw [if_neg (by decide), slices_IndexFunc_api_Update_api_Update_l4, if_neg (by show ¬ decide (IntKind.i64.wrap (0 + 1) < 1) = true; decide)]
    rfl
def wfU (u : M26) : Prop := wfInt .u64 u.f0 ∧ wfInt .i64 u.f1 ∧ wfInt .u64 u.f2 ∧ wfInt .i64 u.f3 ∧ wfInt .u32 u.f4 ∧ wfInt .u64 u.f5 ∧ wfSl (wfInt .u8) u.f6
theorem letC2 (k : Nat) (u : M26) (b : Bool) (h : letter_update u = some b) : letter_Check (k + 2) [u] = some (if b then 0 else 4) := by
  have h1 : letter_updates_1 u = some (!b) := by unfold letter_updates_1; rw [h]; rfl
  unfold letter_Check letter_Check_r2 letter_bare letter_bare_1 letter_bare_2 letter_bare_14 letter_Same letter_Same_r2 bytes_Equal_2 letter_updates
  simp only [Option.bind_some, eqf1, idx2 k u _ h1]
  cases b <;> rfl
theorem asked_eq (k : Nat) (u : M26) (hu : wfU u) : update_check (k + 2) u = catenaryref17_check u := by
  obtain ⟨h0, h1, h2, h3, h4, h5, h6⟩ := hu
  have h0 := wfInt_u64.1 h0
  have h2 := wfInt_u64.1 h2
  have h5 := wfInt_u64.1 h5
  unfold update_check update_writes_2 update_writes_2_r2 catenaryref17_check
  obtain ⟨b, hb⟩ : ∃ b, letter_update u = some b := by unfold letter_update; split <;> (try split) <;> exact ⟨_, rfl⟩
  rw [letC2 k u b hb]
  unfold letter_update at hb
  by_cases k2 : u.f3 = 2
  · simp only [k2] at hb ⊢
    by_cases hl : (u.f6.length : Int) > 2048
    · simp [hl]
    · by_cases a0 : u.f0 = 0 <;> by_cases a1 : u.f1 < 1 <;> by_cases a2 : u.f1 > 6 <;> by_cases a3 : u.f2 < 1 <;> by_cases a5 : u.f5 = 0 <;> simp [hl, a0, a1, a2, a3, a5] at hb ⊢ <;> (try subst hb) <;> simp <;> (try (intros; omega)) <;> (try (rw [if_pos (by omega), if_neg (by omega)]))
  · by_cases k3 : u.f3 = 3
    · simp only [k3] at hb ⊢
      by_cases hl : (u.f6.length : Int) > 2048
      · simp [hl]
      · by_cases a0 : u.f0 = 0 <;> by_cases a1 : u.f1 < 1 <;> by_cases a2 : u.f1 > 6 <;> by_cases a3 : u.f2 < 1 <;> simp [hl, a0, a1, a2, a3] at hb ⊢ <;> (try subst hb) <;> simp <;> (try (intros; omega)) <;> (try (rw [if_pos (by omega), if_neg (by omega)]))
    · simp [k2, k3]
theorem ref_same_l (xs : List Int) (hl : xs.length ≤ 100000) : ∀ j i : Nat, xs.length - i < j → i ≤ xs.length → catenaryref01_Same_l13 xs xs j i = some (.inr ()) := by
  intro j
  induction j with
  | zero => intro i h; exact absurd h (by omega)
  | succ j ih =>
    intro i h hi
    rw [catenaryref01_Same_l13]
    rcases place xs i with ⟨x, hx, hd⟩ | ⟨hx, hd⟩
    · have hpl := (List.getElem?_eq_some_iff.1 hx).1
      rw [if_pos hd, ix_nat, hx]
      simp only [Option.bind_some, bne_self_eq_false, catenaryref01_Same_r14, Bool.false_eq_true, if_false]
      rw [next_i64 (by omega)]
      exact ih (i + 1) (by omega) (by omega)
    · rw [if_neg (by rw [hd]; decide)]
theorem ref_same (xs : List Int) (hl : xs.length ≤ 100000) (k : Nat) (hk : xs.length < k) : catenaryref01_Same k xs xs = some true := by
  have h := ref_same_l xs hl k 0 (by omega) (by omega)
  rw [show ((0 : Nat) : Int) = 0 from rfl] at h
  unfold catenaryref01_Same
  rw [if_neg (by simp), h]
  rfl
theorem ref_sameU (u : M26) (hl : u.f6.length ≤ 100000) (k : Nat) (hk : u.f6.length < k) : catenaryref10_SameUpdate k u u = some true := by
  unfold catenaryref10_SameUpdate catenaryref10_SameUpdate_r2
  simp only [beq_self_eq_true, if_true, ref_same u.f6 hl k hk, Option.bind_some]
def wfO (o : M42) : Prop := wfInt .i64 o.f0 ∧ wfInt .u32 o.f1 ∧ wfInt .u64 o.f2 ∧ wfSl (wfInt .u8) o.f3 ∧ wfInt .i64 o.f4
theorem pureUpdateRequests (o : M42) (c n : Int) (ho : wfO o) (hc : wfInt .i64 c) (hn : wfInt .u64 n) : ∃ k, catenarylaw17_UpdateRequests k o c n = some true := by
  refine ⟨3002, ?_⟩
  obtain ⟨h0, h1, h2, h3, h4⟩ := ho
  unfold catenarylaw17_UpdateRequests
  by_cases h : (o.f3.length : Int) > 2100
  · rw [if_pos (by simpa using h)]
  have hu : wfU (M26.mk 0 c n o.f0 o.f1 o.f2 o.f3) := ⟨wfInt_u64.2 ⟨Int.le_refl _, by show (0 : Int) ≤ _; decide⟩, hc, hn, h0, h1, h2, h3⟩
  have ha := asked_eq 3000 _ hu
  obtain ⟨e, he⟩ : ∃ e, catenaryref17_check (M26.mk 0 c n o.f0 o.f1 o.f2 o.f3) = some e := by unfold catenaryref17_check; split <;> (try split) <;> (try split) <;> exact ⟨_, rfl⟩
  have hA : update_Asked 3002 (M26.mk 0 c n o.f0 o.f1 o.f2 o.f3) = some e := by unfold update_Asked; rw [show (3002 : Nat) = 3000 + 2 from rfl, ha, he]; rfl
  rw [if_neg (by simpa using h)]
  unfold update_Request update_Request_r2 bytes_Clone catenaryref17_Request catenaryref17_Asked
  rw [app_some (by simp; omega)]
  simp only [Option.bind_some, List.nil_append, hA, he]
  by_cases hz : e = 0
  · subst hz
    simp only [bne_self_eq_false, Bool.false_eq_true, if_false, Option.bind_some]
    rw [ref_sameU _ (by show o.f3.length ≤ 100000; omega) _ (by show o.f3.length < 3002; omega)]
    simp only [Option.bind_some, if_true, beq_self_eq_true, bne_self_eq_false, Bool.false_eq_true, if_false, hA, catenarylaw17_UpdateRequests_r2]
  · have hz' : (e != 0) = true := by simpa using hz
    simp only [hz', if_true, Option.bind_some]
    rw [ref_sameU _ (by simp) _ (by simp)]
    simp only [Option.bind_some, if_true, beq_self_eq_true, hz', catenarylaw17_UpdateRequests_r2]
end Go.Proofs.YtfpllbnljlbepaaGreatDoor.Sx
