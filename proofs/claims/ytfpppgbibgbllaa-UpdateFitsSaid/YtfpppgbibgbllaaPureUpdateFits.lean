/- The plain law of UpdateFits: what the walk computes answers true.
   Conditions: those that each theorem states ahead of its colon, and no other. -/
import Derived.Test.YtfpppgbibgbllaaWalkUpdateFits
import Derived.Test.YtfpppgbibgbllaaPx
namespace Go.Proofs.Ytfpppgbibgbllaa.Sx
open Go
abbrev wfU (x : M34) : Prop := wfInt .u64 x.f0 ∧ wfInt .i64 x.f1 ∧ wfInt .u64 x.f2 ∧ wfInt .i64 x.f3 ∧ wfInt .u32 x.f4 ∧ wfInt .u64 x.f5 ∧ wfSl (wfInt .u8) x.f6

theorem far_l (l : List M34) (hl : l.length ≤ 9223372036854775807) : ∀ j n : Nat, l.length - n < j → catenarylaw17_far_l4 l j n = some (.inl true) ∨
    (catenarylaw17_far_l4 l j n = some (.inr ()) ∧ ∀ x ∈ l.drop n, x.f6.length ≤ 2100) := by
  intro j
  induction j with
  | zero =>
    intro n h
    exact absurd h (by omega)
  | succ j ih =>
    intro n h
    rw [catenarylaw17_far_l4]
    rcases place l n with ⟨x, hx, hd⟩ | ⟨hx, hd⟩
    · have hlt := (List.getElem?_eq_some_iff.1 hx).1
      rw [if_pos hd, ix_nat, hx, Option.bind_some]
      by_cases h1 : (decide ((x.f6.length : Int) > 2100)) = true
      · rw [if_pos h1]; exact .inl rfl
      · rw [if_neg h1, next_i64 (by omega)]
        rcases ih (n + 1) (by omega) with h2 | ⟨h2, h3⟩
        · exact .inl h2
        · refine .inr ⟨h2, fun y hy => ?_⟩
          rw [drop_cons hx] at hy
          rcases List.mem_cons.1 hy with rfl | hy
          · simp at h1; omega
          · exact h3 y hy
    · rw [if_neg (by rw [hd]; decide)]
      refine .inr ⟨rfl, fun y hy => ?_⟩
      rw [List.drop_eq_nil_of_le hx] at hy
      cases hy

theorem far_is (l : List M34) (hl : l.length ≤ 9223372036854775807) (k : Nat) (hk : l.length < k) : catenarylaw17_far k l = some true ∨
    (catenarylaw17_far k l = some false ∧ l.length ≤ 40 ∧ ∀ x ∈ l, x.f6.length ≤ 2100) := by
  unfold catenarylaw17_far catenarylaw17_far_r3
  rcases far_l l hl k 0 (by omega) with h | ⟨h, h2⟩
  · rw [show ((0 : Nat) : Int) = 0 from rfl] at h
    rw [h]; exact .inl rfl
  · rw [show ((0 : Nat) : Int) = 0 from rfl] at h
    rw [h]
    by_cases h3 : l.length ≤ 40
    · exact .inr ⟨by simp; omega, h3, by simpa using h2⟩
    · exact .inl (by simp; omega)

def badU (u : M34) (a : Int) : Bool := (u.f0 == 0) || ((IntKind.u64.wrap (u.f0 - 1)) != a)
def pickU : List M34 → Int → List M34
  | [], _ => []
  | u :: us, a => if badU u a = true then pickU us a else u :: pickU us u.f0
def runsU : List M34 → Int → Bool
  | [], _ => true
  | u :: us, a => if badU u a = true then false else runsU us u.f0
theorem runs_pick : ∀ (l : List M34) (a : Int), runsU (pickU l a) a = true
  | [], _ => rfl
  | u :: us, a => by
    rw [pickU]
    by_cases h : badU u a = true
    · rw [if_pos h]; exact runs_pick us a
    · rw [if_neg h, runsU, if_neg h]; exact runs_pick us _
theorem pick_runs : ∀ (l : List M34) (a : Int), runsU l a = true → pickU l a = l
  | [], _, _ => rfl
  | u :: us, a, h => by
    rw [runsU] at h
    by_cases hb : badU u a = true
    · rw [if_pos hb] at h; cases h
    · rw [if_neg hb] at h
      rw [pickU, if_neg hb, pick_runs us _ h]
theorem pick_sub : ∀ (l : List M34) (a : Int), (∀ x ∈ pickU l a, x ∈ l) ∧ (pickU l a).length ≤ l.length
  | [], _ => ⟨fun x h => (by cases h), Nat.le_refl _⟩
  | u :: us, a => by
    rw [pickU]
    split
    · obtain ⟨h1, h2⟩ := pick_sub us a
      exact ⟨fun x h => List.mem_cons_of_mem _ (h1 x h), by simp only [List.length_cons]; omega⟩
    · obtain ⟨h1, h2⟩ := pick_sub us u.f0
      refine ⟨fun x h => ?_, by simp only [List.length_cons]; omega⟩
      rcases List.mem_cons.1 h with rfl | h
      · exact List.mem_cons_self
      · exact List.mem_cons_of_mem _ (h1 x h)

theorem runs_l (l : List M34) (hl : l.length ≤ 9223372036854775807) (hw : ∀ x ∈ l, wfInt .u64 x.f0) (at_ : Int) : ∀ j n : Nat, l.length - n < j →
    update_Runs_l4 l at_ j n = some (if runsU (l.drop n) (IntKind.u64.wrap (at_ + n)) = true then .inr () else .inl false) := by
  intro j
  induction j with
  | zero => intro n h; exact absurd h (by omega)
  | succ j ih =>
    intro n h
    rw [update_Runs_l4]
    rcases place l n with ⟨x, hx, hd⟩ | ⟨hx, hd⟩
    · have hlt := (List.getElem?_eq_some_iff.1 hx).1
      rw [if_pos hd, ix_nat, hx, Option.bind_some, wu64 (n := (n : Int)) (by omega) (by omega), drop_cons hx, runsU]
      have e : ((x.f0 == 0) || ((IntKind.u64.wrap (x.f0 - 1)) != (IntKind.u64.wrap (at_ + n)))) = badU x (IntKind.u64.wrap (at_ + n)) := rfl
      rw [e]
      by_cases hb : badU x (IntKind.u64.wrap (at_ + n)) = true
      · rw [if_pos hb, if_pos hb, if_neg (by decide)]
      · rw [if_neg hb, if_neg hb, next_i64 (by omega), ih (n + 1) (by omega)]
        have h2 := wfInt_u64.1 (hw x (List.mem_of_getElem? hx))
        simp only [badU, Bool.or_eq_true, beq_iff_eq, bne_iff_ne, ne_eq, not_or, Classical.not_not] at hb
        have e3 : IntKind.u64.wrap (at_ + ((n + 1 : Nat) : Int)) = x.f0 := by
          obtain ⟨hb1, hb2⟩ := hb
          rw [IntKind.wrap_u64] at hb2 ⊢
          rw [IntKind.wrap_u64] at hb2
          omega
        rw [e3]
    · rw [if_neg (by rw [hd]; decide), List.drop_eq_nil_of_le hx]
      rfl
theorem runs_is (l : List M34) (hl : l.length ≤ 9223372036854775807) (hw : ∀ x ∈ l, wfInt .u64 x.f0) (a : Int) (ha : wfInt .u64 a) (k : Nat) (hk : l.length < k) : update_Runs k l a = some (runsU l a) := by
  have ha := wfInt_u64.1 ha
  have h := runs_l l hl hw a k 0 (by omega)
  rw [show ((0 : Nat) : Int) = 0 from rfl, Int.add_zero, wu64 ha.1 ha.2, List.drop_zero] at h
  unfold update_Runs update_Runs_r3
  rw [h]
  cases runsU l a <;> rfl

theorem pick_l (l : List M34) (hl : l.length ≤ 40) (hd : ∀ x ∈ l, x.f6.length ≤ 2100) : ∀ (j n : Nat) (acc : List M34) (a : Int), l.length - n < j → acc.length ≤ n →
    ∃ b, update_pick_l11 l j acc n a = some (acc ++ pickU (l.drop n) a, b) := by
  intro j
  induction j with
  | zero => intro n acc a h _; exact absurd h (by omega)
  | succ j ih =>
    intro n acc a h hacc
    rw [update_pick_l11]
    rcases place l n with ⟨x, hx, hdd⟩ | ⟨hx, hdd⟩
    · have hlt := (List.getElem?_eq_some_iff.1 hx).1
      rw [if_pos hdd, ix_nat, hx, Option.bind_some, drop_cons hx, pickU]
      unfold update_Fits_1
      have e : ((x.f0 == 0) || ((IntKind.u64.wrap (x.f0 - 1)) != a)) = badU x a := rfl
      rw [e]
      by_cases hb : badU x a = true
      · rw [if_pos hb, if_pos hb]
        obtain ⟨b, hb2⟩ := ih (n + 1) acc a (by omega) (by omega)
        refine ⟨b, ?_⟩
        simp only [Option.bind_some, update_pick_r12, Bool.false_eq_true, if_false]
        rw [next_i64 (by omega)]; exact hb2
      · rw [if_neg hb, if_neg hb]
        have hd6 := hd x (List.mem_of_getElem? hx)
        have hc : bytes_Clone x.f6 = some x.f6 := by
          unfold bytes_Clone; rw [app_some (by simp; omega)]; rfl
        obtain ⟨b, hb2⟩ := ih (n + 1) (acc ++ [x]) x.f0 (by omega) (by simp; omega)
        refine ⟨b, ?_⟩
        simp only [Option.bind_some, if_true, hc]
        rw [app_some (by simp; omega)]
        simp only [Option.bind_some, update_pick_r12]
        rw [next_i64 (by omega)]
        have e2 : acc ++ x :: pickU (l.drop (n + 1)) x.f0 = (acc ++ [x]) ++ pickU (l.drop (n + 1)) x.f0 := by simp
        rw [e2]; exact hb2
    · rw [if_neg (by rw [hdd]; decide), List.drop_eq_nil_of_le hx]
      exact ⟨a, by simp [pickU]⟩
theorem fits_is (l : List M34) (hl : l.length ≤ 40) (hd : ∀ x ∈ l, x.f6.length ≤ 2100) (a : Int) (k : Nat) (hk : l.length < k) : update_Fits k l a = some (pickU l a) := by
  obtain ⟨b, h⟩ := pick_l l hl hd k 0 [] a (by omega) (by simp)
  unfold update_Fits update_pick update_pick_r10
  rw [show ((0 : Nat) : Int) = 0 from rfl] at h
  rw [h]; rfl

theorem awake_is (k : Nat) : catenarylaw17_awake (k + 1) = some true := by rfl

theorem r8_is (k : Nat) (v : Int) (hv : wfInt .u64 v) : catenarylaw17_UpdateFits_r8 (k + 1) v false = some true := by
  have hv := wfInt_u64.1 hv
  unfold catenarylaw17_UpdateFits_r8
  rw [if_neg (by decide)]
  have e1 : update_Outcome (M34.mk 0 0 0 2 0 0 ([])) v true = if (v == 18446744073709551615) = true then some (9, v, false) else some (0, IntKind.u64.wrap (v + 1), true) := by
    unfold update_Outcome update_writes update_writes_r2
    by_cases h : (v == 0) = true
    · have : v = 0 := by simpa using h
      subst this; rfl
    · have : (v == 0) = false := by simpa using h
      simp [this]
  rw [e1]
  by_cases h : v = 18446744073709551615
  · subst h; rfl
  · rw [if_neg (by simpa using h), wu64 (by omega) (by omega), Option.bind_some]
    have e2 : update_Outcome (M34.mk 0 0 0 3 0 (v + 1) ([])) (v + 1) false = if ((v + 1) == 18446744073709551615) = true then some (9, v + 1, false) else some (0, IntKind.u64.wrap (v + 1 + 1), true) := by
      unfold update_Outcome update_writes update_writes_r2
      have : (v + 1 == 0) = false := by simp; omega
      simp [this]
    simp only [e2]
    by_cases h3 : v + 1 = 18446744073709551615
    · rw [h3]; rfl
    · have h4 : (v + 1 == 18446744073709551615) = false := by simpa using h3
      simp [h4, awake_is, catenarylaw17_UpdateFits_r7]

theorem pureUpdateFits (l : List M34) (a v : Int) (hl : wfSl wfU l) (ha : wfInt .u64 a) (hv : wfInt .u64 v) : ∃ k, catenarylaw17_UpdateFits k l a v = some true := by
  obtain ⟨hl, hw⟩ := hl
  refine ⟨l.length + 1, ?_⟩
  have hw0 : ∀ x ∈ l, wfInt .u64 x.f0 := fun x hx => (hw x hx).1
  unfold catenarylaw17_UpdateFits
  rcases far_is l hl (l.length + 1) (by omega) with h | ⟨h, h40, h21⟩
  · rw [h]; simp [awake_is]
  · rw [h, Option.bind_some, if_neg (by decide), fits_is l h40 h21 a _ (by omega), Option.bind_some]
    obtain ⟨hp1, hp2⟩ := pick_sub l a
    rw [runs_is (pickU l a) (by omega) (fun x hx => hw0 x (hp1 x hx)) a ha _ (by omega), runs_pick, runs_is l hl hw0 a ha _ (by omega)]
    by_cases h2 : runsU l a = true
    · rw [h2, pick_runs l a h2]
      simp [r8_is _ v hv]
    · have h2 : runsU l a = false := by simpa using h2
      rw [h2]
      simp [r8_is _ v hv]
end Go.Proofs.Ytfpppgbibgbllaa.Sx
