/- The plain law of RoleReports: what the walk computes answers true.
   Conditions: those that each theorem states ahead of its colon, and no other. -/
import Derived.Test.YtfpppgbibgbllaaWRoleReports
import Derived.Test.YtfpppgbibgbllaaPx
namespace Go.Proofs.Ytfpppgbibgbllaa.Sx
open Go
/-- is v in the list? -/
theorem Has_l (xs : List Int) (v : Int) (hl : xs.length ≤ 4294967296) : ∀ j n : Nat, xs.length - n < j → catenaryref04_Has_l4 xs v j n = some (if v ∈ xs.drop n then .inl true else .inr ()) := by
  intro j
  induction j with
  | zero => intro n h; exact absurd h (by omega)
  | succ j ih =>
    intro n h
    rw [catenaryref04_Has_l4]
    rcases place xs n with ⟨x, hx, hd⟩ | ⟨hx, hd⟩
    · have hlt := (List.getElem?_eq_some_iff.1 hx).1
      rw [if_pos hd, ix_nat, hx, Option.bind_some, drop_cons hx]
      by_cases hv : x = v
      · subst hv; simp
      · have hv' : ¬ v = x := fun h => hv h.symm
        rw [if_neg (by simpa using hv), next_i64 (by omega), ih (n + 1) (by omega)]
        simp [hv']
    · rw [if_neg (by rw [hd]; decide), List.drop_eq_nil_of_le hx]; simp
theorem Has_is (xs : List Int) (v : Int) (hl : xs.length ≤ 4294967296) (k : Nat) (hk : xs.length < k) : catenaryref04_Has k xs v = some (decide (v ∈ xs)) := by
  have h := Has_l xs v hl k 0 (by omega)
  rw [show ((0 : Nat) : Int) = 0 from rfl, List.drop_zero] at h
  unfold catenaryref04_Has catenaryref04_Has_r3
  rw [h]
  by_cases hv : v ∈ xs <;> simp [hv]
theorem Index_l (xs : List Int) (v : Int) (hl : xs.length ≤ 4294967296) : ∀ j n : Nat, xs.length - n < j → v ∉ xs.take n → slices_Index_int_int_l4 xs v j n = some (if v ∈ xs then .inl (xs.idxOf v : Int) else .inr ()) := by
  intro j
  induction j with
  | zero => intro n h; exact absurd h (by omega)
  | succ j ih =>
    intro n h hn
    rw [slices_Index_int_int_l4]
    rcases place xs n with ⟨x, hx, hd⟩ | ⟨hx, hd⟩
    · have hlt := (List.getElem?_eq_some_iff.1 hx).1
      rw [if_pos hd, ix_nat, hx, Option.bind_some]
      by_cases hv : v = x
      · subst hv
        have h1 : xs.idxOf v = n := by
          conv => lhs; rw [← List.take_append_drop n xs]
          rw [List.idxOf_append, if_neg hn, drop_cons hx, List.idxOf_cons_self]
          simp; omega
        rw [if_pos (by simp), if_pos (List.mem_of_getElem? hx), h1]
      · rw [if_neg (by simpa using hv), next_i64 (by omega), ih (n + 1) (by omega)]
        rw [take_succ' hx]
        simpa using ⟨hn, hv⟩
    · rw [List.take_of_length_le hx] at hn
      rw [if_neg (by rw [hd]; decide), if_neg hn]
theorem Index_is (xs : List Int) (v : Int) (hl : xs.length ≤ 4294967296) (k : Nat) (hk : xs.length < k) : slices_Index_int_int k xs v = some (if v ∈ xs then (xs.idxOf v : Int) else -1) := by
  have h := Index_l xs v hl k 0 (by omega) (by simp)
  rw [show ((0 : Nat) : Int) = 0 from rfl] at h
  unfold slices_Index_int_int slices_Index_int_int_r3
  rw [h]
  by_cases hv : v ∈ xs <;> simp [hv]
theorem Contains_is (xs : List Int) (v : Int) (hl : xs.length ≤ 4294967296) (k : Nat) (hk : xs.length < k) : slices_Contains_int_int k xs v = some (decide (v ∈ xs)) := by
  unfold slices_Contains_int_int
  rw [Index_is xs v hl k hk]
  by_cases hv : v ∈ xs <;> simp [hv]

def goodL (xs : List Int) : Prop := (∀ x ∈ xs, 1 ≤ x ∧ x ≤ 24) ∧ xs.Nodup
instance (xs : List Int) : Decidable (goodL xs) := inferInstanceAs (Decidable (_ ∧ _))
theorem good_snoc {xs : List Int} {x : Int} : goodL (xs ++ [x]) ↔ goodL xs ∧ (1 ≤ x ∧ x ≤ 24) ∧ x ∉ xs := by
  unfold goodL
  constructor
  · rintro ⟨h1, h2⟩
    rw [List.nodup_append] at h2
    refine ⟨⟨fun y hy => h1 y (by simp [hy]), h2.1⟩, h1 x (by simp), fun hx => h2.2.2 x hx x (by simp) rfl⟩
  · rintro ⟨⟨h1, h2⟩, h3, h4⟩
    refine ⟨fun y hy => ?_, ?_⟩
    · rcases List.mem_append.1 hy with hy | hy
      · exact h1 y hy
      · rw [List.mem_singleton.1 hy]; exact h3
    · rw [List.nodup_append]
      exact ⟨h2, by simp, fun a ha b hb => by rw [List.mem_singleton.1 hb]; rintro rfl; exact h4 ha⟩
theorem good_take {xs : List Int} (n : Nat) (h : goodL xs) : goodL (xs.take n) :=
  ⟨fun x hx => h.1 x (List.mem_of_mem_take hx), h.2.sublist (List.take_sublist n xs)⟩

theorem unlikeC_l (xs : List Int) (hl : xs.length ≤ 1000) (k : Nat) (hk : xs.length < k) : ∀ j n : Nat, xs.length - n < j → goodL (xs.take n) → conf_unlike_l11 k xs j n = some (if goodL xs then .inr () else .inl false) := by
  intro j
  induction j with
  | zero => intro n h; exact absurd h (by omega)
  | succ j ih =>
    intro n h hn
    rw [conf_unlike_l11]
    rcases place xs n with ⟨x, hx, hd⟩ | ⟨hx, hd⟩
    · have hlt := (List.getElem?_eq_some_iff.1 hx).1
      have hno : ¬ goodL (xs.take (n + 1)) → ¬ goodL xs := fun h1 h2 => h1 (good_take _ h2)
      rw [take_succ' hx, good_snoc] at hno
      rw [if_pos hd, ix_nat, hx, Option.bind_some]
      unfold conf_node
      by_cases h1 : 1 ≤ x ∧ x ≤ 24
      · have e1 : ((decide (x ≥ 1)) && (decide (x ≤ 24))) = true := by simp; omega
        rw [e1, Option.bind_some, sl_take xs n (by omega), if_neg (by decide), Option.bind_some, Contains_is (xs.take n) x (by simp; omega) k (by simp; omega)]
        by_cases h2 : x ∈ xs.take n
        · have := hno (fun hh => hh.2.2 h2)
          simp [h2, this, conf_unlike_r12]
        · simp only [h2, decide_false, Option.bind_some, conf_unlike_r12, Bool.false_eq_true, if_false]
          rw [next_i64 (by omega)]
          exact ih (n + 1) (by omega) (by rw [take_succ' hx, good_snoc]; exact ⟨hn, h1, h2⟩)
      · have e1 : ((decide (x ≥ 1)) && (decide (x ≤ 24))) = false := by
          rw [Bool.eq_false_iff]; intro hc; simp at hc; exact h1 hc
        have := hno (fun hh => h1 hh.2.1)
        rw [e1]
        simp [this, conf_unlike_r12]
    · rw [List.take_of_length_le hx] at hn
      rw [if_neg (by rw [hd]; decide), if_pos hn]
theorem unlikeC_is (xs : List Int) (hl : xs.length ≤ 1000) (k : Nat) (hk : xs.length < k) : conf_unlike k xs = some (decide (goodL xs)) := by
  have h := unlikeC_l xs hl k hk k 0 (by omega) ⟨by simp, by simp⟩
  rw [show ((0 : Nat) : Int) = 0 from rfl] at h
  unfold conf_unlike conf_unlike_r10
  rw [h]
  by_cases hg : goodL xs <;> simp [hg]
theorem unlikeR_l (xs : List Int) (hl : xs.length ≤ 1000) (k : Nat) (hk : xs.length < k) : ∀ j n : Nat, xs.length - n < j → goodL (xs.take n) → catenaryref09_Unlike_l11 k xs j n = some (if goodL xs then .inr () else .inl false) := by
  intro j
  induction j with
  | zero => intro n h; exact absurd h (by omega)
  | succ j ih =>
    intro n h hn
    rw [catenaryref09_Unlike_l11]
    rcases place xs n with ⟨x, hx, hd⟩ | ⟨hx, hd⟩
    · have hlt := (List.getElem?_eq_some_iff.1 hx).1
      have hno : ¬ goodL (xs.take (n + 1)) → ¬ goodL xs := fun h1 h2 => h1 (good_take _ h2)
      rw [take_succ' hx, good_snoc] at hno
      rw [if_pos hd, ix_nat, hx]
      simp only [Option.bind_some]
      by_cases h1 : x < 1
      · have := hno (fun hh => by omega)
        simp [h1, this, catenaryref09_Unlike_r12]
      · by_cases h1' : x > 24
        · have := hno (fun hh => by omega)
          simp [h1', this, catenaryref09_Unlike_r12]
        · rw [if_neg (by simpa using h1), if_neg (by simpa using h1'), sl_take xs n (by omega), Option.bind_some, Has_is (xs.take n) x (by simp; omega) k (by simp; omega)]
          by_cases h2 : x ∈ xs.take n
          · have := hno (fun hh => hh.2.2 h2)
            simp [h2, this, catenaryref09_Unlike_r12]
          · simp only [h2, decide_false, Option.bind_some, catenaryref09_Unlike_r12, Bool.false_eq_true, if_false]
            rw [next_i64 (by omega)]
            exact ih (n + 1) (by omega) (by rw [take_succ' hx, good_snoc]; exact ⟨hn, by omega, h2⟩)
    · rw [List.take_of_length_le hx] at hn
      rw [if_neg (by rw [hd]; decide), if_pos hn]
theorem unlikeR_is (xs : List Int) (hl : xs.length ≤ 1000) (k : Nat) (hk : xs.length < k) : catenaryref09_Unlike k xs = some (decide (goodL xs)) := by
  have h := unlikeR_l xs hl k hk k 0 (by omega) ⟨by simp, by simp⟩
  rw [show ((0 : Nat) : Int) = 0 from rfl] at h
  unfold catenaryref09_Unlike catenaryref09_Unlike_r10
  rw [h]
  by_cases hg : goodL xs <;> simp [hg]

def standsP (c : M53) : List Int := if c.f4 = 0 then c.f2 else c.f2 ++ [c.f4]
def rightP (c : M53) : Prop := (0 ≤ c.f0 ∧ c.f0 ≤ 3 ∧ 1 ≤ c.f1) ∧ (1 ≤ c.f2.length ∧ c.f2.length ≤ 5 ∧ ¬ (c.f3 = true ∧ (c.f2.length = 1 ∨ c.f4 ≠ 0))) ∧ goodL (standsP c)
instance (c : M53) : Decidable (rightP c) := inferInstanceAs (Decidable (_ ∧ _))
theorem stands_len (c : M53) : (standsP c).length ≤ c.f2.length + 1 := by
  unfold standsP; split <;> simp
theorem everybody_is (c : M53) (hl : c.f2.length ≤ 1000) : conf_everybody c = some (standsP c) := by
  have hc : slices_Clone_int_int c.f2 = some c.f2 := by unfold slices_Clone_int_int; rw [app_some (by simp; omega)]; rfl
  unfold conf_everybody standsP conf_everybody_r2
  by_cases h : c.f4 = 0
  · simp [h, hc]
  · simp only [beq_iff_eq, h, if_false, hc, Option.bind_some]
    rw [app_some (by simp; omega)]; rfl
theorem Stands_is (c : M53) (hl : c.f2.length ≤ 1000) : catenaryref09_Stands c = some (standsP c) := by
  unfold catenaryref09_Stands standsP catenaryref09_Stands_r2
  rw [app_some (by simp; omega), Option.bind_some, List.nil_append]
  by_cases h : c.f4 = 0
  · simp [h]
  · rw [app_some (by simp; omega)]
    simp [h]
theorem RightC_is (c : M53) (_h1 : 0 ≤ c.f1) (k : Nat) (hk : 10 ≤ k) : conf_Right k c = some (decide (rightP c)) := by
  unfold conf_Right
  by_cases ha : 0 ≤ c.f0 ∧ c.f0 ≤ 3 ∧ 1 ≤ c.f1
  · rw [if_neg (by simp; omega)]
    by_cases hb : 1 ≤ c.f2.length ∧ c.f2.length ≤ 5 ∧ ¬ (c.f3 = true ∧ (c.f2.length = 1 ∨ c.f4 ≠ 0))
    · have hb' := hb
      have hsl := stands_len c
      rw [if_neg, everybody_is c (by omega), Option.bind_some, unlikeC_is _ (by omega) k (by omega)]
      · simp [rightP, ha, hb]
      · intro hc
        simp only [Bool.or_eq_true, decide_eq_true_eq, Bool.and_eq_true, bne_iff_ne, ne_eq] at hc
        rcases hc with hc | hc | hc
        · omega
        · omega
        · exact hb.2.2 ⟨hc.1, hc.2.imp (by omega) id⟩
    · rw [if_pos]
      · simp only [rightP, hb, and_false, false_and, decide_false]
      · simp only [Bool.or_eq_true, decide_eq_true_eq, Bool.and_eq_true, bne_iff_ne, ne_eq]
        by_cases h5 : 1 ≤ c.f2.length
        · by_cases h6 : c.f2.length ≤ 5
          · right; right
            have h7 : c.f3 = true ∧ (c.f2.length = 1 ∨ c.f4 ≠ 0) := Classical.byContradiction fun h => hb ⟨h5, h6, h⟩
            exact ⟨h7.1, h7.2.imp (by omega) id⟩
          · right; left; omega
        · left; omega
  · rw [if_pos (by simp; omega)]
    simp only [rightP, ha, false_and, decide_false]
theorem RightR_is (c : M53) (h1 : 0 ≤ c.f1) (k : Nat) (hk : 10 ≤ k) : catenaryref09_Right k c = some (decide (rightP c)) := by
  unfold catenaryref09_Right
  by_cases ha : 0 ≤ c.f0 ∧ c.f0 ≤ 3 ∧ 1 ≤ c.f1
  · by_cases hl : 1 ≤ c.f2.length ∧ c.f2.length ≤ 5
    · rw [if_neg (by simp only [Bool.or_eq_true, decide_eq_true_eq, beq_iff_eq]; omega)]
      by_cases hb : ¬ (c.f3 = true ∧ (c.f2.length = 1 ∨ c.f4 ≠ 0))
      · have hsl := stands_len c
        rw [if_neg, Stands_is c (by omega), Option.bind_some, unlikeR_is _ (by omega) k (by omega)]
        · simp [rightP, ha, hb, hl]
        · intro hc
          simp only [Bool.or_eq_true, Bool.and_eq_true, bne_iff_ne, ne_eq, beq_iff_eq] at hc
          exact hb ⟨hc.1, hc.2.imp (by omega) id⟩
      · rw [if_pos]
        · simp only [rightP, hb, and_false, false_and, decide_false]
        · have h7 : c.f3 = true ∧ (c.f2.length = 1 ∨ c.f4 ≠ 0) := Classical.byContradiction hb
          simp only [Bool.or_eq_true, Bool.and_eq_true, bne_iff_ne, ne_eq, beq_iff_eq]
          exact ⟨h7.1, h7.2.imp (by omega) id⟩
    · rw [if_pos (by simp only [Bool.or_eq_true, decide_eq_true_eq, beq_iff_eq]; omega)]
      have : ¬ (1 ≤ c.f2.length ∧ c.f2.length ≤ 5 ∧ ¬ (c.f3 = true ∧ (c.f2.length = 1 ∨ c.f4 ≠ 0))) := fun h => hl ⟨h.1, h.2.1⟩
      simp only [rightP, this, and_false, false_and, decide_false]
  · rw [if_pos (by simp only [Bool.or_eq_true, decide_eq_true_eq, beq_iff_eq]; omega)]
    simp only [rightP, ha, false_and, decide_false]

def zeroR : M56 := M56.mk false false false false false 0 0 0
/-- what a node is -/
def roleP (c : M53) (n : Int) : M56 :=
  if ¬ rightP c ∨ n = 0 then zeroR
  else if n = c.f4 then M56.mk false true false false true 0 (c.f2.getLastD 0) 0
  else if n ∈ c.f2 then
    let i := c.f2.idxOf n
    M56.mk true false (i == 0) (i + 1 == c.f2.length) (i + 1 == c.f2.length && c.f3) i (if 0 < i then c.f2.getD (i - 1) 0 else 0) (if i + 1 < c.f2.length then c.f2.getD (i + 1) 0 else c.f4)
  else zeroR
theorem ix_last (xs : List Int) (h : 1 ≤ xs.length) (h2 : xs.length ≤ 1000) : ix xs (IntKind.i64.wrap ((xs.length : Int) - 1)) = some (xs.getLastD 0) := by
  rw [w64 (by omega) (by omega), show (xs.length : Int) - 1 = ((xs.length - 1 : Nat) : Int) by omega, ix_nat]
  cases xs with
  | nil => simp at h
  | cons x xs => simp [List.getLast?_eq_getElem?, List.getLastD_eq_getLast?]
theorem TailC_is (c : M53) (h1 : 0 ≤ c.f1) (k : Nat) (hk : 10 ≤ k) : role_Tail k c = some (if rightP c then c.f2.getLastD 0 else 0) := by
  unfold role_Tail
  rw [RightC_is c h1 k hk]
  by_cases h : rightP c
  · simp only [h, decide_true, Option.bind_some, Bool.not_true, Bool.false_eq_true, if_false, if_true]
    rw [ix_last _ h.2.1.1 (by have := h.2.1.2.1; omega)]; rfl
  · simp [h]
theorem last_idx {xs : List Int} {v : Int} (hn : xs.Nodup) (hv : v ∈ xs) : (v = xs.getLastD 0 ↔ xs.idxOf v + 1 = xs.length) := by
  have hlt := List.idxOf_lt_length_of_mem hv
  have hg : xs[xs.idxOf v]? = some v := by rw [List.getElem?_eq_getElem hlt, List.getElem_idxOf]
  have hl : xs.getLastD 0 = xs[xs.length - 1]?.getD 0 := by rw [List.getLastD_eq_getLast?, List.getLast?_eq_getElem?]
  rw [hl]
  constructor
  · intro h
    have h2 : xs[xs.length - 1]? = some v := by
      have hh : xs[xs.length - 1]? = some (xs[xs.length - 1]'(by omega)) := List.getElem?_eq_getElem (by omega)
      rw [hh] at h
      rw [hh]
      exact congrArg some h.symm
    have := (List.getElem?_inj (by omega) hn).1 (h2.trans hg.symm)
    omega
  · intro h
    rw [show xs.length - 1 = xs.idxOf v by omega, hg]; rfl
theorem Of_is (c : M53) (h1 : 0 ≤ c.f1) (n : Int) (k : Nat) (hk : 10 ≤ k) : role_Of k c n = some (roleP c n) := by
  unfold role_Of
  rw [RightC_is c h1 k hk]
  by_cases hr : rightP c
  · simp only [hr, decide_true, Option.bind_some, Bool.not_true, Bool.false_eq_true, if_false]
    unfold role_Of_r10
    by_cases h0 : n = 0
    · simp [h0, roleP, zeroR]
    · have e0 : (n == 0) = false := by simpa using h0
      rw [e0, if_neg (by decide)]
      by_cases hj : n = c.f4
      · rw [if_pos (by simpa using hj), TailC_is c h1 k hk]
        have hj0 : ¬ c.f4 = 0 := by rw [← hj]; exact h0
        simp [hr, roleP, hj, hj0]
      · have hl5 := hr.2.1.2.1
        rw [if_neg (by simpa using hj), Index_is _ _ (by omega) k (by omega)]
        by_cases hm : n ∈ c.f2
        · have hlt := List.idxOf_lt_length_of_mem hm
          simp only [hm, if_true, Option.bind_some]
          have hnd : c.f2.Nodup := by
            have := hr.2.2.2
            unfold standsP at this
            split at this
            · exact this
            · exact (List.nodup_append.1 this).1
          rw [if_neg (by simp), TailC_is c h1 k hk, if_pos hr]
          simp only [Option.bind_some]
          have et : (n == c.f2.getLastD 0) = (c.f2.idxOf n + 1 == c.f2.length) := by
            have := last_idx hnd hm
            by_cases hh : n = c.f2.getLastD 0
            · rw [beq_iff_eq.2 hh, beq_iff_eq.2 (this.1 hh)]
            · have h2 : ¬ c.f2.idxOf n + 1 = c.f2.length := fun h => hh (this.2 h)
              rw [beq_eq_false_iff_ne.2 hh, beq_eq_false_iff_ne.2 h2]
          rw [et]
          unfold role_Of_r9 role_Of_r8 role_Of_r7 role_Of_r6
          have e1 : ix c.f2 (IntKind.i64.wrap ((c.f2.idxOf n : Int) + 1)) = c.f2[c.f2.idxOf n + 1]? := by rw [next_i64 (by omega), ix_nat]
          have e2 : 0 < c.f2.idxOf n → ix c.f2 (IntKind.i64.wrap ((c.f2.idxOf n : Int) - 1)) = c.f2[c.f2.idxOf n - 1]? := fun h => by
            rw [w64 (by omega) (by omega), show (c.f2.idxOf n : Int) - 1 = ((c.f2.idxOf n - 1 : Nat) : Int) by omega, ix_nat]
          have e3 : roleP c n = M56.mk true false (c.f2.idxOf n == 0) (c.f2.idxOf n + 1 == c.f2.length) (c.f2.idxOf n + 1 == c.f2.length && c.f3) (c.f2.idxOf n) (if 0 < c.f2.idxOf n then c.f2.getD (c.f2.idxOf n - 1) 0 else 0) (if c.f2.idxOf n + 1 < c.f2.length then c.f2.getD (c.f2.idxOf n + 1) 0 else c.f4) := by
            simp [roleP, hr, h0, hj, hm]
          rw [e3]
          have e4 : ((c.f2.idxOf n : Int) == 0) = (c.f2.idxOf n == 0) := by
            rw [Bool.eq_iff_iff]; simp
          by_cases hz : 0 < c.f2.idxOf n
          · by_cases ht : c.f2.idxOf n + 1 = c.f2.length
            · cases c.f3 <;> simp [ht, hz, e2 hz, e4, show c.f2.idxOf n - 1 < c.f2.length by omega]
            · have ht' : (c.f2.idxOf n + 1 == c.f2.length) = false := by simpa using ht
              have : c.f2.idxOf n + 1 < c.f2.length := by omega
              simp [ht', hz, e1, e2 hz, e4, this, show c.f2.idxOf n - 1 < c.f2.length by omega]
          · have hz0 : c.f2.idxOf n = 0 := by omega
            by_cases ht : c.f2.idxOf n + 1 = c.f2.length
            · rw [hz0] at ht ⊢
              cases c.f3 <;> simp [← ht]
            · have ht' : (c.f2.idxOf n + 1 == c.f2.length) = false := by simpa using ht
              have : c.f2.idxOf n + 1 < c.f2.length := by omega
              rw [hz0] at ht' this e1 ⊢
              simp at e1
              simp [ht', e1, this]
        · simp [hm, roleP, hr, h0, hj, zeroR]
  · simp [hr, role_Of_r10, roleP, zeroR]

theorem awake19 (k : Nat) (hk : 10 ≤ k) : catenarylaw19_awake k = some true := by
  unfold catenarylaw19_awake
  rw [Of_is _ (by decide) _ k hk]
  decide

theorem idx_of {xs : List Int} {i : Nat} {x : Int} (hn : xs.Nodup) (hx : xs[i]? = some x) : xs.idxOf x = i := by
  have hm := List.mem_of_getElem? hx
  have hlt := List.idxOf_lt_length_of_mem hm
  have hg : xs[xs.idxOf x]? = some x := by rw [List.getElem?_eq_getElem hlt, List.getElem_idxOf]
  exact (List.getElem?_inj hlt hn).1 (hg.trans hx.symm)

structure RF (c : M53) : Prop where
  r : rightP c
  len : 1 ≤ c.f2.length ∧ c.f2.length ≤ 5
  nd : c.f2.Nodup
  rng : ∀ x ∈ c.f2, 1 ≤ x ∧ x ≤ 24
  jn : c.f4 = 0 ∨ (1 ≤ c.f4 ∧ c.f4 ≤ 24 ∧ c.f4 ∉ c.f2)
theorem RF.of {c : M53} (h : rightP c) : RF c := by
  have hg := h.2.2
  unfold standsP at hg
  by_cases h0 : c.f4 = 0
  · rw [if_pos h0] at hg
    exact ⟨h, ⟨h.2.1.1, h.2.1.2.1⟩, hg.2, hg.1, .inl h0⟩
  · rw [if_neg h0, good_snoc] at hg
    exact ⟨h, ⟨h.2.1.1, h.2.1.2.1⟩, hg.1.2, hg.1.1, .inr ⟨hg.2.1.1, hg.2.1.2, hg.2.2⟩⟩
theorem RF.at_ {c : M53} (h : RF c) {i : Nat} {x : Int} (hx : c.f2[i]? = some x) :
    roleP c x = M56.mk true false (i == 0) (i + 1 == c.f2.length) (i + 1 == c.f2.length && c.f3) i (if 0 < i then c.f2.getD (i - 1) 0 else 0) (if i + 1 < c.f2.length then c.f2.getD (i + 1) 0 else c.f4) := by
  have hm := List.mem_of_getElem? hx
  have hr := h.rng x hm
  have hj : ¬ x = c.f4 := by
    rcases h.jn with h0 | h0
    · omega
    · intro he; rw [he] at hm; exact h0.2.2 hm
  simp [roleP, h.r, hj, hm, idx_of h.nd hx, show ¬ x = 0 by omega]
theorem RF.join {c : M53} (h : RF c) (h0 : c.f4 ≠ 0) : roleP c c.f4 = M56.mk false true false false true 0 (c.f2.getLastD 0) 0 := by
  simp [roleP, h.r, h0]
theorem RF.other {c : M53} {n : Int} (hj : n ≠ c.f4) (hm : n ∉ c.f2) : roleP c n = zeroR := by
  simp [roleP, hj, hm]
theorem RF.last {c : M53} (h : RF c) : c.f2[c.f2.length - 1]? = some (c.f2.getLastD 0) := by
  have := h.len
  have hh : c.f2[c.f2.length - 1]? = some (c.f2[c.f2.length - 1]'(by omega)) := List.getElem?_eq_getElem (by omega)
  rw [List.getLastD_eq_getLast?, List.getLast?_eq_getElem?, hh]; rfl
theorem RF.head {c : M53} (h : RF c) : c.f2[0]? = some (c.f2.headD 0) := by
  have := h.len
  cases hc : c.f2 with
  | nil => rw [hc] at this; simp at this
  | cons x xs => simp

/-- a node is in the row at a place, joins, or is nothing -/
theorem RF.cases {c : M53} (h : RF c) (n : Int) : (∃ i : Nat, c.f2[i]? = some n) ∨ (n = c.f4 ∧ c.f4 ≠ 0) ∨ (roleP c n = zeroR ∧ n ∉ c.f2) := by
  by_cases hm : n ∈ c.f2
  · obtain ⟨i, hi⟩ := List.getElem?_of_mem hm
    exact .inl ⟨i, hi⟩
  · by_cases hj : n = c.f4
    · by_cases h0 : c.f4 = 0
      · refine .inr (.inr ⟨?_, hm⟩)
        rw [hj, h0]; simp [roleP]
      · exact .inr (.inl ⟨hj, h0⟩)
    · exact .inr (.inr ⟨RF.other hj hm, hm⟩)

theorem RF.isHead {c : M53} (h : RF c) (n : Int) : (roleP c n).f2 = decide (n = c.f2.headD 0) := by
  rcases h.cases n with ⟨i, hi⟩ | ⟨rfl, h0⟩ | ⟨hz, hm⟩
  · rw [h.at_ hi]
    show (i == 0) = _
    rw [Bool.eq_iff_iff]
    simp only [beq_iff_eq, decide_eq_true_eq]
    constructor
    · rintro rfl; exact Option.some.inj (hi.symm.trans h.head)
    · intro he; rw [he] at hi; rw [← idx_of h.nd hi, ← idx_of h.nd h.head]
  · rw [h.join h0]
    have := List.mem_of_getElem? h.head
    rcases h.jn with hj | hj
    · exact absurd hj h0
    · have : ¬ c.f4 = c.f2.headD 0 := fun he => hj.2.2 (he ▸ this)
      rw [decide_eq_false this]
  · rw [hz]
    have := List.mem_of_getElem? h.head
    have : ¬ n = c.f2.headD 0 := fun he => hm (he ▸ this)
    rw [decide_eq_false this]; rfl
theorem RF.isTail {c : M53} (h : RF c) (n : Int) : (roleP c n).f3 = decide (n = c.f2.getLastD 0) := by
  rcases h.cases n with ⟨i, hi⟩ | ⟨rfl, h0⟩ | ⟨hz, hm⟩
  · rw [h.at_ hi]
    have hlt := (List.getElem?_eq_some_iff.1 hi).1
    show (i + 1 == c.f2.length) = _
    rw [Bool.eq_iff_iff]
    simp only [beq_iff_eq, decide_eq_true_eq]
    constructor
    · intro he
      rw [show i = c.f2.length - 1 by omega] at hi
      exact Option.some.inj (hi.symm.trans h.last)
    · intro he; rw [he] at hi
      have := (idx_of h.nd hi).symm.trans (idx_of h.nd h.last)
      omega
  · rw [h.join h0]
    have := List.mem_of_getElem? h.last
    rcases h.jn with hj | hj
    · exact absurd hj h0
    · have : ¬ c.f4 = c.f2.getLastD 0 := fun he => hj.2.2 (he ▸ this)
      rw [decide_eq_false this]
  · rw [hz]
    have := List.mem_of_getElem? h.last
    have : ¬ n = c.f2.getLastD 0 := fun he => hm (he ▸ this)
    rw [decide_eq_false this]; rfl
theorem RF.isIn {c : M53} (h : RF c) (n : Int) : (roleP c n).f0 = decide (n ∈ c.f2) := by
  rcases h.cases n with ⟨i, hi⟩ | ⟨rfl, h0⟩ | ⟨hz, hm⟩
  · rw [h.at_ hi, decide_eq_true (List.mem_of_getElem? hi)]
  · rw [h.join h0]
    rcases h.jn with hj | hj
    · exact absurd hj h0
    · rw [decide_eq_false hj.2.2]
  · rw [hz, decide_eq_false hm]; rfl
theorem RF.pred {c : M53} (h : RF c) (n : Int) (hp : (roleP c n).f6 ≠ 0) : (roleP c (roleP c n).f6).f7 = n := by
  rcases h.cases n with ⟨i, hi⟩ | ⟨rfl, h0⟩ | ⟨hz, hm⟩
  · have hlt := (List.getElem?_eq_some_iff.1 hi).1
    rw [h.at_ hi] at hp ⊢
    by_cases hi0 : 0 < i
    · have hg : c.f2[i - 1]? = some (c.f2.getD (i - 1) 0) := by
        rw [List.getD_eq_getElem?_getD, List.getElem?_eq_getElem (by omega)]; rfl
      simp only [hi0, if_true]
      rw [h.at_ hg]
      simp only [show i - 1 + 1 = i by omega, hlt, if_true]
      rw [List.getD_eq_getElem?_getD, hi]; rfl
    · simp [hi0] at hp
  · rw [h.join h0]
    simp only
    have := h.len
    rw [h.at_ h.last]
    simp [show c.f2.length - 1 + 1 = c.f2.length by omega]
  · rw [hz] at hp; exact absurd rfl hp
theorem RF.succ {c : M53} (h : RF c) (n : Int) (hp : (roleP c n).f7 ≠ 0) : (roleP c (roleP c n).f7).f6 = n := by
  rcases h.cases n with ⟨i, hi⟩ | ⟨rfl, h0⟩ | ⟨hz, hm⟩
  · have hlt := (List.getElem?_eq_some_iff.1 hi).1
    rw [h.at_ hi] at hp ⊢
    by_cases hi0 : i + 1 < c.f2.length
    · have hg : c.f2[i + 1]? = some (c.f2.getD (i + 1) 0) := by
        rw [List.getD_eq_getElem?_getD, List.getElem?_eq_getElem (by omega)]; rfl
      simp only [hi0, if_true]
      rw [h.at_ hg]
      simp only [show i + 1 - 1 = i by omega, show 0 < i + 1 by omega, if_true]
      rw [List.getD_eq_getElem?_getD, hi]; rfl
    · simp only [hi0, if_false] at hp ⊢
      rw [h.join hp]
      show c.f2.getLastD 0 = n
      rw [show i = c.f2.length - 1 by omega] at hi
      exact Option.some.inj (h.last.symm.trans hi)
  · rw [h.join h0] at hp; exact absurd rfl hp
  · rw [hz] at hp; exact absurd rfl hp
theorem RF.joins {c : M53} (h : RF c) (n : Int) : ((roleP c n).f1 && (roleP c n).f0) = false := by
  rcases h.cases n with ⟨i, hi⟩ | ⟨rfl, h0⟩ | ⟨hz, hm⟩
  · rw [h.at_ hi]; rfl
  · rw [h.join h0]; rfl
  · rw [hz]; rfl
theorem RF.ends {c : M53} (h : RF c) (n : Int) (hin : (roleP c n).f0 = true) : (roleP c n).f2 = ((roleP c n).f6 == 0) ∧ (roleP c n).f3 = ((roleP c n).f7 == c.f4) := by
  rcases h.cases n with ⟨i, hi⟩ | ⟨rfl, h0⟩ | ⟨hz, hm⟩
  · have hlt := (List.getElem?_eq_some_iff.1 hi).1
    rw [h.at_ hi]
    constructor
    · by_cases hi0 : 0 < i
      · have hg : c.f2[i - 1]? = some (c.f2.getD (i - 1) 0) := by
          rw [List.getD_eq_getElem?_getD, List.getElem?_eq_getElem (by omega)]; rfl
        have := h.rng _ (List.mem_of_getElem? hg)
        simp only [hi0, if_true]
        rw [beq_eq_false_iff_ne.2 (by omega), beq_eq_false_iff_ne.2 (by omega)]
      · rw [show i = 0 by omega]; rfl
    · by_cases hi0 : i + 1 < c.f2.length
      · have hg : c.f2[i + 1]? = some (c.f2.getD (i + 1) 0) := by
          rw [List.getD_eq_getElem?_getD, List.getElem?_eq_getElem (by omega)]; rfl
        have hm := List.mem_of_getElem? hg
        have := h.rng _ hm
        simp only [hi0, if_true]
        have hne : c.f2.getD (i + 1) 0 ≠ c.f4 := by
          rcases h.jn with hj | hj
          · omega
          · intro he; rw [he] at hm; exact hj.2.2 hm
        rw [beq_eq_false_iff_ne.2 (by omega), beq_eq_false_iff_ne.2 hne]
      · simp only [hi0, if_false]
        rw [beq_iff_eq.2 (show i + 1 = c.f2.length by omega), beq_self_eq_true]
  · rw [h.join h0] at hin; cases hin
  · rw [hz] at hin; cases hin


def toR (m : M56) : M59 := M59.mk m.f0 m.f1 m.f2 m.f3 m.f4 m.f5 m.f6 m.f7
theorem OfR_l (c : M53) (h : RF c) (n : Int) (_hj : n ≠ c.f4) : ∀ j i : Nat, c.f2.length - i < j → n ∉ c.f2.take i → catenaryref19_Of_l26 c n j i = some (if n ∈ c.f2 then .inl (toR (roleP c n)) else .inr ()) := by
  intro j
  have hlen := h.len
  induction j with
  | zero => intro i hi; exact absurd hi (by omega)
  | succ j ih =>
    intro i hi hn
    rw [catenaryref19_Of_l26, w64 (n := (c.f2.length : Int) - 1) (by omega) (by omega)]
    rcases place c.f2 i with ⟨x, hx, hd⟩ | ⟨hx, hd⟩
    · have hlt := (List.getElem?_eq_some_iff.1 hx).1
      rw [if_pos (by simp; omega), ix_nat, hx, Option.bind_some]
      by_cases he : x = n
      · subst he
        have hm := List.mem_of_getElem? hx
        rw [if_neg (by simp), if_pos hm, h.at_ hx]
        unfold catenaryref19_Of_r29 catenaryref19_Of_r28 catenaryref19_Of_r27
        rw [w64 (n := (c.f2.length : Int) - 1) (by omega) (by omega)]
        have e1 : ((i : Int) == (c.f2.length : Int) - 1) = (i + 1 == c.f2.length) := by
          rw [Bool.eq_iff_iff]; simp; omega
        have e2 : decide ((i : Int) < (c.f2.length : Int) - 1) = decide (i + 1 < c.f2.length) := by
          rw [Bool.eq_iff_iff]; simp; omega
        have e3 : decide ((i : Int) > 0) = decide (0 < i) := by
          rw [Bool.eq_iff_iff]; simp
        have e4 : ix c.f2 (IntKind.i64.wrap ((i : Int) + 1)) = c.f2[i + 1]? := by rw [next_i64 (by omega), ix_nat]
        have e5 : 0 < i → ix c.f2 (IntKind.i64.wrap ((i : Int) - 1)) = c.f2[i - 1]? := fun h => by
          rw [w64 (by omega) (by omega), show (i : Int) - 1 = ((i - 1 : Nat) : Int) by omega, ix_nat]
        have e6 : ((i : Int) == 0) = (i == 0) := by rw [Bool.eq_iff_iff]; simp
        rw [e1, e2, e3, e4, e6]
        have e7 : (if (i + 1 == c.f2.length) = true then some c.f3 else some false : Option Bool) = some (i + 1 == c.f2.length && c.f3) := by
          cases (i + 1 == c.f2.length) <;> rfl
        rw [e7, Option.bind_some]
        by_cases hz : 0 < i
        · by_cases ht : i + 1 < c.f2.length
          · simp [hz, e5 hz, ht, toR, show i - 1 < c.f2.length by omega]
          · simp [hz, e5 hz, ht, toR, show i - 1 < c.f2.length by omega]
        · by_cases ht : i + 1 < c.f2.length
          · simp [hz, ht, toR]
          · simp [hz, ht, toR]
      · rw [if_pos (by simpa using he), next_i64 (by omega)]
        exact ih (i + 1) (by omega) (by rw [take_succ' hx]; simp [hn, Ne.symm he])
    · rw [List.take_of_length_le hx] at hn
      rw [if_neg (by simp; omega), if_neg hn]
theorem OfR_is (c : M53) (h1 : 0 ≤ c.f1) (n : Int) (k : Nat) (hk : 10 ≤ k) : catenaryref19_Of k c n = some (toR (roleP c n)) := by
  unfold catenaryref19_Of
  rw [RightR_is c h1 k hk]
  by_cases hr : rightP c
  · have h := RF.of hr
    have hlen := h.len
    simp only [hr, decide_true, Option.bind_some, Bool.not_true, Bool.false_eq_true, if_false]
    unfold catenaryref19_Of_r30
    by_cases h0 : n = 0
    · simp [h0, roleP, zeroR, toR]
    · have e0 : (n == 0) = false := by simpa using h0
      rw [e0, if_neg (by decide)]
      by_cases hj : n = c.f4
      · subst hj
        rw [if_pos (by simp), ix_last _ (by omega) (by omega), h.join h0]; rfl
      · have hj' : ¬ c.f4 = n := fun h => hj h.symm
        have hl := OfR_l c h n hj k 0 (by omega) (by simp)
        rw [show ((0 : Nat) : Int) = 0 from rfl] at hl
        rw [if_neg (by simpa using hj'), hl]
        by_cases hm : n ∈ c.f2
        · simp [hm]
        · rw [RF.other hj hm]
          simp [hm, catenaryref19_Of_r25, toR, zeroR]
  · simp [hr, catenaryref19_Of_r30, roleP, zeroR, toR]

def repOne (c : M53) (down : List Int) (x : Int) : List M66 := if x ≠ 0 ∧ x ∈ down then [M66.mk 1 c.f0 c.f1 x] else []
def repP (c : M53) (down : List Int) (n : Int) : List M66 := repOne c down (roleP c n).f6 ++ repOne c down (roleP c n).f7
theorem repOne_len (c : M53) (down : List Int) (x : Int) : (repOne c down x).length ≤ 1 := by unfold repOne; split <;> simp
theorem repP_len (c : M53) (down : List Int) (n : Int) : (repP c down n).length ≤ 2 := by
  have h1 := repOne_len c down (roleP c n).f6
  have h2 := repOne_len c down (roleP c n).f7
  unfold repP; rw [List.length_append]; omega
theorem repStepC (c : M53) (down : List Int) (hd : down.length ≤ 40) (k : Nat) (hk : 50 ≤ k) (acc : List M66) (ha : acc.length ≤ 10) (x : Int) :
    ((if (x != 0) = true then ((slices_Contains_int_int k down x).bind fun y => some y) else some false : Option Bool).bind fun s => role_Reports_r28 acc c x s) = some (acc ++ repOne c down x) := by
  rw [Contains_is down x (by omega) k (by omega)]
  unfold role_Reports_r28 repOne
  by_cases h0 : x = 0
  · simp [h0]
  · by_cases hm : x ∈ down
    · rw [if_pos (by simpa using h0)]
      simp only [hm, decide_true, Option.bind_some, if_true]
      rw [app_some (by simp; omega)]
      simp [h0]
    · simp [h0, hm]
theorem repC_is (c : M53) (h1 : 0 ≤ c.f1) (n : Int) (down : List Int) (hd : down.length ≤ 40) (k : Nat) (hk : 50 ≤ k) : role_Reports k c n down = some (repP c down n) := by
  have key : ∀ a b : Int, role_Reports_l25 k down c k [] [a, b] 0 = some (repOne c down a ++ repOne c down b) := by
    intro a b
    obtain ⟨j, hj⟩ : ∃ j, k = j + 3 := ⟨k - 3, by omega⟩
    have e1 : IntKind.i64.wrap (0 + 1) = 1 := by rfl
    have e2 : IntKind.i64.wrap (1 + 1) = 2 := by rfl
    have l0 : ∀ fuel acc, acc.length ≤ 10 → role_Reports_l25 k down c (fuel + 1) acc [a, b] 0 = role_Reports_l25 k down c fuel (acc ++ repOne c down a) [a, b] 1 := by
      intro fuel acc ha
      rw [role_Reports_l25, if_pos (by decide), show ix [a, b] 0 = some a from rfl, Option.bind_some, repStepC c down hd k hk acc ha a, Option.bind_some, role_Reports_r27, e1]
    have l1 : ∀ fuel acc, acc.length ≤ 10 → role_Reports_l25 k down c (fuel + 1) acc [a, b] 1 = role_Reports_l25 k down c fuel (acc ++ repOne c down b) [a, b] 2 := by
      intro fuel acc ha
      rw [role_Reports_l25, if_pos (by decide), show ix [a, b] 1 = some b from rfl, Option.bind_some, repStepC c down hd k hk acc ha b, Option.bind_some, role_Reports_r27, e2]
    have l2 : ∀ fuel acc, role_Reports_l25 k down c (fuel + 1) acc [a, b] 2 = some acc := by
      intro fuel acc
      rw [role_Reports_l25, if_neg (by decide)]
    have ha := repOne_len c down a
    conv => lhs; rw [show role_Reports_l25 k down c k = role_Reports_l25 k down c (j + 3) by rw [← hj]]
    rw [l0 _ _ (by simp), l1 _ _ (by simp; omega), l2, List.nil_append]
  unfold role_Reports role_Reports_r24
  rw [Of_is c h1 n k (by omega), Option.bind_some, key]; rfl
theorem RF.pos {c : M53} (n : Int) : 0 ≤ (roleP c n).f6 ∧ 0 ≤ (roleP c n).f7 := by
  by_cases hr : rightP c
  · have h := RF.of hr
    rcases h.cases n with ⟨i, hi⟩ | ⟨rfl, h0⟩ | ⟨hz, hm⟩
    · have hlt := (List.getElem?_eq_some_iff.1 hi).1
      rw [h.at_ hi]
      refine ⟨?_, ?_⟩
      · by_cases hi0 : 0 < i
        · have hg : c.f2[i - 1]? = some (c.f2.getD (i - 1) 0) := by
            rw [List.getD_eq_getElem?_getD, List.getElem?_eq_getElem (by omega)]; rfl
          have := h.rng _ (List.mem_of_getElem? hg)
          simp only [hi0, if_true]; omega
        · simp [hi0]
      · by_cases hi0 : i + 1 < c.f2.length
        · have hg : c.f2[i + 1]? = some (c.f2.getD (i + 1) 0) := by
            rw [List.getD_eq_getElem?_getD, List.getElem?_eq_getElem (by omega)]; rfl
          have := h.rng _ (List.mem_of_getElem? hg)
          simp only [hi0, if_true]; omega
        · simp only [hi0, if_false]
          rcases h.jn with hj | hj <;> omega
    · rw [h.join h0]
      have := h.rng _ (List.mem_of_getElem? h.last)
      exact ⟨by show 0 ≤ c.f2.getLastD 0; omega, Int.le_refl _⟩
    · rw [hz]; exact ⟨Int.le_refl _, Int.le_refl _⟩
  · have : roleP c n = zeroR := by simp [roleP, hr]
    rw [this]; exact ⟨Int.le_refl _, Int.le_refl _⟩
theorem repR_is (c : M53) (h1 : 0 ≤ c.f1) (n : Int) (down : List Int) (hd : down.length ≤ 40) (k : Nat) (hk : 50 ≤ k) : catenaryref19_Reports k c n down = some (repP c down n) := by
  unfold catenaryref19_Reports
  rw [OfR_is c h1 n k (by omega), Option.bind_some]
  obtain ⟨p6, p7⟩ := RF.pos (c := c) n
  show ((if (decide ((roleP c n).f6 > 0)) = true then ((catenaryref04_Has k down (roleP c n).f6).bind fun y => some y) else some false : Option Bool).bind fun s => catenaryref19_Reports_r12 c (toR (roleP c n)) s : Option (List M66)).bind (fun s => catenaryref19_Reports_r11 k (toR (roleP c n)) down c s) = _
  have a1 : ((if (decide ((roleP c n).f6 > 0)) = true then ((catenaryref04_Has k down (roleP c n).f6).bind fun y => some y) else some false : Option Bool).bind fun s => catenaryref19_Reports_r12 c (toR (roleP c n)) s : Option (List M66)) = some (repOne c down (roleP c n).f6) := by
    rw [Has_is down _ (by omega) k (by omega)]
    unfold catenaryref19_Reports_r12 repOne
    by_cases h0 : (roleP c n).f6 = 0
    · simp [h0]
    · rw [if_pos (by simp; omega)]
      by_cases hm : (roleP c n).f6 ∈ down
      · simp only [hm, decide_true, Option.bind_some, if_true]
        rw [app_some (by simp)]
        simp [h0, toR]
      · simp [h0, hm]
  rw [a1, Option.bind_some]
  unfold catenaryref19_Reports_r11 catenaryref19_Reports_r9
  have e7 : (toR (roleP c n)).f7 = (roleP c n).f7 := rfl
  rw [e7, Has_is down _ (by omega) k (by omega)]
  unfold catenaryref19_Reports_r10 repP
  rw [e7]
  have hl := repOne_len c down (roleP c n).f6
  by_cases h0 : (roleP c n).f7 = 0
  · simp [h0, repOne]
  · rw [if_pos (by simp; omega)]
    by_cases hm : (roleP c n).f7 ∈ down
    · simp only [hm, decide_true, Option.bind_some, if_true]
      rw [app_some (by simp; omega)]
      simp [h0, hm, repOne]
    · simp [hm, repOne]

theorem same_l (L : List M66) (hL : L.length ≤ 2) : ∀ j i : Nat, L.length - i < j → catenarylaw19_RoleReports_2_l53 L L j i = some (.inr ()) := by
  intro j
  induction j with
  | zero => intro i hi; exact absurd hi (by omega)
  | succ j ih =>
    intro i hi
    rw [catenarylaw19_RoleReports_2_l53]
    rcases place L i with ⟨x, hx, hd⟩ | ⟨hx, hd⟩
    · have hlt := (List.getElem?_eq_some_iff.1 hx).1
      rw [if_pos hd, ix_nat, hx]
      simp only [Option.bind_some, beq_self_eq_true, Bool.and_true, Bool.not_true, catenarylaw19_RoleReports_2_r54, Bool.false_eq_true, if_false]
      rw [next_i64 (by omega)]
      exact ih (i + 1) (by omega)
    · rw [if_neg (by rw [hd]; decide)]
theorem all_l (c : M53) (h1 : 0 ≤ c.f1) (down : List Int) (hd : down.length ≤ 40) (k : Nat) (hk : 50 ≤ k) : ∀ j n : Nat, 26 - n < j → n ≤ 26 → catenarylaw19_RoleReports_2_l48 k c down j n = some (.inr ()) := by
  intro j
  induction j with
  | zero => intro n hn; exact absurd hn (by omega)
  | succ j ih =>
    intro n hn hn2
    rw [catenarylaw19_RoleReports_2_l48]
    by_cases h : n ≤ 25
    · rw [if_pos (by simp; omega), repC_is c h1 _ down hd k hk, repR_is c h1 _ down hd k hk]
      have hl := same_l (repP c down n) (repP_len c down n) k 0 (by have := repP_len c down n; omega)
      rw [show ((0 : Nat) : Int) = 0 from rfl] at hl
      simp only [Option.bind_some, bne_self_eq_false, Bool.false_eq_true, if_false, hl, catenarylaw19_RoleReports_2_r52]
      rw [next_i64 (by omega)]
      exact ih (n + 1) (by omega) (by omega)
    · rw [if_neg (by simp; omega)]
theorem Newer_is (o c : M53) (h1 : 0 ≤ c.f1) (k : Nat) (hk : 10 ≤ k) : ∃ r, role_Newer k o c = some r ∧ catenaryref19_Newer k o c = some r := by
  unfold role_Newer catenaryref19_Newer role_Newer_r2 catenaryref19_Newer_r2
  rw [RightC_is c h1 k hk, RightR_is c h1 k hk]
  by_cases h : rightP c
  · simp only [h, decide_true, Option.bind_some, if_true]
    by_cases he : o.f0 = c.f0
    · simp [he]
    · simp [he, Ne.symm he]
  · simp [h]
def settledP (c : M53) : List Int := if rightP c then (if c.f3 = true then c.f2.take (c.f2.length - 1) else c.f2) else []
theorem settledP_len (c : M53) : (settledP c).length ≤ 5 := by
  unfold settledP
  split
  · rename_i h
    have := h.2.1.2.1
    split
    · simp; omega
    · omega
  · simp
theorem SettledC_is (c : M53) (h1 : 0 ≤ c.f1) (k : Nat) (hk : 10 ≤ k) : conf_Settled k c = some (settledP c) := by
  unfold conf_Settled settledP
  rw [RightC_is c h1 k hk]
  by_cases h : rightP c
  · have hlen := (RF.of h).len
    simp only [h, decide_true, Option.bind_some, Bool.not_true, Bool.false_eq_true, if_false, if_true]
    unfold conf_settled
    have hc : ∀ xs : List Int, xs.length ≤ 10 → slices_Clone_int_int xs = some xs := fun xs hx => by unfold slices_Clone_int_int; rw [app_some (by simp; omega)]; rfl
    by_cases h3 : c.f3 = true
    · rw [if_pos h3, if_pos h3, w64 (by omega) (by omega), show (c.f2.length : Int) - 1 = ((c.f2.length - 1 : Nat) : Int) by omega, sl_take _ _ (by omega), Option.bind_some, hc _ (by simp; omega)]; rfl
    · rw [if_neg h3, if_neg h3, hc _ (by omega)]; rfl
  · simp [h]
theorem SettledR_is (c : M53) (h1 : 0 ≤ c.f1) (k : Nat) (hk : 10 ≤ k) : catenaryref09_Settled k c = some (settledP c) := by
  unfold catenaryref09_Settled settledP
  rw [RightR_is c h1 k hk]
  by_cases h : rightP c
  · have hlen := (RF.of h).len
    simp only [h, decide_true, Option.bind_some, Bool.not_true, Bool.false_eq_true, if_false, if_true]
    unfold catenaryref09_Settled_r2
    by_cases h3 : c.f3 = true
    · rw [if_pos h3, if_pos h3, w64 (by omega) (by omega), Option.bind_some, show (c.f2.length : Int) - 1 = ((c.f2.length - 1 : Nat) : Int) by omega, sl_take _ _ (by omega)]; rfl
    · rw [if_neg h3, if_neg h3, Option.bind_some, sl_take _ _ (Nat.le_refl _), List.take_length]; rfl
  · simp [h]
theorem missC_l (xs down : List Int) (hl : xs.length ≤ 5) (hd : down.length ≤ 40) (k : Nat) (hk : 50 ≤ k) : ∀ j n : Nat, xs.length - n < j → (∃ r, slices_IndexFunc_int_int_l4 k xs down j n = some r ∧ ((∃ i : Nat, r = .inl (i : Int)) ∧ ¬ (∀ x ∈ xs.drop n, x ∈ down) ∨ r = .inr () ∧ ∀ x ∈ xs.drop n, x ∈ down)) ∧
    catenaryref19_Missing_l4 k xs down j n = some (if ∀ x ∈ xs.drop n, x ∈ down then .inr () else .inl false) := by
  intro j
  induction j with
  | zero => intro n h; exact absurd h (by omega)
  | succ j ih =>
    intro n h
    rw [slices_IndexFunc_int_int_l4, catenaryref19_Missing_l4]
    rcases place xs n with ⟨x, hx, hdd⟩ | ⟨hx, hdd⟩
    · have hlt := (List.getElem?_eq_some_iff.1 hx).1
      rw [if_pos hdd, if_pos hdd, ix_nat, hx]
      simp only [Option.bind_some]
      unfold role_Missing_1
      rw [Contains_is down x (by omega) k (by omega), Has_is down x (by omega) k (by omega), drop_cons hx]
      by_cases hm : x ∈ down
      · obtain ⟨ih1, ih2⟩ := ih (n + 1) (by omega)
        simp only [hm, decide_true, Option.bind_some, Bool.not_true, Bool.false_eq_true, if_false, List.forall_mem_cons, true_and]
        rw [next_i64 (by omega)]
        exact ⟨ih1, ih2⟩
      · simp only [hm, decide_false, Option.bind_some, Bool.not_false, if_true, List.forall_mem_cons, false_and, if_false]
        exact ⟨⟨_, rfl, .inl ⟨⟨n, rfl⟩, id⟩⟩, trivial⟩
    · rw [if_neg (by rw [hdd]; decide), if_neg (by rw [hdd]; decide), List.drop_eq_nil_of_le hx]
      exact ⟨⟨_, rfl, .inr ⟨rfl, by simp⟩⟩, by simp⟩
theorem Missing_is (c : M53) (h1 : 0 ≤ c.f1) (down : List Int) (hd : down.length ≤ 40) (k : Nat) (hk : 50 ≤ k) : ∃ r, role_Missing_2 k c down = some r ∧ catenaryref19_Missing k c down = some r := by
  unfold role_Missing_2 catenaryref19_Missing catenaryref19_Missing_r3 slices_ContainsFunc_int_int slices_IndexFunc_int_int slices_IndexFunc_int_int_r3
  rw [SettledC_is c h1 k (by omega), SettledR_is c h1 k (by omega), Option.bind_some, Option.bind_some]
  have hl := settledP_len c
  obtain ⟨⟨r, hr, hr2⟩, h2⟩ := missC_l (settledP c) down hl hd k hk k 0 (by omega)
  rw [show ((0 : Nat) : Int) = 0 from rfl] at hr h2
  rw [hr, h2]
  rcases hr2 with ⟨⟨i, rfl⟩, hn⟩ | ⟨rfl, hn⟩
  · rw [if_neg hn]
    exact ⟨false, by simp, rfl⟩
  · rw [if_pos hn]
    exact ⟨true, by simp, rfl⟩

theorem pureRoleReports (o c : M53) (down : List Int) (_ho : wfInt .i64 o.f0 ∧ wfInt .u64 o.f1 ∧ wfSl (wfInt .i64) o.f2 ∧ wfBool o.f3 ∧ wfInt .i64 o.f4) (hc : wfInt .i64 c.f0 ∧ wfInt .u64 c.f1 ∧ wfSl (wfInt .i64) c.f2 ∧ wfBool c.f3 ∧ wfInt .i64 c.f4) (_hd : wfSl (wfInt .i64) down) : ∃ k, catenarylaw19_RoleReports_2 k o c down = some true := by
  have h1 : 0 ≤ c.f1 := (wfInt_u64.1 hc.2.1).1
  refine ⟨60, ?_⟩
  unfold catenarylaw19_RoleReports_2
  rw [awake19 60 (by decide)]
  split
  · rfl
  · rename_i hn
    have hd : down.length ≤ 40 := by simp at hn; omega
    have hl := all_l c h1 down hd 60 (by decide) 60 0 (by decide) (by decide)
    rw [show ((0 : Nat) : Int) = 0 from rfl] at hl
    rw [hl]
    obtain ⟨r1, a1, a2⟩ := Newer_is o c h1 60 (by decide)
    obtain ⟨r2, b1, b2⟩ := Missing_is c h1 down hd 60 (by decide)
    simp only [Option.bind_some]
    unfold catenarylaw19_RoleReports_2_r47 catenarylaw19_RoleReports_2_r46
    simp [a1, a2, b1, b2, awake19 60 (by decide)]
end Go.Proofs.Ytfpppgbibgbllaa.Sx
