/- The plain law of BagGoes: what the walk computes answers true.
   Conditions: those that each theorem states ahead of its colon, and no other. -/
import Derived.Test.YtfpppgbibgbllaaWBagGoes
import Derived.Test.YtfpppgbibgbllaaPx
set_option linter.unusedSimpArgs false
set_option linter.unusedVariables false
namespace Go.Proofs.Ytfpppgbibgbllaa.Sx
open Go
def itemsP (l : List Int) (n : Nat) : List M106 := (List.range n).map fun i : Nat => M106.mk ((i : Int) + 1) (l.getD i 0)
theorem items_len (l : List Int) (n : Nat) : (itemsP l n).length = n := by simp [itemsP]
theorem items_get (l : List Int) (n i : Nat) (h : i < n) : (itemsP l n)[i]? = some (M106.mk ((i : Int) + 1) (l.getD i 0)) := by simp [itemsP, h]
theorem items_succ (l : List Int) (n : Nat) : itemsP l (n + 1) = itemsP l n ++ [M106.mk ((n : Int) + 1) (l.getD n 0)] := by simp [itemsP, List.range_succ]
theorem put_is (m la : Int) (L : List M106) (v : Int) (h : (L.length : Int) < m) (hl : L.length ≤ 200) (h0 : 0 ≤ la) (h1 : la ≤ 1000) : bag_Bag_int_Put m la L v = some (la + 1, 0, la + 1, L ++ [M106.mk (la + 1) v]) := by
  unfold bag_Bag_int_Put bag_Bag_int_Put_r4 bag_Bag_int_Put_r3
  rw [w64 (by omega) (by omega), Option.bind_some, if_neg (by simp; omega), app_some (by simp; omega)]
  rfl
theorem take0_is (m la : Int) (L : List M106) (h : 1 ≤ L.length) (hl : L.length ≤ 200) : ∃ v, bag_Bag_int_Take m la L 0 = some (v, true, L.drop 1) := by
  obtain ⟨x, hx⟩ : ∃ x, L[0]? = some x := ⟨_, List.getElem?_eq_getElem (by omega)⟩
  unfold bag_Bag_int_Take bag_Bag_int_At bag_Bag_int_has bag_Bag_int_Take_r2 slices_Delete_bag_item_int_bag_item_int
  have e1 : IntKind.i64.wrap (0 + 1) = 1 := rfl
  have e2 : delS L 0 1 = some (L.drop 1) := by
    unfold delS
    rw [if_pos (by omega)]; simp
  have e3 : ((decide ((0 : Int) ≥ 0)) && (decide ((0 : Int) < (L.length : Int)))) = true := by simp; omega
  refine ⟨x.f1, ?_⟩
  rw [e3, e1, e2]
  simp [ix_zero, hx]
theorem fill_l (l : List Int) (n : Nat) (hn : n ≤ 40) (hnl : n ≤ l.length) (hm : (if 40 < (l.length : Int) then 40 else (l.length : Int)) = (n : Int)) (y : Int × Int × List M106) (hy : y.1 = 100) : ∀ j i : Nat, n - i < j → i ≤ n →
    catenarylaw06_BagGoes_2_l15 l y j i i (itemsP l i) = some ((n : Int), itemsP l n) := by
  intro j
  induction j with
  | zero => intro i h; exact absurd h (by omega)
  | succ j ih =>
    intro i h hi
    rw [catenarylaw06_BagGoes_2_l15, hm]
    by_cases hlt : i < n
    · have hg : l[i]? = some (l.getD i 0) := by rw [List.getD_eq_getElem?_getD, List.getElem?_eq_getElem (by omega)]; rfl
      rw [if_pos (by simp; omega), ix_nat, hg, hy]
      simp only [Option.bind_some]
      rw [put_is 100 i (itemsP l i) _ (by rw [items_len]; omega) (by rw [items_len]; omega) (by omega) (by omega)]
      simp only [Option.bind_some, catenarylaw06_BagGoes_2_r16]
      rw [← items_succ, next_i64 (by omega), show (i : Int) + 1 = ((i + 1 : Nat) : Int) by omega]
      exact ih (i + 1) (by omega) (by omega)
    · rw [if_neg (by simp; omega)]
      have : i = n := by omega
      subst this; rfl
/-- the rounds -/
theorem rounds_l (l : List Int) (n : Nat) (hn : n ≤ 40) (hnl : n ≤ l.length) (stop : Int) (hs : 0 ≤ stop ∧ stop ≤ 255) : ∀ (j i : Nat) (L : List M106), n - i < j → i ≤ n → L.length = n → (i : Int) ≤ stop →
    ∃ (L' : List M106) (x : Int) (b : Bool), L'.length = n ∧
      ((x = 0 ∧ i ≤ n ∧ (n : Int) ≤ stop ∧ bag_Bag_int_All_1_2_l4 (itemsP l n) l stop 100 j i false ((n : Int) + i) L i 0 = some (.inr (b, (n : Int) + n, L', (n : Int), 0))) ∨
       (∃ f : Nat, stop + 1 ≤ n ∧ (f : Int) = stop + 1 ∧ bag_Bag_int_All_1_2_l4 (itemsP l n) l stop 100 j i false ((n : Int) + i) L i 0 = some (.inl (b, (n : Int) + f, L', (f : Int), 2))) ∨ 
       (x = 1 ∧ (n : Int) = stop + 1 ∧ bag_Bag_int_All_1_2_l4 (itemsP l n) l stop 100 j i false ((n : Int) + i) L i 0 = some (.inl (b, (n : Int) + n, L', (n : Int), 2)))) := by
  intro j
  induction j with
  | zero => intro i L h; exact absurd h (by omega)
  | succ j ih =>
    intro i L h hi hL hst
    rw [bag_Bag_int_All_1_2_l4, items_len]
    by_cases hlt : i < n
    · have hg : l[i]? = some (l.getD i 0) := by rw [List.getD_eq_getElem?_getD, List.getElem?_eq_getElem (by omega)]; rfl
      obtain ⟨v, hv⟩ := take0_is 100 ((n : Int) + i) L (by omega) (by omega)
      have hp := put_is 100 ((n : Int) + i) (L.drop 1) (l.getD i 0) (by rw [List.length_drop]; omega) (by rw [List.length_drop]; omega) (by omega) (by omega)
      have hL2 : (L.drop 1 ++ [M106.mk ((n : Int) + i + 1) (l.getD i 0)]).length = n := by rw [List.length_append, List.length_drop]; simp; omega
      rw [if_pos (by simp; omega), ix_nat, items_get l n i hlt, Option.bind_some, if_neg (by decide)]
      unfold catenarylaw06_BagGoes_2_round catenarylaw06_BagGoes_2_round_r2
      have ew : IntKind.i64.wrap ((i : Int) + 1) = (i : Int) + 1 := w64 (by omega) (by omega)
      have ec : (i : Int) + 1 = ((i + 1 : Nat) : Int) := by omega
      simp only [ew, bne_self_eq_false, Bool.false_eq_true, if_false, ix_nat, hg, Option.bind_some, hv, hp]
      rw [w64 (n := stop) (by omega) (by omega)]
      by_cases hx : (i : Int) + 1 > stop
      · rw [if_pos (by simpa using hx)]
        refine ⟨_, 0, false, hL2, .inr (.inl ⟨i + 1, by omega, by omega, ?_⟩)⟩
        simp only [Option.bind_some, Bool.not_false, if_true]
        rw [← ec, show (n : Int) + i + 1 = (n : Int) + ((i : Int) + 1) by omega]
      · rw [if_neg (by simpa using hx)]
        obtain ⟨L', x, b, h1, h2⟩ := ih (i + 1) (L.drop 1 ++ [M106.mk ((n : Int) + i + 1) (l.getD i 0)]) (by omega) (by omega) hL2 (by omega)
        refine ⟨L', x, b, h1, ?_⟩
        simp only [Option.bind_some, Bool.not_true, Bool.false_eq_true, if_false]
        rw [← ec, show (n : Int) + ((i : Int) + 1) = (n : Int) + i + 1 by omega] at h2
        rcases h2 with ⟨h3, h4, h5, h6⟩ | h2 | h2
        · exact .inl ⟨h3, hi, h5, h6⟩
        · exact .inr (.inl h2)
        · exact .inr (.inr h2)
    · have : i = n := by omega
      subst this
      rw [if_neg (by simp)]
      exact ⟨L, 0, false, hL, .inl ⟨rfl, Nat.le_refl _, hst, rfl⟩⟩
theorem awake06 : catenarylaw06_awake = some true := by kernel_rfl
theorem pureBagGoes (l : List Int) (stop : Int) (hl : wfSl (wfInt .i64) l) (hs : wfInt .u8 stop) : ∃ k, catenarylaw06_BagGoes_2 k l stop = some true := by
  have hs := wfInt_u8.1 hs
  refine ⟨60, ?_⟩
  obtain ⟨n, hn, hnl, hm⟩ : ∃ n : Nat, n ≤ 40 ∧ n ≤ l.length ∧ (if 40 < (l.length : Int) then 40 else (l.length : Int)) = (n : Int) := by
    by_cases h : 40 < (l.length : Int)
    · exact ⟨40, Nat.le_refl _, by omega, by rw [if_pos h]; rfl⟩
    · exact ⟨l.length, by omega, Nat.le_refl _, by rw [if_neg h]⟩
  unfold catenarylaw06_BagGoes_2 bag_New_int
  rw [if_neg (show ¬ (0 : Int) > 100 by decide), Option.bind_some]
  have hf := fill_l l n hn hnl hm (100, 0, []) rfl 60 0 (by omega) (by omega)
  rw [show ((0 : Nat) : Int) = 0 from rfl, show itemsP l 0 = [] from rfl] at hf
  rw [hf, Option.bind_some]
  unfold catenarylaw06_BagGoes_2_r14 bag_Bag_int_All bag_Bag_int_All_1_2
  have hc : slices_Clone_bag_item_int_bag_item_int (itemsP l n) = some (itemsP l n) := by
    unfold slices_Clone_bag_item_int_bag_item_int
    rw [app_some (by rw [items_len]; simp; omega)]; rfl
  simp only [Option.bind_some, hc]
  obtain ⟨L', x, b, h1, h2⟩ := rounds_l l n hn hnl stop hs 60 0 (itemsP l n) (by omega) (by omega) (items_len l n) (by omega)
  rw [show ((0 : Nat) : Int) = 0 from rfl, Int.add_zero] at h2
  have e1 : IntKind.i64.wrap (IntKind.i64.wrap stop + 1) = stop + 1 := by rw [w64 (n := stop) (by omega) (by omega), w64 (by omega) (by omega)]
  rcases h2 with ⟨_, _, h3, h4⟩ | ⟨f, h3, h5, h4⟩ | ⟨_, h3, h4⟩
  · rw [h4]
    simp only [Option.bind_some, bag_Bag_int_All_1_2_r3, beq_self_eq_true, if_true, catenarylaw06_BagGoes_2_r13, catenarylaw06_BagGoes_2_r12, e1, hm, bag_Bag_int_Len, bag_Bag_int_Last, h1, awake06]
    rw [if_neg (show ¬ stop + 1 < (n : Int) by omega), w64 (by omega) (by omega)]
    simp
  · rw [h4]
    simp only [Option.bind_some, show ((2 : Int) == 0) = false from rfl, show ((2 : Int) == 1) = false from rfl, Bool.false_eq_true, if_false, beq_self_eq_true, if_true, catenarylaw06_BagGoes_2_r13, catenarylaw06_BagGoes_2_r12, e1, hm, bag_Bag_int_Len, bag_Bag_int_Last, h1, awake06]
    rw [h5, w64 (n := (n : Int) + (stop + 1)) (by omega) (by omega)]
    by_cases h6 : stop + 1 < (n : Int)
    · simp [h6]
    · have : stop + 1 = (n : Int) := by omega
      simp [this]
  · rw [h4]
    simp only [Option.bind_some, show ((2 : Int) == 0) = false from rfl, show ((2 : Int) == 1) = false from rfl, Bool.false_eq_true, if_false, beq_self_eq_true, if_true, catenarylaw06_BagGoes_2_r13, catenarylaw06_BagGoes_2_r12, e1, hm, bag_Bag_int_Len, bag_Bag_int_Last, h1, awake06]
    rw [w64 (n := (n : Int) + n) (by omega) (by omega)]
    simp [← h3]
end Go.Proofs.Ytfpppgbibgbllaa.Sx
