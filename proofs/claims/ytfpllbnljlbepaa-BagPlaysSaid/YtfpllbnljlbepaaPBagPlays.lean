/- The plain law of BagPlays: what the walk computes answers true.
   Conditions: those that each theorem states ahead of its colon, and no other. -/
import Derived.Test.YtfpllbnljlbepaaWBagPlays
import Derived.Test.YtfpllbnljlbepaaPx
set_option linter.unusedSimpArgs false
set_option linter.unusedVariables false
namespace Go.Proofs.Ytfpllbnljlbepaa.Sx
open Go
/-- numbers rise with the places, and lie between 1 and last -/
def Rises (L : List M102) (la : Int) : Prop := (∀ (i j : Nat) x y, i < j → L[i]? = some x → L[j]? = some y → x.f0 < y.f0) ∧ ∀ x ∈ L, 1 ≤ x.f0 ∧ x.f0 ≤ la
theorem search_l (L : List M102) (la v : Int) (hR : Rises L la) (hla : la ≤ 1000) (hl : L.length ≤ 200) (hv : -9223372036854775808 ≤ v ∧ v ≤ 9223372036854775807) : ∀ j lo hi : Nat, hi - lo < j → lo ≤ hi → hi ≤ L.length →
    (∀ (i : Nat) x, i < lo → L[i]? = some x → x.f0 < (if 0 > v then 0 else v)) → (∀ (i : Nat) x, hi ≤ i → L[i]? = some x → (if 0 > v then 0 else v) ≤ x.f0) →
    ∃ m : Nat, slices_BinarySearchFunc_bag_item_int_bag_item_int_int_l6 L v j lo hi = some (m : Int) ∧ m ≤ L.length ∧ (∀ (i : Nat) x, i < m → L[i]? = some x → x.f0 < (if 0 > v then 0 else v)) ∧ (∀ (i : Nat) x, m ≤ i → L[i]? = some x → (if 0 > v then 0 else v) ≤ x.f0) := by
  intro j
  induction j with
  | zero => intro lo hi h; exact absurd h (by omega)
  | succ j ih =>
    intro lo hi h hle hhi h1 h2
    rw [slices_BinarySearchFunc_bag_item_int_bag_item_int_int_l6]
    by_cases hlt : lo < hi
    · have em : IntKind.i64.wrap ((IntKind.u64.wrap (IntKind.i64.wrap ((lo : Int) + (hi : Int)))).fdiv (2 ^ 1)) = (((lo + hi) / 2 : Nat) : Int) := by
        rw [w64 (n := (lo : Int) + hi) (by omega) (by omega), wu64 (by omega) (by omega), Int.fdiv_eq_ediv_of_nonneg _ (by decide), show (2 : Int) ^ 1 = 2 from rfl, w64 (by omega) (by omega)]
        omega
      have hmid : (lo + hi) / 2 < L.length := by omega
      have hg : L[(lo + hi) / 2]? = some L[(lo + hi) / 2] := List.getElem?_eq_getElem hmid
      have hb := hR.2 _ (List.mem_of_getElem? hg)
      rw [if_pos (by simp; omega), em, ix_nat, hg, Option.bind_some]
      unfold bag_Bag_int_Upto_1
      have hv0 : 0 ≤ (if 0 > v then 0 else v) ∧ (if 0 > v then 0 else v) ≤ 9223372036854775807 := by split <;> omega
      rw [w64 (n := L[(lo + hi) / 2].f0 - _) (by omega) (by omega), Option.bind_some]
      by_cases hc : L[(lo + hi) / 2].f0 - (if 0 > v then 0 else v) < 0
      · rw [if_pos (by simpa using hc), next_i64 (by omega)]
        refine ih ((lo + hi) / 2 + 1) hi (by omega) (by omega) hhi (fun i x hi' hx => ?_) h2
        by_cases he : i = (lo + hi) / 2
        · subst he; rw [hg] at hx; cases hx; omega
        · have := hR.1 i ((lo + hi) / 2) x _ (by omega) hx hg; omega
      · rw [if_neg (by simpa using hc)]
        refine ih lo ((lo + hi) / 2) (by omega) (by omega) (by omega) h1 (fun i x hi' hx => ?_)
        by_cases he : i = (lo + hi) / 2
        · subst he; rw [hg] at hx; cases hx; omega
        · have := hR.1 ((lo + hi) / 2) i _ x (by omega) hg hx; omega
    · have : lo = hi := by omega
      subst this
      rw [if_neg (by simp)]
      exact ⟨lo, rfl, hhi, h1, h2⟩
theorem upto_is (m0 la0 : Int) (L : List M102) (la v : Int) (hR : Rises L la) (hla : la ≤ 1000) (hl : L.length ≤ 200) (hv : -9223372036854775808 ≤ v ∧ v ≤ 9223372036854775807) (k : Nat) (hk : 300 ≤ k) :
    ∃ u : Nat, bag_Bag_int_Upto k m0 la0 L v = some (u : Int) ∧ u ≤ L.length ∧ (∀ (i : Nat) x, i < u → L[i]? = some x → x.f0 ≤ (if 0 > v then 0 else v)) ∧ (∀ (i : Nat) x, u ≤ i → L[i]? = some x → (if 0 > v then 0 else v) < x.f0) := by
  obtain ⟨m, e1, h1, h2, h3⟩ := search_l L la v hR hla hl hv k 0 L.length (by omega) (by omega) (Nat.le_refl _) (fun i x hi => by omega) (fun i x hi hx => by have := (List.getElem?_eq_some_iff.1 hx).1; omega)
  rw [show ((0 : Nat) : Int) = 0 from rfl] at e1
  unfold bag_Bag_int_Upto slices_BinarySearchFunc_bag_item_int_bag_item_int_int slices_BinarySearchFunc_bag_item_int_bag_item_int_int_r5 slices_BinarySearchFunc_bag_item_int_bag_item_int_int_r4 bag_Bag_int_Upto_r2 bag_Bag_int_Upto_1
  rw [e1, Option.bind_some]
  have hv0 : 0 ≤ (if 0 > v then 0 else v) ∧ (if 0 > v then 0 else v) ≤ 9223372036854775807 := by split <;> omega
  generalize (if 0 > v then 0 else v) = v0 at *
  by_cases hm : m < L.length
  · have hg : L[m]? = some L[m] := List.getElem?_eq_getElem hm
    have hb := hR.2 _ (List.mem_of_getElem? hg)
    have h4 := h3 m _ (Nat.le_refl _) hg
    rw [if_pos (by simpa using hm), ix_nat, hg]
    simp only [Option.bind_some]
    rw [w64 (n := L[m].f0 - v0) (by omega) (by omega)]
    by_cases hf : L[m].f0 = v0
    · refine ⟨m + 1, ?_, by omega, fun i x hi hx => ?_, fun i x hi hx => ?_⟩
      · simp only [hf, Int.sub_self, beq_self_eq_true, if_true, Option.bind_some]
        rw [next_i64 (by omega)]
      · by_cases he : i = m
        · subst he; rw [hg] at hx; cases hx; omega
        · have := h2 i x (by omega) hx; omega
      · have := hR.1 m i _ x (by omega) hg hx; omega
    · have hne : (L[m].f0 - v0 == 0) = false := by rw [beq_eq_false_iff_ne]; omega
      refine ⟨m, ?_, h1, fun i x hi hx => by have := h2 i x hi hx; omega, fun i x hi hx => ?_⟩
      · simp only [hne, Bool.false_eq_true, if_false, Option.bind_some]
      · by_cases he : i = m
        · subst he; rw [hg] at hx; cases hx; omega
        · have := hR.1 m i _ x (by omega) hg hx; omega
  · rw [if_neg (by simpa using hm)]
    exact ⟨m, rfl, h1, fun i x hi hx => by have := h2 i x hi hx; omega, fun i x hi hx => by have := (List.getElem?_eq_some_iff.1 hx).1; omega⟩
theorem no_is (m0 la0 : Int) (L : List M102) {p : Nat} {x : M102} (hx : L[p]? = some x) : bag_Bag_int_No m0 la0 L (p : Int) = some x.f0 := by
  have hpl := (List.getElem?_eq_some_iff.1 hx).1
  unfold bag_Bag_int_No bag_Bag_int_has
  have e : ((decide ((p : Int) ≥ 0)) && (decide ((p : Int) < (L.length : Int)))) = true := by simp; omega
  rw [e]
  simp [ix_nat, hx]
theorem rises_iff {L : List M102} {la : Int} : Rises L la ↔ L.Pairwise (fun x y => x.f0 < y.f0) ∧ ∀ x ∈ L, 1 ≤ x.f0 ∧ x.f0 ≤ la := by
  unfold Rises
  rw [List.pairwise_iff_getElem]
  constructor
  · rintro ⟨h1, h2⟩
    exact ⟨fun i j hi hj hij => h1 i j _ _ hij (List.getElem?_eq_getElem hi) (List.getElem?_eq_getElem hj), h2⟩
  · rintro ⟨h1, h2⟩
    refine ⟨fun i j x y hij hx hy => ?_, h2⟩
    obtain ⟨hi, rfl⟩ := List.getElem?_eq_some_iff.1 hx
    obtain ⟨hj, rfl⟩ := List.getElem?_eq_some_iff.1 hy
    exact h1 i j hi hj hij
theorem Rises.sub {L L' : List M102} {la : Int} (h : Rises L la) (hs : L'.Sublist L) : Rises L' la := by
  rw [rises_iff] at h ⊢
  exact ⟨h.1.sublist hs, fun x hx => h.2 x (hs.subset hx)⟩
theorem Rises.put {L : List M102} {la : Int} (h : Rises L la) (h0 : 0 ≤ la) (v : Int) : Rises (L ++ [M102.mk (la + 1) v]) (la + 1) := by
  rw [rises_iff] at h ⊢
  refine ⟨List.pairwise_append.2 ⟨h.1, by simp, fun x hx y hy => ?_⟩, fun x hx => ?_⟩
  · rw [List.mem_singleton.1 hy]; have := (h.2 x hx).2; show x.f0 < la + 1; omega
  · rcases List.mem_append.1 hx with hx | hx
    · have := h.2 x hx; omega
    · rw [List.mem_singleton.1 hx]; show 1 ≤ la + 1 ∧ la + 1 ≤ la + 1; omega

@[reducible] def cv (x : M102) : M92 := M92.mk x.f0 x.f1
@[reducible] def od (x : M102) : Bool := x.f1.tmod 2 != 0
@[reducible] def mx (m : Int) : Int := if 0 > m then 0 else m
theorem has_cases (L : List M102) (v : Int) : (∃ (p : Nat) (x : M102), v = p ∧ L[p]? = some x ∧ p < L.length ∧ ((decide (v ≥ 0)) && (decide (v < (L.length : Int)))) = true) ∨ ((decide (v ≥ 0)) && (decide (v < (L.length : Int)))) = false := by
  by_cases h : 0 ≤ v ∧ v < (L.length : Int)
  · left
    refine ⟨v.toNat, L[v.toNat]'(by omega), by omega, List.getElem?_eq_getElem (by omega), by omega, ?_⟩
    simp; omega
  · right
    rw [Bool.eq_false_iff]; intro hc; simp at hc; exact h hc
theorem len_cv (L : List M102) : (((L.map cv).length : Nat) : Int) = (L.length : Int) := by rw [List.length_map]
theorem put_both (mo la : Int) (L : List M102) (v : Int) (hR : Rises L la) (hl : L.length ≤ 100) (h0 : 0 ≤ la) (h1 : la ≤ 800) : ∃ (a b la' : Int) (L' : List M102), bag_Bag_int_Put (mx mo) la L v = some (a, b, la', L') ∧ catenaryref06_Put (M41.mk mo la (L.map cv)) v = some (M41.mk mo la' (L'.map cv), a, b) ∧ Rises L' la' ∧ L'.length ≤ L.length + 1 ∧ la ≤ la' ∧ la' ≤ la + 1 := by
  unfold bag_Bag_int_Put bag_Bag_int_Put_r4 bag_Bag_int_Put_r3 catenaryref06_Put catenaryref06_Put_r4 catenaryref06_Put_r3
  dsimp only
  rw [len_cv, w64 (by omega) (by omega), Option.bind_some]
  by_cases h : (L.length : Int) ≥ mx mo
  · rw [if_pos (by simpa using h), if_pos (by simpa using h)]
    exact ⟨_, _, _, _, rfl, rfl, hR, by omega, Int.le_refl _, by omega⟩
  · rw [if_neg (by simpa using h), if_neg (by simpa using h), app_some (by simp; omega), app_some (by simp; omega)]
    simp only [Option.bind_some, List.nil_append]
    rw [app_some (by simp; omega)]
    refine ⟨_, _, _, _, rfl, ?_, hR.put h0 v, by simp, by omega, Int.le_refl _⟩
    simp
theorem twice_both (mo la : Int) (L : List M102) (v : Int) (hR : Rises L la) (hl : L.length ≤ 100) (h0 : 0 ≤ la) (h1 : la ≤ 800) : ∃ (a b la' : Int) (L' : List M102), bag_Bag_int_Twice (mx mo) la L v = some (a, b, la', L') ∧ catenaryref06_Twice (M41.mk mo la (L.map cv)) v = some (M41.mk mo la' (L'.map cv), a, b) ∧ Rises L' la' ∧ L'.length ≤ L.length + 1 ∧ la ≤ la' ∧ la' ≤ la + 1 := by
  unfold bag_Bag_int_Twice bag_Bag_int_has catenaryref06_Twice catenaryref06_Has catenaryref06_Twice_r2
  dsimp only
  rw [len_cv]
  simp only [Option.bind_some]
  rcases has_cases L v with ⟨p, x, rfl, hx, hp, e⟩ | e
  · obtain ⟨a, b, la', L', e1, e2, r⟩ := put_both mo la L x.f1 hR hl h0 h1
    rw [e, if_neg (by decide), if_neg (by decide), ix_nat, ix_nat, hx, List.getElem?_map, hx]
    simp only [Option.bind_some, Option.map_some]
    rw [e1, e2]
    exact ⟨a, b, la', L', rfl, rfl, r⟩
  · rw [e]
    exact ⟨_, _, _, _, rfl, rfl, hR, by omega, Int.le_refl _, by omega⟩
theorem at_both (mo la : Int) (L : List M102) (v : Int) : ∃ (x : M102) (b : Bool), bag_Bag_int_At (mx mo) la L v = some (x.f1, b) ∧ catenaryref06_At (M41.mk mo la (L.map cv)) v = some (cv x, b) ∧ bag_Bag_int_No (mx mo) la L v = some x.f0 := by
  unfold bag_Bag_int_At bag_Bag_int_No bag_Bag_int_has catenaryref06_At catenaryref06_Has
  dsimp only
  rw [len_cv]
  simp only [Option.bind_some]
  rcases has_cases L v with ⟨p, x, rfl, hx, hp, e⟩ | e
  · rw [e, if_neg (by decide), if_neg (by decide), if_neg (by decide), ix_nat, ix_nat, hx, List.getElem?_map, hx]
    exact ⟨x, true, rfl, rfl, rfl⟩
  · rw [e]
    exact ⟨M102.mk 0 0, false, rfl, rfl, rfl⟩
theorem sl_drop {α : Type} (xs : List α) (n : Nat) (h : n ≤ xs.length) : sl xs (n : Int) (xs.length : Int) = some (xs.drop n) := by
  unfold sl
  rw [if_pos ⟨by omega, by omega, by omega⟩]
  simp only [Int.toNat_natCast, Option.some.injEq]
  exact List.take_of_length_le (by simp)
theorem take_both (mo la : Int) (L : List M102) (v : Int) (hl : L.length ≤ 100) : ∃ (x : M102) (b : Bool) (L' : List M102), catenaryref06_At (M41.mk mo la (L.map cv)) v = some (cv x, b) ∧ bag_Bag_int_Take (mx mo) la L v = some (x.f1, b, L') ∧ catenaryref06_Take (M41.mk mo la (L.map cv)) v = some (M41.mk mo la (L'.map cv)) ∧ L'.Sublist L := by
  unfold bag_Bag_int_Take bag_Bag_int_At bag_Bag_int_has bag_Bag_int_Take_r2 slices_Delete_bag_item_int_bag_item_int catenaryref06_At catenaryref06_Take catenaryref06_Take_r2 catenaryref06_Has
  dsimp only
  rw [len_cv]
  simp only [Option.bind_some]
  rcases has_cases L v with ⟨p, x, rfl, hx, hp, e⟩ | e
  · have e2 : delS L (p : Int) ((p + 1 : Nat) : Int) = some (L.take p ++ L.drop (p + 1)) := by
      unfold delS
      rw [if_pos (by omega)]; simp
    have e3 : sl (L.map cv) 0 (p : Int) = some ((L.map cv).take p) := sl_take _ _ (by simp; omega)
    have e4 : sl (L.map cv) ((p + 1 : Nat) : Int) (L.length : Int) = some ((L.map cv).drop (p + 1)) := by
      rw [← len_cv]; exact sl_drop _ _ (by simp; omega)
    rw [e, next_i64 (by omega), e2, e3, e4, ix_nat, ix_nat, hx, List.getElem?_map, hx]
    simp only [Option.bind_some, Bool.not_true, Bool.false_eq_true, if_false, if_true, Option.map_some]
    rw [app_some (by simp; omega)]
    simp only [Option.bind_some, List.nil_append]
    rw [app_some (by simp; omega)]
    refine ⟨x, true, _, rfl, rfl, by simp, ?_⟩
    conv => rhs; rw [← List.take_append_drop p L]
    exact List.Sublist.append (List.Sublist.refl _) (by rw [List.drop_eq_getElem_cons (by omega : p < L.length)]; exact List.sublist_cons_self _ _)
  · rw [e]
    exact ⟨M102.mk 0 0, false, L, rfl, rfl, rfl, List.Sublist.refl _⟩
theorem Rises.set {L : List M102} {la : Int} (h : Rises L la) {p : Nat} {x : M102} (hx : L[p]? = some x) (v : Int) : Rises (L.set p (M102.mk x.f0 v)) la := by
  have key : ∀ (i : Nat) y, (L.set p (M102.mk x.f0 v))[i]? = some y → ∃ z, L[i]? = some z ∧ y.f0 = z.f0 := by
    intro i y hy
    rw [List.getElem?_set] at hy
    split at hy
    · rename_i he; subst he
      split at hy
      · cases hy; exact ⟨x, hx, rfl⟩
      · cases hy
    · exact ⟨y, hy, rfl⟩
  refine ⟨fun i j a b hij ha hb => ?_, fun y hy => ?_⟩
  · obtain ⟨a', h1, h2⟩ := key i a ha
    obtain ⟨b', h3, h4⟩ := key j b hb
    rw [h2, h4]; exact h.1 i j a' b' hij h1 h3
  · obtain ⟨i, hi⟩ := List.getElem?_of_mem hy
    obtain ⟨z, h1, h2⟩ := key i y hi
    rw [h2]; exact h.2 z (List.mem_of_getElem? h1)
theorem set_both (mo la : Int) (L : List M102) (v w : Int) (hR : Rises L la) (hl : L.length ≤ 100) : ∃ (b : Bool) (L' : List M102), catenaryref06_Set (M41.mk mo la (L.map cv)) v w = some (M41.mk mo la (L'.map cv)) ∧ bag_Bag_int_Set (mx mo) la L v w = some (b, L') ∧ catenaryref06_Has (M41.mk mo la (L.map cv)) v = some b ∧ Rises L' la ∧ L'.length = L.length := by
  unfold bag_Bag_int_Set bag_Bag_int_has catenaryref06_Set catenaryref06_Has
  dsimp only
  rw [len_cv]
  simp only [Option.bind_some]
  rcases has_cases L v with ⟨p, x, rfl, hx, hp, e⟩ | e
  · rw [e, if_neg (by decide), if_neg (by decide), ix_nat, hx, app_some (by simp; omega)]
    simp only [Option.bind_some, List.nil_append, ix_nat, List.getElem?_map, hx, Option.map_some]
    refine ⟨true, L.set p (M102.mk x.f0 w), ?_, rfl, rfl, hR.set hx w, by simp⟩
    rw [List.map_set, Int.toNat_natCast]
  · rw [e]
    exact ⟨false, L, rfl, rfl, rfl, hR, rfl⟩
theorem keep_l (ys : List M102) (hl : ys.length ≤ 200) : ∀ (j i : Nat) (acc : List M102), ys.length - i < j → acc.length ≤ i → i ≤ ys.length → bag_Bag_int_All_1_l4 ys j i acc 0 = some (.inr (acc ++ (ys.drop i).filter od, 0)) := by
  intro j
  induction j with
  | zero => intro i acc h; exact absurd h (by omega)
  | succ j ih =>
    intro i acc h ha hi
    rw [bag_Bag_int_All_1_l4]
    rcases place ys i with ⟨x, hx, hd⟩ | ⟨hx, hd⟩
    · have hpl := (List.getElem?_eq_some_iff.1 hx).1
      rw [if_pos hd, ix_nat, hx, Option.bind_some, if_neg (by decide), drop_cons hx]
      unfold bag_Bag_int_Keep_round catenarylaw06_odd
      rw [Option.bind_some]
      by_cases ho : (x.f1.tmod 2 != 0) = true
      · rw [if_pos ho, app_some (by simp; omega)]
        simp only [Option.bind_some, Bool.not_true, Bool.false_eq_true, if_false]
        rw [next_i64 (by omega), ih (i + 1) (acc ++ [M102.mk x.f0 x.f1]) (by omega) (by simp; omega) (by omega), List.filter_cons_of_pos (p := od) ho]
        simp
      · rw [if_neg ho]
        simp only [Option.bind_some, Bool.not_true, Bool.false_eq_true, if_false]
        rw [next_i64 (by omega), ih (i + 1) acc (by omega) (by omega) (by omega), List.filter_cons_of_neg (p := od) ho]
    · rw [if_neg (by rw [hd]; decide)]
      rw [List.drop_eq_nil_of_le (by omega)]; simp
theorem odd_l (mo la : Int) (ys : List M102) (hl : ys.length ≤ 200) : ∀ (j i : Nat) (acc : List M102), ys.length - i < j → acc.length ≤ i → i ≤ ys.length → catenaryref06_Odd_l11 (M41.mk mo la (ys.map cv)) j (acc.map cv) i = some ((acc ++ (ys.drop i).filter od).map cv) := by
  intro j
  induction j with
  | zero => intro i acc h; exact absurd h (by omega)
  | succ j ih =>
    intro i acc h ha hi
    rw [catenaryref06_Odd_l11]
    dsimp only
    rw [len_cv]
    rcases place ys i with ⟨x, hx, hd⟩ | ⟨hx, hd⟩
    · have hpl := (List.getElem?_eq_some_iff.1 hx).1
      rw [if_pos hd, ix_nat, List.getElem?_map, hx, drop_cons hx]
      simp only [Option.map_some, Option.bind_some]
      unfold catenaryref06_Odd_r12
      by_cases ho : (x.f1.tmod 2 != 0) = true
      · rw [if_pos ho, app_some (by simp; omega)]
        simp only [Option.bind_some]
        rw [next_i64 (by omega), show acc.map cv ++ [cv x] = (acc ++ [x]).map cv by simp, ih (i + 1) (acc ++ [x]) (by omega) (by simp; omega) (by omega), List.filter_cons_of_pos (p := od) ho]
        simp
      · rw [if_neg ho]
        simp only [Option.bind_some]
        rw [next_i64 (by omega), ih (i + 1) acc (by omega) (by omega) (by omega), List.filter_cons_of_neg (p := od) ho]
    · rw [if_neg (by rw [hd]; decide)]
      rw [List.drop_eq_nil_of_le (by omega)]; simp
theorem keep_both (mo la : Int) (L : List M102) (hl : L.length ≤ 100) (k : Nat) (hk : 300 ≤ k) : ∃ c : Int, bag_Bag_int_Keep k (mx mo) la L = some (c, L.filter od) ∧ catenaryref06_Odd k (M41.mk mo la (L.map cv)) = some (M41.mk mo la ((L.filter od).map cv), c) := by
  have hc : slices_Clone_bag_item_int_bag_item_int L = some L := by
    unfold slices_Clone_bag_item_int_bag_item_int
    rw [app_some (by simp; omega)]; rfl
  have h2 := keep_l L (by omega) k 0 [] (by omega) (by simp) (by omega)
  have h3 := odd_l mo la L (by omega) k 0 [] (by omega) (by simp) (by omega)
  rw [show ((0 : Nat) : Int) = 0 from rfl, List.nil_append, List.drop_zero] at h2 h3
  unfold bag_Bag_int_Keep bag_Bag_int_All bag_Bag_int_All_1 bag_Bag_int_All_1_r3 catenaryref06_Odd catenaryref06_Odd_r10
  rw [Option.bind_some, hc, Option.bind_some, h2, show ([] : List M92) = ([] : List M102).map cv from rfl, h3]
  refine ⟨IntKind.i64.wrap ((L.length : Int) - ((L.filter od).length : Int)), rfl, ?_⟩
  simp only [Option.bind_some, List.length_map]
theorem count_up (P : M102 → Bool) : ∀ (L : List M102) (u : Nat), u ≤ L.length → (∀ (i : Nat) x, i < u → L[i]? = some x → P x = true) → (∀ (i : Nat) x, u ≤ i → L[i]? = some x → P x = false) → L.countP P = u := by
  intro L
  induction L with
  | nil => intro u hu _ _; simp at hu; simp [hu]
  | cons y L ih =>
    intro u hu h1 h2
    cases u with
    | zero =>
      have hy := h2 0 y (Nat.le_refl _) rfl
      rw [List.countP_cons_of_neg (by simp [hy]), ih 0 (Nat.zero_le _) (fun i x hi => by omega) (fun i x _ hx => h2 (i + 1) x (by omega) hx)]
    | succ u =>
      have hy := h1 0 y (by omega) rfl
      rw [List.countP_cons_of_pos (by simp [hy]), ih u (by simpa using hu) (fun i x hi hx => h1 (i + 1) x (by omega) hx) (fun i x hi hx => h2 (i + 1) x (by omega) hx)]
theorem ref_upto_l (mo la v : Int) (ys : List M102) (hl : ys.length ≤ 200) : ∀ (j i c : Nat), ys.length - i < j → c ≤ i → i ≤ ys.length → catenaryref06_Upto_l11 (M41.mk mo la (ys.map cv)) v j c i = some ((c + (ys.drop i).countP (fun x => decide (x.f0 ≤ v)) : Nat) : Int) := by
  intro j
  induction j with
  | zero => intro i c h; exact absurd h (by omega)
  | succ j ih =>
    intro i c h hc hi
    rw [catenaryref06_Upto_l11]
    dsimp only
    rw [len_cv]
    rcases place ys i with ⟨x, hx, hd⟩ | ⟨hx, hd⟩
    · have hpl := (List.getElem?_eq_some_iff.1 hx).1
      rw [if_pos hd, ix_nat, List.getElem?_map, hx, drop_cons hx]
      simp only [Option.map_some, Option.bind_some]
      unfold catenaryref06_Upto_r12
      by_cases ho : decide (x.f0 ≤ v) = true
      · rw [if_pos ho]
        simp only [Option.bind_some]
        rw [next_i64 (by omega), next_i64 (by omega), ih (i + 1) (c + 1) (by omega) (by omega) (by omega), List.countP_cons_of_pos (p := fun y : M102 => decide (y.f0 ≤ v)) ho]
        congr 2; omega
      · rw [if_neg ho]
        simp only [Option.bind_some]
        rw [next_i64 (by omega), ih (i + 1) c (by omega) (by omega) (by omega), List.countP_cons_of_neg (p := fun y : M102 => decide (y.f0 ≤ v)) ho]
    · rw [if_neg (by rw [hd]; decide)]
      rw [List.drop_eq_nil_of_le (by omega)]; simp
theorem upto_both (mo la v : Int) (L : List M102) (hR : Rises L la) (hla : la ≤ 800) (hl : L.length ≤ 100) (hv : -9223372036854775808 ≤ v ∧ v ≤ 9223372036854775807) (k : Nat) (hk : 300 ≤ k) : ∃ u : Int, bag_Bag_int_Upto k (mx mo) la L v = some u ∧ catenaryref06_Upto k (M41.mk mo la (L.map cv)) v = some u := by
  obtain ⟨u, e, h1, h2, h3⟩ := upto_is (mx mo) la L la v hR (by omega) (by omega) hv k hk
  refine ⟨u, e, ?_⟩
  have hr := ref_upto_l mo la v L (by omega) k 0 0 (by omega) (Nat.le_refl _) (by omega)
  unfold catenaryref06_Upto catenaryref06_Upto_r10
  rw [show ((0 : Nat) : Int) = 0 from rfl, List.drop_zero, Nat.zero_add] at hr
  rw [hr, count_up _ L u h1 (fun i x hi hx => ?_) (fun i x hi hx => ?_)]
  · rfl
  · have := h2 i x hi hx
    have hb := hR.2 x (List.mem_of_getElem? hx)
    simp only [decide_eq_true_eq]
    split at this <;> omega
  · have := h3 i x hi hx
    have hb := hR.2 x (List.mem_of_getElem? hx)
    simp only [decide_eq_false_iff_not]
    split at this <;> omega
theorem same_l (mo la : Int) (L : List M102) (hl : L.length ≤ 100) : ∀ j i : Nat, L.length - i < j → i ≤ L.length → bag_Bag_int_All_1_2_l4 L (mx mo) la L mo la (L.map cv) j i false i 0 = some (.inr (false, (L.length : Int), 0)) := by
  intro j
  induction j with
  | zero => intro i h; exact absurd h (by omega)
  | succ j ih =>
    intro i h hi
    rw [bag_Bag_int_All_1_2_l4]
    rcases place L i with ⟨x, hx, hd⟩ | ⟨hx, hd⟩
    · have hpl := (List.getElem?_eq_some_iff.1 hx).1
      rw [if_pos hd, ix_nat, hx, Option.bind_some, if_neg (by decide)]
      unfold catenarylaw06_same_round catenarylaw06_same_round_r2
      rw [len_cv, if_neg (by simp; omega), ix_nat, List.getElem?_map, hx]
      simp only [Option.map_some, Option.bind_some]
      rw [if_neg (by simp), if_neg (by simp), no_is _ _ _ hx]
      simp only [Option.bind_some, bne_self_eq_false, Bool.false_eq_true, if_false, Bool.not_true]
      rw [next_i64 (by omega)]
      exact ih (i + 1) (by omega) (by omega)
    · have : i = L.length := by omega
      subst this
      rw [if_neg (by rw [hd]; decide)]
theorem same_both (mo la : Int) (L : List M102) (hl : L.length ≤ 100) (k : Nat) (hk : 300 ≤ k) : catenarylaw06_same k (mx mo) la L (M41.mk mo la (L.map cv)) = some true := by
  have hc : slices_Clone_bag_item_int_bag_item_int L = some L := by
    unfold slices_Clone_bag_item_int_bag_item_int
    rw [app_some (by simp; omega)]; rfl
  have h2 := same_l mo la L hl k 0 (by omega) (by omega)
  rw [show ((0 : Nat) : Int) = 0 from rfl] at h2
  unfold catenarylaw06_same bag_Bag_int_All bag_Bag_int_Len bag_Bag_int_Last
  dsimp only
  rw [len_cv]
  simp only [Option.bind_some, bne_self_eq_false, Bool.false_eq_true, if_false]
  unfold catenarylaw06_same_r2 bag_Bag_int_All_1_2 bag_Bag_int_All_1_2_r3
  dsimp only
  rw [if_neg (by decide), hc, Option.bind_some, h2]
  simp only [Option.bind_some, beq_self_eq_true, if_true, len_cv]
theorem beq_ii (a : Int) : (a == a) = true := by simp
theorem step_both (k : Nat) (hk : 300 ≤ k) (mo la : Int) (L : List M102) (o : M45) (ho : wfInt .i64 o.f2) (hR : Rises L la) (hl : L.length ≤ 90) (h0 : 0 ≤ la) (h1 : la ≤ 700) : ∃ (la' : Int) (L' : List M102), catenarylaw06_step k (mx mo) la L (M41.mk mo la (L.map cv)) o = some (M41.mk mo la' (L'.map cv), true, la', L') ∧ Rises L' la' ∧ L'.length ≤ L.length + 1 ∧ la ≤ la' ∧ la' ≤ la + 1 := by
  have hv := wfInt_i64.1 ho
  rw [catenarylaw06_step]
  by_cases c0 : (o.f0 == 0) = true
  · obtain ⟨a, b, la', L', e1, e2, r⟩ := put_both mo la L o.f2 hR (by omega) h0 (by omega)
    rw [if_pos c0, e2, Option.bind_some, e1, Option.bind_some]
    refine ⟨la', L', ?_, r⟩
    simp only [beq_self_eq_true, Bool.and_self]
  rw [if_neg c0]
  by_cases c1 : (o.f0 == 1) = true
  · obtain ⟨a, b, la', L', e1, e2, r⟩ := twice_both mo la L o.f1 hR (by omega) h0 (by omega)
    rw [if_pos c1, e2, Option.bind_some, e1, Option.bind_some]
    refine ⟨la', L', ?_, r⟩
    simp only [beq_self_eq_true, Bool.and_self]
  rw [if_neg c1]
  by_cases c2 : (o.f0 == 2) = true
  · obtain ⟨x, b, L', e1, e2, e3, hs⟩ := take_both mo la L o.f1 (by omega)
    rw [if_pos c2, e1, Option.bind_some, e2, Option.bind_some, e3, Option.bind_some]
    refine ⟨la, L', ?_, hR.sub hs, ?_, Int.le_refl _, by omega⟩
    · simp only [beq_self_eq_true, if_true, Option.bind_some, catenarylaw06_step_r5]
    · have := hs.length_le; omega
  rw [if_neg c2]
  by_cases c3 : (o.f0 == 3) = true
  · obtain ⟨b, L', e1, e2, e3, hs, hlen⟩ := set_both mo la L o.f1 o.f2 hR (by omega)
    rw [if_pos c3, e1, Option.bind_some, e2, Option.bind_some, e3, Option.bind_some]
    refine ⟨la, L', ?_, hs, by omega, Int.le_refl _, by omega⟩
    simp only [beq_self_eq_true, Option.bind_some, catenarylaw06_step_r6]
  rw [if_neg c3]
  by_cases c4 : (o.f0 == 4) = true
  · obtain ⟨c, e1, e2⟩ := keep_both mo la L (by omega) k hk
    rw [if_pos c4, e2, Option.bind_some, e1, Option.bind_some]
    refine ⟨la, L.filter od, ?_, hR.sub List.filter_sublist, ?_, Int.le_refl _, by omega⟩
    · simp only [beq_self_eq_true, Option.bind_some, catenarylaw06_step_r7]
    · have := (List.filter_sublist (p := od) (l := L)).length_le; omega
  rw [if_neg c4]
  obtain ⟨x, b, e1, e2, e3⟩ := at_both mo la L o.f1
  obtain ⟨u, e4, e5⟩ := upto_both mo la o.f2 L hR (by omega) (by omega) hv k hk
  rw [e2, Option.bind_some, e1, Option.bind_some, e3, e4, e5]
  refine ⟨la, L, ?_, hR, by omega, Int.le_refl _, by omega⟩
  simp only [beq_self_eq_true, if_true, Option.bind_some, catenarylaw06_step_r8]
theorem awake06 : catenarylaw06_awake = some true := by kernel_rfl
theorem plays_l (l : List M45) (hl : l.length ≤ 9223372036854775807) (hw : ∀ o ∈ l, wfInt .i64 o.f2) (mo : Int) : ∀ (j i : Nat) (la : Int) (L : List M102), 60 - i < j → i ≤ 60 → Rises L la → L.length ≤ i → 0 ≤ la → la ≤ i →
    catenarylaw06_BagPlays_l18 300 l (mx mo, 0, []) j i mo la (L.map cv) la L = some (.inr ()) := by
  intro j
  induction j with
  | zero => intro i la L h; exact absurd h (by omega)
  | succ j ih =>
    intro i la L h hi hR hL h0 h1
    rw [catenarylaw06_BagPlays_l18]
    by_cases hc : i < l.length ∧ i < 60
    · have e : ((decide ((i : Int) < (l.length : Int))) && (decide ((i : Int) < 60))) = true := by simp; omega
      have hg : l[i]? = some (l[i]'(by omega)) := List.getElem?_eq_getElem (by omega)
      obtain ⟨la', L', e1, hR', hL', g1, g2⟩ := step_both 300 (Nat.le_refl _) mo la L (l[i]'(by omega)) (hw _ (List.mem_of_getElem? hg)) hR (by omega) h0 (by omega)
      rw [if_pos e, ix_nat, hg, Option.bind_some]
      dsimp only
      rw [e1]
      simp only [Option.bind_some]
      unfold catenarylaw06_BagPlays_r20
      dsimp only
      rw [if_neg (by decide), same_both mo la' L' (by omega) 300 (Nat.le_refl _)]
      simp only [Option.bind_some, Bool.not_true, catenarylaw06_BagPlays_r19, Bool.false_eq_true, if_false]
      rw [next_i64 (by omega)]
      exact ih (i + 1) la' L' (by omega) (by omega) hR' (by omega) (by omega) (by omega)
    · have e : ((decide ((i : Int) < (l.length : Int))) && (decide ((i : Int) < 60))) = false := by
        rw [Bool.eq_false_iff]; intro hh; simp at hh; omega
      rw [if_neg (by rw [e]; decide)]
theorem pureBagPlays (mo : Int) (l : List M45) (hm : wfInt .i64 mo) (hl : wfSl (fun x : M45 => wfInt .i64 x.f0 ∧ wfInt .i64 x.f1 ∧ wfInt .i64 x.f2) l) : ∃ k, catenarylaw06_BagPlays k mo l = some true := by
  refine ⟨300, ?_⟩
  unfold catenarylaw06_BagPlays bag_New_int
  rw [Option.bind_some]
  have h := plays_l l hl.1 (fun o ho => (hl.2 o ho).2.2) mo 300 0 0 [] (by omega) (by omega) ⟨fun i j x y _ hx => by simp at hx, fun x hx => by cases hx⟩ (by simp) (Int.le_refl _) (Int.le_refl _)
  rw [show ((0 : Nat) : Int) = 0 from rfl, show ([] : List M102).map cv = [] from rfl] at h
  dsimp only
  rw [h]
  simp only [Option.bind_some, catenarylaw06_BagPlays_r17, awake06]
end Go.Proofs.Ytfpllbnljlbepaa.Sx
