/- The plain law of BagRises: what the walk computes answers true.
   Conditions: those that each theorem states ahead of its colon, and no other. -/
import Derived.Test.YtfpppgbibgbllaaWBagRises
import Derived.Test.YtfpppgbibgbllaaPx
set_option linter.unusedSimpArgs false
set_option linter.unusedVariables false
namespace Go.Proofs.Ytfpppgbibgbllaa.Sx
open Go
/-- numbers rise with the places, and lie between 1 and last -/
def Rises (L : List M106) (la : Int) : Prop := (∀ (i j : Nat) x y, i < j → L[i]? = some x → L[j]? = some y → x.f0 < y.f0) ∧ ∀ x ∈ L, 1 ≤ x.f0 ∧ x.f0 ≤ la
theorem search_l (L : List M106) (la v : Int) (hR : Rises L la) (hla : la ≤ 1000) (hl : L.length ≤ 200) (hv : -1000 ≤ v ∧ v ≤ 1000) : ∀ j lo hi : Nat, hi - lo < j → lo ≤ hi → hi ≤ L.length →
    (∀ (i : Nat) x, i < lo → L[i]? = some x → x.f0 < (if 0 > v then 0 else v)) → (∀ (i : Nat) x, hi ≤ i → L[i]? = some x → (if 0 > v then 0 else v) ≤ x.f0) →
    ∃ m : Nat, slices_BinarySearchFunc_bag_item_int_bag_item_int_int_l6 L v j lo hi = some (m : Int) ∧ m ≤ L.length ∧ (∀ (i : Nat) x, i < m → L[i]? = some x → x.f0 < (if 0 > v then 0 else v)) ∧ (∀ (i : Nat) x, m ≤ i → L[i]? = some x → (if 0 > v then 0 else v) ≤ x.f0) := by
  intro j
  induction j with
  | zero => intro lo hi h; exact absurd h (by omega)
  | succ j ih =>
    intro lo hi h hle hhi h1 h2
    rw [slices_BinarySearchFunc_bag_item_int_bag_item_int_int_l6]
    by_cases hlt : lo < hi
    · have em : IntKind.i64.wrap ((IntKind.u64.wrap (IntKind.i64.wrap ((lo : Int) + (hi : Int)))).fdiv (2 ^ 1)) = (((lo + hi) / 2 : Nat) : Int) := by
        rw [w64 (n := (lo : Int) + hi) (by omega) (by omega), wu64 (by omega) (by omega), Int.fdiv_eq_ediv_of_nonneg _ (by decide), show (2 : Int) ^ 1 = 2 from rfl, w64 (by omega) (by omega)]
        omega
      have hmid : (lo + hi) / 2 < L.length := by omega
      have hg : L[(lo + hi) / 2]? = some L[(lo + hi) / 2] := List.getElem?_eq_getElem hmid
      have hb := hR.2 _ (List.mem_of_getElem? hg)
      rw [if_pos (by simp; omega), em, ix_nat, hg, Option.bind_some]
      unfold bag_Bag_int_Upto_1
      have hv0 : 0 ≤ (if 0 > v then 0 else v) ∧ (if 0 > v then 0 else v) ≤ 1000 := by split <;> omega
      rw [w64 (n := L[(lo + hi) / 2].f0 - _) (by omega) (by omega), Option.bind_some]
      by_cases hc : L[(lo + hi) / 2].f0 - (if 0 > v then 0 else v) < 0
      · rw [if_pos (by simpa using hc), next_i64 (by omega)]
        refine ih ((lo + hi) / 2 + 1) hi (by omega) (by omega) hhi (fun i x hi' hx => ?_) h2
        by_cases he : i = (lo + hi) / 2
        · subst he; rw [hg] at hx; cases hx; omega
        · have := hR.1 i ((lo + hi) / 2) x _ (by omega) hx hg; omega
      · rw [if_neg (by simpa using hc)]
        refine ih lo ((lo + hi) / 2) (by omega) (by omega) (by omega) h1 (fun i x hi' hx => ?_)
        by_cases he : i = (lo + hi) / 2
        · subst he; rw [hg] at hx; cases hx; omega
        · have := hR.1 ((lo + hi) / 2) i _ x (by omega) hg hx; omega
    · have : lo = hi := by omega
      subst this
      rw [if_neg (by simp)]
      exact ⟨lo, rfl, hhi, h1, h2⟩
/-- how many have the number v or a lesser one: those ahead of place u -/
theorem upto_is (m0 la0 : Int) (L : List M106) (la v : Int) (hR : Rises L la) (hla : la ≤ 1000) (hl : L.length ≤ 200) (hv : -1000 ≤ v ∧ v ≤ 1000) (k : Nat) (hk : 300 ≤ k) :
    ∃ u : Nat, bag_Bag_int_Upto k m0 la0 L v = some (u : Int) ∧ u ≤ L.length ∧ (∀ (i : Nat) x, i < u → L[i]? = some x → x.f0 ≤ (if 0 > v then 0 else v)) ∧ (∀ (i : Nat) x, u ≤ i → L[i]? = some x → (if 0 > v then 0 else v) < x.f0) := by
  obtain ⟨m, e1, h1, h2, h3⟩ := search_l L la v hR hla hl hv k 0 L.length (by omega) (by omega) (Nat.le_refl _) (fun i x hi => by omega) (fun i x hi hx => by have := (List.getElem?_eq_some_iff.1 hx).1; omega)
  rw [show ((0 : Nat) : Int) = 0 from rfl] at e1
  unfold bag_Bag_int_Upto slices_BinarySearchFunc_bag_item_int_bag_item_int_int slices_BinarySearchFunc_bag_item_int_bag_item_int_int_r5 slices_BinarySearchFunc_bag_item_int_bag_item_int_int_r4 bag_Bag_int_Upto_r2 bag_Bag_int_Upto_1
  rw [e1, Option.bind_some]
  have hv0 : 0 ≤ (if 0 > v then 0 else v) ∧ (if 0 > v then 0 else v) ≤ 1000 := by split <;> omega
  generalize (if 0 > v then 0 else v) = v0 at *
  by_cases hm : m < L.length
  · have hg : L[m]? = some L[m] := List.getElem?_eq_getElem hm
    have hb := hR.2 _ (List.mem_of_getElem? hg)
    have h4 := h3 m _ (Nat.le_refl _) hg
    rw [if_pos (by simpa using hm), ix_nat, hg]
    simp only [Option.bind_some]
    rw [w64 (n := L[m].f0 - v0) (by omega) (by omega)]
    by_cases hf : L[m].f0 = v0
    · refine ⟨m + 1, ?_, by omega, fun i x hi hx => ?_, fun i x hi hx => ?_⟩
      · simp only [hf, Int.sub_self, beq_self_eq_true, if_true, Option.bind_some]
        rw [next_i64 (by omega)]
      · by_cases he : i = m
        · subst he; rw [hg] at hx; cases hx; omega
        · have := h2 i x (by omega) hx; omega
      · have := hR.1 m i _ x (by omega) hg hx; omega
    · have hne : (L[m].f0 - v0 == 0) = false := by rw [beq_eq_false_iff_ne]; omega
      refine ⟨m, ?_, h1, fun i x hi hx => by have := h2 i x hi hx; omega, fun i x hi hx => ?_⟩
      · simp only [hne, Bool.false_eq_true, if_false, Option.bind_some]
      · by_cases he : i = m
        · subst he; rw [hg] at hx; cases hx; omega
        · have := hR.1 m i _ x (by omega) hg hx; omega
  · rw [if_neg (by simpa using hm)]
    exact ⟨m, rfl, h1, fun i x hi hx => by have := h2 i x hi hx; omega, fun i x hi hx => by have := (List.getElem?_eq_some_iff.1 hx).1; omega⟩
theorem upto_at (m0 la0 : Int) (L : List M106) (la : Int) (hR : Rises L la) (hla : la ≤ 900) (hl : L.length ≤ 200) (k : Nat) (hk : 300 ≤ k) {p : Nat} {x : M106} (hx : L[p]? = some x) :
    bag_Bag_int_Upto k m0 la0 L x.f0 = some ((p : Int) + 1) ∧ bag_Bag_int_Upto k m0 la0 L (x.f0 - 1) = some (p : Int) := by
  have hb := hR.2 x (List.mem_of_getElem? hx)
  have hpl := (List.getElem?_eq_some_iff.1 hx).1
  constructor
  · obtain ⟨u, e, h1, h2, h3⟩ := upto_is m0 la0 L la x.f0 hR (by omega) hl (by omega) k hk
    rw [if_neg (show ¬ (0 : Int) > x.f0 by omega)] at h2 h3
    rw [e]
    have : u = p + 1 := by
      rcases Nat.lt_trichotomy u (p + 1) with hlt | he | hgt
      · have := h3 p x (by omega) hx; omega
      · exact he
      · have hg : L[p + 1]? = some (L[p + 1]'(by omega)) := List.getElem?_eq_getElem (by omega)
        have h4 := h2 (p + 1) _ hgt hg
        have := hR.1 p (p + 1) x _ (by omega) hx hg; omega
    rw [this]; congr 1
  · obtain ⟨u, e, h1, h2, h3⟩ := upto_is m0 la0 L la (x.f0 - 1) hR (by omega) hl (by omega) k hk
    rw [if_neg (show ¬ (0 : Int) > x.f0 - 1 by omega)] at h2 h3
    rw [e]
    have : u = p := by
      rcases Nat.lt_trichotomy u p with hlt | he | hgt
      · have hg : L[u]? = some (L[u]'(by omega)) := List.getElem?_eq_getElem (by omega)
        have h4 := h3 u _ (Nat.le_refl _) hg
        have := hR.1 u p _ x hlt hg hx; omega
      · exact he
      · have := h2 p x hgt hx; omega
    rw [this]
theorem no_is (m0 la0 : Int) (L : List M106) {p : Nat} {x : M106} (hx : L[p]? = some x) : bag_Bag_int_No m0 la0 L (p : Int) = some x.f0 := by
  have hpl := (List.getElem?_eq_some_iff.1 hx).1
  unfold bag_Bag_int_No bag_Bag_int_has
  have e : ((decide ((p : Int) ≥ 0)) && (decide ((p : Int) < (L.length : Int)))) = true := by simp; omega
  rw [e]
  simp [ix_nat, hx]
theorem looks_l (L : List M106) (la : Int) (hR : Rises L la) (hla : la ≤ 900) (hl : L.length ≤ 200) (k : Nat) (hk : 300 ≤ k) (y : Int × Int × List M106) : ∀ j p : Nat, L.length - p < j → catenarylaw06_BagRises_l65 k y la L j p = some (.inr ()) := by
  intro j
  induction j with
  | zero => intro p h; exact absurd h (by omega)
  | succ j ih =>
    intro p h
    rw [catenarylaw06_BagRises_l65]
    unfold bag_Bag_int_Len
    rw [Option.bind_some]
    rcases place L p with ⟨x, hx, hd⟩ | ⟨hx, hd⟩
    · have hpl := (List.getElem?_eq_some_iff.1 hx).1
      have hb := hR.2 x (List.mem_of_getElem? hx)
      obtain ⟨u1, u2⟩ := upto_at y.1 la L la hR hla hl k hk hx
      rw [if_pos hd, no_is _ _ _ hx, Option.bind_some, if_neg (by simp; omega)]
      unfold bag_Bag_int_Last
      rw [Option.bind_some, if_neg (by simp; omega)]
      have e1 : IntKind.i64.wrap (x.f0 - 1) = x.f0 - 1 := w64 (by omega) (by omega)
      have e2 : IntKind.i64.wrap ((p : Int) + 1) = (p : Int) + 1 := w64 (by omega) (by omega)
      rw [e1, e2, u1, u2]
      have fin : catenarylaw06_BagRises_r66 (catenarylaw06_BagRises_l65 k y la L j) p false = some (.inr ()) := by
        unfold catenarylaw06_BagRises_r66
        rw [if_neg (by decide), next_i64 (by omega)]
        exact ih (p + 1) (by omega)
      by_cases hp : 0 < p
      · have hg : L[p - 1]? = some (L[p - 1]'(by omega)) := List.getElem?_eq_getElem (by omega)
        have hlt := hR.1 (p - 1) p _ x (by omega) hg hx
        rw [if_pos (by simp; omega), w64 (n := (p : Int) - 1) (by omega) (by omega), show (p : Int) - 1 = ((p - 1 : Nat) : Int) by omega, no_is _ _ _ hg, Option.bind_some, if_neg (by simp; omega)]
        simpa using fin
      · rw [if_neg (by simp; omega)]
        simpa using fin
    · rw [if_neg (by rw [hd]; decide)]
theorem rises_iff {L : List M106} {la : Int} : Rises L la ↔ L.Pairwise (fun x y => x.f0 < y.f0) ∧ ∀ x ∈ L, 1 ≤ x.f0 ∧ x.f0 ≤ la := by
  unfold Rises
  rw [List.pairwise_iff_getElem]
  constructor
  · rintro ⟨h1, h2⟩
    exact ⟨fun i j hi hj hij => h1 i j _ _ hij (List.getElem?_eq_getElem hi) (List.getElem?_eq_getElem hj), h2⟩
  · rintro ⟨h1, h2⟩
    refine ⟨fun i j x y hij hx hy => ?_, h2⟩
    obtain ⟨hi, rfl⟩ := List.getElem?_eq_some_iff.1 hx
    obtain ⟨hj, rfl⟩ := List.getElem?_eq_some_iff.1 hy
    exact h1 i j hi hj hij
theorem Rises.sub {L L' : List M106} {la : Int} (h : Rises L la) (hs : L'.Sublist L) : Rises L' la := by
  rw [rises_iff] at h ⊢
  exact ⟨h.1.sublist hs, fun x hx => h.2 x (hs.subset hx)⟩
theorem Rises.put {L : List M106} {la : Int} (h : Rises L la) (h0 : 0 ≤ la) (v : Int) : Rises (L ++ [M106.mk (la + 1) v]) (la + 1) := by
  rw [rises_iff] at h ⊢
  refine ⟨List.pairwise_append.2 ⟨h.1, by simp, fun x hx y hy => ?_⟩, fun x hx => ?_⟩
  · rw [List.mem_singleton.1 hy]; have := (h.2 x hx).2; show x.f0 < la + 1; omega
  · rcases List.mem_append.1 hx with hx | hx
    · have := h.2 x hx; omega
    · rw [List.mem_singleton.1 hx]; show 1 ≤ la + 1 ∧ la + 1 ≤ la + 1; omega
theorem keep_l (ys : List M106) (hl : ys.length ≤ 200) : ∀ (j i : Nat) (acc : List M106), ys.length - i < j → acc.length ≤ i → i ≤ ys.length → ∃ T : List M106, T.Sublist (ys.drop i) ∧ bag_Bag_int_All_1_l4 ys j i acc 0 = some (.inr (acc ++ T, 0)) := by
  intro j
  induction j with
  | zero => intro i acc h; exact absurd h (by omega)
  | succ j ih =>
    intro i acc h ha hi
    rw [bag_Bag_int_All_1_l4]
    rcases place ys i with ⟨x, hx, hd⟩ | ⟨hx, hd⟩
    · have hpl := (List.getElem?_eq_some_iff.1 hx).1
      rw [if_pos hd, ix_nat, hx, Option.bind_some, if_neg (by decide), drop_cons hx]
      unfold bag_Bag_int_Keep_round catenarylaw06_odd
      rw [Option.bind_some]
      by_cases ho : (x.f1.tmod 2 != 0) = true
      · rw [if_pos ho, app_some (by simp; omega)]
        simp only [Option.bind_some, Bool.not_true, Bool.false_eq_true, if_false]
        rw [next_i64 (by omega)]
        obtain ⟨T, h1, h2⟩ := ih (i + 1) (acc ++ [M106.mk x.f0 x.f1]) (by omega) (by simp; omega) (by omega)
        exact ⟨x :: T, h1.cons_cons x, by rw [h2]; simp⟩
      · rw [if_neg ho]
        simp only [Option.bind_some, Bool.not_true, Bool.false_eq_true, if_false]
        rw [next_i64 (by omega)]
        obtain ⟨T, h1, h2⟩ := ih (i + 1) acc (by omega) (by omega) (by omega)
        exact ⟨T, h1.cons x, h2⟩
    · rw [if_neg (by rw [hd]; decide)]
      exact ⟨[], List.nil_sublist _, by simp⟩
theorem keep_is (m la : Int) (L : List M106) (hl : L.length ≤ 200) (k : Nat) (hk : 300 ≤ k) : ∃ (c : Int) (T : List M106), T.Sublist L ∧ bag_Bag_int_Keep k m la L = some (c, T) := by
  have hc : slices_Clone_bag_item_int_bag_item_int L = some L := by
    unfold slices_Clone_bag_item_int_bag_item_int
    rw [app_some (by simp; omega)]; rfl
  obtain ⟨T, h1, h2⟩ := keep_l L hl k 0 [] (by omega) (by simp) (by omega)
  rw [show ((0 : Nat) : Int) = 0 from rfl, List.nil_append] at h2
  unfold bag_Bag_int_Keep bag_Bag_int_All bag_Bag_int_All_1 bag_Bag_int_All_1_r3
  rw [Option.bind_some, hc, Option.bind_some, h2]
  exact ⟨IntKind.i64.wrap ((L.length : Int) - (T.length : Int)), T, by simpa using h1, rfl⟩
theorem put_any (la : Int) (L : List M106) (v : Int) (hR : Rises L la) (hl : L.length ≤ 50) (h0 : 0 ≤ la) (h1 : la ≤ 800) : ∃ (a b la' : Int) (L' : List M106), bag_Bag_int_Put 50 la L v = some (a, b, la', L') ∧ Rises L' la' ∧ L'.length ≤ 50 ∧ la ≤ la' ∧ la' ≤ la + 1 := by
  unfold bag_Bag_int_Put bag_Bag_int_Put_r4 bag_Bag_int_Put_r3
  rw [w64 (by omega) (by omega), Option.bind_some]
  by_cases h : (L.length : Int) ≥ 50
  · rw [if_pos (by simpa using h)]
    exact ⟨_, _, _, _, rfl, hR, hl, Int.le_refl _, by omega⟩
  · rw [if_neg (by simpa using h), app_some (by simp; omega)]
    exact ⟨_, _, _, _, rfl, hR.put h0 v, by simp; omega, by omega, Int.le_refl _⟩
theorem twice_any (la : Int) (L : List M106) (v : Int) (hR : Rises L la) (hl : L.length ≤ 50) (h0 : 0 ≤ la) (h1 : la ≤ 800) : ∃ (a b la' : Int) (L' : List M106), bag_Bag_int_Twice 50 la L v = some (a, b, la', L') ∧ Rises L' la' ∧ L'.length ≤ 50 ∧ la ≤ la' ∧ la' ≤ la + 1 := by
  unfold bag_Bag_int_Twice bag_Bag_int_has
  rw [Option.bind_some]
  by_cases h : 0 ≤ v ∧ v < (L.length : Int)
  · have e : ((decide (v ≥ 0)) && (decide (v < (L.length : Int)))) = true := by simp; omega
    obtain ⟨p, rfl⟩ : ∃ p : Nat, v = p := ⟨v.toNat, by omega⟩
    have hg : L[p]? = some (L[p]'(by omega)) := List.getElem?_eq_getElem (by omega)
    obtain ⟨a, b, la', L', e2, r⟩ := put_any la L (L[p]'(by omega)).f1 hR hl h0 h1
    rw [e, if_neg (by decide), ix_nat, hg, Option.bind_some, e2]
    exact ⟨a, b, la', L', rfl, r⟩
  · have e : ((decide (v ≥ 0)) && (decide (v < (L.length : Int)))) = false := by
      rw [Bool.eq_false_iff]; intro hc; simp at hc; exact h hc
    rw [e]
    exact ⟨_, _, _, _, rfl, hR, hl, Int.le_refl _, by omega⟩
theorem take_any (la : Int) (L : List M106) (v : Int) (hl : L.length ≤ 50) : ∃ (a : Int) (b : Bool) (L' : List M106), bag_Bag_int_Take 50 la L v = some (a, b, L') ∧ L'.Sublist L := by
  unfold bag_Bag_int_Take bag_Bag_int_At bag_Bag_int_has bag_Bag_int_Take_r2 slices_Delete_bag_item_int_bag_item_int
  by_cases h : 0 ≤ v ∧ v < (L.length : Int)
  · have e : ((decide (v ≥ 0)) && (decide (v < (L.length : Int)))) = true := by simp; omega
    obtain ⟨p, rfl⟩ : ∃ p : Nat, v = p := ⟨v.toNat, by omega⟩
    have hg : L[p]? = some (L[p]'(by omega)) := List.getElem?_eq_getElem (by omega)
    have e2 : delS L (p : Int) ((p + 1 : Nat) : Int) = some (L.take p ++ L.drop (p + 1)) := by
      unfold delS
      rw [if_pos (by omega)]; simp
    rw [e, next_i64 (by omega), e2]
    simp only [Option.bind_some, Bool.not_true, Bool.false_eq_true, if_false, ix_nat, hg, if_true]
    refine ⟨_, _, _, rfl, ?_⟩
    conv => rhs; rw [← List.take_append_drop p L]
    exact List.Sublist.append (List.Sublist.refl _) (by rw [List.drop_eq_getElem_cons (by omega : p < L.length)]; exact List.sublist_cons_self _ _)
  · have e : ((decide (v ≥ 0)) && (decide (v < (L.length : Int)))) = false := by
      rw [Bool.eq_false_iff]; intro hc; simp at hc; exact h hc
    rw [e]
    exact ⟨_, _, _, rfl, List.Sublist.refl _⟩
theorem awake06 : catenarylaw06_awake = some true := by kernel_rfl
theorem main_l (l : List M74) (hl : l.length ≤ 9223372036854775807) (y : Int × Int × List M106) (hy : y.1 = 50) : ∀ (j i : Nat) (la : Int) (L : List M106), 60 - i < j → i ≤ 60 → Rises L la → L.length ≤ 50 → 0 ≤ la → la ≤ i →
    catenarylaw06_BagRises_l60 300 l y j i la L = some (.inr ()) := by
  intro j
  induction j with
  | zero => intro i la L h; exact absurd h (by omega)
  | succ j ih =>
    intro i la L h hi hR hL h0 h1
    rw [catenarylaw06_BagRises_l60]
    by_cases hc : i < l.length ∧ i < 60
    · have e : ((decide ((i : Int) < (l.length : Int))) && (decide ((i : Int) < 60))) = true := by simp; omega
      have hg : l[i]? = some (l[i]'(by omega)) := List.getElem?_eq_getElem (by omega)
      have fin : ∀ (la' : Int) (L' : List M106), Rises L' la' → L'.length ≤ 50 → la ≤ la' → la' ≤ la + 1 → catenarylaw06_BagRises_r68 300 (catenarylaw06_BagRises_l60 300 l y j) y la i la' L' = some (.inr ()) := by
        intro la' L' hR' hL' g1 g2
        unfold catenarylaw06_BagRises_r68 bag_Bag_int_Last
        rw [Option.bind_some, if_neg (by simp; omega), w64 (by omega) (by omega)]
        simp only [Option.bind_some]
        have e5 : decide (la' > la + 1) = false := by simp; omega
        rw [e5]
        unfold catenarylaw06_BagRises_r67
        have hlk := looks_l L' la' hR' (by omega) (by omega) 300 (Nat.le_refl _) y 300 0 (by omega)
        rw [show ((0 : Nat) : Int) = 0 from rfl] at hlk
        rw [if_neg (by decide), hlk]
        simp only [Option.bind_some, catenarylaw06_BagRises_r64]
        rw [next_i64 (by omega)]
        exact ih (i + 1) la' L' (by omega) (by omega) hR' hL' (by omega) (by omega)
      rw [if_pos e, ix_nat, hg, hy]
      simp only [Option.bind_some, bag_Bag_int_Last]
      obtain ⟨a1, b1, la1, L1, p1, p2, p3, p4, p5⟩ := put_any la L (l[i]'(by omega)).f2 hR hL h0 (by omega)
      obtain ⟨a2, b2, la2, L2, q1, q2, q3, q4, q5⟩ := twice_any la L (l[i]'(by omega)).f1 hR hL h0 (by omega)
      obtain ⟨a3, b3, L3, r1, r2⟩ := take_any la L (l[i]'(by omega)).f1 hL
      obtain ⟨c4, L4, s1, s2⟩ := keep_is 50 la L (by omega) 300 (Nat.le_refl _)
      rw [p1, q1, r1, s2]
      simp only [Option.bind_some]
      split
      · exact fin la1 L1 p2 p3 p4 p5
      · split
        · exact fin la2 L2 q2 q3 q4 q5
        · split
          · exact fin la L3 (hR.sub r2) (Nat.le_trans r2.length_le hL) (Int.le_refl _) (by omega)
          · exact fin la L4 (hR.sub s1) (Nat.le_trans s1.length_le hL) (Int.le_refl _) (by omega)
    · have e : ((decide ((i : Int) < (l.length : Int))) && (decide ((i : Int) < 60))) = false := by
        rw [Bool.eq_false_iff]; intro hh; simp at hh; omega
      rw [if_neg (by rw [e]; decide)]
theorem pureBagRises (l : List M74) (hl : wfSl (fun x : M74 => wfInt .i64 x.f0 ∧ wfInt .i64 x.f1 ∧ wfInt .i64 x.f2) l) : ∃ k, catenarylaw06_BagRises k l = some true := by
  refine ⟨300, ?_⟩
  unfold catenarylaw06_BagRises bag_New_int
  rw [if_neg (show ¬ (0 : Int) > 50 by decide), Option.bind_some]
  have hm := main_l l hl.1 (50, 0, []) rfl 300 0 0 [] (by omega) (by omega) ⟨fun i j x y _ hx => by simp at hx, fun x hx => by cases hx⟩ (by simp) (Int.le_refl _) (Int.le_refl _)
  rw [show ((0 : Nat) : Int) = 0 from rfl] at hm
  rw [hm]
  simp only [Option.bind_some, catenarylaw06_BagRises_r59, awake06]
end Go.Proofs.Ytfpppgbibgbllaa.Sx
