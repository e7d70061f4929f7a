/- The plain law of AtlasLearns: what the walk computes answers true.
   Conditions: those that each theorem states ahead of its colon, and no other. -/
import Derived.Test.YtfpppgbibgbllaaWAtlasLearns
import Derived.Test.YtfpppgbibgbllaaPx
namespace Go.Proofs.Ytfpppgbibgbllaa.Sx
open Go
/-- is v in the list? -/
theorem Has_l (xs : List Int) (v : Int) (hl : xs.length ≤ 4294967296) : ∀ j n : Nat, xs.length - n < j → catenaryref04_Has_l4 xs v j n = some (if v ∈ xs.drop n then .inl true else .inr ()) := by
  intro j
  induction j with
  | zero => intro n h; exact absurd h (by omega)
  | succ j ih =>
    intro n h
    rw [catenaryref04_Has_l4]
    rcases place xs n with ⟨x, hx, hd⟩ | ⟨hx, hd⟩
    · have hlt := (List.getElem?_eq_some_iff.1 hx).1
      rw [if_pos hd, ix_nat, hx, Option.bind_some, drop_cons hx]
      by_cases hv : x = v
      · subst hv; simp
      · have hv' : ¬ v = x := fun h => hv h.symm
        rw [if_neg (by simpa using hv), next_i64 (by omega), ih (n + 1) (by omega)]
        simp [hv']
    · rw [if_neg (by rw [hd]; decide), List.drop_eq_nil_of_le hx]; simp
theorem Has_is (xs : List Int) (v : Int) (hl : xs.length ≤ 4294967296) (k : Nat) (hk : xs.length < k) : catenaryref04_Has k xs v = some (decide (v ∈ xs)) := by
  have h := Has_l xs v hl k 0 (by omega)
  rw [show ((0 : Nat) : Int) = 0 from rfl, List.drop_zero] at h
  unfold catenaryref04_Has catenaryref04_Has_r3
  rw [h]
  by_cases hv : v ∈ xs <;> simp [hv]
theorem Index_l (xs : List Int) (v : Int) (hl : xs.length ≤ 4294967296) : ∀ j n : Nat, xs.length - n < j → v ∉ xs.take n → slices_Index_int_int_l4 xs v j n = some (if v ∈ xs then .inl (xs.idxOf v : Int) else .inr ()) := by
  intro j
  induction j with
  | zero => intro n h; exact absurd h (by omega)
  | succ j ih =>
    intro n h hn
    rw [slices_Index_int_int_l4]
    rcases place xs n with ⟨x, hx, hd⟩ | ⟨hx, hd⟩
    · have hlt := (List.getElem?_eq_some_iff.1 hx).1
      rw [if_pos hd, ix_nat, hx, Option.bind_some]
      by_cases hv : v = x
      · subst hv
        have h1 : xs.idxOf v = n := by
          conv => lhs; rw [← List.take_append_drop n xs]
          rw [List.idxOf_append, if_neg hn, drop_cons hx, List.idxOf_cons_self]
          simp; omega
        rw [if_pos (by simp), if_pos (List.mem_of_getElem? hx), h1]
      · rw [if_neg (by simpa using hv), next_i64 (by omega), ih (n + 1) (by omega)]
        rw [take_succ' hx]
        simpa using ⟨hn, hv⟩
    · rw [List.take_of_length_le hx] at hn
      rw [if_neg (by rw [hd]; decide), if_neg hn]
theorem Index_is (xs : List Int) (v : Int) (hl : xs.length ≤ 4294967296) (k : Nat) (hk : xs.length < k) : slices_Index_int_int k xs v = some (if v ∈ xs then (xs.idxOf v : Int) else -1) := by
  have h := Index_l xs v hl k 0 (by omega) (by simp)
  rw [show ((0 : Nat) : Int) = 0 from rfl] at h
  unfold slices_Index_int_int slices_Index_int_int_r3
  rw [h]
  by_cases hv : v ∈ xs <;> simp [hv]
theorem Contains_is (xs : List Int) (v : Int) (hl : xs.length ≤ 4294967296) (k : Nat) (hk : xs.length < k) : slices_Contains_int_int k xs v = some (decide (v ∈ xs)) := by
  unfold slices_Contains_int_int
  rw [Index_is xs v hl k hk]
  by_cases hv : v ∈ xs <;> simp [hv]

def goodL (xs : List Int) : Prop := (∀ x ∈ xs, 1 ≤ x ∧ x ≤ 24) ∧ xs.Nodup
instance (xs : List Int) : Decidable (goodL xs) := inferInstanceAs (Decidable (_ ∧ _))
theorem good_snoc {xs : List Int} {x : Int} : goodL (xs ++ [x]) ↔ goodL xs ∧ (1 ≤ x ∧ x ≤ 24) ∧ x ∉ xs := by
  unfold goodL
  constructor
  · rintro ⟨h1, h2⟩
    rw [List.nodup_append] at h2
    refine ⟨⟨fun y hy => h1 y (by simp [hy]), h2.1⟩, h1 x (by simp), fun hx => h2.2.2 x hx x (by simp) rfl⟩
  · rintro ⟨⟨h1, h2⟩, h3, h4⟩
    refine ⟨fun y hy => ?_, ?_⟩
    · rcases List.mem_append.1 hy with hy | hy
      · exact h1 y hy
      · rw [List.mem_singleton.1 hy]; exact h3
    · rw [List.nodup_append]
      exact ⟨h2, by simp, fun a ha b hb => by rw [List.mem_singleton.1 hb]; rintro rfl; exact h4 ha⟩
theorem good_take {xs : List Int} (n : Nat) (h : goodL xs) : goodL (xs.take n) :=
  ⟨fun x hx => h.1 x (List.mem_of_mem_take hx), h.2.sublist (List.take_sublist n xs)⟩

theorem unlikeC_l (xs : List Int) (hl : xs.length ≤ 1000) (k : Nat) (hk : xs.length < k) : ∀ j n : Nat, xs.length - n < j → goodL (xs.take n) → conf_unlike_l11 k xs j n = some (if goodL xs then .inr () else .inl false) := by
  intro j
  induction j with
  | zero => intro n h; exact absurd h (by omega)
  | succ j ih =>
    intro n h hn
    rw [conf_unlike_l11]
    rcases place xs n with ⟨x, hx, hd⟩ | ⟨hx, hd⟩
    · have hlt := (List.getElem?_eq_some_iff.1 hx).1
      have hno : ¬ goodL (xs.take (n + 1)) → ¬ goodL xs := fun h1 h2 => h1 (good_take _ h2)
      rw [take_succ' hx, good_snoc] at hno
      rw [if_pos hd, ix_nat, hx, Option.bind_some]
      unfold conf_node
      by_cases h1 : 1 ≤ x ∧ x ≤ 24
      · have e1 : ((decide (x ≥ 1)) && (decide (x ≤ 24))) = true := by simp; omega
        rw [e1, Option.bind_some, sl_take xs n (by omega), if_neg (by decide), Option.bind_some, Contains_is (xs.take n) x (by simp; omega) k (by simp; omega)]
        by_cases h2 : x ∈ xs.take n
        · have := hno (fun hh => hh.2.2 h2)
          simp [h2, this, conf_unlike_r12]
        · simp only [h2, decide_false, Option.bind_some, conf_unlike_r12, Bool.false_eq_true, if_false]
          rw [next_i64 (by omega)]
          exact ih (n + 1) (by omega) (by rw [take_succ' hx, good_snoc]; exact ⟨hn, h1, h2⟩)
      · have e1 : ((decide (x ≥ 1)) && (decide (x ≤ 24))) = false := by
          rw [Bool.eq_false_iff]; intro hc; simp at hc; exact h1 hc
        have := hno (fun hh => h1 hh.2.1)
        rw [e1]
        simp [this, conf_unlike_r12]
    · rw [List.take_of_length_le hx] at hn
      rw [if_neg (by rw [hd]; decide), if_pos hn]
theorem unlikeC_is (xs : List Int) (hl : xs.length ≤ 1000) (k : Nat) (hk : xs.length < k) : conf_unlike k xs = some (decide (goodL xs)) := by
  have h := unlikeC_l xs hl k hk k 0 (by omega) ⟨by simp, by simp⟩
  rw [show ((0 : Nat) : Int) = 0 from rfl] at h
  unfold conf_unlike conf_unlike_r10
  rw [h]
  by_cases hg : goodL xs <;> simp [hg]
theorem unlikeR_l (xs : List Int) (hl : xs.length ≤ 1000) (k : Nat) (hk : xs.length < k) : ∀ j n : Nat, xs.length - n < j → goodL (xs.take n) → catenaryref09_Unlike_l11 k xs j n = some (if goodL xs then .inr () else .inl false) := by
  intro j
  induction j with
  | zero => intro n h; exact absurd h (by omega)
  | succ j ih =>
    intro n h hn
    rw [catenaryref09_Unlike_l11]
    rcases place xs n with ⟨x, hx, hd⟩ | ⟨hx, hd⟩
    · have hlt := (List.getElem?_eq_some_iff.1 hx).1
      have hno : ¬ goodL (xs.take (n + 1)) → ¬ goodL xs := fun h1 h2 => h1 (good_take _ h2)
      rw [take_succ' hx, good_snoc] at hno
      rw [if_pos hd, ix_nat, hx]
      simp only [Option.bind_some]
      by_cases h1 : x < 1
      · have := hno (fun hh => by omega)
        simp [h1, this, catenaryref09_Unlike_r12]
      · by_cases h1' : x > 24
        · have := hno (fun hh => by omega)
          simp [h1', this, catenaryref09_Unlike_r12]
        · rw [if_neg (by simpa using h1), if_neg (by simpa using h1'), sl_take xs n (by omega), Option.bind_some, Has_is (xs.take n) x (by simp; omega) k (by simp; omega)]
          by_cases h2 : x ∈ xs.take n
          · have := hno (fun hh => hh.2.2 h2)
            simp [h2, this, catenaryref09_Unlike_r12]
          · simp only [h2, decide_false, Option.bind_some, catenaryref09_Unlike_r12, Bool.false_eq_true, if_false]
            rw [next_i64 (by omega)]
            exact ih (n + 1) (by omega) (by rw [take_succ' hx, good_snoc]; exact ⟨hn, by omega, h2⟩)
    · rw [List.take_of_length_le hx] at hn
      rw [if_neg (by rw [hd]; decide), if_pos hn]
theorem unlikeR_is (xs : List Int) (hl : xs.length ≤ 1000) (k : Nat) (hk : xs.length < k) : catenaryref09_Unlike k xs = some (decide (goodL xs)) := by
  have h := unlikeR_l xs hl k hk k 0 (by omega) ⟨by simp, by simp⟩
  rw [show ((0 : Nat) : Int) = 0 from rfl] at h
  unfold catenaryref09_Unlike catenaryref09_Unlike_r10
  rw [h]
  by_cases hg : goodL xs <;> simp [hg]

def standsP (c : M53) : List Int := if c.f4 = 0 then c.f2 else c.f2 ++ [c.f4]
def rightP (c : M53) : Prop := (0 ≤ c.f0 ∧ c.f0 ≤ 3 ∧ 1 ≤ c.f1) ∧ (1 ≤ c.f2.length ∧ c.f2.length ≤ 5 ∧ ¬ (c.f3 = true ∧ (c.f2.length = 1 ∨ c.f4 ≠ 0))) ∧ goodL (standsP c)
instance (c : M53) : Decidable (rightP c) := inferInstanceAs (Decidable (_ ∧ _))
theorem stands_len (c : M53) : (standsP c).length ≤ c.f2.length + 1 := by
  unfold standsP; split <;> simp
theorem everybody_is (c : M53) (hl : c.f2.length ≤ 1000) : conf_everybody c = some (standsP c) := by
  have hc : slices_Clone_int_int c.f2 = some c.f2 := by unfold slices_Clone_int_int; rw [app_some (by simp; omega)]; rfl
  unfold conf_everybody standsP conf_everybody_r2
  by_cases h : c.f4 = 0
  · simp [h, hc]
  · simp only [beq_iff_eq, h, if_false, hc, Option.bind_some]
    rw [app_some (by simp; omega)]; rfl
theorem Stands_is (c : M53) (hl : c.f2.length ≤ 1000) : catenaryref09_Stands c = some (standsP c) := by
  unfold catenaryref09_Stands standsP catenaryref09_Stands_r2
  rw [app_some (by simp; omega), Option.bind_some, List.nil_append]
  by_cases h : c.f4 = 0
  · simp [h]
  · rw [app_some (by simp; omega)]
    simp [h]
theorem RightC_is (c : M53) (_h1 : 0 ≤ c.f1) (k : Nat) (hk : 10 ≤ k) : conf_Right k c = some (decide (rightP c)) := by
  unfold conf_Right
  by_cases ha : 0 ≤ c.f0 ∧ c.f0 ≤ 3 ∧ 1 ≤ c.f1
  · rw [if_neg (by simp; omega)]
    by_cases hb : 1 ≤ c.f2.length ∧ c.f2.length ≤ 5 ∧ ¬ (c.f3 = true ∧ (c.f2.length = 1 ∨ c.f4 ≠ 0))
    · have hb' := hb
      have hsl := stands_len c
      rw [if_neg, everybody_is c (by omega), Option.bind_some, unlikeC_is _ (by omega) k (by omega)]
      · simp [rightP, ha, hb]
      · intro hc
        simp only [Bool.or_eq_true, decide_eq_true_eq, Bool.and_eq_true, bne_iff_ne, ne_eq] at hc
        rcases hc with hc | hc | hc
        · omega
        · omega
        · exact hb.2.2 ⟨hc.1, hc.2.imp (by omega) id⟩
    · rw [if_pos]
      · simp only [rightP, hb, and_false, false_and, decide_false]
      · simp only [Bool.or_eq_true, decide_eq_true_eq, Bool.and_eq_true, bne_iff_ne, ne_eq]
        by_cases h5 : 1 ≤ c.f2.length
        · by_cases h6 : c.f2.length ≤ 5
          · right; right
            have h7 : c.f3 = true ∧ (c.f2.length = 1 ∨ c.f4 ≠ 0) := Classical.byContradiction fun h => hb ⟨h5, h6, h⟩
            exact ⟨h7.1, h7.2.imp (by omega) id⟩
          · right; left; omega
        · left; omega
  · rw [if_pos (by simp; omega)]
    simp only [rightP, ha, false_and, decide_false]
theorem RightR_is (c : M53) (h1 : 0 ≤ c.f1) (k : Nat) (hk : 10 ≤ k) : catenaryref09_Right k c = some (decide (rightP c)) := by
  unfold catenaryref09_Right
  by_cases ha : 0 ≤ c.f0 ∧ c.f0 ≤ 3 ∧ 1 ≤ c.f1
  · by_cases hl : 1 ≤ c.f2.length ∧ c.f2.length ≤ 5
    · rw [if_neg (by simp only [Bool.or_eq_true, decide_eq_true_eq, beq_iff_eq]; omega)]
      by_cases hb : ¬ (c.f3 = true ∧ (c.f2.length = 1 ∨ c.f4 ≠ 0))
      · have hsl := stands_len c
        rw [if_neg, Stands_is c (by omega), Option.bind_some, unlikeR_is _ (by omega) k (by omega)]
        · simp [rightP, ha, hb, hl]
        · intro hc
          simp only [Bool.or_eq_true, Bool.and_eq_true, bne_iff_ne, ne_eq, beq_iff_eq] at hc
          exact hb ⟨hc.1, hc.2.imp (by omega) id⟩
      · rw [if_pos]
        · simp only [rightP, hb, and_false, false_and, decide_false]
        · have h7 : c.f3 = true ∧ (c.f2.length = 1 ∨ c.f4 ≠ 0) := Classical.byContradiction hb
          simp only [Bool.or_eq_true, Bool.and_eq_true, bne_iff_ne, ne_eq, beq_iff_eq]
          exact ⟨h7.1, h7.2.imp (by omega) id⟩
    · rw [if_pos (by simp only [Bool.or_eq_true, decide_eq_true_eq, beq_iff_eq]; omega)]
      have : ¬ (1 ≤ c.f2.length ∧ c.f2.length ≤ 5 ∧ ¬ (c.f3 = true ∧ (c.f2.length = 1 ∨ c.f4 ≠ 0))) := fun h => hl ⟨h.1, h.2.1⟩
      simp only [rightP, this, and_false, false_and, decide_false]
  · rw [if_pos (by simp only [Bool.or_eq_true, decide_eq_true_eq, beq_iff_eq]; omega)]
    simp only [rightP, ha, false_and, decide_false]

theorem awake25 : catenarylaw25_awake 60 = some true := by kernel_rfl
theorem head0 {xs : List Int} (h : 1 ≤ xs.length) : ∃ x, xs[0]? = some x := ⟨_, List.getElem?_eq_getElem (by omega)⟩
theorem Head_is (c : M53) (h1 : 0 ≤ c.f1) (k : Nat) (hk : 10 ≤ k) : ∃ r, role_Head k c = some r ∧ catenaryref19_Head k c = some r := by
  unfold role_Head catenaryref19_Head
  rw [RightC_is c h1 k hk, RightR_is c h1 k hk]
  by_cases h : rightP c
  · obtain ⟨x, hx⟩ := head0 h.2.1.1
    simp only [h, decide_true, Option.bind_some, Bool.not_true, Bool.false_eq_true, if_false, ix_zero, hx]
    exact ⟨_, rfl, rfl⟩
  · simp [h]
theorem Reader_is (c : M53) (h1 : 0 ≤ c.f1) (p : Int) (k : Nat) (hk : 10 ≤ k) : ∃ r, role_Reader k c p = some r ∧ catenaryref19_Reader k c p = some r := by
  unfold role_Reader catenaryref19_Reader role_Reader_r2 catenaryref19_Reader_r2
  rw [RightR_is c h1 k hk, RightC_is c h1 k hk]
  by_cases h : rightP c
  · have hlen := h.2.1
    obtain ⟨x, hx⟩ := head0 h.2.1.1
    simp only [h, decide_true, Option.bind_some, Bool.not_true, Bool.false_eq_true, if_false]
    have e0 : ((c.f2.length : Int) == 0) = false := by rw [beq_eq_false_iff_ne]; omega
    rw [e0]
    by_cases hp : p < 0
    · rw [if_pos (show (decide (p < 0)) = true by simpa using hp), if_pos (show (0 : Int) > p by omega)]
      simp only [Int.zero_tmod, ix_zero, hx]
      exact ⟨_, rfl, rfl⟩
    · have hm : (p.tmod (c.f2.length : Int)) = ((p.toNat % c.f2.length : Nat) : Int) := by
        rw [Int.tmod_eq_emod_of_nonneg (by omega)]
        have : p = (p.toNat : Int) := by omega
        conv => lhs; rw [this]
        rfl
      have hlt : p.toNat % c.f2.length < c.f2.length := Nat.mod_lt _ (by omega)
      rw [if_neg (show ¬ (decide (p < 0)) = true by simpa using hp), if_neg (show ¬ (0 : Int) > p by omega), hm, ix_nat, List.getElem?_eq_getElem hlt]
      exact ⟨_, rfl, rfl⟩
  · simp [h]
theorem chain_eq (key ch : Int) (hk : wfInt .u32 key) (h1 : 1 ≤ ch) (h9 : ch ≤ 9) : ∃ r : Nat, atlas_Chain key ch = some (r : Int) ∧ catenaryref25_Chain key ch = some (r : Int) ∧ (r : Int) < ch := by
  have hk := wfInt_u32.1 hk
  unfold atlas_Chain catenaryref25_Chain
  have e1 : IntKind.u64.wrap ch = ch := wu64 (by omega) (by omega)
  have e2 : IntKind.u64.wrap key = key := wu64 (by omega) (by omega)
  have e3 : IntKind.u64.wrap (key * 2654435761) = key * 2654435761 := wu64 (by omega) (by omega)
  rw [e1, e2, e3]
  have h0 : ¬ (decide (ch < 1)) = true := by simp; omega
  have h0' : ¬ (ch == 0) = true := by simp; omega
  rw [if_neg h0, if_neg h0', if_neg h0, if_neg h0', IntKind.wrap_u32]
  have hv : 0 ≤ key * 2654435761 := by omega
  rw [Int.tmod_eq_emod_of_nonneg hv, Int.fdiv_eq_ediv_of_nonneg _ (by decide), Int.tdiv_eq_ediv_of_nonneg (by omega)]
  generalize hm : key * 2654435761 % 4294967296 = m
  have hm0 : 0 ≤ m ∧ m < 4294967296 := by omega
  have e4 : IntKind.u64.wrap (m / 65536) = m / 65536 := wu64 (by omega) (by omega)
  have e5 : IntKind.i64.wrap (m / 2 ^ 16) = m / 65536 := by rw [show (2 : Int) ^ 16 = 65536 from rfl]; exact w64 (by omega) (by omega)
  rw [e4, e5]
  have hnn : 0 ≤ m / 65536 := by omega
  have ht : (m / 65536).tmod ch = m / 65536 % ch := Int.tmod_eq_emod_of_nonneg hnn
  have hr0 := Int.emod_nonneg (m / 65536) (show ch ≠ 0 by omega)
  have hr1 := Int.emod_lt_of_pos (m / 65536) (show 0 < ch by omega)
  rw [ht, w64 (n := m / 65536 % ch) (by omega) (by omega)]
  refine ⟨(m / 65536 % ch).toNat, ?_, ?_, ?_⟩
  · rw [Int.toNat_of_nonneg hr0]
  · rw [Int.toNat_of_nonneg hr0]
  · rw [Int.toNat_of_nonneg hr0]; exact hr1

/-- what is asked of all configurations, from place n on -/
def okFrom (l : List M53) (n : Nat) : Prop := ∀ (i : Nat) c, n ≤ i → l[i]? = some c → c.f0 = i ∧ rightP c
theorem okFrom_step {l : List M53} {n : Nat} {c : M53} (h : l[n]? = some c) : okFrom l n ↔ (c.f0 = n ∧ rightP c) ∧ okFrom l (n + 1) := by
  constructor
  · intro hh
    exact ⟨hh n c (Nat.le_refl _) h, fun i c' hi hc => hh i c' (by omega) hc⟩
  · rintro ⟨h1, h2⟩ i c' hi hc
    by_cases he : i = n
    · subst he; rw [h] at hc; cases hc; exact h1
    · exact h2 i c' (by omega) hc
theorem right_stands {c : M53} (h : rightP c) : (standsP c).length ≤ 6 := by
  have h1 := stands_len c
  have h2 := h.2.1.2.1
  omega
theorem AllC_l (l : List M53) (hl : l.length ≤ 6) (hw : ∀ c ∈ l, 0 ≤ c.f1) (k : Nat) (hk : 50 ≤ k) : ∀ (j n : Nat) (acc : List Int), l.length - n < j → acc.length ≤ 6 * n → n ≤ l.length →
    (okFrom l n ∧ conf_All_l11 k l j acc n = some (.inr (acc ++ (l.drop n).flatMap standsP))) ∨ (¬ okFrom l n ∧ conf_All_l11 k l j acc n = some (.inl false)) := by
  intro j
  induction j with
  | zero => intro n acc h; exact absurd h (by omega)
  | succ j ih =>
    intro n acc h ha hnl
    rw [conf_All_l11]
    rcases place l n with ⟨c, hc, hd⟩ | ⟨hc, hd⟩
    · have hlt := (List.getElem?_eq_some_iff.1 hc).1
      rw [if_pos hd, ix_nat, hc, Option.bind_some, okFrom_step hc, drop_cons hc, RightC_is c (hw c (List.mem_of_getElem? hc)) k (by omega)]
      by_cases h0 : c.f0 = n
      · rw [if_neg (by simp [h0])]
        by_cases hr : rightP c
        · have hs := right_stands hr
          simp only [hr, decide_true, Option.bind_some, Bool.not_true, conf_All_r12, Bool.false_eq_true, if_false]
          rw [everybody_is c (by have := hr.2.1.2.1; omega), Option.bind_some, app_some (by omega), Option.bind_some, next_i64 (by omega)]
          rcases ih (n + 1) (acc ++ standsP c) (by omega) (by rw [List.length_append]; omega) (by omega) with ⟨h1, h2⟩ | ⟨h1, h2⟩
          · refine .inl ⟨⟨⟨h0, trivial⟩, h1⟩, ?_⟩
            rw [h2, List.flatMap_cons, List.append_assoc]
          · exact .inr ⟨fun hh => h1 hh.2, h2⟩
        · refine .inr ⟨fun hh => hr hh.1.2, ?_⟩
          simp [hr, conf_All_r12]
      · refine .inr ⟨fun hh => h0 hh.1.1, ?_⟩
        rw [if_pos (by simpa using h0)]
        simp [conf_All_r12]
    · rw [if_neg (by rw [hd]; decide), List.drop_eq_nil_of_le hc]
      exact .inl ⟨fun i c hi hci => by have := (List.getElem?_eq_some_iff.1 hci).1; omega, by simp⟩
theorem AllR_l (l : List M53) (hl : l.length ≤ 6) (hw : ∀ c ∈ l, 0 ≤ c.f1) (k : Nat) (hk : 50 ≤ k) : ∀ (j n : Nat) (acc : List Int), l.length - n < j → acc.length ≤ 6 * n → n ≤ l.length →
    (okFrom l n ∧ catenaryref09_All_l13 k l j acc n = some (.inr (acc ++ (l.drop n).flatMap standsP))) ∨ (¬ okFrom l n ∧ catenaryref09_All_l13 k l j acc n = some (.inl false)) := by
  intro j
  induction j with
  | zero => intro n acc h; exact absurd h (by omega)
  | succ j ih =>
    intro n acc h ha hnl
    rw [catenaryref09_All_l13]
    rcases place l n with ⟨c, hc, hd⟩ | ⟨hc, hd⟩
    · have hlt := (List.getElem?_eq_some_iff.1 hc).1
      rw [if_pos hd, ix_nat, hc, Option.bind_some, okFrom_step hc, drop_cons hc, RightR_is c (hw c (List.mem_of_getElem? hc)) k (by omega)]
      by_cases hr : rightP c
      · by_cases h0 : c.f0 = n
        · have hs := right_stands hr
          have e0 : (c.f0 != (n : Int)) = false := by simp [h0]
          simp only [hr, decide_true, Option.bind_some, Bool.not_true, Bool.false_eq_true, if_false, e0, catenaryref09_All_r14, ix_nat, hc]
          rw [Stands_is c (by have := hr.2.1.2.1; omega), Option.bind_some, app_some (by omega), Option.bind_some, next_i64 (by omega)]
          rcases ih (n + 1) (acc ++ standsP c) (by omega) (by rw [List.length_append]; omega) (by omega) with ⟨h1, h2⟩ | ⟨h1, h2⟩
          · refine .inl ⟨⟨⟨h0, trivial⟩, h1⟩, ?_⟩
            rw [h2, List.flatMap_cons, List.append_assoc]
          · exact .inr ⟨fun hh => h1 hh.2, h2⟩
        · refine .inr ⟨fun hh => h0 hh.1.1, ?_⟩
          simp [hr, h0, catenaryref09_All_r14]
      · refine .inr ⟨fun hh => hr hh.1.2, ?_⟩
        simp [hr, catenaryref09_All_r14]
    · rw [if_neg (by rw [hd]; decide), List.drop_eq_nil_of_le hc]
      exact .inl ⟨fun i c hi hci => by have := (List.getElem?_eq_some_iff.1 hci).1; omega, by simp⟩
def allP (l : List M53) : Prop := (1 ≤ l.length ∧ l.length ≤ 4) ∧ okFrom l 0 ∧ goodL (l.flatMap standsP)
theorem flat_len : ∀ (l : List M53), (∀ c ∈ l, rightP c) → (l.flatMap standsP).length ≤ 6 * l.length
  | [], _ => by simp
  | c :: l, h => by
    have h1 := right_stands (h c (by simp))
    have h2 := flat_len l fun x hx => h x (by simp [hx])
    rw [List.flatMap_cons, List.length_append, List.length_cons]; omega
theorem ok_right {l : List M53} (h : okFrom l 0) : ∀ c ∈ l, rightP c := fun c hc => by
  obtain ⟨i, hi⟩ := List.getElem?_of_mem hc
  exact (h i c (by omega) hi).2
theorem AllC_is (l : List M53) (hl : l.length ≤ 6) (hw : ∀ c ∈ l, 0 ≤ c.f1) (k : Nat) (hk : 50 ≤ k) : (allP l ∧ conf_All k l = some true) ∨ (¬ allP l ∧ conf_All k l = some false) := by
  unfold conf_All
  by_cases h14 : 1 ≤ l.length ∧ l.length ≤ 4
  · rw [if_neg (by simp only [Bool.or_eq_true, decide_eq_true_eq]; omega)]
    have hx := AllC_l l hl hw k hk k 0 [] (by omega) (by simp) (by omega)
    rw [show ((0 : Nat) : Int) = 0 from rfl, List.drop_zero, List.nil_append] at hx
    rcases hx with ⟨h1, h2⟩ | ⟨h1, h2⟩
    · rw [h2]
      have hfl := flat_len l (ok_right h1)
      simp only [Option.bind_some, conf_All_r10]
      rw [unlikeC_is _ (by omega) k (by omega)]
      by_cases hg : goodL (l.flatMap standsP)
      · exact .inl ⟨⟨h14, h1, hg⟩, by simp [hg]⟩
      · exact .inr ⟨fun hh => hg hh.2.2, by simp [hg]⟩
    · rw [h2]; exact .inr ⟨fun hh => h1 hh.2.1, rfl⟩
  · rw [if_pos (by simp only [Bool.or_eq_true, decide_eq_true_eq]; omega)]
    exact .inr ⟨fun hh => h14 hh.1, rfl⟩
theorem AllR_is (l : List M53) (hl : l.length ≤ 6) (hw : ∀ c ∈ l, 0 ≤ c.f1) (k : Nat) (hk : 50 ≤ k) : (allP l ∧ catenaryref09_All k l = some true) ∨ (¬ allP l ∧ catenaryref09_All k l = some false) := by
  unfold catenaryref09_All
  have hx := AllR_l l hl hw k hk k 0 [] (by omega) (by simp) (by omega)
  rw [show ((0 : Nat) : Int) = 0 from rfl, List.drop_zero, List.nil_append] at hx
  rcases hx with ⟨h1, h2⟩ | ⟨h1, h2⟩
  · rw [h2]
    have hfl := flat_len l (ok_right h1)
    simp only [Option.bind_some, catenaryref09_All_r12, catenaryref09_All_r11]
    rw [unlikeR_is _ (by omega) k (by omega)]
    by_cases h14 : 1 ≤ l.length ∧ l.length ≤ 4
    · rw [if_pos (by simp; omega), if_pos (by simp; omega)]
      by_cases hg : goodL (l.flatMap standsP)
      · exact .inl ⟨⟨h14, h1, hg⟩, by simp [hg]⟩
      · exact .inr ⟨fun hh => hg hh.2.2, by simp [hg]⟩
    · refine .inr ⟨fun hh => h14 hh.1, ?_⟩
      by_cases h1' : 1 ≤ l.length
      · rw [if_pos (by simp; omega), if_neg (by simp; omega)]; rfl
      · rw [if_neg (by simp; omega)]; rfl
  · rw [h2]; exact .inr ⟨fun hh => h1 hh.2.1, rfl⟩

theorem own_is (c : M53) (h : c.f2.length ≤ 1000) : conf_own c = some c := by
  unfold conf_own slices_Clone_int_int
  rw [app_some (by simp; omega)]; rfl
theorem Copy_l (l : List M53) (hl : l.length ≤ 1000) (hn : ∀ c ∈ l, c.f2.length ≤ 1000) : ∀ (j n : Nat) (acc : List M53), l.length - n < j → acc.length = l.length → acc.take n = l.take n → conf_Copy_l4 l j acc n = some l := by
  intro j
  induction j with
  | zero => intro n acc h; exact absurd h (by omega)
  | succ j ih =>
    intro n acc h ha ht
    rw [conf_Copy_l4]
    rcases place l n with ⟨c, hc, hd⟩ | ⟨hc, hd⟩
    · have hlt := (List.getElem?_eq_some_iff.1 hc).1
      rw [if_pos hd, ix_nat, hc, Option.bind_some, own_is c (hn c (List.mem_of_getElem? hc)), Option.bind_some, ix_nat, List.getElem?_eq_getElem (by omega), Option.bind_some, next_i64 (by omega)]
      refine ih (n + 1) _ (by omega) (by simp [ha]) ?_
      have hlen : (acc.take n).length = n := by rw [List.length_take]; omega
      have hx : acc[n]? = some (acc[n]'(by omega)) := List.getElem?_eq_getElem (by omega)
      rw [take_succ' hc, Int.toNat_natCast, ← ht, List.take_set, take_succ' hx, List.set_append_right _ _ (by omega), hlen, Nat.sub_self]
      rfl
    · rw [List.take_of_length_le hc, List.take_of_length_le (by omega)] at ht
      rw [if_neg (by rw [hd]; decide), ht]
theorem Copy_is (l : List M53) (hl : l.length ≤ 40) (hn : ∀ c ∈ l, c.f2.length ≤ 1000) (k : Nat) (hk : 50 ≤ k) : conf_Copy k l = some l := by
  have hm : mkS (M53.mk 0 0 ([]) false 0) (l.length : Int) = some (List.replicate l.length (M53.mk 0 0 ([]) false 0)) := by
    unfold mkS; rw [if_pos (by omega)]; simp
  have h := Copy_l l (by omega) hn k 0 (List.replicate l.length (M53.mk 0 0 ([]) false 0)) (by omega) (by simp) (by simp)
  rw [show ((0 : Nat) : Int) = 0 from rfl] at h
  unfold conf_Copy conf_Copy_r3
  rw [hm, Option.bind_some, h]; rfl
theorem SameN_l (xs : List Int) (hl : xs.length ≤ 1000) : ∀ j n : Nat, xs.length - n < j → catenaryref04_Same_l11 xs xs j n = some (.inr ()) := by
  intro j
  induction j with
  | zero => intro n h; exact absurd h (by omega)
  | succ j ih =>
    intro n h
    rw [catenaryref04_Same_l11]
    rcases place xs n with ⟨c, hc, hd⟩ | ⟨hc, hd⟩
    · have hlt := (List.getElem?_eq_some_iff.1 hc).1
      rw [if_pos hd, ix_nat, hc]
      simp only [Option.bind_some, bne_self_eq_false, catenaryref04_Same_r12, Bool.false_eq_true, if_false]
      rw [next_i64 (by omega)]
      exact ih (n + 1) (by omega)
    · rw [if_neg (by rw [hd]; decide)]
theorem Same_is (c : M53) (k : Nat) (h : c.f2.length < k) (hk : k ≤ 1000) : catenaryref09_Same k c c = some true := by
  unfold catenaryref09_Same catenaryref09_Same_r2 catenaryref04_Same catenaryref04_Same_r10
  have hs := SameN_l c.f2 (by omega) k 0 (by omega)
  rw [show ((0 : Nat) : Int) = 0 from rfl] at hs
  rw [hs]
  simp
theorem SameAll_l (l : List M53) (hl : l.length ≤ 40) (k : Nat) (hk : 50 ≤ k) (hk2 : k ≤ 1000) (hn : ∀ c ∈ l, c.f2.length < k) : ∀ j n : Nat, l.length - n < j → catenaryref09_SameAll_l11 k l l j n = some (.inr ()) := by
  intro j
  induction j with
  | zero => intro n h; exact absurd h (by omega)
  | succ j ih =>
    intro n h
    rw [catenaryref09_SameAll_l11]
    rcases place l n with ⟨c, hc, hd⟩ | ⟨hc, hd⟩
    · have hlt := (List.getElem?_eq_some_iff.1 hc).1
      rw [if_pos hd, ix_nat, hc]
      simp only [Option.bind_some, Same_is c k (hn c (List.mem_of_getElem? hc)) hk2, Bool.not_true, catenaryref09_SameAll_r12, Bool.false_eq_true, if_false]
      rw [next_i64 (by omega)]
      exact ih (n + 1) (by omega)
    · rw [if_neg (by rw [hd]; decide)]
theorem SameAll_is (l : List M53) (hl : l.length ≤ 40) (k : Nat) (hk : 50 ≤ k) (hk2 : k ≤ 1000) (hn : ∀ c ∈ l, c.f2.length < k) : catenaryref09_SameAll k l l = some true := by
  have h := SameAll_l l hl k hk hk2 hn k 0 (by omega)
  rw [show ((0 : Nat) : Int) = 0 from rfl] at h
  unfold catenaryref09_SameAll catenaryref09_SameAll_r10
  rw [h]; simp

/-- what both hold -/
structure Inv (m : Nat) (L : List M53) : Prop where
  len : L.length = m
  lo : 1 ≤ m
  hi : m ≤ 4
  w : ∀ c ∈ L, 0 ≤ c.f1 ∧ c.f2.length ≤ 30
def newer (r c : M53) : Prop := rightP c ∧ r.f0 = c.f0 ∧ r.f1 < c.f1
theorem Newer_is (o c : M53) (h1 : 0 ≤ c.f1) (k : Nat) (hk : 10 ≤ k) : (newer o c ∧ role_Newer k o c = some true ∧ catenaryref19_Newer k o c = some true) ∨ (¬ newer o c ∧ role_Newer k o c = some false ∧ catenaryref19_Newer k o c = some false) := by
  unfold role_Newer catenaryref19_Newer role_Newer_r2 catenaryref19_Newer_r2 newer
  rw [RightC_is c h1 k hk, RightR_is c h1 k hk]
  by_cases h : rightP c
  · simp only [h, decide_true, Option.bind_some, if_true]
    by_cases he : o.f0 = c.f0
    · by_cases h2 : o.f1 < c.f1
      · exact .inl ⟨⟨trivial, he, h2⟩, by simp [he, h2], by simp [he, h2]⟩
      · exact .inr ⟨fun hh => h2 hh.2.2, by simp [he, h2], by simp [he, h2]⟩
    · exact .inr ⟨fun hh => he hh.2.1, by simp [he], by simp [Ne.symm he]⟩
  · exact .inr ⟨fun hh => h hh.1, by simp [h], by simp [h]⟩
theorem OfA_is {m : Nat} {L : List M53} (h : Inv m L) (key : Int) (hkey : wfInt .u32 key) (k : Nat) (hk : 50 ≤ k) : ∃ (r : Nat) (c : M53), catenaryref25_Chain key (m : Int) = some (r : Int) ∧ r < m ∧ L[r]? = some c ∧ ∀ a1 a2 a3 a4 a5 a6, atlas_Atlas_Of_2 k L a1 a2 a3 a4 a5 a6 key = some c := by
  obtain ⟨r, e1, e2, h2⟩ := chain_eq key (m : Int) hkey (by have := h.lo; omega) (by have := h.hi; omega)
  have hr : r < L.length := by rw [h.len]; omega
  refine ⟨r, L[r], e2, by omega, List.getElem?_eq_getElem hr, fun a1 a2 a3 a4 a5 a6 => ?_⟩
  unfold atlas_Atlas_Of_2 atlas_Atlas_Confs atlas_Atlas_Chains_2
  rw [Copy_is L (by rw [h.len]; have := h.hi; omega) (fun c hc => by have := (h.w c hc).2; omega) k hk]
  simp only [Option.bind_some]
  rw [h.len, e1, Option.bind_some, ix_nat, List.getElem?_eq_getElem hr]; rfl
/-- both learn alike -/
theorem Learn_is {m : Nat} {L : List M53} (h : Inv m L) (c : M53) (h1 : 0 ≤ c.f1) (h30 : c.f2.length ≤ 30) (k : Nat) (hk : 50 ≤ k) :
    ∃ (b : Bool) (L' : List M53), catenaryref25_Learn_2 k L c = some (L', b) ∧ (∀ a1 a2 a3 a4 a5 a6, atlas_Atlas_Learn_2 k L a1 a2 a3 a4 a5 a6 c = some (b, L')) ∧ Inv m L' ∧ ∀ (i : Nat) x y, L[i]? = some x → L'[i]? = some y → x.f1 ≤ y.f1 := by
  have stay : ∃ (b : Bool) (L' : List M53), some (L, false) = some (L', b) ∧ (∀ _a1 _a2 _a3 _a4 _a5 : Int, ∀ _a6 : List (List Int), some (false, L) = some (b, L')) ∧ Inv m L' ∧ ∀ (i : Nat) (x y : M53), L[i]? = some x → L'[i]? = some y → x.f1 ≤ y.f1 :=
    ⟨false, L, rfl, fun _ _ _ _ _ _ => rfl, h, fun i x y hx hy => by rw [hx] at hy; cases hy; exact Int.le_refl _⟩
  unfold catenaryref25_Learn_2 catenaryref25_Learn_2_r2 atlas_Atlas_Learn_2 atlas_Atlas_Learn_2_r4 atlas_Atlas_Learn_2_r3 atlas_Atlas_Chains_2
  by_cases ha : c.f0 < 0
  · have ha' : decide (c.f0 < 0) = true := by simpa using ha
    simp only [ha', if_true, Option.bind_some]
    exact stay
  · have ha' : decide (c.f0 < 0) = false := by simpa using ha
    by_cases hb : c.f0 ≥ (L.length : Int)
    · have hb' : decide (c.f0 ≥ (L.length : Int)) = true := by simpa using hb
      simp only [ha', hb', if_true, Option.bind_some, Bool.false_eq_true, if_false]
      exact stay
    · have hb' : decide (c.f0 ≥ (L.length : Int)) = false := by simpa using hb
      obtain ⟨p, hp⟩ : ∃ p : Nat, c.f0 = (p : Int) := ⟨c.f0.toNat, by omega⟩
      have hpl : p < L.length := by omega
      have hg : L[p]? = some L[p] := List.getElem?_eq_getElem hpl
      simp only [ha', hb', Option.bind_some, Bool.false_eq_true, if_false]
      rw [hp, ix_nat, hg]
      simp only [Option.bind_some]
      rcases Newer_is L[p] c h1 k (by omega) with ⟨hn, e1, e2⟩ | ⟨hn, e1, e2⟩
      · rw [e1, e2]
        have hcp : conf_Copy k [c] = some [c] := Copy_is [c] (by simp) (fun x hx => by rw [List.mem_singleton.1 hx]; omega) k hk
        simp only [Option.bind_some, Bool.not_true, Bool.false_eq_true, if_false, hcp]
        rw [app_some (by simp; have := h.hi; have := h.len; omega)]
        simp only [Option.bind_some, List.nil_append, ix_nat, hg, ix_zero, List.getElem?_cons_zero]
        refine ⟨true, L.set p c, by simp, by simp, ⟨by rw [List.length_set]; exact h.len, h.lo, h.hi, fun x hx => ?_⟩, fun i x y hx hy => ?_⟩
        · rcases List.mem_or_eq_of_mem_set hx with hx | hx
          · exact h.w x hx
          · rw [hx]; exact ⟨h1, h30⟩
        · rw [List.getElem?_set] at hy
          by_cases he : p = i
          · subst he
            rw [if_pos rfl, if_pos hpl] at hy
            cases hy
            rw [hg] at hx; cases hx
            have := hn.2.2
            omega
          · rw [if_neg he, hx] at hy; cases hy; exact Int.le_refl _
      · rw [e1, e2]
        simp only [Option.bind_some, Bool.not_false, if_true]
        exact stay

theorem learns_l {m : Nat} (learn : List M53) (hlr : learn.length ≤ 40) (hw : ∀ c ∈ learn, 0 ≤ c.f1) (key : Int) (hkey : wfInt .u32 key) (y : (List M53) × Int × Int × Int × Int × Int × (List (List Int)) × Int) : ∀ (j n : Nat) (L : List M53), learn.length - n < j → Inv m L →
    (∃ L', Inv m L' ∧ catenarylaw25_AtlasLearns_2_l29 60 learn y key j L n L = some (.inr (L', L'))) ∨ catenarylaw25_AtlasLearns_2_l29 60 learn y key j L n L = some (.inl true) := by
  intro j
  induction j with
  | zero => intro n L h; exact absurd h (by omega)
  | succ j ih =>
    intro n L h hI
    rw [catenarylaw25_AtlasLearns_2_l29]
    rcases place learn n with ⟨c, hc, hd⟩ | ⟨hc, hd⟩
    · have hlt := (List.getElem?_eq_some_iff.1 hc).1
      have hm := List.mem_of_getElem? hc
      rw [if_pos hd, ix_nat, hc, Option.bind_some]
      by_cases h30 : c.f2.length ≤ 30
      · rw [if_neg (by simp; omega)]
        obtain ⟨r, c0, e1, e2, e3, e4⟩ := OfA_is hI key hkey 60 (by decide)
        obtain ⟨b, L', f1, f2, f3, f4⟩ := Learn_is hI c (hw c hm) h30 60 (by decide)
        obtain ⟨r', c1, g1, g2, g3, g4⟩ := OfA_is f3 key hkey 60 (by decide)
        have hrr : r = r' := by rw [e1] at g1; have := Option.some.inj g1; omega
        subst hrr
        have hle := f4 r c0 c1 e3 g3
        have hcp : ∀ a1 a2 a3 a4 a5 a6, atlas_Atlas_Confs 60 L' a1 a2 a3 a4 a5 a6 = some L' := fun a1 a2 a3 a4 a5 a6 => by
          unfold atlas_Atlas_Confs
          rw [Copy_is L' (by rw [f3.len]; have := f3.hi; omega) (fun c hc => by have := (f3.w c hc).2; omega) 60 (by decide)]; rfl
        have hsa := SameAll_is L' (by rw [f3.len]; have := f3.hi; omega) 60 (by decide) (by decide) (fun c hc => by have := (f3.w c hc).2; omega)
        rw [e4, Option.bind_some, Option.bind_some, f1, Option.bind_some, Option.bind_some, f2]
        simp only [Option.bind_some, beq_self_eq_true, Bool.not_true, Bool.false_eq_true, if_false, g4, hcp, hsa, catenarylaw25_AtlasLearns_2_r30]
        rw [if_neg (by simp; omega)]
        simp only [Option.bind_some, Bool.false_eq_true, if_false]
        rw [next_i64 (by omega)]
        exact ih (n + 1) L' (by omega) f3
      · rw [if_pos (by simp; omega), awake25]
        exact .inr rfl
    · rw [if_neg (by rw [hd]; decide)]
      exact .inl ⟨L, hI, rfl⟩

abbrev wfC (c : M53) : Prop := wfInt .i64 c.f0 ∧ wfInt .u64 c.f1 ∧ wfSl (wfInt .i64) c.f2 ∧ wfBool c.f3 ∧ wfInt .i64 c.f4
theorem pureAtlasLearns (l learn : List M53) (key : Int) (hl : wfSl wfC l) (hlr : wfSl wfC learn) (hkey : wfInt .u32 key) : ∃ k, catenarylaw25_AtlasLearns_2 k l learn key = some true := by
  refine ⟨60, ?_⟩
  unfold catenarylaw25_AtlasLearns_2
  rw [awake25]
  split
  · rfl
  · rename_i hn
    simp only [Bool.or_eq_true, decide_eq_true_eq, not_or] at hn
    have hw : ∀ c ∈ l, 0 ≤ c.f1 := fun c hc => (wfInt_u64.1 (hl.2 c hc).2.1).1
    have hw2 : ∀ c ∈ learn, 0 ≤ c.f1 := fun c hc => (wfInt_u64.1 (hlr.2 c hc).2.1).1
    unfold atlas_New
    rcases AllC_is l (by omega) hw 60 (by decide) with ⟨h1, h2⟩ | ⟨h1, h2⟩
    · have hA : catenaryref09_All 60 l = some true := by
        rcases AllR_is l (by omega) hw 60 (by decide) with ⟨h3, h4⟩ | ⟨h3, h4⟩
        · exact h4
        · exact absurd h1 h3
      have hr := ok_right h1.2.1
      rw [h2, hA, Copy_is l (by omega) (fun c hc => by have := (hr c hc).2.1.2.1; omega) 60 (by decide)]
      simp only [Option.bind_some, Bool.not_true, Bool.false_eq_true, if_false, latch_Of_int]
      have hI : Inv l.length l := ⟨rfl, h1.1.1, h1.1.2, fun c hc => ⟨hw c hc, by have := (hr c hc).2.1.2.1; omega⟩⟩
      have hll := learns_l (m := l.length) learn (by omega) hw2 key hkey (l, 0, 0, 0, (l.length : Int), 0, [], 0) 60 0 l (by omega) hI
      rw [show ((0 : Nat) : Int) = 0 from rfl] at hll
      rcases hll with ⟨L', hI', he⟩ | he
      · rw [he]
        simp only [Option.bind_some]
        unfold catenarylaw25_AtlasLearns_2_r28 catenarylaw25_AtlasLearns_2_r27 atlas_Atlas_Head_2 atlas_Atlas_Reader_2 atlas_Atlas_Chains_2
        obtain ⟨r, c0, e1, e2, e3, e4⟩ := OfA_is hI' key hkey 60 (by decide)
        have hc0 := hI'.w c0 (List.mem_of_getElem? e3)
        obtain ⟨q1, a1, a2⟩ := Head_is c0 hc0.1 60 (by decide)
        obtain ⟨q2, b1, b2⟩ := Reader_is c0 hc0.1 (IntKind.i64.wrap key) 60 (by decide)
        rw [hI'.len, e1, Option.bind_some, ix_nat, e3]
        simp only [Option.bind_some, e4, Same_is c0 60 (by omega) (by decide), a1, a2, b1, b2, awake25, beq_self_eq_true, if_true]
      · rw [he]; rfl
    · have hA : catenaryref09_All 60 l = some false := by
        rcases AllR_is l (by omega) hw 60 (by decide) with ⟨h3, h4⟩ | ⟨h3, h4⟩
        · exact absurd h3 h1
        · exact h4
      rw [h2, hA]
      rfl
end Go.Proofs.Ytfpppgbibgbllaa.Sx
