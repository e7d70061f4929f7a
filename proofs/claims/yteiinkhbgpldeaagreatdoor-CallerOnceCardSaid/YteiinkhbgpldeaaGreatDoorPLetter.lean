/- The plain law of CallerOnce: what the walk computes answers true.
   Conditions: those that each theorem states ahead of its colon, and no other. -/
import Derived.Test.YteiinkhbgpldeaaGreatDoorWCallerOnce
import Derived.Test.YteiinkhbgpldeaaGreatDoorPScan
set_option linter.unusedSimpArgs false
set_option linter.unusedVariables false
namespace Go.Proofs.YteiinkhbgpldeaaGreatDoor.Sx
open Go
/-- is v in the list? -/
theorem Index_l (xs : List Int) (v : Int) (hl : xs.length ≤ 4294967296) : ∀ j n : Nat, xs.length - n < j → v ∉ xs.take n → slices_Index_int_int_l4 xs v j n = some (if v ∈ xs then .inl (xs.idxOf v : Int) else .inr ()) := by
  intro j
  induction j with
  | zero => intro n h; exact absurd h (by omega)
  | succ j ih =>
    intro n h hn
    rw [slices_Index_int_int_l4]
    rcases place xs n with ⟨x, hx, hd⟩ | ⟨hx, hd⟩
    · have hlt := (List.getElem?_eq_some_iff.1 hx).1
      rw [if_pos hd, ix_nat, hx, Option.bind_some]
      by_cases hv : v = x
      · subst hv
        have h1 : xs.idxOf v = n := by
          conv => lhs; rw [← List.take_append_drop n xs]
          rw [List.idxOf_append, if_neg hn, drop_cons hx, List.idxOf_cons_self]
          simp; omega
        rw [if_pos (by simp), if_pos (List.mem_of_getElem? hx), h1]
      · rw [if_neg (by simpa using hv), next_i64 (by omega), ih (n + 1) (by omega)]
        rw [take_succ' hx]
        simpa using ⟨hn, hv⟩
    · rw [List.take_of_length_le hx] at hn
      rw [if_neg (by rw [hd]; decide), if_neg hn]
theorem Index_is (xs : List Int) (v : Int) (hl : xs.length ≤ 4294967296) (k : Nat) (hk : xs.length < k) : slices_Index_int_int k xs v = some (if v ∈ xs then (xs.idxOf v : Int) else -1) := by
  have h := Index_l xs v hl k 0 (by omega) (by simp)
  rw [show ((0 : Nat) : Int) = 0 from rfl] at h
  unfold slices_Index_int_int slices_Index_int_int_r3
  rw [h]
  by_cases hv : v ∈ xs <;> simp [hv]
theorem Contains_is (xs : List Int) (v : Int) (hl : xs.length ≤ 4294967296) (k : Nat) (hk : xs.length < k) : slices_Contains_int_int k xs v = some (decide (v ∈ xs)) := by
  unfold slices_Contains_int_int
  rw [Index_is xs v hl k hk]
  by_cases hv : v ∈ xs <;> simp [hv]

def goodL (xs : List Int) : Prop := (∀ x ∈ xs, 1 ≤ x ∧ x ≤ 24) ∧ xs.Nodup
instance (xs : List Int) : Decidable (goodL xs) := inferInstanceAs (Decidable (_ ∧ _))
theorem good_snoc {xs : List Int} {x : Int} : goodL (xs ++ [x]) ↔ goodL xs ∧ (1 ≤ x ∧ x ≤ 24) ∧ x ∉ xs := by
  unfold goodL
  constructor
  · rintro ⟨h1, h2⟩
    rw [List.nodup_append] at h2
    refine ⟨⟨fun y hy => h1 y (by simp [hy]), h2.1⟩, h1 x (by simp), fun hx => h2.2.2 x hx x (by simp) rfl⟩
  · rintro ⟨⟨h1, h2⟩, h3, h4⟩
    refine ⟨fun y hy => ?_, ?_⟩
    · rcases List.mem_append.1 hy with hy | hy
      · exact h1 y hy
      · rw [List.mem_singleton.1 hy]; exact h3
    · rw [List.nodup_append]
      exact ⟨h2, by simp, fun a ha b hb => by rw [List.mem_singleton.1 hb]; rintro rfl; exact h4 ha⟩
theorem good_take {xs : List Int} (n : Nat) (h : goodL xs) : goodL (xs.take n) :=
  ⟨fun x hx => h.1 x (List.mem_of_mem_take hx), h.2.sublist (List.take_sublist n xs)⟩

theorem unlikeC_l (xs : List Int) (hl : xs.length ≤ 1000) (k : Nat) (hk : xs.length < k) : ∀ j n : Nat, xs.length - n < j → goodL (xs.take n) → conf_unlike_l11 k xs j n = some (if goodL xs then .inr () else .inl false) := by
  intro j
  induction j with
  | zero => intro n h; exact absurd h (by omega)
  | succ j ih =>
    intro n h hn
    rw [conf_unlike_l11]
    rcases place xs n with ⟨x, hx, hd⟩ | ⟨hx, hd⟩
    · have hlt := (List.getElem?_eq_some_iff.1 hx).1
      have hno : ¬ goodL (xs.take (n + 1)) → ¬ goodL xs := fun h1 h2 => h1 (good_take _ h2)
      rw [take_succ' hx, good_snoc] at hno
      rw [if_pos hd, ix_nat, hx, Option.bind_some]
      unfold conf_node
      by_cases h1 : 1 ≤ x ∧ x ≤ 24
      · have e1 : ((decide (x ≥ 1)) && (decide (x ≤ 24))) = true := by simp; omega
        rw [e1, Option.bind_some, sl_take xs n (by omega), if_neg (by decide), Option.bind_some, Contains_is (xs.take n) x (by simp; omega) k (by simp; omega)]
        by_cases h2 : x ∈ xs.take n
        · have := hno (fun hh => hh.2.2 h2)
          simp [h2, this, conf_unlike_r12]
        · simp only [h2, decide_false, Option.bind_some, conf_unlike_r12, Bool.false_eq_true, if_false]
          rw [next_i64 (by omega)]
          exact ih (n + 1) (by omega) (by rw [take_succ' hx, good_snoc]; exact ⟨hn, h1, h2⟩)
      · have e1 : ((decide (x ≥ 1)) && (decide (x ≤ 24))) = false := by
          rw [Bool.eq_false_iff]; intro hc; simp at hc; exact h1 hc
        have := hno (fun hh => h1 hh.2.1)
        rw [e1]
        simp [this, conf_unlike_r12]
    · rw [List.take_of_length_le hx] at hn
      rw [if_neg (by rw [hd]; decide), if_pos hn]
theorem unlikeC_is (xs : List Int) (hl : xs.length ≤ 1000) (k : Nat) (hk : xs.length < k) : conf_unlike k xs = some (decide (goodL xs)) := by
  have h := unlikeC_l xs hl k hk k 0 (by omega) ⟨by simp, by simp⟩
  rw [show ((0 : Nat) : Int) = 0 from rfl] at h
  unfold conf_unlike conf_unlike_r10
  rw [h]
  by_cases hg : goodL xs <;> simp [hg]
def standsP (c : M44) : List Int := if c.f4 = 0 then c.f2 else c.f2 ++ [c.f4]
def rightP (c : M44) : Prop := (0 ≤ c.f0 ∧ c.f0 ≤ 3 ∧ 1 ≤ c.f1) ∧ (1 ≤ c.f2.length ∧ c.f2.length ≤ 5 ∧ ¬ (c.f3 = true ∧ (c.f2.length = 1 ∨ c.f4 ≠ 0))) ∧ goodL (standsP c)
instance (c : M44) : Decidable (rightP c) := inferInstanceAs (Decidable (_ ∧ _))
theorem stands_len (c : M44) : (standsP c).length ≤ c.f2.length + 1 := by
  unfold standsP; split <;> simp
theorem everybody_is (c : M44) (hl : c.f2.length ≤ 1000) : conf_everybody c = some (standsP c) := by
  have hc : slices_Clone_int_int c.f2 = some c.f2 := by unfold slices_Clone_int_int; rw [app_some (by simp; omega)]; rfl
  unfold conf_everybody standsP conf_everybody_r2
  by_cases h : c.f4 = 0
  · simp [h, hc]
  · simp only [beq_iff_eq, h, if_false, hc, Option.bind_some]
    rw [app_some (by simp; omega)]; rfl
theorem RightC_is (c : M44) (_h1 : 0 ≤ c.f1) (k : Nat) (hk : 10 ≤ k) : conf_Right k c = some (decide (rightP c)) := by
  unfold conf_Right
  by_cases ha : 0 ≤ c.f0 ∧ c.f0 ≤ 3 ∧ 1 ≤ c.f1
  · rw [if_neg (by simp; omega)]
    by_cases hb : 1 ≤ c.f2.length ∧ c.f2.length ≤ 5 ∧ ¬ (c.f3 = true ∧ (c.f2.length = 1 ∨ c.f4 ≠ 0))
    · have hb' := hb
      have hsl := stands_len c
      rw [if_neg, everybody_is c (by omega), Option.bind_some, unlikeC_is _ (by omega) k (by omega)]
      · simp [rightP, ha, hb]
      · intro hc
        simp only [Bool.or_eq_true, decide_eq_true_eq, Bool.and_eq_true, bne_iff_ne, ne_eq] at hc
        rcases hc with hc | hc | hc
        · omega
        · omega
        · exact hb.2.2 ⟨hc.1, hc.2.imp (by omega) id⟩
    · rw [if_pos]
      · simp only [rightP, hb, and_false, false_and, decide_false]
      · simp only [Bool.or_eq_true, decide_eq_true_eq, Bool.and_eq_true, bne_iff_ne, ne_eq]
        by_cases h5 : 1 ≤ c.f2.length
        · by_cases h6 : c.f2.length ≤ 5
          · right; right
            have h7 : c.f3 = true ∧ (c.f2.length = 1 ∨ c.f4 ≠ 0) := Classical.byContradiction fun h => hb ⟨h5, h6, h⟩
            exact ⟨h7.1, h7.2.imp (by omega) id⟩
          · right; left; omega
        · left; omega
  · rw [if_pos (by simp; omega)]
    simp only [rightP, ha, false_and, decide_false]
/-! ## letters -/
def addrP (a : Int) : Bool := (decide (a ≥ 1) && decide (a ≤ 24)) || ((decide (a > 100) && decide (a ≤ 105)) || (decide (a > 200) && decide (a ≤ 206)))
theorem addr_is (a : Int) : letter_Address a = some (addrP a) := by
  unfold letter_Address letter_Address_r2 letter_Node letter_Master letter_Client addrP
  simp only [Option.bind_some]
  cases (decide (a ≥ 1) && decide (a ≤ 24)) <;> cases (decide (a > 100) && decide (a ≤ 105)) <;> rfl
def hB (b m : Int) : Bool := bAnd .i64 b m != 0
def zC : M41 := M41.mk 0 0 0 0
def zF : M44 := M44.mk 0 0 [] false 0
def bareP (b : Int) (x : M48) : M48 :=
  M48.mk x.f0 x.f1 x.f2 (if hB b 1 = true then x.f3 else 0) (if hB b 2 = true then x.f4 else 0) (if hB b 4 = true then x.f5 else 0) (if hB b 64 = true then x.f6 else 0) (if hB b 8 = true then x.f7 else 0)
    (if hB b 16 = true then x.f8 else 0) (if hB b 512 = true then x.f9 else 0) (if hB b 32 = true then x.f10 else 0) (if hB b 256 = true then x.f11 else 0) (if hB b 128 = true then x.f12 else 0)
    (if hB b 1024 = true then x.f13 else zC) (if hB b 2048 = true then x.f14 else zF) (if hB b 4096 = true then x.f15 else []) (if hB b 8192 = true then x.f16 else []) (if hB b 16384 = true then x.f17 else [])
def bitsK (k : Int) : Int := match ix gtab161 k with
  | some t => bOr .i64 (bOr .i64 (bOr .i64 (bOr .i64 (bOr .i64 (bOr .i64 0 t.f1.f0) t.f1.f1) t.f1.f2) t.f1.f3) t.f1.f4) t.f1.f5
  | none => 0
theorem bare_is (x : M48) {t : M161} (ht : ix gtab161 x.f0 = some t) : letter_bare x = some (bareP (bitsK x.f0) x) := by
  unfold letter_bare
  have hb : bitsK x.f0 = bOr .i64 (bOr .i64 (bOr .i64 (bOr .i64 (bOr .i64 (bOr .i64 0 t.f1.f0) t.f1.f1) t.f1.f2) t.f1.f3) t.f1.f4) t.f1.f5 := by unfold bitsK; rw [ht]
  rw [ht, Option.bind_some, Option.bind_some, Option.bind_some, ← hb]
  generalize bitsK x.f0 = b
  unfold bareP hB
  simp only [letter_bare_r46, letter_bare_r47, letter_bare_r48, letter_bare_r49, letter_bare_r50, letter_bare_r51, letter_bare_r52, letter_bare_r53, letter_bare_r54, letter_bare_r55, letter_bare_r56, letter_bare_r57, letter_bare_r58, letter_bare_r59, letter_bare_r60,
    letter_bare_1, letter_bare_2, letter_bare_3, letter_bare_4, letter_bare_5, letter_bare_6, letter_bare_7, letter_bare_8, letter_bare_9, letter_bare_10, letter_bare_11, letter_bare_12, letter_bare_13, letter_bare_14, letter_bare_15, Option.bind_some, bindIf]
  by_cases h1 : (bAnd .i64 b 1024 != 0) = true <;> by_cases h2 : (bAnd .i64 b 2048 != 0) = true <;> simp only [h1, h2, if_true, Bool.false_eq_true, if_false] <;> rfl
def cmdB (a b : M41) : Bool := (a.f0 == b.f0) && ((a.f1 == b.f1) && ((a.f2 == b.f2) && ((a.f3 == b.f3) && true)))
def voteB (a b : M156) : Bool := (a.f0 == b.f0) && ((a.f1 == b.f1) && ((cmdB a.f2 b.f2) && true))
def updB (a b : M96) : Bool := (a.f0 == b.f0) && ((a.f1 == b.f1) && ((a.f2 == b.f2) && ((a.f3 == b.f3) && ((a.f4 == b.f4) && ((a.f5 == b.f5) && beqS a.f6 b.f6)))))
def confB (a b : M44) : Bool := (a.f0 == b.f0) && ((a.f1 == b.f1) && ((a.f3 == b.f3) && ((a.f4 == b.f4) && eqL (fun x y : Int => x == y) a.f2 b.f2)))
def sameB (x y : M48) : Bool :=
  ((x.f0 == y.f0) && (x.f1 == y.f1) && (x.f2 == y.f2) && (x.f3 == y.f3) && (x.f10 == y.f10) && (x.f11 == y.f11) && (x.f12 == y.f12)) &&
  ((x.f4 == y.f4) && (x.f5 == y.f5) && (x.f6 == y.f6) && (x.f7 == y.f7) && (x.f8 == y.f8) && (x.f9 == y.f9)) &&
  (cmdB x.f13 y.f13 && confB x.f14 y.f14) && (eqL voteB x.f15 y.f15 && (eqL updB x.f16 y.f16 && beqS x.f17 y.f17))
theorem eqI_is (xs ys : List Int) (hl : xs.length ≤ 1000000) (k : Nat) (hk : xs.length < k) : slices_Equal_int_int k xs ys = some (eqL (fun x y : Int => x == y) xs ys) := by
  unfold slices_Equal_int_int
  by_cases h : xs.length = ys.length
  · rw [if_neg (by simp [h]), scan2 (fun x y : Int => x == y) xs ys hl h (slices_Equal_int_int_l11 xs ys) (fun j i x y hx hy hi => by
      rw [slices_Equal_int_int_l11, if_pos (lt_true hi), ix_nat, ix_nat, hx, hy]
      simp only [Option.bind_some, slices_Equal_int_int_r12]
      rw [next_i64 (by omega)]
      cases hp : (x == y) <;> simp [bne, hp]) (fun j => by rw [slices_Equal_int_int_l11, if_neg (by rw [lt_false (Nat.le_refl _)]; decide)]) k hk]
    cases eqL (fun x y : Int => x == y) xs ys <;> rfl
  · rw [if_pos (by simp; omega)]
    cases he : eqL (fun x y : Int => x == y) xs ys
    · rfl
    · exact absurd (eqL_len he) h
theorem confB_is (a b : M44) (hl : a.f2.length ≤ 1000000) (k : Nat) (hk : a.f2.length < k) : conf_Same k a b = some (confB a b) := by
  unfold conf_Same conf_Same_r2 confB
  rw [eqI_is _ _ hl k hk]
  simp only [Option.bind_some, bindIf]
  cases (a.f0 == b.f0) <;> cases (a.f1 == b.f1) <;> cases (a.f3 == b.f3) <;> cases (a.f4 == b.f4) <;> rfl
theorem eqV_is (xs ys : List M156) (hl : xs.length ≤ 1000000) (k : Nat) (hk : xs.length < k) : slices_Equal_api_Vote_api_Vote k xs ys = some (eqL voteB xs ys) := by
  unfold slices_Equal_api_Vote_api_Vote
  by_cases h : xs.length = ys.length
  · rw [if_neg (by simp [h]), scan2 voteB xs ys hl h (slices_Equal_api_Vote_api_Vote_l11 xs ys) (fun j i x y hx hy hi => by
      rw [slices_Equal_api_Vote_api_Vote_l11, if_pos (lt_true hi), ix_nat, ix_nat, hx, hy]
      simp only [Option.bind_some, slices_Equal_api_Vote_api_Vote_r12]
      rw [next_i64 (by omega)]
      show (if (!voteB x y) = true then _ else _) = _
      cases voteB x y <;> rfl) (fun j => by rw [slices_Equal_api_Vote_api_Vote_l11, if_neg (by rw [lt_false (Nat.le_refl _)]; decide)]) k hk]
    cases eqL voteB xs ys <;> rfl
  · rw [if_pos (by simp; omega)]
    cases he : eqL voteB xs ys
    · rfl
    · exact absurd (eqL_len he) h
theorem updB_is (a b : M96) : letter_SameUpdate a b = some (updB a b) := by
  unfold letter_SameUpdate letter_SameUpdate_r2 bytes_Equal updB
  simp only [Option.bind_some, bindIf]
  cases (a.f0 == b.f0) <;> cases (a.f1 == b.f1) <;> cases (a.f2 == b.f2) <;> cases (a.f3 == b.f3) <;> cases (a.f4 == b.f4) <;> cases (a.f5 == b.f5) <;> rfl
theorem eqU_is (xs ys : List M96) (hl : xs.length ≤ 1000000) (k : Nat) (hk : xs.length < k) : slices_EqualFunc_api_Update_api_Update_api_Update_api_Update k xs ys = some (eqL updB xs ys) := by
  unfold slices_EqualFunc_api_Update_api_Update_api_Update_api_Update
  by_cases h : xs.length = ys.length
  · rw [if_neg (by simp [h]), scan2 updB xs ys hl h (slices_EqualFunc_api_Update_api_Update_api_Update_api_Update_l4 xs ys) (fun j i x y hx hy hi => by
      rw [slices_EqualFunc_api_Update_api_Update_api_Update_api_Update_l4, if_pos (lt_true hi), ix_nat, ix_nat, hx, hy]
      simp only [Option.bind_some, updB_is]
      rw [next_i64 (by omega)]
      cases updB x y <;> rfl) (fun j => by rw [slices_EqualFunc_api_Update_api_Update_api_Update_api_Update_l4, if_neg (by rw [lt_false (Nat.le_refl _)]; decide)]) k hk]
    cases eqL updB xs ys <;> rfl
  · rw [if_pos (by simp; omega)]
    cases he : eqL updB xs ys
    · rfl
    · exact absurd (eqL_len he) h
/-- what a letter bears is not longer than is looked at -/
structure Short (x : M48) : Prop where
  c : x.f14.f2.length ≤ 2900
  v : x.f15.length ≤ 2900
  u : x.f16.length ≤ 2900
theorem sameB_is (x y : M48) (h : Short x) : letter_Same 3000 x y = some (sameB x y) := by
  have hc := h.c
  have hv := h.v
  have hu := h.u
  unfold letter_Same letter_Same_r4 letter_Same_r3 bytes_Equal
  rw [confB_is _ _ (by omega) 3000 (by omega), eqV_is _ _ (by omega) 3000 (by omega), eqU_is _ _ (by omega) 3000 (by omega)]
  simp only [Option.bind_some, bindIf]
  unfold sameB
  show (if _ then _ else if _ then _ else if ((if (!cmdB x.f13 y.f13) = true then true else !confB x.f14 y.f14) : Bool) = true then _ else _) = _
  by_cases h1 : ((x.f0 == y.f0) && (x.f1 == y.f1) && (x.f2 == y.f2) && (x.f3 == y.f3) && (x.f10 == y.f10) && (x.f11 == y.f11) && (x.f12 == y.f12)) = true
  · rw [h1]
    rw [if_neg (by simp only [Bool.and_eq_true] at h1; obtain ⟨⟨⟨⟨⟨⟨a, b⟩, c⟩, d⟩, e⟩, f⟩, g⟩ := h1; simp [bne, a, b, c, d, e, f, g])]
    by_cases h2 : ((x.f4 == y.f4) && (x.f5 == y.f5) && (x.f6 == y.f6) && (x.f7 == y.f7) && (x.f8 == y.f8) && (x.f9 == y.f9)) = true
    · rw [h2]
      rw [if_neg (by simp only [Bool.and_eq_true] at h2; obtain ⟨⟨⟨⟨⟨a, b⟩, c⟩, d⟩, e⟩, f⟩ := h2; simp [bne, a, b, c, d, e, f])]
      cases cmdB x.f13 y.f13 <;> cases confB x.f14 y.f14 <;> cases eqL voteB x.f15 y.f15 <;> cases eqL updB x.f16 y.f16 <;> rfl
    · rw [if_pos (by
        refine Classical.byContradiction fun hn => h2 ?_
        simp only [bne, Bool.or_eq_true, Bool.not_eq_true', not_or, Bool.not_eq_false] at hn
        obtain ⟨a, b, c, d, e, f⟩ := hn
        simp only [a, b, c, d, e, f, Bool.and_self])]
      simp only [Bool.not_eq_true] at h2
      rw [h2]; simp
  · rw [if_pos (by
      refine Classical.byContradiction fun hn => h1 ?_
      simp only [bne, Bool.or_eq_true, Bool.not_eq_true', not_or, Bool.not_eq_false] at hn
      obtain ⟨a, b, c, d, e, f, g⟩ := hn
      simp only [a, b, c, d, e, f, g, Bool.and_self])]
    simp only [Bool.not_eq_true] at h1
    rw [h1]; simp

/-! ## which letters may be -/
def cmdP (c : M41) : Bool := (cmds_Check c).getD 1 == 0
theorem cmdP_is (c : M41) : ∃ e, cmds_Check c = some e ∧ cmdP c = (e == 0) := by
  unfold cmdP
  obtain ⟨e, he⟩ : ∃ e, cmds_Check c = some e := by unfold cmds_Check; split <;> (try split) <;> (try split) <;> (try split) <;> exact ⟨_, rfl⟩
  exact ⟨e, he, by rw [he]; rfl⟩
def ballotP (b : Int) : Bool := decide ((IntKind.u64.wrap (b.tdiv 8)) ≥ 1) && (decide ((IntKind.u64.wrap (b.tdiv 8)) < 1152921504606846976) && (decide ((IntKind.i64.wrap (b.tmod 8)) ≥ 1) && decide ((IntKind.i64.wrap (b.tmod 8)) ≤ 5)))
theorem ballotP_is (b : Int) : ballot_Is b = some (ballotP b) := by
  unfold ballot_Is ballot_Is_r2 ballot_master ballotP
  simp only [Option.bind_some, bindIf]
  cases decide ((IntKind.u64.wrap (b.tdiv 8)) ≥ 1) <;> cases decide ((IntKind.u64.wrap (b.tdiv 8)) < 1152921504606846976) <;> rfl
/-- may a vote be, behind the one ahead? -/
def voteP (l : List M156) (i : Nat) (v : M156) : Bool :=
  !(decide (v.f0 < 0) || (decide (v.f0 ≥ 512) || ((if 0 < i then (match l[i - 1]? with | some u => decide (v.f0 ≤ u.f0) | none => false) else false) || (!ballotP v.f1 || !cmdP v.f2))))
def votesP (l : List M156) : Bool := allI (voteP l) 0 l && decide ((l.length : Int) ≤ 512)
theorem votesP_is (l : List M156) (hl : l.length ≤ 1000000) (k : Nat) (hk : l.length < k) : letter_votes k l = some (votesP l) := by
  unfold letter_votes
  rw [scan0 l hl (letter_votes_l13 l) (fun i v => if voteP l i v then none else some false) (fun j i v hv hi => by
    rw [letter_votes_l13, if_pos (lt_true hi), ix_nat, hv]
    simp only [Option.bind_some]
    obtain ⟨e, he, hc⟩ := cmdP_is v.f2
    rw [ballotP_is, he]
    simp only [Option.bind_some]
    have hb : (e != 0) = !cmdP v.f2 := by rw [hc]; rfl
    rw [hb]
    have go : ∀ b : Bool, letter_votes_r14 (letter_votes_l13 l j) (i : Int) (!b) = goS (if b = true then none else some false) (letter_votes_l13 l j ((i + 1 : Nat) : Int)) := by
      intro b
      unfold letter_votes_r14
      rw [next_i64 (by omega)]
      cases b <;> rfl
    refine Eq.trans ?_ (go (voteP l i v))
    unfold voteP
    rw [Bool.not_not]
    by_cases h3 : 0 < i
    · obtain ⟨u, hu⟩ : ∃ u, l[i - 1]? = some u := ⟨_, List.getElem?_eq_getElem (by omega)⟩
      rw [w64 (by omega) (by omega), show (i : Int) - 1 = ((i - 1 : Nat) : Int) by omega, ix_nat, hu, show decide ((i : Int) > 0) = true by simp; omega]
      simp only [Option.bind_some, h3, if_true]
      cases decide (v.f0 < 0) <;> cases decide (v.f0 ≥ 512) <;> cases decide (v.f0 ≤ u.f0) <;> cases ballotP v.f1 <;> cases cmdP v.f2 <;> rfl
    · rw [show decide ((i : Int) > 0) = false by simp; omega]
      simp only [h3, if_false]
      cases decide (v.f0 < 0) <;> cases decide (v.f0 ≥ 512) <;> cases ballotP v.f1 <;> cases cmdP v.f2 <;> rfl) (fun j => by rw [letter_votes_l13, if_neg (by rw [lt_false (Nat.le_refl _)]; decide)]) k hk, first_all]
  unfold votesP letter_votes_r12
  cases allI (voteP l) 0 l <;> rfl
def updP (w : Bool) (u : M96) : Bool := (letter_update u w).getD false
theorem updP_is (u : M96) (w : Bool) : letter_update u w = some (updP w u) := by
  unfold updP
  obtain ⟨b, hb⟩ : ∃ b, letter_update u w = some b := by unfold letter_update; split <;> (try split) <;> exact ⟨_, rfl⟩
  rw [hb]; rfl
theorem has_upd (l : List M96) (w : Bool) (hl : l.length ≤ 1000000) (k : Nat) (hk : l.length < k) : slices_ContainsFunc_api_Update_api_Update k l w = some (!l.all (updP w)) := by
  unfold slices_ContainsFunc_api_Update_api_Update slices_IndexFunc_api_Update_api_Update
  rw [scan0 l hl (slices_IndexFunc_api_Update_api_Update_l4 l w) (fun i u => if updP w u then none else some (i : Int)) (fun j i u hu hi => by
    rw [slices_IndexFunc_api_Update_api_Update_l4, if_pos (lt_true hi), ix_nat, hu]
    simp only [Option.bind_some, letter_updates_1, updP_is]
    rw [next_i64 (by omega)]
    by_cases h : updP w u = true <;> simp [h, goS]) (fun j => by rw [slices_IndexFunc_api_Update_api_Update_l4, if_neg (by rw [lt_false (Nat.le_refl _)]; decide)]) k hk]
  have key : ∀ (l : List M96) (i : Nat), (l.all (updP w) = true ∧ firstS (fun i u => if updP w u then none else some (i : Int)) i l = none) ∨ (l.all (updP w) = false ∧ ∃ m : Nat, firstS (fun i u => if updP w u then none else some (i : Int)) i l = some (m : Int)) := by
    intro l
    induction l with
    | nil => intro i; exact .inl ⟨rfl, rfl⟩
    | cons u l ih =>
      intro i
      rw [List.all_cons, firstS]
      cases h : updP w u with
      | false => exact .inr ⟨rfl, i, by simp⟩
      | true => simpa using ih (i + 1)
  rcases key l 0 with ⟨h1, h2⟩ | ⟨h1, m, h2⟩
  · rw [h1, h2]; rfl
  · rw [h1, h2]
    show (some (m : Int)).bind _ = _
    simp
def updsP (x : M48) : Bool := !(bif x.f0 == 17 then (((x.f16.length : Int) != 1) || decide ((x.f16.length : Int) > 4)) else decide ((x.f16.length : Int) > 4)) && x.f16.all (updP (x.f0 == 17))
theorem updsP_is (x : M48) (hl : x.f16.length ≤ 1000000) (k : Nat) (hk : x.f16.length < k) : letter_updates k x = some (updsP x) := by
  unfold letter_updates updsP
  rw [has_upd _ _ hl k hk]
  cases (bif x.f0 == 17 then (((x.f16.length : Int) != 1) || decide ((x.f16.length : Int) > 4)) else decide ((x.f16.length : Int) > 4)) <;> cases x.f16.all (updP (x.f0 == 17)) <;> rfl
/-- is a part, by its number, as it is to be? -/
def fineP (x : M48) : Nat → Bool
  | 0 => decide (x.f12 ≥ 0) && decide (x.f12 ≤ 255)
  | 2 => cmdP x.f13
  | 3 => decide (rightP x.f14)
  | 4 => votesP x.f15
  | 5 => updsP x
  | 6 => decide ((x.f17.length : Int) ≤ if (x.f0 == 14) = true then 1024 else 2048)
  | 7 => decide (x.f3 ≥ 0) && decide (x.f3 < 4)
  | 8 => decide (x.f10 ≥ 0) && decide (x.f10 ≤ 512)
  | 9 => decide (x.f4 ≥ 1)
  | 10 => ballotP x.f5
  | _ => true
theorem fine_l (x : M48) (h : Short x) (h1 : 0 ≤ x.f14.f1) (ts : List Nat) (ht : ∀ t ∈ ts, t < 15) (hl : ts.length ≤ 100) : letter_Check_l14 3000 ts x 3000 0 = some (if ts.all (fineP x) then .inr () else .inl 4) := by
  have hv := h.v
  have hu := h.u
  rw [scan0 ts (by omega) (letter_Check_l14 3000 ts x) (fun i t => if fineP x t then none else some 4) (fun j i t hx hi => by
    rw [letter_Check_l14, if_pos (lt_true hi), ix_nat, hx]
    have ht' := ht t (List.mem_of_getElem? hx)
    obtain ⟨e, he, hc⟩ := cmdP_is x.f13
    have go : ∀ b : Bool, letter_Check_r15 (letter_Check_l14 3000 ts x j) (i : Int) (!b) = goS (if b = true then none else some (4 : Int)) (letter_Check_l14 3000 ts x j ((i + 1 : Nat) : Int)) := by
      intro b
      unfold letter_Check_r15
      rw [next_i64 (by omega)]
      cases b <;> rfl
    have go1 := go true
    match t, ht' with
    | 0, _ => exact go (fineP x 0)
    | 1, _ => exact go1
    | 2, _ => show ((letter_other_6 x).bind _).bind _ = _; unfold letter_other_6; rw [he]; simp only [Option.bind_some]; rw [← hc]; exact go (fineP x 2)
    | 3, _ => show ((letter_other_8 3000 x).bind _).bind _ = _; unfold letter_other_8; rw [RightC_is _ h1 3000 (by omega)]; exact go (fineP x 3)
    | 4, _ => show ((letter_other_10 3000 x).bind _).bind _ = _; unfold letter_other_10; rw [votesP_is _ (by omega) 3000 (by omega)]; exact go (fineP x 4)
    | 5, _ => show ((letter_updates 3000 x).bind _).bind _ = _; rw [updsP_is x (by omega) 3000 (by omega)]; exact go (fineP x 5)
    | 6, _ =>
      show ((letter_other_11 x).bind _).bind _ = _
      unfold letter_other_11 letter_other_11_r2 letter_room
      simp only [bindIf, Option.bind_some]
      exact go (fineP x 6)
    | 7, _ => exact go (fineP x 7)
    | 8, _ => exact go (fineP x 8)
    | 9, _ => exact go (fineP x 9)
    | 10, _ => show ((letter_of_7 x).bind _).bind _ = _; unfold letter_of_7; rw [ballotP_is]; exact go (fineP x 10)
    | 11, _ => exact go1
    | 12, _ => exact go1
    | 13, _ => exact go1
    | 14, _ => exact go1) (fun j => by rw [letter_Check_l14, if_neg (by rw [lt_false (Nat.le_refl _)]; decide)]) 3000 (by omega)]
  have hc := first_all (fun _ t => fineP x t) (4 : Int) ts 0
  rw [hc, allI_const]
  cases ts.all (fineP x) <;> rfl
def tagsK (k : Int) : List Nat := (letter_parts k).getD []
def knownP (k : Int) : Bool := decide (k ≥ 1) && decide (k ≤ 20)
def chk (x : M48) : Int := if knownP x.f0 = true then (if (addrP x.f1 && (addrP x.f2 && sameB x (bareP (bitsK x.f0) x))) = true then (if (tagsK x.f0).all (fineP x) then 0 else 4) else 4) else 1
theorem kinds_all : ∀ k : Nat, k < 21 → (ix gtab161 (k : Int)).isSome = true ∧ (letter_parts (k : Int)).isSome = true ∧ (tagsK (k : Int)).all (fun t => Nat.blt t 15) = true ∧ Nat.ble (tagsK (k : Int)).length 100 = true := by decide +kernel
theorem chk_is (x : M48) (h : Short x) (h1 : 0 ≤ x.f14.f1) : letter_Check 3000 x = some (chk x) := by
  unfold letter_Check letter_known chk
  simp only [Option.bind_some]
  show (if (!knownP x.f0) = true then some 1 else _) = _
  cases hk : knownP x.f0 with
  | false => rfl
  | true =>
    unfold knownP at hk
    simp only [Bool.and_eq_true, decide_eq_true_eq] at hk
    obtain ⟨k, hkk⟩ : ∃ k : Nat, x.f0 = (k : Int) := ⟨x.f0.toNat, by omega⟩
    obtain ⟨q1, q2, q3, q4⟩ := kinds_all k (by omega)
    obtain ⟨t, ht⟩ := Option.isSome_iff_exists.1 q1
    obtain ⟨ts, hts⟩ := Option.isSome_iff_exists.1 q2
    have htk : tagsK x.f0 = ts := by unfold tagsK; rw [hkk, hts]; rfl
    rw [← hkk] at ht hts q3 q4
    rw [htk] at q3 q4
    rw [bare_is x ht]
    simp only [Option.bind_some, addr_is, sameB_is x _ h]
    unfold letter_Check_r16
    rw [hts]
    simp only [Option.bind_some]
    rw [fine_l x h h1 ts (fun t ht => by have := List.all_eq_true.1 q3 t ht; exact Nat.le_of_ble_eq_true this) (Nat.le_of_ble_eq_true q4), htk]
    cases addrP x.f1 <;> cases addrP x.f2 <;> cases sameB x (bareP (bitsK x.f0) x) <;> cases ts.all (fineP x) <;> rfl
end Go.Proofs.YteiinkhbgpldeaaGreatDoor.Sx
