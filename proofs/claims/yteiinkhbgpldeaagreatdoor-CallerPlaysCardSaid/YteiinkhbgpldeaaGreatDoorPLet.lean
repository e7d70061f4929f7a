/- The plain law of CallerPlays. Conditions: those ahead of each colon. -/
import Derived.Test.YteiinkhbgpldeaaGreatDoorWCallerPlays
import Derived.Test.YteiinkhbgpldeaaGreatDoorPScan
set_option linter.unusedSimpArgs false
set_option linter.unusedVariables false
namespace Go.Proofs.YteiinkhbgpldeaaGreatDoor.Sx
open Go
theorem Qni (xs : List Int) (v : Int) (hl : xs.length ≤ 4294967296) : ∀ j n : Nat, xs.length - n < j → catenaryref04_Has_l4 xs v j n = some (if v ∈ xs.drop n then .inl true else .inr ()) := by
  intro j
  induction j with
  | zero => intro n h; exact absurd h (by omega)
  | succ j ih =>
    intro n h
    rw [catenaryref04_Has_l4]
    rcases place xs n with ⟨x, hx, hd⟩ | ⟨hx, hd⟩
    · have hlt := (List.getElem?_eq_some_iff.1 hx).1
      rw [if_pos hd, Q8, hx, Option.bind_some, Qe5 hx]
      by_cases hv : x = v
      · subst hv; simp
      · have hv' : ¬ v = x := fun h => hv h.symm
        rw [if_neg (by simpa using hv), Qac (by omega), ih (n + 1) (by omega)]
        simp [hv']
    · rw [if_neg (by rw [hd]; decide), List.drop_eq_nil_of_le hx]; simp
theorem Qm2 (xs : List Int) (v : Int) (hl : xs.length ≤ 4294967296) (k : Nat) (hk : xs.length < k) : QcX k xs v = some (decide (v ∈ xs)) := by
  have h := Qni xs v hl k 0 (by omega)
  rw [show ((0 : Nat) : Int) = 0 from rfl, List.drop_zero] at h
  unfold QcX Qc5
  rw [h]
  by_cases hv : v ∈ xs <;> simp [hv]
theorem Qmw (xs : List Int) (v : Int) (hl : xs.length ≤ 4294967296) : ∀ j n : Nat, xs.length - n < j → v ∉ xs.take n → slices_Index_int_int_l4 xs v j n = some (if v ∈ xs then .inl (xs.idxOf v : Int) else .inr ()) := by
  intro j
  induction j with
  | zero => intro n h; exact absurd h (by omega)
  | succ j ih =>
    intro n h hn
    rw [slices_Index_int_int_l4]
    rcases place xs n with ⟨x, hx, hd⟩ | ⟨hx, hd⟩
    · have hlt := (List.getElem?_eq_some_iff.1 hx).1
      rw [if_pos hd, Q8, hx, Option.bind_some]
      by_cases hv : v = x
      · subst hv
        have h1 : xs.idxOf v = n := by
          conv => lhs; rw [← List.take_append_drop n xs]
          rw [List.idxOf_append, if_neg hn, Qe5 hx, List.idxOf_cons_self]
          simp; omega
        rw [if_pos (by simp), if_pos (List.mem_of_getElem? hx), h1]
      · rw [if_neg (by simpa using hv), Qac (by omega), ih (n + 1) (by omega)]
        rw [take_succ' hx]
        simpa using ⟨hn, hv⟩
    · rw [List.take_of_length_le hx] at hn
      rw [if_neg (by rw [hd]; decide), if_neg hn]
theorem QlZ (xs : List Int) (v : Int) (hl : xs.length ≤ 4294967296) (k : Nat) (hk : xs.length < k) : Qbp k xs v = some (if v ∈ xs then (xs.idxOf v : Int) else -1) := by
  have h := Qmw xs v hl k 0 (by omega) (by simp)
  rw [show ((0 : Nat) : Int) = 0 from rfl] at h
  unfold Qbp QbR
  rw [h]
  by_cases hv : v ∈ xs <;> simp [hv]
theorem Qj7 (xs : List Int) (v : Int) (hl : xs.length ≤ 4294967296) (k : Nat) (hk : xs.length < k) : QaM k xs v = some (decide (v ∈ xs)) := by
  unfold QaM
  rw [QlZ xs v hl k hk]
  by_cases hv : v ∈ xs <;> simp [hv]
def goodL (xs : List Int) : Prop := (∀ x ∈ xs, 1 ≤ x ∧ x ≤ 24) ∧ xs.Nodup
instance (xs : List Int) : Decidable (goodL xs) := inferInstanceAs (Decidable (_ ∧ _))
theorem Qhs {xs : List Int} {x : Int} : goodL (xs ++ [x]) ↔ goodL xs ∧ (1 ≤ x ∧ x ≤ 24) ∧ x ∉ xs := by
  unfold goodL
  constructor
  · rintro ⟨h1, h2⟩
    rw [List.nodup_append] at h2
    refine ⟨⟨fun y hy => h1 y (by simp [hy]), h2.1⟩, h1 x (by simp), fun hx => h2.2.2 x hx x (by simp) rfl⟩
  · rintro ⟨⟨h1, h2⟩, h3, h4⟩
    refine ⟨fun y hy => ?_, ?_⟩
    · rcases List.mem_append.1 hy with hy | hy
      · exact h1 y hy
      · rw [List.mem_singleton.1 hy]; exact h3
    · rw [List.nodup_append]
      exact ⟨h2, by simp, fun a ha b hb => by rw [List.mem_singleton.1 hb]; rintro rfl; exact h4 ha⟩
theorem QjJ {xs : List Int} (n : Nat) (h : goodL xs) : goodL (xs.take n) :=
  ⟨fun x hx => h.1 x (List.mem_of_mem_take hx), h.2.sublist (List.take_sublist n xs)⟩
theorem QkQ (xs : List Int) (hl : xs.length ≤ 1000) (k : Nat) (hk : xs.length < k) : ∀ j n : Nat, xs.length - n < j → goodL (xs.take n) → conf_unlike_l11 k xs j n = some (if goodL xs then .inr () else .inl false) := by
  intro j
  induction j with
  | zero => intro n h; exact absurd h (by omega)
  | succ j ih =>
    intro n h hn
    rw [conf_unlike_l11]
    rcases place xs n with ⟨x, hx, hd⟩ | ⟨hx, hd⟩
    · have hlt := (List.getElem?_eq_some_iff.1 hx).1
      have hno : ¬ goodL (xs.take (n + 1)) → ¬ goodL xs := fun h1 h2 => h1 (QjJ _ h2)
      rw [take_succ' hx, Qhs] at hno
      rw [if_pos hd, Q8, hx, Option.bind_some]
      unfold QiI
      by_cases h1 : 1 ≤ x ∧ x ≤ 24
      · have e1 : ((decide (x ≥ 1)) && (decide (x ≤ 24))) = true := by simp; omega
        rw [e1, Option.bind_some, QkX xs n (by omega), if_neg (by decide), Option.bind_some, Qj7 (xs.take n) x (by simp; omega) k (by simp; omega)]
        by_cases h2 : x ∈ xs.take n
        · have := hno (fun hh => hh.2.2 h2)
          simp [h2, this, QcD]
        · simp only [h2, decide_false, Option.bind_some, QcD, Bool.false_eq_true, if_false]
          rw [Qac (by omega)]
          exact ih (n + 1) (by omega) (by rw [take_succ' hx, Qhs]; exact ⟨hn, h1, h2⟩)
      · have e1 : ((decide (x ≥ 1)) && (decide (x ≤ 24))) = false := by
          rw [Bool.eq_false_iff]; intro hc; simp at hc; exact h1 hc
        have := hno (fun hh => h1 hh.2.1)
        rw [e1]
        simp [this, QcD]
    · rw [List.take_of_length_le hx] at hn
      rw [if_neg (by rw [hd]; decide), if_pos hn]
theorem QiZ (xs : List Int) (hl : xs.length ≤ 1000) (k : Nat) (hk : xs.length < k) : Qe7 k xs = some (decide (goodL xs)) := by
  have h := QkQ xs hl k hk k 0 (by omega) ⟨by simp, by simp⟩
  rw [show ((0 : Nat) : Int) = 0 from rfl] at h
  unfold Qe7 Qe6
  rw [h]
  by_cases hg : goodL xs <;> simp [hg]
theorem QkP (xs : List Int) (hl : xs.length ≤ 1000) (k : Nat) (hk : xs.length < k) : ∀ j n : Nat, xs.length - n < j → goodL (xs.take n) → catenaryref09_Unlike_l11 k xs j n = some (if goodL xs then .inr () else .inl false) := by
  intro j
  induction j with
  | zero => intro n h; exact absurd h (by omega)
  | succ j ih =>
    intro n h hn
    rw [catenaryref09_Unlike_l11]
    rcases place xs n with ⟨x, hx, hd⟩ | ⟨hx, hd⟩
    · have hlt := (List.getElem?_eq_some_iff.1 hx).1
      have hno : ¬ goodL (xs.take (n + 1)) → ¬ goodL xs := fun h1 h2 => h1 (QjJ _ h2)
      rw [take_succ' hx, Qhs] at hno
      rw [if_pos hd, Q8, hx]
      simp only [Option.bind_some]
      by_cases h1 : x < 1
      · have := hno (fun hh => by omega)
        simp [h1, this, QQ]
      · by_cases h1' : x > 24
        · have := hno (fun hh => by omega)
          simp [h1', this, QQ]
        · rw [if_neg (by simpa using h1), if_neg (by simpa using h1'), QkX xs n (by omega), Option.bind_some, Qm2 (xs.take n) x (by simp; omega) k (by simp; omega)]
          by_cases h2 : x ∈ xs.take n
          · have := hno (fun hh => hh.2.2 h2)
            simp [h2, this, QQ]
          · simp only [h2, decide_false, Option.bind_some, QQ, Bool.false_eq_true, if_false]
            rw [Qac (by omega)]
            exact ih (n + 1) (by omega) (by rw [take_succ' hx, Qhs]; exact ⟨hn, by omega, h2⟩)
    · rw [List.take_of_length_le hx] at hn
      rw [if_neg (by rw [hd]; decide), if_pos hn]
theorem QiY (xs : List Int) (hl : xs.length ≤ 1000) (k : Nat) (hk : xs.length < k) : QaJ k xs = some (decide (goodL xs)) := by
  have h := QkP xs hl k hk k 0 (by omega) ⟨by simp, by simp⟩
  rw [show ((0 : Nat) : Int) = 0 from rfl] at h
  unfold QaJ QbC
  rw [h]
  by_cases hg : goodL xs <;> simp [hg]
def standsP (c : M44) : List Int := if c.f4 = 0 then c.f2 else c.f2 ++ [c.f4]
def rightP (c : M44) : Prop := (0 ≤ c.f0 ∧ c.f0 ≤ 3 ∧ 1 ≤ c.f1) ∧ (1 ≤ c.f2.length ∧ c.f2.length ≤ 5 ∧ ¬ (c.f3 = true ∧ (c.f2.length = 1 ∨ c.f4 ≠ 0))) ∧ goodL (standsP c)
instance (c : M44) : Decidable (rightP c) := inferInstanceAs (Decidable (_ ∧ _))
theorem QhA (c : M44) : (standsP c).length ≤ c.f2.length + 1 := by
  unfold standsP; split <;> simp
theorem QhQ (c : M44) (hl : c.f2.length ≤ 1000) : Qdi c = some (standsP c) := by
  have hc : Q0 c.f2 = some c.f2 := by unfold Q0; rw [Qdp (by simp; omega)]; rfl
  unfold Qdi standsP Qeb
  by_cases h : c.f4 = 0
  · simp [h, hc]
  · simp only [beq_iff_eq, h, if_false, hc, Option.bind_some]
    rw [Qdp (by simp; omega)]; rfl
theorem QjS (c : M44) (hl : c.f2.length ≤ 1000) : QaK c = some (standsP c) := by
  unfold QaK standsP Qb3
  rw [Qdp (by simp; omega), Option.bind_some, List.nil_append]
  by_cases h : c.f4 = 0
  · simp [h]
  · rw [Qdp (by simp; omega)]
    simp [h]
theorem QgY (c : M44) (_h1 : 0 ≤ c.f1) (k : Nat) (hk : 10 ≤ k) : QdB k c = some (decide (rightP c)) := by
  unfold QdB
  by_cases ha : 0 ≤ c.f0 ∧ c.f0 ≤ 3 ∧ 1 ≤ c.f1
  · rw [if_neg (by simp; omega)]
    by_cases hb : 1 ≤ c.f2.length ∧ c.f2.length ≤ 5 ∧ ¬ (c.f3 = true ∧ (c.f2.length = 1 ∨ c.f4 ≠ 0))
    · have hb' := hb
      have hsl := QhA c
      rw [if_neg, QhQ c (by omega), Option.bind_some, QiZ _ (by omega) k (by omega)]
      · simp [rightP, ha, hb]
      · intro hc
        simp only [Bool.or_eq_true, decide_eq_true_eq, Bool.and_eq_true, bne_iff_ne, ne_eq] at hc
        rcases hc with hc | hc | hc
        · omega
        · omega
        · exact hb.2.2 ⟨hc.1, hc.2.imp (by omega) id⟩
    · rw [if_pos]
      · simp only [rightP, hb, and_false, false_and, decide_false]
      · simp only [Bool.or_eq_true, decide_eq_true_eq, Bool.and_eq_true, bne_iff_ne, ne_eq]
        by_cases h5 : 1 ≤ c.f2.length
        · by_cases h6 : c.f2.length ≤ 5
          · right; right
            have h7 : c.f3 = true ∧ (c.f2.length = 1 ∨ c.f4 ≠ 0) := Classical.byContradiction fun h => hb ⟨h5, h6, h⟩
            exact ⟨h7.1, h7.2.imp (by omega) id⟩
          · right; left; omega
        · left; omega
  · rw [if_pos (by simp; omega)]
    simp only [rightP, ha, false_and, decide_false]
theorem QgX (c : M44) (h1 : 0 ≤ c.f1) (k : Nat) (hk : 10 ≤ k) : QV k c = some (decide (rightP c)) := by
  unfold QV
  by_cases ha : 0 ≤ c.f0 ∧ c.f0 ≤ 3 ∧ 1 ≤ c.f1
  · by_cases hl : 1 ≤ c.f2.length ∧ c.f2.length ≤ 5
    · rw [if_neg (by simp only [Bool.or_eq_true, decide_eq_true_eq, beq_iff_eq]; omega)]
      by_cases hb : ¬ (c.f3 = true ∧ (c.f2.length = 1 ∨ c.f4 ≠ 0))
      · have hsl := QhA c
        rw [if_neg, QjS c (by omega), Option.bind_some, QiY _ (by omega) k (by omega)]
        · simp [rightP, ha, hb, hl]
        · intro hc
          simp only [Bool.or_eq_true, Bool.and_eq_true, bne_iff_ne, ne_eq, beq_iff_eq] at hc
          exact hb ⟨hc.1, hc.2.imp (by omega) id⟩
      · rw [if_pos]
        · simp only [rightP, hb, and_false, false_and, decide_false]
        · have h7 : c.f3 = true ∧ (c.f2.length = 1 ∨ c.f4 ≠ 0) := Classical.byContradiction hb
          simp only [Bool.or_eq_true, Bool.and_eq_true, bne_iff_ne, ne_eq, beq_iff_eq]
          exact ⟨h7.1, h7.2.imp (by omega) id⟩
    · rw [if_pos (by simp only [Bool.or_eq_true, decide_eq_true_eq, beq_iff_eq]; omega)]
      have : ¬ (1 ≤ c.f2.length ∧ c.f2.length ≤ 5 ∧ ¬ (c.f3 = true ∧ (c.f2.length = 1 ∨ c.f4 ≠ 0))) := fun h => hl ⟨h.1, h.2.1⟩
      simp only [rightP, this, and_false, false_and, decide_false]
  · rw [if_pos (by simp only [Bool.or_eq_true, decide_eq_true_eq, beq_iff_eq]; omega)]
    simp only [rightP, ha, false_and, decide_false]
def addrP (a : Int) : Bool := (decide (a ≥ 1) && decide (a ≤ 24)) || ((decide (a > 100) && decide (a ≤ 105)) || (decide (a > 200) && decide (a ≤ 206)))
theorem Qmv (a : Int) : Qdh a = some (addrP a) := by
  unfold Qdh Qea Qdr Qf5 Qf6 addrP
  simp only [Option.bind_some]
  cases (decide (a ≥ 1) && decide (a ≤ 24)) <;> cases (decide (a > 100) && decide (a ≤ 105)) <;> rfl
def hB (b m : Int) : Bool := bAnd .i64 b m != 0
def zC : M41 := M41.mk 0 0 0 0
def zF : M44 := M44.mk 0 0 [] false 0
def bareP (b : Int) (x : M48) : M48 :=
  M48.mk x.f0 x.f1 x.f2 (if hB b 1 = true then x.f3 else 0) (if hB b 2 = true then x.f4 else 0) (if hB b 4 = true then x.f5 else 0) (if hB b 64 = true then x.f6 else 0) (if hB b 8 = true then x.f7 else 0)
    (if hB b 16 = true then x.f8 else 0) (if hB b 512 = true then x.f9 else 0) (if hB b 32 = true then x.f10 else 0) (if hB b 256 = true then x.f11 else 0) (if hB b 128 = true then x.f12 else 0)
    (if hB b 1024 = true then x.f13 else zC) (if hB b 2048 = true then x.f14 else zF) (if hB b 4096 = true then x.f15 else []) (if hB b 8192 = true then x.f16 else []) (if hB b 16384 = true then x.f17 else [])
def bitsK (k : Int) : Int := match ix QhF k with
  | some t => bOr .i64 (bOr .i64 (bOr .i64 (bOr .i64 (bOr .i64 (bOr .i64 0 t.f1.f0) t.f1.f1) t.f1.f2) t.f1.f3) t.f1.f4) t.f1.f5
  | none => 0
theorem Qmr (x : M48) {t : M161} (ht : ix QhF x.f0 = some t) : Qf2 x = some (bareP (bitsK x.f0) x) := by
  unfold Qf2
  have hb : bitsK x.f0 = bOr .i64 (bOr .i64 (bOr .i64 (bOr .i64 (bOr .i64 (bOr .i64 0 t.f1.f0) t.f1.f1) t.f1.f2) t.f1.f3) t.f1.f4) t.f1.f5 := by unfold bitsK; rw [ht]
  rw [ht, Option.bind_some, Option.bind_some, Option.bind_some, ← hb]
  generalize bitsK x.f0 = b
  unfold bareP hB
  simp only [Qe3, Qe2, Qe1, Qe0, QeZ, QeY, QeX, QeW, QeV, QeU, QeT, QeS, QeR, QeQ, QeP,
    Qf1, Qf0, QfZ, QfY, QfX, QfW, QfV, QfU, QfT, Qfy, Qfx, Qfw, Qfv, Qfu, Qft, Option.bind_some, bindIf]
  by_cases h1 : (bAnd .i64 b 1024 != 0) = true <;> by_cases h2 : (bAnd .i64 b 2048 != 0) = true <;> simp only [h1, h2, if_true, Bool.false_eq_true, if_false] <;> rfl
def cmdB (a b : M41) : Bool := (a.f0 == b.f0) && ((a.f1 == b.f1) && ((a.f2 == b.f2) && ((a.f3 == b.f3) && true)))
def voteB (a b : M156) : Bool := (a.f0 == b.f0) && ((a.f1 == b.f1) && ((cmdB a.f2 b.f2) && true))
def updB (a b : M96) : Bool := (a.f0 == b.f0) && ((a.f1 == b.f1) && ((a.f2 == b.f2) && ((a.f3 == b.f3) && ((a.f4 == b.f4) && ((a.f5 == b.f5) && beqS a.f6 b.f6)))))
def confB (a b : M44) : Bool := (a.f0 == b.f0) && ((a.f1 == b.f1) && ((a.f3 == b.f3) && ((a.f4 == b.f4) && eqL (fun x y : Int => x == y) a.f2 b.f2)))
def sameB (x y : M48) : Bool :=
  ((x.f0 == y.f0) && (x.f1 == y.f1) && (x.f2 == y.f2) && (x.f3 == y.f3) && (x.f10 == y.f10) && (x.f11 == y.f11) && (x.f12 == y.f12)) &&
  ((x.f4 == y.f4) && (x.f5 == y.f5) && (x.f6 == y.f6) && (x.f7 == y.f7) && (x.f8 == y.f8) && (x.f9 == y.f9)) &&
  (cmdB x.f13 y.f13 && confB x.f14 y.f14) && (eqL voteB x.f15 y.f15 && (eqL updB x.f16 y.f16 && beqS x.f17 y.f17))
theorem QmV (xs ys : List Int) (hl : xs.length ≤ 1000000) (k : Nat) (hk : xs.length < k) : Qbq k xs ys = some (eqL (fun x y : Int => x == y) xs ys) := by
  unfold Qbq
  by_cases h : xs.length = ys.length
  · rw [if_neg (by simp [h]), Qi9 (fun x y : Int => x == y) xs ys hl h (slices_Equal_int_int_l11 xs ys) (fun j i x y hx hy hi => by
      rw [slices_Equal_int_int_l11, if_pos (Qdq hi), Q8, Q8, hx, hy]
      simp only [Option.bind_some, Qby]
      rw [Qac (by omega)]
      cases hp : (x == y) <;> simp [bne, hp]) (fun j => by rw [slices_Equal_int_int_l11, if_neg (by rw [QbU (Nat.le_refl _)]; decide)]) k hk]
    cases eqL (fun x y : Int => x == y) xs ys <;> rfl
  · rw [if_pos (by simp; omega)]
    cases he : eqL (fun x y : Int => x == y) xs ys
    · rfl
    · exact absurd (QgH he) h
theorem QlT (a b : M44) (hl : a.f2.length ≤ 1000000) (k : Nat) (hk : a.f2.length < k) : Qhu k a b = some (confB a b) := by
  unfold Qhu QgK confB
  rw [QmV _ _ hl k hk]
  simp only [Option.bind_some, bindIf]
  cases (a.f0 == b.f0) <;> cases (a.f1 == b.f1) <;> cases (a.f3 == b.f3) <;> cases (a.f4 == b.f4) <;> rfl
theorem QmT (xs ys : List M156) (hl : xs.length ≤ 1000000) (k : Nat) (hk : xs.length < k) : Q3 k xs ys = some (eqL voteB xs ys) := by
  unfold Q3
  by_cases h : xs.length = ys.length
  · rw [if_neg (by simp [h]), Qi9 voteB xs ys hl h (slices_Equal_api_Vote_api_Vote_l11 xs ys) (fun j i x y hx hy hi => by
      rw [slices_Equal_api_Vote_api_Vote_l11, if_pos (Qdq hi), Q8, Q8, hx, hy]
      simp only [Option.bind_some, Qad]
      rw [Qac (by omega)]
      show (if (!voteB x y) = true then _ else _) = _
      cases voteB x y <;> rfl) (fun j => by rw [slices_Equal_api_Vote_api_Vote_l11, if_neg (by rw [QbU (Nat.le_refl _)]; decide)]) k hk]
    cases eqL voteB xs ys <;> rfl
  · rw [if_pos (by simp; omega)]
    cases he : eqL voteB xs ys
    · rfl
    · exact absurd (QgH he) h
theorem Qmc (a b : M96) : QcV a b = some (updB a b) := by
  unfold QcV QcZ Qfd updB
  simp only [Option.bind_some, bindIf]
  cases (a.f0 == b.f0) <;> cases (a.f1 == b.f1) <;> cases (a.f2 == b.f2) <;> cases (a.f3 == b.f3) <;> cases (a.f4 == b.f4) <;> cases (a.f5 == b.f5) <;> rfl
theorem QmU (xs ys : List M96) (hl : xs.length ≤ 1000000) (k : Nat) (hk : xs.length < k) : Qm k xs ys = some (eqL updB xs ys) := by
  unfold Qm
  by_cases h : xs.length = ys.length
  · rw [if_neg (by simp [h]), Qi9 updB xs ys hl h (slices_EqualFunc_api_Update_api_Update_api_Update_api_Update_l4 xs ys) (fun j i x y hx hy hi => by
      rw [slices_EqualFunc_api_Update_api_Update_api_Update_api_Update_l4, if_pos (Qdq hi), Q8, Q8, hx, hy]
      simp only [Option.bind_some, Qmc]
      rw [Qac (by omega)]
      cases updB x y <;> rfl) (fun j => by rw [slices_EqualFunc_api_Update_api_Update_api_Update_api_Update_l4, if_neg (by rw [QbU (Nat.le_refl _)]; decide)]) k hk]
    cases eqL updB xs ys <;> rfl
  · rw [if_pos (by simp; omega)]
    cases he : eqL updB xs ys
    · rfl
    · exact absurd (QgH he) h
structure Short (x : M48) : Prop where
  c : x.f14.f2.length ≤ 2900
  v : x.f15.length ≤ 2900
  u : x.f16.length ≤ 2900
theorem QlJ (x y : M48) (h : Short x) : Qf3 3000 x y = some (sameB x y) := by
  have hc := h.c
  have hv := h.v
  have hu := h.u
  unfold Qf3 Qfz QfA Qfd
  rw [QlT _ _ (by omega) 3000 (by omega), QmT _ _ (by omega) 3000 (by omega), QmU _ _ (by omega) 3000 (by omega)]
  simp only [Option.bind_some, bindIf]
  unfold sameB
  show (if _ then _ else if _ then _ else if ((if (!cmdB x.f13 y.f13) = true then true else !confB x.f14 y.f14) : Bool) = true then _ else _) = _
  by_cases h1 : ((x.f0 == y.f0) && (x.f1 == y.f1) && (x.f2 == y.f2) && (x.f3 == y.f3) && (x.f10 == y.f10) && (x.f11 == y.f11) && (x.f12 == y.f12)) = true
  · rw [h1]
    rw [if_neg (by simp only [Bool.and_eq_true] at h1; obtain ⟨⟨⟨⟨⟨⟨a, b⟩, c⟩, d⟩, e⟩, f⟩, g⟩ := h1; simp [bne, a, b, c, d, e, f, g])]
    by_cases h2 : ((x.f4 == y.f4) && (x.f5 == y.f5) && (x.f6 == y.f6) && (x.f7 == y.f7) && (x.f8 == y.f8) && (x.f9 == y.f9)) = true
    · rw [h2]
      rw [if_neg (by simp only [Bool.and_eq_true] at h2; obtain ⟨⟨⟨⟨⟨a, b⟩, c⟩, d⟩, e⟩, f⟩ := h2; simp [bne, a, b, c, d, e, f])]
      cases cmdB x.f13 y.f13 <;> cases confB x.f14 y.f14 <;> cases eqL voteB x.f15 y.f15 <;> cases eqL updB x.f16 y.f16 <;> rfl
    · rw [if_pos (by
        refine Classical.byContradiction fun hn => h2 ?_
        simp only [bne, Bool.or_eq_true, Bool.not_eq_true', not_or, Bool.not_eq_false] at hn
        obtain ⟨a, b, c, d, e, f⟩ := hn
        simp only [a, b, c, d, e, f, Bool.and_self])]
      simp only [Bool.not_eq_true] at h2
      rw [h2]; simp
  · rw [if_pos (by
      refine Classical.byContradiction fun hn => h1 ?_
      simp only [bne, Bool.or_eq_true, Bool.not_eq_true', not_or, Bool.not_eq_false] at hn
      obtain ⟨a, b, c, d, e, f, g⟩ := hn
      simp only [a, b, c, d, e, f, g, Bool.and_self])]
    simp only [Bool.not_eq_true] at h1
    rw [h1]; simp
def cmdP (c : M41) : Bool := (QcW c).getD 1 == 0
theorem Qlq (c : M41) : ∃ e, QcW c = some e ∧ cmdP c = (e == 0) := by
  unfold cmdP
  obtain ⟨e, he⟩ : ∃ e, QcW c = some e := by unfold QcW; split <;> (try split) <;> (try split) <;> (try split) <;> exact ⟨_, rfl⟩
  exact ⟨e, he, by rw [he]; rfl⟩
def ballotP (b : Int) : Bool := decide ((IntKind.u64.wrap (b.tdiv 8)) ≥ 1) && (decide ((IntKind.u64.wrap (b.tdiv 8)) < 1152921504606846976) && (decide ((IntKind.i64.wrap (b.tmod 8)) ≥ 1) && decide ((IntKind.i64.wrap (b.tmod 8)) ≤ 5)))
theorem Qi7 (b : Int) : QfJ b = some (ballotP b) := by
  unfold QfJ QgV Qgc ballotP
  simp only [Option.bind_some, bindIf]
  cases decide ((IntKind.u64.wrap (b.tdiv 8)) ≥ 1) <;> cases decide ((IntKind.u64.wrap (b.tdiv 8)) < 1152921504606846976) <;> rfl
def voteP (l : List M156) (i : Nat) (v : M156) : Bool :=
  !(decide (v.f0 < 0) || (decide (v.f0 ≥ 512) || ((if 0 < i then (match l[i - 1]? with | some u => decide (v.f0 ≤ u.f0) | none => false) else false) || (!ballotP v.f1 || !cmdP v.f2))))
def votesP (l : List M156) : Bool := allI (voteP l) 0 l && decide ((l.length : Int) ≤ 512)
theorem QkM (l : List M156) (hl : l.length ≤ 1000000) (k : Nat) (hk : l.length < k) : Qfj k l = some (votesP l) := by
  unfold Qfj
  rw [QjT l hl (letter_votes_l13 l) (fun i v => if voteP l i v then none else some false) (fun j i v hv hi => by
    rw [letter_votes_l13, if_pos (Qdq hi), Q8, hv]
    simp only [Option.bind_some]
    obtain ⟨e, he, hc⟩ := Qlq v.f2
    rw [Qi7, he]
    simp only [Option.bind_some]
    have hb : (e != 0) = !cmdP v.f2 := by rw [hc]; rfl
    rw [hb]
    have go : ∀ b : Bool, Qdn (letter_votes_l13 l j) (i : Int) (!b) = goS (if b = true then none else some false) (letter_votes_l13 l j ((i + 1 : Nat) : Int)) := by
      intro b
      unfold Qdn
      rw [Qac (by omega)]
      cases b <;> rfl
    refine Eq.trans ?_ (go (voteP l i v))
    unfold voteP
    rw [Bool.not_not]
    by_cases h3 : 0 < i
    · obtain ⟨u, hu⟩ : ∃ u, l[i - 1]? = some u := ⟨_, List.getElem?_eq_getElem (by omega)⟩
      rw [w64 (by omega) (by omega), show (i : Int) - 1 = ((i - 1 : Nat) : Int) by omega, Q8, hu, show decide ((i : Int) > 0) = true by simp; omega]
      simp only [Option.bind_some, h3, if_true]
      cases decide (v.f0 < 0) <;> cases decide (v.f0 ≥ 512) <;> cases decide (v.f0 ≤ u.f0) <;> cases ballotP v.f1 <;> cases cmdP v.f2 <;> rfl
    · rw [show decide ((i : Int) > 0) = false by simp; omega]
      simp only [h3, if_false]
      cases decide (v.f0 < 0) <;> cases decide (v.f0 ≥ 512) <;> cases ballotP v.f1 <;> cases cmdP v.f2 <;> rfl) (fun j => by rw [letter_votes_l13, if_neg (by rw [QbU (Nat.le_refl _)]; decide)]) k hk, Qe4]
  unfold votesP Qeq
  cases allI (voteP l) 0 l <;> rfl
def updP (w : Bool) (u : M96) : Bool := (Qbc u w).getD false
theorem Qmb (u : M96) (w : Bool) : Qbc u w = some (updP w u) := by
  unfold updP
  obtain ⟨b, hb⟩ : ∃ b, Qbc u w = some b := by unfold Qbc; split <;> (try split) <;> exact ⟨_, rfl⟩
  rw [hb]; rfl
theorem Qmh (l : List M96) (w : Bool) (hl : l.length ≤ 1000000) (k : Nat) (hk : l.length < k) : QA k l w = some (!l.all (updP w)) := by
  unfold QA QY
  rw [QjT l hl (slices_IndexFunc_api_Update_api_Update_l4 l w) (fun i u => if updP w u then none else some (i : Int)) (fun j i u hu hi => by
    rw [slices_IndexFunc_api_Update_api_Update_l4, if_pos (Qdq hi), Q8, hu]
    simp only [Option.bind_some, Qer, Qmb]
    rw [Qac (by omega)]
    by_cases h : updP w u = true <;> simp [h, goS]) (fun j => by rw [slices_IndexFunc_api_Update_api_Update_l4, if_neg (by rw [QbU (Nat.le_refl _)]; decide)]) k hk]
  have key : ∀ (l : List M96) (i : Nat), (l.all (updP w) = true ∧ firstS (fun i u => if updP w u then none else some (i : Int)) i l = none) ∨ (l.all (updP w) = false ∧ ∃ m : Nat, firstS (fun i u => if updP w u then none else some (i : Int)) i l = some (m : Int)) := by
    intro l
    induction l with
    | nil => intro i; exact .inl ⟨rfl, rfl⟩
    | cons u l ih =>
      intro i
      rw [List.all_cons, firstS]
      cases h : updP w u with
      | false => exact .inr ⟨rfl, i, by simp⟩
      | true => simpa using ih (i + 1)
  rcases key l 0 with ⟨h1, h2⟩ | ⟨h1, m, h2⟩
  · rw [h1, h2]; rfl
  · rw [h1, h2]
    show (some (m : Int)).bind _ = _
    simp
def updsP (x : M48) : Bool := !(bif x.f0 == 17 then (((x.f16.length : Int) != 1) || decide ((x.f16.length : Int) > 4)) else decide ((x.f16.length : Int) > 4)) && x.f16.all (updP (x.f0 == 17))
theorem QlE (x : M48) (hl : x.f16.length ≤ 1000000) (k : Nat) (hk : x.f16.length < k) : Qdg k x = some (updsP x) := by
  unfold Qdg updsP
  rw [Qmh _ _ hl k hk]
  cases (bif x.f0 == 17 then (((x.f16.length : Int) != 1) || decide ((x.f16.length : Int) > 4)) else decide ((x.f16.length : Int) > 4)) <;> cases x.f16.all (updP (x.f0 == 17)) <;> rfl
def fineP (x : M48) : Nat → Bool
  | 0 => decide (x.f12 ≥ 0) && decide (x.f12 ≤ 255)
  | 2 => cmdP x.f13
  | 3 => decide (rightP x.f14)
  | 4 => votesP x.f15
  | 5 => updsP x
  | 6 => decide ((x.f17.length : Int) ≤ if (x.f0 == 14) = true then 1024 else 2048)
  | 7 => decide (x.f3 ≥ 0) && decide (x.f3 < 4)
  | 8 => decide (x.f10 ≥ 0) && decide (x.f10 ≤ 512)
  | 9 => decide (x.f4 ≥ 1)
  | 10 => ballotP x.f5
  | _ => true
theorem QmO (x : M48) (h : Short x) (h1 : 0 ≤ x.f14.f1) (ts : List Nat) (ht : ∀ t ∈ ts, t < 15) (hl : ts.length ≤ 100) : letter_Check_l14 3000 ts x 3000 0 = some (if ts.all (fineP x) then .inr () else .inl 4) := by
  have hv := h.v
  have hu := h.u
  rw [QjT ts (by omega) (letter_Check_l14 3000 ts x) (fun i t => if fineP x t then none else some 4) (fun j i t hx hi => by
    rw [letter_Check_l14, if_pos (Qdq hi), Q8, hx]
    have ht' := ht t (List.mem_of_getElem? hx)
    obtain ⟨e, he, hc⟩ := Qlq x.f13
    have go : ∀ b : Bool, Qdo (letter_Check_l14 3000 ts x j) (i : Int) (!b) = goS (if b = true then none else some (4 : Int)) (letter_Check_l14 3000 ts x j ((i + 1 : Nat) : Int)) := by
      intro b
      unfold Qdo
      rw [Qac (by omega)]
      cases b <;> rfl
    have go1 := go true
    match t, ht' with
    | 0, _ => exact go (fineP x 0)
    | 1, _ => exact go1
    | 2, _ => show ((Qed x).bind _).bind _ = _; unfold Qed; rw [he]; simp only [Option.bind_some]; rw [← hc]; exact go (fineP x 2)
    | 3, _ => show ((Qec 3000 x).bind _).bind _ = _; unfold Qec; rw [QgY _ h1 3000 (by omega)]; exact go (fineP x 3)
    | 4, _ => show ((QdK 3000 x).bind _).bind _ = _; unfold QdK; rw [QkM _ (by omega) 3000 (by omega)]; exact go (fineP x 4)
    | 5, _ => show ((Qdg 3000 x).bind _).bind _ = _; rw [QlE x (by omega) 3000 (by omega)]; exact go (fineP x 5)
    | 6, _ =>
      show ((QdJ x).bind _).bind _ = _
      unfold QdJ QdI Qhb
      simp only [bindIf, Option.bind_some]
      exact go (fineP x 6)
    | 7, _ => exact go (fineP x 7)
    | 8, _ => exact go (fineP x 8)
    | 9, _ => exact go (fineP x 9)
    | 10, _ => show ((QfS x).bind _).bind _ = _; unfold QfS; rw [Qi7]; exact go (fineP x 10)
    | 11, _ => exact go1
    | 12, _ => exact go1
    | 13, _ => exact go1
    | 14, _ => exact go1) (fun j => by rw [letter_Check_l14, if_neg (by rw [QbU (Nat.le_refl _)]; decide)]) 3000 (by omega)]
  have hc := Qe4 (fun _ t => fineP x t) (4 : Int) ts 0
  rw [hc, Qg2]
  cases ts.all (fineP x) <;> rfl
def tagsK (k : Int) : List Nat := (Qfk k).getD []
def knownP (k : Int) : Bool := decide (k ≥ 1) && decide (k ≤ 20)
def chk (x : M48) : Int := if knownP x.f0 = true then (if (addrP x.f1 && (addrP x.f2 && sameB x (bareP (bitsK x.f0) x))) = true then (if (tagsK x.f0).all (fineP x) then 0 else 4) else 4) else 1
theorem Qk4 : ∀ k : Nat, k < 21 → (ix QhF (k : Int)).isSome = true ∧ (Qfk (k : Int)).isSome = true ∧ (tagsK (k : Int)).all (fun t => Nat.blt t 15) = true ∧ Nat.ble (tagsK (k : Int)).length 100 = true := by decide +kernel
theorem Qlr (x : M48) (h : Short x) (h1 : 0 ≤ x.f14.f1) : Qdz 3000 x = some (chk x) := by
  unfold Qdz QgF chk
  simp only [Option.bind_some]
  show (if (!knownP x.f0) = true then some 1 else _) = _
  cases hk : knownP x.f0 with
  | false => rfl
  | true =>
    unfold knownP at hk
    simp only [Bool.and_eq_true, decide_eq_true_eq] at hk
    obtain ⟨k, hkk⟩ : ∃ k : Nat, x.f0 = (k : Int) := ⟨x.f0.toNat, by omega⟩
    obtain ⟨q1, q2, q3, q4⟩ := Qk4 k (by omega)
    obtain ⟨t, ht⟩ := Option.isSome_iff_exists.1 q1
    obtain ⟨ts, hts⟩ := Option.isSome_iff_exists.1 q2
    have htk : tagsK x.f0 = ts := by unfold tagsK; rw [hkk, hts]; rfl
    rw [← hkk] at ht hts q3 q4
    rw [htk] at q3 q4
    rw [Qmr x ht]
    simp only [Option.bind_some, Qmv, QlJ x _ h]
    unfold Qes
    rw [hts]
    simp only [Option.bind_some]
    rw [QmO x h h1 ts (fun t ht => by have := List.all_eq_true.1 q3 t ht; exact Nat.le_of_ble_eq_true this) (Nat.le_of_ble_eq_true q4), htk]
    cases addrP x.f1 <;> cases addrP x.f2 <;> cases sameB x (bareP (bitsK x.f0) x) <;> cases ts.all (fineP x) <;> rfl
theorem Qjn {p q : Prop} [Decidable p] [Decidable q] (h : p ↔ ¬ q) : decide p = !decide q := by by_cases hq : q <;> simp [h, hq]
theorem Qkw (a : Int) : Qaz a = some (addrP a) := by
  unfold Qaz QbB Qbf Qc2 Qc3 addrP
  simp only [Option.bind_some]
  have h1 : decide (a > 100) = decide (a ≥ 101) := by rw [decide_eq_decide]; omega
  have h2 : decide (a > 200) = decide (a ≥ 201) := by rw [decide_eq_decide]; omega
  rw [h1, h2]
  cases (decide (a ≥ 1) && decide (a ≤ 24)) <;> cases (decide (a ≥ 101) && decide (a ≤ 105)) <;> rfl
theorem QhM (b : Int) : Qbb b = some (ballotP b) := by
  unfold Qbb Qew Qdt Qc4 ballotP
  simp only [Option.bind_some, bindIf]
  generalize IntKind.u64.wrap (b.tdiv 8) = q
  generalize IntKind.i64.wrap (b.tmod 8) = m
  have h1 : decide (q < 1) = !decide (q ≥ 1) := Qjn (by omega)
  have h2 : decide (q > 1152921504606846975) = !decide (q < 1152921504606846976) := Qjn (by omega)
  rw [h1, h2]
  cases decide (q ≥ 1) <;> cases decide (q < 1152921504606846976) <;> cases decide (m ≥ 1) <;> cases decide (m ≤ 5) <;> rfl
theorem QjF (c : M41) (h : 0 ≤ c.f2) : ∃ e, Qas c = some e ∧ cmdP c = (e == 0) := by
  unfold Qas cmdP QcW
  have h1 : decide (c.f0 > 4) = decide (c.f0 ≥ 5) := by simp; omega
  have h2 : decide (c.f1 > 3) = decide (c.f1 ≥ 4) := by simp; omega
  have h3 : (c.f2 == 0) = decide (c.f2 < 1) := by rw [Bool.eq_iff_iff]; simp; omega
  rw [h1, h2, h3]
  by_cases a : (decide (c.f0 < 0) || decide (c.f0 ≥ 5)) = true
  · rw [if_pos a, if_pos a]; exact ⟨_, rfl, rfl⟩
  · rw [if_neg a, if_neg a]
    by_cases b : (c.f0 == 0) = true
    · rw [if_pos b, b]
      by_cases d : ((c.f1 != 0) || ((c.f2 != 0) || (c.f3 != 0))) = true
      · rw [if_pos d, if_pos (by
          simp only [bne, Bool.or_eq_true, Bool.not_eq_true'] at d
          rcases d with d | d | d <;> simp [d, ← h3])]
        exact ⟨_, rfl, rfl⟩
      · have d' := d
        simp only [bne, Bool.or_eq_true, Bool.not_eq_true', not_or, Bool.not_eq_false] at d'
        rw [if_neg d, if_neg (by rw [← h3, d'.1, d'.2.1, d'.2.2]; decide)]
        exact ⟨_, rfl, rfl⟩
    · simp only [Bool.not_eq_true] at b
      rw [b]
      simp only [Bool.false_and, Bool.false_eq_true, if_false]
      split <;> exact ⟨_, rfl, rfl⟩
theorem Qj1 (xs ys : List Int) (hl : xs.length ≤ 1000000) (k : Nat) (hk : xs.length < k) : Qz k xs ys = some (eqL (fun x y : Int => x == y) xs ys) := by
  unfold Qz
  by_cases h : xs.length = ys.length
  · rw [if_neg (by simp [h]), Qi9 (fun x y : Int => x == y) xs ys hl h (catenaryref01_Same_l11 xs ys) (fun j i x y hx hy hi => by
      rw [catenaryref01_Same_l11, if_pos (Qdq hi), Q8, Q8, hx, hy]
      simp only [Option.bind_some, Qcn]
      rw [Qac (by omega)]
      cases hp : (x == y) <;> simp [bne, hp]) (fun j => by rw [catenaryref01_Same_l11, if_neg (by rw [QbU (Nat.le_refl _)]; decide)]) k hk]
    cases eqL (fun x y : Int => x == y) xs ys <;> rfl
  · rw [if_pos (by simp; omega)]
    cases he : eqL (fun x y : Int => x == y) xs ys
    · rfl
    · exact absurd (QgH he) h
theorem QlR (xs ys : List Int) (hl : xs.length ≤ 1000000) (k : Nat) (hk : xs.length < k) : Qcw k xs ys = some (eqL (fun x y : Int => x == y) xs ys) := by
  unfold Qcw
  by_cases h : xs.length = ys.length
  · rw [if_neg (by simp [h]), Qi9 (fun x y : Int => x == y) xs ys hl h (catenaryref04_Same_l11 xs ys) (fun j i x y hx hy hi => by
      rw [catenaryref04_Same_l11, if_pos (Qdq hi), Q8, Q8, hx, hy]
      simp only [Option.bind_some, Qcm]
      rw [Qac (by omega)]
      cases hp : (x == y) <;> simp [bne, hp]) (fun j => by rw [catenaryref04_Same_l11, if_neg (by rw [QbU (Nat.le_refl _)]; decide)]) k hk]
    cases eqL (fun x y : Int => x == y) xs ys <;> rfl
  · rw [if_pos (by simp; omega)]
    cases he : eqL (fun x y : Int => x == y) xs ys
    · rfl
    · exact absurd (QgH he) h
theorem Qkj (a b : M44) (hl : a.f2.length ≤ 1000000) (k : Nat) (hk : a.f2.length < k) : Qbg k a b = some (confB a b) := by
  unfold Qbg QcN confB
  rw [QlR _ _ hl k hk]
  simp only [Option.bind_some, bindIf]
  cases (a.f0 == b.f0) <;> cases (a.f1 == b.f1) <;> cases (a.f3 == b.f3) <;> cases (a.f4 == b.f4) <;> rfl
theorem Qmk (xs ys : List M156) (hl : xs.length ≤ 1000000) (k : Nat) (hk : xs.length < k) : QaO k xs ys = some (eqL voteB xs ys) := by
  unfold QaO
  by_cases h : xs.length = ys.length
  · rw [if_neg (by simp [h]), Qi9 voteB xs ys hl h (catenaryref10_SameVotes_l11 xs ys) (fun j i x y hx hy hi => by
      rw [catenaryref10_SameVotes_l11, if_pos (Qdq hi), Q8, Q8, hx, hy]
      simp only [Option.bind_some, QaY]
      rw [Qac (by omega)]
      show (if (!voteB x y) = true then _ else _) = _
      cases voteB x y <;> rfl) (fun j => by rw [catenaryref10_SameVotes_l11, if_neg (by rw [QbU (Nat.le_refl _)]; decide)]) k hk]
    cases eqL voteB xs ys <;> rfl
  · rw [if_pos (by simp; omega)]
    cases he : eqL voteB xs ys
    · rfl
    · exact absurd (QgH he) h
def updR (a b : M96) : Bool := (a.f0 == b.f0) && ((a.f1 == b.f1) && ((a.f2 == b.f2) && ((a.f3 == b.f3) && ((a.f4 == b.f4) && ((a.f5 == b.f5) && eqL (fun x y : Int => x == y) a.f6 b.f6)))))
theorem Qma (a b : M96) (hl : a.f6.length ≤ 1000000) (k : Nat) (hk : a.f6.length < k) : QaD k a b = some (updR a b) := by
  unfold QaD QaZ updR
  rw [Qj1 _ _ hl k hk]
  simp only [Option.bind_some, bindIf]
  cases (a.f0 == b.f0) <;> cases (a.f1 == b.f1) <;> cases (a.f2 == b.f2) <;> cases (a.f3 == b.f3) <;> cases (a.f4 == b.f4) <;> cases (a.f5 == b.f5) <;> rfl
theorem Qml (xs ys : List M96) (hl : xs.length ≤ 1000000) (k : Nat) (hk : xs.length < k) (hd : ∀ u ∈ xs, u.f6.length < k) (hk2 : k ≤ 1000000) : Qaw k xs ys = some (eqL updR xs ys) := by
  unfold Qaw
  by_cases h : xs.length = ys.length
  · rw [if_neg (by simp [h]), Qi9 updR xs ys hl h (catenaryref10_SameUpdates_l11 k xs ys) (fun j i x y hx hy hi => by
      have hu := hd x (List.mem_of_getElem? hx)
      rw [catenaryref10_SameUpdates_l11, if_pos (Qdq hi), Q8, Q8, hx, hy]
      simp only [Option.bind_some, Qma x y (by omega) k hu, QaH]
      rw [Qac (by omega)]
      cases updR x y <;> rfl) (fun j => by rw [catenaryref10_SameUpdates_l11, if_neg (by rw [QbU (Nat.le_refl _)]; decide)]) k hk]
    cases eqL updR xs ys <;> rfl
  · rw [if_pos (by simp; omega)]
    cases he : eqL updR xs ys
    · rfl
    · exact absurd (QgH he) h
def sameR (x y : M48) : Bool :=
  ((x.f0 == y.f0) && (x.f1 == y.f1) && (x.f2 == y.f2) && (x.f3 == y.f3) && (x.f10 == y.f10) && (x.f11 == y.f11) && (x.f12 == y.f12)) &&
  ((x.f4 == y.f4) && (x.f5 == y.f5) && (x.f6 == y.f6) && (x.f7 == y.f7) && (x.f8 == y.f8) && (x.f9 == y.f9)) &&
  (cmdB x.f13 y.f13 && confB x.f14 y.f14) && (eqL voteB x.f15 y.f15 && (eqL updR x.f16 y.f16 && eqL (fun a b : Int => a == b) x.f17 y.f17))
structure ShortR (x : M48) : Prop extends Short x where
  d : x.f17.length ≤ 2900
  ud : ∀ u ∈ x.f16, u.f6.length ≤ 2900
theorem QjO (c : M41) : cmdB c c = true := by simp [cmdB]
theorem Qkp (v : M156) : voteB v v = true := by simp [voteB, QjO]
theorem QgI (xs : List Int) : eqL (fun a b : Int => a == b) xs xs = true := Qfl (fun x => by simp) xs
theorem Qjv (u : M96) : updR u u = true := by simp [updR, QgI]
theorem QkO (u : M96) : updB u u = true := by simp [updB, beqS]
theorem Qi5 (c : M44) : confB c c = true := by simp [confB, QgI]
theorem Qkq (x : M48) : sameR x x = true := by
  simp [sameR, QjO, Qi5, Qfl Qkp, Qfl Qjv, QgI]
theorem QlV (xs : List Int) : beqS xs [] = xs.isEmpty := by cases xs <;> rfl
theorem Qlw (xs : List Int) : beqS xs xs = true := by simp [beqS]
theorem Qks (b : Int) (x : M48) : sameR x (bareP b x) = sameB x (bareP b x) := by
  unfold sameR sameB bareP
  have h1 : eqL updR x.f16 (if hB b 8192 = true then x.f16 else []) = eqL updB x.f16 (if hB b 8192 = true then x.f16 else []) := by
    split
    · rw [Qfl Qjv, Qfl QkO]
    · rw [Qj0, Qj0]
  have h2 : eqL (fun a b : Int => a == b) x.f17 (if hB b 16384 = true then x.f17 else []) = beqS x.f17 (if hB b 16384 = true then x.f17 else []) := by
    split
    · rw [QgI, Qlw]
    · rw [Qj0, QlV]
  simp only [h1, h2]
def copyP (x l : M48) (p : Int) : M48 :=
  if (p == 99) = true then { x with f3 := l.f3 } else if (p == 101) = true then { x with f4 := l.f4 } else if (p == 98) = true then { x with f5 := l.f5 } else if (p == 115) = true then { x with f7 := l.f7 } else if (p == 100) = true then { x with f8 := l.f8 }
  else if (p == 108) = true then { x with f10 := l.f10 } else if (p == 110) = true then { x with f6 := l.f6 } else if (p == 111) = true then { x with f12 := l.f12 } else if (p == 107) = true then { x with f11 := l.f11 } else if (p == 118) = true then { x with f9 := l.f9 }
  else if (p == 109) = true then { x with f13 := l.f13 } else if (p == 102) = true then { x with f14 := l.f14 } else if (p == 116) = true then { x with f15 := l.f15 } else if (p == 117) = true then { x with f16 := l.f16 } else { x with f17 := l.f17 }
theorem Qlp (x l : M48) (p : Int) : Qbt x l p = some (copyP x l p) := by
  unfold Qbt QbY copyP
  by_cases a0 : (p == 99) = true
  · simp only [a0, if_true]; rfl
  simp only [a0, if_false, Bool.false_eq_true]
  by_cases a1 : (p == 101) = true
  · simp only [a1, if_true]; rfl
  simp only [a1, if_false, Bool.false_eq_true]
  by_cases a2 : (p == 98) = true
  · simp only [a2, if_true]; rfl
  simp only [a2, if_false, Bool.false_eq_true]
  by_cases a3 : (p == 115) = true
  · simp only [a3, if_true]; rfl
  simp only [a3, if_false, Bool.false_eq_true]
  by_cases a4 : (p == 100) = true
  · simp only [a4, if_true]; rfl
  simp only [a4, if_false, Bool.false_eq_true]
  by_cases a5 : (p == 108) = true
  · simp only [a5, if_true]; rfl
  simp only [a5, if_false, Bool.false_eq_true]
  by_cases a6 : (p == 110) = true
  · simp only [a6, if_true]; rfl
  simp only [a6, if_false, Bool.false_eq_true]
  by_cases a7 : (p == 111) = true
  · simp only [a7, if_true]; rfl
  simp only [a7, if_false, Bool.false_eq_true]
  by_cases a8 : (p == 107) = true
  · simp only [a8, if_true]; rfl
  simp only [a8, if_false, Bool.false_eq_true]
  by_cases a9 : (p == 118) = true
  · simp only [a9, if_true]; rfl
  simp only [a9, if_false, Bool.false_eq_true]
  by_cases a10 : (p == 109) = true
  · simp only [a10, if_true]; rfl
  simp only [a10, if_false, Bool.false_eq_true]
  by_cases a11 : (p == 102) = true
  · simp only [a11, if_true]; rfl
  simp only [a11, if_false, Bool.false_eq_true]
  by_cases a12 : (p == 116) = true
  · simp only [a12, if_true]; rfl
  simp only [a12, if_false, Bool.false_eq_true]
  by_cases a13 : (p == 117) = true
  · simp only [a13, if_true]; rfl
  simp only [a13, if_false, Bool.false_eq_true]
  rfl
def tupL (x : M48) : Int × Int × Int × Int × Int × Int × Int × Int × Int × Int × Int × Int × Int × Int × Int × Int × Int × Int × Int × (List Int) × Bool × Int × (List M156) × (List M96) × (List Int) :=
  (x.f0, x.f1, x.f2, x.f3, x.f4, x.f5, x.f6, x.f7, x.f8, x.f9, x.f10, x.f11, x.f12, x.f13.f0, x.f13.f1, x.f13.f2, x.f13.f3, x.f14.f0, x.f14.f1, x.f14.f2, x.f14.f3, x.f14.f4, x.f15, x.f16, x.f17)
theorem Qms (ps : List Int) (hl : ps.length ≤ 100) (l : M48) : ∀ (j i : Nat) (x : M48), ps.length - i < j → i ≤ ps.length →
    QM ps l j i x.f0 x.f1 x.f2 x.f3 x.f4 x.f5 x.f6 x.f7 x.f8 x.f9 x.f10 x.f11 x.f12 x.f13.f0 x.f13.f1 x.f13.f2 x.f13.f3 x.f14.f0 x.f14.f1 x.f14.f2 x.f14.f3 x.f14.f4 x.f15 x.f16 x.f17 = some (tupL ((ps.drop i).foldl (fun x p => copyP x l (chr p)) x)) := by
  intro j
  induction j with
  | zero => intro i x h; exact absurd h (by omega)
  | succ j ih =>
    intro i x h hi
    rw [QM]
    rcases place ps i with ⟨p, hp, hd⟩ | ⟨hx, hd⟩
    · have hpl := (List.getElem?_eq_some_iff.1 hp).1
      rw [if_pos hd, Q8, hp, Option.bind_some]
      rw [Qlp, Qe5 hp, List.foldl_cons]
      show Qa9 (QM ps l j) (i : Int) _ _ _ _ _ _ _ _ _ _ _ _ _ _ _ _ _ _ _ _ _ _ _ _ _ = _
      unfold Qa9
      rw [Qac (by omega)]
      exact ih (i + 1) (copyP x l (chr p)) (by omega) (by omega)
    · rw [if_neg (by rw [hd]; decide)]
      have : i = ps.length := by omega
      subst this
      rw [List.drop_length]; rfl
def partsR (k : Int) : List Int := (Qa0 k).getD []
theorem QjG : ∀ k : Nat, k < 21 → (Qa0 (k : Int)).isSome = true ∧ Nat.ble (partsR (k : Int)).length 100 = true := by decide +kernel
theorem QkH (x : M48) (k : Nat) (hk : 1 ≤ k ∧ k ≤ 20) (hx : x.f0 = (k : Int)) : (partsR x.f0).foldl (fun y p => copyP y x (chr p)) (M48.mk x.f0 x.f1 x.f2 0 0 0 0 0 0 0 0 0 0 (M41.mk 0 0 0 0) (M44.mk 0 0 [] false 0) [] [] []) = bareP (bitsK x.f0) x := by
  obtain ⟨f0, f1, f2, f3, f4, f5, f6, f7, f8, f9, f10, f11, f12, f13, f14, f15, f16, f17⟩ := x
  simp only at hx
  subst hx
  have h : k = 1 ∨ k = 2 ∨ k = 3 ∨ k = 4 ∨ k = 5 ∨ k = 6 ∨ k = 7 ∨ k = 8 ∨ k = 9 ∨ k = 10 ∨ k = 11 ∨ k = 12 ∨ k = 13 ∨ k = 14 ∨ k = 15 ∨ k = 16 ∨ k = 17 ∨ k = 18 ∨ k = 19 ∨ k = 20 := by omega
  rcases h with rfl | rfl | rfl | rfl | rfl | rfl | rfl | rfl | rfl | rfl | rfl | rfl | rfl | rfl | rfl | rfl | rfl | rfl | rfl | rfl <;> (show _ = _) <;> kernel_rfl
theorem QlX (x : M48) (k : Nat) (hk : 1 ≤ k ∧ k ≤ 20) (hx : x.f0 = (k : Int)) : Qcv 3000 x = some (bareP (bitsK x.f0) x) := by
  obtain ⟨q1, q2⟩ := QjG k (by omega)
  obtain ⟨ps, hps⟩ := Option.isSome_iff_exists.1 q1
  have hp : partsR x.f0 = ps := by unfold partsR; rw [hx, hps]; rfl
  rw [← hx] at hps q2
  rw [hp] at q2
  unfold Qcv
  rw [hps, Option.bind_some]
  have h := Qms ps (Nat.le_of_ble_eq_true q2) x 3000 0 (M48.mk x.f0 x.f1 x.f2 0 0 0 0 0 0 0 0 0 0 (M41.mk 0 0 0 0) (M44.mk 0 0 [] false 0) [] [] []) (by have := Nat.le_of_ble_eq_true q2; omega) (by omega)
  rw [show ((0 : Nat) : Int) = 0 from rfl, List.drop_zero, ← hp, QkH x k hk hx, hp] at h
  rw [h, Option.bind_some]
  rfl
structure WfL (x : M48) : Prop where
  cf : 0 ≤ x.f14.f1
  cm : 0 ≤ x.f13.f2
  vt : ∀ v ∈ x.f15, 0 ≤ v.f2.f2
  up : ∀ u ∈ x.f16, 0 ≤ u.f0 ∧ 0 ≤ u.f2 ∧ 0 ≤ u.f5
def tagR (p : Int) : Nat := if (p == 99) = true then 7 else if (p == 101) = true then 9 else if (p == 98) = true then 10 else if (p == 108) = true then 8 else if (p == 111) = true then 0 else if (p == 109) = true then 2 else if (p == 102) = true then 3 else if (p == 116) = true then 4 else if (p == 117) = true then 5 else if (p == 97) = true then 6 else if (p == 107) = true then 1 else if (p == 115) = true then 11 else if (p == 100) = true then 12 else if (p == 110) = true then 13 else 14
theorem QlG : ∀ k : Nat, k < 21 → (partsR (k : Int)).map (fun p => tagR (chr p)) = tagsK (k : Int) := by decide +kernel
theorem QkL (x : M48) (hw : WfL x) (hl : x.f15.length ≤ 2900) : catenaryref10_fine_l17 x 3000 0 = some (sumS (if allI (voteP x.f15) 0 x.f15 = true then none else some false)) := by
  rw [QjT x.f15 (by omega) (catenaryref10_fine_l17 x) (fun i v => if voteP x.f15 i v then none else some false) (fun j i v hv hi => by
    rw [catenaryref10_fine_l17, if_pos (Qdq hi), Q8, hv]
    simp only [Option.bind_some]
    obtain ⟨e, he, hc⟩ := QjF v.f2 (hw.vt v (List.mem_of_getElem? hv))
    rw [QhM, he]
    simp only [Option.bind_some]
    have hb : (e != 0) = !cmdP v.f2 := by rw [hc]; rfl
    rw [hb]
    have go : ∀ b : Bool, Qa8 (catenaryref10_fine_l17 x j) (i : Int) (!b) = goS (if b = true then none else some false) (catenaryref10_fine_l17 x j ((i + 1 : Nat) : Int)) := by
      intro b
      unfold Qa8
      rw [Qac (by omega)]
      cases b <;> rfl
    refine Eq.trans ?_ (go (voteP x.f15 i v))
    unfold voteP
    rw [Bool.not_not]
    by_cases h3 : 0 < i
    · obtain ⟨u, hu⟩ : ∃ u, x.f15[i - 1]? = some u := ⟨_, List.getElem?_eq_getElem (by omega)⟩
      rw [w64 (by omega) (by omega), show (i : Int) - 1 = ((i - 1 : Nat) : Int) by omega, Q8, hu, show decide ((i : Int) > 0) = true by simp; omega]
      simp only [Option.bind_some, h3, if_true]
      cases decide (v.f0 < 0) <;> cases decide (v.f0 ≥ 512) <;> cases decide (v.f0 ≤ u.f0) <;> cases ballotP v.f1 <;> cases cmdP v.f2 <;> rfl
    · rw [show decide ((i : Int) > 0) = false by simp; omega]
      simp only [h3, if_false]
      cases decide (v.f0 < 0) <;> cases decide (v.f0 ≥ 512) <;> cases ballotP v.f1 <;> cases cmdP v.f2 <;> rfl) (fun j => by rw [catenaryref10_fine_l17, if_neg (by rw [QbU (Nat.le_refl _)]; decide)]) 3000 (by omega), Qe4]
theorem QlF (u : M96) (w : Bool) (h : 0 ≤ u.f0 ∧ 0 ≤ u.f2 ∧ 0 ≤ u.f5) : Qbs u w = some (updP w u) := by
  unfold Qbs updP Qbc
  have h1 : (u.f2 == 0) = decide (u.f2 < 1) := by rw [Bool.eq_iff_iff]; simp; omega
  have h2 : decide (u.f5 > 0) = (u.f5 != 0) := by rw [Bool.eq_iff_iff]; simp; omega
  have h3 : decide (u.f0 > 0) = !(u.f0 == 0) := by rw [Bool.eq_iff_iff]; simp; omega
  have h4 : decide ((u.f6.length : Int) > 2048) = !decide ((u.f6.length : Int) ≤ 2048) := Qjn (by omega)
  rw [h1, h2, h3, h4]
  by_cases a : u.f3 = 2
  · have a2 : (u.f3 == 2) = true := by simp [a]
    have a3 : (u.f3 == 3) = false := by simp [a]
    have n2 : (u.f3 != 2) = false := by simp [a]
    have n3 : (u.f3 != 3) = true := by simp [a]
    rw [a2, n2, n3]
    cases w <;> cases (u.f0 == 0) <;> cases decide (u.f1 < 1) <;> cases decide (u.f1 > 6) <;> cases decide (u.f2 < 1) <;> cases (u.f5 != 0) <;> cases decide ((u.f6.length : Int) ≤ 2048) <;> rfl
  · have a2 : (u.f3 == 2) = false := by simp [a]
    have n2 : (u.f3 != 2) = true := by simp [a]
    rw [a2, n2]
    cases w <;> cases (u.f0 == 0) <;> cases decide (u.f1 < 1) <;> cases decide (u.f1 > 6) <;> cases decide (u.f2 < 1) <;> cases (u.f5 != 0) <;> cases (u.f3 != 3) <;> cases decide ((u.f6.length : Int) ≤ 2048) <;> rfl
theorem QlD (x : M48) (hw : WfL x) (hl : x.f16.length ≤ 2900) : catenaryref10_fine_l23 x 3000 0 = some (sumS (if x.f16.all (updP (x.f0 == 17)) = true then none else some false)) := by
  rw [QjT x.f16 (by omega) (catenaryref10_fine_l23 x) (fun _ u => if updP (x.f0 == 17) u then none else some false) (fun j i u hu hi => by
    rw [catenaryref10_fine_l23, if_pos (Qdq hi), Q8, hu]
    simp only [Option.bind_some, QlF u _ (hw.up u (List.mem_of_getElem? hu)), Qcl]
    rw [Qac (by omega)]
    by_cases h : updP (x.f0 == 17) u = true <;> simp [h, goS]) (fun j => by rw [catenaryref10_fine_l23, if_neg (by rw [QbU (Nat.le_refl _)]; decide)]) 3000 (by omega),
    Qe4 (fun _ u => updP (x.f0 == 17) u) false x.f16 0, Qg2]
theorem QkN (x : M48) : (if x.f16.all (updP (x.f0 == 17)) = true then Qa7 x else some false) = some (updsP x) := by
  unfold updsP Qa7
  have h1 : decide ((x.f16.length : Int) > 4) = !decide ((x.f16.length : Int) ≤ 4) := Qjn (by omega)
  rw [h1]
  simp only [bne]
  cases x.f16.all (updP (x.f0 == 17)) <;> cases decide ((x.f16.length : Int) ≤ 4) <;> cases (x.f0 == 17) <;> cases ((x.f16.length : Int) == 1) <;> rfl
theorem QlP (x : M48) (hw : WfL x) (h : Short x) (p : Int) : Qcu 3000 x p = some (fineP x (tagR p)) := by
  have hv := h.v
  have hu := h.u
  unfold Qcu tagR
  obtain ⟨e, he, hc⟩ := QjF x.f13 hw.cm
  rw [QkL x hw hv, QlD x hw hu, QhM, he, QgX _ hw.cf 3000 (by omega)]
  by_cases a0 : (p == 99) = true
  · rw [if_pos a0, if_pos a0]; rfl
  rw [if_neg a0, if_neg a0]
  by_cases a1 : (p == 101) = true
  · rw [if_pos a1, if_pos a1]; show some (decide (x.f4 > 0)) = some (decide (x.f4 ≥ 1)); congr 1
  rw [if_neg a1, if_neg a1]
  by_cases a2 : (p == 98) = true
  · rw [if_pos a2, if_pos a2]; rfl
  rw [if_neg a2, if_neg a2]
  by_cases a3 : (p == 108) = true
  · rw [if_pos a3, if_pos a3]; rfl
  rw [if_neg a3, if_neg a3]
  by_cases a4 : (p == 111) = true
  · rw [if_pos a4, if_pos a4]; rfl
  rw [if_neg a4, if_neg a4]
  by_cases a5 : (p == 109) = true
  · rw [if_pos a5, if_pos a5, Option.bind_some, ← hc]; rfl
  rw [if_neg a5, if_neg a5]
  by_cases a6 : (p == 102) = true
  · rw [if_pos a6, if_pos a6]; rfl
  rw [if_neg a6, if_neg a6]
  by_cases a7 : (p == 116) = true
  · rw [if_pos a7, if_pos a7]
    show Option.bind _ _ = some (votesP x.f15)
    unfold votesP
    cases allI (voteP x.f15) 0 x.f15 <;> rfl
  rw [if_neg a7, if_neg a7]
  by_cases a8 : (p == 117) = true
  · rw [if_pos a8, if_pos a8]
    refine Eq.trans ?_ (QkN x)
    cases x.f16.all (updP (x.f0 == 17)) <;> rfl
  rw [if_neg a8, if_neg a8]
  by_cases a9 : (p == 97) = true
  · rw [if_pos a9, if_pos a9]
    show (if (x.f0 == 14) = true then _ else _) = some (decide ((x.f17.length : Int) ≤ if (x.f0 == 14) = true then 1024 else 2048))
    by_cases h14 : (x.f0 == 14) = true
    · rw [if_pos h14, if_pos h14]
    · rw [if_neg h14, if_neg h14]
  rw [if_neg a9, if_neg a9]
  repeat' (first | rfl | split)
end Go.Proofs.YteiinkhbgpldeaaGreatDoor.Sx
