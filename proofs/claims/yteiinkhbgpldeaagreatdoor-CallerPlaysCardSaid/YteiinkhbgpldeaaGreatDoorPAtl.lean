/- The plain law of CallerPlays. Conditions: those ahead of each colon. -/
import Derived.Test.YteiinkhbgpldeaaGreatDoorPScan
import Derived.Test.YteiinkhbgpldeaaGreatDoorPLet
set_option linter.unusedSimpArgs false
set_option linter.unusedVariables false
namespace Go.Proofs.YteiinkhbgpldeaaGreatDoor.Sx
open Go
theorem QmN {xs : List Int} (h : 1 ≤ xs.length) : ∃ x, xs[0]? = some x := ⟨_, List.getElem?_eq_getElem (by omega)⟩
theorem Qmx (c : M44) (h1 : 0 ≤ c.f1) (k : Nat) (hk : 10 ≤ k) : ∃ r, Qhl k c = some r ∧ Qct k c = some r := by
  unfold Qhl Qct
  rw [QgY c h1 k hk, QgX c h1 k hk]
  by_cases h : rightP c
  · obtain ⟨x, hx⟩ := QmN h.2.1.1
    simp only [h, decide_true, Option.bind_some, Bool.not_true, Bool.false_eq_true, if_false, QjY, hx]
    exact ⟨_, rfl, rfl⟩
  · simp [h]
theorem QlA (c : M44) (h1 : 0 ≤ c.f1) (p : Int) (k : Nat) (hk : 10 ≤ k) : ∃ r, QfP k c p = some r ∧ Qbr k c p = some r := by
  unfold QfP Qbr Qfs QbW
  rw [QgX c h1 k hk, QgY c h1 k hk]
  by_cases h : rightP c
  · have hlen := h.2.1
    obtain ⟨x, hx⟩ := QmN h.2.1.1
    simp only [h, decide_true, Option.bind_some, Bool.not_true, Bool.false_eq_true, if_false]
    have e0 : ((c.f2.length : Int) == 0) = false := by rw [beq_eq_false_iff_ne]; omega
    rw [e0]
    by_cases hp : p < 0
    · rw [if_pos (show (decide (p < 0)) = true by simpa using hp), if_pos (show (0 : Int) > p by omega)]
      simp only [Int.zero_tmod, QjY, hx]
      exact ⟨_, rfl, rfl⟩
    · have hm : (p.tmod (c.f2.length : Int)) = ((p.toNat % c.f2.length : Nat) : Int) := by
        rw [Int.tmod_eq_emod_of_nonneg (by omega)]
        have : p = (p.toNat : Int) := by omega
        conv => lhs; rw [this]
        rfl
      have hlt : p.toNat % c.f2.length < c.f2.length := Nat.mod_lt _ (by omega)
      rw [if_neg (show ¬ (decide (p < 0)) = true by simpa using hp), if_neg (show ¬ (0 : Int) > p by omega), hm, Q8, List.getElem?_eq_getElem hlt]
      exact ⟨_, rfl, rfl⟩
  · simp [h]
theorem QlU (key ch : Int) (hk : wfInt .u32 key) (h1 : 1 ≤ ch) (h9 : ch ≤ 9) : ∃ r : Nat, Qgd key ch = some (r : Int) ∧ QaV key ch = some (r : Int) ∧ (r : Int) < ch := by
  have hk := Qju.1 hk
  unfold Qgd QaV
  have e1 : IntKind.u64.wrap ch = ch := Qmz (by omega) (by omega)
  have e2 : IntKind.u64.wrap key = key := Qmz (by omega) (by omega)
  have e3 : IntKind.u64.wrap (key * 2654435761) = key * 2654435761 := Qmz (by omega) (by omega)
  rw [e1, e2, e3]
  have h0 : ¬ (decide (ch < 1)) = true := by simp; omega
  have h0' : ¬ (ch == 0) = true := by simp; omega
  simp only [Option.bind_some, if_neg h0, if_neg h0']
  rw [IntKind.wrap_u32]
  have hv : 0 ≤ key * 2654435761 := by omega
  rw [Int.tmod_eq_emod_of_nonneg hv, Int.fdiv_eq_ediv_of_nonneg _ (by decide), Int.tdiv_eq_ediv_of_nonneg (by omega)]
  generalize hm : key * 2654435761 % 4294967296 = m
  have hm0 : 0 ≤ m ∧ m < 4294967296 := by omega
  have e4 : IntKind.u64.wrap (m / 65536) = m / 65536 := Qmz (by omega) (by omega)
  have e5 : IntKind.i64.wrap (m / 2 ^ 16) = m / 65536 := by rw [show (2 : Int) ^ 16 = 65536 from rfl]; exact w64 (by omega) (by omega)
  rw [e4, e5]
  have hnn : 0 ≤ m / 65536 := by omega
  have ht : (m / 65536).tmod ch = m / 65536 % ch := Int.tmod_eq_emod_of_nonneg hnn
  have hr0 := Int.emod_nonneg (m / 65536) (show ch ≠ 0 by omega)
  have hr1 := Int.emod_lt_of_pos (m / 65536) (show 0 < ch by omega)
  rw [ht, w64 (n := m / 65536 % ch) (by omega) (by omega)]
  refine ⟨(m / 65536 % ch).toNat, ?_, ?_, ?_⟩
  · rw [Int.toNat_of_nonneg hr0]
  · rw [Int.toNat_of_nonneg hr0]
  · rw [Int.toNat_of_nonneg hr0]; exact hr1
def okFrom (l : List M44) (n : Nat) : Prop := ∀ (i : Nat) c, n ≤ i → l[i]? = some c → c.f0 = i ∧ rightP c
theorem Qig {l : List M44} {n : Nat} {c : M44} (h : l[n]? = some c) : okFrom l n ↔ (c.f0 = n ∧ rightP c) ∧ okFrom l (n + 1) := by
  constructor
  · intro hh
    exact ⟨hh n c (Nat.le_refl _) h, fun i c' hi hc => hh i c' (by omega) hc⟩
  · rintro ⟨h1, h2⟩ i c' hi hc
    by_cases he : i = n
    · subst he; rw [h] at hc; cases hc; exact h1
    · exact h2 i c' (by omega) hc
theorem QgE {c : M44} (h : rightP c) : (standsP c).length ≤ 6 := by
  have h1 := QhA c
  have h2 := h.2.1.2.1
  omega
theorem Qm5 (l : List M44) (hl : l.length ≤ 6) (hw : ∀ c ∈ l, 0 ≤ c.f1) (k : Nat) (hk : 50 ≤ k) : ∀ (j n : Nat) (acc : List Int), l.length - n < j → acc.length ≤ 6 * n → n ≤ l.length →
    (okFrom l n ∧ QcE k l j acc n = some (.inr (acc ++ (l.drop n).flatMap standsP))) ∨ (¬ okFrom l n ∧ QcE k l j acc n = some (.inl false)) := by
  intro j
  induction j with
  | zero => intro n acc h; exact absurd h (by omega)
  | succ j ih =>
    intro n acc h ha hnl
    rw [QcE]
    rcases place l n with ⟨c, hc, hd⟩ | ⟨hc, hd⟩
    · have hlt := (List.getElem?_eq_some_iff.1 hc).1
      rw [if_pos hd, Q8, hc, Option.bind_some, Qig hc, Qe5 hc, QgY c (hw c (List.mem_of_getElem? hc)) k (by omega)]
      by_cases h0 : c.f0 = n
      · rw [if_neg (by simp [h0])]
        by_cases hr : rightP c
        · have hs := QgE hr
          simp only [hr, decide_true, Option.bind_some, Bool.not_true, Qek, Bool.false_eq_true, if_false]
          rw [QhQ c (by have := hr.2.1.2.1; omega), Option.bind_some, Qdp (by omega), Option.bind_some, Qac (by omega)]
          rcases ih (n + 1) (acc ++ standsP c) (by omega) (by rw [List.length_append]; omega) (by omega) with ⟨h1, h2⟩ | ⟨h1, h2⟩
          · refine .inl ⟨⟨⟨h0, trivial⟩, h1⟩, ?_⟩
            rw [h2, List.flatMap_cons, List.append_assoc]
          · exact .inr ⟨fun hh => h1 hh.2, h2⟩
        · refine .inr ⟨fun hh => hr hh.1.2, ?_⟩
          simp [hr, Qek]
      · refine .inr ⟨fun hh => h0 hh.1.1, ?_⟩
        rw [if_pos (by simpa using h0)]
        simp [Qek]
    · rw [if_neg (by rw [hd]; decide), List.drop_eq_nil_of_le hc]
      exact .inl ⟨fun i c hi hci => by have := (List.getElem?_eq_some_iff.1 hci).1; omega, by simp⟩
theorem Qm4 (l : List M44) (hl : l.length ≤ 6) (hw : ∀ c ∈ l, 0 ≤ c.f1) (k : Nat) (hk : 50 ≤ k) : ∀ (j n : Nat) (acc : List Int), l.length - n < j → acc.length ≤ 6 * n → n ≤ l.length →
    (okFrom l n ∧ QW k l j acc n = some (.inr (acc ++ (l.drop n).flatMap standsP))) ∨ (¬ okFrom l n ∧ QW k l j acc n = some (.inl false)) := by
  intro j
  induction j with
  | zero => intro n acc h; exact absurd h (by omega)
  | succ j ih =>
    intro n acc h ha hnl
    rw [QW]
    rcases place l n with ⟨c, hc, hd⟩ | ⟨hc, hd⟩
    · have hlt := (List.getElem?_eq_some_iff.1 hc).1
      rw [if_pos hd, Q8, hc, Option.bind_some, Qig hc, Qe5 hc, QgX c (hw c (List.mem_of_getElem? hc)) k (by omega)]
      by_cases hr : rightP c
      · by_cases h0 : c.f0 = n
        · have hs := QgE hr
          have e0 : (c.f0 != (n : Int)) = false := by simp [h0]
          simp only [hr, decide_true, Option.bind_some, Bool.not_true, Bool.false_eq_true, if_false, e0, QaC, Q8, hc]
          rw [QjS c (by have := hr.2.1.2.1; omega), Option.bind_some, Qdp (by omega), Option.bind_some, Qac (by omega)]
          rcases ih (n + 1) (acc ++ standsP c) (by omega) (by rw [List.length_append]; omega) (by omega) with ⟨h1, h2⟩ | ⟨h1, h2⟩
          · refine .inl ⟨⟨⟨h0, trivial⟩, h1⟩, ?_⟩
            rw [h2, List.flatMap_cons, List.append_assoc]
          · exact .inr ⟨fun hh => h1 hh.2, h2⟩
        · refine .inr ⟨fun hh => h0 hh.1.1, ?_⟩
          simp [hr, h0, QaC]
      · refine .inr ⟨fun hh => hr hh.1.2, ?_⟩
        simp [hr, QaC]
    · rw [if_neg (by rw [hd]; decide), List.drop_eq_nil_of_le hc]
      exact .inl ⟨fun i c hi hci => by have := (List.getElem?_eq_some_iff.1 hci).1; omega, by simp⟩
def allP (l : List M44) : Prop := (1 ≤ l.length ∧ l.length ≤ 4) ∧ okFrom l 0 ∧ goodL (l.flatMap standsP)
theorem Qjm : ∀ (l : List M44), (∀ c ∈ l, rightP c) → (l.flatMap standsP).length ≤ 6 * l.length
  | [], _ => by simp
  | c :: l, h => by
    have h1 := QgE (h c (by simp))
    have h2 := Qjm l fun x hx => h x (by simp [hx])
    rw [List.flatMap_cons, List.length_append, List.length_cons]; omega
theorem Qjc {l : List M44} (h : okFrom l 0) : ∀ c ∈ l, rightP c := fun c hc => by
  obtain ⟨i, hi⟩ := List.getElem?_of_mem hc
  exact (h i c (by omega) hi).2
theorem Qmy (l : List M44) (hl : l.length ≤ 6) (hw : ∀ c ∈ l, 0 ≤ c.f1) (k : Nat) (hk : 50 ≤ k) : (allP l ∧ Qhv k l = some true) ∨ (¬ allP l ∧ Qhv k l = some false) := by
  unfold Qhv
  by_cases h14 : 1 ≤ l.length ∧ l.length ≤ 4
  · rw [if_neg (by simp only [Bool.or_eq_true, decide_eq_true_eq]; omega)]
    have hx := Qm5 l hl hw k hk k 0 [] (by omega) (by simp) (by omega)
    rw [show ((0 : Nat) : Int) = 0 from rfl, List.drop_zero, List.nil_append] at hx
    rcases hx with ⟨h1, h2⟩ | ⟨h1, h2⟩
    · rw [h2]
      have hfl := Qjm l (Qjc h1)
      simp only [Option.bind_some, QgM]
      rw [QiZ _ (by omega) k (by omega)]
      by_cases hg : goodL (l.flatMap standsP)
      · exact .inl ⟨⟨h14, h1, hg⟩, by simp [hg]⟩
      · exact .inr ⟨fun hh => hg hh.2.2, by simp [hg]⟩
    · rw [h2]; exact .inr ⟨fun hh => h1 hh.2.1, rfl⟩
  · rw [if_pos (by simp only [Bool.or_eq_true, decide_eq_true_eq]; omega)]
    exact .inr ⟨fun hh => h14 hh.1, rfl⟩
theorem QlC (l : List M44) (hl : l.length ≤ 6) (hw : ∀ c ∈ l, 0 ≤ c.f1) (k : Nat) (hk : 50 ≤ k) : (allP l ∧ Qar k l = some true) ∨ (¬ allP l ∧ Qar k l = some false) := by
  unfold Qar
  have hx := Qm4 l hl hw k hk k 0 [] (by omega) (by simp) (by omega)
  rw [show ((0 : Nat) : Int) = 0 from rfl, List.drop_zero, List.nil_append] at hx
  rcases hx with ⟨h1, h2⟩ | ⟨h1, h2⟩
  · rw [h2]
    have hfl := Qjm l (Qjc h1)
    simp only [Option.bind_some, QcO, QcP]
    rw [QiY _ (by omega) k (by omega)]
    by_cases h14 : 1 ≤ l.length ∧ l.length ≤ 4
    · rw [if_pos (by simp; omega), if_pos (by simp; omega)]
      by_cases hg : goodL (l.flatMap standsP)
      · exact .inl ⟨⟨h14, h1, hg⟩, by simp [hg]⟩
      · exact .inr ⟨fun hh => hg hh.2.2, by simp [hg]⟩
    · refine .inr ⟨fun hh => h14 hh.1, ?_⟩
      by_cases h1' : 1 ≤ l.length
      · rw [if_pos (by simp; omega), if_neg (by simp; omega)]; rfl
      · rw [if_neg (by simp; omega)]; rfl
  · rw [h2]; exact .inr ⟨fun hh => h1 hh.2.1, rfl⟩
theorem QmH (c : M44) (h : c.f2.length ≤ 1000) : Qh8 c = some c := by
  unfold Qh8 Q0
  rw [Qdp (by simp; omega)]; rfl
theorem Qm3 (l : List M44) (hl : l.length ≤ 1000) (hn : ∀ c ∈ l, c.f2.length ≤ 1000) : ∀ (j n : Nat) (acc : List M44), l.length - n < j → acc.length = l.length → acc.take n = l.take n → conf_Copy_l4 l j acc n = some l := by
  intro j
  induction j with
  | zero => intro n acc h; exact absurd h (by omega)
  | succ j ih =>
    intro n acc h ha ht
    rw [conf_Copy_l4]
    rcases place l n with ⟨c, hc, hd⟩ | ⟨hc, hd⟩
    · have hlt := (List.getElem?_eq_some_iff.1 hc).1
      rw [if_pos hd, Q8, hc, Option.bind_some, QmH c (hn c (List.mem_of_getElem? hc)), Option.bind_some, Q8, List.getElem?_eq_getElem (by omega), Option.bind_some, Qac (by omega)]
      refine ih (n + 1) _ (by omega) (by simp [ha]) ?_
      have hlen : (acc.take n).length = n := by rw [List.length_take]; omega
      have hx : acc[n]? = some (acc[n]'(by omega)) := List.getElem?_eq_getElem (by omega)
      rw [take_succ' hc, Int.toNat_natCast, ← ht, List.take_set, take_succ' hx, List.set_append_right _ _ (by omega), hlen, Nat.sub_self]
      rfl
    · rw [List.take_of_length_le hc, List.take_of_length_le (by omega)] at ht
      rw [if_neg (by rw [hd]; decide), ht]
theorem Qjt (l : List M44) (hl : l.length ≤ 40) (hn : ∀ c ∈ l, c.f2.length ≤ 1000) (k : Nat) (hk : 50 ≤ k) : Qe8 k l = some l := by
  have hm : mkS (M44.mk 0 0 ([]) false 0) (l.length : Int) = some (List.replicate l.length (M44.mk 0 0 ([]) false 0)) := by
    unfold mkS; rw [if_pos (by omega)]; simp
  have h := Qm3 l (by omega) hn k 0 (List.replicate l.length (M44.mk 0 0 ([]) false 0)) (by omega) (by simp) (by simp)
  rw [show ((0 : Nat) : Int) = 0 from rfl] at h
  unfold Qe8 QgL
  rw [hm, Option.bind_some, h]; rfl
structure Inv (m : Nat) (L : List M44) : Prop where
  len : L.length = m
  lo : 1 ≤ m
  hi : m ≤ 4
  w : ∀ c ∈ L, 0 ≤ c.f1 ∧ c.f2.length ≤ 30
def newer (r c : M44) : Prop := rightP c ∧ r.f0 = c.f0 ∧ r.f1 < c.f1
theorem QlY (o c : M44) (h1 : 0 ≤ c.f1) (k : Nat) (hk : 10 ≤ k) : (newer o c ∧ QfI k o c = some true ∧ QaW k o c = some true) ∨ (¬ newer o c ∧ QfI k o c = some false ∧ QaW k o c = some false) := by
  unfold QfI QaW QfQ Qck newer
  rw [QgY c h1 k hk, QgX c h1 k hk]
  by_cases h : rightP c
  · simp only [h, decide_true, Option.bind_some, if_true]
    by_cases he : o.f0 = c.f0
    · by_cases h2 : o.f1 < c.f1
      · exact .inl ⟨⟨trivial, he, h2⟩, by simp [he, h2], by simp [he, h2]⟩
      · exact .inr ⟨fun hh => h2 hh.2.2, by simp [he, h2], by simp [he, h2]⟩
    · exact .inr ⟨fun hh => he hh.2.1, by simp [he], by simp [Ne.symm he]⟩
  · exact .inr ⟨fun hh => h hh.1, by simp [h], by simp [h]⟩
theorem Qm1 {m : Nat} {L : List M44} (h : Inv m L) (key : Int) (hkey : wfInt .u32 key) (k : Nat) (hk : 50 ≤ k) : ∃ (r : Nat) (c : M44), QaV key (L.length : Int) = some (r : Int) ∧ r < m ∧ L[r]? = some c ∧ Q7 k L key = some c := by
  obtain ⟨r, e1, e2, h2⟩ := QlU key (m : Int) hkey (by have := h.lo; omega) (by have := h.hi; omega)
  have hr : r < L.length := by rw [h.len]; omega
  refine ⟨r, L[r], by rw [h.len]; exact e2, by omega, List.getElem?_eq_getElem hr, ?_⟩
  unfold Q7 Qav Qbk
  rw [Qjt L (by rw [h.len]; have := h.hi; omega) (fun c hc => by have := (h.w c hc).2; omega) k hk]
  simp only [Option.bind_some]
  rw [h.len, e1, Option.bind_some, Q8, List.getElem?_eq_getElem hr]; rfl
theorem Qkm {m : Nat} {L : List M44} (h : Inv m L) (c : M44) (h1 : 0 ≤ c.f1) (h30 : c.f2.length ≤ 30) (k : Nat) (hk : 50 ≤ k) :
    ∃ (b : Bool) (L' : List M44), Qbd k L c = some (L', b) ∧ QbP k L c = some (b, L') ∧ Inv m L' := by
  have stay : ∃ (b : Bool) (L' : List M44), some (L, false) = some (L', b) ∧ some (false, L) = some (b, L') ∧ Inv m L' := ⟨false, L, rfl, rfl, h⟩
  unfold Qbd QbA QbP Qdc Qdd Qbk
  by_cases ha : c.f0 < 0
  · have ha' : decide (c.f0 < 0) = true := by simpa using ha
    simp only [ha', if_true, Option.bind_some]
    exact stay
  · have ha' : decide (c.f0 < 0) = false := by simpa using ha
    by_cases hb : c.f0 ≥ (L.length : Int)
    · have hb' : decide (c.f0 ≥ (L.length : Int)) = true := by simpa using hb
      simp only [ha', hb', if_true, Option.bind_some, Bool.false_eq_true, if_false]
      exact stay
    · have hb' : decide (c.f0 ≥ (L.length : Int)) = false := by simpa using hb
      obtain ⟨p, hp⟩ : ∃ p : Nat, c.f0 = (p : Int) := ⟨c.f0.toNat, by omega⟩
      have hpl : p < L.length := by omega
      have hg : L[p]? = some L[p] := List.getElem?_eq_getElem hpl
      simp only [ha', hb', Option.bind_some, Bool.false_eq_true, if_false]
      rw [hp, Q8, hg]
      simp only [Option.bind_some]
      rcases QlY L[p] c h1 k (by omega) with ⟨hn, e1, e2⟩ | ⟨hn, e1, e2⟩
      · rw [e1, e2]
        have hcp : Qe8 k [c] = some [c] := Qjt [c] (by simp) (fun x hx => by rw [List.mem_singleton.1 hx]; omega) k hk
        simp only [Option.bind_some, Bool.not_true, Bool.false_eq_true, if_false, hcp]
        rw [Qdp (by simp; have := h.hi; have := h.len; omega)]
        simp only [Option.bind_some, List.nil_append, Q8, hg, QjY, List.getElem?_cons_zero]
        refine ⟨true, L.set p c, by simp, by simp, ⟨by rw [List.length_set]; exact h.len, h.lo, h.hi, fun x hx => ?_⟩⟩
        rcases List.mem_or_eq_of_mem_set hx with hx | hx
        · exact h.w x hx
        · rw [hx]; exact ⟨h1, h30⟩
      · rw [e1, e2]
        simp only [Option.bind_some, Bool.not_false, if_true]
        exact stay
end Go.Proofs.YteiinkhbgpldeaaGreatDoor.Sx
