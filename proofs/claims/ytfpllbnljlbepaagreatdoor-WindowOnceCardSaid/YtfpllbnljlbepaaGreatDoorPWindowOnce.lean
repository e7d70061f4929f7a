/- The plain law of WindowOnce: what the walk computes answers true.
   Conditions: those that each theorem states ahead of its colon, and no other. -/
import Derived.Test.YtfpllbnljlbepaaGreatDoorWWindowOnce
import Derived.Test.YtfpllbnljlbepaaGreatDoorPx
set_option linter.unusedSimpArgs false
set_option linter.unusedVariables false
namespace Go.Proofs.YtfpllbnljlbepaaGreatDoor.Sx
open Go
theorem sameU (u : M26) : letter_SameUpdate u u = some true := by
  unfold letter_SameUpdate letter_SameUpdate_r2 bytes_Equal
  simp [beqS]
theorem eqf1 (k : Nat) (u : M26) : slices_EqualFunc_api_Update_api_Update_api_Update_api_Update (k + 2) [u] [u] = some true := by
  unfold slices_EqualFunc_api_Update_api_Update_api_Update_api_Update slices_EqualFunc_api_Update_api_Update_api_Update_api_Update_r3
  rw [if_neg (by simp), slices_EqualFunc_api_Update_api_Update_api_Update_api_Update_l4, if_pos (by simp), show ix [u] 0 = some u from rfl]
  simp only [Option.bind_some, sameU, Bool.not_true, Bool.false_eq_true, if_false]
  rw [slices_EqualFunc_api_Update_api_Update_api_Update_api_Update_l4, if_neg (by show ¬ decide (IntKind.i64.wrap (0 + 1) < 1) = true; decide)]
  rfl
theorem idx1 (k : Nat) (u : M26) (b : Bool) (h : letter_updates_1 u = some b) : slices_ContainsFunc_api_Update_api_Update (k + 2) [u] = some b := by
  unfold slices_ContainsFunc_api_Update_api_Update slices_IndexFunc_api_Update_api_Update slices_IndexFunc_api_Update_api_Update_r3
  rw [slices_IndexFunc_api_Update_api_Update_l4, if_pos (by simp), show ix [u] 0 = some u from rfl]
  simp only [Option.bind_some, h]
  cases b with
  | true => rfl
  | false =>
    rw [if_neg (by decide), slices_IndexFunc_api_Update_api_Update_l4, if_neg (by show ¬ decide (IntKind.i64.wrap (0 + 1) < 1) = true; decide)]
    rfl
def wfU (u : M26) : Prop := wfInt .u64 u.f0 ∧ wfInt .i64 u.f1 ∧ wfInt .u64 u.f2 ∧ wfInt .i64 u.f3 ∧ wfInt .u32 u.f4 ∧ wfInt .u64 u.f5 ∧ wfSl (wfInt .u8) u.f6
theorem letC1 (k : Nat) (u : M26) (b : Bool) (h : letter_update u = some b) : letter_Check (k + 2) [u] = some (if b then 0 else 4) := by
  have h1 : letter_updates_1 u = some (!b) := by unfold letter_updates_1; rw [h]; rfl
  unfold letter_Check letter_Check_r2 letter_bare letter_bare_1 letter_bare_2 letter_bare_4 letter_bare_5 letter_bare_14 letter_Same letter_Same_r2 bytes_Equal_2 letter_updates
  simp only [Option.bind_some, eqf1, idx1 k u _ h1]
  cases b <;> rfl
def chkP (u : M26) : Int := if ((u.f3 != 2) && (u.f3 != 3)) = true then 1
  else if (decide ((u.f6.length : Int) > 2048)) = true then 6
  else if ((!((decide (u.f0 > 0)) == true)) || ((decide (u.f1 < 1)) || ((decide (u.f1 > 6)) || ((u.f2 == 0) || ((u.f3 == 2) && (decide (u.f5 > 0))))))) = true then 4
  else 0
theorem chkP_if (u : M26) : some (chkP u) = if ((u.f3 != 2) && (u.f3 != 3)) = true then some 1
  else if (decide ((u.f6.length : Int) > 2048)) = true then some 6
  else if ((!((decide (u.f0 > 0)) == true)) || ((decide (u.f1 < 1)) || ((decide (u.f1 > 6)) || ((u.f2 == 0) || ((u.f3 == 2) && (decide (u.f5 > 0))))))) = true then some 4
  else some 0 := by
  unfold chkP
  split
  · rfl
  · split
    · rfl
    · split <;> rfl
theorem check_is (k : Nat) (u : M26) (hu : wfU u) : update_check (k + 2) u = some (chkP u) := by
  obtain ⟨h0, h1, h2, h3, h4, h5, h6⟩ := hu
  have h0 := wfInt_u64.1 h0
  have h2 := wfInt_u64.1 h2
  have h5 := wfInt_u64.1 h5
  rw [chkP_if]
  unfold update_check update_writes update_writes_r2
  obtain ⟨b, hb⟩ : ∃ b, letter_update u = some b := by unfold letter_update; split <;> (try split) <;> exact ⟨_, rfl⟩
  rw [letC1 k u b hb]
  unfold letter_update at hb
  by_cases k2 : u.f3 = 2
  · simp only [k2] at hb ⊢
    by_cases hl : (u.f6.length : Int) > 2048
    · simp [hl]
    · by_cases a0 : u.f0 = 0 <;> by_cases a1 : u.f1 < 1 <;> by_cases a2 : u.f1 > 6 <;> by_cases a3 : u.f2 < 1 <;> by_cases a5 : u.f5 = 0 <;> simp [hl, a0, a1, a2, a3, a5] at hb ⊢ <;> (try subst hb) <;> simp <;> (try (intros; omega)) <;> (try (rw [if_pos (by omega), if_neg (by omega)]))
  · by_cases k3 : u.f3 = 3
    · simp only [k3] at hb ⊢
      by_cases hl : (u.f6.length : Int) > 2048
      · simp [hl]
      · by_cases a0 : u.f0 = 0 <;> by_cases a1 : u.f1 < 1 <;> by_cases a2 : u.f1 > 6 <;> by_cases a3 : u.f2 < 1 <;> simp [hl, a0, a1, a2, a3] at hb ⊢ <;> (try subst hb) <;> simp <;> (try (intros; omega)) <;> (try (rw [if_pos (by omega), if_neg (by omega)]))
    · simp [k2, k3]
theorem chkP_0 {u : M26} (h : chkP u = 0) : 0 < u.f0 ∧ u.f6.length ≤ 2048 := by
  unfold chkP at h
  split at h
  · cases h
  · split at h
    · cases h
    · split at h
      · cases h
      · rename_i h1 h2 h3
        simp at h2 h3
        omega
/-- updates that are numbered one by one from behind lo on -/
def Seqs (lo : Int) (L : List M26) : Prop := ∀ (i : Nat) x, L[i]? = some x → x.f0 = lo + i + 1
/-- no update bears too much -/
def Small (L : List M26) : Prop := ∀ x ∈ L, x.f6.length ≤ 2048
theorem Seqs.tail {lo : Int} {x : M26} {L : List M26} (h : Seqs lo (x :: L)) : Seqs (lo + 1) L := fun i y hy => by
  have := h (i + 1) y (by simpa using hy)
  omega
theorem Seqs.head {lo : Int} {x : M26} {L : List M26} (h : Seqs lo (x :: L)) : x.f0 = lo + 1 := by
  have := h 0 x rfl
  omega
theorem Seqs.drop {lo : Int} {L : List M26} (h : Seqs lo L) (n : Nat) : Seqs (lo + n) (L.drop n) := fun i x hx => by
  rw [List.getElem?_drop] at hx
  have := h (n + i) x hx
  omega
theorem Seqs.snoc {lo : Int} {L : List M26} (h : Seqs lo L) {u : M26} (hu : u.f0 = lo + L.length + 1) : Seqs lo (L ++ [u]) := fun i x hx => by
  rw [List.getElem?_append] at hx
  split at hx
  · exact h i x hx
  · have hl := (List.getElem?_eq_some_iff.1 hx).1
    simp at hl
    have : i = L.length := by omega
    subst this
    simp at hx
    subst hx
    exact hu
theorem Seqs.gt {lo : Int} {L : List M26} (h : Seqs lo L) : ∀ x ∈ L, lo < x.f0 := fun x hx => by
  obtain ⟨i, hi⟩ := List.getElem?_of_mem hx
  have := h i x hi
  omega
theorem Seqs.above : ∀ {L : List M26} {lo t : Int}, Seqs lo L → lo ≤ t → L.filter (fun x => decide (t < x.f0)) = L.drop (t - lo).toNat := by
  intro L
  induction L with
  | nil => intro lo t _ _; simp
  | cons x L ih =>
    intro lo t h hlt
    have hx := h.head
    by_cases he : t = lo
    · subst he
      rw [show (t - t).toNat = 0 by omega, List.drop_zero]
      exact List.filter_eq_self.2 fun y hy => by simpa using h.gt y hy
    · rw [List.filter_cons_of_neg (by simp; omega), ih h.tail (by omega), show (t - lo).toNat = (t - (lo + 1)).toNat + 1 by omega, List.drop_succ_cons]
theorem Seqs.upto : ∀ {L : List M26} {lo t : Int}, Seqs lo L → lo ≤ t → L.filter (fun x => decide (x.f0 ≤ t)) = L.take (t - lo).toNat := by
  intro L
  induction L with
  | nil => intro lo t _ _; simp
  | cons x L ih =>
    intro lo t h hlt
    have hx := h.head
    by_cases he : t = lo
    · subst he
      rw [show (t - t).toNat = 0 by omega, List.take_zero]
      exact List.filter_eq_nil_iff.2 fun y hy => by have := h.gt y hy; simp; omega
    · rw [List.filter_cons_of_pos (by simp; omega), ih h.tail (by omega), show (t - lo).toNat = (t - (lo + 1)).toNat + 1 by omega, List.take_succ_cons]
theorem clone_is (xs : List Int) (h : xs.length ≤ 4000000000) : bytes_Clone xs = some xs := by
  unfold bytes_Clone
  rw [app_some (by simp; omega)]; rfl
theorem copy_l (L : List M26) (hl : L.length ≤ 100000) (hs : Small L) : ∀ (j i : Nat) (acc : List M26), L.length - i < j → i ≤ L.length → acc.length ≤ i → update_pick_l11 L j acc i = some (acc ++ L.drop i) := by
  intro j
  induction j with
  | zero => intro i acc h; exact absurd h (by omega)
  | succ j ih =>
    intro i acc h hi ha
    rw [update_pick_l11]
    rcases place L i with ⟨x, hx, hd⟩ | ⟨hx, hd⟩
    · have hpl := (List.getElem?_eq_some_iff.1 hx).1
      have := hs x (List.mem_of_getElem? hx)
      rw [if_pos hd, ix_nat, hx]
      simp only [Option.bind_some, update_Copy_1, if_true, clone_is x.f6 (by omega)]
      rw [app_some (by simp; omega)]
      simp only [Option.bind_some, update_pick_r12]
      rw [next_i64 (by omega), ih (i + 1) _ (by omega) (by omega) (by simp; omega), drop_cons hx]
      simp
    · rw [if_neg (by rw [hd]; decide), List.drop_eq_nil_of_le (by omega)]; simp
theorem copy_is (L : List M26) (hl : L.length ≤ 100000) (hs : Small L) (k : Nat) (hk : L.length < k) : update_Copy k L = some L := by
  have h := copy_l L hl hs k 0 [] (by omega) (by omega) (by simp)
  rw [show ((0 : Nat) : Int) = 0 from rfl] at h
  unfold update_Copy update_pick update_pick_r10
  rw [h]; simp
theorem batch_l (L : List M26) (hl : L.length ≤ 100000) (hs : Small L) (t : Int) : ∀ (j i : Nat) (acc : List M26) (m : Int), L.length - i < j → i ≤ L.length → acc.length ≤ i → -9223372036854775808 ≤ m → m ≤ 9223372036854775807 →
    ∃ m', update_pick_2_l11 L t j acc i m = some (acc ++ ((L.drop i).filter (fun x => decide (t < x.f0))).take m.toNat, m') := by
  intro j
  induction j with
  | zero => intro i acc m h; exact absurd h (by omega)
  | succ j ih =>
    intro i acc m h hi ha hm0 hm1
    rw [update_pick_2_l11]
    rcases place L i with ⟨x, hx, hd⟩ | ⟨hx, hd⟩
    · have hpl := (List.getElem?_eq_some_iff.1 hx).1
      have := hs x (List.mem_of_getElem? hx)
      rw [if_pos hd, ix_nat, hx, drop_cons hx]
      simp only [Option.bind_some, update_Batch_1]
      by_cases hc : t < x.f0 ∧ 1 ≤ m
      · rw [if_neg (by simp; omega)]
        simp only [Option.bind_some, if_true, clone_is x.f6 (by omega)]
        rw [app_some (by simp; omega), w64 (by omega) (by omega)]
        simp only [Option.bind_some, update_pick_2_r12]
        rw [next_i64 (by omega)]
        obtain ⟨m', h2⟩ := ih (i + 1) (acc ++ [M26.mk x.f0 x.f1 x.f2 x.f3 x.f4 x.f5 x.f6]) (m - 1) (by omega) (by omega) (by simp; omega) (by omega) (by omega)
        refine ⟨m', ?_⟩
        rw [h2, List.filter_cons_of_pos (by simpa using hc.1), show m.toNat = (m - 1).toNat + 1 by omega, List.take_succ_cons]
        simp
      · rw [if_pos (by simp; omega)]
        simp only [Option.bind_some, Bool.false_eq_true, if_false, update_pick_2_r12]
        rw [next_i64 (by omega)]
        obtain ⟨m', h2⟩ := ih (i + 1) acc m (by omega) (by omega) (by omega) hm0 hm1
        refine ⟨m', ?_⟩
        rw [h2]
        by_cases hf : t < x.f0
        · rw [List.filter_cons_of_pos (by simpa using hf), show m.toNat = 0 by omega]; simp
        · rw [List.filter_cons_of_neg (by simpa using hf)]
    · rw [if_neg (by rw [hd]; decide), List.drop_eq_nil_of_le (by omega)]
      exact ⟨m, by simp⟩
theorem batch_is (L : List M26) (hl : L.length ≤ 100000) (hs : Small L) (t m : Int) (hm0 : -9223372036854775808 ≤ m) (hm1 : m ≤ 9223372036854775807) (k : Nat) (hk : L.length < k) : update_Batch k L t m = some ((L.filter (fun x => decide (t < x.f0))).take m.toNat) := by
  obtain ⟨m', h⟩ := batch_l L hl hs t k 0 [] m (by omega) (by omega) (by simp) hm0 hm1
  rw [show ((0 : Nat) : Int) = 0 from rfl] at h
  unfold update_Batch update_pick_2 update_pick_2_r10
  rw [h]; simp
/-- the state of a window -/
structure Win (lo dn : Int) (L : List M26) : Prop where
  sq : Seqs lo L
  sm : Small L
  l0 : 0 ≤ lo
  l1 : lo ≤ dn
  l2 : dn ≤ lo + L.length
  l3 : lo + L.length ≤ 4611686018427487904
  l4 : L.length ≤ 50000
theorem end_is {lo : Int} {L : List M26} (h0 : 0 ≤ lo) (h3 : lo + L.length ≤ 4611686018427487904) : window_Window_End lo L = some (lo + L.length) := by
  unfold window_Window_End window_Window_End_r2
  rw [wu64 (n := (L.length : Int)) (by omega) (by omega), wu64 (by omega) (by omega)]
/-- from where on updates stay -/
def lowOf (lo dn e : Int) : Int := if e < 32 then lo else (if (if e - 32 < dn then e - 32 else dn) > lo then (if e - 32 < dn then e - 32 else dn) else lo)
theorem lowOf_in {lo dn e : Int} (h1 : lo ≤ dn) (h2 : dn ≤ e) : lo ≤ lowOf lo dn e ∧ lowOf lo dn e ≤ dn := by
  unfold lowOf
  split
  · omega
  · split
    · split at * <;> omega
    · omega
theorem trim_is {lo dn : Int} {L : List M26} (h : Win lo dn L) : window_Window_trim lo dn L = some (lowOf lo dn (lo + L.length), L.drop (lowOf lo dn (lo + L.length) - lo).toNat) := by
  obtain ⟨a1, a2, h0, h1, h2, h3, h4⟩ := h
  have hin := lowOf_in h1 h2
  unfold window_Window_trim window_Window_trim_r4 window_Window_trim_r3
  rw [end_is h0 h3, Option.bind_some]
  by_cases hc : lo + L.length < 32
  · rw [if_pos (by simpa using hc)]
    unfold lowOf
    rw [if_pos hc]; simp
  · rw [if_neg (by simpa using hc), wu64 (n := lo + L.length - 32) (by omega) (by omega)]
    have he : lowOf lo dn (lo + L.length) = (if (if lo + L.length - 32 < dn then lo + L.length - 32 else dn) > lo then (if lo + L.length - 32 < dn then lo + L.length - 32 else dn) else lo) := by
      unfold lowOf; rw [if_neg hc]
    rw [← he]
    generalize lowOf lo dn (lo + L.length) = q at *
    rw [wu64 (n := q - lo) (by omega) (by omega), w64 (by omega) (by omega), show q - lo = (((q - lo).toNat : Nat) : Int) by omega]
    have hsl : sl L (((q - lo).toNat : Nat) : Int) (L.length : Int) = some (L.drop (q - lo).toNat) := by
      unfold sl
      rw [if_pos ⟨by omega, by omega, by omega⟩]
      simp only [Int.toNat_natCast, Option.some.injEq]
      exact List.take_of_length_le (by simp)
    rw [hsl, Option.bind_some, app_some (by simp; omega)]
    simp
    omega
theorem Win.trim {lo dn : Int} {L : List M26} (h : Win lo dn L) : Win (lowOf lo dn (lo + L.length)) dn (L.drop (lowOf lo dn (lo + L.length) - lo).toNat) := by
  obtain ⟨a1, a2, h0, h1, h2, h3, h4⟩ := h
  have hin := lowOf_in h1 h2
  generalize lowOf lo dn (lo + L.length) = q at *
  refine ⟨?_, fun x hx => a2 x (List.mem_of_mem_drop hx), by omega, hin.2, ?_, ?_, ?_⟩
  · have := a1.drop (q - lo).toNat
    rwa [show lo + (((q - lo).toNat : Nat) : Int) = q by omega] at this
  · rw [List.length_drop]; omega
  · rw [List.length_drop]; omega
  · rw [List.length_drop]; omega
theorem Win.ends {lo dn : Int} {L : List M26} (h : Win lo dn L) : lowOf lo dn (lo + L.length) + (L.drop (lowOf lo dn (lo + L.length) - lo).toNat).length = lo + L.length := by
  obtain ⟨a1, a2, h0, h1, h2, h3, h4⟩ := h
  have hin := lowOf_in h1 h2
  rw [List.length_drop]; omega
theorem Win.snoc {lo dn : Int} {L : List M26} (h : Win lo dn L) {u : M26} (hu : u.f0 = lo + L.length + 1) (hs : u.f6.length ≤ 2048) (h3 : lo + L.length < 4611686018427487904) (h4 : L.length < 50000) : Win lo dn (L ++ [u]) := by
  refine ⟨h.sq.snoc hu, fun x hx => ?_, h.l0, h.l1, ?_, ?_, ?_⟩
  · rcases List.mem_append.1 hx with hx | hx
    · exact h.sm x hx
    · rw [List.mem_singleton.1 hx]; exact hs
  · have := h.l2; rw [List.length_append]; simp; omega
  · rw [List.length_append]; simp; omega
  · rw [List.length_append]; simp; omega
/-- what comes of an update that is added -/
def addP (lo dn : Int) (L : List M26) (u : M26) : Int × Int × List M26 :=
  if chkP u ≠ 0 then (chkP u, lo, L) else if u.f0 - 1 ≠ lo + L.length then (12, lo, L)
  else (0, lowOf lo dn (lo + L.length + 1), (L ++ [u]).drop (lowOf lo dn (lo + L.length + 1) - lo).toNat)
theorem add_is {lo dn : Int} {L : List M26} (h : Win lo dn L) (u : M26) (hu : wfU u) (h3 : lo + L.length < 4611686018427487904) (h4 : L.length < 50000) (k : Nat) (hk : 5 ≤ k) : window_Window_Add k lo dn L u = some (addP lo dn L u) := by
  obtain ⟨k, rfl⟩ : ∃ m, k = m + 2 := ⟨k - 2, by omega⟩
  unfold window_Window_Add update_Check addP
  rw [check_is k u hu]
  have hu0 := wfInt_u64.1 hu.1
  simp only [Option.bind_some]
  by_cases hc : chkP u = 0
  · obtain ⟨g1, g2⟩ := chkP_0 hc
    rw [if_neg (by simp [hc]), if_neg (by simp [hc]), end_is h.l0 h.l3, Option.bind_some, wu64 (n := u.f0 - 1) (by omega) (by omega), Option.bind_some]
    unfold window_Window_Add_r4 window_Window_Add_r3
    by_cases he : u.f0 - 1 = lo + L.length
    · have hw := h.snoc (u := u) (by omega) g2 h3 h4
      have ht := trim_is hw
      rw [show lo + ((L ++ [u]).length : Int) = lo + L.length + 1 by rw [List.length_append]; simp; omega] at ht
      rw [if_neg (by simp [he]), if_neg (by simp [he]), copy_is [u] (by simp) (fun x hx => by rw [List.mem_singleton.1 hx]; exact g2) _ (by simp)]
      have := h.l4
      simp only [Option.bind_some]
      rw [app_some (by simp; omega)]
      simp only [Option.bind_some, ht]
    · rw [if_pos (by simpa using he), if_pos he]
  · rw [if_pos (by simpa using hc), if_pos hc]
theorem Win.add {lo dn : Int} {L : List M26} (h : Win lo dn L) (u : M26) (h3 : lo + L.length < 4611686018427487904) (h4 : L.length < 50000) : Win (addP lo dn L u).2.1 dn (addP lo dn L u).2.2 ∧ (addP lo dn L u).2.1 + (addP lo dn L u).2.2.length ≤ lo + L.length + 1 ∧ (addP lo dn L u).2.2.length ≤ L.length + 1 := by
  unfold addP
  split
  · exact ⟨h, by show lo + L.length ≤ _; omega, by show L.length ≤ _; omega⟩
  · rename_i hc
    have hc : chkP u = 0 := by omega
    obtain ⟨g1, g2⟩ := chkP_0 hc
    split
    · exact ⟨h, by show lo + L.length ≤ _; omega, by show L.length ≤ _; omega⟩
    · have hw := h.snoc (u := u) (by omega) g2 h3 h4
      have ht := hw.trim
      have he := hw.ends
      rw [show lo + ((L ++ [u]).length : Int) = lo + L.length + 1 by rw [List.length_append]; simp; omega] at ht he
      refine ⟨ht, by rw [he]; exact Int.le_refl _, ?_⟩
      simp only [List.length_drop, List.length_append, List.length_cons, List.length_nil]; omega
/-- how far a window is done behind Reach -/
def dnOf (lo dn : Int) (L : List M26) (d : Int) : Int := if (if lo + L.length < d then lo + L.length else d) > dn then (if lo + L.length < d then lo + L.length else d) else dn
theorem dnOf_in {lo dn : Int} {L : List M26} (h : Win lo dn L) (d : Int) : dn ≤ dnOf lo dn L d ∧ dnOf lo dn L d ≤ lo + L.length := by
  have := h.l2
  unfold dnOf
  split
  · split at * <;> omega
  · omega
theorem Win.dn {lo dn dn' : Int} {L : List M26} (h : Win lo dn L) (h1 : dn ≤ dn') (h2 : dn' ≤ lo + L.length) : Win lo dn' L := ⟨h.sq, h.sm, h.l0, by have := h.l1; omega, h2, h.l3, h.l4⟩
theorem reach_is {lo dn : Int} {L : List M26} (h : Win lo dn L) (d : Int) (hd : 0 ≤ d) (k : Nat) (hk : L.length < k) : window_Window_Reach k lo dn L d = some ((L.drop (dn - lo).toNat).take (dnOf lo dn L d - dn).toNat, lowOf lo (dnOf lo dn L d) (lo + L.length), dnOf lo dn L d, L.drop (lowOf lo (dnOf lo dn L d) (lo + L.length) - lo).toNat) := by
  obtain ⟨d1, d2⟩ := dnOf_in h d
  unfold window_Window_Reach window_Window_Reach_r2
  rw [end_is h.l0 h.l3, Option.bind_some]
  have e : (if (if lo + L.length < d then lo + L.length else d) > dn then (if lo + L.length < d then lo + L.length else d) else dn) = dnOf lo dn L d := rfl
  rw [e]
  have h0 := h.l0
  have h1 := h.l1
  have h3 := h.l3
  have h4 := h.l4
  rw [wu64 (n := dnOf lo dn L d - dn) (by omega) (by omega), w64 (by omega) (by omega), batch_is L (by omega) h.sm _ _ (by omega) (by omega) k hk, h.sq.above h.l1]
  simp only [Option.bind_some]
  rw [trim_is (h.dn d1 d2)]
  rfl
theorem one_ok {e : Int} (h : 0 ≤ e) (h2 : e < 1000000) : wfU (M26.mk (e + 1) 1 1 2 0 0 []) ∧ chkP (M26.mk (e + 1) 1 1 2 0 0 []) = 0 := by
  refine ⟨⟨wfInt_u64.2 ⟨by show 0 ≤ e + 1; omega, by show e + 1 ≤ _; omega⟩, (show wfInt .i64 (1 : Int) by decide), (show wfInt .u64 (1 : Int) by decide), (show wfInt .i64 (2 : Int) by decide), (show wfInt .u32 (0 : Int) by decide), (show wfInt .u64 (0 : Int) by decide), by simp, fun x hx => by cases hx⟩, ?_⟩
  unfold chkP
  simp
  omega
theorem once_add_l (x1 : List M51) (i : Nat) (o : M51) (hx : x1[i]? = some o) (ho : 0 ≤ o.f1 ∧ o.f1 ≤ 255) (dn : Int) : ∀ (j a : Nat) (lo : Int) (L : List M26), 30 - a < j → a ≤ 30 → Win lo dn L → lo + L.length + (30 - a : Nat) ≤ 3000 → L.length + (30 - a) ≤ 3000 →
    ∃ (lo' : Int) (L' : List M26), catenarylaw20_WindowOnce_l52 3000 x1 i dn j a lo L = some (lo', L') ∧ Win lo' dn L' ∧ lo' + L'.length ≤ lo + L.length + (30 - a : Nat) ∧ L'.length ≤ L.length + (30 - a) := by
  intro j
  induction j with
  | zero => intro a lo L h; exact absurd h (by omega)
  | succ j ih =>
    intro a lo L h ha hw h1 h2
    rw [catenarylaw20_WindowOnce_l52, ix_nat, hx, Option.bind_some, w64 (n := o.f1) (by omega) (by omega)]
    have ht : o.f1.tmod 30 < 30 := Int.tmod_lt_of_pos _ (by decide)
    by_cases hc : (a : Int) < o.f1.tmod 30
    · rw [if_pos (by simpa using hc), end_is hw.l0 hw.l3, Option.bind_some]
      have h0 := hw.l0
      obtain ⟨g1, g2⟩ := one_ok (e := lo + L.length) (by omega) (by omega)
      rw [wu64 (n := lo + L.length + 1) (by omega) (by omega)]
      unfold catenarylaw20_one
      rw [Option.bind_some, add_is hw _ g1 (by omega) (by omega) 3000 (by omega), Option.bind_some, next_i64 (by omega)]
      obtain ⟨k1, k2, k3⟩ := hw.add (M26.mk (lo + L.length + 1) 1 1 2 0 0 []) (by omega) (by omega)
      by_cases hr : 30 - (a + 1) < j
      · obtain ⟨lo', L', e1, e2, e3, e4⟩ := ih (a + 1) _ _ hr (by omega) k1 (by omega) (by omega)
        exact ⟨lo', L', e1, e2, by omega, by omega⟩
      · omega
    · rw [if_neg (by simpa using hc)]
      exact ⟨lo, L, rfl, hw, by omega, by omega⟩
theorem once_rows (R : List M26) (d : Int) (hs : Seqs d R) (h0 : 0 ≤ d) (hd : d ≤ 100000) (hl : R.length ≤ 100000) : ∀ j i : Nat, R.length - i < j → i ≤ R.length → catenarylaw20_WindowOnce_l49 R j (d + 1 + i) i = some (.inr (d + 1 + R.length)) := by
  intro j
  induction j with
  | zero => intro i h; exact absurd h (by omega)
  | succ j ih =>
    intro i h hi
    rw [catenarylaw20_WindowOnce_l49]
    rcases place R i with ⟨x, hx, hd'⟩ | ⟨hx, hd'⟩
    · have hpl := (List.getElem?_eq_some_iff.1 hx).1
      have := hs i x hx
      rw [if_pos hd', ix_nat, hx, Option.bind_some, if_neg (by simp; omega), wu64 (by omega) (by omega), next_i64 (by omega), show d + 1 + (i : Int) + 1 = d + 1 + ((i + 1 : Nat) : Int) by omega]
      exact ih (i + 1) (by omega) (by omega)
    · have : i = R.length := by omega
      subst this
      rw [if_neg (by rw [hd']; decide)]
theorem awake20 : catenarylaw20_awake 3000 = some true := by kernel_rfl
theorem once_l (x1 : List M51) (hl : x1.length ≤ 9223372036854775807) (hw1 : ∀ o ∈ x1, (0 ≤ o.f1 ∧ o.f1 ≤ 255) ∧ (0 ≤ o.f3 ∧ o.f3 ≤ 255)) : ∀ (j i : Nat) (lo dn : Int) (L : List M26), 60 - i < j → i ≤ 60 → Win lo dn L → lo + L.length ≤ 30 * i → L.length ≤ 30 * i →
    catenarylaw20_WindowOnce_l46 3000 x1 j (dn + 1) i lo dn L = some (.inr ()) := by
  intro j
  induction j with
  | zero => intro i lo dn L h; exact absurd h (by omega)
  | succ j ih =>
    intro i lo dn L h hi hw h1 h2
    rw [catenarylaw20_WindowOnce_l46]
    by_cases hc : i < x1.length ∧ i < 60
    · have e : ((decide ((i : Int) < (x1.length : Int))) && (decide ((i : Int) < 60))) = true := by simp; omega
      have hg : x1[i]? = some (x1[i]'(by omega)) := List.getElem?_eq_getElem (by omega)
      generalize (x1[i]'(by omega)) = o at hg
      obtain ⟨ho1, ho3⟩ := hw1 o (List.mem_of_getElem? hg)
      obtain ⟨lo1, L1, e1, w1, b1, b2⟩ := once_add_l x1 i o hg ho1 dn 3000 0 lo L (by omega) (by omega) hw (by omega) (by omega)
      rw [show ((0 : Nat) : Int) = 0 from rfl] at e1
      rw [if_pos e, e1, Option.bind_some]
      unfold catenarylaw20_WindowOnce_r51 window_Window_Done
      rw [ix_nat, hg]
      have ht : 0 ≤ o.f3.tmod 20 ∧ o.f3.tmod 20 < 20 := ⟨Int.tmod_nonneg _ ho3.1, Int.tmod_lt_of_pos _ (by decide)⟩
      have q0 := w1.l0
      have q1 := w1.l1
      have q2 := w1.l2
      simp only [Option.bind_some]
      rw [wu64 (n := o.f3) (by omega) (by omega), wu64 (n := dn + o.f3.tmod 20) (by omega) (by omega), reach_is w1 _ (by omega) 3000 (by omega)]
      simp only [Option.bind_some]
      obtain ⟨d1, d2⟩ := dnOf_in w1 (dn + o.f3.tmod 20)
      generalize hdn : dnOf lo1 dn L1 (dn + o.f3.tmod 20) = dn' at *
      have w2 := w1.dn d1 d2
      have w3 := w2.trim
      have w4 := w2.ends
      obtain ⟨t1, t2⟩ := lowOf_in w2.l1 w2.l2
      have hheld : L1.length - (lowOf lo1 dn' (lo1 + L1.length) - lo1) ≤ 32 + (lo1 + L1.length - dn') := by
        unfold lowOf
        split
        · omega
        · split
          · split at * <;> omega
          · split at * <;> omega
      generalize lowOf lo1 dn' (lo1 + L1.length) = lo2 at *
      have hR : ((L1.drop (dn - lo1).toNat).take (dn' - dn).toNat).length = (dn' - dn).toNat := by rw [List.length_take, List.length_drop]; omega
      have hS : Seqs dn ((L1.drop (dn - lo1).toNat).take (dn' - dn).toNat) := by
        intro m x hx
        rw [List.getElem?_take] at hx
        split at hx
        · have := (w1.sq.drop (dn - lo1).toNat) m x hx
          omega
        · cases hx
      have hrow := once_rows _ dn hS (by omega) (by omega) (by omega) 3000 0 (by omega) (by omega)
      rw [show ((0 : Nat) : Int) = 0 from rfl, Int.add_zero, hR, show dn + 1 + (((dn' - dn).toNat : Nat) : Int) = dn' + 1 by omega] at hrow
      unfold catenarylaw20_WindowOnce_r50
      rw [hrow]
      simp only [Option.bind_some]
      unfold catenarylaw20_WindowOnce_r48 window_Window_Done window_Window_Held window_Window_Dirty window_Window_Low window_Window_Done
      have hlen : (L1.drop (lo2 - lo1).toNat).length = L1.length - (lo2 - lo1).toNat := List.length_drop
      rw [end_is w3.l0 w3.l3]
      simp only [Option.bind_some]
      rw [wu64 (n := dn' + 1) (by omega) (by omega), if_neg (by simp), w4, wu64 (n := lo1 + L1.length - dn') (by omega) (by omega), w64 (n := lo1 + L1.length - dn') (by omega) (by omega), w64 (by omega) (by omega), if_neg (by simp; omega), if_neg (by simp; omega)]
      simp only [Option.bind_some]
      rw [show decide (dn' > lo1 + L1.length) = false by simp; omega]
      unfold catenarylaw20_WindowOnce_r47
      rw [if_neg (by decide), next_i64 (by omega)]
      exact ih (i + 1) lo2 dn' _ (by omega) (by omega) w3 (by omega) (by omega)
    · have e : ((decide ((i : Int) < (x1.length : Int))) && (decide ((i : Int) < 60))) = false := by
        rw [Bool.eq_false_iff]; intro hh; simp at hh; omega
      rw [if_neg (by rw [e]; decide)]
theorem pureWindowOnce (l : List M51) (hl : wfSl (fun x : M51 => wfInt .i64 x.f0 ∧ wfInt .u8 x.f1 ∧ (fun u : M26 => wfInt .u64 u.f0 ∧ wfInt .i64 u.f1 ∧ wfInt .u64 u.f2 ∧ wfInt .i64 u.f3 ∧ wfInt .u32 u.f4 ∧ wfInt .u64 u.f5 ∧ wfSl (wfInt .u8) u.f6) x.f2 ∧ wfInt .u8 x.f3 ∧ wfInt .i64 x.f4) l) : ∃ k, catenarylaw20_WindowOnce k l = some true := by
  refine ⟨3000, ?_⟩
  unfold catenarylaw20_WindowOnce window_New
  have h := once_l l hl.1 (fun o ho => ⟨wfInt_u8.1 (hl.2 o ho).2.1, wfInt_u8.1 (hl.2 o ho).2.2.2.1⟩) 3000 0 0 0 [] (by omega) (by omega) ⟨(fun i x hx => by simp at hx), (fun x hx => by cases hx), Int.le_refl _, Int.le_refl _, (by simp), (by simp), (by simp)⟩ (by simp) (by simp)
  rw [show ((0 : Nat) : Int) = 0 from rfl, show (0 : Int) + 1 = 1 from rfl] at h
  rw [Option.bind_some]
  dsimp only
  rw [h]
  simp only [Option.bind_some, catenarylaw20_WindowOnce_r45, awake20]
end Go.Proofs.YtfpllbnljlbepaaGreatDoor.Sx
