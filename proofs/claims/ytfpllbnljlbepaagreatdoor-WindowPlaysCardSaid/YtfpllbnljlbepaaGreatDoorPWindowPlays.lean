/- The plain law of WindowPlays: what the walk computes answers true.
   Conditions: those that each theorem states ahead of its colon, and no other. -/
import Derived.Test.YtfpllbnljlbepaaGreatDoorWWindowPlays
import Derived.Test.YtfpllbnljlbepaaGreatDoorPx
set_option linter.unusedSimpArgs false
set_option linter.unusedVariables false
namespace Go.Proofs.YtfpllbnljlbepaaGreatDoor.Sx
open Go
theorem sameU (u : M26) : letter_SameUpdate u u = some true := by
  unfold letter_SameUpdate letter_SameUpdate_r2 bytes_Equal
  simp [beqS]
theorem eqf1 (k : Nat) (u : M26) : slices_EqualFunc_api_Update_api_Update_api_Update_api_Update (k + 2) [u] [u] = some true := by
  unfold slices_EqualFunc_api_Update_api_Update_api_Update_api_Update slices_EqualFunc_api_Update_api_Update_api_Update_api_Update_r3
  rw [if_neg (by simp), slices_EqualFunc_api_Update_api_Update_api_Update_api_Update_l4, if_pos (by simp), show ix [u] 0 = some u from rfl]
  simp only [Option.bind_some, sameU, Bool.not_true, Bool.false_eq_true, if_false]
  rw [slices_EqualFunc_api_Update_api_Update_api_Update_api_Update_l4, if_neg (by show ¬ decide (IntKind.i64.wrap (0 + 1) < 1) = true; decide)]
  rfl
theorem idx1 (k : Nat) (u : M26) (b : Bool) (h : letter_updates_1 u = some b) : slices_ContainsFunc_api_Update_api_Update (k + 2) [u] = some b := by
  unfold slices_ContainsFunc_api_Update_api_Update slices_IndexFunc_api_Update_api_Update slices_IndexFunc_api_Update_api_Update_r3
  rw [slices_IndexFunc_api_Update_api_Update_l4, if_pos (by simp), show ix [u] 0 = some u from rfl]
  simp only [Option.bind_some, h]
  cases b with
  | true => rfl
  | false =>
    rw [if_neg (by decide), slices_IndexFunc_api_Update_api_Update_l4, if_neg (by show ¬ decide (IntKind.i64.wrap (0 + 1) < 1) = true; decide)]
    rfl
def wfU (u : M26) : Prop := wfInt .u64 u.f0 ∧ wfInt .i64 u.f1 ∧ wfInt .u64 u.f2 ∧ wfInt .i64 u.f3 ∧ wfInt .u32 u.f4 ∧ wfInt .u64 u.f5 ∧ wfSl (wfInt .u8) u.f6
theorem letC1 (k : Nat) (u : M26) (b : Bool) (h : letter_update u = some b) : letter_Check (k + 2) [u] = some (if b then 0 else 4) := by
  have h1 : letter_updates_1 u = some (!b) := by unfold letter_updates_1; rw [h]; rfl
  unfold letter_Check letter_Check_r2 letter_bare letter_bare_1 letter_bare_2 letter_bare_4 letter_bare_5 letter_bare_14 letter_Same letter_Same_r2 bytes_Equal_2 letter_updates
  simp only [Option.bind_some, eqf1, idx1 k u _ h1]
  cases b <;> rfl
def chkP (u : M26) : Int := if ((u.f3 != 2) && (u.f3 != 3)) = true then 1
  else if (decide ((u.f6.length : Int) > 2048)) = true then 6
  else if ((!((decide (u.f0 > 0)) == true)) || ((decide (u.f1 < 1)) || ((decide (u.f1 > 6)) || ((u.f2 == 0) || ((u.f3 == 2) && (decide (u.f5 > 0))))))) = true then 4
  else 0
theorem chkP_if (u : M26) : some (chkP u) = if ((u.f3 != 2) && (u.f3 != 3)) = true then some 1
  else if (decide ((u.f6.length : Int) > 2048)) = true then some 6
  else if ((!((decide (u.f0 > 0)) == true)) || ((decide (u.f1 < 1)) || ((decide (u.f1 > 6)) || ((u.f2 == 0) || ((u.f3 == 2) && (decide (u.f5 > 0))))))) = true then some 4
  else some 0 := by
  unfold chkP
  split
  · rfl
  · split
    · rfl
    · split <;> rfl
theorem check_is (k : Nat) (u : M26) (hu : wfU u) : update_check (k + 2) u = some (chkP u) := by
  obtain ⟨h0, h1, h2, h3, h4, h5, h6⟩ := hu
  have h0 := wfInt_u64.1 h0
  have h2 := wfInt_u64.1 h2
  have h5 := wfInt_u64.1 h5
  rw [chkP_if]
  unfold update_check update_writes update_writes_r2
  obtain ⟨b, hb⟩ : ∃ b, letter_update u = some b := by unfold letter_update; split <;> (try split) <;> exact ⟨_, rfl⟩
  rw [letC1 k u b hb]
  unfold letter_update at hb
  by_cases k2 : u.f3 = 2
  · simp only [k2] at hb ⊢
    by_cases hl : (u.f6.length : Int) > 2048
    · simp [hl]
    · by_cases a0 : u.f0 = 0 <;> by_cases a1 : u.f1 < 1 <;> by_cases a2 : u.f1 > 6 <;> by_cases a3 : u.f2 < 1 <;> by_cases a5 : u.f5 = 0 <;> simp [hl, a0, a1, a2, a3, a5] at hb ⊢ <;> (try subst hb) <;> simp <;> (try (intros; omega)) <;> (try (rw [if_pos (by omega), if_neg (by omega)]))
  · by_cases k3 : u.f3 = 3
    · simp only [k3] at hb ⊢
      by_cases hl : (u.f6.length : Int) > 2048
      · simp [hl]
      · by_cases a0 : u.f0 = 0 <;> by_cases a1 : u.f1 < 1 <;> by_cases a2 : u.f1 > 6 <;> by_cases a3 : u.f2 < 1 <;> simp [hl, a0, a1, a2, a3] at hb ⊢ <;> (try subst hb) <;> simp <;> (try (intros; omega)) <;> (try (rw [if_pos (by omega), if_neg (by omega)]))
    · simp [k2, k3]
theorem chkP_0 {u : M26} (h : chkP u = 0) : 0 < u.f0 ∧ u.f6.length ≤ 2048 := by
  unfold chkP at h
  split at h
  · cases h
  · split at h
    · cases h
    · split at h
      · cases h
      · rename_i h1 h2 h3
        simp at h2 h3
        omega
/-- updates that are numbered one by one from behind lo on -/
def Seqs (lo : Int) (L : List M26) : Prop := ∀ (i : Nat) x, L[i]? = some x → x.f0 = lo + i + 1
/-- no update bears too much -/
def Small (L : List M26) : Prop := ∀ x ∈ L, x.f6.length ≤ 2048
theorem Seqs.tail {lo : Int} {x : M26} {L : List M26} (h : Seqs lo (x :: L)) : Seqs (lo + 1) L := fun i y hy => by
  have := h (i + 1) y (by simpa using hy)
  omega
theorem Seqs.head {lo : Int} {x : M26} {L : List M26} (h : Seqs lo (x :: L)) : x.f0 = lo + 1 := by
  have := h 0 x rfl
  omega
theorem Seqs.drop {lo : Int} {L : List M26} (h : Seqs lo L) (n : Nat) : Seqs (lo + n) (L.drop n) := fun i x hx => by
  rw [List.getElem?_drop] at hx
  have := h (n + i) x hx
  omega
theorem Seqs.snoc {lo : Int} {L : List M26} (h : Seqs lo L) {u : M26} (hu : u.f0 = lo + L.length + 1) : Seqs lo (L ++ [u]) := fun i x hx => by
  rw [List.getElem?_append] at hx
  split at hx
  · exact h i x hx
  · have hl := (List.getElem?_eq_some_iff.1 hx).1
    simp at hl
    have : i = L.length := by omega
    subst this
    simp at hx
    subst hx
    exact hu
theorem Seqs.gt {lo : Int} {L : List M26} (h : Seqs lo L) : ∀ x ∈ L, lo < x.f0 := fun x hx => by
  obtain ⟨i, hi⟩ := List.getElem?_of_mem hx
  have := h i x hi
  omega
theorem Seqs.above : ∀ {L : List M26} {lo t : Int}, Seqs lo L → lo ≤ t → L.filter (fun x => decide (t < x.f0)) = L.drop (t - lo).toNat := by
  intro L
  induction L with
  | nil => intro lo t _ _; simp
  | cons x L ih =>
    intro lo t h hlt
    have hx := h.head
    by_cases he : t = lo
    · subst he
      rw [show (t - t).toNat = 0 by omega, List.drop_zero]
      exact List.filter_eq_self.2 fun y hy => by simpa using h.gt y hy
    · rw [List.filter_cons_of_neg (by simp; omega), ih h.tail (by omega), show (t - lo).toNat = (t - (lo + 1)).toNat + 1 by omega, List.drop_succ_cons]
theorem Seqs.upto : ∀ {L : List M26} {lo t : Int}, Seqs lo L → lo ≤ t → L.filter (fun x => decide (x.f0 ≤ t)) = L.take (t - lo).toNat := by
  intro L
  induction L with
  | nil => intro lo t _ _; simp
  | cons x L ih =>
    intro lo t h hlt
    have hx := h.head
    by_cases he : t = lo
    · subst he
      rw [show (t - t).toNat = 0 by omega, List.take_zero]
      exact List.filter_eq_nil_iff.2 fun y hy => by have := h.gt y hy; simp; omega
    · rw [List.filter_cons_of_pos (by simp; omega), ih h.tail (by omega), show (t - lo).toNat = (t - (lo + 1)).toNat + 1 by omega, List.take_succ_cons]
theorem clone_is (xs : List Int) (h : xs.length ≤ 4000000000) : bytes_Clone xs = some xs := by
  unfold bytes_Clone
  rw [app_some (by simp; omega)]; rfl
theorem copy_l (L : List M26) (hl : L.length ≤ 100000) (hs : Small L) : ∀ (j i : Nat) (acc : List M26), L.length - i < j → i ≤ L.length → acc.length ≤ i → update_pick_l11 L j acc i = some (acc ++ L.drop i) := by
  intro j
  induction j with
  | zero => intro i acc h; exact absurd h (by omega)
  | succ j ih =>
    intro i acc h hi ha
    rw [update_pick_l11]
    rcases place L i with ⟨x, hx, hd⟩ | ⟨hx, hd⟩
    · have hpl := (List.getElem?_eq_some_iff.1 hx).1
      have := hs x (List.mem_of_getElem? hx)
      rw [if_pos hd, ix_nat, hx]
      simp only [Option.bind_some, update_Copy_1, if_true, clone_is x.f6 (by omega)]
      rw [app_some (by simp; omega)]
      simp only [Option.bind_some, update_pick_r12]
      rw [next_i64 (by omega), ih (i + 1) _ (by omega) (by omega) (by simp; omega), drop_cons hx]
      simp
    · rw [if_neg (by rw [hd]; decide), List.drop_eq_nil_of_le (by omega)]; simp
theorem copy_is (L : List M26) (hl : L.length ≤ 100000) (hs : Small L) (k : Nat) (hk : L.length < k) : update_Copy k L = some L := by
  have h := copy_l L hl hs k 0 [] (by omega) (by omega) (by simp)
  rw [show ((0 : Nat) : Int) = 0 from rfl] at h
  unfold update_Copy update_pick update_pick_r10
  rw [h]; simp
theorem batch_l (L : List M26) (hl : L.length ≤ 100000) (hs : Small L) (t : Int) : ∀ (j i : Nat) (acc : List M26) (m : Int), L.length - i < j → i ≤ L.length → acc.length ≤ i → -9223372036854775808 ≤ m → m ≤ 9223372036854775807 →
    ∃ m', update_pick_2_l11 L t j acc i m = some (acc ++ ((L.drop i).filter (fun x => decide (t < x.f0))).take m.toNat, m') := by
  intro j
  induction j with
  | zero => intro i acc m h; exact absurd h (by omega)
  | succ j ih =>
    intro i acc m h hi ha hm0 hm1
    rw [update_pick_2_l11]
    rcases place L i with ⟨x, hx, hd⟩ | ⟨hx, hd⟩
    · have hpl := (List.getElem?_eq_some_iff.1 hx).1
      have := hs x (List.mem_of_getElem? hx)
      rw [if_pos hd, ix_nat, hx, drop_cons hx]
      simp only [Option.bind_some, update_Batch_1]
      by_cases hc : t < x.f0 ∧ 1 ≤ m
      · rw [if_neg (by simp; omega)]
        simp only [Option.bind_some, if_true, clone_is x.f6 (by omega)]
        rw [app_some (by simp; omega), w64 (by omega) (by omega)]
        simp only [Option.bind_some, update_pick_2_r12]
        rw [next_i64 (by omega)]
        obtain ⟨m', h2⟩ := ih (i + 1) (acc ++ [M26.mk x.f0 x.f1 x.f2 x.f3 x.f4 x.f5 x.f6]) (m - 1) (by omega) (by omega) (by simp; omega) (by omega) (by omega)
        refine ⟨m', ?_⟩
        rw [h2, List.filter_cons_of_pos (by simpa using hc.1), show m.toNat = (m - 1).toNat + 1 by omega, List.take_succ_cons]
        simp
      · rw [if_pos (by simp; omega)]
        simp only [Option.bind_some, Bool.false_eq_true, if_false, update_pick_2_r12]
        rw [next_i64 (by omega)]
        obtain ⟨m', h2⟩ := ih (i + 1) acc m (by omega) (by omega) (by omega) hm0 hm1
        refine ⟨m', ?_⟩
        rw [h2]
        by_cases hf : t < x.f0
        · rw [List.filter_cons_of_pos (by simpa using hf), show m.toNat = 0 by omega]; simp
        · rw [List.filter_cons_of_neg (by simpa using hf)]
    · rw [if_neg (by rw [hd]; decide), List.drop_eq_nil_of_le (by omega)]
      exact ⟨m, by simp⟩
theorem batch_is (L : List M26) (hl : L.length ≤ 100000) (hs : Small L) (t m : Int) (hm0 : -9223372036854775808 ≤ m) (hm1 : m ≤ 9223372036854775807) (k : Nat) (hk : L.length < k) : update_Batch k L t m = some ((L.filter (fun x => decide (t < x.f0))).take m.toNat) := by
  obtain ⟨m', h⟩ := batch_l L hl hs t k 0 [] m (by omega) (by omega) (by simp) hm0 hm1
  rw [show ((0 : Nat) : Int) = 0 from rfl] at h
  unfold update_Batch update_pick_2 update_pick_2_r10
  rw [h]; simp
/-- the state of a window -/
structure Win (lo dn : Int) (L : List M26) : Prop where
  sq : Seqs lo L
  sm : Small L
  l0 : 0 ≤ lo
  l1 : lo ≤ dn
  l2 : dn ≤ lo + L.length
  l3 : lo + L.length ≤ 4611686018427487904
  l4 : L.length ≤ 50000
theorem end_is {lo : Int} {L : List M26} (h0 : 0 ≤ lo) (h3 : lo + L.length ≤ 4611686018427487904) : window_Window_End lo L = some (lo + L.length) := by
  unfold window_Window_End window_Window_End_r2
  rw [wu64 (n := (L.length : Int)) (by omega) (by omega), wu64 (by omega) (by omega)]
/-- from where on updates stay -/
def lowOf (lo dn e : Int) : Int := if e < 32 then lo else (if (if e - 32 < dn then e - 32 else dn) > lo then (if e - 32 < dn then e - 32 else dn) else lo)
theorem lowOf_in {lo dn e : Int} (h1 : lo ≤ dn) (h2 : dn ≤ e) : lo ≤ lowOf lo dn e ∧ lowOf lo dn e ≤ dn := by
  unfold lowOf
  split
  · omega
  · split
    · split at * <;> omega
    · omega
theorem trim_is {lo dn : Int} {L : List M26} (h : Win lo dn L) : window_Window_trim lo dn L = some (lowOf lo dn (lo + L.length), L.drop (lowOf lo dn (lo + L.length) - lo).toNat) := by
  obtain ⟨a1, a2, h0, h1, h2, h3, h4⟩ := h
  have hin := lowOf_in h1 h2
  unfold window_Window_trim window_Window_trim_r4 window_Window_trim_r3
  rw [end_is h0 h3, Option.bind_some]
  by_cases hc : lo + L.length < 32
  · rw [if_pos (by simpa using hc)]
    unfold lowOf
    rw [if_pos hc]; simp
  · rw [if_neg (by simpa using hc), wu64 (n := lo + L.length - 32) (by omega) (by omega)]
    have he : lowOf lo dn (lo + L.length) = (if (if lo + L.length - 32 < dn then lo + L.length - 32 else dn) > lo then (if lo + L.length - 32 < dn then lo + L.length - 32 else dn) else lo) := by
      unfold lowOf; rw [if_neg hc]
    rw [← he]
    generalize lowOf lo dn (lo + L.length) = q at *
    rw [wu64 (n := q - lo) (by omega) (by omega), w64 (by omega) (by omega), show q - lo = (((q - lo).toNat : Nat) : Int) by omega]
    have hsl : sl L (((q - lo).toNat : Nat) : Int) (L.length : Int) = some (L.drop (q - lo).toNat) := by
      unfold sl
      rw [if_pos ⟨by omega, by omega, by omega⟩]
      simp only [Int.toNat_natCast, Option.some.injEq]
      exact List.take_of_length_le (by simp)
    rw [hsl, Option.bind_some, app_some (by simp; omega)]
    simp
    omega
theorem Win.trim {lo dn : Int} {L : List M26} (h : Win lo dn L) : Win (lowOf lo dn (lo + L.length)) dn (L.drop (lowOf lo dn (lo + L.length) - lo).toNat) := by
  obtain ⟨a1, a2, h0, h1, h2, h3, h4⟩ := h
  have hin := lowOf_in h1 h2
  generalize lowOf lo dn (lo + L.length) = q at *
  refine ⟨?_, fun x hx => a2 x (List.mem_of_mem_drop hx), by omega, hin.2, ?_, ?_, ?_⟩
  · have := a1.drop (q - lo).toNat
    rwa [show lo + (((q - lo).toNat : Nat) : Int) = q by omega] at this
  · rw [List.length_drop]; omega
  · rw [List.length_drop]; omega
  · rw [List.length_drop]; omega
theorem Win.ends {lo dn : Int} {L : List M26} (h : Win lo dn L) : lowOf lo dn (lo + L.length) + (L.drop (lowOf lo dn (lo + L.length) - lo).toNat).length = lo + L.length := by
  obtain ⟨a1, a2, h0, h1, h2, h3, h4⟩ := h
  have hin := lowOf_in h1 h2
  rw [List.length_drop]; omega
theorem Win.snoc {lo dn : Int} {L : List M26} (h : Win lo dn L) {u : M26} (hu : u.f0 = lo + L.length + 1) (hs : u.f6.length ≤ 2048) (h3 : lo + L.length < 4611686018427487904) (h4 : L.length < 50000) : Win lo dn (L ++ [u]) := by
  refine ⟨h.sq.snoc hu, fun x hx => ?_, h.l0, h.l1, ?_, ?_, ?_⟩
  · rcases List.mem_append.1 hx with hx | hx
    · exact h.sm x hx
    · rw [List.mem_singleton.1 hx]; exact hs
  · have := h.l2; rw [List.length_append]; simp; omega
  · rw [List.length_append]; simp; omega
  · rw [List.length_append]; simp; omega
/-- what comes of an update that is added -/
def addP (lo dn : Int) (L : List M26) (u : M26) : Int × Int × List M26 :=
  if chkP u ≠ 0 then (chkP u, lo, L) else if u.f0 - 1 ≠ lo + L.length then (12, lo, L)
  else (0, lowOf lo dn (lo + L.length + 1), (L ++ [u]).drop (lowOf lo dn (lo + L.length + 1) - lo).toNat)
theorem add_is {lo dn : Int} {L : List M26} (h : Win lo dn L) (u : M26) (hu : wfU u) (h3 : lo + L.length < 4611686018427487904) (h4 : L.length < 50000) (k : Nat) (hk : 5 ≤ k) : window_Window_Add k lo dn L u = some (addP lo dn L u) := by
  obtain ⟨k, rfl⟩ : ∃ m, k = m + 2 := ⟨k - 2, by omega⟩
  unfold window_Window_Add update_Check addP
  rw [check_is k u hu]
  have hu0 := wfInt_u64.1 hu.1
  simp only [Option.bind_some]
  by_cases hc : chkP u = 0
  · obtain ⟨g1, g2⟩ := chkP_0 hc
    rw [if_neg (by simp [hc]), if_neg (by simp [hc]), end_is h.l0 h.l3, Option.bind_some, wu64 (n := u.f0 - 1) (by omega) (by omega), Option.bind_some]
    unfold window_Window_Add_r4 window_Window_Add_r3
    by_cases he : u.f0 - 1 = lo + L.length
    · have hw := h.snoc (u := u) (by omega) g2 h3 h4
      have ht := trim_is hw
      rw [show lo + ((L ++ [u]).length : Int) = lo + L.length + 1 by rw [List.length_append]; simp; omega] at ht
      rw [if_neg (by simp [he]), if_neg (by simp [he]), copy_is [u] (by simp) (fun x hx => by rw [List.mem_singleton.1 hx]; exact g2) _ (by simp)]
      have := h.l4
      simp only [Option.bind_some]
      rw [app_some (by simp; omega)]
      simp only [Option.bind_some, ht]
    · rw [if_pos (by simpa using he), if_pos he]
  · rw [if_pos (by simpa using hc), if_pos hc]
theorem Win.add {lo dn : Int} {L : List M26} (h : Win lo dn L) (u : M26) (h3 : lo + L.length < 4611686018427487904) (h4 : L.length < 50000) : Win (addP lo dn L u).2.1 dn (addP lo dn L u).2.2 ∧ (addP lo dn L u).2.1 + (addP lo dn L u).2.2.length ≤ lo + L.length + 1 ∧ (addP lo dn L u).2.2.length ≤ L.length + 1 := by
  unfold addP
  split
  · exact ⟨h, by show lo + L.length ≤ _; omega, by show L.length ≤ _; omega⟩
  · rename_i hc
    have hc : chkP u = 0 := by omega
    obtain ⟨g1, g2⟩ := chkP_0 hc
    split
    · exact ⟨h, by show lo + L.length ≤ _; omega, by show L.length ≤ _; omega⟩
    · have hw := h.snoc (u := u) (by omega) g2 h3 h4
      have ht := hw.trim
      have he := hw.ends
      rw [show lo + ((L ++ [u]).length : Int) = lo + L.length + 1 by rw [List.length_append]; simp; omega] at ht he
      refine ⟨ht, by rw [he]; exact Int.le_refl _, ?_⟩
      simp only [List.length_drop, List.length_append, List.length_cons, List.length_nil]; omega
/-- how far a window is done behind Reach -/
def dnOf (lo dn : Int) (L : List M26) (d : Int) : Int := if (if lo + L.length < d then lo + L.length else d) > dn then (if lo + L.length < d then lo + L.length else d) else dn
theorem dnOf_in {lo dn : Int} {L : List M26} (h : Win lo dn L) (d : Int) : dn ≤ dnOf lo dn L d ∧ dnOf lo dn L d ≤ lo + L.length := by
  have := h.l2
  unfold dnOf
  split
  · split at * <;> omega
  · omega
theorem Win.dn {lo dn dn' : Int} {L : List M26} (h : Win lo dn L) (h1 : dn ≤ dn') (h2 : dn' ≤ lo + L.length) : Win lo dn' L := ⟨h.sq, h.sm, h.l0, by have := h.l1; omega, h2, h.l3, h.l4⟩
theorem reach_is {lo dn : Int} {L : List M26} (h : Win lo dn L) (d : Int) (hd : 0 ≤ d) (k : Nat) (hk : L.length < k) : window_Window_Reach k lo dn L d = some ((L.drop (dn - lo).toNat).take (dnOf lo dn L d - dn).toNat, lowOf lo (dnOf lo dn L d) (lo + L.length), dnOf lo dn L d, L.drop (lowOf lo (dnOf lo dn L d) (lo + L.length) - lo).toNat) := by
  obtain ⟨d1, d2⟩ := dnOf_in h d
  unfold window_Window_Reach window_Window_Reach_r2
  rw [end_is h.l0 h.l3, Option.bind_some]
  have e : (if (if lo + L.length < d then lo + L.length else d) > dn then (if lo + L.length < d then lo + L.length else d) else dn) = dnOf lo dn L d := rfl
  rw [e]
  have h0 := h.l0
  have h1 := h.l1
  have h3 := h.l3
  have h4 := h.l4
  rw [wu64 (n := dnOf lo dn L d - dn) (by omega) (by omega), w64 (by omega) (by omega), batch_is L (by omega) h.sm _ _ (by omega) (by omega) k hk, h.sq.above h.l1]
  simp only [Option.bind_some]
  rw [trim_is (h.dn d1 d2)]
  rfl
theorem ref_same_l (xs : List Int) (hl : xs.length ≤ 100000) : ∀ j i : Nat, xs.length - i < j → i ≤ xs.length → catenaryref01_Same_l11 xs xs j i = some (.inr ()) := by
  intro j
  induction j with
  | zero => intro i h; exact absurd h (by omega)
  | succ j ih =>
    intro i h hi
    rw [catenaryref01_Same_l11]
    rcases place xs i with ⟨x, hx, hd⟩ | ⟨hx, hd⟩
    · have hpl := (List.getElem?_eq_some_iff.1 hx).1
      rw [if_pos hd, ix_nat, hx]
      simp only [Option.bind_some, bne_self_eq_false, catenaryref01_Same_r12, Bool.false_eq_true, if_false]
      rw [next_i64 (by omega)]
      exact ih (i + 1) (by omega) (by omega)
    · rw [if_neg (by rw [hd]; decide)]
theorem ref_same (xs : List Int) (hl : xs.length ≤ 100000) (k : Nat) (hk : xs.length < k) : catenaryref01_Same k xs xs = some true := by
  have h := ref_same_l xs hl k 0 (by omega) (by omega)
  rw [show ((0 : Nat) : Int) = 0 from rfl] at h
  unfold catenaryref01_Same
  rw [if_neg (by simp), h]
  rfl
theorem ref_sameU (u : M26) (hl : u.f6.length ≤ 100000) (k : Nat) (hk : u.f6.length < k) : catenaryref10_SameUpdate k u u = some true := by
  unfold catenaryref10_SameUpdate catenaryref10_SameUpdate_r2
  simp only [beq_self_eq_true, if_true, ref_same u.f6 hl k hk, Option.bind_some]
theorem sames_l (L : List M26) (hl : L.length ≤ 100000) (hs : Small L) (k : Nat) (hk : 3000 ≤ k) : ∀ j i : Nat, L.length - i < j → i ≤ L.length → catenaryref10_SameUpdates_l11 k L L j i = some (.inr ()) := by
  intro j
  induction j with
  | zero => intro i h; exact absurd h (by omega)
  | succ j ih =>
    intro i h hi
    rw [catenaryref10_SameUpdates_l11]
    rcases place L i with ⟨x, hx, hd⟩ | ⟨hx, hd⟩
    · have hpl := (List.getElem?_eq_some_iff.1 hx).1
      have := hs x (List.mem_of_getElem? hx)
      rw [if_pos hd, ix_nat, hx]
      simp only [Option.bind_some, ref_sameU x (by omega) k (by omega), Bool.not_true, catenaryref10_SameUpdates_r12, Bool.false_eq_true, if_false]
      rw [next_i64 (by omega)]
      exact ih (i + 1) (by omega) (by omega)
    · rw [if_neg (by rw [hd]; decide)]
theorem sames (L : List M26) (hl : L.length ≤ 100000) (hs : Small L) (k : Nat) (hk : 3000 ≤ k) (hk2 : L.length < k) : catenaryref10_SameUpdates k L L = some true := by
  have h := sames_l L hl hs k hk k 0 (by omega) (by omega)
  rw [show ((0 : Nat) : Int) = 0 from rfl] at h
  unfold catenaryref10_SameUpdates
  rw [if_neg (by simp), h]
  rfl
theorem refbatch_l (L : List M26) (hl : L.length ≤ 100000) (t m : Int) : ∀ (j i : Nat) (acc : List M26), L.length - i < j → i ≤ L.length → acc.length ≤ i →
    catenaryref17_Batch_l25 L t m j acc i = some (acc ++ ((L.drop i).filter (fun x => decide (t < x.f0))).take (m - acc.length).toNat) := by
  intro j
  induction j with
  | zero => intro i acc h; exact absurd h (by omega)
  | succ j ih =>
    intro i acc h hi ha
    rw [catenaryref17_Batch_l25]
    rcases place L i with ⟨x, hx, hd⟩ | ⟨hx, hd⟩
    · have hpl := (List.getElem?_eq_some_iff.1 hx).1
      rw [if_pos hd, ix_nat, hx, drop_cons hx]
      simp only [Option.bind_some]
      by_cases hc : t < x.f0
      · rw [if_pos (by simpa using hc), List.filter_cons_of_pos (by simpa using hc)]
        by_cases hm : (acc.length : Int) < m
        · simp only [hm, decide_true, Option.bind_some, catenaryref17_Batch_r28, if_true]
          rw [ix_nat, hx]
          simp only [Option.bind_some]
          rw [app_some (by simp; omega)]
          simp only [Option.bind_some, catenaryref17_Batch_r27]
          rw [next_i64 (by omega), ih (i + 1) (acc ++ [x]) (by omega) (by omega) (by simp; omega), show (m - acc.length).toNat = (m - (acc ++ [x]).length).toNat + 1 by simp; omega, List.take_succ_cons]
          simp
        · simp only [hm, decide_false, Option.bind_some, catenaryref17_Batch_r28, Bool.false_eq_true, if_false, catenaryref17_Batch_r27]
          rw [next_i64 (by omega), ih (i + 1) acc (by omega) (by omega) (by omega), show (m - acc.length).toNat = 0 by omega]
          simp
      · rw [if_neg (by simpa using hc), List.filter_cons_of_neg (by simpa using hc)]
        simp only [Option.bind_some, catenaryref17_Batch_r28, Bool.false_eq_true, if_false, catenaryref17_Batch_r27]
        rw [next_i64 (by omega), ih (i + 1) acc (by omega) (by omega) (by omega)]
    · rw [if_neg (by rw [hd]; decide), List.drop_eq_nil_of_le (by omega)]; simp
theorem refbatch_is (L : List M26) (hl : L.length ≤ 100000) (t m : Int) (k : Nat) (hk : L.length < k) : catenaryref17_Batch k L t m = some ((L.filter (fun x => decide (t < x.f0))).take m.toNat) := by
  have h := refbatch_l L hl t m k 0 [] (by omega) (by omega) (by simp)
  rw [show ((0 : Nat) : Int) = 0 from rfl] at h
  unfold catenaryref17_Batch catenaryref17_Batch_r24
  rw [h]; simp
theorem kept_l (w : M58) (hl : w.f3.length ≤ 100000) (q : Int) : ∀ (j i : Nat) (acc : List M26), w.f3.length - i < j → i ≤ w.f3.length → acc.length ≤ i →
    catenaryref20_kept_l13 w q j acc i = some (acc ++ (w.f3.drop i).filter (fun x => decide (q < x.f0))) := by
  intro j
  induction j with
  | zero => intro i acc h; exact absurd h (by omega)
  | succ j ih =>
    intro i acc h hi ha
    rw [catenaryref20_kept_l13]
    rcases place w.f3 i with ⟨x, hx, hd⟩ | ⟨hx, hd⟩
    · have hpl := (List.getElem?_eq_some_iff.1 hx).1
      rw [if_pos hd, ix_nat, hx, drop_cons hx]
      simp only [Option.bind_some]
      by_cases hc : x.f0 > q
      · rw [if_pos (by simpa using hc), List.filter_cons_of_pos (by simpa using hc), app_some (by simp; omega)]
        simp only [Option.bind_some, catenaryref20_kept_r14]
        rw [next_i64 (by omega), ih (i + 1) (acc ++ [x]) (by omega) (by omega) (by simp; omega)]
        simp
      · rw [if_neg (by simpa using hc), List.filter_cons_of_neg (by simpa using hc)]
        simp only [Option.bind_some, catenaryref20_kept_r14]
        rw [next_i64 (by omega), ih (i + 1) acc (by omega) (by omega) (by omega)]
    · rw [if_neg (by rw [hd]; decide), List.drop_eq_nil_of_le (by omega)]; simp
/-- the document's window of a state -/
@[reducible] def refW (lo dn : Int) (L : List M26) : M58 := M58.mk lo (lo + L.length) dn L
theorem kept_is {lo dn : Int} {L : List M26} (h : Win lo dn L) (k : Nat) (hk : L.length < k) : catenaryref20_kept k (refW lo dn L) = some (refW (lowOf lo dn (lo + L.length)) dn (L.drop (lowOf lo dn (lo + L.length) - lo).toNat)) := by
  have he := h.ends
  obtain ⟨a1, a2, h0, h1, h2, h3, h4⟩ := h
  have hin := lowOf_in h1 h2
  unfold refW
  rw [he]
  unfold catenaryref20_kept
  dsimp only
  by_cases hc : lo + L.length < 32
  · rw [if_pos (by simpa using hc)]
    unfold lowOf
    rw [if_pos hc]; simp
  · rw [if_neg (by simpa using hc), wu64 (n := lo + L.length - 32) (by omega) (by omega)]
    have hq : ((if decide (dn < lo + L.length - 32) = true then some dn else some (lo + L.length - 32) : Option Int).bind fun s937 => catenaryref20_kept_r16 k (M58.mk lo (lo + L.length) dn L) s937) = catenaryref20_kept_r15 k (M58.mk lo (lo + L.length) dn L) (lowOf lo dn (lo + L.length)) := by
      unfold catenaryref20_kept_r16 lowOf
      rw [if_neg hc]
      by_cases c1 : dn < lo + L.length - 32
      · rw [if_pos (by simpa using c1)]
        simp only [Option.bind_some]
        rw [if_neg (by simp; omega)]
        simp only [Option.bind_some]
        congr 1
        split
        · split at * <;> omega
        · split at * <;> omega
      · rw [if_neg (by simpa using c1)]
        simp only [Option.bind_some]
        by_cases c2 : lo + L.length - 32 < lo
        · rw [if_pos (by simpa using c2)]
          simp only [Option.bind_some]
          congr 1
          split
          · first | (split at * <;> omega) | omega
          · first | rfl | omega | (split at * <;> omega)
        · rw [if_neg (by simpa using c2)]
          simp only [Option.bind_some]
          congr 1
          split
          · split at * <;> omega
          · split at * <;> omega
    rw [hq]
    unfold catenaryref20_kept_r15 catenaryref20_kept_r12
    have hk2 := kept_l (M58.mk lo (lo + L.length) dn L) (by show L.length ≤ 100000; omega) (lowOf lo dn (lo + L.length)) k 0 [] (by show L.length - 0 < k; omega) (Nat.zero_le _) (Nat.le_refl _)
    rw [show ((0 : Nat) : Int) = 0 from rfl] at hk2
    rw [hk2]
    simp only [Option.bind_some, List.nil_append, List.drop_zero]
    rw [a1.above hin.1]
theorem refadd_is {lo dn : Int} {L : List M26} (h : Win lo dn L) (u : M26) (hu : wfU u) (h3 : lo + L.length < 4611686018427487904) (h4 : L.length < 50000) (k : Nat) (hk : L.length + 1 < k) : catenaryref20_Add k (refW lo dn L) u = some (refW (addP lo dn L u).2.1 dn (addP lo dn L u).2.2, (addP lo dn L u).1) := by
  have hc0 : catenaryref17_Check u = some (chkP u) := by
    unfold catenaryref17_Check catenaryref17_check
    rw [← chkP_if]; rfl
  have hu0 := wfInt_u64.1 hu.1
  unfold catenaryref20_Add addP
  rw [hc0]
  simp only [Option.bind_some]
  by_cases hc : chkP u = 0
  · obtain ⟨g1, g2⟩ := chkP_0 hc
    have hwp : IntKind.u64.wrap (u.f0 - 1) = u.f0 - 1 := wu64 (by omega) (by omega)
    simp only [hc, hwp, bne_self_eq_false, Bool.false_eq_true, if_false, ne_eq, not_true_eq_false]
    by_cases he : u.f0 - 1 = lo + L.length
    · have hw := h.snoc (u := u) (by omega) g2 h3 h4
      have hl : lo + ((L ++ [u]).length : Int) = lo + L.length + 1 := by rw [List.length_append]; simp; omega
      have ht := kept_is hw k (by simp; omega)
      have := h.l4
      simp only [he, bne_self_eq_false, Bool.false_eq_true, if_false, not_true_eq_false]
      rw [app_some (by simp; omega)]
      simp only [Option.bind_some, List.nil_append]
      rw [app_some (by simp; omega)]
      simp only [Option.bind_some, catenaryref20_Add_r2]
      rw [show M58.mk lo u.f0 dn (L ++ [u]) = refW lo dn (L ++ [u]) by unfold refW; rw [hl]; congr 1; omega, ht, hl]
      rfl
    · rw [if_pos (by simpa using he)]
      simp only [he, not_false_eq_true, if_true]
  · rw [if_pos (by simpa using hc)]
    simp only [hc, ne_eq, not_false_eq_true, if_true]
theorem refreach_l (w : M58) (hl : w.f3.length ≤ 100000) (q : Int) : ∀ (j i : Nat) (acc : List M26), w.f3.length - i < j → i ≤ w.f3.length → acc.length ≤ i →
    catenaryref20_Reach_l27 w q j acc i = some (acc ++ (w.f3.drop i).filter (fun x => decide (x.f0 ≤ q) && decide (w.f2 < x.f0))) := by
  intro j
  induction j with
  | zero => intro i acc h; exact absurd h (by omega)
  | succ j ih =>
    intro i acc h hi ha
    rw [catenaryref20_Reach_l27]
    rcases place w.f3 i with ⟨x, hx, hd⟩ | ⟨hx, hd⟩
    · have hpl := (List.getElem?_eq_some_iff.1 hx).1
      rw [if_pos hd, ix_nat, hx, drop_cons hx]
      simp only [Option.bind_some]
      by_cases hc : x.f0 > w.f2 ∧ x.f0 ≤ q
      · rw [if_pos (by simpa using hc.1), List.filter_cons_of_pos (by simp; omega)]
        simp only [Option.bind_some, hc.2, decide_true, catenaryref20_Reach_r30, if_true]
        rw [ix_nat, hx]
        simp only [Option.bind_some]
        rw [app_some (by simp; omega)]
        simp only [Option.bind_some, catenaryref20_Reach_r29]
        rw [next_i64 (by omega), ih (i + 1) (acc ++ [x]) (by omega) (by omega) (by simp; omega)]
        simp
      · rw [List.filter_cons_of_neg (by simp; omega)]
        have hb : (if decide (x.f0 > w.f2) = true then some (decide (x.f0 ≤ q)) else some false : Option Bool) = some false := by
          by_cases c1 : x.f0 > w.f2
          · rw [if_pos (by simpa using c1)]; simp; omega
          · rw [if_neg (by simpa using c1)]
        rw [hb]
        simp only [Option.bind_some, catenaryref20_Reach_r30, Bool.false_eq_true, if_false, catenaryref20_Reach_r29]
        rw [next_i64 (by omega), ih (i + 1) acc (by omega) (by omega) (by omega)]
    · rw [if_neg (by rw [hd]; decide), List.drop_eq_nil_of_le (by omega)]; simp
theorem refreach_is {lo dn : Int} {L : List M26} (h : Win lo dn L) (d : Int) (hd : 0 ≤ d) (k : Nat) (hk : L.length < k) : catenaryref20_Reach k (refW lo dn L) d = some (refW (lowOf lo (dnOf lo dn L d) (lo + L.length)) (dnOf lo dn L d) (L.drop (lowOf lo (dnOf lo dn L d) (lo + L.length) - lo).toNat), (L.drop (dn - lo).toNat).take (dnOf lo dn L d - dn).toNat) := by
  obtain ⟨d1, d2⟩ := dnOf_in h d
  have h2 := h.l2
  have h4 := h.l4
  have hq : catenaryref20_Reach k (refW lo dn L) d = catenaryref20_Reach_r31 k (refW lo dn L) (dnOf lo dn L d) := by
    unfold catenaryref20_Reach catenaryref20_Reach_r32 refW dnOf
    dsimp only
    by_cases c1 : d > lo + L.length
    · rw [if_pos (by simpa using c1)]
      simp only [Option.bind_some]
      by_cases c2 : lo + (L.length : Int) < dn
      · omega
      · rw [if_neg (by simpa using c2)]
        simp only [Option.bind_some]
        congr 1
        split
        · split at * <;> omega
        · split at * <;> omega
    · rw [if_neg (by simpa using c1)]
      simp only [Option.bind_some]
      by_cases c2 : d < dn
      · rw [if_pos (by simpa using c2)]
        simp only [Option.bind_some]
        congr 1
        split
        · split at * <;> omega
        · first | rfl | omega | (split at * <;> omega)
      · rw [if_neg (by simpa using c2)]
        simp only [Option.bind_some]
        congr 1
        split
        · split at * <;> omega
        · split at * <;> omega
  rw [hq]
  unfold catenaryref20_Reach_r31 catenaryref20_Reach_r26
  have hr := refreach_l (refW lo dn L) (by show L.length ≤ 100000; omega) (dnOf lo dn L d) k 0 [] (by show L.length - 0 < k; omega) (Nat.zero_le _) (Nat.le_refl _)
  rw [show ((0 : Nat) : Int) = 0 from rfl] at hr
  rw [hr]
  have hw := h.dn d1 d2
  have hk2 := kept_is hw k hk
  simp only [Option.bind_some, List.nil_append, List.drop_zero]
  rw [show M58.mk (refW lo dn L).f0 (refW lo dn L).f1 (dnOf lo dn L d) (refW lo dn L).f3 = refW lo (dnOf lo dn L d) L from rfl, hk2, Option.bind_some]
  have hf : (refW lo dn L).f3.filter (fun x => decide (x.f0 ≤ dnOf lo dn L d) && decide ((refW lo dn L).f2 < x.f0)) = (L.drop (dn - lo).toNat).take (dnOf lo dn L d - dn).toNat := by
    have h1 := h.l1
    rw [← List.filter_filter]
    show (L.filter (fun x => decide (dn < x.f0))).filter (fun x => decide (x.f0 ≤ dnOf lo dn L d)) = _
    rw [h.sq.above h1]
    have hs := h.sq.drop (dn - lo).toNat
    rw [show lo + (((dn - lo).toNat : Nat) : Int) = dn by omega] at hs
    exact hs.upto d1
  rw [hf]
theorem from_both {lo dn : Int} {L : List M26} (h : Win lo dn L) (got most : Int) (hm0 : -9223372036854775808 ≤ most) (hm1 : most ≤ 9223372036854775807) (k : Nat) (hk : L.length < k) : ∃ (R : List M26) (b : Bool), window_Window_From k lo L got most = some (R, b) ∧ catenaryref20_From k (refW lo dn L) got most = some (R, b) ∧ Small R ∧ R.length ≤ L.length := by
  have h4 := h.l4
  unfold window_Window_From window_Window_From_r2 catenaryref20_From
  rw [end_is h.l0 h.l3]
  dsimp only
  by_cases c1 : got < lo ∨ got > lo + L.length
  · refine ⟨[], false, ?_, ?_, (fun x hx => by cases hx), by simp⟩
    · have : (if decide (got < lo) = true then some true else (some (lo + (L.length : Int))).bind fun y80 => some (decide (got > y80)) : Option Bool) = some true := by
        by_cases c2 : got < lo
        · rw [if_pos (by simpa using c2)]
        · rw [if_neg (by simpa using c2)]; simp; omega
      rw [this]; rfl
    · rw [if_pos (by simp; omega)]
  · refine ⟨(L.filter (fun x => decide (got < x.f0))).take most.toNat, true, ?_, ?_, ?_, ?_⟩
    · have : (if decide (got < lo) = true then some true else (some (lo + (L.length : Int))).bind fun y80 => some (decide (got > y80)) : Option Bool) = some false := by
        rw [if_neg (by simp; omega)]; simp; omega
      rw [this, Option.bind_some, if_neg (by decide), batch_is L (by omega) h.sm got most hm0 hm1 k hk]; rfl
    · rw [if_neg (by simp; omega), refbatch_is L (by omega) got most k hk]; rfl
    · intro x hx
      exact h.sm x (List.mem_filter.1 (List.mem_of_mem_take hx)).1
    · refine Nat.le_trans (List.length_take_le' _ _) (List.length_filter_le _ _)
theorem same_is {lo dn : Int} {L : List M26} (h : Win lo dn L) : catenarylaw20_same lo dn L (refW lo dn L) = some true := by
  unfold catenarylaw20_same catenarylaw20_same_r2 window_Window_Low window_Window_Room window_Window_Dirty window_Window_Done window_Window_Held
  rw [end_is h.l0 h.l3]
  simp only [Option.bind_some, beq_self_eq_true, if_true]
theorem one_wf {e : Int} (h : 0 ≤ e) (h2 : e < 4611686018427487904) : wfU (M26.mk (e + 1) 1 1 2 0 0 []) :=
  ⟨wfInt_u64.2 ⟨by show 0 ≤ e + 1; omega, by show e + 1 ≤ _; omega⟩, (show wfInt .i64 (1 : Int) by decide), (show wfInt .u64 (1 : Int) by decide), (show wfInt .i64 (2 : Int) by decide), (show wfInt .u32 (0 : Int) by decide), (show wfInt .u64 (0 : Int) by decide), by simp, fun x hx => by cases hx⟩
theorem plays_add_l (o : M51) (ho : 0 ≤ o.f1 ∧ o.f1 ≤ 255) (dn : Int) : ∀ (j a : Nat) (lo : Int) (L : List M26), 50 - a < j → a ≤ 50 → Win lo dn L → lo + L.length + (50 - a : Nat) ≤ 4611686018427400000 → L.length + (50 - a) ≤ 2900 →
    ∃ (lo' : Int) (L' : List M26), catenarylaw20_WindowPlays_l130 3000 o dn j a lo (lo + L.length) dn L lo L = some (.inr (lo', lo' + L'.length, dn, L', lo', L')) ∧ Win lo' dn L' ∧ lo' + L'.length ≤ lo + L.length + (50 - a : Nat) ∧ L'.length ≤ L.length + (50 - a) := by
  intro j
  induction j with
  | zero => intro a lo L h; exact absurd h (by omega)
  | succ j ih =>
    intro a lo L h ha hw h1 h2
    rw [catenarylaw20_WindowPlays_l130, w64 (n := o.f1) (by omega) (by omega)]
    have ht : o.f1.tmod 50 < 50 := Int.tmod_lt_of_pos _ (by decide)
    have h0 := hw.l0
    by_cases hc : (a : Int) < o.f1.tmod 50
    · have g1 := one_wf (e := lo + L.length) (by omega) (by omega)
      rw [if_pos (by simpa using hc), wu64 (n := lo + L.length + 1) (by omega) (by omega)]
      unfold catenarylaw20_one
      simp only [Option.bind_some]
      rw [show M58.mk lo (lo + L.length) dn L = refW lo dn L from rfl, refadd_is hw _ g1 (by omega) (by omega) 3000 (by omega)]
      simp only [Option.bind_some]
      unfold catenarylaw20_WindowPlays_r131 catenarylaw20_one
      rw [wu64 (n := lo + L.length + 1) (by omega) (by omega)]
      simp only [Option.bind_some]
      rw [add_is hw _ g1 (by omega) (by omega) 3000 (by omega)]
      simp only [Option.bind_some, bne_self_eq_false, Bool.false_eq_true, if_false]
      rw [next_i64 (by omega)]
      obtain ⟨k1, k2, k3⟩ := hw.add (M26.mk (lo + L.length + 1) 1 1 2 0 0 []) (by omega) (by omega)
      obtain ⟨lo', L', e1, e2, e3, e4⟩ := ih (a + 1) _ _ (by omega) (by omega) k1 (by omega) (by omega)
      exact ⟨lo', L', e1, e2, by omega, by omega⟩
    · rw [if_neg (by simpa using hc)]
      exact ⟨lo, L, rfl, hw, by omega, by omega⟩
theorem awake20 : catenarylaw20_awake 3000 = some true := by kernel_rfl
theorem tail_is (rec : Int → Int → Int → Int → (List M26) → Int → Int → (List M26) → Option (Sum Bool Unit)) (o : M51) (ho : wfInt .i64 o.f4) (i : Nat) (hi : i < 1000) {lo dn : Int} {L : List M26} (h : Win lo dn L) (hl : L.length ≤ 2900) : catenarylaw20_WindowPlays_r125 3000 rec o i lo (lo + L.length) dn L lo dn L = rec ((i + 1 : Nat) : Int) lo (lo + L.length) dn L lo dn L := by
  have hm := wfInt_i64.1 ho
  unfold catenarylaw20_WindowPlays_r125
  generalize IntKind.u64.wrap (IntKind.u64.wrap (lo + L.length + 1) - (IntKind.u64.wrap o.f3).tmod 60) = got
  obtain ⟨R, b, e1, e2, e3, e4⟩ := from_both h got o.f4 hm.1 hm.2 3000 (by omega)
  rw [show M58.mk lo (lo + L.length) dn L = refW lo dn L from rfl, e1, e2, same_is h]
  simp only [Option.bind_some, Bool.not_true, Bool.false_eq_true, if_false]
  rw [sames R (by omega) e3 3000 (by omega) (by omega)]
  simp only [Option.bind_some, Bool.not_true, Bool.false_eq_true, if_false, beq_self_eq_true]
  unfold catenarylaw20_WindowPlays_r124
  rw [if_neg (by decide), next_i64 (by omega)]
theorem plays_l (x2 : List M51) (hl : x2.length ≤ 9223372036854775807) (hw1 : ∀ o ∈ x2, (0 ≤ o.f1 ∧ o.f1 ≤ 255) ∧ wfU o.f2 ∧ wfInt .i64 o.f4) : ∀ (j i : Nat) (lo dn : Int) (L : List M26), 40 - i < j → i ≤ 40 → Win lo dn L → lo + L.length ≤ 4611686018427387904 + 50 * i → L.length ≤ 50 * i →
    catenarylaw20_WindowPlays_l116 3000 x2 j i lo (lo + L.length) dn L lo dn L = some (.inr ()) ∨ catenarylaw20_WindowPlays_l116 3000 x2 j i lo (lo + L.length) dn L lo dn L = some (.inl true) := by
  intro j
  induction j with
  | zero => intro i lo dn L h; exact absurd h (by omega)
  | succ j ih =>
    intro i lo dn L h hi hw h1 h2
    rw [catenarylaw20_WindowPlays_l116]
    by_cases hc : i < x2.length ∧ i < 40
    · have e : ((decide ((i : Int) < (x2.length : Int))) && (decide ((i : Int) < 40))) = true := by simp; omega
      have hg : x2[i]? = some (x2[i]'(by omega)) := List.getElem?_eq_getElem (by omega)
      generalize (x2[i]'(by omega)) = o at hg
      obtain ⟨ho1, ho2, ho4⟩ := hw1 o (List.mem_of_getElem? hg)
      rw [if_pos e, ix_nat, hg, Option.bind_some]
      have h0 := hw.l0
      have q1 := hw.l1
      have q2 := hw.l2
      by_cases hf : (o.f2.f6.length : Int) > 2100
      · rw [if_pos (by simpa using hf), awake20]
        exact .inr rfl
      rw [if_neg (by simpa using hf)]
      by_cases k0 : (o.f0 == 0) = true
      · rw [if_pos k0]
        obtain ⟨lo1, L1, e1, w1, b1, b2⟩ := plays_add_l o ho1 dn 3000 0 lo L (by omega) (by omega) hw (by omega) (by omega)
        rw [show ((0 : Nat) : Int) = 0 from rfl] at e1
        rw [e1]
        simp only [Option.bind_some, catenarylaw20_WindowPlays_r129]
        rw [tail_is _ o ho4 i (by omega) w1 (by omega)]
        exact ih (i + 1) lo1 dn L1 (by omega) (by omega) w1 (by omega) (by omega)
      rw [if_neg k0]
      by_cases k1 : (o.f0 == 1) = true
      · rw [if_pos k1, show M58.mk lo (lo + L.length) dn L = refW lo dn L from rfl, refadd_is hw o.f2 ho2 (by omega) (by omega) 3000 (by omega), Option.bind_some, add_is hw o.f2 ho2 (by omega) (by omega) 3000 (by omega)]
        obtain ⟨w1, b1, b2⟩ := hw.add o.f2 (by omega) (by omega)
        simp only [Option.bind_some, bne_self_eq_false, Bool.false_eq_true, if_false]
        rw [tail_is _ o ho4 i (by omega) w1 (by omega)]
        exact ih (i + 1) _ dn _ (by omega) (by omega) w1 (by omega) (by omega)
      rw [if_neg k1]
      obtain ⟨d, hd, hd0⟩ : ∃ d : Int, (if (o.f0 == 2) = true then some (IntKind.u64.wrap (dn + ((IntKind.u64.wrap (o.f1)).tmod 20))) else some (IntKind.u64.wrap (o.f1)) : Option Int) = some d ∧ 0 ≤ d := by
        have ht : 0 ≤ o.f1.tmod 20 ∧ o.f1.tmod 20 < 20 := ⟨Int.tmod_nonneg _ ho1.1, Int.tmod_lt_of_pos _ (by decide)⟩
        rw [wu64 (n := o.f1) (by omega) (by omega)]
        split
        · exact ⟨_, rfl, by rw [wu64 (by omega) (by omega)]; omega⟩
        · exact ⟨_, rfl, ho1.1⟩
      rw [hd, Option.bind_some]
      unfold catenarylaw20_WindowPlays_r132
      rw [show M58.mk lo (lo + L.length) dn L = refW lo dn L from rfl, refreach_is hw d hd0 3000 (by omega), Option.bind_some, reach_is hw d hd0 3000 (by omega)]
      obtain ⟨d1, d2⟩ := dnOf_in hw d
      generalize dnOf lo dn L d = dn' at *
      have w2 := hw.dn d1 d2
      have w3 := w2.trim
      have w4 := w2.ends
      obtain ⟨t1, t2⟩ := lowOf_in w2.l1 w2.l2
      generalize lowOf lo dn' (lo + L.length) = lo2 at *
      simp only [Option.bind_some]
      have hR : ((L.drop (dn - lo).toNat).take (dn' - dn).toNat).length ≤ L.length := Nat.le_trans (List.length_take_le' _ _) (by rw [List.length_drop]; omega)
      rw [sames _ (by omega) (fun x hx => hw.sm x (List.mem_of_mem_drop (List.mem_of_mem_take hx))) 3000 (by omega) (by omega)]
      simp only [Option.bind_some, Bool.not_true, Bool.false_eq_true, if_false]
      have hlen : (L.drop (lo2 - lo).toNat).length = L.length - (lo2 - lo).toNat := List.length_drop
      rw [tail_is _ o ho4 i (by omega) w3 (by omega)]
      exact ih (i + 1) lo2 dn' _ (by omega) (by omega) w3 (by omega) (by omega)
    · have e : ((decide ((i : Int) < (x2.length : Int))) && (decide ((i : Int) < 40))) = false := by
        rw [Bool.eq_false_iff]; intro hh; simp at hh; omega
      rw [if_neg (by rw [e]; decide)]
      exact .inl rfl
theorem pureWindowPlays (at0 : Int) (l : List M51) (ha : wfInt .u64 at0) (hl : wfSl (fun x : M51 => wfInt .i64 x.f0 ∧ wfInt .u8 x.f1 ∧ (fun u : M26 => wfInt .u64 u.f0 ∧ wfInt .i64 u.f1 ∧ wfInt .u64 u.f2 ∧ wfInt .i64 u.f3 ∧ wfInt .u32 u.f4 ∧ wfInt .u64 u.f5 ∧ wfSl (wfInt .u8) u.f6) x.f2 ∧ wfInt .u8 x.f3 ∧ wfInt .i64 x.f4) l) : ∃ k, catenarylaw20_WindowPlays k at0 l = some true := by
  refine ⟨3000, ?_⟩
  have ha := wfInt_u64.1 ha
  unfold catenarylaw20_WindowPlays window_New catenaryref20_New
  by_cases hc : at0 > 4611686018427387904
  · rw [if_pos (by simpa using hc), awake20]; rfl
  · rw [if_neg (by simpa using hc)]
    have h := plays_l l hl.1 (fun o ho => ⟨wfInt_u8.1 (hl.2 o ho).2.1, (hl.2 o ho).2.2.1, (hl.2 o ho).2.2.2.2⟩) 3000 0 at0 at0 [] (by omega) (by omega) ⟨(fun i x hx => by simp at hx), (fun x hx => by cases hx), ha.1, Int.le_refl _, (by simp), (by simp; omega), (by simp)⟩ (by simp; omega) (by simp)
    rw [show ((0 : Nat) : Int) = 0 from rfl, show at0 + (([] : List M26).length : Int) = at0 by simp] at h
    simp only [Option.bind_some]
    rcases h with h | h
    · rw [h]; simp only [Option.bind_some, catenarylaw20_WindowPlays_r115, awake20]
    · rw [h]; rfl
end Go.Proofs.YtfpllbnljlbepaaGreatDoor.Sx
