/- The plain law of CallerPlays. Conditions: those ahead of each colon. -/
import Derived.Test.YteiinkhbgpldeaaGreatDoorPScan
import Derived.Test.YteiinkhbgpldeaaGreatDoorPLet
import Derived.Test.YteiinkhbgpldeaaGreatDoorPLetB
import Derived.Test.YteiinkhbgpldeaaGreatDoorPAtl
set_option linter.unusedSimpArgs false
set_option linter.unusedVariables false
namespace Go.Proofs.YteiinkhbgpldeaaGreatDoor.Sx
open Go
abbrev wfO (o : M26) : Prop := wfInt .i64 o.f0 ∧ wfInt .u32 o.f1 ∧ wfInt .u64 o.f2 ∧ wfSl (wfInt .u8) o.f3 ∧ wfInt .i64 o.f4
abbrev wfCm (c : M41) : Prop := wfInt .i64 c.f0 ∧ wfInt .i64 c.f1 ∧ wfInt .u64 c.f2 ∧ wfInt .i64 c.f3
abbrev wfCf (c : M44) : Prop := wfInt .i64 c.f0 ∧ wfInt .u64 c.f1 ∧ wfSl (wfInt .i64) c.f2 ∧ wfBool c.f3 ∧ wfInt .i64 c.f4
abbrev wfVt (v : M156) : Prop := wfInt .i64 v.f0 ∧ wfInt .u64 v.f1 ∧ wfCm v.f2
abbrev wfUp (u : M96) : Prop := wfInt .u64 u.f0 ∧ wfInt .i64 u.f1 ∧ wfInt .u64 u.f2 ∧ wfInt .i64 u.f3 ∧ wfInt .u32 u.f4 ∧ wfInt .u64 u.f5 ∧ wfSl (wfInt .u8) u.f6
abbrev wfLt (x : M48) : Prop := wfInt .i64 x.f0 ∧ wfInt .i64 x.f1 ∧ wfInt .i64 x.f2 ∧ wfInt .i64 x.f3 ∧ wfInt .u64 x.f4 ∧ wfInt .u64 x.f5 ∧ wfInt .u64 x.f6 ∧ wfInt .u64 x.f7 ∧ wfInt .u64 x.f8 ∧ wfInt .u64 x.f9 ∧ wfInt .i64 x.f10 ∧ wfInt .u32 x.f11 ∧ wfInt .i64 x.f12 ∧ wfCm x.f13 ∧ wfCf x.f14 ∧ wfSl wfVt x.f15 ∧ wfSl wfUp x.f16 ∧ wfSl (wfInt .u8) x.f17
theorem QmA {x : M48} (h : wfLt x) : WfL x := by
  obtain ⟨_, _, _, _, _, _, _, _, _, _, _, _, _, hc, hf, hv, hu, _⟩ := h
  exact ⟨(Qef.1 hf.2.1).1, (Qef.1 hc.2.2.1).1, fun v hm => (Qef.1 (hv.2 v hm).2.2.2.2.1).1, fun u hm => ⟨(Qef.1 (hu.2 u hm).1).1, (Qef.1 (hu.2 u hm).2.2.1).1, (Qef.1 (hu.2 u hm).2.2.2.2.2.1).1⟩⟩
theorem farL (x : M48) : ∀ j i : Nat, 9 - i < j → i ≤ 9 → ∃ r, catenarylaw14_Far_l4 x j i = some r ∧ (r = .inr () → ∀ (m : Nat) (u : M96), i ≤ m → m < 9 → x.f16[m]? = some u → u.f6.length ≤ 2100) := by
  intro j
  induction j with
  | zero => intro i h; exact absurd h (by omega)
  | succ j ih =>
    intro i h hi
    rw [catenarylaw14_Far_l4]
    rcases place x.f16 i with ⟨u, hu, hd⟩ | ⟨hl, hd⟩
    · rw [hd]
      by_cases hc : i < 9
      · rw [if_pos (by simp; omega), Q8, hu, Option.bind_some]
        by_cases hz : decide ((u.f6.length : Int) > 2100) = true
        · rw [if_pos hz]; exact ⟨_, rfl, fun h => by cases h⟩
        · rw [if_neg hz, Qac (by omega)]
          obtain ⟨r, e1, e2⟩ := ih (i + 1) (by omega) (by omega)
          refine ⟨r, e1, fun hr m v hm h9 hv => ?_⟩
          by_cases hmi : m = i
          · subst hmi; rw [hu] at hv; cases hv
            have : ¬ (u.f6.length : Int) > 2100 := by simpa using hz
            omega
          · exact e2 hr m v (by omega) h9 hv
      · rw [if_neg (by simp; omega)]; exact ⟨_, rfl, fun _ m v hm h9 _ => absurd h9 (by omega)⟩
    · rw [hd, if_neg (by simp)]
      exact ⟨_, rfl, fun _ m v hm h9 hv => by rw [List.getElem?_eq_none (by omega)] at hv; cases hv⟩
theorem QmP (x : M48) : ∃ b, QbD 3000 x = some b ∧ (b = false → ShortR x ∧ x.f14.f2.length ≤ 30 ∧ x.f17.length ≤ 2100) := by
  unfold QbD Qc7
  obtain ⟨r, hr, hb⟩ := farL x 3000 0 (by omega) (by omega)
  rw [show ((0 : Nat) : Int) = 0 from rfl] at hr
  rw [hr, Option.bind_some]
  cases r with
  | inl z =>
    cases z with
    | true => exact ⟨true, rfl, fun h => by cases h⟩
    | false =>
      have key : ∀ j i, catenarylaw14_Far_l4 x j i ≠ some (.inl false) := by
        intro j
        induction j with
        | zero => intro i h; rw [catenarylaw14_Far_l4] at h; cases h
        | succ j ih =>
          intro i h
          rw [catenarylaw14_Far_l4] at h
          split at h
          · cases hx : ix x.f16 i with
            | none => rw [hx] at h; cases h
            | some u =>
              rw [hx, Option.bind_some] at h
              split at h
              · cases h
              · exact ih _ h
          · cases h
      exact absurd hr (key _ _)
  | inr z =>
    refine ⟨_, rfl, fun hf => ?_⟩
    simp only [Bool.or_eq_false_iff, decide_eq_false_iff_not] at hf
    obtain ⟨h1, h2, h3, h4⟩ := hf
    have hu := hb rfl
    refine ⟨⟨⟨by omega, by omega, by omega⟩, by omega, fun u hm => ?_⟩, by omega, by omega⟩
    obtain ⟨m, hlt, hm⟩ := List.mem_iff_getElem.1 hm
    have := hu m u (by omega) (by omega) (by rw [List.getElem?_eq_getElem hlt, hm])
    omega
theorem Qnh (u : M96) : chk (M48.mk 17 1 1 0 1 0 0 0 0 0 0 0 0 (M41.mk 0 0 0 0) (M44.mk 0 0 [] false 0) [] [u] []) = if updP true u = true then 0 else 4 := by
  have b17 : bitsK 17 = 8195 := by kernel_rfl
  have t17 : tagsK 17 = [7, 9, 5] := by kernel_rfl
  have hb : bareP 8195 (M48.mk 17 1 1 0 1 0 0 0 0 0 0 0 0 (M41.mk 0 0 0 0) (M44.mk 0 0 [] false 0) [] [u] []) = M48.mk 17 1 1 0 1 0 0 0 0 0 0 0 0 (M41.mk 0 0 0 0) (M44.mk 0 0 [] false 0) [] [u] [] := by kernel_rfl
  unfold chk
  simp only [b17, t17, hb]
  simp [knownP, sameB, cmdB, confB, eqL, beqS, updB, fineP, updsP, show addrP 1 = true by decide]
theorem Ql2 (o : M26) (c n : Int) (hl : o.f3.length ≤ 2900) (h2 : 0 ≤ o.f2) (hn : 0 ≤ n) : Qde 3000 o c n = QG o c n := by
  unfold Qde Qd7 QaI QgB QgA QfN Qep QG QaX QbX
  rw [Qdp (by simp; omega)]
  simp only [Option.bind_some, List.nil_append]
  rw [Qlr _ ⟨by simp, by simp, by simp⟩ (by simp), Qnh]
  simp only [Option.bind_some]
  unfold updP Qbc
  by_cases k2 : o.f0 = 2
  · have a1 : (o.f0 == 2) = true := by simp [k2]
    have a2 : (o.f0 != 2) = false := by simp [k2]
    have a3 : (o.f0 != 3) = true := by simp [k2]
    simp only [a1, a2, a3, if_true, Option.bind_some, Bool.not_true, Bool.false_eq_true, if_false, Bool.false_and, Bool.true_and, Bool.or_false, cond_true]
    have e1 : (n == 0) = decide (n < 1) := by rw [Bool.eq_iff_iff]; simp; omega
    have e2 : decide (o.f2 > 0) = (o.f2 != 0) := by rw [Bool.eq_iff_iff]; simp; omega
    rw [e1, e2]
    by_cases hd : decide ((o.f3.length : Int) > 2048) = true
    · rw [if_pos hd, if_pos hd]
    · have hd' : decide ((o.f3.length : Int) ≤ 2048) = true := by simp at hd ⊢; omega
      rw [if_neg hd, if_neg hd, hd']
      cases decide (c < 1) <;> cases decide (c > 6) <;> cases decide (n < 1) <;> cases (o.f2 != 0) <;> rfl
  · by_cases k3 : o.f0 = 3
    · have a1 : (o.f0 == 2) = false := by simp [k3]
      have a2 : (o.f0 != 2) = true := by simp [k3]
      have a3 : (o.f0 != 3) = false := by simp [k3]
      have a4 : (o.f0 == 3) = true := by simp [k3]
      simp only [a1, a2, a3, a4, if_true, Option.bind_some, Bool.not_true, Bool.false_eq_true, if_false, Bool.false_and, Bool.true_and, Bool.or_false, cond_false]
      have e1 : (n == 0) = decide (n < 1) := by rw [Bool.eq_iff_iff]; simp; omega
      rw [e1]
      by_cases hd : decide ((o.f3.length : Int) > 2048) = true
      · rw [if_pos hd, if_pos hd]
      · have hd' : decide ((o.f3.length : Int) ≤ 2048) = true := by simp at hd ⊢; omega
        rw [if_neg hd, if_neg hd, hd']
        cases decide (c < 1) <;> cases decide (c > 6) <;> cases decide (n < 1) <;> rfl
    · have a1 : (o.f0 == 2) = false := by simp [k2]
      have a2 : (o.f0 != 2) = true := by simp [k2]
      have a3 : (o.f0 != 3) = true := by simp [k3]
      have a4 : (o.f0 == 3) = false := by simp [k3]
      simp only [a1, a2, a3, a4, Bool.false_eq_true, if_false, Option.bind_some, Bool.not_false, if_true, Bool.and_self]
theorem QjE (o : M26) (c n : Int) (hl : o.f3.length ≤ 2100) : ∃ u e, QG o c n = some (u, e) ∧ u.f6.length ≤ 2100 := by
  unfold QG
  obtain ⟨e, he⟩ : ∃ e, QaX (M96.mk 0 c n o.f0 o.f1 o.f2 o.f3) = some e := by
    unfold QaX QbX
    split <;> (try split) <;> (try split) <;> exact ⟨_, rfl⟩
  rw [he, Option.bind_some]
  split
  · exact ⟨_, _, rfl, by simp⟩
  · exact ⟨_, _, rfl, hl⟩
structure Ok (m : Nat) (r : M60) (i : Nat) : Prop where
  cl : 1 ≤ r.f0 ∧ r.f0 ≤ 6
  ma : 1 ≤ r.f1 ∧ r.f1 ≤ 5
  inv : Inv m r.f4
  num : 0 ≤ r.f2 ∧ r.f2 ≤ i
  tk : 0 ≤ r.f3 ∧ r.f3 ≤ i
  op : wfInt .u32 r.f5.f1 ∧ 0 ≤ r.f5.f2 ∧ r.f5.f3.length ≤ 2100
  re : r.f6 ≠ 2 → r.f7 = M51.mk 0 0 []
  rl : r.f7.f2.length ≤ 2100
  ll : r.f9.f2.length ≤ 2100
theorem Ok.le {m i j : Nat} {r : M60} (h : Ok m r i) (hij : i ≤ j) : Ok m r j :=
  ⟨h.cl, h.ma, h.inv, ⟨h.num.1, by have := h.num.2; omega⟩, ⟨h.tk.1, by have := h.tk.2; omega⟩, h.op, h.re, h.rl, h.ll⟩
theorem Qjp {m i : Nat} {r : M60} (h : Ok m r i) : ∃ c, Q7 3000 r.f4 r.f5.f1 = some c ∧ QU r = some c ∧ 0 ≤ c.f1 := by
  obtain ⟨p, c, e1, e2, e3, e4⟩ := Qm1 h.inv r.f5.f1 h.op.1 3000 (by omega)
  refine ⟨c, e4, ?_, (h.inv.w c (List.mem_of_getElem? e3)).1⟩
  unfold QU Qcg
  rw [e1, Option.bind_some, Q8, e3]
  rfl
theorem shortL (k f t a b c d e g h i j n : Int) (us : List M96) (hu : us.length ≤ 1) (hd : ∀ u ∈ us, u.f6.length ≤ 2900) : ShortR (M48.mk k f t a b c d e g h i j n (M41.mk 0 0 0 0) (M44.mk 0 0 [] false 0) [] us []) :=
  ⟨⟨by simp, by simp, by show us.length ≤ 2900; omega⟩, by simp, hd⟩
theorem Qjr {m i : Nat} {r : M60} (h : Ok m r i) : ∃ A, QK 3000 r.f0 r.f2 r.f4 r.f5.f0 r.f5.f1 r.f5.f2 r.f5.f3 r.f5.f4 = some A ∧ Q9 3000 r = some A ∧ A.length = 1 ∧ ∀ x ∈ A, ShortR x := by
  obtain ⟨c, e1, e2, h1⟩ := Qjp h
  unfold QK QcR Qc8 Qc9 Qda Qdb Qq Qey QdS Q9 Qc1 Qc0
  rw [e1, e2]
  simp only [Option.bind_some]
  obtain ⟨p, f1, f2⟩ := QlA c h1 r.f5.f4 3000 (by omega)
  obtain ⟨q, g1, g2⟩ := Qmx c h1 3000 (by omega)
  rw [f1, f2, g1, g2, Ql2 (M26.mk r.f5.f0 r.f5.f1 r.f5.f2 r.f5.f3 r.f5.f4) r.f0 r.f2 (by have := h.op.2.2; show r.f5.f3.length ≤ _; omega) h.op.2.1 h.num.1]
  obtain ⟨u, e, hu, hul⟩ := QjE (M26.mk r.f5.f0 r.f5.f1 r.f5.f2 r.f5.f3 r.f5.f4) r.f0 r.f2 h.op.2.2
  have hu' : QG r.f5 r.f0 r.f2 = some (u, e) := hu
  rw [hu]; try rw [hu']
  simp only [Option.bind_some]
  by_cases hk : (r.f5.f0 == 1) = true
  · rw [if_pos hk]; try rw [if_pos hk]
    exact ⟨_, rfl, rfl, rfl, fun x hx => by rw [List.mem_singleton.1 hx]; exact shortL _ _ _ _ _ _ _ _ _ _ _ _ _ _ (by simp) (fun u hu => by cases hu)⟩
  · rw [if_neg hk]; try rw [if_neg hk]
    exact ⟨_, rfl, rfl, rfl, fun x hx => by rw [List.mem_singleton.1 hx]; exact shortL _ _ _ _ _ _ _ _ _ _ _ _ _ _ (by simp) (fun v hv => by rw [List.mem_singleton.1 hv]; show u.f6.length ≤ 2900; omega)⟩
theorem Qi6 {m i : Nat} {r : M60} (h : Ok m r i) (o : M26) (ho : wfO o) (hl : o.f3.length ≤ 2100) (hi : i < 60) (hs : r.f6 ≠ 1) :
    (∃ e, e ≠ 0 ∧ Qat 3000 r.f0 r.f2 o = some e ∧ Qt 3000 r o = some (r, [], e)) ∨
    (∃ A r', Qat 3000 r.f0 r.f2 o = some 0 ∧ QK 3000 r.f0 (IntKind.u64.wrap (r.f2 + 1)) r.f4 o.f0 o.f1 o.f2 o.f3 o.f4 = some A ∧ Qt 3000 r o = some (r', A, 0) ∧ A.length = 1 ∧ (∀ x ∈ A, ShortR x) ∧ Ok m r' (i + 1) ∧
      r' = M60.mk r.f0 r.f1 (IntKind.u64.wrap (r.f2 + 1)) r.f3 r.f4 o 1 (M51.mk 0 0 []) r.f8 r.f9) := by
  have hn := h.num
  have hw : IntKind.u64.wrap (r.f2 + 1) = r.f2 + 1 := Qmz (by omega) (by omega)
  have o2 := (Qef.1 ho.2.2.1).1
  have hO : Ok m (M60.mk r.f0 r.f1 (IntKind.u64.wrap (r.f2 + 1)) r.f3 r.f4 o 1 (M51.mk 0 0 []) r.f8 r.f9) (i + 1) :=
    ⟨h.cl, h.ma, h.inv, by show 0 ≤ IntKind.u64.wrap (r.f2 + 1) ∧ _; rw [hw]; show 0 ≤ r.f2 + 1 ∧ r.f2 + 1 ≤ ((i + 1 : Nat) : Int); omega, by show 0 ≤ r.f3 ∧ r.f3 ≤ ((i + 1 : Nat) : Int); have := h.tk; omega, ⟨ho.2.1, o2, hl⟩, fun _ => rfl, by simp, h.ll⟩
  obtain ⟨A, a1, a2, a3, a4⟩ := Qjr hO
  have go : Qa6 3000 r o = some (M60.mk r.f0 r.f1 (IntKind.u64.wrap (r.f2 + 1)) r.f3 r.f4 o 1 (M51.mk 0 0 []) r.f8 r.f9, A, 0) := by
    unfold Qa6 Qcj
    rw [a2]; rfl
  obtain ⟨u, e, hu, _⟩ := QjE o r.f0 (IntKind.u64.wrap (r.f2 + 1)) hl
  have hq := Ql2 o r.f0 (IntKind.u64.wrap (r.f2 + 1)) (by omega) o2 (by rw [hw]; omega)
  unfold Qat Qcp Qcq Qt
  have hb : (r.f6 == 1) = false := by simpa using hs
  rw [hq, hu, go, hb]
  simp only [Bool.false_eq_true, if_false, Option.bind_some]
  by_cases k1 : o.f0 = 1
  · have b1 : (o.f0 == 1) = true := by simp [k1]
    have b2 : (decide (o.f0 < 1) || decide (o.f0 > 3)) = false := by simp [k1]
    have e1 : (o.f2 != 0) = decide (o.f2 > 0) := by rw [Bool.eq_iff_iff]; simp; omega
    simp only [b1, b2, e1, if_true, Bool.false_eq_true, if_false]
    cases hc : (decide (o.f2 > 0) || decide ((o.f3.length : Int) > 0)) with
    | true => exact .inl ⟨4, by decide, rfl, rfl⟩
    | false => exact .inr ⟨A, _, rfl, a1, rfl, a3, a4, hO, rfl⟩
  · have b1 : (o.f0 == 1) = false := by simpa using k1
    by_cases k23 : o.f0 = 2 ∨ o.f0 = 3
    · have b2 : (decide (o.f0 < 1) || decide (o.f0 > 3)) = false := by rcases k23 with k | k <;> simp [k]
      have b3 : (if (o.f0 == 2) = true then some (o.f0 == 2) else some (o.f0 == 3)) = some true := by rcases k23 with k | k <;> simp [k]
      simp only [b1, b2, b3, Bool.false_eq_true, if_false, Option.bind_some, if_true]
      by_cases he : e = 0
      · subst he
        exact .inr ⟨A, _, rfl, a1, rfl, a3, a4, hO, rfl⟩
      · have b4 : (e != 0) = true := by simpa using he
        simp only [b4, if_true]
        exact .inl ⟨e, he, rfl, rfl⟩
    · have n2 : (o.f0 == 2) = false := by simp; exact fun k => k23 (.inl k)
      have n3 : (o.f0 == 3) = false := by simp; exact fun k => k23 (.inr k)
      have b2 : (decide (o.f0 < 1) || decide (o.f0 > 3)) = true := by simp at n2 n3 k1 ⊢; omega
      simp only [b1, b2, n2, n3, Bool.false_eq_true, if_false, Option.bind_some, if_true]
      exact .inl ⟨1, by decide, rfl, rfl⟩
theorem Qee (xs : List Int) (h : xs.length ≤ 4000) : QaI xs = some xs := by unfold QaI; rw [Qdp (by simp; omega)]; rfl
theorem confsAll (L : List M44) (m : Nat) (h : Inv m L) : Qav 3000 L = some L ∧ QaA 3000 L L = some true := by
  have hlen := h.len
  have hhi := h.hi
  constructor
  · unfold Qav
    rw [Qjt L (by omega) (fun c hc => by have := (h.w c hc).2; omega) 3000 (by omega)]; rfl
  · unfold QaA
    rw [if_neg (by simp), Qi9 confB L L (by omega) rfl (catenaryref09_SameAll_l11 3000 L L) (fun j i x y hx hy hi => by
      rw [catenaryref09_SameAll_l11, if_pos (Qdq hi), Q8, hx]
      rw [hx] at hy
      cases hy
      have := (h.w x (List.mem_of_getElem? hx)).2
      simp only [Option.bind_some, Qkj x x (by omega) 3000 (by omega), Qbl]
      rw [Qac (by omega)]
      cases confB x x <;> rfl) (fun j => by rw [catenaryref09_SameAll_l11, if_neg (by rw [QbU (Nat.le_refl _)]; decide)]) 3000 (by omega), Qfl Qi5]
    rfl
theorem sameI (xs : List Int) (h : xs.length ≤ 2900) : Qz 3000 xs xs = some true := by rw [Qj1 xs xs (by omega) 3000 (by omega), QgI]
theorem QkY {m i : Nat} {r : M60} (h : Ok m r i) (h0 : r.f6 = 0) : Qbu 3000 r.f2 r.f4 r.f5.f0 r.f5.f1 r.f5.f2 r.f5.f3 r.f5.f4 r.f8 r.f9.f0 r.f9.f1 r.f9.f2 r = some true := by
  have ho := h.op.2.2
  have hl := h.ll
  obtain ⟨c1, c2⟩ := confsAll r.f4 m h.inv
  unfold Qbu Qb8 Qb9 Qca QcT Qce Qbi Qbh QaS
  rw [Qee [] (by simp), Qee r.f5.f3 (by omega), Qee r.f9.f2 (by omega), h0, h.re (by rw [h0]; decide)]
  simp only [Option.bind_some, bne_self_eq_false, Bool.false_eq_true, if_false, sameI r.f9.f2 (by omega), sameI [] (by simp), sameI r.f5.f3 (by omega), Bool.not_true, beq_self_eq_true, if_true, c1, c2]
  rfl
def dn (r : M60) : Int := if r.f6 = 1 then 0 else 1
theorem Qjz {m i : Nat} {r : M60} (h : Ok m r i) (h0 : r.f6 = 1 ∨ r.f6 = 2) : Q1 3000 r.f2 r.f4 r.f5.f0 r.f5.f1 r.f5.f2 r.f5.f3 r.f5.f4 (dn r) r.f7.f0 r.f7.f1 r.f7.f2 r.f8 r.f9.f0 r.f9.f1 r.f9.f2 r = some true := by
  have ho := h.op.2.2
  have hl := h.ll
  have hr := h.rl
  obtain ⟨c1, c2⟩ := confsAll r.f4 m h.inv
  unfold Q1 Qb5 Qb6 Qb7 QcS Qce Qbi Qbh QaS Qw QJ Qax
  rw [Qee r.f5.f3 (by omega), Qee r.f9.f2 (by omega)]
  rcases h0 with h0 | h0
  · have hd : dn r = 0 := by unfold dn; rw [if_pos h0]
    rw [hd, h0, h.re (by rw [h0]; decide)]
    simp only [Option.bind_some, bne_self_eq_false, Bool.not_false, if_true, Qee [] (by simp), Bool.false_eq_true, if_false, sameI r.f9.f2 (by omega), sameI [] (by simp), sameI r.f5.f3 (by omega), Bool.not_true, beq_self_eq_true, c1, c2]
    rfl
  · have hd : dn r = 1 := by unfold dn; rw [if_neg (by rw [h0]; decide)]
    rw [hd, h0]
    simp only [Option.bind_some, show ((1 : Int) != 0) = true from rfl, bne_self_eq_false, Bool.not_false, if_true, Qee r.f7.f2 (by omega), Bool.false_eq_true, if_false, sameI r.f9.f2 (by omega), sameI r.f7.f2 (by omega), sameI r.f5.f3 (by omega), Bool.not_true, beq_self_eq_true, c1, c2]
    rfl
def ticked (r : M60) : M60 := M60.mk r.f0 r.f1 r.f2 (IntKind.i64.wrap (r.f3 + 1)) r.f4 r.f5 r.f6 r.f7 r.f8 r.f9
theorem QgC {m i : Nat} {r : M60} (h : Ok m r i) (hi : i < 60) : Ok m (ticked r) (i + 1) := by
  have ht := h.tk
  have hw : IntKind.i64.wrap (r.f3 + 1) = r.f3 + 1 := w64 (by omega) (by omega)
  exact ⟨h.cl, h.ma, h.inv, by show 0 ≤ r.f2 ∧ r.f2 ≤ ((i + 1 : Nat) : Int); have := h.num; omega, by show 0 ≤ IntKind.i64.wrap (r.f3 + 1) ∧ IntKind.i64.wrap (r.f3 + 1) ≤ ((i + 1 : Nat) : Int); rw [hw]; omega, h.op, h.re, h.rl, h.ll⟩
theorem Qjw {r : M60} (h : r.f6 ≠ 1) : QN 3000 r = some (ticked r, []) := by
  unfold QN
  rw [if_pos (by simpa using h)]; rfl
theorem QkS {m i : Nat} {r : M60} (h : Ok m r i) (hi : i < 60) (h0 : r.f6 = 1 ∨ r.f6 = 2) : ∃ b, QaL 3000 r.f0 r.f1 r.f2 r.f3 r.f4 r.f5.f0 r.f5.f1 r.f5.f2 r.f5.f3 r.f5.f4 (dn r) r.f7.f0 r.f7.f1 r.f7.f2 = some (b, IntKind.i64.wrap (r.f3 + 1)) ∧ QN 3000 r = some (ticked r, b) ∧ b.length ≤ 2 ∧ ∀ x ∈ b, ShortR x := by
  unfold QaL Qw QJ Qax
  rcases h0 with h0 | h0
  · have hd : dn r = 0 := by unfold dn; rw [if_pos h0]
    rw [hd]
    simp only [Option.bind_some, bne_self_eq_false, Bool.not_false, if_true, Bool.not_true, Bool.false_eq_true, if_false]
    have hok := QgC h hi
    obtain ⟨c, e1, e2, h1⟩ := Qjp hok
    obtain ⟨A, a1, a2, a3, a4⟩ := Qjr hok
    have ht := h.tk
    have hma := h.ma
    have hw : IntKind.i64.wrap (r.f3 + 1) = r.f3 + 1 := w64 (by omega) (by omega)
    have q0 : 0 ≤ (r.f3 + 1).tmod r.f1 := Int.tmod_nonneg _ (by omega)
    have q1 : (r.f3 + 1).tmod r.f1 < r.f1 := Int.tmod_lt_of_pos _ (by omega)
    rw [if_neg (by simp; omega)]
    unfold Qq
    have e1' : Q7 3000 r.f4 r.f5.f1 = some c := e1
    have a1' : QK 3000 r.f0 r.f2 r.f4 r.f5.f0 r.f5.f1 r.f5.f2 r.f5.f3 r.f5.f4 = some A := a1
    rw [e1']
    simp only [Option.bind_some]
    unfold Qcb Qcc
    rw [a1', Option.bind_some, Qdp (by rw [a3]; simp), Option.bind_some, Option.bind_some]
    refine ⟨_, rfl, ?_, by rw [List.length_append, a3]; simp, fun x hx => ?_⟩
    · unfold QN
      rw [if_neg (by simpa using h0), if_neg (by simp; omega)]
      have a2' : Q9 3000 (M60.mk r.f0 r.f1 r.f2 (IntKind.i64.wrap (r.f3 + 1)) r.f4 r.f5 r.f6 r.f7 r.f8 r.f9) = some A := a2
      have e2' : QU (M60.mk r.f0 r.f1 r.f2 (IntKind.i64.wrap (r.f3 + 1)) r.f4 r.f5 r.f6 r.f7 r.f8 r.f9) = some c := e2
      rw [a2', e2', Option.bind_some, Option.bind_some, Qdp (by rw [a3]; simp)]
      unfold QcG
      rw [hw, w64 (n := 100 + (r.f3 + 1).tmod r.f1) (by omega) (by omega), w64 (n := 100 + (r.f3 + 1).tmod r.f1 + 1) (by omega) (by omega), w64 (n := 101 + (r.f3 + 1).tmod r.f1) (by omega) (by omega), show 100 + (r.f3 + 1).tmod r.f1 + 1 = 101 + (r.f3 + 1).tmod r.f1 by omega]
      show _ = some (ticked r, _)
      unfold ticked
      rw [hw]
      rfl
    · rw [List.mem_append] at hx
      rcases hx with hx | hx
      · exact a4 x hx
      · rw [List.mem_singleton.1 hx]; exact shortL _ _ _ _ _ _ _ _ _ _ _ _ _ _ (by simp) (fun u hu => by cases hu)
  · have hd : dn r = 1 := by unfold dn; rw [if_neg (by rw [h0]; decide)]
    rw [hd]
    simp only [Option.bind_some, show ((1 : Int) != 0) = true from rfl, Bool.not_true, Bool.false_eq_true, if_false, Bool.not_false, if_true]
    exact ⟨[], rfl, Qjw (by rw [h0]; decide), by simp, fun x hx => by cases hx⟩
def learnt (r : M60) (L : List M44) : M60 := M60.mk r.f0 r.f1 r.f2 r.f3 L r.f5 r.f6 r.f7 r.f8 r.f9
theorem QiE {m i : Nat} {r : M60} (h : Ok m r i) {L : List M44} (hL : Inv m L) : Ok m (learnt r L) i := ⟨h.cl, h.ma, hL, h.num, h.tk, h.op, h.re, h.rl, h.ll⟩
def answered (r : M60) (y : M51) : M60 := M60.mk r.f0 r.f1 r.f2 r.f3 r.f4 r.f5 2 y r.f2 y
theorem QiN {m i : Nat} {r : M60} (h : Ok m r i) {y : M51} (hy : y.f2.length ≤ 2100) : Ok m (answered r y) i := ⟨h.cl, h.ma, h.inv, h.num, h.tk, h.op, fun hn => absurd rfl hn, hy, hy⟩
theorem QiJ (d a b : Int) (c : List Int) : Qw d a b c = some (!(d != 0)) := by
  unfold Qw QJ Qax
  cases hd : (d != 0) <;> simp [hd]
theorem Qnx (a b c : Bool) : (if a = true then (if b = true then some c else some false) else some false : Option Bool) = some (a && (b && c)) := by cases a <;> cases b <;> rfl
theorem orE (a b : Bool) : (if a = true then some true else some b : Option Bool) = some (a || b) := by cases a <;> rfl
theorem QkU {m i : Nat} {r : M60} (h : Ok m r i) (h0 : r.f6 = 0) (x : M48) (hw : WfL x) (hs : ShortR x) (h30 : x.f14.f2.length ≤ 30) :
    ∃ L, Qbx 3000 r.f0 r.f2 r.f4 x = some ([], L) ∧ QO 3000 r x = some (learnt r L, []) ∧ Inv m L := by
  unfold Qbx QO
  rw [Qlr x hs.toShort hw.cf, Qls x hw hs]
  unfold Qq
  simp only [Option.bind_some, orE]
  cases hc : ((chk x != 0) || (x.f2 != IntKind.i64.wrap (200 + r.f0))) with
  | true => exact ⟨r.f4, rfl, rfl, h.inv⟩
  | false =>
    unfold QbH QbI QbJ QbK QbL Qa5 Qdr
    have hu : ∀ b c : Bool, (if b = true then (if c = true then some () else some ()) else some () : Option Unit) = some () := by intro b c; cases b <;> cases c <;> rfl
    simp only [Option.bind_some, Bool.false_eq_true, if_false, hu]
    by_cases k11 : (x.f0 == 11) = true
    · obtain ⟨b, L, l1, l2, l3⟩ := Qkm h.inv x.f14 hw.cf h30 3000 (by omega)
      simp only [k11, if_true]
      rw [l1, l2]
      simp only [Option.bind_some]
      refine ⟨L, by cases b <;> rfl, ?_, l3⟩
      have h1 : (r.f6 == 1) = false := by simp [h0]
      rw [h1]
      cases b <;> rfl
    · simp only [Bool.not_eq_true] at k11
      simp only [k11, Bool.false_eq_true, if_false]
      refine ⟨r.f4, ?_, ?_, h.inv⟩
      · split
        · rfl
        · split <;> rfl
      · have h1 : (r.f6 != 1) = true := by simp [h0]
        rw [h1]
        rfl
theorem QkT {m i : Nat} {r : M60} (h : Ok m r i) (h0 : r.f6 = 1 ∨ r.f6 = 2) (x : M48) (hw : WfL x) (hs : ShortR x) (h30 : x.f14.f2.length ≤ 30) (h17 : x.f17.length ≤ 2100) :
    ∃ b r', Qbw 3000 r.f0 r.f2 r.f4 r.f5.f0 r.f5.f1 r.f5.f2 r.f5.f3 r.f5.f4 (dn r) (dn r) r.f7.f0 r.f7.f1 r.f7.f2 r.f8 r.f9.f0 r.f9.f1 r.f9.f2 x = some (b, r'.f8, r'.f9.f0, r'.f9.f1, r'.f9.f2, r'.f4, dn r', dn r', r'.f7.f0, r'.f7.f1, r'.f7.f2) ∧
      QO 3000 r x = some (r', b) ∧ Ok m r' i ∧ (r'.f6 = 1 ∨ r'.f6 = 2) ∧ b.length ≤ 2 ∧ (∀ y ∈ b, ShortR y) ∧ r'.f0 = r.f0 ∧ r'.f1 = r.f1 ∧ r'.f2 = r.f2 ∧ r'.f3 = r.f3 ∧ r'.f5 = r.f5 := by
  unfold Qbw QO
  rw [Qlr x hs.toShort hw.cf, Qls x hw hs]
  unfold Qq
  simp only [Option.bind_some, orE]
  have stay : ∀ {q : Option ((List M48) × Int × Int × Int × (List Int) × (List M44) × Int × Int × Int × Int × (List Int))} {p : Option (M60 × (List M48))}, q = some ([], r.f8, r.f9.f0, r.f9.f1, r.f9.f2, r.f4, dn r, dn r, r.f7.f0, r.f7.f1, r.f7.f2) → p = some (r, []) →
      ∃ b r', q = some (b, r'.f8, r'.f9.f0, r'.f9.f1, r'.f9.f2, r'.f4, dn r', dn r', r'.f7.f0, r'.f7.f1, r'.f7.f2) ∧ p = some (r', b) ∧ Ok m r' i ∧ (r'.f6 = 1 ∨ r'.f6 = 2) ∧ b.length ≤ 2 ∧ (∀ y ∈ b, ShortR y) ∧ r'.f0 = r.f0 ∧ r'.f1 = r.f1 ∧ r'.f2 = r.f2 ∧ r'.f3 = r.f3 ∧ r'.f5 = r.f5 :=
    fun e1 e2 => ⟨[], r, e1, e2, h, h0, by simp, fun y hy => (by cases hy), rfl, rfl, rfl, rfl, rfl⟩
  cases hc : ((chk x != 0) || (x.f2 != IntKind.i64.wrap (200 + r.f0))) with
  | true => exact stay rfl rfl
  | false =>
  unfold QbE Qa5 Qdr Qbf
  simp only [Option.bind_some, Bool.false_eq_true, if_false, QiJ, Qnx]
  unfold QbF
  simp only [Option.bind_some, QiJ]
  by_cases k11 : (x.f0 == 11) = true
  ·
    obtain ⟨b, L, l1, l2, l3⟩ := Qkm h.inv x.f14 hw.cf h30 3000 (by omega)
    have hok := QiE h l3
    obtain ⟨c, e1, e2, h1⟩ := Qjp hok
    obtain ⟨A, a1, a2, a3, a4⟩ := Qjr hok
    have e1' : Q7 3000 L r.f5.f1 = some c := e1
    have a1' : QK 3000 r.f0 r.f2 L r.f5.f0 r.f5.f1 r.f5.f2 r.f5.f3 r.f5.f4 = some A := a1
    have e2' : QU (M60.mk r.f0 r.f1 r.f2 r.f3 L r.f5 r.f6 r.f7 r.f8 r.f9) = some c := e2
    have a2' : Q9 3000 (M60.mk r.f0 r.f1 r.f2 r.f3 L r.f5 r.f6 r.f7 r.f8 r.f9) = some A := a2
    simp only [k11, if_true]
    rw [l1, l2]
    simp only [Option.bind_some]
    unfold QbG QcI QcJ
    rw [e1', e2']
    rcases h0 with h1 | h2
    · have hd : dn r = 0 := by unfold dn; rw [if_pos h1]
      rw [hd, show (r.f6 == 1) = true by simp [h1]]
      simp only [Option.bind_some, bne_self_eq_false, Bool.not_false, if_true]
      cases b with
      | false =>
        exact ⟨[], learnt r L, by rw [show dn (learnt r L) = 0 from hd]; rfl, rfl, hok, .inl h1, by simp, fun y hy => (by cases hy), rfl, rfl, rfl, rfl, rfl⟩
      | true =>
        simp only [if_true, Option.bind_some]
        cases hcc : (c.f0 == x.f14.f0) with
        | true =>
          simp only [if_true, a1', a2', Option.bind_some]
          exact ⟨A, learnt r L, by rw [show dn (learnt r L) = 0 from hd]; rfl, rfl, hok, .inl h1, by omega, a4, rfl, rfl, rfl, rfl, rfl⟩
        | false => exact ⟨[], learnt r L, by rw [show dn (learnt r L) = 0 from hd]; rfl, rfl, hok, .inl h1, by simp, fun y hy => (by cases hy), rfl, rfl, rfl, rfl, rfl⟩
    · have hd : dn r = 1 := by unfold dn; rw [if_neg (by rw [h2]; decide)]
      rw [hd, show (r.f6 == 1) = false by simp [h2]]
      simp only [Option.bind_some, show ((1 : Int) != 0) = true from rfl, Bool.not_true, Bool.false_eq_true, if_false]
      refine ⟨[], learnt r L, ?_, ?_, hok, .inr h2, by simp, fun y hy => (by cases hy), rfl, rfl, rfl, rfl, rfl⟩
      · rw [show dn (learnt r L) = 1 from hd]; cases b <;> rfl
      · cases b <;> rfl
  · simp only [Bool.not_eq_true] at k11
    simp only [k11, Bool.false_eq_true, if_false]
    rcases h0 with h1 | h2
    ·
      have hd : dn r = 0 := by unfold dn; rw [if_pos h1]
      have hr := h.re (by rw [h1]; decide)
      rw [hd, show (r.f6 != 1) = false by simp [h1]]
      simp only [Option.bind_some, bne_self_eq_false, Bool.not_false, if_true, bindIf]
      cases hn : (decide (x.f1 ≥ 1) && decide (x.f1 ≤ 24)) with
      | false =>
        simp only [Bool.false_eq_true, if_false, Bool.not_false, if_true, Option.bind_some, Bool.false_and]
        refine stay ?_ rfl
        rw [hd, hr]
        split
        · rfl
        · split <;> rfl
      | true =>
        simp only [Bool.not_true, Bool.false_eq_true, if_false, if_true, Option.bind_some]
        cases hm : (x.f6 == r.f2) with
        | false =>
          simp only [bne, hm, Bool.not_false, Bool.false_eq_true, if_false, Option.bind_some, Bool.false_and]
          refine stay ?_ rfl
          rw [hd, hr]
          split
          · rfl
          · split <;> rfl
        | true =>
          simp only [bne, hm, Bool.not_true, if_true, Option.bind_some, Bool.true_and]
          unfold Qch Qci QcH
          simp only [Bool.false_eq_true, if_false]
          by_cases k18 : (x.f0 == 18) = true
          · have k20 : (x.f0 == 20) = false := by have e : x.f0 = 18 := (by simpa using k18); rw [e]; rfl
            simp only [k18, k20, if_true, Bool.true_and, Bool.false_and, Bool.false_eq_true, if_false, Option.bind_some, bne]
            cases ko : (r.f5.f0 == 1) with
            | true =>
              simp only [Bool.not_true, Bool.false_eq_true, if_false, Option.bind_some]
              exact stay (by rw [hd, hr]; rfl) rfl
            | false =>
              simp only [Bool.not_false, if_true, Option.bind_some]
              exact ⟨[], answered r (M51.mk x.f12 x.f9 []), rfl, rfl, QiN h (by simp), .inr rfl, by simp, fun y hy => (by cases hy), rfl, rfl, rfl, rfl, rfl⟩
          · simp only [Bool.not_eq_true] at k18
            simp only [k18, Bool.false_eq_true, if_false, Bool.false_and, Option.bind_some]
            cases k20 : (x.f0 == 20) with
            | false =>
              simp only [Bool.false_eq_true, if_false, Bool.false_and, Option.bind_some]
              exact stay (by rw [hd, hr]; rfl) rfl
            | true =>
              simp only [if_true, Bool.true_and]
              cases ko : (r.f5.f0 == 1) with
              | false =>
                simp only [Bool.false_eq_true, if_false, Bool.false_and, Option.bind_some]
                exact stay (by rw [hd, hr]; rfl) rfl
              | true =>
                simp only [if_true, Bool.true_and, Option.bind_some]
                cases kk : (x.f11 == r.f5.f1) with
                | false =>
                  simp only [Bool.false_eq_true, if_false, Option.bind_some]
                  exact stay (by rw [hd, hr]; rfl) rfl
                | true =>
                  simp only [if_true, Option.bind_some]
                  unfold QaF
                  rw [Qee x.f17 (by omega)]
                  exact ⟨[], answered r (M51.mk 0 x.f9 x.f17), rfl, rfl, QiN h h17, .inr rfl, by simp, fun y hy => (by cases hy), rfl, rfl, rfl, rfl, rfl⟩
    · have hd : dn r = 1 := by unfold dn; rw [if_neg (by rw [h2]; decide)]
      have h3 : (r.f6 != 1) = true := by simp [h2]
      rw [h3]
      refine stay ?_ rfl
      rw [hd]
      simp only [show ((1 : Int) != 0) = true from rfl, Bool.not_true, Bool.and_false, Bool.false_and, Bool.false_eq_true, if_false, Option.bind_some]
      unfold QaF
      split
      · rfl
      · split <;> rfl
abbrev OutT := Option (Sum Bool (Int × Int × Int × Int × Int × (List Int) × Int × (Option (Int × Int × Int × Int × (List Int))) × Int × Int × Int × (List Int) × (List M44)))
abbrev RecT := Int → Int → Int → Int → Int → (List M44) → Int → Int → Int → (List Int) → Int → Int → Int → Int → (List Int) → Int → Int → Int → (List Int) → Int → Int → Int → Int → Int → (List Int) → Int → (Option (Int × Int × Int × Int × (List Int))) → Int → Int → Int → (List Int) → (List M44) → OutT
def run (f : RecT) (i : Int) (r : M60) (q : Option (Int × Int × Int × Int × (List Int))) : OutT := f i r.f0 r.f1 r.f2 r.f3 r.f4 r.f5.f0 r.f5.f1 r.f5.f2 r.f5.f3 r.f5.f4 r.f6 r.f7.f0 r.f7.f1 r.f7.f2 r.f8 r.f9.f0 r.f9.f1 r.f9.f2 r.f2 r.f3 r.f5.f0 r.f5.f1 r.f5.f2 r.f5.f3 r.f5.f4 q r.f8 r.f9.f0 r.f9.f1 r.f9.f2 r.f4
def Good (o : OutT) : Prop := ∃ v, o = some v ∧ (v = .inl true ∨ ∃ s, v = .inr s)
theorem QhK (f : RecT) {m i : Nat} {r : M60} (A : List M48) (h : Ok m r (i + 1)) (h0 : r.f6 = 0) (hA : ∀ x ∈ A, ShortR x) (hl : A.length ≤ 2) (hf : Good (run f (IntKind.i64.wrap ((i : Int) + 1)) r none)) :
    Good (Qx 3000 f r.f8 r.f9.f0 r.f9.f1 r.f9.f2 i A A r.f0 r.f1 r.f2 r.f3 r.f4 r.f5.f0 r.f5.f1 r.f5.f2 r.f5.f3 r.f5.f4 r.f6 r.f7.f0 r.f7.f1 r.f7.f2 r.f8 r.f9.f0 r.f9.f1 r.f9.f2 r.f2 r.f3 r.f5.f0 r.f5.f1 r.f5.f2 r.f5.f3 r.f5.f4 none r.f4) := by
  unfold Qx
  dsimp only
  rw [Qia A hA (by omega), QkY h h0]
  exact hf
theorem Qj6 (f : RecT) {m i : Nat} {r : M60} (A : List M48) (h : Ok m r (i + 1)) (h0 : r.f6 = 1) (hA : ∀ x ∈ A, ShortR x) (hl : A.length ≤ 2) (hf : Good (run f (IntKind.i64.wrap ((i : Int) + 1)) r (some (0, 0, 0, 0, [])))) :
    Good (Qx 3000 f r.f8 r.f9.f0 r.f9.f1 r.f9.f2 i A A r.f0 r.f1 r.f2 r.f3 r.f4 r.f5.f0 r.f5.f1 r.f5.f2 r.f5.f3 r.f5.f4 r.f6 r.f7.f0 r.f7.f1 r.f7.f2 r.f8 r.f9.f0 r.f9.f1 r.f9.f2 r.f2 r.f3 r.f5.f0 r.f5.f1 r.f5.f2 r.f5.f3 r.f5.f4 (some []) r.f4) := by
  have hs := Qjz h (.inl h0)
  have hr := h.re (by rw [h0]; decide)
  have hd : dn r = 0 := by unfold dn; rw [if_pos h0]
  rw [hd, hr] at hs
  unfold Qx
  dsimp only
  rw [Qia A hA (by omega)]
  simp only [Option.bind_some, Bool.not_true, Bool.false_eq_true, if_false]
  have hs' : Q1 3000 r.f2 r.f4 r.f5.f0 r.f5.f1 r.f5.f2 r.f5.f3 r.f5.f4 0 0 0 [] r.f8 r.f9.f0 r.f9.f1 r.f9.f2 (M60.mk r.f0 r.f1 r.f2 r.f3 r.f4 (M26.mk r.f5.f0 r.f5.f1 r.f5.f2 r.f5.f3 r.f5.f4) r.f6 (M51.mk r.f7.f0 r.f7.f1 r.f7.f2) r.f8 (M51.mk r.f9.f0 r.f9.f1 r.f9.f2)) = some true := hs
  rw [hs']
  exact hf
theorem QfK (f : RecT) {m i : Nat} {r : M60} (A : List M48) (h : Ok m r (i + 1)) (h0 : r.f6 = 1 ∨ r.f6 = 2) (hA : ∀ x ∈ A, ShortR x) (hl : A.length ≤ 2) (hf : Good (run f (IntKind.i64.wrap ((i : Int) + 1)) r (some (dn r, dn r, r.f7.f0, r.f7.f1, r.f7.f2)))) :
    Good (QS 3000 f i A A r.f0 r.f1 r.f2 r.f3 r.f4 r.f5.f0 r.f5.f1 r.f5.f2 r.f5.f3 r.f5.f4 r.f6 r.f7.f0 r.f7.f1 r.f7.f2 r.f8 r.f9.f0 r.f9.f1 r.f9.f2 r.f2 r.f3 r.f5.f0 r.f5.f1 r.f5.f2 r.f5.f3 r.f5.f4 (dn r) (dn r) r.f7.f0 r.f7.f1 r.f7.f2 r.f8 r.f9.f0 r.f9.f1 r.f9.f2 r.f4) := by
  unfold QS
  rw [Qia A hA (by omega)]
  simp only [Option.bind_some, Bool.not_true, Bool.false_eq_true, if_false]
  have hs : Q1 3000 r.f2 r.f4 r.f5.f0 r.f5.f1 r.f5.f2 r.f5.f3 r.f5.f4 (dn r) r.f7.f0 r.f7.f1 r.f7.f2 r.f8 r.f9.f0 r.f9.f1 r.f9.f2 (M60.mk r.f0 r.f1 r.f2 r.f3 r.f4 (M26.mk r.f5.f0 r.f5.f1 r.f5.f2 r.f5.f3 r.f5.f4) r.f6 (M51.mk r.f7.f0 r.f7.f1 r.f7.f2) r.f8 (M51.mk r.f9.f0 r.f9.f1 r.f9.f2)) = some true := Qjz h h0
  rw [hs]
  exact hf
theorem QkW (f : RecT) {m i : Nat} {r : M60} (h : Ok m r i) (hi : i < 60) (h0 : r.f6 = 0) (u : M64) (ho : wfO u.f1) (hl : u.f1.f3.length ≤ 2100) (c : Int) (hw : WfL (M48.mk u.f3.f0 u.f3.f1 u.f3.f2 u.f3.f3 u.f3.f4 u.f3.f5 c u.f3.f7 u.f3.f8 u.f3.f9 u.f3.f10 u.f3.f11 u.f3.f12 u.f3.f13 u.f3.f14 u.f3.f15 u.f3.f16 u.f3.f17)) (hs : ShortR (M48.mk u.f3.f0 u.f3.f1 u.f3.f2 u.f3.f3 u.f3.f4 u.f3.f5 c u.f3.f7 u.f3.f8 u.f3.f9 u.f3.f10 u.f3.f11 u.f3.f12 u.f3.f13 u.f3.f14 u.f3.f15 u.f3.f16 u.f3.f17)) (h30 : u.f3.f14.f2.length ≤ 30)
    (y : Int × Int × (List M44) × Int × (List (List Int)) × (List Int) × (List Int)) (hy : y.1 = r.f0)
    (hN : ∀ r', Ok m r' (i + 1) → r'.f0 = r.f0 → r'.f1 = r.f1 → r'.f6 = 0 → Good (run f (IntKind.i64.wrap ((i : Int) + 1)) r' none))
    (hB : ∀ r', Ok m r' (i + 1) → r'.f0 = r.f0 → r'.f1 = r.f1 → r'.f6 = 1 → Good (run f (IntKind.i64.wrap ((i : Int) + 1)) r' (some (0, 0, 0, 0, [])))) :
    Good (QT 3000 f u r.f3 r.f0 r.f1 r.f2 r.f3 r.f4 r.f5.f0 r.f5.f1 r.f5.f2 r.f5.f3 r.f5.f4 r.f6 r.f7.f0 r.f7.f1 r.f7.f2 r.f8 r.f9.f0 r.f9.f1 r.f9.f2 r.f2 r.f5.f0 r.f5.f1 r.f5.f2 r.f5.f3 r.f5.f4 r.f4 y r.f8 r.f9.f0 r.f9.f1 r.f9.f2 i c) := by
  unfold QT
  by_cases t0 : (u.f0 == 0) = true
  · have e1 : QN 3000 (M60.mk r.f0 r.f1 r.f2 r.f3 r.f4 (M26.mk r.f5.f0 r.f5.f1 r.f5.f2 r.f5.f3 r.f5.f4) r.f6 (M51.mk r.f7.f0 r.f7.f1 r.f7.f2) r.f8 (M51.mk r.f9.f0 r.f9.f1 r.f9.f2)) = some (ticked r, []) := Qjw (by rw [h0]; decide)
    unfold Qbv
    simp only [t0, if_true, Option.bind_some, e1]
    exact QhK f (r := ticked r) [] (QgC h hi) h0 (by simp) (by simp) (hN (ticked r) (QgC h hi) rfl rfl h0)
  · simp only [Bool.not_eq_true] at t0
    by_cases t1 : (u.f0 == 1) = true
    · unfold Qbj Qal
      rcases Qi6 h u.f1 ho hl hi (by rw [h0]; decide) with ⟨e, he, c1, c2⟩ | ⟨A, r', c1, a1, c2, a3, a4, ok, er⟩
      · have e1 : Qt 3000 (M60.mk r.f0 r.f1 r.f2 r.f3 r.f4 (M26.mk r.f5.f0 r.f5.f1 r.f5.f2 r.f5.f3 r.f5.f4) r.f6 (M51.mk r.f7.f0 r.f7.f1 r.f7.f2) r.f8 (M51.mk r.f9.f0 r.f9.f1 r.f9.f2)) u.f1 = some (r, [], e) := c2
        have e2 : (e != 0) = true := by simpa using he
        simp only [t0, t1, Bool.false_eq_true, if_false, if_true, hy, c1, Option.bind_some, e2, e1, bne_self_eq_false]
        exact QhK f (r := r) [] (h.le (by omega)) h0 (by simp) (by simp) (hN r (h.le (by omega)) rfl rfl h0)
      · have e1 : Qt 3000 (M60.mk r.f0 r.f1 r.f2 r.f3 r.f4 (M26.mk r.f5.f0 r.f5.f1 r.f5.f2 r.f5.f3 r.f5.f4) r.f6 (M51.mk r.f7.f0 r.f7.f1 r.f7.f2) r.f8 (M51.mk r.f9.f0 r.f9.f1 r.f9.f2)) u.f1 = some (r', A, 0) := c2
        subst er
        unfold QbN QaT
        simp only [t0, t1, Bool.false_eq_true, if_false, if_true, hy, c1, Option.bind_some, bne_self_eq_false, Qee u.f1.f3 (by omega), a1, e1]
        exact Qj6 f (r := M60.mk r.f0 r.f1 (IntKind.u64.wrap (r.f2 + 1)) r.f3 r.f4 u.f1 1 (M51.mk 0 0 []) r.f8 r.f9) A ok rfl a4 (by omega) (hB _ ok rfl rfl rfl)
    · simp only [Bool.not_eq_true] at t1
      obtain ⟨L, e1, e2, hL⟩ := QkU h h0 (M48.mk u.f3.f0 u.f3.f1 u.f3.f2 u.f3.f3 u.f3.f4 u.f3.f5 c u.f3.f7 u.f3.f8 u.f3.f9 u.f3.f10 u.f3.f11 u.f3.f12 u.f3.f13 u.f3.f14 u.f3.f15 u.f3.f16 u.f3.f17) hw hs h30
      have e2' : QO 3000 (M60.mk r.f0 r.f1 r.f2 r.f3 r.f4 (M26.mk r.f5.f0 r.f5.f1 r.f5.f2 r.f5.f3 r.f5.f4) r.f6 (M51.mk r.f7.f0 r.f7.f1 r.f7.f2) r.f8 (M51.mk r.f9.f0 r.f9.f1 r.f9.f2)) (M48.mk u.f3.f0 u.f3.f1 u.f3.f2 u.f3.f3 u.f3.f4 u.f3.f5 c u.f3.f7 u.f3.f8 u.f3.f9 u.f3.f10 u.f3.f11 u.f3.f12 u.f3.f13 u.f3.f14 u.f3.f15 u.f3.f16 u.f3.f17) = some (learnt r L, []) := e2
      simp only [t0, t1, Bool.false_eq_true, if_false, hy, e1, e2', Option.bind_some]
      exact QhK f (r := learnt r L) [] ((QiE h hL).le (by omega)) h0 (by simp) (by simp) (hN (learnt r L) ((QiE h hL).le (by omega)) rfl rfl h0)
theorem QkV (f : RecT) {m i : Nat} {r : M60} (h : Ok m r i) (hi : i < 60) (h0 : r.f6 = 1 ∨ r.f6 = 2) (u : M64) (ho : wfO u.f1) (hl : u.f1.f3.length ≤ 2100) (c : Int) (hw : WfL (M48.mk u.f3.f0 u.f3.f1 u.f3.f2 u.f3.f3 u.f3.f4 u.f3.f5 c u.f3.f7 u.f3.f8 u.f3.f9 u.f3.f10 u.f3.f11 u.f3.f12 u.f3.f13 u.f3.f14 u.f3.f15 u.f3.f16 u.f3.f17)) (hs : ShortR (M48.mk u.f3.f0 u.f3.f1 u.f3.f2 u.f3.f3 u.f3.f4 u.f3.f5 c u.f3.f7 u.f3.f8 u.f3.f9 u.f3.f10 u.f3.f11 u.f3.f12 u.f3.f13 u.f3.f14 u.f3.f15 u.f3.f16 u.f3.f17)) (h30 : u.f3.f14.f2.length ≤ 30) (h17 : u.f3.f17.length ≤ 2100)
    (y : Int × Int × (List M44) × Int × (List (List Int)) × (List Int) × (List Int)) (hy : y.1 = r.f0) (hy1 : y.2.1 = r.f1)
    (hS : ∀ r', Ok m r' (i + 1) → r'.f0 = r.f0 → r'.f1 = r.f1 → r'.f6 = 1 ∨ r'.f6 = 2 → Good (run f (IntKind.i64.wrap ((i : Int) + 1)) r' (some (dn r', dn r', r'.f7.f0, r'.f7.f1, r'.f7.f2)))) :
    Good (QR 3000 f u y r.f2 r.f3 r.f4 r.f5.f0 r.f5.f1 r.f5.f2 r.f5.f3 r.f5.f4 (dn r) r.f7.f0 r.f7.f1 r.f7.f2 r.f0 r.f1 r.f2 r.f3 r.f4 r.f5.f0 r.f5.f1 r.f5.f2 r.f5.f3 r.f5.f4 r.f6 r.f7.f0 r.f7.f1 r.f7.f2 r.f8 r.f9.f0 r.f9.f1 r.f9.f2 (dn r) r.f8 r.f9.f0 r.f9.f1 r.f9.f2 i c) := by
  unfold QR
  by_cases t0 : (u.f0 == 0) = true
  · obtain ⟨b, q1, q2, q3, q4⟩ := QkS h hi h0
    have q2' : QN 3000 (M60.mk r.f0 r.f1 r.f2 r.f3 r.f4 (M26.mk r.f5.f0 r.f5.f1 r.f5.f2 r.f5.f3 r.f5.f4) r.f6 (M51.mk r.f7.f0 r.f7.f1 r.f7.f2) r.f8 (M51.mk r.f9.f0 r.f9.f1 r.f9.f2)) = some (ticked r, b) := q2
    simp only [t0, if_true, hy, hy1, q1, q2', Option.bind_some]
    exact QfK f (r := ticked r) b (QgC h hi) h0 q4 q3 (hS (ticked r) (QgC h hi) rfl rfl h0)
  · simp only [Bool.not_eq_true] at t0
    by_cases t1 : (u.f0 == 1) = true
    · unfold QcU Qaj
      rcases h0 with h1 | h2
      · have hd : dn r = 0 := by unfold dn; rw [if_pos h1]
        have e1 : Qt 3000 (M60.mk r.f0 r.f1 r.f2 r.f3 r.f4 (M26.mk r.f5.f0 r.f5.f1 r.f5.f2 r.f5.f3 r.f5.f4) r.f6 (M51.mk r.f7.f0 r.f7.f1 r.f7.f2) r.f8 (M51.mk r.f9.f0 r.f9.f1 r.f9.f2)) u.f1 = some (r, [], 12) := by
          unfold Qt
          rw [show (r.f6 == 1) = true by simp [h1]]
          rfl
        have hf := QfK f (r := r) [] (h.le (by omega)) (.inl h1) (by simp) (by simp) (hS r (h.le (by omega)) rfl rfl (.inl h1))
        rw [hd] at hf ⊢
        simp only [t0, t1, Bool.false_eq_true, if_false, if_true, QiJ, Option.bind_some, bne_self_eq_false, Bool.not_false, e1]
        exact hf
      · have hd : dn r = 1 := by unfold dn; rw [if_neg (by rw [h2]; decide)]
        have hb : (!((1 : Int) != 0)) = false := rfl
        rcases Qi6 h u.f1 ho hl hi (by rw [h2]; decide) with ⟨e, he, c1, c2⟩ | ⟨A, r', c1, a1, c2, a3, a4, ok, er⟩
        · have e1 : Qt 3000 (M60.mk r.f0 r.f1 r.f2 r.f3 r.f4 (M26.mk r.f5.f0 r.f5.f1 r.f5.f2 r.f5.f3 r.f5.f4) r.f6 (M51.mk r.f7.f0 r.f7.f1 r.f7.f2) r.f8 (M51.mk r.f9.f0 r.f9.f1 r.f9.f2)) u.f1 = some (r, [], e) := c2
          have e2 : (e != 0) = true := by simpa using he
          have hf := QfK f (r := r) [] (h.le (by omega)) (.inr h2) (by simp) (by simp) (hS r (h.le (by omega)) rfl rfl (.inr h2))
          rw [hd] at hf ⊢
          simp only [t0, t1, Bool.false_eq_true, if_false, if_true, QiJ, hb, hy, c1, Option.bind_some, e2, e1, bne_self_eq_false]
          exact hf
        · have e1 : Qt 3000 (M60.mk r.f0 r.f1 r.f2 r.f3 r.f4 (M26.mk r.f5.f0 r.f5.f1 r.f5.f2 r.f5.f3 r.f5.f4) r.f6 (M51.mk r.f7.f0 r.f7.f1 r.f7.f2) r.f8 (M51.mk r.f9.f0 r.f9.f1 r.f9.f2)) u.f1 = some (r', A, 0) := c2
          subst er
          rw [hd]
          unfold QbM QaT
          simp only [t0, t1, Bool.false_eq_true, if_false, if_true, QiJ, hb, hy, c1, Option.bind_some, bne_self_eq_false, Qee u.f1.f3 (by omega), a1, e1]
          exact QfK f (r := M60.mk r.f0 r.f1 (IntKind.u64.wrap (r.f2 + 1)) r.f3 r.f4 u.f1 1 (M51.mk 0 0 []) r.f8 r.f9) A ok (.inl rfl) a4 (by omega) (hS _ ok rfl rfl (.inl rfl))
    · simp only [Bool.not_eq_true] at t1
      obtain ⟨b, r', e1, e2, ok, k0, k1, k2, f0, f1, f2, f3, f5⟩ := QkT h h0 (M48.mk u.f3.f0 u.f3.f1 u.f3.f2 u.f3.f3 u.f3.f4 u.f3.f5 c u.f3.f7 u.f3.f8 u.f3.f9 u.f3.f10 u.f3.f11 u.f3.f12 u.f3.f13 u.f3.f14 u.f3.f15 u.f3.f16 u.f3.f17) hw hs h30 h17
      have e2' : QO 3000 (M60.mk r.f0 r.f1 r.f2 r.f3 r.f4 (M26.mk r.f5.f0 r.f5.f1 r.f5.f2 r.f5.f3 r.f5.f4) r.f6 (M51.mk r.f7.f0 r.f7.f1 r.f7.f2) r.f8 (M51.mk r.f9.f0 r.f9.f1 r.f9.f2)) (M48.mk u.f3.f0 u.f3.f1 u.f3.f2 u.f3.f3 u.f3.f4 u.f3.f5 c u.f3.f7 u.f3.f8 u.f3.f9 u.f3.f10 u.f3.f11 u.f3.f12 u.f3.f13 u.f3.f14 u.f3.f15 u.f3.f16 u.f3.f17) = some (r', b) := e2
      simp only [t0, t1, Bool.false_eq_true, if_false, hy, e1, e2', Option.bind_some]
      have hf := QfK f (r := r') b (ok.le (by omega)) k0 k2 k1 (hS r' (ok.le (by omega)) f0 f1 k0)
      rw [← f2, ← f3, ← f5]
      exact hf
theorem QgW : QX 3000 = some true := by kernel_rfl
abbrev wfSt (u : M64) : Prop := wfInt .i64 u.f0 ∧ wfO u.f1 ∧ wfBool u.f2 ∧ wfLt u.f3
theorem loop {m : Nat} (l : List M64) (hw : ∀ u ∈ l, wfSt u) (y : Int × Int × (List M44) × Int × (List (List Int)) × (List Int) × (List Int)) : ∀ j n : Nat, 60 - n < j → n ≤ 60 → ∀ r : M60, Ok m r n → y.1 = r.f0 → y.2.1 = r.f1 →
    (r.f6 = 0 → Good (run (Qh 3000 l y j) (n : Int) r none)) ∧ (r.f6 = 1 ∨ r.f6 = 2 → Good (run (Qh 3000 l y j) (n : Int) r (some (dn r, dn r, r.f7.f0, r.f7.f1, r.f7.f2)))) := by
  intro j
  induction j with
  | zero => intro n hj; exact absurd hj (by omega)
  | succ j ih =>
    intro n hj hn r h hy hy1
    have hi : IntKind.i64.wrap ((n : Int) + 1) = ((n + 1 : Nat) : Int) := by rw [w64 (by omega) (by omega)]; rfl
    by_cases hc : (decide ((n : Int) < (l.length : Int)) && decide ((n : Int) < 60)) = true
    · have h60 : n < 60 := by simp at hc; omega
      have hlt : n < l.length := by simp at hc; omega
      obtain ⟨u, hu⟩ : ∃ u, l[n]? = some u := ⟨_, List.getElem?_eq_getElem hlt⟩
      have hwu := hw u (List.mem_of_getElem? hu)
      have hW := QmA hwu.2.2.2
      obtain ⟨b, hb, hb'⟩ := QmP u.f3
      constructor
      · intro h0
        unfold run
        rw [Qh]
        rw [if_pos hc, Q8, hu, Option.bind_some, hb]
        unfold Qak
        cases b with
        | true =>
          simp only [Option.bind_some, if_true, QgW]
          exact ⟨_, rfl, .inl rfl⟩
        | false =>
          simp only [Option.bind_some, Bool.false_eq_true, if_false]
          cases hlen : decide ((u.f1.f3.length : Int) > 2100) with
          | true =>
            simp only [if_true, QgW, Option.bind_some]
            exact ⟨_, rfl, .inl rfl⟩
          | false =>
            obtain ⟨hs, h30, h17⟩ := hb' rfl
            obtain ⟨c, hcc⟩ : ∃ c, (if u.f2 = true then some r.f2 else some u.f3.f6 : Option Int) = some c := by split <;> exact ⟨_, rfl⟩
            simp only [Bool.false_eq_true, if_false, hcc, Option.bind_some]
            exact QkW (Qh 3000 l y j) h h60 h0 u hwu.2.1 (by have := of_decide_eq_false hlen; omega) c ⟨hW.cf, hW.cm, hW.vt, hW.up⟩ ⟨⟨hs.c, hs.v, hs.u⟩, hs.d, hs.ud⟩ h30 y hy
                (fun r' ok f0 f1 k0 => by rw [hi]; exact (ih (n + 1) (by omega) (by omega) r' ok (hy.trans f0.symm) (hy1.trans f1.symm)).1 k0)
                (fun r' ok f0 f1 k0 => by
                  have hh := (ih (n + 1) (by omega) (by omega) r' ok (hy.trans f0.symm) (hy1.trans f1.symm)).2 (.inl k0)
                  have hd : dn r' = 0 := by unfold dn; rw [if_pos k0]
                  have hr := ok.re (by rw [k0]; decide)
                  rw [hd, hr] at hh
                  rw [hi]
                  exact hh)
      · intro h0
        unfold run
        rw [Qh]
        rw [if_pos hc, Q8, hu, Option.bind_some, hb]
        unfold Qai
        cases b with
        | true =>
          simp only [Option.bind_some, if_true, QgW]
          exact ⟨_, rfl, .inl rfl⟩
        | false =>
          simp only [Option.bind_some, Bool.false_eq_true, if_false]
          cases hlen : decide ((u.f1.f3.length : Int) > 2100) with
          | true =>
            simp only [if_true, QgW, Option.bind_some]
            exact ⟨_, rfl, .inl rfl⟩
          | false =>
            obtain ⟨hs, h30, h17⟩ := hb' rfl
            obtain ⟨c, hcc⟩ : ∃ c, (if u.f2 = true then some r.f2 else some u.f3.f6 : Option Int) = some c := by split <;> exact ⟨_, rfl⟩
            simp only [Bool.false_eq_true, if_false, hcc, Option.bind_some]
            exact QkV (Qh 3000 l y j) h h60 h0 u hwu.2.1 (by have := of_decide_eq_false hlen; omega) c ⟨hW.cf, hW.cm, hW.vt, hW.up⟩ ⟨⟨hs.c, hs.v, hs.u⟩, hs.d, hs.ud⟩ h30 h17 y hy hy1
                (fun r' ok f0 f1 k0 => by rw [hi]; exact (ih (n + 1) (by omega) (by omega) r' ok (hy.trans f0.symm) (hy1.trans f1.symm)).2 k0)
    · constructor
      · intro h0
        unfold run
        rw [Qh]
        rw [if_neg hc]
        exact ⟨_, rfl, .inr ⟨_, rfl⟩⟩
      · intro h0
        unfold run
        rw [Qh]
        rw [if_neg hc]
        exact ⟨_, rfl, .inr ⟨_, rfl⟩⟩
theorem Qns (a b c d : Bool) (x : Option Bool) (h : (a || (b || (c || d))) = true) : (if a = true then some true else if b = true then some true else if c = true then some true else if d = true then some true else x) = some true := by
  cases a <;> cases b <;> cases c <;> cases d <;> first | rfl | cases h
theorem Qnt (a b c d : Bool) (x : Option Bool) (h : (a || (b || (c || d))) = false) : (if a = true then some true else if b = true then some true else if c = true then some true else if d = true then some true else x) = x := by
  cases a <;> cases b <;> cases c <;> cases d <;> first | rfl | cases h
theorem Qif (who : M57) (first : List M44) (l : List M64) (hwho : wfInt .i64 who.f0 ∧ wfInt .i64 who.f1) (hf : wfSl wfCf first) (hl : wfSl wfSt l) : ∃ k, Qa1 k who first l = some true := by
  refine ⟨3000, ?_⟩
  have hz := QkK.1 hwho.1
  unfold Qa1
  by_cases h6 : decide ((first.length : Int) > 6) = true
  · rw [if_pos h6, QgW]; rfl
  rw [if_neg h6]
  have hl6 : first.length ≤ 6 := by simp at h6; omega
  have hw : ∀ c ∈ first, 0 ≤ c.f1 := fun c hc => (Qef.1 (hf.2 c hc).2.1).1
  unfold Qg0 QbV
  cases hid : (decide (who.f0 < 1) || (decide (who.f0 > 6) || (decide (who.f1 < 1) || decide (who.f1 > 5)))) with
  | true =>
    rw [Qns _ _ _ _ _ hid]
    simp only [if_true, Option.bind_some]
    unfold Qaq QZ
    simp only [if_true, Option.bind_some, QgW]
    rfl
  | false =>
    rw [Qnt _ _ _ _ _ hid]
    simp only [Bool.false_eq_true, if_false]
    unfold QiL
    rcases Qmy first hl6 hw 3000 (by decide) with ⟨h1, h2⟩ | ⟨h1, h2⟩
    · have hA : Qar 3000 first = some true := by
        rcases QlC first hl6 hw 3000 (by decide) with ⟨h3, h4⟩ | ⟨h3, h4⟩
        · exact h4
        · exact absurd h1 h3
      have hr := Qjc h1.2.1
      rw [h2, hA, Qjt first (by omega) (fun c hc => by have := (hr c hc).2.1.2.1; omega) 3000 (by decide)]
      have hI : Inv first.length first := ⟨rfl, h1.1.1, h1.1.2, fun c hc => ⟨hw c hc, by have := (hr c hc).2.1.2.1; omega⟩⟩
      unfold Qaq QgG
      simp only [Option.bind_some, Bool.not_true, Bool.false_eq_true, if_false]
      simp only [Bool.or_eq_false_iff, decide_eq_false_iff_not] at hid
      have hok : Ok first.length (M60.mk who.f0 who.f1 0 0 first (M26.mk 0 0 0 [] 0) 0 (M51.mk 0 0 []) 0 (M51.mk 0 0 [])) 0 :=
        ⟨by show 1 ≤ who.f0 ∧ who.f0 ≤ 6; omega, by show 1 ≤ who.f1 ∧ who.f1 ≤ 5; omega, hI, ⟨(Int.le_refl 0), (Int.le_refl 0)⟩, ⟨(Int.le_refl 0), (Int.le_refl 0)⟩, ⟨Qju.2 ⟨Int.le_refl 0, by show (0 : Int) ≤ 4294967295; decide⟩, (Int.le_refl 0), by simp⟩, fun _ => rfl, by simp, by simp⟩
      have hg := (loop l hl.2 (who.f0, who.f1, first, (first.length : Int), [], [], []) 3000 0 (by omega) (by omega) _ hok rfl rfl).1 rfl
      obtain ⟨v, hv, hv'⟩ := hg
      have hv2 : Qh 3000 l (who.f0, who.f1, first, (first.length : Int), [], [], []) 3000 0 who.f0 who.f1 0 0 first 0 0 0 [] 0 0 0 0 [] 0 0 0 [] 0 0 0 0 0 [] 0 none 0 0 0 [] first = some v := hv
      simp only [bne_self_eq_false, Bool.false_eq_true, if_false, hv2, Option.bind_some]
      rcases hv' with rfl | ⟨s, rfl⟩
      · rfl
      · obtain ⟨a1, a2, a3, a4, a5, a6, a7, q, a8⟩ := s
        unfold Qam Qao Qan Qq
        rcases q with _ | ⟨p1, p2, p3, p4, p5⟩ <;> simp only [Option.bind_some, beq_self_eq_true, if_true, QgW]
    · have hA : Qar 3000 first = some false := by
        rcases QlC first hl6 hw 3000 (by decide) with ⟨h3, h4⟩ | ⟨h3, h4⟩
        · exact absurd h3 h1
        · exact h4
      rw [h2, hA]
      unfold Qaq QZ
      simp only [Option.bind_some, Bool.not_false, if_true, QgW]
      rfl
end Go.Proofs.YteiinkhbgpldeaaGreatDoor.Sx
