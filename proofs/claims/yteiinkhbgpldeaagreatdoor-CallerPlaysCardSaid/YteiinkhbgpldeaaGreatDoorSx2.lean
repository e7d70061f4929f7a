/- The memory of a walk. Conditions: those ahead of each colon. -/
import Derived.Test.YteiinkhbgpldeaaGreatDoorSx1
set_option linter.unusedSimpArgs false
set_option linter.unusedVariables false
namespace Go.Proofs.YteiinkhbgpldeaaGreatDoor.Sx
open Go
abbrev Ch := List (Nat × Obj)
abbrev IH := Nat → Option Obj
@[reducible] def bx (b : Nat) (cs : List Value) (t : TypeId) : Ch := [(b, .cells cs.toArray t (0, 0))]
structure St (g w : World) (L : List Ch) (ih : IH) : Prop where
  os : w.os = g.os
  tape : w.tape = g.tape
  output : w.output = g.output
  im : ∀ b o, ih b = some o → w.heap[b]? = some o
  own : ∀ p ∈ L.flatten, w.heap[p.1]? = some p.2
  dis : ∀ p ∈ L.flatten, ih p.1 = none
  nd : (L.flatten.map (·.1)).Nodup
def Le (ih ih' : IH) : Prop := ∀ b o, ih b = some o → ih' b = some o
theorem Le.refl (ih : IH) : Le ih ih := fun _ _ h => h
theorem Le.trans {a b c : IH} (h : Le a b) (k : Le b c) : Le a c := fun x o hx => k x o (h x o hx)
structure Vw (w : World) (c : Ch) (ih : IH) : Prop where
  im : ∀ b o, ih b = some o → w.heap[b]? = some o
  own : ∀ p ∈ c, w.heap[p.1]? = some p.2
def Has (ih : IH) (c : Ch) (b : Nat) (o : Obj) : Prop := ih b = some o ∨ (b, o) ∈ c
theorem Vw.has {w : World} {c : Ch} {ih : IH} (h : Vw w c ih) {b : Nat} {o : Obj} (hb : Has ih c b o) : w.heap[b]? = some o := hb.elim (h.im b o) fun hm => h.own (b, o) hm
theorem Has.mono {ih ih' : IH} {c : Ch} {b : Nat} {o : Obj} (h : Has ih c b o) (hle : Le ih ih') : Has ih' c b o := h.imp (hle b o) id
variable {g w : World} {L : List Ch} {ih : IH}
theorem St.vw (h : St g w L ih) (i : Nat) {c : Ch} (hi : L[i]? = some c) : Vw w c ih :=
  ⟨h.im, fun p hp => h.own p (List.mem_flatten.2 ⟨c, List.mem_of_getElem? hi, hp⟩)⟩
theorem St.vwAll (h : St g w L ih) : Vw w L.flatten ih := ⟨h.im, fun p hp => h.own p hp⟩
theorem St.fresh (h : St g w L ih) : ih w.heap.size = none ∧ ∀ p ∈ L.flatten, p.1 ≠ w.heap.size := by
  constructor
  · cases hi : ih w.heap.size with
    | none => rfl
    | some o => have := h.im _ _ hi; simp at this
  · intro p hp he
    have := h.own p hp
    rw [he] at this; simp at this
theorem St.new (h : St g w L ih) (o : Obj) : St g (w.alloc o) ([(w.heap.size, o)] :: L) ih := by
  have hf := h.fresh
  refine ⟨h.os, h.tape, h.output, fun b x hb => ?_, fun p hp => ?_, fun p hp => ?_, ?_⟩
  · have := h.im b x hb
    rw [heap_alloc_old _ _ _ (Array.getElem?_eq_some_iff.1 this).1]; exact this
  · simp only [List.flatten_cons, List.cons_append, List.nil_append, List.mem_cons] at hp
    rcases hp with rfl | hp
    · exact heap_alloc_new _ _
    · have := h.own p hp
      rw [heap_alloc_old _ _ _ (Array.getElem?_eq_some_iff.1 this).1]; exact this
  · simp only [List.flatten_cons, List.cons_append, List.nil_append, List.mem_cons] at hp
    rcases hp with rfl | hp
    · exact hf.1
    · exact h.dis p hp
  · simp only [List.flatten_cons, List.cons_append, List.nil_append, List.map_cons, List.nodup_cons]
    refine ⟨?_, h.nd⟩
    intro hm
    obtain ⟨p, hp, he⟩ := List.mem_map.1 hm
    exact hf.2 p hp he
theorem St.drew (h : St g w L ih) : St g w.drew L ih := ⟨h.os, h.tape, h.output, h.im, h.own, h.dis, h.nd⟩
theorem Qhd {L : List Ch} {i : Nat} {c c' : Ch} (hi : L[i]? = some c) : ∃ A B, L.flatten = A ++ c ++ B ∧ (L.set i c').flatten = A ++ c' ++ B := by
  have hlt := (List.getElem?_eq_some_iff.1 hi).1
  have hv := (List.getElem?_eq_some_iff.1 hi).2
  refine ⟨(L.take i).flatten, (L.drop (i + 1)).flatten, ?_, ?_⟩
  · have hL : L = L.take i ++ c :: L.drop (i + 1) := by
      rw [← hv, List.getElem_cons_drop, List.take_append_drop]
    conv => lhs; rw [hL]
    simp [List.append_assoc]
  · rw [List.set_eq_take_append_cons_drop, if_pos hlt]
    simp [List.append_assoc]
theorem St.turn (h : St g w L ih) (i : Nat) {b : Nat} {o o' : Obj} (hi : L[i]? = some [(b, o)]) {w' : World} (hos : w'.os = w.os) (ht : w'.tape = w.tape) (ho : w'.output = w.output)
    (hb : w'.heap[b]? = some o') (hne : ∀ k, k ≠ b → w'.heap[k]? = w.heap[k]?) : St g w' (L.set i [(b, o')]) ih := by
  obtain ⟨A, B, h1, h2⟩ := Qhd (c' := [(b, o')]) hi
  have hnd := h.nd
  rw [h1] at hnd
  have hmem : (b, o) ∈ L.flatten := by rw [h1]; simp
  have hib : ih b = none := h.dis _ hmem
  simp only [List.map_append, List.map_cons, List.map_nil] at hnd
  have hbA : ∀ p ∈ A, p.1 ≠ b := by
    intro p hp he
    rw [List.append_assoc, List.nodup_append] at hnd
    exact hnd.2.2 p.1 (List.mem_map.2 ⟨p, hp, rfl⟩) b (by simp) he
  have hbB : ∀ p ∈ B, p.1 ≠ b := by
    intro p hp he
    rw [List.append_assoc, List.nodup_append] at hnd
    have := hnd.2.1
    rw [List.cons_append, List.nodup_cons] at this
    exact this.1 (by simp only [List.nil_append]; exact he ▸ List.mem_map.2 ⟨p, hp, rfl⟩)
  refine ⟨hos.trans h.os, ht.trans h.tape, ho.trans h.output, fun k x hk => ?_, fun p hp => ?_, fun p hp => ?_, ?_⟩
  · rw [hne k (fun e => by rw [e, hib] at hk; cases hk)]; exact h.im k x hk
  · rw [h2] at hp
    simp only [List.mem_append, List.mem_singleton] at hp
    rcases hp with (hp | rfl) | hp
    · rw [hne _ (hbA p hp)]; exact h.own p (by rw [h1]; simp [hp])
    · exact hb
    · rw [hne _ (hbB p hp)]; exact h.own p (by rw [h1]; simp [hp])
  · rw [h2] at hp
    simp only [List.mem_append, List.mem_singleton] at hp
    rcases hp with (hp | rfl) | hp
    · exact h.dis p (by rw [h1]; simp [hp])
    · exact hib
    · exact h.dis p (by rw [h1]; simp [hp])
  · rw [h2]; simpa only [List.map_append, List.map_cons, List.map_nil] using hnd
def nodupB : List Nat → Bool
  | [] => true
  | x :: l => !(l.any (Nat.beq x)) && nodupB l
theorem Qih : ∀ {l : List Nat}, nodupB l = true → l.Nodup
  | [], _ => .nil
  | x :: l, h => by
    simp only [nodupB, Bool.and_eq_true, Bool.not_eq_true', List.any_eq_false] at h
    rw [List.nodup_cons]
    exact ⟨fun hm => h.1 x hm (Nat.beq_refl x), Qih h.2⟩
theorem Qk9 (f : Nat → Ch) : ∀ (is : List Nat), is.Nodup → (∀ i ∈ is, i < L.length) → (∀ i, f i = L.getD i []) → (L.flatten.map (·.1)).Nodup → ((is.map f).flatten.map (·.1)).Nodup ∧ ∀ p ∈ (is.map f).flatten, p ∈ L.flatten := by
  intro is hn hlt hf hnd
  have hmem : ∀ i ∈ is, ∀ p ∈ f i, p ∈ L.flatten := by
    intro i hi p hp
    rw [hf i] at hp
    have := hlt i hi
    rw [List.getD_eq_getElem?_getD, List.getElem?_eq_getElem this, Option.getD_some] at hp
    exact List.mem_flatten.2 ⟨_, List.getElem_mem this, hp⟩
  have hdis : ∀ i j, i < L.length → j < L.length → i ≠ j → ∀ p ∈ f i, ∀ q ∈ f j, p.1 ≠ q.1 := by
    intro i j hi hj hij p hp q hq he
    rw [hf i, List.getD_eq_getElem?_getD, List.getElem?_eq_getElem hi, Option.getD_some] at hp
    rw [hf j, List.getD_eq_getElem?_getD, List.getElem?_eq_getElem hj, Option.getD_some] at hq
    have key : ∀ i j (hi : i < L.length) (hj : j < L.length), i < j → ∀ p ∈ L[i], ∀ q ∈ L[j], p.1 ≠ q.1 := by
      intro i j hi hj hij p hp q hq he
      have hL : L = L.take j ++ L[j] :: L.drop (j + 1) := by rw [List.getElem_cons_drop, List.take_append_drop]
      rw [hL] at hnd
      simp only [List.flatten_append, List.flatten_cons, List.map_append, List.nodup_append] at hnd
      refine hnd.2.2 p.1 (List.mem_map.2 ⟨p, List.mem_flatten.2 ⟨L[i], ?_, hp⟩, rfl⟩) q.1 (List.mem_append_left _ (List.mem_map.2 ⟨q, hq, rfl⟩)) he
      rw [List.mem_take_iff_getElem]
      exact ⟨i, by omega, rfl⟩
    rcases Nat.lt_or_ge i j with h | h
    · exact key i j hi hj h p hp q hq he
    · exact key j i hj hi (by omega) q hq p hp he.symm
  have hself : ∀ i, i < L.length → ((f i).map (·.1)).Nodup := by
    intro i hi
    rw [hf i, List.getD_eq_getElem?_getD, List.getElem?_eq_getElem hi, Option.getD_some]
    have hL : L = L.take i ++ L[i] :: L.drop (i + 1) := by rw [List.getElem_cons_drop, List.take_append_drop]
    rw [hL] at hnd
    simp only [List.flatten_append, List.flatten_cons, List.map_append, List.nodup_append] at hnd
    exact hnd.2.1.1
  clear hnd
  induction is with
  | nil => exact ⟨by simp, fun p hp => by cases hp⟩
  | cons i is ihh =>
    rw [List.nodup_cons] at hn
    obtain ⟨h1, h2⟩ := ihh hn.2 (fun j hj => hlt j (List.mem_cons_of_mem _ hj)) (fun j hj => hmem j (List.mem_cons_of_mem _ hj))
    refine ⟨?_, fun p hp => ?_⟩
    · simp only [List.map_cons, List.flatten_cons, List.map_append, List.nodup_append]
      refine ⟨hself i (hlt i (by simp)), h1, ?_⟩
      intro x hx y hy he
      obtain ⟨p, hp, rfl⟩ := List.mem_map.1 hx
      obtain ⟨q, hq, rfl⟩ := List.mem_map.1 hy
      obtain ⟨c, hc, hqc⟩ := List.mem_flatten.1 hq
      obtain ⟨j, hj, rfl⟩ := List.mem_map.1 hc
      exact hdis i j (hlt i (by simp)) (hlt j (List.mem_cons_of_mem _ hj)) (fun e => hn.1 (e ▸ hj)) p hp q hqc he
    · simp only [List.map_cons, List.flatten_cons, List.mem_append] at hp
      rcases hp with hp | hp
      · exact hmem i (by simp) p hp
      · exact h2 p hp
def pickL (L : List Ch) (is : List Nat) : List Ch := is.map fun i => L.getD i []
theorem St.pick (h : St g w L ih) (is : List Nat) (hn : (nodupB is && is.all fun i => Nat.blt i L.length) = true) : St g w (pickL L is) ih := by
  rw [Bool.and_eq_true, List.all_eq_true] at hn
  obtain ⟨h1, h2⟩ := Qk9 (L := L) (fun i => L.getD i []) is (Qih hn.1) (fun i hi => Nat.le_of_ble_eq_true (hn.2 i hi)) (fun _ => rfl) h.nd
  exact ⟨h.os, h.tape, h.output, h.im, fun p hp => h.own p (h2 p hp), fun p hp => h.dis p (h2 p hp), h1⟩
def frz (ih : IH) (c : Ch) : IH := fun b => match c.find? (fun p => Nat.beq p.1 b) with | some p => some p.2 | none => ih b
theorem Qk7 {ih : IH} {c : Ch} (hnd : (c.map (·.1)).Nodup) {p : Nat × Obj} (hp : p ∈ c) : frz ih c p.1 = some p.2 := by
  unfold frz
  have : c.find? (fun q => Nat.beq q.1 p.1) = some p := by
    induction c with
    | nil => cases hp
    | cons q c ihh =>
      rw [List.map_cons, List.nodup_cons] at hnd
      rw [List.find?_cons]
      rcases List.mem_cons.1 hp with rfl | hp'
      · simp
      · have hne : q.1 ≠ p.1 := fun e => hnd.1 (e ▸ List.mem_map.2 ⟨p, hp', rfl⟩)
        have : Nat.beq q.1 p.1 = false := by cases hb : Nat.beq q.1 p.1; rfl; exact absurd (Nat.eq_of_beq_eq_true hb) hne
        rw [this]; exact ihh hnd.2 hp'
  rw [this]
theorem QjZ {ih : IH} {c : Ch} {b : Nat} (h : ∀ p ∈ c, p.1 ≠ b) : frz ih c b = ih b := by
  unfold frz
  have : c.find? (fun q => Nat.beq q.1 b) = none := by
    rw [List.find?_eq_none]
    intro p hp hb
    exact h p hp (Nat.eq_of_beq_eq_true hb)
  rw [this]
theorem St.freeze {c : Ch} (h : St g w (c :: L) ih) : St g w L (frz ih c) ∧ Le ih (frz ih c) ∧ ∀ b o, (b, o) ∈ c → frz ih c b = some o := by
  have hnd := h.nd
  simp only [List.flatten_cons, List.map_append, List.nodup_append] at hnd
  have hle : Le ih (frz ih c) := by
    intro b o hb
    rw [QjZ]; exact hb
    intro p hp e
    have := h.dis p (by simp [hp])
    rw [e, hb] at this; cases this
  have hin : ∀ b o, (b, o) ∈ c → frz ih c b = some o := fun b o hb => Qk7 (p := (b, o)) hnd.1 hb
  refine ⟨⟨h.os, h.tape, h.output, fun b o hb => ?_, fun p hp => h.own p (by simp only [List.flatten_cons, List.mem_append]; exact .inr hp), fun p hp => ?_, hnd.2.1⟩, hle, hin⟩
  · by_cases hbc : ∃ p ∈ c, p.1 = b
    · obtain ⟨p, hp, rfl⟩ := hbc
      rw [Qk7 hnd.1 hp] at hb
      cases hb
      exact h.own p (by simp [hp])
    · rw [QjZ (fun p hp e => hbc ⟨p, hp, e⟩)] at hb
      exact h.im b o hb
  · rw [QjZ]
    · exact h.dis p (by simp only [List.flatten_cons, List.mem_append]; exact .inr hp)
    · intro q hq e
      exact hnd.2.2 q.1 (List.mem_map.2 ⟨q, hq, rfl⟩) p.1 (List.mem_map.2 ⟨p, hp, rfl⟩) e
def At (w : World) (q : Addr) (cs : List Value) : Prop := ∀ j v, cs[j]? = some v → w.cell? (q.add j) = some v
theorem QhT (b off j : Nat) : (⟨b, off, none⟩ : Addr).add j = ⟨b, off + j, none⟩ := by unfold Addr.add; split <;> simp_all
theorem Qjs (q : Addr) (i j : Nat) : (q.add i).add j = q.add (i + j) := by
  unfold Addr.add
  by_cases hi : i = 0
  · subst hi; by_cases hj : j = 0 <;> simp [hj]
  · by_cases hj : j = 0
    · simp [hi, hj]
    · have : i + j ≠ 0 := by omega
      simp [hi, hj, Nat.add_assoc]
theorem Vw.at_ {c : Ch} (h : Vw w c ih) {b : Nat} {cells : Array Value} {t : TypeId} {fr : Nat × Nat} (hb : Has ih c b (.cells cells t fr)) {off : Nat} {cs : List Value}
    (hc : ∀ j v, cs[j]? = some v → cells[off + j]? = some v) : At w ⟨b, off, none⟩ cs := by
  intro j v hj
  rw [QhT]
  have := h.has hb
  unfold World.cell?
  rw [this]
  exact hc j v hj
theorem St.at_ (h : St g w L ih) (i : Nat) {b : Nat} {cs : List Value} {t : TypeId} (hi : L[i]? = some (bx b cs t)) : At w ⟨b, 0, none⟩ cs :=
  (h.vw i hi).at_ (.inr (List.mem_singleton.2 rfl)) fun j v hj => by rw [Nat.zero_add]; simpa using hj
def ldv (P : Program) (t : TypeId) (cs : List Value) (j : Nat) : Option Value :=
  match det P (isAgg t) with
  | some true => match det P (sizeOf t) with | some n => (bif Nat.ble (j + n) cs.length then some (.agg ((cs.drop j).take n).toArray) else none) | none => none
  | some false => cs[j]?
  | none => none
theorem QjB {P : Program} {t : TypeId} {q : Addr} {cs : List Value} (h : At w q cs) {j : Nat} {v : Value} (hv : ldv P t cs j = some v) : (loadVar t (q.add j)).run P w = .ok v w := by
  unfold ldv at hv
  unfold loadVar
  cases ha : det P (isAgg t) with
  | none => rw [ha] at hv; cases hv
  | some b =>
    rw [ha] at hv
    rw [run_bind (Qae ha w)]
    cases b with
    | false =>
      simp only at hv
      simp only [Bool.false_eq_true, if_false]
      have := h j v hv
      simp [this]
    | true =>
      simp only at hv
      cases hs : det P (sizeOf t) with
      | none => rw [hs] at hv; cases hv
      | some n =>
        rw [hs] at hv; simp only at hv
        cases hb : Nat.ble (j + n) cs.length with
        | false => rw [hb] at hv; cases hv
        | true =>
          rw [hb] at hv; simp only [cond_true, Option.some.injEq] at hv
          have hle := Nat.le_of_ble_eq_true hb
          simp only [if_true]
          rw [run_bind (Qae hs w)]
          have hlen : ((cs.drop j).take n).length = n := by simp; omega
          have := run_loadCells_list (P := P) w (q.add j) ((cs.drop j).take n) (fun i u hu => by
            rw [List.getElem?_take] at hu
            split at hu
            · rw [List.getElem?_drop] at hu
              rw [Qjs]; exact h _ _ hu
            · cases hu)
          rw [hlen] at this
          rw [run_bind this, ← hv]; rfl
def splice (cs : List Value) (j : Nat) (us : List Value) : List Value := cs.take j ++ us ++ cs.drop (j + us.length)
def plainAll : List Value → Bool
  | [] => true
  | v :: l => v.oneCell' && plainAll l
theorem QeJ : ∀ {l : List Value}, plainAll l = true → ∀ v ∈ l, v.oneCell' = true
  | _ :: l, h, v, hv => by
    simp only [plainAll, Bool.and_eq_true] at h
    rcases List.mem_cons.1 hv with rfl | hv
    · exact h.1
    · exact QeJ h.2 v hv
theorem Ql1 {P : Program} (h : St g w L ih) (i : Nat) {b : Nat} {cs : List Value} {t ty : TypeId} (hi : L[i]? = some (bx b cs t)) {j : Nat} {v : Value}
    (hs : det P (sizeOf ty) = some v.cells.size) (hj : Nat.ble (j + v.cells.size) cs.length = true) (hp : plainAll v.cells.toList = true) :
    ∃ w', (storeVar ty ⟨b, j, none⟩ v).run P w = .ok () w' ∧ St g w' (L.set i (bx b (splice cs j v.cells.toList) t)) ih := by
  have hb : w.heap[b]? = some (.cells cs.toArray t (0, 0)) := (h.vw i hi).own _ (List.mem_singleton.2 rfl)
  have hle := Nat.le_of_ble_eq_true hj
  have hr := run_storeCells_at P b j t v.cells.toList 0 cs.toArray w hb (by simpa using hle) (QeJ hp)
  refine ⟨w.setRow b (splice cs j v.cells.toList).toArray, ?_, ?_⟩
  · unfold storeVar
    rw [run_bind (Qae hs w)]
    simp only [ne_eq, not_true, if_false, Nat.add_zero] at hr ⊢
    exact hr
  · exact h.turn i hi rfl rfl rfl (setRow_heap w b cs.toArray _ t (0, 0) hb) fun k hk => setRow_other w b k _ hk
end Go.Proofs.YteiinkhbgpldeaaGreatDoor.Sx
