/- What a call finds in memory, as plain values. Conditions: those ahead of each colon. -/
import Derived.Test.YteiinkhbgpldeaaGreatDoorSxD
import Derived.OpenShut
import Derived.ChangeArms
import Derived.ProofKit
import Derived.SizedLaws
set_option linter.unusedSimpArgs false
set_option linter.unusedVariables false
namespace Go.Proofs.YteiinkhbgpldeaaGreatDoor.Sx
open Go Go.RowKit
@[reducible] def hp (w : World) : IH := fun b => w.heap[b]?
def Opn (P : Program) (t : TypeId) (E : ET) (wf : E.α → Prop) : Prop :=
  ∀ {H : Type} (enc : TypeId × Value → H) (w : World) (spare : Nat → Bool) (held : Bool) (fuel : Nat) (cs : List Value) (x : DataW H × List MemPlace), DataW.trod enc P w 0 spare held fuel t cs = some x → ∃ y, E.enc (hp w) y cs ∧ wf y
@[reducible] def wfInt (k : IntKind) : Int → Prop := fun n => (Lit.int k n).wf = true
@[reducible] def wfBool : Bool → Prop := fun _ => True
@[reducible] def wfSl {α : Type} (wf : α → Prop) : List α → Prop := fun xs => xs.length ≤ 9223372036854775807 ∧ ∀ x ∈ xs, wf x
theorem QI {P : Program} {t t' : TypeId} {k : IntKind} (hu : P.underlying t = some (.int k)) : Opn P t (eInt k t') (wfInt k) := by
  intro H enc w spare held fuel cs x h
  obtain ⟨n, rfl, _, hw⟩ := DataW.trod_int hu h
  exact ⟨n, rfl, hw⟩
theorem Qkc {P : Program} {t t' : TypeId} (hu : P.underlying t = some .bool) : Opn P t (eBool t') wfBool := by
  intro H enc w spare held fuel cs x h
  obtain ⟨b, rfl, _⟩ := DataW.trod_bool hu h
  exact ⟨b, rfl, trivial⟩
theorem cells?_get {w : World} {base : Nat} {a : Addr} {n : Nat} {cs : List Value} (h : w.cells? base a n = some cs) : cs.length = n ∧ ∀ j v, cs[j]? = some v → w.cell? (a.add j) = some v := by
  unfold World.cells? at h
  split at h
  · have hl := mapM_some_length h
    refine ⟨by simpa using hl, fun j v hj => ?_⟩
    have hlt : j < n := by have := (List.getElem?_eq_some_iff.1 hj).1; rw [hl] at this; simpa using this
    have := mapM_some_get h j j (by simp [hlt])
    rw [this, hj]
  · cases h
theorem Qeg {P : Program} {t e t' : TypeId} {E : ET} {wf : E.α → Prop} (hu : P.underlying t = some (.slice e)) (ho : Opn P e E wf) (hc : P.cellsOf e = E.sz) (h0 : 0 < E.sz) : Opn P t (eSl t' E) (wfSl wf) := by
  intro H enc w spare held fuel cs x h
  rcases DataW.trod_slice hu h with ⟨rfl, _⟩ | ⟨a, len, cap, elems, rest, n, _, rfl, _, _, hl, hm, hlen, hel, _, _⟩
  · exact ⟨[], ⟨none, 0, rfl, RSl.nil _ _ _⟩, by simp, fun x hx => by cases hx⟩
  · rw [hc] at hel
    have each : ∀ i, i < len → ∃ y cs, E.enc (hp w) y cs ∧ wf y ∧ (∀ j v, cs[j]? = some v → w.cell? ((a.add (i * E.sz)).add j) = some v) := by
      intro i hi
      have h1 := hel i hi
      have h2 : ∃ z, elems[i]? = some z := ⟨_, List.getElem?_eq_getElem (by omega)⟩
      obtain ⟨z, hz⟩ := h2
      rw [hz] at h1
      cases hcs : w.cells? 0 (a.add (i * E.sz)) E.sz with
      | none => rw [hcs] at h1; cases h1
      | some cs =>
        rw [hcs] at h1
        obtain ⟨y, hy, hw⟩ := ho enc w spare held n cs z h1
        exact ⟨y, cs, hy, hw, (cells?_get hcs).2⟩
    have key : ∀ m, m ≤ len → ∃ xs : List E.α, xs.length = m ∧ (∀ x ∈ xs, wf x) ∧ ∀ i x, xs[i]? = some x → ∃ cs, E.enc (hp w) x cs ∧ ∀ j v, cs[j]? = some v → w.cell? ((a.add (i * E.sz)).add j) = some v := by
      intro m
      induction m with
      | zero =>
        intro _
        refine ⟨[], rfl, ?_, ?_⟩
        · intro x hx; cases hx
        · intro i x hx; cases hx
      | succ m ih =>
        intro hm
        obtain ⟨xs, h1, h2, h3⟩ := ih (by omega)
        obtain ⟨y, cs, hy, hwy, hcy⟩ := each m (by omega)
        refine ⟨xs ++ [y], by simp [h1], fun x hx => ?_, fun i x hx => ?_⟩
        · rcases List.mem_append.1 hx with hx | hx
          · exact h2 x hx
          · rw [List.mem_singleton.1 hx]; exact hwy
        · rw [List.getElem?_append] at hx
          split at hx
          · exact h3 i x hx
          · rename_i hge
            have hi : i = m := by
              have := (List.getElem?_eq_some_iff.1 hx).1
              simp at this; omega
            subst hi
            rw [h1, Nat.sub_self] at hx
            simp only [List.getElem?_cons_zero, Option.some.injEq] at hx
            subst hx
            exact ⟨cs, hy, hcy⟩
    obtain ⟨xs, h1, h2, h3⟩ := key len (Nat.le_refl _)
    refine ⟨xs, ⟨some a, cap, by rw [h1], by rw [h1]; exact hl, fun hne => ?_⟩, by rw [h1]; simp only [maxLen] at hm; omega, h2⟩
    have hpos : 0 < xs.length := List.length_pos_iff.2 hne
    obtain ⟨cs0, he0, hc0⟩ := h3 0 _ (List.getElem?_eq_getElem hpos)
    have hcl := E.len he0
    have hcell := hc0 0 _ (List.getElem?_eq_getElem (by omega))
    rw [Qjs] at hcell
    obtain ⟨b, off, sp⟩ := a
    have hsp : sp = none := by
      cases sp with
      | none => rfl
      | some q =>
        unfold World.cell? Addr.add at hcell
        simp at hcell
        split at hcell <;> cases hcell
    subst hsp
    rw [QhT] at hcell
    unfold World.cell? at hcell
    split at hcell
    · rename_i c el fr hb
      refine ⟨rfl, c, el, fr, .inl hb, fun i x hx => ?_⟩
      obtain ⟨cs, he, hcs⟩ := h3 i x hx
      refine ⟨cs, he, fun j v hj => ?_⟩
      have := hcs j v hj
      rw [Qjs, QhT] at this
      unfold World.cell? at this
      simp only [hb] at this
      rw [← Nat.add_assoc] at this
      simpa using this
    · cases hcell
theorem piece {cs : List Value} (o n : Nat) : cs.drop o = (cs.drop o).take n ++ cs.drop (o + n) := by
  rw [← List.drop_drop, List.take_append_drop]
theorem QlI (W : World) : St W W [[]] (hp W) := ⟨rfl, rfl, rfl, fun _ _ h => h, fun p hp => by simp at hp, fun p hp => by simp at hp, by simp⟩
theorem QlW {W W' : World} {L : List Ch} {ih : IH} (h : St W W' L ih) (hle : Le (hp W) ih) : Below W.heap.size W W' := by
  refine ⟨h.os, h.tape, h.output, ?_, fun k hk => ?_⟩
  · rcases Nat.eq_zero_or_pos W.heap.size with h0 | h0
    · omega
    · have h1 : W.heap[W.heap.size - 1]? = some W.heap[W.heap.size - 1] := Array.getElem?_eq_getElem (by omega)
      have h2 := h.im _ _ (hle _ _ h1)
      have := (Array.getElem?_eq_some_iff.1 h2).1
      omega
  · have h1 : W.heap[k]? = some W.heap[k] := Array.getElem?_eq_getElem hk
    rw [h1]; exact h.im _ _ (hle _ _ h1)
theorem QP {cs xs ys : List Value} {o n m : Nat} (h1 : (cs.drop o).take n = xs) (h2 : cs.drop m = ys) (hm : o + n = m) : cs.drop o = xs ++ ys := by
  subst hm; rw [← h1, ← h2]; exact piece o n
theorem fld {P : Program} {H : Type} {enc : TypeId × Value → H} {w : World} {spare : Nat → Bool} {held : Bool} {fuel : Nat} {cs : List Value} {xs : List (DataW H × List MemPlace)} {fs : Array Field}
    (hf : ∀ (i : Nat) (f : Field), fs[i]? = some f → DataW.trod enc P w 0 spare held fuel f.type ((cs.drop f.offset).take (P.cellsOf f.type)) = xs[i]?) (hl : xs.length = fs.size)
    (i : Nat) {f : Field} (h : fs[i]? = some f) (t o n : Nat) (ht : f.type = t) (ho : f.offset = o) (hn : P.cellsOf t = n) : ∃ z, DataW.trod enc P w 0 spare held fuel t ((cs.drop o).take n) = some z := by
  have := hf i f h
  rw [ht, ho, hn] at this
  have hi := (Array.getElem?_eq_some_iff.1 h).1
  exact ⟨_, this.trans (List.getElem?_eq_getElem (by omega))⟩
theorem QjW {P : Program} {t : TypeId} {E : ET} {wf : E.α → Prop} (ho : Opn P t E wf) {H : Type} {enc : TypeId × Value → H} {w : World} {spare : Nat → Bool} {held : Bool} {v : Value} {d : DataW H} {ps : List MemPlace}
    (h : DataW.Trod enc P w 0 spare held t v d ps) : ∃ y, E.enc (hp w) y v.cells.toList ∧ wf y := by
  obtain ⟨fuel, hf⟩ := h
  exact ho enc w spare held fuel v.cells.toList _ hf
theorem QjP {P : Program} {f : FuncId} {args : Array Value} {w : World} {R : Value → World → Prop} (h : CallsR P f args w R) : Calls P f args w fun e w' => ∃ v, e = .returned v ∧ R v w' := by
  refine Calls.mono h fun e w' hh => ?_
  cases e with
  | returned v => exact ⟨v, rfl, hh⟩
  | _ => exact hh.elim
end Go.Proofs.YteiinkhbgpldeaaGreatDoor.Sx
