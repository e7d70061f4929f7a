/- Ranges over functions. Conditions: those ahead of each colon. -/
import Derived.Test.YteiinkhbgpldeaaGreatDoorSx8
import Derived.RangeFuncIn
import Derived.RangeFuncRecord
import Derived.RangeFuncLeaves
set_option linter.unusedSimpArgs false
set_option linter.unusedVariables false
namespace Go.Proofs.YteiinkhbgpldeaaGreatDoor.Sx
open Go
variable {P : Program} {ops : Array Oper} {Q : Exit → Act → World → Prop} {n : Nat} {g w : World} {L : List Ch} {ih : IH} {a : Act} {e : Env} {rest : List Oper} {dfs : List Deferred} {ro : Option Nat}
structure Lp where
  fn : FuncId
  tmps : Array Value
  ps : Array Tmp
  assign : Code
  body : Code
  df : Nat
def Lp.loop (r : Lp) (st : LoopState) (pe : Option Code) : Loop := { state := st, pending := pe, fn := r.fn, tmps := r.tmps, params := r.ps, assign := r.assign, body := r.body, defers := r.df }
theorem St.put (hw : St g w L ih) (k : Nat) {b : Nat} {o o' : Obj} (hk : L[k]? = some [(b, o)]) : St g (w.putObj b o') (L.set k [(b, o')]) ih := by
  have hb : w.heap[b]? = some o := hw.own (b, o) (List.mem_flatten.2 ⟨_, List.mem_of_getElem? hk, List.mem_singleton.2 rfl⟩)
  exact hw.turn k hk rfl rfl rfl (World.putObj_heap_same (Array.getElem?_eq_some_iff.1 hb).1) fun j hj => World.putObj_heap_other hj
theorem St.drop (k : Nat) {c : Ch} (h : St g w (L.set k c) ih) : St g w (L.set k []) ih := by
  rcases Nat.lt_or_ge k L.length with hk | hk
  · obtain ⟨A, B, h1, h2⟩ := Qhd (L := L.set k c) (i := k) (c := c) (c' := []) (by rw [List.getElem?_set_self hk])
    rw [List.set_set] at h2
    have hsub : ∀ p ∈ (L.set k []).flatten, p ∈ (L.set k c).flatten := fun p hp => by
      rw [h2] at hp; rw [h1]
      simp only [List.append_nil, List.mem_append] at hp ⊢
      rcases hp with hp | hp
      · exact .inl (.inl hp)
      · exact .inr hp
    refine ⟨h.os, h.tape, h.output, h.im, fun p hp => h.own p (hsub p hp), fun p hp => h.dis p (hsub p hp), ?_⟩
    have hnd := h.nd
    rw [h1] at hnd
    rw [h2, List.append_nil]
    refine hnd.sublist ((List.Sublist.append (List.sublist_append_left A c) (List.Sublist.refl B)).map _)
  · rw [List.set_eq_of_length_le hk] at h ⊢
    exact h
theorem St.at1 (hw : St g w L ih) (k : Nat) {b : Nat} {o : Obj} (hk : L[k]? = some [(b, o)]) : w.heap[b]? = some o :=
  hw.own (b, o) (List.mem_flatten.2 ⟨_, List.mem_of_getElem? hk, List.mem_singleton.2 rfl⟩)
theorem CallsR.mono {f : FuncId} {args : Array Value} {R R' : Value → World → Prop} (h : CallsR P f args w R) (hr : ∀ v w', R v w' → R' v w') : CallsR P f args w R' :=
  Calls.mono h fun e w' he => by
    cases e with
    | returned v => exact hr v w' he
    | panicked c => exact he
    | outgrown => exact he
end Go.Proofs.YteiinkhbgpldeaaGreatDoor.Sx
