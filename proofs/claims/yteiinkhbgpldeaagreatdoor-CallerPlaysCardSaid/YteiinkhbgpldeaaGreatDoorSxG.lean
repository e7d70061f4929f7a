/- A table out of what it reads as. Conditions: those ahead of each colon. -/
import Derived.Test.YteiinkhbgpldeaaGreatDoorSxO
import Derived.Test.YteiinkhbgpldeaaGreatDoorSx9
import Derived.OpenShut
import Derived.ChangeArms
import Derived.Lib.LaidTab
set_option linter.unusedSimpArgs false
set_option linter.unusedVariables false
namespace Go.Proofs.YteiinkhbgpldeaaGreatDoor.Sx
open Go
def rowD {H : Type} (r : List UInt8 × List Int) : DataW H := .agg [.lit (.string r.1), Lib.tabData .i64 r.2]
def rowC (r : List UInt8 × List Int) : List Value := .string ⟨r.1.toArray⟩ :: r.2.map (.int .i64)
theorem pieces : ∀ (n k : Nat) (cs : List Value) (f : Nat → List Value), cs.length = n * k → (∀ i, i < n → (cs.drop (i * k)).take k = f i) → cs = (List.range n).flatMap f := by
  intro n
  induction n with
  | zero => intro k cs f hl _; simp at hl; simp [hl]
  | succ n ih =>
    intro k cs f hl h
    have h0 := h 0 (by omega)
    rw [Nat.zero_mul, List.drop_zero] at h0
    have hd := ih k (cs.drop k) (fun i => f (i + 1)) (by rw [List.length_drop, hl, Nat.add_mul]; omega) fun i hi => by
      have := h (i + 1) (by omega)
      rw [List.drop_drop, show k + i * k = (i + 1) * k by rw [Nat.add_mul]; omega]
      exact this
    rw [List.range_succ_eq_map, List.flatMap_cons, ← h0, List.flatMap_map]
    conv => lhs; rw [← List.take_append_drop k cs, hd]
theorem QmG {H : Type} {enc : TypeId × Value → H} {P : Program} {w : World} {base : Nat} {sp : Nat → Bool} {held : Bool} {fuel : Nat} {e s a i m : TypeId} {f0 f1 : Field} {cs : List Value} {r : List UInt8 × List Int} {p : List MemPlace}
    (he : P.underlying e = some (.struct #[f0, f1])) (h0 : f0.type = s) (o0 : f0.offset = 0) (h1 : f1.type = a) (o1 : f1.offset = 1) (hs : P.underlying s = some .string) (cs1 : P.cellsOf s = 1) (ha : P.underlying a = some (.array m i)) (hi : P.underlying i = some (.int .i64)) (ci : P.cellsOf i = 1) (ca : P.cellsOf a = m) (ce : P.cellsOf e = m + 1)
    (h : DataW.trod enc P w base sp held fuel e cs = some (rowD r, p)) : cs = rowC r := by
  obtain ⟨xs, n, rfl, hx, hl, hlen, hf⟩ := DataW.trod_struct he h
  have g0 := hf 0 f0 rfl
  have g1 := hf 1 f1 rfl
  rw [h0, o0, cs1, List.drop_zero] at g0
  rw [h1, o1, ca] at g1
  have hl2 : xs.length = 2 := hlen
  match xs, hl2 with
  | [x0, x1], _ =>
    simp only [Prod.mk.injEq] at hx
    obtain ⟨hx, _⟩ := hx
    simp only [rowD, List.map_cons, List.map_nil, DataW.agg.injEq, List.cons.injEq, and_true] at hx
    obtain ⟨e0, e1⟩ := hx
    obtain ⟨x0a, x0b⟩ := x0
    obtain ⟨x1a, x1b⟩ := x1
    simp only at e0 e1
    subst e0 e1
    obtain ⟨sb, hs1, hs2, _⟩ := DataW.trod_string hs g0
    have h3 := Lib.cells_of_tab ha hi ci ca g1
    simp only [Prod.mk.injEq, DataW.lit.injEq, Lit.string.injEq] at hs2
    have hsb : sb = ⟨r.1.toArray⟩ := by
      cases sb with
      | mk d => simp only at hs2; rw [hs2.1]
    subst hsb
    have hlc : cs.length = m + 1 := by rw [hl, ce]
    unfold rowC
    rw [← h3, ← List.take_append_drop 1 cs, hs1]
    simp only [List.cons_append, List.nil_append, List.cons.injEq, true_and, List.drop_succ_cons, List.drop_zero]
    rw [List.take_of_length_le]
    rw [List.length_drop]; omega
theorem QlH {H : Type} {enc : TypeId × Value → H} {P : Program} {w : World} {base : Nat} {sp : Nat → Bool} {held : Bool} {fuel : Nat} {t e s a i m n : TypeId} {f0 f1 : Field} {cs : List Value} {rs : List (List UInt8 × List Int)} {p : List MemPlace}
    (ht : P.underlying t = some (.array n e)) (ct : P.cellsOf t = n * (m + 1)) (he : P.underlying e = some (.struct #[f0, f1])) (h0 : f0.type = s) (o0 : f0.offset = 0) (h1 : f1.type = a) (o1 : f1.offset = 1) (hs : P.underlying s = some .string) (cs1 : P.cellsOf s = 1) (ha : P.underlying a = some (.array m i)) (hi : P.underlying i = some (.int .i64)) (ci : P.cellsOf i = 1) (ca : P.cellsOf a = m) (ce : P.cellsOf e = m + 1)
    (h : DataW.trod enc P w base sp held fuel t cs = some (.agg (rs.map rowD), p)) : cs = rs.flatMap rowC := by
  obtain ⟨xs, k, rfl, hx, hl, hlen, hf⟩ := DataW.trod_array ht h
  simp only [Prod.mk.injEq, DataW.agg.injEq] at hx
  obtain ⟨hx, _⟩ := hx
  have hn : rs.length = n := by rw [← hlen]; have := congrArg List.length hx; simpa using this
  rw [ce] at hf
  have key := pieces n (m + 1) cs (fun i => match rs[i]? with | some r => rowC r | none => []) (by rw [hl, ct]) fun i hi' => by
    have h2 := hf i hi'
    have hr : rs[i]? = some (rs[i]'(by omega)) := List.getElem?_eq_getElem (by omega)
    have h3 : (xs.map (·.1))[i]? = some (rowD (rs[i]'(by omega))) := by rw [← hx, List.getElem?_map, hr]; rfl
    rw [List.getElem?_map] at h3
    obtain ⟨x, hx1, hx2⟩ := Option.map_eq_some_iff.1 h3
    rw [hx1] at h2
    rw [hr]
    obtain ⟨x1, x2⟩ := x
    simp only at hx2
    subst hx2
    exact QmG he h0 o0 h1 o1 hs cs1 ha hi ci ca ce h2
  rw [key]
  subst hn
  clear key hf hx hl hlen h ct ht
  induction rs with
  | nil => rfl
  | cons r rs ih =>
    rw [List.length_cons, List.range_succ_eq_map, List.flatMap_cons, List.flatMap_cons, List.flatMap_map]
    simp only [List.getElem?_cons_zero, List.getElem?_cons_succ]
    rw [ih]
theorem Qmi {P : Program} {W : World} {name : String} {D : DataW Unit} {rest : List (String × DataW Unit)} {g : Nat} {t e s a i m n : TypeId} {f0 f1 : Field} {rs : List (List UInt8 × List Int)} {gl : List Value} {T : TypeId}
    (hg : P.globalNamed name = some g) (hty : (P.globals[g]?).map (·.type) = some t)
    (ht : P.underlying t = some (.array n e)) (ct : P.cellsOf t = n * (m + 1)) (he : P.underlying e = some (.struct #[f0, f1])) (h0 : f0.type = s) (o0 : f0.offset = 0) (h1 : f1.type = a) (o1 : f1.offset = 1) (hs : P.underlying s = some .string) (cs1 : P.cellsOf s = 1) (ha : P.underlying a = some (.array m i)) (hi : P.underlying i = some (.int .i64)) (ci : P.cellsOf i = 1) (ca : P.cellsOf a = m) (ce : P.cellsOf e = m + 1)
    (hD : D = .agg (rs.map rowD)) (hgl : gl = rs.flatMap rowC) (h : laidMet P ((name, D) :: rest) W) : Glob g gl T (hp W) := by
  obtain ⟨ps, ⟨g', t', cs, fuel, p, q, hg', ht', hvar, hd, _, _⟩, _⟩ := h
  obtain rfl := Option.some.inj (hg.symm.trans hg')
  obtain rfl := Option.some.inj (hty.symm.trans ht')
  rw [hD] at hd
  have hcs := QlH ht ct he h0 o0 h1 o1 hs cs1 ha hi ci ca ce hd
  unfold World.var? at hvar
  rw [hg] at hvar
  simp only [Option.bind_some] at hvar
  split at hvar
  · rename_i c el fr hb
    simp only [Option.some.injEq] at hvar
    refine ⟨el, fr, ?_⟩
    show W.heap[g]? = _
    rw [hb, hvar, hgl, ← hcs, Array.toArray_toList]
  · cases hvar
end Go.Proofs.YteiinkhbgpldeaaGreatDoor.Sx
