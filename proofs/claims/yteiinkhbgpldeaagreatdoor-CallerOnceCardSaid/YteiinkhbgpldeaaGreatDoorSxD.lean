/- Deletion within a row.
   Conditions: those that each theorem states ahead of its colon, and no other. -/
import Derived.Test.YteiinkhbgpldeaaGreatDoorSxR
set_option linter.unusedSimpArgs false
set_option linter.unusedVariables false
namespace Go.Proofs.YteiinkhbgpldeaaGreatDoor.Sx
open Go
variable {P : Program} {ops : Array Oper} {Q : Exit → Act → World → Prop} {n : Nat} {g w : World} {L : List Ch} {ih : IH} {a : Act} {e : Env} {rest : List Oper} {dfs : List Deferred} {ro : Option Nat}

/-- the cells of the elements of xs, in a row's cells from its beginning on -/
def Holds (E : ET) (ih : IH) (cur : List Value) (xs : List E.α) : Prop := ∀ i x, xs[i]? = some x → ∃ cs, E.enc ih x cs ∧ ∀ j v, cs[j]? = some v → cur[i * E.sz + j]? = some v
theorem Holds.take {E : ET} {cur : List Value} {xs : List E.α} (h : Holds E ih cur xs) (m : Nat) : Holds E ih cur (xs.take m) := fun i x hx => by
  rw [List.getElem?_take] at hx
  split at hx
  · exact h i x hx
  · cases hx
/-- what a deletion within the row comes to: the front, then the back moved down, then what stood there, with zeros over the gap -/
theorem Holds.delete {E : ET} {cur : List Value} {xs : List E.α} (h : Holds E ih cur xs) {i j : Nat} (hij : i ≤ j) (hj : j ≤ xs.length) (hc : xs.length * E.sz ≤ cur.length) (tl : List Value) :
    Holds E ih (cur.take (i * E.sz) ++ ((cur.drop (j * E.sz)).take ((xs.length - j) * E.sz)) ++ tl) (xs.take i ++ xs.drop j) := by
  intro t x hx
  have hisz : i * E.sz ≤ cur.length := Nat.le_trans (Nat.mul_le_mul_right _ (by omega)) hc
  have hl1 : (cur.take (i * E.sz)).length = i * E.sz := by rw [List.length_take]; omega
  rw [List.getElem?_append] at hx
  split at hx
  · rename_i hlt
    rw [List.length_take] at hlt
    rw [List.getElem?_take, if_pos (by omega)] at hx
    obtain ⟨cs, he, hcs⟩ := h t x hx
    refine ⟨cs, he, fun k v hk => ?_⟩
    have hkl := (List.getElem?_eq_some_iff.1 hk).1
    rw [E.len he] at hkl
    have hb : t * E.sz + k < i * E.sz := by
      have : (t + 1) * E.sz ≤ i * E.sz := Nat.mul_le_mul_right _ (by omega)
      rw [Nat.add_mul] at this; omega
    rw [List.append_assoc, List.getElem?_append_left (by omega), List.getElem?_take, if_pos hb]
    exact hcs k v hk
  · rename_i hge
    rw [List.length_take, Nat.min_eq_left (by omega)] at hge hx
    rw [List.getElem?_drop] at hx
    have htl := (List.getElem?_eq_some_iff.1 hx).1
    obtain ⟨cs, he, hcs⟩ := h _ x hx
    refine ⟨cs, he, fun k v hk => ?_⟩
    have hkl := (List.getElem?_eq_some_iff.1 hk).1
    rw [E.len he] at hkl
    have e1 : t * E.sz = i * E.sz + (t - i) * E.sz := by rw [← Nat.add_mul]; congr 1; omega
    have hb : (t - i) * E.sz + k < (xs.length - j) * E.sz := by
      have : (t - i + 1) * E.sz ≤ (xs.length - j) * E.sz := Nat.mul_le_mul_right _ (by omega)
      rw [Nat.add_mul] at this; omega
    have hlen2 : ((cur.drop (j * E.sz)).take ((xs.length - j) * E.sz)).length = (xs.length - j) * E.sz := by
      rw [List.length_take, List.length_drop]
      have : (xs.length - j) * E.sz = xs.length * E.sz - j * E.sz := Nat.sub_mul _ _ _
      omega
    rw [List.append_assoc, List.getElem?_append_right (by omega), hl1, List.getElem?_append_left (by omega), List.getElem?_take, if_pos (by omega), List.getElem?_drop]
    have h2 := hcs k v hk
    rw [Nat.add_mul] at h2
    rw [← h2]
    congr 1; omega

theorem Holds.app {E : ET} {cur us : List Value} {xs ys : List E.α} (h : Holds E ih cur xs) (hc : xs.length * E.sz ≤ cur.length) (hys : ∀ i x, ys[i]? = some x → ∃ cs, E.enc ih x cs ∧ ∀ j v, cs[j]? = some v → us[i * E.sz + j]? = some v) (tl : List Value) :
    Holds E ih (cur.take (xs.length * E.sz) ++ us ++ tl) (xs ++ ys) := by
  intro i x hx
  have hl1 : (cur.take (xs.length * E.sz)).length = xs.length * E.sz := by rw [List.length_take]; omega
  rw [List.getElem?_append] at hx
  split at hx
  · rename_i hlt
    obtain ⟨cs, he, hcs⟩ := h i x hx
    refine ⟨cs, he, fun j v hj => ?_⟩
    have hjl := (List.getElem?_eq_some_iff.1 hj).1
    rw [E.len he] at hjl
    have hb : i * E.sz + j < xs.length * E.sz := by
      have : (i + 1) * E.sz ≤ xs.length * E.sz := Nat.mul_le_mul_right _ hlt
      rw [Nat.add_mul] at this; omega
    rw [List.append_assoc, List.getElem?_append_left (by omega), List.getElem?_take, if_pos hb]
    exact hcs j v hj
  · rename_i hge
    obtain ⟨cs, he, hcs⟩ := hys _ x hx
    refine ⟨cs, he, fun j v hj => ?_⟩
    have h0 := hcs j v hj
    have h1 := (List.getElem?_eq_some_iff.1 h0).1
    have hmul : i * E.sz = xs.length * E.sz + (i - xs.length) * E.sz := by rw [← Nat.add_mul]; congr 1; omega
    rw [List.append_assoc, List.getElem?_append_right (by omega), hl1, hmul, show xs.length * E.sz + (i - xs.length) * E.sz + j - xs.length * E.sz = (i - xs.length) * E.sz + j by omega, List.getElem?_append_left h1]
    exact h0

/-- append where there is room: the row stays -/
theorem run_appIn {t : TypeId} {E : ET} (hT : AppT P t E) {k : Nat} (hw : St g w L ih) {b : Nat} {cur : Array Value} (hk : L[k]? = some [(b, .cells cur E.ty (0, 0))]) {cap : Nat} (hcs : cur.size = cap * E.sz) {xs ys : List E.α} (hH : Holds E ih cur.toList xs) (hroom : xs.length + ys.length ≤ cap) (ty : TypeId)
    {q : Addr} {c2 : Nat} {us : List Value} (hl : us.length = ys.length * E.sz) (hpl : plainAll us = true) (hat : At w q us) (hys : ∀ i x, ys[i]? = some x → ∃ cs, E.enc ih x cs ∧ ∀ j v, cs[j]? = some v → us[i * E.sz + j]? = some v) :
    ∃ (cur' : Array Value) (w' : World), (Builtin.append_ #[t, t] ty #[.slice (some ⟨b, 0, none⟩) xs.length cap, .slice (some q) ys.length c2]).run P w = .ok (.slice (some ⟨b, 0, none⟩) (xs.length + ys.length) cap) w' ∧ cur'.size = cap * E.sz ∧ Holds E ih cur'.toList (xs ++ ys) ∧ St g w' (L.set k [(b, .cells cur' E.ty (0, 0))]) ih := by
  obtain ⟨i, z, h1, h2, h3, h4, h5, h6, h7⟩ := hT
  have hb : w.heap[b]? = some (.cells cur E.ty (0, 0)) := hw.at1 k hk
  have hle : (xs.length + ys.length) * E.sz ≤ cap * E.sz := Nat.mul_le_mul_right _ hroom
  rw [Nat.add_mul] at hle
  have hfit : xs.length * i.size + us.length ≤ cur.size := by rw [h5, hl, hcs]; exact hle
  have hr := run_append_room (P := P) w t ty E.ty i h1 h2 b xs.length cap cur hb q ys.length c2 us (by rw [h5]; exact hl) hat (plainAll_spec hpl) hroom hfit
  rw [h5] at hr hfit
  refine ⟨_, _, hr, ?_, ?_, hw.turn k hk rfl rfl rfl (setRow_heap w b cur _ E.ty (0, 0) hb) fun m hm => setRow_other w b m _ hm⟩
  · simp only [List.size_toArray, List.length_append, List.length_take, List.length_drop, Array.length_toList]
    omega
  · have hcl : cur.toList.length = cap * E.sz := by rw [Array.length_toList, hcs]
    have := hH.app (us := us) (by rw [hcl]; omega) hys (cur.toList.drop (xs.length * E.sz + us.length))
    simpa using this

/-- the cells behind the elements are cleared -/
theorem run_clearTail {t : TypeId} {E : ET} (hT : AppT P t E) (hz1 : ∀ z, ((P.info? E.ty).bind (·.zero)) = some z → plainAll z.cells.toList = true) {k : Nat} (hw : St g w L ih) {b : Nat} {cur : Array Value} (hk : L[k]? = some [(b, .cells cur E.ty (0, 0))]) {cap : Nat} (hcs : cur.size = cap * E.sz) {ys : List E.α} (hH : Holds E ih cur.toList ys) {m c2 : Nat} (h0 : ys.length < m) (hm : m ≤ cap) (ty : TypeId) :
    ∃ (cur' : Array Value) (w' : World), (Builtin.clear_ #[t] ty #[.slice (some ⟨b, ys.length * E.sz, none⟩) (m - ys.length) c2]).run P w = .ok (.tuple #[]) w' ∧ cur'.size = cap * E.sz ∧ Holds E ih cur'.toList ys ∧ St g w' (L.set k [(b, .cells cur' E.ty (0, 0))]) ih := by
  obtain ⟨i, z, h1, h2, h3, h4, h5, h6, h7⟩ := hT
  have hzp := plainAll_spec (hz1 z (by rw [h2]; exact h3))
  have hb : w.heap[b]? = some (.cells cur E.ty (0, 0)) := hw.at1 k hk
  have hzl : (Builtin.zeroCells z.cells (m - ys.length)).toList.length = (m - ys.length) * E.sz := by rw [Array.length_toList, size_zeroCells, h4]
  have hle : m * E.sz ≤ cap * E.sz := Nat.mul_le_mul_right _ hm
  have hsub : (m - ys.length) * E.sz = m * E.sz - ys.length * E.sz := Nat.sub_mul _ _ _
  have hle2 : ys.length * E.sz ≤ m * E.sz := Nat.mul_le_mul_right _ (by omega)
  have hst := run_storeCells_at P b (ys.length * E.sz) E.ty (Builtin.zeroCells z.cells (m - ys.length)).toList 0 cur w hb (by rw [hzl]; omega) (fun v hv => by
    rw [Array.mem_toList_iff] at hv
    unfold Builtin.zeroCells at hv
    simp only [Array.mem_map] at hv
    obtain ⟨t, _, rfl⟩ := hv
    have hpos : 0 < z.cells.size := by omega
    have hlt : t % z.cells.size < z.cells.size := Nat.mod_lt _ hpos
    refine hzp _ ?_
    rw [getElem!_pos z.cells _ hlt]
    exact Array.mem_toList_iff.2 (Array.getElem_mem hlt))
  refine ⟨(cur.toList.take (ys.length * E.sz) ++ (Builtin.zeroCells z.cells (m - ys.length)).toList ++ cur.toList.drop (ys.length * E.sz + (Builtin.zeroCells z.cells (m - ys.length)).toList.length)).toArray, w.setRow b (cur.toList.take (ys.length * E.sz) ++ (Builtin.zeroCells z.cells (m - ys.length)).toList ++ cur.toList.drop (ys.length * E.sz + (Builtin.zeroCells z.cells (m - ys.length)).toList.length)).toArray, ?_, ?_, ?_, hw.turn k hk rfl rfl rfl (setRow_heap w b cur _ E.ty (0, 0) hb) fun m hm => setRow_other w b m _ hm⟩
  · have hne : ¬ m - ys.length = 0 := by omega
    unfold Builtin.clear_
    simp only [Nat.add_zero] at hst
    simp [run_underlying h1, zeroValue, typeInfo, h2, h3, hne, hst]
  · simp only [List.size_toArray, List.length_append, List.length_take, List.length_drop, Array.length_toList, hzl]
    omega
  · intro j x hx
    obtain ⟨cs, he, hcs'⟩ := hH j x hx
    refine ⟨cs, he, fun v u hv => ?_⟩
    have h8 := hcs' v u hv
    have hlt := (List.getElem?_eq_some_iff.1 hx).1
    have hvl := (List.getElem?_eq_some_iff.1 hv).1
    rw [E.len he] at hvl
    have hb2 : j * E.sz + v < ys.length * E.sz := by
      have : (j + 1) * E.sz ≤ ys.length * E.sz := Nat.mul_le_mul_right _ hlt
      rw [Nat.add_mul] at this; omega
    have hcl : cur.toList.length = cap * E.sz := by rw [Array.length_toList, hcs]
    rw [List.append_assoc, List.getElem?_append_left (by rw [List.length_take, hcl]; omega), List.getElem?_take, if_pos (by omega)]
    exact h8


variable {J : Act → World → Prop} {S : Array Bool → World → Prop} {fuel : Nat} {l : Array Bool}
/-- a part of a slice, with the address told -/
theorem s_sliceX {t ty : TypeId} {x : Operand} {lo hi mx : Option Operand} {dst : Option Tmp} {pos : String} {af : Array Edge} {gd : Option (Nat × Bool)} (hs : SeesD dfs a n e) {p : Option Addr} {len cap : Nat}
    (hok : okE ops n e ⟨dst, .slice t x lo hi mx, ty, pos, af, gd⟩ = true) (hx : ev e x = .slice p len cap) (el : TypeId) {sz : Nat} (ht : det P (underlying t) = some (.slice el)) (hsz : det P (sizeOf el) = some sz)
    (hk : (bndOk e lo && bndOk e hi && bndOk e mx && (!mx.isSome || hi.isSome)) = true) {l h m : Int} (hl : (bnd e lo).getD 0 = l) (hh : (bnd e hi).getD len = h) (hmm : (bnd e mx).getD cap = m) (h0 : 0 ≤ l) (h1 : l ≤ h) (h2 : h ≤ m) (h3 : m ≤ cap)
    {v : Value} (hv : .slice (if m.toNat = l.toNat then p else p.map (·.add (l.toNat * sz))) (h.toNat - l.toNat) (m.toNat - l.toNat) = v)
    (next : ∀ a', SeesD dfs a' n (putO dst v e) → wpList P ops Q rest a' w) : wpList P ops Q (⟨dst, .slice t x lo hi mx, ty, pos, af, gd⟩ :: rest) a w := by
  simp only [Bool.and_eq_true, Bool.or_eq_true, Bool.not_eq_true'] at hk
  obtain ⟨⟨⟨k1, k2⟩, k3⟩, k4⟩ := hk
  have hb := run_bounds (P := P) (w := w) (len := len) (cap := cap) k1 k2 k3 (fun hs => by
    rcases k4 with h | h
    · rw [hs] at h; cases h
    · exact h) hl hh hmm h0 h1 h2 h3
  exact step_run hs hok (by rw [exec_slice hx el ht hsz _ _ _ hb, hv]) next
theorem d_sliceX {K : List Nat} (hK : KeyOk S K) (hs : SeesD dfs a n e) (hS : S l w) (ii : Nat) {t ty : TypeId} {x : Operand} {lo hi mx : Option Operand} {dst : Option Tmp} {pos : String} {af : Array Edge} {gd : Option (Nat × Bool)} (hi' : ops[ii]? = some ⟨dst, .slice t x lo hi mx, ty, pos, af, gd⟩) (hb : dOk ops K l ii = true) {p : Option Addr} {len cap : Nat}
    (hok : okE ops n e ⟨dst, .slice t x lo hi mx, ty, pos, af, gd⟩ = true) (hx : ev e x = .slice p len cap) (el : TypeId) {sz : Nat} (ht : det P (underlying t) = some (.slice el)) (hsz : det P (sizeOf el) = some sz)
    (hk : (bndOk e lo && bndOk e hi && bndOk e mx && (!mx.isSome || hi.isSome)) = true) {l' h m : Int} (hl : (bnd e lo).getD 0 = l') (hh : (bnd e hi).getD len = h) (hmm : (bnd e mx).getD cap = m) (h0 : 0 ≤ l') (h1 : l' ≤ h) (h2 : h ≤ m) (h3 : m ≤ cap)
    {v : Value} (hv : .slice (if m.toNat = l'.toNat then p else p.map (·.add (l'.toNat * sz))) (h.toNat - l'.toNat) (m.toNat - l'.toNat) = v)
    (next : ∀ a', SeesD dfs a' n (putO dst v e) → S (l.setIfInBounds ii true) w → DG P ops J S fuel (l.setIfInBounds ii true) a' w) : DG P ops J S (fuel + 1) l a w := by
  simp only [Bool.and_eq_true, Bool.or_eq_true, Bool.not_eq_true'] at hk
  obtain ⟨⟨⟨k1, k2⟩, k3⟩, k4⟩ := hk
  exact d_yield hK hs hS ii hi' hb noT hok (fun w _ => by
    have hb := run_bounds (P := P) (w := w) (len := len) (cap := cap) k1 k2 k3 (fun hs => by
      rcases k4 with h | h
      · rw [hs] at h; cases h
      · exact h) hl hh hmm h0 h1 h2 h3
    rw [exec_slice hx el ht hsz _ _ _ hb, hv]) next
theorem exec_clear {x : Operand} {t ty : TypeId} {dst : Option Tmp} {pos : String} {af : Array Edge} {gd : Option (Nat × Bool)} {v1 v : Value} {w' : World} (hx : ev e x = v1) (h : (Builtin.clear_ #[t] ty #[v1]).run P w = .ok v w') :
    (execOp (ev e) ⟨dst, .call ⟨.builtin .clear, #[x], #[t]⟩, ty, pos, af, gd⟩).run P w = .ok (.value v) w' := by
  simp only [execOp, resolve, invoke, builtin, Sem.run_bind, Sem.run_pure, Result.andThen_ok, List.map_toArray, List.map_cons, List.map_nil, hx, h]
/-- what a deletion leaves -/
def delS {α : Type} (xs : List α) (i j : Int) : Option (List α) := if 0 ≤ i ∧ i ≤ j ∧ j ≤ xs.length then some (xs.take i.toNat ++ xs.drop j.toNat) else none
theorem delE {α : Type} {xs r : List α} {i j : Int} (h : delS xs i j = some r) : 0 ≤ i ∧ i ≤ j ∧ j ≤ xs.length ∧ r = xs.take i.toNat ++ xs.drop j.toNat := by
  unfold delS at h
  split at h
  · rename_i hc; exact ⟨hc.1, hc.2.1, hc.2.2, (someE h).symm⟩
  · cases h


theorem part0 {b c sz : Nat} : (if ((c : Nat) : Int).toNat = (0 : Int).toNat then (some ⟨b, 0, none⟩ : Option Addr) else (some ⟨b, 0, none⟩ : Option Addr).map (·.add ((0 : Int).toNat * sz))) = some ⟨b, 0, none⟩ := by
  split
  · rfl
  · show some (Addr.add ⟨b, 0, none⟩ (0 * sz)) = _
    rw [Nat.zero_mul, add_mk]
/-- the back part of a row, as a source -/
theorem del_src {E : ET} {b c : Nat} {xs : List E.α} {d : Ch} (ho : OSl E ih (some ⟨b, 0, none⟩) c xs d) {j : Nat} (hj : j ≤ xs.length) :
    ∃ (q : Addr) (us : List Value), (if c = j then (some ⟨b, 0, none⟩ : Option Addr) else (some ⟨b, 0, none⟩ : Option Addr).map (·.add (j * E.sz))) = some q ∧ us.length = (xs.drop j).length * E.sz ∧ plainAll us = true ∧ (∀ w, Vw w d ih → At w q us) ∧
      ∀ i x, (xs.drop j)[i]? = some x → ∃ cs, E.enc ih x cs ∧ ∀ k v, cs[k]? = some v → us[i * E.sz + k]? = some v := by
  have hr := ho.read
  have hs := hr.sub (lo := j) (hi := xs.length) (m := c) hj (Nat.le_refl _) hr.1 (Nat.le_refl _)
  rw [show (xs.drop j).take (xs.length - j) = xs.drop j from List.take_of_length_le (by simp)] at hs
  obtain ⟨q, hq⟩ : ∃ q, (if c = j then (some ⟨b, 0, none⟩ : Option Addr) else (some ⟨b, 0, none⟩ : Option Addr).map (·.add (j * E.sz))) = some q := by
    split
    · exact ⟨_, rfl⟩
    · exact ⟨_, rfl⟩
  rw [hq] at hs
  obtain ⟨us, h1, h2, h3, h4⟩ := hs.all
  exact ⟨q, us, hq, h1, h2, h3, h4⟩


theorem OSl.open1 {E : ET} {b c : Nat} {xs : List E.α} {d : Ch} (ho : OSl E ih (some ⟨b, 0, none⟩) c xs d) : ∃ cur : Array Value, d = [(b, .cells cur E.ty (0, 0))] ∧ xs.length ≤ c ∧ c ≤ maxLen ∧ cur.size = c * E.sz ∧ Holds E ih cur.toList xs := by
  rcases ho with ⟨h, _⟩ | ⟨b', cur, h, rfl, h1, h2, h3, h4⟩
  · cases h
  · cases h
    exact ⟨cur, rfl, h1, h2, h3, fun i x hx => by
      obtain ⟨cs, he, hcs⟩ := h4 i x hx
      exact ⟨cs, he, fun j v hj => by simpa using hcs j v hj⟩⟩
theorem OSl.close1 {E : ET} {b c : Nat} {xs : List E.α} {cur : Array Value} (h1 : xs.length ≤ c) (h2 : c ≤ maxLen) (h3 : cur.size = c * E.sz) (h4 : Holds E ih cur.toList xs) : OSl E ih (some ⟨b, 0, none⟩) c xs [(b, .cells cur E.ty (0, 0))] :=
  .inr ⟨b, cur, rfl, rfl, h1, h2, h3, fun i x hx => by
    obtain ⟨cs, he, hcs⟩ := h4 i x hx
    exact ⟨cs, he, fun j v hj => by simpa using hcs j v hj⟩⟩
/-- append(s[:i], s[j:]...): within the row -/
theorem o_appD {x y : Operand} {t ty : TypeId} {dst : Option Tmp} {pos : String} {af : Array Edge} {gd : Option (Nat × Bool)} {ii : Nat} (hs : SeesD dfs a n e) (hi : ops[ii]? = some ⟨dst, .call ⟨.builtin .append, #[x, y], #[t, t]⟩, ty, pos, af, gd⟩) (hw : St g w L ih) {E : ET} (hT : AppT P t E) (k : Nat) {b c : Nat} {cur : Array Value} (hk : L[k]? = some [(b, .cells cur E.ty (0, 0))]) {xs : List E.α} (ho : OSl E ih (some ⟨b, 0, none⟩) c xs [(b, .cells cur E.ty (0, 0))])
    (hok : okE ops n e ⟨dst, .call ⟨.builtin .append, #[x, y], #[t, t]⟩, ty, pos, af, gd⟩ = true) {i j : Nat} (hij : i ≤ j) (hj : j ≤ xs.length) (hx : ev e x = .slice (some ⟨b, 0, none⟩) i c) (hy : ev e y = .slice (if c = j then (some ⟨b, 0, none⟩ : Option Addr) else (some ⟨b, 0, none⟩ : Option Addr).map (·.add (j * E.sz))) (xs.length - j) (c - j))
    {K : Act → World → Prop} {Q : Exit → Act → World → Prop} (next : ∀ a' w' cur', OSl E ih (some ⟨b, 0, none⟩) c (xs.take i ++ xs.drop j) [(b, .cells cur' E.ty (0, 0))] → St g w' (L.set k [(b, .cells cur' E.ty (0, 0))]) ih → SeesD dfs a' n (putO dst (.slice (some ⟨b, 0, none⟩) (i + (xs.length - j)) c) e) → K a' w') : wpOp P ops Q ii K a w := by
  obtain ⟨cur1, hd, hxc, hcm, hcs, hH⟩ := ho.open1
  cases hd
  obtain ⟨q, us, hq, h1, h2, h3, h4⟩ := del_src ho hj
  have hl1 : (xs.take i).length = i := by rw [List.length_take]; omega
  have hl2 : (xs.drop j).length = xs.length - j := by rw [List.length_drop]
  obtain ⟨cur', w', hr, h5, h6, h7⟩ := run_appIn (P := P) hT hw hk hcs (hH.take i) (ys := xs.drop j) (by omega) ty (c2 := c - j) h1 h2 (h3 w (hw.vw k hk)) h4
  rw [hl1, hl2] at hr
  rw [hq] at hy
  exact o_run hs hi hok (exec_append hx hy hr) fun a' ha' => next a' w' cur' (OSl.close1 (by rw [List.length_append, hl1, hl2]; omega) hcm h5 h6) h7 ha'
/-- clear(s[len(s):m]) -/
theorem s_clearD {x : Operand} {t ty : TypeId} {dst : Option Tmp} {pos : String} {af : Array Edge} {gd : Option (Nat × Bool)} (hs : SeesD dfs a n e) (hw : St g w L ih) {E : ET} (hT : AppT P t E) (hz1 : ∀ z, ((P.info? E.ty).bind (·.zero)) = some z → plainAll z.cells.toList = true) (k : Nat) {b c : Nat} {cur : Array Value} (hk : L[k]? = some [(b, .cells cur E.ty (0, 0))]) {ys : List E.α} (ho : OSl E ih (some ⟨b, 0, none⟩) c ys [(b, .cells cur E.ty (0, 0))])
    (hok : okE ops n e ⟨dst, .call ⟨.builtin .clear, #[x], #[t]⟩, ty, pos, af, gd⟩ = true) {m : Nat} (h0 : ys.length < m) (hm : m ≤ c) (hx : ev e x = .slice (if c = ys.length then (some ⟨b, 0, none⟩ : Option Addr) else (some ⟨b, 0, none⟩ : Option Addr).map (·.add (ys.length * E.sz))) (m - ys.length) (c - ys.length))
    (next : ∀ a' w' cur', OSl E ih (some ⟨b, 0, none⟩) c ys [(b, .cells cur' E.ty (0, 0))] → St g w' (L.set k [(b, .cells cur' E.ty (0, 0))]) ih → SeesD dfs a' n (putO dst (.tuple #[]) e) → wpList P ops Q rest a' w') : wpList P ops Q (⟨dst, .call ⟨.builtin .clear, #[x], #[t]⟩, ty, pos, af, gd⟩ :: rest) a w := by
  obtain ⟨cur1, hd, hxc, hcm, hcs, hH⟩ := ho.open1
  cases hd
  obtain ⟨cur', w', hr, h5, h6, h7⟩ := run_clearTail (P := P) hT hz1 hw hk hcs hH h0 hm ty (c2 := c - ys.length)
  rw [if_neg (by omega)] at hx
  have hx' : ev e x = .slice (some ⟨b, ys.length * E.sz, none⟩) (m - ys.length) (c - ys.length) := by
    rw [hx]
    show Value.slice (some (Addr.add ⟨b, 0, none⟩ (ys.length * E.sz))) _ _ = _
    rw [add_mk, Nat.zero_add]
  exact step_run hs hok (exec_clear hx' hr) fun a' ha' => next a' w' cur' (OSl.close1 hxc hcm h5 h6) h7 ha'


theorem zB {t : TypeId} (h : (match (P.info? t).bind (·.zero) with | some z => plainAll z.cells.toList | none => true) = true) : ∀ z, ((P.info? t).bind (·.zero)) = some z → plainAll z.cells.toList = true := fun z hz => by
  rw [hz] at h; exact h
theorem ifU {b : Bool} : (if b = true then some () else some () : Option Unit) = some () := by cases b <;> rfl

end Go.Proofs.YteiinkhbgpldeaaGreatDoor.Sx
