/- Stores into elements, and make. Conditions: those ahead of each colon. -/
import Derived.Test.YteiinkhbgpldeaaGreatDoorSx7
set_option linter.unusedSimpArgs false
set_option linter.unusedVariables false
namespace Go.Proofs.YteiinkhbgpldeaaGreatDoor.Sx
open Go
variable {P : Program} {ops : Array Oper} {Q : Exit → Act → World → Prop} {n : Nat} {g w : World} {L : List Ch} {ih : IH} {a : Act} {e : Env} {rest : List Oper} {dfs : List Deferred} {ro : Option Nat}
variable {J : Act → World → Prop} {S : Array Bool → World → Prop} {fuel : Nat} {l : Array Bool}
def Plc (E : ET) (p : Option Addr) (c : Ch) (i : Int) (r : Addr) : Prop := ∃ b cur, p = some ⟨b, 0, none⟩ ∧ c = [(b, .cells cur E.ty (0, 0))] ∧ r = ⟨b, i.toNat * E.sz, none⟩
theorem Qi2 {t el : TypeId} {x y : Operand} {ty : TypeId} {dst : Option Tmp} {pos : String} {af : Array Edge} {gd : Option (Nat × Bool)} {E : ET} {c : Ch} {p : Option Addr} {cap : Nat} {xs : List E.α} (ho : OSl E ih p cap xs c) (hx : ev e x = .slice p xs.length cap) {k : IntKind} {i : Int} (hy : ev e y = .int k i) (ht : det P (underlying t) = some (.slice el)) (hsz : det P (sizeOf el) = some E.sz)
    {z : E.α} (hz : ix xs i = some z) : ∃ r cs, E.enc ih z cs ∧ (∀ w, Vw w c ih → At w r cs) ∧ Plc E p c i r ∧ ∀ w, (execOp (ev e) ⟨dst, .indexAddr t x y, ty, pos, af, gd⟩).run P w = .ok (.value (.pointer (some r))) w := by
  obtain ⟨h0, h1, h2⟩ := Qkx hz
  obtain ⟨q, hp, cs, he, hat⟩ := ho.read.el h2
  rcases ho with ⟨rfl, _, _, _⟩ | ⟨b, cur, rfl, rfl, _, _, _, _⟩
  · cases hp
  · cases hp
    refine ⟨_, cs, he, hat, ⟨b, cur, rfl, rfl, by rw [QhT, Nat.zero_add]⟩, fun w => ?_⟩
    simp only [execOp]
    refine runv ?_
    rw [hx, hy]
    exact Qid ht hsz rfl h0 h1
theorem QeI {dst : Option Tmp} {t ty : TypeId} {x y : Operand} {pos : String} {af : Array Edge} {gd : Option (Nat × Bool)} (hs : SeesD dfs a n e) {E : ET} {c : Ch} {p : Option Addr} {cap : Nat} {xs : List E.α} (ho : OSl E ih p cap xs c)
    (hok : okE ops n e ⟨dst, .indexAddr t x y, ty, pos, af, gd⟩ = true) (hx : ev e x = .slice p xs.length cap) {k : IntKind} {i : Int} (hy : ev e y = .int k i) (el : TypeId) (ht : det P (underlying t) = some (.slice el)) (hsz : det P (sizeOf el) = some E.sz)
    {z : E.α} (hz : ix xs i = some z)
    (next : ∀ a' r cs, E.enc ih z cs → (∀ w, Vw w c ih → At w r cs) → Plc E p c i r → SeesD dfs a' n (putO dst (.pointer (some r)) e) → wpList P ops Q rest a' w) : wpList P ops Q (⟨dst, .indexAddr t x y, ty, pos, af, gd⟩ :: rest) a w := by
  obtain ⟨r, cs, he, hat, hp, hr⟩ := Qi2 (P := P) (dst := dst) (ty := ty) (pos := pos) (af := af) (gd := gd) ho hx hy ht hsz hz
  exact QbQ hs hok (hr w) fun a' ha' => next a' r cs he hat hp ha'
theorem Qjo {K : List Nat} (hK : KeyOk S K) (hs : SeesD dfs a n e) (hS : S l w) (ii : Nat) {dst : Option Tmp} {t ty : TypeId} {x y : Operand} {pos : String} {af : Array Edge} {gd : Option (Nat × Bool)} (hi : ops[ii]? = some ⟨dst, .indexAddr t x y, ty, pos, af, gd⟩) (hb : dOk ops K l ii = true) {E : ET} {c : Ch} {p : Option Addr} {cap : Nat} {xs : List E.α} (ho : OSl E ih p cap xs c)
    (hok : okE ops n e ⟨dst, .indexAddr t x y, ty, pos, af, gd⟩ = true) (hx : ev e x = .slice p xs.length cap) {k : IntKind} {i : Int} (hy : ev e y = .int k i) (el : TypeId) (ht : det P (underlying t) = some (.slice el)) (hsz : det P (sizeOf el) = some E.sz)
    {z : E.α} (hz : ix xs i = some z)
    (next : ∀ a' r cs, E.enc ih z cs → (∀ w, Vw w c ih → At w r cs) → Plc E p c i r → SeesD dfs a' n (putO dst (.pointer (some r)) e) → S (l.setIfInBounds ii true) w → DG P ops J S fuel (l.setIfInBounds ii true) a' w) : DG P ops J S (fuel + 1) l a w := by
  obtain ⟨r, cs, he, hat, hp, hr⟩ := Qi2 (P := P) (dst := dst) (ty := ty) (pos := pos) (af := af) (gd := gd) ho hx hy ht hsz hz
  exact QgJ hK hs hS ii hi hb noT hok (fun w _ => hr w) fun a' ha' => next a' r cs he hat hp ha'
theorem Qme (hw : St g w L ih) (k : Nat) {E : ET} {p : Option Addr} {cap : Nat} {xs : List E.α} {c : Ch} (hk : L[k]? = some c) (ho : OSl E ih p cap xs c) {i : Int} {r : Addr} (hp : Plc E p c i r) {z z' : E.α} (hz : ix xs i = some z) {off : Nat} {v : Value} {cs : List Value} {ty : TypeId}
    (hs : det P (sizeOf ty) = some v.cells.size) (hj : Nat.ble (off + v.cells.size) E.sz = true) (hpl : plainAll v.cells.toList = true) (hcs : E.enc ih z cs) (hat : ∀ w, Vw w c ih → At w r cs) (he' : E.enc ih z' (splice cs off v.cells.toList)) :
    ∃ w' c', (storeVar ty (r.add off) v).run P w = .ok () w' ∧ OSl E ih p cap (xs.set i.toNat z') c' ∧ St g w' (L.set k c') ih := by
  obtain ⟨b, cur, rfl, rfl, rfl⟩ := hp
  obtain ⟨h0, h1, h2⟩ := Qkx hz
  have hle := Nat.le_of_ble_eq_true hj
  rcases ho with ⟨h, _⟩ | ⟨b', cur', hb', hc', h3, h4, h5, h6⟩
  · cases h
  · cases hb'; cases hc'
    have hcl := E.len hcs
    have hb : w.heap[b]? = some (.cells cur E.ty (0, 0)) := (hw.vw k hk).own _ (List.mem_singleton.2 rfl)
    have hmul : (i.toNat + 1) * E.sz ≤ cap * E.sz := Nat.mul_le_mul_right _ (by omega)
    rw [Nat.add_mul, Nat.one_mul] at hmul
    have hr := run_storeCells_at P b (i.toNat * E.sz + off) E.ty v.cells.toList 0 cur w hb (by simp only [Nat.add_zero, Array.length_toList]; omega) (QeJ hpl)
    rw [Nat.add_zero] at hr
    have hrow : ∀ m, (cur.toList.take (i.toNat * E.sz + off) ++ v.cells.toList ++ cur.toList.drop (i.toNat * E.sz + off + v.cells.toList.length))[m]? =
        if i.toNat * E.sz + off ≤ m ∧ m < i.toNat * E.sz + off + v.cells.size then v.cells.toList[m - (i.toNat * E.sz + off)]? else cur.toList[m]? := by
      intro m
      have hl1 : (cur.toList.take (i.toNat * E.sz + off)).length = i.toNat * E.sz + off := by rw [List.length_take, Array.length_toList]; omega
      by_cases hm1 : m < i.toNat * E.sz + off
      · rw [List.append_assoc, List.getElem?_append_left (by omega), List.getElem?_take, if_pos hm1, if_neg (by omega)]
      · by_cases hm2 : m < i.toNat * E.sz + off + v.cells.size
        · rw [if_pos ⟨by omega, hm2⟩, List.append_assoc, List.getElem?_append_right (by omega), hl1, List.getElem?_append_left (by rw [Array.length_toList]; omega)]
        · rw [if_neg (by omega), List.append_assoc, List.getElem?_append_right (by omega), hl1, List.getElem?_append_right (by rw [Array.length_toList]; omega), List.getElem?_drop, Array.length_toList]
          congr 1; omega
    refine ⟨w.setRow b (cur.toList.take (i.toNat * E.sz + off) ++ v.cells.toList ++ cur.toList.drop (i.toNat * E.sz + off + v.cells.toList.length)).toArray, [(b, .cells (cur.toList.take (i.toNat * E.sz + off) ++ v.cells.toList ++ cur.toList.drop (i.toNat * E.sz + off + v.cells.toList.length)).toArray E.ty (0, 0))], ?_, .inr ⟨b, _, rfl, rfl, by rw [List.length_set]; exact h3, h4, ?_, ?_⟩, hw.turn k hk rfl rfl rfl (setRow_heap w b cur _ E.ty (0, 0) hb) fun m hm => setRow_other w b m _ hm⟩
    · unfold storeVar
      rw [run_bind (Qae hs w)]
      simp only [ne_eq, not_true, if_false]
      rw [QhT]
      exact hr
    · simp only [List.size_toArray, List.length_append, List.length_take, List.length_drop, Array.length_toList]; omega
    · intro m x hx
      rw [List.getElem?_set] at hx
      by_cases hmi : i.toNat = m
      · rw [if_pos hmi] at hx
        split at hx
        · simp only [Option.some.injEq] at hx
          subst hx; subst hmi
          refine ⟨_, he', fun j u hj => ?_⟩
          obtain ⟨cs0, he0, hc0⟩ := h6 _ z h2
          have hcur : ∀ j u, cs[j]? = some u → cur.toList[i.toNat * E.sz + j]? = some u := by
            intro j u hj
            have := hat w (hw.vw k hk) j u hj
            rw [QhT] at this
            unfold World.cell? at this
            simp only [hb] at this
            simpa using this
          show (List.toArray _)[_]? = _
          rw [List.getElem?_toArray, hrow]
          unfold splice at hj
          have hl2 : (cs.take off).length = off := by rw [List.length_take]; omega
          have hl3 : v.cells.toList.length = v.cells.size := Array.length_toList
          by_cases hj1 : j < off
          · rw [if_neg (by omega)]
            rw [List.append_assoc, List.getElem?_append_left (by omega), List.getElem?_take, if_pos hj1] at hj
            exact hcur j u hj
          · by_cases hj2 : j < off + v.cells.size
            · rw [if_pos ⟨by omega, by omega⟩]
              rw [List.append_assoc, List.getElem?_append_right (by omega), hl2, List.getElem?_append_left (by omega)] at hj
              rw [show i.toNat * E.sz + j - (i.toNat * E.sz + off) = j - off by omega]; exact hj
            · rw [if_neg (by omega)]
              rw [List.append_assoc, List.getElem?_append_right (by omega), hl2, List.getElem?_append_right (by omega), List.getElem?_drop] at hj
              have : off + v.cells.toList.length + (j - off - v.cells.toList.length) = j := by omega
              rw [this] at hj
              exact hcur j u hj
        · cases hx
      · rw [if_neg hmi] at hx
        obtain ⟨cs0, he0, hc0⟩ := h6 m x hx
        refine ⟨cs0, he0, fun j u hj => ?_⟩
        have hjl := (List.getElem?_eq_some_iff.1 hj).1
        rw [E.len he0] at hjl
        have h7 := hc0 j u hj
        rw [List.getElem?_toArray, hrow]
        have hdis : ¬ (i.toNat * E.sz + off ≤ m * E.sz + j ∧ m * E.sz + j < i.toNat * E.sz + off + v.cells.size) := by
          intro hc
          rcases Nat.lt_or_gt_of_ne hmi with hlt | hgt
          · have := Nat.mul_le_mul_right E.sz (show i.toNat + 1 ≤ m from hlt)
            rw [Nat.add_mul, Nat.one_mul] at this; omega
          · have := Nat.mul_le_mul_right E.sz (show m + 1 ≤ i.toNat from hgt)
            rw [Nat.add_mul, Nat.one_mul] at this; omega
        rw [if_neg hdis]
        simpa using h7
theorem Qke (hw : St g w L ih) (k : Nat) {E : ET} {p : Option Addr} {cap : Nat} {xs : List E.α} {c : Ch} (hk : L[k]? = some c) (ho : OSl E ih p cap xs c) {i : Int} {r : Addr} (hp : Plc E p c i r) {z z' : E.α} (hz : ix xs i = some z) (off : Nat) {v : Value} {cs : List Value} {t ty : TypeId} {x y : Operand} {dst : Option Tmp} {pos : String} {af : Array Edge} {gd : Option (Nat × Bool)}
    (hx : ev e x = .pointer (some (r.add off))) (hy : ev e y = v) (hs : det P (sizeOf t) = some v.cells.size) (hj : Nat.ble (off + v.cells.size) E.sz = true) (hpl : plainAll v.cells.toList = true) (hcs : E.enc ih z cs) (hat : ∀ w, Vw w c ih → At w r cs) (he' : E.enc ih z' (splice cs off v.cells.toList)) :
    ∃ w' c', (execOp (ev e) ⟨dst, .store t x y, ty, pos, af, gd⟩).run P w = .ok .skip w' ∧ OSl E ih p cap (xs.set i.toNat z') c' ∧ St g w' (L.set k c') ih := by
  obtain ⟨w', c', h1, h2, h3⟩ := Qme (P := P) hw k hk ho hp hz hs hj hpl hcs hat he'
  refine ⟨w', c', ?_, h2, h3⟩
  simp only [execOp, Instr.storeAt]
  refine runu ?_
  rw [hx, hy, run_bind (s := Instr.sureAddr _) (a := r.add off) (w' := w) rfl]
  exact h1
theorem Qj9 (hs : SeesD dfs a n e) (hw : St g w L ih) (k : Nat) {E : ET} {p : Option Addr} {cap : Nat} {xs : List E.α} {c : Ch} (hk : L[k]? = some c) (ho : OSl E ih p cap xs c) {i : Int} {r : Addr} (hp : Plc E p c i r) {z : E.α} (z' : E.α) (hz : ix xs i = some z) (off : Nat) {v : Value} {cs : List Value} {t ty : TypeId} {x y : Operand} {pos : String} {af : Array Edge} {gd : Option (Nat × Bool)}
    (hok : okE ops n e ⟨none, .store t x y, ty, pos, af, gd⟩ = true) (hx : ev e x = .pointer (some (r.add off))) (hy : ev e y = v) (hsz : det P (sizeOf t) = some v.cells.size) (hj : Nat.ble (off + v.cells.size) E.sz = true) (hpl : plainAll v.cells.toList = true) (hcs : E.enc ih z cs) (hat : ∀ w, Vw w c ih → At w r cs) (he' : E.enc ih z' (splice cs off v.cells.toList))
    (next : ∀ a' w' c', OSl E ih p cap (xs.set i.toNat z') c' → St g w' (L.set k c') ih → SeesD dfs a' n e → wpList P ops Q rest a' w') : wpList P ops Q (⟨none, .store t x y, ty, pos, af, gd⟩ :: rest) a w := by
  obtain ⟨w', c', h1, h2, h3⟩ := Qke (P := P) (dst := none) (ty := ty) (pos := pos) (af := af) (gd := gd) hw k hk ho hp hz off hx hy hsz hj hpl hcs hat he'
  exact Qjx hs hok h1 fun a' ha' => next a' w' c' h2 h3 ha'
theorem QlL (hs : SeesD dfs a n e) {ii : Nat} (hw : St g w L ih) (k : Nat) {E : ET} {p : Option Addr} {cap : Nat} {xs : List E.α} {c : Ch} (hk : L[k]? = some c) (ho : OSl E ih p cap xs c) {i : Int} {r : Addr} (hp : Plc E p c i r) {z : E.α} (z' : E.α) (hz : ix xs i = some z) (off : Nat) {v : Value} {cs : List Value} {t ty : TypeId} {x y : Operand} {pos : String} {af : Array Edge} {gd : Option (Nat × Bool)} (hi : ops[ii]? = some ⟨none, .store t x y, ty, pos, af, gd⟩)
    (hok : okE ops n e ⟨none, .store t x y, ty, pos, af, gd⟩ = true) (hx : ev e x = .pointer (some (r.add off))) (hy : ev e y = v) (hsz : det P (sizeOf t) = some v.cells.size) (hj : Nat.ble (off + v.cells.size) E.sz = true) (hpl : plainAll v.cells.toList = true) (hcs : E.enc ih z cs) (hat : ∀ w, Vw w c ih → At w r cs) (he' : E.enc ih z' (splice cs off v.cells.toList)) {K : Act → World → Prop} {Q : Exit → Act → World → Prop}
    (next : ∀ a' w' c', OSl E ih p cap (xs.set i.toNat z') c' → St g w' (L.set k c') ih → SeesD dfs a' n e → K a' w') : wpOp P ops Q ii K a w := by
  obtain ⟨w', c', h1, h2, h3⟩ := Qke (P := P) (dst := none) (ty := ty) (pos := pos) (af := af) (gd := gd) hw k hk ho hp hz off hx hy hsz hj hpl hcs hat he'
  exact Ql4 hs hi hok h1 fun a' ha' => next a' w' c' h2 h3 ha'
theorem QlN (z : List Value) (m : Nat) (hz : 0 < z.length) : ∀ i j v, i < m → z[j]? = some v → ((Array.range (m * z.length)).map (z.toArray[· % z.toArray.size]!))[i * z.length + j]? = some v := by
  intro i j v hi hj
  have hjl := (List.getElem?_eq_some_iff.1 hj).1
  have hlt : i * z.length + j < m * z.length := by
    have := Nat.mul_le_mul_right z.length (show i + 1 ≤ m from hi)
    rw [Nat.add_mul, Nat.one_mul] at this; omega
  rw [Array.getElem?_map, Array.getElem?_range, if_pos hlt]
  simp only [Option.map_some, List.size_toArray]
  rw [Nat.add_comm, Nat.add_mul_mod_self_right, Nat.mod_eq_of_lt hjl]
  congr 1
  have := (List.getElem?_eq_some_iff.1 hj).2
  simp [hjl, this]
theorem QmD (hs : SeesD dfs a n e) (hw : St g w L ih) {E : ET} {t ty : TypeId} (hT : AppT P t E) {x y : Operand} {dst : Option Tmp} {pos : String} {af : Array Edge} {gd : Option (Nat × Bool)} (hok : okE ops n e ⟨dst, .makeSlice t x y, ty, pos, af, gd⟩ = true) {k k' : IntKind} {i : Int} (hx : ev e x = .int k i) (hy : ev e y = .int k' i)
    {z : Value} (hz : det P (zeroValue E.ty) = some z) {u : E.α} (hu : E.enc ih u z.cells.toList) {us : List E.α} (hm : mkS u i = some us)
    (next : ∀ a' w' p' cap' c', OSl E ih p' cap' us c' → St g w' (c' :: L) ih → SeesD dfs a' n (putO dst (.slice p' us.length cap') e) → wpList P ops Q rest a' w') : wpList P ops Q (⟨dst, .makeSlice t x y, ty, pos, af, gd⟩ :: rest) a w := by
  obtain ⟨h0, h1, rfl⟩ := mkSE hm
  obtain ⟨inf, z', e1, e2, e3, e4, e5, e6, e7⟩ := hT
  have hzz : z' = z := by
    have := hz
    simp only [zeroValue, typeInfo] at this
    have h2 := Qae this w
    rw [run_bind (a := inf) (w' := w) (by show ((do match (← program).info? E.ty with | some i => pure i | none => stuck "no such type") : Sem TypeInfo).run P w = _; show ((match P.info? E.ty with | some i => pure i | none => stuck "no such type") : Sem TypeInfo).run P w = _; rw [e2]; rfl)] at h2
    rw [e3] at h2
    simp only [Sem.run_pure, Result.ok.injEq, and_true] at h2
    exact h2
  subst hzz
  have hby : (inf.bytes : Int) * i ≤ 281474976710656 := by
    have : inf.bytes * i.toNat ≤ 32768 * 4294967296 := Nat.mul_le_mul e6 (by omega)
    have h3 : ((inf.bytes * i.toNat : Nat) : Int) = (inf.bytes : Int) * i := by rw [Int.natCast_mul]; congr 1; omega
    omega
  have hr := run_make (P := P) w t E.ty inf z' e1 e2 e3 k k' i i h0 (Int.le_refl _) hby (by omega)
  have hzl : z'.cells.toList.length = E.sz := by rw [Array.length_toList, e4]
  have hn := hw.new (.cells (madeCells z'.cells (i.toNat * inf.size)) E.ty (0, 0))
  refine QbQ hs hok (v := .slice (some ⟨w.heap.size, 0, none⟩) i.toNat i.toNat) (w' := w.alloc (.cells (madeCells z'.cells (i.toNat * inf.size)) E.ty (0, 0))) ?_ fun a' ha' => next a' _ _ i.toNat _ ?_ hn (by simpa using ha')
  · simp only [execOp]
    refine runv ?_
    rw [hx, hy]; exact hr
  · refine .inr ⟨_, _, rfl, rfl, by simp, by simp only [maxLen]; omega, ?_, fun m v hv => ?_⟩
    · rw [e5]; simp [madeCells]
    · obtain ⟨hml, hv2⟩ := List.getElem?_eq_some_iff.1 hv
      have hv' : v = u := by rw [← hv2]; exact List.getElem_replicate ..
      subst hv'
      refine ⟨_, hu, fun j x hj => ?_⟩
      have hlen : m < i.toNat := by simpa using hml
      have := QlN z'.cells.toList i.toNat (by rw [hzl]; exact e7) m j x hlen hj
      rw [hzl] at this
      rw [e5]
      simpa [madeCells] using this
end Go.Proofs.YteiinkhbgpldeaaGreatDoor.Sx
