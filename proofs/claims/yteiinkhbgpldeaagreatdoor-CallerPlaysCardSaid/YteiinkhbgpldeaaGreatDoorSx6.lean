/- Slices as values, and append. Conditions: those ahead of each colon. -/
import Derived.Test.YteiinkhbgpldeaaGreatDoorSx5
set_option linter.unusedSimpArgs false
set_option linter.unusedVariables false
namespace Go.Proofs.YteiinkhbgpldeaaGreatDoor.Sx
open Go
variable {P : Program} {ops : Array Oper} {Q : Exit → Act → World → Prop} {n : Nat} {g w : World} {L : List Ch} {ih : IH} {a : Act} {e : Env} {rest : List Oper} {dfs : List Deferred} {ro : Option Nat}
@[reducible] def eSl (t : TypeId) (E : ET) : ET := ⟨List E.α, 1, t, fun ih xs cs => ∃ p cap, cs = [.slice p xs.length cap] ∧ RSl E ih [] p cap xs,
  fun ⟨_, _, h, _⟩ => by rw [h]; rfl, fun ⟨_, _, h, _⟩ => by rw [h]; rfl, fun ⟨p, cap, h, hr⟩ hle => ⟨p, cap, h, hr.mono hle⟩⟩
def app {α : Type} (xs ys : List α) : Option (List α) := if xs.length + ys.length ≤ 4294967296 then some (xs ++ ys) else none
theorem appE {α : Type} {xs ys zs : List α} (h : app xs ys = some zs) : xs.length + ys.length ≤ 4294967296 ∧ zs = xs ++ ys := by
  unfold app at h
  split at h
  · exact ⟨by assumption, (someE h).symm⟩
  · cases h
def AppT (P : Program) (t : TypeId) (E : ET) : Prop :=
  ∃ (i : TypeInfo) (z : Value), P.underlying t = some (.slice E.ty) ∧ P.info? E.ty = some i ∧ i.zero = some z ∧ z.cells.size = E.sz ∧ i.size = E.sz ∧ i.bytes ≤ 32768 ∧ 0 < E.sz
def appTB (P : Program) (t ety sz : Nat) : Bool :=
  match P.underlying t, P.info? ety with
  | some (.slice el), some i => Nat.beq el ety && (match i.zero with | some z => Nat.beq z.cells.size sz | none => false) && Nat.beq i.size sz && Nat.ble i.bytes 32768 && Nat.blt 0 sz
  | _, _ => false
theorem QiM {t : TypeId} {E : ET} (h : appTB P t E.ty E.sz = true) : AppT P t E := by
  unfold appTB at h
  cases h1 : P.underlying t with
  | none => rw [h1] at h; simp at h
  | some d =>
    cases h2 : P.info? E.ty with
    | none => rw [h1, h2] at h; cases d <;> simp at h
    | some i =>
      rw [h1, h2] at h
      cases d <;> simp only at h <;> try (cases h; done)
      rename_i el
      simp only [Bool.and_eq_true] at h
      obtain ⟨⟨⟨⟨ha, hb⟩, hc⟩, hd⟩, he⟩ := h
      cases hz : i.zero with
      | none => rw [hz] at hb; simp at hb
      | some z =>
        rw [hz] at hb
        exact ⟨i, z, by rw [h1, Nat.eq_of_beq_eq_true ha], h2, hz, Nat.eq_of_beq_eq_true hb, Nat.eq_of_beq_eq_true hc, Nat.le_of_ble_eq_true hd, Nat.le_of_ble_eq_true he⟩
theorem run_app' {t : TypeId} {E : ET} (hT : AppT P t E) {k : Nat} {c : Ch} (hw : St g w L ih) (hk : L[k]? = some c) {p : Option Addr} {cap : Nat} {xs : List E.α} (ho : OSl E ih p cap xs c) (ty : TypeId)
    {ys : List E.α} {q : Addr} {c2 : Nat} {us : List Value} (hl : us.length = ys.length * E.sz) (hpl : plainAll us = true) (hat : At w q us)
    (hys : ∀ i x, ys[i]? = some x → ∃ cs, E.enc ih x cs ∧ ∀ j v, cs[j]? = some v → us[i * E.sz + j]? = some v) {zs : List E.α} (hz : app xs ys = some zs) :
    ∃ p' cap' c' w', (Builtin.append_ #[t, t] ty #[.slice p xs.length cap, .slice (some q) ys.length c2]).run P w = .ok (.slice p' zs.length cap') w' ∧ OSl E ih p' cap' zs c' ∧ St g w' (L.set k c') ih := by
  obtain ⟨hb, rfl⟩ := appE hz
  obtain ⟨i, z, h1, h2, h3, h4, h5, h6, h7⟩ := hT
  exact Qie h1 h2 h3 h4 h5 rfl h7 hw hk ho ty hl hpl hat hys (by simp only [maxLen]; omega) (by
    have : (xs.length + ys.length) * i.bytes ≤ 4294967296 * 32768 := Nat.mul_le_mul hb h6
    omega)
theorem Qnn {E : ET} {y : E.α} {cs : List Value} (h : E.enc ih y cs) : cs.length = [y].length * E.sz ∧ plainAll cs = true ∧ ∀ i x, [y][i]? = some x → ∃ cs', E.enc ih x cs' ∧ ∀ j v, cs'[j]? = some v → cs[i * E.sz + j]? = some v := by
  refine ⟨by rw [E.len h]; simp, E.one h, fun i x hx => ?_⟩
  cases i with
  | zero => simp only [List.getElem?_cons_zero, Option.some.injEq] at hx; subst hx; exact ⟨cs, h, fun j v hj => by rw [Nat.zero_mul, Nat.zero_add]; exact hj⟩
  | succ i => simp at hx
theorem Qhe {x y : Operand} {t ty : TypeId} {dst : Option Tmp} {pos : String} {af : Array Edge} {gd : Option (Nat × Bool)} {v1 v2 v : Value} {w' : World} (hx : ev e x = v1) (hy : ev e y = v2) (h : (Builtin.append_ #[t, t] ty #[v1, v2]).run P w = .ok v w') :
    (execOp (ev e) ⟨dst, .call ⟨.builtin .append, #[x, y], #[t, t]⟩, ty, pos, af, gd⟩).run P w = .ok (.value v) w' := by
  simp only [execOp, resolve, invoke, builtin, Sem.run_bind, Sem.run_pure, Result.andThen_ok, List.map_toArray, List.map_cons, List.map_nil, hx, hy, h]
theorem Qhk {x y : Operand} {t ty : TypeId} {dst : Option Tmp} {pos : String} {af : Array Edge} {gd : Option (Nat × Bool)} (hs : SeesD dfs a n e) (hw : St g w L ih) {E : ET} (hT : AppT P t E) (k : Nat) {c : Ch} (hk : L[k]? = some c) {p : Option Addr} {cap : Nat} {xs : List E.α} (ho : OSl E ih p cap xs c)
    (hok : okE ops n e ⟨dst, .call ⟨.builtin .append, #[x, y], #[t, t]⟩, ty, pos, af, gd⟩ = true) (hx : ev e x = .slice p xs.length cap) {q : Addr} {c2 : Nat} (hy : ev e y = .slice (some q) 1 c2) {cs : List Value} (hat : At w q cs) {z : E.α} (he : E.enc ih z cs) {zs : List E.α} (hz : app xs [z] = some zs)
    (next : ∀ a' w' p' cap' c', OSl E ih p' cap' zs c' → St g w' (L.set k c') ih → SeesD dfs a' n (putO dst (.slice p' zs.length cap') e) → wpList P ops Q rest a' w') : wpList P ops Q (⟨dst, .call ⟨.builtin .append, #[x, y], #[t, t]⟩, ty, pos, af, gd⟩ :: rest) a w := by
  obtain ⟨e1, e2, e3⟩ := Qnn he
  obtain ⟨p', cap', c', w', hr, h1, h2⟩ := run_app' (P := P) hT hw hk ho ty (c2 := c2) e1 e2 hat e3 hz
  exact QbQ hs hok (Qhe hx hy hr) fun a' ha' => next a' w' p' cap' c' h1 h2 ha'
theorem QlK {t : TypeId} {E : ET} (hT : AppT P t E) {k : Nat} {c : Ch} (hw : St g w L ih) (hk : L[k]? = some c) {p : Option Addr} {cap : Nat} {xs : List E.α} (ho : OSl E ih p cap xs c) (ty : TypeId)
    {p2 : Option Addr} {c2 : Nat} {ys : List E.α} {d : Ch} (hr : RSl E ih d p2 c2 ys) (hv : Vw w d ih) {zs : List E.α} (hz : app xs ys = some zs) :
    ∃ p' cap' c' w', (Builtin.append_ #[t, t] ty #[.slice p xs.length cap, .slice p2 ys.length c2]).run P w = .ok (.slice p' zs.length cap') w' ∧ OSl E ih p' cap' zs c' ∧ St g w' (L.set k c') ih := by
  cases p2 with
  | some q =>
    obtain ⟨us, h1, h2, h3, h4⟩ := hr.all
    exact run_app' hT hw hk ho ty h1 h2 (h3 w hv) h4 hz
  | none =>
    obtain ⟨_, rfl, rfl⟩ := hr
    obtain ⟨_, rfl⟩ := appE hz
    obtain ⟨i, z, h1, h2, _⟩ := hT
    refine ⟨p, cap, c, w, ?_, by rw [List.append_nil]; exact ho, ?_⟩
    · have hle : xs.length ≤ cap := by
        rcases ho with ⟨_, rfl, rfl, _⟩ | ⟨_, _, _, _, h, _⟩
        · exact Nat.le_refl _
        · exact h
      cases p <;> simp [Builtin.append_, run_underlying h1, sizeOf, typeInfo, h2, Builtin.lenOf, Builtin.firstCells, hle, storeCells]
    · have hset : L.set k c = L := by
        obtain ⟨hlt, hv⟩ := List.getElem?_eq_some_iff.1 hk
        conv => lhs; rw [← hv]
        exact List.set_getElem_self hlt
      rw [hset]; exact hw
theorem Qi1 {x y : Operand} {t ty : TypeId} {dst : Option Tmp} {pos : String} {af : Array Edge} {gd : Option (Nat × Bool)} (hs : SeesD dfs a n e) (hw : St g w L ih) {E : ET} (hT : AppT P t E) (k : Nat) {c : Ch} (hk : L[k]? = some c) {p : Option Addr} {cap : Nat} {xs : List E.α} (ho : OSl E ih p cap xs c)
    (hok : okE ops n e ⟨dst, .call ⟨.builtin .append, #[x, y], #[t, t]⟩, ty, pos, af, gd⟩ = true) (hx : ev e x = .slice p xs.length cap) {p2 : Option Addr} {c2 : Nat} {ys : List E.α} {d : Ch} (hr : RSl E ih d p2 c2 ys) (hv : Vw w d ih) (hy : ev e y = .slice p2 ys.length c2) {zs : List E.α} (hz : app xs ys = some zs)
    (next : ∀ a' w' p' cap' c', OSl E ih p' cap' zs c' → St g w' (L.set k c') ih → SeesD dfs a' n (putO dst (.slice p' zs.length cap') e) → wpList P ops Q rest a' w') : wpList P ops Q (⟨dst, .call ⟨.builtin .append, #[x, y], #[t, t]⟩, ty, pos, af, gd⟩ :: rest) a w := by
  obtain ⟨p', cap', c', w', hr, h1, h2⟩ := QlK (P := P) hT hw hk ho ty hr hv hz
  exact QbQ hs hok (Qhe hx hy hr) fun a' ha' => next a' w' p' cap' c' h1 h2 ha'
theorem OSl.of1 {E : ET} {b : Nat} {cs : List Value} {z : E.α} (he : E.enc ih z cs) (hm : 1 ≤ maxLen) : OSl E ih (some ⟨b, 0, none⟩) 1 [z] (bx b cs E.ty) :=
  .inr ⟨b, cs.toArray, rfl, rfl, Nat.le_refl _, hm, by simp [E.len he], fun i x hx => by
    cases i with
    | zero => simp only [List.getElem?_cons_zero, Option.some.injEq] at hx; subst hx; exact ⟨cs, he, fun j v hj => by simpa using hj⟩
    | succ i => simp at hx⟩
theorem OSl.of0 {E : ET} {b : Nat} : OSl E ih (some ⟨b, 0, none⟩) 0 [] (bx b [] E.ty) :=
  .inr ⟨b, #[], rfl, rfl, Nat.le_refl _, by simp [maxLen], by simp, fun i x hx => by cases hx⟩
theorem Qmo {c : Operand} {x y : Code} {t : Bool} (hs : SeesD dfs a n e) (hk : knownE e [c] = true) (hc : ev e c = .bool t) (ht : t = true) (h : x.wpIn (FR ro) 0 P Q a w) : (Code.cond c x y).wpIn (FR ro) 0 P Q a w := Qlt hs hk (by rw [hc, ht]) h
theorem Qmp {c : Operand} {x y : Code} {t : Bool} (hs : SeesD dfs a n e) (hk : knownE e [c] = true) (hc : ev e c = .bool t) (ht : t = false) (h : y.wpIn (FR ro) 0 P Q a w) : (Code.cond c x y).wpIn (FR ro) 0 P Q a w := Qlu hs hk (by rw [hc, ht]) h
theorem QmS {f : FuncId} {fn : Func} {c : Code} {vs : List Value} {R : Value → World → Prop} (hf : P.funcs[f]? = some fn) (hb : fn.body = some c) (n : Nat) (hn : fn.ntmps = n) (hsz : Nat.ble vs.length n = true) (e : Env) (he : (vs.zipIdx.map fun (v, i) => (i, v)) = e)
    (h : ∀ (a : Act) (Qf : Exit → Act → World → Prop), (∀ a w, bodyPost P fn (fun e w' => match e with | .returned v => R v w' | _ => False) .ret a w → Qf .ret a w) → (∀ a w, bodyPost P fn (fun e w' => match e with | .returned v => R v w' | _ => False) .ret a w → Qf .normal a w) → Sees a n e → c.wpIn (FR none) 0 P Qf a w) : CallsR P f vs.toArray w R := by
  subst he
  have key : ∀ (vs : List Value) (k t : Nat) (v : Value), lk ((vs.zipIdx k).map fun (v, i) => (i, v)) t = some v → k ≤ t ∧ vs[t - k]? = some v := by
    intro vs
    induction vs with
    | nil => intro k t v h; simp [lk] at h
    | cons x vs ihv =>
      intro k t v h
      simp only [List.zipIdx_cons, List.map_cons, lk] at h
      cases hb : Nat.beq k t with
      | true =>
        rw [hb] at h; simp only [cond_true, Option.some.injEq] at h
        have := Nat.eq_of_beq_eq_true hb
        subst this; subst h
        exact ⟨Nat.le_refl _, by simp⟩
      | false =>
        rw [hb] at h; simp only [cond_false] at h
        obtain ⟨h1, h2⟩ := ihv (k + 1) t v h
        refine ⟨by omega, ?_⟩
        rw [show t - k = (t - (k + 1)) + 1 by omega, List.getElem?_cons_succ]; exact h2
  exact Qmj hf hb _ n hn (fun t v hv => by have := (key vs 0 t v hv).2; simpa using this) (by simpa using Nat.le_of_ble_eq_true hsz) fun a ha => h a _ (fun _ _ h => h) (fun _ _ h => h) ha
theorem nilSub (F : Ch) : ∀ q ∈ ([] : Ch), q ∈ F := fun _ h => by cases h
theorem memF {L : List Ch} (j : Nat) {c : Ch} (h : L[j]? = some c) : ∀ q ∈ c, q ∈ L.flatten := fun q hq => List.mem_flatten.2 ⟨c, List.mem_of_getElem? h, hq⟩
theorem St.vws (h : St g w L ih) (is : List Nat) : Vw w (pickL L is).flatten ih := ⟨h.im, fun p hp => by
  obtain ⟨c, hc, hpc⟩ := List.mem_flatten.1 hp
  obtain ⟨i, _, rfl⟩ := List.mem_map.1 hc
  rw [List.getD_eq_getElem?_getD] at hpc
  cases hi : L[i]? with
  | none => rw [hi] at hpc; cases hpc
  | some d => rw [hi] at hpc; exact h.own p (List.mem_flatten.2 ⟨d, List.mem_of_getElem? hi, hpc⟩)⟩
theorem Vw.ch {X : List Ch} (h : Vw w X.flatten ih) (i : Nat) {c : Ch} (hi : X[i]? = some c) : Vw w c ih := ⟨h.im, fun p hp => h.own p (List.mem_flatten.2 ⟨c, List.mem_of_getElem? hi, hp⟩)⟩
theorem Vw.bx {X : List Ch} (h : Vw w X.flatten ih) (i : Nat) {b : Nat} {cs : List Value} {t : TypeId} (hi : X[i]? = some (bx b cs t)) : At w ⟨b, 0, none⟩ cs :=
  (h.ch i hi).at_ (.inr (List.mem_singleton.2 rfl)) fun j v hj => by rw [Nat.zero_add]; simpa using hj
variable {J : Act → World → Prop} {S : Array Bool → World → Prop} {fuel : Nat} {l : Array Bool}
theorem QH {α : Type} {p : α → Prop} {x : α} (h : p x) : ∀ i ∈ [x], p i := fun i hi => by rw [List.mem_singleton.1 hi]; exact h
theorem QkI {α : Type} {p : α → Prop} {x y : α} {l : List α} (h : p x) (h2 : ∀ i ∈ y :: l, p i) : ∀ i ∈ x :: y :: l, p i := fun i hi => by
  rcases List.mem_cons.1 hi with rfl | hi
  · exact h
  · exact h2 i hi
theorem QjH {x y : Operand} {t ty : TypeId} {dst : Option Tmp} {pos : String} {af : Array Edge} {gd : Option (Nat × Bool)} {ii : Nat} (hs : SeesD dfs a n e) (hi : ops[ii]? = some ⟨dst, .call ⟨.builtin .append, #[x, y], #[t, t]⟩, ty, pos, af, gd⟩) (hw : St g w L ih) {E : ET} (hT : AppT P t E) (k : Nat) {c : Ch} (hk : L[k]? = some c) {p : Option Addr} {cap : Nat} {xs : List E.α} (ho : OSl E ih p cap xs c)
    (hok : okE ops n e ⟨dst, .call ⟨.builtin .append, #[x, y], #[t, t]⟩, ty, pos, af, gd⟩ = true) (hx : ev e x = .slice p xs.length cap) {q : Addr} {c2 : Nat} (hy : ev e y = .slice (some q) 1 c2) {cs : List Value} (hat : At w q cs) {z : E.α} (he : E.enc ih z cs) {zs : List E.α} (hz : app xs [z] = some zs)
    {K : Act → World → Prop} {Q : Exit → Act → World → Prop} (next : ∀ a' w' p' cap' c', OSl E ih p' cap' zs c' → St g w' (L.set k c') ih → SeesD dfs a' n (putO dst (.slice p' zs.length cap') e) → K a' w') : wpOp P ops Q ii K a w := by
  obtain ⟨e1, e2, e3⟩ := Qnn he
  obtain ⟨p', cap', c', w', hr, h1, h2⟩ := run_app' (P := P) hT hw hk ho ty (c2 := c2) e1 e2 hat e3 hz
  exact QlM hs hi hok (Qhe hx hy hr) fun a' ha' => next a' w' p' cap' c' h1 h2 ha'
theorem QmL (hs : SeesD dfs a n e) {ii : Nat} {dst : Option Tmp} {t ty : TypeId} {x : Operand} {pos : String} {af : Array Edge} {gd : Option (Nat × Bool)} (hi : ops[ii]? = some ⟨dst, .load t x, ty, pos, af, gd⟩)
    {q : Addr} {cs : List Value} (hat : At w q cs) (j : Nat) (hok : okE ops n e ⟨dst, .load t x, ty, pos, af, gd⟩ = true) (hx : ev e x = .pointer (some (q.add j))) {v : Value} (hv : ldv P t cs j = some v)
    {K : Act → World → Prop} {Q : Exit → Act → World → Prop} (next : ∀ a', SeesD dfs a' n (putO dst v e) → K a' w) : wpOp P ops Q ii K a w :=
  QlM hs hi hok (by
    simp only [execOp, Instr.loadAt]
    refine runv ?_
    rw [hx, run_bind (s := Instr.sureAddr _) (a := q.add j) (w' := w) rfl]
    exact QjB hat hv) fun a' ha' => next a' ha'
def EL (E : ET) (ih : IH) : List E.α → List Value → Prop
  | [], cs => cs = []
  | z :: zs, cs => ∃ c1 c2, cs = c1 ++ c2 ∧ E.enc ih z c1 ∧ EL E ih zs c2
theorem EL.get {E : ET} {ih : IH} : ∀ {zs : List E.α} {cs : List Value}, EL E ih zs cs → cs.length = zs.length * E.sz ∧ ∀ i x, zs[i]? = some x → ∃ cs', E.enc ih x cs' ∧ ∀ j v, cs'[j]? = some v → cs[i * E.sz + j]? = some v
  | [], cs, h => by
    obtain rfl : cs = [] := h
    exact ⟨by simp, fun i x hx => by cases hx⟩
  | z :: zs, cs, h => by
    obtain ⟨c1, c2, rfl, h1, h2⟩ := h
    obtain ⟨h3, h4⟩ := EL.get h2
    have h5 := E.len h1
    refine ⟨by rw [List.length_append, h3, h5, List.length_cons, Nat.add_mul]; omega, fun i x hx => ?_⟩
    cases i with
    | zero =>
      simp only [List.getElem?_cons_zero, Option.some.injEq] at hx; subst hx
      refine ⟨c1, h1, fun j v hj => ?_⟩
      have := (List.getElem?_eq_some_iff.1 hj).1
      rw [Nat.zero_mul, Nat.zero_add, List.getElem?_append_left this]; exact hj
    | succ i =>
      obtain ⟨cs', h6, h7⟩ := h4 i x (by simpa using hx)
      refine ⟨cs', h6, fun j v hj => ?_⟩
      rw [List.getElem?_append_right (by rw [h5, Nat.add_mul]; omega), h5, Nat.add_mul, show i * E.sz + 1 * E.sz + j - E.sz = i * E.sz + j by omega]
      exact h7 j v hj
theorem EL.cons {E : ET} {ih : IH} {z : E.α} {zs : List E.α} {c1 c2 : List Value} (h : E.enc ih z c1) (h2 : EL E ih zs c2) : EL E ih (z :: zs) (c1 ++ c2) := ⟨c1, c2, rfl, h, h2⟩
theorem EL.nil {E : ET} {ih : IH} : EL E ih [] [] := rfl
theorem OSl.ofL {E : ET} {ih : IH} {b n : Nat} {cs : List Value} {zs : List E.α} (he : EL E ih zs cs) (hn : zs.length = n) (hm : n ≤ maxLen) : OSl E ih (some ⟨b, 0, none⟩) n zs (bx b cs E.ty) := by
  subst hn
  obtain ⟨h1, h2⟩ := he.get
  exact .inr ⟨b, cs.toArray, rfl, rfl, Nat.le_refl _, hm, by simp [h1], fun i x hx => by
    obtain ⟨cs', h3, h4⟩ := h2 i x hx
    exact ⟨cs', h3, fun j v hj => by simpa using h4 j v hj⟩⟩
end Go.Proofs.YteiinkhbgpldeaaGreatDoor.Sx
