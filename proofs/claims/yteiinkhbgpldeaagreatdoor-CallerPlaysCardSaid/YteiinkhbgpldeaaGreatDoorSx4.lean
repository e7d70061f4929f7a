/- New blocks, and slices that are read or owned. Conditions: those ahead of each colon. -/
import Derived.Test.YteiinkhbgpldeaaGreatDoorSx3
set_option linter.unusedSimpArgs false
set_option linter.unusedVariables false
namespace Go.Proofs.YteiinkhbgpldeaaGreatDoor.Sx
open Go
variable {P : Program} {ops : Array Oper} {Q : Exit → Act → World → Prop} {n : Nat} {g w : World} {L : List Ch} {ih : IH} {a : Act} {e : Env} {rest : List Oper} {dfs : List Deferred} {ro : Option Nat}
def detN {α : Type} (P : Program) (b : Nat) : Sem α → Option (Obj × α)
  | .new o k => (det P (k b)).map fun a => (o, a)
  | .program k => detN P b (k P)
  | .mark _ k => detN P b k
  | _ => none
theorem Qh7 {α : Type} {w : World} : ∀ {s : Sem α} {o : Obj} {x : α}, detN P w.heap.size s = some (o, x) → s.run P w = .ok x (w.alloc o)
  | .new o' k, o, x, h => by
    simp only [detN] at h
    cases hd : det P (k w.heap.size) with
    | none => rw [hd] at h; cases h
    | some y => rw [hd] at h; simp only [Option.map_some, Option.some.injEq, Prod.mk.injEq] at h; obtain ⟨rfl, rfl⟩ := h; exact Qae hd _
  | .program k, o, x, h => by simp only [detN] at h; exact Qh7 (s := k P) h
  | .mark _ k, o, x, h => by simp only [detN] at h; exact Qh7 (s := k) h
  | .pure _, _, _, h => by simp [detN] at h
  | .load .., _, _, h => by simp [detN] at h
  | .store .., _, _, h => by simp [detN] at h
  | .shape .., _, _, h => by simp [detN] at h
  | .freeze .., _, _, h => by simp [detN] at h
  | .frozen .., _, _, h => by simp [detN] at h
  | .getObj .., _, _, h => by simp [detN] at h
  | .setObj .., _, _, h => by simp [detN] at h
  | .choose .., _, _, h => by simp [detN] at h
  | .sys .., _, _, h => by simp [detN] at h
  | .halt .., _, _, h => by simp [detN] at h
theorem QC {o : Oper} (hs : SeesD dfs a n e) (hw : St g w L ih) (cs : List Value) (t : TypeId) (v : Nat → Value) (hok : okE ops n e o = true)
    (hd : ∀ b, detN P b (execOp (ev e) o) = some (.cells cs.toArray t (0, 0), .value (v b)))
    (next : ∀ a' w' b, SeesD dfs a' n (putO o.dst (v b) e) → St g w' (bx b cs t :: L) ih → wpList P ops Q rest a' w') : wpList P ops Q (o :: rest) a w :=
  QbQ hs hok (Qh7 (hd w.heap.size)) fun a' ha' => next a' _ _ ha' (hw.new _)
structure ET where
  α : Type
  sz : Nat
  ty : TypeId
  enc : IH → α → List Value → Prop
  len : ∀ {ih x cs}, enc ih x cs → cs.length = sz
  one : ∀ {ih x cs}, enc ih x cs → plainAll cs = true
  mono : ∀ {ih ih' x cs}, enc ih x cs → Le ih ih' → enc ih' x cs
@[reducible] def eInt (k : IntKind) (ty : TypeId) : ET := ⟨Int, 1, ty, fun _ x cs => cs = [.int k x], fun h => by rw [h]; rfl, fun h => by rw [h]; rfl, fun h _ => h⟩
@[reducible] def eBool (ty : TypeId) : ET := ⟨Bool, 1, ty, fun _ x cs => cs = [.bool x], fun h => by rw [h]; rfl, fun h => by rw [h]; rfl, fun h _ => h⟩
def RSl (E : ET) (ih : IH) (c : Ch) (p : Option Addr) (cap : Nat) (xs : List E.α) : Prop :=
  xs.length ≤ cap ∧ match p with
  | none => xs = [] ∧ cap = 0
  | some q => xs ≠ [] → q.spot = none ∧ ∃ cells T fr, Has ih c q.block (.cells cells T fr) ∧ ∀ i x, xs[i]? = some x → ∃ cs, E.enc ih x cs ∧ ∀ j v, cs[j]? = some v → cells[q.off + i * E.sz + j]? = some v
def OSl (E : ET) (ih : IH) (p : Option Addr) (cap : Nat) (xs : List E.α) (c : Ch) : Prop :=
  (p = none ∧ cap = 0 ∧ xs = [] ∧ c = []) ∨
  ∃ b cur, p = some ⟨b, 0, none⟩ ∧ c = [(b, .cells cur E.ty (0, 0))] ∧ xs.length ≤ cap ∧ cap ≤ maxLen ∧ cur.size = cap * E.sz ∧
    ∀ i x, xs[i]? = some x → ∃ cs, E.enc ih x cs ∧ ∀ j v, cs[j]? = some v → cur[i * E.sz + j]? = some v
theorem RSl.nil (E : ET) (ih : IH) (c : Ch) : RSl E ih c none 0 [] := ⟨Nat.le_refl _, rfl, rfl⟩
theorem OSl.nil (E : ET) (ih : IH) : OSl E ih none 0 [] [] := .inl ⟨rfl, rfl, rfl, rfl⟩
theorem RSl.mono {E : ET} {ih ih' : IH} {c : Ch} {p : Option Addr} {cap : Nat} {xs : List E.α} (h : RSl E ih c p cap xs) (hle : Le ih ih') : RSl E ih' c p cap xs := by
  refine ⟨h.1, ?_⟩
  cases p with
  | none => exact h.2
  | some q =>
    intro hne
    obtain ⟨h1, cells, T, fr, h2, h3⟩ := h.2 hne
    exact ⟨h1, cells, T, fr, h2.mono hle, fun i x hx => let ⟨cs, he, hc⟩ := h3 i x hx; ⟨cs, E.mono he hle, hc⟩⟩
theorem OSl.mono {E : ET} {ih ih' : IH} {c : Ch} {p : Option Addr} {cap : Nat} {xs : List E.α} (h : OSl E ih p cap xs c) (hle : Le ih ih') : OSl E ih' p cap xs c := by
  rcases h with h | ⟨b, cur, h1, h2, h3, h4, h5, h6⟩
  · exact .inl h
  · exact .inr ⟨b, cur, h1, h2, h3, h4, h5, fun i x hx => let ⟨cs, he, hc⟩ := h6 i x hx; ⟨cs, E.mono he hle, hc⟩⟩
theorem OSl.read {E : ET} {ih : IH} {c : Ch} {p : Option Addr} {cap : Nat} {xs : List E.α} (h : OSl E ih p cap xs c) : RSl E ih c p cap xs := by
  rcases h with ⟨rfl, rfl, rfl, rfl⟩ | ⟨b, cur, rfl, rfl, h3, h4, h5, h6⟩
  · exact RSl.nil E ih _
  · refine ⟨h3, fun _ => ⟨rfl, cur, E.ty, (0, 0), .inr (List.mem_singleton.2 rfl), fun i x hx => ?_⟩⟩
    obtain ⟨cs, he, hc⟩ := h6 i x hx
    exact ⟨cs, he, fun j v hj => by rw [Nat.zero_add]; exact hc j v hj⟩
theorem RSl.frz {E : ET} {ih ih' : IH} {c : Ch} {p : Option Addr} {cap : Nat} {xs : List E.α} (h : RSl E ih c p cap xs) (hle : Le ih ih') (hc : ∀ b o, (b, o) ∈ c → ih' b = some o) : RSl E ih' [] p cap xs := by
  refine ⟨h.1, ?_⟩
  cases p with
  | none => exact h.2
  | some q =>
    intro hne
    obtain ⟨h1, cells, T, fr, h2, h3⟩ := h.2 hne
    exact ⟨h1, cells, T, fr, .inl (h2.elim (hle _ _) (hc _ _)), fun i x hx => let ⟨cs, he, hc⟩ := h3 i x hx; ⟨cs, E.mono he hle, hc⟩⟩
theorem St.fz {c : Ch} (h : St g w (c :: L) ih) {E : ET} {p : Option Addr} {cap : Nat} {xs : List E.α} (ho : OSl E ih p cap xs c) : ∃ ih', Le ih ih' ∧ St g w L ih' ∧ RSl E ih' [] p cap xs :=
  ⟨_, h.freeze.2.1, h.freeze.1, ho.read.frz h.freeze.2.1 h.freeze.2.2⟩
theorem St.nil (h : St g w L ih) : St g w ([] :: L) ih := ⟨h.os, h.tape, h.output, h.im, h.own, h.dis, h.nd⟩
def ix {α : Type} (xs : List α) (i : Int) : Option α := if 0 ≤ i then xs[i.toNat]? else none
theorem Qkx {α : Type} {xs : List α} {i : Int} {x : α} (h : ix xs i = some x) : 0 ≤ i ∧ i < xs.length ∧ xs[i.toNat]? = some x := by
  unfold ix at h
  split at h
  · rename_i h0
    have := (List.getElem?_eq_some_iff.1 h).1
    exact ⟨h0, by omega, h⟩
  · cases h
theorem RSl.el {E : ET} {c : Ch} {p : Option Addr} {cap : Nat} {xs : List E.α} (h : RSl E ih c p cap xs) {i : Nat} {x : E.α} (hx : xs[i]? = some x) :
    ∃ q, p = some q ∧ ∃ cs, E.enc ih x cs ∧ ∀ w, Vw w c ih → At w (q.add (i * E.sz)) cs := by
  cases p with
  | none => obtain ⟨_, rfl, _⟩ := h; cases hx
  | some q =>
    obtain ⟨_, h⟩ := h
    obtain ⟨hsp, cells, T, fr, hb, hcs⟩ := h (fun e => by rw [e] at hx; cases hx)
    obtain ⟨cs, he, hc⟩ := hcs i x hx
    refine ⟨q, rfl, cs, he, fun w hv => ?_⟩
    obtain ⟨b, off, sp⟩ := q
    simp only at hsp
    subst hsp
    rw [QhT]
    exact hv.at_ hb hc
theorem Qid {t el : TypeId} {p : Option Addr} {len cap : Nat} {k : IntKind} {i : Int} {sz : Nat} {q : Addr} (ht : det P (underlying t) = some (.slice el)) (hsz : det P (sizeOf el) = some sz) (hp : p = some q) (h0 : 0 ≤ i) (h1 : i < len) :
    (Instr.indexAt t (.slice p len cap) (.int k i)).run P w = .ok (.pointer (some (q.add (i.toNat * sz)))) w := by
  subst hp
  unfold Instr.indexAt
  rw [run_bind (a := (k, i)) (w' := w) rfl, run_bind (Qae ht w)]
  simp only
  rw [run_bind (a := (some q, len, el)) (w' := w) rfl]
  simp only
  rw [run_bind (Qae ht w)]
  simp only [h0, h1, and_self, if_true]
  rw [run_bind (Qae hsz w)]
  rfl
theorem QbT {dst : Option Tmp} {t ty : TypeId} {x y : Operand} {pos : String} {af : Array Edge} {gd : Option (Nat × Bool)} (hs : SeesD dfs a n e) {E : ET} {c : Ch} {p : Option Addr} {cap : Nat} {xs : List E.α} (hr : RSl E ih c p cap xs)
    (hok : okE ops n e ⟨dst, .indexAddr t x y, ty, pos, af, gd⟩ = true) (hx : ev e x = .slice p xs.length cap) {k : IntKind} {i : Int} (hy : ev e y = .int k i) (el : TypeId) (ht : det P (underlying t) = some (.slice el)) (hsz : det P (sizeOf el) = some E.sz)
    {z : E.α} (hz : ix xs i = some z)
    (next : ∀ a' r cs, E.enc ih z cs → (∀ w, Vw w c ih → At w r cs) → SeesD dfs a' n (putO dst (.pointer (some r)) e) → wpList P ops Q rest a' w) : wpList P ops Q (⟨dst, .indexAddr t x y, ty, pos, af, gd⟩ :: rest) a w := by
  obtain ⟨h0, h1, h2⟩ := Qkx hz
  obtain ⟨q, hp, cs, he, hat⟩ := hr.el h2
  exact QbQ hs hok (by
    simp only [execOp]
    refine runv ?_
    rw [hx, hy]
    exact Qid ht hsz hp h0 h1) fun a' ha' => next a' _ cs he hat ha'
theorem RSl.all {E : ET} {c : Ch} : ∀ {xs : List E.α} {q : Addr} {cap : Nat}, RSl E ih c (some q) cap xs → ∃ us : List Value, us.length = xs.length * E.sz ∧ plainAll us = true ∧ (∀ w, Vw w c ih → At w q us) ∧
    ∀ i x, xs[i]? = some x → ∃ cs, E.enc ih x cs ∧ ∀ j v, cs[j]? = some v → us[i * E.sz + j]? = some v := by
  intro xs q cap h
  obtain ⟨b, off, sp⟩ := q
  obtain ⟨_, h⟩ := h
  by_cases hne : xs = []
  · subst hne
    refine ⟨[], by simp, rfl, ?_, ?_⟩
    · intro w _ j v hj; cases hj
    · intro i x hx; cases hx
  obtain ⟨hsp, cells, T, fr, hb, hcs⟩ := h hne
  simp only at hsp hb
  subst hsp
  have key : ∀ (ys : List E.α) (o : Nat), (∀ i x, ys[i]? = some x → ∃ cs, E.enc ih x cs ∧ ∀ j v, cs[j]? = some v → cells[o + i * E.sz + j]? = some v) →
      ∃ us : List Value, us.length = ys.length * E.sz ∧ plainAll us = true ∧ (∀ j v, us[j]? = some v → cells[o + j]? = some v) ∧ ∀ i x, ys[i]? = some x → ∃ cs, E.enc ih x cs ∧ ∀ j v, cs[j]? = some v → us[i * E.sz + j]? = some v := by
    intro ys
    induction ys with
    | nil =>
      intro o _
      refine ⟨[], by simp, rfl, ?_, ?_⟩
      · intro j v hj; cases hj
      · intro i x hx; cases hx
    | cons y ys ihh =>
      intro o hy
      obtain ⟨cs, he, hc⟩ := hy 0 y rfl
      obtain ⟨us, h1, h2, h3, h4⟩ := ihh (o + E.sz) (fun i x hx => by
        obtain ⟨cs', he', hc'⟩ := hy (i + 1) x (by simpa using hx)
        exact ⟨cs', he', fun j v hj => by have := hc' j v hj; rwa [show o + (i + 1) * E.sz + j = o + E.sz + i * E.sz + j by rw [Nat.add_mul]; omega] at this⟩)
      have hl := E.len he
      have happ : ∀ {l l' : List Value}, plainAll l = true → plainAll l' = true → plainAll (l ++ l') = true := by
        intro l l' ha hb
        induction l with
        | nil => exact hb
        | cons v l ihl =>
          simp only [plainAll, List.cons_append, Bool.and_eq_true] at ha ⊢
          exact ⟨ha.1, ihl ha.2⟩
      refine ⟨cs ++ us, by rw [List.length_append, hl, h1, List.length_cons, Nat.add_mul]; omega, happ (E.one he) h2, fun j v hj => ?_, fun i x hx => ?_⟩
      · rw [List.getElem?_append] at hj
        split at hj
        · have := hc j v hj; simpa using this
        · have := h3 _ v hj
          rwa [show o + E.sz + (j - cs.length) = o + j by omega] at this
      · cases i with
        | zero =>
          simp only [List.getElem?_cons_zero, Option.some.injEq] at hx
          subst hx
          refine ⟨cs, he, fun j v hj => ?_⟩
          rw [Nat.zero_mul, Nat.zero_add, List.getElem?_append_left (List.getElem?_eq_some_iff.1 hj).1]; exact hj
        | succ i =>
          obtain ⟨cs', he', hc'⟩ := h4 i x (by simpa using hx)
          refine ⟨cs', he', fun j v hj => ?_⟩
          have := hc' j v hj
          rw [List.getElem?_append_right (by rw [hl, Nat.add_mul]; omega)]
          rwa [show (i + 1) * E.sz + j - cs.length = i * E.sz + j by rw [hl, Nat.add_mul]; omega]
  obtain ⟨us, h1, h2, h3, h4⟩ := key xs off hcs
  exact ⟨us, h1, h2, fun w hv => hv.at_ hb h3, h4⟩
theorem Qie {t el : TypeId} {i : TypeInfo} {z : Value} {E : ET} (ht : P.underlying t = some (.slice el)) (hi : P.info? el = some i) (hz : i.zero = some z) (hzs : z.cells.size = E.sz) (hisz : i.size = E.sz) (hel : el = E.ty) (hsz : 0 < E.sz)
    {k : Nat} {c : Ch} (hw : St g w L ih) (hk : L[k]? = some c) {p : Option Addr} {cap : Nat} {xs : List E.α} (ho : OSl E ih p cap xs c) (ty : TypeId)
    {ys : List E.α} {q : Addr} {c2 : Nat} {us : List Value} (hl : us.length = ys.length * E.sz) (hpl : plainAll us = true) (hat : At w q us)
    (hys : ∀ i x, ys[i]? = some x → ∃ cs, E.enc ih x cs ∧ ∀ j v, cs[j]? = some v → us[i * E.sz + j]? = some v)
    (h63 : xs.length + ys.length ≤ maxLen) (hby : (xs.length + ys.length) * i.bytes ≤ 140737488355328) :
    ∃ p' cap' c' w', (Builtin.append_ #[t, t] ty #[.slice p xs.length cap, .slice (some q) ys.length c2]).run P w = .ok (.slice p' (xs ++ ys).length cap') w' ∧ OSl E ih p' cap' (xs ++ ys) c' ∧ St g w' (L.set k c') ih := by
  subst hel
  have hsmall : xs.length + ys.length ≤ 9223372036854775807 := by simp only [maxLen] at h63; omega
  have hlen : (xs ++ ys).length = xs.length + ys.length := List.length_append
  have fresh : ∀ (vs : List Value), (∀ i x, (xs ++ ys)[i]? = some x → ∃ cs, E.enc ih x cs ∧ ∀ j v, cs[j]? = some v → vs[i * E.sz + j]? = some v) → ∀ cap', xs.length + ys.length ≤ cap' → cap' ≤ maxLen → vs.length = cap' * E.sz →
      OSl E ih (some ⟨w.heap.size, 0, none⟩) cap' (xs ++ ys) [(w.heap.size, .cells vs.toArray E.ty (0, 0))] ∧ St g (w.drew.alloc (.cells vs.toArray E.ty (0, 0))) (L.set k [(w.heap.size, .cells vs.toArray E.ty (0, 0))]) ih := by
    intro vs hvs cap' h1 h2 h3
    refine ⟨.inr ⟨w.heap.size, vs.toArray, rfl, rfl, by omega, h2, by simpa using h3, fun i x hx => ?_⟩, ?_⟩
    · obtain ⟨cs, he, hc⟩ := hvs i x hx
      exact ⟨cs, he, fun j v hj => by simpa using hc j v hj⟩
    · have hn := hw.drew.new (.cells vs.toArray E.ty (0, 0))
      obtain ⟨A, B, e1, e2⟩ := Qhd (c' := [(w.heap.size, Obj.cells vs.toArray E.ty (0, 0))]) hk
      have hmem : ∀ p ∈ (L.set k [(w.heap.size, Obj.cells vs.toArray E.ty (0, 0))]).flatten, p ∈ ([(w.heap.size, Obj.cells vs.toArray E.ty (0, 0))] :: L).flatten := by
        intro p hp
        rw [e2] at hp
        rw [List.flatten_cons, e1]
        simp only [List.mem_append, List.mem_singleton] at hp ⊢
        rcases hp with (hp | hp) | hp
        · exact .inr (.inl (.inl hp))
        · exact .inl hp
        · exact .inr (.inr hp)
      refine ⟨hn.os, hn.tape, hn.output, hn.im, fun p hp => hn.own p (hmem p hp), fun p hp => hn.dis p (hmem p hp), ?_⟩
      have hnd := hn.nd
      rw [List.flatten_cons, e1] at hnd
      rw [e2]
      simp only [List.map_append, List.map_cons, List.map_nil, List.cons_append, List.nil_append, List.nodup_cons, List.nodup_append, List.mem_append, List.mem_map, List.mem_cons, List.not_mem_nil, or_false] at hnd ⊢
      obtain ⟨hnot, ⟨hA, _, hAc⟩, hB, hAB⟩ := hnd
      refine ⟨⟨hA, by simp, ?_⟩, hB, ?_⟩
      · intro x hx y hy he
        subst hy; subst he
        exact hnot (.inl (.inl hx))
      · intro x hx y hy he
        rcases hx with hx | rfl
        · exact hAB x (.inl hx) y hy he
        · subst he; exact hnot (.inr hy)
  have both : ∀ (os : List Value), os.length = xs.length * E.sz → (∀ i x, xs[i]? = some x → ∃ cs, E.enc ih x cs ∧ ∀ j v, cs[j]? = some v → os[i * E.sz + j]? = some v) → ∀ tl : List Value,
      ∀ i x, (xs ++ ys)[i]? = some x → ∃ cs, E.enc ih x cs ∧ ∀ j v, cs[j]? = some v → (os ++ us ++ tl)[i * E.sz + j]? = some v := by
    intro os hos hxs tl i x hx
    rw [List.getElem?_append] at hx
    split at hx
    · rename_i hlt
      obtain ⟨cs, he, hc⟩ := hxs i x hx
      refine ⟨cs, he, fun j v hj => ?_⟩
      have h0 := hc j v hj
      have h1 := (List.getElem?_eq_some_iff.1 h0).1
      rw [List.append_assoc, List.getElem?_append_left h1]; exact h0
    · rename_i hge
      obtain ⟨cs, he, hc⟩ := hys _ x hx
      refine ⟨cs, he, fun j v hj => ?_⟩
      have h0 := hc j v hj
      have h1 := (List.getElem?_eq_some_iff.1 h0).1
      have hmul : i * E.sz = os.length + (i - xs.length) * E.sz := by rw [hos, ← Nat.add_mul]; congr 1; omega
      rw [List.append_assoc, List.getElem?_append_right (by omega), hmul, show os.length + (i - xs.length) * E.sz + j - os.length = (i - xs.length) * E.sz + j by omega, List.getElem?_append_left h1]
      exact h0
  rcases ho with ⟨rfl, rfl, rfl, rfl⟩ | ⟨b, cur, rfl, rfl, hxc, hcm, hcs, hxs⟩
  · by_cases hm : ys.length = 0
    · have hy : ys = [] := List.eq_nil_of_length_eq_zero hm
      subst hy
      have hu : us = [] := List.eq_nil_of_length_eq_zero (by simpa using hl)
      subst hu
      refine ⟨none, 0, [], w, ?_, .inl ⟨rfl, rfl, rfl, rfl⟩, ?_⟩
      · simp [Builtin.append_, run_underlying ht, sizeOf, typeInfo, hi, Builtin.lenOf, Builtin.firstCells, loadCells, loadCellsFrom]
      · have hset : L.set k [] = L := by
          have := (List.getElem?_eq_some_iff.1 hk)
          obtain ⟨hlt, hv⟩ := this
          conv => lhs; rw [← hv]
          exact List.set_getElem_self hlt
        rw [hset]; exact hw
    · have hr := run_append_nil (P := P) w t ty E.ty i z ht hi hz q ys.length c2 us (by rw [hisz]; exact hl) hat (by omega) (by omega) (by simp only [List.length_nil, Nat.zero_add] at hby; omega)
      obtain ⟨f1, f2⟩ := fresh (us ++ (Builtin.zeroCells z.cells (grownCap w ys.length 0 E.ty - ys.length)).toList) (by simpa using both [] (by simp) (fun i x hx => by cases hx) _) (grownCap w ys.length 0 E.ty)
        (by simpa using grownCap_ge w ys.length 0 E.ty) (grownCap_le_maxLen w _ 0 E.ty (by simpa using h63)) (by
          have := grownCap_ge w ys.length 0 E.ty
          have e1 : ∀ m, (Builtin.zeroCells z.cells m).toList.length = m * E.sz := fun m => by rw [Array.length_toList, size_zeroCells, hzs]
          rw [List.length_append, hl, e1, ← Nat.add_mul, Nat.add_sub_cancel' this])
      refine ⟨_, _, _, _, ?_, f1, f2⟩
      simp only [List.length_nil, List.nil_append] at hr ⊢
      rw [hr]
      congr 3
      apply Array.ext'; simp
  · have hb : w.heap[b]? = some (.cells cur E.ty (0, 0)) := (hw.vw k hk).own _ (List.mem_singleton.2 rfl)
    have hxs' : ∀ i x, xs[i]? = some x → ∃ cs, E.enc ih x cs ∧ ∀ j v, cs[j]? = some v → (cur.toList.take (xs.length * E.sz))[i * E.sz + j]? = some v := by
      intro i x hx
      obtain ⟨cs, he, hc⟩ := hxs i x hx
      refine ⟨cs, he, fun j v hj => ?_⟩
      have hlt := (List.getElem?_eq_some_iff.1 hx).1
      have hjl := (List.getElem?_eq_some_iff.1 hj).1
      rw [E.len he] at hjl
      have : i * E.sz + j < xs.length * E.sz := by
        have : (i + 1) * E.sz ≤ xs.length * E.sz := Nat.mul_le_mul_right _ hlt
        rw [Nat.add_mul] at this; omega
      rw [List.getElem?_take, if_pos this]
      simpa using hc j v hj
    have holen : (cur.toList.take (xs.length * E.sz)).length = xs.length * E.sz := by
      have e1 : cur.toList.length = cap * E.sz := by rw [Array.length_toList, hcs]
      rw [List.length_take, e1]
      exact Nat.min_eq_left (Nat.mul_le_mul_right _ hxc)
    by_cases hroom : xs.length + ys.length ≤ cap
    · have hfit : xs.length * i.size + us.length ≤ cur.size := by rw [hisz, hl, hcs, ← Nat.add_mul]; exact Nat.mul_le_mul_right _ hroom
      have hr := run_append_room (P := P) w t ty E.ty i ht hi b xs.length cap cur hb q ys.length c2 us (by rw [hisz]; exact hl) hat (QeJ hpl) hroom hfit
      rw [hisz] at hr hfit
      refine ⟨_, cap, [(b, .cells (List.take (xs.length * E.sz) cur.toList ++ us ++ List.drop (xs.length * E.sz + us.length) cur.toList).toArray E.ty (0, 0))], _, by rw [hlen]; exact hr, .inr ⟨b, _, rfl, rfl, by omega, hcm, ?_, ?_⟩, ?_⟩
      · simp only [List.size_toArray, List.length_append, List.length_take, List.length_drop, Array.length_toList]
        omega
      · intro i x hx
        obtain ⟨cs, he, hc⟩ := both _ holen hxs' (cur.toList.drop (xs.length * E.sz + us.length)) i x hx
        exact ⟨cs, he, fun j v hj => by simpa using hc j v hj⟩
      · exact hw.turn k hk rfl rfl rfl (setRow_heap w b cur _ E.ty (0, 0) hb) fun m hm => setRow_other w b m _ hm
    · have holds : At w ⟨b, 0, none⟩ (cur.toList.take (xs.length * E.sz)) := (hw.vw k hk).at_ (.inr (List.mem_singleton.2 rfl)) fun j v hj => by
        rw [List.getElem?_take] at hj
        split at hj
        · simpa using hj
        · cases hj
      have hr := run_append_grow (P := P) w t ty E.ty i z ht hi hz ⟨b, 0, none⟩ xs.length cap _ (by rw [hisz]; exact holen) holds q ys.length c2 us (by rw [hisz]; exact hl) hat (by omega) (by omega) (growslice_fits (by omega) hby)
      obtain ⟨f1, f2⟩ := fresh ((cur.toList.take (xs.length * E.sz)) ++ us ++ (Builtin.zeroCells z.cells (grownCap w (xs.length + ys.length) cap E.ty - (xs.length + ys.length))).toList) (both _ holen hxs' _) (grownCap w (xs.length + ys.length) cap E.ty)
        (grownCap_ge w _ _ E.ty) (grownCap_le_maxLen w _ _ E.ty h63) (by
          have := grownCap_ge w (xs.length + ys.length) cap E.ty
          have e1 : ∀ m, (Builtin.zeroCells z.cells m).toList.length = m * E.sz := fun m => by rw [Array.length_toList, size_zeroCells, hzs]
          rw [List.length_append, List.length_append, holen, hl, e1, ← Nat.add_mul, ← Nat.add_mul, Nat.add_sub_cancel' this])
      refine ⟨_, _, _, _, ?_, f1, f2⟩
      rw [hlen, hr]
      congr 3
      apply Array.ext'; simp
end Go.Proofs.YteiinkhbgpldeaaGreatDoor.Sx
