/- Plain facts for CallerPlays. Conditions: those ahead of each colon. -/
import Derived.Test.YteiinkhbgpldeaaGreatDoorSxA
set_option linter.unusedSimpArgs false
set_option linter.unusedVariables false
namespace Go.Proofs.YteiinkhbgpldeaaGreatDoor.Sx
open Go
variable {P : Program} {ops : Array Oper} {Q : Exit → Act → World → Prop} {n : Nat} {g w : World} {L : List Ch} {ih : IH} {a : Act} {e : Env} {rest : List Oper} {dfs : List Deferred} {ro : Option Nat}
variable {J : Act → World → Prop} {S : Array Bool → World → Prop} {fuel : Nat} {l : Array Bool}
theorem Ql9 {a b : Bool} (h : (a && b) = true) : a = true ∧ b = true := by simpa using h
def getE : Option Env → Env
  | some e => e
  | none => []
def keysE (e : Env) : List Nat := e.map (·.1)
def fvC {β : Type} (v : Value) (k : Value → β) : β := match v with
  | .int a b => k (.int a b)
  | .bool b => k (.bool b)
  | .pointer p => k (.pointer p)
  | .slice p l c => k (.slice p l c)
  | .agg a => k (.agg a)
  | .tuple t => k (.tuple t)
  | .func f x y => k (.func f x y)
  | .string b => k (.string b)
  | v => k v
theorem Qk6 {β : Type} (v : Value) (k : Value → β) : fvC v k = k v := by cases v <;> rfl
def runsF (P : Program) (ops : Array Oper) (n : Nat) : Nat → List Oper → Env → Option Env
  | 0, _, e => some e
  | _ + 1, [], _ => none
  | k + 1, o :: rest, e =>
    match wantedE ops e o with
    | some true =>
      match (bif inB n o.dst && noSel o.op && knownE e o.op.operands.toList then det P (execOp (ev e) o) else none) with
      | some (.value v) => fvC v fun v => runsF P ops n k rest (putO o.dst v e)
      | some .skip => runsF P ops n k rest (putO o.dst undef e)
      | _ => none
    | some false => bif inB n o.dst then runsF P ops n k rest (putO o.dst undef e) else none
    | none => none
theorem Qh5 {n : Nat} : ∀ (k : Nat) (l : List Oper) (e : Env), runsF P ops n k l e = runs P ops n k l e
  | 0, _, _ => rfl
  | _ + 1, [], _ => rfl
  | k + 1, o :: rest, e => by
    unfold runsF runs
    cases wantedE ops e o with
    | none => rfl
    | some b =>
      cases b with
      | false => simp only [Qh5 k]
      | true =>
        simp only
        generalize (bif inB n o.dst && noSel o.op && knownE e o.op.operands.toList then det P (execOp (ev e) o) else none) = d
        cases d with
        | none => rfl
        | some nx => cases nx <;> simp only [Qk6, Qh5 k]
def runsDF (P : Program) (ops : Array Oper) (K : List Nat) (n : Nat) : List Nat → Array Bool → Env → Option Env
  | [], _, e => some e
  | i :: is, l, e =>
    match ops[i]? with
    | none => none
    | some o =>
      bif dOk ops K l i then
        match wantedE ops e o with
        | some true =>
          match (bif inB n o.dst && noSel o.op && knownE e o.op.operands.toList then det P (execOp (ev e) o) else none) with
          | some (.value v) => fvC v fun v => runsDF P ops K n is (l.setIfInBounds i true) (putO o.dst v e)
          | _ => none
        | some false => bif inB n o.dst then runsDF P ops K n is (l.setIfInBounds i true) (putO o.dst undef e) else none
        | none => none
      else none
theorem Qic {K : List Nat} {n : Nat} : ∀ (is : List Nat) (l : Array Bool) (e : Env), runsDF P ops K n is l e = runsD P ops K n is l e
  | [], _, _ => rfl
  | i :: is, l, e => by
    unfold runsDF runsD
    cases ops[i]? with
    | none => rfl
    | some o =>
      simp only
      cases dOk ops K l i with
      | false => rfl
      | true =>
        simp only [cond_true]
        cases wantedE ops e o with
        | none => rfl
        | some b =>
          cases b with
          | false => simp only [Qic is]
          | true =>
            simp only
            generalize (bif inB n o.dst && noSel o.op && knownE e o.op.operands.toList then det P (execOp (ev e) o) else none) = d
            cases d with
            | none => rfl
            | some nx => cases nx <;> simp only [Qk6, Qic is]
theorem pu (hs : SeesD dfs a n e) (k : Nat) {l : List Oper} {w : World} (next : ∀ a', SeesD dfs a' n (getE (runsF P ops n k l e)) → wpList P ops Q (l.drop k) a' w) (h : (runsF P ops n k l e).isSome = true := by kernel_rfl) : wpList P ops Q l a w := by
  obtain ⟨e1, h1⟩ := Option.isSome_iff_exists.1 h
  refine QfG k l e e1 a hs (by rw [← Qh5]; exact h1) fun a' ha' => next a' ?_
  rw [h1]; exact ha'
theorem pn (hs : SeesD dfs a n e) (k : Nat) (e' : Env) {l : List Oper} {w : World} (next : ∀ a', SeesD dfs a' n e' → wpList P ops Q (l.drop k) a' w) (h : (runsF P ops n k l e).bind (fun e1 => pickE e1 (keysE e')) = some e' := by kernel_rfl) : wpList P ops Q l a w := by
  rw [Qh5] at h
  cases h1 : runs P ops n k l e with
  | none => rw [h1] at h; cases h
  | some e1 =>
    rw [h1] at h
    exact QfG k l e e1 a hs h1 fun a' ha' => next a' (ha'.cast (keysE e') h)
theorem SeesD.cst (h : SeesD dfs a n e) {e' : Env} (he : pickE e (keysE e') = some e' := by kernel_rfl) : SeesD dfs a n e' := h.cast (keysE e') he
def ldU (P : Program) (t : TypeId) (cs : List Value) (j : Nat) : Value := (ldv P t cs j).getD undef
theorem Qkd {t : TypeId} {cs : List Value} {j : Nat} (h : (ldv P t cs j).isSome = true) : ldv P t cs j = some (ldU P t cs j) := by
  obtain ⟨v, hv⟩ := Option.isSome_iff_exists.1 h
  unfold ldU; rw [hv]; rfl
theorem Qj {dst : Option Tmp} {t ty : TypeId} {x : Operand} {pos : String} {af : Array Edge} {gd : Option (Nat × Bool)} (hs : SeesD dfs a n e) {q : Addr} {cs : List Value} (hat : At w q cs) (j : Nat)
    (next : ∀ a', SeesD dfs a' n (putO dst (ldU P t cs j) e) → wpList P ops Q rest a' w)
    (h : (okE ops n e ⟨dst, .load t x, ty, pos, af, gd⟩ && (ldv P t cs j).isSome, ev e x) = (true, .pointer (some (q.add j))) := by kernel_rfl) : wpList P ops Q (⟨dst, .load t x, ty, pos, af, gd⟩ :: rest) a w := by
  obtain ⟨h1, h2⟩ := Prod.mk.inj h
  obtain ⟨h1, h3⟩ := Ql9 h1
  exact QmE hs hat j h1 h2 (Qkd h3) next
theorem Qnv {K : List Nat} (hK : KeyOk S K) (hs : SeesD dfs a n e) (hS : S l w) (i : Nat) {dst : Option Tmp} {t ty : TypeId} {x : Operand} {pos : String} {af : Array Edge} {gd : Option (Nat × Bool)} (hi : ops[i]? = some ⟨dst, .load t x, ty, pos, af, gd⟩)
    {q : Addr} {cs : List Value} (hat : ∀ l' w, Unl ops i l' → S l' w → At w q cs) (j : Nat)
    (next : ∀ a', SeesD dfs a' n (putO dst (ldU P t cs j) e) → S (l.setIfInBounds i true) w → DG P ops J S fuel (l.setIfInBounds i true) a' w)
    (h : (dOk ops K l i && (okE ops n e ⟨dst, .load t x, ty, pos, af, gd⟩ && (ldv P t cs j).isSome), ev e x) = (true, .pointer (some (q.add j))) := by kernel_rfl) : DG P ops J S (fuel + 1) l a w := by
  obtain ⟨h1, h2⟩ := Prod.mk.inj h
  obtain ⟨h0, h1⟩ := Ql9 h1
  obtain ⟨h1, h3⟩ := Ql9 h1
  exact QmW hK hs hS i hi h0 hat j h1 h2 (Qkd h3) next
theorem Qnu {K : List Nat} (hK : KeyOk S K) (hs : SeesD dfs a n e) (hS : S l w) (is : List Nat)
    (next : ∀ a', SeesD dfs a' n (getE (runsDF P ops K n is l e)) → S (is.foldl (fun l i => l.setIfInBounds i true) l) w → DG P ops J S fuel (is.foldl (fun l i => l.setIfInBounds i true) l) a' w)
    (h : (runsDF P ops K n is l e).isSome = true := by kernel_rfl) : DG P ops J S (fuel + is.length) l a w := by
  obtain ⟨e1, h1⟩ := Option.isSome_iff_exists.1 h
  refine Qha hK is l e e1 a hS hs (by rw [← Qic]; exact h1) fun a' ha' hS => next a' ?_ hS
  rw [h1]; exact ha'
theorem QE {t ty : TypeId} {x y : Operand} {pos : String} {af : Array Edge} {gd : Option (Nat × Bool)} (hs : SeesD dfs a n e) (hw : St g w L ih) (i : Nat) {b : Nat} {cs : List Value} {T : TypeId} (hi : L[i]? = some (bx b cs T)) (j : Nat) {v : Value}
    (next : ∀ a' w', SeesD dfs a' n e → St g w' (L.set i (bx b (splice cs j v.cells.toList) T)) ih → wpList P ops Q rest a' w')
    (h : (okE ops n e ⟨none, .store t x y, ty, pos, af, gd⟩ && (Nat.ble (j + v.cells.size) cs.length && plainAll v.cells.toList), ev e x, ev e y, det P (sizeOf t)) = (true, .pointer (some ⟨b, j, none⟩), v, some v.cells.size) := by kernel_rfl) : wpList P ops Q (⟨none, .store t x y, ty, pos, af, gd⟩ :: rest) a w := by
  obtain ⟨h1, h2⟩ := Prod.mk.inj h
  obtain ⟨h2, h3⟩ := Prod.mk.inj h2
  obtain ⟨h3, h4⟩ := Prod.mk.inj h3
  obtain ⟨h1, h5⟩ := Ql9 h1
  obtain ⟨h5, h6⟩ := Ql9 h5
  exact QjU hs hw i hi j h1 h2 h3 h4 h5 h6 next
theorem QfM (hs : SeesD dfs a n e) (hw : St g w L ih) {k : Nat} {t ty : TypeId} {x y : Operand} {pos : String} {af : Array Edge} {gd : Option (Nat × Bool)} (hi : ops[k]? = some ⟨none, .store t x y, ty, pos, af, gd⟩) (i : Nat) {b : Nat} {cs : List Value} {T : TypeId} (hL : L[i]? = some (bx b cs T)) (j : Nat) {v : Value}
    {K : Act → World → Prop}
    (next : ∀ a' w', SeesD dfs a' n e → St g w' (L.set i (bx b (splice cs j v.cells.toList) T)) ih → K a' w')
    (h : (okE ops n e ⟨none, .store t x y, ty, pos, af, gd⟩ && (Nat.ble (j + v.cells.size) cs.length && plainAll v.cells.toList), ev e x, ev e y, det P (sizeOf t)) = (true, .pointer (some ⟨b, j, none⟩), v, some v.cells.size) := by kernel_rfl) : wpOp P ops Q k K a w := by
  obtain ⟨h1, h2⟩ := Prod.mk.inj h
  obtain ⟨h2, h3⟩ := Prod.mk.inj h2
  obtain ⟨h3, h4⟩ := Prod.mk.inj h3
  obtain ⟨h1, h5⟩ := Ql9 h1
  obtain ⟨h5, h6⟩ := Ql9 h5
  exact Qmg hs hw hi i hL j h1 h2 h3 h4 h5 h6 next
theorem QaR (hs : SeesD dfs a n e) {i : Nat} {o : Oper} (hi : ops[i]? = some o) {K : Act → World → Prop} {f : FuncId} {args : Array Value} {R : Value → World → Prop} (hc : CallsR P f args w R)
    (next : ∀ a' w' v, R v w' → SeesD dfs a' n (putO o.dst v e) → K a' w') (h : (okE ops n e o, det P (execOp (ev e) o)) = (true, some (.enter f args)) := by kernel_rfl) : wpOp P ops Q i K a w :=
  QmM hs hi (Prod.mk.inj h).1 (Prod.mk.inj h).2 hc next
theorem QaN {o : Oper} (hs : SeesD dfs a n e) (hw : St g w L ih) (cs : List Value) (t : TypeId) (v : Nat → Value)
    (next : ∀ a' w' b, SeesD dfs a' n (putO o.dst (v b) e) → St g w' (bx b cs t :: L) ih → wpList P ops Q rest a' w')
    (hd : ∀ b, (okE ops n e o, detN P b (execOp (ev e) o)) = (true, some (.cells cs.toArray t (0, 0), .value (v b))) := by intro _; kernel_rfl) : wpList P ops Q (o :: rest) a w :=
  QC hs hw cs t v (Prod.mk.inj (hd 0)).1 (fun b => (Prod.mk.inj (hd b)).2) next
theorem Qhy (hs : SeesD dfs a n e) {i : Nat} {o : Oper} (hi : ops[i]? = some o) (hw : St g w L ih) (cs : List Value) (t : TypeId) (v : Nat → Value) {K : Act → World → Prop}
    (next : ∀ a' w' b, SeesD dfs a' n (putO o.dst (v b) e) → St g w' (bx b cs t :: L) ih → K a' w')
    (hd : ∀ b, (okE ops n e o, detN P b (execOp (ev e) o)) = (true, some (.cells cs.toArray t (0, 0), .value (v b))) := by intro _; kernel_rfl) : wpOp P ops Q i K a w :=
  Qnf hs hi hw cs t v (Prod.mk.inj (hd 0)).1 (fun b => (Prod.mk.inj (hd b)).2) next
theorem Qv {o : Oper} {f : FuncId} {args : Array Value} {R : Value → World → Prop} (hs : SeesD dfs a n e) (hc : CallsR P f args w R)
    (next : ∀ a' w' v, R v w' → SeesD dfs a' n (putO o.dst v e) → wpList P ops Q rest a' w')
    (h : (okE ops n e o, det P (execOp (ev e) o)) = (true, some (.enter f args)) := by kernel_rfl) : wpList P ops Q (o :: rest) a w :=
  QmF hs (Prod.mk.inj h).1 (Prod.mk.inj h).2 hc next
theorem Qgb {c : Operand} {x y : Code} (hs : SeesD dfs a n e) (hx : x.wpIn (FR ro) 0 P Q a w) (h : (knownE e [c], ev e c) = (true, .bool true) := by kernel_rfl) : (Code.cond c x y).wpIn (FR ro) 0 P Q a w := Qlt hs (Prod.mk.inj h).1 (Prod.mk.inj h).2 hx
theorem QhJ {c : Operand} {x y : Code} (hs : SeesD dfs a n e) (hy : y.wpIn (FR ro) 0 P Q a w) (h : (knownE e [c], ev e c) = (true, .bool false) := by kernel_rfl) : (Code.cond c x y).wpIn (FR ro) 0 P Q a w := Qlu hs (Prod.mk.inj h).1 (Prod.mk.inj h).2 hy
theorem Qr {c : Operand} {x y : Code} {t : Bool} (hs : SeesD dfs a n e) (ht : t = true) (hx : x.wpIn (FR ro) 0 P Q a w) (h : (knownE e [c], ev e c) = (true, .bool t) := by kernel_rfl) : (Code.cond c x y).wpIn (FR ro) 0 P Q a w := Qmo hs (Prod.mk.inj h).1 (Prod.mk.inj h).2 ht hx
theorem Qs {c : Operand} {x y : Code} {t : Bool} (hs : SeesD dfs a n e) (ht : t = false) (hy : y.wpIn (FR ro) 0 P Q a w) (h : (knownE e [c], ev e c) = (true, .bool t) := by kernel_rfl) : (Code.cond c x y).wpIn (FR ro) 0 P Q a w := Qmp hs (Prod.mk.inj h).1 (Prod.mk.inj h).2 ht hy
theorem f_i {f : FuncId} {fn : Func} {c : Code} {vs : List Value} {R : Value → World → Prop} (hf : P.funcs[f]? = some fn) (hb : fn.body = some c) (n : Nat) (hn : fn.ntmps = n) (h : ∀ (a : Act) (Qf : Exit → Act → World → Prop), (∀ a w, bodyPost P fn (fun e w' => match e with | .returned v => R v w' | _ => False) .ret a w → Qf .ret a w) → (∀ a w, bodyPost P fn (fun e w' => match e with | .returned v => R v w' | _ => False) .ret a w → Qf .normal a w) → Sees a n (vs.zipIdx.map fun (v, i) => (i, v)) → c.wpIn (FR none) 0 P Qf a w)
    (hsz : Nat.ble vs.length n = true := by kernel_rfl) : CallsR P f vs.toArray w R :=
  QmS hf hb n hn hsz _ rfl h
theorem mkJ (f : Act → World → Prop) : ∃ J : Act → World → Prop, ∀ a w, J a w ↔ f a w := ⟨f, fun _ _ => Iff.rfl⟩
theorem QhB (f : Nat → Act → World → Prop) : ∃ J : Nat → Act → World → Prop, ∀ j a w, J j a w ↔ f j a w := ⟨f, fun _ _ _ => Iff.rfl⟩
theorem mkSXw (hw : St g w L ih) (ks : List (List Nat)) {K : List Nat} (hK : ((ks.zip L).flatMap (·.1)) = K) : ∃ S : Array Bool → World → Prop, (∀ l w, S l w ↔ Vw w (liveX (ks.zip L) l).flatten ih) ∧ KeyOk S K := mkSX hK
theorem St.pk (h : St g w L ih) (is : List Nat) (hn : (nodupB is && is.all fun i => Nat.blt i L.length) = true := by kernel_rfl) : St g w (pickL L is) ih := h.pick is hn
theorem SeesD.aB (h : SeesD dfs a n e) (t : Nat) {b b' : Bool} (hb : b = b') (hl : lk e t = some (.bool b) := by kernel_rfl) : SeesD dfs a n (setE t (.bool b') e) := h.altB t b' hl hb
theorem qr1 {fn : Func} {t : Tmp} {R : Value → World → Prop} {E : Exit} {Qf : Exit → Act → World → Prop} (hQ : ∀ a w, bodyPost P fn (fun e w' => match e with | .returned v => R v w' | _ => False) .ret a w → Qf E a w) (hs : Sees a n e) {v : Value} (h : R v w) (hf : fn.results = #[.tmp t] := by rfl) (hv : lk e t = some v := by kernel_rfl) : Qf E a w :=
  hQ _ _ (QjK hs hf hv h)
theorem QhI (h : J a w) (hr : Region.ready .any ops l = [] := by kernel_rfl) : DG P ops J S fuel l a w := Ql7 hr h
theorem Qnw (rs : List Nat) (h : ∀ i ∈ rs, wpOp P ops (NQ J) i (fun a' w' => S (l.setIfInBounds i true) w' ∧ DG P ops J S fuel (l.setIfInBounds i true) a' w') a w) (hr : (Region.ready .any ops l, rs.isEmpty) = (rs, false) := by kernel_rfl) : DG P ops J S (fuel + 1) l a w :=
  Qng (Prod.mk.inj hr).1 (by have := (Prod.mk.inj hr).2; intro he; rw [he] at this; cases this) h
theorem SXn {X : List (List Nat × Ch)} {ih : IH} (hD : ∀ l w, S l w ↔ Vw w (liveX X l).flatten ih) {w : World} {A : List Ch} (h : Vw w A.flatten ih) (he : liveX X l = A := by kernel_rfl) : S l w := Qlz hD h he
theorem SXb {X : List (List Nat × Ch)} {ih : IH} (hD : ∀ l w, S l w ↔ Vw w (liveX X l).flatten ih) (j : Nat) {ks : List Nat} {b : Nat} {cs : List Value} {t : TypeId} (hj : X[j]? = some (ks, bx b cs t)) {i : Nat} (hk : (ks.all fun k => waits ops k i) = true := by kernel_rfl) : ∀ l' w, Unl ops i l' → S l' w → At w ⟨b, 0, none⟩ cs := Qm0 hD j hj hk
theorem nx {X : List (List Nat × Ch)} {ih : IH} (hD : ∀ l w, S l w ↔ Vw w (liveX X l).flatten ih) {w : World} {A : List Ch} {B : Prop} (h : Vw w A.flatten ih) (f : S l w → B) (he : liveX X l = A := by kernel_rfl) : S l w ∧ B := ⟨Qlz hD h he, f (Qlz hD h he)⟩
theorem St.cL (h : St g w L ih) (L' : List Ch) (e : L = L' := by kernel_rfl) : St g w L' ih := e ▸ h
end Go.Proofs.YteiinkhbgpldeaaGreatDoor.Sx
