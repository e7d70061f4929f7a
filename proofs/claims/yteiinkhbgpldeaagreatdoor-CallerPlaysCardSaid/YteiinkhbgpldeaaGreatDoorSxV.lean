/- Plain facts for CallerPlays. Conditions: those ahead of each colon. -/
import Derived.Test.YteiinkhbgpldeaaGreatDoorSxU
set_option linter.unusedSimpArgs false
set_option linter.unusedVariables false
namespace Go.Proofs.YteiinkhbgpldeaaGreatDoor.Sx
open Go
variable {P : Program} {ops : Array Oper} {Q : Exit → Act → World → Prop} {n : Nat} {g w : World} {L : List Ch} {ih : IH} {a : Act} {e : Env} {rest : List Oper} {dfs : List Deferred} {ro : Option Nat}
variable {J : Act → World → Prop} {S : Array Bool → World → Prop} {fuel : Nat} {l : Array Bool}
def bt (m k : Nat) : Bool := Nat.beq (Nat.land (Nat.shiftRight m k) 1) 1
theorem Qmq (m k : Nat) : bt m k = m.testBit k := by
  have h : Nat.land (Nat.shiftRight m k) 1 = (m >>> k) % 2 := Nat.and_one_is_mod _
  unfold bt
  rw [h, Nat.testBit_eq_decide_div_mod_eq, Nat.shiftRight_eq_div_pow]
  cases hd : decide (m / 2 ^ k % 2 = 1) with
  | true => rw [of_decide_eq_true hd]; rfl
  | false =>
    have := of_decide_eq_false hd
    cases hb : Nat.beq (m / 2 ^ k % 2) 1 with
    | true => exact absurd (Nat.eq_of_beq_eq_true hb) this
    | false => rfl
def sb (m k : Nat) : Nat := Nat.lor m (Nat.shiftLeft 1 k)
theorem QmY (m k j : Nat) : bt (sb m k) j = (bt m j || Nat.beq j k) := by
  rw [Qmq, Qmq]
  show (m ||| 1 <<< k).testBit j = _
  rw [Nat.testBit_or, Nat.one_shiftLeft, Nat.testBit_two_pow]
  congr 1
  cases hb : Nat.beq j k with
  | true => exact decide_eq_true (Nat.eq_of_beq_eq_true hb).symm
  | false => exact decide_eq_false fun h => Nat.ne_of_beq_eq_false hb h.symm
def bA (N m : Nat) : Array Bool := ((List.range N).map (bt m)).toArray
theorem Qmu (N m : Nat) : (bA N m).size = N := by simp [bA]
theorem Qkk (N m k : Nat) : (bA N m)[k]? = if k < N then some (bt m k) else none := by
  unfold bA
  rw [List.getElem?_toArray, List.getElem?_map]
  by_cases h : k < N
  · rw [if_pos h, List.getElem?_range h]; rfl
  · rw [if_neg h, List.getElem?_eq_none (by simpa using Nat.le_of_not_lt h)]; rfl
theorem Qj4 (N m k : Nat) (d : Bool) : (bA N m).getD k d = if k < N then bt m k else d := by
  rw [Array.getD_eq_getD_getElem?, Qkk]; split <;> rfl
theorem QjQ (N m i : Nat) : (bA N m).setIfInBounds i true = bA N (sb m i) := by
  refine Array.ext_getElem? fun j => ?_
  rw [Array.getElem?_setIfInBounds, Qkk, Qkk, Qmu, QmY]
  by_cases hj : i = j
  · subst hj
    by_cases h : i < N
    · simp [h, Nat.beq_refl]
    · simp [h]
  · have : Nat.beq j i = false := by
      cases hb : Nat.beq j i with
      | true => exact absurd (Nat.eq_of_beq_eq_true hb).symm hj
      | false => rfl
    simp [hj, this]
theorem Qmt (N : Nat) : Array.replicate N false = bA N 0 := by
  refine Array.ext_getElem? fun j => ?_
  rw [Qkk, Array.getElem?_replicate]
  have : bt 0 j = false := by rw [Qmq]; simp
  rw [this]
def allO (f : Nat → Oper → Bool) : Nat → List Oper → Bool
  | _, [] => true
  | j, o :: r => bif f j o then allO f (j + 1) r else false
theorem QjR {f : Nat → Oper → Bool} : ∀ (l : List Oper) (j : Nat), allO f j l = true → ∀ k o, l[k]? = some o → f (j + k) o = true
  | [], _, _, k, o, h => by simp at h
  | x :: r, j, h, k, o, hk => by
    unfold allO at h
    cases hf : f j x with
    | false => rw [hf] at h; cases h
    | true =>
      rw [hf] at h
      cases k with
      | zero => simp at hk; subst hk; exact hf
      | succ k =>
        have := QjR r (j + 1) h k o (by simpa using hk)
        rwa [show j + 1 + k = j + (k + 1) by omega] at this
theorem Qkl {f : Nat → Oper → Bool} (h : allO f 0 ops.toList = true) {k : Nat} {o : Oper} (hk : ops[k]? = some o) : f k o = true := by
  have := QjR ops.toList 0 h k o (by rw [Array.getElem?_toList]; exact hk)
  rwa [Nat.zero_add] at this
def onE (o : Oper) (i : Nat) : Bool := o.after.toList.any fun e => bif Nat.beq e.on i then Region.binds .any e else false
theorem Ql3 (o : Oper) (i : Nat) : onE o i = o.after.toList.any (fun e => Region.binds .any e && e.on == i) := by
  unfold onE
  congr 1
  funext e
  cases hb : Nat.beq e.on i with
  | true => rw [Nat.eq_of_beq_eq_true hb]; simp
  | false => have := Nat.ne_of_beq_eq_false hb; simp [this]
def dOkM (ops : Array Oper) (K : List Nat) (N m i : Nat) (o : Oper) : Bool :=
  bif Nat.beq ops.size N && !bt m i && Nat.blt i N then
    bif o.after.toList.all (fun e => bif bt m e.on then Nat.blt e.on N else !Region.binds .any e) then
      bif allO (fun j oj => bif Nat.beq j i then true else bif bt m j then true else bif onE oj i then true else o.apart ops oj) 0 ops.toList then
        bif allO (fun j oj => bif bt m j then !onE oj i else true) 0 ops.toList then !K.contains i && Region.noSelect ops else false
      else false
    else false
  else false
theorem Qm6 {c d : Bool} (h : (bif c then d else false) = true) : c = true ∧ d = true := by cases c <;> simp_all
theorem QjN {K : List Nat} {N m i : Nat} {o : Oper} (ho : ops[i]? = some o) (h : dOkM ops K N m i o = true) : dOk ops K (bA N m) i = true := by
  unfold dOkM at h
  obtain ⟨h1, h⟩ := Qm6 h
  obtain ⟨h2, h⟩ := Qm6 h
  obtain ⟨h3, h⟩ := Qm6 h
  obtain ⟨h4, h⟩ := Qm6 h
  rw [Bool.and_eq_true] at h
  rw [Bool.and_eq_true, Bool.and_eq_true] at h1
  have hN : ops.size = N := Nat.eq_of_beq_eq_true h1.1.1
  have hi : i < N := Nat.le_of_ble_eq_true h1.2
  have hbi : bt m i = false := by simpa using h1.1.2
  have hg : ∀ k d, k < N → (bA N m).getD k d = bt m k := fun k d hk => by rw [Qj4, if_pos hk]
  unfold dOk
  rw [h.2, h.1]
  have hfree : Region.free .any ops (bA N m) i = true := by
    unfold Region.free
    rw [ho]
    refine List.all_eq_true.2 fun j hj => ?_
    have hj : j < ops.size := List.mem_range.1 hj
    obtain ⟨oj, hoj⟩ : ∃ oj, ops[j]? = some oj := ⟨_, Array.getElem?_eq_getElem hj⟩
    have := Qkl h3 hoj
    rw [hoj, hg j _ (hN ▸ hj)]
    dsimp only at this ⊢
    cases hji : Nat.beq j i with
    | true => have := Nat.eq_of_beq_eq_true hji; subst this; simp
    | false =>
      rw [hji] at this
      cases hb : bt m j with
      | true => simp
      | false =>
        rw [hb] at this
        cases hon : onE oj i with
        | true =>
          rw [Ql3] at hon
          rw [← Array.any_toList]
          simp [hon]
        | false => rw [hon] at this; simp only [cond_false] at this; simp [this]
  have hready : (Region.ready .any ops (bA N m)).contains i = true := by
    rw [List.contains_iff_mem]
    refine List.mem_filter.2 ⟨List.mem_range.2 (hN ▸ hi), ?_⟩
    rw [hg i _ hi, hbi, ho]
    simp only [Bool.not_false, Option.map_some, Option.getD_some, Bool.true_and]
    rw [← Array.all_toList]
    refine List.all_eq_true.2 fun e he => ?_
    have := List.all_eq_true.1 h2 e he
    rw [Qj4]
    cases hb : bt m e.on with
    | true =>
      rw [hb] at this
      have hlt : e.on < N := Nat.le_of_ble_eq_true this
      simp [hlt]
    | false =>
      rw [hb] at this
      simp only [cond_false] at this
      rw [this]; rfl
  have hunl : unlB ops i (bA N m) = true := by
    unfold unlB
    refine List.all_eq_true.2 fun k hk => ?_
    have hk : k < ops.size := List.mem_range.1 hk
    obtain ⟨ok, hok⟩ : ∃ ok, ops[k]? = some ok := ⟨_, Array.getElem?_eq_getElem hk⟩
    have := Qkl h4 hok
    rw [hg k _ (hN ▸ hk)]
    unfold waits
    rw [hok]
    dsimp only at this ⊢
    rw [← Ql3]
    cases hb : bt m k with
    | true => rw [hb] at this; simp only [cond_true] at this; simp [this]
    | false => simp
  rw [hfree, hready, hunl]
  rfl
def runsDM (P : Program) (ops : Array Oper) (K : List Nat) (N n : Nat) : List Nat → Nat → Env → Option Env
  | [], _, e => some e
  | i :: is, m, e =>
    match ops[i]? with
    | none => none
    | some o =>
      bif dOkM ops K N m i o then
        match wantedE ops e o with
        | some true =>
          match (bif inB n o.dst && noSel o.op && knownE e o.op.operands.toList then det P (execOp (ev e) o) else none) with
          | some (.value v) => fvC v fun v => runsDM P ops K N n is (sb m i) (putO o.dst v e)
          | _ => none
        | some false => bif inB n o.dst then runsDM P ops K N n is (sb m i) (putO o.dst undef e) else none
        | none => none
      else none
theorem Qib {K : List Nat} {N : Nat} : ∀ (is : List Nat) (m : Nat) (e e' : Env), runsDM P ops K N n is m e = some e' → runsDF P ops K n is (bA N m) e = some e'
  | [], _, _, _, h => h
  | i :: is, m, e, e', h => by
    unfold runsDM at h
    unfold runsDF
    cases ho : ops[i]? with
    | none => rw [ho] at h; cases h
    | some o =>
      rw [ho] at h
      dsimp only at h ⊢
      obtain ⟨h1, h⟩ : dOkM ops K N m i o = true ∧ (match wantedE ops e o with
        | some true =>
          match (bif inB n o.dst && noSel o.op && knownE e o.op.operands.toList then det P (execOp (ev e) o) else none) with
          | some (.value v) => fvC v fun v => runsDM P ops K N n is (sb m i) (putO o.dst v e)
          | _ => none
        | some false => bif inB n o.dst then runsDM P ops K N n is (sb m i) (putO o.dst undef e) else none
        | none => none) = some e' := by
        cases hd : dOkM ops K N m i o with
        | true => rw [hd] at h; exact ⟨rfl, h⟩
        | false => rw [hd] at h; cases h
      rw [QjN ho h1, cond_true, QjQ]
      cases hw : wantedE ops e o with
      | none => rw [hw] at h; cases h
      | some b =>
        rw [hw] at h
        cases b with
        | true =>
          dsimp only at h ⊢
          generalize hc : (bif inB n o.dst && noSel o.op && knownE e o.op.operands.toList then det P (execOp (ev e) o) else none) = c at h ⊢
          cases c with
          | none => cases h
          | some c =>
            cases c <;> dsimp only at h ⊢ <;> try (cases h; done)
            rw [Qk6] at h ⊢
            exact Qib is _ _ _ h
        | false =>
          dsimp only at h ⊢
          cases hb : inB n o.dst with
          | false => rw [hb] at h; cases h
          | true => rw [hb] at h; exact Qib is _ _ _ h
theorem Qk8 (N : Nat) : ∀ (is : List Nat) (m : Nat), is.foldl (fun l i => l.setIfInBounds i true) (bA N m) = bA N (is.foldl sb m)
  | [], _ => rfl
  | i :: is, m => by rw [List.foldl_cons, List.foldl_cons, QjQ, Qk8 N is]
theorem Qlv (k : Nat) : ∀ (is : List Nat) (m : Nat), bt (is.foldl sb m) k = (bt m k || is.any (Nat.beq k))
  | [], m => by simp
  | i :: is, m => by rw [List.foldl_cons, Qlv k is, QmY, List.any_cons, Bool.or_assoc]
theorem Qp {K : List Nat} {N m : Nat} (hK : KeyOk S K) (hs : SeesD dfs a n e) (hS : S (bA N m) w) (is : List Nat)
    (next : ∀ a', SeesD dfs a' n (getE (runsDM P ops K N n is m e)) → S (bA N (is.foldl sb m)) w → DG P ops J S fuel (bA N (is.foldl sb m)) a' w)
    (h : (runsDM P ops K N n is m e).isSome = true := by kernel_rfl) : DG P ops J S (fuel + is.length) (bA N m) a w := by
  obtain ⟨e1, h1⟩ := Option.isSome_iff_exists.1 h
  have h2 := Qib is m e e1 h1
  rw [h1] at next
  refine Qnu hK hs hS is (fun a' hs' hS' => ?_) (by rw [h2]; rfl)
  rw [h2] at hs'
  rw [Qk8] at hS' ⊢
  exact next a' hs' hS'
theorem Qff {K : List Nat} {N m : Nat} (hK : KeyOk S K) (hs : SeesD dfs a n e) (hS : S (bA N m) w) (is : List Nat) (e' : Env)
    (next : ∀ a', SeesD dfs a' n e' → S (bA N (is.foldl sb m)) w → DG P ops J S fuel (bA N (is.foldl sb m)) a' w)
    (h : (runsDM P ops K N n is m e).bind (fun e1 => pickE e1 (keysE e')) = some e' := by kernel_rfl) : DG P ops J S (fuel + is.length) (bA N m) a w := by
  cases h1 : runsDM P ops K N n is m e with
  | none => rw [h1] at h; cases h
  | some e1 =>
    rw [h1] at h
    refine Qp hK hs hS is (fun a' hs' hS' => next a' ?_ hS') (by rw [h1]; rfl)
    rw [h1] at hs'
    exact hs'.cst h
def restM (N m : Nat) : List Nat := (List.range N).filter fun i => !bt m i
theorem Qu {K : List Nat} {N m : Nat} (hK : KeyOk S K) (hs : SeesD dfs a n e) (hS : S (bA N m) w)
    (next : ∀ a', SeesD dfs a' n (getE (runsDM P ops K N n (restM N m) m e)) → J a' w)
    (h : (Nat.beq fuel (restM N m).length && Nat.beq ops.size N && (runsDM P ops K N n (restM N m) m e).isSome) = true := by kernel_rfl) : DG P ops J S fuel (bA N m) a w := by
  rw [Bool.and_eq_true, Bool.and_eq_true] at h
  have h1 := Nat.eq_of_beq_eq_true h.1.1
  have h2 := Nat.eq_of_beq_eq_true h.1.2
  have := Qp (J := J) (fuel := 0) hK hs hS (restM N m) (fun a' hs' hS' => Ql7 ?_ (next a' hs')) h.2
  · rw [Nat.zero_add] at this; rw [h1]; exact this
  · refine List.filter_eq_nil_iff.2 fun i hi => ?_
    have hi := List.mem_range.1 hi
    rw [Qj4, if_pos (h2 ▸ hi), Qlv]
    cases hb : bt m i with
    | true => simp
    | false =>
      have : (restM N m).any (Nat.beq i) = true := List.any_eq_true.2 ⟨i, List.mem_filter.2 ⟨List.mem_range.2 (h2 ▸ hi), by rw [hb]; rfl⟩, Nat.beq_refl i⟩
      rw [this]; simp
theorem Qy {K : List Nat} {N m : Nat} (hK : KeyOk S K) (hs : SeesD dfs a n e) (hS : S (bA N m) w) (i : Nat) {dst : Option Tmp} {t ty : TypeId} {x : Operand} {pos : String} {af : Array Edge} {gd : Option (Nat × Bool)} (hi : ops[i]? = some ⟨dst, .load t x, ty, pos, af, gd⟩)
    {q : Addr} {cs : List Value} (hat : ∀ l' w, Unl ops i l' → S l' w → At w q cs) (j : Nat)
    (next : ∀ a', SeesD dfs a' n (putO dst (ldU P t cs j) e) → S (bA N (sb m i)) w → DG P ops J S fuel (bA N (sb m i)) a' w)
    (h : (dOkM ops K N m i ⟨dst, .load t x, ty, pos, af, gd⟩ && (okE ops n e ⟨dst, .load t x, ty, pos, af, gd⟩ && (ldv P t cs j).isSome), ev e x) = (true, .pointer (some (q.add j))) := by kernel_rfl) : DG P ops J S (fuel + 1) (bA N m) a w := by
  obtain ⟨h1, h2⟩ := Prod.mk.inj h
  obtain ⟨h0, h1⟩ := Ql9 h1
  refine Qnv hK hs hS i hi hat j (fun a' hs' hS' => ?_) (by rw [QjN hi h0, h1, h2]; rfl)
  rw [QjQ] at hS' ⊢
  exact next a' hs' hS'
theorem QF {N m : Nat} (rs : List Nat) (h : ∀ i ∈ rs, wpOp P ops (NQ J) i (fun a' w' => S (bA N (sb m i)) w' ∧ DG P ops J S fuel (bA N (sb m i)) a' w') a w) (hr : (Region.ready .any ops (bA N m), rs.isEmpty) = (rs, false) := by kernel_rfl) : DG P ops J S (fuel + 1) (bA N m) a w :=
  Qnw rs (fun i hi => by rw [QjQ]; exact h i hi) hr
theorem Qgn {N m i : Nat} (hS : S ((bA N m).setIfInBounds i true) w) (next : S (bA N (sb m i)) w → DG P ops J S fuel (bA N (sb m i)) a w) : DG P ops J S fuel ((bA N m).setIfInBounds i true) a w := by
  rw [QjQ] at hS ⊢; exact next hS
theorem Qo {id N : Nat} (hm : (P.follows .mixedOrders && noDefers ops) = true) (hN : ops.size = N) (S : Array Bool → World → Prop) (J : Act → World → Prop) (h : DG P ops J S N (bA N 0) a w.drew) (hJ : ∀ a w, J a w → Q .normal a w) : (Code.region id ops true).wpIn (FR ro) 0 P Q a w :=
  QmX hm hN S J (by rw [Qmt]; exact h) hJ
theorem SeesD.bB (h : SeesD dfs a n e) (t : Nat) {c v : Bool} (hc : c = v) (b b' : Bool) (he : c = v → b = b' := by first | (intro h; rw [h] <;> rfl) | (simp +contextual)) (hl : lk e t = some (.bool b) := by kernel_rfl) : SeesD dfs a n (setE t (.bool b') e) := h.altB t b' hl (he hc)
end Go.Proofs.YteiinkhbgpldeaaGreatDoor.Sx
