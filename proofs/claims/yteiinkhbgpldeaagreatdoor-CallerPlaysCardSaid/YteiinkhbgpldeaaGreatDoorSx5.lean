/- Branches, joins, and regions whose order is drawn. Conditions: those ahead of each colon. -/
import Derived.Test.YteiinkhbgpldeaaGreatDoorSx4
import Derived.Laws.StructEq
import Derived.OrdersIn
set_option linter.unusedSimpArgs false
set_option linter.unusedVariables false
namespace Go.Proofs.YteiinkhbgpldeaaGreatDoor.Sx
open Go
variable {P : Program} {ops : Array Oper} {Q : Exit → Act → World → Prop} {n : Nat} {g w : World} {L : List Ch} {ih : IH} {a : Act} {e : Env} {rest : List Oper} {dfs : List Deferred} {ro : Option Nat}
theorem bindE {α β : Type} {x : Option α} {f : α → Option β} {r : β} (h : x.bind f = some r) : ∃ y, x = some y ∧ f y = some r := by
  cases x with
  | none => cases h
  | some y => exact ⟨y, rfl, h⟩
theorem iteE {α : Type} {c : Prop} [Decidable c] {x y : Option α} {r : α} (h : (if c then x else y) = some r) : (c ∧ x = some r) ∨ (¬ c ∧ y = some r) := by
  by_cases hc : c
  · rw [if_pos hc] at h; exact .inl ⟨hc, h⟩
  · rw [if_neg hc] at h; exact .inr ⟨hc, h⟩
theorem ifbE {α : Type} {b : Bool} {x y : Option α} {r : α} (h : (if b = true then x else y) = some r) : (b = true ∧ x = some r) ∨ (b = false ∧ y = some r) := by
  rcases iteE h with h | ⟨h1, h2⟩
  · exact .inl h
  · exact .inr ⟨by simpa using h1, h2⟩
theorem someE {α : Type} {x y : α} (h : some x = some y) : x = y := Option.some.inj h
theorem boolE (b : Bool) : b = true ∨ b = false := by cases b <;> simp
def pickE (e : Env) : List Nat → Option Env
  | [] => some []
  | k :: ks => match lk e k, pickE e ks with | some v, some r => some ((k, v) :: r) | _, _ => none
theorem Qkb {e : Env} : ∀ {ks : List Nat} {e' : Env}, pickE e ks = some e' → ∀ t v, lk e' t = some v → lk e t = some v
  | [], e', h, t, v, hv => by simp only [pickE, Option.some.injEq] at h; subst h; cases hv
  | k :: ks, e', h, t, v, hv => by
    simp only [pickE] at h
    cases h1 : lk e k with
    | none => rw [h1] at h; simp at h
    | some u =>
      cases h2 : pickE e ks with
      | none => rw [h1, h2] at h; simp at h
      | some r =>
        rw [h1, h2] at h; simp only [Option.some.injEq] at h; subst h
        simp only [lk] at hv
        cases hb : Nat.beq k t with
        | true => rw [hb] at hv; simp only [cond_true, Option.some.injEq] at hv; rw [← Nat.eq_of_beq_eq_true hb, h1, hv]
        | false => rw [hb] at hv; exact Qkb h2 t v hv
theorem SeesD.cast (h : SeesD dfs a n e) (ks : List Nat) {e' : Env} (he : pickE e ks = some e') : SeesD dfs a n e' := ⟨h.sz, h.df, fun t v hv => h.at_ t v (Qkb he t v hv)⟩
def setE (t : Nat) (v : Value) : Env → Env
  | [] => []
  | (k, x) :: e => bif Nat.beq k t then (k, v) :: e else (k, x) :: setE t v e
theorem Qjy {t : Nat} {v : Value} : ∀ {e : Env}, lk e t = some v → setE t v e = e
  | [], h => by cases h
  | (k, x) :: e, h => by
    simp only [lk] at h
    simp only [setE]
    cases hb : Nat.beq k t with
    | true => rw [hb] at h; simp only [cond_true, Option.some.injEq] at h ⊢; rw [h]
    | false => rw [hb] at h; simp only [cond_false] at h ⊢; rw [Qjy h]
theorem SeesD.alt (h : SeesD dfs a n e) (t : Nat) {v v' : Value} (hl : lk e t = some v) (hv : v = v') : SeesD dfs a n (setE t v' e) := by
  subst hv; rw [Qjy hl]; exact h
theorem SeesD.altB (h : SeesD dfs a n e) (t : Nat) {b : Bool} (b' : Bool) (hl : lk e t = some (.bool b)) (hb : b = b') : SeesD dfs a n (setE t (.bool b') e) := h.alt t hl (by rw [hb])
theorem St.re (h : St g w L ih) {L' : List Ch} (e : L.flatten = L'.flatten) : St g w L' ih :=
  ⟨h.os, h.tape, h.output, h.im, fun p hp => h.own p (e ▸ hp), fun p hp => h.dis p (e ▸ hp), e ▸ h.nd⟩
theorem St.pack (h : St g w L ih) (m : Nat) : St g w (L.take m ++ [(L.drop m).flatten]) ih := h.re (by
  rw [List.flatten_append, List.flatten_cons, List.flatten_nil, List.append_nil, ← List.flatten_append, List.take_append_drop])
theorem St.unpack (h : St g w L ih) (m : Nat) {B : List Ch} (e : L.drop m = [B.flatten]) : St g w (L.take m ++ B) ih := h.re (by
  conv => lhs; rw [← List.take_append_drop m L, e]
  rw [List.flatten_append, List.flatten_append, List.flatten_cons, List.flatten_nil, List.append_nil])
theorem Vw.anti {c : Ch} {ih' : IH} (h : Vw w c ih') (hle : Le ih ih') : Vw w c ih := ⟨fun b o hb => h.im b o (hle b o hb), h.own⟩
theorem Vw.sub {c c' : Ch} (h : Vw w c ih) (hs : ∀ p ∈ c', p ∈ c) : Vw w c' ih := ⟨h.im, fun p hp => h.own p (hs p hp)⟩
theorem Vw.nil {c : Ch} (h : Vw w c ih) : Vw w [] ih := ⟨h.im, fun p hp => by cases hp⟩
theorem At.drop {q : Addr} {cs : List Value} (h : At w q cs) (i : Nat) : At w (q.add i) (cs.drop i) := fun j v hj => by
  rw [Qjs]; rw [List.getElem?_drop] at hj; exact h _ _ hj
theorem QaG {x y : Code} (J : Act → World → Prop) (h : x.wpIn (FR ro) 0 P (Exit.then J Q) a w) (hJ : ∀ a w, J a w → y.wpIn (FR ro) 0 P Q a w) : (Code.seq x y).wpIn (FR ro) 0 P Q a w :=
  wpIn_seq (wpIn_mono h fun e a w q => by cases e <;> first | exact hJ _ _ q | exact q)
def ExJ (id : Nat) (J : Act → World → Prop) (Q : Exit → Act → World → Prop) : Exit → Act → World → Prop
  | .exit j, a, w => if j = id then J a w else Q (.exit j) a w
  | e, a, w => Q e a w
theorem Qau {c : Code} (id : Nat) (J : Act → World → Prop) (h : c.wpIn (FR ro) 0 P (ExJ id J Q) a w) (hJ : ∀ a w, J a w → Q (.exit id) a w) : c.wpIn (FR ro) 0 P Q a w :=
  wpIn_mono h fun e a w q => by
    cases e <;> first | exact q | skip
    rename_i j
    have q' : if j = id then J a w else Q (.exit j) a w := q
    by_cases he : j = id
    · subst he; rw [if_pos rfl] at q'; exact hJ _ _ q'
    · rw [if_neg he] at q'; exact q'
theorem Qn {id : Nat} {l : List Oper} (J : Act → World → Prop) (h : wpList P l.toArray (Exit.then J Q) l a w) (hJ : ∀ a w, J a w → Q .normal a w) : (Code.region id l.toArray false).wpIn (FR ro) 0 P Q a w :=
  wpIn_mono (wpIn_region_lit (Qjd _ _ _ h)) fun e a w q => by cases e <;> first | exact hJ _ _ q | exact q
def waits (ops : Array Oper) (k i : Nat) : Bool := match ops[k]? with | some o => o.after.toList.any (fun e => Region.binds .any e && e.on == i) | none => false
def Unl (ops : Array Oper) (i : Nat) (l : Array Bool) : Prop := ∀ k, waits ops k i = true → l.getD k true = false
def unlB (ops : Array Oper) (i : Nat) (l : Array Bool) : Bool := (List.range ops.size).all fun k => !waits ops k i || !l.getD k true
theorem QkR {ops : Array Oper} {i : Nat} {l : Array Bool} (h : unlB ops i l = true) : Unl ops i l := fun k hk => by
  have hlt : k < ops.size := by
    unfold waits at hk
    cases ho : ops[k]? with
    | none => rw [ho] at hk; cases hk
    | some o => exact (Array.getElem?_eq_some_iff.1 ho).1
  unfold unlB at h
  have := List.all_eq_true.1 h k (List.mem_range.2 hlt)
  rw [hk] at this
  simpa using this
def NQ (J : Act → World → Prop) : Exit → Act → World → Prop
  | .normal, a, w => J a w
  | _, _, _ => False
def DG (P : Program) (ops : Array Oper) (J : Act → World → Prop) (S : Array Bool → World → Prop) : Nat → Array Bool → Act → World → Prop
  | 0, l, a, w => Region.ready .any ops l = [] ∧ J a w
  | fuel + 1, l, a, w => (Region.ready .any ops l = [] → J a w) ∧ ∀ i ∈ Region.ready .any ops l, wpOp P ops (NQ J) i (fun a' w' => S (l.setIfInBounds i true) w' ∧ DG P ops J S fuel (l.setIfInBounds i true) a' w') a w
def noDefers (ops : Array Oper) : Bool := ops.toList.all fun o => noSel o.op
theorem opT {o : Oper} {J : Act → World → Prop} {next next' : Act → World → Prop} (hn : ∀ a w, next a w → next' a w) (hd : ∀ c, o.op ≠ .defer c) (h : o.wp P a w next (NQ J) ∨ (o.asks P a w ∧ LetsOut (NQ J))) : o.wpIn (FR ro) 0 P a w next' (NQ J) := by
  rcases h with h | ⟨_, a, w, hq⟩
  · unfold Oper.wpIn
    refine ⟨fun f _ => QkJ ro f, ?_⟩
    rw [Oper.semAt_eq _ _ _ hd]
    unfold Oper.wp at h
    generalize (execOp a.eval o).run P w = r at *
    have hdp : (FR ro).depth.isSome = true → 1 ≤ 0 := by rw [Qkn]; intro h; cases h
    cases r with
    | ok nx w' =>
      cases nx <;> simp only [Oper.upon] at h <;> simp only [Oper.uponIn]
      case value v => exact hn _ _ h
      case skip => exact hn _ _ h
      case defer d => exact hn _ _ h
      case enter f args =>
        refine ⟨hdp, Qko (callsIn_wide.2 (Calls.mono h fun e w'' he => ?_))⟩
        cases e with
        | returned u => exact hn _ _ he
        | panicked c => exact he
        | outgrown => exact he
      case row row args => exact ⟨hdp, QlB fun c cs _ => let ⟨v, w', r, s⟩ := Rows.mono h (fun u w'' he => hn _ _ he) c cs; ⟨v, w', r, stepsIn_wide.2 s⟩⟩
    | halt x w' =>
      cases x <;> simp only [Oper.upon] at h <;> simp only [Oper.uponIn] <;> exact h
  · exact (hq : False).elim
theorem DG.any {S : Array Bool → World → Prop} {J : Act → World → Prop} (hnd : noDefers ops = true) : ∀ (fuel : Nat) (l : Array Bool) (a : Act) (w : World), DG P ops J S fuel l a w → wpAnyIn (FR ro) 0 P .any ops (NQ J) fuel l a w
  | 0, _, _, _, h => h
  | fuel + 1, l, a, w, h => ⟨h.1, fun i hi => by
    have h2 := h.2 i hi
    unfold wpOp at h2
    unfold wpOpIn
    cases ho : ops[i]? with
    | none => rw [ho] at h2; exact DG.any hnd fuel _ _ _ h2.2
    | some o =>
      rw [ho] at h2
      simp only at h2 ⊢
      have hd : ∀ c, o.op ≠ .defer c := Qh6 (List.all_eq_true.1 hnd o (Array.mem_toList_iff.2 (Array.mem_of_getElem? ho)))
      split at h2
      · rename_i hw
        rw [if_pos hw]
        exact opT (fun a w h' => DG.any hnd fuel _ a w h'.2) hd h2
      · rename_i hw
        rw [if_neg hw]
        exact ⟨fun f _ => QkJ ro f, DG.any hnd fuel _ _ _ h2.2⟩⟩
theorem QmX {id N : Nat} (hm : (P.follows .mixedOrders && noDefers ops) = true) (hN : ops.size = N) (S : Array Bool → World → Prop) (J : Act → World → Prop) (h : DG P ops J S N (Array.replicate N false) a w.drew) (hJ : ∀ a w, J a w → Q .normal a w) : (Code.region id ops true).wpIn (FR ro) 0 P Q a w := by
  subst hN
  rw [Bool.and_eq_true] at hm
  exact wpIn_mono (wpIn_region_any hm.1 (DG.any hm.2 _ _ _ _ h)) fun e a w q => by cases e <;> first | exact hJ _ _ q | exact (q : False).elim
variable {J : Act → World → Prop} {S : Array Bool → World → Prop} {fuel : Nat} {l : Array Bool}
def KeyOk (S : Array Bool → World → Prop) (K : List Nat) : Prop := ∀ i l w, K.contains i = false → (S (l.setIfInBounds i true) w ↔ S l w)
def dOk (ops : Array Oper) (K : List Nat) (l : Array Bool) (i : Nat) : Bool := Region.noSelect ops && Region.free .any ops l i && (Region.ready .any ops l).contains i && unlB ops i l && !K.contains i
theorem Qmn {i : Nat} {oi : Oper} {v : Value} {K : List Nat} (hK : KeyOk S K) (hKi : K.contains i = false) {T : World → Prop} (hT : ∀ l' w, Unl ops i l' → S l' w → T w) (hi : ops[i]? = some oi) (hsel : ∀ (j : Nat) (o : Oper) cs b, ops[j]? = some o → o.op ≠ .select cs b) :
    ∀ (fuel : Nat) (l : Array Bool) (a : Act) (w : World),
      (∀ j oj, ops[j]? = some oj → j ≠ i → l.getD j true = false → (∀ e ∈ oj.after, Region.binds .any e = true → e.on ≠ i) → oi.apart ops oj = true) →
      i ∈ Region.ready .any ops l → Unl ops i l → YieldsIf P ops T oi v a → S l w →
      DG P ops J S fuel (l.setIfInBounds i true) (a.put oi.dst v) w → DG P ops J S (fuel + 1) l a w := by
  intro fuel
  have mine : ∀ (fuel : Nat) (l : Array Bool) (a : Act) (w : World), Unl ops i l → YieldsIf P ops T oi v a → S l w → DG P ops J S fuel (l.setIfInBounds i true) (a.put oi.dst v) w →
      wpOp P ops (NQ J) i (fun a' w' => S (l.setIfInBounds i true) w' ∧ DG P ops J S fuel (l.setIfInBounds i true) a' w') a w := fun fuel l a w hu hy hS H =>
    hy.wpOp hi (hT l w hu hS) ⟨(hK i l w hKi).2 hS, H⟩
  induction fuel with
  | zero =>
    intro l a w hfree hr hu hy hS H
    refine ⟨fun h => (by rw [h] at hr; cases hr), fun j hj => ?_⟩
    by_cases hji : j = i
    · subst hji; exact mine _ l a w hu hy hS H
    · have := ready_mono hj hji
      rw [H.1] at this
      cases this
  | succ fuel ihf =>
    intro l a w hfree hr hu hy hS H
    refine ⟨fun h => (by rw [h] at hr; cases hr), fun j hj => ?_⟩
    by_cases hji : j = i
    · subst hji; exact mine _ l a w hu hy hS H
    · have h1 := H.2 j (ready_mono hj hji)
      obtain ⟨hjun, oj, hoj, hall⟩ := mem_ready.1 hj
      have hnot : ∀ e ∈ oj.after, Region.binds .any e = true → e.on ≠ i := fun e he hb heq => by
        have h1 := hall e he hb
        have h0 := (mem_ready.1 hr).1
        rw [heq] at h1
        rcases Nat.lt_or_ge i l.size with h' | h'
        · simp [h'] at h0 h1; rw [h0] at h1; cases h1
        · simp [Array.getElem?_eq_none h'] at h1
      have h2 := wpOp_putIf hoj (hfree j oj hoj hji hjun hnot) (fun cs b => hsel i oi cs b hi) (fun cs b => hsel j oj cs b hoj) (fun _ _ _ q => (q : False).elim) hy h1
      have hfree' : ∀ k ok, ops[k]? = some ok → k ≠ i → (l.setIfInBounds j true).getD k true = false →
          (∀ e ∈ ok.after, Region.binds .any e = true → e.on ≠ i) → oi.apart ops ok = true := fun k ok hk hki hun hno => by
        refine hfree k ok hk hki ?_ hno
        by_cases hjk : j = k
        · subst hjk; exact hjun
        · rw [getD_set_ne true hjk] at hun; exact hun
      have hu' : Unl ops i (l.setIfInBounds j true) := fun k hk => by
        by_cases hjk : j = k
        · subst hjk
          exfalso
          unfold waits at hk
          rw [hoj] at hk
          simp only [List.any_eq_true, Bool.and_eq_true, beq_iff_eq] at hk
          obtain ⟨e, he, hb, hon⟩ := hk
          exact hnot e (Array.mem_toList_iff.1 he) hb hon
        · rw [getD_set_ne true hjk]; exact hu k hk
      refine wpOp_mono (fun a' w' h3 => ?_) h2
      have hS3 : S (l.setIfInBounds j true) w' := by
        have := h3.2.1
        rw [Array.setIfInBounds_comm _ _ (Ne.symm hji)] at this
        exact (hK i _ w' hKi).1 this
      refine ⟨hS3, ihf (l.setIfInBounds j true) a' w' hfree' (ready_mono hr (Ne.symm hji)) hu' h3.1 hS3 ?_⟩
      rw [Array.setIfInBounds_comm _ _ hji]
      exact h3.2.2
theorem Qlo {v : Value} {K : List Nat} (hK : KeyOk S K) (i : Nat) {oi : Oper} (hi : ops[i]? = some oi) (hb : dOk ops K l i = true) {T : World → Prop} (hT : ∀ l' w, Unl ops i l' → S l' w → T w) (hS : S l w) (hy : YieldsIf P ops T oi v a)
    (h : S (l.setIfInBounds i true) w → DG P ops J S fuel (l.setIfInBounds i true) (a.put oi.dst v) w) : DG P ops J S (fuel + 1) l a w := by
  unfold dOk at hb
  simp only [Bool.and_eq_true, Bool.not_eq_true'] at hb
  obtain ⟨⟨⟨⟨h1, h2⟩, h3⟩, h4⟩, h5⟩ := hb
  exact Qmn hK h5 hT hi (Region.noSelect_spec h1) fuel l a w (Region.free_spec hi h2) (by simpa using h3) (QkR h4) hy hS (h ((hK i l w h5).2 hS))
def runsD (P : Program) (ops : Array Oper) (K : List Nat) (n : Nat) : List Nat → Array Bool → Env → Option Env
  | [], _, e => some e
  | i :: is, l, e =>
    match ops[i]? with
    | none => none
    | some o =>
      bif dOk ops K l i then
        match wantedE ops e o with
        | some true =>
          match (bif inB n o.dst && noSel o.op && knownE e o.op.operands.toList then det P (execOp (ev e) o) else none) with
          | some (.value v) => runsD P ops K n is (l.setIfInBounds i true) (putO o.dst v e)
          | _ => none
        | some false => bif inB n o.dst then runsD P ops K n is (l.setIfInBounds i true) (putO o.dst undef e) else none
        | none => none
      else none
theorem Qha {w : World} {K : List Nat} (hK : KeyOk S K) : ∀ (is : List Nat) (l : Array Bool) (e e' : Env) (a : Act), S l w → SeesD dfs a n e → runsD P ops K n is l e = some e' →
    (∀ a', SeesD dfs a' n e' → S (is.foldl (fun l i => l.setIfInBounds i true) l) w → DG P ops J S fuel (is.foldl (fun l i => l.setIfInBounds i true) l) a' w) → DG P ops J S (fuel + is.length) l a w
  | [], l, e, e', a, hS, hs, h, next => by simp only [runsD, Option.some.injEq] at h; subst h; exact next a hs hS
  | i :: is, l, e, e', a, hS, hs, h, next => by
    simp only [runsD] at h
    cases ho : ops[i]? with
    | none => rw [ho] at h; cases h
    | some o =>
      rw [ho] at h; simp only at h
      cases hd : dOk ops K l i with
      | false => rw [hd] at h; cases h
      | true =>
        rw [hd] at h; simp only [cond_true] at h
        cases hw : wantedE ops e o with
        | none => rw [hw] at h; cases h
        | some b =>
          rw [hw] at h
          have hwd := hs.wanted hw
          cases b with
          | false =>
            simp only at h
            cases hb : inB n o.dst with
            | false => rw [hb] at h; cases h
            | true =>
              rw [hb] at h; simp only [cond_true] at h
              exact Qlo hK i ho hd (T := fun _ => True) (fun _ _ _ _ => trivial) hS (.inr ⟨hwd, rfl⟩) fun hS => Qha hK is _ _ e' _ hS (hs.putO hb) h next
          | true =>
            simp only at h
            cases hb : (inB n o.dst && noSel o.op && knownE e o.op.operands.toList) with
            | false => rw [hb] at h; cases h
            | true =>
              rw [hb] at h; simp only [cond_true] at h
              simp only [Bool.and_eq_true] at hb
              obtain ⟨⟨hb, hn⟩, hk⟩ := hb
              cases hdd : det P (execOp (ev e) o) with
              | none => rw [hdd] at h; cases h
              | some nx =>
                rw [hdd] at h
                cases nx <;> simp only at h <;> try (cases h; done)
                exact Qlo hK i ho hd (T := fun _ => True) (fun _ _ _ _ => trivial) hS (.inl ⟨hwd, fun w' _ => by rw [hs.exec o hk hn]; exact Qae hdd w'⟩) fun hS => Qha hK is _ _ e' _ hS (hs.putO hb) h next
theorem QgJ {K : List Nat} (hK : KeyOk S K) (hs : SeesD dfs a n e) (hS : S l w) (i : Nat) {o : Oper} (hi : ops[i]? = some o) (hb : dOk ops K l i = true) {T : World → Prop} (hT : ∀ l' w, Unl ops i l' → S l' w → T w) (hok : okE ops n e o = true) {v : Value} (hr : ∀ w, T w → (execOp (ev e) o).run P w = .ok (.value v) w)
    (next : ∀ a', SeesD dfs a' n (putO o.dst v e) → S (l.setIfInBounds i true) w → DG P ops J S fuel (l.setIfInBounds i true) a' w) : DG P ops J S (fuel + 1) l a w := by
  obtain ⟨h1, h2, h3⟩ := QfR hok hs
  exact Qlo hK i hi hb hT hS (.inl ⟨h1, fun w hw => by rw [h3]; exact hr w hw⟩) (next _ (hs.putO h2))
theorem noT {i : Nat} : ∀ l' w, Unl ops i l' → S l' w → True := fun _ _ _ _ => trivial
theorem QmW {K : List Nat} (hK : KeyOk S K) (hs : SeesD dfs a n e) (hS : S l w) (i : Nat) {dst : Option Tmp} {t ty : TypeId} {x : Operand} {pos : String} {af : Array Edge} {gd : Option (Nat × Bool)} (hi : ops[i]? = some ⟨dst, .load t x, ty, pos, af, gd⟩) (hb : dOk ops K l i = true)
    {q : Addr} {cs : List Value} (hat : ∀ l' w, Unl ops i l' → S l' w → At w q cs) (j : Nat) (hok : okE ops n e ⟨dst, .load t x, ty, pos, af, gd⟩ = true) (hx : ev e x = .pointer (some (q.add j))) {v : Value} (hv : ldv P t cs j = some v)
    (next : ∀ a', SeesD dfs a' n (putO dst v e) → S (l.setIfInBounds i true) w → DG P ops J S fuel (l.setIfInBounds i true) a' w) : DG P ops J S (fuel + 1) l a w :=
  QgJ hK hs hS i hi hb hat hok (fun w hw => by
    simp only [execOp, Instr.loadAt]
    refine runv ?_
    rw [hx, run_bind (s := Instr.sureAddr _) (a := q.add j) (w' := w) rfl]
    exact QjB hw hv) next
theorem Qay {K : List Nat} (hK : KeyOk S K) (hs : SeesD dfs a n e) (hS : S l w) (i : Nat) {dst : Option Tmp} {t ty : TypeId} {x y : Operand} {pos : String} {af : Array Edge} {gd : Option (Nat × Bool)} (hi : ops[i]? = some ⟨dst, .indexAddr t x y, ty, pos, af, gd⟩) (hb : dOk ops K l i = true)
    {E : ET} {c : Ch} {p : Option Addr} {cap : Nat} {xs : List E.α} (hr : RSl E ih c p cap xs)
    (hok : okE ops n e ⟨dst, .indexAddr t x y, ty, pos, af, gd⟩ = true) (hx : ev e x = .slice p xs.length cap) {k : IntKind} {j : Int} (hy : ev e y = .int k j) (el : TypeId) (ht : det P (underlying t) = some (.slice el)) (hsz : det P (sizeOf el) = some E.sz)
    {z : E.α} (hz : ix xs j = some z)
    (next : ∀ a' r cs, E.enc ih z cs → (∀ w, Vw w c ih → At w r cs) → SeesD dfs a' n (putO dst (.pointer (some r)) e) → S (l.setIfInBounds i true) w → DG P ops J S fuel (l.setIfInBounds i true) a' w) : DG P ops J S (fuel + 1) l a w := by
  obtain ⟨h0, h1, h2⟩ := Qkx hz
  obtain ⟨q, hp, cs, he, hat⟩ := hr.el h2
  exact QgJ hK hs hS i hi hb noT hok (fun w hw => by
    simp only [execOp]
    refine runv ?_
    rw [hx, hy]
    exact Qid ht hsz hp h0 h1) fun a' ha' => next a' _ cs he hat ha'
theorem Qng {rs : List Nat} (hr : Region.ready .any ops l = rs) (hne : rs ≠ []) (h : ∀ i ∈ rs, wpOp P ops (NQ J) i (fun a' w' => S (l.setIfInBounds i true) w' ∧ DG P ops J S fuel (l.setIfInBounds i true) a' w') a w) : DG P ops J S (fuel + 1) l a w := ⟨fun h0 => absurd (hr ▸ h0) hne, hr ▸ h⟩
theorem Ql7 (hr : Region.ready .any ops l = []) (h : J a w) : DG P ops J S fuel l a w := by
  cases fuel with
  | zero => exact ⟨hr, h⟩
  | succ f => exact ⟨fun _ => h, by rw [hr]; intro i hi; cases hi⟩
def liveX (X : List (List Nat × Ch)) (l : Array Bool) : List Ch := X.filterMap fun x => bif x.1.any (fun k => l.getD k true) then none else some x.2
theorem mkSX {X : List (List Nat × Ch)} {ih : IH} {K : List Nat} (hK : (X.flatMap (·.1)) = K) : ∃ S : Array Bool → World → Prop, (∀ l w, S l w ↔ Vw w (liveX X l).flatten ih) ∧ KeyOk S K := by
  refine ⟨fun l w => Vw w (liveX X l).flatten ih, fun _ _ => Iff.rfl, fun i l w hi => ?_⟩
  have : liveX X (l.setIfInBounds i true) = liveX X l := by
    subst hK
    unfold liveX
    induction X with
    | nil => rfl
    | cons x X ihX =>
      simp only [List.flatMap_cons, List.contains_eq_mem, List.mem_append, decide_eq_false_iff_not, not_or] at hi
      have e1 : (x.1.any fun k => (l.setIfInBounds i true).getD k true) = x.1.any fun k => l.getD k true := by
        have h1 := hi.1
        generalize x.1 = ks at h1
        induction ks with
        | nil => rfl
        | cons k ks ihk =>
          simp only [List.mem_cons, not_or] at h1
          rw [List.any_cons, List.any_cons, ihk h1.2, getD_set_ne true h1.1]
      rw [List.filterMap_cons, List.filterMap_cons, e1, ihX (by simp only [List.contains_eq_mem, decide_eq_false_iff_not]; exact hi.2)]
  show Vw w (liveX X _).flatten ih ↔ Vw w (liveX X _).flatten ih
  rw [this]
theorem Vw.part {w : World} {A B : Ch} {ih : IH} (h : Vw w A ih) (hs : ∀ q ∈ B, q ∈ A) : Vw w B ih := ⟨h.im, fun p hp => h.own p (hs p hp)⟩
theorem Qfi {X : List (List Nat × Ch)} {ih : IH} (hD : ∀ l w, S l w ↔ Vw w (liveX X l).flatten ih) (j : Nat) {ks : List Nat} {c : Ch} (hj : X[j]? = some (ks, c)) {i : Nat} (hk : (ks.all fun k => waits ops k i) = true) : ∀ l' w, Unl ops i l' → S l' w → Vw w c ih := by
  intro l' w hu hS
  refine ((hD l' w).1 hS).part fun q hq => List.mem_flatten.2 ⟨c, ?_, hq⟩
  refine List.mem_filterMap.2 ⟨(ks, c), List.mem_of_getElem? hj, ?_⟩
  have : (ks.any fun k => l'.getD k true) = false := by
    rw [List.any_eq_false]
    intro k hkm
    rw [hu k (List.all_eq_true.1 hk k hkm)]
    decide
  simp only [this, cond_false]
theorem Qi8 {X : List (List Nat × Ch)} {ih : IH} (hD : ∀ l w, S l w ↔ Vw w (liveX X l).flatten ih) {i : Nat} : ∀ l' w, Unl ops i l' → S l' w → Vw w [] ih :=
  fun l' w _ hS => ⟨((hD l' w).1 hS).im, fun p hp => by cases hp⟩
theorem Qm0 {X : List (List Nat × Ch)} {ih : IH} (hD : ∀ l w, S l w ↔ Vw w (liveX X l).flatten ih) (j : Nat) {ks : List Nat} {b : Nat} {cs : List Value} {t : TypeId} (hj : X[j]? = some (ks, bx b cs t)) {i : Nat} (hk : (ks.all fun k => waits ops k i) = true) : ∀ l' w, Unl ops i l' → S l' w → At w ⟨b, 0, none⟩ cs :=
  fun l' w hu hS => (Qfi hD j hj hk l' w hu hS).at_ (.inr (List.mem_singleton.2 rfl)) fun j v hj => by rw [Nat.zero_add]; simpa using hj
theorem Qlz {X : List (List Nat × Ch)} {ih : IH} (hD : ∀ l w, S l w ↔ Vw w (liveX X l).flatten ih) {w : World} {A : List Ch} (h : Vw w A.flatten ih) (he : liveX X l = A) : S l w := (hD l w).2 (by rw [he]; exact h)
theorem QlM (hs : SeesD dfs a n e) {i : Nat} {o : Oper} (hi : ops[i]? = some o) (hok : okE ops n e o = true) {v : Value} {w' : World} {K : Act → World → Prop} {Q : Exit → Act → World → Prop} (hr : (execOp (ev e) o).run P w = .ok (.value v) w')
    (next : ∀ a', SeesD dfs a' n (putO o.dst v e) → K a' w') : wpOp P ops Q i K a w := by
  obtain ⟨h1, h2, h3⟩ := QfR hok hs
  unfold wpOp
  rw [hi]; simp only
  rw [if_pos h1]
  refine .inl ?_
  unfold Oper.wp
  rw [h3, hr]
  exact next _ (hs.putO h2)
theorem Ql4 (hs : SeesD dfs a n e) {i : Nat} {o : Oper} (hi : ops[i]? = some o) (hok : okE ops n e o = true) {w' : World} {K : Act → World → Prop} {Q : Exit → Act → World → Prop} (hr : (execOp (ev e) o).run P w = .ok .skip w')
    (next : ∀ a', SeesD dfs a' n (putO o.dst undef e) → K a' w') : wpOp P ops Q i K a w := by
  obtain ⟨h1, h2, h3⟩ := QfR hok hs
  unfold wpOp
  rw [hi]; simp only
  rw [if_pos h1]
  refine .inl ?_
  unfold Oper.wp
  rw [h3, hr]
  exact next _ (hs.putO h2)
theorem QmM (hs : SeesD dfs a n e) {i : Nat} {o : Oper} (hi : ops[i]? = some o) (hok : okE ops n e o = true) {K : Act → World → Prop} {Q : Exit → Act → World → Prop} {f : FuncId} {args : Array Value} {R : Value → World → Prop} (hd : det P (execOp (ev e) o) = some (.enter f args)) (hc : CallsR P f args w R)
    (next : ∀ a' w' v, R v w' → SeesD dfs a' n (putO o.dst v e) → K a' w') : wpOp P ops Q i K a w := by
  obtain ⟨h1, h2, h3⟩ := QfR hok hs
  unfold wpOp
  rw [hi]; simp only
  rw [if_pos h1]
  refine .inl ?_
  unfold Oper.wp
  rw [h3, Qae hd w]
  refine Calls.mono hc fun e' w' he => ?_
  cases e' with
  | returned v => exact next _ w' v he (hs.putO h2)
  | panicked c => exact he.elim
  | outgrown => exact he.elim
theorem Qnf (hs : SeesD dfs a n e) {i : Nat} {o : Oper} (hi : ops[i]? = some o) (hw : St g w L ih) (cs : List Value) (t : TypeId) (v : Nat → Value) (hok : okE ops n e o = true)
    (hd : ∀ b, detN P b (execOp (ev e) o) = some (.cells cs.toArray t (0, 0), .value (v b))) {K : Act → World → Prop} {Q : Exit → Act → World → Prop}
    (next : ∀ a' w' b, SeesD dfs a' n (putO o.dst (v b) e) → St g w' (bx b cs t :: L) ih → K a' w') : wpOp P ops Q i K a w :=
  QlM hs hi hok (Qh7 (hd w.heap.size)) fun a' ha' => next a' _ _ ha' (hw.new _)
theorem Qk0 (hw : St g w L ih) {t ty : TypeId} {x y : Operand} {dst : Option Tmp} {pos : String} {af : Array Edge} {gd : Option (Nat × Bool)} (i : Nat) {b : Nat} {cs : List Value} {T : TypeId} (hi : L[i]? = some (bx b cs T)) (j : Nat) {v : Value}
    (hx : ev e x = .pointer (some ⟨b, j, none⟩)) (hy : ev e y = v) (hz : det P (sizeOf t) = some v.cells.size) (hj : Nat.ble (j + v.cells.size) cs.length = true) (hp : plainAll v.cells.toList = true) :
    ∃ w', (execOp (ev e) ⟨dst, .store t x y, ty, pos, af, gd⟩).run P w = .ok .skip w' ∧ St g w' (L.set i (bx b (splice cs j v.cells.toList) T)) ih := by
  obtain ⟨w', hr, hw'⟩ := Ql1 (P := P) hw i hi hz hj hp
  refine ⟨w', ?_, hw'⟩
  simp only [execOp, Instr.storeAt]
  refine runu ?_
  rw [hx, hy, run_bind (s := Instr.sureAddr _) (a := ⟨b, j, none⟩) (w' := w) rfl]
  exact hr
theorem Qmg (hs : SeesD dfs a n e) (hw : St g w L ih) {k : Nat} {t ty : TypeId} {x y : Operand} {pos : String} {af : Array Edge} {gd : Option (Nat × Bool)} (hi : ops[k]? = some ⟨none, .store t x y, ty, pos, af, gd⟩) (i : Nat) {b : Nat} {cs : List Value} {T : TypeId} (hL : L[i]? = some (bx b cs T)) (j : Nat) {v : Value}
    (hok : okE ops n e ⟨none, .store t x y, ty, pos, af, gd⟩ = true) (hx : ev e x = .pointer (some ⟨b, j, none⟩)) (hy : ev e y = v) (hz : det P (sizeOf t) = some v.cells.size) (hj : Nat.ble (j + v.cells.size) cs.length = true) (hp : plainAll v.cells.toList = true) {K : Act → World → Prop} {Q : Exit → Act → World → Prop}
    (next : ∀ a' w', SeesD dfs a' n e → St g w' (L.set i (bx b (splice cs j v.cells.toList) T)) ih → K a' w') : wpOp P ops Q k K a w := by
  obtain ⟨w', hr, hw'⟩ := Qk0 (P := P) hw i hL j hx hy hz hj hp (dst := none) (ty := ty) (pos := pos) (af := af) (gd := gd)
  exact Ql4 hs hi hok hr fun a' ha' => next a' w' ha' hw'
end Go.Proofs.YteiinkhbgpldeaaGreatDoor.Sx
