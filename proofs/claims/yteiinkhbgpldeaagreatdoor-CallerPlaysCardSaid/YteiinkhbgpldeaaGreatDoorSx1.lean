/- Temporaries and batches of operations without memory. Conditions: those ahead of each colon. -/
import Derived.Tactics
import Derived.Orders
import Derived.OrdersHeld
import Derived.KernelRfl
import Derived.Laws.AppendOwn
import Derived.Laws.OwnMore
import Derived.Below
import Derived.TacticsIn
import Derived.RangeFuncLeaves
import Derived.RangeFuncRecord
import Derived.RangeFuncIn
set_option linter.unusedSimpArgs false
set_option linter.unusedVariables false
namespace Go.Proofs.YteiinkhbgpldeaaGreatDoor.Sx
open Go
variable {dfs : List Deferred}
def det {α : Type} (P : Program) : Sem α → Option α
  | .pure a => some a
  | .program k => det P (k P)
  | .mark _ k => det P k
  | _ => none
theorem Qae {α : Type} {P : Program} : ∀ {s : Sem α} {a : α}, det P s = some a → ∀ w, s.run P w = .ok a w
  | .pure _, _, h, w => by simp only [det, Option.some.injEq] at h; subst h; rfl
  | .program k, _, h, w => by simp only [det] at h; simp only [Sem.run]; exact Qae h w
  | .mark _ k, _, h, w => by simp only [det] at h; simp only [Sem.run]; exact Qae h w
  | .load .., _, h, _ => by simp [det] at h
  | .store .., _, h, _ => by simp [det] at h
  | .new .., _, h, _ => by simp [det] at h
  | .shape .., _, h, _ => by simp [det] at h
  | .freeze .., _, h, _ => by simp [det] at h
  | .frozen .., _, h, _ => by simp [det] at h
  | .getObj .., _, h, _ => by simp [det] at h
  | .setObj .., _, h, _ => by simp [det] at h
  | .choose .., _, h, _ => by simp [det] at h
  | .sys .., _, h, _ => by simp [det] at h
  | .halt .., _, h, _ => by simp [det] at h
theorem run_bind {α β : Type} {P : Program} : ∀ {s : Sem α} {f : α → Sem β} {w w' : World} {a : α}, s.run P w = .ok a w' → (s >>= f).run P w = (f a).run P w' := by
  intro s
  show ∀ {f : α → Sem β} {w w' : World} {a : α}, s.run P w = .ok a w' → (Sem.bind s f).run P w = (f a).run P w'
  induction s with
  | pure a => intro f w w' a h; simp only [Sem.run, Result.ok.injEq] at h; obtain ⟨rfl, rfl⟩ := h; rfl
  | load m a k ih =>
    intro f w w' x h
    simp only [Sem.bind, Sem.run] at h ⊢
    split
    · rename_i v hv; rw [hv] at h; exact ih _ h
    · rename_i hv; rw [hv] at h
      simp only at h
      split
      · rename_i hf; rw [hf] at h; exact ih _ h
      · rename_i hf; rw [hf] at h; cases h
  | store m a v k ih =>
    intro f w w' x h
    cases v <;> simp only [Sem.bind, Sem.run] at h ⊢ <;> first
      | (cases h; done)
      | (split
         · rename_i hv; rw [hv] at h; simp only at h
           split
           · rename_i hz; rw [if_pos hz] at h; cases h
           · rename_i hz; rw [if_neg hz] at h; exact ih h
         · rename_i hv; rw [hv] at h; simp only at h
           split
           · rename_i hf; rw [hf] at h; exact ih h
           · rename_i hf; rw [hf] at h; cases h)
  | new o k ih => intro f w w' x h; exact ih _ h
  | shape r k ih => intro f w w' x h; exact ih _ h
  | freeze a n k ih => intro f w w' x h; exact ih h
  | frozen a k ih => intro f w w' x h; exact ih _ h
  | getObj r k ih =>
    intro f w w' x h
    simp only [Sem.bind, Sem.run] at h ⊢
    split at h <;> first | (cases h; done) | (rename_i o ho hne; exact ih _ h) | (exact ih _ h)
  | setObj r o k ih =>
    intro f w w' x h
    simp only [Sem.bind, Sem.run] at h ⊢
    split at h <;> first | (cases h; done) | (exact ih h)
  | choose q k ih =>
    intro f w w' x h
    simp only [Sem.bind, Sem.run] at h ⊢
    split
    · rename_i hq; rw [if_pos hq] at h; exact ih _ h
    · rename_i hq; rw [if_neg hq] at h; exact ih _ h
  | sys c k ih => intro f w w' x h; exact ih _ h
  | program k ih => intro f w w' x h; exact ih _ h
  | mark m k ih => intro f w w' x h; exact ih h
  | halt h => intro f w w' x hh; cases hh
abbrev Env := List (Nat × Value)
def lk : Env → Nat → Option Value
  | [], _ => none
  | (k, v) :: e, t => bif Nat.beq k t then some v else lk e t
def putE (d : Nat) (v : Value) : Env → Env
  | [] => [(d, v)]
  | (k, x) :: e => bif Nat.beq k d then (d, v) :: e else (k, x) :: putE d v e
def memN : Nat → List Nat → Bool
  | _, [] => false
  | t, k :: l => bif Nat.beq k t then true else memN t l
def keepE (ks : List Nat) : Env → Env
  | [] => []
  | (k, x) :: e => bif memN k ks then (k, x) :: keepE ks e else keepE ks e
def ev (e : Env) : Operand → Value
  | .tmp t => match lk e t with | some v => v | none => undef
  | .const v => v
  | .global g => .pointer (some ⟨g, 0, none⟩)
  | .func f => .func (.func f) #[] #[]
structure SeesD (dfs : List Deferred) (a : Act) (n : Nat) (e : Env) : Prop where
  sz : a.tmps.size = n
  df : a.defers = dfs
  at_ : ∀ t v, lk e t = some v → a.tmps.getD t undef = v
abbrev Sees (a : Act) (n : Nat) (e : Env) : Prop := SeesD [] a n e
theorem Ql6 {d : Nat} {v : Value} : ∀ {e : Env} {t : Nat} {u : Value}, lk (putE d v e) t = some u → (t = d ∧ u = v) ∨ (t ≠ d ∧ lk e t = some u)
  | [], t, u, h => by
    simp only [putE, lk] at h
    cases hb : Nat.beq d t with
    | true => rw [hb] at h; simp only [cond_true, Option.some.injEq] at h; exact .inl ⟨(Nat.eq_of_beq_eq_true hb).symm, h.symm⟩
    | false => rw [hb] at h; simp at h
  | (k, x) :: e, t, u, h => by
    simp only [putE] at h
    cases hk : Nat.beq k d with
    | true =>
      rw [hk] at h; simp only [cond_true, lk] at h
      have hkd := Nat.eq_of_beq_eq_true hk
      cases hb : Nat.beq d t with
      | true => rw [hb] at h; simp only [cond_true, Option.some.injEq] at h; exact .inl ⟨(Nat.eq_of_beq_eq_true hb).symm, h.symm⟩
      | false =>
        rw [hb] at h; simp only [cond_false] at h
        have hne : d ≠ t := Nat.ne_of_beq_eq_false hb
        refine .inr ⟨fun e => hne e.symm, ?_⟩
        have : Nat.beq k t = false := by rw [hkd]; exact hb
        simp only [lk, this, cond_false]; exact h
    | false =>
      rw [hk] at h; simp only [cond_false, lk] at h
      have hne : k ≠ d := Nat.ne_of_beq_eq_false hk
      cases hb : Nat.beq k t with
      | true =>
        rw [hb] at h; simp only [cond_true, Option.some.injEq] at h
        have := Nat.eq_of_beq_eq_true hb
        refine .inr ⟨fun e => hne (this.trans e), ?_⟩
        simp only [lk, hb, cond_true, h]
      | false =>
        rw [hb] at h; simp only [cond_false] at h
        rcases Ql6 h with h' | ⟨h1, h2⟩
        · exact .inl h'
        · exact .inr ⟨h1, by simp only [lk, hb, cond_false]; exact h2⟩
theorem QjX {ks : List Nat} : ∀ {e : Env} {t : Nat} {u : Value}, lk (keepE ks e) t = some u → lk e t = some u ∧ memN t ks = true
  | [], t, u, h => by simp [keepE, lk] at h
  | (k, x) :: e, t, u, h => by
    simp only [keepE] at h
    cases hm : memN k ks with
    | true =>
      rw [hm] at h; simp only [cond_true, lk] at h ⊢
      cases hb : Nat.beq k t with
      | true => rw [hb] at h; rw [← Nat.eq_of_beq_eq_true hb]; exact ⟨h, hm⟩
      | false => rw [hb] at h; exact QjX h
    | false =>
      rw [hm] at h; simp only [cond_false, lk] at h ⊢
      have h' := QjX h
      cases hb : Nat.beq k t with
      | true => rw [← Nat.eq_of_beq_eq_true hb, hm] at h'; cases h'.2
      | false => exact h'
theorem SeesD.keep {a : Act} {n : Nat} {e : Env} (h : SeesD dfs a n e) (ks : List Nat) : SeesD dfs a n (keepE ks e) :=
  ⟨h.sz, h.df, fun t v hv => h.at_ t v (QjX hv).1⟩
theorem SeesD.put {a : Act} {n : Nat} {e : Env} (h : SeesD dfs a n e) {d : Nat} {v : Value} (hd : d < n) : SeesD dfs (a.put (some d) v) n (putE d v e) := by
  refine ⟨by simp [Act.put, h.sz], by simp [Act.put, h.df], fun t u hu => ?_⟩
  rcases Ql6 hu with ⟨rfl, rfl⟩ | ⟨hne, hu⟩
  · simp [Act.put, Array.getElem?_setIfInBounds, h.sz, hd]
  · have := h.at_ t u hu
    simp only [Act.put, Array.getD_eq_getD_getElem?] at this ⊢
    rw [Array.getElem?_setIfInBounds_ne (fun e => hne e.symm)]
    exact this
def knownE (e : Env) (xs : List Operand) : Bool := xs.all fun | .tmp t => (lk e t).isSome | _ => true
theorem SeesD.eval {a : Act} {n : Nat} {e : Env} (h : SeesD dfs a n e) {xs : List Operand} (hk : knownE e xs = true) : ∀ x ∈ xs, a.eval x = ev e x := by
  intro x hx
  have := List.all_eq_true.1 hk x hx
  cases x with
  | tmp t =>
    obtain ⟨v, hv⟩ := Option.isSome_iff_exists.1 this
    simp only [Act.eval, ev, hv]
    exact h.at_ t v hv
  | _ => rfl
theorem someInj {α : Type} {x y : α} (h : some x = some y) : x = y := Option.some.inj h
def noSel : Op → Bool
  | .select .. => false
  | .defer .. => false
  | _ => true
theorem SeesD.exec {a : Act} {n : Nat} {e : Env} (h : SeesD dfs a n e) (o : Oper) (hk : knownE e o.op.operands.toList = true) (hs : noSel o.op = true) : execOp a.eval o = execOp (ev e) o :=
  execOp_congr o (fun cs b he => by rw [he] at hs; cases hs) fun x hx => h.eval hk x (by simpa using hx)
def yielding (ops : Array Oper) (e : Env) (j : Nat) : Option (Option Bool) :=
  match (ops[j]?).bind (·.dst) with
  | some t => match lk e t with | some (.bool b) => some (some b) | some (.tuple _) => some none | _ => none
  | none => none
theorem SeesD.yielding {a : Act} {n : Nat} {e : Env} (h : SeesD dfs a n e) {ops : Array Oper} {j : Nat} {b : Option Bool} (hy : yielding ops e j = some b) : yielded ops a.tmps j = b := by
  unfold Sx.yielding at hy
  unfold yielded
  cases ht : (ops[j]?).bind (·.dst) with
  | none => rw [ht] at hy; cases hy
  | some t =>
    rw [ht] at hy
    simp only at hy
    cases hl : lk e t with
    | none => rw [hl] at hy; cases hy
    | some v =>
      have := h.at_ t v hl
      rw [hl] at hy
      simp only [Option.bind_some]
      simp only [Array.getD_eq_getD_getElem?] at this
      cases v <;> simp only at hy <;> try (cases hy; done)
      · cases hg : a.tmps[t]? with
        | none => rw [hg] at this; simp [undef] at this
        | some u => rw [hg] at this; simp only [Option.getD_some] at this; subst this; exact someInj hy
      · cases hg : a.tmps[t]? with
        | none => exact someInj hy
        | some u => rw [hg] at this; simp only [Option.getD_some] at this; subst this; exact someInj hy
def wantedE (ops : Array Oper) (e : Env) (o : Oper) : Option Bool :=
  match o.guard with
  | none => some true
  | some (j, want) => match yielding ops e j with | some b => some (b == some want) | none => none
theorem SeesD.wanted {a : Act} {n : Nat} {e : Env} (h : SeesD dfs a n e) {ops : Array Oper} {o : Oper} {b : Bool} (hw : wantedE ops e o = some b) : Region.wanted o (yielded ops a.tmps) = b := by
  unfold wantedE at hw
  unfold Region.wanted
  cases hg : o.guard with
  | none => rw [hg] at hw; simpa using hw
  | some jw =>
    obtain ⟨j, want⟩ := jw
    rw [hg] at hw
    simp only at hw ⊢
    cases hy : Sx.yielding ops e j with
    | none => rw [hy] at hw; cases hw
    | some c => rw [hy] at hw; rw [h.yielding hy]; exact someInj hw
def putO (d : Option Nat) (v : Value) (e : Env) : Env := match d with | some t => putE t v e | none => e
def inB (n : Nat) : Option Nat → Bool
  | some d => Nat.blt d n
  | none => true
theorem SeesD.putO {a : Act} {n : Nat} {e : Env} (h : SeesD dfs a n e) {d : Option Nat} {v : Value} (hd : inB n d = true) : SeesD dfs (a.put d v) n (putO d v e) := by
  cases d with
  | none => exact h
  | some t => exact h.put (Nat.le_of_ble_eq_true hd)
def runs (P : Program) (ops : Array Oper) (n : Nat) : Nat → List Oper → Env → Option Env
  | 0, _, e => some e
  | _ + 1, [], _ => none
  | k + 1, o :: rest, e =>
    match wantedE ops e o with
    | some true =>
      match (bif inB n o.dst && noSel o.op && knownE e o.op.operands.toList then det P (execOp (ev e) o) else none) with
      | some (.value v) => runs P ops n k rest (putO o.dst v e)
      | some .skip => runs P ops n k rest (putO o.dst undef e)
      | _ => none
    | some false => bif inB n o.dst then runs P ops n k rest (putO o.dst undef e) else none
    | none => none
variable {P : Program} {ops : Array Oper} {Q : Exit → Act → World → Prop} {n : Nat}
def wpList (P : Program) (ops : Array Oper) (Q : Exit → Act → World → Prop) : List Oper → Act → World → Prop
  | [], a, w => Q .normal a w
  | o :: rest, a, w => if Region.wanted o (yielded ops a.tmps) then (∀ c, o.op ≠ .defer c) ∧ o.uponIn Fence.wide 0 P a (wpList P ops Q rest) Q ((execOp a.eval o).run P w) else wpList P ops Q rest (a.put o.dst undef) w
theorem Qh6 {op : Op} (h : noSel op = true) : ∀ c, op ≠ .defer c := fun c he => by rw [he] at h; cases h
theorem QfG {w : World} : ∀ (k : Nat) (l : List Oper) (e e' : Env) (a : Act), SeesD dfs a n e → runs P ops n k l e = some e' →
    (∀ a', SeesD dfs a' n e' → wpList P ops Q (l.drop k) a' w) → wpList P ops Q l a w
  | 0, l, e, e', a, hs, h, next => by simp only [runs, Option.some.injEq] at h; subst h; exact next a hs
  | k + 1, [], e, e', a, hs, h, next => by simp [runs] at h
  | k + 1, o :: rest, e, e', a, hs, h, next => by
    simp only [runs] at h
    cases hw : wantedE ops e o with
    | none => rw [hw] at h; cases h
    | some b =>
      rw [hw] at h
      have hwd := hs.wanted hw
      cases b with
      | false =>
        simp only at h
        cases hb : inB n o.dst with
        | false => rw [hb] at h; cases h
        | true =>
          rw [hb] at h; simp only [cond_true] at h
          unfold wpList; rw [if_neg (by rw [hwd]; decide)]
          exact QfG k rest _ e' _ (hs.putO hb) h next
      | true =>
        simp only at h
        cases hb : (inB n o.dst && noSel o.op && knownE e o.op.operands.toList) with
        | false => rw [hb] at h; cases h
        | true =>
          rw [hb] at h; simp only [cond_true] at h
          simp only [Bool.and_eq_true] at hb
          obtain ⟨⟨hb, hn⟩, hk⟩ := hb
          unfold wpList; rw [if_pos hwd]; refine ⟨Qh6 hn, ?_⟩
          cases hd : det P (execOp (ev e) o) with
          | none => rw [hd] at h; cases h
          | some nx =>
            rw [hd] at h
            have hr := Qae hd w
            rw [← hs.exec o hk hn] at hr
            rw [hr]
            cases nx <;> simp only at h <;> try (cases h; done)
            · exact QfG k rest _ e' _ (hs.putO hb) h next
            · exact QfG k rest _ e' _ (hs.putO hb) h next
@[reducible] def pt (b o : Nat) : Value := .pointer (some ⟨b, o, none⟩)
@[reducible] def QfL (x : Int) : Value := .int .i32 x
@[reducible] def Qb (x : Int) : Value := .int .i64 x
@[reducible] def vu8 (x : Int) : Value := .int .u8 x
@[reducible] def Qk (x : Int) : Value := .int .u32 x
@[reducible] def Qe (x : Int) : Value := .int .u64 x
def bAnd (k : IntKind) (x y : Int) : Int := k.wrap (BitVec.ofInt k.bits x &&& BitVec.ofInt k.bits y).toNat
def bOr (k : IntKind) (x y : Int) : Int := k.wrap (BitVec.ofInt k.bits x ||| BitVec.ofInt k.bits y).toNat
end Go.Proofs.YteiinkhbgpldeaaGreatDoor.Sx
