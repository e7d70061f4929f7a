/- The steps of a walk and the forms of code. Conditions: those ahead of each colon. -/
import Derived.Test.YteiinkhbgpldeaaGreatDoorSx2
import Derived.LoopN
set_option linter.unusedSimpArgs false
set_option linter.unusedVariables false
namespace Go.Proofs.YteiinkhbgpldeaaGreatDoor.Sx
open Go
def CallsR (P : Program) (f : FuncId) (args : Array Value) (w : World) (R : Value → World → Prop) : Prop :=
  Calls P f args w fun e w' => match e with | .returned v => R v w' | _ => False
variable {P : Program} {ops : Array Oper} {Q : Exit → Act → World → Prop} {n : Nat} {g w : World} {L : List Ch} {ih : IH} {a : Act} {e : Env} {rest : List Oper} {dfs : List Deferred} {ro : Option Nat}
def okE (ops : Array Oper) (n : Nat) (e : Env) (o : Oper) : Bool :=
  (wantedE ops e o == some true) && inB n o.dst && noSel o.op && knownE e o.op.operands.toList
theorem QfR {o : Oper} (h : okE ops n e o = true) (hs : SeesD dfs a n e) : Region.wanted o (yielded ops a.tmps) = true ∧ inB n o.dst = true ∧ execOp a.eval o = execOp (ev e) o := by
  unfold okE at h
  simp only [Bool.and_eq_true, beq_iff_eq] at h
  obtain ⟨⟨⟨h1, h2⟩, h3⟩, h4⟩ := h
  exact ⟨hs.wanted h1, h2, hs.exec o h4 h3⟩
theorem Qk3 {o : Oper} (h : okE ops n e o = true) : ∀ c, o.op ≠ .defer c := by
  unfold okE at h
  simp only [Bool.and_eq_true, beq_iff_eq] at h
  exact Qh6 h.1.2
def FR : Option Nat → Fence
  | none => Fence.wide
  | some l => Fence.wide.inRound l
theorem QkJ (ro : Option Nat) (f : FuncId) : (FR ro).fn f := by cases ro <;> trivial
theorem Qkn (ro : Option Nat) : (FR ro).depth = none := by cases ro <;> rfl
theorem Qko {f : FuncId} {args : Array Value} {w : World} {R : Ending → World → Prop} (h : CallsIn Fence.wide 0 P f args w R) : CallsIn (FR ro) 0 P f args w R := by
  cases ro with
  | none => exact h
  | some l => exact h
theorem QlB {row : String} {args : Array Value} {w : World} {R : Value → World → Prop} (h : RowsIn Fence.wide 0 P row args w R) : RowsIn (FR ro) 0 P row args w R := by
  cases ro with
  | none => exact h
  | some l => exact h
theorem FR_round' {l : Nat} {f : FuncId} {tmps : Array Value} {assign body : Code} {w : World} {R : Ending → World → Prop} (h : RoundIn Fence.wide 0 P l f tmps assign body w R) : RoundIn (FR ro) 0 P l f tmps assign body w R := by
  cases ro with
  | none => exact h
  | some l => exact h
theorem opW {o : Oper} {next next' : Act → World → Prop} (hn : ∀ a w, next a w → next' a w) (hd : ∀ c, o.op ≠ .defer c) (h : o.uponIn Fence.wide 0 P a next Q ((execOp a.eval o).run P w)) : o.wpIn (FR ro) 0 P a w next' Q := by
  unfold Oper.wpIn
  refine ⟨fun f _ => QkJ ro f, ?_⟩
  rw [Oper.semAt_eq _ _ _ hd]
  generalize (execOp a.eval o).run P w = r at *
  have hdp : (FR ro).depth.isSome = true → 1 ≤ 0 := by rw [Qkn]; intro h; cases h
  cases r with
  | ok nx w' =>
    cases nx <;> simp only [Oper.uponIn] at h ⊢
    case value v => exact hn _ _ h
    case skip => exact hn _ _ h
    case defer d => exact hn _ _ h
    case enter f args =>
      refine ⟨hdp, Qko (CallsIn.mono h.2 fun e w'' he => ?_)⟩
      cases e with
      | returned u => exact hn _ _ he
      | panicked c => exact he
      | outgrown => exact he
    case row row args => exact ⟨hdp, QlB (RowsIn.mono h.2 fun u w'' he => hn _ _ he)⟩
    case round l f tmps x y =>
      refine ⟨hdp, FR_round' (RoundIn.mono h.2 fun e w'' he => ?_)⟩
      cases e with
      | returned u => exact hn _ _ he
      | panicked c => exact he
      | outgrown => exact he
    all_goals exact h
  | halt x w' =>
    cases x <;> simp only [Oper.uponIn] at h ⊢ <;> exact h
theorem Qjd : ∀ (l : List Oper) (a : Act) (w : World), wpList P ops Q l a w → wpListIn (FR ro) 0 P ops Q l a w
  | [], _, _, h => h
  | o :: rest, a, w, h => by
    unfold wpList at h
    unfold wpListIn
    split at h
    · rename_i hw
      rw [if_pos hw]
      exact opW (fun a w => Qjd rest a w) h.1 h.2
    · rename_i hw
      rw [if_neg hw]
      exact ⟨fun f _ => QkJ ro f, Qjd rest _ _ h⟩
theorem QbQ {o : Oper} {v : Value} {w' : World} (hs : SeesD dfs a n e) (hok : okE ops n e o = true) (hr : (execOp (ev e) o).run P w = .ok (.value v) w')
    (next : ∀ a', SeesD dfs a' n (putO o.dst v e) → wpList P ops Q rest a' w') : wpList P ops Q (o :: rest) a w := by
  obtain ⟨h1, h2, h3⟩ := QfR hok hs
  unfold wpList
  rw [if_pos h1]
  refine ⟨Qk3 hok, ?_⟩
  rw [h3, hr]
  exact next _ (hs.putO h2)
theorem Qjx {o : Oper} {w' : World} (hs : SeesD dfs a n e) (hok : okE ops n e o = true) (hr : (execOp (ev e) o).run P w = .ok .skip w')
    (next : ∀ a', SeesD dfs a' n (putO o.dst undef e) → wpList P ops Q rest a' w') : wpList P ops Q (o :: rest) a w := by
  obtain ⟨h1, h2, h3⟩ := QfR hok hs
  unfold wpList
  rw [if_pos h1]
  refine ⟨Qk3 hok, ?_⟩
  rw [h3, hr]
  exact next _ (hs.putO h2)
theorem runv {s : Sem Value} {v : Value} {w' : World} (h : s.run P w = .ok v w') : (do pure (.value (← s)) : Sem Next).run P w = .ok (.value v) w' := by
  rw [run_bind h]; rfl
theorem runu {s : Sem Unit} {w' : World} (h : s.run P w = .ok () w') : (do s; pure .skip : Sem Next).run P w = .ok .skip w' := by
  show (s >>= fun _ => pure Next.skip).run P w = _
  rw [run_bind h]; rfl
theorem QmE {dst : Option Tmp} {t ty : TypeId} {x : Operand} {pos : String} {af : Array Edge} {gd : Option (Nat × Bool)} (hs : SeesD dfs a n e) {q : Addr} {cs : List Value} (hat : At w q cs) (j : Nat)
    (hok : okE ops n e ⟨dst, .load t x, ty, pos, af, gd⟩ = true) (hx : ev e x = .pointer (some (q.add j))) {v : Value} (hv : ldv P t cs j = some v)
    (next : ∀ a', SeesD dfs a' n (putO dst v e) → wpList P ops Q rest a' w) : wpList P ops Q (⟨dst, .load t x, ty, pos, af, gd⟩ :: rest) a w :=
  QbQ hs hok (by
    simp only [execOp, Instr.loadAt]
    refine runv ?_
    rw [hx, run_bind (s := Instr.sureAddr _) (a := q.add j) (w' := w) rfl]
    exact QjB hat hv) next
theorem QjU {t ty : TypeId} {x y : Operand} {pos : String} {af : Array Edge} {gd : Option (Nat × Bool)} (hs : SeesD dfs a n e) (hw : St g w L ih) (i : Nat) {b : Nat} {cs : List Value} {T : TypeId} (hi : L[i]? = some (bx b cs T)) (j : Nat) {v : Value}
    (hok : okE ops n e ⟨none, .store t x y, ty, pos, af, gd⟩ = true) (hx : ev e x = .pointer (some ⟨b, j, none⟩)) (hy : ev e y = v) (hz : det P (sizeOf t) = some v.cells.size) (hj : Nat.ble (j + v.cells.size) cs.length = true) (hp : plainAll v.cells.toList = true)
    (next : ∀ a' w', SeesD dfs a' n e → St g w' (L.set i (bx b (splice cs j v.cells.toList) T)) ih → wpList P ops Q rest a' w') : wpList P ops Q (⟨none, .store t x y, ty, pos, af, gd⟩ :: rest) a w := by
  obtain ⟨w', hr, hw'⟩ := Ql1 (P := P) hw i hi hz hj hp
  exact Qjx (w' := w') hs hok (by
    simp only [execOp, Instr.storeAt]
    refine runu ?_
    rw [hx, hy, run_bind (s := Instr.sureAddr _) (a := ⟨b, j, none⟩) (w' := w) rfl]
    exact hr) fun a' ha' => next a' w' ha' hw'
theorem QmF {o : Oper} {f : FuncId} {args : Array Value} {R : Value → World → Prop} (hs : SeesD dfs a n e) (hok : okE ops n e o = true) (hd : det P (execOp (ev e) o) = some (.enter f args)) (hc : CallsR P f args w R)
    (next : ∀ a' w' v, R v w' → SeesD dfs a' n (putO o.dst v e) → wpList P ops Q rest a' w') : wpList P ops Q (o :: rest) a w := by
  obtain ⟨h1, h2, h3⟩ := QfR hok hs
  unfold wpList
  rw [if_pos h1]
  refine ⟨Qk3 hok, ?_⟩
  rw [h3, Qae hd w]
  refine ⟨(fun h => by cases h), callsIn_wide.2 (Calls.mono hc fun e' w' he => ?_)⟩
  cases e' with
  | returned v => exact next _ w' v he (hs.putO h2)
  | panicked c => exact he.elim
  | outgrown => exact he.elim
theorem Qc (h : Q .normal a w) : wpList P ops Q [] a w := h
theorem Qg (h : Q .normal a w) : Code.skip.wpIn (FR ro) 0 P Q a w := fun b k cs hro hb hr => wpIn_skip h b k cs hro hb hr
theorem Qa3 {id : Nat} (h : Q (.exit id) a w) : (Code.exit id).wpIn (FR ro) 0 P Q a w := wpIn_exit h
theorem Qi (h : Q .ret a w) : Code.ret.wpIn (FR ro) 0 P Q a w := wpIn_ret h
theorem Qa {id : Nat} {l : List Oper} (h : wpList P l.toArray Q l a w) : (Code.region id l.toArray false).wpIn (FR ro) 0 P Q a w := wpIn_region_lit (Qjd _ _ _ h)
theorem Qd {x y : Code} (h : x.wpIn (FR ro) 0 P (Exit.then (y.wpIn (FR ro) 0 P Q) Q) a w) : (Code.seq x y).wpIn (FR ro) 0 P Q a w := wpIn_seq h
theorem Ql {id : Nat} {c : Code} (h : c.wpIn (FR ro) 0 P (Exit.inBlock id Q) a w) : (Code.block id c).wpIn (FR ro) 0 P Q a w := wpIn_block h
theorem Qlt {c : Operand} {x y : Code} (hs : SeesD dfs a n e) (hk : knownE e [c] = true) (hc : ev e c = .bool true) (h : x.wpIn (FR ro) 0 P Q a w) : (Code.cond c x y).wpIn (FR ro) 0 P Q a w :=
  wpIn_cond_true (by rw [hs.eval hk c (by simp), hc]) h
theorem Qlu {c : Operand} {x y : Code} (hs : SeesD dfs a n e) (hk : knownE e [c] = true) (hc : ev e c = .bool false) (h : y.wpIn (FR ro) 0 P Q a w) : (Code.cond c x y).wpIn (FR ro) 0 P Q a w :=
  wpIn_cond_false (by rw [hs.eval hk c (by simp), hc]) h
theorem QhP {p : Nat → Prop} (h : ∃ k, p k) : ∃ m, p m ∧ ∀ k, p k → m ≤ k := by
  obtain ⟨k, hk⟩ := h
  induction k using Nat.strongRecOn with
  | _ k ih =>
    by_cases hl : ∃ j, j < k ∧ p j
    · obtain ⟨j, hj, hp⟩ := hl; exact ih j hj hp
    · exact ⟨k, hk, fun j hj => Nat.le_of_not_lt fun hlt => hl ⟨j, hlt, hj⟩⟩
open Classical in
noncomputable def leastN (p : Nat → Prop) : Nat := if h : ∃ k, p k then (QhP h).choose else 0
theorem QiD {p : Nat → Prop} (h : ∃ k, p k) : p (leastN p) ∧ ∀ k, p k → leastN p ≤ k := by
  unfold leastN
  rw [dif_pos h]
  exact (QhP h).choose_spec
theorem QbO {c : Code} (I : Nat → Act → World → Prop) (k : Nat) (h0 : I k a w) (zero : ∀ a w, I 0 a w → False)
    (round : ∀ k a w, I (k + 1) a w → c.wpIn (FR ro) 0 P (Exit.then (I k) Q) a w) : (Code.loop c).wpIn (FR ro) 0 P Q a w := by
  refine wpIn_loop (fun a w => ∃ k, I k a w) (fun a w => leastN fun k => I k a w) ⟨k, h0⟩ fun a w h => ?_
  have hI := (QiD h).1
  generalize (leastN fun k => I k a w) = m at hI
  cases m with
  | zero => exact (zero a w hI).elim
  | succ m =>
    refine wpIn_mono (round m a w hI) fun e a' w' q => ?_
    cases e <;> first | exact ⟨⟨m, q⟩, Nat.lt_succ_of_le ((QiD ⟨m, q⟩).2 m q)⟩ | exact q
theorem Qmj {f : FuncId} {fn : Func} {c : Code} {args : Array Value} {R : Value → World → Prop} (hf : P.funcs[f]? = some fn) (hb : fn.body = some c) (e : Env) (n : Nat) (hn : fn.ntmps = n)
    (hargs : ∀ t v, lk e t = some v → args[t]? = some v) (hsz : args.size ≤ n)
    (h : ∀ a, Sees a n e → c.wpIn (FR none) 0 P (bodyPost P fn fun e w' => match e with | .returned v => R v w' | _ => False) a w) : CallsR P f args w R := by
  refine calls_of_wp hf hb (wpIn_wide.1 (h _ ⟨by simp [hn]; omega, rfl, fun t v hv => ?_⟩))
  have := hargs t v hv
  simp only [Array.getD_eq_getD_getElem?]
  have hlt := (Array.getElem?_eq_some_iff.1 this).1
  rw [Array.getElem?_append_left hlt, this]; rfl
theorem QjK {fn : Func} {t : Tmp} {R : Value → World → Prop} (hs : Sees a n e) (hf : fn.results = #[.tmp t]) {v : Value} (hv : lk e t = some v) (h : R v w) :
    bodyPost P fn (fun e w' => match e with | .returned v => R v w' | _ => False) .ret a w :=
  ⟨hs.df, v, by rw [results_tmp hf, hs.at_ t v hv], h⟩
def resE (e : Env) : List ResultVar → Option (List Value)
  | [] => some []
  | .tmp t :: l => match lk e t, resE e l with | some v, some vs => some (v :: vs) | _, _ => none
  | .cell .. :: _ => none
theorem QjD (hs : Sees a n e) : ∀ (l : List ResultVar) (vs : List Value), resE e l = some vs →
    ∀ w, (l.mapM fun | .tmp t => pure (a.tmps.getD t undef) | .cell x t => do loadVar t (← asAddr (a.tmps.getD x undef)) : Sem (List Value)).run P w = .ok vs w
  | [], vs, h, w => by simp only [resE, Option.some.injEq] at h; subst h; rfl
  | .tmp t :: l, vs, h, w => by
    simp only [resE] at h
    cases hl : lk e t with
    | none => rw [hl] at h; simp at h
    | some v =>
      cases hr : resE e l with
      | none => rw [hl, hr] at h; cases h
      | some us =>
        rw [hl, hr] at h; simp only [Option.some.injEq] at h; subst h
        rw [List.mapM_cons]
        rw [run_bind (a := v) (w' := w) (by rw [← hs.at_ t v hl]; rfl), run_bind (QjD hs l us hr w)]
        rfl
  | .cell .. :: _, vs, h, w => by simp [resE] at h
theorem Q4 {fn : Func} {R : Value → World → Prop} (hs : Sees a n e) (l : List ResultVar) (hf : fn.results = l.toArray) (vs : List Value) (hv : resE e l = some vs) (h1 : Nat.beq vs.length 1 = false) (h : R (.tuple vs.toArray) w) :
    bodyPost P fn (fun e w' => match e with | .returned v => R v w' | _ => False) .ret a w := by
  refine ⟨hs.df, _, ?_, h⟩
  unfold results
  rw [hf]
  have hm := QjD (P := P) hs l vs hv w
  rw [run_bind (a := vs.toArray) (w' := w)]
  · rw [dif_neg (by have := Nat.ne_of_beq_eq_false h1; simpa using this)]; rfl
  · rw [List.mapM_toArray]
    show (Array.mk <$> _ : Sem _).run P w = _
    rw [map_eq_pure_bind]
    exact (run_bind (P := P) hm).trans rfl
theorem QaU {fn : Func} {t : Tmp} {ty : TypeId} {R : Value → World → Prop} (hs : Sees a n e) (hf : fn.results = #[.cell t ty]) {q : Addr} {cs : List Value} (hat : At w q cs) (hv : lk e t = some (.pointer (some q))) {v : Value} (hl : ldv P ty cs 0 = some v) (h : R v w) :
    bodyPost P fn (fun e w' => match e with | .returned v => R v w' | _ => False) .ret a w := by
  refine ⟨hs.df, v, ?_, h⟩
  unfold results
  rw [hf]
  rw [run_bind (a := #[v]) (w' := w)]
  · rfl
  · have h0 : (loadVar ty (q.add 0)).run P w = .ok v w := QjB hat hl
    rw [show (#[ResultVar.cell t ty] : Array ResultVar) = [ResultVar.cell t ty].toArray from rfl, List.mapM_toArray]
    show (Array.mk <$> _ : Sem _).run P w = _
    rw [map_eq_pure_bind, run_bind (a := [v]) (w' := w)]
    · rfl
    · rw [List.mapM_cons, run_bind (a := v) (w' := w)]
      · rfl
      · simp only
        rw [hs.at_ t _ hv]
        exact h0
end Go.Proofs.YteiinkhbgpldeaaGreatDoor.Sx
