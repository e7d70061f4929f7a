/- The steps of a walk and the forms of code.
   Conditions: those that each theorem states ahead of its colon, and no other. -/
import Derived.Test.YtfpppgbibgbllaaSx2
import Derived.LoopN
namespace Go.Proofs.Ytfpppgbibgbllaa.Sx
open Go

/-! ## the steps of a walk -/
/-- f, called with args in w, returns, and R is so of what it returns and the world then. -/
def CallsR (P : Program) (f : FuncId) (args : Array Value) (w : World) (R : Value → World → Prop) : Prop :=
  Calls P f args w fun e w' => match e with | .returned v => R v w' | _ => False

variable {P : Program} {ops : Array Oper} {Q : Exit → Act → World → Prop} {n : Nat} {g w : World} {L : List Ch} {ih : IH} {a : Act} {e : Env} {rest : List Oper}

def okE (ops : Array Oper) (n : Nat) (e : Env) (o : Oper) : Bool :=
  (wantedE ops e o == some true) && inB n o.dst && noSel o.op && knownE e o.op.operands.toList

theorem okE_spec {o : Oper} (h : okE ops n e o = true) (hs : Sees a n e) : Region.wanted o (yielded ops a.tmps) = true ∧ inB n o.dst = true ∧ execOp a.eval o = execOp (ev e) o := by
  unfold okE at h
  simp only [Bool.and_eq_true, beq_iff_eq] at h
  obtain ⟨⟨⟨h1, h2⟩, h3⟩, h4⟩ := h
  exact ⟨hs.wanted h1, h2, hs.exec o h4 h3⟩

theorem step_run {o : Oper} {v : Value} {w' : World} (hs : Sees a n e) (hok : okE ops n e o = true) (hr : (execOp (ev e) o).run P w = .ok (.value v) w')
    (next : ∀ a', Sees a' n (putO o.dst v e) → wpList P ops Q rest a' w') : wpList P ops Q (o :: rest) a w := by
  obtain ⟨h1, h2, h3⟩ := okE_spec hok hs
  unfold wpList
  rw [if_pos h1]
  refine .inl ?_
  unfold Oper.wp
  rw [h3, hr]
  exact next _ (hs.putO h2)
theorem step_run0 {o : Oper} {w' : World} (hs : Sees a n e) (hok : okE ops n e o = true) (hr : (execOp (ev e) o).run P w = .ok .skip w')
    (next : ∀ a', Sees a' n (putO o.dst undef e) → wpList P ops Q rest a' w') : wpList P ops Q (o :: rest) a w := by
  obtain ⟨h1, h2, h3⟩ := okE_spec hok hs
  unfold wpList
  rw [if_pos h1]
  refine .inl ?_
  unfold Oper.wp
  rw [h3, hr]
  exact next _ (hs.putO h2)

theorem runv {s : Sem Value} {v : Value} {w' : World} (h : s.run P w = .ok v w') : (do pure (.value (← s)) : Sem Next).run P w = .ok (.value v) w' := by
  rw [run_bind h]; rfl
theorem runu {s : Sem Unit} {w' : World} (h : s.run P w = .ok () w') : (do s; pure .skip : Sem Next).run P w = .ok .skip w' := by
  show (s >>= fun _ => pure Next.skip).run P w = _
  rw [run_bind h]; rfl

/-- A load out of a row of cells. -/
theorem s_load {dst : Option Tmp} {t ty : TypeId} {x : Operand} {pos : String} {af : Array Edge} {gd : Option (Nat × Bool)} (hs : Sees a n e) {q : Addr} {cs : List Value} (hat : At w q cs) (j : Nat)
    (hok : okE ops n e ⟨dst, .load t x, ty, pos, af, gd⟩ = true) (hx : ev e x = .pointer (some (q.add j))) {v : Value} (hv : ldv P t cs j = some v)
    (next : ∀ a', Sees a' n (putO dst v e) → wpList P ops Q rest a' w) : wpList P ops Q (⟨dst, .load t x, ty, pos, af, gd⟩ :: rest) a w :=
  step_run hs hok (by
    simp only [execOp, Instr.loadAt]
    refine runv ?_
    rw [hx, run_bind (s := Instr.sureAddr _) (a := q.add j) (w' := w) rfl]
    exact run_ld hat hv) next

/-- A store into a block of the call's own. -/
theorem s_store {t ty : TypeId} {x y : Operand} {pos : String} {af : Array Edge} {gd : Option (Nat × Bool)} (hs : Sees a n e) (hw : St g w L ih) (i : Nat) {b : Nat} {cs : List Value} {T : TypeId} (hi : L[i]? = some (bx b cs T)) (j : Nat) {v : Value}
    (hok : okE ops n e ⟨none, .store t x y, ty, pos, af, gd⟩ = true) (hx : ev e x = .pointer (some ⟨b, j, none⟩)) (hy : ev e y = v) (hz : det P (sizeOf t) = some v.cells.size) (hj : Nat.ble (j + v.cells.size) cs.length = true) (hp : plainAll v.cells.toList = true)
    (next : ∀ a' w', Sees a' n e → St g w' (L.set i (bx b (splice cs j v.cells.toList) T)) ih → wpList P ops Q rest a' w') : wpList P ops Q (⟨none, .store t x y, ty, pos, af, gd⟩ :: rest) a w := by
  obtain ⟨w', hr, hw'⟩ := run_st (P := P) hw i hi hz hj hp
  exact step_run0 (w' := w') hs hok (by
    simp only [execOp, Instr.storeAt]
    refine runu ?_
    rw [hx, hy, run_bind (s := Instr.sureAddr _) (a := ⟨b, j, none⟩) (w' := w) rfl]
    exact hr) fun a' ha' => next a' w' ha' hw'

/-- A variable of the call's own, with a value. -/
theorem s_box {dst : Option Tmp} {t ty : TypeId} {x : Operand} {pos : String} {af : Array Edge} {gd : Option (Nat × Bool)} (hs : Sees a n e) (hw : St g w L ih) {v : Value}
    (hok : okE ops n e ⟨dst, .box t x, ty, pos, af, gd⟩ = true) (hx : ev e x = v)
    (next : ∀ a' w' b, Sees a' n (putO dst (.pointer (some ⟨b, 0, none⟩)) e) → St g w' (bx b v.cells.toList t :: L) ih → wpList P ops Q rest a' w') : wpList P ops Q (⟨dst, .box t x, ty, pos, af, gd⟩ :: rest) a w := by
  have hn := hw.new (.cells v.cells.toList.toArray t (0, 0))
  exact step_run (w' := w.alloc (.cells v.cells.toList.toArray t (0, 0))) (v := .pointer (some ⟨w.heap.size, 0, none⟩)) hs hok (by
    simp only [execOp]
    refine runv ?_
    rw [hx]; simp only [Array.toArray_toList]; rfl) fun a' ha' => next a' _ _ ha' hn

/-- A variable of the call's own, of its type's zero. -/
theorem s_alloc {dst : Option Tmp} {t ty : TypeId} {pos : String} {af : Array Edge} {gd : Option (Nat × Bool)} (hs : Sees a n e) (hw : St g w L ih) {v : Value}
    (hok : okE ops n e ⟨dst, .alloc t, ty, pos, af, gd⟩ = true) (hz : det P (zeroValue t) = some v)
    (next : ∀ a' w' b, Sees a' n (putO dst (.pointer (some ⟨b, 0, none⟩)) e) → St g w' (bx b v.cells.toList t :: L) ih → wpList P ops Q rest a' w') : wpList P ops Q (⟨dst, .alloc t, ty, pos, af, gd⟩ :: rest) a w := by
  have hn := hw.new (.cells v.cells.toList.toArray t (0, 0))
  exact step_run (w' := w.alloc (.cells v.cells.toList.toArray t (0, 0))) (v := .pointer (some ⟨w.heap.size, 0, none⟩)) hs hok (by
    simp only [execOp, Instr.alloc]
    refine runv ?_
    rw [run_bind (det_run hz w)]; simp only [Array.toArray_toList]; rfl) fun a' ha' => next a' _ _ ha' hn

/-- A call of a Go function. -/
theorem s_call {o : Oper} {f : FuncId} {args : Array Value} {R : Value → World → Prop} (hs : Sees a n e) (hok : okE ops n e o = true) (hd : det P (execOp (ev e) o) = some (.enter f args)) (hc : CallsR P f args w R)
    (next : ∀ a' w' v, R v w' → Sees a' n (putO o.dst v e) → wpList P ops Q rest a' w') : wpList P ops Q (o :: rest) a w := by
  obtain ⟨h1, h2, h3⟩ := okE_spec hok hs
  unfold wpList
  rw [if_pos h1]
  refine .inl ?_
  unfold Oper.wp
  rw [h3, det_run hd w]
  refine Calls.mono hc fun e' w' he => ?_
  cases e' with
  | returned v => exact next _ w' v he (hs.putO h2)
  | panicked c => exact he.elim
  | outgrown => exact he.elim

/-- The end of a region. -/
theorem s_end (h : Q .normal a w) : wpList P ops Q [] a w := h

/-! ## code -/
theorem c_region {id : Nat} {l : List Oper} (h : wpList P l.toArray Q l a w) : (Code.region id l.toArray false).wp P Q a w := wp_region_lit h
theorem c_seq {x y : Code} (h : x.wp P (Exit.then (y.wp P Q) Q) a w) : (Code.seq x y).wp P Q a w := wp_seq h
theorem c_block {id : Nat} {c : Code} (h : c.wp P (Exit.inBlock id Q) a w) : (Code.block id c).wp P Q a w := wp_block h
theorem c_cond {c : Operand} {x y : Code} {t : Bool} (hs : Sees a n e) (hk : knownE e [c] = true) (hc : ev e c = .bool t) (ht : t = true → x.wp P Q a w) (hf : t = false → y.wp P Q a w) : (Code.cond c x y).wp P Q a w :=
  wp_cond_split (by rw [hs.eval hk c (by simp), hc]) ht hf
theorem c_condT {c : Operand} {x y : Code} (hs : Sees a n e) (hk : knownE e [c] = true) (hc : ev e c = .bool true) (h : x.wp P Q a w) : (Code.cond c x y).wp P Q a w :=
  wp_cond_true (by rw [hs.eval hk c (by simp), hc]) h
theorem c_condF {c : Operand} {x y : Code} (hs : Sees a n e) (hk : knownE e [c] = true) (hc : ev e c = .bool false) (h : y.wp P Q a w) : (Code.cond c x y).wp P Q a w :=
  wp_cond_false (by rw [hs.eval hk c (by simp), hc]) h

/-- A loop, by a number that every round lowers. -/
theorem c_loop {c : Code} (I : Nat → Act → World → Prop) (k : Nat) (h0 : I k a w) (zero : ∀ a w, I 0 a w → False)
    (round : ∀ k a w, I (k + 1) a w → c.wp P (Exit.then (I k) Q) a w) : (Code.loop c).wp P Q a w := by
  refine wp_loop_rounds k ?_
  have key : ∀ k a w, I k a w → Code.rounds P c Q k a w := by
    intro k
    induction k with
    | zero => intro a w h; exact (zero a w h).elim
    | succ k ihk =>
      intro a w h
      rw [rounds_succ]
      refine Code.wp_mono (fun e a w q => ?_) (round k a w h)
      cases e <;> first | exact ihk a w q | exact q
  exact key k a w h0

/-- What a function's body comes to. -/
theorem f_enter {f : FuncId} {fn : Func} {c : Code} {args : Array Value} {R : Value → World → Prop} (hf : P.funcs[f]? = some fn) (hb : fn.body = some c) (e : Env) (n : Nat) (hn : fn.ntmps = n)
    (hargs : ∀ t v, lk e t = some v → args[t]? = some v) (hsz : args.size ≤ n)
    (h : ∀ a, Sees a n e → c.wp P (bodyPost P fn fun e w' => match e with | .returned v => R v w' | _ => False) a w) : CallsR P f args w R := by
  refine calls_of_wp hf hb (h _ ⟨by simp [hn]; omega, rfl, fun t v hv => ?_⟩)
  have := hargs t v hv
  simp only [Array.getD_eq_getD_getElem?]
  have hlt := (Array.getElem?_eq_some_iff.1 this).1
  rw [Array.getElem?_append_left hlt, this]; rfl


/-- A function's one result, out of a temporary. -/
theorem f_ret1 {fn : Func} {t : Tmp} {R : Value → World → Prop} (hs : Sees a n e) (hf : fn.results = #[.tmp t]) {v : Value} (hv : lk e t = some v) (h : R v w) :
    bodyPost P fn (fun e w' => match e with | .returned v => R v w' | _ => False) .ret a w :=
  ⟨hs.df, v, by rw [results_tmp hf, hs.at_ t v hv], h⟩
/-- Several results. -/
def resE (e : Env) : List ResultVar → Option (List Value)
  | [] => some []
  | .tmp t :: l => match lk e t, resE e l with | some v, some vs => some (v :: vs) | _, _ => none
  | .cell .. :: _ => none
theorem resE_spec (hs : Sees a n e) : ∀ (l : List ResultVar) (vs : List Value), resE e l = some vs →
    ∀ w, (l.mapM fun | .tmp t => pure (a.tmps.getD t undef) | .cell x t => do loadVar t (← asAddr (a.tmps.getD x undef)) : Sem (List Value)).run P w = .ok vs w
  | [], vs, h, w => by simp only [resE, Option.some.injEq] at h; subst h; rfl
  | .tmp t :: l, vs, h, w => by
    simp only [resE] at h
    cases hl : lk e t with
    | none => rw [hl] at h; simp at h
    | some v =>
      cases hr : resE e l with
      | none => rw [hl, hr] at h; cases h
      | some us =>
        rw [hl, hr] at h; simp only [Option.some.injEq] at h; subst h
        rw [List.mapM_cons]
        rw [run_bind (a := v) (w' := w) (by rw [← hs.at_ t v hl]; rfl), run_bind (resE_spec hs l us hr w)]
        rfl
  | .cell .. :: _, vs, h, w => by simp [resE] at h
theorem f_retN {fn : Func} {R : Value → World → Prop} (hs : Sees a n e) (l : List ResultVar) (hf : fn.results = l.toArray) (vs : List Value) (hv : resE e l = some vs) (h1 : Nat.beq vs.length 1 = false) (h : R (.tuple vs.toArray) w) :
    bodyPost P fn (fun e w' => match e with | .returned v => R v w' | _ => False) .ret a w := by
  refine ⟨hs.df, _, ?_, h⟩
  unfold results
  rw [hf]
  have hm := resE_spec (P := P) hs l vs hv w
  rw [run_bind (a := vs.toArray) (w' := w)]
  · rw [dif_neg (by have := Nat.ne_of_beq_eq_false h1; simpa using this)]; rfl
  · rw [List.mapM_toArray]
    show (Array.mk <$> _ : Sem _).run P w = _
    rw [map_eq_pure_bind]
    exact (run_bind (P := P) hm).trans rfl
/-- One result, out of a variable in memory. -/
theorem f_retC {fn : Func} {t : Tmp} {ty : TypeId} {R : Value → World → Prop} (hs : Sees a n e) (hf : fn.results = #[.cell t ty]) {q : Addr} {cs : List Value} (hat : At w q cs) (hv : lk e t = some (.pointer (some q))) {v : Value} (hl : ldv P ty cs 0 = some v) (h : R v w) :
    bodyPost P fn (fun e w' => match e with | .returned v => R v w' | _ => False) .ret a w := by
  refine ⟨hs.df, v, ?_, h⟩
  unfold results
  rw [hf]
  rw [run_bind (a := #[v]) (w' := w)]
  · rfl
  · have h0 : (loadVar ty (q.add 0)).run P w = .ok v w := run_ld hat hl
    rw [show (#[ResultVar.cell t ty] : Array ResultVar) = [ResultVar.cell t ty].toArray from rfl, List.mapM_toArray]
    show (Array.mk <$> _ : Sem _).run P w = _
    rw [map_eq_pure_bind, run_bind (a := [v]) (w' := w)]
    · rfl
    · rw [List.mapM_cons, run_bind (a := v) (w' := w)]
      · rfl
      · simp only
        rw [hs.at_ t _ hv]
        exact h0

end Go.Proofs.Ytfpppgbibgbllaa.Sx
