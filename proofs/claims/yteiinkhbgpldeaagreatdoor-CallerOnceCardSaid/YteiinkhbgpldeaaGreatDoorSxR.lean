/- Ranges over functions.
   Conditions: those that each theorem states ahead of its colon, and no other. -/
import Derived.Test.YteiinkhbgpldeaaGreatDoorSx8
import Derived.RangeFuncIn
import Derived.RangeFuncRecord
import Derived.RangeFuncLeaves
set_option linter.unusedSimpArgs false
set_option linter.unusedVariables false
namespace Go.Proofs.YteiinkhbgpldeaaGreatDoor.Sx
open Go

variable {P : Program} {ops : Array Oper} {Q : Exit → Act → World → Prop} {n : Nat} {g w : World} {L : List Ch} {ih : IH} {a : Act} {e : Env} {rest : List Oper} {dfs : List Deferred} {ro : Option Nat}

/-- what the record of a loop over a function bears for good -/
structure Lp where
  fn : FuncId
  tmps : Array Value
  ps : Array Tmp
  assign : Code
  body : Code
  df : Nat
def Lp.loop (r : Lp) (st : LoopState) (pe : Option Code) : Loop := { state := st, pending := pe, fn := r.fn, tmps := r.tmps, params := r.ps, assign := r.assign, body := r.body, defers := r.df }
/-- 0: no jump; else the jump of that number -/
def jumpOf (js : List Code) (x : Int) : Option Code := if x = 0 then none else js[x.toNat - 1]?
/-- the record while no round runs: 0: ready; else left by a jump -/
def lpo (l : Nat) (r : Lp) (js : List Code) (x : Int) : Ch := [(l, .loop (r.loop (if x = 0 then .ready else .done) (jumpOf js x)))]
/-- the record in a round -/
def lpb (l : Nat) (r : Lp) : Ch := [(l, .loop (r.loop .busy none))]
/-- the block of the rounds' deferred calls -/
def dfo (d : Nat) : Ch := [(d, .deferred (some []))]

theorem St.put (hw : St g w L ih) (k : Nat) {b : Nat} {o o' : Obj} (hk : L[k]? = some [(b, o)]) : St g (w.putObj b o') (L.set k [(b, o')]) ih := by
  have hb : w.heap[b]? = some o := hw.own (b, o) (List.mem_flatten.2 ⟨_, List.mem_of_getElem? hk, List.mem_singleton.2 rfl⟩)
  exact hw.turn k hk rfl rfl rfl (World.putObj_heap_same (Array.getElem?_eq_some_iff.1 hb).1) fun j hj => World.putObj_heap_other hj
theorem St.drop (k : Nat) {c : Ch} (h : St g w (L.set k c) ih) : St g w (L.set k []) ih := by
  rcases Nat.lt_or_ge k L.length with hk | hk
  · obtain ⟨A, B, h1, h2⟩ := flatten_set (L := L.set k c) (i := k) (c := c) (c' := []) (by rw [List.getElem?_set_self hk])
    rw [List.set_set] at h2
    have hsub : ∀ p ∈ (L.set k []).flatten, p ∈ (L.set k c).flatten := fun p hp => by
      rw [h2] at hp; rw [h1]
      simp only [List.append_nil, List.mem_append] at hp ⊢
      rcases hp with hp | hp
      · exact .inl (.inl hp)
      · exact .inr hp
    refine ⟨h.os, h.tape, h.output, h.im, fun p hp => h.own p (hsub p hp), fun p hp => h.dis p (hsub p hp), ?_⟩
    have hnd := h.nd
    rw [h1] at hnd
    rw [h2, List.append_nil]
    refine hnd.sublist ((List.Sublist.append (List.sublist_append_left A c) (List.Sublist.refl B)).map _)
  · rw [List.set_eq_of_length_le hk] at h ⊢
    exact h
theorem St.at1 (hw : St g w L ih) (k : Nat) {b : Nat} {o : Obj} (hk : L[k]? = some [(b, o)]) : w.heap[b]? = some o :=
  hw.own (b, o) (List.mem_flatten.2 ⟨_, List.mem_of_getElem? hk, List.mem_singleton.2 rfl⟩)

/-- one round: yield's call at args -/
def RoundR (P : Program) (l : Nat) (r : Lp) (args : Array Value) (w : World) (R : Value → World → Prop) : Prop :=
  args.size = r.ps.size ∧ RoundIn Fence.wide 0 P l r.fn ((r.ps.zip args).foldl (fun tmps (t, a) => tmps.setIfInBounds t a) r.tmps) r.assign r.body w fun e w' => match e with | .returned v => R v w' | _ => False

theorem exec_yield {f : Operand} {xs : Array Operand} {ats : Array TypeId} {ty : TypeId} {dst : Option Tmp} {pos : String} {af : Array Edge} {gd : Option (Nat × Bool)} {l : Nat} (hf : ev e f = .func (.yield l) #[] #[]) :
    (execOp (ev e) ⟨dst, .call ⟨.value f, xs, ats⟩, ty, pos, af, gd⟩).run P w = (Instr.yield l (xs.map (ev e))).run P w := by
  simp only [execOp, resolve, hf, Deferred.ofValue, Sem.run_bind, Sem.run_pure, Result.andThen_ok, invoke]
  simp

/-- a call of yield -/
theorem s_round {f : Operand} {xs : Array Operand} {ats : Array TypeId} {ty : TypeId} {dst : Option Tmp} {pos : String} {af : Array Edge} {gd : Option (Nat × Bool)} {l : Nat} {r : Lp} {js : List Code} {R : Value → World → Prop}
    (hs : SeesD dfs a n e) (hok : okE ops n e ⟨dst, .call ⟨.value f, xs, ats⟩, ty, pos, af, gd⟩ = true) (hf : ev e f = .func (.yield l) #[] #[]) (hw : St g w L ih) (k : Nat) (hk : L[k]? = some (lpo l r js 0)) {args : Array Value} (hx : xs.map (ev e) = args)
    (hc : RoundR P l r args w R)
    (next : ∀ a' w' v, R v w' → SeesD dfs a' n (putO dst v e) → wpList P ops Q rest a' w') : wpList P ops Q (⟨dst, .call ⟨.value f, xs, ats⟩, ty, pos, af, gd⟩ :: rest) a w := by
  obtain ⟨h1, h2, h3⟩ := okE_spec hok hs
  have hl := hw.at1 k hk
  unfold wpList
  rw [if_pos h1]
  refine ⟨okE_nd hok, ?_⟩
  rw [h3, exec_yield hf, hx, run_yield hl (by exact hc.1)]
  refine ⟨(fun h => by cases h), RoundIn.mono hc.2 fun e' w' he => ?_⟩
  cases e' with
  | returned v => exact next _ w' v he (hs.putO h2)
  | panicked c => exact he.elim
  | outgrown => exact he.elim

/-- the round's frame knows what the loop's frame knew, and its arguments -/
def putsE : List (Nat × Value) → Env → Env
  | [], e => e
  | (t, v) :: l, e => putsE l (putE t v e)
theorem SeesD.puts : ∀ (l : List (Nat × Value)) (e : Env) (ts : Array Value), SeesD [] ⟨ts, []⟩ n e → (∀ p ∈ l, p.1 < n) → SeesD [] ⟨l.foldl (fun tmps (p : Nat × Value) => tmps.setIfInBounds p.1 p.2) ts, []⟩ n (putsE l e)
  | [], _, _, h, _ => h
  | (t, v) :: l, e, ts, h, hl => by
    have h1 : SeesD [] (Act.put ⟨ts, []⟩ (some t) v) n (putE t v e) := h.put (hl (t, v) List.mem_cons_self)
    exact SeesD.puts l _ _ h1 fun p hp => hl p (by simp [hp])

/-- A ROUND's CONTRACT: the assignments, then the body, in a round's frame. -/
theorem f_round {l : Nat} {r : Lp} {js : List Code} {args : List Value} {R : Value → World → Prop} {n : Nat} {e0 e : Env} {defs0 : List Deferred} {a0 : Act}
    (h0 : SeesD defs0 a0 n e0) (ht : r.tmps = a0.tmps) (ps : List Tmp) (hps : r.ps = ps.toArray) (hsz : Nat.beq args.length ps.length = true) (hb : (ps.all fun t => Nat.blt t n) = true) (ks : List Nat) (he : pickE (putsE (ps.zip args) e0) ks = some e)
    (hw : St g w L ih) (k : Nat) (hk : L[k]? = some (lpo l r js 0))
    (h : ∀ (a : Act) (Qr : Exit → Act → World → Prop),
      (∀ e a w, roundPost P l (fun e w' => match e with | .returned v => R v w' | _ => False) e a w → Qr e a w) → Sees a n e →
      r.assign.wpIn (FR (some l)) 0 P (Exit.then (fun a₁ w₁ => ∃ w₂, (Instr.beginRound l).run P w₁ = .ok () w₂ ∧ r.body.wpIn (FR (some l)) 0 P Qr a₁ w₂) (fun _ _ _ => False)) a w) :
    RoundR P l r args.toArray w R := by
  refine ⟨by rw [hps]; simpa using Nat.eq_of_beq_eq_true hsz, roundIn_of_wpIn (F := Fence.wide) trivial ?_⟩
  have hf : (r.ps.zip args.toArray).foldl (fun tmps (t, a) => tmps.setIfInBounds t a) r.tmps = (ps.zip args).foldl (fun tmps (p : Nat × Value) => tmps.setIfInBounds p.1 p.2) a0.tmps := by
    rw [hps, ht, List.zip_toArray, List.foldl_toArray]
  rw [hf]
  have hs : SeesD [] ⟨a0.tmps, []⟩ n e0 := ⟨h0.sz, rfl, h0.at_⟩
  have hs2 := SeesD.puts (ps.zip args) e0 a0.tmps hs fun p hp => by
    have := List.all_eq_true.1 hb p.1 (List.of_mem_zip hp).1
    exact Nat.le_of_ble_eq_true this
  exact h _ _ (fun _ _ _ q => q) (hs2.cast ks he)
theorem begin_round {l : Nat} {r : Lp} {js : List Code} {K : World → Prop} (hw : St g w L ih) (k : Nat) (hk : L[k]? = some (lpo l r js 0)) (next : ∀ w', St g w' (L.set k (lpb l r)) ih → K w') : ∃ w₂, (Instr.beginRound l).run P w = .ok () w₂ ∧ K w₂ :=
  ⟨_, run_beginRound (hw.at1 k hk) rfl, next _ (hw.put k hk)⟩
/-- off the body's end -/
theorem end_round {l : Nat} {r : Lp} (js : List Code) {R : Value → World → Prop} (hw : St g w L ih) (k : Nat) (hk : L[k]? = some (lpb l r)) (next : ∀ w', St g w' (L.set k (lpo l r js 0)) ih → R (.bool true) w') :
    roundPost P l (fun e w' => match e with | .returned v => R v w' | _ => False) .normal a w :=
  ⟨_, _, run_endRound none (hw.at1 k hk), next _ (hw.put k hk)⟩
theorem jumpSt {l : Nat} {r : Lp} (js : List Code) (x : Int) {c : Code} (hx : (decide (x = 0)) = false) (hj : jumpOf js x = some c) (hw : St g w L ih) (k : Nat) (hk : L[k]? = some (lpb l r)) : St g (w.putObj l (.loop { r.loop .busy none with state := if (some c).isNone then .ready else .done, pending := some c })) (L.set k (lpo l r js x)) ih := by
  have := hw.put k hk (o' := .loop { r.loop .busy none with state := if (some c).isNone then .ready else .done, pending := some c })
  have e : lpo l r js x = [(l, .loop { r.loop .busy none with state := if (some c).isNone then .ready else .done, pending := some c })] := by
    unfold lpo
    rw [if_neg (by simpa using hx), hj]; rfl
  rw [e]; exact this
theorem end_ret {l : Nat} {r : Lp} (js : List Code) (x : Int) {R : Value → World → Prop} (hx : (decide (x = 0)) = false) (hj : jumpOf js x = some .ret) (hw : St g w L ih) (k : Nat) (hk : L[k]? = some (lpb l r)) (next : ∀ w', St g w' (L.set k (lpo l r js x)) ih → R (.bool false) w') :
    roundPost P l (fun e w' => match e with | .returned v => R v w' | _ => False) .ret a w :=
  ⟨_, _, run_endRound (some .ret) (hw.at1 k hk), next _ (jumpSt js x hx hj hw k hk)⟩
theorem end_exit {l id : Nat} {r : Lp} (js : List Code) (x : Int) {R : Value → World → Prop} (hx : (decide (x = 0)) = false) (hj : jumpOf js x = some (.exit id)) (hw : St g w L ih) (k : Nat) (hk : L[k]? = some (lpb l r)) (next : ∀ w', St g w' (L.set k (lpo l r js x)) ih → R (.bool false) w') :
    roundPost P l (fun e w' => match e with | .returned v => R v w' | _ => False) (.exit id) a w :=
  ⟨_, _, run_endRound (some (.exit id)) (hw.at1 k hk), next _ (jumpSt js x hx hj hw k hk)⟩

def markD (d : Nat) : Deferred := { target := .collected d, args := #[] }
/-- THE STATEMENT, in a plain frame: the record, the block, the call of the function at yield; then the jump. -/
theorem c_range {f : Operand} {ps : List Tmp} {assign body : Code} (hs : SeesD dfs a n e) (hk : knownE e [f] = true) {gf : FuncId} {cap : Array Value} (hf : ev e f = .func (.func gf) #[] cap) (args : Nat → Array Value) (hargs : ∀ l, #[.func (.yield l) #[] #[]] ++ cap = args l) (heq : ∀ args w, (callFunc gf args).run P w = .ok (.enter gf args) w)
    (hw : St g w L ih) (js : List Code)
    (h : ∀ (l : Nat) (r : Lp) (w' : World), r.tmps = a.tmps → r.ps = ps.toArray → r.assign = assign → r.body = body → St g w' (lpo l r js 0 :: dfo r.df :: L) ih →
      CallsR P gf (args l) w' fun _ w3 => ∃ (x : Int) (L' : List Ch) (ih' : IH) (k : Nat), St g w3 L' ih' ∧ L'[k]? = some (lpo l r js x) ∧
        ∀ (a' : Act) (w4 : World), SeesD (markD r.df :: dfs) a' n e → St g w4 (L'.set k []) ih' → match jumpOf js x with | none => Q .normal a' w4 | some c => c.wpIn (FR none) 0 P Q a' w4) :
    (Code.rangeFunc f ps.toArray assign body).wpIn (FR none) 0 P Q a w := by
  simp only [← hargs] at h
  refine wpIn_rangeFunc fun fn hfn => ?_
  have hg : a.eval f = .func (.func gf) #[] cap := by rw [hs.eval hk f (by simp), hf]
  obtain ⟨r, hr⟩ : ∃ r : Lp, r = ⟨fn, a.tmps, ps.toArray, assign, body, w.heap.size⟩ := ⟨_, rfl⟩
  obtain ⟨W1, hW1⟩ : ∃ W1, (w.alloc (.deferred (some []))).alloc (.loop (r.loop .ready none)) = W1 := ⟨_, rfl⟩
  have hst : St g W1 (lpo (w.heap.size + 1) r js 0 :: dfo r.df :: L) ih := by
    have h1 := (hw.new (.deferred (some []))).new (.loop (r.loop .ready none))
    rw [World.size_alloc, hW1] at h1
    rw [hr] at h1 ⊢
    exact h1
  refine ⟨w.heap.size + 1, [markD w.heap.size], W1, { target := .fn (.func gf) cap, args := #[.func (.yield (w.heap.size + 1)) #[] #[]] }, W1, gf,
    #[.func (.yield (w.heap.size + 1)) #[] #[]] ++ cap, W1, ?_, ?_, fun _ _ => trivial, ?_, (fun h => by cases h), ?_⟩
  · rw [← hW1, hr]; exact run_enterLoop_outer _ _ _ _ _
  · simp only [resolve, hg, Deferred.ofValue]
    simp
    rfl
  · simp only [invoke, heq]
  · have hc := h (w.heap.size + 1) r W1 (by rw [hr]) (by rw [hr]) (by rw [hr]) (by rw [hr]) hst
    refine callsIn_wide.2 (Calls.mono hc fun e' w3 he => ?_)
    cases e' with
    | panicked c => exact he.elim
    | outgrown => exact he.elim
    | returned v =>
      obtain ⟨x, L', ih', k, hw3, hk3, hfin⟩ := he
      have hl := hw3.at1 k hk3
      have hw4 : St g (w3.putObj (w.heap.size + 1) (.loop { r.loop (if x = 0 then .ready else .done) (jumpOf js x) with state := .exhausted })) (L'.set k []) ih' := by
        have h5 := hw3.put k hk3 (o' := .loop { r.loop (if x = 0 then .ready else .done) (jumpOf js x) with state := .exhausted })
        exact h5.drop k
      refine ⟨jumpOf js x, _, run_endLoop hl (by unfold Lp.loop; split <;> simp), ?_⟩
      have hs' : SeesD (markD r.df :: dfs) { a with defers := [markD w.heap.size] ++ a.defers } n e := ⟨hs.sz, by rw [hr]; simp [hs.df, markD], hs.at_⟩
      exact hfin _ _ hs' hw4

/-- a function with marks among its deferred calls -/
theorem f_inM {f : FuncId} {fn : Func} {c : Code} {vs : List Value} {R : Value → World → Prop} (hf : P.funcs[f]? = some fn) (hb : fn.body = some c) (n : Nat) (hn : fn.ntmps = n) (hsz : Nat.ble vs.length n = true) (e : Env) (he : (vs.zipIdx.map fun (v, i) => (i, v)) = e)
    (h : ∀ (a : Act) (Qf : Exit → Act → World → Prop), (∀ a w, bodyPostM Fence.wide 0 P fn (fun e w' => match e with | .returned v => R v w' | _ => False) .ret a w → Qf .ret a w) → (∀ a w, bodyPostM Fence.wide 0 P fn (fun e w' => match e with | .returned v => R v w' | _ => False) .ret a w → Qf .normal a w) → Sees a n e → c.wpIn (FR none) 0 P Qf a w) : CallsR P f vs.toArray w R := by
  have hsees : Sees { tmps := vs.toArray ++ Array.replicate (fn.ntmps - vs.toArray.size) undef, defers := [] } n e := by
    subst he
    refine ⟨by have := Nat.le_of_ble_eq_true hsz; simp [hn]; omega, rfl, fun t v hv => ?_⟩
    have key : ∀ (vs : List Value) (k t : Nat) (v : Value), lk ((vs.zipIdx k).map fun (v, i) => (i, v)) t = some v → k ≤ t ∧ vs[t - k]? = some v := by
      intro vs
      induction vs with
      | nil => intro k t v h; simp [lk] at h
      | cons x vs ihv =>
        intro k t v h
        simp only [List.zipIdx_cons, List.map_cons, lk] at h
        cases hb : Nat.beq k t with
        | true =>
          rw [hb] at h; simp only [cond_true, Option.some.injEq] at h
          have := Nat.eq_of_beq_eq_true hb
          subst this; subst h
          exact ⟨Nat.le_refl _, by simp⟩
        | false =>
          rw [hb] at h; simp only [cond_false] at h
          obtain ⟨h1, h2⟩ := ihv (k + 1) t v h
          refine ⟨by omega, ?_⟩
          rw [show t - k = (t - (k + 1)) + 1 by omega, List.getElem?_cons_succ]; exact h2
    have h1 := (key vs 0 t v hv).2
    rw [Nat.sub_zero] at h1
    simp only [Array.getD_eq_getD_getElem?]
    have hlt := (List.getElem?_eq_some_iff.1 h1).1
    rw [Array.getElem?_append_left (by simpa using hlt)]
    simp [h1]
  exact callsIn_wide.1 (callsIn_of_wp_marks (F := Fence.wide) (n := 0) hf hb trivial (h _ _ (fun _ _ h => h) (fun _ _ h => h) hsees))
theorem f_ret0 {fn : Func} {R : Ending → World → Prop} (hs : Sees a n e) (h : bodyPost P fn R .ret a w) : bodyPostM Fence.wide 0 P fn R .ret a w := by
  show LeavesInM Fence.wide 0 P fn a.tmps R a.defers .returning w
  rw [hs.df]
  exact h.2
theorem f_retM {fn : Func} {R : Ending → World → Prop} {d : Nat} (hs : SeesD [markD d] a n e) (hw : St g w L ih) (k : Nat) (hk : L[k]? = some (dfo d)) (h : ∀ (a' : Act) (w' : World), Sees a' n e → St g w' (L.set k []) ih → bodyPost P fn R .ret a' w') : bodyPostM Fence.wide 0 P fn R .ret a w := by
  show LeavesInM Fence.wide 0 P fn a.tmps R a.defers .returning w
  rw [hs.df]
  unfold LeavesInM
  refine ⟨(fun h => by cases h), .inl ⟨d, _, rfl, run_takeDeferred (hw.at1 k hk), ?_⟩⟩
  have h1 := h { a with defers := [] } _ ⟨hs.sz, rfl, hs.at_⟩ ((hw.put (o' := .deferred none) k hk).drop k)
  exact h1.2

theorem have_then {p q : Prop} (h : p) (f : p → q) : q := f h
theorem range_none {js : List Code} {x : Int} (h : (x == 0) = true) (hq : Q .normal a w) : match jumpOf js x with | none => Q .normal a w | some c => c.wpIn (FR none) 0 P Q a w := by
  have : x = 0 := by simpa using h
  subst this
  exact hq
theorem range_some {js : List Code} {x : Int} (i : Int) {c : Code} (h : (x == i) = true) (hj : jumpOf js i = some c) (hq : c.wpIn (FR none) 0 P Q a w) : match jumpOf js x with | none => Q .normal a w | some c => c.wpIn (FR none) 0 P Q a w := by
  have : x = i := by simpa using h
  subst this
  rw [hj]; exact hq
theorem CallsR.mono {f : FuncId} {args : Array Value} {R R' : Value → World → Prop} (h : CallsR P f args w R) (hr : ∀ v w', R v w' → R' v w') : CallsR P f args w R' :=
  Calls.mono h fun e w' he => by
    cases e with
    | returned v => exact hr v w' he
    | panicked c => exact he
    | outgrown => exact he

end Go.Proofs.YteiinkhbgpldeaaGreatDoor.Sx
