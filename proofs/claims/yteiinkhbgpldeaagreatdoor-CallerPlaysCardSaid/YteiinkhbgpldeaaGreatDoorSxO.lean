/- Atomic words, deferred calls, a table by an index. Conditions: those ahead of each colon. -/
import Derived.Test.YteiinkhbgpldeaaGreatDoorSxS
import Derived.Test.YteiinkhbgpldeaaGreatDoorSxR
import Derived.Laws.LoneSync
import Derived.DefersIn
set_option linter.unusedSimpArgs false
set_option linter.unusedVariables false
namespace Go.Proofs.YteiinkhbgpldeaaGreatDoor.Sx
open Go
variable {P : Program} {ops : Array Oper} {Q : Exit → Act → World → Prop} {n : Nat} {g w : World} {L : List Ch} {ih : IH} {a : Act} {e : Env} {rest : List Oper} {dfs : List Deferred} {ro : Option Nat}
theorem St.cell1 (hw : St g w L ih) (k : Nat) {b : Nat} {cs : List Value} {T : TypeId} (hk : L[k]? = some (bx b cs T)) {j : Nat} {v : Value} (hj : cs[j]? = some v) : w.cell? ⟨b, j, none⟩ = some v := by
  unfold World.cell?
  simp only [hw.at1 k hk]
  simpa using hj
theorem St.thaw1 (hw : St g w L ih) (k : Nat) {b : Nat} {cs : List Value} {T : TypeId} (hk : L[k]? = some (bx b cs T)) (j : Nat) : w.frozen? ⟨b, j, none⟩ = false := by
  unfold World.frozen?
  simp only [hw.at1 k hk]
  simp
theorem St.setc (hw : St g w L ih) (k : Nat) {b : Nat} {cs : List Value} {T : TypeId} (hk : L[k]? = some (bx b cs T)) (j : Nat) (v : Value) : St g (w.setCell ⟨b, j, none⟩ v) (L.set k (bx b (cs.set j v) T)) ih := by
  have hb := hw.at1 k hk
  refine hw.turn k hk rfl rfl rfl ?_ ?_
  · simp only [World.setCell, Array.getElem?_modify, if_true, hb, Option.map_some]
    simp
  · intro m hm
    simp only [World.setCell, Array.getElem?_modify]
    rw [if_neg (fun h => hm h.symm)]
theorem QhG {f : FuncId} {xs : Array Operand} {ats : Array TypeId} {ty : TypeId} {dst : Option Tmp} {pos : String} {af : Array Edge} {gd : Option (Nat × Bool)} {vs : Array Value} {v : Value} {w' : World} (hx : xs.map (ev e) = vs) (h : (callFunc f vs).run P w = .ok (.value v) w') :
    (execOp (ev e) ⟨dst, .call ⟨.value (.func f), xs, ats⟩, ty, pos, af, gd⟩).run P w = .ok (.value v) w' := by
  simp only [execOp, resolve, ev, Deferred.ofValue, Sem.run_bind, Sem.run_pure, Result.andThen_ok, invoke, hx]
  simpa using h
variable {f : FuncId} {fn : Func} {xs : Array Operand} {ats : Array TypeId} {ty : TypeId} {dst : Option Tmp} {pos : String} {af : Array Edge} {gd : Option (Nat × Bool)}
theorem QhH (hw : St g w L ih) (hf : P.funcs[f]? = some fn) (hname : (fn.name == "runtime.NumGoroutine") = false) (hb : fn.body.isNone = true) (hn : Extern.findNext fn = none) (kd : IntKind) (he : Extern.find fn = some (Extern.Atomic.loadT (.int kd))) (k : Nat) {b : Nat} {cs : List Value} {T : TypeId} (hk : L[k]? = some (bx b cs T)) (j : Nat) {x : Int} (hj : cs[j]? = some (.int kd x)) (hx : xs.map (ev e) = #[.pointer (some ⟨b, j, none⟩)]) :
    (execOp (ev e) ⟨dst, .call ⟨.value (.func f), xs, ats⟩, ty, pos, af, gd⟩).run P w = .ok (.value (.int kd x)) w :=
  QhG hx (run_call_load hf hname hb hn kd he (hw.cell1 k hk hj))
theorem QiH (hw : St g w L ih) (hf : P.funcs[f]? = some fn) (hname : (fn.name == "runtime.NumGoroutine") = false) (hb : fn.body.isNone = true) (hn : Extern.findNext fn = none) (kd : IntKind) (he : Extern.find fn = some Extern.Atomic.storeT) (k : Nat) {b : Nat} {cs : List Value} {T : TypeId} (hk : L[k]? = some (bx b cs T)) (j : Nat) {x : Value} (hj : cs[j]? = some x) (y : Int) (hx : xs.map (ev e) = #[.pointer (some ⟨b, j, none⟩), .int kd y]) :
    ∃ w', (execOp (ev e) ⟨dst, .call ⟨.value (.func f), xs, ats⟩, ty, pos, af, gd⟩).run P w = .ok (.value (.tuple #[])) w' ∧ St g w' (L.set k (bx b (cs.set j (.int kd y)) T)) ih :=
  ⟨_, QhG hx (run_call_store hf hname hb hn he (hw.cell1 k hk hj) (hw.thaw1 k hk j)), hw.setc k hk j _⟩
theorem Qlb (hw : St g w L ih) (hf : P.funcs[f]? = some fn) (hname : (fn.name == "runtime.NumGoroutine") = false) (hb : fn.body.isNone = true) (hn : Extern.findNext fn = none) (kd : IntKind) (he : Extern.find fn = some (Extern.Atomic.casT (.int kd))) (k : Nat) {b : Nat} {cs : List Value} {T : TypeId} (hk : L[k]? = some (bx b cs T)) (j : Nat) {x : Int} (hj : cs[j]? = some (.int kd x)) (y : Int) (hx : xs.map (ev e) = #[.pointer (some ⟨b, j, none⟩), .int kd x, .int kd y]) :
    ∃ w', (execOp (ev e) ⟨dst, .call ⟨.value (.func f), xs, ats⟩, ty, pos, af, gd⟩).run P w = .ok (.value (.bool true)) w' ∧ St g w' (L.set k (bx b (cs.set j (.int kd y)) T)) ih :=
  ⟨_, QhG hx (run_call_cas_hit hf hname hb hn kd he (hw.cell1 k hk hj) (hw.thaw1 k hk j)), hw.setc k hk j _⟩
theorem Qlc (hw : St g w L ih) (hf : P.funcs[f]? = some fn) (hname : (fn.name == "runtime.NumGoroutine") = false) (hb : fn.body.isNone = true) (hn : Extern.findNext fn = none) (kd : IntKind) (he : Extern.find fn = some (Extern.Atomic.update (Op.intArith .add) kd true)) (k : Nat) {b : Nat} {cs : List Value} {T : TypeId} (hk : L[k]? = some (bx b cs T)) (j : Nat) {x : Int} (hj : cs[j]? = some (.int kd x)) (y s : Int) (hx : xs.map (ev e) = #[.pointer (some ⟨b, j, none⟩), .int kd y]) (hs : det P (Op.intArith .add kd x y) = some (.int kd s)) :
    ∃ w', (execOp (ev e) ⟨dst, .call ⟨.value (.func f), xs, ats⟩, ty, pos, af, gd⟩).run P w = .ok (.value (.int kd s)) w' ∧ St g w' (L.set k (bx b (cs.set j (.int kd s)) T)) ih :=
  ⟨_, QhG hx (run_call_add hf hname hb hn kd he (hw.cell1 k hk hj) (hw.thaw1 k hk j) (Qae hs w)), hw.setc k hk j _⟩
theorem QgZ (hf : P.funcs[f]? = some fn) (hname : (fn.name == "runtime.NumGoroutine") = false) (hb : fn.body.isNone = true) (hn : Extern.findNext fn = none) (m : Mark) (he : Extern.find fn = some (fun _ => do mark m; pure Extern.Race.none_)) (hx : xs.map (ev e) = #[]) :
    (execOp (ev e) ⟨dst, .call ⟨.value (.func f), xs, ats⟩, ty, pos, af, gd⟩).run P w = .ok (.value (.tuple #[])) w :=
  QhG hx (run_call_mark0 hf hname hb hn m he w)
theorem Qi3 (hf : P.funcs[f]? = some fn) (hname : (fn.name == "runtime.NumGoroutine") = false) (hb : fn.body.isNone = true) (hn : Extern.findNext fn = none) (m : Addr → Mark) (he : Extern.find fn = some (Extern.Race.marked m)) {q : Addr} (hx : xs.map (ev e) = #[.pointer (some q)]) :
    (execOp (ev e) ⟨dst, .call ⟨.value (.func f), xs, ats⟩, ty, pos, af, gd⟩).run P w = .ok (.value (.tuple #[])) w :=
  QhG hx (run_call_marked hf hname hb hn m he q w)
theorem QfF {o : Oper} {v : Value} (hs : SeesD dfs a n e) (hok : okE ops n e o = true) (hr : (execOp (ev e) o).run P w = .ok (.value v) w) (next : ∀ a', SeesD dfs a' n (putO o.dst v e) → wpList P ops Q rest a' w) : wpList P ops Q (o :: rest) a w := QbQ hs hok hr next
theorem Ql0 {o : Oper} {v : Value} {L' : List Ch} (hs : SeesD dfs a n e) (hok : okE ops n e o = true) (hr : ∃ w', (execOp (ev e) o).run P w = .ok (.value v) w' ∧ St g w' L' ih) (next : ∀ a' w', SeesD dfs a' n (putO o.dst v e) → St g w' L' ih → wpList P ops Q rest a' w') : wpList P ops Q (o :: rest) a w := by
  obtain ⟨w', h1, h2⟩ := hr
  exact QbQ hs hok h1 fun a' ha' => next a' w' ha' h2
theorem Ql5 {i : Nat} {o : Oper} {v : Value} {L' : List Ch} {K : Act → World → Prop} (hs : SeesD dfs a n e) (hi : ops[i]? = some o) (hok : okE ops n e o = true) (hr : ∃ w', (execOp (ev e) o).run P w = .ok (.value v) w' ∧ St g w' L' ih) (next : ∀ a' w', SeesD dfs a' n (putO o.dst v e) → St g w' L' ih → K a' w') : wpOp P ops Q i K a w := by
  obtain ⟨w', h1, h2⟩ := hr
  exact QlM hs hi hok h1 fun a' ha' => next a' w' ha' h2
theorem Qi4 (hw : St g w L ih) {src d t : TypeId} {x : Operand} (h1 : P.underlying src = some (.pointer t)) (h2 : P.underlying d = some .unsafePointer) (h3 : (P.info? t).map (fun i => decide (i.size = 0)) = some false) (k : Nat) {b : Nat} {cs : List Value} {T : TypeId} (hk : L[k]? = some (bx b cs T)) (j : Nat) {v : Value} (hj : cs[j]? = some v) (hx : ev e x = .pointer (some ⟨b, j, none⟩)) :
    (execOp (ev e) ⟨dst, .convert src d x, ty, pos, af, gd⟩).run P w = .ok (.value (.pointer (some ⟨b, j, none⟩))) w := by
  simp only [execOp]
  refine runv ?_
  rw [hx]; exact run_convert_to_unsafe h1 h2 h3 (hw.cell1 k hk hj)
theorem RSl.ofEL {E : ET} {b : Nat} {cs : List Value} {T : TypeId} {zs : List E.α} (h : Glob b cs T ih) (he : EL E ih zs cs) : RSl E ih [] (some ⟨b, 0, none⟩) zs.length zs := by
  obtain ⟨T, fr, h⟩ := h
  obtain ⟨h1, h2⟩ := he.get
  refine ⟨Nat.le_refl _, fun _ => ⟨rfl, cs.toArray, T, fr, .inl h, fun i x hx => ?_⟩⟩
  obtain ⟨cs', h3, h4⟩ := h2 i x hx
  exact ⟨cs', h3, fun j v hj => by rw [Nat.zero_add]; simpa using h4 j v hj⟩
theorem Qkt {t el : TypeId} {len : Nat} {k : IntKind} {i : Int} {sz : Nat} {q : Addr} (ht : det P (underlying t) = some (.array len el)) (hsz : det P (sizeOf el) = some sz) (h0 : 0 ≤ i) (h1 : i < len) :
    (Instr.indexAt t (.pointer (some q)) (.int k i)).run P w = .ok (.pointer (some (q.add (i.toNat * sz)))) w := by
  unfold Instr.indexAt
  rw [run_bind (a := (k, i)) (w' := w) rfl, run_bind (Qae ht w)]
  simp only
  rw [run_bind (s := Instr.sureAddr _) (a := q) (w' := w) rfl]
  rw [run_bind (a := (some q, len, el)) (w' := w) rfl]
  simp only
  rw [run_bind (Qae ht w)]
  simp only [h0, h1, and_self, if_true]
  rw [run_bind (Qae hsz w)]
  rfl
theorem Qka {t : TypeId} {x y : Operand} (hs : SeesD dfs a n e) {E : ET} {c : Ch} {q : Addr} {cap : Nat} {xs : List E.α} (hr : RSl E ih c (some q) cap xs)
    (hok : okE ops n e ⟨dst, .indexAddr t x y, ty, pos, af, gd⟩ = true) (hx : ev e x = .pointer (some q)) {k : IntKind} {i : Int} (hy : ev e y = .int k i) (el : TypeId) (ht : det P (underlying t) = some (.array xs.length el)) (hsz : det P (sizeOf el) = some E.sz)
    {z : E.α} (hz : ix xs i = some z)
    (next : ∀ a' r cs, E.enc ih z cs → (∀ w, Vw w c ih → At w r cs) → SeesD dfs a' n (putO dst (.pointer (some r)) e) → wpList P ops Q rest a' w) : wpList P ops Q (⟨dst, .indexAddr t x y, ty, pos, af, gd⟩ :: rest) a w := by
  obtain ⟨h0, h1, h2⟩ := Qkx hz
  obtain ⟨q', hp, cs, he, hat⟩ := hr.el h2
  cases hp
  exact QbQ hs hok (by
    simp only [execOp]
    refine runv ?_
    rw [hx, hy]
    exact Qkt ht hsz h0 h1) fun a' ha' => next a' _ cs he hat ha'
def CallsDR (P : Program) (f : FuncId) (args : Array Value) (w : World) (R : Value → World → Prop) : Prop :=
  CallsDIn Fence.wide 0 P f args .returning w fun e u' w' => u' = .returning ∧ match e with | .returned v => R v w' | _ => False
theorem Qk5 {vs : List Value} {n m : Nat} (hm : m = n) (hsz : Nat.ble vs.length n = true) {e : Env} (he : (vs.zipIdx.map fun (v, i) => (i, v)) = e) : Sees { tmps := vs.toArray ++ Array.replicate (m - vs.toArray.size) undef, defers := [] } n e := by
  subst he
  refine ⟨by have := Nat.le_of_ble_eq_true hsz; simp [hm]; omega, rfl, fun t v hv => ?_⟩
  have key : ∀ (vs : List Value) (k t : Nat) (v : Value), lk ((vs.zipIdx k).map fun (v, i) => (i, v)) t = some v → k ≤ t ∧ vs[t - k]? = some v := by
    intro vs
    induction vs with
    | nil => intro k t v h; simp [lk] at h
    | cons x vs ihv =>
      intro k t v h
      simp only [List.zipIdx_cons, List.map_cons, lk] at h
      cases hb : Nat.beq k t with
      | true =>
        rw [hb] at h; simp only [cond_true, Option.some.injEq] at h
        have := Nat.eq_of_beq_eq_true hb
        subst this; subst h
        exact ⟨Nat.le_refl _, by simp⟩
      | false =>
        rw [hb] at h; simp only [cond_false] at h
        obtain ⟨h1, h2⟩ := ihv (k + 1) t v h
        refine ⟨by omega, ?_⟩
        rw [show t - k = (t - (k + 1)) + 1 by omega, List.getElem?_cons_succ]; exact h2
  have := (key vs 0 t v hv).2
  have hlt := (List.getElem?_eq_some_iff.1 this).1
  simp only [Array.getD_eq_getD_getElem?]
  rw [Array.getElem?_append_left (by simpa using hlt)]
  rw [Nat.sub_zero] at this
  simp [this]
theorem QmR {c : Code} {vs : List Value} {R : Value → World → Prop} (hf : P.funcs[f]? = some fn) (hb : fn.body = some c) (n : Nat) (hn : fn.ntmps = n) (hsz : Nat.ble vs.length n = true) (e : Env) (he : (vs.zipIdx.map fun (v, i) => (i, v)) = e)
    (h : ∀ (a : Act) (Qf : Exit → Act → World → Prop), (∀ a w, bodyPost P fn (fun e w' => match e with | .returned v => R v w' | _ => False) .ret a w → Qf .ret a w) → (∀ a w, bodyPost P fn (fun e w' => match e with | .returned v => R v w' | _ => False) .ret a w → Qf .normal a w) → Sees a n e → c.wpIn (FR none) 0 P Qf a w) : CallsDR P f vs.toArray w R :=
  callsDIn_of_wp (F := Fence.wide) hf hb trivial (h _ _ (fun _ _ h => h) (fun _ _ h => h) (Qk5 hn hsz he))
theorem QmQ {c : Code} {vs : List Value} {R : Value → World → Prop} (hf : P.funcs[f]? = some fn) (hb : fn.body = some c) (n : Nat) (hn : fn.ntmps = n) (hsz : Nat.ble vs.length n = true) (e : Env) (he : (vs.zipIdx.map fun (v, i) => (i, v)) = e)
    (h : ∀ (a : Act) (Qf : Exit → Act → World → Prop), (∀ a w, bodyPostDIn Fence.wide 0 P fn (fun e w' => match e with | .returned v => R v w' | _ => False) .ret a w → Qf .ret a w) → (∀ a w, bodyPostDIn Fence.wide 0 P fn (fun e w' => match e with | .returned v => R v w' | _ => False) .ret a w → Qf .normal a w) → Sees a n e → c.wpIn (FR none) 0 P Qf a w) : CallsR P f vs.toArray w R :=
  callsIn_wide.1 (callsIn_of_wp_defers (F := Fence.wide) hf hb trivial (h _ _ (fun _ _ h => h) (fun _ _ h => h) (Qk5 hn hsz he)))
theorem Qla {R : Ending → World → Prop} (hs : SeesD dfs a n e) (h : LeavesIn Fence.wide 0 P fn a.tmps R dfs .returning w) : bodyPostDIn Fence.wide 0 P fn R .ret a w := by
  show LeavesIn Fence.wide 0 P fn a.tmps R a.defers .returning w
  rw [hs.df]; exact h
theorem QhE {R : Ending → World → Prop} {R' : Value → World → Prop} {tmps : Array Value} {vs : Array Value} {ds : List Deferred} (hi : det P (invoke (.fn (.func f) #[]) vs) = some (.enter f vs)) (h : CallsDR P f vs w R') (next : ∀ v w', R' v w' → LeavesIn Fence.wide 0 P fn tmps R ds .returning w') :
    LeavesIn Fence.wide 0 P fn tmps R (⟨.fn (.func f) #[], vs⟩ :: ds) .returning w := by
  refine ⟨by simp, (fun h => by cases h), .func f, #[], f, vs, rfl, Qae hi w, fun _ _ => trivial, h.1, fun c cs hc hr => ?_⟩
  obtain ⟨e, u', w', fr, ⟨hu, hR⟩, h2⟩ := h.2 c cs hc hr
  refine ⟨e, u', w', fr, ?_, h2⟩
  subst hu
  cases e with
  | returned v => exact next v w' hR
  | panicked c => exact hR.elim
  | outgrown => exact hR.elim
theorem QjI {R : Value → World → Prop} {tmps : Array Value} (hf : fn.results = #[]) (h : R (.tuple #[]) w) : LeavesIn Fence.wide 0 P fn tmps (fun e w' => match e with | .returned v => R v w' | _ => False) [] .returning w := by
  refine ⟨.tuple #[], ?_, h⟩
  unfold results
  rw [hf, run_bind (a := #[]) (w' := w)]
  · rfl
  · rw [show (#[] : Array ResultVar) = ([] : List ResultVar).toArray from rfl, List.mapM_toArray]
    show (Array.mk <$> _ : Sem _).run P w = _
    rw [map_eq_pure_bind, run_bind (a := []) (w' := w)]
    · rfl
    · rfl
theorem Qja {w : World} : ∀ (k : Nat) (l : List Oper) (e e' : Env) (a : Act), SeesD dfs a n e → runs P ops n k l e = some e' →
    (∀ a', SeesD dfs a' n e' → wpListIn (FR ro) 0 P ops Q (l.drop k) a' w) → wpListIn (FR ro) 0 P ops Q l a w
  | 0, l, e, e', a, hs, h, next => by simp only [runs, Option.some.injEq] at h; subst h; exact next a hs
  | k + 1, [], e, e', a, hs, h, next => by simp [runs] at h
  | k + 1, o :: rest, e, e', a, hs, h, next => by
    simp only [runs] at h
    cases hw : wantedE ops e o with
    | none => rw [hw] at h; cases h
    | some b =>
      rw [hw] at h
      have hwd := hs.wanted hw
      cases b with
      | false =>
        simp only at h
        cases hb : inB n o.dst with
        | false => rw [hb] at h; cases h
        | true =>
          rw [hb] at h; simp only [cond_true] at h
          unfold wpListIn; rw [if_neg (by rw [hwd]; decide)]
          exact ⟨fun f _ => QkJ ro f, Qja k rest _ e' _ (hs.putO hb) h next⟩
      | true =>
        simp only at h
        cases hb : (inB n o.dst && noSel o.op && knownE e o.op.operands.toList) with
        | false => rw [hb] at h; cases h
        | true =>
          rw [hb] at h; simp only [cond_true] at h
          simp only [Bool.and_eq_true] at hb
          obtain ⟨⟨hb, hn⟩, hk⟩ := hb
          unfold wpListIn; rw [if_pos hwd]
          cases hd : det P (execOp (ev e) o) with
          | none => rw [hd] at h; cases h
          | some nx =>
            rw [hd] at h
            have hr := Qae hd w
            rw [← hs.exec o hk hn] at hr
            refine opW (next := fun a w => wpListIn (FR ro) 0 P ops Q rest a w) (fun _ _ h => h) (Qh6 hn) ?_
            rw [hr]
            cases nx <;> simp only at h <;> try (cases h; done)
            · exact Qja k rest _ e' _ (hs.putO hb) h next
            · exact Qja k rest _ e' _ (hs.putO hb) h next
theorem Ql8 {id : Nat} {l : List Oper} (hs : SeesD dfs a n e) (k : Nat) (ks : List Nat) (e' : Env) (h : (runs P l.toArray n k l e).map (keepE ks) = some e') (hd : l.drop k = [⟨none, .defer ⟨.value (.func f), xs, ats⟩, ty, pos, af, gd⟩])
    (hg : wantedE l.toArray e' ⟨none, .defer ⟨.value (.func f), xs, ats⟩, ty, pos, af, gd⟩ = some true) (hkn : knownE e' (Op.defer ⟨.value (.func f), xs, ats⟩).operands.toList = true) {vs : Array Value} (hx : xs.map (ev e') = vs)
    (next : ∀ a', SeesD (⟨.fn (.func f) #[], vs⟩ :: dfs) a' n e' → Q .normal a' w) : (Code.region id l.toArray false).wpIn (FR none) 0 P Q a w := by
  refine wpIn_region_lit ?_
  cases hr : runs P l.toArray n k l e with
  | none => rw [hr] at h; cases h
  | some e1 =>
    rw [hr] at h; simp only [Option.map_some, Option.some.injEq] at h
    refine Qja k l e e1 a hs hr fun a1 ha1 => ?_
    have ha := ha1.keep ks
    rw [h] at ha
    rw [hd]
    unfold wpListIn
    rw [if_pos (ha.wanted hg)]
    refine ⟨fun f _ => QkJ none f, ?_⟩
    have hex : execOp a1.eval ⟨none, .defer ⟨.value (.func f), xs, ats⟩, ty, pos, af, gd⟩ = execOp (ev e') ⟨none, .defer ⟨.value (.func f), xs, ats⟩, ty, pos, af, gd⟩ :=
      execOp_congr _ (fun cs b he => by cases he) fun x hx => ha.eval hkn x (by simpa using hx)
    have hsem : Oper.semAt (FR none).round a1.eval ⟨none, .defer ⟨.value (.func f), xs, ats⟩, ty, pos, af, gd⟩ = execOp a1.eval ⟨none, .defer ⟨.value (.func f), xs, ats⟩, ty, pos, af, gd⟩ := rfl
    rw [hsem, hex]
    have hrun : (execOp (ev e') ⟨none, .defer ⟨.value (.func f), xs, ats⟩, ty, pos, af, gd⟩).run P w = .ok (.defer ⟨.fn (.func f) #[], vs⟩) w := by
      simp only [execOp, resolve, ev, Deferred.ofValue, Sem.run_bind, Sem.run_pure, Result.andThen_ok, hx]
      simp
    rw [hrun]
    refine next _ ⟨ha.sz, ?_, ha.at_⟩
    show _ :: a1.defers = _
    rw [ha.df]
end Go.Proofs.YteiinkhbgpldeaaGreatDoor.Sx
namespace Go.Proofs.YteiinkhbgpldeaaGreatDoor.Sx
open Go
theorem St.fzB {g w : World} {L : List Ch} {ih : IH} {b : Nat} {cs : List Value} {t : TypeId} (h : St g w (bx b cs t :: L) ih) : ∃ ih', Le ih ih' ∧ St g w L ih' ∧ Glob b cs t ih' :=
  ⟨_, h.freeze.2.1, h.freeze.1, t, (0, 0), h.freeze.2.2 b _ (List.mem_singleton.2 rfl)⟩
end Go.Proofs.YteiinkhbgpldeaaGreatDoor.Sx
