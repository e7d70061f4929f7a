/- == of structs, division, parts of slices. Conditions: those ahead of each colon. -/
import Derived.Test.YteiinkhbgpldeaaGreatDoorSx6
import Derived.Laws.MakeOwn
set_option linter.unusedSimpArgs false
set_option linter.unusedVariables false
namespace Go.Proofs.YteiinkhbgpldeaaGreatDoor.Sx
open Go
variable {P : Program} {ops : Array Oper} {Q : Exit → Act → World → Prop} {n : Nat} {g w : World} {L : List Ch} {ih : IH} {a : Act} {e : Env} {rest : List Oper} {dfs : List Deferred} {ro : Option Nat}
def eqvF (rc : TypeId → Value → Value → Option Bool) (P : Program) (xs ys : Array Value) : List Field → Option Bool
  | [] => some true
  | f :: fs =>
    match decide (f.name = "_"), det P (part f.type xs f.offset), det P (part f.type ys f.offset) with
    | false, some a, some b => match rc f.type a b, eqvF rc P xs ys fs with | some r, some s => some (r && s) | _, _ => none
    | _, _, _ => none
def eqv (P : Program) : Nat → TypeId → Value → Value → Option Bool
  | 0, _, _, _ => none
  | d + 1, t, x, y =>
    match P.underlying t, x, y with
    | some .bool, .bool a, .bool b => some (a == b)
    | some (.int _), .int k a, .int k' b => if k = k' then some (a == b) else none
    | some (.struct fs), .agg xs, .agg ys => bif P.stoodInHeld t then none else eqvF (eqv P d) P xs ys fs.toList
    | _, _, _ => none
theorem Qku {b : Bool} {s : Sem Bool} : ((if (!b) = true then pure false else s : Sem Bool)).run P w = match b with | true => s.run P w | false => .ok false w := by
  cases b <;> rfl
theorem Qkh {rc : TypeId → Value → Value → Option Bool} {k : Nat} (hrc : ∀ (t : TypeId) (x y : Value) (r : Bool), rc t x y = some r → (Op.equalIn k t x y).run P w = .ok r w) (xs ys : Array Value) :
    ∀ (fs : List Field) (r : Bool), eqvF rc P xs ys fs = some r → (Op.eqFields k xs ys fs).run P w = .ok r w
  | [], r, h => by simp only [eqvF, Option.some.injEq] at h; subst h; rfl
  | f :: fs, r, h => by
    simp only [eqvF] at h
    split at h
    · rename_i u v hn ha hb
      have hn' : f.name ≠ "_" := by simpa using hn
      cases h1 : rc f.type u v with
      | none => rw [h1] at h; simp at h
      | some r1 =>
        cases h2 : eqvF rc P xs ys fs with
        | none => rw [h1, h2] at h; simp at h
        | some r2 =>
          rw [h1, h2] at h; simp only [Option.some.injEq] at h; subst h
          simp only [Op.eqFields]
          rw [if_pos hn', run_bind (Qae ha w), run_bind (Qae hb w), run_bind (hrc f.type u v r1 h1), Qku]
          cases r1 with
          | true => exact Qkh hrc xs ys fs r2 h2
          | false => rfl
    · cases h
theorem Qld : ∀ (d k : Nat) (t : TypeId) (x y : Value) (r : Bool), d ≤ k → eqv P d t x y = some r → (Op.equalIn k t x y).run P w = .ok r w
  | 0, k, t, x, y, r, hk, h => by simp [eqv] at h
  | d + 1, 0, t, x, y, r, hk, h => absurd hk (by omega)
  | d + 1, k + 1, t, x, y, r, hk, h => by
    simp only [eqv] at h
    split at h
    · rename_i hu; simp only [Option.some.injEq] at h; subst h
      simp [Op.equalIn, run_underlying hu]
    · rename_i hu; split at h
      · rename_i hkk; simp only [Option.some.injEq] at h; subst h; subst hkk
        simp [Op.equalIn, run_underlying hu]
      · cases h
    · rename_i fs xs ys hu
      cases hs : P.stoodInHeld t with
      | true => rw [hs] at h; cases h
      | false =>
        rw [hs] at h; simp only [cond_false] at h
        have hf : P.fieldsOf t = fs := by unfold Program.fieldsOf; rw [hu]
        rw [run_equalIn_struct w k t xs ys (by rw [hu, hf]) hs, hf]
        exact Qkh (fun t x y r h => Qld d k t x y r (by omega) h) xs ys fs.toList r h
    · cases h
theorem Qkg {t yt ty : TypeId} {x y : Operand} {dst : Option Tmp} {pos : String} {af : Array Edge} {gd : Option (Nat × Bool)} {c1 c2 : Array Value} {r : Bool} (hx : ev e x = .agg c1) (hy : ev e y = .agg c2) (hg : det P (eqGuard .neq t x y (ev e x) (ev e y)) = some ())
    (h : eqv P 100 t (.agg c1) (.agg c2) = some r) : (execOp (ev e) ⟨dst, .binOp .neq t x y yt, ty, pos, af, gd⟩).run P w = .ok (.value (.bool (!r))) w := by
  have hr := Qld (P := P) (w := w) 100 Op.maxDepth t _ _ r (by simp [Op.maxDepth]) h
  simp only [execOp]
  refine runv ?_
  rw [run_bind (Qae hg w), hx, hy]
  show (do pure (.bool (!(← Op.equal t _ _))) : Sem Value).run P w = _
  exact (run_bind hr).trans rfl
theorem Qm8 {t yt ty : TypeId} {x y : Operand} {dst : Option Tmp} {pos : String} {af : Array Edge} {gd : Option (Nat × Bool)} (hs : SeesD dfs a n e) {c1 c2 : List Value} (r : Bool) (hok : okE ops n e ⟨dst, .binOp .neq t x y yt, ty, pos, af, gd⟩ = true) (hx : ev e x = .agg c1.toArray) (hy : ev e y = .agg c2.toArray)
    (hg : det P (eqGuard .neq t x y (ev e x) (ev e y)) = some ()) (h : eqv P 100 t (.agg c1.toArray) (.agg c2.toArray) = some r)
    (next : ∀ a', SeesD dfs a' n (putO dst (.bool (!r)) e) → wpList P ops Q rest a' w) : wpList P ops Q (⟨dst, .binOp .neq t x y yt, ty, pos, af, gd⟩ :: rest) a w :=
  QbQ hs hok (Qkg hx hy hg h) next
variable {J : Act → World → Prop} {S : Array Bool → World → Prop} {fuel : Nat} {l : Array Bool}
theorem Qno {K : List Nat} (hK : KeyOk S K) (hs : SeesD dfs a n e) (hS : S l w) (i : Nat) {t yt ty : TypeId} {x y : Operand} {dst : Option Tmp} {pos : String} {af : Array Edge} {gd : Option (Nat × Bool)} (hi : ops[i]? = some ⟨dst, .binOp .neq t x y yt, ty, pos, af, gd⟩) (hb : dOk ops K l i = true) {c1 c2 : List Value} (r : Bool)
    (hok : okE ops n e ⟨dst, .binOp .neq t x y yt, ty, pos, af, gd⟩ = true) (hx : ev e x = .agg c1.toArray) (hy : ev e y = .agg c2.toArray)
    (hg : det P (eqGuard .neq t x y (ev e x) (ev e y)) = some ()) (h : eqv P 100 t (.agg c1.toArray) (.agg c2.toArray) = some r)
    (next : ∀ a', SeesD dfs a' n (putO dst (.bool (!r)) e) → S (l.setIfInBounds i true) w → DG P ops J S fuel (l.setIfInBounds i true) a' w) : DG P ops J S (fuel + 1) l a w :=
  QgJ hK hs hS i hi hb noT hok (fun w _ => Qkg hx hy hg h) next
theorem Qmf {k : IntKind} {x y : Int} (hy : y ≠ 0) : (Op.intDiv .rem k x y).run P w = .ok (.int k (x.tmod y)) w := by simp only [Op.intDiv, if_neg hy]; rfl
theorem Qkf {t yt ty : TypeId} {x y : Operand} {dst : Option Tmp} {pos : String} {af : Array Edge} {gd : Option (Nat × Bool)} {k : IntKind} {i j : Int} (hx : ev e x = .int k i) (hy : ev e y = .int k j) (h0 : (j == 0) = false) :
    (execOp (ev e) ⟨dst, .binOp .rem t x y yt, ty, pos, af, gd⟩).run P w = .ok (.value (.int k (i.tmod j))) w := by
  simp only [execOp]
  refine runv ?_
  have hj : j ≠ 0 := by simpa using h0
  rw [hx, hy, run_bind (s := eqGuard _ _ _ _ _ _) (a := ()) (w' := w) rfl]
  simp only [binOp, ne_eq, not_true, if_false]
  exact Qmf hj
theorem QmC {t yt ty : TypeId} {x y : Operand} {dst : Option Tmp} {pos : String} {af : Array Edge} {gd : Option (Nat × Bool)} (hs : SeesD dfs a n e) (hok : okE ops n e ⟨dst, .binOp .rem t x y yt, ty, pos, af, gd⟩ = true) (k : IntKind) {i j : Int} (hx : ev e x = .int k i) (hy : ev e y = .int k j) (h0 : (j == 0) = false)
    (next : ∀ a', SeesD dfs a' n (putO dst (.int k (i.tmod j)) e) → wpList P ops Q rest a' w) : wpList P ops Q (⟨dst, .binOp .rem t x y yt, ty, pos, af, gd⟩ :: rest) a w := QbQ hs hok (Qkf hx hy h0) next
theorem QlS {K : List Nat} (hK : KeyOk S K) (hs : SeesD dfs a n e) (hS : S l w) (ii : Nat) {t yt ty : TypeId} {x y : Operand} {dst : Option Tmp} {pos : String} {af : Array Edge} {gd : Option (Nat × Bool)} (hi : ops[ii]? = some ⟨dst, .binOp .rem t x y yt, ty, pos, af, gd⟩) (hb : dOk ops K l ii = true) (hok : okE ops n e ⟨dst, .binOp .rem t x y yt, ty, pos, af, gd⟩ = true) (k : IntKind) {i j : Int} (hx : ev e x = .int k i) (hy : ev e y = .int k j) (h0 : (j == 0) = false)
    (next : ∀ a', SeesD dfs a' n (putO dst (.int k (i.tmod j)) e) → S (l.setIfInBounds ii true) w → DG P ops J S fuel (l.setIfInBounds ii true) a' w) : DG P ops J S (fuel + 1) l a w := QgJ hK hs hS ii hi hb noT hok (fun w _ => Qkf hx hy h0) next
def sl {α : Type} (xs : List α) (lo hi : Int) : Option (List α) := if 0 ≤ lo ∧ lo ≤ hi ∧ hi ≤ xs.length then some ((xs.drop lo.toNat).take (hi.toNat - lo.toNat)) else none
theorem slE {α : Type} {xs ys : List α} {lo hi : Int} (h : sl xs lo hi = some ys) : 0 ≤ lo ∧ lo ≤ hi ∧ hi ≤ xs.length ∧ ys = (xs.drop lo.toNat).take (hi.toNat - lo.toNat) := by
  unfold sl at h
  split at h
  · rename_i hc; exact ⟨hc.1, hc.2.1, hc.2.2, (someE h).symm⟩
  · cases h
theorem RSl.sub {E : ET} {c : Ch} {p : Option Addr} {cap : Nat} {xs : List E.α} (h : RSl E ih c p cap xs) {lo hi m : Nat} (h1 : lo ≤ hi) (h2 : hi ≤ xs.length) (h3 : hi ≤ m) (h4 : m ≤ cap) :
    RSl E ih c (if m = lo then p else p.map (·.add (lo * E.sz))) (m - lo) ((xs.drop lo).take (hi - lo)) := by
  have hlen : ((xs.drop lo).take (hi - lo)).length = hi - lo := by simp; omega
  refine ⟨by rw [hlen]; omega, ?_⟩
  cases p with
  | none =>
    obtain ⟨_, rfl, rfl⟩ := h
    have : m = lo := by omega
    rw [if_pos this]
    exact ⟨by simp, by omega⟩
  | some q =>
    obtain ⟨h5, h⟩ := h
    by_cases hne : xs = []
    · subst hne
      by_cases hml : m = lo
      · rw [if_pos hml]; intro hc; exact absurd (by simp) hc
      · rw [if_neg hml]; intro hc; exact absurd (by simp) hc
    obtain ⟨h6, cells, T, fr, h7, h8⟩ := h hne
    obtain ⟨b, off, sp⟩ := q
    simp only at h6 h7
    subst h6
    have key : ∀ i x, ((xs.drop lo).take (hi - lo))[i]? = some x → ∃ cs, E.enc ih x cs ∧ ∀ j v, cs[j]? = some v → cells[off + lo * E.sz + i * E.sz + j]? = some v := by
      intro i x hx
      rw [List.getElem?_take] at hx
      split at hx
      · rw [List.getElem?_drop] at hx
        obtain ⟨cs, he, hc⟩ := h8 _ x hx
        refine ⟨cs, he, fun j v hj => ?_⟩
        have := hc j v hj
        rwa [Nat.add_mul, ← Nat.add_assoc] at this
      · cases hx
    by_cases hml : m = lo
    · rw [if_pos hml]
      refine fun _ => ⟨rfl, cells, T, fr, h7, fun i x hx => ?_⟩
      have : hi - lo = 0 := by omega
      rw [this] at hx; simp at hx
    · rw [if_neg hml]
      have hq : (some (⟨b, off, none⟩ : Addr)).map (·.add (lo * E.sz)) = some ⟨b, off + lo * E.sz, none⟩ := by rw [Option.map_some, QhT]
      rw [hq]
      exact fun _ => ⟨rfl, cells, T, fr, h7, key⟩
theorem Qky {t ty : TypeId} {x : Operand} {lo hi mx : Option Operand} {dst : Option Tmp} {pos : String} {af : Array Edge} {gd : Option (Nat × Bool)} {p : Option Addr} {len cap : Nat} (hx : ev e x = .slice p len cap) (el : TypeId) {sz : Nat} (ht : det P (underlying t) = some (.slice el)) (hsz : det P (sizeOf el) = some sz)
    (l h m : Nat) (hb : (Instr.sliceBounds true len cap (lo.map (ev e)) (hi.map (ev e)) (mx.map (ev e))).run P w = .ok (l, h, m) w) :
    (execOp (ev e) ⟨dst, .slice t x lo hi mx, ty, pos, af, gd⟩).run P w = .ok (.value (.slice (if m = l then p else p.map (·.add (l * sz))) (h - l) (m - l))) w := by
  simp only [execOp]
  refine runv ?_
  unfold Instr.sliceAt
  rw [run_bind (Qae ht w)]
  simp only [hx]
  unfold Instr.slice
  rw [run_bind (Qae ht w)]
  simp only
  rw [run_bind hb, run_bind (Qae hsz w)]
  rfl
theorem QfH {k : IntKind} {i : Int} {y : Nat} {c : BoundsCode} (h0 : 0 ≤ i) (h1 : i ≤ y) : (Instr.sliceBound (.int k i) y c).run P w = .ok i.toNat w := by
  unfold Instr.sliceBound
  rw [run_bind (a := (k, i)) (w' := w) rfl]
  simp only [h0, h1, and_self, if_true]; rfl
def bnd (e : Env) : Option Operand → Option Int
  | none => none
  | some o => match ev e o with | .int _ i => some i | _ => none
def bndOk (e : Env) : Option Operand → Bool
  | none => true
  | some o => match ev e o with | .int _ _ => true | _ => false
theorem Qkv {len cap : Nat} {lo hi mx : Option Operand} (ok1 : bndOk e lo = true) (ok2 : bndOk e hi = true) (ok3 : bndOk e mx = true) (hm : mx.isSome = true → hi.isSome = true) {l h m : Int} (hl : (bnd e lo).getD 0 = l) (hh : (bnd e hi).getD len = h) (hmm : (bnd e mx).getD cap = m)
    (h0 : 0 ≤ l) (h1 : l ≤ h) (h2 : h ≤ m) (h3 : m ≤ cap) : (Instr.sliceBounds true len cap (lo.map (ev e)) (hi.map (ev e)) (mx.map (ev e))).run P w = .ok (l.toNat, h.toNat, m.toNat) w := by
  have val : ∀ {o : Option Operand}, bndOk e o = true → o = none ∨ ∃ x k i, o = some x ∧ ev e x = .int k i ∧ bnd e o = some i := by
    intro o ho
    cases o with
    | none => exact .inl rfl
    | some x =>
      simp only [bndOk] at ho
      cases hv : ev e x <;> rw [hv] at ho <;> simp at ho
      rename_i k i
      exact .inr ⟨x, k, i, rfl, hv, by simp [bnd, hv]⟩
  unfold Instr.sliceBounds
  rcases val ok3 with rfl | ⟨x3, k3, i3, rfl, e3, b3⟩
  · simp only [bnd, Option.getD_none] at hmm
    subst hmm
    rcases val ok2 with rfl | ⟨x2, k2, i2, rfl, e2, b2⟩
    · simp only [bnd, Option.getD_none] at hh
      subst hh
      rcases val ok1 with rfl | ⟨x1, k1, i1, rfl, e1, b1⟩
      · simp only [bnd, Option.getD_none] at hl
        subst hl
        rfl
      · rw [b1] at hl; simp only [Option.getD_some] at hl; subst hl
        simp only [Option.map_none, Option.map_some, e1]
        have := QfH (P := P) (w := w) (k := k1) (c := if (none : Option Value).isSome then .slice3C else .sliceB) h0 h1
        exact (run_bind this).trans rfl
    · rw [b2] at hh; simp only [Option.getD_some] at hh; subst hh
      have hr2 := QfH (P := P) (w := w) (k := k2) (c := .sliceAcap) (y := cap) (i := i2) (by omega) h2
      have hr2' : (i2.toNat : Int) = i2 := by omega
      rcases val ok1 with rfl | ⟨x1, k1, i1, rfl, e1, b1⟩
      · simp only [bnd, Option.getD_none] at hl
        subst hl
        simp only [Option.map_none, Option.map_some, e2]
        refine (run_bind (s := pure cap) (a := cap) (w' := w) rfl).trans ?_
        refine (run_bind hr2).trans ?_
        rfl
      · rw [b1] at hl; simp only [Option.getD_some] at hl; subst hl
        simp only [Option.map_none, Option.map_some, e2, e1]
        refine (run_bind (s := pure cap) (a := cap) (w' := w) rfl).trans ?_
        refine (run_bind hr2).trans ?_
        exact (run_bind (QfH (P := P) (w := w) (k := k1) (y := i2.toNat) h0 (by omega))).trans rfl
  · rw [b3] at hmm; simp only [Option.getD_some] at hmm; subst hmm
    have hr3 := QfH (P := P) (w := w) (k := k3) (c := .slice3Acap) (y := cap) (i := i3) (by omega) h3
    rcases val ok2 with rfl | ⟨x2, k2, i2, rfl, e2, b2⟩
    · exact absurd (hm rfl) (by simp)
    · rw [b2] at hh; simp only [Option.getD_some] at hh; subst hh
      have hr2 := QfH (P := P) (w := w) (k := k2) (c := .slice3B) (y := i3.toNat) (i := i2) (by omega) (by omega)
      rcases val ok1 with rfl | ⟨x1, k1, i1, rfl, e1, b1⟩
      · simp only [bnd, Option.getD_none] at hl
        subst hl
        simp only [Option.map_none, Option.map_some, e2, e3]
        refine (run_bind hr3).trans ?_
        refine (run_bind hr2).trans ?_
        rfl
      · rw [b1] at hl; simp only [Option.getD_some] at hl; subst hl
        simp only [Option.map_some, e2, e1, e3]
        refine (run_bind hr3).trans ?_
        refine (run_bind hr2).trans ?_
        exact (run_bind (QfH (P := P) (w := w) (k := k1) (y := i2.toNat) h0 (by omega))).trans rfl
theorem QjA {t ty : TypeId} {x : Operand} {lo hi mx : Option Operand} {dst : Option Tmp} {pos : String} {af : Array Edge} {gd : Option (Nat × Bool)} {E : ET} {c : Ch} {p : Option Addr} {cap : Nat} {xs : List E.α} (hr : RSl E ih c p cap xs) (hx : ev e x = .slice p xs.length cap) (el : TypeId) (ht : det P (underlying t) = some (.slice el)) (hsz : det P (sizeOf el) = some E.sz)
    (hk : (bndOk e lo && bndOk e hi && bndOk e mx && (!mx.isSome || hi.isSome)) = true) {l h : Int} (hl : (bnd e lo).getD 0 = l) (hh : (bnd e hi).getD xs.length = h) {ys : List E.α} (hy : sl xs l h = some ys) (hm : bnd e mx = none ∨ ∃ m, bnd e mx = some m ∧ h ≤ m ∧ m ≤ xs.length) :
    ∃ p' cap', (∀ w, (execOp (ev e) ⟨dst, .slice t x lo hi mx, ty, pos, af, gd⟩).run P w = .ok (.value (.slice p' ys.length cap')) w) ∧ RSl E ih c p' cap' ys := by
  obtain ⟨h0, h1, h2, rfl⟩ := slE hy
  simp only [Bool.and_eq_true, Bool.or_eq_true, Bool.not_eq_true'] at hk
  obtain ⟨⟨⟨k1, k2⟩, k3⟩, k4⟩ := hk
  have hcap := hr.1
  obtain ⟨m, hmm, hm1, hm2⟩ : ∃ m : Int, (bnd e mx).getD cap = m ∧ h ≤ m ∧ m ≤ cap := by
    rcases hm with hm | ⟨m, hm, h3, h4⟩
    · exact ⟨cap, by rw [hm]; rfl, by omega, Int.le_refl _⟩
    · exact ⟨m, by rw [hm]; rfl, h3, by omega⟩
  have hsub := hr.sub (lo := l.toNat) (hi := h.toNat) (m := m.toNat) (by omega) (by omega) (by omega) (by omega)
  refine ⟨_, _, fun w => ?_, hsub⟩
  have hb := Qkv (P := P) (w := w) (len := xs.length) (cap := cap) k1 k2 k3 (fun hs => by
    rcases k4 with h | h
    · rw [hs] at h; cases h
    · exact h) hl hh hmm h0 h1 hm1 hm2
  rw [Qky hx el ht hsz _ _ _ hb]
  congr 3
  simp only [List.length_take, List.length_drop]; omega
theorem Qmd {t ty : TypeId} {x : Operand} {lo hi mx : Option Operand} {dst : Option Tmp} {pos : String} {af : Array Edge} {gd : Option (Nat × Bool)} (hs : SeesD dfs a n e) {E : ET} {c : Ch} {p : Option Addr} {cap : Nat} {xs : List E.α} (hr : RSl E ih c p cap xs) (hok : okE ops n e ⟨dst, .slice t x lo hi mx, ty, pos, af, gd⟩ = true) (hx : ev e x = .slice p xs.length cap) (el : TypeId) (ht : det P (underlying t) = some (.slice el)) (hsz : det P (sizeOf el) = some E.sz)
    (hk : (bndOk e lo && bndOk e hi && bndOk e mx && (!mx.isSome || hi.isSome)) = true) {l h : Int} (hl : (bnd e lo).getD 0 = l) (hh : (bnd e hi).getD xs.length = h) {ys : List E.α} (hy : sl xs l h = some ys) (hm : bnd e mx = none ∨ ∃ m, bnd e mx = some m ∧ h ≤ m ∧ m ≤ xs.length)
    (next : ∀ a' p' cap', RSl E ih c p' cap' ys → SeesD dfs a' n (putO dst (.slice p' ys.length cap') e) → wpList P ops Q rest a' w) : wpList P ops Q (⟨dst, .slice t x lo hi mx, ty, pos, af, gd⟩ :: rest) a w := by
  obtain ⟨p', cap', h1, h2⟩ := QjA (P := P) (dst := dst) (ty := ty) (pos := pos) (af := af) (gd := gd) hr hx el ht hsz hk hl hh hy hm
  exact QbQ hs hok (h1 w) fun a' ha' => next a' p' cap' h2 ha'
theorem Qmm {K : List Nat} (hK : KeyOk S K) (hs : SeesD dfs a n e) (hS : S l w) (i : Nat) {t ty : TypeId} {x : Operand} {lo hi mx : Option Operand} {dst : Option Tmp} {pos : String} {af : Array Edge} {gd : Option (Nat × Bool)} (hi' : ops[i]? = some ⟨dst, .slice t x lo hi mx, ty, pos, af, gd⟩) (hb : dOk ops K l i = true) {E : ET} {c : Ch} {p : Option Addr} {cap : Nat} {xs : List E.α} (hr : RSl E ih c p cap xs) (hok : okE ops n e ⟨dst, .slice t x lo hi mx, ty, pos, af, gd⟩ = true) (hx : ev e x = .slice p xs.length cap) (el : TypeId) (ht : det P (underlying t) = some (.slice el)) (hsz : det P (sizeOf el) = some E.sz)
    (hk : (bndOk e lo && bndOk e hi && bndOk e mx && (!mx.isSome || hi.isSome)) = true) {l' h : Int} (hl : (bnd e lo).getD 0 = l') (hh : (bnd e hi).getD xs.length = h) {ys : List E.α} (hy : sl xs l' h = some ys) (hm : bnd e mx = none ∨ ∃ m, bnd e mx = some m ∧ h ≤ m ∧ m ≤ xs.length)
    (next : ∀ a' p' cap', RSl E ih c p' cap' ys → SeesD dfs a' n (putO dst (.slice p' ys.length cap') e) → S (l.setIfInBounds i true) w → DG P ops J S fuel (l.setIfInBounds i true) a' w) : DG P ops J S (fuel + 1) l a w := by
  obtain ⟨p', cap', h1, h2⟩ := QjA (P := P) (dst := dst) (ty := ty) (pos := pos) (af := af) (gd := gd) hr hx el ht hsz hk hl hh hy hm
  exact QgJ hK hs hS i hi' hb noT hok (fun w _ => h1 w) fun a' ha' => next a' p' cap' h2 ha'
def ResOk (P : Program) (a : Act) (w : World) (r : ResultVar) (v : Value) : Prop :=
  (match r with | .tmp t => pure (a.tmps.getD t undef) | .cell x t => do loadVar t (← asAddr (a.tmps.getD x undef)) : Sem Value).run P w = .ok v w
theorem Qaf (hs : SeesD dfs a n e) {t : Tmp} {v : Value} (h : lk e t = some v) : ResOk P a w (.tmp t) v := by
  unfold ResOk; rw [← hs.at_ t v h]; rfl
theorem Qab (hs : SeesD dfs a n e) {t : Tmp} {ty : TypeId} {q : Addr} {cs : List Value} (hat : At w q cs) (hv : lk e t = some (.pointer (some q))) {v : Value} (hl : ldv P ty cs 0 = some v) : ResOk P a w (.cell t ty) v := by
  have h0 : (loadVar ty (q.add 0)).run P w = .ok v w := QjB hat hl
  unfold ResOk
  simp only
  rw [hs.at_ t _ hv]
  exact h0
def ResAll (P : Program) (a : Act) (w : World) : List ResultVar → List Value → Prop
  | [], [] => True
  | r :: rs, v :: vs => ResOk P a w r v ∧ ResAll P a w rs vs
  | _, _ => False
theorem Qcs {fn : Func} {R : Value → World → Prop} (hs : Sees a n e) {l : List ResultVar} (hf : fn.results = l.toArray) {vs : List Value} (hv : ResAll P a w l vs) (h1 : Nat.beq vs.length 1 = false) (h : R (.tuple vs.toArray) w) :
    bodyPost P fn (fun e w' => match e with | .returned v => R v w' | _ => False) .ret a w := by
  refine ⟨hs.df, _, ?_, h⟩
  unfold results
  rw [hf]
  have hm : ∀ (l : List ResultVar) (vs : List Value), ResAll P a w l vs → (l.mapM fun | .tmp t => pure (a.tmps.getD t undef) | .cell x t => do loadVar t (← asAddr (a.tmps.getD x undef)) : Sem (List Value)).run P w = .ok vs w := by
    intro l
    induction l with
    | nil => intro vs hv; cases vs <;> first | rfl | exact hv.elim
    | cons r l ihh =>
      intro vs hv
      cases vs with
      | nil => exact hv.elim
      | cons v vs =>
        rw [List.mapM_cons]
        refine (run_bind hv.1).trans ?_
        exact (run_bind (ihh vs hv.2)).trans rfl
  have hm := hm l vs hv
  rw [run_bind (a := vs.toArray) (w' := w)]
  · rw [dif_neg (by have := Nat.ne_of_beq_eq_false h1; simpa using this)]; rfl
  · rw [List.mapM_toArray]
    show (Array.mk <$> _ : Sem _).run P w = _
    rw [map_eq_pure_bind]
    exact (run_bind (P := P) hm).trans rfl
def mkS {α : Type} (z : α) (i : Int) : Option (List α) := if 0 ≤ i ∧ i ≤ 4294967296 then some (List.replicate i.toNat z) else none
theorem mkSE {α : Type} {z : α} {i : Int} {ys : List α} (h : mkS z i = some ys) : 0 ≤ i ∧ i ≤ 4294967296 ∧ ys = List.replicate i.toNat z := by
  unfold mkS at h
  split at h
  · rename_i hc; exact ⟨hc.1, hc.2, (someE h).symm⟩
  · cases h
end Go.Proofs.YteiinkhbgpldeaaGreatDoor.Sx
