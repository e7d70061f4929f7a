/- Loops of a known number of rounds, a table that stands, bytes as strings. Conditions: those ahead of each colon. -/
import Derived.Test.YteiinkhbgpldeaaGreatDoorSxD
import Derived.LoopNIn
import Derived.Laws.BytesArg
import Derived.Laws.Strings
set_option linter.unusedSimpArgs false
set_option linter.unusedVariables false
namespace Go.Proofs.YteiinkhbgpldeaaGreatDoor.Sx
open Go
variable {P : Program} {ops : Array Oper} {Q : Exit → Act → World → Prop} {n : Nat} {g w : World} {L : List Ch} {ih : IH} {a : Act} {e : Env} {rest : List Oper} {dfs : List Deferred} {ro : Option Nat}
variable {J : Act → World → Prop} {S : Array Bool → World → Prop} {fuel : Nat} {l : Array Bool}
theorem QdF {c : Code} {m : Nat} (h : c.wpIn (FR ro) 0 P (Exit.then (Code.roundsIn (FR ro) 0 P c Q m) Q) a w) : Code.roundsIn (FR ro) 0 P c Q (m + 1) a w := h
def Glob (b : Nat) (cs : List Value) (_ : TypeId) (ih : IH) : Prop := ∃ T fr, ih b = some (.cells cs.toArray T fr)
theorem Glob.mono {b : Nat} {cs : List Value} {T : TypeId} {ih ih' : IH} (h : Glob b cs T ih) (hle : Le ih ih') : Glob b cs T ih' := let ⟨T, fr, h⟩ := h; ⟨T, fr, hle _ _ h⟩
def strOf (xs : List Int) : ByteArray := ⟨(xs.map fun n => UInt8.ofNat n.toNat).toArray⟩
def beqS (xs ys : List Int) : Bool := (xs.map fun n => UInt8.ofNat n.toNat) == (ys.map fun n => UInt8.ofNat n.toNat)
theorem Qk1 {ty : TypeId} {c : Ch} {p : Option Addr} {cap : Nat} {xs : List Int} (h : RSl (eInt .u8 ty) ih c p cap xs) (hv : Vw w c ih) {src d el : TypeId} (hs : P.underlying src = some (.slice el)) (he : P.underlying el = some (.int .u8)) (hd : P.underlying d = some .string) :
    (convert src d (.slice p xs.length cap)).run P w = .ok (.string (strOf xs)) w := by
  cases p with
  | none =>
    obtain ⟨_, rfl, rfl⟩ := h
    rw [run_convert_bytes_nil w src el hs he _ _ d hd]; rfl
  | some q =>
    obtain ⟨us, h1, h2, h3, h4⟩ := h.all
    have hus : us = xs.map (Value.int .u8) := by
      refine List.ext_getElem? fun i => ?_
      rw [List.getElem?_map]
      cases hx : xs[i]? with
      | none =>
        have : xs.length ≤ i := List.getElem?_eq_none_iff.1 hx
        rw [List.getElem?_eq_none (by rw [h1]; simpa using this)]; rfl
      | some x =>
        obtain ⟨cs, rfl, hc⟩ := h4 i x hx
        have := hc 0 _ rfl
        simpa using this
    have hl : (loadCells q xs.length).run P w = .ok (xs.map (Value.int .u8)).toArray w := by
      have := run_loadCells_list (P := P) w q us (h3 w hv)
      rw [h1] at this
      simpa [hus] using this
    rw [run_convert_bytes_string w src d el _ xs.length cap hs he hd, run_bytesToString w _ xs.length cap xs hl, foldl_push_bytes]
    simp [strOf, ByteArray.empty, ByteArray.emptyWithCapacity]
    rfl
theorem QkZ {dst : Option Tmp} {src d ty t : TypeId} {x : Operand} {pos : String} {af : Array Edge} {gd : Option (Nat × Bool)} (hs : SeesD dfs a n e) {c : Ch} {p : Option Addr} {cap : Nat} {xs : List Int} (h : RSl (eInt .u8 t) ih c p cap xs) (hv : Vw w c ih)
    (hok : okE ops n e ⟨dst, .convert src d x, ty, pos, af, gd⟩ = true) (hx : ev e x = .slice p xs.length cap) (el : TypeId) (h1 : P.underlying src = some (.slice el)) (h2 : P.underlying el = some (.int .u8)) (h3 : P.underlying d = some .string)
    (next : ∀ a', SeesD dfs a' n (putO dst (.string (strOf xs)) e) → wpList P ops Q rest a' w) : wpList P ops Q (⟨dst, .convert src d x, ty, pos, af, gd⟩ :: rest) a w :=
  QbQ hs hok (by
    simp only [execOp]
    refine runv ?_
    rw [hx]; exact Qk1 h hv h1 h2 h3) next
theorem QlQ {t yt ty : TypeId} {x y : Operand} {dst : Option Tmp} {pos : String} {af : Array Edge} {gd : Option (Nat × Bool)} {s1 s2 : ByteArray} {r : Bool} (hx : ev e x = .string s1) (hy : ev e y = .string s2) (hg : det P (eqGuard .eql t x y (ev e x) (ev e y)) = some ())
    (h : (s1.data.toList == s2.data.toList) = r) : (execOp (ev e) ⟨dst, .binOp .eql t x y yt, ty, pos, af, gd⟩).run P w = .ok (.value (.bool r)) w := by
  simp only [execOp]
  refine runv ?_
  rw [run_bind (Qae hg w), hx, hy, binOp_string_eql, ByteArray.toList_eq, ByteArray.toList_eq, h]
  rfl
theorem Qm9 {t yt ty : TypeId} {x y : Operand} {dst : Option Tmp} {pos : String} {af : Array Edge} {gd : Option (Nat × Bool)} (hs : SeesD dfs a n e) {s1 s2 : ByteArray} (r : Bool) (hok : okE ops n e ⟨dst, .binOp .eql t x y yt, ty, pos, af, gd⟩ = true) (hx : ev e x = .string s1) (hy : ev e y = .string s2)
    (hg : det P (eqGuard .eql t x y (ev e x) (ev e y)) = some ()) (h : (s1.data.toList == s2.data.toList) = r)
    (next : ∀ a', SeesD dfs a' n (putO dst (.bool r) e) → wpList P ops Q rest a' w) : wpList P ops Q (⟨dst, .binOp .eql t x y yt, ty, pos, af, gd⟩ :: rest) a w :=
  QbQ hs hok (QlQ hx hy hg h) next
end Go.Proofs.YteiinkhbgpldeaaGreatDoor.Sx
