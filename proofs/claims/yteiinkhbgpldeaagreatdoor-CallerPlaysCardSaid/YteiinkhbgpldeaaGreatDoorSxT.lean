/- Plain facts for CallerPlays. Conditions: those ahead of each colon. -/
import Derived.Test.YteiinkhbgpldeaaGreatDoorSxG
set_option linter.unusedSimpArgs false
set_option linter.unusedVariables false
namespace Go.Proofs.YteiinkhbgpldeaaGreatDoor.Sx
open Go
variable {P : Program} {ops : Array Oper} {Q : Exit → Act → World → Prop} {n : Nat} {g w : World} {L : List Ch} {ih : IH} {a : Act} {e : Env} {rest : List Oper} {dfs : List Deferred} {ro : Option Nat}
variable {dst : Option Tmp} {pos : String} {af : Array Edge} {gd : Option (Nat × Bool)}
@[reducible] def eStr (ty : TypeId) : ET := ⟨List Int, 1, ty, fun _ x cs => cs = [.string (strOf x)], fun h => by rw [h]; rfl, fun h => by rw [h]; rfl, fun h _ => h⟩
theorem Qi0 (xs : List Int) : (strOf xs).size = xs.length := by simp [strOf, ByteArray.size]
theorem QjL {x : Operand} {t ty : TypeId} {xs : List Int} (hx : ev e x = .string (strOf xs)) (ht : det P (underlying t) = some .string) :
    (execOp (ev e) ⟨dst, .call ⟨.builtin .len, #[x], #[t]⟩, ty, pos, af, gd⟩).run P w = .ok (.value (.int .i64 (xs.length : Int))) w := by
  simp only [execOp, resolve, invoke, builtin, Sem.run_bind, Sem.run_pure, Result.andThen_ok, List.map_toArray, List.map_cons, List.map_nil, hx]
  have h : (Builtin.len_ #[t] ty #[.string (strOf xs)]).run P w = .ok (.int .i64 (xs.length : Int)) w := by
    unfold Builtin.len_
    simp only [List.getElem?_toArray, List.getElem?_cons_zero]
    rw [run_bind (Qae ht w)]
    simp only [Qi0]
    rfl
  rw [h]
  rfl
def chr (y : Int) : Int := ((y.toNat % 256 : Nat) : Int)
theorem QjM {x y : Operand} {t ty : TypeId} {xs : List Int} {k : IntKind} {i z : Int} (hx : ev e x = .string (strOf xs)) (hy : ev e y = .int k i) (ht : det P (underlying t) = some .string) (hz : ix xs i = some z) :
    (execOp (ev e) ⟨dst, .index t x y, ty, pos, af, gd⟩).run P w = .ok (.value (.int .u8 (chr z))) w := by
  simp only [execOp]
  refine runv ?_
  rw [hx, hy]
  unfold Instr.index
  rw [run_bind (a := (k, i)) (w' := w) rfl, run_bind (Qae ht w)]
  obtain ⟨h0, h1, h2⟩ := Qkx hz
  have hg : (strOf xs)[i.toNat]? = some (UInt8.ofNat z.toNat) := by
    have hl : i.toNat < (strOf xs).size := by rw [Qi0]; omega
    rw [getElem?_pos (strOf xs) i.toNat hl]
    congr 1
    show (strOf xs).data[i.toNat] = _
    have hx2 : xs[i.toNat]'(by omega) = z := by
      have := List.getElem?_eq_some_iff.1 h2
      exact this.2
    simp only [strOf, List.getElem_toArray, List.getElem_map, hx2]
  simp only [h0, if_true, hg]
  rfl
end Go.Proofs.YteiinkhbgpldeaaGreatDoor.Sx
