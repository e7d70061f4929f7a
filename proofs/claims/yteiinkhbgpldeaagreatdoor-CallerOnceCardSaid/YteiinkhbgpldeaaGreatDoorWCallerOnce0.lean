/- The walk of CallerOnce: each Go function that it calls, as a plain function, and the proof that the call computes it. Printed by the program gen.py.
   Conditions: those that each theorem states ahead of its colon, and no other. -/
import Derived.Test.YteiinkhbgpldeaaGreatDoorSx9
import Derived.Test.YteiinkhbgpldeaaGreatDoorSxT
import Derived.Test.YteiinkhbgpldeaaGreatDoorProg
namespace Go.Proofs.YteiinkhbgpldeaaGreatDoor.Sx
open Go Go.Proofs
set_option maxRecDepth 100000
set_option linter.unusedVariables false
@[reducible] def e5 : ET := eInt .u8 5
structure M26 where
  f0 : Int
  f1 : Int
  f2 : Int
  f3 : List Int
  f4 : Int
@[reducible] def e26 : ET := ⟨M26, 5, 26, fun ih x cs => ∃ q0 k0, cs = [vi64 x.f0, vu32 x.f1, vu64 x.f2, .slice q0 x.f3.length k0, vi64 x.f4] ∧ RSl e5 ih [] q0 k0 x.f3,
  fun ⟨_, _, h, g0⟩ => by rw [h]; rfl, fun ⟨_, _, h, g0⟩ => by rw [h]; rfl, fun ⟨p0, p1, h, g0⟩ hle => ⟨p0, p1, h, g0.mono hle⟩⟩
structure M27 where
  f0 : Int
  f1 : Int
@[reducible] def e27 : ET := ⟨M27, 2, 27, fun ih x cs => cs = [vu8 x.f0, vu8 x.f1],
  fun h => by rw [h]; rfl, fun h => by rw [h]; rfl, fun h hle => h⟩
@[reducible] def e3 : ET := eInt .i64 3
structure M44 where
  f0 : Int
  f1 : Int
  f2 : List Int
  f3 : Bool
  f4 : Int
@[reducible] def e44 : ET := ⟨M44, 5, 44, fun ih x cs => ∃ q0 k0, cs = [vi64 x.f0, vu64 x.f1, .slice q0 x.f2.length k0, .bool x.f3, vi64 x.f4] ∧ RSl e3 ih [] q0 k0 x.f2,
  fun ⟨_, _, h, g0⟩ => by rw [h]; rfl, fun ⟨_, _, h, g0⟩ => by rw [h]; rfl, fun ⟨p0, p1, h, g0⟩ hle => ⟨p0, p1, h, g0.mono hle⟩⟩
@[reducible] def e23 : ET := eInt .u64 23
@[reducible] def e42 : ET := eSl 42 e3
@[reducible] def e4 : ET := eBool 4
structure M41 where
  f0 : Int
  f1 : Int
  f2 : Int
  f3 : Int
@[reducible] def e41 : ET := ⟨M41, 4, 41, fun ih x cs => cs = [vi64 x.f0, vi64 x.f1, vu64 x.f2, vi64 x.f3],
  fun h => by rw [h]; rfl, fun h => by rw [h]; rfl, fun h hle => h⟩
structure M156 where
  f0 : Int
  f1 : Int
  f2 : M41
@[reducible] def e156 : ET := ⟨M156, 6, 156, fun ih x cs => cs = [vi64 x.f0, vu64 x.f1, vi64 x.f2.f0, vi64 x.f2.f1, vu64 x.f2.f2, vi64 x.f2.f3],
  fun h => by rw [h]; rfl, fun h => by rw [h]; rfl, fun h hle => h⟩
structure M96 where
  f0 : Int
  f1 : Int
  f2 : Int
  f3 : Int
  f4 : Int
  f5 : Int
  f6 : List Int
@[reducible] def e96 : ET := ⟨M96, 7, 96, fun ih x cs => ∃ q0 k0, cs = [vu64 x.f0, vi64 x.f1, vu64 x.f2, vi64 x.f3, vu32 x.f4, vu64 x.f5, .slice q0 x.f6.length k0] ∧ RSl e5 ih [] q0 k0 x.f6,
  fun ⟨_, _, h, g0⟩ => by rw [h]; rfl, fun ⟨_, _, h, g0⟩ => by rw [h]; rfl, fun ⟨p0, p1, h, g0⟩ hle => ⟨p0, p1, h, g0.mono hle⟩⟩
structure M48 where
  f0 : Int
  f1 : Int
  f2 : Int
  f3 : Int
  f4 : Int
  f5 : Int
  f6 : Int
  f7 : Int
  f8 : Int
  f9 : Int
  f10 : Int
  f11 : Int
  f12 : Int
  f13 : M41
  f14 : M44
  f15 : List M156
  f16 : List M96
  f17 : List Int
@[reducible] def e48 : ET := ⟨M48, 25, 48, fun ih x cs => ∃ q0 k0 q1 k1 q2 k2 q3 k3, cs = [vi64 x.f0, vi64 x.f1, vi64 x.f2, vi64 x.f3, vu64 x.f4, vu64 x.f5, vu64 x.f6, vu64 x.f7, vu64 x.f8, vu64 x.f9, vi64 x.f10, vu32 x.f11, vi64 x.f12, vi64 x.f13.f0, vi64 x.f13.f1, vu64 x.f13.f2, vi64 x.f13.f3, vi64 x.f14.f0, vu64 x.f14.f1, .slice q0 x.f14.f2.length k0, .bool x.f14.f3, vi64 x.f14.f4, .slice q1 x.f15.length k1, .slice q2 x.f16.length k2, .slice q3 x.f17.length k3] ∧ RSl e3 ih [] q0 k0 x.f14.f2 ∧ RSl e156 ih [] q1 k1 x.f15 ∧ RSl e96 ih [] q2 k2 x.f16 ∧ RSl e5 ih [] q3 k3 x.f17,
  fun ⟨_, _, _, _, _, _, _, _, h, g0, g1, g2, g3⟩ => by rw [h]; rfl, fun ⟨_, _, _, _, _, _, _, _, h, g0, g1, g2, g3⟩ => by rw [h]; rfl, fun ⟨p0, p1, p2, p3, p4, p5, p6, p7, h, g0, g1, g2, g3⟩ hle => ⟨p0, p1, p2, p3, p4, p5, p6, p7, h, g0.mono hle, g1.mono hle, g2.mono hle, g3.mono hle⟩⟩
@[reducible] def e22 : ET := eInt .u32 22
@[reducible] def e24 : ET := eSl 24 e5
structure M159 where
  f0 : Int
  f1 : Int
  f2 : Int
  f3 : Int
  f4 : Int
  f5 : Int
@[reducible] def e159 : ET := ⟨M159, 6, 159, fun ih x cs => cs = [vi64 x.f0, vi64 x.f1, vi64 x.f2, vi64 x.f3, vi64 x.f4, vi64 x.f5],
  fun h => by rw [h]; rfl, fun h => by rw [h]; rfl, fun h hle => h⟩
structure M161 where
  f0 : List Int
  f1 : M159
@[reducible] def e161 : ET := ⟨M161, 7, 161, fun ih x cs => cs = [.string (strOf x.f0), vi64 x.f1.f0, vi64 x.f1.f1, vi64 x.f1.f2, vi64 x.f1.f3, vi64 x.f1.f4, vi64 x.f1.f5],
  fun h => by rw [h]; rfl, fun h => by rw [h]; rfl, fun h hle => h⟩
@[reducible] def e29 : ET := eInt .i64 29
@[reducible] def e45 : ET := eSl 45 e156
@[reducible] def e46 : ET := eSl 46 e96
@[reducible] def e134t : ET := ⟨Nat, 3, 134, fun ih x cs => (x = 0 ∧ cs = [.func (.func 159) #[] #[], .func (.func 160) #[] #[], .func (.func 161) #[] #[]]) ∨ (x = 1 ∧ cs = [.func (.func 140) #[] #[], .func (.func 162) #[] #[], .func (.func 163) #[] #[]]) ∨ (x = 2 ∧ cs = [.func (.func 164) #[] #[], .func (.func 166) #[] #[], .func (.func 168) #[] #[]]) ∨ (x = 3 ∧ cs = [.func (.func 169) #[] #[], .func (.func 170) #[] #[], .func (.func 172) #[] #[]]) ∨ (x = 4 ∧ cs = [.func (.func 173) #[] #[], .func (.func 175) #[] #[], .func (.func 176) #[] #[]]) ∨ (x = 5 ∧ cs = [.func (.func 177) #[] #[], .func (.func 178) #[] #[], .func (.func 179) #[] #[]]) ∨ (x = 6 ∧ cs = [.func (.func 180) #[] #[], .func (.func 182) #[] #[], .func (.func 184) #[] #[]]) ∨ (x = 7 ∧ ∃ (b0 : Nat) (b1 : Nat), cs = [.func (.func 130) #[] #[], .func (.func 152) #[] #[(pt b0 0), (pt b1 0)], .func (.func 154) #[] #[(pt b1 0), (pt b0 0)]] ∧ Glob b0 [.func (.func 131) #[] #[]] 181 ih ∧ Glob b1 [vi64 1] 3 ih) ∨ (x = 8 ∧ ∃ (b0 : Nat) (b1 : Nat), cs = [.func (.func 132) #[] #[], .func (.func 152) #[] #[(pt b0 0), (pt b1 0)], .func (.func 154) #[] #[(pt b1 0), (pt b0 0)]] ∧ Glob b0 [.func (.func 133) #[] #[]] 181 ih ∧ Glob b1 [vi64 2] 3 ih) ∨ (x = 9 ∧ ∃ (b0 : Nat), cs = [.func (.func 135) #[] #[], .func (.func 156) #[] #[(pt b0 0)], .func (.func 157) #[] #[(pt b0 0)]] ∧ Glob b0 [.func (.func 136) #[] #[]] 184 ih) ∨ (x = 10 ∧ ∃ (b0 : Nat), cs = [.func (.func 137) #[] #[], .func (.func 156) #[] #[(pt b0 0)], .func (.func 157) #[] #[(pt b0 0)]] ∧ Glob b0 [.func (.func 139) #[] #[]] 184 ih) ∨ (x = 11 ∧ ∃ (b0 : Nat), cs = [.func (.func 140) #[] #[], .func (.func 156) #[] #[(pt b0 0)], .func (.func 157) #[] #[(pt b0 0)]] ∧ Glob b0 [.func (.func 141) #[] #[]] 184 ih) ∨ (x = 12 ∧ ∃ (b0 : Nat), cs = [.func (.func 140) #[] #[], .func (.func 156) #[] #[(pt b0 0)], .func (.func 157) #[] #[(pt b0 0)]] ∧ Glob b0 [.func (.func 142) #[] #[]] 184 ih) ∨ (x = 13 ∧ ∃ (b0 : Nat), cs = [.func (.func 140) #[] #[], .func (.func 156) #[] #[(pt b0 0)], .func (.func 157) #[] #[(pt b0 0)]] ∧ Glob b0 [.func (.func 143) #[] #[]] 184 ih) ∨ (x = 14 ∧ ∃ (b0 : Nat), cs = [.func (.func 140) #[] #[], .func (.func 156) #[] #[(pt b0 0)], .func (.func 157) #[] #[(pt b0 0)]] ∧ Glob b0 [.func (.func 144) #[] #[]] 184 ih),
  fun h => by rcases h with ⟨rfl, rfl⟩ | ⟨rfl, rfl⟩ | ⟨rfl, rfl⟩ | ⟨rfl, rfl⟩ | ⟨rfl, rfl⟩ | ⟨rfl, rfl⟩ | ⟨rfl, rfl⟩ | ⟨rfl, b0, b1, rfl, g0, g1⟩ | ⟨rfl, b0, b1, rfl, g0, g1⟩ | ⟨rfl, b0, rfl, g0⟩ | ⟨rfl, b0, rfl, g0⟩ | ⟨rfl, b0, rfl, g0⟩ | ⟨rfl, b0, rfl, g0⟩ | ⟨rfl, b0, rfl, g0⟩ | ⟨rfl, b0, rfl, g0⟩ <;> rfl,
  fun h => by rcases h with ⟨rfl, rfl⟩ | ⟨rfl, rfl⟩ | ⟨rfl, rfl⟩ | ⟨rfl, rfl⟩ | ⟨rfl, rfl⟩ | ⟨rfl, rfl⟩ | ⟨rfl, rfl⟩ | ⟨rfl, b0, b1, rfl, g0, g1⟩ | ⟨rfl, b0, b1, rfl, g0, g1⟩ | ⟨rfl, b0, rfl, g0⟩ | ⟨rfl, b0, rfl, g0⟩ | ⟨rfl, b0, rfl, g0⟩ | ⟨rfl, b0, rfl, g0⟩ | ⟨rfl, b0, rfl, g0⟩ | ⟨rfl, b0, rfl, g0⟩ <;> rfl,
  fun h hle => by
    rcases h with ⟨rfl, rfl⟩ | ⟨rfl, rfl⟩ | ⟨rfl, rfl⟩ | ⟨rfl, rfl⟩ | ⟨rfl, rfl⟩ | ⟨rfl, rfl⟩ | ⟨rfl, rfl⟩ | ⟨rfl, b0, b1, rfl, g0, g1⟩ | ⟨rfl, b0, b1, rfl, g0, g1⟩ | ⟨rfl, b0, rfl, g0⟩ | ⟨rfl, b0, rfl, g0⟩ | ⟨rfl, b0, rfl, g0⟩ | ⟨rfl, b0, rfl, g0⟩ | ⟨rfl, b0, rfl, g0⟩ | ⟨rfl, b0, rfl, g0⟩
    · exact .inl (⟨rfl, rfl⟩)
    · exact .inr (.inl (⟨rfl, rfl⟩))
    · exact .inr (.inr (.inl (⟨rfl, rfl⟩)))
    · exact .inr (.inr (.inr (.inl (⟨rfl, rfl⟩))))
    · exact .inr (.inr (.inr (.inr (.inl (⟨rfl, rfl⟩)))))
    · exact .inr (.inr (.inr (.inr (.inr (.inl (⟨rfl, rfl⟩))))))
    · exact .inr (.inr (.inr (.inr (.inr (.inr (.inl (⟨rfl, rfl⟩)))))))
    · exact .inr (.inr (.inr (.inr (.inr (.inr (.inr (.inl (⟨rfl, b0, b1, rfl, g0.mono hle, g1.mono hle⟩))))))))
    · exact .inr (.inr (.inr (.inr (.inr (.inr (.inr (.inr (.inl (⟨rfl, b0, b1, rfl, g0.mono hle, g1.mono hle⟩)))))))))
    · exact .inr (.inr (.inr (.inr (.inr (.inr (.inr (.inr (.inr (.inl (⟨rfl, b0, rfl, g0.mono hle⟩))))))))))
    · exact .inr (.inr (.inr (.inr (.inr (.inr (.inr (.inr (.inr (.inr (.inl (⟨rfl, b0, rfl, g0.mono hle⟩)))))))))))
    · exact .inr (.inr (.inr (.inr (.inr (.inr (.inr (.inr (.inr (.inr (.inr (.inl (⟨rfl, b0, rfl, g0.mono hle⟩))))))))))))
    · exact .inr (.inr (.inr (.inr (.inr (.inr (.inr (.inr (.inr (.inr (.inr (.inr (.inl (⟨rfl, b0, rfl, g0.mono hle⟩)))))))))))))
    · exact .inr (.inr (.inr (.inr (.inr (.inr (.inr (.inr (.inr (.inr (.inr (.inr (.inr (.inl (⟨rfl, b0, rfl, g0.mono hle⟩))))))))))))))
    · exact .inr (.inr (.inr (.inr (.inr (.inr (.inr (.inr (.inr (.inr (.inr (.inr (.inr (.inr (⟨rfl, b0, rfl, g0.mono hle⟩))))))))))))))⟩
theorem e134t_in0 {ih : IH} : e134t.enc ih 0 [.func (.func 159) #[] #[], .func (.func 160) #[] #[], .func (.func 161) #[] #[]] := .inl (⟨rfl, rfl⟩)
theorem e134t_in1 {ih : IH} : e134t.enc ih 1 [.func (.func 140) #[] #[], .func (.func 162) #[] #[], .func (.func 163) #[] #[]] := .inr (.inl (⟨rfl, rfl⟩))
theorem e134t_in2 {ih : IH} : e134t.enc ih 2 [.func (.func 164) #[] #[], .func (.func 166) #[] #[], .func (.func 168) #[] #[]] := .inr (.inr (.inl (⟨rfl, rfl⟩)))
theorem e134t_in3 {ih : IH} : e134t.enc ih 3 [.func (.func 169) #[] #[], .func (.func 170) #[] #[], .func (.func 172) #[] #[]] := .inr (.inr (.inr (.inl (⟨rfl, rfl⟩))))
theorem e134t_in4 {ih : IH} : e134t.enc ih 4 [.func (.func 173) #[] #[], .func (.func 175) #[] #[], .func (.func 176) #[] #[]] := .inr (.inr (.inr (.inr (.inl (⟨rfl, rfl⟩)))))
theorem e134t_in5 {ih : IH} : e134t.enc ih 5 [.func (.func 177) #[] #[], .func (.func 178) #[] #[], .func (.func 179) #[] #[]] := .inr (.inr (.inr (.inr (.inr (.inl (⟨rfl, rfl⟩))))))
theorem e134t_in6 {ih : IH} : e134t.enc ih 6 [.func (.func 180) #[] #[], .func (.func 182) #[] #[], .func (.func 184) #[] #[]] := .inr (.inr (.inr (.inr (.inr (.inr (.inl (⟨rfl, rfl⟩)))))))
theorem e134t_in7 {ih : IH} {b0 : Nat} {b1 : Nat} (g0 : Glob b0 [.func (.func 131) #[] #[]] 181 ih) (g1 : Glob b1 [vi64 1] 3 ih) : e134t.enc ih 7 [.func (.func 130) #[] #[], .func (.func 152) #[] #[(pt b0 0), (pt b1 0)], .func (.func 154) #[] #[(pt b1 0), (pt b0 0)]] := .inr (.inr (.inr (.inr (.inr (.inr (.inr (.inl (⟨rfl, b0, b1, rfl, g0, g1⟩))))))))
theorem e134t_in8 {ih : IH} {b0 : Nat} {b1 : Nat} (g0 : Glob b0 [.func (.func 133) #[] #[]] 181 ih) (g1 : Glob b1 [vi64 2] 3 ih) : e134t.enc ih 8 [.func (.func 132) #[] #[], .func (.func 152) #[] #[(pt b0 0), (pt b1 0)], .func (.func 154) #[] #[(pt b1 0), (pt b0 0)]] := .inr (.inr (.inr (.inr (.inr (.inr (.inr (.inr (.inl (⟨rfl, b0, b1, rfl, g0, g1⟩)))))))))
theorem e134t_in9 {ih : IH} {b0 : Nat} (g0 : Glob b0 [.func (.func 136) #[] #[]] 184 ih) : e134t.enc ih 9 [.func (.func 135) #[] #[], .func (.func 156) #[] #[(pt b0 0)], .func (.func 157) #[] #[(pt b0 0)]] := .inr (.inr (.inr (.inr (.inr (.inr (.inr (.inr (.inr (.inl (⟨rfl, b0, rfl, g0⟩))))))))))
theorem e134t_in10 {ih : IH} {b0 : Nat} (g0 : Glob b0 [.func (.func 139) #[] #[]] 184 ih) : e134t.enc ih 10 [.func (.func 137) #[] #[], .func (.func 156) #[] #[(pt b0 0)], .func (.func 157) #[] #[(pt b0 0)]] := .inr (.inr (.inr (.inr (.inr (.inr (.inr (.inr (.inr (.inr (.inl (⟨rfl, b0, rfl, g0⟩)))))))))))
theorem e134t_in11 {ih : IH} {b0 : Nat} (g0 : Glob b0 [.func (.func 141) #[] #[]] 184 ih) : e134t.enc ih 11 [.func (.func 140) #[] #[], .func (.func 156) #[] #[(pt b0 0)], .func (.func 157) #[] #[(pt b0 0)]] := .inr (.inr (.inr (.inr (.inr (.inr (.inr (.inr (.inr (.inr (.inr (.inl (⟨rfl, b0, rfl, g0⟩))))))))))))
theorem e134t_in12 {ih : IH} {b0 : Nat} (g0 : Glob b0 [.func (.func 142) #[] #[]] 184 ih) : e134t.enc ih 12 [.func (.func 140) #[] #[], .func (.func 156) #[] #[(pt b0 0)], .func (.func 157) #[] #[(pt b0 0)]] := .inr (.inr (.inr (.inr (.inr (.inr (.inr (.inr (.inr (.inr (.inr (.inr (.inl (⟨rfl, b0, rfl, g0⟩)))))))))))))
theorem e134t_in13 {ih : IH} {b0 : Nat} (g0 : Glob b0 [.func (.func 143) #[] #[]] 184 ih) : e134t.enc ih 13 [.func (.func 140) #[] #[], .func (.func 156) #[] #[(pt b0 0)], .func (.func 157) #[] #[(pt b0 0)]] := .inr (.inr (.inr (.inr (.inr (.inr (.inr (.inr (.inr (.inr (.inr (.inr (.inr (.inl (⟨rfl, b0, rfl, g0⟩))))))))))))))
theorem e134t_in14 {ih : IH} {b0 : Nat} (g0 : Glob b0 [.func (.func 144) #[] #[]] 184 ih) : e134t.enc ih 14 [.func (.func 140) #[] #[], .func (.func 156) #[] #[(pt b0 0)], .func (.func 157) #[] #[(pt b0 0)]] := .inr (.inr (.inr (.inr (.inr (.inr (.inr (.inr (.inr (.inr (.inr (.inr (.inr (.inr (⟨rfl, b0, rfl, g0⟩))))))))))))))
theorem e134t_open {ih : IH} {x : Nat} {cs : List Value} (h : e134t.enc ih x cs) : ∃ u0 u1 u2 : Value, cs = [u0, u1, u2] := by
  rcases h with ⟨rfl, rfl⟩ | ⟨rfl, rfl⟩ | ⟨rfl, rfl⟩ | ⟨rfl, rfl⟩ | ⟨rfl, rfl⟩ | ⟨rfl, rfl⟩ | ⟨rfl, rfl⟩ | ⟨rfl, b0, b1, rfl, g0, g1⟩ | ⟨rfl, b0, b1, rfl, g0, g1⟩ | ⟨rfl, b0, rfl, g0⟩ | ⟨rfl, b0, rfl, g0⟩ | ⟨rfl, b0, rfl, g0⟩ | ⟨rfl, b0, rfl, g0⟩ | ⟨rfl, b0, rfl, g0⟩ | ⟨rfl, b0, rfl, g0⟩ <;> exact ⟨_, _, _, rfl⟩
structure M51 where
  f0 : Int
  f1 : Int
  f2 : List Int
@[reducible] def e51 : ET := ⟨M51, 3, 51, fun ih x cs => ∃ q0 k0, cs = [vi64 x.f0, vu64 x.f1, .slice q0 x.f2.length k0] ∧ RSl e5 ih [] q0 k0 x.f2,
  fun ⟨_, _, h, g0⟩ => by rw [h]; rfl, fun ⟨_, _, h, g0⟩ => by rw [h]; rfl, fun ⟨p0, p1, h, g0⟩ hle => ⟨p0, p1, h, g0.mono hle⟩⟩
@[reducible] def e9 : ET := eStr 9
def gl0 : List Value := [.string (strOf ([])), vi64 0, vi64 0, vi64 0, vi64 0, vi64 0, vi64 0, .string (strOf ([112, 114, 101, 112, 97, 114, 101])), vi64 4, vi64 32, vi64 0, vi64 0, vi64 0, vi64 0, .string (strOf ([112, 114, 111, 109, 105, 115, 101])), vi64 4, vi64 32, vi64 4096, vi64 0, vi64 0, vi64 0, .string (strOf ([97, 99, 99, 101, 112, 116])), vi64 4, vi64 32, vi64 1024, vi64 0, vi64 0, vi64 0, .string (strOf ([97, 99, 99, 101, 112, 116, 101, 100])), vi64 4, vi64 32, vi64 0, vi64 0, vi64 0, vi64 0, .string (strOf ([99, 104, 111, 115, 101, 110])), vi64 32, vi64 1024, vi64 0, vi64 0, vi64 0, vi64 0, .string (strOf ([98, 101, 97, 116])), vi64 4, vi64 32, vi64 0, vi64 0, vi64 0, vi64 0, .string (strOf ([119, 97, 110, 116])), vi64 32, vi64 0, vi64 0, vi64 0, vi64 0, vi64 0, .string (strOf ([114, 101, 102, 117, 115, 101])), vi64 4, vi64 0, vi64 0, vi64 0, vi64 0, vi64 0, .string (strOf ([114, 101, 112, 111, 114, 116])), vi64 1024, vi64 0, vi64 0, vi64 0, vi64 0, vi64 0, .string (strOf ([108, 111, 99, 97, 116, 101])), vi64 1, vi64 0, vi64 0, vi64 0, vi64 0, vi64 0, .string (strOf ([99, 111, 110, 102, 105, 103])), vi64 2048, vi64 0, vi64 0, vi64 0, vi64 0, vi64 0, .string (strOf ([112, 117, 115, 104])), vi64 1, vi64 2, vi64 8, vi64 16, vi64 8192, vi64 0, .string (strOf ([97, 99, 107])), vi64 1, vi64 2, vi64 8, vi64 16, vi64 64, vi64 32, .string (strOf ([112, 97, 114, 116])), vi64 1, vi64 2, vi64 8, vi64 32, vi64 64, vi64 16384, .string (strOf ([113, 117, 101, 114, 121])), vi64 1, vi64 2, vi64 64, vi64 256, vi64 0, vi64 0, .string (strOf ([116, 111, 108, 100])), vi64 1, vi64 2, vi64 64, vi64 256, vi64 512, vi64 0, .string (strOf ([119, 114, 105, 116, 101])), vi64 1, vi64 2, vi64 8192, vi64 0, vi64 0, vi64 0, .string (strOf ([119, 114, 111, 116, 101])), vi64 64, vi64 128, vi64 512, vi64 0, vi64 0, vi64 0, .string (strOf ([114, 101, 97, 100])), vi64 1, vi64 2, vi64 64, vi64 256, vi64 0, vi64 0, .string (strOf ([103, 111, 116])), vi64 64, vi64 256, vi64 512, vi64 16384, vi64 0, vi64 0]
def gtab161 : List M161 := [(M161.mk ([]) (M159.mk 0 0 0 0 0 0)), (M161.mk ([112, 114, 101, 112, 97, 114, 101]) (M159.mk 4 32 0 0 0 0)), (M161.mk ([112, 114, 111, 109, 105, 115, 101]) (M159.mk 4 32 4096 0 0 0)), (M161.mk ([97, 99, 99, 101, 112, 116]) (M159.mk 4 32 1024 0 0 0)), (M161.mk ([97, 99, 99, 101, 112, 116, 101, 100]) (M159.mk 4 32 0 0 0 0)), (M161.mk ([99, 104, 111, 115, 101, 110]) (M159.mk 32 1024 0 0 0 0)), (M161.mk ([98, 101, 97, 116]) (M159.mk 4 32 0 0 0 0)), (M161.mk ([119, 97, 110, 116]) (M159.mk 32 0 0 0 0 0)), (M161.mk ([114, 101, 102, 117, 115, 101]) (M159.mk 4 0 0 0 0 0)), (M161.mk ([114, 101, 112, 111, 114, 116]) (M159.mk 1024 0 0 0 0 0)), (M161.mk ([108, 111, 99, 97, 116, 101]) (M159.mk 1 0 0 0 0 0)), (M161.mk ([99, 111, 110, 102, 105, 103]) (M159.mk 2048 0 0 0 0 0)), (M161.mk ([112, 117, 115, 104]) (M159.mk 1 2 8 16 8192 0)), (M161.mk ([97, 99, 107]) (M159.mk 1 2 8 16 64 32)), (M161.mk ([112, 97, 114, 116]) (M159.mk 1 2 8 32 64 16384)), (M161.mk ([113, 117, 101, 114, 121]) (M159.mk 1 2 64 256 0 0)), (M161.mk ([116, 111, 108, 100]) (M159.mk 1 2 64 256 512 0)), (M161.mk ([119, 114, 105, 116, 101]) (M159.mk 1 2 8192 0 0 0)), (M161.mk ([119, 114, 111, 116, 101]) (M159.mk 64 128 512 0 0 0)), (M161.mk ([114, 101, 97, 100]) (M159.mk 1 2 64 256 0 0)), (M161.mk ([103, 111, 116]) (M159.mk 64 256 512 16384 0 0))]
theorem gtab161_row {ih : IH} (h : Glob 0 gl0 162 ih) : RSl e161 ih [] (some ⟨0, 0, none⟩) 21 gtab161 := RSl.ofEL h (EL.cons (E := e161) (c1 := [.string (strOf ([])), vi64 0, vi64 0, vi64 0, vi64 0, vi64 0, vi64 0]) rfl (EL.cons (E := e161) (c1 := [.string (strOf ([112, 114, 101, 112, 97, 114, 101])), vi64 4, vi64 32, vi64 0, vi64 0, vi64 0, vi64 0]) rfl (EL.cons (E := e161) (c1 := [.string (strOf ([112, 114, 111, 109, 105, 115, 101])), vi64 4, vi64 32, vi64 4096, vi64 0, vi64 0, vi64 0]) rfl (EL.cons (E := e161) (c1 := [.string (strOf ([97, 99, 99, 101, 112, 116])), vi64 4, vi64 32, vi64 1024, vi64 0, vi64 0, vi64 0]) rfl (EL.cons (E := e161) (c1 := [.string (strOf ([97, 99, 99, 101, 112, 116, 101, 100])), vi64 4, vi64 32, vi64 0, vi64 0, vi64 0, vi64 0]) rfl (EL.cons (E := e161) (c1 := [.string (strOf ([99, 104, 111, 115, 101, 110])), vi64 32, vi64 1024, vi64 0, vi64 0, vi64 0, vi64 0]) rfl (EL.cons (E := e161) (c1 := [.string (strOf ([98, 101, 97, 116])), vi64 4, vi64 32, vi64 0, vi64 0, vi64 0, vi64 0]) rfl (EL.cons (E := e161) (c1 := [.string (strOf ([119, 97, 110, 116])), vi64 32, vi64 0, vi64 0, vi64 0, vi64 0, vi64 0]) rfl (EL.cons (E := e161) (c1 := [.string (strOf ([114, 101, 102, 117, 115, 101])), vi64 4, vi64 0, vi64 0, vi64 0, vi64 0, vi64 0]) rfl (EL.cons (E := e161) (c1 := [.string (strOf ([114, 101, 112, 111, 114, 116])), vi64 1024, vi64 0, vi64 0, vi64 0, vi64 0, vi64 0]) rfl (EL.cons (E := e161) (c1 := [.string (strOf ([108, 111, 99, 97, 116, 101])), vi64 1, vi64 0, vi64 0, vi64 0, vi64 0, vi64 0]) rfl (EL.cons (E := e161) (c1 := [.string (strOf ([99, 111, 110, 102, 105, 103])), vi64 2048, vi64 0, vi64 0, vi64 0, vi64 0, vi64 0]) rfl (EL.cons (E := e161) (c1 := [.string (strOf ([112, 117, 115, 104])), vi64 1, vi64 2, vi64 8, vi64 16, vi64 8192, vi64 0]) rfl (EL.cons (E := e161) (c1 := [.string (strOf ([97, 99, 107])), vi64 1, vi64 2, vi64 8, vi64 16, vi64 64, vi64 32]) rfl (EL.cons (E := e161) (c1 := [.string (strOf ([112, 97, 114, 116])), vi64 1, vi64 2, vi64 8, vi64 32, vi64 64, vi64 16384]) rfl (EL.cons (E := e161) (c1 := [.string (strOf ([113, 117, 101, 114, 121])), vi64 1, vi64 2, vi64 64, vi64 256, vi64 0, vi64 0]) rfl (EL.cons (E := e161) (c1 := [.string (strOf ([116, 111, 108, 100])), vi64 1, vi64 2, vi64 64, vi64 256, vi64 512, vi64 0]) rfl (EL.cons (E := e161) (c1 := [.string (strOf ([119, 114, 105, 116, 101])), vi64 1, vi64 2, vi64 8192, vi64 0, vi64 0, vi64 0]) rfl (EL.cons (E := e161) (c1 := [.string (strOf ([119, 114, 111, 116, 101])), vi64 64, vi64 128, vi64 512, vi64 0, vi64 0, vi64 0]) rfl (EL.cons (E := e161) (c1 := [.string (strOf ([114, 101, 97, 100])), vi64 1, vi64 2, vi64 64, vi64 256, vi64 0, vi64 0]) rfl (EL.cons (E := e161) (c1 := [.string (strOf ([103, 111, 116])), vi64 64, vi64 256, vi64 512, vi64 16384, vi64 0, vi64 0]) rfl EL.nil)))))))))))))))))))))
theorem appT24 : AppT Tryz.prog 24 e5 := appT_of (by kernel_rfl)
theorem appT28 : AppT Tryz.prog 28 e44 := appT_of (by kernel_rfl)
theorem appT36 : AppT Tryz.prog 36 e48 := appT_of (by kernel_rfl)
theorem appT42 : AppT Tryz.prog 42 e3 := appT_of (by kernel_rfl)
theorem appT129t : AppT Tryz.prog 129 e134t := appT_of (by kernel_rfl)
def catenaryref09_Begin_r17 (x1001 : List M44) (x1007 : Int) : Option ((List M44) × Int) :=
  if (decide (x1007 > 24)) = true then some ([], 9)
  else some (x1001, 0)
def catenaryref09_Begin_r19 (rec_catenaryref09_Begin_l18 : (List M44) → Int → Int → Option ((List M44) × Int)) (x862 : List M44) (x869 : Int) (x1091 : Int) (x1092 : List Int) : Option ((List M44) × Int) :=
  (app x862 [(M44.mk x869 1 x1092 false 0)]).bind fun x1114 =>
  rec_catenaryref09_Begin_l18 x1114 x1091 (IntKind.i64.wrap (x869 + 1))
def catenaryref09_Begin_l20 (x2 : Int) : Nat → Int → Int → (List Int) → Option (Int × (List Int))
  | 0, _, _, _ => none
  | j + 1, x1066, x1067, x1068 =>
    if (decide (x1067 < x2)) = true then (
      (app x1068 [(IntKind.i64.wrap (x1066 + 1))]).bind fun x1135 =>
      catenaryref09_Begin_l20 x2 j (IntKind.i64.wrap (x1066 + 1)) (IntKind.i64.wrap (x1067 + 1)) x1135)
    else some (x1066, x1068)
def catenaryref09_Begin_l18 (k : Nat) (x1 : Int) (x2 : Int) : Nat → (List M44) → Int → Int → Option ((List M44) × Int)
  | 0, _, _, _ => none
  | j + 1, x862, x868, x869 =>
    if (decide (x869 < x1)) = true then (catenaryref09_Begin_l20 x2 k x868 0 ([]) : Option (Int × (List Int))).bind fun s1143 => catenaryref09_Begin_r19 (catenaryref09_Begin_l18 k x1 x2 j) x862 x869 s1143.1 s1143.2
    else some (x862, x868)
def catenaryref09_Begin (k : Nat) (x1 : Int) (x2 : Int) : Option ((List M44) × Int) :=
  if ((decide (x1 < 1)) || ((decide (x1 > 4)) || ((decide (x2 < 1)) || (decide (x2 > 5))))) = true then some ([], 1)
  else (catenaryref09_Begin_l18 k x1 x2 k ([]) 0 0 : Option ((List M44) × Int)).bind fun s1146 => catenaryref09_Begin_r17 s1146.1 s1146.2
theorem catenaryref09_Begin_s {k : Nat} {x1 : Int} {x2 : Int} {r : (List M44) × Int} (hk : catenaryref09_Begin k x1 x2 = some r) {g w : World} {F : Ch} {ih : IH} (hw : St g w [F] ih) :
    CallsR Tryz.prog 6 #[vi64 x1, vi64 x2] w fun v w' => ∃ (ih' : IH) (p1147 : Option Addr) (c1148 : Nat) (d1150 : Ch), v = .tuple #[.slice p1147 r.1.length c1148, vi64 r.2] ∧ St g w' [d1150, F] ih' ∧ Le ih ih' ∧ OSl e44 ih' p1147 c1148 r.1 d1150 := by
  refine f_in (vs := [vi64 x1, vi64 x2]) Tryz.func6 rfl 52 rfl (by kernel_rfl) [(0, vi64 x1), (1, vi64 x2)] (by kernel_rfl) fun a Qf hQ hQn hs => ?_
  refine c_seq ?_
  refine c_region ?_
  refine pures hs 2 [0, 1] [(0, vi64 x1), (1, vi64 x2)] (by kernel_rfl) fun a hs => ?_
  refine s_end ?_
  refine c_seq ?_
  refine c_seq ?_
  obtain ⟨J581, hJ581⟩ : ∃ J : Act → World → Prop, ∀ a w, J a w ↔ (Sees a 52 [(0, vi64 x1), (1, vi64 x2), (24, .bool ((decide (x1 < 1)) || ((decide (x1 > 4)) || ((decide (x2 < 1)) || (decide (x2 > 5))))))] ∧ St g w [F] ih) := ⟨_, fun _ _ => Iff.rfl⟩
  refine c_regJ J581 ?_ ?_
  · refine pures hs 3 [0, 1, 13] [(0, vi64 x1), (1, vi64 x2), (13, .bool (decide (x1 < 1)))] (by kernel_rfl) fun a hs => ?_
    rcases boolE (decide (x1 < 1)) with h582 | h582
    · replace hs := hs.altB 13 true (by kernel_rfl) h582
      refine pures hs 11 [0, 1, 24] [(0, vi64 x1), (1, vi64 x2), (24, .bool true)] (by kernel_rfl) fun a hs => ?_
      refine s_end ?_
      exact (hJ581 _ _).2 ⟨(hs.altB (b := true) 24 ((decide (x1 < 1)) || ((decide (x1 > 4)) || ((decide (x2 < 1)) || (decide (x2 > 5))))) (by kernel_rfl) (by rw [h582] <;> rfl)).cast [0, 1, 24] (by kernel_rfl), hw.pick [0] (by kernel_rfl)⟩
    replace hs := hs.altB 13 false (by kernel_rfl) h582
    refine pures hs 4 [0, 1, 17] [(0, vi64 x1), (1, vi64 x2), (17, .bool (decide (x1 > 4)))] (by kernel_rfl) fun a hs => ?_
    rcases boolE (decide (x1 > 4)) with h583 | h583
    · replace hs := hs.altB 17 true (by kernel_rfl) h583
      refine pures hs 7 [0, 1, 24] [(0, vi64 x1), (1, vi64 x2), (24, .bool true)] (by kernel_rfl) fun a hs => ?_
      refine s_end ?_
      exact (hJ581 _ _).2 ⟨(hs.altB (b := true) 24 ((decide (x1 < 1)) || ((decide (x1 > 4)) || ((decide (x2 < 1)) || (decide (x2 > 5))))) (by kernel_rfl) (by rw [h582, h583] <;> rfl)).cast [0, 1, 24] (by kernel_rfl), hw.pick [0] (by kernel_rfl)⟩
    replace hs := hs.altB 17 false (by kernel_rfl) h583
    refine pures hs 4 [0, 1, 21] [(0, vi64 x1), (1, vi64 x2), (21, .bool (decide (x2 < 1)))] (by kernel_rfl) fun a hs => ?_
    rcases boolE (decide (x2 < 1)) with h584 | h584
    · replace hs := hs.altB 21 true (by kernel_rfl) h584
      refine pures hs 3 [0, 1, 24] [(0, vi64 x1), (1, vi64 x2), (24, .bool true)] (by kernel_rfl) fun a hs => ?_
      refine s_end ?_
      exact (hJ581 _ _).2 ⟨(hs.altB (b := true) 24 ((decide (x1 < 1)) || ((decide (x1 > 4)) || ((decide (x2 < 1)) || (decide (x2 > 5))))) (by kernel_rfl) (by rw [h582, h583, h584] <;> rfl)).cast [0, 1, 24] (by kernel_rfl), hw.pick [0] (by kernel_rfl)⟩
    replace hs := hs.altB 21 false (by kernel_rfl) h584
    refine pures hs 3 [0, 1, 24] [(0, vi64 x1), (1, vi64 x2), (24, .bool (decide (x2 > 5)))] (by kernel_rfl) fun a hs => ?_
    refine s_end ?_
    exact (hJ581 _ _).2 ⟨(hs.altB (b := (decide (x2 > 5))) 24 ((decide (x1 < 1)) || ((decide (x1 > 4)) || ((decide (x2 < 1)) || (decide (x2 > 5))))) (by kernel_rfl) (by rw [h582, h583, h584] <;> rfl)).cast [0, 1, 24] (by kernel_rfl), hw.pick [0] (by kernel_rfl)⟩
  intro a w hh
  obtain ⟨hs, hw⟩ := (hJ581 _ _).1 hh
  rcases ifbE hk with ⟨h585, hk⟩ | ⟨h585, hk⟩
  · refine c_cond1 hs (by kernel_rfl) (t := ((decide (x1 < 1)) || ((decide (x1 > 4)) || ((decide (x2 < 1)) || (decide (x2 > 5)))))) (by kernel_rfl) h585 ?_
    refine c_seq ?_
    refine c_region ?_
    refine pures hs 2 [4, 5] [(4, .slice none 0 0), (5, vi64 1)] (by kernel_rfl) fun a hs => ?_
    refine s_end ?_
    refine c_ret ?_
    replace hw := hw.nil
    obtain rfl := someE hk
    refine hQ _ _ (f_retN hs [.tmp 4, .tmp 5] rfl [.slice none 0 0, vi64 1] (by kernel_rfl) (by kernel_rfl) ⟨ih, none, 0, ([]), rfl, hw.pick [0, 1] (by kernel_rfl), (Le.refl _), (OSl.nil _ _)⟩)
  refine c_cond0 hs (by kernel_rfl) (t := ((decide (x1 < 1)) || ((decide (x1 > 4)) || ((decide (x2 < 1)) || (decide (x2 > 5)))))) (by kernel_rfl) h585 ?_
  refine c_skip ?_
  refine c_seq ?_
  refine c_region ?_
  refine pures hs 1 [0, 1, 6] [(0, vi64 x1), (1, vi64 x2), (6, .slice none 0 0)] (by kernel_rfl) fun a hs => ?_
  refine s_end ?_
  refine c_seq ?_
  refine c_region ?_
  refine pures hs 1 [0, 1, 6, 7] [(0, vi64 x1), (1, vi64 x2), (6, .slice none 0 0), (7, vi64 0)] (by kernel_rfl) fun a hs => ?_
  refine s_end ?_
  refine c_seq ?_
  refine c_seq ?_
  refine c_region ?_
  refine pures hs 1 [0, 1, 6, 7, 8] [(0, vi64 x1), (1, vi64 x2), (6, .slice none 0 0), (7, vi64 0), (8, vi64 0)] (by kernel_rfl) fun a hs => ?_
  refine s_end ?_
  refine c_block ?_
  obtain ⟨y1011, hx1012, hk⟩ := bindE hk
  replace hw := hw.nil
  obtain ⟨J1013, hJ1013⟩ : ∃ J : Act → World → Prop, ∀ a w, J a w ↔ (∃ (x1001 : List M44) (x1007 : Int) (p1002 : Option Addr) (c1003 : Nat) (d1005 : Ch) (ih999 : IH), catenaryref09_Begin_r17 x1001 x1007 = some r ∧ Sees a 52 [(6, .slice p1002 x1001.length c1003), (7, vi64 x1007)] ∧ St g w [d1005, F] ih999 ∧ Le ih ih999 ∧ OSl e44 ih999 p1002 c1003 x1001 d1005) := ⟨_, fun _ _ => Iff.rfl⟩
  obtain ⟨I1014, hI1014⟩ : ∃ J : Nat → Act → World → Prop, ∀ j a w, J j a w ↔ (∃ (x862 : List M44) (x868 : Int) (x869 : Int) (p863 : Option Addr) (c864 : Nat) (d866 : Ch) (ih860 : IH), catenaryref09_Begin_l18 k x1 x2 j x862 x868 x869 = some y1011 ∧ Sees a 52 [(0, vi64 x1), (1, vi64 x2), (6, .slice p863 x862.length c864), (7, vi64 x868), (8, vi64 x869)] ∧ St g w [d866, F] ih860 ∧ Le ih ih860 ∧ OSl e44 ih860 p863 c864 x862 d866) := ⟨_, fun _ _ _ => Iff.rfl⟩
  refine c_exitJ 0 J1013 ?_ ?_
  · refine c_loop I1014 k ((hI1014 _ _ _).2 ⟨([]), 0, 0, none, 0, ([]), ih, hx1012, hs.cast [0, 1, 6, 7, 8] (by kernel_rfl), hw.pick [0, 1] (by kernel_rfl), (Le.refl _), (OSl.nil _ _)⟩) (fun a w h0 => ?_) fun j a w hh => ?_
    · obtain ⟨_, _, _, _, _, _, _, h, _⟩ := (hI1014 _ _ _).1 h0
      cases h
    obtain ⟨x862, x868, x869, p863, c864, d866, ih860, hx1012, hs, hw, hle861, h865⟩ := (hI1014 _ _ _).1 hh
    refine c_seq ?_
    refine c_seq ?_
    refine c_region ?_
    refine pures hs 3 [0, 1, 6, 7, 8, 27] [(0, vi64 x1), (1, vi64 x2), (6, .slice p863 x862.length c864), (7, vi64 x868), (8, vi64 x869), (27, .bool (decide (x869 < x1)))] (by kernel_rfl) fun a hs => ?_
    refine s_end ?_
    rcases ifbE hx1012 with ⟨h1015, hx1012⟩ | ⟨h1015, hx1012⟩
    · refine c_cond1 hs (by kernel_rfl) (t := (decide (x869 < x1))) (by kernel_rfl) h1015 ?_
      refine c_skip ?_
      refine c_seq ?_
      refine c_block ?_
      refine c_seq ?_
      refine c_region ?_
      refine pures hs 2 [0, 1, 6, 7, 8, 31] [(0, vi64 x1), (1, vi64 x2), (6, .slice p863 x862.length c864), (7, vi64 x868), (8, vi64 x869), (31, .agg #[vi64 x869, vu64 1, .slice none 0 0, .bool false, vi64 0])] (by kernel_rfl) fun a hs => ?_
      refine s_new hs hw [vi64 0, vu64 0, .slice none 0 0, .bool false, vi64 0] 44 (fun b => (pt b 0)) (by kernel_rfl) (fun _ => by kernel_rfl) fun a w b1018 hs hw => ?_
      refine s_store hs hw 0 rfl 0 (by kernel_rfl) (by kernel_rfl) (v := .agg #[vi64 x869, vu64 1, .slice none 0 0, .bool false, vi64 0]) (by kernel_rfl) (by kernel_rfl) (by kernel_rfl) (by kernel_rfl) fun a w hs hw => ?_
      refine s_end ?_
      refine c_seq ?_
      refine c_seq ?_
      refine c_region ?_
      refine pures hs 1 [0, 1, 6, 7, 8, 9, 10] [(0, vi64 x1), (1, vi64 x2), (6, .slice p863 x862.length c864), (7, vi64 x868), (8, vi64 x869), (9, (pt b1018 0)), (10, vi64 0)] (by kernel_rfl) fun a hs => ?_
      refine s_end ?_
      refine c_block ?_
      obtain ⟨y1120, hx1121, hx1012⟩ := bindE hx1012
      replace hw := hw.nil
      obtain ⟨J1122, hJ1122⟩ : ∃ J : Act → World → Prop, ∀ a w, J a w ↔ (∃ (x1091 : Int) (x1092 : List Int) (p1093 : Option Addr) (c1094 : Nat) (d1096 : Ch), catenaryref09_Begin_r19 (catenaryref09_Begin_l18 k x1 x2 j) x862 x869 x1091 x1092 = some y1011 ∧ Sees a 52 [(0, vi64 x1), (1, vi64 x2), (6, .slice p863 x862.length c864), (7, vi64 x1091), (8, vi64 x869), (9, (pt b1018 0))] ∧ St g w [bx b1018 [vi64 x869, vu64 1, .slice p1093 x1092.length c1094, .bool false, vi64 0] 44, d866, d1096, F] ih860 ∧ OSl e3 ih860 p1093 c1094 x1092 d1096) := ⟨_, fun _ _ => Iff.rfl⟩
      obtain ⟨I1123, hI1123⟩ : ∃ J : Nat → Act → World → Prop, ∀ j a w, J j a w ↔ (∃ (x1066 : Int) (x1067 : Int) (x1068 : List Int) (p1069 : Option Addr) (c1070 : Nat) (d1072 : Ch), catenaryref09_Begin_l20 x2 j x1066 x1067 x1068 = some y1120 ∧ Sees a 52 [(0, vi64 x1), (1, vi64 x2), (6, .slice p863 x862.length c864), (7, vi64 x1066), (8, vi64 x869), (9, (pt b1018 0)), (10, vi64 x1067)] ∧ St g w [bx b1018 [vi64 x869, vu64 1, .slice p1069 x1068.length c1070, .bool false, vi64 0] 44, d866, d1072, F] ih860 ∧ OSl e3 ih860 p1069 c1070 x1068 d1072) := ⟨_, fun _ _ _ => Iff.rfl⟩
      refine c_exitJ 2 J1122 ?_ ?_
      · refine c_loop I1123 k ((hI1123 _ _ _).2 ⟨x868, 0, ([]), none, 0, ([]), hx1121, hs.cast [0, 1, 6, 7, 8, 9, 10] (by kernel_rfl), hw.pick [1, 2, 0, 3] (by kernel_rfl), (OSl.nil _ _)⟩) (fun a w h0 => ?_) fun j a w hh => ?_
        · obtain ⟨_, _, _, _, _, _, h, _⟩ := (hI1123 _ _ _).1 h0
          cases h
        obtain ⟨x1066, x1067, x1068, p1069, c1070, d1072, hx1121, hs, hw, h1071⟩ := (hI1123 _ _ _).1 hh
        refine c_seq ?_
        refine c_seq ?_
        refine c_region ?_
        refine pures hs 3 [0, 1, 6, 7, 8, 9, 10, 34] [(0, vi64 x1), (1, vi64 x2), (6, .slice p863 x862.length c864), (7, vi64 x1066), (8, vi64 x869), (9, (pt b1018 0)), (10, vi64 x1067), (34, .bool (decide (x1067 < x2)))] (by kernel_rfl) fun a hs => ?_
        refine s_end ?_
        rcases ifbE hx1121 with ⟨h1124, hx1121⟩ | ⟨h1124, hx1121⟩
        · refine c_cond1 hs (by kernel_rfl) (t := (decide (x1067 < x2))) (by kernel_rfl) h1124 ?_
          refine c_skip ?_
          refine c_seq ?_
          refine c_block ?_
          refine c_seq ?_
          refine c_region ?_
          refine pures hs 3 [0, 1, 6, 7, 8, 9, 10] [(0, vi64 x1), (1, vi64 x2), (6, .slice p863 x862.length c864), (7, vi64 (IntKind.i64.wrap (x1066 + 1))), (8, vi64 x869), (9, (pt b1018 0)), (10, vi64 x1067)] (by kernel_rfl) fun a hs => ?_
          refine s_end ?_
          refine c_region ?_
          refine pures hs 1 [0, 1, 6, 7, 8, 9, 10, 39] [(0, vi64 x1), (1, vi64 x2), (6, .slice p863 x862.length c864), (7, vi64 (IntKind.i64.wrap (x1066 + 1))), (8, vi64 x869), (9, (pt b1018 0)), (10, vi64 x1067), (39, (pt b1018 2))] (by kernel_rfl) fun a hs => ?_
          refine s_load hs (hw.at_ 0 rfl) 2 (by kernel_rfl) (by kernel_rfl) (v := .slice p1069 x1068.length c1070) (by kernel_rfl) fun a hs => ?_
          refine pures hs 1 [0, 1, 6, 7, 8, 9, 10, 40, 41] [(0, vi64 x1), (1, vi64 x2), (6, .slice p863 x862.length c864), (7, vi64 (IntKind.i64.wrap (x1066 + 1))), (8, vi64 x869), (9, (pt b1018 0)), (10, vi64 x1067), (40, .slice p1069 x1068.length c1070), (41, vi64 (IntKind.i64.wrap (x1066 + 1)))] (by kernel_rfl) fun a hs => ?_
          refine s_new hs hw [vi64 (IntKind.i64.wrap (x1066 + 1))] 3 (fun b => .slice (some ⟨b, 0, none⟩) 1 1) (by kernel_rfl) (fun _ => by kernel_rfl) fun a w b1133 hs hw => ?_
          obtain ⟨x1135, h1136, hx1121⟩ := bindE hx1121
          refine s_app1 hs hw (E := e3) appT42 3 rfl h1071 (by kernel_rfl) (by kernel_rfl) (c2 := 1) (by kernel_rfl) (hw.at_ 0 rfl) (z := (IntKind.i64.wrap (x1066 + 1))) rfl h1136 fun a w p1137 c1138 d1139 h1140 hw hs => ?_
          refine pures hs 1 [0, 1, 6, 7, 8, 9, 10, 43, 44] [(0, vi64 x1), (1, vi64 x2), (6, .slice p863 x862.length c864), (7, vi64 (IntKind.i64.wrap (x1066 + 1))), (8, vi64 x869), (9, (pt b1018 0)), (10, vi64 x1067), (43, .slice p1137 x1135.length c1138), (44, (pt b1018 2))] (by kernel_rfl) fun a hs => ?_
          refine s_store hs hw 1 rfl 2 (by kernel_rfl) (by kernel_rfl) (v := .slice p1137 x1135.length c1138) (by kernel_rfl) (by kernel_rfl) (by kernel_rfl) (by kernel_rfl) fun a w hs hw => ?_
          refine s_end ?_
          refine c_region ?_
          refine pures hs 3 [0, 1, 6, 7, 8, 9, 10] [(0, vi64 x1), (1, vi64 x2), (6, .slice p863 x862.length c864), (7, vi64 (IntKind.i64.wrap (x1066 + 1))), (8, vi64 x869), (9, (pt b1018 0)), (10, vi64 (IntKind.i64.wrap (x1067 + 1)))] (by kernel_rfl) fun a hs => ?_
          refine s_end ?_
          exact (hI1123 _ _ _).2 ⟨(IntKind.i64.wrap (x1066 + 1)), (IntKind.i64.wrap (x1067 + 1)), x1135, p1137, c1138, d1139, hx1121, hs.cast [0, 1, 6, 7, 8, 9, 10] (by kernel_rfl), hw.pick [1, 2, 3, 4] (by kernel_rfl), h1140⟩
        refine c_cond0 hs (by kernel_rfl) (t := (decide (x1067 < x2))) (by kernel_rfl) h1124 ?_
        refine c_exit ?_
        obtain rfl := someE hx1121
        exact (hJ1122 _ _).2 ⟨x1066, x1068, p1069, c1070, d1072, hx1012, hs.cast [0, 1, 6, 7, 8, 9] (by kernel_rfl), hw.pick [0, 1, 2, 3] (by kernel_rfl), h1071⟩
      intro a w hh
      obtain ⟨x1091, x1092, p1093, c1094, d1096, hx1012, hs, hw, h1095⟩ := (hJ1122 _ _).1 hh
      refine c_region ?_
      refine pures hs 1 [0, 1, 7, 8, 9, 45] [(0, vi64 x1), (1, vi64 x2), (7, vi64 x1091), (8, vi64 x869), (9, (pt b1018 0)), (45, .slice p863 x862.length c864)] (by kernel_rfl) fun a hs => ?_
      refine s_load hs (hw.at_ 0 rfl) 0 (by kernel_rfl) (by kernel_rfl) (v := .agg #[vi64 x869, vu64 1, .slice p1093 x1092.length c1094, .bool false, vi64 0]) (by kernel_rfl) fun a hs => ?_
      obtain ⟨ih1109, hle1110, hw, h1111⟩ := (hw.pick [2, 0, 1, 3] (by kernel_rfl)).fz (h1095.mono (Le.refl _))
      refine s_new hs hw [vi64 x869, vu64 1, .slice p1093 x1092.length c1094, .bool false, vi64 0] 44 (fun b => .slice (some ⟨b, 0, none⟩) 1 1) (by kernel_rfl) (fun _ => by kernel_rfl) fun a w b1112 hs hw => ?_
      obtain ⟨x1114, h1115, hx1012⟩ := bindE hx1012
      refine s_app1 hs hw (E := e44) appT28 2 rfl (h865.mono hle1110) (by kernel_rfl) (by kernel_rfl) (c2 := 1) (by kernel_rfl) (hw.at_ 0 rfl) (z := (M44.mk x869 1 x1092 false 0)) ⟨p1093, c1094, rfl, h1111⟩ h1115 fun a w p1116 c1117 d1118 h1119 hw hs => ?_
      refine pures hs 1 [0, 1, 7, 8, 6] [(0, vi64 x1), (1, vi64 x2), (7, vi64 x1091), (8, vi64 x869), (6, .slice p1116 x1114.length c1117)] (by kernel_rfl) fun a hs => ?_
      refine s_end ?_
      refine c_region ?_
      refine pures hs 3 [0, 1, 7, 8, 6] [(0, vi64 x1), (1, vi64 x2), (7, vi64 x1091), (8, vi64 (IntKind.i64.wrap (x869 + 1))), (6, .slice p1116 x1114.length c1117)] (by kernel_rfl) fun a hs => ?_
      refine s_end ?_
      exact (hI1014 _ _ _).2 ⟨x1114, x1091, (IntKind.i64.wrap (x869 + 1)), p1116, c1117, d1118, ih1109, hx1012, hs.cast [0, 1, 6, 7, 8] (by kernel_rfl), hw.pick [2, 3] (by kernel_rfl), (hle861.trans hle1110), h1119⟩
    refine c_cond0 hs (by kernel_rfl) (t := (decide (x869 < x1))) (by kernel_rfl) h1015 ?_
    refine c_exit ?_
    obtain rfl := someE hx1012
    exact (hJ1013 _ _).2 ⟨x862, x868, p863, c864, d866, ih860, hk, hs.cast [6, 7] (by kernel_rfl), hw.pick [0, 1] (by kernel_rfl), hle861, h865⟩
  intro a w hh
  obtain ⟨x1001, x1007, p1002, c1003, d1005, ih999, hk, hs, hw, hle1000, h1004⟩ := (hJ1013 _ _).1 hh
  refine c_seq ?_
  refine c_seq ?_
  refine c_region ?_
  refine pures hs 2 [6, 50] [(6, .slice p1002 x1001.length c1003), (50, .bool (decide (x1007 > 24)))] (by kernel_rfl) fun a hs => ?_
  refine s_end ?_
  rcases ifbE hk with ⟨h1008, hk⟩ | ⟨h1008, hk⟩
  · refine c_cond1 hs (by kernel_rfl) (t := (decide (x1007 > 24))) (by kernel_rfl) h1008 ?_
    refine c_seq ?_
    refine c_region ?_
    refine pures hs 2 [4, 5] [(4, .slice none 0 0), (5, vi64 9)] (by kernel_rfl) fun a hs => ?_
    refine s_end ?_
    refine c_ret ?_
    replace hw := hw.nil
    obtain rfl := someE hk
    refine hQ _ _ (f_retN hs [.tmp 4, .tmp 5] rfl [.slice none 0 0, vi64 9] (by kernel_rfl) (by kernel_rfl) ⟨ih999, none, 0, ([]), rfl, hw.pick [0, 2] (by kernel_rfl), hle1000, (OSl.nil _ _)⟩)
  refine c_cond0 hs (by kernel_rfl) (t := (decide (x1007 > 24))) (by kernel_rfl) h1008 ?_
  refine c_skip ?_
  refine c_seq ?_
  refine c_region ?_
  refine pures hs 3 [4, 5] [(4, .slice p1002 x1001.length c1003), (5, vi64 0)] (by kernel_rfl) fun a hs => ?_
  refine s_end ?_
  refine c_ret ?_
  obtain rfl := someE hk
  refine hQ _ _ (f_retN hs [.tmp 4, .tmp 5] rfl [.slice p1002 x1001.length c1003, vi64 0] (by kernel_rfl) (by kernel_rfl) ⟨ih999, p1002, c1003, d1005, rfl, hw.pick [0, 1] (by kernel_rfl), hle1000, h1004⟩)
def slices_Clone_int_int (x1 : List Int) : Option (List Int) :=
  (app [] x1).bind fun x => some x
theorem slices_Clone_int_int_s {x1 : List Int} {p2 : Option Addr} {c3 : Nat} {d5 : Ch} {r : List Int} (hk : slices_Clone_int_int x1 = some r) {g w : World} {F : Ch} {ih : IH} (h4 : RSl e3 ih d5 p2 c3 x1) (h6 : ∀ q ∈ d5, q ∈ F) (hw : St g w [F] ih) :
    CallsR Tryz.prog 124 #[.slice p2 x1.length c3] w fun v w' => ∃ (p : Option Addr) (c : Nat) (d : Ch), v = .slice p r.length c ∧ St g w' [d, F] ih ∧ OSl e3 ih p c r d := by
  rcases p2 with _ | q
  · obtain ⟨_, rfl, rfl⟩ := h4
    replace hk : some [] = some r := hk
    refine f_in (vs := [.slice none 0 0]) Tryz.func124 rfl 8 rfl (by kernel_rfl) [(0, .slice none 0 0)] (by kernel_rfl) fun a Qf hQ hQn hs => ?_
    refine c_seq ?_
    refine c_region ?_
    refine pures hs 1 [0] [(0, .slice none 0 0)] (by kernel_rfl) fun a hs => ?_
    refine s_end ?_
    refine c_seq ?_
    refine c_seq ?_
    refine c_region ?_
    refine pures hs 2 [0, 4] [(0, .slice none 0 0), (4, .bool true)] (by kernel_rfl) fun a hs => ?_
    refine s_end ?_
    refine c_condT hs (by kernel_rfl) (by kernel_rfl) ?_
    refine c_seq ?_
    refine c_region ?_
    refine pures hs 1 [2] [(2, .slice none 0 0)] (by kernel_rfl) fun a hs => ?_
    refine s_end ?_
    refine c_ret ?_
    replace hw := hw.nil
    obtain rfl := someE hk
    refine hQ _ _ (f_ret1 hs rfl (v := .slice none 0 0) (by kernel_rfl) ⟨none, 0, ([]), rfl, hw.pick [0, 1] (by kernel_rfl), (OSl.nil _ _)⟩)
  refine f_in (vs := [.slice (some q) x1.length c3]) Tryz.func124 rfl 8 rfl (by kernel_rfl) [(0, .slice (some q) x1.length c3)] (by kernel_rfl) fun a Qf hQ hQn hs => ?_
  refine c_seq ?_
  refine c_region ?_
  refine pures hs 1 [0] [(0, .slice (some q) x1.length c3)] (by kernel_rfl) fun a hs => ?_
  refine s_end ?_
  refine c_seq ?_
  refine c_seq ?_
  refine c_region ?_
  refine pures hs 2 [0, 4] [(0, .slice (some q) x1.length c3), (4, .bool false)] (by kernel_rfl) fun a hs => ?_
  refine s_end ?_
  refine c_condF hs (by kernel_rfl) (by kernel_rfl) ?_
  refine c_skip ?_
  refine c_seq ?_
  refine c_region ?_
  refine s_new hs hw [] 3 (fun b => .slice (some ⟨b, 0, none⟩) 0 0) (by kernel_rfl) (fun _ => by kernel_rfl) fun a w b18 hs hw => ?_
  refine pures hs 1 [5, 6] [(5, .slice (some ⟨b18, 0, none⟩) 0 0), (6, .slice (some q) x1.length c3)] (by kernel_rfl) fun a hs => ?_
  obtain ⟨x20, h21, hk⟩ := bindE hk
  refine s_appS hs hw (E := e3) appT42 0 rfl OSl.of0 (by kernel_rfl) (by kernel_rfl) (h4.mono (Le.refl _)) (((hw.vw 1 rfl).sub h6).anti (Le.refl _)) (by kernel_rfl) h21 fun a w p22 c23 d24 h25 hw hs => ?_
  refine pures hs 1 [2] [(2, .slice p22 x20.length c23)] (by kernel_rfl) fun a hs => ?_
  refine s_end ?_
  refine c_ret ?_
  obtain rfl := someE hk
  refine hQ _ _ (f_ret1 hs rfl (v := .slice p22 x20.length c23) (by kernel_rfl) ⟨p22, c23, d24, rfl, hw.pick [0, 1] (by kernel_rfl), h25⟩)
def conf_everybody_r2 (x207 : List Int) : Option (List Int) :=
  some x207
def conf_everybody (x1 : M44) : Option (List Int) :=
  if (x1.f4 == 0) = true then (
    (slices_Clone_int_int x1.f2).bind fun y139 =>
    some y139)
  else ((slices_Clone_int_int x1.f2).bind fun y216 =>
    (app y216 [x1.f4]).bind fun x225 =>
    some x225 : Option (List Int)).bind fun s246 => conf_everybody_r2 s246
theorem conf_everybody_s {x1 : M44} {p2 : Option Addr} {c3 : Nat} {r : (List Int)} (hk : conf_everybody x1 = some r) {g w : World} {F : Ch} {ih : IH} (h4 : RSl e3 ih [] p2 c3 x1.f2) (hw : St g w [F] ih) :
    CallsR Tryz.prog 81 #[.agg #[vi64 x1.f0, vu64 x1.f1, .slice p2 x1.f2.length c3, .bool x1.f3, vi64 x1.f4]] w fun v w' => ∃ (p247 : Option Addr) (c248 : Nat) (d250 : Ch), v = .slice p247 r.length c248 ∧ St g w' [d250, F] ih ∧ OSl e3 ih p247 c248 r d250 := by
  refine f_in (vs := [.agg #[vi64 x1.f0, vu64 x1.f1, .slice p2 x1.f2.length c3, .bool x1.f3, vi64 x1.f4]]) Tryz.func81 rfl 16 rfl (by kernel_rfl) [(0, .agg #[vi64 x1.f0, vu64 x1.f1, .slice p2 x1.f2.length c3, .bool x1.f3, vi64 x1.f4])] (by kernel_rfl) fun a Qf hQ hQn hs => ?_
  refine c_seq ?_
  refine c_region ?_
  refine s_new hs hw [vi64 x1.f0, vu64 x1.f1, .slice p2 x1.f2.length c3, .bool x1.f3, vi64 x1.f4] 44 (fun b => (pt b 0)) (by kernel_rfl) (fun _ => by kernel_rfl) fun a w b129 hs hw => ?_
  refine pures hs 1 [1] [(1, (pt b129 0))] (by kernel_rfl) fun a hs => ?_
  refine s_end ?_
  refine c_seq ?_
  refine c_seq ?_
  refine c_region ?_
  refine pures hs 1 [1, 3] [(1, (pt b129 0)), (3, (pt b129 4))] (by kernel_rfl) fun a hs => ?_
  refine s_load hs (hw.at_ 0 rfl) 4 (by kernel_rfl) (by kernel_rfl) (v := vi64 x1.f4) (by kernel_rfl) fun a hs => ?_
  refine pures hs 1 [1, 5] [(1, (pt b129 0)), (5, .bool (x1.f4 == 0))] (by kernel_rfl) fun a hs => ?_
  refine s_end ?_
  rcases ifbE hk with ⟨h131, hk⟩ | ⟨h131, hk⟩
  · refine c_cond1 hs (by kernel_rfl) (t := (x1.f4 == 0)) (by kernel_rfl) h131 ?_
    refine c_seq ?_
    refine c_region ?_
    refine pures hs 1 [6] [(6, (pt b129 2))] (by kernel_rfl) fun a hs => ?_
    refine s_load hs (hw.at_ 0 rfl) 2 (by kernel_rfl) (by kernel_rfl) (v := .slice p2 x1.f2.length c3) (by kernel_rfl) fun a hs => ?_
    obtain ⟨y139, h140, hk⟩ := bindE hk
    refine s_call hs (by kernel_rfl) (by kernel_rfl) (slices_Clone_int_int_s h140 h4 (nilSub _) ((hw.pick [1] (by kernel_rfl)).pack 0)) fun a w v hv hs => ?_
    obtain ⟨p141, c142, d144, rfl, hw, h143⟩ := hv
    replace hw := hw.unpack 1 rfl
    refine pures hs 1 [2] [(2, .slice p141 y139.length c142)] (by kernel_rfl) fun a hs => ?_
    refine s_end ?_
    refine c_ret ?_
    obtain rfl := someE hk
    refine hQ _ _ (f_ret1 hs rfl (v := .slice p141 y139.length c142) (by kernel_rfl) ⟨p141, c142, d144, rfl, hw.pick [0, 1] (by kernel_rfl), h143⟩)
  refine c_cond0 hs (by kernel_rfl) (t := (x1.f4 == 0)) (by kernel_rfl) h131 ?_
  refine c_skip ?_
  refine c_seq ?_
  obtain ⟨S146, hS146, kS146⟩ := mkSX (X := [([], bx b129 [vi64 x1.f0, vu64 x1.f1, .slice p2 x1.f2.length c3, .bool x1.f3, vi64 x1.f4] 44), ([], F)]) (ih := ih) (K := []) rfl
  obtain ⟨y213, hx214, hk⟩ := bindE hk
  obtain ⟨J215, hJ215⟩ : ∃ J : Act → World → Prop, ∀ a w, J a w ↔ (∃ (x207 : List Int) (p208 : Option Addr) (c209 : Nat) (d211 : Ch), conf_everybody_r2 x207 = some r ∧ Sees a 16 [(2, .slice p208 x207.length c209)] ∧ St g w [d211, F] ih ∧ OSl e3 ih p208 c209 x207 d211) := ⟨_, fun _ _ => Iff.rfl⟩
  refine c_draw (by kernel_rfl) (N := 8) rfl S146 J215 ?_ ?_
  · have hw := hw.drew
    have hS : S146 (Array.replicate 8 false) _ := SX_now hS146 (hw.vws [0, 1]) (by kernel_rfl)
    refine d_pures (fuel := 7) kS146 hs hS [0] [1, 9] [(1, (pt b129 0)), (9, (pt b129 2))] (by kernel_rfl) fun a hs hS => ?_
    refine d_load (fuel := 6) kS146 hs hS 1 rfl (by kernel_rfl) (SX_box hS146 0 rfl (by kernel_rfl)) 2 (by kernel_rfl) (by kernel_rfl) (v := .slice p2 x1.f2.length c3) (by kernel_rfl) fun a hs hS => ?_
    refine d_pures (fuel := 5) kS146 hs hS [3] [10, 12] [(10, .slice p2 x1.f2.length c3), (12, (pt b129 4))] (by kernel_rfl) fun a hs hS => ?_
    refine d_load (fuel := 4) kS146 hs hS 4 rfl (by kernel_rfl) (SX_box hS146 0 rfl (by kernel_rfl)) 4 (by kernel_rfl) (by kernel_rfl) (v := vi64 x1.f4) (by kernel_rfl) fun a hs hS => ?_
    refine d_all (fuel := 3) (rs := [2, 5]) (by kernel_rfl) (by simp) (all2 ?_ (all1 ?_))
    · obtain ⟨y216, h217, hx214⟩ := bindE hx214
      refine o_call hs rfl (by kernel_rfl) (by kernel_rfl) (slices_Clone_int_int_s h217 h4 (nilSub _) ((hw.pick [0, 1] (by kernel_rfl)).pack 0)) fun a w v hv hs => ?_
      obtain ⟨p218, c219, d221, rfl, hw, h220⟩ := hv
      replace hw := hw.unpack 1 rfl
      refine dg_next (SX_now hS146 ((hw.vws [1, 2]).anti (Le.refl _)) (by kernel_rfl)) fun hS => ?_
      refine d_all (fuel := 2) (rs := [5]) (by kernel_rfl) (by simp) (all1 ?_)
      refine o_new hs rfl hw [vi64 x1.f4] 3 (fun b => .slice (some ⟨b, 0, none⟩) 1 1) (by kernel_rfl) (fun _ => by kernel_rfl) fun a w b223 hs hw => ?_
      refine dg_next (SX_now hS146 ((hw.vws [2, 3]).anti (Le.refl _)) (by kernel_rfl)) fun hS => ?_
      refine d_all (fuel := 1) (rs := [6]) (by kernel_rfl) (by simp) (all1 ?_)
      obtain ⟨x225, h226, hx214⟩ := bindE hx214
      refine o_app1 hs rfl hw (E := e3) appT42 1 rfl h220 (by kernel_rfl) (by kernel_rfl) (c2 := 1) (by kernel_rfl) (hw.at_ 0 rfl) (z := x1.f4) rfl h226 fun a w p227 c228 d229 h230 hw hs => ?_
      refine dg_next (SX_now hS146 ((hw.vws [2, 3]).anti (Le.refl _)) (by kernel_rfl)) fun hS => ?_
      refine d_pures (fuel := 0) kS146 hs hS [7] [2] [(2, .slice p227 x225.length c228)] (by kernel_rfl) fun a hs hS => ?_
      refine d_done (by kernel_rfl) ?_
      obtain rfl := someE hx214
      exact (hJ215 _ _).2 ⟨x225, p227, c228, d229, hk, hs.cast [2] (by kernel_rfl), hw.pick [1, 3] (by kernel_rfl), h230⟩
    refine o_new hs rfl hw [vi64 x1.f4] 3 (fun b => .slice (some ⟨b, 0, none⟩) 1 1) (by kernel_rfl) (fun _ => by kernel_rfl) fun a w b231 hs hw => ?_
    refine dg_next (SX_now hS146 ((hw.vws [1, 2]).anti (Le.refl _)) (by kernel_rfl)) fun hS => ?_
    refine d_all (fuel := 2) (rs := [2]) (by kernel_rfl) (by simp) (all1 ?_)
    obtain ⟨y233, h234, hx214⟩ := bindE hx214
    refine o_call hs rfl (by kernel_rfl) (by kernel_rfl) (slices_Clone_int_int_s h234 h4 (nilSub _) ((hw.pick [0, 1, 2] (by kernel_rfl)).pack 0)) fun a w v hv hs => ?_
    obtain ⟨p235, c236, d238, rfl, hw, h237⟩ := hv
    replace hw := hw.unpack 1 rfl
    refine dg_next (SX_now hS146 ((hw.vws [2, 3]).anti (Le.refl _)) (by kernel_rfl)) fun hS => ?_
    refine d_all (fuel := 1) (rs := [6]) (by kernel_rfl) (by simp) (all1 ?_)
    obtain ⟨x240, h241, hx214⟩ := bindE hx214
    refine o_app1 hs rfl hw (E := e3) appT42 0 rfl h237 (by kernel_rfl) (by kernel_rfl) (c2 := 1) (by kernel_rfl) (hw.at_ 1 rfl) (z := x1.f4) rfl h241 fun a w p242 c243 d244 h245 hw hs => ?_
    refine dg_next (SX_now hS146 ((hw.vws [2, 3]).anti (Le.refl _)) (by kernel_rfl)) fun hS => ?_
    refine d_pures (fuel := 0) kS146 hs hS [7] [2] [(2, .slice p242 x240.length c243)] (by kernel_rfl) fun a hs hS => ?_
    refine d_done (by kernel_rfl) ?_
    obtain rfl := someE hx214
    exact (hJ215 _ _).2 ⟨x240, p242, c243, d244, hk, hs.cast [2] (by kernel_rfl), hw.pick [0, 3] (by kernel_rfl), h245⟩
  intro a w hh
  obtain ⟨x207, p208, c209, d211, hk, hs, hw, h210⟩ := (hJ215 _ _).1 hh
  refine c_ret ?_
  obtain rfl := someE hk
  refine hQ _ _ (f_ret1 hs rfl (v := .slice p208 x207.length c209) (by kernel_rfl) ⟨p208, c209, d211, rfl, hw.pick [0, 1] (by kernel_rfl), h210⟩)
def conf_node (x1 : Int) : Option Bool :=
  some ((decide (x1 ≥ 1)) && (decide (x1 ≤ 24)))
theorem conf_node_s {x1 : Int} {r : Bool} (hk : conf_node x1 = some r) {g w : World} {F : Ch} {ih : IH} (hw : St g w [F] ih) :
    CallsR Tryz.prog 125 #[vi64 x1] w fun v w' => v = .bool r ∧ St g w' [F] ih := by
  refine f_in (vs := [vi64 x1]) Tryz.func125 rfl 9 rfl (by kernel_rfl) [(0, vi64 x1)] (by kernel_rfl) fun a Qf hQ hQn hs => ?_
  refine c_seq ?_
  refine c_region ?_
  refine pures hs 1 [0] [(0, vi64 x1)] (by kernel_rfl) fun a hs => ?_
  refine s_end ?_
  refine c_seq ?_
  obtain ⟨J12, hJ12⟩ : ∃ J : Act → World → Prop, ∀ a w, J a w ↔ (Sees a 9 [(2, .bool ((decide (x1 ≥ 1)) && (decide (x1 ≤ 24))))] ∧ St g w [F] ih) := ⟨_, fun _ _ => Iff.rfl⟩
  refine c_regJ J12 ?_ ?_
  · refine pures hs 3 [0, 5] [(0, vi64 x1), (5, .bool (decide (x1 ≥ 1)))] (by kernel_rfl) fun a hs => ?_
    rcases boolE (decide (x1 ≥ 1)) with h13 | h13
    · replace hs := hs.altB 5 true (by kernel_rfl) h13
      refine pures hs 4 [2] [(2, .bool (decide (x1 ≤ 24)))] (by kernel_rfl) fun a hs => ?_
      refine s_end ?_
      exact (hJ12 _ _).2 ⟨(hs.altB (b := (decide (x1 ≤ 24))) 2 ((decide (x1 ≥ 1)) && (decide (x1 ≤ 24))) (by kernel_rfl) (by rw [h13] <;> rfl)).cast [2] (by kernel_rfl), hw.pick [0] (by kernel_rfl)⟩
    replace hs := hs.altB 5 false (by kernel_rfl) h13
    refine pures hs 4 [2] [(2, .bool false)] (by kernel_rfl) fun a hs => ?_
    refine s_end ?_
    exact (hJ12 _ _).2 ⟨(hs.altB (b := false) 2 ((decide (x1 ≥ 1)) && (decide (x1 ≤ 24))) (by kernel_rfl) (by rw [h13] <;> rfl)).cast [2] (by kernel_rfl), hw.pick [0] (by kernel_rfl)⟩
  intro a w hh
  obtain ⟨hs, hw⟩ := (hJ12 _ _).1 hh
  refine c_ret ?_
  obtain rfl := someE hk
  refine hQ _ _ (f_ret1 hs rfl (v := .bool ((decide (x1 ≥ 1)) && (decide (x1 ≤ 24)))) (by kernel_rfl) ⟨rfl, hw.pick [0] (by kernel_rfl)⟩)
def slices_Index_int_int_r3 : Option Int :=
  some (-1)
def slices_Index_int_int_l4 (x1 : List Int) (x7 : Int) : Nat → Int → Option (Sum Int Unit)
  | 0, _ => none
  | j + 1, x78 =>
    if (decide (x78 < (x1.length : Int))) = true then (
      (ix x1 x78).bind fun x98 =>
      if (x7 == x98) = true then some (.inl x78)
      else slices_Index_int_int_l4 x1 x7 j (IntKind.i64.wrap (x78 + 1)))
    else some (.inr ())
def slices_Index_int_int (k : Nat) (x1 : List Int) (x7 : Int) : Option Int :=
  (slices_Index_int_int_l4 x1 x7 k 0 : Option (Sum Int Unit)).bind fun
    | .inl z => some z
    | .inr _ => slices_Index_int_int_r3
theorem slices_Index_int_int_s {k : Nat} {x1 : List Int} {x7 : Int} {p2 : Option Addr} {c3 : Nat} {d5 : Ch} {r : Int} (hk : slices_Index_int_int k x1 x7 = some r) {g w : World} {F : Ch} {ih : IH} (h4 : RSl e3 ih d5 p2 c3 x1) (h6 : ∀ q ∈ d5, q ∈ F) (hw : St g w [F] ih) :
    CallsR Tryz.prog 150 #[.slice p2 x1.length c3, vi64 x7] w fun v w' => v = vi64 r ∧ St g w' [F] ih := by
  refine f_in (vs := [.slice p2 x1.length c3, vi64 x7]) Tryz.func150 rfl 19 rfl (by kernel_rfl) [(0, .slice p2 x1.length c3), (1, vi64 x7)] (by kernel_rfl) fun a Qf hQ hQn hs => ?_
  refine c_seq ?_
  refine c_region ?_
  refine pures hs 1 [0, 1] [(0, .slice p2 x1.length c3), (1, vi64 x7)] (by kernel_rfl) fun a hs => ?_
  refine s_end ?_
  refine c_seq ?_
  refine c_seq ?_
  refine c_region ?_
  refine pures hs 3 [0, 1, 7, 8] [(0, .slice p2 x1.length c3), (1, vi64 x7), (7, vi64 (x1.length : Int)), (8, vi64 0)] (by kernel_rfl) fun a hs => ?_
  refine s_end ?_
  refine c_block ?_
  obtain ⟨y89, hx90, hk⟩ := bindE hk
  obtain ⟨J91, hJ91⟩ : ∃ J : Act → World → Prop, ∀ a w, J a w ↔ (slices_Index_int_int_r3 = some r ∧ Sees a 19 [] ∧ St g w [F] ih) := ⟨_, fun _ _ => Iff.rfl⟩
  obtain ⟨I92, hI92⟩ : ∃ J : Nat → Act → World → Prop, ∀ j a w, J j a w ↔ (∃ (x78 : Int), slices_Index_int_int_l4 x1 x7 j x78 = some y89 ∧ Sees a 19 [(0, .slice p2 x1.length c3), (1, vi64 x7), (7, vi64 (x1.length : Int)), (8, vi64 x78)] ∧ St g w [F] ih) := ⟨_, fun _ _ _ => Iff.rfl⟩
  refine c_exitJ 0 J91 ?_ ?_
  · refine c_loop I92 k ((hI92 _ _ _).2 ⟨0, hx90, hs.cast [0, 1, 7, 8] (by kernel_rfl), hw.pick [0] (by kernel_rfl)⟩) (fun a w h0 => ?_) fun j a w hh => ?_
    · obtain ⟨_, h, _⟩ := (hI92 _ _ _).1 h0
      cases h
    obtain ⟨x78, hx90, hs, hw⟩ := (hI92 _ _ _).1 hh
    refine c_seq ?_
    refine c_region ?_
    refine pures hs 1 [0, 1, 7, 8, 9] [(0, .slice p2 x1.length c3), (1, vi64 x7), (7, vi64 (x1.length : Int)), (8, vi64 x78), (9, .bool (decide (x78 < (x1.length : Int))))] (by kernel_rfl) fun a hs => ?_
    refine s_end ?_
    refine c_seq ?_
    rcases ifbE hx90 with ⟨h93, hx90⟩ | ⟨h93, hx90⟩
    · refine c_cond1 hs (by kernel_rfl) (t := (decide (x78 < (x1.length : Int)))) (by kernel_rfl) h93 ?_
      refine c_skip ?_
      refine c_seq ?_
      refine c_block ?_
      refine c_seq ?_
      refine c_region ?_
      refine pures hs 2 [0, 1, 7, 8, 5] [(0, .slice p2 x1.length c3), (1, vi64 x7), (7, vi64 (x1.length : Int)), (8, vi64 x78), (5, vi64 x78)] (by kernel_rfl) fun a hs => ?_
      refine s_end ?_
      refine c_seq ?_
      refine c_region ?_
      refine pures hs 3 [0, 1, 7, 8, 5, 11, 12, 13] [(0, .slice p2 x1.length c3), (1, vi64 x7), (7, vi64 (x1.length : Int)), (8, vi64 x78), (5, vi64 x78), (11, vi64 x7), (12, .slice p2 x1.length c3), (13, vi64 x78)] (by kernel_rfl) fun a hs => ?_
      obtain ⟨x98, h99, hx90⟩ := bindE hx90
      refine s_index hs h4 (by kernel_rfl) (by kernel_rfl) (k := .i64) (by kernel_rfl) 3 (by kernel_rfl) (by kernel_rfl) h99 fun a r100 cs henc at101 hs => ?_
      obtain rfl := henc
      refine s_load hs (at101 _ (((hw.vw 0 rfl).sub h6).anti (Le.refl _))) 0 (by kernel_rfl) (by kernel_rfl) (v := vi64 x98) (by kernel_rfl) fun a hs => ?_
      refine pures hs 1 [0, 1, 7, 8, 5, 16] [(0, .slice p2 x1.length c3), (1, vi64 x7), (7, vi64 (x1.length : Int)), (8, vi64 x78), (5, vi64 x78), (16, .bool (x7 == x98))] (by kernel_rfl) fun a hs => ?_
      refine s_end ?_
      rcases ifbE hx90 with ⟨h102, hx90⟩ | ⟨h102, hx90⟩
      · refine c_cond1 hs (by kernel_rfl) (t := (x7 == x98)) (by kernel_rfl) h102 ?_
        refine c_seq ?_
        refine c_region ?_
        refine pures hs 2 [4] [(4, vi64 x78)] (by kernel_rfl) fun a hs => ?_
        refine s_end ?_
        refine c_ret ?_
        obtain rfl := someE hx90
        obtain rfl := someE hk
        refine hQ _ _ (f_ret1 hs rfl (v := vi64 x78) (by kernel_rfl) ⟨rfl, hw.pick [0] (by kernel_rfl)⟩)
      refine c_cond0 hs (by kernel_rfl) (t := (x7 == x98)) (by kernel_rfl) h102 ?_
      refine c_skip ?_
      refine c_region ?_
      refine pures hs 2 [0, 1, 7, 8] [(0, .slice p2 x1.length c3), (1, vi64 x7), (7, vi64 (x1.length : Int)), (8, vi64 (IntKind.i64.wrap (x78 + 1)))] (by kernel_rfl) fun a hs => ?_
      refine s_end ?_
      exact (hI92 _ _ _).2 ⟨(IntKind.i64.wrap (x78 + 1)), hx90, hs.cast [0, 1, 7, 8] (by kernel_rfl), hw.pick [0] (by kernel_rfl)⟩
    refine c_cond0 hs (by kernel_rfl) (t := (decide (x78 < (x1.length : Int)))) (by kernel_rfl) h93 ?_
    refine c_exit ?_
    obtain rfl := someE hx90
    exact (hJ91 _ _).2 ⟨hk, hs.cast [] (by kernel_rfl), hw.pick [0] (by kernel_rfl)⟩
  intro a w hh
  obtain ⟨hk, hs, hw⟩ := (hJ91 _ _).1 hh
  refine c_seq ?_
  refine c_region ?_
  refine pures hs 1 [4] [(4, vi64 (-1))] (by kernel_rfl) fun a hs => ?_
  refine s_end ?_
  refine c_ret ?_
  obtain rfl := someE hk
  refine hQ _ _ (f_ret1 hs rfl (v := vi64 (-1)) (by kernel_rfl) ⟨rfl, hw.pick [0] (by kernel_rfl)⟩)
def slices_Contains_int_int (k : Nat) (x1 : List Int) (x7 : Int) : Option Bool :=
  (slices_Index_int_int k x1 x7).bind fun y16 =>
  some (decide (y16 ≥ 0))
theorem slices_Contains_int_int_s {k : Nat} {x1 : List Int} {x7 : Int} {p2 : Option Addr} {c3 : Nat} {d5 : Ch} {r : Bool} (hk : slices_Contains_int_int k x1 x7 = some r) {g w : World} {F : Ch} {ih : IH} (h4 : RSl e3 ih d5 p2 c3 x1) (h6 : ∀ q ∈ d5, q ∈ F) (hw : St g w [F] ih) :
    CallsR Tryz.prog 126 #[.slice p2 x1.length c3, vi64 x7] w fun v w' => v = .bool r ∧ St g w' [F] ih := by
  refine f_in (vs := [.slice p2 x1.length c3, vi64 x7]) Tryz.func126 rfl 9 rfl (by kernel_rfl) [(0, .slice p2 x1.length c3), (1, vi64 x7)] (by kernel_rfl) fun a Qf hQ hQn hs => ?_
  refine c_seq ?_
  refine c_region ?_
  refine pures hs 1 [0, 1] [(0, .slice p2 x1.length c3), (1, vi64 x7)] (by kernel_rfl) fun a hs => ?_
  refine s_end ?_
  refine c_seq ?_
  refine c_region ?_
  refine pures hs 2 [5, 6] [(5, .slice p2 x1.length c3), (6, vi64 x7)] (by kernel_rfl) fun a hs => ?_
  obtain ⟨y16, h17, hk⟩ := bindE hk
  refine s_call hs (by kernel_rfl) (by kernel_rfl) (slices_Index_int_int_s h17 h4 (fun q hq => memF 0 rfl q (h6 q hq)) ((hw.pick [0] (by kernel_rfl)).pack 0)) fun a w v hv hs => ?_
  obtain ⟨rfl, hw⟩ := hv
  replace hw := hw.unpack 0 rfl
  refine pures hs 2 [4] [(4, .bool (decide (y16 ≥ 0)))] (by kernel_rfl) fun a hs => ?_
  refine s_end ?_
  refine c_ret ?_
  obtain rfl := someE hk
  refine hQ _ _ (f_ret1 hs rfl (v := .bool (decide (y16 ≥ 0))) (by kernel_rfl) ⟨rfl, hw.pick [0] (by kernel_rfl)⟩)
def conf_unlike_r10 : Option Bool :=
  some true
def conf_unlike_r12 (rec_conf_unlike_l11 : Int → Option (Sum Bool Unit)) (x287 : Int) (x366 : Bool) : Option (Sum Bool Unit) :=
  if x366 = true then some (.inl false)
  else rec_conf_unlike_l11 (IntKind.i64.wrap (x287 + 1))
def conf_unlike_l11 (k : Nat) (x1 : List Int) : Nat → Int → Option (Sum Bool Unit)
  | 0, _ => none
  | j + 1, x287 =>
    if (decide (x287 < (x1.length : Int))) = true then (
      (ix x1 x287).bind fun x342 =>
      ((conf_node x342).bind fun y371 =>
        if (!y371) = true then some true
        else (sl x1 0 x287).bind fun x374 =>
        (slices_Contains_int_int k x374 x342).bind fun y379 =>
        some y379 : Option Bool).bind fun s381 => conf_unlike_r12 (conf_unlike_l11 k x1 j) x287 s381)
    else some (.inr ())
def conf_unlike (k : Nat) (x1 : List Int) : Option Bool :=
  (conf_unlike_l11 k x1 k 0 : Option (Sum Bool Unit)).bind fun
    | .inl z => some z
    | .inr _ => conf_unlike_r10
theorem conf_unlike_s {k : Nat} {x1 : List Int} {p2 : Option Addr} {c3 : Nat} {d5 : Ch} {r : Bool} (hk : conf_unlike k x1 = some r) {g w : World} {F : Ch} {ih : IH} (h4 : RSl e3 ih d5 p2 c3 x1) (h6 : ∀ q ∈ d5, q ∈ F) (hw : St g w [F] ih) :
    CallsR Tryz.prog 82 #[.slice p2 x1.length c3] w fun v w' => v = .bool r ∧ St g w' [F] ih := by
  refine f_in (vs := [.slice p2 x1.length c3]) Tryz.func82 rfl 23 rfl (by kernel_rfl) [(0, .slice p2 x1.length c3)] (by kernel_rfl) fun a Qf hQ hQn hs => ?_
  refine c_seq ?_
  refine c_region ?_
  refine pures hs 1 [0] [(0, .slice p2 x1.length c3)] (by kernel_rfl) fun a hs => ?_
  refine s_end ?_
  refine c_seq ?_
  refine c_seq ?_
  refine c_region ?_
  refine pures hs 3 [0, 5, 6, 7] [(0, .slice p2 x1.length c3), (5, .slice p2 x1.length c3), (6, vi64 (x1.length : Int)), (7, vi64 0)] (by kernel_rfl) fun a hs => ?_
  refine s_end ?_
  refine c_block ?_
  obtain ⟨y333, hx334, hk⟩ := bindE hk
  obtain ⟨J335, hJ335⟩ : ∃ J : Act → World → Prop, ∀ a w, J a w ↔ (conf_unlike_r10 = some r ∧ Sees a 23 [] ∧ St g w [F] ih) := ⟨_, fun _ _ => Iff.rfl⟩
  obtain ⟨I336, hI336⟩ : ∃ J : Nat → Act → World → Prop, ∀ j a w, J j a w ↔ (∃ (x287 : Int), conf_unlike_l11 k x1 j x287 = some y333 ∧ Sees a 23 [(0, .slice p2 x1.length c3), (5, .slice p2 x1.length c3), (6, vi64 (x1.length : Int)), (7, vi64 x287)] ∧ St g w [F] ih) := ⟨_, fun _ _ _ => Iff.rfl⟩
  refine c_exitJ 0 J335 ?_ ?_
  · refine c_loop I336 k ((hI336 _ _ _).2 ⟨0, hx334, hs.cast [0, 5, 6, 7] (by kernel_rfl), hw.pick [0] (by kernel_rfl)⟩) (fun a w h0 => ?_) fun j a w hh => ?_
    · obtain ⟨_, h, _⟩ := (hI336 _ _ _).1 h0
      cases h
    obtain ⟨x287, hx334, hs, hw⟩ := (hI336 _ _ _).1 hh
    refine c_seq ?_
    refine c_region ?_
    refine pures hs 1 [0, 5, 6, 7, 8] [(0, .slice p2 x1.length c3), (5, .slice p2 x1.length c3), (6, vi64 (x1.length : Int)), (7, vi64 x287), (8, .bool (decide (x287 < (x1.length : Int))))] (by kernel_rfl) fun a hs => ?_
    refine s_end ?_
    refine c_seq ?_
    rcases ifbE hx334 with ⟨h337, hx334⟩ | ⟨h337, hx334⟩
    · refine c_cond1 hs (by kernel_rfl) (t := (decide (x287 < (x1.length : Int)))) (by kernel_rfl) h337 ?_
      refine c_skip ?_
      refine c_seq ?_
      refine c_block ?_
      refine c_seq ?_
      refine c_region ?_
      refine pures hs 1 [0, 5, 6, 7, 9] [(0, .slice p2 x1.length c3), (5, .slice p2 x1.length c3), (6, vi64 (x1.length : Int)), (7, vi64 x287), (9, vi64 x287)] (by kernel_rfl) fun a hs => ?_
      obtain ⟨x342, h343, hx334⟩ := bindE hx334
      refine s_index hs h4 (by kernel_rfl) (by kernel_rfl) (k := .i64) (by kernel_rfl) 3 (by kernel_rfl) (by kernel_rfl) h343 fun a r344 cs henc at345 hs => ?_
      obtain rfl := henc
      refine s_load hs (at345 _ (((hw.vw 0 rfl).sub h6).anti (Le.refl _))) 0 (by kernel_rfl) (by kernel_rfl) (v := vi64 x342) (by kernel_rfl) fun a hs => ?_
      refine pures hs 2 [0, 5, 6, 7, 3, 4] [(0, .slice p2 x1.length c3), (5, .slice p2 x1.length c3), (6, vi64 (x1.length : Int)), (7, vi64 x287), (3, vi64 x287), (4, vi64 x342)] (by kernel_rfl) fun a hs => ?_
      refine s_end ?_
      refine c_seq ?_
      obtain ⟨y368, hx369, hx334⟩ := bindE hx334
      obtain ⟨J370, hJ370⟩ : ∃ J : Act → World → Prop, ∀ a w, J a w ↔ (∃ (x366 : Bool), conf_unlike_r12 (conf_unlike_l11 k x1 j) x287 x366 = some y333 ∧ Sees a 23 [(0, .slice p2 x1.length c3), (5, .slice p2 x1.length c3), (6, vi64 (x1.length : Int)), (7, vi64 x287), (21, .bool x366)] ∧ St g w [F] ih) := ⟨_, fun _ _ => Iff.rfl⟩
      refine c_regJ J370 ?_ ?_
      · refine pures hs 1 [0, 5, 6, 7, 3, 4, 12] [(0, .slice p2 x1.length c3), (5, .slice p2 x1.length c3), (6, vi64 (x1.length : Int)), (7, vi64 x287), (3, vi64 x287), (4, vi64 x342), (12, vi64 x342)] (by kernel_rfl) fun a hs => ?_
        obtain ⟨y371, h372, hx369⟩ := bindE hx369
        refine s_call hs (by kernel_rfl) (by kernel_rfl) (conf_node_s h372 ((hw.pick [0] (by kernel_rfl)).pack 0)) fun a w v hv hs => ?_
        obtain ⟨rfl, hw⟩ := hv
        replace hw := hw.unpack 0 rfl
        refine pures hs 2 [0, 5, 6, 7, 3, 4, 15] [(0, .slice p2 x1.length c3), (5, .slice p2 x1.length c3), (6, vi64 (x1.length : Int)), (7, vi64 x287), (3, vi64 x287), (4, vi64 x342), (15, .bool (!y371))] (by kernel_rfl) fun a hs => ?_
        rcases ifbE hx369 with ⟨h373, hx369⟩ | ⟨h373, hx369⟩
        · replace hs := hs.altB 15 true (by kernel_rfl) h373
          refine pures hs 6 [0, 5, 6, 7, 21] [(0, .slice p2 x1.length c3), (5, .slice p2 x1.length c3), (6, vi64 (x1.length : Int)), (7, vi64 x287), (21, .bool true)] (by kernel_rfl) fun a hs => ?_
          refine s_end ?_
          obtain rfl := someE hx369
          exact (hJ370 _ _).2 ⟨true, hx334, hs.cast [0, 5, 6, 7, 21] (by kernel_rfl), hw.pick [0] (by kernel_rfl)⟩
        replace hs := hs.altB 15 false (by kernel_rfl) h373
        refine pures hs 2 [0, 5, 6, 7, 4, 15, 16, 17] [(0, .slice p2 x1.length c3), (5, .slice p2 x1.length c3), (6, vi64 (x1.length : Int)), (7, vi64 x287), (4, vi64 x342), (15, .bool false), (16, .slice p2 x1.length c3), (17, vi64 x287)] (by kernel_rfl) fun a hs => ?_
        obtain ⟨x374, h375, hx369⟩ := bindE hx369
        refine s_slice hs h4 (by kernel_rfl) (by kernel_rfl) 3 (by kernel_rfl) (by kernel_rfl) (by kernel_rfl) (by kernel_rfl) (by kernel_rfl) h375 (.inl rfl) fun a p376 c377 h378 hs => ?_
        refine pures hs 1 [0, 5, 6, 7, 15, 18, 19] [(0, .slice p2 x1.length c3), (5, .slice p2 x1.length c3), (6, vi64 (x1.length : Int)), (7, vi64 x287), (15, .bool false), (18, .slice p376 x374.length c377), (19, vi64 x342)] (by kernel_rfl) fun a hs => ?_
        obtain ⟨y379, h380, hx369⟩ := bindE hx369
        refine s_call hs (by kernel_rfl) (by kernel_rfl) (slices_Contains_int_int_s h380 h378 (fun q hq => memF 0 rfl q (h6 q hq)) ((hw.pick [0] (by kernel_rfl)).pack 0)) fun a w v hv hs => ?_
        obtain ⟨rfl, hw⟩ := hv
        replace hw := hw.unpack 0 rfl
        refine pures hs 1 [0, 5, 6, 7, 21] [(0, .slice p2 x1.length c3), (5, .slice p2 x1.length c3), (6, vi64 (x1.length : Int)), (7, vi64 x287), (21, .bool y379)] (by kernel_rfl) fun a hs => ?_
        refine s_end ?_
        obtain rfl := someE hx369
        exact (hJ370 _ _).2 ⟨y379, hx334, hs.cast [0, 5, 6, 7, 21] (by kernel_rfl), hw.pick [0] (by kernel_rfl)⟩
      intro a w hh
      obtain ⟨x366, hx334, hs, hw⟩ := (hJ370 _ _).1 hh
      rcases ifbE hx334 with ⟨h367, hx334⟩ | ⟨h367, hx334⟩
      · refine c_cond1 hs (by kernel_rfl) (t := x366) (by kernel_rfl) h367 ?_
        refine c_seq ?_
        refine c_region ?_
        refine pures hs 1 [2] [(2, .bool false)] (by kernel_rfl) fun a hs => ?_
        refine s_end ?_
        refine c_ret ?_
        obtain rfl := someE hx334
        obtain rfl := someE hk
        refine hQ _ _ (f_ret1 hs rfl (v := .bool false) (by kernel_rfl) ⟨rfl, hw.pick [0] (by kernel_rfl)⟩)
      refine c_cond0 hs (by kernel_rfl) (t := x366) (by kernel_rfl) h367 ?_
      refine c_skip ?_
      refine c_region ?_
      refine pures hs 2 [0, 5, 6, 7] [(0, .slice p2 x1.length c3), (5, .slice p2 x1.length c3), (6, vi64 (x1.length : Int)), (7, vi64 (IntKind.i64.wrap (x287 + 1)))] (by kernel_rfl) fun a hs => ?_
      refine s_end ?_
      exact (hI336 _ _ _).2 ⟨(IntKind.i64.wrap (x287 + 1)), hx334, hs.cast [0, 5, 6, 7] (by kernel_rfl), hw.pick [0] (by kernel_rfl)⟩
    refine c_cond0 hs (by kernel_rfl) (t := (decide (x287 < (x1.length : Int)))) (by kernel_rfl) h337 ?_
    refine c_exit ?_
    obtain rfl := someE hx334
    exact (hJ335 _ _).2 ⟨hk, hs.cast [] (by kernel_rfl), hw.pick [0] (by kernel_rfl)⟩
  intro a w hh
  obtain ⟨hk, hs, hw⟩ := (hJ335 _ _).1 hh
  refine c_seq ?_
  refine c_region ?_
  refine pures hs 1 [2] [(2, .bool true)] (by kernel_rfl) fun a hs => ?_
  refine s_end ?_
  refine c_ret ?_
  obtain rfl := someE hk
  refine hQ _ _ (f_ret1 hs rfl (v := .bool true) (by kernel_rfl) ⟨rfl, hw.pick [0] (by kernel_rfl)⟩)
def conf_Right (k : Nat) (x1 : M44) : Option Bool :=
  if ((decide (x1.f0 < 0)) || ((decide (x1.f0 ≥ 4)) || (decide (x1.f1 < 1)))) = true then some false
  else if ((decide ((x1.f2.length : Int) < 1)) || ((decide ((x1.f2.length : Int) > 5)) || (x1.f3 && ((decide ((x1.f2.length : Int) < 2)) || (x1.f4 != 0))))) = true then some false
  else (conf_everybody x1).bind fun y90 =>
  (conf_unlike k y90).bind fun y97 =>
  some y97
theorem conf_Right_s {k : Nat} {x1 : M44} {p2 : Option Addr} {c3 : Nat} {r : Bool} (hk : conf_Right k x1 = some r) {g w : World} {F : Ch} {ih : IH} (h4 : RSl e3 ih [] p2 c3 x1.f2) (hw : St g w [F] ih) :
    CallsR Tryz.prog 80 #[.agg #[vi64 x1.f0, vu64 x1.f1, .slice p2 x1.f2.length c3, .bool x1.f3, vi64 x1.f4]] w fun v w' => v = .bool r ∧ St g w' [F] ih := by
  refine f_in (vs := [.agg #[vi64 x1.f0, vu64 x1.f1, .slice p2 x1.f2.length c3, .bool x1.f3, vi64 x1.f4]]) Tryz.func80 rfl 44 rfl (by kernel_rfl) [(0, .agg #[vi64 x1.f0, vu64 x1.f1, .slice p2 x1.f2.length c3, .bool x1.f3, vi64 x1.f4])] (by kernel_rfl) fun a Qf hQ hQn hs => ?_
  refine c_seq ?_
  refine c_region ?_
  refine s_new hs hw [vi64 x1.f0, vu64 x1.f1, .slice p2 x1.f2.length c3, .bool x1.f3, vi64 x1.f4] 44 (fun b => (pt b 0)) (by kernel_rfl) (fun _ => by kernel_rfl) fun a w b55 hs hw => ?_
  refine pures hs 1 [1] [(1, (pt b55 0))] (by kernel_rfl) fun a hs => ?_
  refine s_end ?_
  refine c_seq ?_
  refine c_region ?_
  refine pures hs 1 [1, 4] [(1, (pt b55 0)), (4, (pt b55 2))] (by kernel_rfl) fun a hs => ?_
  refine s_load hs (hw.at_ 0 rfl) 2 (by kernel_rfl) (by kernel_rfl) (v := .slice p2 x1.f2.length c3) (by kernel_rfl) fun a hs => ?_
  refine pures hs 2 [1, 3] [(1, (pt b55 0)), (3, vi64 (x1.f2.length : Int))] (by kernel_rfl) fun a hs => ?_
  refine s_end ?_
  refine c_seq ?_
  refine c_block ?_
  refine c_seq ?_
  obtain ⟨J62, hJ62⟩ : ∃ J : Act → World → Prop, ∀ a w, J a w ↔ (Sees a 44 [(1, (pt b55 0)), (3, vi64 (x1.f2.length : Int)), (7, .bool ((decide (x1.f0 < 0)) || ((decide (x1.f0 ≥ 4)) || (decide (x1.f1 < 1)))))] ∧ St g w [bx b55 [vi64 x1.f0, vu64 x1.f1, .slice p2 x1.f2.length c3, .bool x1.f3, vi64 x1.f4] 44, F] ih) := ⟨_, fun _ _ => Iff.rfl⟩
  refine c_regJ J62 ?_ ?_
  · refine pures hs 1 [1, 3, 8] [(1, (pt b55 0)), (3, vi64 (x1.f2.length : Int)), (8, (pt b55 0))] (by kernel_rfl) fun a hs => ?_
    refine s_load hs (hw.at_ 0 rfl) 0 (by kernel_rfl) (by kernel_rfl) (v := vi64 x1.f0) (by kernel_rfl) fun a hs => ?_
    refine pures hs 2 [1, 3, 11] [(1, (pt b55 0)), (3, vi64 (x1.f2.length : Int)), (11, .bool (decide (x1.f0 < 0)))] (by kernel_rfl) fun a hs => ?_
    rcases boolE (decide (x1.f0 < 0)) with h63 | h63
    · replace hs := hs.altB 11 true (by kernel_rfl) h63
      refine pures hs 10 [1, 3, 7] [(1, (pt b55 0)), (3, vi64 (x1.f2.length : Int)), (7, .bool true)] (by kernel_rfl) fun a hs => ?_
      refine s_end ?_
      exact (hJ62 _ _).2 ⟨(hs.altB (b := true) 7 ((decide (x1.f0 < 0)) || ((decide (x1.f0 ≥ 4)) || (decide (x1.f1 < 1)))) (by kernel_rfl) (by rw [h63] <;> rfl)).cast [1, 3, 7] (by kernel_rfl), hw.pick [0, 1] (by kernel_rfl)⟩
    replace hs := hs.altB 11 false (by kernel_rfl) h63
    refine pures hs 1 [1, 3, 11, 12] [(1, (pt b55 0)), (3, vi64 (x1.f2.length : Int)), (11, .bool false), (12, (pt b55 0))] (by kernel_rfl) fun a hs => ?_
    refine s_load hs (hw.at_ 0 rfl) 0 (by kernel_rfl) (by kernel_rfl) (v := vi64 x1.f0) (by kernel_rfl) fun a hs => ?_
    refine pures hs 3 [1, 3, 16] [(1, (pt b55 0)), (3, vi64 (x1.f2.length : Int)), (16, .bool (decide (x1.f0 ≥ 4)))] (by kernel_rfl) fun a hs => ?_
    rcases boolE (decide (x1.f0 ≥ 4)) with h64 | h64
    · replace hs := hs.altB 16 true (by kernel_rfl) h64
      refine pures hs 5 [1, 3, 7] [(1, (pt b55 0)), (3, vi64 (x1.f2.length : Int)), (7, .bool true)] (by kernel_rfl) fun a hs => ?_
      refine s_end ?_
      exact (hJ62 _ _).2 ⟨(hs.altB (b := true) 7 ((decide (x1.f0 < 0)) || ((decide (x1.f0 ≥ 4)) || (decide (x1.f1 < 1)))) (by kernel_rfl) (by rw [h63, h64] <;> rfl)).cast [1, 3, 7] (by kernel_rfl), hw.pick [0, 1] (by kernel_rfl)⟩
    replace hs := hs.altB 16 false (by kernel_rfl) h64
    refine pures hs 1 [1, 3, 16, 17] [(1, (pt b55 0)), (3, vi64 (x1.f2.length : Int)), (16, .bool false), (17, (pt b55 1))] (by kernel_rfl) fun a hs => ?_
    refine s_load hs (hw.at_ 0 rfl) 1 (by kernel_rfl) (by kernel_rfl) (v := vu64 x1.f1) (by kernel_rfl) fun a hs => ?_
    refine pures hs 3 [1, 3, 7] [(1, (pt b55 0)), (3, vi64 (x1.f2.length : Int)), (7, .bool (decide (x1.f1 < 1)))] (by kernel_rfl) fun a hs => ?_
    refine s_end ?_
    exact (hJ62 _ _).2 ⟨(hs.altB (b := (decide (x1.f1 < 1))) 7 ((decide (x1.f0 < 0)) || ((decide (x1.f0 ≥ 4)) || (decide (x1.f1 < 1)))) (by kernel_rfl) (by rw [h63, h64] <;> rfl)).cast [1, 3, 7] (by kernel_rfl), hw.pick [0, 1] (by kernel_rfl)⟩
  intro a w hh
  obtain ⟨hs, hw⟩ := (hJ62 _ _).1 hh
  rcases ifbE hk with ⟨h65, hk⟩ | ⟨h65, hk⟩
  · refine c_cond1 hs (by kernel_rfl) (t := ((decide (x1.f0 < 0)) || ((decide (x1.f0 ≥ 4)) || (decide (x1.f1 < 1))))) (by kernel_rfl) h65 ?_
    refine c_seq ?_
    refine c_region ?_
    refine pures hs 1 [2] [(2, .bool false)] (by kernel_rfl) fun a hs => ?_
    refine s_end ?_
    refine c_ret ?_
    obtain rfl := someE hk
    refine hQ _ _ (f_ret1 hs rfl (v := .bool false) (by kernel_rfl) ⟨rfl, hw.pick [1] (by kernel_rfl)⟩)
  refine c_cond0 hs (by kernel_rfl) (t := ((decide (x1.f0 < 0)) || ((decide (x1.f0 ≥ 4)) || (decide (x1.f1 < 1))))) (by kernel_rfl) h65 ?_
  refine c_seq ?_
  obtain ⟨J75, hJ75⟩ : ∃ J : Act → World → Prop, ∀ a w, J a w ↔ (Sees a 44 [(1, (pt b55 0)), (21, .bool ((decide ((x1.f2.length : Int) < 1)) || ((decide ((x1.f2.length : Int) > 5)) || (x1.f3 && ((decide ((x1.f2.length : Int) < 2)) || (x1.f4 != 0))))))] ∧ St g w [bx b55 [vi64 x1.f0, vu64 x1.f1, .slice p2 x1.f2.length c3, .bool x1.f3, vi64 x1.f4] 44, F] ih) := ⟨_, fun _ _ => Iff.rfl⟩
  refine c_regJ J75 ?_ ?_
  · refine pures hs 3 [1, 3, 24] [(1, (pt b55 0)), (3, vi64 (x1.f2.length : Int)), (24, .bool (decide ((x1.f2.length : Int) < 1)))] (by kernel_rfl) fun a hs => ?_
    rcases boolE (decide ((x1.f2.length : Int) < 1)) with h76 | h76
    · replace hs := hs.altB 24 true (by kernel_rfl) h76
      refine pures hs 17 [1, 21] [(1, (pt b55 0)), (21, .bool true)] (by kernel_rfl) fun a hs => ?_
      refine s_end ?_
      exact (hJ75 _ _).2 ⟨(hs.altB (b := true) 21 ((decide ((x1.f2.length : Int) < 1)) || ((decide ((x1.f2.length : Int) > 5)) || (x1.f3 && ((decide ((x1.f2.length : Int) < 2)) || (x1.f4 != 0))))) (by kernel_rfl) (by rw [h76] <;> rfl)).cast [1, 21] (by kernel_rfl), hw.pick [0, 1] (by kernel_rfl)⟩
    replace hs := hs.altB 24 false (by kernel_rfl) h76
    refine pures hs 4 [1, 3, 28] [(1, (pt b55 0)), (3, vi64 (x1.f2.length : Int)), (28, .bool (decide ((x1.f2.length : Int) > 5)))] (by kernel_rfl) fun a hs => ?_
    rcases boolE (decide ((x1.f2.length : Int) > 5)) with h77 | h77
    · replace hs := hs.altB 28 true (by kernel_rfl) h77
      refine pures hs 13 [1, 21] [(1, (pt b55 0)), (21, .bool true)] (by kernel_rfl) fun a hs => ?_
      refine s_end ?_
      exact (hJ75 _ _).2 ⟨(hs.altB (b := true) 21 ((decide ((x1.f2.length : Int) < 1)) || ((decide ((x1.f2.length : Int) > 5)) || (x1.f3 && ((decide ((x1.f2.length : Int) < 2)) || (x1.f4 != 0))))) (by kernel_rfl) (by rw [h76, h77] <;> rfl)).cast [1, 21] (by kernel_rfl), hw.pick [0, 1] (by kernel_rfl)⟩
    replace hs := hs.altB 28 false (by kernel_rfl) h77
    refine pures hs 1 [1, 3, 28, 29] [(1, (pt b55 0)), (3, vi64 (x1.f2.length : Int)), (28, .bool false), (29, (pt b55 3))] (by kernel_rfl) fun a hs => ?_
    refine s_load hs (hw.at_ 0 rfl) 3 (by kernel_rfl) (by kernel_rfl) (v := .bool x1.f3) (by kernel_rfl) fun a hs => ?_
    refine pures hs 1 [1, 3, 28, 31] [(1, (pt b55 0)), (3, vi64 (x1.f2.length : Int)), (28, .bool false), (31, .bool x1.f3)] (by kernel_rfl) fun a hs => ?_
    rcases boolE x1.f3 with h78 | h78
    · replace hs := hs.altB 31 true (by kernel_rfl) h78
      refine pures hs 3 [1, 28, 31, 34] [(1, (pt b55 0)), (28, .bool false), (31, .bool true), (34, .bool (decide ((x1.f2.length : Int) < 2)))] (by kernel_rfl) fun a hs => ?_
      rcases boolE (decide ((x1.f2.length : Int) < 2)) with h79 | h79
      · replace hs := hs.altB 34 true (by kernel_rfl) h79
        refine pures hs 7 [1, 21] [(1, (pt b55 0)), (21, .bool true)] (by kernel_rfl) fun a hs => ?_
        refine s_end ?_
        exact (hJ75 _ _).2 ⟨(hs.altB (b := true) 21 ((decide ((x1.f2.length : Int) < 1)) || ((decide ((x1.f2.length : Int) > 5)) || (x1.f3 && ((decide ((x1.f2.length : Int) < 2)) || (x1.f4 != 0))))) (by kernel_rfl) (by rw [h76, h77, h78, h79] <;> rfl)).cast [1, 21] (by kernel_rfl), hw.pick [0, 1] (by kernel_rfl)⟩
      replace hs := hs.altB 34 false (by kernel_rfl) h79
      refine pures hs 1 [1, 28, 31, 34, 35] [(1, (pt b55 0)), (28, .bool false), (31, .bool true), (34, .bool false), (35, (pt b55 4))] (by kernel_rfl) fun a hs => ?_
      refine s_load hs (hw.at_ 0 rfl) 4 (by kernel_rfl) (by kernel_rfl) (v := vi64 x1.f4) (by kernel_rfl) fun a hs => ?_
      refine pures hs 5 [1, 21] [(1, (pt b55 0)), (21, .bool (x1.f4 != 0))] (by kernel_rfl) fun a hs => ?_
      refine s_end ?_
      exact (hJ75 _ _).2 ⟨(hs.altB (b := (x1.f4 != 0)) 21 ((decide ((x1.f2.length : Int) < 1)) || ((decide ((x1.f2.length : Int) > 5)) || (x1.f3 && ((decide ((x1.f2.length : Int) < 2)) || (x1.f4 != 0))))) (by kernel_rfl) (by rw [h76, h77, h78, h79] <;> rfl)).cast [1, 21] (by kernel_rfl), hw.pick [0, 1] (by kernel_rfl)⟩
    replace hs := hs.altB 31 false (by kernel_rfl) h78
    refine pures hs 10 [1, 21] [(1, (pt b55 0)), (21, .bool false)] (by kernel_rfl) fun a hs => ?_
    refine s_end ?_
    exact (hJ75 _ _).2 ⟨(hs.altB (b := false) 21 ((decide ((x1.f2.length : Int) < 1)) || ((decide ((x1.f2.length : Int) > 5)) || (x1.f3 && ((decide ((x1.f2.length : Int) < 2)) || (x1.f4 != 0))))) (by kernel_rfl) (by rw [h76, h77, h78] <;> rfl)).cast [1, 21] (by kernel_rfl), hw.pick [0, 1] (by kernel_rfl)⟩
  intro a w hh
  obtain ⟨hs, hw⟩ := (hJ75 _ _).1 hh
  rcases ifbE hk with ⟨h80, hk⟩ | ⟨h80, hk⟩
  · refine c_cond1 hs (by kernel_rfl) (t := ((decide ((x1.f2.length : Int) < 1)) || ((decide ((x1.f2.length : Int) > 5)) || (x1.f3 && ((decide ((x1.f2.length : Int) < 2)) || (x1.f4 != 0)))))) (by kernel_rfl) h80 ?_
    refine c_seq ?_
    refine c_region ?_
    refine pures hs 1 [2] [(2, .bool false)] (by kernel_rfl) fun a hs => ?_
    refine s_end ?_
    refine c_ret ?_
    obtain rfl := someE hk
    refine hQ _ _ (f_ret1 hs rfl (v := .bool false) (by kernel_rfl) ⟨rfl, hw.pick [1] (by kernel_rfl)⟩)
  refine c_cond0 hs (by kernel_rfl) (t := ((decide ((x1.f2.length : Int) < 1)) || ((decide ((x1.f2.length : Int) > 5)) || (x1.f3 && ((decide ((x1.f2.length : Int) < 2)) || (x1.f4 != 0)))))) (by kernel_rfl) h80 ?_
  refine c_skip ?_
  refine c_seq ?_
  refine c_region ?_
  refine s_load hs (hw.at_ 0 rfl) 0 (by kernel_rfl) (by kernel_rfl) (v := .agg #[vi64 x1.f0, vu64 x1.f1, .slice p2 x1.f2.length c3, .bool x1.f3, vi64 x1.f4]) (by kernel_rfl) fun a hs => ?_
  obtain ⟨y90, h91, hk⟩ := bindE hk
  refine s_call hs (by kernel_rfl) (by kernel_rfl) (conf_everybody_s h91 h4 ((hw.pick [1] (by kernel_rfl)).pack 0)) fun a w v hv hs => ?_
  obtain ⟨p92, c93, d95, rfl, hw, h94⟩ := hv
  replace hw := hw.unpack 1 rfl
  obtain ⟨y97, h98, hk⟩ := bindE hk
  refine s_call hs (by kernel_rfl) (by kernel_rfl) (conf_unlike_s h98 h94.read (memF 0 rfl) ((hw.pick [0, 1] (by kernel_rfl)).pack 0)) fun a w v hv hs => ?_
  obtain ⟨rfl, hw⟩ := hv
  replace hw := hw.unpack 0 rfl
  refine pures hs 1 [2] [(2, .bool y97)] (by kernel_rfl) fun a hs => ?_
  refine s_end ?_
  refine c_ret ?_
  obtain rfl := someE hk
  refine hQ _ _ (f_ret1 hs rfl (v := .bool y97) (by kernel_rfl) ⟨rfl, hw.pick [1] (by kernel_rfl)⟩)
def conf_All_r10 (k : Nat) (x494 : List Int) : Option Bool :=
  (conf_unlike k x494).bind fun y502 =>
  some y502
def conf_All_r12 (rec_conf_All_l11 : (List Int) → Int → Option (Sum Bool (List Int))) (x518 : M44) (x427 : List Int) (x433 : Int) (x533 : Bool) : Option (Sum Bool (List Int)) :=
  if x533 = true then some (.inl false)
  else (conf_everybody x518).bind fun y548 =>
  (app x427 y548).bind fun x555 =>
  rec_conf_All_l11 x555 (IntKind.i64.wrap (x433 + 1))
def conf_All_l11 (k : Nat) (x1 : List M44) : Nat → (List Int) → Int → Option (Sum Bool (List Int))
  | 0, _, _ => none
  | j + 1, x427, x433 =>
    if (decide (x433 < (x1.length : Int))) = true then (
      (ix x1 x433).bind fun x518 =>
      (if (x518.f0 != x433) = true then some true
        else (conf_Right k x518).bind fun y565 =>
        some (!y565) : Option Bool).bind fun s567 => conf_All_r12 (conf_All_l11 k x1 j) x518 x427 x433 s567)
    else some (.inr x427)
def conf_All (k : Nat) (x1 : List M44) : Option Bool :=
  if ((decide ((x1.length : Int) < 1)) || (decide ((x1.length : Int) > 4))) = true then some false
  else (conf_All_l11 k x1 k ([]) 0 : Option (Sum Bool (List Int))).bind fun
    | .inl z => some z
    | .inr s570 => conf_All_r10 k s570
theorem conf_All_s {k : Nat} {x1 : List M44} {p2 : Option Addr} {c3 : Nat} {d5 : Ch} {r : Bool} (hk : conf_All k x1 = some r) {g w : World} {F : Ch} {ih : IH} (h4 : RSl e44 ih d5 p2 c3 x1) (h6 : ∀ q ∈ d5, q ∈ F) (hw : St g w [F] ih) :
    CallsR Tryz.prog 48 #[.slice p2 x1.length c3] w fun v w' => v = .bool r ∧ St g w' [F] ih := by
  refine f_in (vs := [.slice p2 x1.length c3]) Tryz.func48 rfl 37 rfl (by kernel_rfl) [(0, .slice p2 x1.length c3)] (by kernel_rfl) fun a Qf hQ hQn hs => ?_
  refine c_seq ?_
  refine c_region ?_
  refine pures hs 1 [0] [(0, .slice p2 x1.length c3)] (by kernel_rfl) fun a hs => ?_
  refine s_end ?_
  refine c_seq ?_
  refine c_seq ?_
  obtain ⟨J293, hJ293⟩ : ∃ J : Act → World → Prop, ∀ a w, J a w ↔ (Sees a 37 [(0, .slice p2 x1.length c3), (13, .bool ((decide ((x1.length : Int) < 1)) || (decide ((x1.length : Int) > 4))))] ∧ St g w [F] ih) := ⟨_, fun _ _ => Iff.rfl⟩
  refine c_regJ J293 ?_ ?_
  · refine pures hs 4 [0, 9] [(0, .slice p2 x1.length c3), (9, .bool (decide ((x1.length : Int) < 1)))] (by kernel_rfl) fun a hs => ?_
    rcases boolE (decide ((x1.length : Int) < 1)) with h294 | h294
    · replace hs := hs.altB 9 true (by kernel_rfl) h294
      refine pures hs 4 [0, 13] [(0, .slice p2 x1.length c3), (13, .bool true)] (by kernel_rfl) fun a hs => ?_
      refine s_end ?_
      exact (hJ293 _ _).2 ⟨(hs.altB (b := true) 13 ((decide ((x1.length : Int) < 1)) || (decide ((x1.length : Int) > 4))) (by kernel_rfl) (by rw [h294] <;> rfl)).cast [0, 13] (by kernel_rfl), hw.pick [0] (by kernel_rfl)⟩
    replace hs := hs.altB 9 false (by kernel_rfl) h294
    refine pures hs 4 [0, 13] [(0, .slice p2 x1.length c3), (13, .bool (decide ((x1.length : Int) > 4)))] (by kernel_rfl) fun a hs => ?_
    refine s_end ?_
    exact (hJ293 _ _).2 ⟨(hs.altB (b := (decide ((x1.length : Int) > 4))) 13 ((decide ((x1.length : Int) < 1)) || (decide ((x1.length : Int) > 4))) (by kernel_rfl) (by rw [h294] <;> rfl)).cast [0, 13] (by kernel_rfl), hw.pick [0] (by kernel_rfl)⟩
  intro a w hh
  obtain ⟨hs, hw⟩ := (hJ293 _ _).1 hh
  rcases ifbE hk with ⟨h295, hk⟩ | ⟨h295, hk⟩
  · refine c_cond1 hs (by kernel_rfl) (t := ((decide ((x1.length : Int) < 1)) || (decide ((x1.length : Int) > 4)))) (by kernel_rfl) h295 ?_
    refine c_seq ?_
    refine c_region ?_
    refine pures hs 1 [2] [(2, .bool false)] (by kernel_rfl) fun a hs => ?_
    refine s_end ?_
    refine c_ret ?_
    obtain rfl := someE hk
    refine hQ _ _ (f_ret1 hs rfl (v := .bool false) (by kernel_rfl) ⟨rfl, hw.pick [0] (by kernel_rfl)⟩)
  refine c_cond0 hs (by kernel_rfl) (t := ((decide ((x1.length : Int) < 1)) || (decide ((x1.length : Int) > 4)))) (by kernel_rfl) h295 ?_
  refine c_skip ?_
  refine c_seq ?_
  refine c_region ?_
  refine pures hs 1 [0, 3] [(0, .slice p2 x1.length c3), (3, .slice none 0 0)] (by kernel_rfl) fun a hs => ?_
  refine s_end ?_
  refine c_seq ?_
  refine c_seq ?_
  refine c_region ?_
  refine pures hs 3 [3, 14, 15, 16] [(3, .slice none 0 0), (14, .slice p2 x1.length c3), (15, vi64 (x1.length : Int)), (16, vi64 0)] (by kernel_rfl) fun a hs => ?_
  refine s_end ?_
  refine c_block ?_
  obtain ⟨y504, hx505, hk⟩ := bindE hk
  replace hw := hw.nil
  obtain ⟨J506, hJ506⟩ : ∃ J : Act → World → Prop, ∀ a w, J a w ↔ (∃ (x494 : List Int) (p495 : Option Addr) (c496 : Nat) (d498 : Ch), conf_All_r10 k x494 = some r ∧ Sees a 37 [(3, .slice p495 x494.length c496)] ∧ St g w [d498, F] ih ∧ OSl e3 ih p495 c496 x494 d498) := ⟨_, fun _ _ => Iff.rfl⟩
  obtain ⟨I507, hI507⟩ : ∃ J : Nat → Act → World → Prop, ∀ j a w, J j a w ↔ (∃ (x427 : List Int) (x433 : Int) (p428 : Option Addr) (c429 : Nat) (d431 : Ch), conf_All_l11 k x1 j x427 x433 = some y504 ∧ Sees a 37 [(3, .slice p428 x427.length c429), (14, .slice p2 x1.length c3), (15, vi64 (x1.length : Int)), (16, vi64 x433)] ∧ St g w [d431, F] ih ∧ OSl e3 ih p428 c429 x427 d431) := ⟨_, fun _ _ _ => Iff.rfl⟩
  refine c_exitJ 0 J506 ?_ ?_
  · refine c_loop I507 k ((hI507 _ _ _).2 ⟨([]), 0, none, 0, ([]), hx505, hs.cast [3, 14, 15, 16] (by kernel_rfl), hw.pick [0, 1] (by kernel_rfl), (OSl.nil _ _)⟩) (fun a w h0 => ?_) fun j a w hh => ?_
    · obtain ⟨_, _, _, _, _, h, _⟩ := (hI507 _ _ _).1 h0
      cases h
    obtain ⟨x427, x433, p428, c429, d431, hx505, hs, hw, h430⟩ := (hI507 _ _ _).1 hh
    refine c_seq ?_
    refine c_region ?_
    refine pures hs 1 [3, 14, 15, 16, 17] [(3, .slice p428 x427.length c429), (14, .slice p2 x1.length c3), (15, vi64 (x1.length : Int)), (16, vi64 x433), (17, .bool (decide (x433 < (x1.length : Int))))] (by kernel_rfl) fun a hs => ?_
    refine s_end ?_
    refine c_seq ?_
    rcases ifbE hx505 with ⟨h508, hx505⟩ | ⟨h508, hx505⟩
    · refine c_cond1 hs (by kernel_rfl) (t := (decide (x433 < (x1.length : Int)))) (by kernel_rfl) h508 ?_
      refine c_skip ?_
      refine c_seq ?_
      refine c_block ?_
      refine c_seq ?_
      refine c_region ?_
      refine pures hs 1 [3, 14, 15, 16, 18] [(3, .slice p428 x427.length c429), (14, .slice p2 x1.length c3), (15, vi64 (x1.length : Int)), (16, vi64 x433), (18, vi64 x433)] (by kernel_rfl) fun a hs => ?_
      obtain ⟨x518, h519, hx505⟩ := bindE hx505
      refine s_index hs h4 (by kernel_rfl) (by kernel_rfl) (k := .i64) (by kernel_rfl) 44 (by kernel_rfl) (by kernel_rfl) h519 fun a r520 cs henc at521 hs => ?_
      obtain ⟨p522, c523, rfl, h524⟩ := henc
      refine s_load hs (at521 _ (((hw.vw 1 rfl).sub h6).anti (Le.refl _))) 0 (by kernel_rfl) (by kernel_rfl) (v := .agg #[vi64 x518.f0, vu64 x518.f1, .slice p522 x518.f2.length c523, .bool x518.f3, vi64 x518.f4]) (by kernel_rfl) fun a hs => ?_
      refine s_new hs hw [vi64 0, vu64 0, .slice none 0 0, .bool false, vi64 0] 44 (fun b => (pt b 0)) (by kernel_rfl) (fun _ => by kernel_rfl) fun a w b525 hs hw => ?_
      refine pures hs 1 [3, 14, 15, 16, 20, 5, 4] [(3, .slice p428 x427.length c429), (14, .slice p2 x1.length c3), (15, vi64 (x1.length : Int)), (16, vi64 x433), (20, .agg #[vi64 x518.f0, vu64 x518.f1, .slice p522 x518.f2.length c523, .bool x518.f3, vi64 x518.f4]), (5, (pt b525 0)), (4, vi64 x433)] (by kernel_rfl) fun a hs => ?_
      refine s_store hs hw 0 rfl 0 (by kernel_rfl) (by kernel_rfl) (v := .agg #[vi64 x518.f0, vu64 x518.f1, .slice p522 x518.f2.length c523, .bool x518.f3, vi64 x518.f4]) (by kernel_rfl) (by kernel_rfl) (by kernel_rfl) (by kernel_rfl) fun a w hs hw => ?_
      refine s_end ?_
      refine c_seq ?_
      refine c_seq ?_
      obtain ⟨y561, hx562, hx505⟩ := bindE hx505
      obtain ⟨J563, hJ563⟩ : ∃ J : Act → World → Prop, ∀ a w, J a w ↔ (∃ (x533 : Bool), conf_All_r12 (conf_All_l11 k x1 j) x518 x427 x433 x533 = some y504 ∧ Sees a 37 [(3, .slice p428 x427.length c429), (14, .slice p2 x1.length c3), (15, vi64 (x1.length : Int)), (16, vi64 x433), (5, (pt b525 0)), (29, .bool x533)] ∧ St g w [bx b525 [vi64 x518.f0, vu64 x518.f1, .slice p522 x518.f2.length c523, .bool x518.f3, vi64 x518.f4] 44, d431, F] ih) := ⟨_, fun _ _ => Iff.rfl⟩
      refine c_regJ J563 ?_ ?_
      · refine pures hs 1 [3, 14, 15, 16, 5, 4, 21] [(3, .slice p428 x427.length c429), (14, .slice p2 x1.length c3), (15, vi64 (x1.length : Int)), (16, vi64 x433), (5, (pt b525 0)), (4, vi64 x433), (21, (pt b525 0))] (by kernel_rfl) fun a hs => ?_
        refine s_load hs (hw.at_ 0 rfl) 0 (by kernel_rfl) (by kernel_rfl) (v := vi64 x518.f0) (by kernel_rfl) fun a hs => ?_
        refine pures hs 3 [3, 14, 15, 16, 5, 25] [(3, .slice p428 x427.length c429), (14, .slice p2 x1.length c3), (15, vi64 (x1.length : Int)), (16, vi64 x433), (5, (pt b525 0)), (25, .bool (x518.f0 != x433))] (by kernel_rfl) fun a hs => ?_
        rcases ifbE hx562 with ⟨h564, hx562⟩ | ⟨h564, hx562⟩
        · replace hs := hs.altB 25 true (by kernel_rfl) h564
          refine pures hs 4 [3, 14, 15, 16, 5, 29] [(3, .slice p428 x427.length c429), (14, .slice p2 x1.length c3), (15, vi64 (x1.length : Int)), (16, vi64 x433), (5, (pt b525 0)), (29, .bool true)] (by kernel_rfl) fun a hs => ?_
          refine s_end ?_
          obtain rfl := someE hx562
          exact (hJ563 _ _).2 ⟨true, hx505, hs.cast [3, 14, 15, 16, 5, 29] (by kernel_rfl), hw.pick [0, 1, 2] (by kernel_rfl)⟩
        replace hs := hs.altB 25 false (by kernel_rfl) h564
        refine s_load hs (hw.at_ 0 rfl) 0 (by kernel_rfl) (by kernel_rfl) (v := .agg #[vi64 x518.f0, vu64 x518.f1, .slice p522 x518.f2.length c523, .bool x518.f3, vi64 x518.f4]) (by kernel_rfl) fun a hs => ?_
        obtain ⟨y565, h566, hx562⟩ := bindE hx562
        refine s_call hs (by kernel_rfl) (by kernel_rfl) (conf_Right_s h566 h524 ((hw.pick [0, 1, 2] (by kernel_rfl)).pack 0)) fun a w v hv hs => ?_
        obtain ⟨rfl, hw⟩ := hv
        replace hw := hw.unpack 0 rfl
        refine pures hs 2 [3, 14, 15, 16, 5, 29] [(3, .slice p428 x427.length c429), (14, .slice p2 x1.length c3), (15, vi64 (x1.length : Int)), (16, vi64 x433), (5, (pt b525 0)), (29, .bool (!y565))] (by kernel_rfl) fun a hs => ?_
        refine s_end ?_
        obtain rfl := someE hx562
        exact (hJ563 _ _).2 ⟨(!y565), hx505, hs.cast [3, 14, 15, 16, 5, 29] (by kernel_rfl), hw.pick [0, 1, 2] (by kernel_rfl)⟩
      intro a w hh
      obtain ⟨x533, hx505, hs, hw⟩ := (hJ563 _ _).1 hh
      rcases ifbE hx505 with ⟨h534, hx505⟩ | ⟨h534, hx505⟩
      · refine c_cond1 hs (by kernel_rfl) (t := x533) (by kernel_rfl) h534 ?_
        refine c_seq ?_
        refine c_region ?_
        refine pures hs 1 [2] [(2, .bool false)] (by kernel_rfl) fun a hs => ?_
        refine s_end ?_
        refine c_ret ?_
        obtain rfl := someE hx505
        obtain rfl := someE hk
        refine hQ _ _ (f_ret1 hs rfl (v := .bool false) (by kernel_rfl) ⟨rfl, hw.pick [2] (by kernel_rfl)⟩)
      refine c_cond0 hs (by kernel_rfl) (t := x533) (by kernel_rfl) h534 ?_
      refine c_skip ?_
      refine c_region ?_
      refine pures hs 1 [14, 15, 16, 5, 30] [(14, .slice p2 x1.length c3), (15, vi64 (x1.length : Int)), (16, vi64 x433), (5, (pt b525 0)), (30, .slice p428 x427.length c429)] (by kernel_rfl) fun a hs => ?_
      refine s_load hs (hw.at_ 0 rfl) 0 (by kernel_rfl) (by kernel_rfl) (v := .agg #[vi64 x518.f0, vu64 x518.f1, .slice p522 x518.f2.length c523, .bool x518.f3, vi64 x518.f4]) (by kernel_rfl) fun a hs => ?_
      obtain ⟨y548, h549, hx505⟩ := bindE hx505
      refine s_call hs (by kernel_rfl) (by kernel_rfl) (conf_everybody_s h549 h524 ((hw.pick [1, 2] (by kernel_rfl)).pack 0)) fun a w v hv hs => ?_
      obtain ⟨p550, c551, d553, rfl, hw, h552⟩ := hv
      replace hw := hw.unpack 1 rfl
      obtain ⟨x555, h556, hx505⟩ := bindE hx505
      refine s_appS hs hw (E := e3) appT42 1 rfl h430 (by kernel_rfl) (by kernel_rfl) (h552.read.mono (Le.refl _)) ((hw.vw 0 rfl).anti (Le.refl _)) (by kernel_rfl) h556 fun a w p557 c558 d559 h560 hw hs => ?_
      refine pures hs 1 [14, 15, 16, 3] [(14, .slice p2 x1.length c3), (15, vi64 (x1.length : Int)), (16, vi64 x433), (3, .slice p557 x555.length c558)] (by kernel_rfl) fun a hs => ?_
      refine s_end ?_
      refine c_region ?_
      refine pures hs 2 [14, 15, 16, 3] [(14, .slice p2 x1.length c3), (15, vi64 (x1.length : Int)), (16, vi64 (IntKind.i64.wrap (x433 + 1))), (3, .slice p557 x555.length c558)] (by kernel_rfl) fun a hs => ?_
      refine s_end ?_
      exact (hI507 _ _ _).2 ⟨x555, (IntKind.i64.wrap (x433 + 1)), p557, c558, d559, hx505, hs.cast [3, 14, 15, 16] (by kernel_rfl), hw.pick [1, 2] (by kernel_rfl), h560⟩
    refine c_cond0 hs (by kernel_rfl) (t := (decide (x433 < (x1.length : Int)))) (by kernel_rfl) h508 ?_
    refine c_exit ?_
    obtain rfl := someE hx505
    exact (hJ506 _ _).2 ⟨x427, p428, c429, d431, hk, hs.cast [3] (by kernel_rfl), hw.pick [0, 1] (by kernel_rfl), h430⟩
  intro a w hh
  obtain ⟨x494, p495, c496, d498, hk, hs, hw, h497⟩ := (hJ506 _ _).1 hh
  refine c_seq ?_
  refine c_region ?_
  refine pures hs 1 [35] [(35, .slice p495 x494.length c496)] (by kernel_rfl) fun a hs => ?_
  obtain ⟨y502, h503, hk⟩ := bindE hk
  refine s_call hs (by kernel_rfl) (by kernel_rfl) (conf_unlike_s h503 h497.read (memF 0 rfl) ((hw.pick [0, 1] (by kernel_rfl)).pack 0)) fun a w v hv hs => ?_
  obtain ⟨rfl, hw⟩ := hv
  replace hw := hw.unpack 0 rfl
  refine pures hs 1 [2] [(2, .bool y502)] (by kernel_rfl) fun a hs => ?_
  refine s_end ?_
  refine c_ret ?_
  obtain rfl := someE hk
  refine hQ _ _ (f_ret1 hs rfl (v := .bool y502) (by kernel_rfl) ⟨rfl, hw.pick [1] (by kernel_rfl)⟩)
def conf_own (x1 : M44) : Option M44 :=
  (slices_Clone_int_int x1.f2).bind fun y44 =>
  some (M44.mk x1.f0 x1.f1 y44 x1.f3 x1.f4)
theorem conf_own_s {x1 : M44} {p2 : Option Addr} {c3 : Nat} {r : M44} (hk : conf_own x1 = some r) {g w : World} {F : Ch} {ih : IH} (h4 : RSl e3 ih [] p2 c3 x1.f2) (hw : St g w [F] ih) :
    CallsR Tryz.prog 83 #[.agg #[vi64 x1.f0, vu64 x1.f1, .slice p2 x1.f2.length c3, .bool x1.f3, vi64 x1.f4]] w fun v w' => ∃ (ih' : IH) (p54 : Option Addr) (c55 : Nat), v = .agg #[vi64 r.f0, vu64 r.f1, .slice p54 r.f2.length c55, .bool r.f3, vi64 r.f4] ∧ St g w' [F] ih' ∧ Le ih ih' ∧ RSl e3 ih' [] p54 c55 r.f2 := by
  refine f_in (vs := [.agg #[vi64 x1.f0, vu64 x1.f1, .slice p2 x1.f2.length c3, .bool x1.f3, vi64 x1.f4]]) Tryz.func83 rfl 8 rfl (by kernel_rfl) [(0, .agg #[vi64 x1.f0, vu64 x1.f1, .slice p2 x1.f2.length c3, .bool x1.f3, vi64 x1.f4])] (by kernel_rfl) fun a Qf hQ hQn hs => ?_
  refine c_seq ?_
  refine c_region ?_
  refine s_new hs hw [vi64 x1.f0, vu64 x1.f1, .slice p2 x1.f2.length c3, .bool x1.f3, vi64 x1.f4] 44 (fun b => (pt b 0)) (by kernel_rfl) (fun _ => by kernel_rfl) fun a w b33 hs hw => ?_
  refine s_new hs hw [vi64 0, vu64 0, .slice none 0 0, .bool false, vi64 0] 44 (fun b => (pt b 0)) (by kernel_rfl) (fun _ => by kernel_rfl) fun a w b35 hs hw => ?_
  refine s_end ?_
  refine c_seq ?_
  refine c_region ?_
  refine pures hs 1 [1, 2, 3] [(1, (pt b33 0)), (2, (pt b35 0)), (3, (pt b33 2))] (by kernel_rfl) fun a hs => ?_
  refine s_load hs (hw.at_ 1 rfl) 2 (by kernel_rfl) (by kernel_rfl) (v := .slice p2 x1.f2.length c3) (by kernel_rfl) fun a hs => ?_
  obtain ⟨y44, h45, hk⟩ := bindE hk
  refine s_call hs (by kernel_rfl) (by kernel_rfl) (slices_Clone_int_int_s h45 h4 (nilSub _) ((hw.pick [0, 1, 2] (by kernel_rfl)).pack 0)) fun a w v hv hs => ?_
  obtain ⟨p46, c47, d49, rfl, hw, h48⟩ := hv
  replace hw := hw.unpack 1 rfl
  refine pures hs 1 [1, 2, 5, 6] [(1, (pt b33 0)), (2, (pt b35 0)), (5, .slice p46 y44.length c47), (6, (pt b33 2))] (by kernel_rfl) fun a hs => ?_
  refine s_store hs hw 2 rfl 2 (by kernel_rfl) (by kernel_rfl) (v := .slice p46 y44.length c47) (by kernel_rfl) (by kernel_rfl) (by kernel_rfl) (by kernel_rfl) fun a w hs hw => ?_
  refine s_end ?_
  refine c_seq ?_
  refine c_region ?_
  refine s_load hs (hw.at_ 2 rfl) 0 (by kernel_rfl) (by kernel_rfl) (v := .agg #[vi64 x1.f0, vu64 x1.f1, .slice p46 y44.length c47, .bool x1.f3, vi64 x1.f4]) (by kernel_rfl) fun a hs => ?_
  refine s_store hs hw 1 rfl 0 (by kernel_rfl) (by kernel_rfl) (v := .agg #[vi64 x1.f0, vu64 x1.f1, .slice p46 y44.length c47, .bool x1.f3, vi64 x1.f4]) (by kernel_rfl) (by kernel_rfl) (by kernel_rfl) (by kernel_rfl) fun a w hs hw => ?_
  refine s_end ?_
  refine c_ret ?_
  obtain ⟨ih51, hle52, hw, h53⟩ := (hw.pick [0, 1, 2, 3] (by kernel_rfl)).fz (h48.mono (Le.refl _))
  obtain rfl := someE hk
  refine hQ _ _ (f_retC hs rfl (hw.at_ 0 rfl) (by kernel_rfl) (v := .agg #[vi64 x1.f0, vu64 x1.f1, .slice p46 y44.length c47, .bool x1.f3, vi64 x1.f4]) (by kernel_rfl) ⟨ih51, p46, c47, rfl, hw.pick [2] (by kernel_rfl), hle52, h53⟩)
def conf_Copy_r3 (x487 : List M44) : Option (List M44) :=
  some x487
def conf_Copy_l4 (x1 : List M44) : Nat → (List M44) → Int → Option (List M44)
  | 0, _, _ => none
  | j + 1, x421, x427 =>
    if (decide (x427 < (x1.length : Int))) = true then (
      (ix x1 x427).bind fun x507 =>
      (conf_own x507).bind fun y535 =>
      (ix x421 x427).bind fun x542 =>
      conf_Copy_l4 x1 j (x421.set x427.toNat y535) (IntKind.i64.wrap (x427 + 1)))
    else some x421
def conf_Copy (k : Nat) (x1 : List M44) : Option (List M44) :=
  (mkS (M44.mk 0 0 ([]) false 0) (x1.length : Int)).bind fun x289 =>
  (conf_Copy_l4 x1 k x289 0 : Option (List M44)).bind fun s554 => conf_Copy_r3 s554
theorem conf_Copy_s {k : Nat} {x1 : List M44} {p2 : Option Addr} {c3 : Nat} {d5 : Ch} {r : (List M44)} (hk : conf_Copy k x1 = some r) {g w : World} {F : Ch} {ih : IH} (h4 : RSl e44 ih d5 p2 c3 x1) (h6 : ∀ q ∈ d5, q ∈ F) (hw : St g w [F] ih) :
    CallsR Tryz.prog 51 #[.slice p2 x1.length c3] w fun v w' => ∃ (ih' : IH) (p555 : Option Addr) (c556 : Nat) (d558 : Ch), v = .slice p555 r.length c556 ∧ St g w' [d558, F] ih' ∧ Le ih ih' ∧ OSl e44 ih' p555 c556 r d558 := by
  refine f_in (vs := [.slice p2 x1.length c3]) Tryz.func51 rfl 23 rfl (by kernel_rfl) [(0, .slice p2 x1.length c3)] (by kernel_rfl) fun a Qf hQ hQn hs => ?_
  refine c_seq ?_
  refine c_region ?_
  refine pures hs 1 [0] [(0, .slice p2 x1.length c3)] (by kernel_rfl) fun a hs => ?_
  refine s_end ?_
  refine c_seq ?_
  refine c_region ?_
  refine pures hs 2 [0, 7] [(0, .slice p2 x1.length c3), (7, vi64 (x1.length : Int))] (by kernel_rfl) fun a hs => ?_
  obtain ⟨x289, h290, hk⟩ := bindE hk
  refine s_make hs hw (E := e44) appT28 (by kernel_rfl) (k := .i64) (k' := .i64) (by kernel_rfl) (by kernel_rfl) (z := .agg #[vi64 0, vu64 0, .slice none 0 0, .bool false, vi64 0]) (by kernel_rfl) (u := (M44.mk 0 0 ([]) false 0)) ⟨none, 0, rfl, (RSl.nil _ _ _)⟩ h290 fun a w p291 c292 d293 h294 hw hs => ?_
  refine pures hs 1 [0, 3] [(0, .slice p2 x1.length c3), (3, .slice p291 x289.length c292)] (by kernel_rfl) fun a hs => ?_
  refine s_end ?_
  refine c_seq ?_
  refine c_seq ?_
  refine c_region ?_
  refine pures hs 3 [3, 9, 10, 11] [(3, .slice p291 x289.length c292), (9, .slice p2 x1.length c3), (10, vi64 (x1.length : Int)), (11, vi64 0)] (by kernel_rfl) fun a hs => ?_
  refine s_end ?_
  refine c_block ?_
  obtain ⟨y493, hx494, hk⟩ := bindE hk
  obtain ⟨J495, hJ495⟩ : ∃ J : Act → World → Prop, ∀ a w, J a w ↔ (∃ (x487 : List M44) (p488 : Option Addr) (c489 : Nat) (d491 : Ch) (ih485 : IH), conf_Copy_r3 x487 = some r ∧ Sees a 23 [(3, .slice p488 x487.length c489)] ∧ St g w [d491, F] ih485 ∧ Le ih ih485 ∧ OSl e44 ih485 p488 c489 x487 d491) := ⟨_, fun _ _ => Iff.rfl⟩
  obtain ⟨I496, hI496⟩ : ∃ J : Nat → Act → World → Prop, ∀ j a w, J j a w ↔ (∃ (x421 : List M44) (x427 : Int) (p422 : Option Addr) (c423 : Nat) (d425 : Ch) (ih419 : IH), conf_Copy_l4 x1 j x421 x427 = some y493 ∧ Sees a 23 [(3, .slice p422 x421.length c423), (9, .slice p2 x1.length c3), (10, vi64 (x1.length : Int)), (11, vi64 x427)] ∧ St g w [d425, F] ih419 ∧ Le ih ih419 ∧ OSl e44 ih419 p422 c423 x421 d425) := ⟨_, fun _ _ _ => Iff.rfl⟩
  refine c_exitJ 0 J495 ?_ ?_
  · refine c_loop I496 k ((hI496 _ _ _).2 ⟨x289, 0, p291, c292, d293, ih, hx494, hs.cast [3, 9, 10, 11] (by kernel_rfl), hw.pick [0, 1] (by kernel_rfl), (Le.refl _), h294⟩) (fun a w h0 => ?_) fun j a w hh => ?_
    · obtain ⟨_, _, _, _, _, _, h, _⟩ := (hI496 _ _ _).1 h0
      cases h
    obtain ⟨x421, x427, p422, c423, d425, ih419, hx494, hs, hw, hle420, h424⟩ := (hI496 _ _ _).1 hh
    refine c_seq ?_
    refine c_region ?_
    refine pures hs 1 [3, 9, 10, 11, 12] [(3, .slice p422 x421.length c423), (9, .slice p2 x1.length c3), (10, vi64 (x1.length : Int)), (11, vi64 x427), (12, .bool (decide (x427 < (x1.length : Int))))] (by kernel_rfl) fun a hs => ?_
    refine s_end ?_
    refine c_seq ?_
    rcases ifbE hx494 with ⟨h497, hx494⟩ | ⟨h497, hx494⟩
    · refine c_cond1 hs (by kernel_rfl) (t := (decide (x427 < (x1.length : Int)))) (by kernel_rfl) h497 ?_
      refine c_skip ?_
      refine c_seq ?_
      refine c_block ?_
      refine c_seq ?_
      refine c_region ?_
      refine pures hs 1 [3, 9, 10, 11, 13] [(3, .slice p422 x421.length c423), (9, .slice p2 x1.length c3), (10, vi64 (x1.length : Int)), (11, vi64 x427), (13, vi64 x427)] (by kernel_rfl) fun a hs => ?_
      obtain ⟨x507, h508, hx494⟩ := bindE hx494
      refine s_index hs h4 (by kernel_rfl) (by kernel_rfl) (k := .i64) (by kernel_rfl) 44 (by kernel_rfl) (by kernel_rfl) h508 fun a r509 cs henc at510 hs => ?_
      obtain ⟨p511, c512, rfl, h513⟩ := henc
      refine s_load hs (at510 _ (((hw.vw 1 rfl).sub h6).anti hle420)) 0 (by kernel_rfl) (by kernel_rfl) (v := .agg #[vi64 x507.f0, vu64 x507.f1, .slice p511 x507.f2.length c512, .bool x507.f3, vi64 x507.f4]) (by kernel_rfl) fun a hs => ?_
      refine s_new hs hw [vi64 0, vu64 0, .slice none 0 0, .bool false, vi64 0] 44 (fun b => (pt b 0)) (by kernel_rfl) (fun _ => by kernel_rfl) fun a w b514 hs hw => ?_
      refine pures hs 1 [3, 9, 10, 11, 15, 5, 4] [(3, .slice p422 x421.length c423), (9, .slice p2 x1.length c3), (10, vi64 (x1.length : Int)), (11, vi64 x427), (15, .agg #[vi64 x507.f0, vu64 x507.f1, .slice p511 x507.f2.length c512, .bool x507.f3, vi64 x507.f4]), (5, (pt b514 0)), (4, vi64 x427)] (by kernel_rfl) fun a hs => ?_
      refine s_store hs hw 0 rfl 0 (by kernel_rfl) (by kernel_rfl) (v := .agg #[vi64 x507.f0, vu64 x507.f1, .slice p511 x507.f2.length c512, .bool x507.f3, vi64 x507.f4]) (by kernel_rfl) (by kernel_rfl) (by kernel_rfl) (by kernel_rfl) fun a w hs hw => ?_
      refine s_end ?_
      refine c_region ?_
      refine pures hs 2 [3, 9, 10, 11, 5, 16, 17] [(3, .slice p422 x421.length c423), (9, .slice p2 x1.length c3), (10, vi64 (x1.length : Int)), (11, vi64 x427), (5, (pt b514 0)), (16, .slice p422 x421.length c423), (17, vi64 x427)] (by kernel_rfl) fun a hs => ?_
      refine s_load hs (hw.at_ 0 rfl) 0 (by kernel_rfl) (by kernel_rfl) (v := .agg #[vi64 x507.f0, vu64 x507.f1, .slice p511 x507.f2.length c512, .bool x507.f3, vi64 x507.f4]) (by kernel_rfl) fun a hs => ?_
      obtain ⟨y535, h536, hx494⟩ := bindE hx494
      refine s_call hs (by kernel_rfl) (by kernel_rfl) (conf_own_s h536 (h513.mono hle420) ((hw.pick [1, 2] (by kernel_rfl)).pack 0)) fun a w v hv hs => ?_
      obtain ⟨ih537, p539, c540, rfl, hw, hle538, h541⟩ := hv
      replace hw := hw.unpack 0 rfl
      obtain ⟨x542, h543, hx494⟩ := bindE hx494
      refine s_indexO hs h424 (by kernel_rfl) (by kernel_rfl) (k := .i64) (by kernel_rfl) 44 (by kernel_rfl) (by kernel_rfl) h543 fun a r544 cs henc at545 h549 hs => ?_
      obtain ⟨p546, c547, rfl, h548⟩ := henc
      refine s_storeE hs hw 0 rfl (h424.mono hle538) h549 y535 h543 0 (by kernel_rfl) (by kernel_rfl) (v := .agg #[vi64 y535.f0, vu64 y535.f1, .slice p539 y535.f2.length c540, .bool y535.f3, vi64 y535.f4]) (by kernel_rfl) (by kernel_rfl) (by kernel_rfl) (by kernel_rfl) ⟨p546, c547, rfl, (h548.mono hle538)⟩ (fun w hv => at545 w (hv.anti hle538)) ⟨p539, c540, rfl, h541⟩ fun a w d550 h551 hw hs => ?_
      have h553 : x421.length = (x421.set x427.toNat y535).length := List.length_set.symm
      try rw [h553] at hs
      try rw [h553] at hw
      refine s_end ?_
      refine c_region ?_
      refine pures hs 2 [3, 9, 10, 11] [(3, .slice p422 (x421.set x427.toNat y535).length c423), (9, .slice p2 x1.length c3), (10, vi64 (x1.length : Int)), (11, vi64 (IntKind.i64.wrap (x427 + 1)))] (by kernel_rfl) fun a hs => ?_
      refine s_end ?_
      exact (hI496 _ _ _).2 ⟨(x421.set x427.toNat y535), (IntKind.i64.wrap (x427 + 1)), p422, c423, d550, ih537, hx494, hs.cast [3, 9, 10, 11] (by kernel_rfl), hw.pick [0, 1] (by kernel_rfl), (hle420.trans hle538), h551⟩
    refine c_cond0 hs (by kernel_rfl) (t := (decide (x427 < (x1.length : Int)))) (by kernel_rfl) h497 ?_
    refine c_exit ?_
    obtain rfl := someE hx494
    exact (hJ495 _ _).2 ⟨x421, p422, c423, d425, ih419, hk, hs.cast [3] (by kernel_rfl), hw.pick [0, 1] (by kernel_rfl), hle420, h424⟩
  intro a w hh
  obtain ⟨x487, p488, c489, d491, ih485, hk, hs, hw, hle486, h490⟩ := (hJ495 _ _).1 hh
  refine c_seq ?_
  refine c_region ?_
  refine pures hs 2 [2] [(2, .slice p488 x487.length c489)] (by kernel_rfl) fun a hs => ?_
  refine s_end ?_
  refine c_ret ?_
  obtain rfl := someE hk
  refine hQ _ _ (f_ret1 hs rfl (v := .slice p488 x487.length c489) (by kernel_rfl) ⟨ih485, p488, c489, d491, rfl, hw.pick [0, 1] (by kernel_rfl), hle486, h490⟩)
def latch_Of_int : Option (List (List Int)) :=
  some ([])
theorem latch_Of_int_s {x3 : Int} {b2 : Nat} {r : (List (List Int))} (hk : latch_Of_int = some r) {g w : World} {F : Ch} {ih : IH} (hw : St g w [bx b2 [vi64 x3] 3, F] ih) :
    CallsR Tryz.prog 52 #[.func (.func 49) #[] #[(pt b2 0)]] w fun v w' => ∃ (b16 : Nat) (p18 : Option Addr) (c19 : Nat) (d21 : Ch), v = (pt b16 0) ∧ St g w' [bx b16 [vu32 0, vi32 0, vu32 0, .func (.func 49) #[] #[(pt b2 0)], vi32 0, .slice p18 r.length c19] 151, d21, bx b2 [vi64 x3] 3, F] ih ∧ OSl e42 ih p18 c19 r d21 := by
  refine f_in (vs := [.func (.func 49) #[] #[(pt b2 0)]]) Tryz.func52 rfl 6 rfl (by kernel_rfl) [(0, .func (.func 49) #[] #[(pt b2 0)])] (by kernel_rfl) fun a Qf hQ hQn hs => ?_
  refine c_seq ?_
  refine c_region ?_
  refine pures hs 1 [0] [(0, .func (.func 49) #[] #[(pt b2 0)])] (by kernel_rfl) fun a hs => ?_
  refine s_end ?_
  refine c_seq ?_
  refine c_region ?_
  refine pures hs 2 [4] [(4, .agg #[vu32 0, vi32 0, vu32 0, .func (.func 49) #[] #[(pt b2 0)], vi32 0, .slice none 0 0])] (by kernel_rfl) fun a hs => ?_
  refine s_new hs hw [vu32 0, vi32 0, vu32 0, .func (.func 49) #[] #[(pt b2 0)], vi32 0, .slice none 0 0] 151 (fun b => (pt b 0)) (by kernel_rfl) (fun _ => by kernel_rfl) fun a w b12 hs hw => ?_
  refine pures hs 1 [2] [(2, (pt b12 0))] (by kernel_rfl) fun a hs => ?_
  refine s_end ?_
  refine c_ret ?_
  replace hw := hw.nil
  obtain rfl := someE hk
  refine hQ _ _ (f_ret1 hs rfl (v := (pt b12 0)) (by kernel_rfl) ⟨b12, none, 0, ([]), rfl, hw.pick [1, 0, 2, 3] (by kernel_rfl), (OSl.nil _ _)⟩)
def atlas_New (k : Nat) (x1 : List M44) : Option (Sum Unit ((List M44) × Int × (List (List Int)))) :=
  (conf_All k x1).bind fun y60 =>
  if (!y60) = true then some (.inl ())
  else (conf_Copy k x1).bind fun y87 =>
  (latch_Of_int).bind fun y96 =>
  some (.inr (y87, (x1.length : Int), y96))
theorem atlas_New_s {k : Nat} {x1 : List M44} {p2 : Option Addr} {c3 : Nat} {d5 : Ch} {r : Sum Unit ((List M44) × Int × (List (List Int)))} (hk : atlas_New k x1 = some r) {g w : World} {F : Ch} {ih : IH} (h4 : RSl e44 ih d5 p2 c3 x1) (h6 : ∀ q ∈ d5, q ∈ F) (hw : St g w [F] ih) :
    CallsR Tryz.prog 27 #[.slice p2 x1.length c3] w fun v w' => (∃ r0 : Unit, r = .inl r0 ∧ ∃ (ih' : IH), v = .tuple #[.pointer none, vi64 1] ∧ St g w' [F] ih' ∧ Le ih ih') ∨ (∃ r1 : (List M44) × Int × (List (List Int)), r = .inr r1 ∧ ∃ (ih' : IH) (b107 : Nat) (p109 : Option Addr) (c110 : Nat) (d112 : Ch) (b114 : Nat) (b116 : Nat) (p118 : Option Addr) (c119 : Nat) (d121 : Ch), v = .tuple #[(pt b107 0), vi64 0] ∧ St g w' [bx b107 [.slice p109 r1.1.length c110, (pt b114 0)] 113, d112, bx b114 [vu32 0, vi32 0, vu32 0, .func (.func 49) #[] #[(pt b116 0)], vi32 0, .slice p118 r1.2.2.length c119] 151, bx b116 [vi64 r1.2.1] 3, d121, F] ih' ∧ Le ih ih' ∧ OSl e44 ih' p109 c110 r1.1 d112 ∧ OSl e42 ih' p118 c119 r1.2.2 d121) := by
  refine f_in (vs := [.slice p2 x1.length c3]) Tryz.func27 rfl 18 rfl (by kernel_rfl) [(0, .slice p2 x1.length c3)] (by kernel_rfl) fun a Qf hQ hQn hs => ?_
  refine c_seq ?_
  refine c_region ?_
  refine pures hs 2 [0] [(0, .slice p2 x1.length c3)] (by kernel_rfl) fun a hs => ?_
  refine s_end ?_
  refine c_seq ?_
  refine c_seq ?_
  refine c_region ?_
  refine pures hs 1 [0, 6] [(0, .slice p2 x1.length c3), (6, .slice p2 x1.length c3)] (by kernel_rfl) fun a hs => ?_
  obtain ⟨y60, h61, hk⟩ := bindE hk
  refine s_call hs (by kernel_rfl) (by kernel_rfl) (conf_All_s h61 h4 (fun q hq => memF 0 rfl q (h6 q hq)) ((hw.pick [0] (by kernel_rfl)).pack 0)) fun a w v hv hs => ?_
  obtain ⟨rfl, hw⟩ := hv
  replace hw := hw.unpack 0 rfl
  refine pures hs 1 [0, 8] [(0, .slice p2 x1.length c3), (8, .bool (!y60))] (by kernel_rfl) fun a hs => ?_
  refine s_end ?_
  rcases ifbE hk with ⟨h62, hk⟩ | ⟨h62, hk⟩
  · refine c_cond1 hs (by kernel_rfl) (t := (!y60)) (by kernel_rfl) h62 ?_
    refine c_seq ?_
    refine c_region ?_
    refine pures hs 2 [2, 3] [(2, .pointer none), (3, vi64 1)] (by kernel_rfl) fun a hs => ?_
    refine s_end ?_
    refine c_ret ?_
    obtain rfl := someE hk
    refine hQ _ _ (f_retN hs [.tmp 2, .tmp 3] rfl [.pointer none, vi64 1] (by kernel_rfl) (by kernel_rfl) (.inl ⟨_, rfl, ⟨ih, rfl, hw.pick [0] (by kernel_rfl), (Le.refl _)⟩⟩))
  refine c_cond0 hs (by kernel_rfl) (t := (!y60)) (by kernel_rfl) h62 ?_
  refine c_skip ?_
  refine c_seq ?_
  refine c_region ?_
  refine pures hs 2 [0, 10] [(0, .slice p2 x1.length c3), (10, vi64 (x1.length : Int))] (by kernel_rfl) fun a hs => ?_
  refine s_new hs hw [vi64 0] 3 (fun b => (pt b 0)) (by kernel_rfl) (fun _ => by kernel_rfl) fun a w b65 hs hw => ?_
  refine s_store hs hw 0 rfl 0 (by kernel_rfl) (by kernel_rfl) (v := vi64 (x1.length : Int)) (by kernel_rfl) (by kernel_rfl) (by kernel_rfl) (by kernel_rfl) fun a w hs hw => ?_
  refine s_end ?_
  refine c_seq ?_
  refine c_region ?_
  refine pures hs 2 [0, 5] [(0, .slice p2 x1.length c3), (5, .func (.func 49) #[] #[(pt b65 0)])] (by kernel_rfl) fun a hs => ?_
  refine s_end ?_
  refine c_seq ?_
  refine c_region ?_
  refine pures hs 1 [5, 12] [(5, .func (.func 49) #[] #[(pt b65 0)]), (12, .slice p2 x1.length c3)] (by kernel_rfl) fun a hs => ?_
  obtain ⟨y87, h88, hk⟩ := bindE hk
  refine s_call hs (by kernel_rfl) (by kernel_rfl) (conf_Copy_s h88 h4 (fun q hq => memF 1 rfl q (h6 q hq)) ((hw.pick [0, 1] (by kernel_rfl)).pack 0)) fun a w v hv hs => ?_
  obtain ⟨ih89, p91, c92, d94, rfl, hw, hle90, h93⟩ := hv
  replace hw := hw.unpack 1 rfl
  refine pures hs 1 [13, 14] [(13, .slice p91 y87.length c92), (14, .func (.func 49) #[] #[(pt b65 0)])] (by kernel_rfl) fun a hs => ?_
  obtain ⟨y96, h97, hk⟩ := bindE hk
  refine s_call hs (by kernel_rfl) (by kernel_rfl) (latch_Of_int_s (x3 := (x1.length : Int)) h97 ((hw.pick [1, 0, 2] (by kernel_rfl)).pack 1)) fun a w v hv hs => ?_
  obtain ⟨b98, p100, c101, d103, rfl, hw, h102⟩ := hv
  replace hw := hw.unpack 3 rfl
  refine pures hs 1 [16] [(16, .agg #[.slice p91 y87.length c92, (pt b98 0)])] (by kernel_rfl) fun a hs => ?_
  refine s_new hs hw [.slice p91 y87.length c92, (pt b98 0)] 113 (fun b => (pt b 0)) (by kernel_rfl) (fun _ => by kernel_rfl) fun a w b105 hs hw => ?_
  refine pures hs 2 [2, 3] [(2, (pt b105 0)), (3, vi64 0)] (by kernel_rfl) fun a hs => ?_
  refine s_end ?_
  refine c_ret ?_
  obtain rfl := someE hk
  refine hQ _ _ (f_retN hs [.tmp 2, .tmp 3] rfl [(pt b105 0), vi64 0] (by kernel_rfl) (by kernel_rfl) (.inr ⟨_, rfl, ⟨ih89, b105, p91, c92, d94, b98, b65, p100, c101, d103, rfl, hw.pick [0, 4, 1, 3, 2, 5] (by kernel_rfl), hle90, h93, h102⟩⟩))
def caller_New (k : Nat) (x1 : Int) (x2 : Int) (x3 : List M44) : Option (Sum Unit (Int × Int × (List M44) × Int × (List (List Int)) × (List Int) × (List Int))) :=
  if ((decide (x1 < 1)) || ((decide (x1 > 6)) || ((decide (x2 < 1)) || (decide (x2 > 5))))) = true then some (.inl ())
  else (atlas_New k x3).bind fun 
    | .inl y165 =>
      some (.inl ())
    | .inr y168 =>
      some (.inr (x1, x2, y168.1, y168.2.1, y168.2.2, [], []))
theorem caller_New_s {k : Nat} {x1 : Int} {x2 : Int} {x3 : List M44} {p4 : Option Addr} {c5 : Nat} {d7 : Ch} {r : Sum Unit (Int × Int × (List M44) × Int × (List (List Int)) × (List Int) × (List Int))} (hk : caller_New k x1 x2 x3 = some r) {g w : World} {F : Ch} {ih : IH} (h6 : RSl e44 ih d7 p4 c5 x3) (h8 : ∀ q ∈ d7, q ∈ F) (hw : St g w [F] ih) :
    CallsR Tryz.prog 7 #[vi64 x1, vi64 x2, .slice p4 x3.length c5] w fun v w' => (∃ r0 : Unit, r = .inl r0 ∧ ∃ (ih' : IH), v = .tuple #[.pointer none, vi64 1] ∧ St g w' [F] ih' ∧ Le ih ih') ∨ (∃ r1 : Int × Int × (List M44) × Int × (List (List Int)) × (List Int) × (List Int), r = .inr r1 ∧ ∃ (ih' : IH) (b195 : Nat) (b197 : Nat) (p199 : Option Addr) (c200 : Nat) (d202 : Ch) (b204 : Nat) (b206 : Nat) (p208 : Option Addr) (c209 : Nat) (d211 : Ch) (p213 : Option Addr) (c214 : Nat) (d216 : Ch) (p218 : Option Addr) (c219 : Nat) (d221 : Ch), v = .tuple #[(pt b195 0), vi64 0] ∧ St g w' [bx b195 [vi64 r1.1, vi64 r1.2.1, vu64 0, vi64 0, (pt b197 0), vi64 0, vu32 0, vu64 0, .slice p213 r1.2.2.2.2.2.1.length c214, vi64 0, .pointer none, vu64 0, vi64 0, vu64 0, .slice p218 r1.2.2.2.2.2.2.length c219] 85, bx b197 [.slice p199 r1.2.2.1.length c200, (pt b204 0)] 113, d202, bx b204 [vu32 0, vi32 0, vu32 0, .func (.func 49) #[] #[(pt b206 0)], vi32 0, .slice p208 r1.2.2.2.2.1.length c209] 151, bx b206 [vi64 r1.2.2.2.1] 3, d211, d216, d221, F] ih' ∧ Le ih ih' ∧ OSl e44 ih' p199 c200 r1.2.2.1 d202 ∧ OSl e42 ih' p208 c209 r1.2.2.2.2.1 d211 ∧ OSl e5 ih' p213 c214 r1.2.2.2.2.2.1 d216 ∧ OSl e5 ih' p218 c219 r1.2.2.2.2.2.2 d221) := by
  refine f_in (vs := [vi64 x1, vi64 x2, .slice p4 x3.length c5]) Tryz.func7 rfl 37 rfl (by kernel_rfl) [(0, vi64 x1), (1, vi64 x2), (2, .slice p4 x3.length c5)] (by kernel_rfl) fun a Qf hQ hQn hs => ?_
  refine c_seq ?_
  refine c_region ?_
  refine pures hs 2 [0, 1, 2] [(0, vi64 x1), (1, vi64 x2), (2, .slice p4 x3.length c5)] (by kernel_rfl) fun a hs => ?_
  refine s_end ?_
  refine c_seq ?_
  refine c_seq ?_
  obtain ⟨J108, hJ108⟩ : ∃ J : Act → World → Prop, ∀ a w, J a w ↔ (Sees a 37 [(0, vi64 x1), (1, vi64 x2), (2, .slice p4 x3.length c5), (23, .bool ((decide (x1 < 1)) || ((decide (x1 > 6)) || ((decide (x2 < 1)) || (decide (x2 > 5))))))] ∧ St g w [F] ih) := ⟨_, fun _ _ => Iff.rfl⟩
  refine c_regJ J108 ?_ ?_
  · refine pures hs 3 [0, 1, 2, 12] [(0, vi64 x1), (1, vi64 x2), (2, .slice p4 x3.length c5), (12, .bool (decide (x1 < 1)))] (by kernel_rfl) fun a hs => ?_
    rcases boolE (decide (x1 < 1)) with h109 | h109
    · replace hs := hs.altB 12 true (by kernel_rfl) h109
      refine pures hs 11 [0, 1, 2, 23] [(0, vi64 x1), (1, vi64 x2), (2, .slice p4 x3.length c5), (23, .bool true)] (by kernel_rfl) fun a hs => ?_
      refine s_end ?_
      exact (hJ108 _ _).2 ⟨(hs.altB (b := true) 23 ((decide (x1 < 1)) || ((decide (x1 > 6)) || ((decide (x2 < 1)) || (decide (x2 > 5))))) (by kernel_rfl) (by rw [h109] <;> rfl)).cast [0, 1, 2, 23] (by kernel_rfl), hw.pick [0] (by kernel_rfl)⟩
    replace hs := hs.altB 12 false (by kernel_rfl) h109
    refine pures hs 4 [0, 1, 2, 16] [(0, vi64 x1), (1, vi64 x2), (2, .slice p4 x3.length c5), (16, .bool (decide (x1 > 6)))] (by kernel_rfl) fun a hs => ?_
    rcases boolE (decide (x1 > 6)) with h110 | h110
    · replace hs := hs.altB 16 true (by kernel_rfl) h110
      refine pures hs 7 [0, 1, 2, 23] [(0, vi64 x1), (1, vi64 x2), (2, .slice p4 x3.length c5), (23, .bool true)] (by kernel_rfl) fun a hs => ?_
      refine s_end ?_
      exact (hJ108 _ _).2 ⟨(hs.altB (b := true) 23 ((decide (x1 < 1)) || ((decide (x1 > 6)) || ((decide (x2 < 1)) || (decide (x2 > 5))))) (by kernel_rfl) (by rw [h109, h110] <;> rfl)).cast [0, 1, 2, 23] (by kernel_rfl), hw.pick [0] (by kernel_rfl)⟩
    replace hs := hs.altB 16 false (by kernel_rfl) h110
    refine pures hs 4 [0, 1, 2, 20] [(0, vi64 x1), (1, vi64 x2), (2, .slice p4 x3.length c5), (20, .bool (decide (x2 < 1)))] (by kernel_rfl) fun a hs => ?_
    rcases boolE (decide (x2 < 1)) with h111 | h111
    · replace hs := hs.altB 20 true (by kernel_rfl) h111
      refine pures hs 3 [0, 1, 2, 23] [(0, vi64 x1), (1, vi64 x2), (2, .slice p4 x3.length c5), (23, .bool true)] (by kernel_rfl) fun a hs => ?_
      refine s_end ?_
      exact (hJ108 _ _).2 ⟨(hs.altB (b := true) 23 ((decide (x1 < 1)) || ((decide (x1 > 6)) || ((decide (x2 < 1)) || (decide (x2 > 5))))) (by kernel_rfl) (by rw [h109, h110, h111] <;> rfl)).cast [0, 1, 2, 23] (by kernel_rfl), hw.pick [0] (by kernel_rfl)⟩
    replace hs := hs.altB 20 false (by kernel_rfl) h111
    refine pures hs 3 [0, 1, 2, 23] [(0, vi64 x1), (1, vi64 x2), (2, .slice p4 x3.length c5), (23, .bool (decide (x2 > 5)))] (by kernel_rfl) fun a hs => ?_
    refine s_end ?_
    exact (hJ108 _ _).2 ⟨(hs.altB (b := (decide (x2 > 5))) 23 ((decide (x1 < 1)) || ((decide (x1 > 6)) || ((decide (x2 < 1)) || (decide (x2 > 5))))) (by kernel_rfl) (by rw [h109, h110, h111] <;> rfl)).cast [0, 1, 2, 23] (by kernel_rfl), hw.pick [0] (by kernel_rfl)⟩
  intro a w hh
  obtain ⟨hs, hw⟩ := (hJ108 _ _).1 hh
  rcases ifbE hk with ⟨h112, hk⟩ | ⟨h112, hk⟩
  · refine c_cond1 hs (by kernel_rfl) (t := ((decide (x1 < 1)) || ((decide (x1 > 6)) || ((decide (x2 < 1)) || (decide (x2 > 5)))))) (by kernel_rfl) h112 ?_
    refine c_seq ?_
    refine c_region ?_
    refine pures hs 2 [6, 7] [(6, .pointer none), (7, vi64 1)] (by kernel_rfl) fun a hs => ?_
    refine s_end ?_
    refine c_ret ?_
    obtain rfl := someE hk
    refine hQ _ _ (f_retN hs [.tmp 6, .tmp 7] rfl [.pointer none, vi64 1] (by kernel_rfl) (by kernel_rfl) (.inl ⟨_, rfl, ⟨ih, rfl, hw.pick [0] (by kernel_rfl), (Le.refl _)⟩⟩))
  refine c_cond0 hs (by kernel_rfl) (t := ((decide (x1 < 1)) || ((decide (x1 > 6)) || ((decide (x2 < 1)) || (decide (x2 > 5)))))) (by kernel_rfl) h112 ?_
  refine c_skip ?_
  refine c_seq ?_
  refine c_region ?_
  refine pures hs 1 [0, 1, 25] [(0, vi64 x1), (1, vi64 x2), (25, .slice p4 x3.length c5)] (by kernel_rfl) fun a hs => ?_
  obtain ⟨y163, h164, hk⟩ := bindE hk
  refine s_call hs (by kernel_rfl) (by kernel_rfl) (atlas_New_s h164 h6 (fun q hq => memF 0 rfl q (h8 q hq)) ((hw.pick [0] (by kernel_rfl)).pack 0)) fun a w v hv hs => ?_
  rcases hv with ⟨y165, rfl, ⟨ih166, rfl, hw, hle167⟩⟩ | ⟨y168, rfl, ⟨ih169, b171, p173, c174, d176, b178, b180, p182, c183, d185, rfl, hw, hle170, h175, h184⟩⟩
  · try dsimp only at hk
    replace hw := hw.unpack 0 rfl
    refine pures hs 5 [0, 1, 8, 9] [(0, vi64 x1), (1, vi64 x2), (8, .pointer none), (9, vi64 1)] (by kernel_rfl) fun a hs => ?_
    refine s_end ?_
    refine c_seq ?_
    refine c_seq ?_
    refine c_region ?_
    refine pures hs 2 [0, 1, 8, 9, 30] [(0, vi64 x1), (1, vi64 x2), (8, .pointer none), (9, vi64 1), (30, .bool true)] (by kernel_rfl) fun a hs => ?_
    refine s_end ?_
    refine c_condT hs (by kernel_rfl) (by kernel_rfl) ?_
    refine c_seq ?_
    refine c_region ?_
    refine pures hs 3 [6, 7] [(6, .pointer none), (7, vi64 1)] (by kernel_rfl) fun a hs => ?_
    refine s_end ?_
    refine c_ret ?_
    obtain rfl := someE hk
    refine hQ _ _ (f_retN hs [.tmp 6, .tmp 7] rfl [.pointer none, vi64 1] (by kernel_rfl) (by kernel_rfl) (.inl ⟨_, rfl, ⟨ih166, rfl, hw.pick [0] (by kernel_rfl), hle167⟩⟩))
  try dsimp only at hk
  replace hw := hw.unpack 5 rfl
  refine pures hs 5 [0, 1, 8, 9] [(0, vi64 x1), (1, vi64 x2), (8, (pt b171 0)), (9, vi64 0)] (by kernel_rfl) fun a hs => ?_
  refine s_end ?_
  refine c_seq ?_
  refine c_seq ?_
  refine c_region ?_
  refine pures hs 2 [0, 1, 8, 9, 30] [(0, vi64 x1), (1, vi64 x2), (8, (pt b171 0)), (9, vi64 0), (30, .bool false)] (by kernel_rfl) fun a hs => ?_
  refine s_end ?_
  refine c_condF hs (by kernel_rfl) (by kernel_rfl) ?_
  refine c_skip ?_
  refine c_seq ?_
  refine c_region ?_
  refine pures hs 4 [35] [(35, .agg #[vi64 x1, vi64 x2, vu64 0, vi64 0, (pt b171 0), vi64 0, vu32 0, vu64 0, .slice none 0 0, vi64 0, .pointer none, vu64 0, vi64 0, vu64 0, .slice none 0 0])] (by kernel_rfl) fun a hs => ?_
  refine s_new hs hw [vi64 x1, vi64 x2, vu64 0, vi64 0, (pt b171 0), vi64 0, vu32 0, vu64 0, .slice none 0 0, vi64 0, .pointer none, vu64 0, vi64 0, vu64 0, .slice none 0 0] 85 (fun b => (pt b 0)) (by kernel_rfl) (fun _ => by kernel_rfl) fun a w b189 hs hw => ?_
  refine pures hs 2 [6, 7] [(6, (pt b189 0)), (7, vi64 0)] (by kernel_rfl) fun a hs => ?_
  refine s_end ?_
  refine c_ret ?_
  replace hw := hw.nil
  replace hw := hw.nil
  obtain rfl := someE hk
  refine hQ _ _ (f_retN hs [.tmp 6, .tmp 7] rfl [(pt b189 0), vi64 0] (by kernel_rfl) (by kernel_rfl) (.inr ⟨_, rfl, ⟨ih169, b189, b171, p173, c174, d176, b178, b180, p182, c183, d185, none, 0, ([]), none, 0, ([]), rfl, hw.pick [2, 3, 4, 5, 6, 7, 1, 0, 8] (by kernel_rfl), hle170, h175, h184, (OSl.nil _ _), (OSl.nil _ _)⟩⟩))
def caller_Caller_Begin : Option (List M48) :=
  some ([])
theorem caller_Caller_Begin_s {x1 : M26} {p2 : Option Addr} {c3 : Nat} {r : (List M48)} (hk : caller_Caller_Begin = some r) {g w : World} {F : Ch} {ih : IH} (h4 : RSl e5 ih [] p2 c3 x1.f3) (hw : St g w [F] ih) :
    CallsR Tryz.prog 9 #[.pointer none, .agg #[vi64 x1.f0, vu32 x1.f1, vu64 x1.f2, .slice p2 x1.f3.length c3, vi64 x1.f4]] w fun v w' => ∃ (p17 : Option Addr) (c18 : Nat) (d20 : Ch), v = .tuple #[.slice p17 r.length c18, vi64 2] ∧ St g w' [d20, F] ih ∧ OSl e48 ih p17 c18 r d20 := by
  refine f_in (vs := [.pointer none, .agg #[vi64 x1.f0, vu32 x1.f1, vu64 x1.f2, .slice p2 x1.f3.length c3, vi64 x1.f4]]) Tryz.func9 rfl 40 rfl (by kernel_rfl) [(0, .pointer none), (1, .agg #[vi64 x1.f0, vu32 x1.f1, vu64 x1.f2, .slice p2 x1.f3.length c3, vi64 x1.f4])] (by kernel_rfl) fun a Qf hQ hQn hs => ?_
  refine c_seq ?_
  refine c_region ?_
  refine s_new hs hw [vi64 x1.f0, vu32 x1.f1, vu64 x1.f2, .slice p2 x1.f3.length c3, vi64 x1.f4] 26 (fun b => (pt b 0)) (by kernel_rfl) (fun _ => by kernel_rfl) fun a w b13 hs hw => ?_
  refine pures hs 2 [0, 3] [(0, .pointer none), (3, (pt b13 0))] (by kernel_rfl) fun a hs => ?_
  refine s_end ?_
  refine c_seq ?_
  refine c_block ?_
  refine c_seq ?_
  refine c_region ?_
  refine pures hs 3 [0, 3, 7] [(0, .pointer none), (3, (pt b13 0)), (7, .bool true)] (by kernel_rfl) fun a hs => ?_
  refine s_end ?_
  refine c_condT hs (by kernel_rfl) (by kernel_rfl) ?_
  refine c_seq ?_
  refine c_region ?_
  refine pures hs 2 [4, 5] [(4, .slice none 0 0), (5, vi64 2)] (by kernel_rfl) fun a hs => ?_
  refine s_end ?_
  refine c_ret ?_
  replace hw := hw.nil
  obtain rfl := someE hk
  refine hQ _ _ (f_retN hs [.tmp 4, .tmp 5] rfl [.slice none 0 0, vi64 2] (by kernel_rfl) (by kernel_rfl) ⟨none, 0, ([]), rfl, hw.pick [0, 2] (by kernel_rfl), (OSl.nil _ _)⟩)
def caller_Caller_Tick : Option (List M48) :=
  some ([])
theorem caller_Caller_Tick_s {r : (List M48)} (hk : caller_Caller_Tick = some r) {g w : World} {F : Ch} {ih : IH} (hw : St g w [F] ih) :
    CallsR Tryz.prog 14 #[.pointer none] w fun v w' => ∃ (p5 : Option Addr) (c6 : Nat) (d8 : Ch), v = .slice p5 r.length c6 ∧ St g w' [d8, F] ih ∧ OSl e48 ih p5 c6 r d8 := by
  refine f_in (vs := [.pointer none]) Tryz.func14 rfl 46 rfl (by kernel_rfl) [(0, .pointer none)] (by kernel_rfl) fun a Qf hQ hQn hs => ?_
  refine c_seq ?_
  refine c_region ?_
  refine pures hs 1 [0] [(0, .pointer none)] (by kernel_rfl) fun a hs => ?_
  refine s_end ?_
  refine c_seq ?_
  refine c_seq ?_
  refine c_region ?_
  refine pures hs 2 [0, 5] [(0, .pointer none), (5, .bool true)] (by kernel_rfl) fun a hs => ?_
  refine s_end ?_
  refine c_condT hs (by kernel_rfl) (by kernel_rfl) ?_
  refine c_seq ?_
  refine c_region ?_
  refine pures hs 1 [2] [(2, .slice none 0 0)] (by kernel_rfl) fun a hs => ?_
  refine s_end ?_
  refine c_ret ?_
  replace hw := hw.nil
  obtain rfl := someE hk
  refine hQ _ _ (f_ret1 hs rfl (v := .slice none 0 0) (by kernel_rfl) ⟨none, 0, ([]), rfl, hw.pick [0, 1] (by kernel_rfl), (OSl.nil _ _)⟩)
def caller_Caller_Busy_3 : Option Unit :=
  some ()
theorem caller_Caller_Busy_3_s {x3 : Int} {x4 : Int} {x5 : Int} {x6 : Int} {x9 : List M44} {x15 : Value} {x17 : Int} {x18 : Int} {x19 : Int} {x20 : List Int} {x24 : Int} {x25 : Int} {x26 : Int} {x27 : Int} {x28 : List Int} {b2 : Nat} {b8 : Nat} {p10 : Option Addr} {c11 : Nat} {d13 : Ch} {p21 : Option Addr} {c22 : Nat} {p29 : Option Addr} {c30 : Nat} {r : Unit} (hk : caller_Caller_Busy_3 = some r) {g w : World} {F : Ch} {ih : IH} (h12 : OSl e44 ih p10 c11 x9 d13) (h16 : x15.oneCell' = true) (h23 : RSl e5 ih [] p21 c22 x20) (h31 : RSl e5 ih [] p29 c30 x28) (hw : St g w [bx b2 [vi64 x3, vi64 x4, vu64 x5, vi64 x6, (pt b8 0), vi64 x17, vu32 x18, vu64 x19, .slice p21 x20.length c22, vi64 x24, .pointer none, vu64 x25, vi64 x26, vu64 x27, .slice p29 x28.length c30] 85, bx b8 [.slice p10 x9.length c11, x15] 113, d13, F] ih) :
    CallsR Tryz.prog 10 #[(pt b2 0)] w fun v w' => v = .bool false ∧ St g w' [bx b2 [vi64 x3, vi64 x4, vu64 x5, vi64 x6, (pt b8 0), vi64 x17, vu32 x18, vu64 x19, .slice p21 x20.length c22, vi64 x24, .pointer none, vu64 x25, vi64 x26, vu64 x27, .slice p29 x28.length c30] 85, bx b8 [.slice p10 x9.length c11, x15] 113, d13, F] ih := by
  refine f_in (vs := [(pt b2 0)]) Tryz.func10 rfl 24 rfl (by kernel_rfl) [(0, (pt b2 0))] (by kernel_rfl) fun a Qf hQ hQn hs => ?_
  refine c_seq ?_
  refine c_region ?_
  refine pures hs 1 [0] [(0, (pt b2 0))] (by kernel_rfl) fun a hs => ?_
  refine s_end ?_
  refine c_seq ?_
  refine c_seq ?_
  refine c_region ?_
  refine pures hs 6 [0, 7, 10] [(0, (pt b2 0)), (7, .bool false), (10, (pt b2 10))] (by kernel_rfl) fun a hs => ?_
  refine s_load hs (hw.at_ 0 rfl) 10 (by kernel_rfl) (by kernel_rfl) (v := .pointer none) (by kernel_rfl) fun a hs => ?_
  refine pures hs 2 [0, 13] [(0, (pt b2 0)), (13, .bool true)] (by kernel_rfl) fun a hs => ?_
  refine s_end ?_
  refine c_condT hs (by kernel_rfl) (by kernel_rfl) ?_
  refine c_seq ?_
  refine c_region ?_
  refine pures hs 1 [2] [(2, .bool false)] (by kernel_rfl) fun a hs => ?_
  refine s_end ?_
  refine c_ret ?_
  obtain rfl := someE hk
  refine hQ _ _ (f_ret1 hs rfl (v := .bool false) (by kernel_rfl) ⟨rfl, hw.pick [0, 1, 2, 3] (by kernel_rfl)⟩)
def bytes_Clone (x1 : List Int) : Option (List Int) :=
  (app [] x1).bind fun x => some x
theorem bytes_Clone_s {x1 : List Int} {p2 : Option Addr} {c3 : Nat} {d5 : Ch} {r : List Int} (hk : bytes_Clone x1 = some r) {g w : World} {F : Ch} {ih : IH} (h4 : RSl e5 ih d5 p2 c3 x1) (h6 : ∀ q ∈ d5, q ∈ F) (hw : St g w [F] ih) :
    CallsR Tryz.prog 29 #[.slice p2 x1.length c3] w fun v w' => ∃ (p : Option Addr) (c : Nat) (d : Ch), v = .slice p r.length c ∧ St g w' [d, F] ih ∧ OSl e5 ih p c r d := by
  rcases p2 with _ | q
  · obtain ⟨_, rfl, rfl⟩ := h4
    replace hk : some [] = some r := hk
    refine f_in (vs := [.slice none 0 0]) Tryz.func29 rfl 8 rfl (by kernel_rfl) [(0, .slice none 0 0)] (by kernel_rfl) fun a Qf hQ hQn hs => ?_
    refine c_seq ?_
    refine c_region ?_
    refine pures hs 1 [0] [(0, .slice none 0 0)] (by kernel_rfl) fun a hs => ?_
    refine s_end ?_
    refine c_seq ?_
    refine c_seq ?_
    refine c_region ?_
    refine pures hs 2 [0, 4] [(0, .slice none 0 0), (4, .bool true)] (by kernel_rfl) fun a hs => ?_
    refine s_end ?_
    refine c_condT hs (by kernel_rfl) (by kernel_rfl) ?_
    refine c_seq ?_
    refine c_region ?_
    refine pures hs 1 [2] [(2, .slice none 0 0)] (by kernel_rfl) fun a hs => ?_
    refine s_end ?_
    refine c_ret ?_
    replace hw := hw.nil
    obtain rfl := someE hk
    refine hQ _ _ (f_ret1 hs rfl (v := .slice none 0 0) (by kernel_rfl) ⟨none, 0, ([]), rfl, hw.pick [0, 1] (by kernel_rfl), (OSl.nil _ _)⟩)
  refine f_in (vs := [.slice (some q) x1.length c3]) Tryz.func29 rfl 8 rfl (by kernel_rfl) [(0, .slice (some q) x1.length c3)] (by kernel_rfl) fun a Qf hQ hQn hs => ?_
  refine c_seq ?_
  refine c_region ?_
  refine pures hs 1 [0] [(0, .slice (some q) x1.length c3)] (by kernel_rfl) fun a hs => ?_
  refine s_end ?_
  refine c_seq ?_
  refine c_seq ?_
  refine c_region ?_
  refine pures hs 2 [0, 4] [(0, .slice (some q) x1.length c3), (4, .bool false)] (by kernel_rfl) fun a hs => ?_
  refine s_end ?_
  refine c_condF hs (by kernel_rfl) (by kernel_rfl) ?_
  refine c_skip ?_
  refine c_seq ?_
  refine c_region ?_
  refine s_new hs hw [] 5 (fun b => .slice (some ⟨b, 0, none⟩) 0 0) (by kernel_rfl) (fun _ => by kernel_rfl) fun a w b18 hs hw => ?_
  refine pures hs 1 [5, 6] [(5, .slice (some ⟨b18, 0, none⟩) 0 0), (6, .slice (some q) x1.length c3)] (by kernel_rfl) fun a hs => ?_
  obtain ⟨x20, h21, hk⟩ := bindE hk
  refine s_appS hs hw (E := e5) appT24 0 rfl OSl.of0 (by kernel_rfl) (by kernel_rfl) (h4.mono (Le.refl _)) (((hw.vw 1 rfl).sub h6).anti (Le.refl _)) (by kernel_rfl) h21 fun a w p22 c23 d24 h25 hw hs => ?_
  refine pures hs 1 [2] [(2, .slice p22 x20.length c23)] (by kernel_rfl) fun a hs => ?_
  refine s_end ?_
  refine c_ret ?_
  obtain rfl := someE hk
  refine hQ _ _ (f_ret1 hs rfl (v := .slice p22 x20.length c23) (by kernel_rfl) ⟨p22, c23, d24, rfl, hw.pick [0, 1] (by kernel_rfl), h25⟩)
def update_writes_r2 (x13 : Bool) : Option Bool :=
  if x13 = true then some true
  else some false
def update_writes (x1 : Int) : Option Bool :=
  (if (x1 == 2) = true then some (x1 == 2)
    else some (x1 == 3) : Option Bool).bind fun s19 => update_writes_r2 s19
theorem update_writes_s {x1 : Int} {r : Bool} (hk : update_writes x1 = some r) {g w : World} {F : Ch} {ih : IH} (hw : St g w [F] ih) :
    CallsR Tryz.prog 151 #[vi64 x1] w fun v w' => v = .bool r ∧ St g w' [F] ih := by
  refine f_in (vs := [vi64 x1]) Tryz.func151 rfl 7 rfl (by kernel_rfl) [(0, vi64 x1)] (by kernel_rfl) fun a Qf hQ hQn hs => ?_
  refine c_seq ?_
  refine c_region ?_
  refine pures hs 1 [0] [(0, vi64 x1)] (by kernel_rfl) fun a hs => ?_
  refine s_end ?_
  refine c_seq ?_
  refine c_region ?_
  refine pures hs 1 [3] [(3, vi64 x1)] (by kernel_rfl) fun a hs => ?_
  refine s_end ?_
  refine c_block ?_
  obtain ⟨y15, hx16, hk⟩ := bindE hk
  obtain ⟨J17, hJ17⟩ : ∃ J : Act → World → Prop, ∀ a w, J a w ↔ (∃ (x13 : Bool), update_writes_r2 x13 = some r ∧ Sees a 7 [(4, .bool x13)] ∧ St g w [F] ih) := ⟨_, fun _ _ => Iff.rfl⟩
  refine c_seqJ J17 ?_ ?_
  · refine c_seq ?_
    refine c_region ?_
    refine pures hs 2 [3, 4] [(3, vi64 x1), (4, .bool (x1 == 2))] (by kernel_rfl) fun a hs => ?_
    refine s_end ?_
    rcases ifbE hx16 with ⟨h18, hx16⟩ | ⟨h18, hx16⟩
    · refine c_cond1 hs (by kernel_rfl) (t := (x1 == 2)) (by kernel_rfl) h18 ?_
      refine c_skip ?_
      obtain rfl := someE hx16
      exact (hJ17 _ _).2 ⟨(x1 == 2), hk, hs.cast [4] (by kernel_rfl), hw.pick [0] (by kernel_rfl)⟩
    refine c_cond0 hs (by kernel_rfl) (t := (x1 == 2)) (by kernel_rfl) h18 ?_
    refine c_region ?_
    refine pures hs 2 [4] [(4, .bool (x1 == 3))] (by kernel_rfl) fun a hs => ?_
    refine s_end ?_
    obtain rfl := someE hx16
    exact (hJ17 _ _).2 ⟨(x1 == 3), hk, hs.cast [4] (by kernel_rfl), hw.pick [0] (by kernel_rfl)⟩
  intro a w hh
  obtain ⟨x13, hk, hs, hw⟩ := (hJ17 _ _).1 hh
  rcases ifbE hk with ⟨h14, hk⟩ | ⟨h14, hk⟩
  · refine c_cond1 hs (by kernel_rfl) (t := x13) (by kernel_rfl) h14 ?_
    refine c_seq ?_
    refine c_region ?_
    refine pures hs 1 [2] [(2, .bool true)] (by kernel_rfl) fun a hs => ?_
    refine s_end ?_
    refine c_ret ?_
    obtain rfl := someE hk
    refine hQ _ _ (f_ret1 hs rfl (v := .bool true) (by kernel_rfl) ⟨rfl, hw.pick [0] (by kernel_rfl)⟩)
  refine c_cond0 hs (by kernel_rfl) (t := x13) (by kernel_rfl) h14 ?_
  refine c_seq ?_
  refine c_region ?_
  refine pures hs 1 [2] [(2, .bool false)] (by kernel_rfl) fun a hs => ?_
  refine s_end ?_
  refine c_ret ?_
  obtain rfl := someE hk
  refine hQ _ _ (f_ret1 hs rfl (v := .bool false) (by kernel_rfl) ⟨rfl, hw.pick [0] (by kernel_rfl)⟩)
def letter_known (x1 : Int) : Option Bool :=
  some ((decide (x1 ≥ 1)) && (decide (x1 ≤ 20)))
theorem letter_known_s {x1 : Int} {r : Bool} (hk : letter_known x1 = some r) {g w : World} {F : Ch} {ih : IH} (hw : St g w [F] ih) :
    CallsR Tryz.prog 57 #[vi64 x1] w fun v w' => v = .bool r ∧ St g w' [F] ih := by
  refine f_in (vs := [vi64 x1]) Tryz.func57 rfl 9 rfl (by kernel_rfl) [(0, vi64 x1)] (by kernel_rfl) fun a Qf hQ hQn hs => ?_
  refine c_seq ?_
  refine c_region ?_
  refine pures hs 1 [0] [(0, vi64 x1)] (by kernel_rfl) fun a hs => ?_
  refine s_end ?_
  refine c_seq ?_
  obtain ⟨J12, hJ12⟩ : ∃ J : Act → World → Prop, ∀ a w, J a w ↔ (Sees a 9 [(2, .bool ((decide (x1 ≥ 1)) && (decide (x1 ≤ 20))))] ∧ St g w [F] ih) := ⟨_, fun _ _ => Iff.rfl⟩
  refine c_regJ J12 ?_ ?_
  · refine pures hs 3 [0, 5] [(0, vi64 x1), (5, .bool (decide (x1 ≥ 1)))] (by kernel_rfl) fun a hs => ?_
    rcases boolE (decide (x1 ≥ 1)) with h13 | h13
    · replace hs := hs.altB 5 true (by kernel_rfl) h13
      refine pures hs 4 [2] [(2, .bool (decide (x1 ≤ 20)))] (by kernel_rfl) fun a hs => ?_
      refine s_end ?_
      exact (hJ12 _ _).2 ⟨(hs.altB (b := (decide (x1 ≤ 20))) 2 ((decide (x1 ≥ 1)) && (decide (x1 ≤ 20))) (by kernel_rfl) (by rw [h13] <;> rfl)).cast [2] (by kernel_rfl), hw.pick [0] (by kernel_rfl)⟩
    replace hs := hs.altB 5 false (by kernel_rfl) h13
    refine pures hs 4 [2] [(2, .bool false)] (by kernel_rfl) fun a hs => ?_
    refine s_end ?_
    exact (hJ12 _ _).2 ⟨(hs.altB (b := false) 2 ((decide (x1 ≥ 1)) && (decide (x1 ≤ 20))) (by kernel_rfl) (by rw [h13] <;> rfl)).cast [2] (by kernel_rfl), hw.pick [0] (by kernel_rfl)⟩
  intro a w hh
  obtain ⟨hs, hw⟩ := (hJ12 _ _).1 hh
  refine c_ret ?_
  obtain rfl := someE hk
  refine hQ _ _ (f_ret1 hs rfl (v := .bool ((decide (x1 ≥ 1)) && (decide (x1 ≤ 20)))) (by kernel_rfl) ⟨rfl, hw.pick [0] (by kernel_rfl)⟩)
def letter_Node (x1 : Int) : Option Bool :=
  some ((decide (x1 ≥ 1)) && (decide (x1 ≤ 24)))
theorem letter_Node_s {x1 : Int} {r : Bool} (hk : letter_Node x1 = some r) {g w : World} {F : Ch} {ih : IH} (hw : St g w [F] ih) :
    CallsR Tryz.prog 34 #[vi64 x1] w fun v w' => v = .bool r ∧ St g w' [F] ih := by
  refine f_in (vs := [vi64 x1]) Tryz.func34 rfl 9 rfl (by kernel_rfl) [(0, vi64 x1)] (by kernel_rfl) fun a Qf hQ hQn hs => ?_
  refine c_seq ?_
  refine c_region ?_
  refine pures hs 1 [0] [(0, vi64 x1)] (by kernel_rfl) fun a hs => ?_
  refine s_end ?_
  refine c_seq ?_
  obtain ⟨J12, hJ12⟩ : ∃ J : Act → World → Prop, ∀ a w, J a w ↔ (Sees a 9 [(2, .bool ((decide (x1 ≥ 1)) && (decide (x1 ≤ 24))))] ∧ St g w [F] ih) := ⟨_, fun _ _ => Iff.rfl⟩
  refine c_regJ J12 ?_ ?_
  · refine pures hs 3 [0, 5] [(0, vi64 x1), (5, .bool (decide (x1 ≥ 1)))] (by kernel_rfl) fun a hs => ?_
    rcases boolE (decide (x1 ≥ 1)) with h13 | h13
    · replace hs := hs.altB 5 true (by kernel_rfl) h13
      refine pures hs 4 [2] [(2, .bool (decide (x1 ≤ 24)))] (by kernel_rfl) fun a hs => ?_
      refine s_end ?_
      exact (hJ12 _ _).2 ⟨(hs.altB (b := (decide (x1 ≤ 24))) 2 ((decide (x1 ≥ 1)) && (decide (x1 ≤ 24))) (by kernel_rfl) (by rw [h13] <;> rfl)).cast [2] (by kernel_rfl), hw.pick [0] (by kernel_rfl)⟩
    replace hs := hs.altB 5 false (by kernel_rfl) h13
    refine pures hs 4 [2] [(2, .bool false)] (by kernel_rfl) fun a hs => ?_
    refine s_end ?_
    exact (hJ12 _ _).2 ⟨(hs.altB (b := false) 2 ((decide (x1 ≥ 1)) && (decide (x1 ≤ 24))) (by kernel_rfl) (by rw [h13] <;> rfl)).cast [2] (by kernel_rfl), hw.pick [0] (by kernel_rfl)⟩
  intro a w hh
  obtain ⟨hs, hw⟩ := (hJ12 _ _).1 hh
  refine c_ret ?_
  obtain rfl := someE hk
  refine hQ _ _ (f_ret1 hs rfl (v := .bool ((decide (x1 ≥ 1)) && (decide (x1 ≤ 24)))) (by kernel_rfl) ⟨rfl, hw.pick [0] (by kernel_rfl)⟩)
def letter_Master (x1 : Int) : Option Bool :=
  some ((decide (x1 > 100)) && (decide (x1 ≤ 105)))
theorem letter_Master_s {x1 : Int} {r : Bool} (hk : letter_Master x1 = some r) {g w : World} {F : Ch} {ih : IH} (hw : St g w [F] ih) :
    CallsR Tryz.prog 88 #[vi64 x1] w fun v w' => v = .bool r ∧ St g w' [F] ih := by
  refine f_in (vs := [vi64 x1]) Tryz.func88 rfl 9 rfl (by kernel_rfl) [(0, vi64 x1)] (by kernel_rfl) fun a Qf hQ hQn hs => ?_
  refine c_seq ?_
  refine c_region ?_
  refine pures hs 1 [0] [(0, vi64 x1)] (by kernel_rfl) fun a hs => ?_
  refine s_end ?_
  refine c_seq ?_
  obtain ⟨J12, hJ12⟩ : ∃ J : Act → World → Prop, ∀ a w, J a w ↔ (Sees a 9 [(2, .bool ((decide (x1 > 100)) && (decide (x1 ≤ 105))))] ∧ St g w [F] ih) := ⟨_, fun _ _ => Iff.rfl⟩
  refine c_regJ J12 ?_ ?_
  · refine pures hs 3 [0, 5] [(0, vi64 x1), (5, .bool (decide (x1 > 100)))] (by kernel_rfl) fun a hs => ?_
    rcases boolE (decide (x1 > 100)) with h13 | h13
    · replace hs := hs.altB 5 true (by kernel_rfl) h13
      refine pures hs 4 [2] [(2, .bool (decide (x1 ≤ 105)))] (by kernel_rfl) fun a hs => ?_
      refine s_end ?_
      exact (hJ12 _ _).2 ⟨(hs.altB (b := (decide (x1 ≤ 105))) 2 ((decide (x1 > 100)) && (decide (x1 ≤ 105))) (by kernel_rfl) (by rw [h13] <;> rfl)).cast [2] (by kernel_rfl), hw.pick [0] (by kernel_rfl)⟩
    replace hs := hs.altB 5 false (by kernel_rfl) h13
    refine pures hs 4 [2] [(2, .bool false)] (by kernel_rfl) fun a hs => ?_
    refine s_end ?_
    exact (hJ12 _ _).2 ⟨(hs.altB (b := false) 2 ((decide (x1 > 100)) && (decide (x1 ≤ 105))) (by kernel_rfl) (by rw [h13] <;> rfl)).cast [2] (by kernel_rfl), hw.pick [0] (by kernel_rfl)⟩
  intro a w hh
  obtain ⟨hs, hw⟩ := (hJ12 _ _).1 hh
  refine c_ret ?_
  obtain rfl := someE hk
  refine hQ _ _ (f_ret1 hs rfl (v := .bool ((decide (x1 > 100)) && (decide (x1 ≤ 105)))) (by kernel_rfl) ⟨rfl, hw.pick [0] (by kernel_rfl)⟩)
def letter_Client (x1 : Int) : Option Bool :=
  some ((decide (x1 > 200)) && (decide (x1 ≤ 206)))
theorem letter_Client_s {x1 : Int} {r : Bool} (hk : letter_Client x1 = some r) {g w : World} {F : Ch} {ih : IH} (hw : St g w [F] ih) :
    CallsR Tryz.prog 89 #[vi64 x1] w fun v w' => v = .bool r ∧ St g w' [F] ih := by
  refine f_in (vs := [vi64 x1]) Tryz.func89 rfl 9 rfl (by kernel_rfl) [(0, vi64 x1)] (by kernel_rfl) fun a Qf hQ hQn hs => ?_
  refine c_seq ?_
  refine c_region ?_
  refine pures hs 1 [0] [(0, vi64 x1)] (by kernel_rfl) fun a hs => ?_
  refine s_end ?_
  refine c_seq ?_
  obtain ⟨J12, hJ12⟩ : ∃ J : Act → World → Prop, ∀ a w, J a w ↔ (Sees a 9 [(2, .bool ((decide (x1 > 200)) && (decide (x1 ≤ 206))))] ∧ St g w [F] ih) := ⟨_, fun _ _ => Iff.rfl⟩
  refine c_regJ J12 ?_ ?_
  · refine pures hs 3 [0, 5] [(0, vi64 x1), (5, .bool (decide (x1 > 200)))] (by kernel_rfl) fun a hs => ?_
    rcases boolE (decide (x1 > 200)) with h13 | h13
    · replace hs := hs.altB 5 true (by kernel_rfl) h13
      refine pures hs 4 [2] [(2, .bool (decide (x1 ≤ 206)))] (by kernel_rfl) fun a hs => ?_
      refine s_end ?_
      exact (hJ12 _ _).2 ⟨(hs.altB (b := (decide (x1 ≤ 206))) 2 ((decide (x1 > 200)) && (decide (x1 ≤ 206))) (by kernel_rfl) (by rw [h13] <;> rfl)).cast [2] (by kernel_rfl), hw.pick [0] (by kernel_rfl)⟩
    replace hs := hs.altB 5 false (by kernel_rfl) h13
    refine pures hs 4 [2] [(2, .bool false)] (by kernel_rfl) fun a hs => ?_
    refine s_end ?_
    exact (hJ12 _ _).2 ⟨(hs.altB (b := false) 2 ((decide (x1 > 200)) && (decide (x1 ≤ 206))) (by kernel_rfl) (by rw [h13] <;> rfl)).cast [2] (by kernel_rfl), hw.pick [0] (by kernel_rfl)⟩
  intro a w hh
  obtain ⟨hs, hw⟩ := (hJ12 _ _).1 hh
  refine c_ret ?_
  obtain rfl := someE hk
  refine hQ _ _ (f_ret1 hs rfl (v := .bool ((decide (x1 > 200)) && (decide (x1 ≤ 206)))) (by kernel_rfl) ⟨rfl, hw.pick [0] (by kernel_rfl)⟩)
def letter_Address_r2 (x49 : Bool) : Option Bool :=
  some x49
def letter_Address (x1 : Int) : Option Bool :=
  ((letter_Node x1).bind fun y53 =>
    if y53 = true then some true
    else (letter_Master x1).bind fun y56 =>
    if y56 = true then some true
    else (letter_Client x1).bind fun y59 =>
    some y59 : Option Bool).bind fun s61 => letter_Address_r2 s61
theorem letter_Address_s {x1 : Int} {r : Bool} (hk : letter_Address x1 = some r) {g w : World} {F : Ch} {ih : IH} (hw : St g w [F] ih) :
    CallsR Tryz.prog 58 #[vi64 x1] w fun v w' => v = .bool r ∧ St g w' [F] ih := by
  refine f_in (vs := [vi64 x1]) Tryz.func58 rfl 13 rfl (by kernel_rfl) [(0, vi64 x1)] (by kernel_rfl) fun a Qf hQ hQn hs => ?_
  refine c_seq ?_
  refine c_region ?_
  refine pures hs 1 [0] [(0, vi64 x1)] (by kernel_rfl) fun a hs => ?_
  refine s_end ?_
  refine c_seq ?_
  obtain ⟨y50, hx51, hk⟩ := bindE hk
  obtain ⟨J52, hJ52⟩ : ∃ J : Act → World → Prop, ∀ a w, J a w ↔ (∃ (x49 : Bool), letter_Address_r2 x49 = some r ∧ Sees a 13 [(2, .bool x49)] ∧ St g w [F] ih) := ⟨_, fun _ _ => Iff.rfl⟩
  refine c_regJ J52 ?_ ?_
  · refine pures hs 1 [0, 3] [(0, vi64 x1), (3, vi64 x1)] (by kernel_rfl) fun a hs => ?_
    obtain ⟨y53, h54, hx51⟩ := bindE hx51
    refine s_call hs (by kernel_rfl) (by kernel_rfl) (letter_Node_s h54 ((hw.pick [0] (by kernel_rfl)).pack 0)) fun a w v hv hs => ?_
    obtain ⟨rfl, hw⟩ := hv
    replace hw := hw.unpack 0 rfl
    refine pures hs 1 [0, 5] [(0, vi64 x1), (5, .bool y53)] (by kernel_rfl) fun a hs => ?_
    rcases ifbE hx51 with ⟨h55, hx51⟩ | ⟨h55, hx51⟩
    · replace hs := hs.altB 5 true (by kernel_rfl) h55
      refine pures hs 8 [2] [(2, .bool true)] (by kernel_rfl) fun a hs => ?_
      refine s_end ?_
      obtain rfl := someE hx51
      exact (hJ52 _ _).2 ⟨true, hk, hs.cast [2] (by kernel_rfl), hw.pick [0] (by kernel_rfl)⟩
    replace hs := hs.altB 5 false (by kernel_rfl) h55
    refine pures hs 1 [0, 5, 6] [(0, vi64 x1), (5, .bool false), (6, vi64 x1)] (by kernel_rfl) fun a hs => ?_
    obtain ⟨y56, h57, hx51⟩ := bindE hx51
    refine s_call hs (by kernel_rfl) (by kernel_rfl) (letter_Master_s h57 ((hw.pick [0] (by kernel_rfl)).pack 0)) fun a w v hv hs => ?_
    obtain ⟨rfl, hw⟩ := hv
    replace hw := hw.unpack 0 rfl
    refine pures hs 2 [0, 9] [(0, vi64 x1), (9, .bool y56)] (by kernel_rfl) fun a hs => ?_
    rcases ifbE hx51 with ⟨h58, hx51⟩ | ⟨h58, hx51⟩
    · replace hs := hs.altB 9 true (by kernel_rfl) h58
      refine pures hs 4 [2] [(2, .bool true)] (by kernel_rfl) fun a hs => ?_
      refine s_end ?_
      obtain rfl := someE hx51
      exact (hJ52 _ _).2 ⟨true, hk, hs.cast [2] (by kernel_rfl), hw.pick [0] (by kernel_rfl)⟩
    replace hs := hs.altB 9 false (by kernel_rfl) h58
    refine pures hs 1 [9, 10] [(9, .bool false), (10, vi64 x1)] (by kernel_rfl) fun a hs => ?_
    obtain ⟨y59, h60, hx51⟩ := bindE hx51
    refine s_call hs (by kernel_rfl) (by kernel_rfl) (letter_Client_s h60 ((hw.pick [0] (by kernel_rfl)).pack 0)) fun a w v hv hs => ?_
    obtain ⟨rfl, hw⟩ := hv
    replace hw := hw.unpack 0 rfl
    refine pures hs 2 [2] [(2, .bool y59)] (by kernel_rfl) fun a hs => ?_
    refine s_end ?_
    obtain rfl := someE hx51
    exact (hJ52 _ _).2 ⟨y59, hk, hs.cast [2] (by kernel_rfl), hw.pick [0] (by kernel_rfl)⟩
  intro a w hh
  obtain ⟨x49, hk, hs, hw⟩ := (hJ52 _ _).1 hh
  refine c_ret ?_
  obtain rfl := someE hk
  refine hQ _ _ (f_ret1 hs rfl (v := .bool x49) (by kernel_rfl) ⟨rfl, hw.pick [0] (by kernel_rfl)⟩)
def letter_bare_1 (x6 : Int) : Option Int :=
  some x6
theorem letter_bare_1_s {x3 : Int} {x4 : Int} {x5 : Int} {x6 : Int} {x7 : Int} {x8 : Int} {x9 : Int} {x10 : Int} {x11 : Int} {x12 : Int} {x13 : Int} {x14 : Int} {x15 : Int} {x16 : Int} {x17 : Int} {x18 : Int} {x19 : Int} {x20 : Int} {x21 : Int} {x22 : List Int} {x26 : Bool} {x27 : Int} {x28 : List M156} {x32 : List M96} {x36 : List Int} {x42 : Int} {x43 : Int} {x44 : Int} {x45 : Int} {x46 : Int} {x47 : Int} {x48 : Int} {x49 : Int} {x50 : Int} {x51 : Int} {x52 : Int} {x53 : Int} {x54 : Int} {x55 : Int} {x56 : Int} {x57 : Int} {x58 : Int} {x59 : Int} {x60 : Int} {x61 : List Int} {x65 : Bool} {x66 : Int} {x67 : List M156} {x71 : List M96} {x75 : List Int} {b2 : Nat} {p23 : Option Addr} {c24 : Nat} {p29 : Option Addr} {c30 : Nat} {p33 : Option Addr} {c34 : Nat} {p37 : Option Addr} {c38 : Nat} {b41 : Nat} {p62 : Option Addr} {c63 : Nat} {p68 : Option Addr} {c69 : Nat} {p72 : Option Addr} {c73 : Nat} {p76 : Option Addr} {c77 : Nat} {r : Int} (hk : letter_bare_1 x6 = some r) {g w : World} {F : Ch} {ih : IH} (h25 : RSl e3 ih [] p23 c24 x22) (h31 : RSl e156 ih [] p29 c30 x28) (h35 : RSl e96 ih [] p33 c34 x32) (h39 : RSl e5 ih [] p37 c38 x36) (h64 : RSl e3 ih [] p62 c63 x61) (h70 : RSl e156 ih [] p68 c69 x67) (h74 : RSl e96 ih [] p72 c73 x71) (h78 : RSl e5 ih [] p76 c77 x75) (hw : St g w [bx b2 [vi64 x3, vi64 x4, vi64 x5, vi64 x6, vu64 x7, vu64 x8, vu64 x9, vu64 x10, vu64 x11, vu64 x12, vi64 x13, vu32 x14, vi64 x15, vi64 x16, vi64 x17, vu64 x18, vi64 x19, vi64 x20, vu64 x21, .slice p23 x22.length c24, .bool x26, vi64 x27, .slice p29 x28.length c30, .slice p33 x32.length c34, .slice p37 x36.length c38] 48, bx b41 [vi64 x42, vi64 x43, vi64 x44, vi64 x45, vu64 x46, vu64 x47, vu64 x48, vu64 x49, vu64 x50, vu64 x51, vi64 x52, vu32 x53, vi64 x54, vi64 x55, vi64 x56, vu64 x57, vi64 x58, vi64 x59, vu64 x60, .slice p62 x61.length c63, .bool x65, vi64 x66, .slice p68 x67.length c69, .slice p72 x71.length c73, .slice p76 x75.length c77] 48, F] ih) :
    CallsR Tryz.prog 95 #[(pt b2 0), (pt b41 0)] w fun v w' => v = .tuple #[] ∧ St g w' [bx b2 [vi64 x3, vi64 x4, vi64 x5, vi64 x6, vu64 x7, vu64 x8, vu64 x9, vu64 x10, vu64 x11, vu64 x12, vi64 x13, vu32 x14, vi64 x15, vi64 x16, vi64 x17, vu64 x18, vi64 x19, vi64 x20, vu64 x21, .slice p23 x22.length c24, .bool x26, vi64 x27, .slice p29 x28.length c30, .slice p33 x32.length c34, .slice p37 x36.length c38] 48, bx b41 [vi64 x42, vi64 x43, vi64 x44, vi64 r, vu64 x46, vu64 x47, vu64 x48, vu64 x49, vu64 x50, vu64 x51, vi64 x52, vu32 x53, vi64 x54, vi64 x55, vi64 x56, vu64 x57, vi64 x58, vi64 x59, vu64 x60, .slice p62 x61.length c63, .bool x65, vi64 x66, .slice p68 x67.length c69, .slice p72 x71.length c73, .slice p76 x75.length c77] 48, F] ih := by
  refine f_in (vs := [(pt b2 0), (pt b41 0)]) Tryz.func95 rfl 5 rfl (by kernel_rfl) [(0, (pt b2 0)), (1, (pt b41 0))] (by kernel_rfl) fun a Qf hQ hQn hs => ?_
  refine c_region ?_
  refine pures hs 1 [1, 2] [(1, (pt b41 0)), (2, (pt b2 3))] (by kernel_rfl) fun a hs => ?_
  refine s_load hs (hw.at_ 0 rfl) 3 (by kernel_rfl) (by kernel_rfl) (v := vi64 x6) (by kernel_rfl) fun a hs => ?_
  refine pures hs 1 [3, 4] [(3, vi64 x6), (4, (pt b41 3))] (by kernel_rfl) fun a hs => ?_
  refine s_store hs hw 1 rfl 3 (by kernel_rfl) (by kernel_rfl) (v := vi64 x6) (by kernel_rfl) (by kernel_rfl) (by kernel_rfl) (by kernel_rfl) fun a w hs hw => ?_
  refine s_end ?_
  obtain rfl := someE hk
  refine hQn _ _ (f_retN hs [] rfl [] (by kernel_rfl) (by kernel_rfl) ⟨rfl, hw.pick [0, 1, 2] (by kernel_rfl)⟩)
def letter_bare_2 (x7 : Int) : Option Int :=
  some x7
theorem letter_bare_2_s {x3 : Int} {x4 : Int} {x5 : Int} {x6 : Int} {x7 : Int} {x8 : Int} {x9 : Int} {x10 : Int} {x11 : Int} {x12 : Int} {x13 : Int} {x14 : Int} {x15 : Int} {x16 : Int} {x17 : Int} {x18 : Int} {x19 : Int} {x20 : Int} {x21 : Int} {x22 : List Int} {x26 : Bool} {x27 : Int} {x28 : List M156} {x32 : List M96} {x36 : List Int} {x42 : Int} {x43 : Int} {x44 : Int} {x45 : Int} {x46 : Int} {x47 : Int} {x48 : Int} {x49 : Int} {x50 : Int} {x51 : Int} {x52 : Int} {x53 : Int} {x54 : Int} {x55 : Int} {x56 : Int} {x57 : Int} {x58 : Int} {x59 : Int} {x60 : Int} {x61 : List Int} {x65 : Bool} {x66 : Int} {x67 : List M156} {x71 : List M96} {x75 : List Int} {b2 : Nat} {p23 : Option Addr} {c24 : Nat} {p29 : Option Addr} {c30 : Nat} {p33 : Option Addr} {c34 : Nat} {p37 : Option Addr} {c38 : Nat} {b41 : Nat} {p62 : Option Addr} {c63 : Nat} {p68 : Option Addr} {c69 : Nat} {p72 : Option Addr} {c73 : Nat} {p76 : Option Addr} {c77 : Nat} {r : Int} (hk : letter_bare_2 x7 = some r) {g w : World} {F : Ch} {ih : IH} (h25 : RSl e3 ih [] p23 c24 x22) (h31 : RSl e156 ih [] p29 c30 x28) (h35 : RSl e96 ih [] p33 c34 x32) (h39 : RSl e5 ih [] p37 c38 x36) (h64 : RSl e3 ih [] p62 c63 x61) (h70 : RSl e156 ih [] p68 c69 x67) (h74 : RSl e96 ih [] p72 c73 x71) (h78 : RSl e5 ih [] p76 c77 x75) (hw : St g w [bx b2 [vi64 x3, vi64 x4, vi64 x5, vi64 x6, vu64 x7, vu64 x8, vu64 x9, vu64 x10, vu64 x11, vu64 x12, vi64 x13, vu32 x14, vi64 x15, vi64 x16, vi64 x17, vu64 x18, vi64 x19, vi64 x20, vu64 x21, .slice p23 x22.length c24, .bool x26, vi64 x27, .slice p29 x28.length c30, .slice p33 x32.length c34, .slice p37 x36.length c38] 48, bx b41 [vi64 x42, vi64 x43, vi64 x44, vi64 x45, vu64 x46, vu64 x47, vu64 x48, vu64 x49, vu64 x50, vu64 x51, vi64 x52, vu32 x53, vi64 x54, vi64 x55, vi64 x56, vu64 x57, vi64 x58, vi64 x59, vu64 x60, .slice p62 x61.length c63, .bool x65, vi64 x66, .slice p68 x67.length c69, .slice p72 x71.length c73, .slice p76 x75.length c77] 48, F] ih) :
    CallsR Tryz.prog 96 #[(pt b2 0), (pt b41 0)] w fun v w' => v = .tuple #[] ∧ St g w' [bx b2 [vi64 x3, vi64 x4, vi64 x5, vi64 x6, vu64 x7, vu64 x8, vu64 x9, vu64 x10, vu64 x11, vu64 x12, vi64 x13, vu32 x14, vi64 x15, vi64 x16, vi64 x17, vu64 x18, vi64 x19, vi64 x20, vu64 x21, .slice p23 x22.length c24, .bool x26, vi64 x27, .slice p29 x28.length c30, .slice p33 x32.length c34, .slice p37 x36.length c38] 48, bx b41 [vi64 x42, vi64 x43, vi64 x44, vi64 x45, vu64 r, vu64 x47, vu64 x48, vu64 x49, vu64 x50, vu64 x51, vi64 x52, vu32 x53, vi64 x54, vi64 x55, vi64 x56, vu64 x57, vi64 x58, vi64 x59, vu64 x60, .slice p62 x61.length c63, .bool x65, vi64 x66, .slice p68 x67.length c69, .slice p72 x71.length c73, .slice p76 x75.length c77] 48, F] ih := by
  refine f_in (vs := [(pt b2 0), (pt b41 0)]) Tryz.func96 rfl 5 rfl (by kernel_rfl) [(0, (pt b2 0)), (1, (pt b41 0))] (by kernel_rfl) fun a Qf hQ hQn hs => ?_
  refine c_region ?_
  refine pures hs 1 [1, 2] [(1, (pt b41 0)), (2, (pt b2 4))] (by kernel_rfl) fun a hs => ?_
  refine s_load hs (hw.at_ 0 rfl) 4 (by kernel_rfl) (by kernel_rfl) (v := vu64 x7) (by kernel_rfl) fun a hs => ?_
  refine pures hs 1 [3, 4] [(3, vu64 x7), (4, (pt b41 4))] (by kernel_rfl) fun a hs => ?_
  refine s_store hs hw 1 rfl 4 (by kernel_rfl) (by kernel_rfl) (v := vu64 x7) (by kernel_rfl) (by kernel_rfl) (by kernel_rfl) (by kernel_rfl) fun a w hs hw => ?_
  refine s_end ?_
  obtain rfl := someE hk
  refine hQn _ _ (f_retN hs [] rfl [] (by kernel_rfl) (by kernel_rfl) ⟨rfl, hw.pick [0, 1, 2] (by kernel_rfl)⟩)
def letter_bare_3 (x8 : Int) : Option Int :=
  some x8
theorem letter_bare_3_s {x3 : Int} {x4 : Int} {x5 : Int} {x6 : Int} {x7 : Int} {x8 : Int} {x9 : Int} {x10 : Int} {x11 : Int} {x12 : Int} {x13 : Int} {x14 : Int} {x15 : Int} {x16 : Int} {x17 : Int} {x18 : Int} {x19 : Int} {x20 : Int} {x21 : Int} {x22 : List Int} {x26 : Bool} {x27 : Int} {x28 : List M156} {x32 : List M96} {x36 : List Int} {x42 : Int} {x43 : Int} {x44 : Int} {x45 : Int} {x46 : Int} {x47 : Int} {x48 : Int} {x49 : Int} {x50 : Int} {x51 : Int} {x52 : Int} {x53 : Int} {x54 : Int} {x55 : Int} {x56 : Int} {x57 : Int} {x58 : Int} {x59 : Int} {x60 : Int} {x61 : List Int} {x65 : Bool} {x66 : Int} {x67 : List M156} {x71 : List M96} {x75 : List Int} {b2 : Nat} {p23 : Option Addr} {c24 : Nat} {p29 : Option Addr} {c30 : Nat} {p33 : Option Addr} {c34 : Nat} {p37 : Option Addr} {c38 : Nat} {b41 : Nat} {p62 : Option Addr} {c63 : Nat} {p68 : Option Addr} {c69 : Nat} {p72 : Option Addr} {c73 : Nat} {p76 : Option Addr} {c77 : Nat} {r : Int} (hk : letter_bare_3 x8 = some r) {g w : World} {F : Ch} {ih : IH} (h25 : RSl e3 ih [] p23 c24 x22) (h31 : RSl e156 ih [] p29 c30 x28) (h35 : RSl e96 ih [] p33 c34 x32) (h39 : RSl e5 ih [] p37 c38 x36) (h64 : RSl e3 ih [] p62 c63 x61) (h70 : RSl e156 ih [] p68 c69 x67) (h74 : RSl e96 ih [] p72 c73 x71) (h78 : RSl e5 ih [] p76 c77 x75) (hw : St g w [bx b2 [vi64 x3, vi64 x4, vi64 x5, vi64 x6, vu64 x7, vu64 x8, vu64 x9, vu64 x10, vu64 x11, vu64 x12, vi64 x13, vu32 x14, vi64 x15, vi64 x16, vi64 x17, vu64 x18, vi64 x19, vi64 x20, vu64 x21, .slice p23 x22.length c24, .bool x26, vi64 x27, .slice p29 x28.length c30, .slice p33 x32.length c34, .slice p37 x36.length c38] 48, bx b41 [vi64 x42, vi64 x43, vi64 x44, vi64 x45, vu64 x46, vu64 x47, vu64 x48, vu64 x49, vu64 x50, vu64 x51, vi64 x52, vu32 x53, vi64 x54, vi64 x55, vi64 x56, vu64 x57, vi64 x58, vi64 x59, vu64 x60, .slice p62 x61.length c63, .bool x65, vi64 x66, .slice p68 x67.length c69, .slice p72 x71.length c73, .slice p76 x75.length c77] 48, F] ih) :
    CallsR Tryz.prog 97 #[(pt b2 0), (pt b41 0)] w fun v w' => v = .tuple #[] ∧ St g w' [bx b2 [vi64 x3, vi64 x4, vi64 x5, vi64 x6, vu64 x7, vu64 x8, vu64 x9, vu64 x10, vu64 x11, vu64 x12, vi64 x13, vu32 x14, vi64 x15, vi64 x16, vi64 x17, vu64 x18, vi64 x19, vi64 x20, vu64 x21, .slice p23 x22.length c24, .bool x26, vi64 x27, .slice p29 x28.length c30, .slice p33 x32.length c34, .slice p37 x36.length c38] 48, bx b41 [vi64 x42, vi64 x43, vi64 x44, vi64 x45, vu64 x46, vu64 r, vu64 x48, vu64 x49, vu64 x50, vu64 x51, vi64 x52, vu32 x53, vi64 x54, vi64 x55, vi64 x56, vu64 x57, vi64 x58, vi64 x59, vu64 x60, .slice p62 x61.length c63, .bool x65, vi64 x66, .slice p68 x67.length c69, .slice p72 x71.length c73, .slice p76 x75.length c77] 48, F] ih := by
  refine f_in (vs := [(pt b2 0), (pt b41 0)]) Tryz.func97 rfl 5 rfl (by kernel_rfl) [(0, (pt b2 0)), (1, (pt b41 0))] (by kernel_rfl) fun a Qf hQ hQn hs => ?_
  refine c_region ?_
  refine pures hs 1 [1, 2] [(1, (pt b41 0)), (2, (pt b2 5))] (by kernel_rfl) fun a hs => ?_
  refine s_load hs (hw.at_ 0 rfl) 5 (by kernel_rfl) (by kernel_rfl) (v := vu64 x8) (by kernel_rfl) fun a hs => ?_
  refine pures hs 1 [3, 4] [(3, vu64 x8), (4, (pt b41 5))] (by kernel_rfl) fun a hs => ?_
  refine s_store hs hw 1 rfl 5 (by kernel_rfl) (by kernel_rfl) (v := vu64 x8) (by kernel_rfl) (by kernel_rfl) (by kernel_rfl) (by kernel_rfl) fun a w hs hw => ?_
  refine s_end ?_
  obtain rfl := someE hk
  refine hQn _ _ (f_retN hs [] rfl [] (by kernel_rfl) (by kernel_rfl) ⟨rfl, hw.pick [0, 1, 2] (by kernel_rfl)⟩)
def letter_bare_4 (x10 : Int) : Option Int :=
  some x10
theorem letter_bare_4_s {x3 : Int} {x4 : Int} {x5 : Int} {x6 : Int} {x7 : Int} {x8 : Int} {x9 : Int} {x10 : Int} {x11 : Int} {x12 : Int} {x13 : Int} {x14 : Int} {x15 : Int} {x16 : Int} {x17 : Int} {x18 : Int} {x19 : Int} {x20 : Int} {x21 : Int} {x22 : List Int} {x26 : Bool} {x27 : Int} {x28 : List M156} {x32 : List M96} {x36 : List Int} {x42 : Int} {x43 : Int} {x44 : Int} {x45 : Int} {x46 : Int} {x47 : Int} {x48 : Int} {x49 : Int} {x50 : Int} {x51 : Int} {x52 : Int} {x53 : Int} {x54 : Int} {x55 : Int} {x56 : Int} {x57 : Int} {x58 : Int} {x59 : Int} {x60 : Int} {x61 : List Int} {x65 : Bool} {x66 : Int} {x67 : List M156} {x71 : List M96} {x75 : List Int} {b2 : Nat} {p23 : Option Addr} {c24 : Nat} {p29 : Option Addr} {c30 : Nat} {p33 : Option Addr} {c34 : Nat} {p37 : Option Addr} {c38 : Nat} {b41 : Nat} {p62 : Option Addr} {c63 : Nat} {p68 : Option Addr} {c69 : Nat} {p72 : Option Addr} {c73 : Nat} {p76 : Option Addr} {c77 : Nat} {r : Int} (hk : letter_bare_4 x10 = some r) {g w : World} {F : Ch} {ih : IH} (h25 : RSl e3 ih [] p23 c24 x22) (h31 : RSl e156 ih [] p29 c30 x28) (h35 : RSl e96 ih [] p33 c34 x32) (h39 : RSl e5 ih [] p37 c38 x36) (h64 : RSl e3 ih [] p62 c63 x61) (h70 : RSl e156 ih [] p68 c69 x67) (h74 : RSl e96 ih [] p72 c73 x71) (h78 : RSl e5 ih [] p76 c77 x75) (hw : St g w [bx b2 [vi64 x3, vi64 x4, vi64 x5, vi64 x6, vu64 x7, vu64 x8, vu64 x9, vu64 x10, vu64 x11, vu64 x12, vi64 x13, vu32 x14, vi64 x15, vi64 x16, vi64 x17, vu64 x18, vi64 x19, vi64 x20, vu64 x21, .slice p23 x22.length c24, .bool x26, vi64 x27, .slice p29 x28.length c30, .slice p33 x32.length c34, .slice p37 x36.length c38] 48, bx b41 [vi64 x42, vi64 x43, vi64 x44, vi64 x45, vu64 x46, vu64 x47, vu64 x48, vu64 x49, vu64 x50, vu64 x51, vi64 x52, vu32 x53, vi64 x54, vi64 x55, vi64 x56, vu64 x57, vi64 x58, vi64 x59, vu64 x60, .slice p62 x61.length c63, .bool x65, vi64 x66, .slice p68 x67.length c69, .slice p72 x71.length c73, .slice p76 x75.length c77] 48, F] ih) :
    CallsR Tryz.prog 98 #[(pt b2 0), (pt b41 0)] w fun v w' => v = .tuple #[] ∧ St g w' [bx b2 [vi64 x3, vi64 x4, vi64 x5, vi64 x6, vu64 x7, vu64 x8, vu64 x9, vu64 x10, vu64 x11, vu64 x12, vi64 x13, vu32 x14, vi64 x15, vi64 x16, vi64 x17, vu64 x18, vi64 x19, vi64 x20, vu64 x21, .slice p23 x22.length c24, .bool x26, vi64 x27, .slice p29 x28.length c30, .slice p33 x32.length c34, .slice p37 x36.length c38] 48, bx b41 [vi64 x42, vi64 x43, vi64 x44, vi64 x45, vu64 x46, vu64 x47, vu64 x48, vu64 r, vu64 x50, vu64 x51, vi64 x52, vu32 x53, vi64 x54, vi64 x55, vi64 x56, vu64 x57, vi64 x58, vi64 x59, vu64 x60, .slice p62 x61.length c63, .bool x65, vi64 x66, .slice p68 x67.length c69, .slice p72 x71.length c73, .slice p76 x75.length c77] 48, F] ih := by
  refine f_in (vs := [(pt b2 0), (pt b41 0)]) Tryz.func98 rfl 5 rfl (by kernel_rfl) [(0, (pt b2 0)), (1, (pt b41 0))] (by kernel_rfl) fun a Qf hQ hQn hs => ?_
  refine c_region ?_
  refine pures hs 1 [1, 2] [(1, (pt b41 0)), (2, (pt b2 7))] (by kernel_rfl) fun a hs => ?_
  refine s_load hs (hw.at_ 0 rfl) 7 (by kernel_rfl) (by kernel_rfl) (v := vu64 x10) (by kernel_rfl) fun a hs => ?_
  refine pures hs 1 [3, 4] [(3, vu64 x10), (4, (pt b41 7))] (by kernel_rfl) fun a hs => ?_
  refine s_store hs hw 1 rfl 7 (by kernel_rfl) (by kernel_rfl) (v := vu64 x10) (by kernel_rfl) (by kernel_rfl) (by kernel_rfl) (by kernel_rfl) fun a w hs hw => ?_
  refine s_end ?_
  obtain rfl := someE hk
  refine hQn _ _ (f_retN hs [] rfl [] (by kernel_rfl) (by kernel_rfl) ⟨rfl, hw.pick [0, 1, 2] (by kernel_rfl)⟩)
def letter_bare_5 (x11 : Int) : Option Int :=
  some x11
theorem letter_bare_5_s {x3 : Int} {x4 : Int} {x5 : Int} {x6 : Int} {x7 : Int} {x8 : Int} {x9 : Int} {x10 : Int} {x11 : Int} {x12 : Int} {x13 : Int} {x14 : Int} {x15 : Int} {x16 : Int} {x17 : Int} {x18 : Int} {x19 : Int} {x20 : Int} {x21 : Int} {x22 : List Int} {x26 : Bool} {x27 : Int} {x28 : List M156} {x32 : List M96} {x36 : List Int} {x42 : Int} {x43 : Int} {x44 : Int} {x45 : Int} {x46 : Int} {x47 : Int} {x48 : Int} {x49 : Int} {x50 : Int} {x51 : Int} {x52 : Int} {x53 : Int} {x54 : Int} {x55 : Int} {x56 : Int} {x57 : Int} {x58 : Int} {x59 : Int} {x60 : Int} {x61 : List Int} {x65 : Bool} {x66 : Int} {x67 : List M156} {x71 : List M96} {x75 : List Int} {b2 : Nat} {p23 : Option Addr} {c24 : Nat} {p29 : Option Addr} {c30 : Nat} {p33 : Option Addr} {c34 : Nat} {p37 : Option Addr} {c38 : Nat} {b41 : Nat} {p62 : Option Addr} {c63 : Nat} {p68 : Option Addr} {c69 : Nat} {p72 : Option Addr} {c73 : Nat} {p76 : Option Addr} {c77 : Nat} {r : Int} (hk : letter_bare_5 x11 = some r) {g w : World} {F : Ch} {ih : IH} (h25 : RSl e3 ih [] p23 c24 x22) (h31 : RSl e156 ih [] p29 c30 x28) (h35 : RSl e96 ih [] p33 c34 x32) (h39 : RSl e5 ih [] p37 c38 x36) (h64 : RSl e3 ih [] p62 c63 x61) (h70 : RSl e156 ih [] p68 c69 x67) (h74 : RSl e96 ih [] p72 c73 x71) (h78 : RSl e5 ih [] p76 c77 x75) (hw : St g w [bx b2 [vi64 x3, vi64 x4, vi64 x5, vi64 x6, vu64 x7, vu64 x8, vu64 x9, vu64 x10, vu64 x11, vu64 x12, vi64 x13, vu32 x14, vi64 x15, vi64 x16, vi64 x17, vu64 x18, vi64 x19, vi64 x20, vu64 x21, .slice p23 x22.length c24, .bool x26, vi64 x27, .slice p29 x28.length c30, .slice p33 x32.length c34, .slice p37 x36.length c38] 48, bx b41 [vi64 x42, vi64 x43, vi64 x44, vi64 x45, vu64 x46, vu64 x47, vu64 x48, vu64 x49, vu64 x50, vu64 x51, vi64 x52, vu32 x53, vi64 x54, vi64 x55, vi64 x56, vu64 x57, vi64 x58, vi64 x59, vu64 x60, .slice p62 x61.length c63, .bool x65, vi64 x66, .slice p68 x67.length c69, .slice p72 x71.length c73, .slice p76 x75.length c77] 48, F] ih) :
    CallsR Tryz.prog 99 #[(pt b2 0), (pt b41 0)] w fun v w' => v = .tuple #[] ∧ St g w' [bx b2 [vi64 x3, vi64 x4, vi64 x5, vi64 x6, vu64 x7, vu64 x8, vu64 x9, vu64 x10, vu64 x11, vu64 x12, vi64 x13, vu32 x14, vi64 x15, vi64 x16, vi64 x17, vu64 x18, vi64 x19, vi64 x20, vu64 x21, .slice p23 x22.length c24, .bool x26, vi64 x27, .slice p29 x28.length c30, .slice p33 x32.length c34, .slice p37 x36.length c38] 48, bx b41 [vi64 x42, vi64 x43, vi64 x44, vi64 x45, vu64 x46, vu64 x47, vu64 x48, vu64 x49, vu64 r, vu64 x51, vi64 x52, vu32 x53, vi64 x54, vi64 x55, vi64 x56, vu64 x57, vi64 x58, vi64 x59, vu64 x60, .slice p62 x61.length c63, .bool x65, vi64 x66, .slice p68 x67.length c69, .slice p72 x71.length c73, .slice p76 x75.length c77] 48, F] ih := by
  refine f_in (vs := [(pt b2 0), (pt b41 0)]) Tryz.func99 rfl 5 rfl (by kernel_rfl) [(0, (pt b2 0)), (1, (pt b41 0))] (by kernel_rfl) fun a Qf hQ hQn hs => ?_
  refine c_region ?_
  refine pures hs 1 [1, 2] [(1, (pt b41 0)), (2, (pt b2 8))] (by kernel_rfl) fun a hs => ?_
  refine s_load hs (hw.at_ 0 rfl) 8 (by kernel_rfl) (by kernel_rfl) (v := vu64 x11) (by kernel_rfl) fun a hs => ?_
  refine pures hs 1 [3, 4] [(3, vu64 x11), (4, (pt b41 8))] (by kernel_rfl) fun a hs => ?_
  refine s_store hs hw 1 rfl 8 (by kernel_rfl) (by kernel_rfl) (v := vu64 x11) (by kernel_rfl) (by kernel_rfl) (by kernel_rfl) (by kernel_rfl) fun a w hs hw => ?_
  refine s_end ?_
  obtain rfl := someE hk
  refine hQn _ _ (f_retN hs [] rfl [] (by kernel_rfl) (by kernel_rfl) ⟨rfl, hw.pick [0, 1, 2] (by kernel_rfl)⟩)
def letter_bare_6 (x13 : Int) : Option Int :=
  some x13
theorem letter_bare_6_s {x3 : Int} {x4 : Int} {x5 : Int} {x6 : Int} {x7 : Int} {x8 : Int} {x9 : Int} {x10 : Int} {x11 : Int} {x12 : Int} {x13 : Int} {x14 : Int} {x15 : Int} {x16 : Int} {x17 : Int} {x18 : Int} {x19 : Int} {x20 : Int} {x21 : Int} {x22 : List Int} {x26 : Bool} {x27 : Int} {x28 : List M156} {x32 : List M96} {x36 : List Int} {x42 : Int} {x43 : Int} {x44 : Int} {x45 : Int} {x46 : Int} {x47 : Int} {x48 : Int} {x49 : Int} {x50 : Int} {x51 : Int} {x52 : Int} {x53 : Int} {x54 : Int} {x55 : Int} {x56 : Int} {x57 : Int} {x58 : Int} {x59 : Int} {x60 : Int} {x61 : List Int} {x65 : Bool} {x66 : Int} {x67 : List M156} {x71 : List M96} {x75 : List Int} {b2 : Nat} {p23 : Option Addr} {c24 : Nat} {p29 : Option Addr} {c30 : Nat} {p33 : Option Addr} {c34 : Nat} {p37 : Option Addr} {c38 : Nat} {b41 : Nat} {p62 : Option Addr} {c63 : Nat} {p68 : Option Addr} {c69 : Nat} {p72 : Option Addr} {c73 : Nat} {p76 : Option Addr} {c77 : Nat} {r : Int} (hk : letter_bare_6 x13 = some r) {g w : World} {F : Ch} {ih : IH} (h25 : RSl e3 ih [] p23 c24 x22) (h31 : RSl e156 ih [] p29 c30 x28) (h35 : RSl e96 ih [] p33 c34 x32) (h39 : RSl e5 ih [] p37 c38 x36) (h64 : RSl e3 ih [] p62 c63 x61) (h70 : RSl e156 ih [] p68 c69 x67) (h74 : RSl e96 ih [] p72 c73 x71) (h78 : RSl e5 ih [] p76 c77 x75) (hw : St g w [bx b2 [vi64 x3, vi64 x4, vi64 x5, vi64 x6, vu64 x7, vu64 x8, vu64 x9, vu64 x10, vu64 x11, vu64 x12, vi64 x13, vu32 x14, vi64 x15, vi64 x16, vi64 x17, vu64 x18, vi64 x19, vi64 x20, vu64 x21, .slice p23 x22.length c24, .bool x26, vi64 x27, .slice p29 x28.length c30, .slice p33 x32.length c34, .slice p37 x36.length c38] 48, bx b41 [vi64 x42, vi64 x43, vi64 x44, vi64 x45, vu64 x46, vu64 x47, vu64 x48, vu64 x49, vu64 x50, vu64 x51, vi64 x52, vu32 x53, vi64 x54, vi64 x55, vi64 x56, vu64 x57, vi64 x58, vi64 x59, vu64 x60, .slice p62 x61.length c63, .bool x65, vi64 x66, .slice p68 x67.length c69, .slice p72 x71.length c73, .slice p76 x75.length c77] 48, F] ih) :
    CallsR Tryz.prog 100 #[(pt b2 0), (pt b41 0)] w fun v w' => v = .tuple #[] ∧ St g w' [bx b2 [vi64 x3, vi64 x4, vi64 x5, vi64 x6, vu64 x7, vu64 x8, vu64 x9, vu64 x10, vu64 x11, vu64 x12, vi64 x13, vu32 x14, vi64 x15, vi64 x16, vi64 x17, vu64 x18, vi64 x19, vi64 x20, vu64 x21, .slice p23 x22.length c24, .bool x26, vi64 x27, .slice p29 x28.length c30, .slice p33 x32.length c34, .slice p37 x36.length c38] 48, bx b41 [vi64 x42, vi64 x43, vi64 x44, vi64 x45, vu64 x46, vu64 x47, vu64 x48, vu64 x49, vu64 x50, vu64 x51, vi64 r, vu32 x53, vi64 x54, vi64 x55, vi64 x56, vu64 x57, vi64 x58, vi64 x59, vu64 x60, .slice p62 x61.length c63, .bool x65, vi64 x66, .slice p68 x67.length c69, .slice p72 x71.length c73, .slice p76 x75.length c77] 48, F] ih := by
  refine f_in (vs := [(pt b2 0), (pt b41 0)]) Tryz.func100 rfl 5 rfl (by kernel_rfl) [(0, (pt b2 0)), (1, (pt b41 0))] (by kernel_rfl) fun a Qf hQ hQn hs => ?_
  refine c_region ?_
  refine pures hs 1 [1, 2] [(1, (pt b41 0)), (2, (pt b2 10))] (by kernel_rfl) fun a hs => ?_
  refine s_load hs (hw.at_ 0 rfl) 10 (by kernel_rfl) (by kernel_rfl) (v := vi64 x13) (by kernel_rfl) fun a hs => ?_
  refine pures hs 1 [3, 4] [(3, vi64 x13), (4, (pt b41 10))] (by kernel_rfl) fun a hs => ?_
  refine s_store hs hw 1 rfl 10 (by kernel_rfl) (by kernel_rfl) (v := vi64 x13) (by kernel_rfl) (by kernel_rfl) (by kernel_rfl) (by kernel_rfl) fun a w hs hw => ?_
  refine s_end ?_
  obtain rfl := someE hk
  refine hQn _ _ (f_retN hs [] rfl [] (by kernel_rfl) (by kernel_rfl) ⟨rfl, hw.pick [0, 1, 2] (by kernel_rfl)⟩)
def letter_bare_7 (x9 : Int) : Option Int :=
  some x9
theorem letter_bare_7_s {x3 : Int} {x4 : Int} {x5 : Int} {x6 : Int} {x7 : Int} {x8 : Int} {x9 : Int} {x10 : Int} {x11 : Int} {x12 : Int} {x13 : Int} {x14 : Int} {x15 : Int} {x16 : Int} {x17 : Int} {x18 : Int} {x19 : Int} {x20 : Int} {x21 : Int} {x22 : List Int} {x26 : Bool} {x27 : Int} {x28 : List M156} {x32 : List M96} {x36 : List Int} {x42 : Int} {x43 : Int} {x44 : Int} {x45 : Int} {x46 : Int} {x47 : Int} {x48 : Int} {x49 : Int} {x50 : Int} {x51 : Int} {x52 : Int} {x53 : Int} {x54 : Int} {x55 : Int} {x56 : Int} {x57 : Int} {x58 : Int} {x59 : Int} {x60 : Int} {x61 : List Int} {x65 : Bool} {x66 : Int} {x67 : List M156} {x71 : List M96} {x75 : List Int} {b2 : Nat} {p23 : Option Addr} {c24 : Nat} {p29 : Option Addr} {c30 : Nat} {p33 : Option Addr} {c34 : Nat} {p37 : Option Addr} {c38 : Nat} {b41 : Nat} {p62 : Option Addr} {c63 : Nat} {p68 : Option Addr} {c69 : Nat} {p72 : Option Addr} {c73 : Nat} {p76 : Option Addr} {c77 : Nat} {r : Int} (hk : letter_bare_7 x9 = some r) {g w : World} {F : Ch} {ih : IH} (h25 : RSl e3 ih [] p23 c24 x22) (h31 : RSl e156 ih [] p29 c30 x28) (h35 : RSl e96 ih [] p33 c34 x32) (h39 : RSl e5 ih [] p37 c38 x36) (h64 : RSl e3 ih [] p62 c63 x61) (h70 : RSl e156 ih [] p68 c69 x67) (h74 : RSl e96 ih [] p72 c73 x71) (h78 : RSl e5 ih [] p76 c77 x75) (hw : St g w [bx b2 [vi64 x3, vi64 x4, vi64 x5, vi64 x6, vu64 x7, vu64 x8, vu64 x9, vu64 x10, vu64 x11, vu64 x12, vi64 x13, vu32 x14, vi64 x15, vi64 x16, vi64 x17, vu64 x18, vi64 x19, vi64 x20, vu64 x21, .slice p23 x22.length c24, .bool x26, vi64 x27, .slice p29 x28.length c30, .slice p33 x32.length c34, .slice p37 x36.length c38] 48, bx b41 [vi64 x42, vi64 x43, vi64 x44, vi64 x45, vu64 x46, vu64 x47, vu64 x48, vu64 x49, vu64 x50, vu64 x51, vi64 x52, vu32 x53, vi64 x54, vi64 x55, vi64 x56, vu64 x57, vi64 x58, vi64 x59, vu64 x60, .slice p62 x61.length c63, .bool x65, vi64 x66, .slice p68 x67.length c69, .slice p72 x71.length c73, .slice p76 x75.length c77] 48, F] ih) :
    CallsR Tryz.prog 101 #[(pt b2 0), (pt b41 0)] w fun v w' => v = .tuple #[] ∧ St g w' [bx b2 [vi64 x3, vi64 x4, vi64 x5, vi64 x6, vu64 x7, vu64 x8, vu64 x9, vu64 x10, vu64 x11, vu64 x12, vi64 x13, vu32 x14, vi64 x15, vi64 x16, vi64 x17, vu64 x18, vi64 x19, vi64 x20, vu64 x21, .slice p23 x22.length c24, .bool x26, vi64 x27, .slice p29 x28.length c30, .slice p33 x32.length c34, .slice p37 x36.length c38] 48, bx b41 [vi64 x42, vi64 x43, vi64 x44, vi64 x45, vu64 x46, vu64 x47, vu64 r, vu64 x49, vu64 x50, vu64 x51, vi64 x52, vu32 x53, vi64 x54, vi64 x55, vi64 x56, vu64 x57, vi64 x58, vi64 x59, vu64 x60, .slice p62 x61.length c63, .bool x65, vi64 x66, .slice p68 x67.length c69, .slice p72 x71.length c73, .slice p76 x75.length c77] 48, F] ih := by
  refine f_in (vs := [(pt b2 0), (pt b41 0)]) Tryz.func101 rfl 5 rfl (by kernel_rfl) [(0, (pt b2 0)), (1, (pt b41 0))] (by kernel_rfl) fun a Qf hQ hQn hs => ?_
  refine c_region ?_
  refine pures hs 1 [1, 2] [(1, (pt b41 0)), (2, (pt b2 6))] (by kernel_rfl) fun a hs => ?_
  refine s_load hs (hw.at_ 0 rfl) 6 (by kernel_rfl) (by kernel_rfl) (v := vu64 x9) (by kernel_rfl) fun a hs => ?_
  refine pures hs 1 [3, 4] [(3, vu64 x9), (4, (pt b41 6))] (by kernel_rfl) fun a hs => ?_
  refine s_store hs hw 1 rfl 6 (by kernel_rfl) (by kernel_rfl) (v := vu64 x9) (by kernel_rfl) (by kernel_rfl) (by kernel_rfl) (by kernel_rfl) fun a w hs hw => ?_
  refine s_end ?_
  obtain rfl := someE hk
  refine hQn _ _ (f_retN hs [] rfl [] (by kernel_rfl) (by kernel_rfl) ⟨rfl, hw.pick [0, 1, 2] (by kernel_rfl)⟩)
def letter_bare_8 (x15 : Int) : Option Int :=
  some x15
theorem letter_bare_8_s {x3 : Int} {x4 : Int} {x5 : Int} {x6 : Int} {x7 : Int} {x8 : Int} {x9 : Int} {x10 : Int} {x11 : Int} {x12 : Int} {x13 : Int} {x14 : Int} {x15 : Int} {x16 : Int} {x17 : Int} {x18 : Int} {x19 : Int} {x20 : Int} {x21 : Int} {x22 : List Int} {x26 : Bool} {x27 : Int} {x28 : List M156} {x32 : List M96} {x36 : List Int} {x42 : Int} {x43 : Int} {x44 : Int} {x45 : Int} {x46 : Int} {x47 : Int} {x48 : Int} {x49 : Int} {x50 : Int} {x51 : Int} {x52 : Int} {x53 : Int} {x54 : Int} {x55 : Int} {x56 : Int} {x57 : Int} {x58 : Int} {x59 : Int} {x60 : Int} {x61 : List Int} {x65 : Bool} {x66 : Int} {x67 : List M156} {x71 : List M96} {x75 : List Int} {b2 : Nat} {p23 : Option Addr} {c24 : Nat} {p29 : Option Addr} {c30 : Nat} {p33 : Option Addr} {c34 : Nat} {p37 : Option Addr} {c38 : Nat} {b41 : Nat} {p62 : Option Addr} {c63 : Nat} {p68 : Option Addr} {c69 : Nat} {p72 : Option Addr} {c73 : Nat} {p76 : Option Addr} {c77 : Nat} {r : Int} (hk : letter_bare_8 x15 = some r) {g w : World} {F : Ch} {ih : IH} (h25 : RSl e3 ih [] p23 c24 x22) (h31 : RSl e156 ih [] p29 c30 x28) (h35 : RSl e96 ih [] p33 c34 x32) (h39 : RSl e5 ih [] p37 c38 x36) (h64 : RSl e3 ih [] p62 c63 x61) (h70 : RSl e156 ih [] p68 c69 x67) (h74 : RSl e96 ih [] p72 c73 x71) (h78 : RSl e5 ih [] p76 c77 x75) (hw : St g w [bx b2 [vi64 x3, vi64 x4, vi64 x5, vi64 x6, vu64 x7, vu64 x8, vu64 x9, vu64 x10, vu64 x11, vu64 x12, vi64 x13, vu32 x14, vi64 x15, vi64 x16, vi64 x17, vu64 x18, vi64 x19, vi64 x20, vu64 x21, .slice p23 x22.length c24, .bool x26, vi64 x27, .slice p29 x28.length c30, .slice p33 x32.length c34, .slice p37 x36.length c38] 48, bx b41 [vi64 x42, vi64 x43, vi64 x44, vi64 x45, vu64 x46, vu64 x47, vu64 x48, vu64 x49, vu64 x50, vu64 x51, vi64 x52, vu32 x53, vi64 x54, vi64 x55, vi64 x56, vu64 x57, vi64 x58, vi64 x59, vu64 x60, .slice p62 x61.length c63, .bool x65, vi64 x66, .slice p68 x67.length c69, .slice p72 x71.length c73, .slice p76 x75.length c77] 48, F] ih) :
    CallsR Tryz.prog 102 #[(pt b2 0), (pt b41 0)] w fun v w' => v = .tuple #[] ∧ St g w' [bx b2 [vi64 x3, vi64 x4, vi64 x5, vi64 x6, vu64 x7, vu64 x8, vu64 x9, vu64 x10, vu64 x11, vu64 x12, vi64 x13, vu32 x14, vi64 x15, vi64 x16, vi64 x17, vu64 x18, vi64 x19, vi64 x20, vu64 x21, .slice p23 x22.length c24, .bool x26, vi64 x27, .slice p29 x28.length c30, .slice p33 x32.length c34, .slice p37 x36.length c38] 48, bx b41 [vi64 x42, vi64 x43, vi64 x44, vi64 x45, vu64 x46, vu64 x47, vu64 x48, vu64 x49, vu64 x50, vu64 x51, vi64 x52, vu32 x53, vi64 r, vi64 x55, vi64 x56, vu64 x57, vi64 x58, vi64 x59, vu64 x60, .slice p62 x61.length c63, .bool x65, vi64 x66, .slice p68 x67.length c69, .slice p72 x71.length c73, .slice p76 x75.length c77] 48, F] ih := by
  refine f_in (vs := [(pt b2 0), (pt b41 0)]) Tryz.func102 rfl 5 rfl (by kernel_rfl) [(0, (pt b2 0)), (1, (pt b41 0))] (by kernel_rfl) fun a Qf hQ hQn hs => ?_
  refine c_region ?_
  refine pures hs 1 [1, 2] [(1, (pt b41 0)), (2, (pt b2 12))] (by kernel_rfl) fun a hs => ?_
  refine s_load hs (hw.at_ 0 rfl) 12 (by kernel_rfl) (by kernel_rfl) (v := vi64 x15) (by kernel_rfl) fun a hs => ?_
  refine pures hs 1 [3, 4] [(3, vi64 x15), (4, (pt b41 12))] (by kernel_rfl) fun a hs => ?_
  refine s_store hs hw 1 rfl 12 (by kernel_rfl) (by kernel_rfl) (v := vi64 x15) (by kernel_rfl) (by kernel_rfl) (by kernel_rfl) (by kernel_rfl) fun a w hs hw => ?_
  refine s_end ?_
  obtain rfl := someE hk
  refine hQn _ _ (f_retN hs [] rfl [] (by kernel_rfl) (by kernel_rfl) ⟨rfl, hw.pick [0, 1, 2] (by kernel_rfl)⟩)
def letter_bare_9 (x14 : Int) : Option Int :=
  some x14
theorem letter_bare_9_s {x3 : Int} {x4 : Int} {x5 : Int} {x6 : Int} {x7 : Int} {x8 : Int} {x9 : Int} {x10 : Int} {x11 : Int} {x12 : Int} {x13 : Int} {x14 : Int} {x15 : Int} {x16 : Int} {x17 : Int} {x18 : Int} {x19 : Int} {x20 : Int} {x21 : Int} {x22 : List Int} {x26 : Bool} {x27 : Int} {x28 : List M156} {x32 : List M96} {x36 : List Int} {x42 : Int} {x43 : Int} {x44 : Int} {x45 : Int} {x46 : Int} {x47 : Int} {x48 : Int} {x49 : Int} {x50 : Int} {x51 : Int} {x52 : Int} {x53 : Int} {x54 : Int} {x55 : Int} {x56 : Int} {x57 : Int} {x58 : Int} {x59 : Int} {x60 : Int} {x61 : List Int} {x65 : Bool} {x66 : Int} {x67 : List M156} {x71 : List M96} {x75 : List Int} {b2 : Nat} {p23 : Option Addr} {c24 : Nat} {p29 : Option Addr} {c30 : Nat} {p33 : Option Addr} {c34 : Nat} {p37 : Option Addr} {c38 : Nat} {b41 : Nat} {p62 : Option Addr} {c63 : Nat} {p68 : Option Addr} {c69 : Nat} {p72 : Option Addr} {c73 : Nat} {p76 : Option Addr} {c77 : Nat} {r : Int} (hk : letter_bare_9 x14 = some r) {g w : World} {F : Ch} {ih : IH} (h25 : RSl e3 ih [] p23 c24 x22) (h31 : RSl e156 ih [] p29 c30 x28) (h35 : RSl e96 ih [] p33 c34 x32) (h39 : RSl e5 ih [] p37 c38 x36) (h64 : RSl e3 ih [] p62 c63 x61) (h70 : RSl e156 ih [] p68 c69 x67) (h74 : RSl e96 ih [] p72 c73 x71) (h78 : RSl e5 ih [] p76 c77 x75) (hw : St g w [bx b2 [vi64 x3, vi64 x4, vi64 x5, vi64 x6, vu64 x7, vu64 x8, vu64 x9, vu64 x10, vu64 x11, vu64 x12, vi64 x13, vu32 x14, vi64 x15, vi64 x16, vi64 x17, vu64 x18, vi64 x19, vi64 x20, vu64 x21, .slice p23 x22.length c24, .bool x26, vi64 x27, .slice p29 x28.length c30, .slice p33 x32.length c34, .slice p37 x36.length c38] 48, bx b41 [vi64 x42, vi64 x43, vi64 x44, vi64 x45, vu64 x46, vu64 x47, vu64 x48, vu64 x49, vu64 x50, vu64 x51, vi64 x52, vu32 x53, vi64 x54, vi64 x55, vi64 x56, vu64 x57, vi64 x58, vi64 x59, vu64 x60, .slice p62 x61.length c63, .bool x65, vi64 x66, .slice p68 x67.length c69, .slice p72 x71.length c73, .slice p76 x75.length c77] 48, F] ih) :
    CallsR Tryz.prog 103 #[(pt b2 0), (pt b41 0)] w fun v w' => v = .tuple #[] ∧ St g w' [bx b2 [vi64 x3, vi64 x4, vi64 x5, vi64 x6, vu64 x7, vu64 x8, vu64 x9, vu64 x10, vu64 x11, vu64 x12, vi64 x13, vu32 x14, vi64 x15, vi64 x16, vi64 x17, vu64 x18, vi64 x19, vi64 x20, vu64 x21, .slice p23 x22.length c24, .bool x26, vi64 x27, .slice p29 x28.length c30, .slice p33 x32.length c34, .slice p37 x36.length c38] 48, bx b41 [vi64 x42, vi64 x43, vi64 x44, vi64 x45, vu64 x46, vu64 x47, vu64 x48, vu64 x49, vu64 x50, vu64 x51, vi64 x52, vu32 r, vi64 x54, vi64 x55, vi64 x56, vu64 x57, vi64 x58, vi64 x59, vu64 x60, .slice p62 x61.length c63, .bool x65, vi64 x66, .slice p68 x67.length c69, .slice p72 x71.length c73, .slice p76 x75.length c77] 48, F] ih := by
  refine f_in (vs := [(pt b2 0), (pt b41 0)]) Tryz.func103 rfl 5 rfl (by kernel_rfl) [(0, (pt b2 0)), (1, (pt b41 0))] (by kernel_rfl) fun a Qf hQ hQn hs => ?_
  refine c_region ?_
  refine pures hs 1 [1, 2] [(1, (pt b41 0)), (2, (pt b2 11))] (by kernel_rfl) fun a hs => ?_
  refine s_load hs (hw.at_ 0 rfl) 11 (by kernel_rfl) (by kernel_rfl) (v := vu32 x14) (by kernel_rfl) fun a hs => ?_
  refine pures hs 1 [3, 4] [(3, vu32 x14), (4, (pt b41 11))] (by kernel_rfl) fun a hs => ?_
  refine s_store hs hw 1 rfl 11 (by kernel_rfl) (by kernel_rfl) (v := vu32 x14) (by kernel_rfl) (by kernel_rfl) (by kernel_rfl) (by kernel_rfl) fun a w hs hw => ?_
  refine s_end ?_
  obtain rfl := someE hk
  refine hQn _ _ (f_retN hs [] rfl [] (by kernel_rfl) (by kernel_rfl) ⟨rfl, hw.pick [0, 1, 2] (by kernel_rfl)⟩)
def letter_bare_10 (x12 : Int) : Option Int :=
  some x12
theorem letter_bare_10_s {x3 : Int} {x4 : Int} {x5 : Int} {x6 : Int} {x7 : Int} {x8 : Int} {x9 : Int} {x10 : Int} {x11 : Int} {x12 : Int} {x13 : Int} {x14 : Int} {x15 : Int} {x16 : Int} {x17 : Int} {x18 : Int} {x19 : Int} {x20 : Int} {x21 : Int} {x22 : List Int} {x26 : Bool} {x27 : Int} {x28 : List M156} {x32 : List M96} {x36 : List Int} {x42 : Int} {x43 : Int} {x44 : Int} {x45 : Int} {x46 : Int} {x47 : Int} {x48 : Int} {x49 : Int} {x50 : Int} {x51 : Int} {x52 : Int} {x53 : Int} {x54 : Int} {x55 : Int} {x56 : Int} {x57 : Int} {x58 : Int} {x59 : Int} {x60 : Int} {x61 : List Int} {x65 : Bool} {x66 : Int} {x67 : List M156} {x71 : List M96} {x75 : List Int} {b2 : Nat} {p23 : Option Addr} {c24 : Nat} {p29 : Option Addr} {c30 : Nat} {p33 : Option Addr} {c34 : Nat} {p37 : Option Addr} {c38 : Nat} {b41 : Nat} {p62 : Option Addr} {c63 : Nat} {p68 : Option Addr} {c69 : Nat} {p72 : Option Addr} {c73 : Nat} {p76 : Option Addr} {c77 : Nat} {r : Int} (hk : letter_bare_10 x12 = some r) {g w : World} {F : Ch} {ih : IH} (h25 : RSl e3 ih [] p23 c24 x22) (h31 : RSl e156 ih [] p29 c30 x28) (h35 : RSl e96 ih [] p33 c34 x32) (h39 : RSl e5 ih [] p37 c38 x36) (h64 : RSl e3 ih [] p62 c63 x61) (h70 : RSl e156 ih [] p68 c69 x67) (h74 : RSl e96 ih [] p72 c73 x71) (h78 : RSl e5 ih [] p76 c77 x75) (hw : St g w [bx b2 [vi64 x3, vi64 x4, vi64 x5, vi64 x6, vu64 x7, vu64 x8, vu64 x9, vu64 x10, vu64 x11, vu64 x12, vi64 x13, vu32 x14, vi64 x15, vi64 x16, vi64 x17, vu64 x18, vi64 x19, vi64 x20, vu64 x21, .slice p23 x22.length c24, .bool x26, vi64 x27, .slice p29 x28.length c30, .slice p33 x32.length c34, .slice p37 x36.length c38] 48, bx b41 [vi64 x42, vi64 x43, vi64 x44, vi64 x45, vu64 x46, vu64 x47, vu64 x48, vu64 x49, vu64 x50, vu64 x51, vi64 x52, vu32 x53, vi64 x54, vi64 x55, vi64 x56, vu64 x57, vi64 x58, vi64 x59, vu64 x60, .slice p62 x61.length c63, .bool x65, vi64 x66, .slice p68 x67.length c69, .slice p72 x71.length c73, .slice p76 x75.length c77] 48, F] ih) :
    CallsR Tryz.prog 104 #[(pt b2 0), (pt b41 0)] w fun v w' => v = .tuple #[] ∧ St g w' [bx b2 [vi64 x3, vi64 x4, vi64 x5, vi64 x6, vu64 x7, vu64 x8, vu64 x9, vu64 x10, vu64 x11, vu64 x12, vi64 x13, vu32 x14, vi64 x15, vi64 x16, vi64 x17, vu64 x18, vi64 x19, vi64 x20, vu64 x21, .slice p23 x22.length c24, .bool x26, vi64 x27, .slice p29 x28.length c30, .slice p33 x32.length c34, .slice p37 x36.length c38] 48, bx b41 [vi64 x42, vi64 x43, vi64 x44, vi64 x45, vu64 x46, vu64 x47, vu64 x48, vu64 x49, vu64 x50, vu64 r, vi64 x52, vu32 x53, vi64 x54, vi64 x55, vi64 x56, vu64 x57, vi64 x58, vi64 x59, vu64 x60, .slice p62 x61.length c63, .bool x65, vi64 x66, .slice p68 x67.length c69, .slice p72 x71.length c73, .slice p76 x75.length c77] 48, F] ih := by
  refine f_in (vs := [(pt b2 0), (pt b41 0)]) Tryz.func104 rfl 5 rfl (by kernel_rfl) [(0, (pt b2 0)), (1, (pt b41 0))] (by kernel_rfl) fun a Qf hQ hQn hs => ?_
  refine c_region ?_
  refine pures hs 1 [1, 2] [(1, (pt b41 0)), (2, (pt b2 9))] (by kernel_rfl) fun a hs => ?_
  refine s_load hs (hw.at_ 0 rfl) 9 (by kernel_rfl) (by kernel_rfl) (v := vu64 x12) (by kernel_rfl) fun a hs => ?_
  refine pures hs 1 [3, 4] [(3, vu64 x12), (4, (pt b41 9))] (by kernel_rfl) fun a hs => ?_
  refine s_store hs hw 1 rfl 9 (by kernel_rfl) (by kernel_rfl) (v := vu64 x12) (by kernel_rfl) (by kernel_rfl) (by kernel_rfl) (by kernel_rfl) fun a w hs hw => ?_
  refine s_end ?_
  obtain rfl := someE hk
  refine hQn _ _ (f_retN hs [] rfl [] (by kernel_rfl) (by kernel_rfl) ⟨rfl, hw.pick [0, 1, 2] (by kernel_rfl)⟩)
def letter_bare_11 (x16 : Int) (x17 : Int) (x18 : Int) (x19 : Int) : Option (Int × Int × Int × Int) :=
  some (x16, x17, x18, x19)
theorem letter_bare_11_s {x3 : Int} {x4 : Int} {x5 : Int} {x6 : Int} {x7 : Int} {x8 : Int} {x9 : Int} {x10 : Int} {x11 : Int} {x12 : Int} {x13 : Int} {x14 : Int} {x15 : Int} {x16 : Int} {x17 : Int} {x18 : Int} {x19 : Int} {x20 : Int} {x21 : Int} {x22 : List Int} {x26 : Bool} {x27 : Int} {x28 : List M156} {x32 : List M96} {x36 : List Int} {x42 : Int} {x43 : Int} {x44 : Int} {x45 : Int} {x46 : Int} {x47 : Int} {x48 : Int} {x49 : Int} {x50 : Int} {x51 : Int} {x52 : Int} {x53 : Int} {x54 : Int} {x55 : Int} {x56 : Int} {x57 : Int} {x58 : Int} {x59 : Int} {x60 : Int} {x61 : List Int} {x65 : Bool} {x66 : Int} {x67 : List M156} {x71 : List M96} {x75 : List Int} {b2 : Nat} {p23 : Option Addr} {c24 : Nat} {p29 : Option Addr} {c30 : Nat} {p33 : Option Addr} {c34 : Nat} {p37 : Option Addr} {c38 : Nat} {b41 : Nat} {p62 : Option Addr} {c63 : Nat} {p68 : Option Addr} {c69 : Nat} {p72 : Option Addr} {c73 : Nat} {p76 : Option Addr} {c77 : Nat} {r : Int × Int × Int × Int} (hk : letter_bare_11 x16 x17 x18 x19 = some r) {g w : World} {F : Ch} {ih : IH} (h25 : RSl e3 ih [] p23 c24 x22) (h31 : RSl e156 ih [] p29 c30 x28) (h35 : RSl e96 ih [] p33 c34 x32) (h39 : RSl e5 ih [] p37 c38 x36) (h64 : RSl e3 ih [] p62 c63 x61) (h70 : RSl e156 ih [] p68 c69 x67) (h74 : RSl e96 ih [] p72 c73 x71) (h78 : RSl e5 ih [] p76 c77 x75) (hw : St g w [bx b2 [vi64 x3, vi64 x4, vi64 x5, vi64 x6, vu64 x7, vu64 x8, vu64 x9, vu64 x10, vu64 x11, vu64 x12, vi64 x13, vu32 x14, vi64 x15, vi64 x16, vi64 x17, vu64 x18, vi64 x19, vi64 x20, vu64 x21, .slice p23 x22.length c24, .bool x26, vi64 x27, .slice p29 x28.length c30, .slice p33 x32.length c34, .slice p37 x36.length c38] 48, bx b41 [vi64 x42, vi64 x43, vi64 x44, vi64 x45, vu64 x46, vu64 x47, vu64 x48, vu64 x49, vu64 x50, vu64 x51, vi64 x52, vu32 x53, vi64 x54, vi64 x55, vi64 x56, vu64 x57, vi64 x58, vi64 x59, vu64 x60, .slice p62 x61.length c63, .bool x65, vi64 x66, .slice p68 x67.length c69, .slice p72 x71.length c73, .slice p76 x75.length c77] 48, F] ih) :
    CallsR Tryz.prog 105 #[(pt b2 0), (pt b41 0)] w fun v w' => v = .tuple #[] ∧ St g w' [bx b2 [vi64 x3, vi64 x4, vi64 x5, vi64 x6, vu64 x7, vu64 x8, vu64 x9, vu64 x10, vu64 x11, vu64 x12, vi64 x13, vu32 x14, vi64 x15, vi64 x16, vi64 x17, vu64 x18, vi64 x19, vi64 x20, vu64 x21, .slice p23 x22.length c24, .bool x26, vi64 x27, .slice p29 x28.length c30, .slice p33 x32.length c34, .slice p37 x36.length c38] 48, bx b41 [vi64 x42, vi64 x43, vi64 x44, vi64 x45, vu64 x46, vu64 x47, vu64 x48, vu64 x49, vu64 x50, vu64 x51, vi64 x52, vu32 x53, vi64 x54, vi64 r.1, vi64 r.2.1, vu64 r.2.2.1, vi64 r.2.2.2, vi64 x59, vu64 x60, .slice p62 x61.length c63, .bool x65, vi64 x66, .slice p68 x67.length c69, .slice p72 x71.length c73, .slice p76 x75.length c77] 48, F] ih := by
  refine f_in (vs := [(pt b2 0), (pt b41 0)]) Tryz.func105 rfl 5 rfl (by kernel_rfl) [(0, (pt b2 0)), (1, (pt b41 0))] (by kernel_rfl) fun a Qf hQ hQn hs => ?_
  refine c_region ?_
  refine pures hs 1 [1, 2] [(1, (pt b41 0)), (2, (pt b2 13))] (by kernel_rfl) fun a hs => ?_
  refine s_load hs (hw.at_ 0 rfl) 13 (by kernel_rfl) (by kernel_rfl) (v := .agg #[vi64 x16, vi64 x17, vu64 x18, vi64 x19]) (by kernel_rfl) fun a hs => ?_
  refine pures hs 1 [3, 4] [(3, .agg #[vi64 x16, vi64 x17, vu64 x18, vi64 x19]), (4, (pt b41 13))] (by kernel_rfl) fun a hs => ?_
  refine s_store hs hw 1 rfl 13 (by kernel_rfl) (by kernel_rfl) (v := .agg #[vi64 x16, vi64 x17, vu64 x18, vi64 x19]) (by kernel_rfl) (by kernel_rfl) (by kernel_rfl) (by kernel_rfl) fun a w hs hw => ?_
  refine s_end ?_
  obtain rfl := someE hk
  refine hQn _ _ (f_retN hs [] rfl [] (by kernel_rfl) (by kernel_rfl) ⟨rfl, hw.pick [0, 1, 2] (by kernel_rfl)⟩)
def letter_bare_12 (x20 : Int) (x21 : Int) (x22 : List Int) (x26 : Bool) (x27 : Int) : Option (Int × Int × (List Int) × Bool × Int) :=
  some (x20, x21, x22, x26, x27)
theorem letter_bare_12_s {x3 : Int} {x4 : Int} {x5 : Int} {x6 : Int} {x7 : Int} {x8 : Int} {x9 : Int} {x10 : Int} {x11 : Int} {x12 : Int} {x13 : Int} {x14 : Int} {x15 : Int} {x16 : Int} {x17 : Int} {x18 : Int} {x19 : Int} {x20 : Int} {x21 : Int} {x22 : List Int} {x26 : Bool} {x27 : Int} {x28 : List M156} {x32 : List M96} {x36 : List Int} {x42 : Int} {x43 : Int} {x44 : Int} {x45 : Int} {x46 : Int} {x47 : Int} {x48 : Int} {x49 : Int} {x50 : Int} {x51 : Int} {x52 : Int} {x53 : Int} {x54 : Int} {x55 : Int} {x56 : Int} {x57 : Int} {x58 : Int} {x59 : Int} {x60 : Int} {x61 : List Int} {x65 : Bool} {x66 : Int} {x67 : List M156} {x71 : List M96} {x75 : List Int} {b2 : Nat} {p23 : Option Addr} {c24 : Nat} {p29 : Option Addr} {c30 : Nat} {p33 : Option Addr} {c34 : Nat} {p37 : Option Addr} {c38 : Nat} {b41 : Nat} {p62 : Option Addr} {c63 : Nat} {p68 : Option Addr} {c69 : Nat} {p72 : Option Addr} {c73 : Nat} {p76 : Option Addr} {c77 : Nat} {r : Int × Int × (List Int) × Bool × Int} (hk : letter_bare_12 x20 x21 x22 x26 x27 = some r) {g w : World} {F : Ch} {ih : IH} (h25 : RSl e3 ih [] p23 c24 x22) (h31 : RSl e156 ih [] p29 c30 x28) (h35 : RSl e96 ih [] p33 c34 x32) (h39 : RSl e5 ih [] p37 c38 x36) (h64 : RSl e3 ih [] p62 c63 x61) (h70 : RSl e156 ih [] p68 c69 x67) (h74 : RSl e96 ih [] p72 c73 x71) (h78 : RSl e5 ih [] p76 c77 x75) (hw : St g w [bx b2 [vi64 x3, vi64 x4, vi64 x5, vi64 x6, vu64 x7, vu64 x8, vu64 x9, vu64 x10, vu64 x11, vu64 x12, vi64 x13, vu32 x14, vi64 x15, vi64 x16, vi64 x17, vu64 x18, vi64 x19, vi64 x20, vu64 x21, .slice p23 x22.length c24, .bool x26, vi64 x27, .slice p29 x28.length c30, .slice p33 x32.length c34, .slice p37 x36.length c38] 48, bx b41 [vi64 x42, vi64 x43, vi64 x44, vi64 x45, vu64 x46, vu64 x47, vu64 x48, vu64 x49, vu64 x50, vu64 x51, vi64 x52, vu32 x53, vi64 x54, vi64 x55, vi64 x56, vu64 x57, vi64 x58, vi64 x59, vu64 x60, .slice p62 x61.length c63, .bool x65, vi64 x66, .slice p68 x67.length c69, .slice p72 x71.length c73, .slice p76 x75.length c77] 48, F] ih) :
    CallsR Tryz.prog 106 #[(pt b2 0), (pt b41 0)] w fun v w' => ∃ (p81 : Option Addr) (c82 : Nat), v = .tuple #[] ∧ St g w' [bx b2 [vi64 x3, vi64 x4, vi64 x5, vi64 x6, vu64 x7, vu64 x8, vu64 x9, vu64 x10, vu64 x11, vu64 x12, vi64 x13, vu32 x14, vi64 x15, vi64 x16, vi64 x17, vu64 x18, vi64 x19, vi64 x20, vu64 x21, .slice p23 x22.length c24, .bool x26, vi64 x27, .slice p29 x28.length c30, .slice p33 x32.length c34, .slice p37 x36.length c38] 48, bx b41 [vi64 x42, vi64 x43, vi64 x44, vi64 x45, vu64 x46, vu64 x47, vu64 x48, vu64 x49, vu64 x50, vu64 x51, vi64 x52, vu32 x53, vi64 x54, vi64 x55, vi64 x56, vu64 x57, vi64 x58, vi64 r.1, vu64 r.2.1, .slice p81 r.2.2.1.length c82, .bool r.2.2.2.1, vi64 r.2.2.2.2, .slice p68 x67.length c69, .slice p72 x71.length c73, .slice p76 x75.length c77] 48, F] ih ∧ RSl e3 ih [] p81 c82 r.2.2.1 := by
  refine f_in (vs := [(pt b2 0), (pt b41 0)]) Tryz.func106 rfl 5 rfl (by kernel_rfl) [(0, (pt b2 0)), (1, (pt b41 0))] (by kernel_rfl) fun a Qf hQ hQn hs => ?_
  refine c_region ?_
  refine pures hs 1 [1, 2] [(1, (pt b41 0)), (2, (pt b2 17))] (by kernel_rfl) fun a hs => ?_
  refine s_load hs (hw.at_ 0 rfl) 17 (by kernel_rfl) (by kernel_rfl) (v := .agg #[vi64 x20, vu64 x21, .slice p23 x22.length c24, .bool x26, vi64 x27]) (by kernel_rfl) fun a hs => ?_
  refine pures hs 1 [3, 4] [(3, .agg #[vi64 x20, vu64 x21, .slice p23 x22.length c24, .bool x26, vi64 x27]), (4, (pt b41 17))] (by kernel_rfl) fun a hs => ?_
  refine s_store hs hw 1 rfl 17 (by kernel_rfl) (by kernel_rfl) (v := .agg #[vi64 x20, vu64 x21, .slice p23 x22.length c24, .bool x26, vi64 x27]) (by kernel_rfl) (by kernel_rfl) (by kernel_rfl) (by kernel_rfl) fun a w hs hw => ?_
  refine s_end ?_
  obtain rfl := someE hk
  refine hQn _ _ (f_retN hs [] rfl [] (by kernel_rfl) (by kernel_rfl) ⟨p23, c24, rfl, hw.pick [0, 1, 2] (by kernel_rfl), h25⟩)
def letter_bare_13 (x28 : List M156) : Option (List M156) :=
  some x28
theorem letter_bare_13_s {x3 : Int} {x4 : Int} {x5 : Int} {x6 : Int} {x7 : Int} {x8 : Int} {x9 : Int} {x10 : Int} {x11 : Int} {x12 : Int} {x13 : Int} {x14 : Int} {x15 : Int} {x16 : Int} {x17 : Int} {x18 : Int} {x19 : Int} {x20 : Int} {x21 : Int} {x22 : List Int} {x26 : Bool} {x27 : Int} {x28 : List M156} {x32 : List M96} {x36 : List Int} {x42 : Int} {x43 : Int} {x44 : Int} {x45 : Int} {x46 : Int} {x47 : Int} {x48 : Int} {x49 : Int} {x50 : Int} {x51 : Int} {x52 : Int} {x53 : Int} {x54 : Int} {x55 : Int} {x56 : Int} {x57 : Int} {x58 : Int} {x59 : Int} {x60 : Int} {x61 : List Int} {x65 : Bool} {x66 : Int} {x67 : List M156} {x71 : List M96} {x75 : List Int} {b2 : Nat} {p23 : Option Addr} {c24 : Nat} {p29 : Option Addr} {c30 : Nat} {p33 : Option Addr} {c34 : Nat} {p37 : Option Addr} {c38 : Nat} {b41 : Nat} {p62 : Option Addr} {c63 : Nat} {p68 : Option Addr} {c69 : Nat} {p72 : Option Addr} {c73 : Nat} {p76 : Option Addr} {c77 : Nat} {r : (List M156)} (hk : letter_bare_13 x28 = some r) {g w : World} {F : Ch} {ih : IH} (h25 : RSl e3 ih [] p23 c24 x22) (h31 : RSl e156 ih [] p29 c30 x28) (h35 : RSl e96 ih [] p33 c34 x32) (h39 : RSl e5 ih [] p37 c38 x36) (h64 : RSl e3 ih [] p62 c63 x61) (h70 : RSl e156 ih [] p68 c69 x67) (h74 : RSl e96 ih [] p72 c73 x71) (h78 : RSl e5 ih [] p76 c77 x75) (hw : St g w [bx b2 [vi64 x3, vi64 x4, vi64 x5, vi64 x6, vu64 x7, vu64 x8, vu64 x9, vu64 x10, vu64 x11, vu64 x12, vi64 x13, vu32 x14, vi64 x15, vi64 x16, vi64 x17, vu64 x18, vi64 x19, vi64 x20, vu64 x21, .slice p23 x22.length c24, .bool x26, vi64 x27, .slice p29 x28.length c30, .slice p33 x32.length c34, .slice p37 x36.length c38] 48, bx b41 [vi64 x42, vi64 x43, vi64 x44, vi64 x45, vu64 x46, vu64 x47, vu64 x48, vu64 x49, vu64 x50, vu64 x51, vi64 x52, vu32 x53, vi64 x54, vi64 x55, vi64 x56, vu64 x57, vi64 x58, vi64 x59, vu64 x60, .slice p62 x61.length c63, .bool x65, vi64 x66, .slice p68 x67.length c69, .slice p72 x71.length c73, .slice p76 x75.length c77] 48, F] ih) :
    CallsR Tryz.prog 107 #[(pt b2 0), (pt b41 0)] w fun v w' => ∃ (p81 : Option Addr) (c82 : Nat), v = .tuple #[] ∧ St g w' [bx b2 [vi64 x3, vi64 x4, vi64 x5, vi64 x6, vu64 x7, vu64 x8, vu64 x9, vu64 x10, vu64 x11, vu64 x12, vi64 x13, vu32 x14, vi64 x15, vi64 x16, vi64 x17, vu64 x18, vi64 x19, vi64 x20, vu64 x21, .slice p23 x22.length c24, .bool x26, vi64 x27, .slice p29 x28.length c30, .slice p33 x32.length c34, .slice p37 x36.length c38] 48, bx b41 [vi64 x42, vi64 x43, vi64 x44, vi64 x45, vu64 x46, vu64 x47, vu64 x48, vu64 x49, vu64 x50, vu64 x51, vi64 x52, vu32 x53, vi64 x54, vi64 x55, vi64 x56, vu64 x57, vi64 x58, vi64 x59, vu64 x60, .slice p62 x61.length c63, .bool x65, vi64 x66, .slice p81 r.length c82, .slice p72 x71.length c73, .slice p76 x75.length c77] 48, F] ih ∧ RSl e156 ih [] p81 c82 r := by
  refine f_in (vs := [(pt b2 0), (pt b41 0)]) Tryz.func107 rfl 5 rfl (by kernel_rfl) [(0, (pt b2 0)), (1, (pt b41 0))] (by kernel_rfl) fun a Qf hQ hQn hs => ?_
  refine c_region ?_
  refine pures hs 1 [1, 2] [(1, (pt b41 0)), (2, (pt b2 22))] (by kernel_rfl) fun a hs => ?_
  refine s_load hs (hw.at_ 0 rfl) 22 (by kernel_rfl) (by kernel_rfl) (v := .slice p29 x28.length c30) (by kernel_rfl) fun a hs => ?_
  refine pures hs 1 [3, 4] [(3, .slice p29 x28.length c30), (4, (pt b41 22))] (by kernel_rfl) fun a hs => ?_
  refine s_store hs hw 1 rfl 22 (by kernel_rfl) (by kernel_rfl) (v := .slice p29 x28.length c30) (by kernel_rfl) (by kernel_rfl) (by kernel_rfl) (by kernel_rfl) fun a w hs hw => ?_
  refine s_end ?_
  obtain rfl := someE hk
  refine hQn _ _ (f_retN hs [] rfl [] (by kernel_rfl) (by kernel_rfl) ⟨p29, c30, rfl, hw.pick [0, 1, 2] (by kernel_rfl), h31⟩)
def letter_bare_14 (x32 : List M96) : Option (List M96) :=
  some x32
theorem letter_bare_14_s {x3 : Int} {x4 : Int} {x5 : Int} {x6 : Int} {x7 : Int} {x8 : Int} {x9 : Int} {x10 : Int} {x11 : Int} {x12 : Int} {x13 : Int} {x14 : Int} {x15 : Int} {x16 : Int} {x17 : Int} {x18 : Int} {x19 : Int} {x20 : Int} {x21 : Int} {x22 : List Int} {x26 : Bool} {x27 : Int} {x28 : List M156} {x32 : List M96} {x36 : List Int} {x42 : Int} {x43 : Int} {x44 : Int} {x45 : Int} {x46 : Int} {x47 : Int} {x48 : Int} {x49 : Int} {x50 : Int} {x51 : Int} {x52 : Int} {x53 : Int} {x54 : Int} {x55 : Int} {x56 : Int} {x57 : Int} {x58 : Int} {x59 : Int} {x60 : Int} {x61 : List Int} {x65 : Bool} {x66 : Int} {x67 : List M156} {x71 : List M96} {x75 : List Int} {b2 : Nat} {p23 : Option Addr} {c24 : Nat} {p29 : Option Addr} {c30 : Nat} {p33 : Option Addr} {c34 : Nat} {p37 : Option Addr} {c38 : Nat} {b41 : Nat} {p62 : Option Addr} {c63 : Nat} {p68 : Option Addr} {c69 : Nat} {p72 : Option Addr} {c73 : Nat} {p76 : Option Addr} {c77 : Nat} {r : (List M96)} (hk : letter_bare_14 x32 = some r) {g w : World} {F : Ch} {ih : IH} (h25 : RSl e3 ih [] p23 c24 x22) (h31 : RSl e156 ih [] p29 c30 x28) (h35 : RSl e96 ih [] p33 c34 x32) (h39 : RSl e5 ih [] p37 c38 x36) (h64 : RSl e3 ih [] p62 c63 x61) (h70 : RSl e156 ih [] p68 c69 x67) (h74 : RSl e96 ih [] p72 c73 x71) (h78 : RSl e5 ih [] p76 c77 x75) (hw : St g w [bx b2 [vi64 x3, vi64 x4, vi64 x5, vi64 x6, vu64 x7, vu64 x8, vu64 x9, vu64 x10, vu64 x11, vu64 x12, vi64 x13, vu32 x14, vi64 x15, vi64 x16, vi64 x17, vu64 x18, vi64 x19, vi64 x20, vu64 x21, .slice p23 x22.length c24, .bool x26, vi64 x27, .slice p29 x28.length c30, .slice p33 x32.length c34, .slice p37 x36.length c38] 48, bx b41 [vi64 x42, vi64 x43, vi64 x44, vi64 x45, vu64 x46, vu64 x47, vu64 x48, vu64 x49, vu64 x50, vu64 x51, vi64 x52, vu32 x53, vi64 x54, vi64 x55, vi64 x56, vu64 x57, vi64 x58, vi64 x59, vu64 x60, .slice p62 x61.length c63, .bool x65, vi64 x66, .slice p68 x67.length c69, .slice p72 x71.length c73, .slice p76 x75.length c77] 48, F] ih) :
    CallsR Tryz.prog 108 #[(pt b2 0), (pt b41 0)] w fun v w' => ∃ (p81 : Option Addr) (c82 : Nat), v = .tuple #[] ∧ St g w' [bx b2 [vi64 x3, vi64 x4, vi64 x5, vi64 x6, vu64 x7, vu64 x8, vu64 x9, vu64 x10, vu64 x11, vu64 x12, vi64 x13, vu32 x14, vi64 x15, vi64 x16, vi64 x17, vu64 x18, vi64 x19, vi64 x20, vu64 x21, .slice p23 x22.length c24, .bool x26, vi64 x27, .slice p29 x28.length c30, .slice p33 x32.length c34, .slice p37 x36.length c38] 48, bx b41 [vi64 x42, vi64 x43, vi64 x44, vi64 x45, vu64 x46, vu64 x47, vu64 x48, vu64 x49, vu64 x50, vu64 x51, vi64 x52, vu32 x53, vi64 x54, vi64 x55, vi64 x56, vu64 x57, vi64 x58, vi64 x59, vu64 x60, .slice p62 x61.length c63, .bool x65, vi64 x66, .slice p68 x67.length c69, .slice p81 r.length c82, .slice p76 x75.length c77] 48, F] ih ∧ RSl e96 ih [] p81 c82 r := by
  refine f_in (vs := [(pt b2 0), (pt b41 0)]) Tryz.func108 rfl 5 rfl (by kernel_rfl) [(0, (pt b2 0)), (1, (pt b41 0))] (by kernel_rfl) fun a Qf hQ hQn hs => ?_
  refine c_region ?_
  refine pures hs 1 [1, 2] [(1, (pt b41 0)), (2, (pt b2 23))] (by kernel_rfl) fun a hs => ?_
  refine s_load hs (hw.at_ 0 rfl) 23 (by kernel_rfl) (by kernel_rfl) (v := .slice p33 x32.length c34) (by kernel_rfl) fun a hs => ?_
  refine pures hs 1 [3, 4] [(3, .slice p33 x32.length c34), (4, (pt b41 23))] (by kernel_rfl) fun a hs => ?_
  refine s_store hs hw 1 rfl 23 (by kernel_rfl) (by kernel_rfl) (v := .slice p33 x32.length c34) (by kernel_rfl) (by kernel_rfl) (by kernel_rfl) (by kernel_rfl) fun a w hs hw => ?_
  refine s_end ?_
  obtain rfl := someE hk
  refine hQn _ _ (f_retN hs [] rfl [] (by kernel_rfl) (by kernel_rfl) ⟨p33, c34, rfl, hw.pick [0, 1, 2] (by kernel_rfl), h35⟩)
def letter_bare_15 (x36 : List Int) : Option (List Int) :=
  some x36
theorem letter_bare_15_s {x3 : Int} {x4 : Int} {x5 : Int} {x6 : Int} {x7 : Int} {x8 : Int} {x9 : Int} {x10 : Int} {x11 : Int} {x12 : Int} {x13 : Int} {x14 : Int} {x15 : Int} {x16 : Int} {x17 : Int} {x18 : Int} {x19 : Int} {x20 : Int} {x21 : Int} {x22 : List Int} {x26 : Bool} {x27 : Int} {x28 : List M156} {x32 : List M96} {x36 : List Int} {x42 : Int} {x43 : Int} {x44 : Int} {x45 : Int} {x46 : Int} {x47 : Int} {x48 : Int} {x49 : Int} {x50 : Int} {x51 : Int} {x52 : Int} {x53 : Int} {x54 : Int} {x55 : Int} {x56 : Int} {x57 : Int} {x58 : Int} {x59 : Int} {x60 : Int} {x61 : List Int} {x65 : Bool} {x66 : Int} {x67 : List M156} {x71 : List M96} {x75 : List Int} {b2 : Nat} {p23 : Option Addr} {c24 : Nat} {p29 : Option Addr} {c30 : Nat} {p33 : Option Addr} {c34 : Nat} {p37 : Option Addr} {c38 : Nat} {b41 : Nat} {p62 : Option Addr} {c63 : Nat} {p68 : Option Addr} {c69 : Nat} {p72 : Option Addr} {c73 : Nat} {p76 : Option Addr} {c77 : Nat} {r : (List Int)} (hk : letter_bare_15 x36 = some r) {g w : World} {F : Ch} {ih : IH} (h25 : RSl e3 ih [] p23 c24 x22) (h31 : RSl e156 ih [] p29 c30 x28) (h35 : RSl e96 ih [] p33 c34 x32) (h39 : RSl e5 ih [] p37 c38 x36) (h64 : RSl e3 ih [] p62 c63 x61) (h70 : RSl e156 ih [] p68 c69 x67) (h74 : RSl e96 ih [] p72 c73 x71) (h78 : RSl e5 ih [] p76 c77 x75) (hw : St g w [bx b2 [vi64 x3, vi64 x4, vi64 x5, vi64 x6, vu64 x7, vu64 x8, vu64 x9, vu64 x10, vu64 x11, vu64 x12, vi64 x13, vu32 x14, vi64 x15, vi64 x16, vi64 x17, vu64 x18, vi64 x19, vi64 x20, vu64 x21, .slice p23 x22.length c24, .bool x26, vi64 x27, .slice p29 x28.length c30, .slice p33 x32.length c34, .slice p37 x36.length c38] 48, bx b41 [vi64 x42, vi64 x43, vi64 x44, vi64 x45, vu64 x46, vu64 x47, vu64 x48, vu64 x49, vu64 x50, vu64 x51, vi64 x52, vu32 x53, vi64 x54, vi64 x55, vi64 x56, vu64 x57, vi64 x58, vi64 x59, vu64 x60, .slice p62 x61.length c63, .bool x65, vi64 x66, .slice p68 x67.length c69, .slice p72 x71.length c73, .slice p76 x75.length c77] 48, F] ih) :
    CallsR Tryz.prog 109 #[(pt b2 0), (pt b41 0)] w fun v w' => ∃ (p81 : Option Addr) (c82 : Nat), v = .tuple #[] ∧ St g w' [bx b2 [vi64 x3, vi64 x4, vi64 x5, vi64 x6, vu64 x7, vu64 x8, vu64 x9, vu64 x10, vu64 x11, vu64 x12, vi64 x13, vu32 x14, vi64 x15, vi64 x16, vi64 x17, vu64 x18, vi64 x19, vi64 x20, vu64 x21, .slice p23 x22.length c24, .bool x26, vi64 x27, .slice p29 x28.length c30, .slice p33 x32.length c34, .slice p37 x36.length c38] 48, bx b41 [vi64 x42, vi64 x43, vi64 x44, vi64 x45, vu64 x46, vu64 x47, vu64 x48, vu64 x49, vu64 x50, vu64 x51, vi64 x52, vu32 x53, vi64 x54, vi64 x55, vi64 x56, vu64 x57, vi64 x58, vi64 x59, vu64 x60, .slice p62 x61.length c63, .bool x65, vi64 x66, .slice p68 x67.length c69, .slice p72 x71.length c73, .slice p81 r.length c82] 48, F] ih ∧ RSl e5 ih [] p81 c82 r := by
  refine f_in (vs := [(pt b2 0), (pt b41 0)]) Tryz.func109 rfl 5 rfl (by kernel_rfl) [(0, (pt b2 0)), (1, (pt b41 0))] (by kernel_rfl) fun a Qf hQ hQn hs => ?_
  refine c_region ?_
  refine pures hs 1 [1, 2] [(1, (pt b41 0)), (2, (pt b2 24))] (by kernel_rfl) fun a hs => ?_
  refine s_load hs (hw.at_ 0 rfl) 24 (by kernel_rfl) (by kernel_rfl) (v := .slice p37 x36.length c38) (by kernel_rfl) fun a hs => ?_
  refine pures hs 1 [3, 4] [(3, .slice p37 x36.length c38), (4, (pt b41 24))] (by kernel_rfl) fun a hs => ?_
  refine s_store hs hw 1 rfl 24 (by kernel_rfl) (by kernel_rfl) (v := .slice p37 x36.length c38) (by kernel_rfl) (by kernel_rfl) (by kernel_rfl) (by kernel_rfl) fun a w hs hw => ?_
  refine s_end ?_
  obtain rfl := someE hk
  refine hQn _ _ (f_retN hs [] rfl [] (by kernel_rfl) (by kernel_rfl) ⟨p37, c38, rfl, hw.pick [0, 1, 2] (by kernel_rfl), h39⟩)
end Go.Proofs.YteiinkhbgpldeaaGreatDoor.Sx
