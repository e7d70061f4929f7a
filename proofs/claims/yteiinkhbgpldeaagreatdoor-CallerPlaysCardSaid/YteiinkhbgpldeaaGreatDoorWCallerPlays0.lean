/- The walk of CallerPlays. Conditions: those ahead of each colon. -/
import Derived.Test.YteiinkhbgpldeaaGreatDoorSx9
import Derived.Test.YteiinkhbgpldeaaGreatDoorSxV
import Derived.Test.YteiinkhbgpldeaaGreatDoorProg
namespace Go.Proofs.YteiinkhbgpldeaaGreatDoor.Sx
open Go Go.Proofs
set_option maxRecDepth 100000
set_option linter.unusedVariables false
structure M57 where
 f0 : Int
 f1 : Int
abbrev e57 : ET := ⟨M57, 2, 57, fun ih x cs => cs = [Qb x.f0, Qb x.f1],
 fun h => by rw [h]; rfl, fun h => by rw [h]; rfl, fun h hle => h⟩
structure M44 where
 f0 : Int
 f1 : Int
 f2 : List Int
 f3 : Bool
 f4 : Int
abbrev e3 : ET := eInt .i64 3
abbrev e44 : ET := ⟨M44, 5, 44, fun ih x cs => ∃ q1 k0, cs = [Qb x.f0, Qe x.f1, .slice q1 x.f2.length k0, .bool x.f3, Qb x.f4] ∧ RSl e3 ih [] q1 k0 x.f2,
 fun ⟨_, _, h, g1⟩ => by rw [h]; rfl, fun ⟨_, _, h, g1⟩ => by rw [h]; rfl, fun ⟨p1, p2, h, g1⟩ hle => ⟨p1, p2, h, g1.mono hle⟩⟩
structure M26 where
 f0 : Int
 f1 : Int
 f2 : Int
 f3 : List Int
 f4 : Int
abbrev e5 : ET := eInt .u8 5
abbrev e26 : ET := ⟨M26, 5, 26, fun ih x cs => ∃ q1 k0, cs = [Qb x.f0, Qk x.f1, Qe x.f2, .slice q1 x.f3.length k0, Qb x.f4] ∧ RSl e5 ih [] q1 k0 x.f3,
 fun ⟨_, _, h, g1⟩ => by rw [h]; rfl, fun ⟨_, _, h, g1⟩ => by rw [h]; rfl, fun ⟨p1, p2, h, g1⟩ hle => ⟨p1, p2, h, g1.mono hle⟩⟩
structure M41 where
 f0 : Int
 f1 : Int
 f2 : Int
 f3 : Int
abbrev e41 : ET := ⟨M41, 4, 41, fun ih x cs => cs = [Qb x.f0, Qb x.f1, Qe x.f2, Qb x.f3],
 fun h => by rw [h]; rfl, fun h => by rw [h]; rfl, fun h hle => h⟩
structure M156 where
 f0 : Int
 f1 : Int
 f2 : M41
abbrev Qcf : ET := ⟨M156, 6, 156, fun ih x cs => cs = [Qb x.f0, Qe x.f1, Qb x.f2.f0, Qb x.f2.f1, Qe x.f2.f2, Qb x.f2.f3],
 fun h => by rw [h]; rfl, fun h => by rw [h]; rfl, fun h hle => h⟩
structure M96 where
 f0 : Int
 f1 : Int
 f2 : Int
 f3 : Int
 f4 : Int
 f5 : Int
 f6 : List Int
abbrev e96 : ET := ⟨M96, 7, 96, fun ih x cs => ∃ q1 k0, cs = [Qe x.f0, Qb x.f1, Qe x.f2, Qb x.f3, Qk x.f4, Qe x.f5, .slice q1 x.f6.length k0] ∧ RSl e5 ih [] q1 k0 x.f6,
 fun ⟨_, _, h, g1⟩ => by rw [h]; rfl, fun ⟨_, _, h, g1⟩ => by rw [h]; rfl, fun ⟨p1, p2, h, g1⟩ hle => ⟨p1, p2, h, g1.mono hle⟩⟩
structure M48 where
 f0 : Int
 f1 : Int
 f2 : Int
 f3 : Int
 f4 : Int
 f5 : Int
 f6 : Int
 f7 : Int
 f8 : Int
 f9 : Int
 f10 : Int
 f11 : Int
 f12 : Int
 f13 : M41
 f14 : M44
 f15 : List M156
 f16 : List M96
 f17 : List Int
abbrev e48 : ET := ⟨M48, 25, 48, fun ih x cs => ∃ q1 k0 q2 k1 q3 k2 q4 k3, cs = [Qb x.f0, Qb x.f1, Qb x.f2, Qb x.f3, Qe x.f4, Qe x.f5, Qe x.f6, Qe x.f7, Qe x.f8, Qe x.f9, Qb x.f10, Qk x.f11, Qb x.f12, Qb x.f13.f0, Qb x.f13.f1, Qe x.f13.f2, Qb x.f13.f3, Qb x.f14.f0, Qe x.f14.f1, .slice q1 x.f14.f2.length k0, .bool x.f14.f3, Qb x.f14.f4, .slice q2 x.f15.length k1, .slice q3 x.f16.length k2, .slice q4 x.f17.length k3] ∧ RSl e3 ih [] q1 k0 x.f14.f2 ∧ RSl Qcf ih [] q2 k1 x.f15 ∧ RSl e96 ih [] q3 k2 x.f16 ∧ RSl e5 ih [] q4 k3 x.f17,
 fun ⟨_, _, _, _, _, _, _, _, h, g1, g2, g3, g4⟩ => by rw [h]; rfl, fun ⟨_, _, _, _, _, _, _, _, h, g1, g2, g3, g4⟩ => by rw [h]; rfl, fun ⟨p1, p2, p3, p4, p5, p6, p7, p8, h, g1, g2, g3, g4⟩ hle => ⟨p1, p2, p3, p4, p5, p6, p7, p8, h, g1.mono hle, g2.mono hle, g3.mono hle, g4.mono hle⟩⟩
structure M64 where
 f0 : Int
 f1 : M26
 f2 : Bool
 f3 : M48
abbrev e64 : ET := ⟨M64, 32, 64, fun ih x cs => ∃ q1 k0 q2 k1 q3 k2 q4 k3 q5 k4, cs = [Qb x.f0, Qb x.f1.f0, Qk x.f1.f1, Qe x.f1.f2, .slice q1 x.f1.f3.length k0, Qb x.f1.f4, .bool x.f2, Qb x.f3.f0, Qb x.f3.f1, Qb x.f3.f2, Qb x.f3.f3, Qe x.f3.f4, Qe x.f3.f5, Qe x.f3.f6, Qe x.f3.f7, Qe x.f3.f8, Qe x.f3.f9, Qb x.f3.f10, Qk x.f3.f11, Qb x.f3.f12, Qb x.f3.f13.f0, Qb x.f3.f13.f1, Qe x.f3.f13.f2, Qb x.f3.f13.f3, Qb x.f3.f14.f0, Qe x.f3.f14.f1, .slice q2 x.f3.f14.f2.length k1, .bool x.f3.f14.f3, Qb x.f3.f14.f4, .slice q3 x.f3.f15.length k2, .slice q4 x.f3.f16.length k3, .slice q5 x.f3.f17.length k4] ∧ RSl e5 ih [] q1 k0 x.f1.f3 ∧ RSl e3 ih [] q2 k1 x.f3.f14.f2 ∧ RSl Qcf ih [] q3 k2 x.f3.f15 ∧ RSl e96 ih [] q4 k3 x.f3.f16 ∧ RSl e5 ih [] q5 k4 x.f3.f17,
 fun ⟨_, _, _, _, _, _, _, _, _, _, h, g1, g2, g3, g4, g5⟩ => by rw [h]; rfl, fun ⟨_, _, _, _, _, _, _, _, _, _, h, g1, g2, g3, g4, g5⟩ => by rw [h]; rfl, fun ⟨p1, p2, p3, p4, p5, p6, p7, p8, p9, p10, h, g1, g2, g3, g4, g5⟩ hle => ⟨p1, p2, p3, p4, p5, p6, p7, p8, p9, p10, h, g1.mono hle, g2.mono hle, g3.mono hle, g4.mono hle, g5.mono hle⟩⟩
abbrev e42 : ET := eSl 42 e3
abbrev e4 : ET := eBool 4
structure M159 where
 f0 : Int
 f1 : Int
 f2 : Int
 f3 : Int
 f4 : Int
 f5 : Int
structure M161 where
 f0 : List Int
 f1 : M159
abbrev QiO : ET := ⟨M161, 7, 161, fun ih x cs => cs = [.string (strOf x.f0), Qb x.f1.f0, Qb x.f1.f1, Qb x.f1.f2, Qb x.f1.f3, Qb x.f1.f4, Qb x.f1.f5],
 fun h => by rw [h]; rfl, fun h => by rw [h]; rfl, fun h hle => h⟩
abbrev Qbz : ET := ⟨Nat, 3, 134, fun ih x cs => (x = 0 ∧ cs = [.func (.func 159) #[] #[], .func (.func 160) #[] #[], .func (.func 161) #[] #[]]) ∨ (x = 1 ∧ cs = [.func (.func 140) #[] #[], .func (.func 162) #[] #[], .func (.func 163) #[] #[]]) ∨ (x = 2 ∧ cs = [.func (.func 164) #[] #[], .func (.func 166) #[] #[], .func (.func 168) #[] #[]]) ∨ (x = 3 ∧ cs = [.func (.func 169) #[] #[], .func (.func 170) #[] #[], .func (.func 172) #[] #[]]) ∨ (x = 4 ∧ cs = [.func (.func 173) #[] #[], .func (.func 175) #[] #[], .func (.func 176) #[] #[]]) ∨ (x = 5 ∧ cs = [.func (.func 177) #[] #[], .func (.func 178) #[] #[], .func (.func 179) #[] #[]]) ∨ (x = 6 ∧ cs = [.func (.func 180) #[] #[], .func (.func 182) #[] #[], .func (.func 184) #[] #[]]) ∨ (x = 7 ∧ ∃ (b1 : Nat) (b2 : Nat), cs = [.func (.func 130) #[] #[], .func (.func 152) #[] #[(pt b1 0), (pt b2 0)], .func (.func 154) #[] #[(pt b2 0), (pt b1 0)]] ∧ Glob b1 [.func (.func 131) #[] #[]] 181 ih ∧ Glob b2 [Qb 1] 3 ih) ∨ (x = 8 ∧ ∃ (b1 : Nat) (b2 : Nat), cs = [.func (.func 132) #[] #[], .func (.func 152) #[] #[(pt b1 0), (pt b2 0)], .func (.func 154) #[] #[(pt b2 0), (pt b1 0)]] ∧ Glob b1 [.func (.func 133) #[] #[]] 181 ih ∧ Glob b2 [Qb 2] 3 ih) ∨ (x = 9 ∧ ∃ (b1 : Nat), cs = [.func (.func 135) #[] #[], .func (.func 156) #[] #[(pt b1 0)], .func (.func 157) #[] #[(pt b1 0)]] ∧ Glob b1 [.func (.func 136) #[] #[]] 184 ih) ∨ (x = 10 ∧ ∃ (b1 : Nat), cs = [.func (.func 137) #[] #[], .func (.func 156) #[] #[(pt b1 0)], .func (.func 157) #[] #[(pt b1 0)]] ∧ Glob b1 [.func (.func 139) #[] #[]] 184 ih) ∨ (x = 11 ∧ ∃ (b1 : Nat), cs = [.func (.func 140) #[] #[], .func (.func 156) #[] #[(pt b1 0)], .func (.func 157) #[] #[(pt b1 0)]] ∧ Glob b1 [.func (.func 141) #[] #[]] 184 ih) ∨ (x = 12 ∧ ∃ (b1 : Nat), cs = [.func (.func 140) #[] #[], .func (.func 156) #[] #[(pt b1 0)], .func (.func 157) #[] #[(pt b1 0)]] ∧ Glob b1 [.func (.func 142) #[] #[]] 184 ih) ∨ (x = 13 ∧ ∃ (b1 : Nat), cs = [.func (.func 140) #[] #[], .func (.func 156) #[] #[(pt b1 0)], .func (.func 157) #[] #[(pt b1 0)]] ∧ Glob b1 [.func (.func 143) #[] #[]] 184 ih) ∨ (x = 14 ∧ ∃ (b1 : Nat), cs = [.func (.func 140) #[] #[], .func (.func 156) #[] #[(pt b1 0)], .func (.func 157) #[] #[(pt b1 0)]] ∧ Glob b1 [.func (.func 144) #[] #[]] 184 ih),
 fun h => by rcases h with ⟨rfl, rfl⟩ | ⟨rfl, rfl⟩ | ⟨rfl, rfl⟩ | ⟨rfl, rfl⟩ | ⟨rfl, rfl⟩ | ⟨rfl, rfl⟩ | ⟨rfl, rfl⟩ | ⟨rfl, b1, b2, rfl, g1, g2⟩ | ⟨rfl, b1, b2, rfl, g1, g2⟩ | ⟨rfl, b1, rfl, g1⟩ | ⟨rfl, b1, rfl, g1⟩ | ⟨rfl, b1, rfl, g1⟩ | ⟨rfl, b1, rfl, g1⟩ | ⟨rfl, b1, rfl, g1⟩ | ⟨rfl, b1, rfl, g1⟩ <;> rfl,
 fun h => by rcases h with ⟨rfl, rfl⟩ | ⟨rfl, rfl⟩ | ⟨rfl, rfl⟩ | ⟨rfl, rfl⟩ | ⟨rfl, rfl⟩ | ⟨rfl, rfl⟩ | ⟨rfl, rfl⟩ | ⟨rfl, b1, b2, rfl, g1, g2⟩ | ⟨rfl, b1, b2, rfl, g1, g2⟩ | ⟨rfl, b1, rfl, g1⟩ | ⟨rfl, b1, rfl, g1⟩ | ⟨rfl, b1, rfl, g1⟩ | ⟨rfl, b1, rfl, g1⟩ | ⟨rfl, b1, rfl, g1⟩ | ⟨rfl, b1, rfl, g1⟩ <;> rfl,
 fun h hle => by
  rcases h with ⟨rfl, rfl⟩ | ⟨rfl, rfl⟩ | ⟨rfl, rfl⟩ | ⟨rfl, rfl⟩ | ⟨rfl, rfl⟩ | ⟨rfl, rfl⟩ | ⟨rfl, rfl⟩ | ⟨rfl, b1, b2, rfl, g1, g2⟩ | ⟨rfl, b1, b2, rfl, g1, g2⟩ | ⟨rfl, b1, rfl, g1⟩ | ⟨rfl, b1, rfl, g1⟩ | ⟨rfl, b1, rfl, g1⟩ | ⟨rfl, b1, rfl, g1⟩ | ⟨rfl, b1, rfl, g1⟩ | ⟨rfl, b1, rfl, g1⟩
  ·exact .inl (⟨rfl, rfl⟩)
  ·exact .inr (.inl (⟨rfl, rfl⟩))
  ·exact .inr (.inr (.inl (⟨rfl, rfl⟩)))
  ·exact .inr (.inr (.inr (.inl (⟨rfl, rfl⟩))))
  ·exact .inr (.inr (.inr (.inr (.inl (⟨rfl, rfl⟩)))))
  ·exact .inr (.inr (.inr (.inr (.inr (.inl (⟨rfl, rfl⟩))))))
  ·exact .inr (.inr (.inr (.inr (.inr (.inr (.inl (⟨rfl, rfl⟩)))))))
  ·exact .inr (.inr (.inr (.inr (.inr (.inr (.inr (.inl (⟨rfl, b1, b2, rfl, g1.mono hle, g2.mono hle⟩))))))))
  ·exact .inr (.inr (.inr (.inr (.inr (.inr (.inr (.inr (.inl (⟨rfl, b1, b2, rfl, g1.mono hle, g2.mono hle⟩)))))))))
  ·exact .inr (.inr (.inr (.inr (.inr (.inr (.inr (.inr (.inr (.inl (⟨rfl, b1, rfl, g1.mono hle⟩))))))))))
  ·exact .inr (.inr (.inr (.inr (.inr (.inr (.inr (.inr (.inr (.inr (.inl (⟨rfl, b1, rfl, g1.mono hle⟩)))))))))))
  ·exact .inr (.inr (.inr (.inr (.inr (.inr (.inr (.inr (.inr (.inr (.inr (.inl (⟨rfl, b1, rfl, g1.mono hle⟩))))))))))))
  ·exact .inr (.inr (.inr (.inr (.inr (.inr (.inr (.inr (.inr (.inr (.inr (.inr (.inl (⟨rfl, b1, rfl, g1.mono hle⟩)))))))))))))
  ·exact .inr (.inr (.inr (.inr (.inr (.inr (.inr (.inr (.inr (.inr (.inr (.inr (.inr (.inl (⟨rfl, b1, rfl, g1.mono hle⟩))))))))))))))
  ·exact .inr (.inr (.inr (.inr (.inr (.inr (.inr (.inr (.inr (.inr (.inr (.inr (.inr (.inr (⟨rfl, b1, rfl, g1.mono hle⟩))))))))))))))⟩
theorem Qln {ih : IH} : Qbz.enc ih 0 [.func (.func 159) #[] #[], .func (.func 160) #[] #[], .func (.func 161) #[] #[]] := .inl (⟨rfl, rfl⟩)
theorem Qlm {ih : IH} : Qbz.enc ih 1 [.func (.func 140) #[] #[], .func (.func 162) #[] #[], .func (.func 163) #[] #[]] := .inr (.inl (⟨rfl, rfl⟩))
theorem Qll {ih : IH} : Qbz.enc ih 2 [.func (.func 164) #[] #[], .func (.func 166) #[] #[], .func (.func 168) #[] #[]] := .inr (.inr (.inl (⟨rfl, rfl⟩)))
theorem Qlk {ih : IH} : Qbz.enc ih 3 [.func (.func 169) #[] #[], .func (.func 170) #[] #[], .func (.func 172) #[] #[]] := .inr (.inr (.inr (.inl (⟨rfl, rfl⟩))))
theorem Qlj {ih : IH} : Qbz.enc ih 4 [.func (.func 173) #[] #[], .func (.func 175) #[] #[], .func (.func 176) #[] #[]] := .inr (.inr (.inr (.inr (.inl (⟨rfl, rfl⟩)))))
theorem Qli {ih : IH} : Qbz.enc ih 5 [.func (.func 177) #[] #[], .func (.func 178) #[] #[], .func (.func 179) #[] #[]] := .inr (.inr (.inr (.inr (.inr (.inl (⟨rfl, rfl⟩))))))
theorem Qlh {ih : IH} : Qbz.enc ih 6 [.func (.func 180) #[] #[], .func (.func 182) #[] #[], .func (.func 184) #[] #[]] := .inr (.inr (.inr (.inr (.inr (.inr (.inl (⟨rfl, rfl⟩)))))))
theorem Qlg {ih : IH} {b1 : Nat} {b2 : Nat} (g1 : Glob b1 [.func (.func 131) #[] #[]] 181 ih) (g2 : Glob b2 [Qb 1] 3 ih) : Qbz.enc ih 7 [.func (.func 130) #[] #[], .func (.func 152) #[] #[(pt b1 0), (pt b2 0)], .func (.func 154) #[] #[(pt b2 0), (pt b1 0)]] := .inr (.inr (.inr (.inr (.inr (.inr (.inr (.inl (⟨rfl, b1, b2, rfl, g1, g2⟩))))))))
theorem Qlf {ih : IH} {b1 : Nat} {b2 : Nat} (g1 : Glob b1 [.func (.func 133) #[] #[]] 181 ih) (g2 : Glob b2 [Qb 2] 3 ih) : Qbz.enc ih 8 [.func (.func 132) #[] #[], .func (.func 152) #[] #[(pt b1 0), (pt b2 0)], .func (.func 154) #[] #[(pt b2 0), (pt b1 0)]] := .inr (.inr (.inr (.inr (.inr (.inr (.inr (.inr (.inl (⟨rfl, b1, b2, rfl, g1, g2⟩)))))))))
theorem Qle {ih : IH} {b1 : Nat} (g1 : Glob b1 [.func (.func 136) #[] #[]] 184 ih) : Qbz.enc ih 9 [.func (.func 135) #[] #[], .func (.func 156) #[] #[(pt b1 0)], .func (.func 157) #[] #[(pt b1 0)]] := .inr (.inr (.inr (.inr (.inr (.inr (.inr (.inr (.inr (.inl (⟨rfl, b1, rfl, g1⟩))))))))))
theorem QkE {ih : IH} {b1 : Nat} (g1 : Glob b1 [.func (.func 139) #[] #[]] 184 ih) : Qbz.enc ih 10 [.func (.func 137) #[] #[], .func (.func 156) #[] #[(pt b1 0)], .func (.func 157) #[] #[(pt b1 0)]] := .inr (.inr (.inr (.inr (.inr (.inr (.inr (.inr (.inr (.inr (.inl (⟨rfl, b1, rfl, g1⟩)))))))))))
theorem QkD {ih : IH} {b1 : Nat} (g1 : Glob b1 [.func (.func 141) #[] #[]] 184 ih) : Qbz.enc ih 11 [.func (.func 140) #[] #[], .func (.func 156) #[] #[(pt b1 0)], .func (.func 157) #[] #[(pt b1 0)]] := .inr (.inr (.inr (.inr (.inr (.inr (.inr (.inr (.inr (.inr (.inr (.inl (⟨rfl, b1, rfl, g1⟩))))))))))))
theorem QkC {ih : IH} {b1 : Nat} (g1 : Glob b1 [.func (.func 142) #[] #[]] 184 ih) : Qbz.enc ih 12 [.func (.func 140) #[] #[], .func (.func 156) #[] #[(pt b1 0)], .func (.func 157) #[] #[(pt b1 0)]] := .inr (.inr (.inr (.inr (.inr (.inr (.inr (.inr (.inr (.inr (.inr (.inr (.inl (⟨rfl, b1, rfl, g1⟩)))))))))))))
theorem QkB {ih : IH} {b1 : Nat} (g1 : Glob b1 [.func (.func 143) #[] #[]] 184 ih) : Qbz.enc ih 13 [.func (.func 140) #[] #[], .func (.func 156) #[] #[(pt b1 0)], .func (.func 157) #[] #[(pt b1 0)]] := .inr (.inr (.inr (.inr (.inr (.inr (.inr (.inr (.inr (.inr (.inr (.inr (.inr (.inl (⟨rfl, b1, rfl, g1⟩))))))))))))))
theorem QkA {ih : IH} {b1 : Nat} (g1 : Glob b1 [.func (.func 144) #[] #[]] 184 ih) : Qbz.enc ih 14 [.func (.func 140) #[] #[], .func (.func 156) #[] #[(pt b1 0)], .func (.func 157) #[] #[(pt b1 0)]] := .inr (.inr (.inr (.inr (.inr (.inr (.inr (.inr (.inr (.inr (.inr (.inr (.inr (.inr (⟨rfl, b1, rfl, g1⟩))))))))))))))
theorem Qkz {ih : IH} {x : Nat} {cs : List Value} (h : Qbz.enc ih x cs) : ∃ u1 u2 u3 : Value, cs = [u1, u2, u3] := by
 rcases h with ⟨rfl, rfl⟩ | ⟨rfl, rfl⟩ | ⟨rfl, rfl⟩ | ⟨rfl, rfl⟩ | ⟨rfl, rfl⟩ | ⟨rfl, rfl⟩ | ⟨rfl, rfl⟩ | ⟨rfl, b1, b2, rfl, g1, g2⟩ | ⟨rfl, b1, b2, rfl, g1, g2⟩ | ⟨rfl, b1, rfl, g1⟩ | ⟨rfl, b1, rfl, g1⟩ | ⟨rfl, b1, rfl, g1⟩ | ⟨rfl, b1, rfl, g1⟩ | ⟨rfl, b1, rfl, g1⟩ | ⟨rfl, b1, rfl, g1⟩ <;> exact ⟨_, _, _, rfl⟩
structure M51 where
 f0 : Int
 f1 : Int
 f2 : List Int
structure M60 where
 f0 : Int
 f1 : Int
 f2 : Int
 f3 : Int
 f4 : List M44
 f5 : M26
 f6 : Int
 f7 : M51
 f8 : Int
 f9 : M51
abbrev e9 : ET := eStr 9
abbrev A44 (m : M44) (q1 : Option Addr) (k0 : Nat) : Value := .agg #[Qb m.f0, Qe m.f1, .slice q1 m.f2.length k0, .bool m.f3, Qb m.f4]
abbrev A26 (m : M26) (q1 : Option Addr) (k0 : Nat) : Value := .agg #[Qb m.f0, Qk m.f1, Qe m.f2, .slice q1 m.f3.length k0, Qb m.f4]
abbrev A96 (m : M96) (q1 : Option Addr) (k0 : Nat) : Value := .agg #[Qe m.f0, Qb m.f1, Qe m.f2, Qb m.f3, Qk m.f4, Qe m.f5, .slice q1 m.f6.length k0]
abbrev Qnp (m : M156) : Value := .agg #[Qb m.f0, Qe m.f1, Qb m.f2.f0, Qb m.f2.f1, Qe m.f2.f2, Qb m.f2.f3]
abbrev A64 (m : M64) (q1 : Option Addr) (k0 : Nat) (q2 : Option Addr) (k1 : Nat) (q3 : Option Addr) (k2 : Nat) (q4 : Option Addr) (k3 : Nat) (q5 : Option Addr) (k4 : Nat) : Value := .agg #[Qb m.f0, Qb m.f1.f0, Qk m.f1.f1, Qe m.f1.f2, .slice q1 m.f1.f3.length k0, Qb m.f1.f4, .bool m.f2, Qb m.f3.f0, Qb m.f3.f1, Qb m.f3.f2, Qb m.f3.f3, Qe m.f3.f4, Qe m.f3.f5, Qe m.f3.f6, Qe m.f3.f7, Qe m.f3.f8, Qe m.f3.f9, Qb m.f3.f10, Qk m.f3.f11, Qb m.f3.f12, Qb m.f3.f13.f0, Qb m.f3.f13.f1, Qe m.f3.f13.f2, Qb m.f3.f13.f3, Qb m.f3.f14.f0, Qe m.f3.f14.f1, .slice q2 m.f3.f14.f2.length k1, .bool m.f3.f14.f3, Qb m.f3.f14.f4, .slice q3 m.f3.f15.length k2, .slice q4 m.f3.f16.length k3, .slice q5 m.f3.f17.length k4]
abbrev A60 (m : M60) (q1 : Option Addr) (k0 : Nat) (q2 : Option Addr) (k1 : Nat) (q3 : Option Addr) (k2 : Nat) (q4 : Option Addr) (k3 : Nat) : Value := .agg #[Qb m.f0, Qb m.f1, Qe m.f2, Qb m.f3, .slice q1 m.f4.length k0, Qb m.f5.f0, Qk m.f5.f1, Qe m.f5.f2, .slice q2 m.f5.f3.length k1, Qb m.f5.f4, Qb m.f6, Qb m.f7.f0, Qe m.f7.f1, .slice q3 m.f7.f2.length k2, Qe m.f8, Qb m.f9.f0, Qe m.f9.f1, .slice q4 m.f9.f2.length k3]
abbrev A41 (m : M41) : Value := .agg #[Qb m.f0, Qb m.f1, Qe m.f2, Qb m.f3]
abbrev A48 (m : M48) (q1 : Option Addr) (k0 : Nat) (q2 : Option Addr) (k1 : Nat) (q3 : Option Addr) (k2 : Nat) (q4 : Option Addr) (k3 : Nat) : Value := .agg #[Qb m.f0, Qb m.f1, Qb m.f2, Qb m.f3, Qe m.f4, Qe m.f5, Qe m.f6, Qe m.f7, Qe m.f8, Qe m.f9, Qb m.f10, Qk m.f11, Qb m.f12, Qb m.f13.f0, Qb m.f13.f1, Qe m.f13.f2, Qb m.f13.f3, Qb m.f14.f0, Qe m.f14.f1, .slice q1 m.f14.f2.length k0, .bool m.f14.f3, Qb m.f14.f4, .slice q2 m.f15.length k1, .slice q3 m.f16.length k2, .slice q4 m.f17.length k3]
abbrev A51 (m : M51) (q1 : Option Addr) (k0 : Nat) : Value := .agg #[Qb m.f0, Qe m.f1, .slice q1 m.f2.length k0]
abbrev k0 (a0 : Nat) (a1 : Option Addr) (a2 : List Int) (a3 : Nat) : Ch := bx a0 [Qb 0, Qe 1, .slice a1 a2.length a3, .bool false, Qb 0] 44
abbrev k1 (a0 : Nat) (a1 : Int) (a2 : Option Addr) (a3 : List Int) (a4 : Nat) : Ch := bx a0 [Qb a1, Qe 1, .slice a2 a3.length a4, .bool false, Qb 0] 44
abbrev k2 (a0 : Nat) (a1 a2 : Int) (a3 : Option Addr) (a4 : List Int) (a5 : Nat) (a6 : Bool) (a7 : Int) : Ch := bx a0 [Qb a1, Qe a2, .slice a3 a4.length a5, .bool a6, Qb a7] 44
abbrev k3 (a0 : Nat) : Ch := bx a0 [Qb 0, Qe 0, .slice none 0 0, .bool false, Qb 0] 44
abbrev k4 (a0 a1 : Nat) (a2 : Option Addr) (a3 : List (List Int)) (a4 : Nat) : Ch := bx a0 [Qk 0, QfL 0, Qk 0, .func (.func 49) #[] #[(pt a1 0)], QfL 0, .slice a2 a3.length a4] 151
abbrev k5 (a0 : Nat) (a1 a2 : Int) (a3 : Nat) (a4 : Option Addr) (a5 : List Int) (a6 : Nat) (a7 : Option Addr) (a8 : List Int) (a9 : Nat) : Ch := bx a0 [Qb a1, Qb a2, Qe 0, Qb 0, (pt a3 0), Qb 0, Qk 0, Qe 0, .slice a4 a5.length a6, Qb 0, .pointer none, Qe 0, Qb 0, Qe 0, .slice a7 a8.length a9] 85
abbrev k6 (a0 : Nat) (a1 a2 a3 a4 : Int) (a5 : Nat) (a6 a7 a8 : Int) (a9 : Option Addr) (a10 : List Int) (a11 : Nat) (a12 : Int) (a13 : Value) (a14 a15 a16 : Int) (a17 : Option Addr) (a18 : List Int) (a19 : Nat) : Ch := bx a0 [Qb a1, Qb a2, Qe a3, Qb a4, (pt a5 0), Qb a6, Qk a7, Qe a8, .slice a9 a10.length a11, Qb a12, a13, Qe a14, Qb a15, Qe a16, .slice a17 a18.length a19] 85
abbrev k7 (a0 : Nat) : Ch := bx a0 [Qe 0, Qb 0, Qe 0, Qb 0, Qk 0, Qe 0, .slice none 0 0] 96
abbrev k8 (a0 : Nat) (a1 a2 a3 : Int) (a4 : Option Addr) (a5 : List Int) (a6 : Nat) (a7 : Int) : Ch := bx a0 [Qb a1, Qk a2, Qe a3, .slice a4 a5.length a6, Qb a7] 26
abbrev k9 (a0 : Nat) (a1 a2 a3 a4 a5 a6 : Int) (a7 : Option Addr) (a8 : List Int) (a9 : Nat) : Ch := bx a0 [Qe a1, Qb a2, Qe a3, Qb a4, Qk a5, Qe a6, .slice a7 a8.length a9] 96
abbrev k10 (a0 : Nat) (a1 a2 a3 a4 a5 a6 a7 a8 a9 a10 a11 a12 a13 a14 a15 a16 a17 a18 a19 : Int) (a20 : Option Addr) (a21 : List Int) (a22 : Nat) (a23 : Bool) (a24 : Int) (a25 : Option Addr) (a26 : List M156) (a27 : Nat) (a28 : Option Addr) (a29 : List M96) (a30 : Nat) (a31 : Option Addr) (a32 : List Int) (a33 : Nat) : Ch := bx a0 [Qb a1, Qb a2, Qb a3, Qb a4, Qe a5, Qe a6, Qe a7, Qe a8, Qe a9, Qe a10, Qb a11, Qk a12, Qb a13, Qb a14, Qb a15, Qe a16, Qb a17, Qb a18, Qe a19, .slice a20 a21.length a22, .bool a23, Qb a24, .slice a25 a26.length a27, .slice a28 a29.length a30, .slice a31 a32.length a33] 48
abbrev k11 (a0 : Nat) (a1 a2 a3 : Int) : Ch := bx a0 [Qb a1, Qb a2, Qb a3, Qb 0, Qe 0, Qe 0, Qe 0, Qe 0, Qe 0, Qe 0, Qb 0, Qk 0, Qb 0, Qb 0, Qb 0, Qe 0, Qb 0, Qb 0, Qe 0, .slice none 0 0, .bool false, Qb 0, .slice none 0 0, .slice none 0 0, .slice none 0 0] 48
abbrev k12 (a0 : Nat) : Ch := bx a0 [Qb 0, Qb 0, Qb 0, Qb 0, Qe 0, Qe 0, Qe 0, Qe 0, Qe 0, Qe 0, Qb 0, Qk 0, Qb 0, Qb 0, Qb 0, Qe 0, Qb 0, Qb 0, Qe 0, .slice none 0 0, .bool false, Qb 0, .slice none 0 0, .slice none 0 0, .slice none 0 0] 48
abbrev k13 (a0 : Nat) (a1 a2 a3 a4 : Int) : Ch := bx a0 [Qb a1, Qb a2, Qb a3, Qb a4, Qe 0, Qe 0, Qe 0, Qe 0, Qe 0, Qe 0, Qb 0, Qk 0, Qb 0, Qb 0, Qb 0, Qe 0, Qb 0, Qb 0, Qe 0, .slice none 0 0, .bool false, Qb 0, .slice none 0 0, .slice none 0 0, .slice none 0 0] 48
abbrev k14 (a0 a1 a2 a3 a4 a5 a6 a7 a8 a9 a10 a11 a12 a13 a14 a15 a16 a17 a18 a19 a20 a21 a22 a23 a24 a25 a26 a27 a28 a29 a30 : Nat) : Ch := bx a0 [Qb 1, .func (.func 95) #[] #[(pt a1 0), (pt a2 0)], Qb 2, .func (.func 96) #[] #[(pt a3 0), (pt a4 0)], Qb 4, .func (.func 97) #[] #[(pt a5 0), (pt a6 0)], Qb 8, .func (.func 98) #[] #[(pt a7 0), (pt a8 0)], Qb 16, .func (.func 99) #[] #[(pt a9 0), (pt a10 0)], Qb 32, .func (.func 100) #[] #[(pt a11 0), (pt a12 0)], Qb 64, .func (.func 101) #[] #[(pt a13 0), (pt a14 0)], Qb 128, .func (.func 102) #[] #[(pt a15 0), (pt a16 0)], Qb 256, .func (.func 103) #[] #[(pt a17 0), (pt a18 0)], Qb 512, .func (.func 104) #[] #[(pt a19 0), (pt a20 0)], Qb 1024, .func (.func 105) #[] #[(pt a21 0), (pt a22 0)], Qb 2048, .func (.func 106) #[] #[(pt a23 0), (pt a24 0)], Qb 4096, .func (.func 107) #[] #[(pt a25 0), (pt a26 0)], Qb 8192, .func (.func 108) #[] #[(pt a27 0), (pt a28 0)], Qb 16384, .func (.func 109) #[] #[(pt a29 0), (pt a30 0)]] 163
abbrev k15 (a0 : Nat) (a1 a2 a3 a4 a5 : Int) : Ch := bx a0 [Qb a1, Qb a2, Qb a3, Qb a4, Qe a5, Qe 0, Qe 0, Qe 0, Qe 0, Qe 0, Qb 0, Qk 0, Qb 0, Qb 0, Qb 0, Qe 0, Qb 0, Qb 0, Qe 0, .slice none 0 0, .bool false, Qb 0, .slice none 0 0, .slice none 0 0, .slice none 0 0] 48
abbrev k16 (a0 : Nat) (a1 a2 a3 a4 a5 a6 : Int) : Ch := bx a0 [Qb a1, Qb a2, Qb a3, Qb a4, Qe a5, Qe a6, Qe 0, Qe 0, Qe 0, Qe 0, Qb 0, Qk 0, Qb 0, Qb 0, Qb 0, Qe 0, Qb 0, Qb 0, Qe 0, .slice none 0 0, .bool false, Qb 0, .slice none 0 0, .slice none 0 0, .slice none 0 0] 48
abbrev k17 (a0 : Nat) (a1 a2 a3 a4 a5 a6 a7 : Int) : Ch := bx a0 [Qb a1, Qb a2, Qb a3, Qb a4, Qe a5, Qe a6, Qe 0, Qe a7, Qe 0, Qe 0, Qb 0, Qk 0, Qb 0, Qb 0, Qb 0, Qe 0, Qb 0, Qb 0, Qe 0, .slice none 0 0, .bool false, Qb 0, .slice none 0 0, .slice none 0 0, .slice none 0 0] 48
abbrev k18 (a0 : Nat) (a1 a2 a3 a4 a5 a6 a7 a8 : Int) : Ch := bx a0 [Qb a1, Qb a2, Qb a3, Qb a4, Qe a5, Qe a6, Qe 0, Qe a7, Qe a8, Qe 0, Qb 0, Qk 0, Qb 0, Qb 0, Qb 0, Qe 0, Qb 0, Qb 0, Qe 0, .slice none 0 0, .bool false, Qb 0, .slice none 0 0, .slice none 0 0, .slice none 0 0] 48
abbrev k19 (a0 : Nat) (a1 a2 a3 a4 a5 a6 a7 a8 a9 : Int) : Ch := bx a0 [Qb a1, Qb a2, Qb a3, Qb a4, Qe a5, Qe a6, Qe 0, Qe a7, Qe a8, Qe 0, Qb a9, Qk 0, Qb 0, Qb 0, Qb 0, Qe 0, Qb 0, Qb 0, Qe 0, .slice none 0 0, .bool false, Qb 0, .slice none 0 0, .slice none 0 0, .slice none 0 0] 48
abbrev k20 (a0 : Nat) (a1 a2 a3 a4 a5 a6 a7 a8 a9 a10 : Int) : Ch := bx a0 [Qb a1, Qb a2, Qb a3, Qb a4, Qe a5, Qe a6, Qe a7, Qe a8, Qe a9, Qe 0, Qb a10, Qk 0, Qb 0, Qb 0, Qb 0, Qe 0, Qb 0, Qb 0, Qe 0, .slice none 0 0, .bool false, Qb 0, .slice none 0 0, .slice none 0 0, .slice none 0 0] 48
abbrev k21 (a0 : Nat) (a1 a2 a3 a4 a5 a6 a7 a8 a9 a10 a11 : Int) : Ch := bx a0 [Qb a1, Qb a2, Qb a3, Qb a4, Qe a5, Qe a6, Qe a7, Qe a8, Qe a9, Qe 0, Qb a10, Qk 0, Qb a11, Qb 0, Qb 0, Qe 0, Qb 0, Qb 0, Qe 0, .slice none 0 0, .bool false, Qb 0, .slice none 0 0, .slice none 0 0, .slice none 0 0] 48
abbrev k22 (a0 : Nat) (a1 a2 a3 a4 a5 a6 a7 a8 a9 a10 a11 a12 : Int) : Ch := bx a0 [Qb a1, Qb a2, Qb a3, Qb a4, Qe a5, Qe a6, Qe a7, Qe a8, Qe a9, Qe 0, Qb a10, Qk a11, Qb a12, Qb 0, Qb 0, Qe 0, Qb 0, Qb 0, Qe 0, .slice none 0 0, .bool false, Qb 0, .slice none 0 0, .slice none 0 0, .slice none 0 0] 48
abbrev k23 (a0 : Nat) (a1 a2 a3 a4 a5 a6 a7 a8 a9 a10 a11 a12 a13 : Int) : Ch := bx a0 [Qb a1, Qb a2, Qb a3, Qb a4, Qe a5, Qe a6, Qe a7, Qe a8, Qe a9, Qe a10, Qb a11, Qk a12, Qb a13, Qb 0, Qb 0, Qe 0, Qb 0, Qb 0, Qe 0, .slice none 0 0, .bool false, Qb 0, .slice none 0 0, .slice none 0 0, .slice none 0 0] 48
abbrev k24 (a0 : Nat) (a1 a2 a3 a4 a5 a6 a7 a8 a9 a10 a11 a12 a13 a14 a15 a16 a17 : Int) : Ch := bx a0 [Qb a1, Qb a2, Qb a3, Qb a4, Qe a5, Qe a6, Qe a7, Qe a8, Qe a9, Qe a10, Qb a11, Qk a12, Qb a13, Qb a14, Qb a15, Qe a16, Qb a17, Qb 0, Qe 0, .slice none 0 0, .bool false, Qb 0, .slice none 0 0, .slice none 0 0, .slice none 0 0] 48
abbrev k25 (a0 : Nat) (a1 a2 a3 a4 a5 a6 a7 a8 a9 a10 a11 a12 a13 a14 a15 a16 a17 a18 a19 : Int) (a20 : Option Addr) (a21 : List Int) (a22 : Nat) (a23 : Bool) (a24 : Int) : Ch := bx a0 [Qb a1, Qb a2, Qb a3, Qb a4, Qe a5, Qe a6, Qe a7, Qe a8, Qe a9, Qe a10, Qb a11, Qk a12, Qb a13, Qb a14, Qb a15, Qe a16, Qb a17, Qb a18, Qe a19, .slice a20 a21.length a22, .bool a23, Qb a24, .slice none 0 0, .slice none 0 0, .slice none 0 0] 48
abbrev k26 (a0 : Nat) (a1 a2 a3 a4 a5 a6 a7 a8 a9 a10 a11 a12 a13 a14 a15 a16 a17 a18 a19 : Int) (a20 : Option Addr) (a21 : List Int) (a22 : Nat) (a23 : Bool) (a24 : Int) (a25 : Option Addr) (a26 : List M156) (a27 : Nat) : Ch := bx a0 [Qb a1, Qb a2, Qb a3, Qb a4, Qe a5, Qe a6, Qe a7, Qe a8, Qe a9, Qe a10, Qb a11, Qk a12, Qb a13, Qb a14, Qb a15, Qe a16, Qb a17, Qb a18, Qe a19, .slice a20 a21.length a22, .bool a23, Qb a24, .slice a25 a26.length a27, .slice none 0 0, .slice none 0 0] 48
abbrev k27 (a0 : Nat) (a1 a2 a3 a4 a5 a6 a7 a8 a9 a10 a11 a12 a13 a14 a15 a16 a17 a18 a19 : Int) (a20 : Option Addr) (a21 : List Int) (a22 : Nat) (a23 : Bool) (a24 : Int) (a25 : Option Addr) (a26 : List M156) (a27 : Nat) (a28 : Option Addr) (a29 : List M96) (a30 : Nat) : Ch := bx a0 [Qb a1, Qb a2, Qb a3, Qb a4, Qe a5, Qe a6, Qe a7, Qe a8, Qe a9, Qe a10, Qb a11, Qk a12, Qb a13, Qb a14, Qb a15, Qe a16, Qb a17, Qb a18, Qe a19, .slice a20 a21.length a22, .bool a23, Qb a24, .slice a25 a26.length a27, .slice a28 a29.length a30, .slice none 0 0] 48
abbrev k28 (a0 a1 a2 a3 a4 : Nat) : Ch := bx a0 [.func (.func 130) #[] #[], .func (.func 152) #[] #[(pt a1 0), (pt a2 0)], .func (.func 154) #[] #[(pt a3 0), (pt a4 0)]] 134
abbrev k29 (a0 a1 a2 a3 a4 : Nat) : Ch := bx a0 [.func (.func 132) #[] #[], .func (.func 152) #[] #[(pt a1 0), (pt a2 0)], .func (.func 154) #[] #[(pt a3 0), (pt a4 0)]] 134
abbrev k30 (a0 a1 a2 : Nat) : Ch := bx a0 [.func (.func 135) #[] #[], .func (.func 156) #[] #[(pt a1 0)], .func (.func 157) #[] #[(pt a2 0)]] 134
abbrev k31 (a0 a1 a2 : Nat) : Ch := bx a0 [.func (.func 137) #[] #[], .func (.func 156) #[] #[(pt a1 0)], .func (.func 157) #[] #[(pt a2 0)]] 134
abbrev k32 (a0 a1 a2 : Nat) : Ch := bx a0 [.func (.func 140) #[] #[], .func (.func 156) #[] #[(pt a1 0)], .func (.func 157) #[] #[(pt a2 0)]] 134
abbrev k34 (a0 : Nat) (a1 a2 a3 a4 : Int) : Ch := bx a0 [Qb a1, Qb a2, Qe a3, Qb a4] 41
abbrev k35 (a0 : Nat) (a1 a2 a3 a4 a5 a6 : Int) : Ch := bx a0 [Qb a1, Qe a2, Qb a3, Qb a4, Qe a5, Qb a6] 156
abbrev k36 (a0 : Nat) (a1 a2 a3 a4 a5 : Int) (a6 : Option Addr) (a7 : List Int) (a8 : Nat) : Ch := bx a0 [Qe 0, Qb a1, Qe a2, Qb a3, Qk a4, Qe a5, .slice a6 a7.length a8] 96
abbrev k37 (a0 : Nat) (a1 a2 a3 a4 : Int) (a5 : Nat) (a6 a7 a8 : Int) (a9 : Option Addr) (a10 : List Int) (a11 : Nat) (a12 a13 a14 a15 : Int) (a16 : Option Addr) (a17 : List Int) (a18 : Nat) : Ch := bx a0 [Qb a1, Qb a2, Qe a3, Qb a4, (pt a5 0), Qb a6, Qk a7, Qe a8, .slice a9 a10.length a11, Qb a12, .pointer none, Qe a13, Qb a14, Qe a15, .slice a16 a17.length a18] 85
abbrev k38 (a0 : Nat) (a1 : Option Addr) (a2 : List Int) (a3 : Nat) : Ch := bx a0 [Qk 0, QfL 0, Qk 0, Qk 0, Qb 0, Qe 0, .slice a1 a2.length a3] 126
abbrev k39 (a0 : Nat) (a1 a2 a3 a4 a5 a6 : Int) : Ch := bx a0 [Qb 19, Qb a1, Qb a2, Qb a3, Qe a4, Qe 0, Qe a5, Qe 0, Qe 0, Qe 0, Qb 0, Qk a6, Qb 0, Qb 0, Qb 0, Qe 0, Qb 0, Qb 0, Qe 0, .slice none 0 0, .bool false, Qb 0, .slice none 0 0, .slice none 0 0, .slice none 0 0] 48
abbrev k40 (a0 : Nat) (a1 a2 a3 a4 : Int) (a5 : Option Addr) (a6 : List M96) (a7 : Nat) : Ch := bx a0 [Qb 17, Qb a1, Qb a2, Qb a3, Qe a4, Qe 0, Qe 0, Qe 0, Qe 0, Qe 0, Qb 0, Qk 0, Qb 0, Qb 0, Qb 0, Qe 0, Qb 0, Qb 0, Qe 0, .slice none 0 0, .bool false, Qb 0, .slice none 0 0, .slice a5 a6.length a7, .slice none 0 0] 48
abbrev k41 (a0 : Nat) (a1 a2 a3 : Int) : Ch := bx a0 [Qb 0, Qb a1, Qb 0, Qb a2, Qe a3, Qe 0, Qe 0, Qe 0, Qe 0, Qe 0, Qb 0, Qk 0, Qb 0, Qb 0, Qb 0, Qe 0, Qb 0, Qb 0, Qe 0, .slice none 0 0, .bool false, Qb 0, .slice none 0 0, .slice none 0 0, .slice none 0 0] 48
abbrev k42 (a0 : Nat) (a1 a2 a3 a4 : Int) (a5 : Nat) (a6 a7 a8 : Int) (a9 : Option Addr) (a10 : List Int) (a11 : Nat) (a12 : Int) (a13 : Nat) (a14 a15 a16 : Int) (a17 : Option Addr) (a18 : List Int) (a19 : Nat) : Ch := bx a0 [Qb a1, Qb a2, Qe a3, Qb a4, (pt a5 0), Qb a6, Qk a7, Qe a8, .slice a9 a10.length a11, Qb a12, (pt a13 0), Qe a14, Qb a15, Qe a16, .slice a17 a18.length a19] 85
abbrev k43 (a0 : Nat) (a1 a2 a3 : Int) (a4 : Nat) (a5 a6 a7 : Int) (a8 : Option Addr) (a9 : List Int) (a10 : Nat) (a11 : Int) (a12 : Option Addr) (a13 : List Int) (a14 : Nat) : Ch := bx a0 [Qb a1, Qb a2, Qe a3, Qb 0, (pt a4 0), Qb a5, Qk a6, Qe a7, .slice a8 a9.length a10, Qb a11, .pointer none, Qe 0, Qb 0, Qe 0, .slice a12 a13.length a14] 85
abbrev k44 (a0 : Nat) (a1 a2 a3 : Int) (a4 : Nat) (a5 a6 a7 : Int) (a8 : Option Addr) (a9 : List Int) (a10 : Nat) (a11 : Int) (a12 : Nat) (a13 : Option Addr) (a14 : List Int) (a15 : Nat) : Ch := bx a0 [Qb a1, Qb a2, Qe a3, Qb 0, (pt a4 0), Qb a5, Qk a6, Qe a7, .slice a8 a9.length a10, Qb a11, (pt a12 0), Qe 0, Qb 0, Qe 0, .slice a13 a14.length a15] 85
abbrev k45 (a0 : Nat) (a1 a2 a3 a4 : Int) (a5 : Nat) (a6 a7 a8 : Int) (a9 : Option Addr) (a10 : List Int) (a11 : Nat) (a12 : Int) (a13 : Option Addr) (a14 : List Int) (a15 : Nat) : Ch := bx a0 [Qb a1, Qb a2, Qe a3, Qb a4, (pt a5 0), Qb a6, Qk a7, Qe a8, .slice a9 a10.length a11, Qb a12, .pointer none, Qe 0, Qb 0, Qe 0, .slice a13 a14.length a15] 85
abbrev k46 (a0 : Nat) (a1 a2 a3 a4 : Int) (a5 : Option Addr) (a6 : List Int) (a7 : Nat) : Ch := bx a0 [Qk a1, QfL 0, Qk 0, Qk a2, Qb a3, Qe a4, .slice a5 a6.length a7] 126
abbrev k47 (a0 : Nat) : Ch := bx a0 [Qb 0, Qe 0, .slice none 0 0] 51
abbrev k48 (a0 : Nat) (a1 a2 : Int) (a3 : Option Addr) (a4 : List Int) (a5 : Nat) : Ch := bx a0 [Qb a1, Qe a2, .slice a3 a4.length a5] 51
abbrev k49 (a0 : Nat) (a1 a2 a3 : Int) : Ch := bx a0 [Qb 10, Qb a1, Qb a2, Qb a3, Qe 0, Qe 0, Qe 0, Qe 0, Qe 0, Qe 0, Qb 0, Qk 0, Qb 0, Qb 0, Qb 0, Qe 0, Qb 0, Qb 0, Qe 0, .slice none 0 0, .bool false, Qb 0, .slice none 0 0, .slice none 0 0, .slice none 0 0] 48
abbrev k50 (a0 : Nat) (a1 a2 a3 a4 : Int) (a5 : Nat) (a6 a7 a8 : Int) (a9 : Option Addr) (a10 : List Int) (a11 : Nat) (a12 : Int) (a13 : Nat) (a14 : Option Addr) (a15 : List Int) (a16 : Nat) : Ch := bx a0 [Qb a1, Qb a2, Qe a3, Qb a4, (pt a5 0), Qb a6, Qk a7, Qe a8, .slice a9 a10.length a11, Qb a12, (pt a13 0), Qe 0, Qb 0, Qe 0, .slice a14 a15.length a16] 85
abbrev k51 (a0 : Nat) : Ch := bx a0 [Qb 0, Qb 0, Qe 0, Qb 0, .slice none 0 0, Qb 0, Qk 0, Qe 0, .slice none 0 0, Qb 0, Qb 0, Qb 0, Qe 0, .slice none 0 0, Qe 0, Qb 0, Qe 0, .slice none 0 0] 60
abbrev k52 (a0 : Nat) (a1 a2 a3 a4 : Int) (a5 : Option Addr) (a6 : List M44) (a7 : Nat) (a8 a9 a10 : Int) (a11 : Option Addr) (a12 : List Int) (a13 : Nat) (a14 a15 a16 a17 : Int) (a18 : Option Addr) (a19 : List Int) (a20 : Nat) (a21 a22 a23 : Int) (a24 : Option Addr) (a25 : List Int) (a26 : Nat) : Ch := bx a0 [Qb a1, Qb a2, Qe a3, Qb a4, .slice a5 a6.length a7, Qb a8, Qk a9, Qe a10, .slice a11 a12.length a13, Qb a14, Qb a15, Qb a16, Qe a17, .slice a18 a19.length a20, Qe a21, Qb a22, Qe a23, .slice a24 a25.length a26] 60
abbrev k53 (a0 : Nat) (a1 a2 a3 a4 : Int) (a5 : Option Addr) (a6 : List Int) (a7 : Nat) (a8 : Int) (a9 : Bool) (a10 a11 a12 a13 a14 a15 a16 a17 a18 a19 a20 a21 a22 a23 a24 a25 a26 a27 a28 : Int) (a29 : Option Addr) (a30 : List Int) (a31 : Nat) (a32 : Bool) (a33 : Int) (a34 : Option Addr) (a35 : List M156) (a36 : Nat) (a37 : Option Addr) (a38 : List M96) (a39 : Nat) (a40 : Option Addr) (a41 : List Int) (a42 : Nat) : Ch := bx a0 [Qb a1, Qb a2, Qk a3, Qe a4, .slice a5 a6.length a7, Qb a8, .bool a9, Qb a10, Qb a11, Qb a12, Qb a13, Qe a14, Qe a15, Qe a16, Qe a17, Qe a18, Qe a19, Qb a20, Qk a21, Qb a22, Qb a23, Qb a24, Qe a25, Qb a26, Qb a27, Qe a28, .slice a29 a30.length a31, .bool a32, Qb a33, .slice a34 a35.length a36, .slice a37 a38.length a39, .slice a40 a41.length a42] 64
abbrev k55 (a0 : Nat) (a1 a2 a3 a4 : Int) (a5 : Option Addr) (a6 : List M44) (a7 : Nat) (a8 a9 a10 : Int) (a11 : Option Addr) (a12 : List Int) (a13 : Nat) (a14 a15 a16 a17 : Int) (a18 : Option Addr) (a19 : List Int) (a20 : Nat) : Ch := bx a0 [Qb a1, Qb a2, Qe a3, Qb a4, .slice a5 a6.length a7, Qb a8, Qk a9, Qe a10, .slice a11 a12.length a13, Qb a14, Qb 1, Qb 0, Qe 0, .slice none 0 0, Qe a15, Qb a16, Qe a17, .slice a18 a19.length a20] 60
abbrev k58 (a0 : Nat) (a1 a2 a3 a4 : Int) (a5 : Option Addr) (a6 : List M44) (a7 : Nat) (a8 a9 a10 : Int) (a11 : Option Addr) (a12 : List Int) (a13 : Nat) (a14 a15 a16 a17 a18 a19 : Int) : Ch := bx a0 [Qb a1, Qb a2, Qe a3, Qb a4, .slice a5 a6.length a7, Qb a8, Qk a9, Qe a10, .slice a11 a12.length a13, Qb a14, Qb 2, Qb a15, Qe a16, .slice none 0 0, Qe a17, Qb a18, Qe a19, .slice none 0 0] 60
abbrev k59 (a0 : Nat) (a1 a2 a3 a4 : Int) (a5 : Option Addr) (a6 : List M44) (a7 : Nat) (a8 a9 a10 : Int) (a11 : Option Addr) (a12 : List Int) (a13 : Nat) (a14 a15 : Int) (a16 : Option Addr) (a17 : List Int) (a18 : Nat) (a19 a20 : Int) (a21 : Option Addr) (a22 : List Int) (a23 : Nat) : Ch := bx a0 [Qb a1, Qb a2, Qe a3, Qb a4, .slice a5 a6.length a7, Qb a8, Qk a9, Qe a10, .slice a11 a12.length a13, Qb a14, Qb 2, Qb 0, Qe a15, .slice a16 a17.length a18, Qe a19, Qb 0, Qe a20, .slice a21 a22.length a23] 60
abbrev k60 (a0 : Nat) (a1 : Option Addr) (a2 : List Int) (a3 : Nat) : Ch := bx a0 [Qb 0, Qe 0, .slice a1 a2.length a3] 51
abbrev k61 (a0 : Nat) : Ch := bx a0 [Qb 0, Qk 0, Qe 0, .slice none 0 0, Qb 0] 26
abbrev k63 (a0 : Nat) (a1 a2 a3 a4 : Int) (a5 : Option Addr) (a6 : List Int) (a7 : Nat) : Ch := bx a0 [Qk a1, QfL 1, Qk 0, Qk a2, Qb a3, Qe a4, .slice a5 a6.length a7] 126
abbrev k64 (a0 : Nat) (a1 a2 a3 : Int) (a4 : Option Addr) (a5 : List Int) (a6 : Nat) : Ch := bx a0 [Qk a1, QfL 1, Qk 0, Qk 1, Qb a2, Qe a3, .slice a4 a5.length a6] 126
abbrev k65 (a0 : Nat) (a1 a2 a3 : Int) (a4 : Option Addr) (a5 : List Int) (a6 : Nat) : Ch := bx a0 [Qk 1, QfL 1, Qk 0, Qk a1, Qb a2, Qe a3, .slice a4 a5.length a6] 126
def gl0 : List Value := [.string (strOf ([])), Qb 0, Qb 0, Qb 0, Qb 0, Qb 0, Qb 0, .string (strOf ([112, 114, 101, 112, 97, 114, 101])), Qb 4, Qb 32, Qb 0, Qb 0, Qb 0, Qb 0, .string (strOf ([112, 114, 111, 109, 105, 115, 101])), Qb 4, Qb 32, Qb 4096, Qb 0, Qb 0, Qb 0, .string (strOf ([97, 99, 99, 101, 112, 116])), Qb 4, Qb 32, Qb 1024, Qb 0, Qb 0, Qb 0, .string (strOf ([97, 99, 99, 101, 112, 116, 101, 100])), Qb 4, Qb 32, Qb 0, Qb 0, Qb 0, Qb 0, .string (strOf ([99, 104, 111, 115, 101, 110])), Qb 32, Qb 1024, Qb 0, Qb 0, Qb 0, Qb 0, .string (strOf ([98, 101, 97, 116])), Qb 4, Qb 32, Qb 0, Qb 0, Qb 0, Qb 0, .string (strOf ([119, 97, 110, 116])), Qb 32, Qb 0, Qb 0, Qb 0, Qb 0, Qb 0, .string (strOf ([114, 101, 102, 117, 115, 101])), Qb 4, Qb 0, Qb 0, Qb 0, Qb 0, Qb 0, .string (strOf ([114, 101, 112, 111, 114, 116])), Qb 1024, Qb 0, Qb 0, Qb 0, Qb 0, Qb 0, .string (strOf ([108, 111, 99, 97, 116, 101])), Qb 1, Qb 0, Qb 0, Qb 0, Qb 0, Qb 0, .string (strOf ([99, 111, 110, 102, 105, 103])), Qb 2048, Qb 0, Qb 0, Qb 0, Qb 0, Qb 0, .string (strOf ([112, 117, 115, 104])), Qb 1, Qb 2, Qb 8, Qb 16, Qb 8192, Qb 0, .string (strOf ([97, 99, 107])), Qb 1, Qb 2, Qb 8, Qb 16, Qb 64, Qb 32, .string (strOf ([112, 97, 114, 116])), Qb 1, Qb 2, Qb 8, Qb 32, Qb 64, Qb 16384, .string (strOf ([113, 117, 101, 114, 121])), Qb 1, Qb 2, Qb 64, Qb 256, Qb 0, Qb 0, .string (strOf ([116, 111, 108, 100])), Qb 1, Qb 2, Qb 64, Qb 256, Qb 512, Qb 0, .string (strOf ([119, 114, 105, 116, 101])), Qb 1, Qb 2, Qb 8192, Qb 0, Qb 0, Qb 0, .string (strOf ([119, 114, 111, 116, 101])), Qb 64, Qb 128, Qb 512, Qb 0, Qb 0, Qb 0, .string (strOf ([114, 101, 97, 100])), Qb 1, Qb 2, Qb 64, Qb 256, Qb 0, Qb 0, .string (strOf ([103, 111, 116])), Qb 64, Qb 256, Qb 512, Qb 16384, Qb 0, Qb 0]
def QhF : List M161 := [(M161.mk ([]) (M159.mk 0 0 0 0 0 0)), (M161.mk ([112, 114, 101, 112, 97, 114, 101]) (M159.mk 4 32 0 0 0 0)), (M161.mk ([112, 114, 111, 109, 105, 115, 101]) (M159.mk 4 32 4096 0 0 0)), (M161.mk ([97, 99, 99, 101, 112, 116]) (M159.mk 4 32 1024 0 0 0)), (M161.mk ([97, 99, 99, 101, 112, 116, 101, 100]) (M159.mk 4 32 0 0 0 0)), (M161.mk ([99, 104, 111, 115, 101, 110]) (M159.mk 32 1024 0 0 0 0)), (M161.mk ([98, 101, 97, 116]) (M159.mk 4 32 0 0 0 0)), (M161.mk ([119, 97, 110, 116]) (M159.mk 32 0 0 0 0 0)), (M161.mk ([114, 101, 102, 117, 115, 101]) (M159.mk 4 0 0 0 0 0)), (M161.mk ([114, 101, 112, 111, 114, 116]) (M159.mk 1024 0 0 0 0 0)), (M161.mk ([108, 111, 99, 97, 116, 101]) (M159.mk 1 0 0 0 0 0)), (M161.mk ([99, 111, 110, 102, 105, 103]) (M159.mk 2048 0 0 0 0 0)), (M161.mk ([112, 117, 115, 104]) (M159.mk 1 2 8 16 8192 0)), (M161.mk ([97, 99, 107]) (M159.mk 1 2 8 16 64 32)), (M161.mk ([112, 97, 114, 116]) (M159.mk 1 2 8 32 64 16384)), (M161.mk ([113, 117, 101, 114, 121]) (M159.mk 1 2 64 256 0 0)), (M161.mk ([116, 111, 108, 100]) (M159.mk 1 2 64 256 512 0)), (M161.mk ([119, 114, 105, 116, 101]) (M159.mk 1 2 8192 0 0 0)), (M161.mk ([119, 114, 111, 116, 101]) (M159.mk 64 128 512 0 0 0)), (M161.mk ([114, 101, 97, 100]) (M159.mk 1 2 64 256 0 0)), (M161.mk ([103, 111, 116]) (M159.mk 64 256 512 16384 0 0))]
theorem QiG {ih : IH} (h : Glob 0 gl0 162 ih) : RSl QiO ih [] (some ⟨0, 0, none⟩) 21 QhF := RSl.ofEL h (EL.cons (E := QiO) (c1 := [.string (strOf ([])), Qb 0, Qb 0, Qb 0, Qb 0, Qb 0, Qb 0]) rfl (EL.cons (E := QiO) (c1 := [.string (strOf ([112, 114, 101, 112, 97, 114, 101])), Qb 4, Qb 32, Qb 0, Qb 0, Qb 0, Qb 0]) rfl (EL.cons (E := QiO) (c1 := [.string (strOf ([112, 114, 111, 109, 105, 115, 101])), Qb 4, Qb 32, Qb 4096, Qb 0, Qb 0, Qb 0]) rfl (EL.cons (E := QiO) (c1 := [.string (strOf ([97, 99, 99, 101, 112, 116])), Qb 4, Qb 32, Qb 1024, Qb 0, Qb 0, Qb 0]) rfl (EL.cons (E := QiO) (c1 := [.string (strOf ([97, 99, 99, 101, 112, 116, 101, 100])), Qb 4, Qb 32, Qb 0, Qb 0, Qb 0, Qb 0]) rfl (EL.cons (E := QiO) (c1 := [.string (strOf ([99, 104, 111, 115, 101, 110])), Qb 32, Qb 1024, Qb 0, Qb 0, Qb 0, Qb 0]) rfl (EL.cons (E := QiO) (c1 := [.string (strOf ([98, 101, 97, 116])), Qb 4, Qb 32, Qb 0, Qb 0, Qb 0, Qb 0]) rfl (EL.cons (E := QiO) (c1 := [.string (strOf ([119, 97, 110, 116])), Qb 32, Qb 0, Qb 0, Qb 0, Qb 0, Qb 0]) rfl (EL.cons (E := QiO) (c1 := [.string (strOf ([114, 101, 102, 117, 115, 101])), Qb 4, Qb 0, Qb 0, Qb 0, Qb 0, Qb 0]) rfl (EL.cons (E := QiO) (c1 := [.string (strOf ([114, 101, 112, 111, 114, 116])), Qb 1024, Qb 0, Qb 0, Qb 0, Qb 0, Qb 0]) rfl (EL.cons (E := QiO) (c1 := [.string (strOf ([108, 111, 99, 97, 116, 101])), Qb 1, Qb 0, Qb 0, Qb 0, Qb 0, Qb 0]) rfl (EL.cons (E := QiO) (c1 := [.string (strOf ([99, 111, 110, 102, 105, 103])), Qb 2048, Qb 0, Qb 0, Qb 0, Qb 0, Qb 0]) rfl (EL.cons (E := QiO) (c1 := [.string (strOf ([112, 117, 115, 104])), Qb 1, Qb 2, Qb 8, Qb 16, Qb 8192, Qb 0]) rfl (EL.cons (E := QiO) (c1 := [.string (strOf ([97, 99, 107])), Qb 1, Qb 2, Qb 8, Qb 16, Qb 64, Qb 32]) rfl (EL.cons (E := QiO) (c1 := [.string (strOf ([112, 97, 114, 116])), Qb 1, Qb 2, Qb 8, Qb 32, Qb 64, Qb 16384]) rfl (EL.cons (E := QiO) (c1 := [.string (strOf ([113, 117, 101, 114, 121])), Qb 1, Qb 2, Qb 64, Qb 256, Qb 0, Qb 0]) rfl (EL.cons (E := QiO) (c1 := [.string (strOf ([116, 111, 108, 100])), Qb 1, Qb 2, Qb 64, Qb 256, Qb 512, Qb 0]) rfl (EL.cons (E := QiO) (c1 := [.string (strOf ([119, 114, 105, 116, 101])), Qb 1, Qb 2, Qb 8192, Qb 0, Qb 0, Qb 0]) rfl (EL.cons (E := QiO) (c1 := [.string (strOf ([119, 114, 111, 116, 101])), Qb 64, Qb 128, Qb 512, Qb 0, Qb 0, Qb 0]) rfl (EL.cons (E := QiO) (c1 := [.string (strOf ([114, 101, 97, 100])), Qb 1, Qb 2, Qb 64, Qb 256, Qb 0, Qb 0]) rfl (EL.cons (E := QiO) (c1 := [.string (strOf ([103, 111, 116])), Qb 64, Qb 256, Qb 512, Qb 16384, Qb 0, Qb 0]) rfl EL.nil)))))))))))))))))))))
theorem QmZ : AppT Tryz.prog 24 e5 := QiM (by kernel_rfl)
theorem Qly : AppT Tryz.prog 28 e44 := QiM (by kernel_rfl)
theorem Qlx : AppT Tryz.prog 36 e48 := QiM (by kernel_rfl)
theorem QhS : AppT Tryz.prog 42 e3 := QiM (by kernel_rfl)
theorem Qg1 : AppT Tryz.prog 129 Qbz := QiM (by kernel_rfl)
def QdP (x1 : List M44) (x2 : Int) : Option ((List M44) × Int) :=
 if (decide (x2 > 24)) = true then some ([], 9)
 else some (x1, 0)
def QdO (rec_catenaryref09_Begin_l18 : (List M44) → Int → Int → Option ((List M44) × Int)) (x1 : List M44) (x2 x3 : Int) (x4 : List Int) : Option ((List M44) × Int) :=
 (app x1 [(M44.mk x2 1 x4 false 0)]).bind fun x5 =>
 rec_catenaryref09_Begin_l18 x5 x3 (IntKind.i64.wrap (x2 + 1))
def Qb4 (x1 : Int) : Nat → Int → Int → (List Int) → Option (Int × (List Int))
 | 0, _, _, _ => none
 | j + 1, x2, x3, x4 =>
  if (decide (x3 < x1)) = true then (
   (app x4 [(IntKind.i64.wrap (x2 + 1))]).bind fun x5 =>
   Qb4 x1 j (IntKind.i64.wrap (x2 + 1)) (IntKind.i64.wrap (x3 + 1)) x5)
  else some (x2, x4)
def QaP (k : Nat) (x1 : Int) (x2 : Int) : Nat → (List M44) → Int → Int → Option ((List M44) × Int)
 | 0, _, _, _ => none
 | j + 1, x3, x4, x5 =>
  if (decide (x5 < x1)) = true then (Qb4 x2 k x4 0 ([]) : Option (Int × (List Int))).bind fun s1 => QdO (QaP k x1 x2 j) x3 x5 s1.1 s1.2
  else some (x3, x4)
def Qfa (k : Nat) (x1 x2 : Int) : Option ((List M44) × Int) :=
 if ((decide (x1 < 1)) || ((decide (x1 > 4)) || ((decide (x2 < 1)) || (decide (x2 > 5))))) = true then some ([], 1)
 else (QaP k x1 x2 k ([]) 0 0 : Option ((List M44) × Int)).bind fun s1 => QdP s1.1 s1.2
theorem QgT {k : Nat} {x1 x2 : Int} {r : (List M44) × Int} (hk : Qfa k x1 x2 = some r) {g w : World} {F : Ch} {ih : IH} (hw : St g w [F] ih) :
  CallsR Tryz.prog 6 #[Qb x1, Qb x2] w fun v w' => ∃ (ih' : IH) (p1 : Option Addr) (c1 : Nat) (d1 : Ch), v = .tuple #[.slice p1 r.1.length c1, Qb r.2] ∧ St g w' [d1, F] ih' ∧ Le ih ih' ∧ OSl e44 ih' p1 c1 r.1 d1 := by
 refine f_i Tryz.func6 rfl 52 rfl fun a Qf hQ hQn hs => ?_
 refine Qd (Qa (pn hs 2 [(0, Qb x1), (1, Qb x2)] fun a hs => ?_))
 refine Qc (Qd (Qd ?_))
 obtain ⟨J1, hJ1⟩ := mkJ fun a w => Sees a 52 [(0, Qb x1), (1, Qb x2), (24, .bool ((decide (x1 < 1)) || ((decide (x1 > 4)) || ((decide (x2 < 1)) || (decide (x2 > 5))))))] ∧ St g w [F] ih
 refine Qn J1 ?_ ?_
 ·refine pu hs 3 fun a hs => ?_
  rcases boolE (decide (x1 < 1)) with h1 | h1
  ·have hs := hs.aB 13 h1
   refine pu hs 11 fun a hs => Qc ?_
   exact (hJ1 _ _).2 ⟨(hs.bB 24 h1 true ((decide (x1 < 1)) || ((decide (x1 > 4)) || ((decide (x2 < 1)) || (decide (x2 > 5)))))).cst, hw.pk [0]⟩
  have hs := hs.aB 13 h1
  refine pu hs 4 fun a hs => ?_
  rcases boolE (decide (x1 > 4)) with h2 | h2
  ·have hs := hs.aB 17 h2
   refine pu hs 7 fun a hs => Qc ?_
   exact (hJ1 _ _).2 ⟨(hs.altB (b := true) 24 ((decide (x1 < 1)) || ((decide (x1 > 4)) || ((decide (x2 < 1)) || (decide (x2 > 5))))) (by kernel_rfl) (by first | (rw [h1, h2] <;> rfl) | (revert h1 h2; simp +contextual))).cast [0, 1, 24] (by kernel_rfl), hw.pk [0]⟩
  have hs := hs.aB 17 h2
  refine pu hs 4 fun a hs => ?_
  rcases boolE (decide (x2 < 1)) with h3 | h3
  ·have hs := hs.aB 21 h3
   refine pu hs 3 fun a hs => Qc ?_
   exact (hJ1 _ _).2 ⟨(hs.altB (b := true) 24 ((decide (x1 < 1)) || ((decide (x1 > 4)) || ((decide (x2 < 1)) || (decide (x2 > 5))))) (by kernel_rfl) (by first | (rw [h1, h2, h3] <;> rfl) | (revert h1 h2 h3; simp +contextual))).cast [0, 1, 24] (by kernel_rfl), hw.pk [0]⟩
  have hs := hs.aB 21 h3
  refine pu hs 3 fun a hs => Qc ?_
  exact (hJ1 _ _).2 ⟨(hs.altB (b := (decide (x2 > 5))) 24 ((decide (x1 < 1)) || ((decide (x1 > 4)) || ((decide (x2 < 1)) || (decide (x2 > 5))))) (by kernel_rfl) (by first | (rw [h1, h2, h3] <;> rfl) | (revert h1 h2 h3; simp +contextual))).cast [0, 1, 24] (by kernel_rfl), hw.pk [0]⟩
 intro a w hh
 obtain ⟨hs, hw⟩ := (hJ1 _ _).1 hh
 rcases ifbE hk with ⟨h4, hk⟩ | ⟨h4, hk⟩
 ·refine Qr hs h4 ?_
  refine Qd (Qa (pn hs 2 [(4, .slice none 0 0), (5, Qb 1)] fun a hs => ?_))
  refine Qc (Qi ?_)
  have hw := hw.nil
  obtain rfl := someE hk
  refine hQ _ _ (Q4 hs [.tmp 4, .tmp 5] rfl [.slice none 0 0, Qb 1] (by kernel_rfl) (by kernel_rfl) ⟨ih, none, 0, ([]), rfl, hw.pk [0, 1], (Le.refl _), (OSl.nil _ _)⟩)
 refine Qs hs h4 ?_
 refine Qg (Qd (Qa (pn hs 1 [(0, Qb x1), (1, Qb x2), (6, .slice none 0 0)] fun a hs => ?_)))
 refine Qc (Qd (Qa (pn hs 1 [(0, Qb x1), (1, Qb x2), (6, .slice none 0 0), (7, Qb 0)] fun a hs => ?_)))
 refine Qc (Qd (Qd (Qa (pn hs 1 [(0, Qb x1), (1, Qb x2), (6, .slice none 0 0), (7, Qb 0), (8, Qb 0)] fun a hs => ?_))))
 refine Qc (Ql ?_)
 obtain ⟨y1, hx1, hk⟩ := bindE hk
 have hw := hw.nil
 obtain ⟨J2, hJ2⟩ := mkJ fun a w => ∃ (x3 : List M44) (x4 : Int) (p2 : Option Addr) (c2 : Nat) (d2 : Ch) (ih1 : IH), QdP x3 x4 = some r ∧ Sees a 52 [(6, .slice p2 x3.length c2), (7, Qb x4)] ∧ St g w [d2, F] ih1 ∧ Le ih ih1 ∧ OSl e44 ih1 p2 c2 x3 d2
 obtain ⟨I1, hI1⟩ := QhB fun j a w => ∃ (x5 : List M44) (x6 x7 : Int) (p3 : Option Addr) (c3 : Nat) (d3 : Ch) (ih2 : IH), QaP k x1 x2 j x5 x6 x7 = some y1 ∧ Sees a 52 [(0, Qb x1), (1, Qb x2), (6, .slice p3 x5.length c3), (7, Qb x6), (8, Qb x7)] ∧ St g w [d3, F] ih2 ∧ Le ih ih2 ∧ OSl e44 ih2 p3 c3 x5 d3
 refine Qau 0 J2 ?_ ?_
 ·refine QbO I1 k ((hI1 _ _ _).2 ⟨([]), 0, 0, none, 0, ([]), ih, hx1, hs.cst, hw.pk [0, 1], (Le.refl _), (OSl.nil _ _)⟩) (fun a w h5 => ?_) fun j a w hh => ?_
  ·obtain ⟨_, _, _, _, _, _, _, h, _⟩ := (hI1 _ _ _).1 h5
   cases h
  obtain ⟨x5, x6, x7, p3, c3, d3, ih2, hx1, hs, hw, hle1, h6⟩ := (hI1 _ _ _).1 hh
  refine Qd (Qd (Qa (pn hs 3 [(0, Qb x1), (1, Qb x2), (6, .slice p3 x5.length c3), (7, Qb x6), (8, Qb x7), (27, .bool (decide (x7 < x1)))] fun a hs => ?_)))
  refine Qc ?_
  rcases ifbE hx1 with ⟨h7, hx1⟩ | ⟨h7, hx1⟩
  ·refine Qr hs h7 ?_
   refine Qg (Qd (Ql (Qd (Qa (pu hs 2 fun a hs => ?_)))))
   refine QaN hs hw [Qb 0, Qe 0, .slice none 0 0, .bool false, Qb 0] 44 (fun b => (pt b 0)) fun a w b1 hs hw => ?_
   refine QE hs hw 0 rfl 0 (v := .agg #[Qb x7, Qe 1, .slice none 0 0, .bool false, Qb 0]) fun a w hs hw => ?_
   have hs := hs.cst (e' := [(0, Qb x1), (1, Qb x2), (6, .slice p3 x5.length c3), (7, Qb x6), (8, Qb x7), (9, (pt b1 0))])
   refine Qc (Qd (Qd (Qa (pn hs 1 [(0, Qb x1), (1, Qb x2), (6, .slice p3 x5.length c3), (7, Qb x6), (8, Qb x7), (9, (pt b1 0)), (10, Qb 0)] fun a hs => ?_))))
   refine Qc (Ql ?_)
   obtain ⟨y2, hx2, hx1⟩ := bindE hx1
   have hw := hw.nil
   obtain ⟨J3, hJ3⟩ := mkJ fun a w => ∃ (x8 : Int) (x9 : List Int) (p4 : Option Addr) (c4 : Nat) (d4 : Ch), QdO (QaP k x1 x2 j) x5 x7 x8 x9 = some y1 ∧ Sees a 52 [(0, Qb x1), (1, Qb x2), (6, .slice p3 x5.length c3), (7, Qb x8), (8, Qb x7), (9, (pt b1 0))] ∧ St g w [k1 b1 x7 p4 x9 c4, d3, d4, F] ih2 ∧ OSl e3 ih2 p4 c4 x9 d4
   obtain ⟨I2, hI2⟩ := QhB fun j a w => ∃ (x10 x11 : Int) (x12 : List Int) (p5 : Option Addr) (c5 : Nat) (d5 : Ch), Qb4 x2 j x10 x11 x12 = some y2 ∧ Sees a 52 [(0, Qb x1), (1, Qb x2), (6, .slice p3 x5.length c3), (7, Qb x10), (8, Qb x7), (9, (pt b1 0)), (10, Qb x11)] ∧ St g w [k1 b1 x7 p5 x12 c5, d3, d5, F] ih2 ∧ OSl e3 ih2 p5 c5 x12 d5
   refine Qau 2 J3 ?_ ?_
   ·refine QbO I2 k ((hI2 _ _ _).2 ⟨x6, 0, ([]), none, 0, ([]), hx2, hs.cst, hw.pk [1, 2, 0, 3], (OSl.nil _ _)⟩) (fun a w h5 => ?_) fun j a w hh => ?_
    ·obtain ⟨_, _, _, _, _, _, h, _⟩ := (hI2 _ _ _).1 h5
     cases h
    obtain ⟨x10, x11, x12, p5, c5, d5, hx2, hs, hw, h8⟩ := (hI2 _ _ _).1 hh
    refine Qd (Qd (Qa (pn hs 3 [(0, Qb x1), (1, Qb x2), (6, .slice p3 x5.length c3), (7, Qb x10), (8, Qb x7), (9, (pt b1 0)), (10, Qb x11), (34, .bool (decide (x11 < x2)))] fun a hs => ?_)))
    refine Qc ?_
    rcases ifbE hx2 with ⟨h9, hx2⟩ | ⟨h9, hx2⟩
    ·refine Qr hs h9 ?_
     refine Qg (Qd (Ql (Qd (Qa (pn hs 3 [(0, Qb x1), (1, Qb x2), (6, .slice p3 x5.length c3), (7, Qb (IntKind.i64.wrap (x10 + 1))), (8, Qb x7), (9, (pt b1 0)), (10, Qb x11)] fun a hs => ?_)))))
     refine Qc (Qa (pu hs 1 fun a hs => ?_))
     refine Qj hs (hw.at_ 0 rfl) 2 fun a hs => pu hs 1 fun a hs => QaN hs hw [Qb (IntKind.i64.wrap (x10 + 1))] 3 (fun b => .slice (some ⟨b, 0, none⟩) 1 1) fun a w b2 hs hw => ?_
     obtain ⟨x13, h10, hx2⟩ := bindE hx2
     refine Qhk hs hw (E := e3) QhS 3 rfl h8 (by kernel_rfl) (by kernel_rfl) (c2 := 1) (by kernel_rfl) (hw.at_ 0 rfl) (z := (IntKind.i64.wrap (x10 + 1))) rfl h10 fun a w p6 c6 d6 h11 hw hs => ?_
     refine pu hs 1 fun a hs => QE hs hw 1 rfl 2 (v := .slice p6 x13.length c6) fun a w hs hw => ?_
     have hs := hs.cst (e' := [(0, Qb x1), (1, Qb x2), (6, .slice p3 x5.length c3), (7, Qb (IntKind.i64.wrap (x10 + 1))), (8, Qb x7), (9, (pt b1 0)), (10, Qb x11)])
     refine Qc (Qa (pu hs 3 fun a hs => ?_))
     refine Qc ?_
     exact (hI2 _ _ _).2 ⟨(IntKind.i64.wrap (x10 + 1)), (IntKind.i64.wrap (x11 + 1)), x13, p6, c6, d6, hx2, hs.cst, hw.pk [1, 2, 3, 4], h11⟩
    refine Qs hs h9 (Qa3 ?_)
    obtain rfl := someE hx2
    exact (hJ3 _ _).2 ⟨x10, x12, p5, c5, d5, hx1, hs.cst, hw.pk [0, 1, 2, 3], h8⟩
   intro a w hh
   obtain ⟨x8, x9, p4, c4, d4, hx1, hs, hw, h12⟩ := (hJ3 _ _).1 hh
   refine Qa (pu hs 1 fun a hs => ?_)
   refine Qj hs (hw.at_ 0 rfl) 0 fun a hs => ?_
   obtain ⟨ih3, hle2, hw, h13⟩ := (hw.pk [2, 0, 1, 3]).fz (h12.mono (Le.refl _))
   refine QaN hs hw [Qb x7, Qe 1, .slice p4 x9.length c4, .bool false, Qb 0] 44 (fun b => .slice (some ⟨b, 0, none⟩) 1 1) fun a w b3 hs hw => ?_
   obtain ⟨x14, h14, hx1⟩ := bindE hx1
   refine Qhk hs hw (E := e44) Qly 2 rfl (h6.mono hle2) (by kernel_rfl) (by kernel_rfl) (c2 := 1) (by kernel_rfl) (hw.at_ 0 rfl) (z := (M44.mk x7 1 x9 false 0)) ⟨p4, c4, rfl, h13⟩ h14 fun a w p7 c7 d7 h15 hw hs => ?_
   refine pn hs 1 [(0, Qb x1), (1, Qb x2), (7, Qb x8), (8, Qb x7), (6, .slice p7 x14.length c7)] fun a hs => Qc (Qa (pu hs 3 fun a hs => ?_))
   refine Qc ?_
   exact (hI1 _ _ _).2 ⟨x14, x8, (IntKind.i64.wrap (x7 + 1)), p7, c7, d7, ih3, hx1, hs.cst, hw.pk [2, 3], (hle1.trans hle2), h15⟩
  refine Qs hs h7 (Qa3 ?_)
  obtain rfl := someE hx1
  exact (hJ2 _ _).2 ⟨x5, x6, p3, c3, d3, ih2, hk, hs.cst, hw.pk [0, 1], hle1, h6⟩
 intro a w hh
 obtain ⟨x3, x4, p2, c2, d2, ih1, hk, hs, hw, hle3, h16⟩ := (hJ2 _ _).1 hh
 refine Qd (Qd (Qa (pn hs 2 [(6, .slice p2 x3.length c2), (50, .bool (decide (x4 > 24)))] fun a hs => ?_)))
 refine Qc ?_
 rcases ifbE hk with ⟨h17, hk⟩ | ⟨h17, hk⟩
 ·refine Qr hs h17 ?_
  refine Qd (Qa (pn hs 2 [(4, .slice none 0 0), (5, Qb 9)] fun a hs => ?_))
  refine Qc (Qi ?_)
  have hw := hw.nil
  obtain rfl := someE hk
  refine hQ _ _ (Q4 hs [.tmp 4, .tmp 5] rfl [.slice none 0 0, Qb 9] (by kernel_rfl) (by kernel_rfl) ⟨ih1, none, 0, ([]), rfl, hw.pk [0, 2], hle3, (OSl.nil _ _)⟩)
 refine Qs hs h17 ?_
 refine Qg (Qd (Qa (pn hs 3 [(4, .slice p2 x3.length c2), (5, Qb 0)] fun a hs => ?_)))
 refine Qc (Qi ?_)
 obtain rfl := someE hk
 refine hQ _ _ (Q4 hs [.tmp 4, .tmp 5] rfl [.slice p2 x3.length c2, Qb 0] (by kernel_rfl) (by kernel_rfl) ⟨ih1, p2, c2, d2, rfl, hw.pk [0, 1], hle3, h16⟩)
def Q0 (x1 : List Int) : Option (List Int) :=
 (app [] x1).bind fun x => some x
theorem Qa4 {x1 : List Int} {d1 : Ch} {c1 : Nat} {p1 : Option Addr} {r : List Int} (hk : Q0 x1 = some r) {g w : World} {F : Ch} {ih : IH} (h1 : RSl e3 ih d1 p1 c1 x1) (h2 : ∀ q ∈ d1, q ∈ F) (hw : St g w [F] ih) :
  CallsR Tryz.prog 124 #[.slice p1 x1.length c1] w fun v w' => ∃ (p : Option Addr) (c : Nat) (d : Ch), v = .slice p r.length c ∧ St g w' [d, F] ih ∧ OSl e3 ih p c r d := by
 rcases p1 with _ | q
 ·obtain ⟨_, rfl, rfl⟩ := h1
  replace hk : some [] = some r := hk
  refine QmS (vs := [.slice none 0 0]) Tryz.func124 rfl 8 rfl (by kernel_rfl) [(0, .slice none 0 0)] (by kernel_rfl) fun a Qf hQ hQn hs => ?_
  refine Qd (Qa (pn hs 1 [(0, .slice none 0 0)] fun a hs => ?_))
  refine Qc (Qd (Qd (Qa (pn hs 2 [(0, .slice none 0 0), (4, .bool true)] fun a hs => ?_))))
  refine Qc (Qgb hs (Qd (Qa (pn hs 1 [(2, .slice none 0 0)] fun a hs => ?_))))
  refine Qc (Qi ?_)
  have hw := hw.nil
  obtain rfl := someE hk
  refine hQ _ _ (QjK hs rfl (v := .slice none 0 0) (by kernel_rfl) ⟨none, 0, ([]), rfl, hw.pk [0, 1], (OSl.nil _ _)⟩)
 refine QmS (vs := [.slice (some q) x1.length c1]) Tryz.func124 rfl 8 rfl (by kernel_rfl) [(0, .slice (some q) x1.length c1)] (by kernel_rfl) fun a Qf hQ hQn hs => ?_
 refine Qd (Qa (pn hs 1 [(0, .slice (some q) x1.length c1)] fun a hs => ?_))
 refine Qc (Qd (Qd (Qa (pn hs 2 [(0, .slice (some q) x1.length c1), (4, .bool false)] fun a hs => ?_))))
 refine Qc (QhJ hs (Qg (Qd (Qa (QC hs hw [] 3 (fun b => .slice (some ⟨b, 0, none⟩) 0 0) (by kernel_rfl) (fun _ => by kernel_rfl) fun a w b1 hs hw => ?_)))))
 refine pu hs 1 fun a hs => ?_
 obtain ⟨x2, h3, hk⟩ := bindE hk
 refine Qi1 hs hw (E := e3) QhS 0 rfl (OSl.of0 (ih := ih) (b := b1)) (by kernel_rfl) (by kernel_rfl) (h1.mono (Le.refl _)) (((hw.vw 1 rfl).sub h2).anti (Le.refl _)) (by kernel_rfl) h3 fun a w p2 c2 d2 h4 hw hs => ?_
 refine pn hs 1 [(2, .slice p2 x2.length c2)] fun a hs => Qc (Qi ?_)
 obtain rfl := someE hk
 refine hQ _ _ (QjK hs rfl (v := .slice p2 x2.length c2) (by kernel_rfl) ⟨p2, c2, d2, rfl, hw.pk [0, 1], h4⟩)
def Qeb (x1 : List Int) : Option (List Int) :=
 some x1
def Qdi (x1 : M44) : Option (List Int) :=
 if (x1.f4 == 0) = true then (
  (Q0 x1.f2).bind fun y1 =>
  some y1)
 else ((Q0 x1.f2).bind fun y2 =>
  (app y2 [x1.f4]).bind fun x2 =>
  some x2 : Option (List Int)).bind fun s1 => Qeb s1
theorem Qgo {x1 : M44} {c1 : Nat} {p1 : Option Addr} {r : (List Int)} (hk : Qdi x1 = some r) {g w : World} {F : Ch} {ih : IH} (h1 : RSl e3 ih [] p1 c1 x1.f2) (hw : St g w [F] ih) :
  CallsR Tryz.prog 81 #[A44 x1 p1 c1] w fun v w' => ∃ (p2 : Option Addr) (c2 : Nat) (d1 : Ch), v = .slice p2 r.length c2 ∧ St g w' [d1, F] ih ∧ OSl e3 ih p2 c2 r d1 := by
 refine f_i Tryz.func81 rfl 16 rfl fun a Qf hQ hQn hs => ?_
 refine Qd (Qa (QC hs hw [Qb x1.f0, Qe x1.f1, .slice p1 x1.f2.length c1, .bool x1.f3, Qb x1.f4] 44 (fun b => (pt b 0)) (by kernel_rfl) (fun _ => by kernel_rfl) fun a w b1 hs hw => ?_))
 refine pn hs 1 [(1, (pt b1 0))] fun a hs => Qc (Qd (Qd (Qa (pu hs 1 fun a hs => ?_))))
 refine Qj hs (hw.at_ 0 rfl) 4 fun a hs => pn hs 1 [(1, (pt b1 0)), (5, .bool (x1.f4 == 0))] fun a hs => Qc ?_
 rcases ifbE hk with ⟨h2, hk⟩ | ⟨h2, hk⟩
 ·refine Qr hs h2 ?_
  refine Qd (Qa (pu hs 1 fun a hs => ?_))
  refine Qj hs (hw.at_ 0 rfl) 2 fun a hs => ?_
  obtain ⟨y1, h3, hk⟩ := bindE hk
  refine Qv hs (Qa4 h3 h1 (nilSub _) ((hw.pk [1]).pack 0)) fun a w v hv hs => ?_
  obtain ⟨p3, c3, d2, rfl, hw, h4⟩ := hv
  have hw := hw.unpack 1 rfl
  refine pn hs 1 [(2, .slice p3 y1.length c3)] fun a hs => Qc (Qi ?_)
  obtain rfl := someE hk
  exact qr1 hQ hs ⟨p3, c3, d2, rfl, hw.pk [0, 1], h4⟩
 refine Qs hs h2 ?_
 refine Qg (Qd ?_)
 have hw := hw.cL [k2 b1 x1.f0 x1.f1 p1 x1.f2 c1 x1.f3 x1.f4, F]
 obtain ⟨S, hD, kS⟩ := mkSXw hw [[], []] (K := []) rfl
 obtain ⟨y2, hx1, hk⟩ := bindE hk
 obtain ⟨J1, hJ1⟩ := mkJ fun a w => ∃ (x2 : List Int) (p4 : Option Addr) (c4 : Nat) (d3 : Ch), Qeb x2 = some r ∧ Sees a 16 [(2, .slice p4 x2.length c4)] ∧ St g w [d3, F] ih ∧ OSl e3 ih p4 c4 x2 d3
 refine Qo (by kernel_rfl) (N := 8) rfl S J1 ?_ ?_
 ·have hw := hw.drew
  have hS : S (bA 8 0) _ := SXn hD (hw.vws [0, 1])
  refine Qp (fuel := 7) kS hs hS [0] fun a hs hS => ?_
  refine Qy kS hs hS 1 rfl (SXb hD 0 rfl) 2 fun a hs hS => ?_
  refine Qp (fuel := 5) kS hs hS [3] fun a hs hS => ?_
  refine Qy kS hs hS 4 rfl (SXb hD 0 rfl) 4 fun a hs hS => ?_
  refine QF [2, 5] (QkI ?_ (QH ?_))
  ·obtain ⟨y3, h5, hx1⟩ := bindE hx1
   refine QaR hs rfl (Qa4 h5 h1 (nilSub _) ((hw.pk [0, 1]).pack 0)) fun a w v hv hs => ?_
   obtain ⟨p5, c5, d4, rfl, hw, h6⟩ := hv
   have hw := hw.unpack 1 rfl
   refine nx hD ((hw.vws [1, 2]).anti (Le.refl _)) fun hS => ?_
   refine QF [5] (QH ?_)
   refine Qhy hs rfl hw [Qb x1.f4] 3 (fun b => .slice (some ⟨b, 0, none⟩) 1 1) fun a w b2 hs hw => ?_
   refine nx hD ((hw.vws [2, 3]).anti (Le.refl _)) fun hS => ?_
   refine QF [6] (QH ?_)
   obtain ⟨x3, h7, hx1⟩ := bindE hx1
   refine QjH hs rfl hw (E := e3) QhS 1 rfl h6 (by kernel_rfl) (by kernel_rfl) (c2 := 1) (by kernel_rfl) (hw.at_ 0 rfl) (z := x1.f4) rfl h7 fun a w p6 c6 d5 h8 hw hs => ?_
   refine nx hD ((hw.vws [2, 3]).anti (Le.refl _)) fun hS => ?_
   refine Qu kS hs hS fun a hs => ?_
   obtain rfl := someE hx1
   exact (hJ1 _ _).2 ⟨x3, p6, c6, d5, hk, hs.cst, hw.pk [1, 3], h8⟩
  refine Qhy hs rfl hw [Qb x1.f4] 3 (fun b => .slice (some ⟨b, 0, none⟩) 1 1) fun a w b3 hs hw => ?_
  refine nx hD ((hw.vws [1, 2]).anti (Le.refl _)) fun hS => ?_
  refine QF [2] (QH ?_)
  obtain ⟨y4, h9, hx1⟩ := bindE hx1
  refine QaR hs rfl (Qa4 h9 h1 (nilSub _) ((hw.pk [0, 1, 2]).pack 0)) fun a w v hv hs => ?_
  obtain ⟨p7, c7, d6, rfl, hw, h10⟩ := hv
  have hw := hw.unpack 1 rfl
  refine nx hD ((hw.vws [2, 3]).anti (Le.refl _)) fun hS => ?_
  refine QF [6] (QH ?_)
  obtain ⟨x4, h11, hx1⟩ := bindE hx1
  refine QjH hs rfl hw (E := e3) QhS 0 rfl h10 (by kernel_rfl) (by kernel_rfl) (c2 := 1) (by kernel_rfl) (hw.at_ 1 rfl) (z := x1.f4) rfl h11 fun a w p8 c8 d7 h12 hw hs => ?_
  refine nx hD ((hw.vws [2, 3]).anti (Le.refl _)) fun hS => ?_
  refine Qu kS hs hS fun a hs => ?_
  obtain rfl := someE hx1
  exact (hJ1 _ _).2 ⟨x4, p8, c8, d7, hk, hs.cst, hw.pk [0, 3], h12⟩
 intro a w hh
 obtain ⟨x2, p4, c4, d3, hk, hs, hw, h13⟩ := (hJ1 _ _).1 hh
 refine Qi ?_
 obtain rfl := someE hk
 exact qr1 hQ hs ⟨p4, c4, d3, rfl, hw.pk [0, 1], h13⟩
def QiI (x1 : Int) : Option Bool :=
 some ((decide (x1 ≥ 1)) && (decide (x1 ≤ 24)))
theorem Qj2 {x1 : Int} {r : Bool} (hk : QiI x1 = some r) {g w : World} {F : Ch} {ih : IH} (hw : St g w [F] ih) :
  CallsR Tryz.prog 125 #[Qb x1] w fun v w' => v = .bool r ∧ St g w' [F] ih := by
 refine f_i Tryz.func125 rfl 9 rfl fun a Qf hQ hQn hs => ?_
 refine Qd (Qa (pn hs 1 [(0, Qb x1)] fun a hs => ?_))
 refine Qc (Qd ?_)
 obtain ⟨J1, hJ1⟩ := mkJ fun a w => Sees a 9 [(2, .bool ((decide (x1 ≥ 1)) && (decide (x1 ≤ 24))))] ∧ St g w [F] ih
 refine Qn J1 ?_ ?_
 ·refine pu hs 3 fun a hs => ?_
  rcases boolE (decide (x1 ≥ 1)) with h1 | h1
  ·have hs := hs.aB 5 h1
   refine pu hs 4 fun a hs => Qc ?_
   exact (hJ1 _ _).2 ⟨(hs.bB 2 h1 (decide (x1 ≤ 24)) ((decide (x1 ≥ 1)) && (decide (x1 ≤ 24)))).cst, hw.pk [0]⟩
  have hs := hs.aB 5 h1
  refine pu hs 4 fun a hs => Qc ?_
  exact (hJ1 _ _).2 ⟨(hs.bB 2 h1 false ((decide (x1 ≥ 1)) && (decide (x1 ≤ 24)))).cst, hw.pk [0]⟩
 intro a w hh
 obtain ⟨hs, hw⟩ := (hJ1 _ _).1 hh
 refine Qi ?_
 obtain rfl := someE hk
 exact qr1 hQ hs ⟨rfl, hw.pk [0]⟩
def QbR : Option Int :=
 some (-1)
def slices_Index_int_int_l4 (x1 : List Int) (x2 : Int) : Nat → Int → Option (Sum Int Unit)
 | 0, _ => none
 | j + 1, x3 =>
  if (decide (x3 < (x1.length : Int))) = true then (
   (ix x1 x3).bind fun x4 =>
   if (x2 == x4) = true then some (.inl x3)
   else slices_Index_int_int_l4 x1 x2 j (IntKind.i64.wrap (x3 + 1)))
  else some (.inr ())
def Qbp (k : Nat) (x1 : List Int) (x2 : Int) : Option Int :=
 (slices_Index_int_int_l4 x1 x2 k 0 : Option (Sum Int Unit)).bind fun
  | .inl z => some z
  | .inr _ => QbR
theorem Qgp {k : Nat} {x1 : List Int} {x2 : Int} {d1 : Ch} {c1 : Nat} {p1 : Option Addr} {r : Int} (hk : Qbp k x1 x2 = some r) {g w : World} {F : Ch} {ih : IH} (h1 : RSl e3 ih d1 p1 c1 x1) (h2 : ∀ q ∈ d1, q ∈ F) (hw : St g w [F] ih) :
  CallsR Tryz.prog 150 #[.slice p1 x1.length c1, Qb x2] w fun v w' => v = Qb r ∧ St g w' [F] ih := by
 refine f_i Tryz.func150 rfl 19 rfl fun a Qf hQ hQn hs => ?_
 refine Qd (Qa (pn hs 1 [(0, .slice p1 x1.length c1), (1, Qb x2)] fun a hs => ?_))
 refine Qc (Qd (Qd (Qa (pn hs 3 [(0, .slice p1 x1.length c1), (1, Qb x2), (7, Qb (x1.length : Int)), (8, Qb 0)] fun a hs => ?_))))
 refine Qc (Ql ?_)
 obtain ⟨y1, hx1, hk⟩ := bindE hk
 obtain ⟨J1, hJ1⟩ := mkJ fun a w => QbR = some r ∧ Sees a 19 [] ∧ St g w [F] ih
 obtain ⟨I1, hI1⟩ := QhB fun j a w => ∃ (x3 : Int), slices_Index_int_int_l4 x1 x2 j x3 = some y1 ∧ Sees a 19 [(0, .slice p1 x1.length c1), (1, Qb x2), (7, Qb (x1.length : Int)), (8, Qb x3)] ∧ St g w [F] ih
 refine Qau 0 J1 ?_ ?_
 ·refine QbO I1 k ((hI1 _ _ _).2 ⟨0, hx1, hs.cst, hw.pk [0]⟩) (fun a w h3 => ?_) fun j a w hh => ?_
  ·obtain ⟨_, h, _⟩ := (hI1 _ _ _).1 h3
   cases h
  obtain ⟨x3, hx1, hs, hw⟩ := (hI1 _ _ _).1 hh
  refine Qd (Qa (pn hs 1 [(0, .slice p1 x1.length c1), (1, Qb x2), (7, Qb (x1.length : Int)), (8, Qb x3), (9, .bool (decide (x3 < (x1.length : Int))))] fun a hs => ?_))
  refine Qc (Qd ?_)
  rcases ifbE hx1 with ⟨h4, hx1⟩ | ⟨h4, hx1⟩
  ·refine Qr hs h4 ?_
   refine Qg (Qd (Ql (Qd (Qa (pn hs 2 [(0, .slice p1 x1.length c1), (1, Qb x2), (7, Qb (x1.length : Int)), (8, Qb x3), (5, Qb x3)] fun a hs => ?_)))))
   refine Qc (Qd (Qa (pu hs 3 fun a hs => ?_)))
   obtain ⟨x4, h5, hx1⟩ := bindE hx1
   refine QbT hs h1 (by kernel_rfl) (by kernel_rfl) (k := .i64) (by kernel_rfl) 3 (by kernel_rfl) (by kernel_rfl) h5 fun a r100 cs henc at101 hs => ?_
   obtain rfl := henc
   refine Qj hs (at101 _ (((hw.vw 0 rfl).sub h2).anti (Le.refl _))) 0 fun a hs => pn hs 1 [(0, .slice p1 x1.length c1), (1, Qb x2), (7, Qb (x1.length : Int)), (8, Qb x3), (5, Qb x3), (16, .bool (x2 == x4))] fun a hs => ?_
   refine Qc ?_
   rcases ifbE hx1 with ⟨h6, hx1⟩ | ⟨h6, hx1⟩
   ·refine Qr hs h6 ?_
    refine Qd (Qa (pn hs 2 [(4, Qb x3)] fun a hs => ?_))
    refine Qc (Qi ?_)
    obtain rfl := someE hx1
    obtain rfl := someE hk
    exact qr1 hQ hs ⟨rfl, hw.pk [0]⟩
   refine Qs hs h6 ?_
   refine Qg (Qa (pu hs 2 fun a hs => ?_))
   refine Qc ?_
   exact (hI1 _ _ _).2 ⟨(IntKind.i64.wrap (x3 + 1)), hx1, hs.cst, hw.pk [0]⟩
  refine Qs hs h4 (Qa3 ?_)
  obtain rfl := someE hx1
  exact (hJ1 _ _).2 ⟨hk, hs.cst, hw.pk [0]⟩
 intro a w hh
 obtain ⟨hk, hs, hw⟩ := (hJ1 _ _).1 hh
 refine Qd (Qa (pn hs 1 [(4, Qb (-1))] fun a hs => ?_))
 refine Qc (Qi ?_)
 obtain rfl := someE hk
 exact qr1 hQ hs ⟨rfl, hw.pk [0]⟩
def QaM (k : Nat) (x1 : List Int) (x2 : Int) : Option Bool :=
 (Qbp k x1 x2).bind fun y1 =>
 some (decide (y1 ≥ 0))
theorem Qfr {k : Nat} {x1 : List Int} {x2 : Int} {d1 : Ch} {c1 : Nat} {p1 : Option Addr} {r : Bool} (hk : QaM k x1 x2 = some r) {g w : World} {F : Ch} {ih : IH} (h1 : RSl e3 ih d1 p1 c1 x1) (h2 : ∀ q ∈ d1, q ∈ F) (hw : St g w [F] ih) :
  CallsR Tryz.prog 126 #[.slice p1 x1.length c1, Qb x2] w fun v w' => v = .bool r ∧ St g w' [F] ih := by
 refine f_i Tryz.func126 rfl 9 rfl fun a Qf hQ hQn hs => ?_
 refine Qd (Qa (pn hs 1 [(0, .slice p1 x1.length c1), (1, Qb x2)] fun a hs => ?_))
 refine Qc (Qd (Qa (pu hs 2 fun a hs => ?_)))
 obtain ⟨y1, h3, hk⟩ := bindE hk
 refine Qv hs (Qgp h3 h1 (fun q hq => memF 0 rfl q (h2 q hq)) ((hw.pk [0]).pack 0)) fun a w v hv hs => ?_
 obtain ⟨rfl, hw⟩ := hv
 have hw := hw.unpack 0 rfl
 refine pn hs 2 [(4, .bool (decide (y1 ≥ 0)))] fun a hs => Qc (Qi ?_)
 obtain rfl := someE hk
 exact qr1 hQ hs ⟨rfl, hw.pk [0]⟩
def Qe6 : Option Bool :=
 some true
def QcD (rec_conf_unlike_l11 : Int → Option (Sum Bool Unit)) (x1 : Int) (x2 : Bool) : Option (Sum Bool Unit) :=
 if x2 = true then some (.inl false)
 else rec_conf_unlike_l11 (IntKind.i64.wrap (x1 + 1))
def conf_unlike_l11 (k : Nat) (x1 : List Int) : Nat → Int → Option (Sum Bool Unit)
 | 0, _ => none
 | j + 1, x2 =>
  if (decide (x2 < (x1.length : Int))) = true then (
   (ix x1 x2).bind fun x3 =>
   ((QiI x3).bind fun y1 =>
    if (!y1) = true then some true
    else (sl x1 0 x2).bind fun x4 =>
    (QaM k x4 x3).bind fun y2 =>
    some y2 : Option Bool).bind fun s1 => QcD (conf_unlike_l11 k x1 j) x2 s1)
  else some (.inr ())
def Qe7 (k : Nat) (x1 : List Int) : Option Bool :=
 (conf_unlike_l11 k x1 k 0 : Option (Sum Bool Unit)).bind fun
  | .inl z => some z
  | .inr _ => Qe6
theorem Qht {k : Nat} {x1 : List Int} {d1 : Ch} {c1 : Nat} {p1 : Option Addr} {r : Bool} (hk : Qe7 k x1 = some r) {g w : World} {F : Ch} {ih : IH} (h1 : RSl e3 ih d1 p1 c1 x1) (h2 : ∀ q ∈ d1, q ∈ F) (hw : St g w [F] ih) :
  CallsR Tryz.prog 82 #[.slice p1 x1.length c1] w fun v w' => v = .bool r ∧ St g w' [F] ih := by
 refine f_i Tryz.func82 rfl 23 rfl fun a Qf hQ hQn hs => ?_
 refine Qd (Qa (pn hs 1 [(0, .slice p1 x1.length c1)] fun a hs => ?_))
 refine Qc (Qd (Qd (Qa (pn hs 3 [(0, .slice p1 x1.length c1), (5, .slice p1 x1.length c1), (6, Qb (x1.length : Int)), (7, Qb 0)] fun a hs => ?_))))
 refine Qc (Ql ?_)
 obtain ⟨y1, hx1, hk⟩ := bindE hk
 obtain ⟨J1, hJ1⟩ := mkJ fun a w => Qe6 = some r ∧ Sees a 23 [] ∧ St g w [F] ih
 obtain ⟨I1, hI1⟩ := QhB fun j a w => ∃ (x2 : Int), conf_unlike_l11 k x1 j x2 = some y1 ∧ Sees a 23 [(0, .slice p1 x1.length c1), (5, .slice p1 x1.length c1), (6, Qb (x1.length : Int)), (7, Qb x2)] ∧ St g w [F] ih
 refine Qau 0 J1 ?_ ?_
 ·refine QbO I1 k ((hI1 _ _ _).2 ⟨0, hx1, hs.cst, hw.pk [0]⟩) (fun a w h3 => ?_) fun j a w hh => ?_
  ·obtain ⟨_, h, _⟩ := (hI1 _ _ _).1 h3
   cases h
  obtain ⟨x2, hx1, hs, hw⟩ := (hI1 _ _ _).1 hh
  refine Qd (Qa (pn hs 1 [(0, .slice p1 x1.length c1), (5, .slice p1 x1.length c1), (6, Qb (x1.length : Int)), (7, Qb x2), (8, .bool (decide (x2 < (x1.length : Int))))] fun a hs => ?_))
  refine Qc (Qd ?_)
  rcases ifbE hx1 with ⟨h4, hx1⟩ | ⟨h4, hx1⟩
  ·refine Qr hs h4 ?_
   refine Qg (Qd (Ql (Qd (Qa (pu hs 1 fun a hs => ?_)))))
   obtain ⟨x3, h5, hx1⟩ := bindE hx1
   refine QbT hs h1 (by kernel_rfl) (by kernel_rfl) (k := .i64) (by kernel_rfl) 3 (by kernel_rfl) (by kernel_rfl) h5 fun a r344 cs henc at345 hs => ?_
   obtain rfl := henc
   refine Qj hs (at345 _ (((hw.vw 0 rfl).sub h2).anti (Le.refl _))) 0 fun a hs => pn hs 2 [(0, .slice p1 x1.length c1), (5, .slice p1 x1.length c1), (6, Qb (x1.length : Int)), (7, Qb x2), (3, Qb x2), (4, Qb x3)] fun a hs => ?_
   refine Qc (Qd ?_)
   obtain ⟨y2, hx2, hx1⟩ := bindE hx1
   obtain ⟨J2, hJ2⟩ := mkJ fun a w => ∃ (x4 : Bool), QcD (conf_unlike_l11 k x1 j) x2 x4 = some y1 ∧ Sees a 23 [(0, .slice p1 x1.length c1), (5, .slice p1 x1.length c1), (6, Qb (x1.length : Int)), (7, Qb x2), (21, .bool x4)] ∧ St g w [F] ih
   refine Qn J2 ?_ ?_
   ·refine pu hs 1 fun a hs => ?_
    obtain ⟨y3, h6, hx2⟩ := bindE hx2
    refine Qv hs (Qj2 h6 ((hw.pk [0]).pack 0)) fun a w v hv hs => ?_
    obtain ⟨rfl, hw⟩ := hv
    have hw := hw.unpack 0 rfl
    refine pu hs 2 fun a hs => ?_
    rcases ifbE hx2 with ⟨h7, hx2⟩ | ⟨h7, hx2⟩
    ·have hs := hs.aB 15 h7
     refine pu hs 6 fun a hs => Qc ?_
     obtain rfl := someE hx2
     exact (hJ2 _ _).2 ⟨true, hx1, hs.cst, hw.pk [0]⟩
    have hs := hs.aB 15 h7
    refine pu hs 2 fun a hs => ?_
    obtain ⟨x5, h8, hx2⟩ := bindE hx2
    refine Qmd hs h1 (by kernel_rfl) (by kernel_rfl) 3 (by kernel_rfl) (by kernel_rfl) (by kernel_rfl) (by kernel_rfl) (by kernel_rfl) h8 (.inl rfl) fun a p2 c2 h9 hs => ?_
    refine pu hs 1 fun a hs => ?_
    obtain ⟨y4, h10, hx2⟩ := bindE hx2
    refine Qv hs (Qfr h10 h9 (fun q hq => memF 0 rfl q (h2 q hq)) ((hw.pk [0]).pack 0)) fun a w v hv hs => ?_
    obtain ⟨rfl, hw⟩ := hv
    have hw := hw.unpack 0 rfl
    refine pu hs 1 fun a hs => ?_
    have hw := hw.cL [F]
    refine Qc ?_
    obtain rfl := someE hx2
    exact (hJ2 _ _).2 ⟨y4, hx1, hs.cst, hw.pk [0]⟩
   intro a w hh
   obtain ⟨x4, hx1, hs, hw⟩ := (hJ2 _ _).1 hh
   rcases ifbE hx1 with ⟨h11, hx1⟩ | ⟨h11, hx1⟩
   ·refine Qr hs h11 ?_
    refine Qd (Qa (pn hs 1 [(2, .bool false)] fun a hs => ?_))
    refine Qc (Qi ?_)
    obtain rfl := someE hx1
    obtain rfl := someE hk
    exact qr1 hQ hs ⟨rfl, hw.pk [0]⟩
   refine Qs hs h11 ?_
   refine Qg (Qa (pu hs 2 fun a hs => ?_))
   refine Qc ?_
   exact (hI1 _ _ _).2 ⟨(IntKind.i64.wrap (x2 + 1)), hx1, hs.cst, hw.pk [0]⟩
  refine Qs hs h4 (Qa3 ?_)
  obtain rfl := someE hx1
  exact (hJ1 _ _).2 ⟨hk, hs.cst, hw.pk [0]⟩
 intro a w hh
 obtain ⟨hk, hs, hw⟩ := (hJ1 _ _).1 hh
 refine Qd (Qa (pn hs 1 [(2, .bool true)] fun a hs => ?_))
 refine Qc (Qi ?_)
 obtain rfl := someE hk
 exact qr1 hQ hs ⟨rfl, hw.pk [0]⟩
def QdB (k : Nat) (x1 : M44) : Option Bool :=
 if ((decide (x1.f0 < 0)) || ((decide (x1.f0 ≥ 4)) || (decide (x1.f1 < 1)))) = true then some false
 else if ((decide ((x1.f2.length : Int) < 1)) || ((decide ((x1.f2.length : Int) > 5)) || (x1.f3 && ((decide ((x1.f2.length : Int) < 2)) || (x1.f4 != 0))))) = true then some false
 else (Qdi x1).bind fun y1 =>
 (Qe7 k y1).bind fun y2 =>
 some y2
theorem Qej {k : Nat} {x1 : M44} {c1 : Nat} {p1 : Option Addr} {r : Bool} (hk : QdB k x1 = some r) {g w : World} {F : Ch} {ih : IH} (h1 : RSl e3 ih [] p1 c1 x1.f2) (hw : St g w [F] ih) :
  CallsR Tryz.prog 80 #[A44 x1 p1 c1] w fun v w' => v = .bool r ∧ St g w' [F] ih := by
 refine f_i Tryz.func80 rfl 44 rfl fun a Qf hQ hQn hs => ?_
 refine Qd (Qa (QC hs hw [Qb x1.f0, Qe x1.f1, .slice p1 x1.f2.length c1, .bool x1.f3, Qb x1.f4] 44 (fun b => (pt b 0)) (by kernel_rfl) (fun _ => by kernel_rfl) fun a w b1 hs hw => ?_))
 refine pn hs 1 [(1, (pt b1 0))] fun a hs => Qc (Qd (Qa (pu hs 1 fun a hs => ?_)))
 refine Qj hs (hw.at_ 0 rfl) 2 fun a hs => pn hs 2 [(1, (pt b1 0)), (3, Qb (x1.f2.length : Int))] fun a hs => Qc (Qd (Ql (Qd ?_)))
 obtain ⟨J1, hJ1⟩ := mkJ fun a w => Sees a 44 [(1, (pt b1 0)), (3, Qb (x1.f2.length : Int)), (7, .bool ((decide (x1.f0 < 0)) || ((decide (x1.f0 ≥ 4)) || (decide (x1.f1 < 1)))))] ∧ St g w [k2 b1 x1.f0 x1.f1 p1 x1.f2 c1 x1.f3 x1.f4, F] ih
 refine Qn J1 ?_ ?_
 ·refine pu hs 1 fun a hs => Qj hs (hw.at_ 0 rfl) 0 fun a hs => pu hs 2 fun a hs => ?_
  rcases boolE (decide (x1.f0 < 0)) with h2 | h2
  ·have hs := hs.aB 11 h2
   refine pu hs 10 fun a hs => Qc ?_
   exact (hJ1 _ _).2 ⟨(hs.bB 7 h2 true ((decide (x1.f0 < 0)) || ((decide (x1.f0 ≥ 4)) || (decide (x1.f1 < 1))))).cst, hw.pk [0, 1]⟩
  have hs := hs.aB 11 h2
  refine pu hs 1 fun a hs => Qj hs (hw.at_ 0 rfl) 0 fun a hs => pn hs 3 [(1, (pt b1 0)), (3, Qb (x1.f2.length : Int)), (16, .bool (decide (x1.f0 ≥ 4)))] fun a hs => ?_
  rcases boolE (decide (x1.f0 ≥ 4)) with h3 | h3
  ·have hs := hs.aB 16 h3
   refine pu hs 5 fun a hs => Qc ?_
   exact (hJ1 _ _).2 ⟨(hs.altB (b := true) 7 ((decide (x1.f0 < 0)) || ((decide (x1.f0 ≥ 4)) || (decide (x1.f1 < 1)))) (by kernel_rfl) (by first | (rw [h2, h3] <;> rfl) | (revert h2 h3; simp +contextual))).cast [1, 3, 7] (by kernel_rfl), hw.pk [0, 1]⟩
  have hs := hs.aB 16 h3
  refine pu hs 1 fun a hs => Qj hs (hw.at_ 0 rfl) 1 fun a hs => pu hs 3 fun a hs => Qc ?_
  exact (hJ1 _ _).2 ⟨(hs.altB (b := (decide (x1.f1 < 1))) 7 ((decide (x1.f0 < 0)) || ((decide (x1.f0 ≥ 4)) || (decide (x1.f1 < 1)))) (by kernel_rfl) (by first | (rw [h2, h3] <;> rfl) | (revert h2 h3; simp +contextual))).cast [1, 3, 7] (by kernel_rfl), hw.pk [0, 1]⟩
 intro a w hh
 obtain ⟨hs, hw⟩ := (hJ1 _ _).1 hh
 rcases ifbE hk with ⟨h4, hk⟩ | ⟨h4, hk⟩
 ·refine Qr hs h4 ?_
  refine Qd (Qa (pn hs 1 [(2, .bool false)] fun a hs => ?_))
  refine Qc (Qi ?_)
  obtain rfl := someE hk
  exact qr1 hQ hs ⟨rfl, hw.pk [1]⟩
 refine Qs hs h4 (Qd ?_)
 obtain ⟨J2, hJ2⟩ := mkJ fun a w => Sees a 44 [(1, (pt b1 0)), (21, .bool ((decide ((x1.f2.length : Int) < 1)) || ((decide ((x1.f2.length : Int) > 5)) || (x1.f3 && ((decide ((x1.f2.length : Int) < 2)) || (x1.f4 != 0))))))] ∧ St g w [k2 b1 x1.f0 x1.f1 p1 x1.f2 c1 x1.f3 x1.f4, F] ih
 refine Qn J2 ?_ ?_
 ·refine pu hs 3 fun a hs => ?_
  rcases boolE (decide ((x1.f2.length : Int) < 1)) with h5 | h5
  ·have hs := hs.aB 24 h5
   refine pu hs 17 fun a hs => Qc ?_
   exact (hJ2 _ _).2 ⟨(hs.bB 21 h5 true ((decide ((x1.f2.length : Int) < 1)) || ((decide ((x1.f2.length : Int) > 5)) || (x1.f3 && ((decide ((x1.f2.length : Int) < 2)) || (x1.f4 != 0)))))).cst, hw.pk [0, 1]⟩
  have hs := hs.aB 24 h5
  refine pu hs 4 fun a hs => ?_
  rcases boolE (decide ((x1.f2.length : Int) > 5)) with h6 | h6
  ·have hs := hs.aB 28 h6
   refine pu hs 13 fun a hs => Qc ?_
   exact (hJ2 _ _).2 ⟨(hs.altB (b := true) 21 ((decide ((x1.f2.length : Int) < 1)) || ((decide ((x1.f2.length : Int) > 5)) || (x1.f3 && ((decide ((x1.f2.length : Int) < 2)) || (x1.f4 != 0))))) (by kernel_rfl) (by first | (rw [h5, h6] <;> rfl) | (revert h5 h6; simp +contextual))).cast [1, 21] (by kernel_rfl), hw.pk [0, 1]⟩
  have hs := hs.aB 28 h6
  refine pu hs 1 fun a hs => Qj hs (hw.at_ 0 rfl) 3 fun a hs => pu hs 1 fun a hs => ?_
  rcases boolE x1.f3 with h7 | h7
  ·have hs := hs.aB 31 h7
   refine pn hs 3 [(1, (pt b1 0)), (28, .bool false), (31, .bool true), (34, .bool (decide ((x1.f2.length : Int) < 2)))] fun a hs => ?_
   rcases boolE (decide ((x1.f2.length : Int) < 2)) with h8 | h8
   ·have hs := hs.aB 34 h8
    refine pu hs 7 fun a hs => Qc ?_
    exact (hJ2 _ _).2 ⟨(hs.altB (b := true) 21 ((decide ((x1.f2.length : Int) < 1)) || ((decide ((x1.f2.length : Int) > 5)) || (x1.f3 && ((decide ((x1.f2.length : Int) < 2)) || (x1.f4 != 0))))) (by kernel_rfl) (by first | (rw [h5, h6, h7, h8] <;> rfl) | (revert h5 h6 h7 h8; simp +contextual))).cast [1, 21] (by kernel_rfl), hw.pk [0, 1]⟩
   have hs := hs.aB 34 h8
   refine pu hs 1 fun a hs => Qj hs (hw.at_ 0 rfl) 4 fun a hs => pu hs 5 fun a hs => Qc ?_
   exact (hJ2 _ _).2 ⟨(hs.altB (b := (x1.f4 != 0)) 21 ((decide ((x1.f2.length : Int) < 1)) || ((decide ((x1.f2.length : Int) > 5)) || (x1.f3 && ((decide ((x1.f2.length : Int) < 2)) || (x1.f4 != 0))))) (by kernel_rfl) (by first | (rw [h5, h6, h7, h8] <;> rfl) | (revert h5 h6 h7 h8; simp +contextual))).cast [1, 21] (by kernel_rfl), hw.pk [0, 1]⟩
  have hs := hs.aB 31 h7
  refine pn hs 10 [(1, (pt b1 0)), (21, .bool false)] fun a hs => Qc ?_
  exact (hJ2 _ _).2 ⟨(hs.altB (b := false) 21 ((decide ((x1.f2.length : Int) < 1)) || ((decide ((x1.f2.length : Int) > 5)) || (x1.f3 && ((decide ((x1.f2.length : Int) < 2)) || (x1.f4 != 0))))) (by kernel_rfl) (by first | (rw [h5, h6, h7] <;> rfl) | (revert h5 h6 h7; simp +contextual))).cast [1, 21] (by kernel_rfl), hw.pk [0, 1]⟩
 intro a w hh
 obtain ⟨hs, hw⟩ := (hJ2 _ _).1 hh
 rcases ifbE hk with ⟨h9, hk⟩ | ⟨h9, hk⟩
 ·refine Qr hs h9 ?_
  refine Qd (Qa (pn hs 1 [(2, .bool false)] fun a hs => ?_))
  refine Qc (Qi ?_)
  obtain rfl := someE hk
  exact qr1 hQ hs ⟨rfl, hw.pk [1]⟩
 refine Qs hs h9 ?_
 refine Qg (Qd (Qa (Qj hs (hw.at_ 0 rfl) 0 fun a hs => ?_)))
 obtain ⟨y1, h10, hk⟩ := bindE hk
 refine Qv hs (Qgo h10 h1 ((hw.pk [1]).pack 0)) fun a w v hv hs => ?_
 obtain ⟨p2, c2, d1, rfl, hw, h11⟩ := hv
 have hw := hw.unpack 1 rfl
 obtain ⟨y2, h12, hk⟩ := bindE hk
 refine Qv hs (Qht h12 h11.read (memF 0 rfl) ((hw.pk [0, 1]).pack 0)) fun a w v hv hs => ?_
 obtain ⟨rfl, hw⟩ := hv
 have hw := hw.unpack 0 rfl
 refine pn hs 1 [(2, .bool y2)] fun a hs => ?_
 have hw := hw.cL [d1, F]
 refine Qc (Qi ?_)
 obtain rfl := someE hk
 exact qr1 hQ hs ⟨rfl, hw.pk [1]⟩
def QgM (k : Nat) (x1 : List Int) : Option Bool :=
 (Qe7 k x1).bind fun y1 =>
 some y1
def Qek (rec_conf_All_l11 : (List Int) → Int → Option (Sum Bool (List Int))) (x1 : M44) (x2 : List Int) (x3 : Int) (x4 : Bool) : Option (Sum Bool (List Int)) :=
 if x4 = true then some (.inl false)
 else (Qdi x1).bind fun y1 =>
 (app x2 y1).bind fun x5 =>
 rec_conf_All_l11 x5 (IntKind.i64.wrap (x3 + 1))
def QcE (k : Nat) (x1 : List M44) : Nat → (List Int) → Int → Option (Sum Bool (List Int))
 | 0, _, _ => none
 | j + 1, x2, x3 =>
  if (decide (x3 < (x1.length : Int))) = true then (
   (ix x1 x3).bind fun x4 =>
   (if (x4.f0 != x3) = true then some true
    else (QdB k x4).bind fun y1 =>
    some (!y1) : Option Bool).bind fun s1 => Qek (QcE k x1 j) x4 x2 x3 s1)
  else some (.inr x2)
def Qhv (k : Nat) (x1 : List M44) : Option Bool :=
 if ((decide ((x1.length : Int) < 1)) || (decide ((x1.length : Int) > 4))) = true then some false
 else (QcE k x1 k ([]) 0 : Option (Sum Bool (List Int))).bind fun
  | .inl z => some z
  | .inr s1 => QgM k s1
theorem QkG {k : Nat} {x1 : List M44} {d1 : Ch} {c1 : Nat} {p1 : Option Addr} {r : Bool} (hk : Qhv k x1 = some r) {g w : World} {F : Ch} {ih : IH} (h1 : RSl e44 ih d1 p1 c1 x1) (h2 : ∀ q ∈ d1, q ∈ F) (hw : St g w [F] ih) :
  CallsR Tryz.prog 48 #[.slice p1 x1.length c1] w fun v w' => v = .bool r ∧ St g w' [F] ih := by
 refine f_i Tryz.func48 rfl 37 rfl fun a Qf hQ hQn hs => ?_
 refine Qd (Qa (pn hs 1 [(0, .slice p1 x1.length c1)] fun a hs => ?_))
 refine Qc (Qd (Qd ?_))
 obtain ⟨J1, hJ1⟩ := mkJ fun a w => Sees a 37 [(0, .slice p1 x1.length c1), (13, .bool ((decide ((x1.length : Int) < 1)) || (decide ((x1.length : Int) > 4))))] ∧ St g w [F] ih
 refine Qn J1 ?_ ?_
 ·refine pu hs 4 fun a hs => ?_
  rcases boolE (decide ((x1.length : Int) < 1)) with h3 | h3
  ·have hs := hs.aB 9 h3
   refine pu hs 4 fun a hs => Qc ?_
   exact (hJ1 _ _).2 ⟨(hs.bB 13 h3 true ((decide ((x1.length : Int) < 1)) || (decide ((x1.length : Int) > 4)))).cst, hw.pk [0]⟩
  have hs := hs.aB 9 h3
  refine pu hs 4 fun a hs => Qc ?_
  exact (hJ1 _ _).2 ⟨(hs.bB 13 h3 (decide ((x1.length : Int) > 4)) ((decide ((x1.length : Int) < 1)) || (decide ((x1.length : Int) > 4)))).cst, hw.pk [0]⟩
 intro a w hh
 obtain ⟨hs, hw⟩ := (hJ1 _ _).1 hh
 rcases ifbE hk with ⟨h4, hk⟩ | ⟨h4, hk⟩
 ·refine Qr hs h4 ?_
  refine Qd (Qa (pn hs 1 [(2, .bool false)] fun a hs => ?_))
  refine Qc (Qi ?_)
  obtain rfl := someE hk
  exact qr1 hQ hs ⟨rfl, hw.pk [0]⟩
 refine Qs hs h4 ?_
 refine Qg (Qd (Qa (pn hs 1 [(0, .slice p1 x1.length c1), (3, .slice none 0 0)] fun a hs => ?_)))
 refine Qc (Qd (Qd (Qa (pn hs 3 [(3, .slice none 0 0), (14, .slice p1 x1.length c1), (15, Qb (x1.length : Int)), (16, Qb 0)] fun a hs => ?_))))
 refine Qc (Ql ?_)
 obtain ⟨y1, hx1, hk⟩ := bindE hk
 have hw := hw.nil
 obtain ⟨J2, hJ2⟩ := mkJ fun a w => ∃ (x2 : List Int) (p2 : Option Addr) (c2 : Nat) (d2 : Ch), QgM k x2 = some r ∧ Sees a 37 [(3, .slice p2 x2.length c2)] ∧ St g w [d2, F] ih ∧ OSl e3 ih p2 c2 x2 d2
 obtain ⟨I1, hI1⟩ := QhB fun j a w => ∃ (x3 : List Int) (x4 : Int) (p3 : Option Addr) (c3 : Nat) (d3 : Ch), QcE k x1 j x3 x4 = some y1 ∧ Sees a 37 [(3, .slice p3 x3.length c3), (14, .slice p1 x1.length c1), (15, Qb (x1.length : Int)), (16, Qb x4)] ∧ St g w [d3, F] ih ∧ OSl e3 ih p3 c3 x3 d3
 refine Qau 0 J2 ?_ ?_
 ·refine QbO I1 k ((hI1 _ _ _).2 ⟨([]), 0, none, 0, ([]), hx1, hs.cst, hw.pk [0, 1], (OSl.nil _ _)⟩) (fun a w h5 => ?_) fun j a w hh => ?_
  ·obtain ⟨_, _, _, _, _, h, _⟩ := (hI1 _ _ _).1 h5
   cases h
  obtain ⟨x3, x4, p3, c3, d3, hx1, hs, hw, h6⟩ := (hI1 _ _ _).1 hh
  refine Qd (Qa (pn hs 1 [(3, .slice p3 x3.length c3), (14, .slice p1 x1.length c1), (15, Qb (x1.length : Int)), (16, Qb x4), (17, .bool (decide (x4 < (x1.length : Int))))] fun a hs => ?_))
  refine Qc (Qd ?_)
  rcases ifbE hx1 with ⟨h7, hx1⟩ | ⟨h7, hx1⟩
  ·refine Qr hs h7 ?_
   refine Qg (Qd (Ql (Qd (Qa (pu hs 1 fun a hs => ?_)))))
   obtain ⟨x5, h8, hx1⟩ := bindE hx1
   refine QbT hs h1 (by kernel_rfl) (by kernel_rfl) (k := .i64) (by kernel_rfl) 44 (by kernel_rfl) (by kernel_rfl) h8 fun a r520 cs henc at521 hs => ?_
   obtain ⟨p4, c4, rfl, h9⟩ := henc
   refine Qj hs (at521 _ (((hw.vw 1 rfl).sub h2).anti (Le.refl _))) 0 fun a hs => QaN hs hw [Qb 0, Qe 0, .slice none 0 0, .bool false, Qb 0] 44 (fun b => (pt b 0)) fun a w b1 hs hw => ?_
   refine pu hs 1 fun a hs => QE hs hw 0 rfl 0 (v := A44 x5 p4 c4) fun a w hs hw => ?_
   have hs := hs.cst (e' := [(3, .slice p3 x3.length c3), (14, .slice p1 x1.length c1), (15, Qb (x1.length : Int)), (16, Qb x4), (5, (pt b1 0)), (4, Qb x4)])
   refine Qc (Qd (Qd ?_))
   obtain ⟨y2, hx2, hx1⟩ := bindE hx1
   obtain ⟨J3, hJ3⟩ := mkJ fun a w => ∃ (x6 : Bool), Qek (QcE k x1 j) x5 x3 x4 x6 = some y1 ∧ Sees a 37 [(3, .slice p3 x3.length c3), (14, .slice p1 x1.length c1), (15, Qb (x1.length : Int)), (16, Qb x4), (5, (pt b1 0)), (29, .bool x6)] ∧ St g w [k2 b1 x5.f0 x5.f1 p4 x5.f2 c4 x5.f3 x5.f4, d3, F] ih
   refine Qn J3 ?_ ?_
   ·refine pu hs 1 fun a hs => Qj hs (hw.at_ 0 rfl) 0 fun a hs => pu hs 3 fun a hs => ?_
    rcases ifbE hx2 with ⟨h10, hx2⟩ | ⟨h10, hx2⟩
    ·have hs := hs.aB 25 h10
     refine pu hs 4 fun a hs => Qc ?_
     obtain rfl := someE hx2
     exact (hJ3 _ _).2 ⟨true, hx1, hs.cst, hw.pk [0, 1, 2]⟩
    have hs := hs.aB 25 h10
    refine Qj hs (hw.at_ 0 rfl) 0 fun a hs => ?_
    obtain ⟨y3, h11, hx2⟩ := bindE hx2
    refine Qv hs (Qej h11 h9 ((hw.pk [0, 1, 2]).pack 0)) fun a w v hv hs => ?_
    obtain ⟨rfl, hw⟩ := hv
    have hw := hw.unpack 0 rfl
    refine pu hs 2 fun a hs => ?_
    have hw := hw.cL [k2 b1 x5.f0 x5.f1 p4 x5.f2 c4 x5.f3 x5.f4, d3, F]
    refine Qc ?_
    obtain rfl := someE hx2
    exact (hJ3 _ _).2 ⟨(!y3), hx1, hs.cst, hw.pk [0, 1, 2]⟩
   intro a w hh
   obtain ⟨x6, hx1, hs, hw⟩ := (hJ3 _ _).1 hh
   rcases ifbE hx1 with ⟨h12, hx1⟩ | ⟨h12, hx1⟩
   ·refine Qr hs h12 ?_
    refine Qd (Qa (pn hs 1 [(2, .bool false)] fun a hs => ?_))
    refine Qc (Qi ?_)
    obtain rfl := someE hx1
    obtain rfl := someE hk
    exact qr1 hQ hs ⟨rfl, hw.pk [2]⟩
   refine Qs hs h12 ?_
   refine Qg (Qa (pu hs 1 fun a hs => ?_))
   refine Qj hs (hw.at_ 0 rfl) 0 fun a hs => ?_
   obtain ⟨y4, h13, hx1⟩ := bindE hx1
   refine Qv hs (Qgo h13 h9 ((hw.pk [1, 2]).pack 0)) fun a w v hv hs => ?_
   obtain ⟨p5, c5, d4, rfl, hw, h14⟩ := hv
   have hw := hw.unpack 1 rfl
   obtain ⟨x7, h15, hx1⟩ := bindE hx1
   refine Qi1 hs hw (E := e3) QhS 1 rfl h6 (by kernel_rfl) (by kernel_rfl) (h14.read.mono (Le.refl _)) ((hw.vw 0 rfl).anti (Le.refl _)) (by kernel_rfl) h15 fun a w p6 c6 d5 h16 hw hs => ?_
   refine pn hs 1 [(14, .slice p1 x1.length c1), (15, Qb (x1.length : Int)), (16, Qb x4), (3, .slice p6 x7.length c6)] fun a hs => Qc (Qa (pu hs 2 fun a hs => ?_))
   refine Qc ?_
   exact (hI1 _ _ _).2 ⟨x7, (IntKind.i64.wrap (x4 + 1)), p6, c6, d5, hx1, hs.cst, hw.pk [1, 2], h16⟩
  refine Qs hs h7 (Qa3 ?_)
  obtain rfl := someE hx1
  exact (hJ2 _ _).2 ⟨x3, p3, c3, d3, hk, hs.cst, hw.pk [0, 1], h6⟩
 intro a w hh
 obtain ⟨x2, p2, c2, d2, hk, hs, hw, h17⟩ := (hJ2 _ _).1 hh
 refine Qd (Qa (pu hs 1 fun a hs => ?_))
 obtain ⟨y5, h18, hk⟩ := bindE hk
 refine Qv hs (Qht h18 h17.read (memF 0 rfl) ((hw.pk [0, 1]).pack 0)) fun a w v hv hs => ?_
 obtain ⟨rfl, hw⟩ := hv
 have hw := hw.unpack 0 rfl
 refine pn hs 1 [(2, .bool y5)] fun a hs => Qc (Qi ?_)
 obtain rfl := someE hk
 exact qr1 hQ hs ⟨rfl, hw.pk [1]⟩
def Qh8 (x1 : M44) : Option M44 :=
 (Q0 x1.f2).bind fun y1 =>
 some (M44.mk x1.f0 x1.f1 y1 x1.f3 x1.f4)
theorem QkF {x1 : M44} {c1 : Nat} {p1 : Option Addr} {r : M44} (hk : Qh8 x1 = some r) {g w : World} {F : Ch} {ih : IH} (h1 : RSl e3 ih [] p1 c1 x1.f2) (hw : St g w [F] ih) :
  CallsR Tryz.prog 83 #[A44 x1 p1 c1] w fun v w' => ∃ (ih' : IH) (p2 : Option Addr) (c2 : Nat), v = .agg #[Qb r.f0, Qe r.f1, .slice p2 r.f2.length c2, .bool r.f3, Qb r.f4] ∧ St g w' [F] ih' ∧ Le ih ih' ∧ RSl e3 ih' [] p2 c2 r.f2 := by
 refine f_i Tryz.func83 rfl 8 rfl fun a Qf hQ hQn hs => ?_
 refine Qd (Qa (QC hs hw [Qb x1.f0, Qe x1.f1, .slice p1 x1.f2.length c1, .bool x1.f3, Qb x1.f4] 44 (fun b => (pt b 0)) (by kernel_rfl) (fun _ => by kernel_rfl) fun a w b1 hs hw => ?_))
 refine QaN hs hw [Qb 0, Qe 0, .slice none 0 0, .bool false, Qb 0] 44 (fun b => (pt b 0)) fun a w b2 hs hw => ?_
 have hs := hs.cst (e' := [(1, (pt b1 0)), (2, (pt b2 0))])
 refine Qc (Qd (Qa (pu hs 1 fun a hs => ?_)))
 refine Qj hs (hw.at_ 1 rfl) 2 fun a hs => ?_
 obtain ⟨y1, h2, hk⟩ := bindE hk
 refine Qv hs (Qa4 h2 h1 (nilSub _) ((hw.pk [0, 1, 2]).pack 0)) fun a w v hv hs => ?_
 obtain ⟨p3, c3, d1, rfl, hw, h3⟩ := hv
 have hw := hw.unpack 1 rfl
 refine pu hs 1 fun a hs => QE hs hw 2 rfl 2 (v := .slice p3 y1.length c3) fun a w hs hw => ?_
 have hs := hs.cst (e' := [(1, (pt b1 0)), (2, (pt b2 0))])
 have hw := hw.cL [d1, k3 b2, k2 b1 x1.f0 x1.f1 p3 y1 c3 x1.f3 x1.f4, F]
 refine Qc (Qd (Qa (Qj hs (hw.at_ 2 rfl) 0 fun a hs => ?_)))
 refine QE hs hw 1 rfl 0 (v := .agg #[Qb x1.f0, Qe x1.f1, .slice p3 y1.length c3, .bool x1.f3, Qb x1.f4]) fun a w hs hw => ?_
 have hs := hs.cst (e' := [(2, (pt b2 0))])
 refine Qc (Qi ?_)
 obtain ⟨ih1, hle1, hw, h4⟩ := (hw.pk [0, 1, 2, 3]).fz (h3.mono (Le.refl _))
 obtain rfl := someE hk
 refine hQ _ _ (QaU hs rfl (hw.at_ 0 rfl) (by kernel_rfl) (v := .agg #[Qb x1.f0, Qe x1.f1, .slice p3 y1.length c3, .bool x1.f3, Qb x1.f4]) (by kernel_rfl) ⟨ih1, p3, c3, rfl, hw.pk [2], hle1, h4⟩)
def QgL (x1 : List M44) : Option (List M44) :=
 some x1
def conf_Copy_l4 (x1 : List M44) : Nat → (List M44) → Int → Option (List M44)
 | 0, _, _ => none
 | j + 1, x2, x3 =>
  if (decide (x3 < (x1.length : Int))) = true then (
   (ix x1 x3).bind fun x4 =>
   (Qh8 x4).bind fun y1 =>
   (ix x2 x3).bind fun x5 =>
   conf_Copy_l4 x1 j (x2.set x3.toNat y1) (IntKind.i64.wrap (x3 + 1)))
  else some x2
def Qe8 (k : Nat) (x1 : List M44) : Option (List M44) :=
 (mkS (M44.mk 0 0 ([]) false 0) (x1.length : Int)).bind fun x2 =>
 (conf_Copy_l4 x1 k x2 0 : Option (List M44)).bind fun s1 => QgL s1
theorem Qhf {k : Nat} {x1 : List M44} {d1 : Ch} {c1 : Nat} {p1 : Option Addr} {r : (List M44)} (hk : Qe8 k x1 = some r) {g w : World} {F : Ch} {ih : IH} (h1 : RSl e44 ih d1 p1 c1 x1) (h2 : ∀ q ∈ d1, q ∈ F) (hw : St g w [F] ih) :
  CallsR Tryz.prog 51 #[.slice p1 x1.length c1] w fun v w' => ∃ (ih' : IH) (p2 : Option Addr) (c2 : Nat) (d2 : Ch), v = .slice p2 r.length c2 ∧ St g w' [d2, F] ih' ∧ Le ih ih' ∧ OSl e44 ih' p2 c2 r d2 := by
 refine f_i Tryz.func51 rfl 23 rfl fun a Qf hQ hQn hs => ?_
 refine Qd (Qa (pn hs 1 [(0, .slice p1 x1.length c1)] fun a hs => ?_))
 refine Qc (Qd (Qa (pu hs 2 fun a hs => ?_)))
 obtain ⟨x2, h3, hk⟩ := bindE hk
 refine QmD hs hw (E := e44) Qly (by kernel_rfl) (k := .i64) (k' := .i64) (by kernel_rfl) (by kernel_rfl) (z := .agg #[Qb 0, Qe 0, .slice none 0 0, .bool false, Qb 0]) (by kernel_rfl) (u := (M44.mk 0 0 ([]) false 0)) ⟨none, 0, rfl, (RSl.nil _ _ _)⟩ h3 fun a w p3 c3 d3 h4 hw hs => ?_
 refine pn hs 1 [(0, .slice p1 x1.length c1), (3, .slice p3 x2.length c3)] fun a hs => Qc (Qd (Qd (Qa (pn hs 3 [(3, .slice p3 x2.length c3), (9, .slice p1 x1.length c1), (10, Qb (x1.length : Int)), (11, Qb 0)] fun a hs => ?_))))
 refine Qc (Ql ?_)
 obtain ⟨y1, hx1, hk⟩ := bindE hk
 obtain ⟨J1, hJ1⟩ := mkJ fun a w => ∃ (x3 : List M44) (p4 : Option Addr) (c4 : Nat) (d4 : Ch) (ih1 : IH), QgL x3 = some r ∧ Sees a 23 [(3, .slice p4 x3.length c4)] ∧ St g w [d4, F] ih1 ∧ Le ih ih1 ∧ OSl e44 ih1 p4 c4 x3 d4
 obtain ⟨I1, hI1⟩ := QhB fun j a w => ∃ (x4 : List M44) (x5 : Int) (p5 : Option Addr) (c5 : Nat) (d5 : Ch) (ih2 : IH), conf_Copy_l4 x1 j x4 x5 = some y1 ∧ Sees a 23 [(3, .slice p5 x4.length c5), (9, .slice p1 x1.length c1), (10, Qb (x1.length : Int)), (11, Qb x5)] ∧ St g w [d5, F] ih2 ∧ Le ih ih2 ∧ OSl e44 ih2 p5 c5 x4 d5
 refine Qau 0 J1 ?_ ?_
 ·refine QbO I1 k ((hI1 _ _ _).2 ⟨x2, 0, p3, c3, d3, ih, hx1, hs.cst, hw.pk [0, 1], (Le.refl _), h4⟩) (fun a w h5 => ?_) fun j a w hh => ?_
  ·obtain ⟨_, _, _, _, _, _, h, _⟩ := (hI1 _ _ _).1 h5
   cases h
  obtain ⟨x4, x5, p5, c5, d5, ih2, hx1, hs, hw, hle1, h6⟩ := (hI1 _ _ _).1 hh
  refine Qd (Qa (pn hs 1 [(3, .slice p5 x4.length c5), (9, .slice p1 x1.length c1), (10, Qb (x1.length : Int)), (11, Qb x5), (12, .bool (decide (x5 < (x1.length : Int))))] fun a hs => ?_))
  refine Qc (Qd ?_)
  rcases ifbE hx1 with ⟨h7, hx1⟩ | ⟨h7, hx1⟩
  ·refine Qr hs h7 ?_
   refine Qg (Qd (Ql (Qd (Qa (pu hs 1 fun a hs => ?_)))))
   obtain ⟨x6, h8, hx1⟩ := bindE hx1
   refine QbT hs h1 (by kernel_rfl) (by kernel_rfl) (k := .i64) (by kernel_rfl) 44 (by kernel_rfl) (by kernel_rfl) h8 fun a r509 cs henc at510 hs => ?_
   obtain ⟨p6, c6, rfl, h9⟩ := henc
   refine Qj hs (at510 _ (((hw.vw 1 rfl).sub h2).anti hle1)) 0 fun a hs => QaN hs hw [Qb 0, Qe 0, .slice none 0 0, .bool false, Qb 0] 44 (fun b => (pt b 0)) fun a w b1 hs hw => ?_
   refine pu hs 1 fun a hs => QE hs hw 0 rfl 0 (v := A44 x6 p6 c6) fun a w hs hw => ?_
   have hs := hs.cst (e' := [(3, .slice p5 x4.length c5), (9, .slice p1 x1.length c1), (10, Qb (x1.length : Int)), (11, Qb x5), (5, (pt b1 0)), (4, Qb x5)])
   refine Qc (Qa (pu hs 2 fun a hs => ?_))
   refine Qj hs (hw.at_ 0 rfl) 0 fun a hs => ?_
   obtain ⟨y2, h10, hx1⟩ := bindE hx1
   refine Qv hs (QkF h10 (h9.mono hle1) ((hw.pk [1, 2]).pack 0)) fun a w v hv hs => ?_
   obtain ⟨ih3, p7, c7, rfl, hw, hle2, h11⟩ := hv
   have hw := hw.unpack 0 rfl
   obtain ⟨x7, h12, hx1⟩ := bindE hx1
   refine QeI hs h6 (by kernel_rfl) (by kernel_rfl) (k := .i64) (by kernel_rfl) 44 (by kernel_rfl) (by kernel_rfl) h12 fun a r544 cs henc at545 h13 hs => ?_
   obtain ⟨p8, c8, rfl, h14⟩ := henc
   have hs := hs.cst (e' := [(3, .slice p5 x4.length c5), (9, .slice p1 x1.length c1), (10, Qb (x1.length : Int)), (11, Qb x5), (19, A44 y2 p7 c7), (20, .pointer (some r544))])
   refine Qj9 hs hw 0 rfl (h6.mono hle2) h13 y2 h12 0 (by kernel_rfl) (by kernel_rfl) (v := A44 y2 p7 c7) (by kernel_rfl) (by kernel_rfl) (by kernel_rfl) (by kernel_rfl) ⟨p8, c8, rfl, (h14.mono hle2)⟩ (fun w hv => at545 w (hv.anti hle2)) ⟨p7, c7, rfl, h11⟩ fun a w d6 h15 hw hs => ?_
   have h16 : x4.length = (x4.set x5.toNat y2).length := List.length_set.symm
   try rw [h16] at hs
   try rw [h16] at hw
   have hw := hw.cL [d6, F]
   refine Qc (Qa (pu hs 2 fun a hs => ?_))
   refine Qc ?_
   exact (hI1 _ _ _).2 ⟨(x4.set x5.toNat y2), (IntKind.i64.wrap (x5 + 1)), p5, c5, d6, ih3, hx1, hs.cst, hw.pk [0, 1], (hle1.trans hle2), h15⟩
  refine Qs hs h7 (Qa3 ?_)
  obtain rfl := someE hx1
  exact (hJ1 _ _).2 ⟨x4, p5, c5, d5, ih2, hk, hs.cst, hw.pk [0, 1], hle1, h6⟩
 intro a w hh
 obtain ⟨x3, p4, c4, d4, ih1, hk, hs, hw, hle3, h17⟩ := (hJ1 _ _).1 hh
 refine Qd (Qa (pn hs 2 [(2, .slice p4 x3.length c4)] fun a hs => ?_))
 refine Qc (Qi ?_)
 obtain rfl := someE hk
 exact qr1 hQ hs ⟨ih1, p4, c4, d4, rfl, hw.pk [0, 1], hle3, h17⟩
def QgG : Option (List (List Int)) :=
 some ([])
theorem QiX {x1 : Int} {b1 : Nat} {r : (List (List Int))} (hk : QgG = some r) {g w : World} {F : Ch} {ih : IH} (hw : St g w [bx b1 [Qb x1] 3, F] ih) :
  CallsR Tryz.prog 52 #[.func (.func 49) #[] #[(pt b1 0)]] w fun v w' => ∃ (b2 : Nat) (p1 : Option Addr) (c1 : Nat) (d1 : Ch), v = (pt b2 0) ∧ St g w' [k4 b2 b1 p1 r c1, d1, bx b1 [Qb x1] 3, F] ih ∧ OSl e42 ih p1 c1 r d1 := by
 refine f_i Tryz.func52 rfl 6 rfl fun a Qf hQ hQn hs => ?_
 refine Qd (Qa (pn hs 1 [(0, .func (.func 49) #[] #[(pt b1 0)])] fun a hs => ?_))
 refine Qc (Qd (Qa (pu hs 2 fun a hs => ?_)))
 refine QaN hs hw [Qk 0, QfL 0, Qk 0, .func (.func 49) #[] #[(pt b1 0)], QfL 0, .slice none 0 0] 151 (fun b => (pt b 0)) fun a w b3 hs hw => ?_
 refine pn hs 1 [(2, (pt b3 0))] fun a hs => Qc (Qi ?_)
 have hw := hw.nil
 obtain rfl := someE hk
 exact qr1 hQ hs ⟨b3, none, 0, ([]), rfl, hw.pk [1, 0, 2, 3], (OSl.nil _ _)⟩
def QiL (k : Nat) (x1 : List M44) : Option (Sum Unit ((List M44) × Int × (List (List Int)))) :=
 (Qhv k x1).bind fun y1 =>
 if (!y1) = true then some (.inl ())
 else (Qe8 k x1).bind fun y2 =>
 (QgG).bind fun y3 =>
 some (.inr (y2, (x1.length : Int), y3))
theorem Qj5 {k : Nat} {x1 : List M44} {d1 : Ch} {c1 : Nat} {p1 : Option Addr} {r : Sum Unit ((List M44) × Int × (List (List Int)))} (hk : QiL k x1 = some r) {g w : World} {F : Ch} {ih : IH} (h1 : RSl e44 ih d1 p1 c1 x1) (h2 : ∀ q ∈ d1, q ∈ F) (hw : St g w [F] ih) :
  CallsR Tryz.prog 27 #[.slice p1 x1.length c1] w fun v w' => (∃ r0 : Unit, r = .inl r0 ∧ ∃ (ih' : IH), v = .tuple #[.pointer none, Qb 1] ∧ St g w' [F] ih' ∧ Le ih ih') ∨ (∃ r1 : (List M44) × Int × (List (List Int)), r = .inr r1 ∧ ∃ (ih' : IH) (b1 : Nat) (p2 : Option Addr) (c2 : Nat) (d2 : Ch) (b2 b3 : Nat) (p3 : Option Addr) (c3 : Nat) (d3 : Ch), v = .tuple #[(pt b1 0), Qb 0] ∧ St g w' [bx b1 [.slice p2 r1.1.length c2, (pt b2 0)] 113, d2, k4 b2 b3 p3 r1.2.2 c3, bx b3 [Qb r1.2.1] 3, d3, F] ih' ∧ Le ih ih' ∧ OSl e44 ih' p2 c2 r1.1 d2 ∧ OSl e42 ih' p3 c3 r1.2.2 d3) := by
 refine f_i Tryz.func27 rfl 18 rfl fun a Qf hQ hQn hs => ?_
 refine Qd (Qa (pn hs 2 [(0, .slice p1 x1.length c1)] fun a hs => ?_))
 refine Qc (Qd (Qd (Qa (pu hs 1 fun a hs => ?_))))
 obtain ⟨y1, h3, hk⟩ := bindE hk
 refine Qv hs (QkG h3 h1 (fun q hq => memF 0 rfl q (h2 q hq)) ((hw.pk [0]).pack 0)) fun a w v hv hs => ?_
 obtain ⟨rfl, hw⟩ := hv
 have hw := hw.unpack 0 rfl
 refine pn hs 1 [(0, .slice p1 x1.length c1), (8, .bool (!y1))] fun a hs => Qc ?_
 rcases ifbE hk with ⟨h4, hk⟩ | ⟨h4, hk⟩
 ·refine Qr hs h4 ?_
  refine Qd (Qa (pn hs 2 [(2, .pointer none), (3, Qb 1)] fun a hs => ?_))
  refine Qc (Qi ?_)
  obtain rfl := someE hk
  refine hQ _ _ (Q4 hs [.tmp 2, .tmp 3] rfl [.pointer none, Qb 1] (by kernel_rfl) (by kernel_rfl) (.inl ⟨_, rfl, ⟨ih, rfl, hw.pk [0], (Le.refl _)⟩⟩))
 refine Qs hs h4 ?_
 refine Qg (Qd (Qa (pu hs 2 fun a hs => ?_)))
 refine QaN hs hw [Qb 0] 3 (fun b => (pt b 0)) fun a w b4 hs hw => ?_
 refine QE hs hw 0 rfl 0 (v := Qb (x1.length : Int)) fun a w hs hw => ?_
 have hs := hs.cst (e' := [(0, .slice p1 x1.length c1), (4, (pt b4 0))])
 have hw := hw.cL [bx b4 [Qb (x1.length : Int)] 3, F]
 refine Qc (Qd (Qa (pn hs 2 [(0, .slice p1 x1.length c1), (5, .func (.func 49) #[] #[(pt b4 0)])] fun a hs => ?_)))
 refine Qc (Qd (Qa (pu hs 1 fun a hs => ?_)))
 obtain ⟨y2, h5, hk⟩ := bindE hk
 refine Qv hs (Qhf h5 h1 (fun q hq => memF 1 rfl q (h2 q hq)) ((hw.pk [0, 1]).pack 0)) fun a w v hv hs => ?_
 obtain ⟨ih1, p4, c4, d4, rfl, hw, hle1, h6⟩ := hv
 have hw := hw.unpack 1 rfl
 refine pu hs 1 fun a hs => ?_
 obtain ⟨y3, h7, hk⟩ := bindE hk
 refine Qv hs (QiX (x1 := (x1.length : Int)) h7 ((hw.pk [1, 0, 2]).pack 1)) fun a w v hv hs => ?_
 obtain ⟨b5, p5, c5, d5, rfl, hw, h8⟩ := hv
 have hw := hw.unpack 3 rfl
 refine pu hs 1 fun a hs => QaN hs hw [.slice p4 y2.length c4, (pt b5 0)] 113 (fun b => (pt b 0)) fun a w b6 hs hw => pn hs 2 [(2, (pt b6 0)), (3, Qb 0)] fun a hs => ?_
 have hw := hw.cL [bx b6 [.slice p4 y2.length c4, (pt b5 0)] 113, k4 b5 b4 p5 y3 c5, d5, bx b4 [Qb (x1.length : Int)] 3, d4, F]
 refine Qc (Qi ?_)
 obtain rfl := someE hk
 refine hQ _ _ (Q4 hs [.tmp 2, .tmp 3] rfl [(pt b6 0), Qb 0] (by kernel_rfl) (by kernel_rfl) (.inr ⟨_, rfl, ⟨ih1, b6, p4, c4, d4, b5, b4, p5, c5, d5, rfl, hw.pk [0, 4, 1, 3, 2, 5], hle1, h6, h8⟩⟩))
def Qg0 (k : Nat) (x1 x2 : Int) (x3 : List M44) : Option (Sum Unit (Int × Int × (List M44) × Int × (List (List Int)) × (List Int) × (List Int))) :=
 if ((decide (x1 < 1)) || ((decide (x1 > 6)) || ((decide (x2 < 1)) || (decide (x2 > 5))))) = true then some (.inl ())
 else (QiL k x3).bind fun
  | .inl y1 =>
   some (.inl ())
  | .inr y2 =>
   some (.inr (x1, x2, y2.1, y2.2.1, y2.2.2, [], []))
theorem QhR {k : Nat} {x1 x2 : Int} {x3 : List M44} {d1 : Ch} {c1 : Nat} {p1 : Option Addr} {r : Sum Unit (Int × Int × (List M44) × Int × (List (List Int)) × (List Int) × (List Int))} (hk : Qg0 k x1 x2 x3 = some r) {g w : World} {F : Ch} {ih : IH} (h1 : RSl e44 ih d1 p1 c1 x3) (h2 : ∀ q ∈ d1, q ∈ F) (hw : St g w [F] ih) :
  CallsR Tryz.prog 7 #[Qb x1, Qb x2, .slice p1 x3.length c1] w fun v w' => (∃ r0 : Unit, r = .inl r0 ∧ ∃ (ih' : IH), v = .tuple #[.pointer none, Qb 1] ∧ St g w' [F] ih' ∧ Le ih ih') ∨ (∃ r1 : Int × Int × (List M44) × Int × (List (List Int)) × (List Int) × (List Int), r = .inr r1 ∧ ∃ (ih' : IH) (b1 b2 : Nat) (p2 : Option Addr) (c2 : Nat) (d2 : Ch) (b3 b4 : Nat) (p3 : Option Addr) (c3 : Nat) (d3 : Ch) (p4 : Option Addr) (c4 : Nat) (d4 : Ch) (p5 : Option Addr) (c5 : Nat) (d5 : Ch), v = .tuple #[(pt b1 0), Qb 0] ∧ St g w' [k5 b1 r1.1 r1.2.1 b2 p4 r1.2.2.2.2.2.1 c4 p5 r1.2.2.2.2.2.2 c5, bx b2 [.slice p2 r1.2.2.1.length c2, (pt b3 0)] 113, d2, k4 b3 b4 p3 r1.2.2.2.2.1 c3, bx b4 [Qb r1.2.2.2.1] 3, d3, d4, d5, F] ih' ∧ Le ih ih' ∧ OSl e44 ih' p2 c2 r1.2.2.1 d2 ∧ OSl e42 ih' p3 c3 r1.2.2.2.2.1 d3 ∧ OSl e5 ih' p4 c4 r1.2.2.2.2.2.1 d4 ∧ OSl e5 ih' p5 c5 r1.2.2.2.2.2.2 d5) := by
 refine f_i Tryz.func7 rfl 37 rfl fun a Qf hQ hQn hs => ?_
 refine Qd (Qa (pn hs 2 [(0, Qb x1), (1, Qb x2), (2, .slice p1 x3.length c1)] fun a hs => ?_))
 refine Qc (Qd (Qd ?_))
 obtain ⟨J1, hJ1⟩ := mkJ fun a w => Sees a 37 [(0, Qb x1), (1, Qb x2), (2, .slice p1 x3.length c1), (23, .bool ((decide (x1 < 1)) || ((decide (x1 > 6)) || ((decide (x2 < 1)) || (decide (x2 > 5))))))] ∧ St g w [F] ih
 refine Qn J1 ?_ ?_
 ·refine pu hs 3 fun a hs => ?_
  rcases boolE (decide (x1 < 1)) with h3 | h3
  ·have hs := hs.aB 12 h3
   refine pu hs 11 fun a hs => Qc ?_
   exact (hJ1 _ _).2 ⟨(hs.bB 23 h3 true ((decide (x1 < 1)) || ((decide (x1 > 6)) || ((decide (x2 < 1)) || (decide (x2 > 5)))))).cst, hw.pk [0]⟩
  have hs := hs.aB 12 h3
  refine pu hs 4 fun a hs => ?_
  rcases boolE (decide (x1 > 6)) with h4 | h4
  ·have hs := hs.aB 16 h4
   refine pu hs 7 fun a hs => Qc ?_
   exact (hJ1 _ _).2 ⟨(hs.altB (b := true) 23 ((decide (x1 < 1)) || ((decide (x1 > 6)) || ((decide (x2 < 1)) || (decide (x2 > 5))))) (by kernel_rfl) (by first | (rw [h3, h4] <;> rfl) | (revert h3 h4; simp +contextual))).cast [0, 1, 2, 23] (by kernel_rfl), hw.pk [0]⟩
  have hs := hs.aB 16 h4
  refine pu hs 4 fun a hs => ?_
  rcases boolE (decide (x2 < 1)) with h5 | h5
  ·have hs := hs.aB 20 h5
   refine pu hs 3 fun a hs => Qc ?_
   exact (hJ1 _ _).2 ⟨(hs.altB (b := true) 23 ((decide (x1 < 1)) || ((decide (x1 > 6)) || ((decide (x2 < 1)) || (decide (x2 > 5))))) (by kernel_rfl) (by first | (rw [h3, h4, h5] <;> rfl) | (revert h3 h4 h5; simp +contextual))).cast [0, 1, 2, 23] (by kernel_rfl), hw.pk [0]⟩
  have hs := hs.aB 20 h5
  refine pu hs 3 fun a hs => Qc ?_
  exact (hJ1 _ _).2 ⟨(hs.altB (b := (decide (x2 > 5))) 23 ((decide (x1 < 1)) || ((decide (x1 > 6)) || ((decide (x2 < 1)) || (decide (x2 > 5))))) (by kernel_rfl) (by first | (rw [h3, h4, h5] <;> rfl) | (revert h3 h4 h5; simp +contextual))).cast [0, 1, 2, 23] (by kernel_rfl), hw.pk [0]⟩
 intro a w hh
 obtain ⟨hs, hw⟩ := (hJ1 _ _).1 hh
 rcases ifbE hk with ⟨h6, hk⟩ | ⟨h6, hk⟩
 ·refine Qr hs h6 ?_
  refine Qd (Qa (pn hs 2 [(6, .pointer none), (7, Qb 1)] fun a hs => ?_))
  refine Qc (Qi ?_)
  obtain rfl := someE hk
  refine hQ _ _ (Q4 hs [.tmp 6, .tmp 7] rfl [.pointer none, Qb 1] (by kernel_rfl) (by kernel_rfl) (.inl ⟨_, rfl, ⟨ih, rfl, hw.pk [0], (Le.refl _)⟩⟩))
 refine Qs hs h6 ?_
 refine Qg (Qd (Qa (pu hs 1 fun a hs => ?_)))
 obtain ⟨y1, h7, hk⟩ := bindE hk
 refine Qv hs (Qj5 h7 h1 (fun q hq => memF 0 rfl q (h2 q hq)) ((hw.pk [0]).pack 0)) fun a w v hv hs => ?_
 rcases hv with ⟨y2, rfl, ⟨ih1, rfl, hw, hle1⟩⟩ | ⟨y3, rfl, ⟨ih2, b5, p6, c6, d6, b6, b7, p7, c7, d7, rfl, hw, hle2, h8, h9⟩⟩
 ·try dsimp only at hk
  have hw := hw.unpack 0 rfl
  refine pn hs 5 [(0, Qb x1), (1, Qb x2), (8, .pointer none), (9, Qb 1)] fun a hs => Qc (Qd (Qd (Qa (pn hs 2 [(0, Qb x1), (1, Qb x2), (8, .pointer none), (9, Qb 1), (30, .bool true)] fun a hs => ?_))))
  refine Qc (Qgb hs (Qd (Qa (pn hs 3 [(6, .pointer none), (7, Qb 1)] fun a hs => ?_))))
  refine Qc (Qi ?_)
  obtain rfl := someE hk
  refine hQ _ _ (Q4 hs [.tmp 6, .tmp 7] rfl [.pointer none, Qb 1] (by kernel_rfl) (by kernel_rfl) (.inl ⟨_, rfl, ⟨ih1, rfl, hw.pk [0], hle1⟩⟩))
 try dsimp only at hk
 have hw := hw.unpack 5 rfl
 refine pn hs 5 [(0, Qb x1), (1, Qb x2), (8, (pt b5 0)), (9, Qb 0)] fun a hs => Qc (Qd (Qd (Qa (pn hs 2 [(0, Qb x1), (1, Qb x2), (8, (pt b5 0)), (9, Qb 0), (30, .bool false)] fun a hs => ?_))))
 refine Qc (QhJ hs (Qg (Qd (Qa (pu hs 4 fun a hs => ?_)))))
 refine QaN hs hw [Qb x1, Qb x2, Qe 0, Qb 0, (pt b5 0), Qb 0, Qk 0, Qe 0, .slice none 0 0, Qb 0, .pointer none, Qe 0, Qb 0, Qe 0, .slice none 0 0] 85 (fun b => (pt b 0)) fun a w b8 hs hw => ?_
 refine pn hs 2 [(6, (pt b8 0)), (7, Qb 0)] fun a hs => Qc (Qi ?_)
 have hw := hw.nil
 have hw := hw.nil
 obtain rfl := someE hk
 refine hQ _ _ (Q4 hs [.tmp 6, .tmp 7] rfl [(pt b8 0), Qb 0] (by kernel_rfl) (by kernel_rfl) (.inr ⟨_, rfl, ⟨ih2, b8, b5, p6, c6, d6, b6, b7, p7, c7, d7, none, 0, ([]), none, 0, ([]), rfl, hw.pk [2, 3, 4, 5, 6, 7, 1, 0, 8], hle2, h8, h9, (OSl.nil _ _), (OSl.nil _ _)⟩⟩))
def Qfc : Option (List M48) :=
 some ([])
theorem QgU {x1 : M26} {c1 : Nat} {p1 : Option Addr} {r : (List M48)} (hk : Qfc = some r) {g w : World} {F : Ch} {ih : IH} (h1 : RSl e5 ih [] p1 c1 x1.f3) (hw : St g w [F] ih) :
  CallsR Tryz.prog 9 #[.pointer none, A26 x1 p1 c1] w fun v w' => ∃ (p2 : Option Addr) (c2 : Nat) (d1 : Ch), v = .tuple #[.slice p2 r.length c2, Qb 2] ∧ St g w' [d1, F] ih ∧ OSl e48 ih p2 c2 r d1 := by
 refine f_i Tryz.func9 rfl 40 rfl fun a Qf hQ hQn hs => ?_
 refine Qd (Qa (QC hs hw [Qb x1.f0, Qk x1.f1, Qe x1.f2, .slice p1 x1.f3.length c1, Qb x1.f4] 26 (fun b => (pt b 0)) (by kernel_rfl) (fun _ => by kernel_rfl) fun a w b1 hs hw => ?_))
 refine pn hs 2 [(0, .pointer none), (3, (pt b1 0))] fun a hs => Qc (Qd (Ql (Qd (Qa (pn hs 3 [(0, .pointer none), (3, (pt b1 0)), (7, .bool true)] fun a hs => ?_)))))
 refine Qc (Qgb hs (Qd (Qa (pn hs 2 [(4, .slice none 0 0), (5, Qb 2)] fun a hs => ?_))))
 refine Qc (Qi ?_)
 have hw := hw.nil
 obtain rfl := someE hk
 refine hQ _ _ (Q4 hs [.tmp 4, .tmp 5] rfl [.slice none 0 0, Qb 2] (by kernel_rfl) (by kernel_rfl) ⟨none, 0, ([]), rfl, hw.pk [0, 2], (OSl.nil _ _)⟩)
def Qfm : Option (List M48) :=
 some ([])
theorem Qg6 {r : (List M48)} (hk : Qfm = some r) {g w : World} {F : Ch} {ih : IH} (hw : St g w [F] ih) :
  CallsR Tryz.prog 14 #[.pointer none] w fun v w' => ∃ (p1 : Option Addr) (c1 : Nat) (d1 : Ch), v = .slice p1 r.length c1 ∧ St g w' [d1, F] ih ∧ OSl e48 ih p1 c1 r d1 := by
 refine f_i Tryz.func14 rfl 46 rfl fun a Qf hQ hQn hs => ?_
 refine Qd (Qa (pn hs 1 [(0, .pointer none)] fun a hs => ?_))
 refine Qc (Qd (Qd (Qa (pn hs 2 [(0, .pointer none), (5, .bool true)] fun a hs => ?_))))
 refine Qc (Qgb hs (Qd (Qa (pn hs 1 [(2, .slice none 0 0)] fun a hs => ?_))))
 refine Qc (Qi ?_)
 have hw := hw.nil
 obtain rfl := someE hk
 exact qr1 hQ hs ⟨none, 0, ([]), rfl, hw.pk [0, 1], (OSl.nil _ _)⟩
def Q2 : Option Unit :=
 some ()
theorem Q6 {x1 x2 x3 x4 : Int} {x5 : List M44} {x6 : Value} {x7 x8 x9 : Int} {x10 : List Int} {x11 x12 x13 x14 : Int} {x15 : List Int} {d1 : Ch} {b1 b2 c1 c2 c3 : Nat} {p1 p2 p3 : Option Addr} {r : Unit} (hk : Q2 = some r) {g w : World} {F : Ch} {ih : IH} (h1 : OSl e44 ih p1 c1 x5 d1) (h2 : x6.oneCell' = true) (h3 : RSl e5 ih [] p2 c2 x10) (h4 : RSl e5 ih [] p3 c3 x15) (hw : St g w [k37 b1 x1 x2 x3 x4 b2 x7 x8 x9 p2 x10 c2 x11 x12 x13 x14 p3 x15 c3, bx b2 [.slice p1 x5.length c1, x6] 113, d1, F] ih) :
  CallsR Tryz.prog 10 #[(pt b1 0)] w fun v w' => v = .bool false ∧ St g w' [bx b1 [Qb x1, Qb x2, Qe x3, Qb x4, (pt b2 0), Qb x7, Qk x8, Qe x9, .slice p2 x10.length c2, Qb x11, .pointer none, Qe x12, Qb x13, Qe x14, .slice p3 x15.length c3] 85, bx b2 [.slice p1 x5.length c1, x6] 113, d1, F] ih := by
 refine f_i Tryz.func10 rfl 24 rfl fun a Qf hQ hQn hs => ?_
 refine Qd (Qa (pn hs 1 [(0, (pt b1 0))] fun a hs => ?_))
 refine Qc (Qd (Qd (Qa (pu hs 6 fun a hs => ?_))))
 refine Qj hs (hw.at_ 0 rfl) 10 fun a hs => pn hs 2 [(0, (pt b1 0)), (13, .bool true)] fun a hs => Qc (Qgb hs (Qd (Qa (pn hs 1 [(2, .bool false)] fun a hs => ?_))))
 refine Qc (Qi ?_)
 obtain rfl := someE hk
 exact qr1 hQ hs ⟨rfl, hw.pk [0, 1, 2, 3]⟩
def QaI (x1 : List Int) : Option (List Int) :=
 (app [] x1).bind fun x => some x
theorem QaQ {x1 : List Int} {d1 : Ch} {c1 : Nat} {p1 : Option Addr} {r : List Int} (hk : QaI x1 = some r) {g w : World} {F : Ch} {ih : IH} (h1 : RSl e5 ih d1 p1 c1 x1) (h2 : ∀ q ∈ d1, q ∈ F) (hw : St g w [F] ih) :
  CallsR Tryz.prog 29 #[.slice p1 x1.length c1] w fun v w' => ∃ (p : Option Addr) (c : Nat) (d : Ch), v = .slice p r.length c ∧ St g w' [d, F] ih ∧ OSl e5 ih p c r d := by
 rcases p1 with _ | q
 ·obtain ⟨_, rfl, rfl⟩ := h1
  replace hk : some [] = some r := hk
  refine QmS (vs := [.slice none 0 0]) Tryz.func29 rfl 8 rfl (by kernel_rfl) [(0, .slice none 0 0)] (by kernel_rfl) fun a Qf hQ hQn hs => ?_
  refine Qd (Qa (pn hs 1 [(0, .slice none 0 0)] fun a hs => ?_))
  refine Qc (Qd (Qd (Qa (pn hs 2 [(0, .slice none 0 0), (4, .bool true)] fun a hs => ?_))))
  refine Qc (Qgb hs (Qd (Qa (pn hs 1 [(2, .slice none 0 0)] fun a hs => ?_))))
  refine Qc (Qi ?_)
  have hw := hw.nil
  obtain rfl := someE hk
  refine hQ _ _ (QjK hs rfl (v := .slice none 0 0) (by kernel_rfl) ⟨none, 0, ([]), rfl, hw.pk [0, 1], (OSl.nil _ _)⟩)
 refine QmS (vs := [.slice (some q) x1.length c1]) Tryz.func29 rfl 8 rfl (by kernel_rfl) [(0, .slice (some q) x1.length c1)] (by kernel_rfl) fun a Qf hQ hQn hs => ?_
 refine Qd (Qa (pn hs 1 [(0, .slice (some q) x1.length c1)] fun a hs => ?_))
 refine Qc (Qd (Qd (Qa (pn hs 2 [(0, .slice (some q) x1.length c1), (4, .bool false)] fun a hs => ?_))))
 refine Qc (QhJ hs (Qg (Qd (Qa (QC hs hw [] 5 (fun b => .slice (some ⟨b, 0, none⟩) 0 0) (by kernel_rfl) (fun _ => by kernel_rfl) fun a w b1 hs hw => ?_)))))
 refine pu hs 1 fun a hs => ?_
 obtain ⟨x2, h3, hk⟩ := bindE hk
 refine Qi1 hs hw (E := e5) QmZ 0 rfl (OSl.of0 (ih := ih) (b := b1)) (by kernel_rfl) (by kernel_rfl) (h1.mono (Le.refl _)) (((hw.vw 1 rfl).sub h2).anti (Le.refl _)) (by kernel_rfl) h3 fun a w p2 c2 d2 h4 hw hs => ?_
 refine pn hs 1 [(2, .slice p2 x2.length c2)] fun a hs => Qc (Qi ?_)
 obtain rfl := someE hk
 refine hQ _ _ (QjK hs rfl (v := .slice p2 x2.length c2) (by kernel_rfl) ⟨p2, c2, d2, rfl, hw.pk [0, 1], h4⟩)
def Qep (x1 : Bool) : Option Bool :=
 if x1 = true then some true
 else some false
def QfN (x1 : Int) : Option Bool :=
 (if (x1 == 2) = true then some (x1 == 2)
  else some (x1 == 3) : Option Bool).bind fun s1 => Qep s1
theorem Qh9 {x1 : Int} {r : Bool} (hk : QfN x1 = some r) {g w : World} {F : Ch} {ih : IH} (hw : St g w [F] ih) :
  CallsR Tryz.prog 151 #[Qb x1] w fun v w' => v = .bool r ∧ St g w' [F] ih := by
 refine f_i Tryz.func151 rfl 7 rfl fun a Qf hQ hQn hs => ?_
 refine Qd (Qa (pn hs 1 [(0, Qb x1)] fun a hs => ?_))
 refine Qc (Qd (Qa (pn hs 1 [(3, Qb x1)] fun a hs => ?_)))
 refine Qc (Ql ?_)
 obtain ⟨y1, hx1, hk⟩ := bindE hk
 obtain ⟨J1, hJ1⟩ := mkJ fun a w => ∃ (x2 : Bool), Qep x2 = some r ∧ Sees a 7 [(4, .bool x2)] ∧ St g w [F] ih
 refine QaG J1 ?_ ?_
 ·refine Qd (Qa (pn hs 2 [(3, Qb x1), (4, .bool (x1 == 2))] fun a hs => ?_))
  refine Qc ?_
  rcases ifbE hx1 with ⟨h1, hx1⟩ | ⟨h1, hx1⟩
  ·refine Qr hs h1 (Qg ?_)
   obtain rfl := someE hx1
   exact (hJ1 _ _).2 ⟨(x1 == 2), hk, hs.cst, hw.pk [0]⟩
  refine Qs hs h1 ?_
  refine Qa (pu hs 2 fun a hs => ?_)
  refine Qc ?_
  obtain rfl := someE hx1
  exact (hJ1 _ _).2 ⟨(x1 == 3), hk, hs.cst, hw.pk [0]⟩
 intro a w hh
 obtain ⟨x2, hk, hs, hw⟩ := (hJ1 _ _).1 hh
 rcases ifbE hk with ⟨h2, hk⟩ | ⟨h2, hk⟩
 ·refine Qr hs h2 ?_
  refine Qd (Qa (pn hs 1 [(2, .bool true)] fun a hs => ?_))
  refine Qc (Qi ?_)
  obtain rfl := someE hk
  exact qr1 hQ hs ⟨rfl, hw.pk [0]⟩
 refine Qs hs h2 ?_
 refine Qd (Qa (pn hs 1 [(2, .bool false)] fun a hs => ?_))
 refine Qc (Qi ?_)
 obtain rfl := someE hk
 exact qr1 hQ hs ⟨rfl, hw.pk [0]⟩
def QgF (x1 : Int) : Option Bool :=
 some ((decide (x1 ≥ 1)) && (decide (x1 ≤ 20)))
theorem QiW {x1 : Int} {r : Bool} (hk : QgF x1 = some r) {g w : World} {F : Ch} {ih : IH} (hw : St g w [F] ih) :
  CallsR Tryz.prog 57 #[Qb x1] w fun v w' => v = .bool r ∧ St g w' [F] ih := by
 refine f_i Tryz.func57 rfl 9 rfl fun a Qf hQ hQn hs => ?_
 refine Qd (Qa (pn hs 1 [(0, Qb x1)] fun a hs => ?_))
 refine Qc (Qd ?_)
 obtain ⟨J1, hJ1⟩ := mkJ fun a w => Sees a 9 [(2, .bool ((decide (x1 ≥ 1)) && (decide (x1 ≤ 20))))] ∧ St g w [F] ih
 refine Qn J1 ?_ ?_
 ·refine pu hs 3 fun a hs => ?_
  rcases boolE (decide (x1 ≥ 1)) with h1 | h1
  ·have hs := hs.aB 5 h1
   refine pu hs 4 fun a hs => Qc ?_
   exact (hJ1 _ _).2 ⟨(hs.bB 2 h1 (decide (x1 ≤ 20)) ((decide (x1 ≥ 1)) && (decide (x1 ≤ 20)))).cst, hw.pk [0]⟩
  have hs := hs.aB 5 h1
  refine pu hs 4 fun a hs => Qc ?_
  exact (hJ1 _ _).2 ⟨(hs.bB 2 h1 false ((decide (x1 ≥ 1)) && (decide (x1 ≤ 20)))).cst, hw.pk [0]⟩
 intro a w hh
 obtain ⟨hs, hw⟩ := (hJ1 _ _).1 hh
 refine Qi ?_
 obtain rfl := someE hk
 exact qr1 hQ hs ⟨rfl, hw.pk [0]⟩
def Qdr (x1 : Int) : Option Bool :=
 some ((decide (x1 ≥ 1)) && (decide (x1 ≤ 24)))
theorem Qf4 {x1 : Int} {r : Bool} (hk : Qdr x1 = some r) {g w : World} {F : Ch} {ih : IH} (hw : St g w [F] ih) :
  CallsR Tryz.prog 34 #[Qb x1] w fun v w' => v = .bool r ∧ St g w' [F] ih := by
 refine f_i Tryz.func34 rfl 9 rfl fun a Qf hQ hQn hs => ?_
 refine Qd (Qa (pn hs 1 [(0, Qb x1)] fun a hs => ?_))
 refine Qc (Qd ?_)
 obtain ⟨J1, hJ1⟩ := mkJ fun a w => Sees a 9 [(2, .bool ((decide (x1 ≥ 1)) && (decide (x1 ≤ 24))))] ∧ St g w [F] ih
 refine Qn J1 ?_ ?_
 ·refine pu hs 3 fun a hs => ?_
  rcases boolE (decide (x1 ≥ 1)) with h1 | h1
  ·have hs := hs.aB 5 h1
   refine pu hs 4 fun a hs => Qc ?_
   exact (hJ1 _ _).2 ⟨(hs.bB 2 h1 (decide (x1 ≤ 24)) ((decide (x1 ≥ 1)) && (decide (x1 ≤ 24)))).cst, hw.pk [0]⟩
  have hs := hs.aB 5 h1
  refine pu hs 4 fun a hs => Qc ?_
  exact (hJ1 _ _).2 ⟨(hs.bB 2 h1 false ((decide (x1 ≥ 1)) && (decide (x1 ≤ 24)))).cst, hw.pk [0]⟩
 intro a w hh
 obtain ⟨hs, hw⟩ := (hJ1 _ _).1 hh
 refine Qi ?_
 obtain rfl := someE hk
 exact qr1 hQ hs ⟨rfl, hw.pk [0]⟩
def Qf5 (x1 : Int) : Option Bool :=
 some ((decide (x1 > 100)) && (decide (x1 ≤ 105)))
theorem QiB {x1 : Int} {r : Bool} (hk : Qf5 x1 = some r) {g w : World} {F : Ch} {ih : IH} (hw : St g w [F] ih) :
  CallsR Tryz.prog 88 #[Qb x1] w fun v w' => v = .bool r ∧ St g w' [F] ih := by
 refine f_i Tryz.func88 rfl 9 rfl fun a Qf hQ hQn hs => ?_
 refine Qd (Qa (pn hs 1 [(0, Qb x1)] fun a hs => ?_))
 refine Qc (Qd ?_)
 obtain ⟨J1, hJ1⟩ := mkJ fun a w => Sees a 9 [(2, .bool ((decide (x1 > 100)) && (decide (x1 ≤ 105))))] ∧ St g w [F] ih
 refine Qn J1 ?_ ?_
 ·refine pu hs 3 fun a hs => ?_
  rcases boolE (decide (x1 > 100)) with h1 | h1
  ·have hs := hs.aB 5 h1
   refine pu hs 4 fun a hs => Qc ?_
   exact (hJ1 _ _).2 ⟨(hs.bB 2 h1 (decide (x1 ≤ 105)) ((decide (x1 > 100)) && (decide (x1 ≤ 105)))).cst, hw.pk [0]⟩
  have hs := hs.aB 5 h1
  refine pu hs 4 fun a hs => Qc ?_
  exact (hJ1 _ _).2 ⟨(hs.bB 2 h1 false ((decide (x1 > 100)) && (decide (x1 ≤ 105)))).cst, hw.pk [0]⟩
 intro a w hh
 obtain ⟨hs, hw⟩ := (hJ1 _ _).1 hh
 refine Qi ?_
 obtain rfl := someE hk
 exact qr1 hQ hs ⟨rfl, hw.pk [0]⟩
def Qf6 (x1 : Int) : Option Bool :=
 some ((decide (x1 > 200)) && (decide (x1 ≤ 206)))
theorem QiC {x1 : Int} {r : Bool} (hk : Qf6 x1 = some r) {g w : World} {F : Ch} {ih : IH} (hw : St g w [F] ih) :
  CallsR Tryz.prog 89 #[Qb x1] w fun v w' => v = .bool r ∧ St g w' [F] ih := by
 refine f_i Tryz.func89 rfl 9 rfl fun a Qf hQ hQn hs => ?_
 refine Qd (Qa (pn hs 1 [(0, Qb x1)] fun a hs => ?_))
 refine Qc (Qd ?_)
 obtain ⟨J1, hJ1⟩ := mkJ fun a w => Sees a 9 [(2, .bool ((decide (x1 > 200)) && (decide (x1 ≤ 206))))] ∧ St g w [F] ih
 refine Qn J1 ?_ ?_
 ·refine pu hs 3 fun a hs => ?_
  rcases boolE (decide (x1 > 200)) with h1 | h1
  ·have hs := hs.aB 5 h1
   refine pu hs 4 fun a hs => Qc ?_
   exact (hJ1 _ _).2 ⟨(hs.bB 2 h1 (decide (x1 ≤ 206)) ((decide (x1 > 200)) && (decide (x1 ≤ 206)))).cst, hw.pk [0]⟩
  have hs := hs.aB 5 h1
  refine pu hs 4 fun a hs => Qc ?_
  exact (hJ1 _ _).2 ⟨(hs.bB 2 h1 false ((decide (x1 > 200)) && (decide (x1 ≤ 206)))).cst, hw.pk [0]⟩
 intro a w hh
 obtain ⟨hs, hw⟩ := (hJ1 _ _).1 hh
 refine Qi ?_
 obtain rfl := someE hk
 exact qr1 hQ hs ⟨rfl, hw.pk [0]⟩
def Qea (x1 : Bool) : Option Bool :=
 some x1
def Qdh (x1 : Int) : Option Bool :=
 ((Qdr x1).bind fun y1 =>
  if y1 = true then some true
  else (Qf5 x1).bind fun y2 =>
  if y2 = true then some true
  else (Qf6 x1).bind fun y3 =>
  some y3 : Option Bool).bind fun s1 => Qea s1
theorem Qgm {x1 : Int} {r : Bool} (hk : Qdh x1 = some r) {g w : World} {F : Ch} {ih : IH} (hw : St g w [F] ih) :
  CallsR Tryz.prog 58 #[Qb x1] w fun v w' => v = .bool r ∧ St g w' [F] ih := by
 refine f_i Tryz.func58 rfl 13 rfl fun a Qf hQ hQn hs => ?_
 refine Qd (Qa (pn hs 1 [(0, Qb x1)] fun a hs => ?_))
 refine Qc (Qd ?_)
 obtain ⟨y1, hx1, hk⟩ := bindE hk
 obtain ⟨J1, hJ1⟩ := mkJ fun a w => ∃ (x2 : Bool), Qea x2 = some r ∧ Sees a 13 [(2, .bool x2)] ∧ St g w [F] ih
 refine Qn J1 ?_ ?_
 ·refine pu hs 1 fun a hs => ?_
  obtain ⟨y2, h1, hx1⟩ := bindE hx1
  refine Qv hs (Qf4 h1 ((hw.pk [0]).pack 0)) fun a w v hv hs => ?_
  obtain ⟨rfl, hw⟩ := hv
  have hw := hw.unpack 0 rfl
  refine pu hs 1 fun a hs => ?_
  rcases ifbE hx1 with ⟨h2, hx1⟩ | ⟨h2, hx1⟩
  ·have hs := hs.aB 5 h2
   refine pu hs 8 fun a hs => Qc ?_
   obtain rfl := someE hx1
   exact (hJ1 _ _).2 ⟨true, hk, hs.cst, hw.pk [0]⟩
  have hs := hs.aB 5 h2
  refine pu hs 1 fun a hs => ?_
  obtain ⟨y3, h3, hx1⟩ := bindE hx1
  refine Qv hs (QiB h3 ((hw.pk [0]).pack 0)) fun a w v hv hs => ?_
  obtain ⟨rfl, hw⟩ := hv
  have hw := hw.unpack 0 rfl
  refine pu hs 2 fun a hs => ?_
  rcases ifbE hx1 with ⟨h4, hx1⟩ | ⟨h4, hx1⟩
  ·have hs := hs.aB 9 h4
   refine pu hs 4 fun a hs => ?_
   have hw := hw.cL [F]
   refine Qc ?_
   obtain rfl := someE hx1
   exact (hJ1 _ _).2 ⟨true, hk, hs.cst, hw.pk [0]⟩
  have hs := hs.aB 9 h4
  have hw := hw.cL [F]
  refine pu hs 1 fun a hs => ?_
  obtain ⟨y4, h5, hx1⟩ := bindE hx1
  refine Qv hs (QiC h5 ((hw.pk [0]).pack 0)) fun a w v hv hs => ?_
  obtain ⟨rfl, hw⟩ := hv
  have hw := hw.unpack 0 rfl
  refine pn hs 2 [(2, .bool y4)] fun a hs => Qc ?_
  obtain rfl := someE hx1
  exact (hJ1 _ _).2 ⟨y4, hk, hs.cst, hw.pk [0]⟩
 intro a w hh
 obtain ⟨x2, hk, hs, hw⟩ := (hJ1 _ _).1 hh
 refine Qi ?_
 obtain rfl := someE hk
 exact qr1 hQ hs ⟨rfl, hw.pk [0]⟩
def Qf1 (x1 : Int) : Option Int :=
 some x1
theorem QiA {x1 x2 x3 x4 x5 x6 x7 x8 x9 x10 x11 x12 x13 x14 x15 x16 x17 x18 x19 : Int} {x20 : List Int} {x21 : Bool} {x22 : Int} {x23 : List M156} {x24 : List M96} {x25 : List Int} {x26 x27 x28 x29 x30 x31 x32 x33 x34 x35 x36 x37 x38 x39 x40 x41 x42 x43 x44 : Int} {x45 : List Int} {x46 : Bool} {x47 : Int} {x48 : List M156} {x49 : List M96} {x50 : List Int} {b1 c1 c2 c3 c4 b2 c5 c6 c7 c8 : Nat} {p1 p2 p3 p4 p5 p6 p7 p8 : Option Addr} {r : Int} (hk : Qf1 x4 = some r) {g w : World} {F : Ch} {ih : IH} (h1 : RSl e3 ih [] p1 c1 x20) (h2 : RSl Qcf ih [] p2 c2 x23) (h3 : RSl e96 ih [] p3 c3 x24) (h4 : RSl e5 ih [] p4 c4 x25) (h5 : RSl e3 ih [] p5 c5 x45) (h6 : RSl Qcf ih [] p6 c6 x48) (h7 : RSl e96 ih [] p7 c7 x49) (h8 : RSl e5 ih [] p8 c8 x50) (hw : St g w [k10 b1 x1 x2 x3 x4 x5 x6 x7 x8 x9 x10 x11 x12 x13 x14 x15 x16 x17 x18 x19 p1 x20 c1 x21 x22 p2 x23 c2 p3 x24 c3 p4 x25 c4, k10 b2 x26 x27 x28 x29 x30 x31 x32 x33 x34 x35 x36 x37 x38 x39 x40 x41 x42 x43 x44 p5 x45 c5 x46 x47 p6 x48 c6 p7 x49 c7 p8 x50 c8, F] ih) :
  CallsR Tryz.prog 95 #[(pt b1 0), (pt b2 0)] w fun v w' => v = .tuple #[] ∧ St g w' [bx b1 [Qb x1, Qb x2, Qb x3, Qb x4, Qe x5, Qe x6, Qe x7, Qe x8, Qe x9, Qe x10, Qb x11, Qk x12, Qb x13, Qb x14, Qb x15, Qe x16, Qb x17, Qb x18, Qe x19, .slice p1 x20.length c1, .bool x21, Qb x22, .slice p2 x23.length c2, .slice p3 x24.length c3, .slice p4 x25.length c4] 48, bx b2 [Qb x26, Qb x27, Qb x28, Qb r, Qe x30, Qe x31, Qe x32, Qe x33, Qe x34, Qe x35, Qb x36, Qk x37, Qb x38, Qb x39, Qb x40, Qe x41, Qb x42, Qb x43, Qe x44, .slice p5 x45.length c5, .bool x46, Qb x47, .slice p6 x48.length c6, .slice p7 x49.length c7, .slice p8 x50.length c8] 48, F] ih := by
 refine f_i Tryz.func95 rfl 5 rfl fun a Qf hQ hQn hs => ?_
 refine Qa (pu hs 1 fun a hs => ?_)
 refine Qj hs (hw.at_ 0 rfl) 3 fun a hs => pu hs 1 fun a hs => QE hs hw 1 rfl 3 (v := Qb x4) fun a w hs hw => ?_
 have hs := hs.cst (e' := [])
 refine Qc ?_
 obtain rfl := someE hk
 refine hQn _ _ (Q4 hs [] rfl [] (by kernel_rfl) (by kernel_rfl) ⟨rfl, hw.pk [0, 1, 2]⟩)
def Qf0 (x1 : Int) : Option Int :=
 some x1
theorem Qiz {x1 x2 x3 x4 x5 x6 x7 x8 x9 x10 x11 x12 x13 x14 x15 x16 x17 x18 x19 : Int} {x20 : List Int} {x21 : Bool} {x22 : Int} {x23 : List M156} {x24 : List M96} {x25 : List Int} {x26 x27 x28 x29 x30 x31 x32 x33 x34 x35 x36 x37 x38 x39 x40 x41 x42 x43 x44 : Int} {x45 : List Int} {x46 : Bool} {x47 : Int} {x48 : List M156} {x49 : List M96} {x50 : List Int} {b1 c1 c2 c3 c4 b2 c5 c6 c7 c8 : Nat} {p1 p2 p3 p4 p5 p6 p7 p8 : Option Addr} {r : Int} (hk : Qf0 x5 = some r) {g w : World} {F : Ch} {ih : IH} (h1 : RSl e3 ih [] p1 c1 x20) (h2 : RSl Qcf ih [] p2 c2 x23) (h3 : RSl e96 ih [] p3 c3 x24) (h4 : RSl e5 ih [] p4 c4 x25) (h5 : RSl e3 ih [] p5 c5 x45) (h6 : RSl Qcf ih [] p6 c6 x48) (h7 : RSl e96 ih [] p7 c7 x49) (h8 : RSl e5 ih [] p8 c8 x50) (hw : St g w [k10 b1 x1 x2 x3 x4 x5 x6 x7 x8 x9 x10 x11 x12 x13 x14 x15 x16 x17 x18 x19 p1 x20 c1 x21 x22 p2 x23 c2 p3 x24 c3 p4 x25 c4, k10 b2 x26 x27 x28 x29 x30 x31 x32 x33 x34 x35 x36 x37 x38 x39 x40 x41 x42 x43 x44 p5 x45 c5 x46 x47 p6 x48 c6 p7 x49 c7 p8 x50 c8, F] ih) :
  CallsR Tryz.prog 96 #[(pt b1 0), (pt b2 0)] w fun v w' => v = .tuple #[] ∧ St g w' [bx b1 [Qb x1, Qb x2, Qb x3, Qb x4, Qe x5, Qe x6, Qe x7, Qe x8, Qe x9, Qe x10, Qb x11, Qk x12, Qb x13, Qb x14, Qb x15, Qe x16, Qb x17, Qb x18, Qe x19, .slice p1 x20.length c1, .bool x21, Qb x22, .slice p2 x23.length c2, .slice p3 x24.length c3, .slice p4 x25.length c4] 48, bx b2 [Qb x26, Qb x27, Qb x28, Qb x29, Qe r, Qe x31, Qe x32, Qe x33, Qe x34, Qe x35, Qb x36, Qk x37, Qb x38, Qb x39, Qb x40, Qe x41, Qb x42, Qb x43, Qe x44, .slice p5 x45.length c5, .bool x46, Qb x47, .slice p6 x48.length c6, .slice p7 x49.length c7, .slice p8 x50.length c8] 48, F] ih := by
 refine f_i Tryz.func96 rfl 5 rfl fun a Qf hQ hQn hs => ?_
 refine Qa (pu hs 1 fun a hs => ?_)
 refine Qj hs (hw.at_ 0 rfl) 4 fun a hs => pu hs 1 fun a hs => QE hs hw 1 rfl 4 (v := Qe x5) fun a w hs hw => ?_
 have hs := hs.cst (e' := [])
 refine Qc ?_
 obtain rfl := someE hk
 refine hQn _ _ (Q4 hs [] rfl [] (by kernel_rfl) (by kernel_rfl) ⟨rfl, hw.pk [0, 1, 2]⟩)
def QfZ (x1 : Int) : Option Int :=
 some x1
theorem Qiy {x1 x2 x3 x4 x5 x6 x7 x8 x9 x10 x11 x12 x13 x14 x15 x16 x17 x18 x19 : Int} {x20 : List Int} {x21 : Bool} {x22 : Int} {x23 : List M156} {x24 : List M96} {x25 : List Int} {x26 x27 x28 x29 x30 x31 x32 x33 x34 x35 x36 x37 x38 x39 x40 x41 x42 x43 x44 : Int} {x45 : List Int} {x46 : Bool} {x47 : Int} {x48 : List M156} {x49 : List M96} {x50 : List Int} {b1 c1 c2 c3 c4 b2 c5 c6 c7 c8 : Nat} {p1 p2 p3 p4 p5 p6 p7 p8 : Option Addr} {r : Int} (hk : QfZ x6 = some r) {g w : World} {F : Ch} {ih : IH} (h1 : RSl e3 ih [] p1 c1 x20) (h2 : RSl Qcf ih [] p2 c2 x23) (h3 : RSl e96 ih [] p3 c3 x24) (h4 : RSl e5 ih [] p4 c4 x25) (h5 : RSl e3 ih [] p5 c5 x45) (h6 : RSl Qcf ih [] p6 c6 x48) (h7 : RSl e96 ih [] p7 c7 x49) (h8 : RSl e5 ih [] p8 c8 x50) (hw : St g w [k10 b1 x1 x2 x3 x4 x5 x6 x7 x8 x9 x10 x11 x12 x13 x14 x15 x16 x17 x18 x19 p1 x20 c1 x21 x22 p2 x23 c2 p3 x24 c3 p4 x25 c4, k10 b2 x26 x27 x28 x29 x30 x31 x32 x33 x34 x35 x36 x37 x38 x39 x40 x41 x42 x43 x44 p5 x45 c5 x46 x47 p6 x48 c6 p7 x49 c7 p8 x50 c8, F] ih) :
  CallsR Tryz.prog 97 #[(pt b1 0), (pt b2 0)] w fun v w' => v = .tuple #[] ∧ St g w' [bx b1 [Qb x1, Qb x2, Qb x3, Qb x4, Qe x5, Qe x6, Qe x7, Qe x8, Qe x9, Qe x10, Qb x11, Qk x12, Qb x13, Qb x14, Qb x15, Qe x16, Qb x17, Qb x18, Qe x19, .slice p1 x20.length c1, .bool x21, Qb x22, .slice p2 x23.length c2, .slice p3 x24.length c3, .slice p4 x25.length c4] 48, bx b2 [Qb x26, Qb x27, Qb x28, Qb x29, Qe x30, Qe r, Qe x32, Qe x33, Qe x34, Qe x35, Qb x36, Qk x37, Qb x38, Qb x39, Qb x40, Qe x41, Qb x42, Qb x43, Qe x44, .slice p5 x45.length c5, .bool x46, Qb x47, .slice p6 x48.length c6, .slice p7 x49.length c7, .slice p8 x50.length c8] 48, F] ih := by
 refine f_i Tryz.func97 rfl 5 rfl fun a Qf hQ hQn hs => ?_
 refine Qa (pu hs 1 fun a hs => ?_)
 refine Qj hs (hw.at_ 0 rfl) 5 fun a hs => pu hs 1 fun a hs => QE hs hw 1 rfl 5 (v := Qe x6) fun a w hs hw => ?_
 have hs := hs.cst (e' := [])
 refine Qc ?_
 obtain rfl := someE hk
 refine hQn _ _ (Q4 hs [] rfl [] (by kernel_rfl) (by kernel_rfl) ⟨rfl, hw.pk [0, 1, 2]⟩)
def QfY (x1 : Int) : Option Int :=
 some x1
theorem Qix {x1 x2 x3 x4 x5 x6 x7 x8 x9 x10 x11 x12 x13 x14 x15 x16 x17 x18 x19 : Int} {x20 : List Int} {x21 : Bool} {x22 : Int} {x23 : List M156} {x24 : List M96} {x25 : List Int} {x26 x27 x28 x29 x30 x31 x32 x33 x34 x35 x36 x37 x38 x39 x40 x41 x42 x43 x44 : Int} {x45 : List Int} {x46 : Bool} {x47 : Int} {x48 : List M156} {x49 : List M96} {x50 : List Int} {b1 c1 c2 c3 c4 b2 c5 c6 c7 c8 : Nat} {p1 p2 p3 p4 p5 p6 p7 p8 : Option Addr} {r : Int} (hk : QfY x8 = some r) {g w : World} {F : Ch} {ih : IH} (h1 : RSl e3 ih [] p1 c1 x20) (h2 : RSl Qcf ih [] p2 c2 x23) (h3 : RSl e96 ih [] p3 c3 x24) (h4 : RSl e5 ih [] p4 c4 x25) (h5 : RSl e3 ih [] p5 c5 x45) (h6 : RSl Qcf ih [] p6 c6 x48) (h7 : RSl e96 ih [] p7 c7 x49) (h8 : RSl e5 ih [] p8 c8 x50) (hw : St g w [k10 b1 x1 x2 x3 x4 x5 x6 x7 x8 x9 x10 x11 x12 x13 x14 x15 x16 x17 x18 x19 p1 x20 c1 x21 x22 p2 x23 c2 p3 x24 c3 p4 x25 c4, k10 b2 x26 x27 x28 x29 x30 x31 x32 x33 x34 x35 x36 x37 x38 x39 x40 x41 x42 x43 x44 p5 x45 c5 x46 x47 p6 x48 c6 p7 x49 c7 p8 x50 c8, F] ih) :
  CallsR Tryz.prog 98 #[(pt b1 0), (pt b2 0)] w fun v w' => v = .tuple #[] ∧ St g w' [bx b1 [Qb x1, Qb x2, Qb x3, Qb x4, Qe x5, Qe x6, Qe x7, Qe x8, Qe x9, Qe x10, Qb x11, Qk x12, Qb x13, Qb x14, Qb x15, Qe x16, Qb x17, Qb x18, Qe x19, .slice p1 x20.length c1, .bool x21, Qb x22, .slice p2 x23.length c2, .slice p3 x24.length c3, .slice p4 x25.length c4] 48, bx b2 [Qb x26, Qb x27, Qb x28, Qb x29, Qe x30, Qe x31, Qe x32, Qe r, Qe x34, Qe x35, Qb x36, Qk x37, Qb x38, Qb x39, Qb x40, Qe x41, Qb x42, Qb x43, Qe x44, .slice p5 x45.length c5, .bool x46, Qb x47, .slice p6 x48.length c6, .slice p7 x49.length c7, .slice p8 x50.length c8] 48, F] ih := by
 refine f_i Tryz.func98 rfl 5 rfl fun a Qf hQ hQn hs => ?_
 refine Qa (pu hs 1 fun a hs => ?_)
 refine Qj hs (hw.at_ 0 rfl) 7 fun a hs => pu hs 1 fun a hs => QE hs hw 1 rfl 7 (v := Qe x8) fun a w hs hw => ?_
 have hs := hs.cst (e' := [])
 refine Qc ?_
 obtain rfl := someE hk
 refine hQn _ _ (Q4 hs [] rfl [] (by kernel_rfl) (by kernel_rfl) ⟨rfl, hw.pk [0, 1, 2]⟩)
def QfX (x1 : Int) : Option Int :=
 some x1
theorem Qiw {x1 x2 x3 x4 x5 x6 x7 x8 x9 x10 x11 x12 x13 x14 x15 x16 x17 x18 x19 : Int} {x20 : List Int} {x21 : Bool} {x22 : Int} {x23 : List M156} {x24 : List M96} {x25 : List Int} {x26 x27 x28 x29 x30 x31 x32 x33 x34 x35 x36 x37 x38 x39 x40 x41 x42 x43 x44 : Int} {x45 : List Int} {x46 : Bool} {x47 : Int} {x48 : List M156} {x49 : List M96} {x50 : List Int} {b1 c1 c2 c3 c4 b2 c5 c6 c7 c8 : Nat} {p1 p2 p3 p4 p5 p6 p7 p8 : Option Addr} {r : Int} (hk : QfX x9 = some r) {g w : World} {F : Ch} {ih : IH} (h1 : RSl e3 ih [] p1 c1 x20) (h2 : RSl Qcf ih [] p2 c2 x23) (h3 : RSl e96 ih [] p3 c3 x24) (h4 : RSl e5 ih [] p4 c4 x25) (h5 : RSl e3 ih [] p5 c5 x45) (h6 : RSl Qcf ih [] p6 c6 x48) (h7 : RSl e96 ih [] p7 c7 x49) (h8 : RSl e5 ih [] p8 c8 x50) (hw : St g w [k10 b1 x1 x2 x3 x4 x5 x6 x7 x8 x9 x10 x11 x12 x13 x14 x15 x16 x17 x18 x19 p1 x20 c1 x21 x22 p2 x23 c2 p3 x24 c3 p4 x25 c4, k10 b2 x26 x27 x28 x29 x30 x31 x32 x33 x34 x35 x36 x37 x38 x39 x40 x41 x42 x43 x44 p5 x45 c5 x46 x47 p6 x48 c6 p7 x49 c7 p8 x50 c8, F] ih) :
  CallsR Tryz.prog 99 #[(pt b1 0), (pt b2 0)] w fun v w' => v = .tuple #[] ∧ St g w' [bx b1 [Qb x1, Qb x2, Qb x3, Qb x4, Qe x5, Qe x6, Qe x7, Qe x8, Qe x9, Qe x10, Qb x11, Qk x12, Qb x13, Qb x14, Qb x15, Qe x16, Qb x17, Qb x18, Qe x19, .slice p1 x20.length c1, .bool x21, Qb x22, .slice p2 x23.length c2, .slice p3 x24.length c3, .slice p4 x25.length c4] 48, bx b2 [Qb x26, Qb x27, Qb x28, Qb x29, Qe x30, Qe x31, Qe x32, Qe x33, Qe r, Qe x35, Qb x36, Qk x37, Qb x38, Qb x39, Qb x40, Qe x41, Qb x42, Qb x43, Qe x44, .slice p5 x45.length c5, .bool x46, Qb x47, .slice p6 x48.length c6, .slice p7 x49.length c7, .slice p8 x50.length c8] 48, F] ih := by
 refine f_i Tryz.func99 rfl 5 rfl fun a Qf hQ hQn hs => ?_
 refine Qa (pu hs 1 fun a hs => ?_)
 refine Qj hs (hw.at_ 0 rfl) 8 fun a hs => pu hs 1 fun a hs => QE hs hw 1 rfl 8 (v := Qe x9) fun a w hs hw => ?_
 have hs := hs.cst (e' := [])
 refine Qc ?_
 obtain rfl := someE hk
 refine hQn _ _ (Q4 hs [] rfl [] (by kernel_rfl) (by kernel_rfl) ⟨rfl, hw.pk [0, 1, 2]⟩)
def QfW (x1 : Int) : Option Int :=
 some x1
theorem Qiv {x1 x2 x3 x4 x5 x6 x7 x8 x9 x10 x11 x12 x13 x14 x15 x16 x17 x18 x19 : Int} {x20 : List Int} {x21 : Bool} {x22 : Int} {x23 : List M156} {x24 : List M96} {x25 : List Int} {x26 x27 x28 x29 x30 x31 x32 x33 x34 x35 x36 x37 x38 x39 x40 x41 x42 x43 x44 : Int} {x45 : List Int} {x46 : Bool} {x47 : Int} {x48 : List M156} {x49 : List M96} {x50 : List Int} {b1 c1 c2 c3 c4 b2 c5 c6 c7 c8 : Nat} {p1 p2 p3 p4 p5 p6 p7 p8 : Option Addr} {r : Int} (hk : QfW x11 = some r) {g w : World} {F : Ch} {ih : IH} (h1 : RSl e3 ih [] p1 c1 x20) (h2 : RSl Qcf ih [] p2 c2 x23) (h3 : RSl e96 ih [] p3 c3 x24) (h4 : RSl e5 ih [] p4 c4 x25) (h5 : RSl e3 ih [] p5 c5 x45) (h6 : RSl Qcf ih [] p6 c6 x48) (h7 : RSl e96 ih [] p7 c7 x49) (h8 : RSl e5 ih [] p8 c8 x50) (hw : St g w [k10 b1 x1 x2 x3 x4 x5 x6 x7 x8 x9 x10 x11 x12 x13 x14 x15 x16 x17 x18 x19 p1 x20 c1 x21 x22 p2 x23 c2 p3 x24 c3 p4 x25 c4, k10 b2 x26 x27 x28 x29 x30 x31 x32 x33 x34 x35 x36 x37 x38 x39 x40 x41 x42 x43 x44 p5 x45 c5 x46 x47 p6 x48 c6 p7 x49 c7 p8 x50 c8, F] ih) :
  CallsR Tryz.prog 100 #[(pt b1 0), (pt b2 0)] w fun v w' => v = .tuple #[] ∧ St g w' [bx b1 [Qb x1, Qb x2, Qb x3, Qb x4, Qe x5, Qe x6, Qe x7, Qe x8, Qe x9, Qe x10, Qb x11, Qk x12, Qb x13, Qb x14, Qb x15, Qe x16, Qb x17, Qb x18, Qe x19, .slice p1 x20.length c1, .bool x21, Qb x22, .slice p2 x23.length c2, .slice p3 x24.length c3, .slice p4 x25.length c4] 48, bx b2 [Qb x26, Qb x27, Qb x28, Qb x29, Qe x30, Qe x31, Qe x32, Qe x33, Qe x34, Qe x35, Qb r, Qk x37, Qb x38, Qb x39, Qb x40, Qe x41, Qb x42, Qb x43, Qe x44, .slice p5 x45.length c5, .bool x46, Qb x47, .slice p6 x48.length c6, .slice p7 x49.length c7, .slice p8 x50.length c8] 48, F] ih := by
 refine f_i Tryz.func100 rfl 5 rfl fun a Qf hQ hQn hs => ?_
 refine Qa (pu hs 1 fun a hs => ?_)
 refine Qj hs (hw.at_ 0 rfl) 10 fun a hs => pu hs 1 fun a hs => QE hs hw 1 rfl 10 (v := Qb x11) fun a w hs hw => ?_
 have hs := hs.cst (e' := [])
 refine Qc ?_
 obtain rfl := someE hk
 refine hQn _ _ (Q4 hs [] rfl [] (by kernel_rfl) (by kernel_rfl) ⟨rfl, hw.pk [0, 1, 2]⟩)
def QfV (x1 : Int) : Option Int :=
 some x1
theorem Qiu {x1 x2 x3 x4 x5 x6 x7 x8 x9 x10 x11 x12 x13 x14 x15 x16 x17 x18 x19 : Int} {x20 : List Int} {x21 : Bool} {x22 : Int} {x23 : List M156} {x24 : List M96} {x25 : List Int} {x26 x27 x28 x29 x30 x31 x32 x33 x34 x35 x36 x37 x38 x39 x40 x41 x42 x43 x44 : Int} {x45 : List Int} {x46 : Bool} {x47 : Int} {x48 : List M156} {x49 : List M96} {x50 : List Int} {b1 c1 c2 c3 c4 b2 c5 c6 c7 c8 : Nat} {p1 p2 p3 p4 p5 p6 p7 p8 : Option Addr} {r : Int} (hk : QfV x7 = some r) {g w : World} {F : Ch} {ih : IH} (h1 : RSl e3 ih [] p1 c1 x20) (h2 : RSl Qcf ih [] p2 c2 x23) (h3 : RSl e96 ih [] p3 c3 x24) (h4 : RSl e5 ih [] p4 c4 x25) (h5 : RSl e3 ih [] p5 c5 x45) (h6 : RSl Qcf ih [] p6 c6 x48) (h7 : RSl e96 ih [] p7 c7 x49) (h8 : RSl e5 ih [] p8 c8 x50) (hw : St g w [k10 b1 x1 x2 x3 x4 x5 x6 x7 x8 x9 x10 x11 x12 x13 x14 x15 x16 x17 x18 x19 p1 x20 c1 x21 x22 p2 x23 c2 p3 x24 c3 p4 x25 c4, k10 b2 x26 x27 x28 x29 x30 x31 x32 x33 x34 x35 x36 x37 x38 x39 x40 x41 x42 x43 x44 p5 x45 c5 x46 x47 p6 x48 c6 p7 x49 c7 p8 x50 c8, F] ih) :
  CallsR Tryz.prog 101 #[(pt b1 0), (pt b2 0)] w fun v w' => v = .tuple #[] ∧ St g w' [bx b1 [Qb x1, Qb x2, Qb x3, Qb x4, Qe x5, Qe x6, Qe x7, Qe x8, Qe x9, Qe x10, Qb x11, Qk x12, Qb x13, Qb x14, Qb x15, Qe x16, Qb x17, Qb x18, Qe x19, .slice p1 x20.length c1, .bool x21, Qb x22, .slice p2 x23.length c2, .slice p3 x24.length c3, .slice p4 x25.length c4] 48, bx b2 [Qb x26, Qb x27, Qb x28, Qb x29, Qe x30, Qe x31, Qe r, Qe x33, Qe x34, Qe x35, Qb x36, Qk x37, Qb x38, Qb x39, Qb x40, Qe x41, Qb x42, Qb x43, Qe x44, .slice p5 x45.length c5, .bool x46, Qb x47, .slice p6 x48.length c6, .slice p7 x49.length c7, .slice p8 x50.length c8] 48, F] ih := by
 refine f_i Tryz.func101 rfl 5 rfl fun a Qf hQ hQn hs => ?_
 refine Qa (pu hs 1 fun a hs => ?_)
 refine Qj hs (hw.at_ 0 rfl) 6 fun a hs => pu hs 1 fun a hs => QE hs hw 1 rfl 6 (v := Qe x7) fun a w hs hw => ?_
 have hs := hs.cst (e' := [])
 refine Qc ?_
 obtain rfl := someE hk
 refine hQn _ _ (Q4 hs [] rfl [] (by kernel_rfl) (by kernel_rfl) ⟨rfl, hw.pk [0, 1, 2]⟩)
def QfU (x1 : Int) : Option Int :=
 some x1
theorem Qit {x1 x2 x3 x4 x5 x6 x7 x8 x9 x10 x11 x12 x13 x14 x15 x16 x17 x18 x19 : Int} {x20 : List Int} {x21 : Bool} {x22 : Int} {x23 : List M156} {x24 : List M96} {x25 : List Int} {x26 x27 x28 x29 x30 x31 x32 x33 x34 x35 x36 x37 x38 x39 x40 x41 x42 x43 x44 : Int} {x45 : List Int} {x46 : Bool} {x47 : Int} {x48 : List M156} {x49 : List M96} {x50 : List Int} {b1 c1 c2 c3 c4 b2 c5 c6 c7 c8 : Nat} {p1 p2 p3 p4 p5 p6 p7 p8 : Option Addr} {r : Int} (hk : QfU x13 = some r) {g w : World} {F : Ch} {ih : IH} (h1 : RSl e3 ih [] p1 c1 x20) (h2 : RSl Qcf ih [] p2 c2 x23) (h3 : RSl e96 ih [] p3 c3 x24) (h4 : RSl e5 ih [] p4 c4 x25) (h5 : RSl e3 ih [] p5 c5 x45) (h6 : RSl Qcf ih [] p6 c6 x48) (h7 : RSl e96 ih [] p7 c7 x49) (h8 : RSl e5 ih [] p8 c8 x50) (hw : St g w [k10 b1 x1 x2 x3 x4 x5 x6 x7 x8 x9 x10 x11 x12 x13 x14 x15 x16 x17 x18 x19 p1 x20 c1 x21 x22 p2 x23 c2 p3 x24 c3 p4 x25 c4, k10 b2 x26 x27 x28 x29 x30 x31 x32 x33 x34 x35 x36 x37 x38 x39 x40 x41 x42 x43 x44 p5 x45 c5 x46 x47 p6 x48 c6 p7 x49 c7 p8 x50 c8, F] ih) :
  CallsR Tryz.prog 102 #[(pt b1 0), (pt b2 0)] w fun v w' => v = .tuple #[] ∧ St g w' [bx b1 [Qb x1, Qb x2, Qb x3, Qb x4, Qe x5, Qe x6, Qe x7, Qe x8, Qe x9, Qe x10, Qb x11, Qk x12, Qb x13, Qb x14, Qb x15, Qe x16, Qb x17, Qb x18, Qe x19, .slice p1 x20.length c1, .bool x21, Qb x22, .slice p2 x23.length c2, .slice p3 x24.length c3, .slice p4 x25.length c4] 48, bx b2 [Qb x26, Qb x27, Qb x28, Qb x29, Qe x30, Qe x31, Qe x32, Qe x33, Qe x34, Qe x35, Qb x36, Qk x37, Qb r, Qb x39, Qb x40, Qe x41, Qb x42, Qb x43, Qe x44, .slice p5 x45.length c5, .bool x46, Qb x47, .slice p6 x48.length c6, .slice p7 x49.length c7, .slice p8 x50.length c8] 48, F] ih := by
 refine f_i Tryz.func102 rfl 5 rfl fun a Qf hQ hQn hs => ?_
 refine Qa (pu hs 1 fun a hs => ?_)
 refine Qj hs (hw.at_ 0 rfl) 12 fun a hs => pu hs 1 fun a hs => QE hs hw 1 rfl 12 (v := Qb x13) fun a w hs hw => ?_
 have hs := hs.cst (e' := [])
 refine Qc ?_
 obtain rfl := someE hk
 refine hQn _ _ (Q4 hs [] rfl [] (by kernel_rfl) (by kernel_rfl) ⟨rfl, hw.pk [0, 1, 2]⟩)
def QfT (x1 : Int) : Option Int :=
 some x1
theorem Qis {x1 x2 x3 x4 x5 x6 x7 x8 x9 x10 x11 x12 x13 x14 x15 x16 x17 x18 x19 : Int} {x20 : List Int} {x21 : Bool} {x22 : Int} {x23 : List M156} {x24 : List M96} {x25 : List Int} {x26 x27 x28 x29 x30 x31 x32 x33 x34 x35 x36 x37 x38 x39 x40 x41 x42 x43 x44 : Int} {x45 : List Int} {x46 : Bool} {x47 : Int} {x48 : List M156} {x49 : List M96} {x50 : List Int} {b1 c1 c2 c3 c4 b2 c5 c6 c7 c8 : Nat} {p1 p2 p3 p4 p5 p6 p7 p8 : Option Addr} {r : Int} (hk : QfT x12 = some r) {g w : World} {F : Ch} {ih : IH} (h1 : RSl e3 ih [] p1 c1 x20) (h2 : RSl Qcf ih [] p2 c2 x23) (h3 : RSl e96 ih [] p3 c3 x24) (h4 : RSl e5 ih [] p4 c4 x25) (h5 : RSl e3 ih [] p5 c5 x45) (h6 : RSl Qcf ih [] p6 c6 x48) (h7 : RSl e96 ih [] p7 c7 x49) (h8 : RSl e5 ih [] p8 c8 x50) (hw : St g w [k10 b1 x1 x2 x3 x4 x5 x6 x7 x8 x9 x10 x11 x12 x13 x14 x15 x16 x17 x18 x19 p1 x20 c1 x21 x22 p2 x23 c2 p3 x24 c3 p4 x25 c4, k10 b2 x26 x27 x28 x29 x30 x31 x32 x33 x34 x35 x36 x37 x38 x39 x40 x41 x42 x43 x44 p5 x45 c5 x46 x47 p6 x48 c6 p7 x49 c7 p8 x50 c8, F] ih) :
  CallsR Tryz.prog 103 #[(pt b1 0), (pt b2 0)] w fun v w' => v = .tuple #[] ∧ St g w' [bx b1 [Qb x1, Qb x2, Qb x3, Qb x4, Qe x5, Qe x6, Qe x7, Qe x8, Qe x9, Qe x10, Qb x11, Qk x12, Qb x13, Qb x14, Qb x15, Qe x16, Qb x17, Qb x18, Qe x19, .slice p1 x20.length c1, .bool x21, Qb x22, .slice p2 x23.length c2, .slice p3 x24.length c3, .slice p4 x25.length c4] 48, bx b2 [Qb x26, Qb x27, Qb x28, Qb x29, Qe x30, Qe x31, Qe x32, Qe x33, Qe x34, Qe x35, Qb x36, Qk r, Qb x38, Qb x39, Qb x40, Qe x41, Qb x42, Qb x43, Qe x44, .slice p5 x45.length c5, .bool x46, Qb x47, .slice p6 x48.length c6, .slice p7 x49.length c7, .slice p8 x50.length c8] 48, F] ih := by
 refine f_i Tryz.func103 rfl 5 rfl fun a Qf hQ hQn hs => ?_
 refine Qa (pu hs 1 fun a hs => ?_)
 refine Qj hs (hw.at_ 0 rfl) 11 fun a hs => pu hs 1 fun a hs => QE hs hw 1 rfl 11 (v := Qk x12) fun a w hs hw => ?_
 have hs := hs.cst (e' := [])
 refine Qc ?_
 obtain rfl := someE hk
 refine hQn _ _ (Q4 hs [] rfl [] (by kernel_rfl) (by kernel_rfl) ⟨rfl, hw.pk [0, 1, 2]⟩)
def Qfy (x1 : Int) : Option Int :=
 some x1
theorem Qh4 {x1 x2 x3 x4 x5 x6 x7 x8 x9 x10 x11 x12 x13 x14 x15 x16 x17 x18 x19 : Int} {x20 : List Int} {x21 : Bool} {x22 : Int} {x23 : List M156} {x24 : List M96} {x25 : List Int} {x26 x27 x28 x29 x30 x31 x32 x33 x34 x35 x36 x37 x38 x39 x40 x41 x42 x43 x44 : Int} {x45 : List Int} {x46 : Bool} {x47 : Int} {x48 : List M156} {x49 : List M96} {x50 : List Int} {b1 c1 c2 c3 c4 b2 c5 c6 c7 c8 : Nat} {p1 p2 p3 p4 p5 p6 p7 p8 : Option Addr} {r : Int} (hk : Qfy x10 = some r) {g w : World} {F : Ch} {ih : IH} (h1 : RSl e3 ih [] p1 c1 x20) (h2 : RSl Qcf ih [] p2 c2 x23) (h3 : RSl e96 ih [] p3 c3 x24) (h4 : RSl e5 ih [] p4 c4 x25) (h5 : RSl e3 ih [] p5 c5 x45) (h6 : RSl Qcf ih [] p6 c6 x48) (h7 : RSl e96 ih [] p7 c7 x49) (h8 : RSl e5 ih [] p8 c8 x50) (hw : St g w [k10 b1 x1 x2 x3 x4 x5 x6 x7 x8 x9 x10 x11 x12 x13 x14 x15 x16 x17 x18 x19 p1 x20 c1 x21 x22 p2 x23 c2 p3 x24 c3 p4 x25 c4, k10 b2 x26 x27 x28 x29 x30 x31 x32 x33 x34 x35 x36 x37 x38 x39 x40 x41 x42 x43 x44 p5 x45 c5 x46 x47 p6 x48 c6 p7 x49 c7 p8 x50 c8, F] ih) :
  CallsR Tryz.prog 104 #[(pt b1 0), (pt b2 0)] w fun v w' => v = .tuple #[] ∧ St g w' [bx b1 [Qb x1, Qb x2, Qb x3, Qb x4, Qe x5, Qe x6, Qe x7, Qe x8, Qe x9, Qe x10, Qb x11, Qk x12, Qb x13, Qb x14, Qb x15, Qe x16, Qb x17, Qb x18, Qe x19, .slice p1 x20.length c1, .bool x21, Qb x22, .slice p2 x23.length c2, .slice p3 x24.length c3, .slice p4 x25.length c4] 48, bx b2 [Qb x26, Qb x27, Qb x28, Qb x29, Qe x30, Qe x31, Qe x32, Qe x33, Qe x34, Qe r, Qb x36, Qk x37, Qb x38, Qb x39, Qb x40, Qe x41, Qb x42, Qb x43, Qe x44, .slice p5 x45.length c5, .bool x46, Qb x47, .slice p6 x48.length c6, .slice p7 x49.length c7, .slice p8 x50.length c8] 48, F] ih := by
 refine f_i Tryz.func104 rfl 5 rfl fun a Qf hQ hQn hs => ?_
 refine Qa (pu hs 1 fun a hs => ?_)
 refine Qj hs (hw.at_ 0 rfl) 9 fun a hs => pu hs 1 fun a hs => QE hs hw 1 rfl 9 (v := Qe x10) fun a w hs hw => ?_
 have hs := hs.cst (e' := [])
 refine Qc ?_
 obtain rfl := someE hk
 refine hQn _ _ (Q4 hs [] rfl [] (by kernel_rfl) (by kernel_rfl) ⟨rfl, hw.pk [0, 1, 2]⟩)
def Qfx (x1 x2 x3 x4 : Int) : Option (Int × Int × Int × Int) :=
 some (x1, x2, x3, x4)
theorem Qh3 {x1 x2 x3 x4 x5 x6 x7 x8 x9 x10 x11 x12 x13 x14 x15 x16 x17 x18 x19 : Int} {x20 : List Int} {x21 : Bool} {x22 : Int} {x23 : List M156} {x24 : List M96} {x25 : List Int} {x26 x27 x28 x29 x30 x31 x32 x33 x34 x35 x36 x37 x38 x39 x40 x41 x42 x43 x44 : Int} {x45 : List Int} {x46 : Bool} {x47 : Int} {x48 : List M156} {x49 : List M96} {x50 : List Int} {b1 c1 c2 c3 c4 b2 c5 c6 c7 c8 : Nat} {p1 p2 p3 p4 p5 p6 p7 p8 : Option Addr} {r : Int × Int × Int × Int} (hk : Qfx x14 x15 x16 x17 = some r) {g w : World} {F : Ch} {ih : IH} (h1 : RSl e3 ih [] p1 c1 x20) (h2 : RSl Qcf ih [] p2 c2 x23) (h3 : RSl e96 ih [] p3 c3 x24) (h4 : RSl e5 ih [] p4 c4 x25) (h5 : RSl e3 ih [] p5 c5 x45) (h6 : RSl Qcf ih [] p6 c6 x48) (h7 : RSl e96 ih [] p7 c7 x49) (h8 : RSl e5 ih [] p8 c8 x50) (hw : St g w [k10 b1 x1 x2 x3 x4 x5 x6 x7 x8 x9 x10 x11 x12 x13 x14 x15 x16 x17 x18 x19 p1 x20 c1 x21 x22 p2 x23 c2 p3 x24 c3 p4 x25 c4, k10 b2 x26 x27 x28 x29 x30 x31 x32 x33 x34 x35 x36 x37 x38 x39 x40 x41 x42 x43 x44 p5 x45 c5 x46 x47 p6 x48 c6 p7 x49 c7 p8 x50 c8, F] ih) :
  CallsR Tryz.prog 105 #[(pt b1 0), (pt b2 0)] w fun v w' => v = .tuple #[] ∧ St g w' [bx b1 [Qb x1, Qb x2, Qb x3, Qb x4, Qe x5, Qe x6, Qe x7, Qe x8, Qe x9, Qe x10, Qb x11, Qk x12, Qb x13, Qb x14, Qb x15, Qe x16, Qb x17, Qb x18, Qe x19, .slice p1 x20.length c1, .bool x21, Qb x22, .slice p2 x23.length c2, .slice p3 x24.length c3, .slice p4 x25.length c4] 48, bx b2 [Qb x26, Qb x27, Qb x28, Qb x29, Qe x30, Qe x31, Qe x32, Qe x33, Qe x34, Qe x35, Qb x36, Qk x37, Qb x38, Qb r.1, Qb r.2.1, Qe r.2.2.1, Qb r.2.2.2, Qb x43, Qe x44, .slice p5 x45.length c5, .bool x46, Qb x47, .slice p6 x48.length c6, .slice p7 x49.length c7, .slice p8 x50.length c8] 48, F] ih := by
 refine f_i Tryz.func105 rfl 5 rfl fun a Qf hQ hQn hs => ?_
 refine Qa (pu hs 1 fun a hs => ?_)
 refine Qj hs (hw.at_ 0 rfl) 13 fun a hs => pu hs 1 fun a hs => QE hs hw 1 rfl 13 (v := .agg #[Qb x14, Qb x15, Qe x16, Qb x17]) fun a w hs hw => ?_
 have hs := hs.cst (e' := [])
 refine Qc ?_
 obtain rfl := someE hk
 refine hQn _ _ (Q4 hs [] rfl [] (by kernel_rfl) (by kernel_rfl) ⟨rfl, hw.pk [0, 1, 2]⟩)
def Qfw (x1 x2 : Int) (x3 : List Int) (x4 : Bool) (x5 : Int) : Option (Int × Int × (List Int) × Bool × Int) :=
 some (x1, x2, x3, x4, x5)
theorem Qh2 {x1 x2 x3 x4 x5 x6 x7 x8 x9 x10 x11 x12 x13 x14 x15 x16 x17 x18 x19 : Int} {x20 : List Int} {x21 : Bool} {x22 : Int} {x23 : List M156} {x24 : List M96} {x25 : List Int} {x26 x27 x28 x29 x30 x31 x32 x33 x34 x35 x36 x37 x38 x39 x40 x41 x42 x43 x44 : Int} {x45 : List Int} {x46 : Bool} {x47 : Int} {x48 : List M156} {x49 : List M96} {x50 : List Int} {b1 c1 c2 c3 c4 b2 c5 c6 c7 c8 : Nat} {p1 p2 p3 p4 p5 p6 p7 p8 : Option Addr} {r : Int × Int × (List Int) × Bool × Int} (hk : Qfw x18 x19 x20 x21 x22 = some r) {g w : World} {F : Ch} {ih : IH} (h1 : RSl e3 ih [] p1 c1 x20) (h2 : RSl Qcf ih [] p2 c2 x23) (h3 : RSl e96 ih [] p3 c3 x24) (h4 : RSl e5 ih [] p4 c4 x25) (h5 : RSl e3 ih [] p5 c5 x45) (h6 : RSl Qcf ih [] p6 c6 x48) (h7 : RSl e96 ih [] p7 c7 x49) (h8 : RSl e5 ih [] p8 c8 x50) (hw : St g w [k10 b1 x1 x2 x3 x4 x5 x6 x7 x8 x9 x10 x11 x12 x13 x14 x15 x16 x17 x18 x19 p1 x20 c1 x21 x22 p2 x23 c2 p3 x24 c3 p4 x25 c4, k10 b2 x26 x27 x28 x29 x30 x31 x32 x33 x34 x35 x36 x37 x38 x39 x40 x41 x42 x43 x44 p5 x45 c5 x46 x47 p6 x48 c6 p7 x49 c7 p8 x50 c8, F] ih) :
  CallsR Tryz.prog 106 #[(pt b1 0), (pt b2 0)] w fun v w' => ∃ (p9 : Option Addr) (c9 : Nat), v = .tuple #[] ∧ St g w' [bx b1 [Qb x1, Qb x2, Qb x3, Qb x4, Qe x5, Qe x6, Qe x7, Qe x8, Qe x9, Qe x10, Qb x11, Qk x12, Qb x13, Qb x14, Qb x15, Qe x16, Qb x17, Qb x18, Qe x19, .slice p1 x20.length c1, .bool x21, Qb x22, .slice p2 x23.length c2, .slice p3 x24.length c3, .slice p4 x25.length c4] 48, bx b2 [Qb x26, Qb x27, Qb x28, Qb x29, Qe x30, Qe x31, Qe x32, Qe x33, Qe x34, Qe x35, Qb x36, Qk x37, Qb x38, Qb x39, Qb x40, Qe x41, Qb x42, Qb r.1, Qe r.2.1, .slice p9 r.2.2.1.length c9, .bool r.2.2.2.1, Qb r.2.2.2.2, .slice p6 x48.length c6, .slice p7 x49.length c7, .slice p8 x50.length c8] 48, F] ih ∧ RSl e3 ih [] p9 c9 r.2.2.1 := by
 refine f_i Tryz.func106 rfl 5 rfl fun a Qf hQ hQn hs => ?_
 refine Qa (pu hs 1 fun a hs => ?_)
 refine Qj hs (hw.at_ 0 rfl) 17 fun a hs => pu hs 1 fun a hs => QE hs hw 1 rfl 17 (v := .agg #[Qb x18, Qe x19, .slice p1 x20.length c1, .bool x21, Qb x22]) fun a w hs hw => ?_
 have hs := hs.cst (e' := [])
 refine Qc ?_
 obtain rfl := someE hk
 refine hQn _ _ (Q4 hs [] rfl [] (by kernel_rfl) (by kernel_rfl) ⟨p1, c1, rfl, hw.pk [0, 1, 2], h1⟩)
def Qfv (x1 : List M156) : Option (List M156) :=
 some x1
theorem Qh1 {x1 x2 x3 x4 x5 x6 x7 x8 x9 x10 x11 x12 x13 x14 x15 x16 x17 x18 x19 : Int} {x20 : List Int} {x21 : Bool} {x22 : Int} {x23 : List M156} {x24 : List M96} {x25 : List Int} {x26 x27 x28 x29 x30 x31 x32 x33 x34 x35 x36 x37 x38 x39 x40 x41 x42 x43 x44 : Int} {x45 : List Int} {x46 : Bool} {x47 : Int} {x48 : List M156} {x49 : List M96} {x50 : List Int} {b1 c1 c2 c3 c4 b2 c5 c6 c7 c8 : Nat} {p1 p2 p3 p4 p5 p6 p7 p8 : Option Addr} {r : (List M156)} (hk : Qfv x23 = some r) {g w : World} {F : Ch} {ih : IH} (h1 : RSl e3 ih [] p1 c1 x20) (h2 : RSl Qcf ih [] p2 c2 x23) (h3 : RSl e96 ih [] p3 c3 x24) (h4 : RSl e5 ih [] p4 c4 x25) (h5 : RSl e3 ih [] p5 c5 x45) (h6 : RSl Qcf ih [] p6 c6 x48) (h7 : RSl e96 ih [] p7 c7 x49) (h8 : RSl e5 ih [] p8 c8 x50) (hw : St g w [k10 b1 x1 x2 x3 x4 x5 x6 x7 x8 x9 x10 x11 x12 x13 x14 x15 x16 x17 x18 x19 p1 x20 c1 x21 x22 p2 x23 c2 p3 x24 c3 p4 x25 c4, k10 b2 x26 x27 x28 x29 x30 x31 x32 x33 x34 x35 x36 x37 x38 x39 x40 x41 x42 x43 x44 p5 x45 c5 x46 x47 p6 x48 c6 p7 x49 c7 p8 x50 c8, F] ih) :
  CallsR Tryz.prog 107 #[(pt b1 0), (pt b2 0)] w fun v w' => ∃ (p9 : Option Addr) (c9 : Nat), v = .tuple #[] ∧ St g w' [bx b1 [Qb x1, Qb x2, Qb x3, Qb x4, Qe x5, Qe x6, Qe x7, Qe x8, Qe x9, Qe x10, Qb x11, Qk x12, Qb x13, Qb x14, Qb x15, Qe x16, Qb x17, Qb x18, Qe x19, .slice p1 x20.length c1, .bool x21, Qb x22, .slice p2 x23.length c2, .slice p3 x24.length c3, .slice p4 x25.length c4] 48, bx b2 [Qb x26, Qb x27, Qb x28, Qb x29, Qe x30, Qe x31, Qe x32, Qe x33, Qe x34, Qe x35, Qb x36, Qk x37, Qb x38, Qb x39, Qb x40, Qe x41, Qb x42, Qb x43, Qe x44, .slice p5 x45.length c5, .bool x46, Qb x47, .slice p9 r.length c9, .slice p7 x49.length c7, .slice p8 x50.length c8] 48, F] ih ∧ RSl Qcf ih [] p9 c9 r := by
 refine f_i Tryz.func107 rfl 5 rfl fun a Qf hQ hQn hs => ?_
 refine Qa (pu hs 1 fun a hs => ?_)
 refine Qj hs (hw.at_ 0 rfl) 22 fun a hs => pu hs 1 fun a hs => QE hs hw 1 rfl 22 (v := .slice p2 x23.length c2) fun a w hs hw => ?_
 have hs := hs.cst (e' := [])
 refine Qc ?_
 obtain rfl := someE hk
 refine hQn _ _ (Q4 hs [] rfl [] (by kernel_rfl) (by kernel_rfl) ⟨p2, c2, rfl, hw.pk [0, 1, 2], h2⟩)
def Qfu (x1 : List M96) : Option (List M96) :=
 some x1
theorem Qh0 {x1 x2 x3 x4 x5 x6 x7 x8 x9 x10 x11 x12 x13 x14 x15 x16 x17 x18 x19 : Int} {x20 : List Int} {x21 : Bool} {x22 : Int} {x23 : List M156} {x24 : List M96} {x25 : List Int} {x26 x27 x28 x29 x30 x31 x32 x33 x34 x35 x36 x37 x38 x39 x40 x41 x42 x43 x44 : Int} {x45 : List Int} {x46 : Bool} {x47 : Int} {x48 : List M156} {x49 : List M96} {x50 : List Int} {b1 c1 c2 c3 c4 b2 c5 c6 c7 c8 : Nat} {p1 p2 p3 p4 p5 p6 p7 p8 : Option Addr} {r : (List M96)} (hk : Qfu x24 = some r) {g w : World} {F : Ch} {ih : IH} (h1 : RSl e3 ih [] p1 c1 x20) (h2 : RSl Qcf ih [] p2 c2 x23) (h3 : RSl e96 ih [] p3 c3 x24) (h4 : RSl e5 ih [] p4 c4 x25) (h5 : RSl e3 ih [] p5 c5 x45) (h6 : RSl Qcf ih [] p6 c6 x48) (h7 : RSl e96 ih [] p7 c7 x49) (h8 : RSl e5 ih [] p8 c8 x50) (hw : St g w [k10 b1 x1 x2 x3 x4 x5 x6 x7 x8 x9 x10 x11 x12 x13 x14 x15 x16 x17 x18 x19 p1 x20 c1 x21 x22 p2 x23 c2 p3 x24 c3 p4 x25 c4, k10 b2 x26 x27 x28 x29 x30 x31 x32 x33 x34 x35 x36 x37 x38 x39 x40 x41 x42 x43 x44 p5 x45 c5 x46 x47 p6 x48 c6 p7 x49 c7 p8 x50 c8, F] ih) :
  CallsR Tryz.prog 108 #[(pt b1 0), (pt b2 0)] w fun v w' => ∃ (p9 : Option Addr) (c9 : Nat), v = .tuple #[] ∧ St g w' [bx b1 [Qb x1, Qb x2, Qb x3, Qb x4, Qe x5, Qe x6, Qe x7, Qe x8, Qe x9, Qe x10, Qb x11, Qk x12, Qb x13, Qb x14, Qb x15, Qe x16, Qb x17, Qb x18, Qe x19, .slice p1 x20.length c1, .bool x21, Qb x22, .slice p2 x23.length c2, .slice p3 x24.length c3, .slice p4 x25.length c4] 48, bx b2 [Qb x26, Qb x27, Qb x28, Qb x29, Qe x30, Qe x31, Qe x32, Qe x33, Qe x34, Qe x35, Qb x36, Qk x37, Qb x38, Qb x39, Qb x40, Qe x41, Qb x42, Qb x43, Qe x44, .slice p5 x45.length c5, .bool x46, Qb x47, .slice p6 x48.length c6, .slice p9 r.length c9, .slice p8 x50.length c8] 48, F] ih ∧ RSl e96 ih [] p9 c9 r := by
 refine f_i Tryz.func108 rfl 5 rfl fun a Qf hQ hQn hs => ?_
 refine Qa (pu hs 1 fun a hs => ?_)
 refine Qj hs (hw.at_ 0 rfl) 23 fun a hs => pu hs 1 fun a hs => QE hs hw 1 rfl 23 (v := .slice p3 x24.length c3) fun a w hs hw => ?_
 have hs := hs.cst (e' := [])
 refine Qc ?_
 obtain rfl := someE hk
 refine hQn _ _ (Q4 hs [] rfl [] (by kernel_rfl) (by kernel_rfl) ⟨p3, c3, rfl, hw.pk [0, 1, 2], h3⟩)
def Qft (x1 : List Int) : Option (List Int) :=
 some x1
theorem QhZ {x1 x2 x3 x4 x5 x6 x7 x8 x9 x10 x11 x12 x13 x14 x15 x16 x17 x18 x19 : Int} {x20 : List Int} {x21 : Bool} {x22 : Int} {x23 : List M156} {x24 : List M96} {x25 : List Int} {x26 x27 x28 x29 x30 x31 x32 x33 x34 x35 x36 x37 x38 x39 x40 x41 x42 x43 x44 : Int} {x45 : List Int} {x46 : Bool} {x47 : Int} {x48 : List M156} {x49 : List M96} {x50 : List Int} {b1 c1 c2 c3 c4 b2 c5 c6 c7 c8 : Nat} {p1 p2 p3 p4 p5 p6 p7 p8 : Option Addr} {r : (List Int)} (hk : Qft x25 = some r) {g w : World} {F : Ch} {ih : IH} (h1 : RSl e3 ih [] p1 c1 x20) (h2 : RSl Qcf ih [] p2 c2 x23) (h3 : RSl e96 ih [] p3 c3 x24) (h4 : RSl e5 ih [] p4 c4 x25) (h5 : RSl e3 ih [] p5 c5 x45) (h6 : RSl Qcf ih [] p6 c6 x48) (h7 : RSl e96 ih [] p7 c7 x49) (h8 : RSl e5 ih [] p8 c8 x50) (hw : St g w [k10 b1 x1 x2 x3 x4 x5 x6 x7 x8 x9 x10 x11 x12 x13 x14 x15 x16 x17 x18 x19 p1 x20 c1 x21 x22 p2 x23 c2 p3 x24 c3 p4 x25 c4, k10 b2 x26 x27 x28 x29 x30 x31 x32 x33 x34 x35 x36 x37 x38 x39 x40 x41 x42 x43 x44 p5 x45 c5 x46 x47 p6 x48 c6 p7 x49 c7 p8 x50 c8, F] ih) :
  CallsR Tryz.prog 109 #[(pt b1 0), (pt b2 0)] w fun v w' => ∃ (p9 : Option Addr) (c9 : Nat), v = .tuple #[] ∧ St g w' [bx b1 [Qb x1, Qb x2, Qb x3, Qb x4, Qe x5, Qe x6, Qe x7, Qe x8, Qe x9, Qe x10, Qb x11, Qk x12, Qb x13, Qb x14, Qb x15, Qe x16, Qb x17, Qb x18, Qe x19, .slice p1 x20.length c1, .bool x21, Qb x22, .slice p2 x23.length c2, .slice p3 x24.length c3, .slice p4 x25.length c4] 48, bx b2 [Qb x26, Qb x27, Qb x28, Qb x29, Qe x30, Qe x31, Qe x32, Qe x33, Qe x34, Qe x35, Qb x36, Qk x37, Qb x38, Qb x39, Qb x40, Qe x41, Qb x42, Qb x43, Qe x44, .slice p5 x45.length c5, .bool x46, Qb x47, .slice p6 x48.length c6, .slice p7 x49.length c7, .slice p9 r.length c9] 48, F] ih ∧ RSl e5 ih [] p9 c9 r := by
 refine f_i Tryz.func109 rfl 5 rfl fun a Qf hQ hQn hs => ?_
 refine Qa (pu hs 1 fun a hs => ?_)
 refine Qj hs (hw.at_ 0 rfl) 24 fun a hs => pu hs 1 fun a hs => QE hs hw 1 rfl 24 (v := .slice p4 x25.length c4) fun a w hs hw => ?_
 have hs := hs.cst (e' := [])
 refine Qc ?_
 obtain rfl := someE hk
 refine hQn _ _ (Q4 hs [] rfl [] (by kernel_rfl) (by kernel_rfl) ⟨p4, c4, rfl, hw.pk [0, 1, 2], h4⟩)
def Qe3 (x1 : M48) (x2 x3 x4 x5 x6 x7 x8 x9 x10 x11 x12 x13 x14 x15 x16 x17 : Int) (x18 : List Int) (x19 : Bool) (x20 : Int) (x21 : List M156) (x22 : List M96) (x23 : List Int) : Option M48 :=
 some (M48.mk x1.f0 x1.f1 x1.f2 x2 x3 x4 x5 x6 x7 x8 x9 x10 x11 (M41.mk x12 x13 x14 x15) (M44.mk x16 x17 x18 x19 x20) x21 x22 x23)
def Qe2 (x1 : Int) (x2 : M48) (x3 x4 x5 x6 x7 x8 x9 x10 x11 x12 x13 x14 x15 x16 x17 x18 : Int) (x19 : List Int) (x20 : Bool) (x21 : Int) (x22 : List M156) (x23 : List M96) : Option M48 :=
 (if ((bAnd .i64 x1 16384) != 0) = true then (
   (Qft x2.f17).bind fun y1 =>
   some y1)
  else some ([]) : Option (List Int)).bind fun s1 => Qe3 x2 x3 x4 x5 x6 x7 x8 x9 x10 x11 x12 x13 x14 x15 x16 x17 x18 x19 x20 x21 x22 x23 s1
def Qe1 (x1 : Int) (x2 : M48) (x3 x4 x5 x6 x7 x8 x9 x10 x11 x12 x13 x14 x15 x16 x17 x18 : Int) (x19 : List Int) (x20 : Bool) (x21 : Int) (x22 : List M156) : Option M48 :=
 (if ((bAnd .i64 x1 8192) != 0) = true then (
   (Qfu x2.f16).bind fun y1 =>
   some y1)
  else some ([]) : Option (List M96)).bind fun s1 => Qe2 x1 x2 x3 x4 x5 x6 x7 x8 x9 x10 x11 x12 x13 x14 x15 x16 x17 x18 x19 x20 x21 x22 s1
def Qe0 (x1 : Int) (x2 : M48) (x3 x4 x5 x6 x7 x8 x9 x10 x11 x12 x13 x14 x15 x16 x17 x18 : Int) (x19 : List Int) (x20 : Bool) (x21 : Int) : Option M48 :=
 (if ((bAnd .i64 x1 4096) != 0) = true then (
   (Qfv x2.f15).bind fun y1 =>
   some y1)
  else some ([]) : Option (List M156)).bind fun s1 => Qe1 x1 x2 x3 x4 x5 x6 x7 x8 x9 x10 x11 x12 x13 x14 x15 x16 x17 x18 x19 x20 x21 s1
def QeZ (x1 : Int) (x2 : M48) (x3 x4 x5 x6 x7 x8 x9 x10 x11 x12 x13 x14 x15 x16 : Int) : Option M48 :=
 (if ((bAnd .i64 x1 2048) != 0) = true then (
   (Qfw x2.f14.f0 x2.f14.f1 x2.f14.f2 x2.f14.f3 x2.f14.f4).bind fun y1 =>
   some (y1.1, y1.2.1, y1.2.2.1, y1.2.2.2.1, y1.2.2.2.2))
  else some (0, 0, [], false, 0) : Option (Int × Int × (List Int) × Bool × Int)).bind fun s1 => Qe0 x1 x2 x3 x4 x5 x6 x7 x8 x9 x10 x11 x12 x13 x14 x15 x16 s1.1 s1.2.1 s1.2.2.1 s1.2.2.2.1 s1.2.2.2.2
def QeY (x1 : Int) (x2 : M48) (x3 x4 x5 x6 x7 x8 x9 x10 x11 x12 : Int) : Option M48 :=
 (if ((bAnd .i64 x1 1024) != 0) = true then (
   (Qfx x2.f13.f0 x2.f13.f1 x2.f13.f2 x2.f13.f3).bind fun y1 =>
   some (y1.1, y1.2.1, y1.2.2.1, y1.2.2.2))
  else some (0, 0, 0, 0) : Option (Int × Int × Int × Int)).bind fun s1 => QeZ x1 x2 x3 x4 x5 x6 x7 x8 x12 x9 x10 x11 s1.1 s1.2.1 s1.2.2.1 s1.2.2.2
def QeX (x1 : Int) (x2 : M48) (x3 x4 x5 x6 x7 x8 x9 x10 x11 : Int) : Option M48 :=
 (if ((bAnd .i64 x1 512) != 0) = true then (
   (Qfy x2.f9).bind fun y1 =>
   some y1)
  else some 0 : Option Int).bind fun s1 => QeY x1 x2 x3 x4 x5 x6 x7 x8 x9 x11 x10 s1
def QeW (x1 : Int) (x2 : M48) (x3 x4 x5 x6 x7 x8 x9 x10 : Int) : Option M48 :=
 (if ((bAnd .i64 x1 256) != 0) = true then (
   (QfT x2.f11).bind fun y1 =>
   some y1)
  else some 0 : Option Int).bind fun s1 => QeX x1 x2 x3 x4 x5 x6 x7 x8 x9 x10 s1
def QeV (x1 : Int) (x2 : M48) (x3 x4 x5 x6 x7 x8 x9 : Int) : Option M48 :=
 (if ((bAnd .i64 x1 128) != 0) = true then (
   (QfU x2.f12).bind fun y1 =>
   some y1)
  else some 0 : Option Int).bind fun s1 => QeW x1 x2 x3 x4 x5 x9 x6 x7 x8 s1
def QeU (x1 : Int) (x2 : M48) (x3 x4 x5 x6 x7 x8 : Int) : Option M48 :=
 (if ((bAnd .i64 x1 64) != 0) = true then (
   (QfV x2.f6).bind fun y1 =>
   some y1)
  else some 0 : Option Int).bind fun s1 => QeV x1 x2 x3 x4 x5 x6 x7 x8 s1
def QeT (x1 : Int) (x2 : M48) (x3 x4 x5 x6 x7 : Int) : Option M48 :=
 (if ((bAnd .i64 x1 32) != 0) = true then (
   (QfW x2.f10).bind fun y1 =>
   some y1)
  else some 0 : Option Int).bind fun s1 => QeU x1 x2 x3 x4 x5 x6 x7 s1
def QeS (x1 : Int) (x2 : M48) (x3 x4 x5 x6 : Int) : Option M48 :=
 (if ((bAnd .i64 x1 16) != 0) = true then (
   (QfX x2.f8).bind fun y1 =>
   some y1)
  else some 0 : Option Int).bind fun s1 => QeT x1 x2 x3 x4 x5 x6 s1
def QeR (x1 : Int) (x2 : M48) (x3 x4 x5 : Int) : Option M48 :=
 (if ((bAnd .i64 x1 8) != 0) = true then (
   (QfY x2.f7).bind fun y1 =>
   some y1)
  else some 0 : Option Int).bind fun s1 => QeS x1 x2 x3 x4 x5 s1
def QeQ (x1 : Int) (x2 : M48) (x3 x4 : Int) : Option M48 :=
 (if ((bAnd .i64 x1 4) != 0) = true then (
   (QfZ x2.f5).bind fun y1 =>
   some y1)
  else some 0 : Option Int).bind fun s1 => QeR x1 x2 x3 x4 s1
def QeP (x1 : Int) (x2 : M48) (x3 : Int) : Option M48 :=
 (if ((bAnd .i64 x1 2) != 0) = true then (
   (Qf0 x2.f4).bind fun y1 =>
   some y1)
  else some 0 : Option Int).bind fun s1 => QeQ x1 x2 x3 s1
def Qf2 (x1 : M48) : Option M48 :=
 (ix QhF x1.f0).bind fun x2 =>
 (some (bOr .i64 (bOr .i64 (bOr .i64 0 x2.f1.f0) x2.f1.f1) x2.f1.f2)).bind fun x3 =>
 (some (bOr .i64 (bOr .i64 (bOr .i64 x3 x2.f1.f3) x2.f1.f4) x2.f1.f5)).bind fun x4 =>
 (if ((bAnd .i64 x4 1) != 0) = true then (
   (Qf1 x1.f3).bind fun y1 =>
   some y1)
  else some 0 : Option Int).bind fun s1 => QeP x4 x1 s1
theorem Qjk {x1 : M48} {c1 c2 c3 c4 : Nat} {p1 p2 p3 p4 : Option Addr} {r : M48} (hk : Qf2 x1 = some r) {g w : World} {F : Ch} {ih : IH} (h1 : RSl e3 ih [] p1 c1 x1.f14.f2) (h2 : RSl Qcf ih [] p2 c2 x1.f15) (h3 : RSl e96 ih [] p3 c3 x1.f16) (h4 : RSl e5 ih [] p4 c4 x1.f17) (hG : Glob 0 gl0 162 ih) (hw : St g w [F] ih) :
  CallsR Tryz.prog 60 #[A48 x1 p1 c1 p2 c2 p3 c3 p4 c4] w fun v w' => ∃ (p5 : Option Addr) (c5 : Nat) (p6 : Option Addr) (c6 : Nat) (p7 : Option Addr) (c7 : Nat) (p8 : Option Addr) (c8 : Nat), v = .agg #[Qb r.f0, Qb r.f1, Qb r.f2, Qb r.f3, Qe r.f4, Qe r.f5, Qe r.f6, Qe r.f7, Qe r.f8, Qe r.f9, Qb r.f10, Qk r.f11, Qb r.f12, Qb r.f13.f0, Qb r.f13.f1, Qe r.f13.f2, Qb r.f13.f3, Qb r.f14.f0, Qe r.f14.f1, .slice p5 r.f14.f2.length c5, .bool r.f14.f3, Qb r.f14.f4, .slice p6 r.f15.length c6, .slice p7 r.f16.length c7, .slice p8 r.f17.length c8] ∧ St g w' [F] ih ∧ RSl e3 ih [] p5 c5 r.f14.f2 ∧ RSl Qcf ih [] p6 c6 r.f15 ∧ RSl e96 ih [] p7 c7 r.f16 ∧ RSl e5 ih [] p8 c8 r.f17 := by
 refine f_i Tryz.func60 rfl 74 rfl fun a Qf hQ hQn hs => ?_
 refine Qd (Qa (QC hs hw [Qb x1.f0, Qb x1.f1, Qb x1.f2, Qb x1.f3, Qe x1.f4, Qe x1.f5, Qe x1.f6, Qe x1.f7, Qe x1.f8, Qe x1.f9, Qb x1.f10, Qk x1.f11, Qb x1.f12, Qb x1.f13.f0, Qb x1.f13.f1, Qe x1.f13.f2, Qb x1.f13.f3, Qb x1.f14.f0, Qe x1.f14.f1, .slice p1 x1.f14.f2.length c1, .bool x1.f14.f3, Qb x1.f14.f4, .slice p2 x1.f15.length c2, .slice p3 x1.f16.length c3, .slice p4 x1.f17.length c4] 48 (fun b => (pt b 0)) (by kernel_rfl) (fun _ => by kernel_rfl) fun a w b1 hs hw => ?_))
 refine QaN hs hw [Qb 0, Qb 0, Qb 0, Qb 0, Qe 0, Qe 0, Qe 0, Qe 0, Qe 0, Qe 0, Qb 0, Qk 0, Qb 0, Qb 0, Qb 0, Qe 0, Qb 0, Qb 0, Qe 0, .slice none 0 0, .bool false, Qb 0, .slice none 0 0, .slice none 0 0, .slice none 0 0] 48 (fun b => (pt b 0)) fun a w b2 hs hw => ?_
 have hs := hs.cst (e' := [(1, (pt b1 0)), (2, (pt b2 0))])
 refine Qc (Qd (Qa (pn hs 1 [(1, (pt b1 0)), (2, (pt b2 0)), (3, Qb 0)] fun a hs => ?_)))
 refine Qc (Qd (Qd (Qa (pu hs 1 fun a hs => ?_))))
 refine Qj hs (hw.at_ 1 rfl) 0 fun a hs => ?_
 obtain ⟨x2, h5, hk⟩ := bindE hk
 refine Qka hs (QiG hG) (by kernel_rfl) (by kernel_rfl) (k := .i64) (by kernel_rfl) 161 (by kernel_rfl) (by kernel_rfl) h5 fun a r1212 cs henc at1213 hs => ?_
 obtain rfl := henc
 refine pu hs 1 fun a hs => Qj hs (at1213 _ (hw.vwAll.nil.anti (Le.refl _))) 1 fun a hs => pn hs 1 [(1, (pt b1 0)), (2, (pt b2 0)), (3, Qb 0), (13, .agg #[Qb x2.f1.f0, Qb x2.f1.f1, Qb x2.f1.f2, Qb x2.f1.f3, Qb x2.f1.f4, Qb x2.f1.f5]), (14, Qb 0)] fun a hs => ?_
 refine Qc (Ql (wpIn_loop_rounds 7 ?_))
 refine QdF (Qd (Qa (pn hs 1 [(1, (pt b1 0)), (2, (pt b2 0)), (3, Qb 0), (13, .agg #[Qb x2.f1.f0, Qb x2.f1.f1, Qb x2.f1.f2, Qb x2.f1.f3, Qb x2.f1.f4, Qb x2.f1.f5]), (14, Qb 0), (15, .bool true)] fun a hs => ?_)))
 refine Qc (Qd (Qgb hs (Qg (Qd (Ql (Qd ?_))))))
 refine Qa (pn hs 2 [(1, (pt b1 0)), (2, (pt b2 0)), (3, Qb 0), (13, .agg #[Qb x2.f1.f0, Qb x2.f1.f1, Qb x2.f1.f2, Qb x2.f1.f3, Qb x2.f1.f4, Qb x2.f1.f5]), (14, Qb 0), (5, Qb x2.f1.f0)] fun a hs => ?_)
 refine Qc (Qa (pn hs 4 [(1, (pt b1 0)), (2, (pt b2 0)), (3, Qb (bOr .i64 0 x2.f1.f0)), (13, .agg #[Qb x2.f1.f0, Qb x2.f1.f1, Qb x2.f1.f2, Qb x2.f1.f3, Qb x2.f1.f4, Qb x2.f1.f5]), (14, Qb 0)] fun a hs => ?_))
 refine Qc (Qa (pn hs 2 [(1, (pt b1 0)), (2, (pt b2 0)), (3, Qb (bOr .i64 0 x2.f1.f0)), (13, .agg #[Qb x2.f1.f0, Qb x2.f1.f1, Qb x2.f1.f2, Qb x2.f1.f3, Qb x2.f1.f4, Qb x2.f1.f5]), (14, Qb 1)] fun a hs => ?_))
 refine Qc (QdF (Qd (Qa (pn hs 1 [(1, (pt b1 0)), (2, (pt b2 0)), (3, Qb (bOr .i64 0 x2.f1.f0)), (13, .agg #[Qb x2.f1.f0, Qb x2.f1.f1, Qb x2.f1.f2, Qb x2.f1.f3, Qb x2.f1.f4, Qb x2.f1.f5]), (14, Qb 1), (15, .bool true)] fun a hs => ?_))))
 refine Qc (Qd (Qgb hs (Qg (Qd (Ql (Qd ?_))))))
 refine Qa (pn hs 2 [(1, (pt b1 0)), (2, (pt b2 0)), (3, Qb (bOr .i64 0 x2.f1.f0)), (13, .agg #[Qb x2.f1.f0, Qb x2.f1.f1, Qb x2.f1.f2, Qb x2.f1.f3, Qb x2.f1.f4, Qb x2.f1.f5]), (14, Qb 1), (5, Qb x2.f1.f1)] fun a hs => ?_)
 refine Qc (Qa (pn hs 4 [(1, (pt b1 0)), (2, (pt b2 0)), (3, Qb (bOr .i64 (bOr .i64 0 x2.f1.f0) x2.f1.f1)), (13, .agg #[Qb x2.f1.f0, Qb x2.f1.f1, Qb x2.f1.f2, Qb x2.f1.f3, Qb x2.f1.f4, Qb x2.f1.f5]), (14, Qb 1)] fun a hs => ?_))
 refine Qc (Qa (pn hs 2 [(1, (pt b1 0)), (2, (pt b2 0)), (3, Qb (bOr .i64 (bOr .i64 0 x2.f1.f0) x2.f1.f1)), (13, .agg #[Qb x2.f1.f0, Qb x2.f1.f1, Qb x2.f1.f2, Qb x2.f1.f3, Qb x2.f1.f4, Qb x2.f1.f5]), (14, Qb 2)] fun a hs => ?_))
 refine Qc (QdF (Qd (Qa (pn hs 1 [(1, (pt b1 0)), (2, (pt b2 0)), (3, Qb (bOr .i64 (bOr .i64 0 x2.f1.f0) x2.f1.f1)), (13, .agg #[Qb x2.f1.f0, Qb x2.f1.f1, Qb x2.f1.f2, Qb x2.f1.f3, Qb x2.f1.f4, Qb x2.f1.f5]), (14, Qb 2), (15, .bool true)] fun a hs => ?_))))
 refine Qc (Qd (Qgb hs (Qg (Qd (Ql (Qd ?_))))))
 refine Qa (pn hs 2 [(1, (pt b1 0)), (2, (pt b2 0)), (3, Qb (bOr .i64 (bOr .i64 0 x2.f1.f0) x2.f1.f1)), (13, .agg #[Qb x2.f1.f0, Qb x2.f1.f1, Qb x2.f1.f2, Qb x2.f1.f3, Qb x2.f1.f4, Qb x2.f1.f5]), (14, Qb 2), (5, Qb x2.f1.f2)] fun a hs => ?_)
 refine Qc (Qa (pu hs 3 fun a hs => ?_))
 obtain ⟨x3, h6, hk⟩ := bindE hk
 have hs := hs.alt 19 (by kernel_rfl) (congrArg (Value.int .i64) (someE h6))
 refine pn hs 1 [(1, (pt b1 0)), (2, (pt b2 0)), (13, .agg #[Qb x2.f1.f0, Qb x2.f1.f1, Qb x2.f1.f2, Qb x2.f1.f3, Qb x2.f1.f4, Qb x2.f1.f5]), (14, Qb 2), (3, Qb x3)] fun a hs => ?_
 refine Qc (Qa (pn hs 2 [(1, (pt b1 0)), (2, (pt b2 0)), (13, .agg #[Qb x2.f1.f0, Qb x2.f1.f1, Qb x2.f1.f2, Qb x2.f1.f3, Qb x2.f1.f4, Qb x2.f1.f5]), (14, Qb 3), (3, Qb x3)] fun a hs => ?_))
 refine Qc (QdF (Qd (Qa (pn hs 1 [(1, (pt b1 0)), (2, (pt b2 0)), (13, .agg #[Qb x2.f1.f0, Qb x2.f1.f1, Qb x2.f1.f2, Qb x2.f1.f3, Qb x2.f1.f4, Qb x2.f1.f5]), (14, Qb 3), (3, Qb x3), (15, .bool true)] fun a hs => ?_))))
 refine Qc (Qd (Qgb hs (Qg (Qd (Ql (Qd ?_))))))
 refine Qa (pn hs 2 [(1, (pt b1 0)), (2, (pt b2 0)), (13, .agg #[Qb x2.f1.f0, Qb x2.f1.f1, Qb x2.f1.f2, Qb x2.f1.f3, Qb x2.f1.f4, Qb x2.f1.f5]), (14, Qb 3), (3, Qb x3), (5, Qb x2.f1.f3)] fun a hs => ?_)
 refine Qc (Qa (pn hs 4 [(1, (pt b1 0)), (2, (pt b2 0)), (13, .agg #[Qb x2.f1.f0, Qb x2.f1.f1, Qb x2.f1.f2, Qb x2.f1.f3, Qb x2.f1.f4, Qb x2.f1.f5]), (14, Qb 3), (3, Qb (bOr .i64 x3 x2.f1.f3))] fun a hs => ?_))
 refine Qc (Qa (pn hs 2 [(1, (pt b1 0)), (2, (pt b2 0)), (13, .agg #[Qb x2.f1.f0, Qb x2.f1.f1, Qb x2.f1.f2, Qb x2.f1.f3, Qb x2.f1.f4, Qb x2.f1.f5]), (14, Qb 4), (3, Qb (bOr .i64 x3 x2.f1.f3))] fun a hs => ?_))
 refine Qc (QdF (Qd (Qa (pn hs 1 [(1, (pt b1 0)), (2, (pt b2 0)), (13, .agg #[Qb x2.f1.f0, Qb x2.f1.f1, Qb x2.f1.f2, Qb x2.f1.f3, Qb x2.f1.f4, Qb x2.f1.f5]), (14, Qb 4), (3, Qb (bOr .i64 x3 x2.f1.f3)), (15, .bool true)] fun a hs => ?_))))
 refine Qc (Qd (Qgb hs (Qg (Qd (Ql (Qd ?_))))))
 refine Qa (pn hs 2 [(1, (pt b1 0)), (2, (pt b2 0)), (13, .agg #[Qb x2.f1.f0, Qb x2.f1.f1, Qb x2.f1.f2, Qb x2.f1.f3, Qb x2.f1.f4, Qb x2.f1.f5]), (14, Qb 4), (3, Qb (bOr .i64 x3 x2.f1.f3)), (5, Qb x2.f1.f4)] fun a hs => ?_)
 refine Qc (Qa (pn hs 4 [(1, (pt b1 0)), (2, (pt b2 0)), (13, .agg #[Qb x2.f1.f0, Qb x2.f1.f1, Qb x2.f1.f2, Qb x2.f1.f3, Qb x2.f1.f4, Qb x2.f1.f5]), (14, Qb 4), (3, Qb (bOr .i64 (bOr .i64 x3 x2.f1.f3) x2.f1.f4))] fun a hs => ?_))
 refine Qc (Qa (pn hs 2 [(1, (pt b1 0)), (2, (pt b2 0)), (13, .agg #[Qb x2.f1.f0, Qb x2.f1.f1, Qb x2.f1.f2, Qb x2.f1.f3, Qb x2.f1.f4, Qb x2.f1.f5]), (14, Qb 5), (3, Qb (bOr .i64 (bOr .i64 x3 x2.f1.f3) x2.f1.f4))] fun a hs => ?_))
 refine Qc (QdF (Qd (Qa (pn hs 1 [(1, (pt b1 0)), (2, (pt b2 0)), (13, .agg #[Qb x2.f1.f0, Qb x2.f1.f1, Qb x2.f1.f2, Qb x2.f1.f3, Qb x2.f1.f4, Qb x2.f1.f5]), (14, Qb 5), (3, Qb (bOr .i64 (bOr .i64 x3 x2.f1.f3) x2.f1.f4)), (15, .bool true)] fun a hs => ?_))))
 refine Qc (Qd (Qgb hs (Qg (Qd (Ql (Qd ?_))))))
 refine Qa (pn hs 2 [(1, (pt b1 0)), (2, (pt b2 0)), (13, .agg #[Qb x2.f1.f0, Qb x2.f1.f1, Qb x2.f1.f2, Qb x2.f1.f3, Qb x2.f1.f4, Qb x2.f1.f5]), (14, Qb 5), (3, Qb (bOr .i64 (bOr .i64 x3 x2.f1.f3) x2.f1.f4)), (5, Qb x2.f1.f5)] fun a hs => ?_)
 refine Qc (Qa (pu hs 3 fun a hs => ?_))
 obtain ⟨x4, h7, hk⟩ := bindE hk
 have hs := hs.alt 19 (by kernel_rfl) (congrArg (Value.int .i64) (someE h7))
 refine pn hs 1 [(1, (pt b1 0)), (2, (pt b2 0)), (13, .agg #[Qb x2.f1.f0, Qb x2.f1.f1, Qb x2.f1.f2, Qb x2.f1.f3, Qb x2.f1.f4, Qb x2.f1.f5]), (14, Qb 5), (3, Qb x4)] fun a hs => ?_
 refine Qc (Qa (pn hs 2 [(1, (pt b1 0)), (2, (pt b2 0)), (13, .agg #[Qb x2.f1.f0, Qb x2.f1.f1, Qb x2.f1.f2, Qb x2.f1.f3, Qb x2.f1.f4, Qb x2.f1.f5]), (14, Qb 6), (3, Qb x4)] fun a hs => ?_))
 refine Qc (QdF (Qd (Qa (pn hs 1 [(1, (pt b1 0)), (2, (pt b2 0)), (13, .agg #[Qb x2.f1.f0, Qb x2.f1.f1, Qb x2.f1.f2, Qb x2.f1.f3, Qb x2.f1.f4, Qb x2.f1.f5]), (14, Qb 6), (3, Qb x4), (15, .bool false)] fun a hs => ?_))))
 refine Qc (Qd (QhJ hs (Qa3 ?_)))
 refine Qd (Qa (pu hs 1 fun a hs => ?_))
 refine Qj hs (hw.at_ 1 rfl) 0 fun a hs => pu hs 1 fun a hs => Qj hs (hw.at_ 1 rfl) 1 fun a hs => pu hs 1 fun a hs => Qj hs (hw.at_ 1 rfl) 2 fun a hs => pn hs 1 [(1, (pt b1 0)), (2, (pt b2 0)), (3, Qb x4), (27, .agg #[Qb x1.f0, Qb x1.f1, Qb x1.f2, Qb 0, Qe 0, Qe 0, Qe 0, Qe 0, Qe 0, Qe 0, Qb 0, Qk 0, Qb 0, Qb 0, Qb 0, Qe 0, Qb 0, Qb 0, Qe 0, .slice none 0 0, .bool false, Qb 0, .slice none 0 0, .slice none 0 0, .slice none 0 0])] fun a hs => ?_
 refine QaN hs hw [Qb 0, Qb 0, Qb 0, Qb 0, Qe 0, Qe 0, Qe 0, Qe 0, Qe 0, Qe 0, Qb 0, Qk 0, Qb 0, Qb 0, Qb 0, Qe 0, Qb 0, Qb 0, Qe 0, .slice none 0 0, .bool false, Qb 0, .slice none 0 0, .slice none 0 0, .slice none 0 0] 48 (fun b => (pt b 0)) fun a w b3 hs hw => ?_
 refine QE hs hw 0 rfl 0 (v := .agg #[Qb x1.f0, Qb x1.f1, Qb x1.f2, Qb 0, Qe 0, Qe 0, Qe 0, Qe 0, Qe 0, Qe 0, Qb 0, Qk 0, Qb 0, Qb 0, Qb 0, Qe 0, Qb 0, Qb 0, Qe 0, .slice none 0 0, .bool false, Qb 0, .slice none 0 0, .slice none 0 0, .slice none 0 0]) fun a w hs hw => ?_
 have hw := hw.cL [k11 b3 x1.f0 x1.f1 x1.f2, k12 b2, k10 b1 x1.f0 x1.f1 x1.f2 x1.f3 x1.f4 x1.f5 x1.f6 x1.f7 x1.f8 x1.f9 x1.f10 x1.f11 x1.f12 x1.f13.f0 x1.f13.f1 x1.f13.f2 x1.f13.f3 x1.f14.f0 x1.f14.f1 p1 x1.f14.f2 c1 x1.f14.f3 x1.f14.f4 p2 x1.f15 c2 p3 x1.f16 c3 p4 x1.f17 c4, F]
 refine Qc (Qd (Qd (Qa (pu hs 30 fun a hs => ?_))))
 refine QaN hs hw [Qb 1, .func (.func 95) #[] #[(pt b1 0), (pt b3 0)], Qb 2, .func (.func 96) #[] #[(pt b1 0), (pt b3 0)], Qb 4, .func (.func 97) #[] #[(pt b1 0), (pt b3 0)], Qb 8, .func (.func 98) #[] #[(pt b1 0), (pt b3 0)], Qb 16, .func (.func 99) #[] #[(pt b1 0), (pt b3 0)], Qb 32, .func (.func 100) #[] #[(pt b1 0), (pt b3 0)], Qb 64, .func (.func 101) #[] #[(pt b1 0), (pt b3 0)], Qb 128, .func (.func 102) #[] #[(pt b1 0), (pt b3 0)], Qb 256, .func (.func 103) #[] #[(pt b1 0), (pt b3 0)], Qb 512, .func (.func 104) #[] #[(pt b1 0), (pt b3 0)], Qb 1024, .func (.func 105) #[] #[(pt b1 0), (pt b3 0)], Qb 2048, .func (.func 106) #[] #[(pt b1 0), (pt b3 0)], Qb 4096, .func (.func 107) #[] #[(pt b1 0), (pt b3 0)], Qb 8192, .func (.func 108) #[] #[(pt b1 0), (pt b3 0)], Qb 16384, .func (.func 109) #[] #[(pt b1 0), (pt b3 0)]] 163 (fun b => .slice (some ⟨b, 0, none⟩) 15 15) fun a w b4 hs hw => ?_
 refine pn hs 2 [(2, (pt b2 0)), (3, Qb x4), (6, (pt b3 0)), (58, .slice (some ⟨b4, 0, none⟩) 15 15), (59, Qb 15), (60, Qb 0)] fun a hs => Qc (Ql (wpIn_loop_rounds 16 ?_))
 refine QdF (Qd (Qa (pn hs 1 [(2, (pt b2 0)), (3, Qb x4), (6, (pt b3 0)), (58, .slice (some ⟨b4, 0, none⟩) 15 15), (59, Qb 15), (60, Qb 0), (61, .bool true)] fun a hs => ?_)))
 refine Qc (Qd (Qgb hs (Qg ?_)))
 obtain ⟨y1, hx1, hk⟩ := bindE hk
 obtain ⟨J1, hJ1⟩ := mkJ fun a w => ∃ (x5 : Int), QeP x4 x1 x5 = some r ∧ Sees a 74 [(2, (pt b2 0)), (3, Qb x4), (6, (pt b3 0)), (58, .slice (some ⟨b4, 0, none⟩) 15 15), (59, Qb 15), (60, Qb 0)] ∧ St g w [k14 b4 b1 b3 b1 b3 b1 b3 b1 b3 b1 b3 b1 b3 b1 b3 b1 b3 b1 b3 b1 b3 b1 b3 b1 b3 b1 b3 b1 b3 b1 b3, k13 b3 x1.f0 x1.f1 x1.f2 x5, k12 b2, k10 b1 x1.f0 x1.f1 x1.f2 x1.f3 x1.f4 x1.f5 x1.f6 x1.f7 x1.f8 x1.f9 x1.f10 x1.f11 x1.f12 x1.f13.f0 x1.f13.f1 x1.f13.f2 x1.f13.f3 x1.f14.f0 x1.f14.f1 p1 x1.f14.f2 c1 x1.f14.f3 x1.f14.f4 p2 x1.f15 c2 p3 x1.f16 c3 p4 x1.f17 c4, F] ih
 refine QaG J1 ?_ ?_
 ·refine Ql (Qd (Qa (pu hs 1 fun a hs => ?_)))
  refine Qj hs (hw.at_ 0 rfl) 0 fun a hs => QaN hs hw [Qb 0, .nilFunc] 163 (fun b => (pt b 0)) fun a w b5 hs hw => QE hs hw 0 rfl 0 (v := .agg #[Qb 1, .func (.func 95) #[] #[(pt b1 0), (pt b3 0)]]) fun a w hs hw => ?_
  have hs := hs.cst (e' := [(2, (pt b2 0)), (3, Qb x4), (6, (pt b3 0)), (58, .slice (some ⟨b4, 0, none⟩) 15 15), (59, Qb 15), (60, Qb 0), (8, (pt b5 0))])
  refine Qc (Qd (Qa (pu hs 2 fun a hs => ?_)))
  refine Qj hs (hw.at_ 0 rfl) 0 fun a hs => pn hs 2 [(2, (pt b2 0)), (3, Qb x4), (6, (pt b3 0)), (58, .slice (some ⟨b4, 0, none⟩) 15 15), (59, Qb 15), (60, Qb 0), (8, (pt b5 0)), (68, .bool ((bAnd .i64 x4 1) != 0))] fun a hs => ?_
  refine Qc ?_
  rcases ifbE hx1 with ⟨h8, hx1⟩ | ⟨h8, hx1⟩
  ·refine Qr hs h8 ?_
   refine Qa (pu hs 1 fun a hs => ?_)
   refine Qj hs (hw.at_ 0 rfl) 1 fun a hs => ?_
   obtain ⟨y2, h9, hx1⟩ := bindE hx1
   refine Qv hs (QiA (x1 := x1.f0) (x2 := x1.f1) (x3 := x1.f2) (x5 := x1.f4) (x6 := x1.f5) (x7 := x1.f6) (x8 := x1.f7) (x9 := x1.f8) (x10 := x1.f9) (x11 := x1.f10) (x12 := x1.f11) (x13 := x1.f12) (x14 := x1.f13.f0) (x15 := x1.f13.f1) (x16 := x1.f13.f2) (x17 := x1.f13.f3) (x18 := x1.f14.f0) (x19 := x1.f14.f1) (x20 := x1.f14.f2) (x21 := x1.f14.f3) (x22 := x1.f14.f4) (x23 := x1.f15) (x24 := x1.f16) (x25 := x1.f17) (x26 := x1.f0) (x27 := x1.f1) (x28 := x1.f2) (x29 := 0) (x30 := 0) (x31 := 0) (x32 := 0) (x33 := 0) (x34 := 0) (x35 := 0) (x36 := 0) (x37 := 0) (x38 := 0) (x39 := 0) (x40 := 0) (x41 := 0) (x42 := 0) (x43 := 0) (x44 := 0) (x45 := []) (x46 := false) (x47 := 0) (x48 := []) (x49 := []) (x50 := []) h9 h1 h2 h3 h4 (RSl.nil _ _ _) (RSl.nil _ _ _) (RSl.nil _ _ _) (RSl.nil _ _ _) ((hw.pk [4, 2, 1, 3, 5]).pack 2)) fun a w v hv hs => ?_
   obtain ⟨rfl, hw⟩ := hv
   have hw := hw.unpack 2 rfl
   have hw := hw.cL [k10 b1 x1.f0 x1.f1 x1.f2 x1.f3 x1.f4 x1.f5 x1.f6 x1.f7 x1.f8 x1.f9 x1.f10 x1.f11 x1.f12 x1.f13.f0 x1.f13.f1 x1.f13.f2 x1.f13.f3 x1.f14.f0 x1.f14.f1 p1 x1.f14.f2 c1 x1.f14.f3 x1.f14.f4 p2 x1.f15 c2 p3 x1.f16 c3 p4 x1.f17 c4, k13 b3 x1.f0 x1.f1 x1.f2 y2, k14 b4 b1 b3 b1 b3 b1 b3 b1 b3 b1 b3 b1 b3 b1 b3 b1 b3 b1 b3 b1 b3 b1 b3 b1 b3 b1 b3 b1 b3 b1 b3, k12 b2, F]
   refine Qc ?_
   obtain rfl := someE hx1
   exact (hJ1 _ _).2 ⟨y2, hk, hs.cst, hw.pk [2, 1, 3, 0, 4]⟩
  refine Qs hs h8 (Qg ?_)
  obtain rfl := someE hx1
  exact (hJ1 _ _).2 ⟨0, hk, hs.cst, hw.pk [1, 2, 3, 4, 5]⟩
 intro a w hh
 obtain ⟨x5, hk, hs, hw⟩ := (hJ1 _ _).1 hh
 refine Qa (pn hs 2 [(2, (pt b2 0)), (3, Qb x4), (6, (pt b3 0)), (58, .slice (some ⟨b4, 0, none⟩) 15 15), (59, Qb 15), (60, Qb 1)] fun a hs => ?_)
 refine Qc (QdF (Qd (Qa (pn hs 1 [(2, (pt b2 0)), (3, Qb x4), (6, (pt b3 0)), (58, .slice (some ⟨b4, 0, none⟩) 15 15), (59, Qb 15), (60, Qb 1), (61, .bool true)] fun a hs => ?_))))
 refine Qc (Qd (Qgb hs (Qg ?_)))
 obtain ⟨y3, hx2, hk⟩ := bindE hk
 obtain ⟨J2, hJ2⟩ := mkJ fun a w => ∃ (x6 : Int), QeQ x4 x1 x5 x6 = some r ∧ Sees a 74 [(2, (pt b2 0)), (3, Qb x4), (6, (pt b3 0)), (58, .slice (some ⟨b4, 0, none⟩) 15 15), (59, Qb 15), (60, Qb 1)] ∧ St g w [k14 b4 b1 b3 b1 b3 b1 b3 b1 b3 b1 b3 b1 b3 b1 b3 b1 b3 b1 b3 b1 b3 b1 b3 b1 b3 b1 b3 b1 b3 b1 b3, k15 b3 x1.f0 x1.f1 x1.f2 x5 x6, k12 b2, k10 b1 x1.f0 x1.f1 x1.f2 x1.f3 x1.f4 x1.f5 x1.f6 x1.f7 x1.f8 x1.f9 x1.f10 x1.f11 x1.f12 x1.f13.f0 x1.f13.f1 x1.f13.f2 x1.f13.f3 x1.f14.f0 x1.f14.f1 p1 x1.f14.f2 c1 x1.f14.f3 x1.f14.f4 p2 x1.f15 c2 p3 x1.f16 c3 p4 x1.f17 c4, F] ih
 refine QaG J2 ?_ ?_
 ·refine Ql (Qd (Qa (pu hs 1 fun a hs => ?_)))
  refine Qj hs (hw.at_ 0 rfl) 2 fun a hs => QaN hs hw [Qb 0, .nilFunc] 163 (fun b => (pt b 0)) fun a w b6 hs hw => QE hs hw 0 rfl 0 (v := .agg #[Qb 2, .func (.func 96) #[] #[(pt b1 0), (pt b3 0)]]) fun a w hs hw => ?_
  have hs := hs.cst (e' := [(2, (pt b2 0)), (3, Qb x4), (6, (pt b3 0)), (58, .slice (some ⟨b4, 0, none⟩) 15 15), (59, Qb 15), (60, Qb 1), (8, (pt b6 0))])
  refine Qc (Qd (Qa (pu hs 2 fun a hs => ?_)))
  refine Qj hs (hw.at_ 0 rfl) 0 fun a hs => pn hs 2 [(2, (pt b2 0)), (3, Qb x4), (6, (pt b3 0)), (58, .slice (some ⟨b4, 0, none⟩) 15 15), (59, Qb 15), (60, Qb 1), (8, (pt b6 0)), (68, .bool ((bAnd .i64 x4 2) != 0))] fun a hs => ?_
  refine Qc ?_
  rcases ifbE hx2 with ⟨h10, hx2⟩ | ⟨h10, hx2⟩
  ·refine Qr hs h10 ?_
   refine Qa (pu hs 1 fun a hs => ?_)
   refine Qj hs (hw.at_ 0 rfl) 1 fun a hs => ?_
   obtain ⟨y4, h11, hx2⟩ := bindE hx2
   refine Qv hs (Qiz (x1 := x1.f0) (x2 := x1.f1) (x3 := x1.f2) (x4 := x1.f3) (x6 := x1.f5) (x7 := x1.f6) (x8 := x1.f7) (x9 := x1.f8) (x10 := x1.f9) (x11 := x1.f10) (x12 := x1.f11) (x13 := x1.f12) (x14 := x1.f13.f0) (x15 := x1.f13.f1) (x16 := x1.f13.f2) (x17 := x1.f13.f3) (x18 := x1.f14.f0) (x19 := x1.f14.f1) (x20 := x1.f14.f2) (x21 := x1.f14.f3) (x22 := x1.f14.f4) (x23 := x1.f15) (x24 := x1.f16) (x25 := x1.f17) (x26 := x1.f0) (x27 := x1.f1) (x28 := x1.f2) (x29 := x5) (x30 := 0) (x31 := 0) (x32 := 0) (x33 := 0) (x34 := 0) (x35 := 0) (x36 := 0) (x37 := 0) (x38 := 0) (x39 := 0) (x40 := 0) (x41 := 0) (x42 := 0) (x43 := 0) (x44 := 0) (x45 := []) (x46 := false) (x47 := 0) (x48 := []) (x49 := []) (x50 := []) h11 h1 h2 h3 h4 (RSl.nil _ _ _) (RSl.nil _ _ _) (RSl.nil _ _ _) (RSl.nil _ _ _) ((hw.pk [4, 2, 1, 3, 5]).pack 2)) fun a w v hv hs => ?_
   obtain ⟨rfl, hw⟩ := hv
   have hw := hw.unpack 2 rfl
   have hw := hw.cL [k10 b1 x1.f0 x1.f1 x1.f2 x1.f3 x1.f4 x1.f5 x1.f6 x1.f7 x1.f8 x1.f9 x1.f10 x1.f11 x1.f12 x1.f13.f0 x1.f13.f1 x1.f13.f2 x1.f13.f3 x1.f14.f0 x1.f14.f1 p1 x1.f14.f2 c1 x1.f14.f3 x1.f14.f4 p2 x1.f15 c2 p3 x1.f16 c3 p4 x1.f17 c4, k15 b3 x1.f0 x1.f1 x1.f2 x5 y4, k14 b4 b1 b3 b1 b3 b1 b3 b1 b3 b1 b3 b1 b3 b1 b3 b1 b3 b1 b3 b1 b3 b1 b3 b1 b3 b1 b3 b1 b3 b1 b3, k12 b2, F]
   refine Qc ?_
   obtain rfl := someE hx2
   exact (hJ2 _ _).2 ⟨y4, hk, hs.cst, hw.pk [2, 1, 3, 0, 4]⟩
  refine Qs hs h10 (Qg ?_)
  obtain rfl := someE hx2
  exact (hJ2 _ _).2 ⟨0, hk, hs.cst, hw.pk [1, 2, 3, 4, 5]⟩
 intro a w hh
 obtain ⟨x6, hk, hs, hw⟩ := (hJ2 _ _).1 hh
 refine Qa (pn hs 2 [(2, (pt b2 0)), (3, Qb x4), (6, (pt b3 0)), (58, .slice (some ⟨b4, 0, none⟩) 15 15), (59, Qb 15), (60, Qb 2)] fun a hs => ?_)
 refine Qc (QdF (Qd (Qa (pn hs 1 [(2, (pt b2 0)), (3, Qb x4), (6, (pt b3 0)), (58, .slice (some ⟨b4, 0, none⟩) 15 15), (59, Qb 15), (60, Qb 2), (61, .bool true)] fun a hs => ?_))))
 refine Qc (Qd (Qgb hs (Qg ?_)))
 obtain ⟨y5, hx3, hk⟩ := bindE hk
 obtain ⟨J3, hJ3⟩ := mkJ fun a w => ∃ (x7 : Int), QeR x4 x1 x5 x6 x7 = some r ∧ Sees a 74 [(2, (pt b2 0)), (3, Qb x4), (6, (pt b3 0)), (58, .slice (some ⟨b4, 0, none⟩) 15 15), (59, Qb 15), (60, Qb 2)] ∧ St g w [k14 b4 b1 b3 b1 b3 b1 b3 b1 b3 b1 b3 b1 b3 b1 b3 b1 b3 b1 b3 b1 b3 b1 b3 b1 b3 b1 b3 b1 b3 b1 b3, k16 b3 x1.f0 x1.f1 x1.f2 x5 x6 x7, k12 b2, k10 b1 x1.f0 x1.f1 x1.f2 x1.f3 x1.f4 x1.f5 x1.f6 x1.f7 x1.f8 x1.f9 x1.f10 x1.f11 x1.f12 x1.f13.f0 x1.f13.f1 x1.f13.f2 x1.f13.f3 x1.f14.f0 x1.f14.f1 p1 x1.f14.f2 c1 x1.f14.f3 x1.f14.f4 p2 x1.f15 c2 p3 x1.f16 c3 p4 x1.f17 c4, F] ih
 refine QaG J3 ?_ ?_
 ·refine Ql (Qd (Qa (pu hs 1 fun a hs => ?_)))
  refine Qj hs (hw.at_ 0 rfl) 4 fun a hs => QaN hs hw [Qb 0, .nilFunc] 163 (fun b => (pt b 0)) fun a w b7 hs hw => QE hs hw 0 rfl 0 (v := .agg #[Qb 4, .func (.func 97) #[] #[(pt b1 0), (pt b3 0)]]) fun a w hs hw => ?_
  have hs := hs.cst (e' := [(2, (pt b2 0)), (3, Qb x4), (6, (pt b3 0)), (58, .slice (some ⟨b4, 0, none⟩) 15 15), (59, Qb 15), (60, Qb 2), (8, (pt b7 0))])
  refine Qc (Qd (Qa (pu hs 2 fun a hs => ?_)))
  refine Qj hs (hw.at_ 0 rfl) 0 fun a hs => pn hs 2 [(2, (pt b2 0)), (3, Qb x4), (6, (pt b3 0)), (58, .slice (some ⟨b4, 0, none⟩) 15 15), (59, Qb 15), (60, Qb 2), (8, (pt b7 0)), (68, .bool ((bAnd .i64 x4 4) != 0))] fun a hs => ?_
  refine Qc ?_
  rcases ifbE hx3 with ⟨h12, hx3⟩ | ⟨h12, hx3⟩
  ·refine Qr hs h12 ?_
   refine Qa (pu hs 1 fun a hs => ?_)
   refine Qj hs (hw.at_ 0 rfl) 1 fun a hs => ?_
   obtain ⟨y6, h13, hx3⟩ := bindE hx3
   refine Qv hs (Qiy (x1 := x1.f0) (x2 := x1.f1) (x3 := x1.f2) (x4 := x1.f3) (x5 := x1.f4) (x7 := x1.f6) (x8 := x1.f7) (x9 := x1.f8) (x10 := x1.f9) (x11 := x1.f10) (x12 := x1.f11) (x13 := x1.f12) (x14 := x1.f13.f0) (x15 := x1.f13.f1) (x16 := x1.f13.f2) (x17 := x1.f13.f3) (x18 := x1.f14.f0) (x19 := x1.f14.f1) (x20 := x1.f14.f2) (x21 := x1.f14.f3) (x22 := x1.f14.f4) (x23 := x1.f15) (x24 := x1.f16) (x25 := x1.f17) (x26 := x1.f0) (x27 := x1.f1) (x28 := x1.f2) (x29 := x5) (x30 := x6) (x31 := 0) (x32 := 0) (x33 := 0) (x34 := 0) (x35 := 0) (x36 := 0) (x37 := 0) (x38 := 0) (x39 := 0) (x40 := 0) (x41 := 0) (x42 := 0) (x43 := 0) (x44 := 0) (x45 := []) (x46 := false) (x47 := 0) (x48 := []) (x49 := []) (x50 := []) h13 h1 h2 h3 h4 (RSl.nil _ _ _) (RSl.nil _ _ _) (RSl.nil _ _ _) (RSl.nil _ _ _) ((hw.pk [4, 2, 1, 3, 5]).pack 2)) fun a w v hv hs => ?_
   obtain ⟨rfl, hw⟩ := hv
   have hw := hw.unpack 2 rfl
   have hw := hw.cL [k10 b1 x1.f0 x1.f1 x1.f2 x1.f3 x1.f4 x1.f5 x1.f6 x1.f7 x1.f8 x1.f9 x1.f10 x1.f11 x1.f12 x1.f13.f0 x1.f13.f1 x1.f13.f2 x1.f13.f3 x1.f14.f0 x1.f14.f1 p1 x1.f14.f2 c1 x1.f14.f3 x1.f14.f4 p2 x1.f15 c2 p3 x1.f16 c3 p4 x1.f17 c4, k16 b3 x1.f0 x1.f1 x1.f2 x5 x6 y6, k14 b4 b1 b3 b1 b3 b1 b3 b1 b3 b1 b3 b1 b3 b1 b3 b1 b3 b1 b3 b1 b3 b1 b3 b1 b3 b1 b3 b1 b3 b1 b3, k12 b2, F]
   refine Qc ?_
   obtain rfl := someE hx3
   exact (hJ3 _ _).2 ⟨y6, hk, hs.cst, hw.pk [2, 1, 3, 0, 4]⟩
  refine Qs hs h12 (Qg ?_)
  obtain rfl := someE hx3
  exact (hJ3 _ _).2 ⟨0, hk, hs.cst, hw.pk [1, 2, 3, 4, 5]⟩
 intro a w hh
 obtain ⟨x7, hk, hs, hw⟩ := (hJ3 _ _).1 hh
 refine Qa (pn hs 2 [(2, (pt b2 0)), (3, Qb x4), (6, (pt b3 0)), (58, .slice (some ⟨b4, 0, none⟩) 15 15), (59, Qb 15), (60, Qb 3)] fun a hs => ?_)
 refine Qc (QdF (Qd (Qa (pn hs 1 [(2, (pt b2 0)), (3, Qb x4), (6, (pt b3 0)), (58, .slice (some ⟨b4, 0, none⟩) 15 15), (59, Qb 15), (60, Qb 3), (61, .bool true)] fun a hs => ?_))))
 refine Qc (Qd (Qgb hs (Qg ?_)))
 obtain ⟨y7, hx4, hk⟩ := bindE hk
 obtain ⟨J4, hJ4⟩ := mkJ fun a w => ∃ (x8 : Int), QeS x4 x1 x5 x6 x7 x8 = some r ∧ Sees a 74 [(2, (pt b2 0)), (3, Qb x4), (6, (pt b3 0)), (58, .slice (some ⟨b4, 0, none⟩) 15 15), (59, Qb 15), (60, Qb 3)] ∧ St g w [k14 b4 b1 b3 b1 b3 b1 b3 b1 b3 b1 b3 b1 b3 b1 b3 b1 b3 b1 b3 b1 b3 b1 b3 b1 b3 b1 b3 b1 b3 b1 b3, k17 b3 x1.f0 x1.f1 x1.f2 x5 x6 x7 x8, k12 b2, k10 b1 x1.f0 x1.f1 x1.f2 x1.f3 x1.f4 x1.f5 x1.f6 x1.f7 x1.f8 x1.f9 x1.f10 x1.f11 x1.f12 x1.f13.f0 x1.f13.f1 x1.f13.f2 x1.f13.f3 x1.f14.f0 x1.f14.f1 p1 x1.f14.f2 c1 x1.f14.f3 x1.f14.f4 p2 x1.f15 c2 p3 x1.f16 c3 p4 x1.f17 c4, F] ih
 refine QaG J4 ?_ ?_
 ·refine Ql (Qd (Qa (pu hs 1 fun a hs => ?_)))
  refine Qj hs (hw.at_ 0 rfl) 6 fun a hs => QaN hs hw [Qb 0, .nilFunc] 163 (fun b => (pt b 0)) fun a w b8 hs hw => QE hs hw 0 rfl 0 (v := .agg #[Qb 8, .func (.func 98) #[] #[(pt b1 0), (pt b3 0)]]) fun a w hs hw => ?_
  have hs := hs.cst (e' := [(2, (pt b2 0)), (3, Qb x4), (6, (pt b3 0)), (58, .slice (some ⟨b4, 0, none⟩) 15 15), (59, Qb 15), (60, Qb 3), (8, (pt b8 0))])
  refine Qc (Qd (Qa (pu hs 2 fun a hs => ?_)))
  refine Qj hs (hw.at_ 0 rfl) 0 fun a hs => pn hs 2 [(2, (pt b2 0)), (3, Qb x4), (6, (pt b3 0)), (58, .slice (some ⟨b4, 0, none⟩) 15 15), (59, Qb 15), (60, Qb 3), (8, (pt b8 0)), (68, .bool ((bAnd .i64 x4 8) != 0))] fun a hs => ?_
  refine Qc ?_
  rcases ifbE hx4 with ⟨h14, hx4⟩ | ⟨h14, hx4⟩
  ·refine Qr hs h14 ?_
   refine Qa (pu hs 1 fun a hs => ?_)
   refine Qj hs (hw.at_ 0 rfl) 1 fun a hs => ?_
   obtain ⟨y8, h15, hx4⟩ := bindE hx4
   refine Qv hs (Qix (x1 := x1.f0) (x2 := x1.f1) (x3 := x1.f2) (x4 := x1.f3) (x5 := x1.f4) (x6 := x1.f5) (x7 := x1.f6) (x9 := x1.f8) (x10 := x1.f9) (x11 := x1.f10) (x12 := x1.f11) (x13 := x1.f12) (x14 := x1.f13.f0) (x15 := x1.f13.f1) (x16 := x1.f13.f2) (x17 := x1.f13.f3) (x18 := x1.f14.f0) (x19 := x1.f14.f1) (x20 := x1.f14.f2) (x21 := x1.f14.f3) (x22 := x1.f14.f4) (x23 := x1.f15) (x24 := x1.f16) (x25 := x1.f17) (x26 := x1.f0) (x27 := x1.f1) (x28 := x1.f2) (x29 := x5) (x30 := x6) (x31 := x7) (x32 := 0) (x33 := 0) (x34 := 0) (x35 := 0) (x36 := 0) (x37 := 0) (x38 := 0) (x39 := 0) (x40 := 0) (x41 := 0) (x42 := 0) (x43 := 0) (x44 := 0) (x45 := []) (x46 := false) (x47 := 0) (x48 := []) (x49 := []) (x50 := []) h15 h1 h2 h3 h4 (RSl.nil _ _ _) (RSl.nil _ _ _) (RSl.nil _ _ _) (RSl.nil _ _ _) ((hw.pk [4, 2, 1, 3, 5]).pack 2)) fun a w v hv hs => ?_
   obtain ⟨rfl, hw⟩ := hv
   have hw := hw.unpack 2 rfl
   have hw := hw.cL [k10 b1 x1.f0 x1.f1 x1.f2 x1.f3 x1.f4 x1.f5 x1.f6 x1.f7 x1.f8 x1.f9 x1.f10 x1.f11 x1.f12 x1.f13.f0 x1.f13.f1 x1.f13.f2 x1.f13.f3 x1.f14.f0 x1.f14.f1 p1 x1.f14.f2 c1 x1.f14.f3 x1.f14.f4 p2 x1.f15 c2 p3 x1.f16 c3 p4 x1.f17 c4, k17 b3 x1.f0 x1.f1 x1.f2 x5 x6 x7 y8, k14 b4 b1 b3 b1 b3 b1 b3 b1 b3 b1 b3 b1 b3 b1 b3 b1 b3 b1 b3 b1 b3 b1 b3 b1 b3 b1 b3 b1 b3 b1 b3, k12 b2, F]
   refine Qc ?_
   obtain rfl := someE hx4
   exact (hJ4 _ _).2 ⟨y8, hk, hs.cst, hw.pk [2, 1, 3, 0, 4]⟩
  refine Qs hs h14 (Qg ?_)
  obtain rfl := someE hx4
  exact (hJ4 _ _).2 ⟨0, hk, hs.cst, hw.pk [1, 2, 3, 4, 5]⟩
 intro a w hh
 obtain ⟨x8, hk, hs, hw⟩ := (hJ4 _ _).1 hh
 refine Qa (pn hs 2 [(2, (pt b2 0)), (3, Qb x4), (6, (pt b3 0)), (58, .slice (some ⟨b4, 0, none⟩) 15 15), (59, Qb 15), (60, Qb 4)] fun a hs => ?_)
 refine Qc (QdF (Qd (Qa (pn hs 1 [(2, (pt b2 0)), (3, Qb x4), (6, (pt b3 0)), (58, .slice (some ⟨b4, 0, none⟩) 15 15), (59, Qb 15), (60, Qb 4), (61, .bool true)] fun a hs => ?_))))
 refine Qc (Qd (Qgb hs (Qg ?_)))
 obtain ⟨y9, hx5, hk⟩ := bindE hk
 obtain ⟨J5, hJ5⟩ := mkJ fun a w => ∃ (x9 : Int), QeT x4 x1 x5 x6 x7 x8 x9 = some r ∧ Sees a 74 [(2, (pt b2 0)), (3, Qb x4), (6, (pt b3 0)), (58, .slice (some ⟨b4, 0, none⟩) 15 15), (59, Qb 15), (60, Qb 4)] ∧ St g w [k14 b4 b1 b3 b1 b3 b1 b3 b1 b3 b1 b3 b1 b3 b1 b3 b1 b3 b1 b3 b1 b3 b1 b3 b1 b3 b1 b3 b1 b3 b1 b3, k18 b3 x1.f0 x1.f1 x1.f2 x5 x6 x7 x8 x9, k12 b2, k10 b1 x1.f0 x1.f1 x1.f2 x1.f3 x1.f4 x1.f5 x1.f6 x1.f7 x1.f8 x1.f9 x1.f10 x1.f11 x1.f12 x1.f13.f0 x1.f13.f1 x1.f13.f2 x1.f13.f3 x1.f14.f0 x1.f14.f1 p1 x1.f14.f2 c1 x1.f14.f3 x1.f14.f4 p2 x1.f15 c2 p3 x1.f16 c3 p4 x1.f17 c4, F] ih
 refine QaG J5 ?_ ?_
 ·refine Ql (Qd (Qa (pu hs 1 fun a hs => ?_)))
  refine Qj hs (hw.at_ 0 rfl) 8 fun a hs => QaN hs hw [Qb 0, .nilFunc] 163 (fun b => (pt b 0)) fun a w b9 hs hw => QE hs hw 0 rfl 0 (v := .agg #[Qb 16, .func (.func 99) #[] #[(pt b1 0), (pt b3 0)]]) fun a w hs hw => ?_
  have hs := hs.cst (e' := [(2, (pt b2 0)), (3, Qb x4), (6, (pt b3 0)), (58, .slice (some ⟨b4, 0, none⟩) 15 15), (59, Qb 15), (60, Qb 4), (8, (pt b9 0))])
  refine Qc (Qd (Qa (pu hs 2 fun a hs => ?_)))
  refine Qj hs (hw.at_ 0 rfl) 0 fun a hs => pn hs 2 [(2, (pt b2 0)), (3, Qb x4), (6, (pt b3 0)), (58, .slice (some ⟨b4, 0, none⟩) 15 15), (59, Qb 15), (60, Qb 4), (8, (pt b9 0)), (68, .bool ((bAnd .i64 x4 16) != 0))] fun a hs => ?_
  refine Qc ?_
  rcases ifbE hx5 with ⟨h16, hx5⟩ | ⟨h16, hx5⟩
  ·refine Qr hs h16 ?_
   refine Qa (pu hs 1 fun a hs => ?_)
   refine Qj hs (hw.at_ 0 rfl) 1 fun a hs => ?_
   obtain ⟨y10, h17, hx5⟩ := bindE hx5
   refine Qv hs (Qiw (x1 := x1.f0) (x2 := x1.f1) (x3 := x1.f2) (x4 := x1.f3) (x5 := x1.f4) (x6 := x1.f5) (x7 := x1.f6) (x8 := x1.f7) (x10 := x1.f9) (x11 := x1.f10) (x12 := x1.f11) (x13 := x1.f12) (x14 := x1.f13.f0) (x15 := x1.f13.f1) (x16 := x1.f13.f2) (x17 := x1.f13.f3) (x18 := x1.f14.f0) (x19 := x1.f14.f1) (x20 := x1.f14.f2) (x21 := x1.f14.f3) (x22 := x1.f14.f4) (x23 := x1.f15) (x24 := x1.f16) (x25 := x1.f17) (x26 := x1.f0) (x27 := x1.f1) (x28 := x1.f2) (x29 := x5) (x30 := x6) (x31 := x7) (x32 := 0) (x33 := x8) (x34 := 0) (x35 := 0) (x36 := 0) (x37 := 0) (x38 := 0) (x39 := 0) (x40 := 0) (x41 := 0) (x42 := 0) (x43 := 0) (x44 := 0) (x45 := []) (x46 := false) (x47 := 0) (x48 := []) (x49 := []) (x50 := []) h17 h1 h2 h3 h4 (RSl.nil _ _ _) (RSl.nil _ _ _) (RSl.nil _ _ _) (RSl.nil _ _ _) ((hw.pk [4, 2, 1, 3, 5]).pack 2)) fun a w v hv hs => ?_
   obtain ⟨rfl, hw⟩ := hv
   have hw := hw.unpack 2 rfl
   have hw := hw.cL [k10 b1 x1.f0 x1.f1 x1.f2 x1.f3 x1.f4 x1.f5 x1.f6 x1.f7 x1.f8 x1.f9 x1.f10 x1.f11 x1.f12 x1.f13.f0 x1.f13.f1 x1.f13.f2 x1.f13.f3 x1.f14.f0 x1.f14.f1 p1 x1.f14.f2 c1 x1.f14.f3 x1.f14.f4 p2 x1.f15 c2 p3 x1.f16 c3 p4 x1.f17 c4, k18 b3 x1.f0 x1.f1 x1.f2 x5 x6 x7 x8 y10, k14 b4 b1 b3 b1 b3 b1 b3 b1 b3 b1 b3 b1 b3 b1 b3 b1 b3 b1 b3 b1 b3 b1 b3 b1 b3 b1 b3 b1 b3 b1 b3, k12 b2, F]
   refine Qc ?_
   obtain rfl := someE hx5
   exact (hJ5 _ _).2 ⟨y10, hk, hs.cst, hw.pk [2, 1, 3, 0, 4]⟩
  refine Qs hs h16 (Qg ?_)
  obtain rfl := someE hx5
  exact (hJ5 _ _).2 ⟨0, hk, hs.cst, hw.pk [1, 2, 3, 4, 5]⟩
 intro a w hh
 obtain ⟨x9, hk, hs, hw⟩ := (hJ5 _ _).1 hh
 refine Qa (pn hs 2 [(2, (pt b2 0)), (3, Qb x4), (6, (pt b3 0)), (58, .slice (some ⟨b4, 0, none⟩) 15 15), (59, Qb 15), (60, Qb 5)] fun a hs => ?_)
 refine Qc (QdF (Qd (Qa (pn hs 1 [(2, (pt b2 0)), (3, Qb x4), (6, (pt b3 0)), (58, .slice (some ⟨b4, 0, none⟩) 15 15), (59, Qb 15), (60, Qb 5), (61, .bool true)] fun a hs => ?_))))
 refine Qc (Qd (Qgb hs (Qg ?_)))
 obtain ⟨y11, hx6, hk⟩ := bindE hk
 obtain ⟨J6, hJ6⟩ := mkJ fun a w => ∃ (x10 : Int), QeU x4 x1 x5 x6 x7 x8 x9 x10 = some r ∧ Sees a 74 [(2, (pt b2 0)), (3, Qb x4), (6, (pt b3 0)), (58, .slice (some ⟨b4, 0, none⟩) 15 15), (59, Qb 15), (60, Qb 5)] ∧ St g w [k14 b4 b1 b3 b1 b3 b1 b3 b1 b3 b1 b3 b1 b3 b1 b3 b1 b3 b1 b3 b1 b3 b1 b3 b1 b3 b1 b3 b1 b3 b1 b3, k19 b3 x1.f0 x1.f1 x1.f2 x5 x6 x7 x8 x9 x10, k12 b2, k10 b1 x1.f0 x1.f1 x1.f2 x1.f3 x1.f4 x1.f5 x1.f6 x1.f7 x1.f8 x1.f9 x1.f10 x1.f11 x1.f12 x1.f13.f0 x1.f13.f1 x1.f13.f2 x1.f13.f3 x1.f14.f0 x1.f14.f1 p1 x1.f14.f2 c1 x1.f14.f3 x1.f14.f4 p2 x1.f15 c2 p3 x1.f16 c3 p4 x1.f17 c4, F] ih
 refine QaG J6 ?_ ?_
 ·refine Ql (Qd (Qa (pu hs 1 fun a hs => ?_)))
  refine Qj hs (hw.at_ 0 rfl) 10 fun a hs => QaN hs hw [Qb 0, .nilFunc] 163 (fun b => (pt b 0)) fun a w b10 hs hw => QE hs hw 0 rfl 0 (v := .agg #[Qb 32, .func (.func 100) #[] #[(pt b1 0), (pt b3 0)]]) fun a w hs hw => ?_
  have hs := hs.cst (e' := [(2, (pt b2 0)), (3, Qb x4), (6, (pt b3 0)), (58, .slice (some ⟨b4, 0, none⟩) 15 15), (59, Qb 15), (60, Qb 5), (8, (pt b10 0))])
  refine Qc (Qd (Qa (pu hs 2 fun a hs => ?_)))
  refine Qj hs (hw.at_ 0 rfl) 0 fun a hs => pn hs 2 [(2, (pt b2 0)), (3, Qb x4), (6, (pt b3 0)), (58, .slice (some ⟨b4, 0, none⟩) 15 15), (59, Qb 15), (60, Qb 5), (8, (pt b10 0)), (68, .bool ((bAnd .i64 x4 32) != 0))] fun a hs => ?_
  refine Qc ?_
  rcases ifbE hx6 with ⟨h18, hx6⟩ | ⟨h18, hx6⟩
  ·refine Qr hs h18 ?_
   refine Qa (pu hs 1 fun a hs => ?_)
   refine Qj hs (hw.at_ 0 rfl) 1 fun a hs => ?_
   obtain ⟨y12, h19, hx6⟩ := bindE hx6
   refine Qv hs (Qiv (x1 := x1.f0) (x2 := x1.f1) (x3 := x1.f2) (x4 := x1.f3) (x5 := x1.f4) (x6 := x1.f5) (x7 := x1.f6) (x8 := x1.f7) (x9 := x1.f8) (x10 := x1.f9) (x12 := x1.f11) (x13 := x1.f12) (x14 := x1.f13.f0) (x15 := x1.f13.f1) (x16 := x1.f13.f2) (x17 := x1.f13.f3) (x18 := x1.f14.f0) (x19 := x1.f14.f1) (x20 := x1.f14.f2) (x21 := x1.f14.f3) (x22 := x1.f14.f4) (x23 := x1.f15) (x24 := x1.f16) (x25 := x1.f17) (x26 := x1.f0) (x27 := x1.f1) (x28 := x1.f2) (x29 := x5) (x30 := x6) (x31 := x7) (x32 := 0) (x33 := x8) (x34 := x9) (x35 := 0) (x36 := 0) (x37 := 0) (x38 := 0) (x39 := 0) (x40 := 0) (x41 := 0) (x42 := 0) (x43 := 0) (x44 := 0) (x45 := []) (x46 := false) (x47 := 0) (x48 := []) (x49 := []) (x50 := []) h19 h1 h2 h3 h4 (RSl.nil _ _ _) (RSl.nil _ _ _) (RSl.nil _ _ _) (RSl.nil _ _ _) ((hw.pk [4, 2, 1, 3, 5]).pack 2)) fun a w v hv hs => ?_
   obtain ⟨rfl, hw⟩ := hv
   have hw := hw.unpack 2 rfl
   have hw := hw.cL [k10 b1 x1.f0 x1.f1 x1.f2 x1.f3 x1.f4 x1.f5 x1.f6 x1.f7 x1.f8 x1.f9 x1.f10 x1.f11 x1.f12 x1.f13.f0 x1.f13.f1 x1.f13.f2 x1.f13.f3 x1.f14.f0 x1.f14.f1 p1 x1.f14.f2 c1 x1.f14.f3 x1.f14.f4 p2 x1.f15 c2 p3 x1.f16 c3 p4 x1.f17 c4, k19 b3 x1.f0 x1.f1 x1.f2 x5 x6 x7 x8 x9 y12, k14 b4 b1 b3 b1 b3 b1 b3 b1 b3 b1 b3 b1 b3 b1 b3 b1 b3 b1 b3 b1 b3 b1 b3 b1 b3 b1 b3 b1 b3 b1 b3, k12 b2, F]
   refine Qc ?_
   obtain rfl := someE hx6
   exact (hJ6 _ _).2 ⟨y12, hk, hs.cst, hw.pk [2, 1, 3, 0, 4]⟩
  refine Qs hs h18 (Qg ?_)
  obtain rfl := someE hx6
  exact (hJ6 _ _).2 ⟨0, hk, hs.cst, hw.pk [1, 2, 3, 4, 5]⟩
 intro a w hh
 obtain ⟨x10, hk, hs, hw⟩ := (hJ6 _ _).1 hh
 refine Qa (pn hs 2 [(2, (pt b2 0)), (3, Qb x4), (6, (pt b3 0)), (58, .slice (some ⟨b4, 0, none⟩) 15 15), (59, Qb 15), (60, Qb 6)] fun a hs => ?_)
 refine Qc (QdF (Qd (Qa (pn hs 1 [(2, (pt b2 0)), (3, Qb x4), (6, (pt b3 0)), (58, .slice (some ⟨b4, 0, none⟩) 15 15), (59, Qb 15), (60, Qb 6), (61, .bool true)] fun a hs => ?_))))
 refine Qc (Qd (Qgb hs (Qg ?_)))
 obtain ⟨y13, hx7, hk⟩ := bindE hk
 obtain ⟨J7, hJ7⟩ := mkJ fun a w => ∃ (x11 : Int), QeV x4 x1 x5 x6 x7 x8 x9 x10 x11 = some r ∧ Sees a 74 [(2, (pt b2 0)), (3, Qb x4), (6, (pt b3 0)), (58, .slice (some ⟨b4, 0, none⟩) 15 15), (59, Qb 15), (60, Qb 6)] ∧ St g w [k14 b4 b1 b3 b1 b3 b1 b3 b1 b3 b1 b3 b1 b3 b1 b3 b1 b3 b1 b3 b1 b3 b1 b3 b1 b3 b1 b3 b1 b3 b1 b3, k20 b3 x1.f0 x1.f1 x1.f2 x5 x6 x7 x11 x8 x9 x10, k12 b2, k10 b1 x1.f0 x1.f1 x1.f2 x1.f3 x1.f4 x1.f5 x1.f6 x1.f7 x1.f8 x1.f9 x1.f10 x1.f11 x1.f12 x1.f13.f0 x1.f13.f1 x1.f13.f2 x1.f13.f3 x1.f14.f0 x1.f14.f1 p1 x1.f14.f2 c1 x1.f14.f3 x1.f14.f4 p2 x1.f15 c2 p3 x1.f16 c3 p4 x1.f17 c4, F] ih
 refine QaG J7 ?_ ?_
 ·refine Ql (Qd (Qa (pu hs 1 fun a hs => ?_)))
  refine Qj hs (hw.at_ 0 rfl) 12 fun a hs => QaN hs hw [Qb 0, .nilFunc] 163 (fun b => (pt b 0)) fun a w b11 hs hw => QE hs hw 0 rfl 0 (v := .agg #[Qb 64, .func (.func 101) #[] #[(pt b1 0), (pt b3 0)]]) fun a w hs hw => ?_
  have hs := hs.cst (e' := [(2, (pt b2 0)), (3, Qb x4), (6, (pt b3 0)), (58, .slice (some ⟨b4, 0, none⟩) 15 15), (59, Qb 15), (60, Qb 6), (8, (pt b11 0))])
  refine Qc (Qd (Qa (pu hs 2 fun a hs => ?_)))
  refine Qj hs (hw.at_ 0 rfl) 0 fun a hs => pn hs 2 [(2, (pt b2 0)), (3, Qb x4), (6, (pt b3 0)), (58, .slice (some ⟨b4, 0, none⟩) 15 15), (59, Qb 15), (60, Qb 6), (8, (pt b11 0)), (68, .bool ((bAnd .i64 x4 64) != 0))] fun a hs => ?_
  refine Qc ?_
  rcases ifbE hx7 with ⟨h20, hx7⟩ | ⟨h20, hx7⟩
  ·refine Qr hs h20 ?_
   refine Qa (pu hs 1 fun a hs => ?_)
   refine Qj hs (hw.at_ 0 rfl) 1 fun a hs => ?_
   obtain ⟨y14, h21, hx7⟩ := bindE hx7
   refine Qv hs (Qiu (x1 := x1.f0) (x2 := x1.f1) (x3 := x1.f2) (x4 := x1.f3) (x5 := x1.f4) (x6 := x1.f5) (x8 := x1.f7) (x9 := x1.f8) (x10 := x1.f9) (x11 := x1.f10) (x12 := x1.f11) (x13 := x1.f12) (x14 := x1.f13.f0) (x15 := x1.f13.f1) (x16 := x1.f13.f2) (x17 := x1.f13.f3) (x18 := x1.f14.f0) (x19 := x1.f14.f1) (x20 := x1.f14.f2) (x21 := x1.f14.f3) (x22 := x1.f14.f4) (x23 := x1.f15) (x24 := x1.f16) (x25 := x1.f17) (x26 := x1.f0) (x27 := x1.f1) (x28 := x1.f2) (x29 := x5) (x30 := x6) (x31 := x7) (x32 := 0) (x33 := x8) (x34 := x9) (x35 := 0) (x36 := x10) (x37 := 0) (x38 := 0) (x39 := 0) (x40 := 0) (x41 := 0) (x42 := 0) (x43 := 0) (x44 := 0) (x45 := []) (x46 := false) (x47 := 0) (x48 := []) (x49 := []) (x50 := []) h21 h1 h2 h3 h4 (RSl.nil _ _ _) (RSl.nil _ _ _) (RSl.nil _ _ _) (RSl.nil _ _ _) ((hw.pk [4, 2, 1, 3, 5]).pack 2)) fun a w v hv hs => ?_
   obtain ⟨rfl, hw⟩ := hv
   have hw := hw.unpack 2 rfl
   have hw := hw.cL [k10 b1 x1.f0 x1.f1 x1.f2 x1.f3 x1.f4 x1.f5 x1.f6 x1.f7 x1.f8 x1.f9 x1.f10 x1.f11 x1.f12 x1.f13.f0 x1.f13.f1 x1.f13.f2 x1.f13.f3 x1.f14.f0 x1.f14.f1 p1 x1.f14.f2 c1 x1.f14.f3 x1.f14.f4 p2 x1.f15 c2 p3 x1.f16 c3 p4 x1.f17 c4, k20 b3 x1.f0 x1.f1 x1.f2 x5 x6 x7 y14 x8 x9 x10, k14 b4 b1 b3 b1 b3 b1 b3 b1 b3 b1 b3 b1 b3 b1 b3 b1 b3 b1 b3 b1 b3 b1 b3 b1 b3 b1 b3 b1 b3 b1 b3, k12 b2, F]
   refine Qc ?_
   obtain rfl := someE hx7
   exact (hJ7 _ _).2 ⟨y14, hk, hs.cst, hw.pk [2, 1, 3, 0, 4]⟩
  refine Qs hs h20 (Qg ?_)
  obtain rfl := someE hx7
  exact (hJ7 _ _).2 ⟨0, hk, hs.cst, hw.pk [1, 2, 3, 4, 5]⟩
 intro a w hh
 obtain ⟨x11, hk, hs, hw⟩ := (hJ7 _ _).1 hh
 refine Qa (pn hs 2 [(2, (pt b2 0)), (3, Qb x4), (6, (pt b3 0)), (58, .slice (some ⟨b4, 0, none⟩) 15 15), (59, Qb 15), (60, Qb 7)] fun a hs => ?_)
 refine Qc (QdF (Qd (Qa (pn hs 1 [(2, (pt b2 0)), (3, Qb x4), (6, (pt b3 0)), (58, .slice (some ⟨b4, 0, none⟩) 15 15), (59, Qb 15), (60, Qb 7), (61, .bool true)] fun a hs => ?_))))
 refine Qc (Qd (Qgb hs (Qg ?_)))
 obtain ⟨y15, hx8, hk⟩ := bindE hk
 obtain ⟨J8, hJ8⟩ := mkJ fun a w => ∃ (x12 : Int), QeW x4 x1 x5 x6 x7 x11 x8 x9 x10 x12 = some r ∧ Sees a 74 [(2, (pt b2 0)), (3, Qb x4), (6, (pt b3 0)), (58, .slice (some ⟨b4, 0, none⟩) 15 15), (59, Qb 15), (60, Qb 7)] ∧ St g w [k14 b4 b1 b3 b1 b3 b1 b3 b1 b3 b1 b3 b1 b3 b1 b3 b1 b3 b1 b3 b1 b3 b1 b3 b1 b3 b1 b3 b1 b3 b1 b3, k21 b3 x1.f0 x1.f1 x1.f2 x5 x6 x7 x11 x8 x9 x10 x12, k12 b2, k10 b1 x1.f0 x1.f1 x1.f2 x1.f3 x1.f4 x1.f5 x1.f6 x1.f7 x1.f8 x1.f9 x1.f10 x1.f11 x1.f12 x1.f13.f0 x1.f13.f1 x1.f13.f2 x1.f13.f3 x1.f14.f0 x1.f14.f1 p1 x1.f14.f2 c1 x1.f14.f3 x1.f14.f4 p2 x1.f15 c2 p3 x1.f16 c3 p4 x1.f17 c4, F] ih
 refine QaG J8 ?_ ?_
 ·refine Ql (Qd (Qa (pu hs 1 fun a hs => ?_)))
  refine Qj hs (hw.at_ 0 rfl) 14 fun a hs => QaN hs hw [Qb 0, .nilFunc] 163 (fun b => (pt b 0)) fun a w b12 hs hw => QE hs hw 0 rfl 0 (v := .agg #[Qb 128, .func (.func 102) #[] #[(pt b1 0), (pt b3 0)]]) fun a w hs hw => ?_
  have hs := hs.cst (e' := [(2, (pt b2 0)), (3, Qb x4), (6, (pt b3 0)), (58, .slice (some ⟨b4, 0, none⟩) 15 15), (59, Qb 15), (60, Qb 7), (8, (pt b12 0))])
  refine Qc (Qd (Qa (pu hs 2 fun a hs => ?_)))
  refine Qj hs (hw.at_ 0 rfl) 0 fun a hs => pn hs 2 [(2, (pt b2 0)), (3, Qb x4), (6, (pt b3 0)), (58, .slice (some ⟨b4, 0, none⟩) 15 15), (59, Qb 15), (60, Qb 7), (8, (pt b12 0)), (68, .bool ((bAnd .i64 x4 128) != 0))] fun a hs => ?_
  refine Qc ?_
  rcases ifbE hx8 with ⟨h22, hx8⟩ | ⟨h22, hx8⟩
  ·refine Qr hs h22 ?_
   refine Qa (pu hs 1 fun a hs => ?_)
   refine Qj hs (hw.at_ 0 rfl) 1 fun a hs => ?_
   obtain ⟨y16, h23, hx8⟩ := bindE hx8
   refine Qv hs (Qit (x1 := x1.f0) (x2 := x1.f1) (x3 := x1.f2) (x4 := x1.f3) (x5 := x1.f4) (x6 := x1.f5) (x7 := x1.f6) (x8 := x1.f7) (x9 := x1.f8) (x10 := x1.f9) (x11 := x1.f10) (x12 := x1.f11) (x14 := x1.f13.f0) (x15 := x1.f13.f1) (x16 := x1.f13.f2) (x17 := x1.f13.f3) (x18 := x1.f14.f0) (x19 := x1.f14.f1) (x20 := x1.f14.f2) (x21 := x1.f14.f3) (x22 := x1.f14.f4) (x23 := x1.f15) (x24 := x1.f16) (x25 := x1.f17) (x26 := x1.f0) (x27 := x1.f1) (x28 := x1.f2) (x29 := x5) (x30 := x6) (x31 := x7) (x32 := x11) (x33 := x8) (x34 := x9) (x35 := 0) (x36 := x10) (x37 := 0) (x38 := 0) (x39 := 0) (x40 := 0) (x41 := 0) (x42 := 0) (x43 := 0) (x44 := 0) (x45 := []) (x46 := false) (x47 := 0) (x48 := []) (x49 := []) (x50 := []) h23 h1 h2 h3 h4 (RSl.nil _ _ _) (RSl.nil _ _ _) (RSl.nil _ _ _) (RSl.nil _ _ _) ((hw.pk [4, 2, 1, 3, 5]).pack 2)) fun a w v hv hs => ?_
   obtain ⟨rfl, hw⟩ := hv
   have hw := hw.unpack 2 rfl
   have hw := hw.cL [k10 b1 x1.f0 x1.f1 x1.f2 x1.f3 x1.f4 x1.f5 x1.f6 x1.f7 x1.f8 x1.f9 x1.f10 x1.f11 x1.f12 x1.f13.f0 x1.f13.f1 x1.f13.f2 x1.f13.f3 x1.f14.f0 x1.f14.f1 p1 x1.f14.f2 c1 x1.f14.f3 x1.f14.f4 p2 x1.f15 c2 p3 x1.f16 c3 p4 x1.f17 c4, k21 b3 x1.f0 x1.f1 x1.f2 x5 x6 x7 x11 x8 x9 x10 y16, k14 b4 b1 b3 b1 b3 b1 b3 b1 b3 b1 b3 b1 b3 b1 b3 b1 b3 b1 b3 b1 b3 b1 b3 b1 b3 b1 b3 b1 b3 b1 b3, k12 b2, F]
   refine Qc ?_
   obtain rfl := someE hx8
   exact (hJ8 _ _).2 ⟨y16, hk, hs.cst, hw.pk [2, 1, 3, 0, 4]⟩
  refine Qs hs h22 (Qg ?_)
  obtain rfl := someE hx8
  exact (hJ8 _ _).2 ⟨0, hk, hs.cst, hw.pk [1, 2, 3, 4, 5]⟩
 intro a w hh
 obtain ⟨x12, hk, hs, hw⟩ := (hJ8 _ _).1 hh
 refine Qa (pn hs 2 [(2, (pt b2 0)), (3, Qb x4), (6, (pt b3 0)), (58, .slice (some ⟨b4, 0, none⟩) 15 15), (59, Qb 15), (60, Qb 8)] fun a hs => ?_)
 refine Qc (QdF (Qd (Qa (pn hs 1 [(2, (pt b2 0)), (3, Qb x4), (6, (pt b3 0)), (58, .slice (some ⟨b4, 0, none⟩) 15 15), (59, Qb 15), (60, Qb 8), (61, .bool true)] fun a hs => ?_))))
 refine Qc (Qd (Qgb hs (Qg ?_)))
 obtain ⟨y17, hx9, hk⟩ := bindE hk
 obtain ⟨J9, hJ9⟩ := mkJ fun a w => ∃ (x13 : Int), QeX x4 x1 x5 x6 x7 x11 x8 x9 x10 x12 x13 = some r ∧ Sees a 74 [(2, (pt b2 0)), (3, Qb x4), (6, (pt b3 0)), (58, .slice (some ⟨b4, 0, none⟩) 15 15), (59, Qb 15), (60, Qb 8)] ∧ St g w [k14 b4 b1 b3 b1 b3 b1 b3 b1 b3 b1 b3 b1 b3 b1 b3 b1 b3 b1 b3 b1 b3 b1 b3 b1 b3 b1 b3 b1 b3 b1 b3, k22 b3 x1.f0 x1.f1 x1.f2 x5 x6 x7 x11 x8 x9 x10 x13 x12, k12 b2, k10 b1 x1.f0 x1.f1 x1.f2 x1.f3 x1.f4 x1.f5 x1.f6 x1.f7 x1.f8 x1.f9 x1.f10 x1.f11 x1.f12 x1.f13.f0 x1.f13.f1 x1.f13.f2 x1.f13.f3 x1.f14.f0 x1.f14.f1 p1 x1.f14.f2 c1 x1.f14.f3 x1.f14.f4 p2 x1.f15 c2 p3 x1.f16 c3 p4 x1.f17 c4, F] ih
 refine QaG J9 ?_ ?_
 ·refine Ql (Qd (Qa (pu hs 1 fun a hs => ?_)))
  refine Qj hs (hw.at_ 0 rfl) 16 fun a hs => QaN hs hw [Qb 0, .nilFunc] 163 (fun b => (pt b 0)) fun a w b13 hs hw => QE hs hw 0 rfl 0 (v := .agg #[Qb 256, .func (.func 103) #[] #[(pt b1 0), (pt b3 0)]]) fun a w hs hw => ?_
  have hs := hs.cst (e' := [(2, (pt b2 0)), (3, Qb x4), (6, (pt b3 0)), (58, .slice (some ⟨b4, 0, none⟩) 15 15), (59, Qb 15), (60, Qb 8), (8, (pt b13 0))])
  refine Qc (Qd (Qa (pu hs 2 fun a hs => ?_)))
  refine Qj hs (hw.at_ 0 rfl) 0 fun a hs => pn hs 2 [(2, (pt b2 0)), (3, Qb x4), (6, (pt b3 0)), (58, .slice (some ⟨b4, 0, none⟩) 15 15), (59, Qb 15), (60, Qb 8), (8, (pt b13 0)), (68, .bool ((bAnd .i64 x4 256) != 0))] fun a hs => ?_
  refine Qc ?_
  rcases ifbE hx9 with ⟨h24, hx9⟩ | ⟨h24, hx9⟩
  ·refine Qr hs h24 ?_
   refine Qa (pu hs 1 fun a hs => ?_)
   refine Qj hs (hw.at_ 0 rfl) 1 fun a hs => ?_
   obtain ⟨y18, h25, hx9⟩ := bindE hx9
   refine Qv hs (Qis (x1 := x1.f0) (x2 := x1.f1) (x3 := x1.f2) (x4 := x1.f3) (x5 := x1.f4) (x6 := x1.f5) (x7 := x1.f6) (x8 := x1.f7) (x9 := x1.f8) (x10 := x1.f9) (x11 := x1.f10) (x13 := x1.f12) (x14 := x1.f13.f0) (x15 := x1.f13.f1) (x16 := x1.f13.f2) (x17 := x1.f13.f3) (x18 := x1.f14.f0) (x19 := x1.f14.f1) (x20 := x1.f14.f2) (x21 := x1.f14.f3) (x22 := x1.f14.f4) (x23 := x1.f15) (x24 := x1.f16) (x25 := x1.f17) (x26 := x1.f0) (x27 := x1.f1) (x28 := x1.f2) (x29 := x5) (x30 := x6) (x31 := x7) (x32 := x11) (x33 := x8) (x34 := x9) (x35 := 0) (x36 := x10) (x37 := 0) (x38 := x12) (x39 := 0) (x40 := 0) (x41 := 0) (x42 := 0) (x43 := 0) (x44 := 0) (x45 := []) (x46 := false) (x47 := 0) (x48 := []) (x49 := []) (x50 := []) h25 h1 h2 h3 h4 (RSl.nil _ _ _) (RSl.nil _ _ _) (RSl.nil _ _ _) (RSl.nil _ _ _) ((hw.pk [4, 2, 1, 3, 5]).pack 2)) fun a w v hv hs => ?_
   obtain ⟨rfl, hw⟩ := hv
   have hw := hw.unpack 2 rfl
   have hw := hw.cL [k10 b1 x1.f0 x1.f1 x1.f2 x1.f3 x1.f4 x1.f5 x1.f6 x1.f7 x1.f8 x1.f9 x1.f10 x1.f11 x1.f12 x1.f13.f0 x1.f13.f1 x1.f13.f2 x1.f13.f3 x1.f14.f0 x1.f14.f1 p1 x1.f14.f2 c1 x1.f14.f3 x1.f14.f4 p2 x1.f15 c2 p3 x1.f16 c3 p4 x1.f17 c4, k22 b3 x1.f0 x1.f1 x1.f2 x5 x6 x7 x11 x8 x9 x10 y18 x12, k14 b4 b1 b3 b1 b3 b1 b3 b1 b3 b1 b3 b1 b3 b1 b3 b1 b3 b1 b3 b1 b3 b1 b3 b1 b3 b1 b3 b1 b3 b1 b3, k12 b2, F]
   refine Qc ?_
   obtain rfl := someE hx9
   exact (hJ9 _ _).2 ⟨y18, hk, hs.cst, hw.pk [2, 1, 3, 0, 4]⟩
  refine Qs hs h24 (Qg ?_)
  obtain rfl := someE hx9
  exact (hJ9 _ _).2 ⟨0, hk, hs.cst, hw.pk [1, 2, 3, 4, 5]⟩
 intro a w hh
 obtain ⟨x13, hk, hs, hw⟩ := (hJ9 _ _).1 hh
 refine Qa (pn hs 2 [(2, (pt b2 0)), (3, Qb x4), (6, (pt b3 0)), (58, .slice (some ⟨b4, 0, none⟩) 15 15), (59, Qb 15), (60, Qb 9)] fun a hs => ?_)
 refine Qc (QdF (Qd (Qa (pn hs 1 [(2, (pt b2 0)), (3, Qb x4), (6, (pt b3 0)), (58, .slice (some ⟨b4, 0, none⟩) 15 15), (59, Qb 15), (60, Qb 9), (61, .bool true)] fun a hs => ?_))))
 refine Qc (Qd (Qgb hs (Qg ?_)))
 obtain ⟨y19, hx10, hk⟩ := bindE hk
 obtain ⟨J10, hJ10⟩ := mkJ fun a w => ∃ (x14 : Int), QeY x4 x1 x5 x6 x7 x11 x8 x9 x10 x13 x12 x14 = some r ∧ Sees a 74 [(2, (pt b2 0)), (3, Qb x4), (6, (pt b3 0)), (58, .slice (some ⟨b4, 0, none⟩) 15 15), (59, Qb 15), (60, Qb 9)] ∧ St g w [k14 b4 b1 b3 b1 b3 b1 b3 b1 b3 b1 b3 b1 b3 b1 b3 b1 b3 b1 b3 b1 b3 b1 b3 b1 b3 b1 b3 b1 b3 b1 b3, k23 b3 x1.f0 x1.f1 x1.f2 x5 x6 x7 x11 x8 x9 x14 x10 x13 x12, k12 b2, k10 b1 x1.f0 x1.f1 x1.f2 x1.f3 x1.f4 x1.f5 x1.f6 x1.f7 x1.f8 x1.f9 x1.f10 x1.f11 x1.f12 x1.f13.f0 x1.f13.f1 x1.f13.f2 x1.f13.f3 x1.f14.f0 x1.f14.f1 p1 x1.f14.f2 c1 x1.f14.f3 x1.f14.f4 p2 x1.f15 c2 p3 x1.f16 c3 p4 x1.f17 c4, F] ih
 refine QaG J10 ?_ ?_
 ·refine Ql (Qd (Qa (pu hs 1 fun a hs => ?_)))
  refine Qj hs (hw.at_ 0 rfl) 18 fun a hs => QaN hs hw [Qb 0, .nilFunc] 163 (fun b => (pt b 0)) fun a w b14 hs hw => QE hs hw 0 rfl 0 (v := .agg #[Qb 512, .func (.func 104) #[] #[(pt b1 0), (pt b3 0)]]) fun a w hs hw => ?_
  have hs := hs.cst (e' := [(2, (pt b2 0)), (3, Qb x4), (6, (pt b3 0)), (58, .slice (some ⟨b4, 0, none⟩) 15 15), (59, Qb 15), (60, Qb 9), (8, (pt b14 0))])
  refine Qc (Qd (Qa (pu hs 2 fun a hs => ?_)))
  refine Qj hs (hw.at_ 0 rfl) 0 fun a hs => pn hs 2 [(2, (pt b2 0)), (3, Qb x4), (6, (pt b3 0)), (58, .slice (some ⟨b4, 0, none⟩) 15 15), (59, Qb 15), (60, Qb 9), (8, (pt b14 0)), (68, .bool ((bAnd .i64 x4 512) != 0))] fun a hs => ?_
  refine Qc ?_
  rcases ifbE hx10 with ⟨h26, hx10⟩ | ⟨h26, hx10⟩
  ·refine Qr hs h26 ?_
   refine Qa (pu hs 1 fun a hs => ?_)
   refine Qj hs (hw.at_ 0 rfl) 1 fun a hs => ?_
   obtain ⟨y20, h27, hx10⟩ := bindE hx10
   refine Qv hs (Qh4 (x1 := x1.f0) (x2 := x1.f1) (x3 := x1.f2) (x4 := x1.f3) (x5 := x1.f4) (x6 := x1.f5) (x7 := x1.f6) (x8 := x1.f7) (x9 := x1.f8) (x11 := x1.f10) (x12 := x1.f11) (x13 := x1.f12) (x14 := x1.f13.f0) (x15 := x1.f13.f1) (x16 := x1.f13.f2) (x17 := x1.f13.f3) (x18 := x1.f14.f0) (x19 := x1.f14.f1) (x20 := x1.f14.f2) (x21 := x1.f14.f3) (x22 := x1.f14.f4) (x23 := x1.f15) (x24 := x1.f16) (x25 := x1.f17) (x26 := x1.f0) (x27 := x1.f1) (x28 := x1.f2) (x29 := x5) (x30 := x6) (x31 := x7) (x32 := x11) (x33 := x8) (x34 := x9) (x35 := 0) (x36 := x10) (x37 := x13) (x38 := x12) (x39 := 0) (x40 := 0) (x41 := 0) (x42 := 0) (x43 := 0) (x44 := 0) (x45 := []) (x46 := false) (x47 := 0) (x48 := []) (x49 := []) (x50 := []) h27 h1 h2 h3 h4 (RSl.nil _ _ _) (RSl.nil _ _ _) (RSl.nil _ _ _) (RSl.nil _ _ _) ((hw.pk [4, 2, 1, 3, 5]).pack 2)) fun a w v hv hs => ?_
   obtain ⟨rfl, hw⟩ := hv
   have hw := hw.unpack 2 rfl
   have hw := hw.cL [k10 b1 x1.f0 x1.f1 x1.f2 x1.f3 x1.f4 x1.f5 x1.f6 x1.f7 x1.f8 x1.f9 x1.f10 x1.f11 x1.f12 x1.f13.f0 x1.f13.f1 x1.f13.f2 x1.f13.f3 x1.f14.f0 x1.f14.f1 p1 x1.f14.f2 c1 x1.f14.f3 x1.f14.f4 p2 x1.f15 c2 p3 x1.f16 c3 p4 x1.f17 c4, k23 b3 x1.f0 x1.f1 x1.f2 x5 x6 x7 x11 x8 x9 y20 x10 x13 x12, k14 b4 b1 b3 b1 b3 b1 b3 b1 b3 b1 b3 b1 b3 b1 b3 b1 b3 b1 b3 b1 b3 b1 b3 b1 b3 b1 b3 b1 b3 b1 b3, k12 b2, F]
   refine Qc ?_
   obtain rfl := someE hx10
   exact (hJ10 _ _).2 ⟨y20, hk, hs.cst, hw.pk [2, 1, 3, 0, 4]⟩
  refine Qs hs h26 (Qg ?_)
  obtain rfl := someE hx10
  exact (hJ10 _ _).2 ⟨0, hk, hs.cst, hw.pk [1, 2, 3, 4, 5]⟩
 intro a w hh
 obtain ⟨x14, hk, hs, hw⟩ := (hJ10 _ _).1 hh
 refine Qa (pn hs 2 [(2, (pt b2 0)), (3, Qb x4), (6, (pt b3 0)), (58, .slice (some ⟨b4, 0, none⟩) 15 15), (59, Qb 15), (60, Qb 10)] fun a hs => ?_)
 refine Qc (QdF (Qd (Qa (pn hs 1 [(2, (pt b2 0)), (3, Qb x4), (6, (pt b3 0)), (58, .slice (some ⟨b4, 0, none⟩) 15 15), (59, Qb 15), (60, Qb 10), (61, .bool true)] fun a hs => ?_))))
 refine Qc (Qd (Qgb hs (Qg ?_)))
 obtain ⟨y21, hx11, hk⟩ := bindE hk
 obtain ⟨J11, hJ11⟩ := mkJ fun a w => ∃ (x15 x16 x17 x18 : Int), QeZ x4 x1 x5 x6 x7 x11 x8 x9 x14 x10 x13 x12 x15 x16 x17 x18 = some r ∧ Sees a 74 [(2, (pt b2 0)), (3, Qb x4), (6, (pt b3 0)), (58, .slice (some ⟨b4, 0, none⟩) 15 15), (59, Qb 15), (60, Qb 10)] ∧ St g w [k14 b4 b1 b3 b1 b3 b1 b3 b1 b3 b1 b3 b1 b3 b1 b3 b1 b3 b1 b3 b1 b3 b1 b3 b1 b3 b1 b3 b1 b3 b1 b3, k24 b3 x1.f0 x1.f1 x1.f2 x5 x6 x7 x11 x8 x9 x14 x10 x13 x12 x15 x16 x17 x18, k12 b2, k10 b1 x1.f0 x1.f1 x1.f2 x1.f3 x1.f4 x1.f5 x1.f6 x1.f7 x1.f8 x1.f9 x1.f10 x1.f11 x1.f12 x1.f13.f0 x1.f13.f1 x1.f13.f2 x1.f13.f3 x1.f14.f0 x1.f14.f1 p1 x1.f14.f2 c1 x1.f14.f3 x1.f14.f4 p2 x1.f15 c2 p3 x1.f16 c3 p4 x1.f17 c4, F] ih
 refine QaG J11 ?_ ?_
 ·refine Ql (Qd (Qa (pu hs 1 fun a hs => ?_)))
  refine Qj hs (hw.at_ 0 rfl) 20 fun a hs => QaN hs hw [Qb 0, .nilFunc] 163 (fun b => (pt b 0)) fun a w b15 hs hw => QE hs hw 0 rfl 0 (v := .agg #[Qb 1024, .func (.func 105) #[] #[(pt b1 0), (pt b3 0)]]) fun a w hs hw => ?_
  have hs := hs.cst (e' := [(2, (pt b2 0)), (3, Qb x4), (6, (pt b3 0)), (58, .slice (some ⟨b4, 0, none⟩) 15 15), (59, Qb 15), (60, Qb 10), (8, (pt b15 0))])
  refine Qc (Qd (Qa (pu hs 2 fun a hs => ?_)))
  refine Qj hs (hw.at_ 0 rfl) 0 fun a hs => pn hs 2 [(2, (pt b2 0)), (3, Qb x4), (6, (pt b3 0)), (58, .slice (some ⟨b4, 0, none⟩) 15 15), (59, Qb 15), (60, Qb 10), (8, (pt b15 0)), (68, .bool ((bAnd .i64 x4 1024) != 0))] fun a hs => ?_
  refine Qc ?_
  rcases ifbE hx11 with ⟨h28, hx11⟩ | ⟨h28, hx11⟩
  ·refine Qr hs h28 ?_
   refine Qa (pu hs 1 fun a hs => ?_)
   refine Qj hs (hw.at_ 0 rfl) 1 fun a hs => ?_
   obtain ⟨y22, h29, hx11⟩ := bindE hx11
   refine Qv hs (Qh3 (x1 := x1.f0) (x2 := x1.f1) (x3 := x1.f2) (x4 := x1.f3) (x5 := x1.f4) (x6 := x1.f5) (x7 := x1.f6) (x8 := x1.f7) (x9 := x1.f8) (x10 := x1.f9) (x11 := x1.f10) (x12 := x1.f11) (x13 := x1.f12) (x18 := x1.f14.f0) (x19 := x1.f14.f1) (x20 := x1.f14.f2) (x21 := x1.f14.f3) (x22 := x1.f14.f4) (x23 := x1.f15) (x24 := x1.f16) (x25 := x1.f17) (x26 := x1.f0) (x27 := x1.f1) (x28 := x1.f2) (x29 := x5) (x30 := x6) (x31 := x7) (x32 := x11) (x33 := x8) (x34 := x9) (x35 := x14) (x36 := x10) (x37 := x13) (x38 := x12) (x39 := 0) (x40 := 0) (x41 := 0) (x42 := 0) (x43 := 0) (x44 := 0) (x45 := []) (x46 := false) (x47 := 0) (x48 := []) (x49 := []) (x50 := []) h29 h1 h2 h3 h4 (RSl.nil _ _ _) (RSl.nil _ _ _) (RSl.nil _ _ _) (RSl.nil _ _ _) ((hw.pk [4, 2, 1, 3, 5]).pack 2)) fun a w v hv hs => ?_
   obtain ⟨rfl, hw⟩ := hv
   have hw := hw.unpack 2 rfl
   have hw := hw.cL [k10 b1 x1.f0 x1.f1 x1.f2 x1.f3 x1.f4 x1.f5 x1.f6 x1.f7 x1.f8 x1.f9 x1.f10 x1.f11 x1.f12 x1.f13.f0 x1.f13.f1 x1.f13.f2 x1.f13.f3 x1.f14.f0 x1.f14.f1 p1 x1.f14.f2 c1 x1.f14.f3 x1.f14.f4 p2 x1.f15 c2 p3 x1.f16 c3 p4 x1.f17 c4, k24 b3 x1.f0 x1.f1 x1.f2 x5 x6 x7 x11 x8 x9 x14 x10 x13 x12 y22.1 y22.2.1 y22.2.2.1 y22.2.2.2, k14 b4 b1 b3 b1 b3 b1 b3 b1 b3 b1 b3 b1 b3 b1 b3 b1 b3 b1 b3 b1 b3 b1 b3 b1 b3 b1 b3 b1 b3 b1 b3, k12 b2, F]
   refine Qc ?_
   obtain rfl := someE hx11
   exact (hJ11 _ _).2 ⟨y22.1, y22.2.1, y22.2.2.1, y22.2.2.2, hk, hs.cst, hw.pk [2, 1, 3, 0, 4]⟩
  refine Qs hs h28 (Qg ?_)
  obtain rfl := someE hx11
  exact (hJ11 _ _).2 ⟨0, 0, 0, 0, hk, hs.cst, hw.pk [1, 2, 3, 4, 5]⟩
 intro a w hh
 obtain ⟨x15, x16, x17, x18, hk, hs, hw⟩ := (hJ11 _ _).1 hh
 refine Qa (pn hs 2 [(2, (pt b2 0)), (3, Qb x4), (6, (pt b3 0)), (58, .slice (some ⟨b4, 0, none⟩) 15 15), (59, Qb 15), (60, Qb 11)] fun a hs => ?_)
 refine Qc (QdF (Qd (Qa (pn hs 1 [(2, (pt b2 0)), (3, Qb x4), (6, (pt b3 0)), (58, .slice (some ⟨b4, 0, none⟩) 15 15), (59, Qb 15), (60, Qb 11), (61, .bool true)] fun a hs => ?_))))
 refine Qc (Qd (Qgb hs (Qg ?_)))
 obtain ⟨y23, hx12, hk⟩ := bindE hk
 obtain ⟨J12, hJ12⟩ := mkJ fun a w => ∃ (x19 x20 : Int) (x21 : List Int) (x22 : Bool) (x23 : Int) (p9 : Option Addr) (c9 : Nat), Qe0 x4 x1 x5 x6 x7 x11 x8 x9 x14 x10 x13 x12 x15 x16 x17 x18 x19 x20 x21 x22 x23 = some r ∧ Sees a 74 [(2, (pt b2 0)), (3, Qb x4), (6, (pt b3 0)), (58, .slice (some ⟨b4, 0, none⟩) 15 15), (59, Qb 15), (60, Qb 11)] ∧ St g w [k14 b4 b1 b3 b1 b3 b1 b3 b1 b3 b1 b3 b1 b3 b1 b3 b1 b3 b1 b3 b1 b3 b1 b3 b1 b3 b1 b3 b1 b3 b1 b3, k25 b3 x1.f0 x1.f1 x1.f2 x5 x6 x7 x11 x8 x9 x14 x10 x13 x12 x15 x16 x17 x18 x19 x20 p9 x21 c9 x22 x23, k12 b2, k10 b1 x1.f0 x1.f1 x1.f2 x1.f3 x1.f4 x1.f5 x1.f6 x1.f7 x1.f8 x1.f9 x1.f10 x1.f11 x1.f12 x1.f13.f0 x1.f13.f1 x1.f13.f2 x1.f13.f3 x1.f14.f0 x1.f14.f1 p1 x1.f14.f2 c1 x1.f14.f3 x1.f14.f4 p2 x1.f15 c2 p3 x1.f16 c3 p4 x1.f17 c4, F] ih ∧ RSl e3 ih [] p9 c9 x21
 refine QaG J12 ?_ ?_
 ·refine Ql (Qd (Qa (pu hs 1 fun a hs => ?_)))
  refine Qj hs (hw.at_ 0 rfl) 22 fun a hs => QaN hs hw [Qb 0, .nilFunc] 163 (fun b => (pt b 0)) fun a w b16 hs hw => QE hs hw 0 rfl 0 (v := .agg #[Qb 2048, .func (.func 106) #[] #[(pt b1 0), (pt b3 0)]]) fun a w hs hw => ?_
  have hs := hs.cst (e' := [(2, (pt b2 0)), (3, Qb x4), (6, (pt b3 0)), (58, .slice (some ⟨b4, 0, none⟩) 15 15), (59, Qb 15), (60, Qb 11), (8, (pt b16 0))])
  refine Qc (Qd (Qa (pu hs 2 fun a hs => ?_)))
  refine Qj hs (hw.at_ 0 rfl) 0 fun a hs => pn hs 2 [(2, (pt b2 0)), (3, Qb x4), (6, (pt b3 0)), (58, .slice (some ⟨b4, 0, none⟩) 15 15), (59, Qb 15), (60, Qb 11), (8, (pt b16 0)), (68, .bool ((bAnd .i64 x4 2048) != 0))] fun a hs => ?_
  refine Qc ?_
  rcases ifbE hx12 with ⟨h30, hx12⟩ | ⟨h30, hx12⟩
  ·refine Qr hs h30 ?_
   refine Qa (pu hs 1 fun a hs => ?_)
   refine Qj hs (hw.at_ 0 rfl) 1 fun a hs => ?_
   obtain ⟨y24, h31, hx12⟩ := bindE hx12
   refine Qv hs (Qh2 (x1 := x1.f0) (x2 := x1.f1) (x3 := x1.f2) (x4 := x1.f3) (x5 := x1.f4) (x6 := x1.f5) (x7 := x1.f6) (x8 := x1.f7) (x9 := x1.f8) (x10 := x1.f9) (x11 := x1.f10) (x12 := x1.f11) (x13 := x1.f12) (x14 := x1.f13.f0) (x15 := x1.f13.f1) (x16 := x1.f13.f2) (x17 := x1.f13.f3) (x23 := x1.f15) (x24 := x1.f16) (x25 := x1.f17) (x26 := x1.f0) (x27 := x1.f1) (x28 := x1.f2) (x29 := x5) (x30 := x6) (x31 := x7) (x32 := x11) (x33 := x8) (x34 := x9) (x35 := x14) (x36 := x10) (x37 := x13) (x38 := x12) (x39 := x15) (x40 := x16) (x41 := x17) (x42 := x18) (x43 := 0) (x44 := 0) (x45 := []) (x46 := false) (x47 := 0) (x48 := []) (x49 := []) (x50 := []) h31 h1 h2 h3 h4 (RSl.nil _ _ _) (RSl.nil _ _ _) (RSl.nil _ _ _) (RSl.nil _ _ _) ((hw.pk [4, 2, 1, 3, 5]).pack 2)) fun a w v hv hs => ?_
   obtain ⟨p10, c10, rfl, hw, h32⟩ := hv
   have hw := hw.unpack 2 rfl
   have hw := hw.cL [k10 b1 x1.f0 x1.f1 x1.f2 x1.f3 x1.f4 x1.f5 x1.f6 x1.f7 x1.f8 x1.f9 x1.f10 x1.f11 x1.f12 x1.f13.f0 x1.f13.f1 x1.f13.f2 x1.f13.f3 x1.f14.f0 x1.f14.f1 p1 x1.f14.f2 c1 x1.f14.f3 x1.f14.f4 p2 x1.f15 c2 p3 x1.f16 c3 p4 x1.f17 c4, k25 b3 x1.f0 x1.f1 x1.f2 x5 x6 x7 x11 x8 x9 x14 x10 x13 x12 x15 x16 x17 x18 y24.1 y24.2.1 p10 y24.2.2.1 c10 y24.2.2.2.1 y24.2.2.2.2, k14 b4 b1 b3 b1 b3 b1 b3 b1 b3 b1 b3 b1 b3 b1 b3 b1 b3 b1 b3 b1 b3 b1 b3 b1 b3 b1 b3 b1 b3 b1 b3, k12 b2, F]
   refine Qc ?_
   obtain rfl := someE hx12
   exact (hJ12 _ _).2 ⟨y24.1, y24.2.1, y24.2.2.1, y24.2.2.2.1, y24.2.2.2.2, p10, c10, hk, hs.cst, hw.pk [2, 1, 3, 0, 4], h32⟩
  refine Qs hs h30 (Qg ?_)
  obtain rfl := someE hx12
  exact (hJ12 _ _).2 ⟨0, 0, ([]), false, 0, none, 0, hk, hs.cst, hw.pk [1, 2, 3, 4, 5], (RSl.nil _ _ _)⟩
 intro a w hh
 obtain ⟨x19, x20, x21, x22, x23, p9, c9, hk, hs, hw, h33⟩ := (hJ12 _ _).1 hh
 refine Qa (pn hs 2 [(2, (pt b2 0)), (3, Qb x4), (6, (pt b3 0)), (58, .slice (some ⟨b4, 0, none⟩) 15 15), (59, Qb 15), (60, Qb 12)] fun a hs => ?_)
 refine Qc (QdF (Qd (Qa (pn hs 1 [(2, (pt b2 0)), (3, Qb x4), (6, (pt b3 0)), (58, .slice (some ⟨b4, 0, none⟩) 15 15), (59, Qb 15), (60, Qb 12), (61, .bool true)] fun a hs => ?_))))
 refine Qc (Qd (Qgb hs (Qg ?_)))
 obtain ⟨y25, hx13, hk⟩ := bindE hk
 obtain ⟨J13, hJ13⟩ := mkJ fun a w => ∃ (x24 : List M156) (p11 : Option Addr) (c11 : Nat), Qe1 x4 x1 x5 x6 x7 x11 x8 x9 x14 x10 x13 x12 x15 x16 x17 x18 x19 x20 x21 x22 x23 x24 = some r ∧ Sees a 74 [(2, (pt b2 0)), (3, Qb x4), (6, (pt b3 0)), (58, .slice (some ⟨b4, 0, none⟩) 15 15), (59, Qb 15), (60, Qb 12)] ∧ St g w [k14 b4 b1 b3 b1 b3 b1 b3 b1 b3 b1 b3 b1 b3 b1 b3 b1 b3 b1 b3 b1 b3 b1 b3 b1 b3 b1 b3 b1 b3 b1 b3, k26 b3 x1.f0 x1.f1 x1.f2 x5 x6 x7 x11 x8 x9 x14 x10 x13 x12 x15 x16 x17 x18 x19 x20 p9 x21 c9 x22 x23 p11 x24 c11, k12 b2, k10 b1 x1.f0 x1.f1 x1.f2 x1.f3 x1.f4 x1.f5 x1.f6 x1.f7 x1.f8 x1.f9 x1.f10 x1.f11 x1.f12 x1.f13.f0 x1.f13.f1 x1.f13.f2 x1.f13.f3 x1.f14.f0 x1.f14.f1 p1 x1.f14.f2 c1 x1.f14.f3 x1.f14.f4 p2 x1.f15 c2 p3 x1.f16 c3 p4 x1.f17 c4, F] ih ∧ RSl Qcf ih [] p11 c11 x24
 refine QaG J13 ?_ ?_
 ·refine Ql (Qd (Qa (pu hs 1 fun a hs => ?_)))
  refine Qj hs (hw.at_ 0 rfl) 24 fun a hs => QaN hs hw [Qb 0, .nilFunc] 163 (fun b => (pt b 0)) fun a w b17 hs hw => QE hs hw 0 rfl 0 (v := .agg #[Qb 4096, .func (.func 107) #[] #[(pt b1 0), (pt b3 0)]]) fun a w hs hw => ?_
  have hs := hs.cst (e' := [(2, (pt b2 0)), (3, Qb x4), (6, (pt b3 0)), (58, .slice (some ⟨b4, 0, none⟩) 15 15), (59, Qb 15), (60, Qb 12), (8, (pt b17 0))])
  refine Qc (Qd (Qa (pu hs 2 fun a hs => ?_)))
  refine Qj hs (hw.at_ 0 rfl) 0 fun a hs => pn hs 2 [(2, (pt b2 0)), (3, Qb x4), (6, (pt b3 0)), (58, .slice (some ⟨b4, 0, none⟩) 15 15), (59, Qb 15), (60, Qb 12), (8, (pt b17 0)), (68, .bool ((bAnd .i64 x4 4096) != 0))] fun a hs => ?_
  refine Qc ?_
  rcases ifbE hx13 with ⟨h34, hx13⟩ | ⟨h34, hx13⟩
  ·refine Qr hs h34 ?_
   refine Qa (pu hs 1 fun a hs => ?_)
   refine Qj hs (hw.at_ 0 rfl) 1 fun a hs => ?_
   obtain ⟨y26, h35, hx13⟩ := bindE hx13
   refine Qv hs (Qh1 (x1 := x1.f0) (x2 := x1.f1) (x3 := x1.f2) (x4 := x1.f3) (x5 := x1.f4) (x6 := x1.f5) (x7 := x1.f6) (x8 := x1.f7) (x9 := x1.f8) (x10 := x1.f9) (x11 := x1.f10) (x12 := x1.f11) (x13 := x1.f12) (x14 := x1.f13.f0) (x15 := x1.f13.f1) (x16 := x1.f13.f2) (x17 := x1.f13.f3) (x18 := x1.f14.f0) (x19 := x1.f14.f1) (x20 := x1.f14.f2) (x21 := x1.f14.f3) (x22 := x1.f14.f4) (x24 := x1.f16) (x25 := x1.f17) (x26 := x1.f0) (x27 := x1.f1) (x28 := x1.f2) (x29 := x5) (x30 := x6) (x31 := x7) (x32 := x11) (x33 := x8) (x34 := x9) (x35 := x14) (x36 := x10) (x37 := x13) (x38 := x12) (x39 := x15) (x40 := x16) (x41 := x17) (x42 := x18) (x43 := x19) (x44 := x20) (x45 := x21) (x46 := x22) (x47 := x23) (x48 := []) (x49 := []) (x50 := []) h35 h1 h2 h3 h4 h33 (RSl.nil _ _ _) (RSl.nil _ _ _) (RSl.nil _ _ _) ((hw.pk [4, 2, 1, 3, 5]).pack 2)) fun a w v hv hs => ?_
   obtain ⟨p12, c12, rfl, hw, h36⟩ := hv
   have hw := hw.unpack 2 rfl
   have hw := hw.cL [k10 b1 x1.f0 x1.f1 x1.f2 x1.f3 x1.f4 x1.f5 x1.f6 x1.f7 x1.f8 x1.f9 x1.f10 x1.f11 x1.f12 x1.f13.f0 x1.f13.f1 x1.f13.f2 x1.f13.f3 x1.f14.f0 x1.f14.f1 p1 x1.f14.f2 c1 x1.f14.f3 x1.f14.f4 p2 x1.f15 c2 p3 x1.f16 c3 p4 x1.f17 c4, k26 b3 x1.f0 x1.f1 x1.f2 x5 x6 x7 x11 x8 x9 x14 x10 x13 x12 x15 x16 x17 x18 x19 x20 p9 x21 c9 x22 x23 p12 y26 c12, k14 b4 b1 b3 b1 b3 b1 b3 b1 b3 b1 b3 b1 b3 b1 b3 b1 b3 b1 b3 b1 b3 b1 b3 b1 b3 b1 b3 b1 b3 b1 b3, k12 b2, F]
   refine Qc ?_
   obtain rfl := someE hx13
   exact (hJ13 _ _).2 ⟨y26, p12, c12, hk, hs.cst, hw.pk [2, 1, 3, 0, 4], h36⟩
  refine Qs hs h34 (Qg ?_)
  obtain rfl := someE hx13
  exact (hJ13 _ _).2 ⟨([]), none, 0, hk, hs.cst, hw.pk [1, 2, 3, 4, 5], (RSl.nil _ _ _)⟩
 intro a w hh
 obtain ⟨x24, p11, c11, hk, hs, hw, h37⟩ := (hJ13 _ _).1 hh
 refine Qa (pn hs 2 [(2, (pt b2 0)), (3, Qb x4), (6, (pt b3 0)), (58, .slice (some ⟨b4, 0, none⟩) 15 15), (59, Qb 15), (60, Qb 13)] fun a hs => ?_)
 refine Qc (QdF (Qd (Qa (pn hs 1 [(2, (pt b2 0)), (3, Qb x4), (6, (pt b3 0)), (58, .slice (some ⟨b4, 0, none⟩) 15 15), (59, Qb 15), (60, Qb 13), (61, .bool true)] fun a hs => ?_))))
 refine Qc (Qd (Qgb hs (Qg ?_)))
 obtain ⟨y27, hx14, hk⟩ := bindE hk
 obtain ⟨J14, hJ14⟩ := mkJ fun a w => ∃ (x25 : List M96) (p13 : Option Addr) (c13 : Nat), Qe2 x4 x1 x5 x6 x7 x11 x8 x9 x14 x10 x13 x12 x15 x16 x17 x18 x19 x20 x21 x22 x23 x24 x25 = some r ∧ Sees a 74 [(2, (pt b2 0)), (3, Qb x4), (6, (pt b3 0)), (58, .slice (some ⟨b4, 0, none⟩) 15 15), (59, Qb 15), (60, Qb 13)] ∧ St g w [k14 b4 b1 b3 b1 b3 b1 b3 b1 b3 b1 b3 b1 b3 b1 b3 b1 b3 b1 b3 b1 b3 b1 b3 b1 b3 b1 b3 b1 b3 b1 b3, k27 b3 x1.f0 x1.f1 x1.f2 x5 x6 x7 x11 x8 x9 x14 x10 x13 x12 x15 x16 x17 x18 x19 x20 p9 x21 c9 x22 x23 p11 x24 c11 p13 x25 c13, k12 b2, k10 b1 x1.f0 x1.f1 x1.f2 x1.f3 x1.f4 x1.f5 x1.f6 x1.f7 x1.f8 x1.f9 x1.f10 x1.f11 x1.f12 x1.f13.f0 x1.f13.f1 x1.f13.f2 x1.f13.f3 x1.f14.f0 x1.f14.f1 p1 x1.f14.f2 c1 x1.f14.f3 x1.f14.f4 p2 x1.f15 c2 p3 x1.f16 c3 p4 x1.f17 c4, F] ih ∧ RSl e96 ih [] p13 c13 x25
 refine QaG J14 ?_ ?_
 ·refine Ql (Qd (Qa (pu hs 1 fun a hs => ?_)))
  refine Qj hs (hw.at_ 0 rfl) 26 fun a hs => QaN hs hw [Qb 0, .nilFunc] 163 (fun b => (pt b 0)) fun a w b18 hs hw => QE hs hw 0 rfl 0 (v := .agg #[Qb 8192, .func (.func 108) #[] #[(pt b1 0), (pt b3 0)]]) fun a w hs hw => ?_
  have hs := hs.cst (e' := [(2, (pt b2 0)), (3, Qb x4), (6, (pt b3 0)), (58, .slice (some ⟨b4, 0, none⟩) 15 15), (59, Qb 15), (60, Qb 13), (8, (pt b18 0))])
  refine Qc (Qd (Qa (pu hs 2 fun a hs => ?_)))
  refine Qj hs (hw.at_ 0 rfl) 0 fun a hs => pn hs 2 [(2, (pt b2 0)), (3, Qb x4), (6, (pt b3 0)), (58, .slice (some ⟨b4, 0, none⟩) 15 15), (59, Qb 15), (60, Qb 13), (8, (pt b18 0)), (68, .bool ((bAnd .i64 x4 8192) != 0))] fun a hs => ?_
  refine Qc ?_
  rcases ifbE hx14 with ⟨h38, hx14⟩ | ⟨h38, hx14⟩
  ·refine Qr hs h38 ?_
   refine Qa (pu hs 1 fun a hs => ?_)
   refine Qj hs (hw.at_ 0 rfl) 1 fun a hs => ?_
   obtain ⟨y28, h39, hx14⟩ := bindE hx14
   refine Qv hs (Qh0 (x1 := x1.f0) (x2 := x1.f1) (x3 := x1.f2) (x4 := x1.f3) (x5 := x1.f4) (x6 := x1.f5) (x7 := x1.f6) (x8 := x1.f7) (x9 := x1.f8) (x10 := x1.f9) (x11 := x1.f10) (x12 := x1.f11) (x13 := x1.f12) (x14 := x1.f13.f0) (x15 := x1.f13.f1) (x16 := x1.f13.f2) (x17 := x1.f13.f3) (x18 := x1.f14.f0) (x19 := x1.f14.f1) (x20 := x1.f14.f2) (x21 := x1.f14.f3) (x22 := x1.f14.f4) (x23 := x1.f15) (x25 := x1.f17) (x26 := x1.f0) (x27 := x1.f1) (x28 := x1.f2) (x29 := x5) (x30 := x6) (x31 := x7) (x32 := x11) (x33 := x8) (x34 := x9) (x35 := x14) (x36 := x10) (x37 := x13) (x38 := x12) (x39 := x15) (x40 := x16) (x41 := x17) (x42 := x18) (x43 := x19) (x44 := x20) (x45 := x21) (x46 := x22) (x47 := x23) (x48 := x24) (x49 := []) (x50 := []) h39 h1 h2 h3 h4 h33 h37 (RSl.nil _ _ _) (RSl.nil _ _ _) ((hw.pk [4, 2, 1, 3, 5]).pack 2)) fun a w v hv hs => ?_
   obtain ⟨p14, c14, rfl, hw, h40⟩ := hv
   have hw := hw.unpack 2 rfl
   have hw := hw.cL [k10 b1 x1.f0 x1.f1 x1.f2 x1.f3 x1.f4 x1.f5 x1.f6 x1.f7 x1.f8 x1.f9 x1.f10 x1.f11 x1.f12 x1.f13.f0 x1.f13.f1 x1.f13.f2 x1.f13.f3 x1.f14.f0 x1.f14.f1 p1 x1.f14.f2 c1 x1.f14.f3 x1.f14.f4 p2 x1.f15 c2 p3 x1.f16 c3 p4 x1.f17 c4, k27 b3 x1.f0 x1.f1 x1.f2 x5 x6 x7 x11 x8 x9 x14 x10 x13 x12 x15 x16 x17 x18 x19 x20 p9 x21 c9 x22 x23 p11 x24 c11 p14 y28 c14, k14 b4 b1 b3 b1 b3 b1 b3 b1 b3 b1 b3 b1 b3 b1 b3 b1 b3 b1 b3 b1 b3 b1 b3 b1 b3 b1 b3 b1 b3 b1 b3, k12 b2, F]
   refine Qc ?_
   obtain rfl := someE hx14
   exact (hJ14 _ _).2 ⟨y28, p14, c14, hk, hs.cst, hw.pk [2, 1, 3, 0, 4], h40⟩
  refine Qs hs h38 (Qg ?_)
  obtain rfl := someE hx14
  exact (hJ14 _ _).2 ⟨([]), none, 0, hk, hs.cst, hw.pk [1, 2, 3, 4, 5], (RSl.nil _ _ _)⟩
 intro a w hh
 obtain ⟨x25, p13, c13, hk, hs, hw, h41⟩ := (hJ14 _ _).1 hh
 refine Qa (pn hs 2 [(2, (pt b2 0)), (3, Qb x4), (6, (pt b3 0)), (58, .slice (some ⟨b4, 0, none⟩) 15 15), (59, Qb 15), (60, Qb 14)] fun a hs => ?_)
 refine Qc (QdF (Qd (Qa (pn hs 1 [(2, (pt b2 0)), (3, Qb x4), (6, (pt b3 0)), (58, .slice (some ⟨b4, 0, none⟩) 15 15), (59, Qb 15), (60, Qb 14), (61, .bool true)] fun a hs => ?_))))
 refine Qc (Qd (Qgb hs (Qg ?_)))
 obtain ⟨y29, hx15, hk⟩ := bindE hk
 obtain ⟨J15, hJ15⟩ := mkJ fun a w => ∃ (x26 : List Int) (p15 : Option Addr) (c15 : Nat), Qe3 x1 x5 x6 x7 x11 x8 x9 x14 x10 x13 x12 x15 x16 x17 x18 x19 x20 x21 x22 x23 x24 x25 x26 = some r ∧ Sees a 74 [(2, (pt b2 0)), (3, Qb x4), (6, (pt b3 0)), (58, .slice (some ⟨b4, 0, none⟩) 15 15), (59, Qb 15), (60, Qb 14)] ∧ St g w [k14 b4 b1 b3 b1 b3 b1 b3 b1 b3 b1 b3 b1 b3 b1 b3 b1 b3 b1 b3 b1 b3 b1 b3 b1 b3 b1 b3 b1 b3 b1 b3, k10 b3 x1.f0 x1.f1 x1.f2 x5 x6 x7 x11 x8 x9 x14 x10 x13 x12 x15 x16 x17 x18 x19 x20 p9 x21 c9 x22 x23 p11 x24 c11 p13 x25 c13 p15 x26 c15, k12 b2, k10 b1 x1.f0 x1.f1 x1.f2 x1.f3 x1.f4 x1.f5 x1.f6 x1.f7 x1.f8 x1.f9 x1.f10 x1.f11 x1.f12 x1.f13.f0 x1.f13.f1 x1.f13.f2 x1.f13.f3 x1.f14.f0 x1.f14.f1 p1 x1.f14.f2 c1 x1.f14.f3 x1.f14.f4 p2 x1.f15 c2 p3 x1.f16 c3 p4 x1.f17 c4, F] ih ∧ RSl e5 ih [] p15 c15 x26
 refine QaG J15 ?_ ?_
 ·refine Ql (Qd (Qa (pu hs 1 fun a hs => ?_)))
  refine Qj hs (hw.at_ 0 rfl) 28 fun a hs => QaN hs hw [Qb 0, .nilFunc] 163 (fun b => (pt b 0)) fun a w b19 hs hw => QE hs hw 0 rfl 0 (v := .agg #[Qb 16384, .func (.func 109) #[] #[(pt b1 0), (pt b3 0)]]) fun a w hs hw => ?_
  have hs := hs.cst (e' := [(2, (pt b2 0)), (3, Qb x4), (6, (pt b3 0)), (58, .slice (some ⟨b4, 0, none⟩) 15 15), (59, Qb 15), (60, Qb 14), (8, (pt b19 0))])
  refine Qc (Qd (Qa (pu hs 2 fun a hs => ?_)))
  refine Qj hs (hw.at_ 0 rfl) 0 fun a hs => pn hs 2 [(2, (pt b2 0)), (3, Qb x4), (6, (pt b3 0)), (58, .slice (some ⟨b4, 0, none⟩) 15 15), (59, Qb 15), (60, Qb 14), (8, (pt b19 0)), (68, .bool ((bAnd .i64 x4 16384) != 0))] fun a hs => ?_
  refine Qc ?_
  rcases ifbE hx15 with ⟨h42, hx15⟩ | ⟨h42, hx15⟩
  ·refine Qr hs h42 ?_
   refine Qa (pu hs 1 fun a hs => ?_)
   refine Qj hs (hw.at_ 0 rfl) 1 fun a hs => ?_
   obtain ⟨y30, h43, hx15⟩ := bindE hx15
   refine Qv hs (QhZ (x1 := x1.f0) (x2 := x1.f1) (x3 := x1.f2) (x4 := x1.f3) (x5 := x1.f4) (x6 := x1.f5) (x7 := x1.f6) (x8 := x1.f7) (x9 := x1.f8) (x10 := x1.f9) (x11 := x1.f10) (x12 := x1.f11) (x13 := x1.f12) (x14 := x1.f13.f0) (x15 := x1.f13.f1) (x16 := x1.f13.f2) (x17 := x1.f13.f3) (x18 := x1.f14.f0) (x19 := x1.f14.f1) (x20 := x1.f14.f2) (x21 := x1.f14.f3) (x22 := x1.f14.f4) (x23 := x1.f15) (x24 := x1.f16) (x26 := x1.f0) (x27 := x1.f1) (x28 := x1.f2) (x29 := x5) (x30 := x6) (x31 := x7) (x32 := x11) (x33 := x8) (x34 := x9) (x35 := x14) (x36 := x10) (x37 := x13) (x38 := x12) (x39 := x15) (x40 := x16) (x41 := x17) (x42 := x18) (x43 := x19) (x44 := x20) (x45 := x21) (x46 := x22) (x47 := x23) (x48 := x24) (x49 := x25) (x50 := []) h43 h1 h2 h3 h4 h33 h37 h41 (RSl.nil _ _ _) ((hw.pk [4, 2, 1, 3, 5]).pack 2)) fun a w v hv hs => ?_
   obtain ⟨p16, c16, rfl, hw, h44⟩ := hv
   have hw := hw.unpack 2 rfl
   have hw := hw.cL [k10 b1 x1.f0 x1.f1 x1.f2 x1.f3 x1.f4 x1.f5 x1.f6 x1.f7 x1.f8 x1.f9 x1.f10 x1.f11 x1.f12 x1.f13.f0 x1.f13.f1 x1.f13.f2 x1.f13.f3 x1.f14.f0 x1.f14.f1 p1 x1.f14.f2 c1 x1.f14.f3 x1.f14.f4 p2 x1.f15 c2 p3 x1.f16 c3 p4 x1.f17 c4, k10 b3 x1.f0 x1.f1 x1.f2 x5 x6 x7 x11 x8 x9 x14 x10 x13 x12 x15 x16 x17 x18 x19 x20 p9 x21 c9 x22 x23 p11 x24 c11 p13 x25 c13 p16 y30 c16, k14 b4 b1 b3 b1 b3 b1 b3 b1 b3 b1 b3 b1 b3 b1 b3 b1 b3 b1 b3 b1 b3 b1 b3 b1 b3 b1 b3 b1 b3 b1 b3, k12 b2, F]
   refine Qc ?_
   obtain rfl := someE hx15
   exact (hJ15 _ _).2 ⟨y30, p16, c16, hk, hs.cst, hw.pk [2, 1, 3, 0, 4], h44⟩
  refine Qs hs h42 (Qg ?_)
  obtain rfl := someE hx15
  exact (hJ15 _ _).2 ⟨([]), none, 0, hk, hs.cst, hw.pk [1, 2, 3, 4, 5], (RSl.nil _ _ _)⟩
 intro a w hh
 obtain ⟨x26, p15, c15, hk, hs, hw, h45⟩ := (hJ15 _ _).1 hh
 refine Qa (pn hs 2 [(2, (pt b2 0)), (3, Qb x4), (6, (pt b3 0)), (58, .slice (some ⟨b4, 0, none⟩) 15 15), (59, Qb 15), (60, Qb 15)] fun a hs => ?_)
 refine Qc (QdF (Qd (Qa (pn hs 1 [(2, (pt b2 0)), (3, Qb x4), (6, (pt b3 0)), (58, .slice (some ⟨b4, 0, none⟩) 15 15), (59, Qb 15), (60, Qb 15), (61, .bool false)] fun a hs => ?_))))
 refine Qc (Qd (QhJ hs (Qa3 ?_)))
 refine Qd (Qa (Qj hs (hw.at_ 1 rfl) 0 fun a hs => ?_))
 refine QE hs hw 2 rfl 0 (v := .agg #[Qb x1.f0, Qb x1.f1, Qb x1.f2, Qb x5, Qe x6, Qe x7, Qe x11, Qe x8, Qe x9, Qe x14, Qb x10, Qk x13, Qb x12, Qb x15, Qb x16, Qe x17, Qb x18, Qb x19, Qe x20, .slice p9 x21.length c9, .bool x22, Qb x23, .slice p11 x24.length c11, .slice p13 x25.length c13, .slice p15 x26.length c15]) fun a w hs hw => ?_
 have hs := hs.cst (e' := [(2, (pt b2 0))])
 refine Qc (Qi ?_)
 obtain rfl := someE hk
 refine hQ _ _ (QaU hs rfl (hw.at_ 2 rfl) (by kernel_rfl) (v := .agg #[Qb x1.f0, Qb x1.f1, Qb x1.f2, Qb x5, Qe x6, Qe x7, Qe x11, Qe x8, Qe x9, Qe x14, Qb x10, Qk x13, Qb x12, Qb x15, Qb x16, Qe x17, Qb x18, Qb x19, Qe x20, .slice p9 x21.length c9, .bool x22, Qb x23, .slice p11 x24.length c11, .slice p13 x25.length c13, .slice p15 x26.length c15]) (by kernel_rfl) ⟨p9, c9, p11, c11, p13, c13, p15, c15, rfl, hw.pk [4], h33, h37, h41, h45⟩)
end Go.Proofs.YteiinkhbgpldeaaGreatDoor.Sx
